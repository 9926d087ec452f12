/-
  Part of a proof: Go functions read by values, trees of functions, their contracts.
-/
import Derived.Test.YtfdpbglppfohhaaGreatDoorP4
set_option linter.unusedVariables false
set_option linter.unusedSimpArgs false
open And renaming intro→aE
open Bool renaming and_eq_true→ap,eq_iff_iff→cz,or_eq_false_iff→cw,or_eq_true→bp,true_and→bQ
open Int renaming cast_ofNat_Int→dh,ofNat_eq_natCast→cQ,toNat→bE,toNat_natCast→bx
open List renaming all_cons→cY,any_eq_true→cj,append_assoc→aU,append_nil→cA,cons_append→aZ,drop_eq_getElem_cons→aN,drop_eq_nil_of_le→bN,drop_zero→a6,eq_nil_of_length_eq_zero→bT,getD_cons_zero→bh,getD_eq_getElem?_getD→aa,getElem?_eq_getElem→be,getElem_mem→bD,headD_cons→aP,length_append→ax,length_cons→aB,length_drop→cr,length_nil→aJ,map_cons→bM,mem_append→aI,mem_append_left→ay,mem_cons→aF,mem_cons_of_mem→ak,mem_cons_self→aj,mem_map→cd,mem_singleton→aL,nil_append→aM,tail_cons→bF,takeWhile_append_dropWhile→cb
open Nat renaming beq→aG,le_add_right→dm,le_refl→aq,mul_add→cR,mul_one→dF,zero_add→aT
open Option renaming bind_eq_some_iff→bn,isSome_iff_exists→cm,isSome_none→bB,map_some→ck
open UInt8 renaming ofNat→ba,toNat_inj→dQ
namespace Go.Proofs.Trees
open Go Go.VL
def Ty.av:Ty->AV
 | .zero=>.ptr [.v (.int .u8 48),.v (.string (mk [])),.v (.int .i64 0),.v (.pointer none),.v (.pointer none)]
 | .one=>.ptr [.v (.int .u8 49),.v (.string (mk [])),.v (.int .i64 0),.v (.pointer none),.v (.pointer none)]
 | .name s=>.ptr [.v (.int .u8 110),.v (.string (mk s)),.v (.int .i64 0),.v (.pointer none),.v (.pointer none)]
 | .bO up=>.ptr [.v (.int .u8 98),.v (.string (mk [])),.v (.int .i64 (up:Int)),.v (.pointer none),.v (.pointer none)]
 | .plus a b=>.ptr [.v (.int .u8 43),.v (.string (mk [])),.v (.int .i64 0),a.av,b.av]
 | .times a b=>.ptr [.v (.int .u8 42),.v (.string (mk [])),.v (.int .i64 0),a.av,b.av]
 | .rc a=>.ptr [.v (.int .u8 114),.v (.string (mk [])),.v (.int .i64 0),a.av,.v (.pointer none)]
theorem aC(t:Ty):LK.has .ptr t.av=True:=by cases t<;>simp[Ty.av,bY]
theorem fI(t:Ty):t.av.isNil=false:=by cases t<;>rfl
def gZ:Option Ty->AV
 |some t=>t.av
 |none=>.v (.pointer none)
theorem hG(t:Option Ty):LK.has .ptr (gZ t)=True:=by cases t<;>simp[gZ,aC,iT]
def E.at:E->List UInt8
 | .atom s=>s
 | .list _=>[]
def bI(s:List UInt8)(ar:List (List UInt8)):Nat->Option Nat
 |0=>none
 |i+1=>if ar.getD i []=s then some (ar.length-1-i)else bI s ar i
def cP:E->List (List UInt8)->Option Ty
 | .atom s,ar=>if s=[48]then some .zero else if s=[49]then some .one else if gJ s=true then some (.name s)else if dc s=true then(match bI s ar ar.length with|some u=>some (.bO u)|none=>some (.name s))else none
 |
  .list [x,a,b],ar =>
  if x.at=[43]then(match cP a ar,cP b ar with|some t,some u=>some (.plus t u)|_,_=>none)
  else if x.at=[42]then(match cP a ar,cP b ar with|some t,some u=>some (.times t u)|_,_=>none)
  else if x.at=[114,101,99]then(if dc a.at=true then(match cP b (ar++[a.at])with|some t=>some (.rc t)|none=>none)else none)
  else none
 | .list _,_=>none
def bo(l:List (List UInt8)):List (List AV):=l.map fun s=>[.v (.string (mk s))]
def cv(a:AV)(l:List (List UInt8)):Prop:=LK.sl.has a/\a.aQ=bo l
theorem cv.len{a:AV}{l:List (List UInt8)}(h:cv a l):a.aQ.length=l.length:=by rw[h.2];simp[bo]
theorem cv.idx{a:AV}{l:List (List UInt8)}(h:cv a l){i:Nat}(hi:i<l.length):a.aQ.getD i []=[.v (.string (mk (l.getD i [])))]:=by
 rw[h.2];simp[bo,aa,hi]
theorem cv.of(l:List (List UInt8)):cv (.sl (bo l)) l:=⟨(ca _).mpr trivial,rfl⟩
theorem cv.nil:cv (.v (.slice none 0 0)) []:=⟨(bw).mpr trivial,rfl⟩
theorem xJ(e:E)(w:List UInt8):an Tryz.prog 162 [e.cB,.v (.string (mk w)),.v (.int .i64 3)] [] (bA (.v (.bool (match e with| .list [x,_,_]=>x.at==w|_=>false)))):=by
 refine Mv _ _ _ ((cS e).mpr trivial) ?_
 cases e with
 |atom s=>simp only[AY,E.cB,↓zq,zs,ac,zt,bA];exact⟨by omega,fun h=>by omega,fun _=>trivial⟩
 |
  list l =>
  simp only[AY,E.cB,↓zq,zs,ac,zt,bA,qM]
  match l with
  |[]=>exact⟨by simp,fun h=>by simp at h,fun _=>rfl⟩
  |[_]=>exact⟨by simp,fun h=>by simp at h,fun _=>rfl⟩
  |[_,_]=>exact⟨by simp,fun h=>by simp at h,fun _=>rfl⟩
  |
   [x,y,z] =>
   refine⟨by simp,fun _=>?_,fun h=>by simp at h⟩
   cases x<;>simp[E.lX,E.cB,bY,oW,jA,ej,tO,toList_mk,E.at]
  |_::_::_::_::l=>exact⟨by simp,fun h=>by simp at h;omega,fun _=>rfl⟩
theorem NC(e:E)(a:AV)(ar:List (List UInt8))(ha:cv a ar)(hl:ar.length<1000000):∀(i:Nat),i<=ar.length->Ef [e.cB,a,.v (.int .i64 ((i:Int)-1))] []
 (nr (match bI e.at ar i with|some u=>(2,[],[.cells [.v (.int .u8 98),.v (.string (mk [])),.v (.int .i64 (u:Int)),.v (.pointer none),.v (.pointer none)]])|none=>(1,[e.cB],[])))
 |
  0,hi=>by
  refine LU _ _ _ ?_
  simp only[EH,↓zq,zs,ac,cS]
  exact⟨ha.1,fun h=>by omega,fun _=>rfl⟩
 |
  i+1,hi=>by
  have hlt:i<ar.length:=by omega
  have e1:((i+1:Nat):Int)-1=(i:Int):=by omega
  rw[e1]
  refine LU _ _ _ ?_
  have hd:e.cB.deref.headD .any=.v (.string (mk e.at)):=by cases e<;>rfl
  have hdl:1<=e.cB.deref.length:=by cases e<;>simp[E.cB,jA]
  simp only[EH,↓zq,zs,ac,zt,cS,eh,ha.len,ha.idx hlt,hd,qz]
  refine⟨ha.1,fun _=>⟨⟨ha.1,by omega,by omega⟩,by omega,hdl,fun h=>⟨ha.1,?_⟩,fun h=>?_⟩,fun h=>by omega⟩
  ·simp only[bI,h,if_true,nr]
   rw[wrap64 ((ar.length:Int)-1) (by omega) (by omega),wrap64 _ (by omega) (by omega)]
   have:(ar.length:Int)-1-(i:Int)=((ar.length-1-i:Nat):Int):=by omega
   rw[this]
  ·simp only[bI,h,if_false]
   rw[wrap64 _ (by omega) (by omega)]
   exact NC e a ar ha hl i (by omega)
end Go.Proofs.Trees
namespace Go.Proofs.Trees
open Go Go.VL
theorem ni(e:E):e.cB.deref.headD .any=.v (.string (mk e.at)):=by cases e<;>rfl
theorem kV(e:E):1<=e.cB.deref.length:=by cases e<;>simp[E.cB,jA]
theorem toNat_one:bE 1=1:=rfl
theorem bi:bE 2=2:=rfl
theorem yo{ar:List (List UInt8)}(s:List UInt8):bo ar++[[.v (.string (mk s))]]=bo (ar++[s]):=by simp[bo]
theorem kf(ar:List (List UInt8)):cD 1 (bo ar):=fun c hc=>by
 obtain⟨s,_,rfl⟩:=cd.1 hc;rfl
theorem kN{x a b:E}(ar:List (List UInt8))(hx:x.at=[43]):cP (.list [x,a,b]) ar=match cP a ar,cP b ar with|some t,some u=>some (.plus t u)|_,_=>none:=by rw[cP,if_pos hx]<;>cases cP a ar<;>cases cP b ar<;>rfl
theorem jT{x a b:E}(ar:List (List UInt8))(hx:x.at=[42]):cP (.list [x,a,b]) ar=match cP a ar,cP b ar with|some t,some u=>some (.times t u)|_,_=>none:=by rw[cP,if_neg (by rw[hx];decide),if_pos hx]<;>cases cP a ar<;>cases cP b ar<;>rfl
theorem l8{x a b:E}(ar:List (List UInt8))(hx:x.at=[114,101,99]):cP (.list [x,a,b]) ar=if dc a.at=true then(match cP b (ar++[a.at])with|some t=>some (.rc t)|none=>none)else none:=by rw[cP,if_neg (by rw[hx];decide),if_neg (by rw[hx];decide),if_pos hx]<;>cases cP b (ar++[a.at])<;>rfl
theorem iP{x a b:E}(ar:List (List UInt8))(h1:x.at≠[43])(h2:x.at≠[42])(h3:x.at≠[114,101,99]):cP (.list [x,a,b]) ar=none:=by rw[cP,if_neg h1,if_neg h2,if_neg h3]
theorem Ce:∀(e:E) (ar:List (List UInt8)) (a:AV),e.ok->cv a ar->ar.length+e.sz<100000->an Tryz.prog 144 [e.cB,a] [] (bA (gZ (cP e ar)))
 |
  .atom s,ar,a,hok,ha,hl=>by
  simp only[E.sz]at hl
  refine Ic _ _ ((cS _).mpr trivial) ha.1 ?_
  have hd:=ni (.atom s)
  have hlen:=kV (.atom s)
  simp only[E.at]at hd
  simp only[Hq,↓zq,zs,ac,zt,bA,cS,eh,hd,cP]
  refine⟨hlen,fun h=>⟨hlen,?_,?_⟩,fun h=>⟨hlen,fun h1=>⟨hlen,?_,?_⟩,fun h1=>⟨hlen,?_⟩⟩⟩
  ·rw[h];decide
  ·rw[if_pos h,h];rfl
  ·rw[h1];decide
  ·rw[if_neg h,if_pos h1,h1];rfl
  ·rw[if_neg h,if_neg h1]
   refine ah (LN s) ?_
   simp only[↓zq,zs,ac]
   refine⟨fun hp=>⟨hlen,?_⟩,fun hp=>⟨hlen,?_⟩⟩
   ·rw[if_pos hp];rfl
   ·rw[if_neg (by rw[hp];simp)]
    refine ah (CO s) ?_
    simp only[↓zq,zs,ac,ha.len]
    refine⟨fun hq=>⟨ha.1,?_⟩,fun hq=>?_⟩
    ·rw[if_pos hq,wrap64 _ (by omega) (by omega)]
     refine eX (NC (.atom s) a ar ha (by omega) ar.length (by omega)) (fun ys o e=>?_) (fun ys o e=>?_)
     ·simp only[E.at]at e
      cases hq2:bI s ar ar.length<;>rw[hq2]at e<;>cases e
      simp only[↓zq,zs,ac,zt,cS,eh,hd]
      exact⟨hlen,rfl⟩
     ·simp only[E.at]at e
      cases hq2:bI s ar ar.length<;>rw[hq2]at e<;>cases e
      simp only[↓zq,zs,ac,zt,LK.has]
      simp[gZ,Ty.av,ac,LK.has]
    ·rw[if_neg (by rw[hq];simp)]
     refine ah (xJ (.atom s) [43]) ?_
     simp only[↓zq,zs,ac]
     refine⟨fun h=>(by simp at h),fun _=>?_⟩
     refine ah (xJ (.atom s) [42]) ?_
     simp only[↓zq,zs,ac]
     refine⟨fun h=>(by simp at h),fun _=>?_⟩
     refine ah (xJ (.atom s) [114,101,99]) ?_
     simp only[↓zq,zs,ac]
     refine⟨fun h=>(by simp at h),fun _=>?_⟩
     trivial
 |
  .list l,ar,a,hok,ha,hl=>by
  simp only[E.sz]at hl
  refine Ic _ _ ((cS _).mpr trivial) ha.1 ?_
  have hd:=ni (.list l)
  have hlen:=kV (.list l)
  simp only[E.at]at hd
  have hp:gJ []=false:=rfl
  have hq:dc []=false:=rfl
  simp only[Hq,↓zq,zs,ac,zt,bA,cS,eh,hd]
  refine⟨hlen,fun h=>(by simp at h),fun h=>⟨hlen,fun h1=>(by simp at h1),fun h1=>⟨hlen,?_⟩⟩⟩
  refine ah (LN []) ?_
  simp only[↓zq,zs,ac,hp]
  refine⟨fun h=>(by simp at h),fun _=>⟨hlen,?_⟩⟩
  refine ah (CO []) ?_
  simp only[↓zq,zs,ac,hq]
  refine⟨fun h=>(by simp at h),fun _=>?_⟩
  refine ah (xJ (.list l) [43]) ?_
  match l,hok,hl with
  |
   [x,y,z],hok,hl =>
   simp only[E.jP]at hl
   obtain⟨ok1,ok2,ok3,_⟩:=hok
   have iy:=Ce y ar a ok2 ha (by omega)
   have iz:=Ce z ar a ok3 ha (by omega)
   have hds:((E.list [x,y,z]).cB.deref.drop 1).headD .any=.sl [[x.cB],[y.cB],[z.cB]]:=rfl
   have hdl:1<=((E.list [x,y,z]).cB.deref.drop 1).length:=by simp[E.cB,jA]
   have hxd:=ni x
   have hxl:=kV x
   have hyd:=ni y
   have hyl:=kV y
   have bin:∀(c:UInt8) (mkT:Ty->Ty->Ty),(∀t u:Ty,(mkT t u).av=.ptr [.v (.int .u8 (c.toNat:Int)),.v (.string (mk [])),.v (.int .i64 0),t.av,u.av])->x.at=[c]->bt (mk x.at) 0=(c.toNat:Int):=fun c _ _ hx=>by
    have:=lR x.at 0 (by rw[hx];simp)
    simp only[cQ,dh]at this
    rw[this,hx];rfl
   simp only[↓zq,zs,ac,zt,hds,hdl,cS,eh,toNat_one,bi,hxd,hyd,qz]
   refine⟨fun hx=>?_,fun hx=>?_⟩
   ·refine⟨by omega,by omega,?_⟩
    refine ah iy ?_
    simp only[↓zq,zs,ac,hG]
    refine⟨by omega,by omega,?_⟩
    refine ah iz ?_
    have hb:=bin 43 Ty.plus (fun _ _=>rfl) hx
    rw[kN ar hx]
    simp only[↓zq,zs,ac,zt,hG]
    cases h1:cP y ar with
    |none=>simp[gZ,jy]
    |
     some t =>
     cases h2:cP z ar with
     |none=>simp[gZ,jy,fI]
     |
      some u =>
      simp only[gZ,fI,hb]
      refine⟨fun h=>(by cases h),fun _=>⟨fun h=>(by cases h),fun _=>⟨by omega,by omega,hxl,⟨by omega,by rw[hx];simp⟩,rfl⟩⟩⟩
   ·refine ah (xJ (.list [x,y,z]) [42]) ?_
    simp only[↓zq,zs,ac,hds,hdl,cS,eh,toNat_one,bi,hxd,hyd,qz]
    refine⟨fun hx2=>?_,fun hx2=>?_⟩
    ·refine⟨by omega,by omega,?_⟩
     refine ah iy ?_
     simp only[↓zq,zs,ac,hG]
     refine⟨by omega,by omega,?_⟩
     refine ah iz ?_
     have hb:=bin 42 Ty.times (fun _ _=>rfl) hx2
     rw[jT ar hx2]
     simp only[↓zq,zs,ac,zt,hG]
     cases h1:cP y ar with
     |none=>simp[gZ,jy]
     |
      some t =>
      cases h2:cP z ar with
      |none=>simp[gZ,jy,fI]
      |
       some u =>
       simp only[gZ,fI,hb]
       refine⟨fun h=>(by cases h),fun _=>⟨fun h=>(by cases h),fun _=>⟨by omega,by omega,hxl,⟨by omega,by rw[hx2];simp⟩,rfl⟩⟩⟩
    ·refine ah (xJ (.list [x,y,z]) [114,101,99]) ?_
     simp only[↓zq,zs,ac,zt,hds,hdl,cS,eh,toNat_one,bi,hxd,hyd,qz]
     refine⟨fun hx3=>⟨by omega,by omega,hyl,?_⟩,fun hx3=>?_⟩
     ·refine ah (CO y.at) ?_
      rw[l8 ar hx3]
      simp only[↓zq,zs,ac]
      have hal:cD 1 a.aQ:=by rw[ha.2];exact kf ar
      have hal1:cD 1 [[AV.v (.string (mk y.at))]]:=fun c hc=>by simp at hc;rw[hc];rfl
      refine⟨fun hlo=>⟨by omega,by omega,⟨ha.1,hal,by rw[ha.len];omega⟩,by omega,by omega,hyl,⟨hal1,by rw[aM,ha.len];omega⟩,?_⟩,fun hlo=>?_⟩
      ·rw[aM,ha.2,yo,if_pos hlo]
       refine ah (Ce z (ar++[y.at]) _ ok3 (.of _) (by simp;omega)) ?_
       simp only[↓zq,zs,ac,hG]
       cases h2:cP z (ar++[y.at])with
       |none=>simp[gZ,jy]
       |
        some u =>
        simp only[gZ,fI]
        refine⟨fun h=>(by cases h),fun _=>rfl⟩
      ·rw[if_neg (by rw[hlo];simp)];rfl
     ·rw[iP ar hx hx2 hx3];rfl
  |
   [],_,_ =>
   simp only[↓zq,zs,ac]
   refine⟨fun h=>(by cases h),fun _=>?_⟩
   refine ah (xJ (.list []) [42]) ?_
   simp only[↓zq,zs,ac]
   refine⟨fun h=>(by cases h),fun _=>?_⟩
   refine ah (xJ (.list []) [114,101,99]) ?_
   simp only[↓zq,zs,ac]
   refine⟨fun h=>(by cases h),fun _=>?_⟩
   rfl
  |
   [x1],_,_ =>
   simp only[↓zq,zs,ac]
   refine⟨fun h=>(by cases h),fun _=>?_⟩
   refine ah (xJ (.list [x1]) [42]) ?_
   simp only[↓zq,zs,ac]
   refine⟨fun h=>(by cases h),fun _=>?_⟩
   refine ah (xJ (.list [x1]) [114,101,99]) ?_
   simp only[↓zq,zs,ac]
   refine⟨fun h=>(by cases h),fun _=>?_⟩
   rfl
  |
   [x1,x2],_,_ =>
   simp only[↓zq,zs,ac]
   refine⟨fun h=>(by cases h),fun _=>?_⟩
   refine ah (xJ (.list [x1,x2]) [42]) ?_
   simp only[↓zq,zs,ac]
   refine⟨fun h=>(by cases h),fun _=>?_⟩
   refine ah (xJ (.list [x1,x2]) [114,101,99]) ?_
   simp only[↓zq,zs,ac]
   refine⟨fun h=>(by cases h),fun _=>?_⟩
   rfl
  |
   x1::x2::x3::x4::l,_,_ =>
   simp only[↓zq,zs,ac]
   refine⟨fun h=>(by cases h),fun _=>?_⟩
   refine ah (xJ (.list (x1::x2::x3::x4::l)) [42]) ?_
   simp only[↓zq,zs,ac]
   refine⟨fun h=>(by cases h),fun _=>?_⟩
   refine ah (xJ (.list (x1::x2::x3::x4::l)) [114,101,99]) ?_
   simp only[↓zq,zs,ac]
   refine⟨fun h=>(by cases h),fun _=>?_⟩
   rfl
end Go.Proofs.Trees
namespace Go.Proofs.Trees
open Go Go.VL
def cW(v:AV)(obs:List Ob):AV->List Ob->Prop:=fun r o=>r=v/\o=obs
theorem aS{P:Program}{n:Nat}{Q:Nat->List AV->List Ob->Prop}{f:Nat}{xs:List AV}{ins:List Ob}{k:AV->List Ob->Tree}{v:AV}{obs:List Ob}(h:an P f xs ins (cW v obs))(hk:eN P n (k v obs) Q):eN P n (.call f xs ins k) Q :=
 ⟨cW v obs,h,⟨v,obs,rfl,rfl⟩,fun r o ⟨h1,h2⟩=>by rw[h1,h2];exact hk⟩
def Ty.az:Ty->Nat
 | .plus a b=>1+a.az+b.az
 | .times a b=>1+a.az+b.az
 | .rc a=>2+a.az
 |_=>1
theorem DL:∀(t:Ty),t.az<1000000->an Tryz.prog 145 [t.av] [] (bA (.v (.int .i64 (t.az:Int))))
 | .zero,h=>by refine vO _ ((aC _).mpr trivial) ?_;simp[DG,Ty.av,↓zq,zs,ac,bA,Ty.az]
 | .one,h=>by refine vO _ ((aC _).mpr trivial) ?_;simp[DG,Ty.av,↓zq,zs,ac,bA,Ty.az]
 | .name s,h=>by refine vO _ ((aC _).mpr trivial) ?_;simp[DG,Ty.av,↓zq,zs,ac,bA,Ty.az]
 | .bO u,h=>by refine vO _ ((aC _).mpr trivial) ?_;simp[DG,Ty.av,↓zq,zs,ac,bA,Ty.az]
 |
  .plus a b,h=>by
  simp only[Ty.az]at h
  refine vO _ ((aC _).mpr trivial) ?_
  simp only[DG,Ty.av,↓zq,zs,ac,aC]
  refine⟨by omega,fun _=>⟨by omega,?_⟩,fun h=>absurd rfl h⟩
  refine ah (DL a (by omega)) ?_
  simp only[↓zq,zs,ac,aC]
  refine⟨by omega,?_⟩
  refine ah (DL b (by omega)) ?_
  simp only[↓zq,zs,ac,bA,Ty.az]
  rw[wrap64 (1+(a.az:Int)) (by omega) (by omega),wrap64 _ (by omega) (by omega)]
  congr 2
 |
  .times a b,h=>by
  simp only[Ty.az]at h
  refine vO _ ((aC _).mpr trivial) ?_
  simp only[DG,Ty.av,↓zq,zs,ac,aC]
  refine⟨by omega,fun h=>by omega,fun _=>⟨fun _=>⟨by omega,?_⟩,fun h=>absurd rfl h⟩⟩
  refine ah (DL a (by omega)) ?_
  simp only[↓zq,zs,ac,aC]
  refine⟨by omega,?_⟩
  refine ah (DL b (by omega)) ?_
  simp only[↓zq,zs,ac,bA,Ty.az]
  rw[wrap64 (1+(a.az:Int)) (by omega) (by omega),wrap64 _ (by omega) (by omega)]
  congr 2
 |
  .rc a,h=>by
  simp only[Ty.az]at h
  refine vO _ ((aC _).mpr trivial) ?_
  simp only[DG,Ty.av,↓zq,zs,ac,aC]
  refine⟨by omega,fun h=>by omega,fun _=>⟨fun h=>by omega,fun _=>⟨fun _=>⟨by omega,?_⟩,fun h=>absurd rfl h⟩⟩⟩
  refine ah (DL a (by omega)) ?_
  simp only[↓zq,zs,ac,bA,Ty.az]
  rw[wrap64 _ (by omega) (by omega)]
  congr 2
theorem iC:∀(e:E) (ar:List (List UInt8)) (t:Ty),cP e ar=some t->t.az<=e.sz
 |
  .atom s,ar,t,h=>by
  simp only[cP]at h
  simp only[E.sz]
  split at h
  ·cases h;simp[Ty.az]
  ·split at h
   ·cases h;simp[Ty.az]
   ·split at h
    ·cases h;simp[Ty.az]
    ·split at h
     ·split at h<;>cases h<;>simp[Ty.az]
     ·cases h
 |
  .list [x,a,b],ar,t,h=>by
  have hs:∀e:E,1<=e.sz:=fun e=>by cases e<;>simp[E.sz];try omega
  have hx:=hs x
  have ha:=hs a
  simp only[E.sz,E.jP]
  by_cases h1:x.at=[43]
  ·rw[kN ar h1]at h
   split at h
   ·rename_i t1 t2 e1 e2
    cases h
    have:=iC a ar t1 e1
    have:=iC b ar t2 e2
    simp only[Ty.az];omega
   ·cases h
  ·by_cases h2:x.at=[42]
   ·rw[jT ar h2]at h
    split at h
    ·rename_i t1 t2 e1 e2
     cases h
     have:=iC a ar t1 e1
     have:=iC b ar t2 e2
     simp only[Ty.az];omega
    ·cases h
   ·by_cases h3:x.at=[114,101,99]
    ·rw[l8 ar h3]at h
     split at h
     ·split at h
      ·rename_i t1 e1
       cases h
       have:=iC b _ t1 e1
       simp only[Ty.az];omega
      ·cases h
     ·cases h
    ·rw[iP ar h1 h2 h3]at h;cases h
 | .list [],_,_,h=>by cases h
 | .list [_],_,_,h=>by cases h
 | .list [_,_],_,_,h=>by cases h
 | .list (_::_::_::_::_),_,_,h=>by cases h
def qg(s:List UInt8):Option Ty:=match p8 s with
 |none=>none
 |
  some e=>match cP e []with
  |none=>none
  |some t=>if t.az>400 then none else some t
theorem FF(s:List UInt8):an Tryz.prog 108 [.v (.string (mk s))] [] (bA (gZ (qg s))):=by
 refine Ox _ ?_
 unfold Jg
 refine ah (Nx s) ?_
 unfold qg
 cases he:p8 s with
 |none=>simp only[tf,↓zq,zs,ac,bA,gZ];simp
 |
  some e =>
  obtain⟨h1,h2⟩:=ny he
  simp only[tf,↓zq,zs,ac,cS,eh]
  refine⟨fun h=>(by cases h),fun _=>?_⟩
  refine ah (Ce e [] _ h1 .nil (by simp;omega)) ?_
  cases ht:cP e []with
  |none=>simp only[gZ,↓zq,zs,ac,bA];simp
  |
   some t =>
   have:=iC e [] t ht
   simp only[gZ,↓zq,zs,ac,aC,fI]
   refine⟨fun h=>(by cases h),fun _=>?_⟩
   refine ah (DL t (by omega)) ?_
   simp only[↓zq,zs,ac,bA]
   refine⟨fun h=>?_,fun h=>?_⟩
   ·rw[if_pos (by omega)]
   ·rw[if_neg (by omega)]
end Go.Proofs.Trees
namespace Go.Proofs.Trees
open Go Go.VL
def BD(p:Prop):Nat->List AV->List Ob->Prop:=fun t ys o=>(t=1/\¬p/\ys=[]/\o=[])\/(t=2/\p/\∃j:Nat,ys=[.v (.int .i64 (j:Int))]/\o=[])
theorem Ie(l:List (List UInt8))(a:AV)(ha:cv a l)(s:List UInt8)(hl:l.length<1000000):∀(k i:Nat),i+k=l.length->s∉l.take i->F9 [a,.v (.string (mk s)),.v (.int .i64 (l.length:Int)),.v (.int .i64 (i:Int))] []
 (BD (s∈l))
 |
  0,i,hi,hn=>by
  refine Nq _ _ _ _ ?_
  simp only[E9,↓zq,zs,ac]
  have:l.take i=l:=List.take_of_length_le (by omega)
  rw[this]at hn
  exact⟨ha.1,fun h=>by omega,fun _=>.inl ⟨rfl,hn,rfl,rfl⟩⟩
 |
  k+1,i,hi,hn=>by
  have hlt:i<l.length:=by omega
  refine Nq _ _ _ _ ?_
  simp only[E9,↓zq,zs,ac,zt,ha.len,ha.idx hlt]
  have hm:l.getD i []∈l:=by simp[aa,hlt]
  refine⟨ha.1,fun _=>⟨⟨ha.1,by omega,by omega⟩,by omega,fun h=>?_,fun h=>?_⟩,fun h=>by omega⟩
  ·exact .inr ⟨rfl,by rw[h];exact hm,i,rfl,rfl⟩
  ·rw[a7 i (by omega)]
   refine Ie l a ha s hl k (i+1) (by omega) ?_
   rw[List.take_add_one]
   simp only[aI,not_or]
   refine⟨hn,?_⟩
   have:l[i]?=some (l.getD i []):=by simp[aa,hlt]
   rw[this];simpa using h
theorem Md(l:List (List UInt8))(a:AV)(ha:cv a l)(s:List UInt8)(hl:l.length<1000000):an Tryz.prog 177 [a,.v (.string (mk s))] [] (bA (.v (.bool (decide (s∈l))))):=by
 have hI:an Tryz.prog 194 [a,.v (.string (mk s))] [] (fun r o=>∃n:Int,r=.v (.int .i64 n)/\(0<=n↔s∈l)/\o=[]):=by
  refine Q9 _ _ ha.1 ?_
  simp only[JO,↓zq,zs,ac,ha.len]
  refine⟨ha.1,kB (Ie l a ha s hl l.length 0 (by omega) (by simp)) ?_ ?_⟩
  ·rintro ys o (⟨_,h1,rfl,rfl⟩|⟨h,_⟩)
   ·simp only[↓zq,zs,ac]
    exact⟨-1,rfl,⟨fun h=>(by omega),fun h=>absurd h h1⟩⟩
   ·cases h
  ·rintro ys o (⟨h,_⟩|⟨_,h1,j,rfl,rfl⟩)
   ·cases h
   ·simp only[↓zq,zs,ac]
    exact⟨j,rfl,⟨fun _=>h1,fun _=>(by omega)⟩⟩
 refine Of _ _ ha.1 ?_
 unfold K1
 refine bU hI ⟨.v (.int .i64 (if s∈l then 0 else -1)),[],_,rfl,by split<;>simp_all,rfl⟩ ?_
 rintro r o ⟨n,rfl,hn,rfl⟩
 simp only[↓zq,zs,ac,bA]
 congr 2
 rw[cz];simp[hn]
def py(out:List (List UInt8)):Ty->List (List UInt8)
 | .name s=>if s∈out then out else out++[s]
 |_=>out
theorem v8(t:Ty)(out:List (List UInt8))(hl:out.length<100000):an Tryz.prog 181 [t.av,.ref 0 0] [.cells [.vec 1],.vec 1 (bo out)] (cW .any [.cells [.vec 1],.vec 1 (bo (py out t))]):=by
 refine PJ _ _ ((aC _).mpr trivial) ?_
 have hlen:(bo out).length=out.length:=by simp[bo]
 cases t with
 |
  name s =>
  simp only[GS,Ty.av,↓zq,zs,ac,cW,hlen]
  refine⟨by omega,fun _=>⟨by omega,?_⟩,fun h=>absurd rfl h⟩
  refine ah (Md out _ (.of out) s (by omega)) ?_
  simp only[↓zq,zs,ac,py]
  refine⟨fun h=>⟨by omega,⟨fun c hc=>(by simp at hc;rw[hc];rfl),by omega⟩,?_⟩,fun h=>?_⟩
  ·rw[yo,if_neg h]
  ·rw[if_pos h]
 |_=>simp[GS,Ty.av,↓zq,zs,ac,cW,py]
def bG:Ty->List (List UInt8)->List (List UInt8)
 | .name s,out=>py out (.name s)
 | .plus a b,out=>bG b (bG a out)
 | .times a b,out=>bG b (bG a out)
 | .rc a,out=>bG a out
 |_,out=>out
theorem ey:∀(t:Ty) (out:List (List UInt8)),(bG t out).length<=out.length+t.az
 | .name s,out=>by simp only[bG,py,Ty.az];split<;>simp
 |
  .plus a b,out=>by
  have:=ey a out
  have:=ey b (bG a out)
  simp only[bG,Ty.az];omega
 |
  .times a b,out=>by
  have:=ey a out
  have:=ey b (bG a out)
  simp only[bG,Ty.az];omega
 |
  .rc a,out=>by
  have:=ey a out
  simp only[bG,Ty.az];omega
 | .zero,out=>by simp[bG]
 | .one,out=>by simp[bG]
 | .bO u,out=>by simp[bG]
theorem yw:∀(t:Ty) (out:List (List UInt8)),out.length+t.az<100000->an Tryz.prog 180 [t.av,.fn 181 [.ref 0 0]] [.cells [.vec 1],.vec 1 (bo out)] (cW .any [.cells [.vec 1],.vec 1 (bo (bG t out))])
 |
  .plus a b,out,hl=>by
  simp only[Ty.az]at hl
  have:=ey a out
  refine F7 _ _ ((aC _).mpr trivial) ?_
  unfold DO
  refine aS (v8 (.plus a b) out (by omega)) ?_
  simp only[Ty.av,↓zq,zs,ac,aC,fI,py,bm,cW]
  refine⟨by omega,fun _=>⟨by omega,?_⟩,fun h=>(by cases h)⟩
  refine aS (yw a out (by omega)) ?_
  simp only[↓zq,zs,ac,aC,fI,bm]
  refine⟨by omega,fun _=>⟨by omega,?_⟩,fun h=>(by cases h)⟩
  refine aS (yw b (bG a out) (by omega)) ?_
  simp only[↓zq,zs,ac,bm,bG]
 |
  .times a b,out,hl=>by
  simp only[Ty.az]at hl
  have:=ey a out
  refine F7 _ _ ((aC _).mpr trivial) ?_
  unfold DO
  refine aS (v8 (.times a b) out (by omega)) ?_
  simp only[Ty.av,↓zq,zs,ac,aC,fI,py,bm,cW]
  refine⟨by omega,fun _=>⟨by omega,?_⟩,fun h=>(by cases h)⟩
  refine aS (yw a out (by omega)) ?_
  simp only[↓zq,zs,ac,aC,fI,bm]
  refine⟨by omega,fun _=>⟨by omega,?_⟩,fun h=>(by cases h)⟩
  refine aS (yw b (bG a out) (by omega)) ?_
  simp only[↓zq,zs,ac,bm,bG]
 |
  .rc a,out,hl=>by
  simp only[Ty.az]at hl
  refine F7 _ _ ((aC _).mpr trivial) ?_
  unfold DO
  refine aS (v8 (.rc a) out (by omega)) ?_
  simp only[Ty.av,↓zq,zs,ac,aC,fI,py,bm,cW]
  refine⟨by omega,fun _=>⟨by omega,?_⟩,fun h=>(by cases h)⟩
  refine aS (yw a out (by omega)) ?_
  simp[↓zq,zs,ac,aC,fI,bm,bG]
 |
  .name s,out,hl=>by
  refine F7 _ _ ((aC _).mpr trivial) ?_
  unfold DO
  refine aS (v8 (.name s) out (by omega)) ?_
  simp[Ty.av,↓zq,zs,ac,bm,cW,bG]
 |
  .zero,out,hl=>by
  refine F7 _ _ ((aC _).mpr trivial) ?_
  unfold DO
  refine aS (v8 .zero out (by omega)) ?_
  simp[Ty.av,↓zq,zs,ac,bm,cW,bG,py]
 |
  .one,out,hl=>by
  refine F7 _ _ ((aC _).mpr trivial) ?_
  unfold DO
  refine aS (v8 .one out (by omega)) ?_
  simp[Ty.av,↓zq,zs,ac,bm,cW,bG,py]
 |
  .bO u,out,hl=>by
  refine F7 _ _ ((aC _).mpr trivial) ?_
  unfold DO
  refine aS (v8 (.bO u) out (by omega)) ?_
  simp[Ty.av,↓zq,zs,ac,bm,cW,bG,py]
theorem Il(t:Ty)(hl:t.az<100000):an Tryz.prog 158 [t.av] [] (bA (.sl (bo (bG t [])))):=by
 refine Qa _ ((aC _).mpr trivial) ?_
 unfold MR
 refine aS (yw t [] (by simpa using hl)) ?_
 simp[↓zq,zs,ac,bm,bA]
theorem IP(l:List (List UInt8))(a:AV)(ha:cv a l)(hl:l.length<1000000):∀(k i:Nat),i+k=l.length->(∀s,s∈l.take i->dc s=false)->HC [a,.v (.func (.func 159) #[] #[]),.v (.int .i64 (l.length:Int)),.v (.int .i64 (i:Int))] []
 (BD (l.any dc=true))
 |
  0,i,hi,hn=>by
  refine HY _ _ _ ?_
  simp only[Hz,↓zq,zs,ac]
  have:l.take i=l:=List.take_of_length_le (by omega)
  rw[this]at hn
  exact⟨ha.1,fun h=>by omega,fun _=>.inl ⟨rfl,fun hh=>(by obtain⟨x,hx,hy⟩:=cj.1 hh;rw[hn x hx]at hy;cases hy),rfl,rfl⟩⟩
 |
  k+1,i,hi,hn=>by
  have hlt:i<l.length:=by omega
  refine HY _ _ _ ?_
  simp only[Hz,↓zq,zs,ac,zt,ha.len,ha.idx hlt]
  have hm:l.getD i []∈l:=by simp[aa,hlt]
  refine⟨ha.1,fun _=>⟨⟨ha.1,by omega,by omega⟩,by omega,?_⟩,fun h=>by omega⟩
  refine ah (CO _) ?_
  simp only[↓zq,zs,ac]
  refine⟨fun h=>?_,fun h=>?_⟩
  ·exact .inr ⟨rfl,cj.2 ⟨_,hm,h⟩,i,rfl,rfl⟩
  ·rw[a7 i (by omega)]
   refine IP l a ha hl k (i+1) (by omega) ?_
   intro s hs
   rw[List.take_add_one]at hs
   have:l[i]?=some (l.getD i []):=by simp[aa,hlt]
   rw[this]at hs
   rcases aI.1 hs with hs|hs
   ·exact hn s hs
   ·simp at hs;rw[hs];simpa using h
theorem QO(l:List (List UInt8))(a:AV)(ha:cv a l)(hl:l.length<1000000):an Tryz.prog 157 [a,.v (.func (.func 159) #[] #[])] [] (bA (.v (.bool (l.any dc)))):=by
 have hI:an Tryz.prog 179 [a,.v (.func (.func 159) #[] #[])] [] (fun r o=>∃n:Int,r=.v (.int .i64 n)/\(0<=n↔l.any dc=true)/\o=[]):=by
  refine On _ ha.1 ?_
  simp only[M3,↓zq,zs,ac,ha.len]
  refine⟨ha.1,kB (IP l a ha hl l.length 0 (by omega) (by simp)) ?_ ?_⟩
  ·rintro ys o (⟨_,h1,rfl,rfl⟩|⟨h,_⟩)
   ·simp only[↓zq,zs,ac]
    exact⟨-1,rfl,⟨fun h=>(by omega),fun h=>absurd h h1⟩⟩
   ·cases h
  ·rintro ys o (⟨h,_⟩|⟨_,h1,j,rfl,rfl⟩)
   ·cases h
   ·simp only[↓zq,zs,ac]
    exact⟨j,rfl,⟨fun _=>h1,fun _=>(by omega)⟩⟩
 refine Oq _ ha.1 ?_
 unfold Jf
 refine bU hI ⟨.v (.int .i64 (if l.any dc=true then 0 else -1)),[],_,rfl,by split<;>simp_all,rfl⟩ ?_
 rintro r o ⟨n,rfl,hn,rfl⟩
 simp only[↓zq,zs,ac,bA]
 congr 2
 rw[cz];simp only[decide_eq_true_eq,ge_iff_le,hn]
def Ty.closed(t:Ty):Bool:=!((bG t []).any dc)
theorem QP(t:Ty)(hl:t.az<100000):an Tryz.prog 127 [t.av] [] (bA (.v (.bool t.closed))):=by
 refine P9 _ ((aC _).mpr trivial) ?_
 unfold Kx
 refine ah (Il t hl) ?_
 simp only[↓zq,zs,ac]
 have:=ey t []
 refine ah (QO _ _ (.of _) (by simp at this;omega)) ?_
 simp only[↓zq,zs,ac,bA,Ty.closed]
def vI(s:List UInt8):Option Ty:=match qg s with
 |none=>none
 |some t=>if t.closed=true then some t else none
theorem sH{s:List UInt8}{t:Ty}(h:qg s=some t):t.az<=400:=by
 unfold qg at h
 split at h
 ·cases h
 ·split at h
  ·cases h
  ·split at h<;>cases h
   omega
theorem Jt(s:List UInt8):an Tryz.prog 93 [.v (.string (mk s))] [] (bA (gZ (vI s))):=by
 refine Rz _ ?_
 unfold HX
 refine ah (FF s) ?_
 unfold vI
 cases ht:qg s with
 |none=>simp[gZ,↓zq,zs,ac,bA]
 |
  some t =>
  have:=sH ht
  simp only[gZ,↓zq,zs,ac,aC,fI]
  refine⟨fun h=>(by cases h),fun _=>?_⟩
  refine ah (QP t (by omega)) ?_
  simp only[↓zq,zs,ac,bA]
  refine⟨fun h=>?_,fun h=>?_⟩
  ·rw[if_neg (by rw[h];simp)]
  ·rw[if_pos h]
end Go.Proofs.Trees
namespace Go.Proofs.Trees
open Go Go.VL Go.RowKit
abbrev Nm:=List UInt8
def dM(u:Ty):Ty->Nat->Ty
 | .bO k,i=>if k=i then u else .bO k
 | .plus a b,i=>.plus (dM u a i) (dM u b i)
 | .times a b,i=>.times (dM u a i) (dM u b i)
 | .rc a,i=>.rc (dM u a (i+1))
 |t,_=>t
def sub(x:Nm)(u:Ty):Ty->Ty
 | .name s=>if s=x then u else .name s
 | .plus a b=>.plus (sub x u a) (sub x u b)
 | .times a b=>.times (sub x u a) (sub x u b)
 | .rc a=>.rc (sub x u a)
 |t=>t
def bg(x:Nm):Ty->Bool
 | .name s=>decide (s=x)
 | .plus a b=>bg x a||bg x b
 | .times a b=>bg x a||bg x b
 | .rc a=>bg x a
 |_=>false
def jD(f:Nm->Nm):Ty->Ty
 | .name s=>.name (f s)
 | .plus a b=>.plus (jD f a) (jD f b)
 | .times a b=>.times (jD f a) (jD f b)
 | .rc a=>.rc (jD f a)
 |t=>t
def IS(f:Nm->Nm):Prop:=∀x y,f x=f y->x=y
theorem lm(f:Nm->Nm)(x:Nm):∀(t:Ty) (i:Nat),jD f (dM (.name x) t i)=dM (.name (f x)) (jD f t) i
 | .bO k,i=>by simp only[dM,jD];split<;>rfl
 | .plus a b,i=>by simp only[dM,jD,lm f x a i,lm f x b i]
 | .times a b,i=>by simp only[dM,jD,lm f x a i,lm f x b i]
 | .rc a,i=>by simp only[dM,jD,lm f x a (i+1)]
 | .zero,i=>rfl
 | .one,i=>rfl
 | .name s,i=>rfl
theorem lu{f:Nm->Nm}(hf:IS f)(x:Nm)(u:Ty):∀t:Ty,jD f (sub x u t)=sub (f x) (jD f u) (jD f t)
 |
  .name s=>by
  simp only[sub,jD]
  by_cases h:s=x
  ·subst h;simp
  ·rw[if_neg h,if_neg fun e=>h (hf _ _ e)];rfl
 | .plus a b=>by simp only[sub,jD,lu hf x u a,lu hf x u b]
 | .times a b=>by simp only[sub,jD,lu hf x u a,lu hf x u b]
 | .rc a=>by simp only[sub,jD,lu hf x u a]
 | .zero=>rfl
 | .one=>rfl
 | .bO k=>rfl
theorem mH{f:Nm->Nm}(hf:IS f)(x:Nm):∀t:Ty,bg (f x) (jD f t)=bg x t
 | .name s=>by simp only[bg,jD];rw[cz];simp only[decide_eq_true_eq];exact⟨fun e=>hf _ _ e,fun e=>by rw[e]⟩
 | .plus a b=>by simp only[bg,jD,mH hf x a,mH hf x b]
 | .times a b=>by simp only[bg,jD,mH hf x a,mH hf x b]
 | .rc a=>by simp only[bg,jD,mH hf x a]
 | .zero=>rfl
 | .one=>rfl
 | .bO k=>rfl
theorem gX(f:Nm->Nm):∀t:Ty,(jD f t).az=t.az
 | .plus a b=>by simp only[Ty.az,jD,gX f a,gX f b]
 | .times a b=>by simp only[Ty.az,jD,gX f a,gX f b]
 | .rc a=>by simp only[Ty.az,jD,gX f a]
 | .name s=>rfl
 | .zero=>rfl
 | .one=>rfl
 | .bO k=>rfl
theorem oO{f:Nm->Nm}:∀t:Ty,(∀x,bg x t=true->f x=x)->jD f t=t
 | .name s,h=>by simp only[jD];rw[h s (by simp[bg])]
 | .plus a b,h=>by simp only[jD];rw[oO a fun x hx=>h x (by simp[bg,hx]),oO b fun x hx=>h x (by simp[bg,hx])]
 | .times a b,h=>by simp only[jD];rw[oO a fun x hx=>h x (by simp[bg,hx]),oO b fun x hx=>h x (by simp[bg,hx])]
 | .rc a,h=>by simp only[jD];rw[oO a fun x hx=>h x hx]
 | .zero,_=>rfl
 | .one,_=>rfl
 | .bO k,_=>rfl
theorem fE(x:Nm):∀(t:Ty) (i:Nat),(dM (.name x) t i).az=t.az
 | .bO k,i=>by simp only[dM];split<;>rfl
 | .plus a b,i=>by simp only[dM,Ty.az,fE x a i,fE x b i]
 | .times a b,i=>by simp only[dM,Ty.az,fE x a i,fE x b i]
 | .rc a,i=>by simp only[dM,Ty.az,fE x a (i+1)]
 | .zero,i=>rfl
 | .one,i=>rfl
 | .name s,i=>rfl
theorem eg(t:Ty):1<=t.az:=by cases t<;>simp only[Ty.az]<;>omega
theorem gS(x:Nm)(u:Ty):∀t:Ty,t.az<=(sub x u t).az
 | .name s=>by simp only[sub];split<;>simp only[Ty.az];exact eg u;omega
 | .plus a b=>by have:=gS x u a;have:=gS x u b;simp only[sub,Ty.az];omega
 | .times a b=>by have:=gS x u a;have:=gS x u b;simp only[sub,Ty.az];omega
 | .rc a=>by have:=gS x u a;simp only[sub,Ty.az];omega
 | .zero=>aq _
 | .one=>aq _
 | .bO k=>aq _
theorem gx{x y:Nm}:∀(t:Ty) (i:Nat),bg y (dM (.name x) t i)=true->y=x\/bg y t=true
 |
  .bO k,i,h=>by
  simp only[dM]at h
  split at h
  ·left;simp only[bg,decide_eq_true_eq]at h;exact h.symm
  ·cases h
 |
  .plus a b,i,h=>by
  simp only[dM,bg,bp]at h |-
  rcases h with h|h
  ·rcases gx a i h with h|h<;>simp[h]
  ·rcases gx b i h with h|h<;>simp[h]
 |
  .times a b,i,h=>by
  simp only[dM,bg,bp]at h |-
  rcases h with h|h
  ·rcases gx a i h with h|h<;>simp[h]
  ·rcases gx b i h with h|h<;>simp[h]
 | .rc a,i,h=>gx a (i+1) h
 | .zero,i,h=>by cases h
 | .one,i,h=>by cases h
 | .name s,i,h=>.inr h
theorem iW{x y:Nm}{u:Ty}:∀t:Ty,bg y (sub x u t)=true->bg y u=true\/(y≠x/\bg y t=true)
 |
  .name s,h=>by
  simp only[sub]at h
  split at h
  ·exact .inl h
  ·rename_i hs
   simp only[bg,decide_eq_true_eq]at h
   subst h
   exact .inr ⟨hs,by simp[bg]⟩
 |
  .plus a b,h=>by
  simp only[sub,bg,bp]at h |-
  rcases h with h|h
  ·rcases iW a h with h|h<;>simp[h]
  ·rcases iW b h with h|h<;>simp[h]
 |
  .times a b,h=>by
  simp only[sub,bg,bp]at h |-
  rcases h with h|h
  ·rcases iW a h with h|h<;>simp[h]
  ·rcases iW b h with h|h<;>simp[h]
 |
  .rc a,h=>by
  simp only[sub,bg]at h |-
  exact iW a h
 | .zero,h=>by cases h
 | .one,h=>by cases h
 | .bO k,h=>by cases h
def swp(x y:Nm):Nm->Nm:=fun s=>if s=x then y else if s=y then x else s
theorem xp(x y:Nm):IS (swp x y):=by
 intro a b h
 unfold swp at h
 by_cases h1:a=x<;>by_cases h2:a=y<;>by_cases h3:b=x<;>by_cases h4:b=y<;>simp_all
theorem u5(x y:Nm):swp x y x=y:=by simp[swp]
theorem zT{x y s:Nm}(h:s≠x)(h':s≠y):swp x y s=s:=by simp[swp,h,h']
theorem s7{x y:Nm}{t:Ty}(h:bg x t=false)(h':bg y t=false):jD (swp x y) t=t :=
 oO t fun z hz=>zT (fun e=>by subst e;rw[h]at hz;cases hz) (fun e=>by subst e;rw[h']at hz;cases hz)
def px(a:Ty)(x:Nm)(c d:Ty):Ty:=.rc (.plus (sub x (.rc a) c) (.times (sub x (.rc a) d) (.bO 0)))
inductive Dv:Ty->Nm->Ty->Prop
 |zero (s):Dv .zero s .zero
 |one (s):Dv .one s .zero
 |bO (k s):Dv (.bO k) s .zero
 |hit (s):Dv (.name s) s .one
 |qL {n s} (h:n≠s):Dv (.name n) s .zero
 |plus {a b s a' b'} (h1:Dv a s a') (h2:Dv b s b') (hl:(Ty.plus a' b').az<=400):Dv (.plus a b) s (.plus a' b')
 |times {a b s a' b'} (h1:Dv a s a') (h2:Dv b s b') (hl:(Ty.plus (.times a' b) (.times a b')).az<=400):Dv (.times a b) s (.plus (.times a' b) (.times a b'))
 |rc {a s c d} (x:Nm) (hx:bg x a=false) (hs:x≠s) (h1:Dv (dM (.name x) a 0) s c) (h2:Dv (dM (.name x) a 0) x d) (hl:(px a x c d).az<=400):Dv (.rc a) s (px a x c d)
theorem xd{f:Nm->Nm}(hf:IS f)(a:Ty)(x:Nm)(c d:Ty):jD f (px a x c d)=px (jD f a) (f x) (jD f c) (jD f d):=by
 simp only[px,jD,lu hf]
theorem Dv.jD{f:Nm->Nm}(hf:IS f){t d:Ty}{s:Nm}(h:Dv t s d):Dv (jD f t) (f s) (jD f d):=by
 induction h with
 |zero s=>exact .zero _
 |one s=>exact .one _
 |bO k s=>exact .bO _ _
 |hit s=>exact .hit _
 |qL h=>exact .qL fun e=>h (hf _ _ e)
 |plus h1 h2 hl i1 i2=>exact .plus i1 i2 (by rw[<-gX f]at hl;exact hl)
 |times h1 h2 hl i1 i2=>exact .times i1 i2 (by rw[<-gX f]at hl;exact hl)
 |
  rc x hx hs h1 h2 hl i1 i2 =>
  rw[xd hf]
  rw[lm]at i1 i2
  exact .rc (f x) (by rw[mH hf];exact hx) (fun e=>hs (hf _ _ e)) i1 i2 (by rw[<-xd hf,gX];exact hl)
theorem Dv.names{t d:Ty}{s:Nm}(h:Dv t s d):∀y,bg y d=true->bg y t=true:=by
 induction h with
 |zero s=>intro y hy;cases hy
 |one s=>intro y hy;cases hy
 |bO k s=>intro y hy;cases hy
 |hit s=>intro y hy;cases hy
 |qL h=>intro y hy;cases hy
 |
  plus h1 h2 hl i1 i2 =>
  intro y hy
  simp only[bg,bp]at hy |-
  rcases hy with hy|hy
  ·exact .inl (i1 y hy)
  ·exact .inr (i2 y hy)
 |
  times h1 h2 hl i1 i2 =>
  intro y hy
  simp only[bg,bp]at hy |-
  rcases hy with(hy|hy)|(hy|hy)
  ·exact .inl (i1 y hy)
  ·exact .inr hy
  ·exact .inl hy
  ·exact .inr (i2 y hy)
 |
  rc x hx hs h1 h2 hl i1 i2 =>
  intro y hy
  simp only[px,bg,bp,Bool.or_false]at hy |-
  have key:∀{a c:Ty},(∀y,bg y c=true->bg y (dM (.name x) a 0)=true)->bg y (sub x (.rc a) c)=true->bg y a=true:=fun i h=>by
   rcases iW _ h with h|⟨h,h'⟩
   ·exact h
   ·rcases gx _ _ (i y h')with e|e
    ·exact absurd e h
    ·exact e
  rcases hy with hy|hy
  ·exact key i1 hy
  ·exact key i2 hy
theorem Dv.fresh{t d:Ty}{s y:Nm}(h:Dv t s d)(hy:bg y t=false):bg y d=false:=by
 cases e:bg y d with
 |false=>rfl
 |true=>rw[h.names y e]at hy;cases hy
theorem Dv.move{a c:Ty}{x y s:Nm}(hx:bg x a=false)(hy:bg y a=false)(h:Dv (dM (.name x) a 0) s c):Dv (dM (.name y) a 0) (swp x y s) (Go.Proofs.Trees.jD (swp x y) c):=by
 have:=h.jD (xp x y)
 rw[lm,u5,s7 hx hy]at this
 exact this
theorem mg{a c:Ty}{x y s:Nm}(hx:bg x a=false)(hy:bg y a=false)(h:Dv (dM (.name x) a 0) s c):sub y (.rc a) (jD (swp x y) c)=sub x (.rc a) c:=by
 have e:=lu (xp x y) x (.rc a) c
 rw[u5,s7 (t:=.rc a) hx hy]at e
 rw[<-e]
 have key:∀z,(z=x\/z=y)->bg z (sub x (.rc a) c)=false:=fun z hz=>by
  cases q:bg z (sub x (.rc a) c)with
  |false=>rfl
  |
   true =>
   exfalso
   have hz':bg z a=false:=by rcases hz with rfl|rfl<;>assumption
   rcases iW _ q with h1|⟨h1,h2⟩
   ·rw[show bg z (.rc a)=bg z a from rfl,hz']at h1;cases h1
   ·rcases gx _ _ (h.names z h2)with e|e
    ·exact h1 e
    ·rw[hz']at e;cases e
 exact s7 (key x (.inl rfl)) (key y (.inr rfl))
theorem Dv.vK:∀(n:Nat) (t:Ty),t.az<=n->∀{s:Nm} {d d':Ty},Dv t s d->Dv t s d'->d=d'
 |0,t,h,_,_,_,_,_=>by have:=eg t;omega
 |
  n+1,t,hn,s,d,d',h,h'=>by
  cases h with
  |zero=>cases h';rfl
  |one=>cases h';rfl
  |bO=>cases h';rfl
  |
   hit =>
   cases h' with
   |hit=>rfl
   |qL h=>exact absurd rfl h
  |
   qL h =>
   cases h' with
   |hit=>exact absurd rfl h
   |qL _=>rfl
  |
   plus h1 h2 =>
   simp only[Ty.az]at hn
   cases h' with
   |plus g1 g2=>rw[Dv.vK n _ (by omega) h1 g1,Dv.vK n _ (by omega) h2 g2]
  |
   times h1 h2 =>
   simp only[Ty.az]at hn
   cases h' with
   |times g1 g2=>rw[Dv.vK n _ (by omega) h1 g1,Dv.vK n _ (by omega) h2 g2]
  |
   rc x hx hs h1 h2 =>
   simp only[Ty.az]at hn
   cases h' with
   |
    rc y hy hs' g1 g2 =>
    rename_i a _ _ _ _ _ _
    have m1:=h1.move hx hy
    have m2:=h2.move hx hy
    rw[zT (Ne.symm hs) (Ne.symm hs')]at m1
    rw[u5]at m2
    have e1:=Dv.vK n _ (by rw[fE];omega) m1 g1
    have e2:=Dv.vK n _ (by rw[fE];omega) m2 g2
    rw[px,px,<-e1,<-e2,mg hx hy h1,mg hx hy h2]
theorem Dv.small{t d:Ty}{s:Nm}(h:Dv t s d):d.az<=400:=by
 cases h<;>first|assumption|simp[Ty.az]
open Classical in
noncomputable def kU (t:Ty) (s:Nm):Option Ty:=if h:∃d,Dv t s d then some (Classical.choose h)else none
theorem cT{t:Ty}{s:Nm}{d:Ty}:kU t s=some d↔Dv t s d:=by
 unfold kU
 by_cases h:∃d,Dv t s d
 ·rw[dif_pos h]
  have:=Classical.choose_spec h
  constructor
  ·intro e;cases e;exact this
  ·intro g;rw[Dv.vK _ t (aq _) this g]
 ·rw[dif_neg h]
  exact⟨fun e=>(by cases e),fun g=>absurd ⟨d,g⟩ h⟩
def mX(t:Ty):Option Ty:=if t.az<=400 then some t else none
theorem eW{t d:Ty}:mX t=some d↔t.az<=400/\t=d:=by
 unfold mX
 split
 ·rename_i h;simp[h]
 ·rename_i h;simp[h]
theorem qc{α:Type}{a b:Option α}(h:∀d,a=some d↔b=some d):a=b:=by
 cases a with
 |
  none=>cases b with
  |none=>rfl
  |some x=>have:=(h x).2 rfl;cases this
 |some x=>exact((h x).1 rfl).symm
theorem vn(s:Nm):kU .zero s=some .zero:=cT.2 (.zero _)
theorem xw(s:Nm):kU .one s=some .zero:=cT.2 (.one _)
theorem yX(k:Nat)(s:Nm):kU (.bO k) s=some .zero:=cT.2 (.bO _ _)
theorem nT(n s:Nm):kU (.name n) s=some (if n=s then .one else .zero):=by
 split
 ·rename_i h;subst h;exact cT.2 (.hit _)
 ·rename_i h;exact cT.2 (.qL h)
theorem vu(a b:Ty)(s:Nm):kU (.plus a b) s=(kU a s).bind fun a'=>(kU b s).bind fun b'=>mX (.plus a' b'):=by
 refine qc fun d=>?_
 rw[cT]
 simp only[bn,cT,eW]
 constructor
 ·intro h;cases h with|plus h1 h2 hl=>exact⟨_,h1,_,h2,hl,rfl⟩
 ·rintro⟨a',h1,b',h2,hl,rfl⟩;exact .plus h1 h2 hl
theorem so(a b:Ty)(s:Nm):kU (.times a b) s=(kU a s).bind fun a'=>(kU b s).bind fun b'=>mX (.plus (.times a' b) (.times a b')):=by
 refine qc fun d=>?_
 rw[cT]
 simp only[bn,cT,eW]
 constructor
 ·intro h;cases h with|times h1 h2 hl=>exact⟨_,h1,_,h2,hl,rfl⟩
 ·rintro⟨a',h1,b',h2,hl,rfl⟩;exact .times h1 h2 hl
theorem Au{a:Ty}{s x:Nm}(hx:bg x a=false)(hs:x≠s):kU (.rc a) s=(kU (dM (.name x) a 0) s).bind fun c=>(kU (dM (.name x) a 0) x).bind fun d=>mX (px a x c d):=by
 refine qc fun d=>?_
 rw[cT]
 simp only[bn,cT,eW]
 constructor
 ·intro h
  cases h with
  |
   rc y hy hs' h1 h2 hl =>
   have m1:=h1.move hy hx
   have m2:=h2.move hy hx
   rw[zT (Ne.symm hs') (Ne.symm hs)]at m1
   rw[u5]at m2
   refine⟨_,m1,_,m2,?_⟩
   have e:∀c d,sub x (.rc a) (jD (swp y x) c)=sub y (.rc a) c->sub x (.rc a) (jD (swp y x) d)=sub y (.rc a) d->px a x (jD (swp y x) c) (jD (swp y x) d)=px a y c d:=fun c d e1 e2=>by rw[px,px,e1,e2]
   rw[e _ _ (mg hy hx h1) (mg hy hx h2)]
   exact⟨hl,rfl⟩
 ·rintro⟨c,h1,d',h2,hl,rfl⟩;exact .rc x hx hs h1 h2 hl
noncomputable def oN (a:Ty) (x:Nm):Option Ty:=(kU (dM (.name x) a 0) x).bind fun d=>mX (sub x (.rc a) d)
theorem FG{a:Ty}{x y:Nm}(hx:bg x a=false)(hy:bg y a=false):oN a x=oN a y:=by
 have key:∀{x y:Nm} {d:Ty},bg x a=false->bg y a=false->oN a x=some d->oN a y=some d:=fun {x y d} hx hy h=>by
  simp only[oN,bn,cT,eW]at h |-
  obtain⟨d',h1,hl,rfl⟩:=h
  have m1:=h1.move hx hy
  rw[u5]at m1
  exact⟨_,m1,by rw[mg hx hy h1];exact⟨hl,rfl⟩⟩
 exact qc fun d=>⟨key hx hy,key hy hx⟩
end Go.Proofs.Trees
namespace Go.Proofs.Trees
open Go Go.VL
theorem Py(b:UInt8):an Tryz.prog 178 [.v (.int .u8 (b.toNat:Int))] [] (bA (.v (.bool (eS b)))):=by
 refine Rv _ ?_
 simp only[II,↓zq,zs,ac,bA,eS]
 repeat' (apply aE<;>intro _)
 all_goals first|(congr 2;rw[cz];simp;omega)|(congr 2;simp;omega)
def Cq(s:List UInt8)(x:Option (E×List UInt8)):AV->List Ob->Prop:=fun r o=>o=[] /\
 match x with
 |some (e,u)=>r=.cN [e.ko,.v (.int .i64 ((s.length-u.length:Nat):Int))]
 |none=>∃(c:List UInt8) (d:AV),LK.sl.has d/\r=.cN [.agg [.v (.string (mk c)),d],.v (.int .i64 (-1))]
theorem Cq.ne(s:List UInt8)(x:Option (E×List UInt8)):∃r o,Cq s x r o:=by
 cases x with
 |some q=>exact⟨_,_,rfl,rfl⟩
 |none=>exact⟨_,_,rfl,[],.v (.slice none 0 0),(bw).mpr trivial,rfl⟩
def jc(c:List UInt8)(d:AV):Ob:=.cells [.v (.string (mk c)),d]
theorem Lz(s:List UInt8)(hs:s.length<=8000)(from_:Int)(c1 c2:List UInt8)(d1 d2:AV)(h1:LK.sl.has d1)(h2:LK.sl.has d2):∀(k i:Nat),i+k=s.length->FO [.v (.string (mk s)),.v (.int .i64 (i:Int)),.v (.int .i64 from_)] [jc c1 d1,jc c2 d2]
 (fX 1 [.v (.string (mk s)),.v (.int .i64 ((i+((s.drop i).takeWhile eS).length:Nat):Int)),.v (.int .i64 from_)] [jc c1 d1,jc c2 d2])
 |
  0,i,hi=>by
  refine LZ _ _ _ _ _ _ _ ?_
  have hd:s.drop i=[]:=bN (by omega)
  simp only[D1,↓zq,zs,ac,zt]
  exact⟨h1,h2,fun h=>by omega,fun _=>by simp[fX,hd,jc]⟩
 |
  k+1,i,hi=>by
  have hlt:i<s.length:=by omega
  refine LZ _ _ _ _ _ _ _ ?_
  simp only[D1,↓zq,zs,ac,zt,lR s i hlt]
  refine⟨h1,h2,fun _=>⟨by omega,?_⟩,fun h=>by omega⟩
  refine ah (Py _) ?_
  simp only[↓zq,zs,ac]
  refine⟨fun hb=>?_,fun hb=>?_⟩
  ·rw[a7 i (by omega)]
   have:=Lz s hs from_ c1 c2 d1 d2 h1 h2 k (i+1) (by omega)
   rw[xS hlt hb,show i+(((s.drop (i+1)).takeWhile eS).length+1)=i+1+((s.drop (i+1)).takeWhile eS).length by omega]
   exact this
  ·simp[fX,qm hlt hb,jc]
def Sa(s:List UInt8)(x:Option (E×List UInt8)):Nat->List AV->List Ob->Prop:=fun t ys o=>t=2 /\
 match x with
 |some (e,u)=>∃l,e=.list l/\ys=[.v (.int .i64 ((s.length-u.length:Nat):Int))]/\o=[jc [] .any,.vec 2 (E.bj l)]
 |none=>∃es,ys=[.v (.int .i64 (-1))]/\o=[jc [] .any,.vec 2 es]
theorem wY(e:E):(e.ko=.agg e.ko.cs/\e.ko.cs.length=2/\bC [.str,.sl] e.ko.cs 0)=True:=by
 apply eq_true
 cases e<;>simp[E.ko,E.im,Bx,bC,ej,bw,ca]
theorem wb(e:E):[AV.v (.string ((e.ko.cs.getD 0 .any).ai)),e.ko.cs.getD 1 .any]=e.im:=by
 cases e<;>rfl
theorem drop_cons{s:List UInt8}{j:Nat}(hj:j<s.length):s.drop j=s.getD j 0::s.drop (j+1):=by
 rw[aN hj];simp[aa,hj]
theorem Ks(s:List UInt8)(hs:s.length<=8000)(d:Nat)(hd:d<=300)(f:List UInt8->Option (E×List UInt8))(hf:∀u e r,f u=some (e,r)->∃j,r=u.drop j/\0<j/\j<=u.length)
 (ih:∀j,j<=s.length->an Tryz.prog 152 [.v (.string (mk s)),.v (.int .i64 (j:Int)),.v (.int .i64 ((d+1:Nat):Int))] [] (Cq s (f (s.drop j)))) :
 ∀(n i:Nat) (acc:List E) (c1:List UInt8) (d1:AV),LK.sl.has d1->s.length-(i+1)<n->i<s.length->s.length-i+acc.length<=8001->Fs [.v (.string (mk s)),.v (.int .i64 (i:Int)),.v (.int .i64 (d:Int))] [jc c1 d1,jc [] .any,.vec 2 (E.bj acc)]
  (Sa s (rL f n (s.drop (i+1)) acc))
 |0,i,acc,c1,d1,h1,hn,_,_=>by omega
 |
  n+1,i,acc,c1,d1,h1,hn,hi,hl=>by
  refine Qh _ _ _ _ _ _ _ ?_
  simp only[Mm,↓zq,zs,ac,jc]
  refine⟨h1,?_⟩
  rw[a7 i (by omega),a7 d (by omega)]
  refine bU (ih (i+1) (by omega)) (Cq.ne _ _) ?_
  rintro r o ⟨rfl,hr⟩
  have hff:=hf (s.drop (i+1))
  unfold rL
  cases hq:f (s.drop (i+1))with
  |
   none =>
   rw[hq]at hr
   obtain⟨c,d',hd',rfl⟩:=hr
   simp only[↓zq,zs,ac,zt,bC]
   refine⟨hd',fun _=>⟨rfl,_,rfl,rfl⟩,fun h=>by omega⟩
  |
   some q =>
   obtain⟨e,u⟩:=q
   rw[hq]at hr
   subst hr
   obtain⟨j,hu,hj0,hj⟩:=hff e u hq
   rw[List.drop_drop]at hu
   simp only[cr]at hj
   have hul:u.length=s.length-(i+1+j):=by rw[hu,cr]
   have hpos:s.length-u.length=i+1+j:=by omega
   simp only[↓zq,zs,ac,zt,wY,hpos,wb,dW]
   refine⟨fun h=>by omega,fun _=>⟨fun h=>?_,fun h=>⟨⟨fun c hc=>(by simp at hc;rw[hc];cases e<;>rfl),by omega⟩,?_⟩⟩⟩
   ·have:u=[]:=by rw[hu];exact bN (by omega)
    subst this
    exact⟨rfl,_,rfl,rfl⟩
   ·have hlt:i+1+j<s.length:=by omega
    rw[drop_cons hlt]at hu
    subst hu
    rw[lR s _ hlt]
    generalize hb:s.getD (i+1+j) 0=b
    refine⟨by omega,fun h41=>?_,fun h41=>⟨by omega,fun h32=>?_,fun h32=>?_⟩⟩
    ·have h41':b.toNat=41:=by omega
     dsimp only
     rw[if_pos h41',a7 _ (by omega)]
     refine⟨rfl,acc++[e],rfl,?_,?_⟩
     ·rw[cr];congr 3;omega
     ·simp[jc,pL,E.bj]
    ·have h41':¬b.toNat=41:=by omega
     have h32':¬b.toNat=32:=by omega
     dsimp only
     rw[if_neg h41',if_neg h32']
     exact⟨rfl,_,rfl,rfl⟩
    ·have h41':¬b.toNat=41:=by omega
     have h32':b.toNat=32:=by omega
     dsimp only
     rw[if_neg h41',if_pos h32']
     have:=Ks s hs d hd f hf ih n (i+1+j) (acc++[e]) c1 d1 h1 (by omega) hlt (by simp;omega)
     simpa[jc,pL,E.bj]using this
theorem Cg(k:Nat)(u:List UInt8)(e:E)(r:List UInt8)(h:rd k u=some (e,r)):∃j,r=u.drop j/\0<j/\j<=u.length:=by
 have suf:∀(k:Nat) (u:List UInt8) (e:E) (r:List UInt8),rd k u=some (e,r)->r <:+ u:=by
  intro k
  have tw:∀u:List UInt8,u.dropWhile eS <:+ u:=fun u=>List.dropWhile_suffix _
  have ll:∀(f:List UInt8->Option (E×List UInt8)),(∀u e r,f u=some (e,r)->r <:+ u)->∀(n:Nat) (u:List UInt8) (acc:List E) (e:E) (r:List UInt8),rL f n u acc=some (e,r)->r <:+ u:=by
   intro f hf n
   induction n with
   |zero=>intro u acc e r h;cases h
   |
    succ n ih =>
    intro u acc e r h
    simp only[rL]at h
    split at h
    ·rename_i p c r' hs
     have h1:r' <:+ u:=(List.suffix_cons c r').trans (hf _ _ _ hs)
     split at h
     ·cases h;exact h1
     ·split at h
      ·exact(ih _ _ _ _ h).trans h1
      ·cases h
    ·cases h
  induction k with
  |
   zero =>
   intro u e r h
   simp only[rd]at h
   split at h
   ·cases h
   ·cases h;exact tw u
  |
   succ k ih =>
   intro u e r h
   simp only[rd]at h
   split at h
   ·split at h
    ·split at h
     ·exact(ll _ ih _ _ _ _ _ h).trans (List.suffix_cons _ _)
     ·cases h
    ·cases h
   ·cases h;exact tw u
 obtain⟨p,hp⟩:=suf k u e r h
 have hlt:=w4 k u e r h
 have:=congrArg List.length hp
 simp only[ax]at this
 exact⟨p.length,by rw[<-hp];simp,by omega,by omega⟩
theorem AL(n:Nat)(u:List UInt8)(acc:List E):rL (fun _=>none) n u acc=none:=by
 cases n<;>rfl
theorem PC(s:List UInt8)(j:Nat):an Tryz.prog 152 [.v (.string (mk s)),.v (.int .i64 (j:Int)),.v (.int .i64 ((300+1:Nat):Int))] [] (Cq s none):=by
 refine LX _ _ _ ?_
 simp only[G0,↓zq,zs,ac]
 exact⟨fun _=>⟨rfl,[],_,(bw).mpr trivial,rfl⟩,fun h=>by omega⟩
theorem pA(s:List UInt8)(hs:s.length<=8000)(d i:Nat)(hd:d<=300)(hi:i<=s.length)(f:List UInt8->Option (E×List UInt8))(hf:∀u e r,f u=some (e,r)->∃j,r=u.drop j/\0<j/\j<=u.length)
 (ih:∀j,j<=s.length->an Tryz.prog 152 [.v (.string (mk s)),.v (.int .i64 (j:Int)),.v (.int .i64 ((d+1:Nat):Int))] [] (Cq s (f (s.drop j)))) (x:Option (E×List UInt8))
 (h0:i=s.length->x=none)
 (h1:i<s.length->(s.drop i).takeWhile eS≠[]->x=some (.atom ((s.drop i).takeWhile eS),(s.drop i).dropWhile eS))
 (h2:i<s.length->(s.drop i).takeWhile eS=[]->¬(s.getD i 0).toNat=40->x=none)
 (h3:i<s.length->(s.getD i 0).toNat=40->x=rL f (s.length-(i+1)+1) (s.drop (i+1)) []) :
 an Tryz.prog 152 [.v (.string (mk s)),.v (.int .i64 (i:Int)),.v (.int .i64 (d:Int))] [] (Cq s x):=by
 refine LX _ _ _ ?_
 simp only[G0,↓zq,zs,ac,zt]
 refine⟨fun h=>by omega,fun _=>⟨fun h=>?_,fun h=>⟨by omega,?_⟩⟩⟩
 ·rw[h0 (by omega)]
  exact⟨rfl,[],_,(bw).mpr trivial,rfl⟩
 ·have hlt:i<s.length:=by omega
  rw[lR s i hlt]
  refine⟨fun h40=>?_,fun h40=>?_⟩
  ·have h40':¬(s.getD i 0).toNat=40:=by omega
   refine cf (Lz s hs _ [] [] _ _ ((bw).mpr trivial) ((bw).mpr trivial) (s.length-i) i (by omega)) ?_
   have hex:(List.take (i+((s.drop i).takeWhile eS).length) s).drop i=(s.drop i).takeWhile eS:=by
    rw[List.drop_take,Nat.add_sub_cancel_left];exact tT _
   have hle:i+((s.drop i).takeWhile eS).length<=s.length:=by
    have:=tu (s.drop i);simp only[cr]at this;omega
   simp only[jc,↓zq,zs,ac,zt,hex]
   refine⟨by omega,fun hnil=>?_,fun hnil=>?_⟩
   ·rw[h2 hlt hnil h40',hnil]
    exact⟨rfl,[],_,(bw).mpr trivial,rfl⟩
   ·rw[h1 hlt hnil]
    refine⟨rfl,?_⟩
    have:=tu (s.drop i)
    simp only[cr]at this
    show _=AV.cN [E.ko (.atom _),_]
    have e:s.length-((s.drop i).dropWhile eS).length=i+((s.drop i).takeWhile eS).length:=by omega
    rw[e];rfl
  ·have h40':(s.getD i 0).toNat=40:=by omega
   rw[h3 hlt h40']
   refine kB (Ks s hs d hd f hf ih (s.length-(i+1)+1) i [] [] _ ((bw).mpr trivial) (by omega) hlt (by simp;omega)) ?_ ?_
   ·rintro ys o ⟨h,_⟩;cases h
   ·rintro ys o ⟨_,hr⟩
    cases hq:rL f (s.length-(i+1)+1) (s.drop (i+1)) []with
    |
     none =>
     rw[hq]at hr
     obtain⟨es,rfl,rfl⟩:=hr
     simp only[jc,↓zq,zs,ac]
     exact⟨rfl,[],_,(ca _).mpr trivial,rfl⟩
    |
     some q =>
     obtain⟨e,u⟩:=q
     rw[hq]at hr
     obtain⟨l,rfl,rfl,rfl⟩:=hr
     simp only[jc,↓zq,zs,ac]
     exact⟨rfl,rfl⟩
theorem Pc(s:List UInt8)(hs:s.length<=8000):∀(k:Nat),k<=300->∀i,i<=s.length->an Tryz.prog 152 [.v (.string (mk s)),.v (.int .i64 (i:Int)),.v (.int .i64 ((300-k:Nat):Int))] [] (Cq s (rd k (s.drop i))):=by
 intro k
 have hnil:∀k,rd k []=none:=fun k=>by cases k<;>simp[rd]
 have ha40:∀b:UInt8,b.toNat=40->eS b=false:=fun b hb=>by simp[eS,hb]
 induction k with
 |
  zero =>
  intro hk i hi
  refine pA s hs 300 i (by omega) hi (fun _=>none) (fun _ _ _ h=>by cases h) (fun j _=>PC s j) _ (fun h=>?_) (fun hlt h=>?_) (fun hlt h h40=>?_) (fun hlt h40=>?_)
  ·rw[bN (by omega)];exact hnil 0
  ·simp only[rd,if_neg h]
  ·simp only[rd,if_pos h]
  ·rw[AL]
   have:(s.drop i).takeWhile eS=[]:=qm hlt (ha40 _ h40)
   simp only[rd,if_pos this]
 |
  succ k ih =>
  intro hk i hi
  have hd:300-(k+1)+1=300-k:=by omega
  refine pA s hs (300-(k+1)) i (by omega) hi (rd k) (Cg k) (fun j hj=>by rw[hd];exact ih (by omega) j hj) _ (fun h=>?_) (fun hlt h=>?_) (fun hlt h h40=>?_) (fun hlt h40=>?_)
  ·rw[bN (by omega)];exact hnil _
  ·simp only[rd,if_neg h]
  ·rw[drop_cons hlt]at h |-
   simp only[rd,if_pos h,if_neg h40]
  ·have h:=qm hlt (ha40 _ h40)
   rw[drop_cons hlt]at h |-
   simp only[rd,if_pos h,if_pos h40,cr]
end Go.Proofs.Trees
namespace Go.Proofs.Trees
open Go Go.VL
theorem iI(e:E):AV.agg [.v (.string ((e.im.getD 0 .any).ai)),e.im.getD 1 .any]=e.ko:=by cases e<;>rfl
theorem gj(e:E):e.im.length=2:=by cases e<;>rfl
theorem iJ(e:E):bC [.str,.sl] e.im 0=True:=by
 apply eq_true
 cases e<;>simp[E.im,bC,ej,bw,ca]
theorem l4(e:E):e.im.headD .any=.v (.string (mk e.at)):=by cases e<;>rfl
theorem ur(x:E)(l:List E):an Tryz.prog 121 [.agg [.v (.string (mk [])),.sl (E.bj (x::l))]] [] (bA (.v (.string (mk x.at)))):=by
 refine DV _ _ ((ca _).mpr trivial) ?_
 simp only[BL,E.bj,↓zq,zs,ac,zt,bA,gj,l4,aq]
 refine⟨fun h=>absurd rfl h,fun _=>⟨fun h=>by omega,fun _=>⟨by omega,by omega⟩⟩⟩
theorem Q4:an Tryz.prog 121 [.agg [.v (.string (mk [])),.sl (E.bj [])]] [] (bA (.v (.string (mk [])))):=by
 refine DV _ _ ((ca _).mpr trivial) ?_
 simp only[BL,E.bj,↓zq,zs,ac,zt,bA,gj,l4,aq]
 simp
def jM:E->Bool
 | .atom s=>(s==[48])||(s==[49])||gJ s||dc s
 | .list [x,a,b]=>if x.at=[43]then jM a&&jM b else if x.at=[42]then jM a&&jM b else if x.at=[114,101,99]then dc a.at&&jM b else false
 | .list _=>false
theorem yT:∀(e:E),e.ok->an Tryz.prog 165 [e.ko] [] (bA (.v (.bool (jM e))))
 |
  .atom s,hok=>by
  refine MF _ _ ((bw).mpr trivial) ?_
  have hne:s≠[]:=hok
  simp only[E1,↓zq,zs,ac,zt,bA,jM]
  refine⟨fun _=>⟨fun h=>?_,fun h=>⟨fun h1=>?_,fun h1=>?_⟩⟩,fun h=>absurd h hne⟩
  ·simp[h]
  ·simp[h1]
  ·refine ah (FA s) ?_
   simp only[↓zq,zs,ac]
   refine⟨fun hp=>?_,fun hp=>?_⟩
   ·simp[hp]
   ·refine ah (FL s) ?_
    simp[↓zq,zs,ac,hp,h,h1]
 |
  .list l,hok=>by
  refine MF _ _ ((ca _).mpr trivial) ?_
  match l,hok with
  |[],hok=>simp[E1,E.bj,↓zq,zs,ac,zt,bA,jM]
  |[x],hok=>simp[E1,E.bj,↓zq,zs,ac,zt,bA,jM]
  |[x,y],hok=>simp[E1,E.bj,↓zq,zs,ac,zt,bA,jM]
  |
   x::y::z::w::l,hok =>
   simp only[E1,E.bj,↓zq,zs,ac,zt,bA,jM]
   exact⟨fun h=>absurd rfl h,fun _=>⟨fun _=>trivial,fun h=>by omega⟩⟩
  |
   [x,y,z],hok =>
   obtain⟨ok1,ok2,ok3,_⟩:=hok
   simp only[E1,↓zq,zs,ac,zt,bA]
   refine⟨fun h=>absurd rfl h,fun _=>⟨fun h=>absurd rfl h,fun _=>?_⟩⟩
   refine ah (ur x _) ?_
   simp only[E.bj,toNat_one,bi,↓zq,zs,ac,zt,iI,gj,iJ,l4,aq,jM]
   refine⟨fun h=>?_,fun h=>⟨fun h1=>?_,fun h1=>⟨fun h2=>?_,fun h2=>?_⟩⟩⟩
   ·rw[if_pos h]
    refine⟨by omega,ah (yT y ok2) ?_⟩
    simp only[↓zq,zs,ac]
    refine⟨fun hy=>⟨by omega,ah (yT z ok3) ?_⟩,fun hy=>?_⟩
    ·simp only[↓zq,zs,ac,hy,bQ]
    ·rw[hy];rfl
   ·rw[if_neg h,if_pos h1]
    refine⟨by omega,ah (yT y ok2) ?_⟩
    simp only[↓zq,zs,ac]
    refine⟨fun hy=>⟨by omega,ah (yT z ok3) ?_⟩,fun hy=>?_⟩
    ·simp only[↓zq,zs,ac,hy,bQ]
    ·rw[hy];rfl
   ·rw[if_neg h,if_neg h1,if_pos h2]
    refine⟨by omega,by omega,ah (FL _) ?_⟩
    simp only[↓zq,zs,ac]
    refine⟨fun hy=>⟨by omega,ah (yT z ok3) ?_⟩,fun hy=>?_⟩
    ·simp only[↓zq,zs,ac,hy,bQ]
    ·rw[hy];rfl
   ·rw[if_neg h,if_neg h1,if_neg h2]
theorem iK:∀(e:E) (ar:List (List UInt8)),(cP e ar).isSome=jM e
 |
  .atom s,ar=>by
  simp only[cP,jM]
  by_cases h:s=[48]
  ·simp[h]
  ·by_cases h1:s=[49]
   ·simp[h1]
   ·rw[if_neg h,if_neg h1]
    by_cases h2:gJ s=true
    ·simp[h2]
    ·rw[if_neg h2]
     by_cases h3:dc s=true
     ·rw[if_pos h3];cases bI s ar ar.length<;>simp[h3]
     ·rw[if_neg h3];simp[h,h1,h2,h3]
 | .list [],_=>rfl
 | .list [_],_=>rfl
 | .list [_,_],_=>rfl
 | .list (_::_::_::_::_),_=>rfl
 |
  .list [x,a,b],ar=>by
  have ha:=iK a ar
  have hb:=iK b ar
  have hb2:=iK b (ar++[a.at])
  rw[jM]
  by_cases h:x.at=[43]
  ·rw[kN ar h,if_pos h,<-ha,<-hb];cases cP a ar<;>cases cP b ar<;>rfl
  ·by_cases h1:x.at=[42]
   ·rw[jT ar h1,if_neg h,if_pos h1,<-ha,<-hb];cases cP a ar<;>cases cP b ar<;>rfl
   ·by_cases h2:x.at=[114,101,99]
    ·rw[l8 ar h2,if_neg h,if_neg h1,if_pos h2,<-hb2]
     cases dc a.at<;>cases cP b (ar++[a.at])<;>rfl
    ·rw[iP ar h h1 h2,if_neg h,if_neg h1,if_neg h2];rfl
mutual
def E.dB:E->Nat
 | .atom _=>1
 | .list l=>E.fJ l
def E.fJ:List E->Nat
 |[]=>0
 |e::l=>e.dB+E.fJ l
end
mutual
theorem iH:∀e:E,e.dB<=e.sz
 | .atom s=>by simp[E.dB,E.sz]
 | .list l=>by have:=sY l;simp only[E.dB,E.sz];omega
theorem sY:∀l:List E,E.fJ l<=E.jP l
 |[]=>by simp[E.fJ,E.jP]
 |e::l=>by have:=iH e;have:=sY l;simp only[E.fJ,E.jP];omega
end
theorem ju:∀(l:List E) (i:Nat) (h:i<l.length),(E.bj l).getD i []=(l[i]).im
 |e::l,0,_=>rfl
 |
  e::l,i+1,h=>by
  have:=ju l i (by simpa using h)
  simp only[E.bj,List.getD_cons_succ,List.getElem_cons_succ];exact this
theorem zo:∀(l:List E) (i:Nat) (h:i<l.length),E.fJ (l.drop i)=(l[i]).dB+E.fJ (l.drop (i+1)):=by
 intro l i h
 rw[aN h];rfl
theorem sU:∀(l:List E) (i:Nat) (h:i<l.length),E.Cz l->(l[i]).ok
 |e::l,0,_,h=>h.1
 |e::l,i+1,hi,h=>sU l i (by simpa using hi) h.2
theorem Ny(l:List E)(hl:E.fJ l<1000000)(hll:l.length<1000000)(ih:∀i (h:i<l.length),an Tryz.prog 140 [(l[i]).ko] [] (bA (.v (.int .i64 ((l[i]).dB:Int))))) :
 ∀(k i n:Nat),i+k=l.length->n+E.fJ (l.drop i)<=E.fJ l->F4 [.v (.int .i64 (n:Int)),.v (.int .i64 (i:Int))] [.cells [.v (.string (mk [])),.sl (E.bj l)]] (fX 1 [.v (.int .i64 ((n+E.fJ (l.drop i):Nat):Int))] [])
 |
  0,i,n,hi,hn=>by
  refine MH _ _ _ _ ?_
  simp only[EI,↓zq,zs,ac,dW]
  have:l.drop i=[]:=bN (by omega)
  refine⟨fun h=>by omega,fun _=>?_⟩
  simp[fX,this,E.fJ]
 |
  k+1,i,n,hi,hn=>by
  have hlt:i<l.length:=by omega
  refine MH _ _ _ _ ?_
  simp only[EI,↓zq,zs,ac,zt,dW,ju l i hlt,gj,iJ,iI,aq]
  refine⟨fun _=>⟨by omega,?_⟩,fun h=>by omega⟩
  refine ah (ih i hlt) ?_
  have h1:=zo l i hlt
  simp only[↓zq,zs,ac]
  rw[a7 i (by omega),wrap64 _ (by omega) (by omega)]
  have:=Ny l hl hll ih k (i+1) (n+(l[i]).dB) (by omega) (by omega)
  rw[h1,<-Nat.add_assoc]
  simpa using this
theorem ud:∀l:List E,l.length<=E.jP l
 |[]=>by simp[E.jP]
 |
  e::l=>by
  have:=ud l
  have:1<=e.sz:=by cases e<;>simp[E.sz]
  simp only[E.jP,aB];omega
theorem tD:∀(l:List E) (i:Nat) (h:i<l.length),(l[i]).sz<=E.jP l
 |e::l,0,_=>by simp[E.jP]
 |e::l,i+1,h=>by have:=tD l i (by simpa using h);simp only[E.jP,List.getElem_cons_succ];omega
theorem KF:∀(n:Nat) (e:E),e.sz<n->e.ok->e.sz<1000000->an Tryz.prog 140 [e.ko] [] (bA (.v (.int .i64 (e.dB:Int))))
 |0,e,hn,_,_=>by omega
 |
  n+1,.atom s,hn,hok,hl=>by
  refine Mc _ _ ((bw).mpr trivial) ?_
  have hne:s≠[]:=hok
  simp only[EK,↓zq,zs,ac,zt,bA]
  exact⟨fun _=>rfl,fun h=>absurd h hne⟩
 |
  n+1,.list l,hn,hok,hl=>by
  refine Mc _ _ ((ca _).mpr trivial) ?_
  simp only[E.sz]at hn hl
  have h1:=sY l
  have h2:=ud l
  simp only[EK,↓zq,zs,ac,zt,bA]
  refine⟨fun h=>absurd rfl h,fun _=>?_⟩
  refine cf (Ny l (by omega) (by omega) (fun i hi=>?_) l.length 0 0 (by omega) (by simp)) ?_
  ·have:=tD l i hi
   exact KF n (l[i]) (by omega) (sU l i hi hok) (by omega)
  ·simp[↓zq,zs,ac,E.dB]
theorem ET(e:E)(h:e.ok)(hl:e.sz<1000000):an Tryz.prog 140 [e.ko] [] (bA (.v (.int .i64 (e.dB:Int)))):=KF (e.sz+1) e (by omega) h hl
theorem tv{x:E}(h:x.at≠[]):x.dB=1:=by cases x<;>simp[E.at,E.dB]at h |-
theorem Ba{s:List UInt8}(h:dc s=true):s≠[]:=by rintro rfl;cases h
theorem jE:∀(e:E) (ar:List (List UInt8)) (t:Ty),cP e ar=some t->e.dB=t.az
 |
  .atom s,ar,t,h=>by
  simp only[cP]at h
  simp only[E.dB]
  split at h
  ·cases h;rfl
  ·split at h
   ·cases h;rfl
   ·split at h
    ·cases h;rfl
    ·split at h
     ·split at h<;>cases h<;>rfl
     ·cases h
 | .list [],_,_,h=>by cases h
 | .list [_],_,_,h=>by cases h
 | .list [_,_],_,_,h=>by cases h
 | .list (_::_::_::_::_),_,_,h=>by cases h
 |
  .list [x,a,b],ar,t,h=>by
  simp only[E.dB,E.fJ]
  by_cases h0:x.at=[43]
  ·rw[kN ar h0]at h
   have:=tv (x:=x) (by rw[h0];simp)
   split at h
   ·rename_i t1 t2 e1 e2
    cases h
    have:=jE a ar _ e1
    have:=jE b ar _ e2
    simp only[Ty.az];omega
   ·cases h
  ·by_cases h1:x.at=[42]
   ·rw[jT ar h1]at h
    have:=tv (x:=x) (by rw[h1];simp)
    split at h
    ·rename_i t1 t2 e1 e2
     cases h
     have:=jE a ar _ e1
     have:=jE b ar _ e2
     simp only[Ty.az];omega
    ·cases h
   ·by_cases h2:x.at=[114,101,99]
    ·rw[l8 ar h2]at h
     have:=tv (x:=x) (by rw[h2];simp)
     split at h
     ·rename_i hl
      have:=tv (Ba hl)
      split at h
      ·rename_i t1 e1
       cases h
       have:=jE b _ _ e1
       simp only[Ty.az];omega
      ·cases h
     ·cases h
    ·rw[iP ar h0 h1 h2]at h;cases h
def jO(x:Option E)(b:Bool):AV->List Ob->Prop:=fun r o=>∃c:List UInt8,∃d:AV,LK.sl.has d/\r=.cN [.agg [.v (.string (mk c)),d],.v (.bool b)]/\(b=true->∃e,x=some e/\AV.agg [.v (.string (mk c)),d]=e.ko)
theorem AO(e:E):∃c:List UInt8,∃d:AV,LK.sl.has d/\e.ko=AV.agg [.v (.string (mk c)),d]:=by
 cases e with
 |atom s=>exact⟨s,_,(bw).mpr trivial,rfl⟩
 |list l=>exact⟨[],_,(ca _).mpr trivial,rfl⟩
theorem jO.ne(x:Option E)(b:Bool)(h:b=true->x.isSome=true):∃r o,jO x b r o:=by
 cases b with
 |false=>exact⟨_,[],[],.v (.slice none 0 0),(bw).mpr trivial,rfl,fun h=>by cases h⟩
 |
  true =>
  cases x with
  |none=>cases h rfl
  |
   some e =>
   obtain⟨c,d,hd,he⟩:=AO e
   exact⟨_,[],c,d,hd,rfl,fun _=>⟨e,rfl,he.symm⟩⟩
theorem Jb(s:List UInt8):an Tryz.prog 122 [.v (.string (mk s))] [] (jO (p8 s) (p8 s).isSome):=by
 refine P4 _ ?_
 simp only[NY,↓zq,zs,ac,zt,p8]
 refine⟨fun h=>?_,fun h=>?_⟩
 ·rw[if_pos (by omega)]
  exact⟨[],_,(bw).mpr trivial,rfl,fun h=>by cases h⟩
 ·rw[if_neg (by omega)]
  refine bU (Pc s (by omega) 300 (by omega) 0 (by omega)) (Cq.ne _ _) ?_
  rintro r o ⟨rfl,hr⟩
  rw[a6]at hr
  cases hq:rd 300 s with
  |
   none =>
   rw[hq]at hr
   obtain⟨c,d,hd,rfl⟩:=hr
   simp only[↓zq,zs,ac,zt,bC]
   refine⟨hd,c,d,hd,?_,fun h=>by cases h⟩
   have:((-1:Int)==(s.length:Int))=false:=by
    rw[beq_eq_false_iff_ne];omega
   rw[this];rfl
  |
   some q =>
   obtain⟨e,u⟩:=q
   rw[hq]at hr
   subst hr
   have hlt:=w4 _ _ _ _ hq
   obtain⟨c,d,hd,he⟩:=AO e
   simp only[he,↓zq,zs,ac,zt,bC]
   cases u with
   |
    nil =>
    refine⟨hd,c,d,hd,?_,fun _=>⟨e,rfl,he.symm⟩⟩
    simp
   |
    cons b u =>
    simp only[aB]at hlt |-
    refine⟨hd,c,d,hd,?_,fun h=>by cases h⟩
    have:(((s.length-(u.length+1):Nat):Int)==(s.length:Int))=false:=by simp;omega
    rw[this];rfl
def vF(s:List UInt8):Option E:=match p8 s with
 |none=>none
 |some e=>if jM e=true/\e.dB<=400 then some e else none
theorem Ha(s:List UInt8):an Tryz.prog 132 [.v (.string (mk s))] [] (jO (vF s) (vF s).isSome):=by
 refine Rt _ ?_
 unfold IK
 refine bU (Jb s) (jO.ne _ _ (fun h=>h)) ?_
 rintro r o ⟨c,d,hd,rfl,hh⟩
 simp only[↓zq,zs,ac,zt,bC,vF]
 refine⟨hd,fun h=>?_,fun h=>?_⟩
 ·obtain⟨e,he,hce⟩:=hh h
  obtain⟨hok,hsz⟩:=ny he
  rw[he,hce]
  refine ah (yT e hok) ?_
  simp only[↓zq,zs,ac]
  refine⟨fun hi=>?_,fun hi=>?_⟩
  ·refine ah (ET e hok (by omega)) ?_
   simp only[↓zq,zs,ac,hi]
   refine⟨c,d,hd,?_,?_⟩
   ·rw[hce]
    by_cases h4:e.dB<=400
    ·rw[if_pos h4];exact congrArg (fun b=>AV.cN [e.ko,.v (.bool b)]) (decide_eq_true (show ((e.dB:Nat):Int)<=400 by omega))
    ·rw[if_neg h4];exact congrArg (fun b=>AV.cN [e.ko,.v (.bool b)]) (decide_eq_false (show ¬((e.dB:Nat):Int)<=400 by omega))
   ·split
    ·exact fun _=>⟨e,rfl,hce⟩
    ·exact fun h=>by cases h
  ·refine⟨c,d,hd,?_,?_⟩
   ·rw[hce,if_neg (by rw[hi];simp)];rfl
   ·rw[if_neg (by rw[hi];simp)];exact fun h=>by cases h
 ·have hn:p8 s=none:=by cases hq:p8 s<;>simp[hq]at h |-
  rw[hn]
  exact⟨c,d,hd,rfl,fun h=>by cases h⟩
theorem pn{s:List UInt8}{e:E}(h:vF s=some e):p8 s=some e/\jM e=true/\e.dB<=400:=by
 unfold vF at h
 split at h
 ·cases h
 ·split at h
  ·rename_i e' h1 h2;cases h;exact⟨h1,h2⟩
  ·cases h
end Go.Proofs.Trees
namespace Go.Proofs.Trees
open Go Go.VL
def bV:Ty->Bool
 | .name s=>dc s
 | .plus a b=>bV a||bV b
 | .times a b=>bV a||bV b
 | .rc a=>bV a
 |_=>false
theorem gL:∀(t:Ty) (out:List (List UInt8)),(bG t out).any dc=(out.any dc||bV t)
 |
  .name s,out=>by
  simp only[bG,py,bV]
  split
  ·rename_i h
   cases hs:dc s with
   |false=>simp
   |true=>rw[Bool.or_true,cj];exact⟨s,h,hs⟩
  ·simp
 | .plus a b,out=>by simp only[bG,bV,gL a,gL b,Bool.or_assoc]
 | .times a b,out=>by simp only[bG,bV,gL a,gL b,Bool.or_assoc]
 | .rc a,out=>by simp only[bG,bV,gL a]
 | .zero,out=>by simp[bG,bV]
 | .one,out=>by simp[bG,bV]
 | .bO u,out=>by simp[bG,bV]
theorem rV(t:Ty):t.closed = !bV t:=by simp[Ty.closed,gL]
def pl:Ty->Bool
 | .name s=>decide (s.length<=1)
 | .plus a b=>pl a&&pl b
 | .times a b=>pl a&&pl b
 | .rc a=>false
 |_=>true
theorem lg{lo hi:Nat}{s:List UInt8}(h:named lo hi s=true):∃c r,s=c::r/\lo<=c.toNat/\c.toNat<=hi:=by
 cases s with
 |nil=>cases h
 |cons c r=>simp only[named,ap,decide_eq_true_eq]at h;exact⟨c,r,rfl,by omega,by omega⟩
theorem fF{x a b:E}{ar:List (List UInt8)}{t:Ty}(hx:x.at=[43])(h:cP (.list [x,a,b]) ar=some t):∃t1 t2,cP a ar=some t1/\cP b ar=some t2/\t=.plus t1 t2:=by
 rw[kN ar hx]at h
 split at h
 ·rename_i t1 t2 e1 e2;cases h;exact⟨t1,t2,e1,e2,rfl⟩
 ·cases h
theorem eU{x a b:E}{ar:List (List UInt8)}{t:Ty}(hx:x.at=[42])(h:cP (.list [x,a,b]) ar=some t):∃t1 t2,cP a ar=some t1/\cP b ar=some t2/\t=.times t1 t2:=by
 rw[jT ar hx]at h
 split at h
 ·rename_i t1 t2 e1 e2;cases h;exact⟨t1,t2,e1,e2,rfl⟩
 ·cases h
theorem dA{x a b:E}{ar:List (List UInt8)}{t:Ty}(hx:x.at=[114,101,99])(h:cP (.list [x,a,b]) ar=some t):∃t1,dc a.at=true/\cP b (ar++[a.at])=some t1/\t=.rc t1:=by
 rw[l8 ar hx]at h
 split at h
 ·rename_i hl
  split at h
  ·rename_i t1 e1;cases h;exact⟨t1,hl,e1,rfl⟩
  ·cases h
 ·cases h
theorem tV{s:List UInt8}:qg s=match vF s with|none=>none|some e=>cP e []:=by
 unfold qg vF
 cases he:p8 s with
 |none=>rfl
 |
  some e =>
  have hs:=iK e []
  simp only
  cases ht:cP e []with
  |
   none =>
   rw[ht]at hs
   rw[if_neg (by rw[<-hs];simp)]
  |
   some t =>
   rw[ht]at hs
   have ha:=jE e [] t ht
   by_cases h4:e.dB<=400
   ·rw[if_pos ⟨hs.symm,h4⟩];dsimp only;rw[if_neg (by omega)];exact ht.symm
   ·rw[if_neg (fun h=>h4 h.2)];dsimp only;rw[if_pos (by omega)]
end Go.Proofs.Trees
namespace Go.Proofs.Trees
open Go Go.VL
def pure:Ty->Bool
 | .zero=>true
 | .one=>true
 | .name s=>(s==[120])||(s==[121])||(s==[122])
 | .plus a b=>pure a&&pure b
 | .times a b=>pure a&&pure b
 |_=>false
def Lk(v:Nat):Option Nat:=if v<=1000000000 then some v else none
def HN(n:Nat):Ty->Option Nat
 | .zero=>some 0
 | .one=>some 1
 | .name _=>some n
 | .plus a b=>match HN n a,HN n b with|some x,some y=>Lk (x+y)|_,_=>none
 | .times a b=>match HN n a,HN n b with|some x,some y=>Lk (x*y)|_,_=>none
 |_=>none
def MZ(x:Option Nat):AV->List Ob->Prop:=fun r o=>∃v:Int,r=.cN [.v (.int .i64 v),.v (.bool x.isSome)]/\∀c,x=some c->v=(c:Int)
theorem MZ.ne(x:Option Nat):∃r o,MZ x r o:=by
 cases x with
 |none=>exact⟨_,[],0,rfl,fun c h=>by cases h⟩
 |some c=>exact⟨_,[],(c:Int),rfl,fun c' h=>by cases h;rfl⟩
end Go.Proofs.Trees
namespace Go.Proofs.Trees
open Go Go.VL Go.RowKit
abbrev dd(n:Nat):List UInt8:=Lib.decDigits n
theorem eE{k:Nat}(h:k<10):dd k=[ba (48+k)]:=by rw[dd,Lib.decDigits,dif_pos h]
theorem fk{k:Nat}(h:¬k<10):dd k=dd (k/10)++[ba (48+k%10)]:=by rw[dd,Lib.decDigits,dif_neg h]
theorem lC:∀(n k:Nat),k<n->(dd k).length<=k+1
 |0,k,h=>by omega
 |
  n+1,k,h=>by
  by_cases h1:k<10
  ·rw[eE h1];simp
  ·rw[fk h1]
   have:=lC n (k/10) (by omega)
   simp only[ax,aB,aJ];omega
theorem ub(d:Nat)(h:d<10):(Value.int .u8 (IntKind.wrap .u8 (IntKind.wrap .i64 (48+(d:Int)))))=.int .u8 ((ba (48+d)).toNat:Int):=by
 have:d=0\/d=1\/d=2\/d=3\/d=4\/d=5\/d=6\/d=7\/d=8\/d=9:=by omega
 rcases this with rfl|rfl|rfl|rfl|rfl|rfl|rfl|rfl|rfl|rfl<;>rfl
theorem ka(b:UInt8):bytesOf [[.v (.int .u8 (b.toNat:Int))]]=[b]:=by simp[bytesOf,w7]
theorem jx(b:UInt8):i6 [[.v (.int .u8 (b.toNat:Int))]]:=⟨rfl,(mK _ _).mpr trivial,trivial⟩
theorem AN:∀(n k:Nat),k<n->k<1000000000->an Tryz.prog 142 [.v (.int .i64 (k:Int))] [] (bA (.v (.string (mk (dd k)))))
 |0,k,h,_=>by omega
 |
  n+1,k,h,hk=>by
  refine PM _ ?_
  simp only[Ip,↓zq,zs,ac,bA]
  refine⟨fun h=>by omega,fun _=>⟨fun h=>by omega,fun _=>⟨fun h1=>?_,fun h1=>⟨by omega,?_⟩⟩⟩⟩
  ·rw[ub k (by omega)]
   refine⟨jx _,?_⟩
   rw[ka,eE (by omega)];rfl
  ·have e1:IntKind.wrap .i64 (Int.tdiv (k:Int) 10)=((k/10:Nat):Int):=by
    rw[show Int.tdiv (k:Int) 10=((k/10:Nat):Int) from (Int.ofNat_tdiv k 10).symm,wrap64 _ (by omega) (by omega)]
   have e2:Int.tmod (k:Int) 10=((k%10:Nat):Int):=(Int.ofNat_tmod k 10).symm
   rw[e1,e2,ub (k%10) (by omega)]
   refine ah (AN n (k/10) (by omega) (by omega)) ?_
   have hl:=lC (k+1) (k/10) (by omega)
   simp only[↓zq,zs,ac,zt,ka]
   have h9:(k:Int)<1000000000:=by omega
   refine⟨by omega,jx _,?_,?_⟩
   ·show (mk (dd (k/10))).size+(mk [ba (48+k%10)]).size<=_
    rw[cy,cy];simp;omega
   ·show AV.v (.string (mk (dd (k/10))++mk [ba (48+k%10)]))=_
    rw[jB,fk (k:=k) (by omega)]
theorem Cv(s:List UInt8)(d:AV)(hd:LK.sl.has d)(h:s≠[]):an Tryz.prog 121 [.agg [.v (.string (mk s)),d]] [] (bA (.v (.string (mk [])))):=by
 refine DV _ _ hd ?_
 simp only[BL,↓zq,zs,ac,zt,bA]
 exact⟨fun _=>trivial,fun h'=>absurd h' h⟩
theorem CZ(e:E):AV.agg [.v (.string ((e.ko.cs.getD 0 .any).ai)),e.ko.cs.getD 1 .any]=e.ko:=by cases e<;>rfl
mutual
def fQ:E->List UInt8
 | .atom s=>s
 | .list []=>[40,41]
 | .list (e::l)=>40::(fQ e++(en l++[41]))
def en:List E->List UInt8
 |[]=>[]
 |e::l=>32::(fQ e++en l)
end
theorem za:∀(l:List E) (i:Nat) (h:i<l.length),en (l.drop i)=32::(fQ l[i]++en (l.drop (i+1))):=by
 intro l i h
 rw[aN h,en]
theorem L6(l:List E)(hll:l.length<1000000000000)(ih:∀i (h:i<l.length),an Tryz.prog 97 [(l[i]).ko] [] (bA (.v (.string (mk (fQ l[i])))))) :
 ∀(k i:Nat) (out:List UInt8),i+k=l.length->1<=i->out.length+(en (l.drop i)).length<=1000000000000->zM [.v (.string (mk out)),.v (.int .i64 (i:Int))] [.cells [.v (.string (mk [])),.sl (E.bj l)]] (fX 1 [.v (.string (mk (out++en (l.drop i))))] [])
 |
  0,i,out,hi,h1,hn=>by
  refine C5 _ _ _ _ ?_
  simp only[AZ,↓zq,zs,ac,dW]
  have:l.drop i=[]:=bN (by omega)
  refine⟨fun h=>by omega,fun _=>?_⟩
  simp[fX,this,en]
 |
  k+1,i,out,hi,h1,hn=>by
  have hlt:i<l.length:=by omega
  have hd:=za l i hlt
  rw[hd]at hn
  simp only[aB,ax]at hn
  refine C5 _ _ _ _ ?_
  simp only[AZ,↓zq,zs,ac,zt,dW,ju l i hlt,gj,iJ,iI,aq]
  refine⟨fun _=>⟨fun _=>⟨by omega,by omega,?_⟩,fun h=>by omega⟩,fun h=>by omega⟩
  refine ah (ih i hlt) ?_
  simp only[↓zq,zs,ac,zt]
  refine⟨by simp;omega,?_⟩
  rw[a7 i (by omega),hd]
  have:=L6 l hll ih k (i+1) (out++[32]++fQ l[i]) (by omega) (by omega) (by simp;omega)
  simpa using this
theorem xh:∀(l:List E) (i:Nat) (h:i<l.length),(fQ l[i]).length<=(en l).length
 |e::l,0,_=>by simp only[en,List.getElem_cons_zero,aB,ax];omega
 |e::l,i+1,h=>by have:=xh l i (by simpa using h);simp only[en,List.getElem_cons_succ,aB,ax];omega
theorem rb:∀l:List E,l.length<=(en l).length
 |[]=>by simp[en]
 |e::l=>by have:=rb l;simp only[en,aB,ax];omega
theorem FJ:∀(n:Nat) (e:E),e.sz<n->e.ok->(fQ e).length<=900000000000->an Tryz.prog 97 [e.ko] [] (bA (.v (.string (mk (fQ e)))))
 |0,e,hn,_,_=>by omega
 |
  n+1,.atom s,hn,hok,hl=>by
  refine GO _ _ ((bw).mpr trivial) ?_
  have hne:s≠[]:=hok
  simp only[BV,↓zq,zs,ac,zt,bA]
  exact⟨fun _=>rfl,fun h=>absurd h hne⟩
 |
  n+1,.list [],hn,hok,hl=>by
  refine GO _ _ ((ca _).mpr trivial) ?_
  simp only[BV,↓zq,zs,ac,zt,bA]
  refine⟨fun h=>absurd rfl h,fun _=>?_⟩
  have h1:zM [.v (.string (mk [40])),.v (.int .i64 0)] [.cells [.v (.string (mk [])),.sl (E.bj [])]] (fX 1 [.v (.string (mk [40]))] []):=by
   refine C5 _ _ _ _ ?_
   simp[AZ,↓zq,zs,ac,E.bj,fX]
  refine cf h1 ?_
  simp only[↓zq,zs,ac,zt]
  exact⟨by simp,rfl⟩
 |
  n+1,.list (x::l),hn,hok,hl=>by
  refine GO _ _ ((ca _).mpr trivial) ?_
  simp only[E.sz,E.jP]at hn
  simp only[fQ,aB,ax,aJ]at hl
  have h2:=rb l
  simp only[BV,↓zq,zs,ac,zt,bA]
  refine⟨fun h=>absurd rfl h,fun _=>?_⟩
  have hL:zM [.v (.string (mk [40])),.v (.int .i64 0)] [.cells [.v (.string (mk [])),.sl (E.bj (x::l))]] (fX 1 [.v (.string (mk ([40]++fQ x++en l)))] []):=by
   refine C5 _ _ _ _ ?_
   simp only[AZ,E.bj,Int.toNat_zero,↓zq,zs,ac,zt,dW,gj,iJ,iI,aq]
   refine⟨fun _=>⟨fun h=>by omega,fun _=>⟨by omega,?_⟩⟩,fun h=>by omega⟩
   refine ah (FJ n x (by omega) hok.1 (by omega)) ?_
   simp only[↓zq,zs,ac,zt]
   refine⟨by simp;omega,?_⟩
   have:=L6 (x::l) (by simp;omega) (fun i hi=>by
    have h3:=tD (x::l) i hi
    simp only[E.jP]at h3
    refine FJ n _ (by omega) (sU _ i hi hok) ?_
    have h4:=xh (x::l) i hi
    simp only[en,aB,ax]at h4
    omega) l.length 1 ([40]++fQ x) (by simp;omega) (by omega) (by simp;omega)
   rw[show IntKind.wrap .i64 (0+1)=1 from rfl]
   simpa[E.bj]using this
  refine cf hL ?_
  simp only[↓zq,zs,ac,zt]
  refine⟨by simp;omega,?_⟩
  simp[fQ]
theorem C6(e:E)(h:e.ok)(hl:(fQ e).length<=900000):an Tryz.prog 97 [e.ko] [] (bA (.v (.string (mk (fQ e))))):=FJ (e.sz+1) e (by omega) h (by omega)
mutual
def E.nd:E->Nat
 | .atom _=>1
 | .list []=>1
 | .list (_::l)=>1+E.uo l
def E.uo:List E->Nat
 |[]=>0
 |e::l=>e.nd+E.uo l
end
mutual
theorem Aq:∀e:E,e.nd<=e.sz
 | .atom s=>by simp[E.nd,E.sz]
 | .list []=>by simp[E.nd,E.sz,E.jP]
 | .list (x::l)=>by have:=wx l;simp only[E.nd,E.sz,E.jP];omega
theorem wx:∀l:List E,E.uo l<=E.jP l
 |[]=>by simp[E.uo,E.jP]
 |e::l=>by have:=Aq e;have:=wx l;simp only[E.uo,E.jP];omega
end
theorem As:∀(l:List E) (i:Nat) (h:i<l.length),E.uo (l.drop i)=(l[i]).nd+E.uo (l.drop (i+1)):=by
 intro l i h
 rw[aN h];rfl
theorem NX(l:List E)(hl:E.uo l<1000000)(hll:l.length<1000000)(ih:∀i (h:i<l.length),an Tryz.prog 124 [(l[i]).ko] [] (bA (.v (.int .i64 ((l[i]).nd:Int))))) :
 ∀(k i n:Nat),i+k=l.length->n+E.uo (l.drop i)<=1+E.uo l->Bi [.v (.int .i64 (n:Int)),.v (.int .i64 (i:Int))] [.cells [.v (.string (mk [])),.sl (E.bj l)]] (fX 1 [.v (.int .i64 ((n+E.uo (l.drop i):Nat):Int))] [])
 |
  0,i,n,hi,hn=>by
  refine Cl _ _ _ _ ?_
  simp only[AA,↓zq,zs,ac,dW]
  have:l.drop i=[]:=bN (by omega)
  refine⟨fun h=>by omega,fun _=>?_⟩
  simp[fX,this,E.uo]
 |
  k+1,i,n,hi,hn=>by
  have hlt:i<l.length:=by omega
  refine Cl _ _ _ _ ?_
  simp only[AA,↓zq,zs,ac,zt,dW,ju l i hlt,gj,iJ,iI,aq]
  refine⟨fun _=>⟨by omega,?_⟩,fun h=>by omega⟩
  refine ah (ih i hlt) ?_
  have h1:=As l i hlt
  simp only[↓zq,zs,ac]
  rw[a7 i (by omega),wrap64 _ (by omega) (by omega)]
  have:=NX l hl hll ih k (i+1) (n+(l[i]).nd) (by omega) (by omega)
  rw[h1,<-Nat.add_assoc]
  simpa using this
theorem H2:∀(n:Nat) (e:E),e.sz<n->e.sz<900000->an Tryz.prog 124 [e.ko] [] (bA (.v (.int .i64 (e.nd:Int))))
 |0,e,hn,_=>by omega
 |
  n+1,.atom s,hn,hl=>by
  refine Lv _ _ ((bw).mpr trivial) ?_
  simp only[Ek]
  have hL:Bi [.v (.int .i64 1),.v (.int .i64 1)] [.cells [.v (.string (mk s)),.v (.slice none 0 0)]] (fX 1 [.v (.int .i64 1)] []):=by
   refine Cl _ _ _ _ ?_
   simp[AA,↓zq,zs,ac,fX]
  refine cf hL ?_
  simp[↓zq,zs,ac,bA,E.nd]
 |
  n+1,.list l,hn,hl=>by
  refine Lv _ _ ((ca _).mpr trivial) ?_
  simp only[E.sz]at hn hl
  simp only[Ek]
  match l,hn,hl with
  |
   [],hn,hl =>
   have hL:Bi [.v (.int .i64 1),.v (.int .i64 1)] [.cells [.v (.string (mk [])),.sl (E.bj [])]] (fX 1 [.v (.int .i64 1)] []):=by
    refine Cl _ _ _ _ ?_
    simp[AA,↓zq,zs,ac,fX,E.bj]
   refine cf hL ?_
   simp[↓zq,zs,ac,bA,E.nd]
  |
   x::l,hn,hl =>
   simp only[E.jP]at hn hl
   have h1:=wx l
   have h2:=ud l
   have h0:=Aq x
   refine cf (NX (x::l) (by simp only[E.uo];omega) (by simp;omega) (fun i hi=>?_) l.length 1 1 (by simp;omega) (by simp[E.uo])) ?_
   ·have:=tD (x::l) i hi
    simp only[E.jP]at this
    exact H2 n _ (by omega) (by omega)
   ·simp[↓zq,zs,ac,E.nd,bA]
theorem RC(e:E)(hl:e.sz<900000):an Tryz.prog 124 [e.ko] [] (bA (.v (.int .i64 (e.nd:Int)))):=H2 (e.sz+1) e (by omega) hl
inductive Vl where
 |u
 |el (k:Nat)
 |l (v:Vl)
 |r (v:Vl)
 |f (v:Vl)
 |p (a b:Vl)
abbrev vR(k:Nat):List UInt8:=101::dd k
abbrev ij:AV:=.v (.pointer none)
def Vl.cB:Vl->AV
 | .u=>.ptr [.v (.int .u8 117),.v (.string (mk [])),ij,ij]
 | .el k=>.ptr [.v (.int .u8 101),.v (.string (mk (vR k))),ij,ij]
 | .l v=>.ptr [.v (.int .u8 108),.v (.string (mk [])),v.cB,ij]
 | .r v=>.ptr [.v (.int .u8 114),.v (.string (mk [])),v.cB,ij]
 | .f v=>.ptr [.v (.int .u8 102),.v (.string (mk [])),v.cB,ij]
 | .p a b=>.ptr [.v (.int .u8 112),.v (.string (mk [])),a.cB,b.cB]
def Vl.cG:Vl->E
 | .u=>.atom [117]
 | .el k=>.atom (vR k)
 | .l v=>.list [.atom [108],v.cG]
 | .r v=>.list [.atom [114],v.cG]
 | .f v=>.list [.atom [102],v.cG]
 | .p a b=>.list [.atom [112],a.cG,b.cG]
def Vl.nodes:Vl->Nat
 | .l v=>1+v.nodes
 | .r v=>1+v.nodes
 | .f v=>1+v.nodes
 | .p a b=>1+a.nodes+b.nodes
 |_=>1
def Vl.ir(n:Nat):Vl->Prop
 | .el k=>k<n
 | .l v=>v.ir n
 | .r v=>v.ir n
 | .f v=>v.ir n
 | .p a b=>a.ir n/\b.ir n
 | .u=>True
abbrev Vl.cV(v:Vl):List UInt8:=fQ v.cG
theorem aH(v:Vl):LK.has .ptr v.cB=True:=by cases v<;>simp[Vl.cB,bY]
theorem fu(v:Vl):v.cB.isNil=false:=by cases v<;>rfl
theorem mq:∀v:Vl,v.cG.ok
 | .u=>by simp[Vl.cG,E.ok]
 | .el k=>by simp[Vl.cG,E.ok]
 | .l v=>⟨by simp[E.ok],mq v,trivial⟩
 | .r v=>⟨by simp[E.ok],mq v,trivial⟩
 | .f v=>⟨by simp[E.ok],mq v,trivial⟩
 | .p a b=>⟨by simp[E.ok],mq a,mq b,trivial⟩
theorem nw:∀v:Vl,v.cG.nd=v.nodes
 | .u=>rfl
 | .el k=>rfl
 | .l v=>by simp[Vl.cG,E.nd,E.uo,Vl.nodes,nw v]
 | .r v=>by simp[Vl.cG,E.nd,E.uo,Vl.nodes,nw v]
 | .f v=>by simp[Vl.cG,E.nd,E.uo,Vl.nodes,nw v]
 | .p a b=>by simp[Vl.cG,E.nd,E.uo,Vl.nodes,nw a,nw b,Nat.add_assoc]
theorem iV:∀v:Vl,v.ir 100->v.cV.length<=200*v.nodes
 | .u,_=>by simp[Vl.cV,Vl.cG,fQ,Vl.nodes]
 |
  .el k,h=>by
  have h':k<100:=h
  have:=lC 1000 k (by omega)
  simp only[Vl.cV,Vl.cG,fQ,Vl.nodes,aB];omega
 | .l v,h=>by have:=iV v h;simp only[Vl.cV,Vl.cG,fQ,en,Vl.nodes,aB,ax,aJ]at this |-;omega
 | .r v,h=>by have:=iV v h;simp only[Vl.cV,Vl.cG,fQ,en,Vl.nodes,aB,ax,aJ]at this |-;omega
 | .f v,h=>by have:=iV v h;simp only[Vl.cV,Vl.cG,fQ,en,Vl.nodes,aB,ax,aJ]at this |-;omega
 | .p a b,h=>by have:=iV a h.1;have:=iV b h.2;simp only[Vl.cV,Vl.cG,fQ,en,Vl.nodes,aB,ax,aJ]at *;omega
theorem ym(a b:AV)(h:LK.ptr.has a)(h':LK.ptr.has b):an Tryz.prog 117 [a,b] [] (bA (.ptr [.v (.int .u8 112),.v (.string (mk [])),a,b])):=by
 refine Rf _ _ h h' ?_
 simp[MP,↓zq,zs,ac,bA]
theorem dE(v:Vl):1<=v.nodes:=by cases v<;>simp[Vl.nodes]<;>omega
theorem D8:∀(v:Vl),v.nodes<1000000->an Tryz.prog 75 [v.cB] [] (bA (.v (.int .i64 (v.nodes:Int))))
 | .u,h=>by refine yD _ ((aH _).mpr trivial) ?_;simp[D6,Vl.cB,↓zq,zs,ac,bA,Vl.nodes]
 | .el k,h=>by refine yD _ ((aH _).mpr trivial) ?_;simp[D6,Vl.cB,↓zq,zs,ac,bA,Vl.nodes]
 |
  .l v,h=>by
  simp only[Vl.nodes]at h
  refine yD _ ((aH _).mpr trivial) ?_
  simp only[D6,Vl.cB,↓zq,zs,ac,aH,fu]
  refine⟨by omega,fun _=>⟨by omega,?_⟩,fun h=>(by cases h)⟩
  refine ah (D8 v (by omega)) ?_
  simp only[↓zq,zs,ac,bA,Vl.nodes]
  rw[wrap64 _ (by omega) (by omega)]
  simp
 |
  .r v,h=>by
  simp only[Vl.nodes]at h
  refine yD _ ((aH _).mpr trivial) ?_
  simp only[D6,Vl.cB,↓zq,zs,ac,aH,fu]
  refine⟨by omega,fun _=>⟨by omega,?_⟩,fun h=>(by cases h)⟩
  refine ah (D8 v (by omega)) ?_
  simp only[↓zq,zs,ac,bA,Vl.nodes]
  rw[wrap64 _ (by omega) (by omega)]
  simp
 |
  .f v,h=>by
  simp only[Vl.nodes]at h
  refine yD _ ((aH _).mpr trivial) ?_
  simp only[D6,Vl.cB,↓zq,zs,ac,aH,fu]
  refine⟨by omega,fun _=>⟨by omega,?_⟩,fun h=>(by cases h)⟩
  refine ah (D8 v (by omega)) ?_
  simp only[↓zq,zs,ac,bA,Vl.nodes]
  rw[wrap64 _ (by omega) (by omega)]
  simp
 |
  .p a b,h=>by
  simp only[Vl.nodes]at h
  refine yD _ ((aH _).mpr trivial) ?_
  simp only[D6,Vl.cB,↓zq,zs,ac,aH,fu]
  refine⟨by omega,fun _=>⟨by omega,?_⟩,fun h=>(by cases h)⟩
  refine ah (D8 a (by omega)) ?_
  simp only[↓zq,zs,ac,aH,fu]
  rw[wrap64 (1+(a.nodes:Int)) (by omega) (by omega)]
  refine⟨by omega,fun _=>⟨by omega,?_⟩,fun h=>(by cases h)⟩
  refine ah (D8 b (by omega)) ?_
  simp only[↓zq,zs,ac,bA,Vl.nodes]
  rw[wrap64 _ (by omega) (by omega)]
  congr 2
end Go.Proofs.Trees
namespace Go.Proofs.Trees
open Go Go.VL Go.RowKit
def yt:List UInt8->Nat->Option Nat
 |[],n=>some n
 |b::r,n=>if gY b=true then yt r (10*n+(b.toNat-48))else none
def fL(s:List UInt8):Option Nat :=
 if s.length=2\/s.length=3 then(if s.getD 0 0=101/\¬(s.length=3/\s.getD 1 0=48)then yt (s.drop 1) 0 else none)else none
def zF(s:List UInt8):Int:=match fL s with|some k=>(k:Int)|none=>-1
theorem Jq(s:List UInt8)(hs:s.length<=3):∀(k i n:Nat),i+k=s.length->1<=i->(n+1)*10 ^ k<=1000->Ew [.v (.string (mk s)),.v (.int .i64 (n:Int)),.v (.int .i64 (i:Int))] []
 (nr (match yt (s.drop i) n with|some m=>(1,[.v (.int .i64 (m:Int))],[])|none=>(2,[.v (.int .i64 (-1))],[])))
 |
  0,i,n,hi,h1,hn=>by
  refine Iu _ _ _ ?_
  have hd:s.drop i=[]:=bN (by omega)
  simp only[FM,↓zq,zs,ac,zt,hd,yt]
  exact⟨fun h=>by omega,fun _=>by first|trivial|rfl⟩
 |
  k+1,i,n,hi,h1,hn=>by
  have hlt:i<s.length:=by omega
  refine Iu _ _ _ ?_
  rw[drop_cons hlt,yt]
  simp only[FM,↓zq,zs,ac,zt,lR s i hlt]
  generalize s.getD i 0=b
  have hb:=b.toNat_lt
  refine⟨fun _=>⟨by omega,fun h48=>?_,fun h48=>⟨by omega,fun h57=>?_,fun h57=>⟨by omega,?_⟩⟩⟩,fun h=>by omega⟩
  ·have:gY b=false:=by simp only[gY,decide_eq_false_iff_not];omega
   rw[this];rfl
  ·have:gY b=false:=by simp only[gY,decide_eq_false_iff_not];omega
   rw[this];rfl
  ·have:gY b=true:=by simp only[gY,decide_eq_true_eq];omega
   rw[if_pos this]
   have hk:k=0\/k=1:=by omega
   have hn2:n*10<=1000:=by
    rcases hk with rfl|rfl<;>simp at hn<;>omega
   have e8:IntKind.wrap .u8 ((b.toNat:Int)-48)=((b.toNat-48:Nat):Int):=by
    have:b.toNat=48\/b.toNat=49\/b.toNat=50\/b.toNat=51\/b.toNat=52\/b.toNat=53\/b.toNat=54\/b.toNat=55\/b.toNat=56\/b.toNat=57:=by omega
    rcases this with h|h|h|h|h|h|h|h|h|h<;>rw[h]<;>rfl
   rw[e8,a7 i (by omega),wrap64 ((b.toNat-48:Nat):Int) (by omega) (by omega),wrap64 (10*(n:Int)) (by omega) (by omega),wrap64 _ (by omega) (by omega)]
   have e:(10*(n:Int)+((b.toNat-48:Nat):Int))=((10*n+(b.toNat-48):Nat):Int):=by omega
   rw[e]
   exact Jq s hs k (i+1) _ (by omega) (by omega) (by rcases hk with rfl|rfl<;>simp at hn |-<;>omega)
theorem Jm(s:List UInt8):an Tryz.prog 153 [.v (.string (mk s))] [] (bA (.v (.int .i64 (zF s)))):=by
 refine Oi _ ?_
 unfold H8
 refine ah (C7 _ _ _) ?_
 simp only[↓zq,zs,ac,zt,Ds,bA]
 have hL:∀(Q:Nat->List AV->List Ob->Prop),(s.length=2\/s.length=3)->s.getD 0 0=101->¬(s.length=3/\s.getD 1 0=48)->(Q 0 [.v (.int .i64 (zF s))] []) ->
  eN Tryz.prog 49 (.loop Cf BA [.v (.string (mk s)),.v (.int .i64 0),.v (.int .i64 1)] [] (fun y2 q2=>.al (LK.has (.int .i64) (y2.headD .any))<|.done 0 [.v (.int .i64 ((y2.headD .any).toInt))] []) (fun y2 q2=>.al (LK.has (.int .i64) (y2.headD .any))<|.done 0 [.v (.int .i64 ((y2.headD .any).toInt))] [])) Q:=by
  intro Q hl h0 h1 hQ
  have e:fL s=yt (s.drop 1) 0:=by rw[fL,if_pos hl,if_pos ⟨h0,h1⟩]
  refine eX (Jq s (by omega) (s.length-1) 1 0 (by omega) (by omega) (by rcases hl with h|h<;>rw[h]<;>decide)) (fun ys o e'=>?_) (fun ys o e'=>?_)
  ·cases hq:yt (s.drop 1) 0<;>rw[hq]at e'<;>cases e'
   rw[hq]at e
   simp only[zF,e]at hQ
   simp only[↓zq,zs,ac];exact hQ
  ·cases hq:yt (s.drop 1) 0<;>rw[hq]at e'<;>cases e'
   rw[hq]at e
   simp only[zF,e]at hQ
   simp only[↓zq,zs,ac];exact hQ
 have hz:∀{i:Nat},i<s.length->bt (mk s) (i:Int)=((s.getD i 0).toNat:Int):=fun h=>lR s _ h
 refine⟨fun h=>?_,fun h=>⟨?_,fun h0=>?_,fun h0=>⟨fun h3=>⟨by omega,fun h1=>?_,fun h1=>?_⟩,fun h3=>?_⟩⟩⟩
 ·have h':¬(2<=(s.length:Int)/\(s.length:Int)<=3):=by simpa using h
  rw[zF,fL,if_neg (by omega)]
 ·have h':2<=(s.length:Int)/\(s.length:Int)<=3:=by simpa using h
  omega
 ·have h':2<=(s.length:Int)/\(s.length:Int)<=3:=by simpa using h
  have e0:=hz (i:=0) (by omega)
  simp only[cQ,dh]at e0
  rw[e0]at h0
  rw[zF,fL,if_pos (by omega),if_neg]
  rintro⟨e,_⟩
  rw[e]at h0;exact h0 rfl
 ·have h':2<=(s.length:Int)/\(s.length:Int)<=3:=by simpa using h
  have e1:=hz (i:=1) (by omega)
  simp only[cQ,dh]at e1
  rw[e1]at h1
  rw[zF,fL,if_pos (by omega),if_neg]
  rintro⟨_,e⟩
  refine e ⟨by omega,?_⟩
  rw[<-dQ];show (s.getD 1 0).toNat=48;omega
 ·have h':2<=(s.length:Int)/\(s.length:Int)<=3:=by simpa using h
  have e0:=hz (i:=0) (by omega)
  have e1:=hz (i:=1) (by omega)
  simp only[cQ,dh]at e0 e1
  rw[e0]at h0;rw[e1]at h1
  refine hL _ (by omega) ?_ ?_ ⟨rfl,rfl⟩
  ·rw[<-dQ];show (s.getD 0 0).toNat=101;omega
  ·rintro⟨_,e⟩;rw[e]at h1;exact h1 rfl
 ·have h':2<=(s.length:Int)/\(s.length:Int)<=3:=by simpa using h
  have e0:=hz (i:=0) (by omega)
  simp only[cQ,dh]at e0
  rw[e0]at h0
  refine hL _ (by omega) ?_ ?_ ⟨rfl,rfl⟩
  ·rw[<-dQ];show (s.getD 0 0).toNat=101;omega
  ·rintro⟨e,_⟩;omega
theorem nN:∀(l:List UInt8) (n:Nat),(yt l n).isSome=l.all gY
 |[],n=>rfl
 |
  b::l,n=>by
  rw[yt]
  cases hb:gY b with
  |true=>rw[if_pos rfl,nN l];simp[hb]
  |false=>rw[if_neg (by simp)];simp[hb]
theorem Kc(s:List UInt8):an Tryz.prog 161 [.v (.string (mk s))] [] (bA (.v (.bool (fL s).isSome))):=by
 refine Qc _ ?_
 simp only[MN,↓zq,zs,ac,zt,bA]
 have hz:∀{i:Nat},i<s.length->bt (mk s) (i:Int)=((s.getD i 0).toNat:Int):=fun h=>lR s _ h
 refine⟨fun h=>?_,fun h=>⟨fun h3=>?_,fun h3=>?_⟩⟩
 ·rw[fL,if_neg (by omega)];rfl
 ·rw[fL,if_neg (by omega)];rfl
 ·have e0:=hz (i:=0) (by omega)
  have e1:=hz (i:=1) (by omega)
  simp only[cQ,dh]at e0 e1
  rw[e0,e1]
  have hx:s.drop (bE 1)=s.drop 1:=rfl
  refine⟨by omega,fun h0=>?_,fun h0=>⟨by omega,?_⟩⟩
  ·rw[fL,if_pos (by omega),if_neg]
   ·rfl
   ·rintro⟨e,_⟩;rw[e]at h0;exact h0 rfl
  ·rw[hx]
   refine ah (KK (s.drop 1) Hk (by simp;omega) (by decide) (by decide)) ?_
   simp only[↓zq,zs,ac,zt]
   have h101:s.getD 0 0=101:=by rw[<-dQ];show (s.getD 0 0).toNat=101;omega
   have hall:Lib.trimS (s.drop 1) Hk=[]↔(s.drop 1).all gY=true:=by
    rw[sR]
    have:(fun x=>Hk.contains x)=gY:=funext uN
    rw[this]
   refine⟨fun ht=>?_,fun ht=>⟨fun h2=>?_,fun h2=>⟨by omega,?_⟩⟩⟩
   ·have:(s.drop 1).all gY=false:=by
     cases hq:(s.drop 1).all gY with
     |false=>rfl
     |true=>exact absurd (hall.2 hq) ht
    rw[fL,if_pos (by omega)]
    split
    ·rw[nN,this]
    ·rfl
   ·have hq:=hall.1 ht
    rw[fL,if_pos (by omega),if_pos ⟨h101,by omega⟩,nN,hq]
   ·have hq:=hall.1 ht
    rw[fL,if_pos (by omega)]
    by_cases h48:s.getD 1 0=48
    ·rw[if_neg (by rintro⟨_,e⟩;exact e ⟨by omega,h48⟩),h48];rfl
    ·rw[if_pos ⟨h101,fun e=>h48 e.2⟩,nN,hq]
     have:¬((s.getD 1 0).toNat:Int)=48:=fun e=>h48 (by rw[<-dQ];show (s.getD 1 0).toNat=48;omega)
     rw[bne_iff_ne.2 this]
theorem sk{s:List UInt8}{k:Nat}(h:fL s=some k):s=vR k/\k<100:=by
 have key1:∀a:Fin 256,gY (ba a.val)=true->yt [ba a.val] 0=some ((ba a.val).toNat-48)/\(ba a.val).toNat-48<10/\[ba a.val]=[ba (48+((ba a.val).toNat-48))]:=by decide +kernel
 unfold fL at h
 split at h
 ·rename_i hl
  split at h
  ·rename_i hh
   obtain⟨h0,h1⟩:=hh
   rcases hl with hl|hl
   ·match s,hl with
    |
     [c,a],_ =>
     simp only[bh]at h0
     subst h0
     simp only[List.drop_succ_cons,a6,yt]at h
     split at h
     ·rename_i ha
      have:=key1 ⟨a.toNat,a.toNat_lt⟩ (by simpa using ha)
      simp only[UInt8.ofNat_toNat]at this
      cases h
      refine⟨?_,by omega⟩
      rw[vR,eE (by omega)]
      simp only[Nat.mul_zero,aT]
      rw[<-this.2.2]
     ·cases h
   ·match s,hl with
    |
     [c,a,b],_ =>
     simp only[bh,List.getD_cons_succ,aB,aJ,true_and]at h0 h1
     subst h0
     simp only[List.drop_succ_cons,a6,yt]at h
     split at h
     ·rename_i ha
      split at h
      ·rename_i hb
       have k1:=key1 ⟨a.toNat,a.toNat_lt⟩ (by simpa using ha)
       have k2:=key1 ⟨b.toNat,b.toNat_lt⟩ (by simpa using hb)
       simp only[UInt8.ofNat_toNat]at k1 k2
       have ha':48<=a.toNat/\a.toNat<=57:=by simpa[gY]using ha
       have hb':48<=b.toNat/\b.toNat<=57:=by simpa[gY]using hb
       have h48:a.toNat≠48:=fun e=>h1 (by rw[<-dQ];simpa using e)
       cases h
       simp only[Nat.mul_zero,aT]
       refine⟨?_,by omega⟩
       rw[vR,fk (by omega),eE (by omega)]
       have e1:(10*(a.toNat-48)+(b.toNat-48))/10=a.toNat-48:=by omega
       have e2:(10*(a.toNat-48)+(b.toNat-48))%10=b.toNat-48:=by omega
       rw[e1,e2,<-k1.2.2,<-k2.2.2];rfl
      ·cases h
     ·cases h
  ·cases h
 ·cases h
theorem u3(k:Nat)(h:k<100):fL (vR k)=some k:=by
 have e:∀k,k<100->dd k=if k<10 then [ba (48+k)]else [ba (48+k/10),ba (48+k%10)]:=by
  intro k hk
  by_cases h1:k<10
  ·rw[eE h1,if_pos h1]
  ·rw[fk h1,eE (by omega),if_neg h1];rfl
 have key:∀k:Fin 100,fL (101::(if k.val<10 then [ba (48+k.val)]else [ba (48+k.val/10),ba (48+k.val%10)]))=some k.val:=by decide +kernel
 rw[vR,e k h];exact key ⟨k,h⟩
theorem Hr(k:Nat)(h:k<100):zF (vR k)=(k:Int):=by rw[zF,u3 k h]
def yd:E->Bool
 | .atom s=>(s==[117])||(fL s).isSome
 | .list [x,a]=>((x.at==[108])||(x.at==[114])||(x.at==[102]))&&yd a
 | .list [x,a,b]=>(x.at==[112])&&(yd a&&yd b)
 | .list _=>false
def fH:E->Option Vl
 | .atom s=>if s=[117]then some .u else match fL s with|some k=>some (.el k)|none=>none
 |
  .list [x,a]=>match fH a with
  |none=>none
  |some v=>if x.at=[108]then some (.l v)else if x.at=[114]then some (.r v)else if x.at=[102]then some (.f v)else none
 | .list [x,a,b]=>if x.at=[112]then(match fH a,fH b with|some v,some w=>some (.p v w)|_,_=>none)else none
 | .list _=>none
theorem om:∀e:E,(fH e).isSome=yd e
 |
  .atom s=>by
  simp only[fH,yd]
  by_cases h:s=[117]
  ·simp[h]
  ·rw[if_neg h];cases fL s<;>simp[h]
 | .list []=>rfl
 | .list [_]=>rfl
 |
  .list [x,a]=>by
  have ha:=om a
  rw[fH,yd,<-ha]
  cases fH a with
  |none=>simp
  |
   some v =>
   by_cases h1:x.at=[108]
   ·simp[h1]
   ·by_cases h2:x.at=[114]
    ·simp[h2]
    ·by_cases h3:x.at=[102]
     ·simp[h3]
     ·simp[h1,h2,h3]
 |
  .list [x,a,b]=>by
  have ha:=om a
  have hb:=om b
  rw[fH,yd,<-ha,<-hb]
  by_cases h1:x.at=[112]
  ·rw[if_pos h1,h1];cases fH a<;>cases fH b<;>rfl
  ·simp[h1]
 | .list (_::_::_::_::_)=>rfl
theorem j9{x:E}{w:List UInt8}(h:x.at=w)(hw:w≠[]):x=.atom w:=by
 cases x with
 |atom s=>exact congrArg E.atom h
 |list l=>exact absurd h.symm hw
theorem kE:∀(e:E) (v:Vl),fH e=some v->v.cG=e/\v.ir 100
 |
  .atom s,v,h=>by
  simp only[fH]at h
  split at h
  ·rename_i h1;cases h;exact⟨by rw[h1];rfl,trivial⟩
  ·split at h
   ·rename_i k hk
    cases h
    obtain⟨h1,h2⟩:=sk hk
    exact⟨by rw[h1];rfl,h2⟩
   ·cases h
 | .list [],_,h=>by cases h
 | .list [_],_,h=>by cases h
 | .list (_::_::_::_::_),_,h=>by cases h
 |
  .list [x,a],v,h=>by
  rw[fH]at h
  split at h
  ·cases h
  ·rename_i w hw
   obtain⟨h1,h2⟩:=kE a w hw
   split at h
   ·rename_i hx;cases h;rw[j9 hx (by simp)];exact⟨by rw[Vl.cG,h1],h2⟩
   ·split at h
    ·rename_i hx;cases h;rw[j9 hx (by simp)];exact⟨by rw[Vl.cG,h1],h2⟩
    ·split at h
     ·rename_i hx;cases h;rw[j9 hx (by simp)];exact⟨by rw[Vl.cG,h1],h2⟩
     ·cases h
 |
  .list [x,a,b],v,h=>by
  rw[fH]at h
  split at h
  ·rename_i hx
   split at h
   ·rename_i w1 w2 hw1 hw2
    cases h
    obtain⟨h1,h2⟩:=kE a w1 hw1
    obtain⟨h3,h4⟩:=kE b w2 hw2
    rw[j9 hx (by simp)]
    exact⟨by rw[Vl.cG,h1,h3],h2,h4⟩
   ·cases h
  ·cases h
def pC(e:E)(w:List UInt8)(k:Nat):Bool:=match e with| .list (x::l)=>decide (l.length+1=k)&&(x.at==w)|_=>false
theorem si(e:E)(w:List UInt8)(k:Nat)(hk:1<=k):an Tryz.prog 162 [e.cB,.v (.string (mk w)),.v (.int .i64 (k:Int))] [] (bA (.v (.bool (pC e w k)))):=by
 refine Mv _ _ _ ((cS e).mpr trivial) ?_
 cases e with
 |atom s=>simp only[AY,E.cB,↓zq,zs,ac,zt,bA,pC];exact⟨by omega,fun h=>by omega,fun _=>trivial⟩
 |
  list l =>
  simp only[AY,E.cB,↓zq,zs,ac,zt,bA,qM]
  cases l with
  |nil=>exact⟨by simp,fun h=>by simp at h;omega,fun _=>rfl⟩
  |
   cons x l =>
   simp only[aB]
   refine⟨by simp,fun h=>?_,fun h=>?_⟩
   ·have:decide (l.length+1=k)=true:=by rw[decide_eq_true_eq];omega
    simp only[pC,this]
    cases x<;>simp[E.lX,E.cB,bY,oW,jA,ej,tO,toList_mk,E.at]
   ·have:decide (l.length+1=k)=false:=by rw[decide_eq_false_iff_not];omega
    simp only[pC,this];rfl
def i7:Option Vl->AV
 |some v=>v.cB
 |none=>.v (.pointer none)
end Go.Proofs.Trees
namespace Go.Proofs.Trees
open Go Go.VL Go.RowKit
theorem gn(v:Option Vl):LK.has .ptr (i7 v)=True:=by cases v<;>simp[i7,aH,iT]
theorem yY:∀(e:E),e.ok->an Tryz.prog 129 [e.cB] [] (bA (i7 (fH e)))
 |
  .atom s,hok=>by
  refine IU _ ((cS _).mpr trivial) ?_
  have hd:=ni (.atom s)
  have hlen:=kV (.atom s)
  simp only[E.at]at hd
  simp only[Hc,↓zq,zs,ac,zt,bA,cS,eh,hd,fH]
  refine⟨hlen,fun h=>?_,fun h=>⟨hlen,?_⟩⟩
  ·rw[if_pos h];rfl
  ·rw[if_neg h]
   refine ah (Kc s) ?_
   simp only[↓zq,zs,ac,zt]
   refine⟨fun he=>⟨hlen,?_⟩,fun he=>?_⟩
   ·obtain⟨k,hk⟩:=cm.1 he
    obtain⟨h1,h2⟩:=sk hk
    rw[hk,h1];rfl
   ·have hn:fL s=none:=by cases hq:fL s<;>simp[hq]at he |-
    rw[hn]
    refine ah (si (.atom s) [108] 2 (by omega)) ?_
    simp only[pC,↓zq,zs,ac,zf]
    refine⟨fun h=>(by cases h),fun _=>ah (si (.atom s) [114] 2 (by omega)) ?_⟩
    simp only[pC,↓zq,zs,ac,zf]
    refine⟨fun h=>(by cases h),fun _=>ah (si (.atom s) [102] 2 (by omega)) ?_⟩
    simp only[pC,↓zq,zs,ac,zf]
    refine⟨fun h=>(by cases h),fun _=>ah (si (.atom s) [112] 3 (by omega)) ?_⟩
    simp only[pC,↓zq,zs,ac,zf]
    exact⟨fun h=>(by cases h),fun _=>rfl⟩
 |
  .list l,hok=>by
  refine IU _ ((cS _).mpr trivial) ?_
  have hd:=ni (.list l)
  have hlen:=kV (.list l)
  have hlen2:∀{l:List E},((AV.v (.string (mk [])))::[AV.sl (E.lX l)]).length=2:=rfl
  simp only[E.at]at hd
  have he:fL []=none:=rfl
  simp only[Hc,↓zq,zs,ac,zt,bA,cS,eh,hd]
  refine⟨hlen,fun h=>(by cases h),fun h=>⟨hlen,?_⟩⟩
  refine ah (Kc []) ?_
  rw[he]
  simp only[↓zq,zs,ac,zt,zf,bB]
  refine⟨fun h=>(by cases h),fun _=>ah (si (.list l) [108] 2 (by omega)) ?_⟩
  have hno:∀w:List UInt8,(∀x a,l≠[x,a])->pC (.list l) w 2=false:=by
   intro w h2
   match l,h2 with
   |[],_=>rfl
   |[x],_=>rfl
   |[x,a],h2=>exact absurd rfl (h2 x a)
   |x::y::z::l,_=>simp[pC]
  match l,hok,hno,hlen with
  |
   [x,a],hok,hno,hlen =>
   clear hno
   obtain⟨ok1,ok2,_⟩:=hok
   have e2:∀w:List UInt8,pC (.list [x,a]) w 2=(x.at==w):=fun w=>rfl
   have e3:pC (.list [x,a]) [112] 3=false:=rfl
   have hx:=ni x
   have hxl:=kV x
   rw[fH]
   simp only[e2,↓zq,zs,ac]
   refine⟨fun h1=>?_,fun h1=>ah (si (.list [x,a]) [114] 2 (by omega)) ?_⟩
   ·simp only[E.cB,E.lX,toNat_one,↓zq,zs,ac,zt,cS,eh]
    refine⟨by omega,by omega,by omega,ah (yY a ok2) ?_⟩
    cases hv:fH a with
    |none=>simp only[i7,↓zq,zs,ac,gn];exact⟨fun _=>trivial,fun h=>(by cases h)⟩
    |
     some v =>
     simp only[i7,↓zq,zs,ac,zt,aH,fu,hx,h1,cS,eh]
     refine⟨fun h=>(by cases h),fun _=>⟨by omega,by omega,by omega,hxl,by simp,?_⟩⟩
     rfl
   ·simp only[e2,↓zq,zs,ac]
    refine⟨fun h2=>?_,fun h2=>ah (si (.list [x,a]) [102] 2 (by omega)) ?_⟩
    ·simp only[E.cB,E.lX,toNat_one,↓zq,zs,ac,zt,cS,eh]
     refine⟨by omega,by omega,by omega,ah (yY a ok2) ?_⟩
     cases hv:fH a with
     |none=>simp only[i7,↓zq,zs,ac,gn];exact⟨fun _=>trivial,fun h=>(by cases h)⟩
     |
      some v =>
      simp only[i7,↓zq,zs,ac,zt,aH,fu,hx,h2,cS,eh]
      refine⟨fun h=>(by cases h),fun _=>⟨by omega,by omega,by omega,hxl,by simp,?_⟩⟩
      rfl
    ·simp only[e2,↓zq,zs,ac]
     refine⟨fun h3=>?_,fun h3=>ah (si (.list [x,a]) [112] 3 (by omega)) ?_⟩
     ·simp only[E.cB,E.lX,toNat_one,↓zq,zs,ac,zt,cS,eh]
      refine⟨by omega,by omega,by omega,ah (yY a ok2) ?_⟩
      cases hv:fH a with
      |none=>simp only[i7,↓zq,zs,ac,gn];exact⟨fun _=>trivial,fun h=>(by cases h)⟩
      |
       some v =>
       simp only[i7,↓zq,zs,ac,zt,aH,fu,hx,h3,cS,eh]
       refine⟨fun h=>(by cases h),fun _=>⟨by omega,by omega,by omega,hxl,by simp,?_⟩⟩
       rfl
     ·rw[e3]
      simp only[↓zq,zs,ac]
      refine⟨fun h=>(by cases h),fun _=>?_⟩
      cases fH a with
      |none=>rfl
      |some v=>simp only[if_neg h1,if_neg h2,if_neg h3];rfl
  |
   [x,a,b],hok,hno,hlen =>
   obtain⟨ok1,ok2,ok3,_⟩:=hok
   have h2:=fun w=>hno w (fun x a h=>(by cases h))
   rw[h2]
   simp only[↓zq,zs,ac]
   refine⟨fun h=>(by cases h),fun _=>ah (si (.list [x,a,b]) [114] 2 (by omega)) ?_⟩
   rw[h2]
   simp only[↓zq,zs,ac]
   refine⟨fun h=>(by cases h),fun _=>ah (si (.list [x,a,b]) [102] 2 (by omega)) ?_⟩
   rw[h2]
   simp only[↓zq,zs,ac]
   refine⟨fun h=>(by cases h),fun _=>ah (si (.list [x,a,b]) [112] 3 (by omega)) ?_⟩
   have e3:pC (.list [x,a,b]) [112] 3=(x.at==[112]):=rfl
   rw[e3,fH]
   simp only[↓zq,zs,ac]
   refine⟨fun h1=>?_,fun h1=>?_⟩
   ·rw[if_pos h1]
    simp only[E.cB,E.lX,toNat_one,bi,↓zq,zs,ac,zt,cS,eh]
    refine⟨by omega,by omega,by omega,ah (yY a ok2) ?_⟩
    simp only[↓zq,zs,ac,gn,cS]
    refine⟨by omega,by omega,by omega,ah (yY b ok3) ?_⟩
    cases hv:fH a with
    |none=>cases hw:fH b<;>simp only[i7,↓zq,zs,ac,gn,aH]<;>exact⟨fun _=>trivial,fun h=>(by cases h)⟩
    |
     some v =>
     cases hw:fH b with
     |
      none =>
      simp only[i7,↓zq,zs,ac,gn,aH,fu]
      exact⟨fun h=>(by cases h),fun _=>⟨fun _=>trivial,fun h=>(by cases h)⟩⟩
     |
      some w =>
      simp only[i7,↓zq,zs,ac,aH,fu]
      refine⟨fun h=>(by cases h),fun _=>⟨fun h=>(by cases h),fun _=>?_⟩⟩
      refine ah (ym _ _ ((aH _).mpr trivial) ((aH _).mpr trivial)) ?_
      simp only[↓zq,zs,ac];rfl
   ·rw[if_neg h1];rfl
  |
   [],hok,hno,hlen =>
   have h2:=fun w=>hno w (fun x a h=>(by cases h))
   have e3:pC (.list []) [112] 3=false:=rfl
   rw[h2]
   simp only[↓zq,zs,ac]
   refine⟨fun h=>(by cases h),fun _=>ah (si (.list []) [114] 2 (by omega)) ?_⟩
   rw[h2]
   simp only[↓zq,zs,ac]
   refine⟨fun h=>(by cases h),fun _=>ah (si (.list []) [102] 2 (by omega)) ?_⟩
   rw[h2]
   simp only[↓zq,zs,ac]
   refine⟨fun h=>(by cases h),fun _=>ah (si (.list []) [112] 3 (by omega)) ?_⟩
   rw[e3]
   simp only[↓zq,zs,ac]
   exact⟨fun h=>(by cases h),fun _=>rfl⟩
  |
   [x],hok,hno,hlen =>
   have h2:=fun w=>hno w (fun x a h=>(by cases h))
   have e3:pC (.list [x]) [112] 3=false:=rfl
   rw[h2]
   simp only[↓zq,zs,ac]
   refine⟨fun h=>(by cases h),fun _=>ah (si (.list [x]) [114] 2 (by omega)) ?_⟩
   rw[h2]
   simp only[↓zq,zs,ac]
   refine⟨fun h=>(by cases h),fun _=>ah (si (.list [x]) [102] 2 (by omega)) ?_⟩
   rw[h2]
   simp only[↓zq,zs,ac]
   refine⟨fun h=>(by cases h),fun _=>ah (si (.list [x]) [112] 3 (by omega)) ?_⟩
   rw[e3]
   simp only[↓zq,zs,ac]
   exact⟨fun h=>(by cases h),fun _=>rfl⟩
  |
   x::y::z::w::l,hok,hno,hlen =>
   have h2:=fun w=>hno w (fun x a h=>(by cases h))
   have e3:pC (.list (x::y::z::w::l)) [112] 3=false:=by simp[pC]
   rw[h2]
   simp only[↓zq,zs,ac]
   refine⟨fun h=>(by cases h),fun _=>ah (si (.list (x::y::z::w::l)) [114] 2 (by omega)) ?_⟩
   rw[h2]
   simp only[↓zq,zs,ac]
   refine⟨fun h=>(by cases h),fun _=>ah (si (.list (x::y::z::w::l)) [102] 2 (by omega)) ?_⟩
   rw[h2]
   simp only[↓zq,zs,ac]
   refine⟨fun h=>(by cases h),fun _=>ah (si (.list (x::y::z::w::l)) [112] 3 (by omega)) ?_⟩
   rw[e3]
   simp only[↓zq,zs,ac]
   exact⟨fun h=>(by cases h),fun _=>rfl⟩
def rK(s:List UInt8):Option Vl:=match p8 s with
 |none=>none
 |
  some e=>match fH e with
  |none=>none
  |some v=>if v.nodes>200 then none else some v
theorem lL{s:List UInt8}{v:Vl}(h:rK s=some v):p8 s=some v.cG/\v.ir 100/\v.nodes<=200:=by
 unfold rK at h
 split at h
 ·cases h
 ·rename_i e he
  split at h
  ·cases h
  ·rename_i w hw
   split at h
   ·cases h
   ·cases h
    obtain⟨h1,h2⟩:=kE e _ hw
    rw[h1]
    exact⟨he,h2,by omega⟩
theorem wy{e:E}{v:Vl}(h:fH e=some v):v.nodes<=e.sz:=by
 obtain⟨h1,_⟩:=kE e v h
 rw[<-nw,h1];exact Aq e
theorem PH(s:List UInt8):an Tryz.prog 94 [.v (.string (mk s))] [] (bA (i7 (rK s))):=by
 refine QI _ ?_
 unfold H7
 refine ah (Nx s) ?_
 unfold rK
 cases he:p8 s with
 |none=>simp only[tf,↓zq,zs,ac,bA,i7];simp
 |
  some e =>
  obtain⟨h1,h2⟩:=ny he
  simp only[tf,↓zq,zs,ac,cS,eh]
  refine⟨fun h=>(by cases h),fun _=>?_⟩
  refine ah (yY e h1) ?_
  cases hv:fH e with
  |none=>simp only[i7,↓zq,zs,ac,bA];simp
  |
   some v =>
   have hn:=wy hv
   simp only[i7,↓zq,zs,ac,aH,fu]
   refine⟨fun h=>(by cases h),fun _=>?_⟩
   refine ah (D8 v (by omega)) ?_
   simp only[↓zq,zs,ac,bA]
   refine⟨fun h=>?_,fun h=>?_⟩
   ·rw[if_pos (by omega)]
   ·rw[if_neg (by omega)]
theorem yG:∀(e:E),e.ok->an Tryz.prog 123 [e.ko] [] (bA (.v (.bool (yd e))))
 |
  .atom s,hok=>by
  refine yZ _ _ ((bw).mpr trivial) ?_
  have hne:s≠[]:=hok
  simp only[E3,↓zq,zs,ac,zt,bA,yd]
  refine⟨fun _=>⟨fun h=>?_,fun h=>?_⟩,fun h=>absurd h hne⟩
  ·simp[h]
  ·refine ah (Jm s) ?_
   have h':(s==[117])=false:=by simpa using h
   simp only[↓zq,zs,ac,h',Bool.false_or]
   congr 2
   rw[zF]
   cases fL s with
   |none=>rfl
   |some k=>simp
 |
  .list [],hok=>by
  refine yZ _ _ ((ca _).mpr trivial) ?_
  simp only[E3,↓zq,zs,ac,zt,bA,yd]
  refine⟨fun h=>absurd rfl h,fun _=>?_⟩
  refine ah Q4 ?_
  simp[↓zq,zs,ac,zt]
 |
  .list [x],hok=>by
  refine yZ _ _ ((ca _).mpr trivial) ?_
  simp only[E3,↓zq,zs,ac,zt,bA,yd]
  refine⟨fun h=>absurd rfl h,fun _=>?_⟩
  refine ah (ur x _) ?_
  simp[↓zq,zs,ac,zt,E.bj]
 |
  .list (x::y::z::w::l),hok=>by
  refine yZ _ _ ((ca _).mpr trivial) ?_
  simp only[E3,↓zq,zs,ac,zt,bA,yd]
  refine⟨fun h=>absurd rfl h,fun _=>?_⟩
  refine ah (ur x _) ?_
  simp only[↓zq,zs,ac,zt,E.bj]
  refine⟨fun _=>⟨fun h=>by omega,fun _=>trivial⟩,fun _=>⟨fun _=>⟨fun h=>by omega,fun _=>trivial⟩,fun _=>⟨fun _=>⟨fun h=>by omega,fun _=>trivial⟩,fun _=>⟨fun _=>⟨fun h=>by omega,fun _=>trivial⟩,fun _=>trivial⟩⟩⟩⟩
 |
  .list [x,a],hok=>by
  refine yZ _ _ ((ca _).mpr trivial) ?_
  obtain⟨ok1,ok2,_⟩:=hok
  simp only[E3,↓zq,zs,ac,zt,bA,yd]
  refine⟨fun h=>absurd rfl h,fun _=>?_⟩
  refine ah (ur x _) ?_
  simp only[E.bj,toNat_one,bi,↓zq,zs,ac,zt,iI,gj,iJ,l4,aq]
  refine⟨fun h=>⟨fun _=>⟨by omega,?_⟩,fun h=>by omega⟩,fun h1=>⟨fun h=>⟨fun _=>⟨by omega,?_⟩,fun h=>by omega⟩,fun h2=>⟨fun h=>⟨fun _=>⟨by omega,?_⟩,fun h=>by omega⟩,fun h3=>⟨fun h=>⟨fun h=>by omega,fun _=>?_⟩,fun h=>?_⟩⟩⟩⟩
  ·refine ah (yG a ok2) ?_
   simp[↓zq,zs,ac,h]
  ·refine ah (yG a ok2) ?_
   simp[↓zq,zs,ac,h]
  ·refine ah (yG a ok2) ?_
   simp[↓zq,zs,ac,h]
  ·simp[h]
  ·simp[h1,h2,h3]
 |
  .list [x,a,b],hok=>by
  refine yZ _ _ ((ca _).mpr trivial) ?_
  obtain⟨ok1,ok2,ok3,_⟩:=hok
  simp only[E3,↓zq,zs,ac,zt,bA,yd]
  refine⟨fun h=>absurd rfl h,fun _=>?_⟩
  refine ah (ur x _) ?_
  simp only[E.bj,toNat_one,bi,↓zq,zs,ac,zt,iI,gj,iJ,l4,aq]
  refine⟨fun h=>⟨fun h=>by omega,fun _=>?_⟩,fun h1=>⟨fun h=>⟨fun h=>by omega,fun _=>?_⟩,fun h2=>⟨fun h=>⟨fun h=>by omega,fun _=>?_⟩,fun h3=>⟨fun h=>⟨fun _=>⟨by omega,?_⟩,fun h=>by omega⟩,fun h=>?_⟩⟩⟩⟩
  ·simp[h]
  ·simp[h]
  ·simp[h]
  ·refine ah (yG a ok2) ?_
   simp only[↓zq,zs,ac,h]
   refine⟨fun ha=>⟨by omega,ah (yG b ok3) ?_⟩,fun ha=>?_⟩
   ·simp[↓zq,zs,ac,ha]
   ·simp[ha]
  ·simp[h]
theorem C0(s:List UInt8):an Tryz.prog 89 [.v (.string (mk s))] [] (jO ((rK s).map Vl.cG) (rK s).isSome):=by
 refine Qb _ ?_
 unfold Ju
 refine bU (Jb s) (jO.ne _ _ (fun h=>h)) ?_
 rintro r o ⟨c,d,hd,rfl,hh⟩
 simp only[↓zq,zs,ac,zt,bC,rK]
 refine⟨hd,fun h=>?_,fun h=>?_⟩
 ·obtain⟨e,he,hce⟩:=hh h
  obtain⟨hok,hsz⟩:=ny he
  rw[he,hce]
  refine ah (yG e hok) ?_
  simp only[↓zq,zs,ac]
  have hs:=om e
  refine⟨fun hi=>?_,fun hi=>?_⟩
  ·rw[hi]at hs
   obtain⟨v,hv⟩:=cm.1 hs
   obtain⟨h1,h2⟩:=kE e v hv
   refine ah (RC e (by omega)) ?_
   simp only[↓zq,zs,ac,hv]
   have hnd:e.nd=v.nodes:=by rw[<-h1,nw]
   rw[hnd]
   refine⟨c,d,hd,?_,?_⟩
   ·rw[hce]
    by_cases h4:v.nodes>200
    ·rw[if_pos h4];exact congrArg (fun b=>AV.cN [e.ko,.v (.bool b)]) (decide_eq_false (show ¬((v.nodes:Nat):Int)<=200 by omega))
    ·rw[if_neg h4];exact congrArg (fun b=>AV.cN [e.ko,.v (.bool b)]) (decide_eq_true (show ((v.nodes:Nat):Int)<=200 by omega))
   ·split
    ·exact fun h=>by cases h
    ·exact fun _=>⟨e,by simp[h1],hce⟩
  ·rw[hi]at hs
   have hn:fH e=none:=by cases hq:fH e<;>simp[hq]at hs |-
   rw[hn]
   exact⟨c,d,hd,by rw[hce];rfl,fun h=>by cases h⟩
 ·have hn:p8 s=none:=by cases hq:p8 s<;>simp[hq]at h |-
  rw[hn]
  exact⟨c,d,hd,rfl,fun h=>by cases h⟩
end Go.Proofs.Trees
namespace Go.Proofs.Trees
open Go Go.VL Go.RowKit
inductive Fr where
 |mk (s:List UInt8) (e:E) (o:List Fr)
def Fr.nm:Fr->List UInt8| .mk s _ _=>s
def Fr.ex:Fr->E| .mk _ e _=>e
def Fr.out:Fr->List Fr| .mk _ _ o=>o
def names:List Fr->List (List UInt8)
 |[]=>[]
 |f::r=>names r++[f.nm]
def xH(e:E)(o:List Fr):Ty:=(cP e (names o)).getD .zero
def E.sp:E->AV
 | .atom _=>.v (.slice none 0 0)
 | .list l=>.sl (E.bj l)
theorem fC(e:E):e.im=[.v (.string (mk e.at)),e.sp]:=by cases e<;>rfl
theorem dw(e:E):e.ko=.agg [.v (.string (mk e.at)),e.sp]:=by cases e<;>rfl
theorem aY(e:E):LK.has .sl e.sp=True:=by cases e<;>simp[E.sp,bw,ca]
mutual
def Fr.cells:Fr->List AV
 | .mk s e o=>[.v (.string (mk s)),.v (.string (mk e.at)),e.sp,.sl (jY o)]
def jY:List Fr->List (List AV)
 |[]=>[]
 |f::r=>jY r++[f.cells]
end
mutual
def Fr.cB:Fr->AV
 | .mk s e o=>.ptr [(xH e o).av,ot o]
def ot:List Fr->AV
 |[]=>ij
 |f::r=>.ptr [f.cB,ot r]
end
inductive WF:List Fr->Prop
 |nil:WF []
 |cons {s:List UInt8} {x a b:E} {t:Ty} {r:List Fr} (hs:dc s=true) (hok:(E.list [x,a,b]).ok) (hx:x.at=[114,101,99]) (ht:cP (.list [x,a,b]) (names r)=some t) (hf:bV t=false) (hr:WF r):WF (.mk s (.list [x,a,b]) r::r)
theorem kC:∀env:List Fr,(jY env).length=env.length
 |[]=>rfl
 |f::r=>by simp[jY,kC r]
theorem ep(env:List Fr):LK.has .ptr (ot env)=True:=by cases env<;>simp[ot,iT,bY]
theorem Bv(f:Fr):LK.has .ptr f.cB=True:=by cases f;simp[Fr.cB,bY]
def fS(s:List UInt8):List Fr->Option Fr
 |[]=>none
 |f::r=>if f.nm=s then some f else fS s r
def hd(e:E)(env:List Fr):E×List Fr:=match fS e.at env with|some f=>(f.ex,f.out)|none=>(e,env)
theorem kQ{env:List Fr}(h:WF env):fS [] env=none:=by
 induction h with
 |nil=>rfl
 |
  @cons s x a b t r hs hok hx ht hf hr ih =>
  rw[fS,if_neg (show ¬(Fr.mk s (.list [x,a,b]) r).nm=[] from Ba hs)];exact ih
theorem yy{env:List Fr}(h:WF env){s:List UInt8}{f:Fr}(hf:fS s env=some f):dc s=true:=by
 induction h with
 |nil=>cases hf
 |
  cons hs hok hx ht hf' hr ih =>
  rw[fS]at hf
  split at hf
  ·rename_i e;exact e ▸ hs
  ·exact ih hf
theorem oe{env:List Fr}(h:WF env){s:List UInt8}{f:Fr}(hf:fS s env=some f):∃x a b t,f.ex=.list [x,a,b]/\(E.list [x,a,b]).ok/\x.at=[114,101,99]/\cP f.ex (names f.out)=some t/\bV t=false/\WF f.out/\f.out.length<env.length:=by
 induction h with
 |nil=>cases hf
 |
  cons hs hok hx ht hf' hr ih =>
  rw[fS]at hf
  split at hf
  ·cases hf;exact⟨_,_,_,_,rfl,hok,hx,ht,hf',hr,by simp[Fr.out]⟩
  ·obtain⟨x,a,b,t,h1,h2,h3,h4,h5,h6,h7⟩:=ih hf
   exact⟨x,a,b,t,h1,h2,h3,h4,h5,h6,by simp;omega⟩
theorem j3(s w:List UInt8)(ar:List (List UInt8)):∀i,i<=ar.length->bI s (ar++[w]) i=(bI s ar i).map (·+1)
 |0,_=>rfl
 |
  i+1,hi=>by
  have hlt:i<ar.length:=by omega
  have e:(ar++[w]).getD i []=ar.getD i []:=by simp[aa,List.getElem?_append_left hlt]
  rw[bI,bI,e,j3 s w ar i (by omega)]
  split
  ·simp only[ax,aB,aJ,ck,Option.some.injEq];omega
  ·rfl
theorem uM(s:List UInt8)(f:Fr)(r:List Fr):bI s (names (f::r)) (names (f::r)).length=if f.nm=s then some 0 else(bI s (names r) (names r).length).map (·+1):=by
 have e:(names (f::r)).length=(names r).length+1:=by simp[names]
 rw[e,bI]
 have e2:(names (f::r)).getD (names r).length []=f.nm:=by simp[names,aa]
 rw[e2]
 split
 ·rw[e];simp
 ·rw[names,j3 _ _ _ _ (aq _)]
theorem og(s:List UInt8):∀env:List Fr,bI s (names env) (names env).length=none/\fS s env=none\/∃(u:Nat) (f:Fr),bI s (names env) (names env).length=some u/\fS s env=some f/\env[u]?=some f
 |[]=>.inl ⟨rfl,rfl⟩
 |
  f::r=>by
  rw[uM,fS]
  split
  ·exact .inr ⟨0,f,rfl,rfl,rfl⟩
  ·rcases og s r with⟨h1,h2⟩|⟨u,g,h1,h2,h3⟩
   ·exact .inl ⟨by rw[h1];rfl,h2⟩
   ·exact .inr ⟨u+1,g,by rw[h1];rfl,h2,by simpa using h3⟩
def Ty.N7:Ty->Bool
 | .bO _=>true
 |_=>false
theorem gl{e:E}{env:List Fr}{t:Ty}(hw:WF env)(ht:cP e (names env)=some t) :
 (t.N7=false/\fS e.at env=none)\/∃(u:Nat) (f:Fr),t=.bO u/\fS e.at env=some f/\env[u]?=some f:=by
 cases e with
 |
  list l =>
  left
  refine⟨?_,kQ hw⟩
  match l,ht with
  |
   [x,a,b],ht =>
   by_cases h0:x.at=[43]
   ·obtain⟨t1,t2,_,_,rfl⟩:=fF h0 ht;rfl
   ·by_cases h1:x.at=[42]
    ·obtain⟨t1,t2,_,_,rfl⟩:=eU h1 ht;rfl
    ·by_cases h2:x.at=[114,101,99]
     ·obtain⟨t1,_,_,rfl⟩:=dA h2 ht;rfl
     ·rw[iP _ h0 h1 h2]at ht;cases ht
  |[],ht=>cases ht
  |[_],ht=>cases ht
  |[_,_],ht=>cases ht
  |_::_::_::_::_,ht=>cases ht
 |
  atom s =>
  simp only[cP]at ht
  have hno:dc s=false->fS s env=none:=fun h=>by
   cases hq:fS s env with
   |none=>rfl
   |some f=>rw[yy hw hq]at h;cases h
  split at ht
  ·rename_i h;cases ht;subst h;exact .inl ⟨rfl,hno rfl⟩
  ·split at ht
   ·rename_i h;cases ht;subst h;exact .inl ⟨rfl,hno rfl⟩
   ·split at ht
    ·rename_i h
     cases ht
     refine .inl ⟨rfl,hno ?_⟩
     cases hq:dc s with
     |false=>rfl
     |
      true =>
      obtain⟨c,r,rfl,h1,h2⟩:=lg h
      obtain⟨c',r',he,h3,h4⟩:=lg hq
      cases he;omega
    ·split at ht
     ·rcases og s env with⟨h1,h2⟩|⟨u,f,h1,h2,h3⟩
      ·rw[h1]at ht;cases ht;exact .inl ⟨rfl,h2⟩
      ·rw[h1]at ht;cases ht;exact .inr ⟨u,f,rfl,h2,h3⟩
     ·cases ht
def eQ(n:Nat):Vl->E×List Fr->Bool
 | .u,p=>match hd p.1 p.2 with|(.atom s,_)=>s==[49]|_=>false
 | .el k,p=>match hd p.1 p.2 with|(.atom s,_)=>!(s==[49])&&(gJ s&&decide (k<n))|_=>false
 | .l w,p=>match hd p.1 p.2 with|(.list [x,a,b],o)=>(x.at==[43])&&eQ n w (a,o)|_=>false
 | .r w,p=>match hd p.1 p.2 with|(.list [x,a,b],o)=>(x.at==[43])&&eQ n w (b,o)|_=>false
 | .f w,p=>match hd p.1 p.2 with|(.list [x,a,b],o)=>(x.at==[114,101,99])&&eQ n w (b,.mk a.at (.list [x,a,b]) o::o)|_=>false
 | .p v w,p=>match hd p.1 p.2 with|(.list [x,a,b],o)=>(x.at==[42])&&(eQ n v (a,o)&&eQ n w (b,o))|_=>false
theorem j6{e:E}{env:List Fr}(h:fS e.at env=none):hd e env=(e,env):=by rw[hd,h]
theorem p7{e:E}{env:List Fr}{f:Fr}(h:fS e.at env=some f):hd e env=(f.ex,f.out):=by rw[hd,h]
theorem oV{x a b:E}{o:List Fr}(h:WF o):hd (.list [x,a,b]) o=(.list [x,a,b],o):=j6 (kQ h)
theorem s6(n:Nat)(v:Vl){e e':E}{env o:List Fr}(h:hd e env=(e',o))(h':hd e' o=(e',o)):eQ n v (e,env)=eQ n v (e',o):=by
 cases v<;>simp only[eQ,h,h']
theorem jd{x a b:E}{env:List Fr}{t:Ty}(hw:WF env)(hok:(E.list [x,a,b]).ok)(hx:x.at=[114,101,99])(ht:cP (.list [x,a,b]) (names env)=some t)(hf:bV t=false) :
 ∃t1,t=.rc t1/\cP b (names (.mk a.at (.list [x,a,b]) env::env))=some t1/\bV t1=false/\WF (.mk a.at (.list [x,a,b]) env::env):=by
 obtain⟨t1,hl,h1,rfl⟩:=dA hx ht
 exact⟨t1,rfl,h1,hf,.cons hl hok hx ht hf hw⟩
theorem zl(a b env:AV)(n:Int)(s:ByteArray)(u:Int)(ha:LK.ptr.has a)(he:LK.ptr.has env):an Tryz.prog 113 [.agg [.ptr [.v (.int .u8 n),.v (.string s),.v (.int .i64 u),a,b],env]] [] (bA (.agg [a,env])):=by
 refine Ry _ _ ((bY _).mpr trivial) he ?_
 simp only[Nc,↓zq,zs,ac,bA]
 exact⟨ha,by omega⟩
theorem yN(a b env:AV)(n:Int)(s:ByteArray)(u:Int)(hb:LK.ptr.has b)(he:LK.ptr.has env):an Tryz.prog 114 [.agg [.ptr [.v (.int .u8 n),.v (.string s),.v (.int .i64 u),a,b],env]] [] (bA (.agg [b,env])):=by
 refine O4 _ _ ((bY _).mpr trivial) he ?_
 simp only[Ml,↓zq,zs,ac,bA]
 exact⟨hb,by omega⟩
theorem QM(t:Ty)(env:List Fr)(s:List UInt8)(e:E)(ht:xH e env=.rc t):an Tryz.prog 86 [.agg [(Ty.rc t).av,ot env]] [] (bA (.cN [.agg [t.av,ot (.mk s e env::env)],(Fr.mk s e env).cB])):=by
 refine Rm _ _ ((aC _).mpr trivial) ((ep _).mpr trivial) ?_
 simp only[Jx,Ty.av,↓zq,zs,ac,aC,bA,ot,Fr.cB,ht]
 omega
theorem sE(env:List Fr)(i:Nat)(f:Fr)(h:env[i]?=some f):ot (env.drop i)=.ptr [f.cB,ot (env.drop (i+1))]:=by
 obtain⟨hlt,he⟩:=List.getElem?_eq_some_iff.1 h
 rw[aN hlt,he,ot]
theorem KX(env:List Fr)(u:Nat)(hu:u<env.length)(hl:env.length<1000000):∀(k i:Nat),i+k=u->B6 [ot (env.drop i),.v (.int .i64 (u:Int)),.v (.int .i64 (i:Int))] [] (fX 1 [ot (env.drop u)] [])
 |
  0,i,hi=>by
  refine BO _ _ _ ?_
  have:i=u:=by omega
  subst this
  simp only[Bh,↓zq,zs,ac,ep]
  exact⟨fun h=>by omega,fun _=>by simp[fX]⟩
 |
  k+1,i,hi=>by
  refine BO _ _ _ ?_
  have hlt:i<env.length:=by omega
  have hg:env[i]?=some env[i]:=be hlt
  have hd:=sE env i _ hg
  rw[hd]
  simp only[Bh,↓zq,zs,ac,ep]
  refine⟨fun _=>⟨by omega,?_⟩,fun h=>by omega⟩
  rw[a7 i (by omega)]
  exact KX env u hu hl k (i+1) (by omega)
theorem Pg(env:List Fr)(u:Nat)(f:Fr)(hf:env[u]?=some f)(hl:env.length<1000000):an Tryz.prog 131 [.agg [(Ty.bO u).av,ot env]] [] (bA f.cB):=by
 refine IV _ _ ((aC _).mpr trivial) ((ep _).mpr trivial) ?_
 obtain⟨hlt,he⟩:=List.getElem?_eq_some_iff.1 hf
 simp only[Ev,Ty.av,↓zq,zs,ac]
 refine⟨by omega,?_⟩
 have h:=KX env u hlt hl u 0 (by omega)
 simp only[a6]at h
 refine cf h ?_
 rw[sE env u f hf]
 simp only[↓zq,zs,ac,Bv,bA]
 omega
theorem C1(k:Nat)(h:k<100):Lib.atoi (dd k)=some (k:Int):=by
 have e:∀k,k<100->dd k=if k<10 then [ba (48+k)]else [ba (48+k/10),ba (48+k%10)]:=by
  intro k hk
  by_cases h1:k<10
  ·rw[eE h1,if_pos h1]
  ·rw[fk h1,eE (by omega),if_neg h1];rfl
 have key:∀k:Fin 100,Lib.atoi (if k.val<10 then [ba (48+k.val)]else [ba (48+k.val/10),ba (48+k.val%10)])=some (k.val:Int):=by decide +kernel
 rw[e k h];exact key ⟨k,h⟩
theorem Re(k:Nat)(hk:k<100):an Tryz.prog 130 [.v (.string (mk (dd k)))] [] (bA (.cN [.v (.int .i64 (k:Int)),.v .nilIface])):=by
 have hl:=lC 1000 k (by omega)
 have hl2:(dd k).length<=18:=by
  have e:(dd k).length<=2:=by
   by_cases h1:k<10
   ·rw[eE h1];simp
   ·rw[fk h1,eE (by omega)];simp
  omega
 refine an.Pq (xs:=[.string (mk (dd k))]) (v:=.tuple #[.int .i64 (k:Int),.nilIface]) ⟨p5,by kernel_rfl,by kernel_rfl,by kernel_rfl⟩ (fun M=>?_) fun w=>?_
 ·refine bz.cN _ _ [.int .i64 (k:Int),.nilIface] rfl fun i hi=>?_
  match i,hi with
  |0,_=>exact .v _ _
  |1,_=>exact .v _ _
 ·have:=Any.strconv_Atoi Tryz.BK (mk (dd k)) (k:Int) (by rw[cy];exact hl2) (by
   have:(mk (dd k)).data.toList=dd k:=by simp[mk]
   rw[this];exact C1 k hk) w
  refine Calls.mono this fun e w' ⟨h1,t,h2⟩=>⟨h1,?_⟩
  subst h2
  refine⟨rfl,rfl,rfl,?_,fun b hb=>Lib.bytesWorld_at_old _ _ _ _ hb⟩
  simp[Lib.bytesWorld,World.freeze]
end Go.Proofs.Trees
namespace Go.Proofs.Trees
open Go Go.VL Go.RowKit
theorem fm{a b:Ty}(h:bV (.plus a b)=false):bV a=false/\bV b=false:=by simpa[bV]using h
theorem eM{a b:Ty}(h:bV (.times a b)=false):bV a=false/\bV b=false:=by simpa[bV]using h
theorem fD{e:E}{ar:List (List UInt8)}{t:Ty}(ht:cP e ar=some t)(hb:t.N7=false)(hf:bV t=false) :
 (e=.atom [48]/\t=.zero)\/(e=.atom [49]/\t=.one)\/(∃s,e=.atom s/\t=.name s/\gJ s=true/\s≠[48]/\s≠[49]) ∨
 (∃x a b t1 t2,e=.list [x,a,b]/\x.at=[43]/\t=.plus t1 t2/\cP a ar=some t1/\cP b ar=some t2) ∨
 (∃x a b t1 t2,e=.list [x,a,b]/\x.at=[42]/\t=.times t1 t2/\cP a ar=some t1/\cP b ar=some t2) ∨
 (∃x a b t1,e=.list [x,a,b]/\x.at=[114,101,99]/\t=.rc t1):=by
 cases e with
 |
  list l =>
  match l,ht with
  |
   [x,a,b],ht =>
   by_cases h0:x.at=[43]
   ·obtain⟨t1,t2,h1,h2,rfl⟩:=fF h0 ht
    exact .inr (.inr (.inr (.inl ⟨x,a,b,t1,t2,rfl,h0,rfl,h1,h2⟩)))
   ·by_cases h1:x.at=[42]
    ·obtain⟨t1,t2,h3,h2,rfl⟩:=eU h1 ht
     exact .inr (.inr (.inr (.inr (.inl ⟨x,a,b,t1,t2,rfl,h1,rfl,h3,h2⟩))))
    ·by_cases h2:x.at=[114,101,99]
     ·obtain⟨t1,_,_,rfl⟩:=dA h2 ht
      exact .inr (.inr (.inr (.inr (.inr ⟨x,a,b,t1,rfl,h2,rfl⟩))))
     ·rw[iP _ h0 h1 h2]at ht;cases ht
  |[],ht=>cases ht
  |[_],ht=>cases ht
  |[_,_],ht=>cases ht
  |_::_::_::_::_,ht=>cases ht
 |
  atom s =>
  simp only[cP]at ht
  split at ht
  ·rename_i h;cases ht;subst h;exact .inl ⟨rfl,rfl⟩
  ·rename_i h0
   split at ht
   ·rename_i h;cases ht;subst h;exact .inr (.inl ⟨rfl,rfl⟩)
   ·rename_i h1
    split at ht
    ·rename_i h;cases ht;exact .inr (.inr (.inl ⟨s,rfl,rfl,h,h0,h1⟩))
    ·split at ht
     ·rename_i h
      split at ht
      ·cases ht;cases hb
      ·cases ht;simp only[bV]at hf;rw[h]at hf;cases hf
     ·cases ht
def pO(n:Nat)(v:Vl)(e:E)(env:List Fr)(t:Ty):Prop:=an Tryz.prog 95 [.agg [t.av,ot env],v.cB,.v (.int .i64 (n:Int))] [] (bA (.v (.bool (eQ n v (e,env)))))
structure Ask(e:E)(env:List Fr)(t:Ty):Prop where
 ok:e.ok
 wf:WF env
 ty:cP e (names env)=some t
 cl:bV t=false
theorem H3(n:Nat)(hn:n<=100)(v:Vl)(hv:v.ir 100)(IH:∀w:Vl,w.nodes<v.nodes->w.ir 100->∀e env t,Ask e env t->env.length+w.nodes<100000->pO n w e env t)
 (e:E) (env:List Fr) (t:Ty) (A:Ask e env t) (hl:env.length+v.nodes<100000) (hb:t.N7=false) (hh:fS e.at env=none):pO n v e env t:=by
 have hhd:hd e env=(e,env):=j6 hh
 unfold pO
 refine MV _ _ _ _ ((aC _).mpr trivial) ((ep _).mpr trivial) ((aH _).mpr trivial) ?_
 rcases fD A.ty hb A.cl with⟨rfl,rfl⟩|⟨rfl,rfl⟩|⟨s,rfl,rfl,hp,h0,h1⟩|⟨x,a,b,t1,t2,rfl,hx,rfl,ha,hbb⟩|⟨x,a,b,t1,t2,rfl,hx,rfl,ha,hbb⟩|⟨x,a,b,t1,rfl,hx,rfl⟩
 ·have hp0:gJ [48]=false:=rfl
  cases v<;>simp[zv,Ty.av,↓zq,zs,ac,bA,eQ,hhd,hp0]
 ·have hp0:gJ [49]=false:=rfl
  cases v<;>simp[zv,Ty.av,Vl.cB,↓zq,zs,ac,bA,eQ,hhd,hp0]
 ·have h1':(s==[49])=false:=by simpa using h1
  cases v with
  |
   el k =>
   have hk:k<100:=hv
   simp only[zv,Ty.av,Vl.cB,↓zq,zs,ac,zt]
   refine⟨by omega,fun h=>by omega,fun _=>⟨fun _=>⟨by omega,fun h=>absurd rfl h,fun _=>⟨by omega,by omega,?_⟩⟩,fun h=>absurd rfl h⟩⟩
   have e1:(List.take ((dd k).length+1) (vR k)).drop (bE 1)=dd k:=by simp[vR]
   rw[e1]
   refine ah (Re k hk) ?_
   simp only[↓zq,zs,ac,bA,eQ,hhd,h1',hp,zf]
   refine⟨rfl,?_⟩
   congr 2
   rw[cz];simp
  |
   _ =>
   simp only[zv,Ty.av,Vl.cB,↓zq,zs,ac,zt,eQ,hhd,h1',bA]
   exact⟨by omega,fun h=>by omega,fun _=>⟨fun _=>⟨by omega,fun _=>trivial,fun h=>by omega⟩,fun h=>absurd rfl h⟩⟩
 ·have hok:=A.ok
  obtain⟨ok1,ok2,ok3,_⟩:=hok
  obtain⟨f1,f2⟩:=fm A.cl
  cases v with
  |
   l w =>
   simp only[Vl.nodes]at hl
   simp only[zv,Ty.av,Vl.cB,↓zq,zs,ac]
   refine⟨by omega,fun h=>by omega,fun _=>⟨fun h=>by omega,fun _=>⟨fun h=>by omega,fun _=>⟨fun _=>⟨by omega,fun _=>?_,fun h=>absurd rfl h⟩,fun h=>absurd rfl h⟩⟩⟩⟩
   refine ah (zl _ _ _ _ _ _ ((aC _).mpr trivial) ((ep _).mpr trivial)) ?_
   simp only[↓zq,zs,ac,bC,aC,ep,aH]
   refine⟨by omega,?_⟩
   refine ah (IH w (by simp only[Vl.nodes];omega) hv a env t1 ⟨ok2,A.wf,ha,f1⟩ (by omega)) ?_
   simp only[↓zq,zs,ac,bA,eQ,hhd,hx]
   refine⟨fun h=>?_,fun h=>⟨by omega,fun h=>by omega,fun _=>?_⟩⟩
   ·simp[h]
   ·simp[h]
  |
   r w =>
   simp only[Vl.nodes]at hl
   simp only[zv,Ty.av,Vl.cB,↓zq,zs,ac]
   refine⟨by omega,fun h=>by omega,fun _=>⟨fun h=>by omega,fun _=>⟨fun h=>by omega,fun _=>⟨fun _=>⟨by omega,fun h=>by omega,fun _=>⟨by omega,fun _=>?_,fun h=>absurd rfl h⟩⟩,fun h=>absurd rfl h⟩⟩⟩⟩
   refine ah (yN _ _ _ _ _ _ ((aC _).mpr trivial) ((ep _).mpr trivial)) ?_
   simp only[↓zq,zs,ac,bC,aC,ep,aH]
   refine⟨by omega,?_⟩
   refine ah (IH w (by simp only[Vl.nodes];omega) hv b env t2 ⟨ok3,A.wf,hbb,f2⟩ (by omega)) ?_
   simp[↓zq,zs,ac,bA,eQ,hhd,hx]
  |
   _ =>
   simp only[zv,Ty.av,Vl.cB,↓zq,zs,ac,eQ,hhd,bA]
   exact⟨by omega,fun h=>by omega,fun _=>⟨fun h=>by omega,fun _=>⟨fun h=>by omega,fun _=>⟨fun _=>⟨by omega,fun h=>by omega,fun _=>⟨by omega,fun h=>by omega,fun _=>by simp[hx]⟩⟩,fun h=>absurd rfl h⟩⟩⟩⟩
 ·have hok:=A.ok
  obtain⟨ok1,ok2,ok3,_⟩:=hok
  obtain⟨f1,f2⟩:=eM A.cl
  cases v with
  |
   p v w =>
   simp only[Vl.nodes]at hl
   simp only[zv,Ty.av,Vl.cB,↓zq,zs,ac]
   refine⟨by omega,fun h=>by omega,fun _=>⟨fun h=>by omega,fun _=>⟨fun h=>by omega,fun _=>⟨fun h=>by omega,fun _=>⟨fun _=>⟨by omega,fun _=>?_,fun h=>absurd rfl h⟩,fun h=>absurd rfl h⟩⟩⟩⟩⟩
   refine ah (zl _ _ _ _ _ _ ((aC _).mpr trivial) ((ep _).mpr trivial)) ?_
   simp only[↓zq,zs,ac,bC,aC,ep,aH]
   refine⟨by omega,?_⟩
   refine ah (IH v (by simp only[Vl.nodes];omega) hv.1 a env t1 ⟨ok2,A.wf,ha,f1⟩ (by omega)) ?_
   simp only[↓zq,zs,ac,bA,eQ,hhd,hx]
   refine⟨fun h=>?_,fun h=>?_⟩
   ·refine ah (yN _ _ _ _ _ _ ((aC _).mpr trivial) ((ep _).mpr trivial)) ?_
    simp only[↓zq,zs,ac,bC,aC,ep,aH]
    refine⟨by omega,?_⟩
    refine ah (IH w (by simp only[Vl.nodes];omega) hv.2 b env t2 ⟨ok3,A.wf,hbb,f2⟩ (by omega)) ?_
    simp[↓zq,zs,ac,h]
   ·simp[h]
  |
   _ =>
   simp only[zv,Ty.av,Vl.cB,↓zq,zs,ac,eQ,hhd,bA]
   exact⟨by omega,fun h=>by omega,fun _=>⟨fun h=>by omega,fun _=>⟨fun h=>by omega,fun _=>⟨fun h=>by omega,fun _=>⟨fun _=>⟨by omega,fun h=>by omega,fun _=>by simp[hx]⟩,fun h=>absurd rfl h⟩⟩⟩⟩⟩
 ·obtain⟨t1',he1,h1,f1,hw1⟩:=jd A.wf A.ok hx A.ty A.cl
  cases he1
  have hok:=A.ok
  obtain⟨ok1,ok2,ok3,_⟩:=hok
  have htD:xH (.list [x,a,b]) env=.rc t1:=by rw[xH,A.ty];rfl
  have hin:=QM t1 env a.at (.list [x,a,b]) htD
  simp only[Ty.av]at hin
  simp only[zv,Ty.av,↓zq,zs,ac]
  refine⟨by omega,fun h=>by omega,fun _=>⟨fun h=>by omega,fun _=>⟨fun h=>by omega,fun _=>⟨fun h=>by omega,fun _=>⟨fun h=>by omega,fun _=>⟨fun _=>?_,fun h=>absurd rfl h⟩⟩⟩⟩⟩⟩
  refine ah hin ?_
  simp only[↓zq,zs,ac,bC,aC,ep,Bv,aH,fu]
  cases v with
  |
   f w =>
   simp only[Vl.nodes]at hl
   simp only[Vl.cB,↓zq,zs,ac,aH]
   refine⟨by omega,fun _=>⟨by omega,?_⟩,fun h=>absurd rfl h⟩
   refine ah (IH w (by simp only[Vl.nodes];omega) hv b (.mk a.at (.list [x,a,b]) env::env) t1 ⟨ok3,hw1,h1,f1⟩ (by simp;omega)) ?_
   simp[↓zq,zs,ac,bA,eQ,hhd,hx]
  |
   _ =>
   simp only[Vl.cB,↓zq,zs,ac,eQ,hhd,bA]
   exact⟨by omega,fun h=>by omega,fun _=>by simp[hx]⟩
theorem Mh(n:Nat)(hn:n<=100):∀(m:Nat) (v:Vl),v.nodes<m->v.ir 100->∀e env t,Ask e env t->env.length+v.nodes<100000->pO n v e env t
 |0,v,h,_=>by omega
 |
  m+1,v,h,hv=>by
  intro e env t A hl
  have IH:∀w:Vl,w.nodes<v.nodes->w.ir 100->∀e env t,Ask e env t->env.length+w.nodes<100000->pO n w e env t:=fun w hw hb=>Mh n hn m w (by omega) hb
  rcases gl A.wf A.ty with⟨hb,hh⟩|⟨u,f,rfl,hh,hu⟩
  ·exact H3 n hn v hv IH e env t A hl hb hh
  ·obtain⟨x,a,b,t',hfe,hok,hx,ht',hf',hwf,hlt⟩:=oe A.wf hh
   obtain⟨t1,hl1,h1,rfl⟩:=dA hx (hfe ▸ ht')
   have hvis:eQ n v (e,env)=eQ n v (f.ex,f.out):=s6 n v (p7 hh) (by rw[hfe];exact oV hwf)
   unfold pO
   refine MV _ _ _ _ ((aC _).mpr trivial) ((ep _).mpr trivial) ((aH _).mpr trivial) ?_
   have hbd:=Pg env u f hu (by omega)
   simp only[Ty.av]at hbd
   simp only[zv,Ty.av,↓zq,zs,ac]
   refine⟨by omega,fun h=>by omega,fun _=>⟨fun h=>by omega,fun _=>⟨fun _=>?_,fun h=>absurd rfl h⟩⟩⟩
   refine ah hbd ?_
   cases f with
   |
    mk s ee oo =>
    simp only[Fr.ex,Fr.out]at hfe ht' hf' hwf hvis hlt
    have htD:xH ee oo=.rc t1:=by rw[xH,ht'];rfl
    simp only[Fr.cB,htD,↓zq,zs,ac,bC,aC,ep]
    refine⟨by omega,?_⟩
    have hs:=H3 n hn v hv IH ee oo (.rc t1) ⟨by rw[hfe];exact hok,hwf,ht',hf'⟩ (by omega) rfl (by rw[hfe];exact kQ hwf)
    unfold pO at hs
    refine ah hs ?_
    simp[↓zq,zs,ac,bA,hvis]
end Go.Proofs.Trees
namespace Go.Proofs.Trees
open Go Go.VL Go.RowKit
theorem rZ:∀(env:List Fr) (k:Nat) (f:Fr),env[k]?=some f->(jY env).getD (env.length-1-k) []=f.cells
 |[],k,f,h=>by cases h
 |
  g::r,0,f,h=>by
  cases h
  have:(g::r).length-1-0=(jY r).length:=by simp[kC]
  rw[this,jY];simp[aa]
 |
  g::r,k+1,f,h=>by
  have h':r[k]?=some f:=by simpa using h
  have hlt:=(List.getElem?_eq_some_iff.1 h').1
  have e:(g::r).length-1-(k+1)=r.length-1-k:=by simp;omega
  have:=rZ r k f h'
  rw[e,jY,aa,List.getElem?_append_left (by rw[kC];omega),<-aa]
  exact this
theorem qG(f:Fr):f.cells=[.v (.string (mk f.nm)),.v (.string (mk f.ex.at)),f.ex.sp,.sl (jY f.out)]:=by cases f;rfl
theorem NM(e:E)(env:List Fr)(hl:env.length<1000000):∀(j k:Nat),k+j=env.length->E2 [.sl (jY env),.v (.int .i64 ((env.length:Int)-1-(k:Int)))] [.cells [.v (.string (mk e.at)),e.sp],.cells [.v (.string (mk [])),.v (.slice none 0 0)]]
 (nr (match fS e.at (env.drop k)with|some f=>(2,[.sl (jY f.out)],[.cells [.v (.string (mk f.ex.at)),f.ex.sp]])|none=>(1,[.sl (jY env)],[.cells [.v (.string (mk e.at)),e.sp],.cells [.v (.string (mk [])),.v (.slice none 0 0)]])))
 |
  0,k,hk=>by
  refine JZ _ _ _ _ _ _ ?_
  have hd:env.drop k=[]:=bN (by omega)
  simp only[HB,↓zq,zs,ac,aY,hd,fS]
  exact⟨fun h=>by omega,fun _=>by first|trivial|rfl⟩
 |
  j+1,k,hk=>by
  refine JZ _ _ _ _ _ _ ?_
  have hlt:k<env.length:=by omega
  have hg:env[k]?=some env[k]:=be hlt
  have hc:=rZ env k _ hg
  have e1:((env.length:Int)-1-(k:Int))=((env.length-1-k:Nat):Int):=by omega
  have hdr:env.drop k=env[k]::env.drop (k+1):=aN hlt
  rw[hdr,fS,e1]
  simp only[HB,bx,hc,qG,↓zq,zs,ac,zt,aY,kC,bC]
  refine⟨fun _=>⟨by omega,by omega,fun h=>⟨by omega,by omega,by omega,by omega,?_⟩,fun h=>?_⟩,fun h=>by omega⟩
  ·rw[if_pos h]
  ·rw[if_neg h]
   have e2:IntKind.wrap .i64 (((env.length-1-k:Nat):Int)-1)=(env.length:Int)-1-((k+1:Nat):Int):=by
    have:IntKind.wrap .i64 (((env.length-1-k:Nat):Int)-1)=((env.length-1-k:Nat):Int)-1:=wrap64 _ (by omega) (by omega)
    omega
   rw[e2]
   exact NM e env hl j (k+1) (by omega)
theorem PI(e:E)(env:List Fr)(hl:env.length<1000000):an Tryz.prog 154 [e.ko,.sl (jY env)] [] (bA (.cN [(hd e env).1.ko,.sl (jY (hd e env).2)])):=by
 rw[dw e]
 refine O5 _ _ _ ((aY _).mpr trivial) ((ca _).mpr trivial) ?_
 simp only[IX,↓zq,zs,ac,kC,bA]
 have h:=NM e env hl env.length 0 (by omega)
 simp only[a6]at h
 rw[wrap64 _ (by omega) (by omega)]
 rw[show (env.length:Int)-1-((0:Nat):Int)=(env.length:Int)-1 by omega]at h
 refine eX h (fun ys o e'=>?_) (fun ys o e'=>?_)
 ·unfold hd
  cases hq:fS e.at env<;>rw[hq]at e'<;>cases e'
  simp only[↓zq,zs,ac,zt,aY,dw]
 ·unfold hd
  cases hq:fS e.at env<;>rw[hq]at e'<;>cases e'
  simp only[↓zq,zs,ac,zt,aY,dw]
theorem pB:∀env:List Fr,cD 4 (jY env)
 |[]=>fun c hc=>by cases hc
 |
  f::r=>fun c hc=>by
  simp only[jY,aI,aL]at hc
  rcases hc with hc|rfl
  ·exact pB r c hc
  ·rw[qG];rfl
theorem QH(x a b:E)(env:List Fr)(hl:env.length<1000000):an Tryz.prog 156 [(E.list [x,a,b]).ko,.sl (jY env)] [] (bA (.cN [b.ko,.sl (jY (.mk a.at (.list [x,a,b]) env::env))])):=by
 refine Oj _ _ _ ((ca _).mpr trivial) ((ca _).mpr trivial) ?_
 simp only[ID,E.bj,toNat_one,bi,↓zq,zs,ac,zt,iI,gj,iJ,l4,aq,kC,bA,aM]
 refine⟨by omega,⟨pB env,by omega⟩,by omega,by omega,⟨fun c hc=>(by simp at hc;rw[hc];rfl),by omega⟩,?_⟩
 simp only[jY,qG,Fr.nm,Fr.ex,Fr.out,E.at,E.sp,E.bj]
theorem CT(s:ByteArray)(e:E):bC [.str,.sl] [.v (.string s),e.sp] 0=True:=by apply eq_true;simp[bC,ej,aY]
theorem EY{e:E}{env:List Fr}{t:Ty}(A:Ask e env t):∃e' o t',hd e env=(e',o)/\Ask e' o t'/\t'.N7=false/\hd e' o=(e',o)/\o.length<=env.length:=by
 rcases gl A.wf A.ty with⟨hb,hh⟩|⟨u,f,rfl,hh,hu⟩
 ·exact⟨e,env,t,j6 hh,A,hb,j6 hh,aq _⟩
 ·obtain⟨x,a,b,t',hfe,hok,hx,ht',hf',hwf,hlt⟩:=oe A.wf hh
  refine⟨f.ex,f.out,t',p7 hh,⟨by rw[hfe];exact hok,hwf,ht',hf'⟩,?_,?_,by omega⟩
  ·obtain⟨t1,_,_,rfl⟩:=dA hx (hfe ▸ ht');rfl
  ·rw[hfe];exact oV hwf
def vh:Vl->List UInt8
 | .l _=>[108]
 | .r _=>[114]
 | .f _=>[102]
 | .p _ _=>[112]
 |_=>[]
theorem zN(v:Vl):an Tryz.prog 121 [v.cG.ko] [] (bA (.v (.string (mk (vh v))))):=by
 cases v with
 |u=>exact Cv _ _ ((bw).mpr trivial) (by simp)
 |el k=>exact Cv _ _ ((bw).mpr trivial) (by simp)
 |l v=>exact ur _ _
 |r v=>exact ur _ _
 |f v=>exact ur _ _
 |p v w=>exact ur _ _
theorem RY(v:Vl)(hv:v.ir 100):v.cG.at=(match v with| .u=>[117]| .el k=>vR k|_=>[])/\zF v.cG.at=(match v with| .el k=>(k:Int)|_=>-1):=by
 cases v with
 |el k=>exact⟨rfl,Hr k hv⟩
 |u=>exact⟨rfl,rfl⟩
 |_=>exact⟨rfl,rfl⟩
theorem yx(n:Nat)(hn:n<=100):∀(m:Nat) (v:Vl),v.nodes<m->v.ir 100->∀e env t,Ask e env t->env.length+v.nodes<100000->an Tryz.prog 125 [e.ko,.sl (jY env),v.cG.ko,.v (.int .i64 (n:Int))] [] (bA (.v (.bool (eQ n v (e,env)))))
 |0,v,hm,hv,e,env,t,A,hl=>by omega
 |
  m+1,v,hm,hv,e,env,t,A,hl=>by
  obtain⟨e',o,t',hhd,A',hb,hh',hlen⟩:=EY A
  rw[s6 n v hhd hh',dw e,dw v.cG]
  refine Ps _ _ _ _ _ _ ((aY _).mpr trivial) ((ca _).mpr trivial) ((aY _).mpr trivial) ?_
  have hf:=PI e env (by omega)
  rw[dw e,hhd]at hf
  have hvh:=zN v
  rw[dw]at hvh
  unfold I6
  refine ah hf ?_
  simp only[dw e',↓zq,zs,ac,zt,aY,CT,bA]
  rcases fD A'.ty hb A'.cl with⟨rfl,rfl⟩|⟨rfl,rfl⟩|⟨s,rfl,rfl,hp,h0,h1⟩|⟨x,a,b,t1,t2,rfl,hx,rfl,ha,hbb⟩|⟨x,a,b,t1,t2,rfl,hx,rfl,ha,hbb⟩|⟨x,a,b,t1,rfl,hx,rfl⟩
  ·refine⟨fun _=>⟨fun h=>by simp[E.at]at h,fun _=>ah (FA _) ?_⟩,fun h=>by simp[E.at]at h⟩
   have hp0:gJ (E.atom [48]).at=false:=rfl
   have hp1:gJ [48]=false:=rfl
   cases v<;>simp[↓zq,zs,ac,hp0,eQ,hh',hp1]
  ·refine⟨fun _=>⟨fun _=>?_,fun h=>absurd rfl h⟩,fun h=>by simp[E.at]at h⟩
   have hp1:gJ [49]=false:=rfl
   cases v<;>simp[eQ,hh',hp1,Vl.cG,E.at]
  ·have hne:s≠[]:=A'.ok
   have h1':(s==[49])=false:=by simpa using h1
   refine⟨fun _=>⟨fun h=>absurd h h1,fun _=>ah (FA _) ?_⟩,fun h=>absurd h hne⟩
   have hat:(E.atom s).at=s:=rfl
   simp only[hat,hp,↓zq,zs,ac]
   refine⟨fun _=>ah (Jm _) ?_,fun h=>by cases h⟩
   simp only[↓zq,zs,ac]
   rw[wrap64 _ (by omega) (by omega)]
   refine ah (C7 _ _ _) ?_
   simp only[↓zq,zs,ac,Ds,(RY v hv).2]
   cases v with
   |
    el k =>
    simp only[eQ,hh',h1',hp,zf]
    congr 2
    rw[cz];simp;omega
   |_=>simp[eQ,hh',h1']
  ·have hok:=A'.ok
   obtain⟨ok1,ok2,ok3,_⟩:=hok
   obtain⟨f1,f2⟩:=fm A'.cl
   refine⟨fun h=>absurd rfl h,fun _=>ah (ur x [a,b]) ?_⟩
   simp only[↓zq,zs,ac]
   refine ah hvh ?_
   rw[hx]
   cases v with
   |
    l w =>
    simp only[Vl.nodes]at hl
    simp only[vh,Vl.cG,E.sp,E.bj,toNat_one,bi,↓zq,zs,ac,zt,iI,gj,iJ,l4,aq]
    refine⟨by simp,fun _=>⟨by omega,by omega,ah (yx n hn m w (by simp only[Vl.nodes]at hm;omega) hv a o t1 ⟨ok2,A'.wf,ha,f1⟩ (by omega)) ?_⟩,fun h=>absurd rfl h⟩
    simp[↓zq,zs,ac,eQ,hh',hx]
   |
    r w =>
    simp only[Vl.nodes]at hl
    simp only[vh,Vl.cG,E.sp,E.bj,toNat_one,bi,↓zq,zs,ac,zt,iI,gj,iJ,l4,aq]
    refine⟨by simp,fun h=>by simp at h,fun _=>⟨fun _=>⟨by omega,by omega,ah (yx n hn m w (by simp only[Vl.nodes]at hm;omega) hv b o t2 ⟨ok3,A'.wf,hbb,f2⟩ (by omega)) ?_⟩,fun h=>absurd rfl h⟩⟩
    simp[↓zq,zs,ac,eQ,hh',hx]
   |_=>simp[vh,↓zq,zs,ac,zt,eQ,hh',hx]
  ·have hok:=A'.ok
   obtain⟨ok1,ok2,ok3,_⟩:=hok
   obtain⟨f1,f2⟩:=eM A'.cl
   refine⟨fun h=>absurd rfl h,fun _=>ah (ur x [a,b]) ?_⟩
   simp only[↓zq,zs,ac]
   refine ah hvh ?_
   rw[hx]
   cases v with
   |
    p w z =>
    simp only[Vl.nodes]at hl
    simp only[vh,Vl.cG,E.sp,E.bj,toNat_one,bi,↓zq,zs,ac,zt,iI,gj,iJ,l4,aq]
    refine⟨by simp,fun h=>by simp at h,fun _=>⟨fun h=>by simp at h,fun _=>⟨fun _=>⟨by omega,by omega,ah (yx n hn m w (by simp only[Vl.nodes]at hm;omega) hv.1 a o t1 ⟨ok2,A'.wf,ha,f1⟩ (by omega)) ?_⟩,fun h=>absurd rfl h⟩⟩⟩
    simp only[↓zq,zs,ac,eQ,hh',hx]
    refine⟨fun h=>⟨by omega,by omega,ah (yx n hn m z (by simp only[Vl.nodes]at hm;omega) hv.2 b o t2 ⟨ok3,A'.wf,hbb,f2⟩ (by omega)) ?_⟩,fun h=>?_⟩
    ·simp[↓zq,zs,ac,h]
    ·simp[h]
   |_=>simp[vh,↓zq,zs,ac,zt,eQ,hh',hx]
  ·obtain⟨t1',he1,h1,f1,hw1⟩:=jd A'.wf A'.ok hx A'.ty A'.cl
   cases he1
   have hok:=A'.ok
   obtain⟨ok1,ok2,ok3,_⟩:=hok
   refine⟨fun h=>absurd rfl h,fun _=>ah (ur x [a,b]) ?_⟩
   simp only[↓zq,zs,ac]
   refine ah hvh ?_
   rw[hx]
   cases v with
   |
    f w =>
    simp only[Vl.nodes]at hl
    simp only[vh,Vl.cG,E.sp,E.bj,toNat_one,bi,↓zq,zs,ac,zt,iI,gj,iJ,l4,aq]
    refine⟨by simp,fun h=>by simp at h,fun _=>⟨fun h=>by simp at h,fun _=>⟨fun h=>by simp at h,fun _=>⟨fun _=>ah (QH x a b o (by omega)) ?_,fun h=>absurd rfl h⟩⟩⟩⟩
    simp only[↓zq,zs,ac,wY,CZ]
    refine⟨by omega,ah (yx n hn m w (by simp only[Vl.nodes]at hm;omega) hv b (.mk a.at (.list [x,a,b]) o::o) t1 ⟨ok3,hw1,h1,f1⟩ (by simp;omega)) ?_⟩
    simp[↓zq,zs,ac,eQ,hh',hx]
   |_=>simp[vh,↓zq,zs,ac,zt,eQ,hh',hx]
theorem OI(n:Nat)(hn:n<=100)(v:Vl)(hv:v.ir 100)(e:E)(env:List Fr)(t:Ty)(A:Ask e env t)(hl:env.length+v.nodes<100000):an Tryz.prog 125 [e.ko,.sl (jY env),v.cG.ko,.v (.int .i64 (n:Int))] [] (bA (.v (.bool (eQ n v (e,env))))):=yx n hn (v.nodes+1) v (by omega) hv e env t A hl
end Go.Proofs.Trees
namespace Go.Proofs.Trees
open Go Go.VL Go.RowKit
theorem L9(l:List (List UInt8))(a:AV)(ha:cv a l)(s:List UInt8)(hl:l.length<1000000):∀(k i:Nat),i+k=l.length->HH [a,.v (.string (mk s)),.v (.int .i64 (i:Int))] []
 (nr (if s∈l.drop i then(2,[.v (.bool true)],[])else(1,[],[])))
 |
  0,i,hi=>by
  refine NQ _ _ _ ?_
  have hd:l.drop i=[]:=bN (by omega)
  simp only[Gx,↓zq,zs,ac,hd,ha.len]
  exact⟨ha.1,ha.1,fun h=>by omega,fun _=>by simp[nr]⟩
 |
  k+1,i,hi=>by
  have hlt:i<l.length:=by omega
  have hdr:l.drop i=l.getD i []::l.drop (i+1):=by
   rw[aN hlt];simp[aa,hlt]
  refine NQ _ _ _ ?_
  simp only[Gx,↓zq,zs,ac,zt,ha.len,ha.idx hlt]
  refine⟨ha.1,ha.1,fun _=>⟨⟨ha.1,by omega,by omega⟩,by omega,fun h=>?_,fun h=>?_⟩,fun h=>by omega⟩
  ·rw[hdr,h];simp[nr]
  ·rw[a7 i (by omega)]
   have:=L9 l a ha s hl k (i+1) (by omega)
   have e:s∈l.drop i↔s∈l.drop (i+1):=by
    rw[hdr,aF];exact⟨fun q=>q.resolve_left (fun q=>h q.symm),.inr⟩
   simp only[e];exact this
theorem zb(l:List (List UInt8))(a:AV)(ha:cv a l)(s:List UInt8)(hl:l.length<1000000):an Tryz.prog 169 [a,.v (.string (mk s))] [] (bA (.v (.bool (decide (s∈l))))):=by
 refine Oh _ _ ha.1 ?_
 unfold K8
 refine eX (L9 l a ha s hl l.length 0 (by omega)) (fun ys o e=>?_) (fun ys o e=>?_)
 ·simp only[a6]at e
  split at e<;>cases e
  rename_i h
  simp[↓zq,zs,ac,bA,h]
 ·simp only[a6]at e
  split at e<;>cases e
  rename_i h
  simp[↓zq,zs,ac,bA,h]
theorem Dm(l:List (List UInt8))(a:AV)(ha:cv a l)(s:List UInt8)(hl:l.length<1000000):an Tryz.prog 79 [a,.v (.string (mk s))] [] (bA (.sl (bo (l++[s])))):=by
 refine RF _ _ ha.1 ?_
 simp only[Ir,↓zq,zs,ac,ha.2,bA,aM]
 have:(bo l).length=l.length:=by simp[bo]
 refine⟨⟨ha.1,kf l,by omega⟩,⟨fun c hc=>(by simp at hc;rw[hc];rfl),by omega⟩,?_⟩
 rw[yo]
def j8:E->List (List UInt8)->List (List UInt8)->List (List UInt8)
 | .atom s,bd,l=>if s=[48]\/s=[49]\/s∈bd\/s∈l then l else l++[s]
 | .list [x,a,b],bd,l=>if x.at=[114,101,99]then j8 b (bd++[a.at]) l else j8 b bd (j8 a bd l)
 | .list _,_,l=>l
theorem ga:∀(e:E) (bd l:List (List UInt8)),(j8 e bd l).length<=l.length+e.sz
 | .atom s,bd,l=>by rw[j8];split<;>simp[E.sz]
 | .list [],bd,l=>by simp[j8]
 | .list [_],bd,l=>by simp[j8]
 | .list [_,_],bd,l=>by simp[j8]
 | .list (_::_::_::_::_),bd,l=>by simp[j8]
 |
  .list [x,a,b],bd,l=>by
  rw[j8]
  simp only[E.sz,E.jP]
  split
  ·have:=ga b (bd++[a.at]) l;omega
  ·have:=ga a bd l
   have:=ga b bd (j8 a bd l)
   omega
theorem Ck:∀(e:E) (bd l:List (List UInt8)) (a:AV),e.ok->jM e=true->cv a bd->bd.length+l.length+e.sz<100000->an Tryz.prog 137 [e.ko,a,.vec 0] [.vec 1 (bo l)] (cW (.vec 1) [.dead,.vec 1 (bo (j8 e bd l))])
 |
  .atom s,bd,l,a,hok,hty,ha,hl=>by
  simp only[E.sz]at hl
  refine yu _ _ _ _ ((bw).mpr trivial) ha.1 ?_
  have hne:s≠[]:=hok
  have hll:(bo l).length=l.length:=by simp[bo]
  simp only[Hp,↓zq,zs,ac,zt,cW,j8]
  refine⟨fun _=>⟨fun h=>?_,fun h=>⟨fun h1=>?_,fun h1=>?_⟩⟩,fun h=>absurd h hne⟩
  ·rw[if_pos (.inl h)]
  ·rw[if_pos (.inr (.inl h1))]
  ·refine ah (zb bd a ha s (by omega)) ?_
   simp only[↓zq,zs,ac]
   refine⟨fun h2=>?_,fun h2=>ah (zb l _ (.of l) s (by omega)) ?_⟩
   ·rw[if_pos (.inr (.inr (.inl h2)))]
   ·simp only[↓zq,zs,ac]
    refine⟨fun h3=>?_,fun h3=>⟨⟨fun c hc=>(by simp at hc;rw[hc];rfl),by omega⟩,?_⟩⟩
    ·rw[if_pos (.inr (.inr (.inr h3)))]
    ·rw[yo,if_neg]
     rintro(q|q|q|q)
     ·exact h q
     ·exact h1 q
     ·exact h2 q
     ·exact h3 q
 | .list [],_,_,_,_,h,_,_=>by cases h
 | .list [_],_,_,_,_,h,_,_=>by cases h
 | .list [_,_],_,_,_,_,h,_,_=>by cases h
 | .list (_::_::_::_::_),_,_,_,_,h,_,_=>by cases h
 |
  .list [x,y,z],bd,l,a,hok,hty,ha,hl=>by
  simp only[E.sz,E.jP]at hl
  obtain⟨ok1,ok2,ok3,_⟩:=hok
  refine yu _ _ _ _ ((ca _).mpr trivial) ha.1 ?_
  simp only[Hp,E.bj,toNat_one,bi,↓zq,zs,ac,zt,iI,gj,iJ,l4,aq,cW]
  refine⟨fun h=>absurd rfl h,fun _=>ah (ur x [y,z]) ?_⟩
  simp only[↓zq,zs,ac,zt]
  have hyl:=ga y bd l
  rw[jM]at hty
  refine⟨fun h=>⟨by omega,by omega,by omega,ah (Dm bd a ha y.at (by omega)) ?_⟩,fun h=>⟨by omega,by omega,?_⟩⟩
  ·have hz:jM z=true:=by
    rw[if_neg (by rw[h];decide),if_neg (by rw[h];decide),if_pos h]at hty
    simp only[ap]at hty;exact hty.2
   simp only[↓zq,zs,ac]
   refine aS (Ck z (bd++[y.at]) l _ ok3 hz (.of _) (by simp;omega)) ?_
   simp only[↓zq,zs,ac]
   rw[j8,if_pos h]
  ·have hyz:jM y=true/\jM z=true:=by
    split at hty
    ·simpa using hty
    ·split at hty
     ·simpa using hty
     ·cases hty
   refine aS (Ck y bd l a ok2 hyz.1 ha (by omega)) ?_
   simp only[↓zq,zs,ac]
   refine aS (Ck z bd (j8 y bd l) a ok3 hyz.2 ha (by omega)) ?_
   simp only[↓zq,zs,ac]
   rw[j8,if_neg h]
theorem jZ{s:List UInt8}(h:gJ s=true):dc s=false:=by
 cases hq:dc s with
 |false=>rfl
 |
  true =>
  obtain⟨c,r,rfl,h1,h2⟩:=lg h
  obtain⟨c',r',he,h3,h4⟩:=lg hq
  cases he;omega
theorem mr(s:List UInt8)(ar:List (List UInt8)):∀i,i<=ar.length->(bI s ar i=none↔s∉ar.take i)
 |0,_=>by simp[bI]
 |
  i+1,hi=>by
  have hlt:i<ar.length:=by omega
  have e:ar.getD i []=ar[i]:=by simp[aa,hlt]
  have e2:s∈ar.take (i+1)↔s∈ar.take i\/s=ar[i]:=by
   rw[show ar.take (i+1)=ar.take i++[ar[i]] from (List.take_append_getElem hlt).symm]
   simp only[aI,aL]
  rw[bI,e,e2]
  by_cases h:ar[i]=s
  ·rw[if_pos h]
   exact⟨fun h=>(by cases h),fun h'=>absurd (.inr h.symm) h'⟩
  ·rw[if_neg h,mr s ar i (by omega)]
   exact⟨fun h1 h2=>h2.elim h1 (fun h3=>h h3.symm),fun h1 h2=>h1 (.inl h2)⟩
theorem lA:∀(e:E) (ar l:List (List UInt8)) (t:Ty),cP e ar=some t->(∀w,w∈ar->dc w=true)->(j8 e ar l).any dc=(l.any dc||bV t)
 |
  .atom s,ar,l,t,h,har=>by
  simp only[cP]at h
  rw[j8]
  split at h
  ·rename_i h0;cases h;rw[if_pos (.inl h0)];simp[bV]
  ·rename_i h0
   split at h
   ·rename_i h1;cases h;rw[if_pos (.inr (.inl h1))];simp[bV]
   ·rename_i h1
    split at h
    ·rename_i h2
     cases h
     have hn:=jZ h2
     simp only[bV,hn]
     split
     ·simp
     ·simp[hn]
    ·split at h
     ·rename_i h2 h3
      have hlo:=mr s ar ar.length (aq _)
      rw[List.take_length]at hlo
      cases hq:bI s ar ar.length with
      |
       some u =>
       rw[hq]at h;cases h
       have hm:s∈ar:=Classical.byContradiction fun hm=>by rw[hlo.2 hm]at hq;cases hq
       rw[if_pos (.inr (.inr (.inl hm)))];simp[bV]
      |
       none =>
       rw[hq]at h;cases h
       have hm:=hlo.1 hq
       simp only[bV,h3,Bool.or_true]
       split
       ·rename_i hh
        rcases hh with q|q|q|q
        ·exact absurd q h0
        ·exact absurd q h1
        ·exact absurd q hm
        ·rw[cj];exact⟨s,q,h3⟩
       ·simp[h3]
     ·cases h
 | .list [],_,_,_,h,_=>by cases h
 | .list [_],_,_,_,h,_=>by cases h
 | .list [_,_],_,_,_,h,_=>by cases h
 | .list (_::_::_::_::_),_,_,_,h,_=>by cases h
 |
  .list [x,a,b],ar,l,t,h,har=>by
  rw[j8]
  by_cases h0:x.at=[43]
  ·obtain⟨t1,t2,e1,e2,rfl⟩:=fF h0 h
   rw[if_neg (by rw[h0];decide),lA b ar _ t2 e2 har,lA a ar l t1 e1 har,bV,Bool.or_assoc]
  ·by_cases h1:x.at=[42]
   ·obtain⟨t1,t2,e1,e2,rfl⟩:=eU h1 h
    rw[if_neg (by rw[h1];decide),lA b ar _ t2 e2 har,lA a ar l t1 e1 har,bV,Bool.or_assoc]
   ·by_cases h2:x.at=[114,101,99]
    ·obtain⟨t1,hl,e1,rfl⟩:=dA h2 h
     rw[if_pos h2,lA b _ l t1 e1 (fun w hw=>by
      simp only[aI,aL]at hw
      rcases hw with hw|rfl
      ·exact har w hw
      ·exact hl),bV]
    ·rw[iP _ h0 h1 h2]at h;cases h
def jt(s:List UInt8):Option E:=match vF s with
 |none=>none
 |some e=>if(j8 e [] []).any dc=true then none else some e
theorem AF{s:List UInt8}:vI s=match jt s with|none=>none|some e=>cP e []:=by
 unfold vI jt
 rw[tV]
 cases he:vF s with
 |none=>rfl
 |
  some e =>
  obtain⟨h1,h2,h3⟩:=pn he
  have hs:=iK e []
  rw[h2]at hs
  obtain⟨t,ht⟩:=cm.1 hs
  have ha:=lA e [] [] t ht (fun w hw=>by cases hw)
  simp only[ht,rV,ha,List.any_nil,Bool.false_or]
  cases hf:bV t<;>simp[ht]
theorem iE{s:List UInt8}{e:E}(h:jt s=some e):∃t,vI s=some t/\Ask e [] t/\jM e=true/\e.sz<=8000/\t.az<=400/\p8 s=some e:=by
 have h0:=h
 unfold jt at h
 split at h
 ·cases h
 ·rename_i e' he
  split at h
  ·cases h
  ·rename_i hn
   cases h
   obtain⟨h1,h2,h3⟩:=pn he
   obtain⟨hok,hsz⟩:=ny h1
   have hs:=iK e []
   rw[h2]at hs
   obtain⟨t,ht⟩:=cm.1 hs
   have ha:=lA e [] [] t ht (fun w hw=>by cases hw)
   rw[ha]at hn
   refine⟨t,by rw[AF,h0];exact ht,⟨hok,.nil,ht,by simpa using hn⟩,h2,hsz,?_,h1⟩
   rw[<-jE e [] t ht];exact h3
theorem mD{s:List UInt8}(h:jt s=none):vI s=none:=by rw[AF,h]
theorem NW(e:E)(l:List (List UInt8))(hl:l.length<1000000):∀(k i:Nat),i+k=l.length->FX [.v (.int .i64 (i:Int))] [.cells [.v (.string (mk [])),.v (.slice none 0 0)],.cells [.v (.string (mk e.at)),e.sp],.vec 1 (bo l)]
 (nr (if(l.drop i).any dc=true then(2,[.v (.bool false)],[.cells [.v (.string (mk e.at)),e.sp]])else(1,[],[.cells [.v (.string (mk [])),.v (.slice none 0 0)],.cells [.v (.string (mk e.at)),e.sp]])))
 |
  0,i,hi=>by
  refine Jr _ _ _ _ _ _ ?_
  have hd:l.drop i=[]:=bN (by omega)
  have hll:(bo l).length=l.length:=by simp[bo]
  simp only[EU,↓zq,zs,ac,hd,hll,aY]
  exact⟨fun h=>by omega,fun _=>by simp[nr]⟩
 |
  k+1,i,hi=>by
  have hlt:i<l.length:=by omega
  have hll:(bo l).length=l.length:=by simp[bo]
  have hdr:l.drop i=l.getD i []::l.drop (i+1):=by
   rw[aN hlt];simp[aa,hlt]
  have hg:=(cv.of l).idx hlt
  simp only[fV]at hg
  refine Jr _ _ _ _ _ _ ?_
  simp only[EU,↓zq,zs,ac,zt,hll,hg,aY]
  refine⟨fun _=>⟨by omega,by omega,ah (FL _) ?_⟩,fun h=>by omega⟩
  simp only[↓zq,zs,ac,hdr,List.any_cons]
  refine⟨fun h=>?_,fun h=>?_⟩
  ·rw[h];simp[nr]
  ·rw[h,a7 i (by omega)]
   simp only[Bool.false_or]
   exact NW e l hl k (i+1) (by omega)
theorem Np(s:List UInt8):an Tryz.prog 104 [.v (.string (mk s))] [] (jO (jt s) (jt s).isSome):=by
 refine OW _ ?_
 unfold Mf
 refine bU (Ha s) (jO.ne _ _ (fun h=>h)) ?_
 rintro r o ⟨c,d,hd,rfl,hh⟩
 have hhas:bC [.str,.sl] [.v (.string (mk c)),d] 0:=by simp[bC,ej,hd]
 simp only[↓zq,zs,ac,zt]
 refine⟨hhas,fun h=>?_,fun h=>?_⟩
 ·have hn:vF s=none:=by cases hq:vF s<;>simp[hq]at h |-
  unfold jt
  rw[hn]
  exact⟨c,d,hd,rfl,fun h=>by cases h⟩
 ·obtain⟨e,he,hce⟩:=hh h
  obtain⟨h1,h2,h3⟩:=pn he
  obtain⟨hok,hsz⟩:=ny h1
  have hce':=hce
  rw[dw]at hce'
  simp only[AV.agg.injEq,List.cons.injEq,AV.v.injEq,Value.string.injEq,and_true]at hce'
  obtain⟨hc1,rfl⟩:=hce'
  have hc2:=Bg hc1
  subst hc2
  rw[<-dw]
  refine aS (Ck e [] [] _ hok h2 (.of []) (by simp;omega)) ?_
  have hfl:=ga e [] []
  simp only[↓zq,zs,ac]
  have hLS:=NW e (j8 e [] []) (by simp at hfl;omega) (j8 e [] []).length 0 (by omega)
  simp only[a6]at hLS
  unfold jt
  rw[he]
  refine eX hLS (fun ys o e'=>?_) (fun ys o e'=>?_)
  ·split at e'<;>cases e'
   rename_i hn
   simp only[↓zq,zs,ac,aY,if_neg hn]
   exact⟨e.at,e.sp,hd,rfl,fun _=>⟨e,rfl,(dw e).symm⟩⟩
  ·split at e'<;>cases e'
   rename_i hn
   simp only[↓zq,zs,ac,aY,if_pos hn]
   exact⟨e.at,e.sp,hd,rfl,fun h=>by cases h⟩
def nH(s v:List UInt8)(n:Int):Option Vl:=match jt s,rK v with
 |some e,some w=>if(0<=n/\n<=100)/\eQ n.toNat w (e,[])=true then some w else none
 |_,_=>none
theorem rB{s v:List UInt8}{n:Int}{w:Vl}(h:nH s v n=some w):∃e t m,jt s=some e/\rK v=some w/\vI s=some t/\Ask e [] t/\n=(m:Nat)/\m<=100/\eQ m w (e,[])=true:=by
 unfold nH at h
 split at h
 ·rename_i e w' he hw
  split at h
  ·rename_i hh
   cases h
   obtain⟨t,h1,h2,_⟩:=iE he
   exact⟨e,t,n.toNat,he,hw,h1,h2,by omega,by omega,hh.2⟩
  ·cases h
 ·cases h
theorem H6(s v:List UInt8)(n:Int):an Tryz.prog 71 [.v (.string (mk s)),.v (.string (mk v)),.v (.int .i64 n)] [] (bA (.cN [gZ (vI s),i7 (nH s v n)])):=by
 refine Rr _ _ _ ?_
 unfold MW
 refine ah (Jt s) ?_
 simp only[↓zq,zs,ac,hG]
 refine ah (PH v) ?_
 simp only[↓zq,zs,ac,gn,bA]
 unfold nH
 cases he:jt s with
 |none=>rw[mD he];cases rK v<;>simp[gZ,i7,↓zq,zs,ac]
 |
  some e =>
  obtain⟨t,h1,h2,h3,h4,h5,_⟩:=iE he
  rw[h1]
  cases hv:rK v with
  |none=>simp only[gZ,i7,aC,fI,↓zq,zs,ac];exact⟨fun h=>(by cases h),fun _=>⟨fun _=>trivial,fun h=>(by cases h)⟩⟩
  |
   some w =>
   obtain⟨h6,h7,h8⟩:=lL hv
   simp only[gZ,i7,aC,fI,aH,fu,↓zq,zs,ac]
   refine⟨fun h=>(by cases h),fun _=>⟨fun h=>(by cases h),fun _=>⟨fun h=>?_,fun h=>⟨fun h'=>?_,fun h'=>?_⟩⟩⟩⟩
   ·rw[if_neg (by omega)]
   ·rw[if_neg (by omega)]
   ·obtain⟨m,rfl⟩:∃m:Nat,n=(m:Int):=⟨n.toNat,by omega⟩
    have hi:=Mh m (by omega) (w.nodes+1) w (by omega) h7 e [] t h2 (by simp;omega)
    unfold pO at hi
    refine ah hi ?_
    simp only[↓zq,zs,ac,bx]
    refine⟨fun hq=>?_,fun hq=>?_⟩
    ·rw[if_neg (by rw[hq];simp)]
    ·rw[if_pos ⟨by omega,hq⟩]
theorem zm(s v:List UInt8)(n:Int):an Tryz.prog 90 [.v (.string (mk s)),.v (.string (mk v)),.v (.int .i64 n)] [] (bA (.v (.bool (nH s v n).isSome))):=by
 refine Ou _ _ _ ?_
 unfold MO
 refine bU (Np s) (jO.ne _ _ (fun h=>h)) ?_
 rintro r o ⟨c,d,hd,rfl,hh⟩
 have hhas:bC [.str,.sl] [.v (.string (mk c)),d] 0:=by simp[bC,ej,hd]
 simp only[↓zq,zs,ac,zt]
 refine⟨hhas,?_⟩
 refine bU (C0 v) (jO.ne _ _ (fun h=>by cases hq:rK v<;>simp[hq]at h |-)) ?_
 rintro r o ⟨c',d',hd',rfl,hh'⟩
 have hhas':bC [.str,.sl] [.v (.string (mk c')),d'] 0:=by simp[bC,ej,hd']
 simp only[↓zq,zs,ac,zt,bA]
 refine⟨hhas',fun h=>⟨fun h2=>?_,fun h2=>?_⟩,fun h=>?_⟩
 ·obtain⟨e,he,hce⟩:=hh h
  obtain⟨t,h1,hA,h3,h4,h5,_⟩:=iE he
  obtain⟨w,hw⟩:=cm.1 h2
  obtain⟨e2,he2,hce2⟩:=hh' h2
  rw[hw]at he2
  cases he2
  obtain⟨h6,h7,h8⟩:=lL hw
  refine ah (C7 _ _ _) ?_
  simp only[↓zq,zs,ac,Ds,nH,he,hw]
  refine⟨fun hq=>?_,fun hq=>?_⟩
  ·have hq':0<=n/\n<=100:=by simpa using hq
   obtain⟨m,rfl⟩:∃m:Nat,n=(m:Int):=⟨n.toNat,by omega⟩
   rw[hce,hce2]
   have:=OI m (by omega) w h7 e [] t hA (by simp;omega)
   rw[show jY []=[] from rfl]at this
   refine ah this ?_
   simp only[↓zq,zs,ac,bx]
   by_cases hb:eQ m w (e,[])=true
   ·rw[if_pos ⟨hq',hb⟩,hb];rfl
   ·rw[if_neg (fun h=>hb h.2)]
    rw[Bool.not_eq_true]at hb
    rw[hb];rfl
  ·have hq':¬(0<=n/\n<=100):=by simpa using hq
   rw[if_neg (fun h=>hq' h.1)];rfl
 ·have hn:rK v=none:=by cases hq:rK v<;>simp[hq]at h2 |-
  unfold nH
  rw[hn];cases jt s<;>rfl
 ·have hn:jt s=none:=by cases hq:jt s<;>simp[hq]at h |-
  unfold nH
  rw[hn];rfl
end Go.Proofs.Trees
namespace Go.Proofs.Trees
open Go Go.VL Go.RowKit
inductive Tg where
 |nm (s:List UInt8)
 |bd (k:Nat)
 deriving DecidableEq
def Tg.up:Tg->Tg
 | .nm s=>.nm s
 | .bd k=>.bd (k+1)
def fK:Ty->Tg->Bool
 | .name s,.nm s'=>decide (s=s')
 | .bO u,.bd k=>decide (u=k)
 |_,_=>false
abbrev Hl:=Vl×Vl
def jl(g:Vl->Vl)(l:List Hl):List Hl:=l.map fun h=>(g h.1,h.2)
def ki(f:Ty->Tg->Vl->List Hl)(tg:Tg):Ty->Vl->List Hl
 | .plus a _,.l w=>jl .l (f a tg w)
 | .plus _ b,.r w=>jl .r (f b tg w)
 | .times a b,.p x y=>jl (fun c=>.l (.p c y)) (f a tg x)++jl (fun c=>.r (.p x c)) (f b tg y)
 | .rc a,.f w=>jl (fun c=>.f (.l c)) (f a tg.up w)++(f a (.bd 0) w).flatMap fun h=>jl (fun c=>.f (.r (.p h.1 c))) (f (.rc a) tg h.2)
 |_,_=>[]
def eC:Nat->Ty->Tg->Vl->List Hl
 |0,_,_,_=>[]
 |n+1,t,tg,v=>if fK t tg=true then [(.u,v)]else ki (eC n) tg t v
def stuck:Ty->Vl->Bool
 | .plus _ _,.l _=>false
 | .plus _ _,.r _=>false
 | .times _ _,.p _ _=>false
 | .rc _,.f _=>false
 |_,_=>true
def cg(t:Ty)(tg:Tg)(v:Vl):List Hl:=eC v.nodes t tg v
theorem dG{g:Vl->Vl}{l:List Hl}{h:Hl}(hm:h∈jl g l):∃k,k∈l/\h=(g k.1,k.2):=by
 obtain⟨k,h1,h2⟩:=cd.1 hm
 exact⟨k,h1,h2.symm⟩
theorem jJ{f g:Hl->List Hl}:∀{l:List Hl},(∀h,h∈l->f h=g h)->l.flatMap f=l.flatMap g
 |[],_=>rfl
 |h::l,hl=>by rw[List.flatMap_cons,List.flatMap_cons,hl h aj,jJ (l:=l) fun k hk=>hl k (ak _ hk)]
theorem fB:∀(n:Nat) (t:Ty) (tg:Tg) (v:Vl) (h:Hl),h∈eC n t tg v->h.2.nodes<=v.nodes/\h.1.nodes+4*h.2.nodes<=4*v.nodes+1
 |0,t,tg,v,h,hm=>by simp[eC]at hm
 |
  n+1,t,tg,v,h,hm=>by
  unfold eC at hm
  split at hm
  ·simp only[aL]at hm
   subst hm
   simp only[Vl.nodes];omega
  ·unfold ki at hm
   split at hm
   ·obtain⟨k,h1,rfl⟩:=dG hm
    have:=fB n _ _ _ k h1
    simp only[Vl.nodes];omega
   ·obtain⟨k,h1,rfl⟩:=dG hm
    have:=fB n _ _ _ k h1
    simp only[Vl.nodes];omega
   ·rcases aI.1 hm with hm|hm
    ·obtain⟨k,h1,rfl⟩:=dG hm
     have:=fB n _ _ _ k h1
     simp only[Vl.nodes];omega
    ·obtain⟨k,h1,rfl⟩:=dG hm
     have:=fB n _ _ _ k h1
     simp only[Vl.nodes];omega
   ·rcases aI.1 hm with hm|hm
    ·obtain⟨k,h1,rfl⟩:=dG hm
     have:=fB n _ _ _ k h1
     simp only[Vl.nodes];omega
    ·obtain⟨k,h1,h2⟩:=List.mem_flatMap.1 hm
     obtain⟨k2,h3,rfl⟩:=dG h2
     have:=fB n _ _ _ k h1
     have:=fB n _ _ _ k2 h3
     simp only[Vl.nodes];omega
   ·simp at hm
theorem gO:∀(n m:Nat) (t:Ty) (tg:Tg) (v:Vl),v.nodes<=n->v.nodes<=m->eC n t tg v=eC m t tg v
 |0,m,t,tg,v,h,_=>by have:=dE v;omega
 |n+1,0,t,tg,v,_,h=>by have:=dE v;omega
 |
  n+1,m+1,t,tg,v,hn,hm=>by
  rw[eC,eC]
  split
  ·rfl
  ·unfold ki
   split
   ·simp only[Vl.nodes]at hn hm;rw[gO n m _ _ _ (by omega) (by omega)]
   ·simp only[Vl.nodes]at hn hm;rw[gO n m _ _ _ (by omega) (by omega)]
   ·simp only[Vl.nodes]at hn hm;rw[gO n m _ _ _ (by omega) (by omega),gO n m _ _ _ (by omega) (by omega)]
   ·rename_i a w
    simp only[Vl.nodes]at hn hm;rw[gO n m _ _ _ (by omega) (by omega),gO n m _ (.bd 0) _ (by omega) (by omega)]
    congr 1
    apply jJ
    intro h hh
    have:=(fB _ _ _ _ _ hh).1
    rw[gO n m _ _ _ (by omega) (by omega)]
   ·rfl
theorem nS{n:Nat}(t:Ty)(tg:Tg){v:Vl}(h:v.nodes<=n):eC n t tg v=cg t tg v:=gO _ _ _ _ _ h (aq _)
theorem mj{t:Ty}{tg:Tg}(v:Vl)(h:fK t tg=true):cg t tg v=[(.u,v)]:=by
 have:=dE v
 unfold cg
 cases e:v.nodes with
 |zero=>omega
 |succ n=>rw[eC,if_pos h]
theorem mS(a b:Ty)(tg:Tg)(w:Vl):cg (.plus a b) tg (.l w)=jl .l (cg a tg w):=by
 unfold cg;rw[show (Vl.l w).nodes=w.nodes+1 by simp[Vl.nodes];omega,eC,if_neg (by simp[fK])];rfl
theorem mE(a b:Ty)(tg:Tg)(w:Vl):cg (.plus a b) tg (.r w)=jl .r (cg b tg w):=by
 unfold cg;rw[show (Vl.r w).nodes=w.nodes+1 by simp[Vl.nodes];omega,eC,if_neg (by simp[fK])];rfl
theorem mP(a b:Ty)(tg:Tg)(x y:Vl):cg (.times a b) tg (.p x y)=jl (fun c=>.l (.p c y)) (cg a tg x)++jl (fun c=>.r (.p x c)) (cg b tg y):=by
 rw[cg,show (Vl.p x y).nodes=(x.nodes+y.nodes)+1 by simp[Vl.nodes];omega,eC,if_neg (by simp[fK])]
 rw[ki,nS a tg (by omega),nS b tg (by omega)]
theorem mJ(a:Ty)(tg:Tg)(w:Vl):cg (.rc a) tg (.f w)=jl (fun c=>.f (.l c)) (cg a tg.up w)++(cg a (.bd 0) w).flatMap fun h=>jl (fun c=>.f (.r (.p h.1 c))) (cg (.rc a) tg h.2):=by
 rw[cg,show (Vl.f w).nodes=w.nodes+1 by simp[Vl.nodes];omega,eC,if_neg (by simp[fK])]
 rw[ki,nS a tg.up (aq _),nS a (.bd 0) (aq _)]
 congr 1
 apply jJ
 intro h hh
 have:=(fB _ _ _ _ _ hh).1
 rw[nS (.rc a) tg this]
theorem dS{t:Ty}{tg:Tg}{v:Vl}(h:fK t tg=false)(h2:stuck t v=true):cg t tg v=[]:=by
 unfold cg
 cases e:v.nodes with
 |zero=>rfl
 |
  succ n =>
  rw[eC,if_neg (by rw[h];simp)]
  unfold ki
  split<;>first|(simp[stuck]at h2;done)|rfl
theorem jh{t:Ty}{tg:Tg}{v:Vl}{h:Hl}(hm:h∈cg t tg v):h.2.nodes<=v.nodes/\h.1.nodes+4*h.2.nodes<=4*v.nodes+1:=fB _ _ _ _ _ hm
theorem gT(n:Nat):∀(m:Nat) (t:Ty) (tg:Tg) (v:Vl) (h:Hl),v.ir n->h∈eC m t tg v->h.1.ir n/\h.2.ir n
 |0,t,tg,v,h,hv,hm=>by simp[eC]at hm
 |
  m+1,t,tg,v,h,hv,hm=>by
  unfold eC at hm
  split at hm
  ·simp only[aL]at hm
   subst hm
   exact⟨trivial,hv⟩
  ·unfold ki at hm
   split at hm
   ·obtain⟨k,h1,rfl⟩:=dG hm
    exact(fun q=>gT n m _ _ _ k q h1) hv
   ·obtain⟨k,h1,rfl⟩:=dG hm
    exact(fun q=>gT n m _ _ _ k q h1) hv
   ·rcases aI.1 hm with hm|hm
    ·obtain⟨k,h1,rfl⟩:=dG hm
     obtain⟨q1,q2⟩:=gT n m _ _ _ k hv.1 h1
     exact⟨⟨q1,hv.2⟩,q2⟩
    ·obtain⟨k,h1,rfl⟩:=dG hm
     obtain⟨q1,q2⟩:=gT n m _ _ _ k hv.2 h1
     exact⟨⟨hv.1,q1⟩,q2⟩
   ·rcases aI.1 hm with hm|hm
    ·obtain⟨k,h1,rfl⟩:=dG hm
     exact(fun q=>gT n m _ _ _ k q h1) hv
    ·obtain⟨k,h1,h2⟩:=List.mem_flatMap.1 hm
     obtain⟨k2,h3,rfl⟩:=dG h2
     obtain⟨q1,q2⟩:=(fun q=>gT n m _ _ _ k q h1) hv
     obtain⟨q3,q4⟩:=gT n m _ _ _ k2 q2 h3
     exact⟨⟨q1,q3⟩,q4⟩
   ·simp at hm
def kH(l:List Hl):Nat:=(l.map fun h=>h.2.nodes).sum
theorem rD(l r:List Hl):kH (l++r)=kH l+kH r:=by simp[kH]
theorem oA(g:Vl->Vl)(l:List Hl):kH (jl g l)=kH l:=by simp[kH,jl,Function.comp_def]
def ku(f:Tg->Nat)(T:List Tg):Nat:=(T.map f).sum
theorem n6(f g:Tg->Nat):∀T:List Tg,ku (fun x=>f x+g x) T=ku f T+ku g T
 |[]=>rfl
 |x::T=>by have:=n6 f g T;simp only[ku,bM,List.sum_cons]at this |-;omega
theorem xC{f g:Tg->Nat}:∀{T:List Tg},(∀x,x∈T->f x<=g x)->ku f T<=ku g T
 |[],_=>aq _
 |
  x::T,h=>by
  have:=xC (T:=T) fun y hy=>h y (ak _ hy)
  have:=h x aj
  simp only[ku,bM,List.sum_cons]at *;omega
theorem pd{f:Tg->Nat}:∀{T:List Tg},(∀x,x∈T->f x=0)->ku f T=0
 |[],_=>rfl
 |
  x::T,h=>by
  have:=pd (T:=T) fun y hy=>h y (ak _ hy)
  have:=h x aj
  simp only[ku,bM,List.sum_cons]at *;omega
theorem sf(g:Hl->Tg->Nat)(T:List Tg):∀l:List Hl,ku (fun x=>(l.map fun h=>g h x).sum) T=(l.map fun h=>ku (g h) T).sum
 |[]=>pd fun _ _=>rfl
 |
  h::l=>by
  have:=sf g T l
  simp only[bM,List.sum_cons]
  rw[n6,this]
theorem su(f:Hl->List Hl):∀l:List Hl,kH (l.flatMap f)=(l.map fun h=>kH (f h)).sum
 |[]=>rfl
 |h::l=>by rw[List.flatMap_cons,rD,su f l];simp
theorem AW{f g:Hl->Nat}:∀{l:List Hl},(∀x,x∈l->f x<=g x)->(l.map f).sum<=(l.map g).sum
 |[],_=>aq _
 |
  x::l,h=>by
  have:=AW (l:=l) fun y hy=>h y (ak _ hy)
  have:=h x aj
  simp only[bM,List.sum_cons]at *;omega
theorem By{t:Ty}{x y:Tg}(h:fK t x=true)(h':fK t y=true):x=y:=by
 cases t<;>cases x<;>cases y<;>simp[fK]at h h'<;>simp_all
theorem xG{t:Ty}(n:Nat):∀{T:List Tg},T.Nodup->ku (fun x=>if fK t x=true then n else 0) T<=n
 |[],_=>Nat.zero_le _
 |
  x::T,h=>by
  obtain⟨h1,h2⟩:=List.nodup_cons.1 h
  have ih:=xG (t:=t) n h2
  by_cases hx:fK t x=true
  ·have:ku (fun x=>if fK t x=true then n else 0) T=0:=pd fun y hy=>by
    rw[if_neg fun hy'=>h1 (by rw[By hx hy'];exact hy)]
   simp only[ku,bM,List.sum_cons]at *
   rw[if_pos hx];omega
  ·simp only[ku,bM,List.sum_cons]at *
   rw[if_neg hx];omega
theorem Aj{T:List Tg}(h:T.Nodup):(Tg.bd 0::T.map Tg.up).Nodup:=by
 refine List.nodup_cons.2 ⟨fun hm=>?_,?_⟩
 ·obtain⟨x,_,e⟩:=cd.1 hm
  cases x<;>simp[Tg.up]at e
 ·refine List.Pairwise.map _ (fun a b hab e=>hab ?_) h
  cases a<;>cases b<;>simp[Tg.up]at e<;>simp_all
theorem apart:∀(n:Nat) (v:Vl),v.nodes<=n->∀(t:Ty) (T:List Tg),T.Nodup->ku (fun x=>kH (cg t x v)) T<=v.nodes
 |0,v,h=>by have:=dE v;omega
 |
  n+1,v,hn=>by
  intro t T hT
  have base:∀(hno:∀x,fK t x=false->cg t x v=[]),ku (fun x=>kH (cg t x v)) T<=v.nodes:=fun hno=>by
   refine Nat.le_trans (xC fun x _=>?_) (xG (t:=t) v.nodes hT)
   cases e:fK t x with
   |true=>rw[mj v e];simp[kH]
   |false=>rw[hno x e];simp[kH]
  cases hm:stuck t v with
  |true=>exact base fun x hx=>dS hx hm
  |
   false =>
   unfold stuck at hm
   split at hm
   ·rename_i a b w
    simp only[Vl.nodes]at hn |-
    simp only[mS,oA]
    have:=apart n w (by omega) a T hT
    omega
   ·rename_i a b w
    simp only[Vl.nodes]at hn |-
    simp only[mE,oA]
    have:=apart n w (by omega) b T hT
    omega
   ·rename_i a b x y
    simp only[Vl.nodes]at hn |-
    simp only[mP,rD,oA]
    rw[n6]
    have:=apart n x (by omega) a T hT
    have:=apart n y (by omega) b T hT
    omega
   ·rename_i a w
    simp only[Vl.nodes]at hn |-
    simp only[mJ,rD,oA,su]
    rw[n6,sf]
    have h1:=apart n w (by omega) a _ (Aj hT)
    simp only[ku,bM,List.sum_cons,List.map_map]at h1
    have h2:((cg a (.bd 0) w).map fun h=>ku (fun x=>kH (cg (.rc a) x h.2)) T).sum<=kH (cg a (.bd 0) w):=AW fun h hh=>by
     have:=(jh hh).1
     exact apart n h.2 (by omega) (.rc a) T hT
    simp only[ku,Function.comp_def]at h1 h2 |-
    omega
   ·cases hm
theorem qK(t:Ty)(tg:Tg)(v:Vl):kH (cg t tg v)<=v.nodes:=by
 have:=apart v.nodes v (aq _) t [tg] (by simp)
 simpa[ku]using this
theorem nI:∀l:List Hl,l.length<=kH l
 |[]=>Nat.zero_le _
 |
  h::l=>by
  have:=nI l
  have:=dE h.2
  simp only[kH,bM,List.sum_cons,aB]at *;omega
theorem mI(t:Ty)(tg:Tg)(v:Vl):(cg t tg v).length<=v.nodes:=Nat.le_trans (nI _) (qK t tg v)
end Go.Proofs.Trees
namespace Go.Proofs.Trees
open Go Go.VL Go.RowKit
def gf(ar:List (List UInt8))(k:Nat):List UInt8:=ar.getD (ar.length-1-k) []
theorem fG{s:List UInt8}{ar:List (List UInt8)}:∀(i u:Nat),i<=ar.length->bI s ar i=some u->u<ar.length/\gf ar u=s
 |0,u,_,h=>by cases h
 |
  i+1,u,hi,h=>by
  rw[bI]at h
  split at h
  ·rename_i e
   cases h
   refine⟨by omega,?_⟩
   rw[gf,show ar.length-1-(ar.length-1-i)=i by omega];exact e
  ·exact fG i u (by omega) h
def uq:Ty->Tg->Bool
 | .plus a b,tg=>uq a tg||uq b tg
 | .times a b,tg=>uq a tg||uq b tg
 | .rc a,tg=>uq a tg.up
 |t,tg=>fK t tg
theorem iB:∀(n:Nat) (v:Vl),v.nodes<=n->∀(t:Ty) (tg:Tg),uq t tg=false->cg t tg v=[]
 |0,v,h=>by have:=dE v;omega
 |
  n+1,v,hn=>by
  intro t tg ho
  cases hm:stuck t v with
  |
   true =>
   refine dS ?_ hm
   cases t<;>first|exact ho|rfl
  |
   false =>
   unfold stuck at hm
   split at hm
   ·simp only[Vl.nodes]at hn
    simp only[uq,cw]at ho
    rw[mS,iB n _ (by omega) _ _ ho.1];rfl
   ·simp only[Vl.nodes]at hn
    simp only[uq,cw]at ho
    rw[mE,iB n _ (by omega) _ _ ho.2];rfl
   ·simp only[Vl.nodes]at hn
    simp only[uq,cw]at ho
    rw[mP,iB n _ (by omega) _ _ ho.1,iB n _ (by omega) _ _ ho.2];rfl
   ·rename_i a w
    simp only[Vl.nodes]at hn
    have ho':uq a tg.up=false:=ho
    rw[mJ,iB n _ (by omega) _ _ ho']
    have:(cg a (.bd 0) w).flatMap (fun h=>jl (fun c=>.f (.r (.p h.1 c))) (cg (.rc a) tg h.2))=(cg a (.bd 0) w).flatMap (fun _=>[]):=jJ fun h hh=>by
     have:=(jh hh).1
     rw[iB n h.2 (by omega) (.rc a) tg ho];rfl
    rw[this]
    induction cg a (.bd 0) w<;>simp_all[jl]
   ·cases hm
theorem ky:∀(e:E) (ar:List (List UInt8)) (t:Ty) (k:Nat),cP e ar=some t->uq t (.bd k)=true->k<ar.length/\bI (gf ar k) ar ar.length=some k
 |
  .atom s,ar,t,k,ht,ho=>by
  simp only[cP]at ht
  split at ht
  ·cases ht;cases ho
  ·split at ht
   ·cases ht;cases ho
   ·split at ht
    ·cases ht;cases ho
    ·split at ht
     ·split at ht
      ·rename_i u hu
       cases ht
       have:u=k:=by simpa[uq,fK]using ho
       subst this
       obtain⟨h1,h2⟩:=fG _ _ (aq _) hu
       exact⟨h1,by rw[h2];exact hu⟩
      ·cases ht;cases ho
     ·cases ht
 |
  .list [x,a,b],ar,t,k,ht,ho=>by
  by_cases h0:x.at=[43]
  ·obtain⟨t1,t2,h1,h2,rfl⟩:=fF h0 ht
   simp only[uq,bp]at ho
   rcases ho with ho|ho
   ·exact ky a ar t1 k h1 ho
   ·exact ky b ar t2 k h2 ho
  ·by_cases h1:x.at=[42]
   ·obtain⟨t1,t2,h1,h2,rfl⟩:=eU h1 ht
    simp only[uq,bp]at ho
    rcases ho with ho|ho
    ·exact ky a ar t1 k h1 ho
    ·exact ky b ar t2 k h2 ho
   ·by_cases h2:x.at=[114,101,99]
    ·obtain⟨t1,_,h3,rfl⟩:=dA h2 ht
     obtain⟨q1,q2⟩:=ky b (ar++[a.at]) t1 (k+1) h3 ho
     simp only[ax,aB,aJ]at q1
     have hk:k<ar.length:=by omega
     have e:gf (ar++[a.at]) (k+1)=gf ar k:=by
      unfold gf
      rw[ax,show ar.length+[a.at].length-1-(k+1)=ar.length-1-k by simp;omega]
      simp[aa,List.getElem?_append_left (show ar.length-1-k<ar.length by omega)]
     rw[e]at q2
     refine⟨hk,?_⟩
     have e2:(ar++[a.at]).length=ar.length+1:=by simp
     rw[e2,bI]at q2
     split at q2
     ·rw[e2]at q2;simp at q2
     ·rw[j3 _ _ _ _ (aq _)]at q2
      cases hq:bI (gf ar k) ar ar.length with
      |none=>rw[hq]at q2;cases q2
      |some u=>rw[hq]at q2;simpa using q2
    ·rw[iP _ h0 h1 h2]at ht;cases ht
 | .list [],ar,t,k,ht,ho=>by cases ht
 | .list [_],ar,t,k,ht,ho=>by cases ht
 | .list [_,_],ar,t,k,ht,ho=>by cases ht
 | .list (_::_::_::_::_),ar,t,k,ht,ho=>by cases ht
theorem ff(w:List UInt8)(ar:List (List UInt8)):bI w (ar++[w]) (ar++[w]).length=some 0:=by
 have e2:(ar++[w]).length=ar.length+1:=by simp
 rw[e2,bI,if_pos (by simp[aa]),e2];simp
theorem jw{s w:List UInt8}(ar:List (List UInt8))(h:w≠s):bI s (ar++[w]) (ar++[w]).length=(bI s ar ar.length).map (·+1):=by
 have e2:(ar++[w]).length=ar.length+1:=by simp
 rw[e2,bI,if_neg (by simpa[aa]using h),j3 _ _ _ _ (aq _)]
theorem FP{b:E}{ar:List (List UInt8)}{w:List UInt8}{t:Ty}{k:Nat}(hb:cP b (ar++[w])=some t)(hk:bI w ar ar.length=some k):uq t (.bd (k+1))=false:=by
 cases h:uq t (.bd (k+1))with
 |false=>rfl
 |
  true =>
  obtain⟨_,q2⟩:=ky _ _ _ _ hb h
  obtain⟨h1,h2⟩:=fG _ _ (aq _) hk
  have e:gf (ar++[w]) (k+1)=gf ar k:=by
   unfold gf
   rw[ax,show ar.length+[w].length-1-(k+1)=ar.length-1-k by simp;omega]
   simp[aa,List.getElem?_append_left (show ar.length-1-k<ar.length by omega)]
  rw[e,h2,ff]at q2
  cases q2
def oM(s:List UInt8)(ar:List (List UInt8)):Tg:=match bI s ar ar.length with|some u=>.bd u|none=>.nm s
theorem uY(w:List UInt8)(ar:List (List UInt8)):oM w (ar++[w])=.bd 0:=by rw[oM,ff]
theorem yk{s w:List UInt8}(ar:List (List UInt8))(h:w≠s):oM s (ar++[w])=(oM s ar).up:=by
 rw[oM,oM,jw ar h]
 cases bI s ar ar.length<;>rfl
theorem hD(n:Nat):∀(m:Nat) (v:Vl),v.nodes<=m->∀(e:E) (env:List Fr) (t:Ty),Ask e env t->eQ n v (e,env)=true->∀(k:Nat) (f:Fr),env[k]?=some f->∀h,h∈cg t (.bd k) v->eQ n h.2 (f.ex,f.out)=true
 |0,v,hm=>by have:=dE v;omega
 |
  m+1,v,hm=>by
  intro e env t A hv k f hf h hh
  rcases gl A.wf A.ty with⟨hb,hq⟩|⟨u,g,rfl,hq,hu⟩
  ·have hhd:hd e env=(e,env):=j6 hq
   rcases fD A.ty hb A.cl with⟨rfl,rfl⟩|⟨rfl,rfl⟩|⟨s,rfl,rfl,hp,h0,h1⟩|⟨x,a,b,t1,t2,rfl,hx,rfl,ha,hbb⟩|⟨x,a,b,t1,t2,rfl,hx,rfl,ha,hbb⟩|⟨x,a,b,t1,rfl,hx,rfl⟩
   ·rw[dS rfl (by cases v<;>rfl)]at hh;cases hh
   ·rw[dS rfl (by cases v<;>rfl)]at hh;cases hh
   ·rw[dS rfl (by cases v<;>rfl)]at hh;cases hh
   ·obtain⟨ok1,ok2,ok3,_⟩:=A.ok
    obtain⟨f1,f2⟩:=fm A.cl
    cases v with
    |
     l w =>
     simp only[eQ,hhd,hx,beq_self_eq_true,bQ]at hv
     simp only[Vl.nodes]at hm
     rw[mS]at hh
     obtain⟨h2,h3,rfl⟩:=dG hh
     exact hD n m w (by omega) a env t1 ⟨ok2,A.wf,ha,f1⟩ hv k f hf h2 h3
    |
     r w =>
     simp only[eQ,hhd,hx,beq_self_eq_true,bQ]at hv
     simp only[Vl.nodes]at hm
     rw[mE]at hh
     obtain⟨h2,h3,rfl⟩:=dG hh
     exact hD n m w (by omega) b env t2 ⟨ok3,A.wf,hbb,f2⟩ hv k f hf h2 h3
    |_=>rw[dS rfl rfl]at hh;cases hh
   ·obtain⟨ok1,ok2,ok3,_⟩:=A.ok
    obtain⟨f1,f2⟩:=eM A.cl
    cases v with
    |
     p w w' =>
     simp only[eQ,hhd,hx,beq_self_eq_true,bQ,ap]at hv
     simp only[Vl.nodes]at hm
     rw[mP]at hh
     rcases aI.1 hh with hh|hh
     ·obtain⟨h2,h3,rfl⟩:=dG hh
      exact hD n m w (by omega) a env t1 ⟨ok2,A.wf,ha,f1⟩ hv.1 k f hf h2 h3
     ·obtain⟨h2,h3,rfl⟩:=dG hh
      exact hD n m w' (by omega) b env t2 ⟨ok3,A.wf,hbb,f2⟩ hv.2 k f hf h2 h3
    |_=>rw[dS rfl rfl]at hh;cases hh
   ·obtain⟨t1',he1,h1,f1,hw1⟩:=jd A.wf A.ok hx A.ty A.cl
    cases he1
    obtain⟨ok1,ok2,ok3,_⟩:=A.ok
    cases v with
    |
     f w =>
     simp only[eQ,hhd,hx,beq_self_eq_true,bQ]at hv
     simp only[Vl.nodes]at hm
     rw[mJ]at hh
     have A':Ask b (.mk a.at (.list [x,a,b]) env::env) t1:=⟨ok3,hw1,h1,f1⟩
     rcases aI.1 hh with hh|hh
     ·obtain⟨h2,h3,rfl⟩:=dG hh
      exact hD n m w (by omega) b _ t1 A' hv (k+1) f (by simpa using hf) h2 h3
     ·obtain⟨kd,h2,h3⟩:=List.mem_flatMap.1 hh
      obtain⟨h4,h5,rfl⟩:=dG h3
      have hkd:=hD n m w (by omega) b _ t1 A' hv 0 _ rfl kd h2
      have:=(jh h2).1
      exact hD n m kd.2 (by omega) (.list [x,a,b]) env _ A hkd k f hf h4 h5
    |_=>rw[dS rfl rfl]at hh;cases hh
  ·by_cases huk:u=k
   ·subst huk
    rw[hu]at hf;cases hf
    rw[mj v (by simp[fK])]at hh
    simp only[aL]at hh
    subst hh
    obtain⟨x,a,b,t',hfe,hok,hx,ht',hf',hwf,hlt⟩:=oe A.wf hq
    rw[<-s6 n v (p7 hq) (by rw[hfe];exact oV hwf)];exact hv
   ·rw[dS (by simpa[fK]using huk) (by cases v<;>rfl)]at hh;cases hh
end Go.Proofs.Trees
namespace Go.Proofs.Trees
open Go Go.VL Go.RowKit
def cO:E->List Nm->Ty
 | .atom s,ar=>if s=[48]then .zero else if s=[49]then .one else match bI s ar ar.length with|some u=>.bO u|none=>.name s
 | .list [x,a,b],ar=>if x.at=[43]then .plus (cO a ar) (cO b ar)else if x.at=[42]then .times (cO a ar) (cO b ar)else .rc (cO b (ar++[a.at]))
 | .list _,_=>.zero
def rJ(s:Nm):Prop:=s≠[]/\s≠[48]/\s≠[49]
inductive Wf:E->Prop
 |atom {s} (h:s≠[]):Wf (.atom s)
 |plus {a b} (ha:Wf a) (hb:Wf b):Wf (.list [.atom [43],a,b])
 |times {a b} (ha:Wf a) (hb:Wf b):Wf (.list [.atom [42],a,b])
 |rc {n b} (hn:rJ n) (hb:Wf b):Wf (.list [.atom [114,101,99],.atom n,b])
theorem dL(a b:E)(ar:List Nm):cO (.list [.atom [43],a,b]) ar=.plus (cO a ar) (cO b ar):=by rw[cO,if_pos (show (E.atom [43]).at=[43] from rfl)]
theorem dk(a b:E)(ar:List Nm):cO (.list [.atom [42],a,b]) ar=.times (cO a ar) (cO b ar):=by rw[cO,if_neg (by decide),if_pos (show (E.atom [42]).at=[42] from rfl)]
theorem eV(a b:E)(ar:List Nm):cO (.list [.atom [114,101,99],a,b]) ar=.rc (cO b (ar++[a.at])):=by rw[cO,if_neg (by decide),if_neg (by decide)]
theorem Wf.ok{e:E}(h:Wf e):e.ok:=by
 induction h with
 |atom h=>exact h
 |plus ha hb i1 i2=>exact⟨by simp[E.ok],i1,i2,trivial⟩
 |times ha hb i1 i2=>exact⟨by simp[E.ok],i1,i2,trivial⟩
 |rc hn hb i=>exact⟨by simp[E.ok],hn.1,i,trivial⟩
theorem Wf.dB{e:E}(h:Wf e):∀ar,e.dB=(cO e ar).az:=by
 induction h with
 |
  @atom s h =>
  intro ar
  simp only[E.dB,cO]
  split
  ·rfl
  ·split
   ·rfl
   ·split<;>rfl
 |plus ha hb i1 i2=>intro ar;rw[dL];simp only[E.dB,E.fJ,Ty.az,<-i1 ar,<-i2 ar];omega
 |times ha hb i1 i2=>intro ar;rw[dk];simp only[E.dB,E.fJ,Ty.az,<-i1 ar,<-i2 ar];omega
 |@rc n b hn hb i=>intro ar;rw[eV];simp only[E.dB,E.fJ,Ty.az,<-i];omega
theorem Wf.sz{e:E}(h:Wf e):e.sz<=3*e.dB:=by
 induction h with
 |atom h=>simp[E.sz,E.dB]
 |plus ha hb i1 i2=>simp only[E.sz,E.jP,E.dB,E.fJ];omega
 |times ha hb i1 i2=>simp only[E.sz,E.jP,E.dB,E.fJ];omega
 |rc hn hb i=>simp only[E.sz,E.jP,E.dB,E.fJ];omega
theorem lr:∀(e:E) (ar:List Nm) (t:Ty),e.ok->(∀w,w∈ar->dc w=true)->cP e ar=some t->Wf e/\cO e ar=t
 |
  .atom s,ar,t,hok,hl,ht=>by
  refine⟨.atom hok,?_⟩
  simp only[cP,cO]at ht |-
  split at ht
  ·rename_i h;rw[if_pos h];simpa using ht
  ·rename_i h;rw[if_neg h]
   split at ht
   ·rename_i h1;rw[if_pos h1];simpa using ht
   ·rename_i h1;rw[if_neg h1]
    split at ht
    ·rename_i hp
     cases q:bI s ar ar.length with
     |none=>simpa using ht
     |
      some u =>
      obtain⟨h1,h2⟩:=fG _ _ (aq _) q
      have:=hl (gf ar u) (by
       unfold gf
       have:ar.length-1-u<ar.length:=by omega
       simp[aa,this])
      rw[h2,jZ hp]at this;cases this
    ·split at ht
     ·split at ht<;>rename_i q<;>rw[q]<;>simpa using ht
     ·cases ht
 |
  .list [x,a,b],ar,t,hok,hl,ht=>by
  obtain⟨ok1,ok2,ok3,_⟩:=hok
  by_cases h0:x.at=[43]
  ·obtain⟨t1,t2,h1,h2,rfl⟩:=fF h0 ht
   obtain rfl:=j9 h0 (by simp)
   obtain⟨w1,e1⟩:=lr a ar t1 ok2 hl h1
   obtain⟨w2,e2⟩:=lr b ar t2 ok3 hl h2
   exact⟨.plus w1 w2,by rw[dL,e1,e2]⟩
  ·by_cases h1:x.at=[42]
   ·obtain⟨t1,t2,h2,h3,rfl⟩:=eU h1 ht
    obtain rfl:=j9 h1 (by simp)
    obtain⟨w1,e1⟩:=lr a ar t1 ok2 hl h2
    obtain⟨w2,e2⟩:=lr b ar t2 ok3 hl h3
    exact⟨.times w1 w2,by rw[dk,e1,e2]⟩
   ·by_cases h2:x.at=[114,101,99]
    ·obtain⟨t1,hla,h3,rfl⟩:=dA h2 ht
     obtain rfl:=j9 h2 (by simp)
     have hne:a.at≠[]:=by intro e;rw[e]at hla;cases hla
     have ha:a=.atom a.at:=j9 rfl hne
     obtain⟨w1,e1⟩:=lr b (ar++[a.at]) t1 ok3 (fun w hw=>by
      rcases aI.1 hw with hw|hw
      ·exact hl w hw
      ·simp only[aL]at hw;rw[hw];exact hla) h3
     have hN:rJ a.at:=⟨hne,fun e=>by rw[e]at hla;revert hla;decide,fun e=>by rw[e]at hla;revert hla;decide⟩
     refine⟨?_,by rw[eV,e1]⟩
     rw[ha];exact .rc hN w1
    ·rw[iP _ h0 h1 h2]at ht;cases ht
 | .list [],ar,t,_,_,ht=>by cases ht
 | .list [_],ar,t,_,_,ht=>by cases ht
 | .list [_,_],ar,t,_,_,ht=>by cases ht
 | .list (_::_::_::_::_),ar,t,_,_,ht=>by cases ht
theorem fw(s:Nm)(ar:List Nm):bI s ar ar.length=none↔s∉ar:=by
 have:=mr s ar ar.length (aq _)
 rwa[List.take_length]at this
theorem nv(s:Nm)(ar:List Nm):∀(n:Nat) (br:List Nm),br.length=n->bI s (ar++br) (ar++br).length=match bI s br br.length with|some u=>some u|none=>(bI s ar ar.length).map (·+br.length)
 |
  0,br,h=>by
  obtain rfl:=bT h
  rw[cA]
  cases h:bI s ar ar.length<;>simp[bI]
 |
  n+1,br,h=>by
  obtain⟨b2,w,rfl⟩:∃b2 w,br=b2++[w]:=⟨br.dropLast,br.getLast (by intro e;rw[e]at h;cases h),(List.dropLast_concat_getLast _).symm⟩
  rw[<-aU]
  by_cases hw:w=s
  ·subst hw;rw[ff,ff]
  ·rw[jw _ hw,jw _ hw,nv s ar n b2 (by simpa using h)]
   cases bI s b2 b2.length with
   |some u=>rfl
   |
    none =>
    cases bI s ar ar.length with
    |none=>rfl
    |some u=>simp only[Option.map_none,ck,ax,aB,aJ];congr 1
theorem tq(ar:List Nm){e:E}(h:Wf e):∀br,(∀y,bg y (cO e br)=true->y∉ar)->cO e (ar++br)=cO e br:=by
 induction h with
 |
  @atom s h =>
  intro br hy
  simp only[cO]at hy |-
  split
  ·rfl
  ·rename_i h0
   split
   ·rfl
   ·rename_i h1
    rw[if_neg h0,if_neg h1]at hy
    rw[nv s ar _ br rfl]
    cases q:bI s br br.length with
    |some u=>rfl
    |
     none =>
     rw[q]at hy
     have:=(fw s ar).2 (hy s (by simp[bg]))
     rw[this];rfl
 |
  plus ha hb i1 i2 =>
  intro br hy
  rw[dL]at hy |-
  rw[dL,i1 br fun y h=>hy y (by simp[bg,h]),i2 br fun y h=>hy y (by simp[bg,h])]
 |
  times ha hb i1 i2 =>
  intro br hy
  rw[dk]at hy |-
  rw[dk,i1 br fun y h=>hy y (by simp[bg,h]),i2 br fun y h=>hy y (by simp[bg,h])]
 |
  @rc n b hn hb i =>
  intro br hy
  rw[eV]at hy |-
  rw[eV,aU,i _ hy]
theorem yi(x:Nm){e:E}(h:Wf e):∀ar,cO e ar=dM (.name x) (cO e ([x]++ar)) ar.length:=by
 induction h with
 |
  @atom s h =>
  intro ar
  simp only[cO]
  split
  ·rfl
  ·split
   ·rfl
   ·rw[nv s [x] _ ar rfl]
    cases q:bI s ar ar.length with
    |
     some u =>
     have:=(fG _ _ (aq _) q).1
     simp only[dM];rw[if_neg (by omega)]
    |
     none =>
     by_cases hx:x=s
     ·subst hx
      have:bI x [x] [x].length=some 0:=ff x []
      rw[this];simp[dM]
     ·have:bI s [x] [x].length=none:=(fw s [x]).2 (by simpa using fun e=>hx e.symm)
      rw[this];rfl
 |plus ha hb i1 i2=>intro ar;rw[dL,dL,dM,<-i1 ar,<-i2 ar]
 |times ha hb i1 i2=>intro ar;rw[dk,dk,dM,<-i1 ar,<-i2 ar]
 |
  @rc n b hn hb i =>
  intro ar
  rw[eV,eV,dM,i (ar++[E.at (.atom n)]),aU]
  simp
theorem mT{e:E}(h:Wf e):∀ar y,bg y (cO e ar)=true->rJ y/\y∉ar:=by
 induction h with
 |
  @atom s h =>
  intro ar y hy
  simp only[cO]at hy
  split at hy
  ·cases hy
  ·rename_i h0
   split at hy
   ·cases hy
   ·rename_i h1
    split at hy
    ·cases hy
    ·rename_i q
     simp only[bg,decide_eq_true_eq]at hy
     subst hy
     exact⟨⟨h,h0,h1⟩,(fw _ _).1 q⟩
 |
  plus ha hb i1 i2 =>
  intro ar y hy
  rw[dL]at hy
  simp only[bg,bp]at hy
  rcases hy with hy|hy
  ·exact i1 ar y hy
  ·exact i2 ar y hy
 |
  times ha hb i1 i2 =>
  intro ar y hy
  rw[dk]at hy
  simp only[bg,bp]at hy
  rcases hy with hy|hy
  ·exact i1 ar y hy
  ·exact i2 ar y hy
 |
  rc hn hb i =>
  intro ar y hy
  rw[eV]at hy
  obtain⟨h1,h2⟩:=i _ y hy
  exact⟨h1,fun h=>h2 (ay _ h)⟩
theorem kZ{e:E}(h:Wf e):∀(bd l:List Nm) (y:Nm),y∈j8 e bd l↔y∈l\/bg y (cO e bd)=true:=by
 induction h with
 |
  @atom s h =>
  intro bd l y
  simp only[j8,cO]
  by_cases h0:s=[48]
  ·simp[h0,bg]
  ·by_cases h1:s=[49]
   ·simp[h1,bg]
   ·rw[if_neg h0,if_neg h1]
    by_cases h2:s∈bd
    ·cases q:bI s bd bd.length with
     |none=>exact absurd h2 ((fw _ _).1 q)
     |some u=>simp[h2,bg]
    ·rw[(fw _ _).2 h2]
     simp only[h0,h1,h2,false_or,bg,decide_eq_true_eq]
     by_cases h3:s∈l
     ·simp only[h3,if_true]
      exact⟨fun h=>.inl h,fun h=>by rcases h with h|rfl<;>assumption⟩
     ·simp only[h3,if_false,aI,aL,eq_comm]
 |
  plus ha hb i1 i2 =>
  intro bd l y
  rw[j8,if_neg (by decide),dL,i2,i1]
  simp[bg,or_assoc]
 |
  times ha hb i1 i2 =>
  intro bd l y
  rw[j8,if_neg (by decide),dk,i2,i1]
  simp[bg,or_assoc]
 |
  rc hn hb i =>
  intro bd l y
  rw[j8,if_pos (show (E.atom [114,101,99]).at=[114,101,99] from rfl),eV,i]
  rfl
theorem eG:∀(t:Ty) (out:List Nm) (y:Nm),y∈bG t out↔y∈out\/bg y t=true
 |
  .name s,out,y=>by
  simp only[bG,py,bg,decide_eq_true_eq]
  split
  ·rename_i h;exact⟨fun h=>.inl h,fun h'=>by rcases h' with h'|rfl<;>assumption⟩
  ·simp[eq_comm]
 | .plus a b,out,y=>by rw[bG,eG b,eG a];simp[bg,or_assoc]
 | .times a b,out,y=>by rw[bG,eG b,eG a];simp[bg,or_assoc]
 | .rc a,out,y=>by rw[bG,eG a];rfl
 | .zero,out,y=>by simp[bG,bg]
 | .one,out,y=>by simp[bG,bg]
 | .bO k,out,y=>by simp[bG,bg]
end Go.Proofs.Trees
namespace Go.Proofs.Trees
open Go Go.VL Go.RowKit
abbrev dY:Nm:=[114,101,99]
theorem er(s:Nm):(E.atom s).at=s:=rfl
def rA(x:Nm)(u:E):E->E
 | .atom s=>if s=x then u else .atom s
 | .list [h,a,b]=>if h.at=dY then(if a.at=x then .list [h,a,b]else .list [.atom dY,a,rA x u b])else .list [.atom h.at,rA x u a,rA x u b]
 | .list l=>.list l
def mF(x:Nm):E->Nat
 | .atom s=>if s=x then 1 else 0
 | .list [h,a,b]=>if h.at=dY then(if a.at=x then 0 else mF x b)else mF x a+mF x b
 | .list _=>0
def tM(p:Nm->Prop):E->Prop
 | .atom _=>True
 | .list [h,a,b]=>(if h.at=dY then p a.at else tM p a)/\tM p b
 | .list _=>True
def fp(x:Nm):Ty->Nat
 | .name s=>if s=x then 1 else 0
 | .plus a b=>fp x a+fp x b
 | .times a b=>fp x a+fp x b
 | .rc a=>fp x a
 |_=>0
theorem uC(x:Nm)(u a b:E):rA x u (.list [.atom [43],a,b])=.list [.atom [43],rA x u a,rA x u b]:=by rw[rA,if_neg (by decide)];rfl
theorem sq(x:Nm)(u a b:E):rA x u (.list [.atom [42],a,b])=.list [.atom [42],rA x u a,rA x u b]:=by rw[rA,if_neg (by decide)];rfl
theorem Bm(x:Nm)(u:E)(n:Nm)(b:E):rA x u (.list [.atom dY,.atom n,b])=if n=x then .list [.atom dY,.atom n,b]else .list [.atom dY,.atom n,rA x u b]:=by rw[rA,if_pos (er _)];rfl
theorem qU(x:Nm)(a b:E):mF x (.list [.atom [43],a,b])=mF x a+mF x b:=by rw[mF,if_neg (by decide)]
theorem oP(x:Nm)(a b:E):mF x (.list [.atom [42],a,b])=mF x a+mF x b:=by rw[mF,if_neg (by decide)]
theorem wK(x:Nm)(n:Nm)(b:E):mF x (.list [.atom dY,.atom n,b])=if n=x then 0 else mF x b:=by rw[mF,if_pos (er _)];rfl
theorem oh(p:Nm->Prop)(a b:E):tM p (.list [.atom [43],a,b])↔tM p a/\tM p b:=by rw[tM,if_neg (by decide)]
theorem mL(p:Nm->Prop)(a b:E):tM p (.list [.atom [42],a,b])↔tM p a/\tM p b:=by rw[tM,if_neg (by decide)]
theorem tR(p:Nm->Prop)(n:Nm)(b:E):tM p (.list [.atom dY,.atom n,b])↔p n/\tM p b:=by rw[tM,if_pos (er _)];rfl
theorem A5{p q:Nm->Prop}(h:∀n,p n->q n){e:E}(hw:Wf e):tM p e->tM q e:=by
 induction hw with
 |atom _=>exact fun _=>trivial
 |plus _ _ i1 i2=>rw[oh,oh];exact fun g=>⟨i1 g.1,i2 g.2⟩
 |times _ _ i1 i2=>rw[mL,mL];exact fun g=>⟨i1 g.1,i2 g.2⟩
 |rc _ _ i=>rw[tR,tR];exact fun g=>⟨h _ g.1,i g.2⟩
theorem iQ{s:Nm}(hs:rJ s){ar:List Nm}(h:s∉ar):cO (.atom s) ar=.name s:=by
 simp only[cO];rw[if_neg hs.2.1,if_neg hs.2.2,(fw s ar).2 h]
theorem CD{x:Nm}(hx:rJ x){u:E}(hu:Wf u){e:E}(h:Wf e):tM (fun n=>n≠x/\bg n (cO u [])=false) e->∀ar,x∉ar->(∀y,y∈ar->bg y (cO u [])=false)->Wf (rA x u e)/\cO (rA x u e) ar=sub x (cO u []) (cO e ar):=by
 induction h with
 |
  @atom s hs =>
  intro _ ar har hy
  by_cases e:s=x
  ·subst e
   have:cO u (ar++[])=cO u []:=tq ar hu [] fun y hy' hm=>by rw[hy y hm]at hy';cases hy'
   rw[cA]at this
   rw[iQ hx har]
   simp only[rA,sub,if_true]
   exact⟨hu,this⟩
  ·simp only[rA,if_neg e]
   refine⟨.atom hs,?_⟩
   simp only[cO]
   split
   ·rfl
   ·split
    ·rfl
    ·split
     ·rfl
     ·simp only[sub,if_neg e]
 |
  plus ha hb i1 i2 =>
  intro hap ar har hy
  rw[oh]at hap
  obtain⟨w1,e1⟩:=i1 hap.1 ar har hy
  obtain⟨w2,e2⟩:=i2 hap.2 ar har hy
  rw[uC,dL,dL,e1,e2]
  exact⟨.plus w1 w2,rfl⟩
 |
  times ha hb i1 i2 =>
  intro hap ar har hy
  rw[mL]at hap
  obtain⟨w1,e1⟩:=i1 hap.1 ar har hy
  obtain⟨w2,e2⟩:=i2 hap.2 ar har hy
  rw[sq,dk,dk,e1,e2]
  exact⟨.times w1 w2,rfl⟩
 |
  @rc n b hn hb i =>
  intro hap ar har hy
  rw[tR]at hap
  obtain⟨w1,e1⟩:=i hap.2 (ar++[n]) (by
   simp only[aI,aL]
   rintro(h|h)
   ·exact har h
   ·exact hap.1.1 h.symm) (fun y hm=>by
   simp only[aI,aL]at hm
   rcases hm with hm|rfl
   ·exact hy y hm
   ·exact hap.1.2)
  rw[Bm,if_neg hap.1.1,eV,eV]
  refine⟨.rc hn w1,?_⟩
  show Ty.rc (cO (rA x u b) (ar++[n]))=_
  rw[e1];rfl
theorem CS{x:Nm}(hx:rJ x){e:E}(h:Wf e):∀ar,fp x (cO e ar)=if x∈ar then 0 else mF x e:=by
 induction h with
 |
  @atom s hs =>
  intro ar
  by_cases e:s=x
  ·subst e
   by_cases hm:s∈ar
   ·rw[if_pos hm]
    simp only[cO];rw[if_neg hx.2.1,if_neg hx.2.2]
    cases q:bI s ar ar.length with
    |none=>exact absurd hm ((fw _ _).1 q)
    |some u=>rfl
   ·rw[if_neg hm,iQ hx hm];simp[fp,mF]
  ·have:fp x (cO (.atom s) ar)=0:=by
    simp only[cO]
    split
    ·rfl
    ·split
     ·rfl
     ·split
      ·rfl
      ·simp[fp,e]
   rw[this];simp[mF,e]
 |plus ha hb i1 i2=>intro ar;rw[dL,qU,fp,i1,i2];split<;>simp
 |times ha hb i1 i2=>intro ar;rw[dk,oP,fp,i1,i2];split<;>simp
 |
  @rc n b hn hb i =>
  intro ar
  rw[eV,wK,fp,i]
  simp only[er,aI,aL]
  by_cases h1:x∈ar
  ·simp[h1]
  ·by_cases h2:x=n
   ·simp[h2]
   ·simp[h1,h2,Ne.symm h2]
theorem dU(x:Nm)(u:Ty):∀t:Ty,(sub x u t).az+fp x t=t.az+fp x t*u.az
 | .name s=>by simp only[sub,fp];split<;>simp[Ty.az];omega
 | .plus a b=>by have:=dU x u a;have:=dU x u b;simp only[sub,Ty.az,fp,Nat.add_mul];omega
 | .times a b=>by have:=dU x u a;have:=dU x u b;simp only[sub,Ty.az,fp,Nat.add_mul];omega
 | .rc a=>by have:=dU x u a;simp only[sub,Ty.az,fp];omega
 | .zero=>by simp[sub,fp]
 | .one=>by simp[sub,fp]
 | .bO k=>by simp[sub,fp]
abbrev tN(m:Nat):Nm:=116::dd m
theorem DJ(m:Nat):dd m≠[]:=by
 by_cases h:m<10
 ·rw[eE h];simp
 ·rw[fk h];simp
theorem vS:∀(n m k:Nat),m<n->dd m=dd k->m=k
 |0,m,k,h,_=>by omega
 |
  n+1,m,k,h,e=>by
  have d10:∀{a b:Nat},a<10->b<10->ba (48+a)=ba (48+b)->a=b:=fun {a b} ha hb h=>by
   have:=congrArg UInt8.toNat h
   simp only[UInt8.toNat_ofNat']at this
   omega
  by_cases h1:m<10<;>by_cases h2:k<10
  ·rw[eE h1,eE h2]at e
   simp only[List.cons.injEq,and_true]at e
   exact d10 h1 h2 e
  ·rw[eE h1,fk h2]at e
   have:=congrArg List.length e
   have:dd (k/10)=[]:=by
    apply bT
    simp at this;simpa using this
   exact absurd this (DJ _)
  ·rw[fk h1,eE h2]at e
   have:=congrArg List.length e
   have:dd (m/10)=[]:=by
    apply bT
    simp at this;simpa using this
   exact absurd this (DJ _)
  ·rw[fk h1,fk h2]at e
   obtain⟨e1,e2⟩:=List.append_inj' e rfl
   have:=vS n (m/10) (k/10) (by omega) e1
   simp only[List.cons.injEq,and_true]at e2
   have:=d10 (Nat.mod_lt _ (by omega)) (Nat.mod_lt _ (by omega)) e2
   omega
theorem Bs{m k:Nat}(h:tN m=tN k):m=k:=vS (m+1) m k (by omega) (List.cons.inj h).2
theorem xk(m:Nat):rJ (tN m):=⟨by simp,by simp,by simp⟩
theorem RM:∀(l F:List Nm),l.Nodup->(∀x,x∈l->x∈F)->l.length<=F.length
 |[],_,_,_=>Nat.zero_le _
 |
  x::l,F,hn,hs=>by
  obtain⟨h1,h2⟩:=List.nodup_cons.1 hn
  have hx:=hs x aj
  have:=RM l (F.erase x) h2 fun y hy=>(List.mem_erase_of_ne (fun e=>h1 (by rw[<-e];exact hy))).2 (hs y (ak _ hy))
  rw[List.length_erase_of_mem hx]at this
  have:0<F.length:=List.length_pos_of_mem hx
  simp only[aB];omega
def pJ(F:List Nm):Nat->Nat->Nat
 |0,k=>k
 |n+1,k=>if tN k∈F then pJ F n (k+1)else k
theorem uF(F:List Nm):∀(n k:Nat),k<=pJ F n k/\pJ F n k<=k+n/\(∀j,k<=j->j<pJ F n k->tN j∈F)/\(pJ F n k<k+n->tN (pJ F n k)∉F)
 |0,k=>⟨aq _,aq _,fun j h1 h2=>by simp only[pJ]at h2;omega,fun h=>by simp only[pJ]at h;omega⟩
 |
  n+1,k=>by
  rw[pJ]
  split
  ·rename_i hm
   obtain⟨h1,h2,h3,h4⟩:=uF F n (k+1)
   refine⟨by omega,by omega,fun j hj hl=>?_,fun h=>h4 (by omega)⟩
   by_cases e:j=k
   ·subst e;exact hm
   ·exact h3 j (by omega) hl
  ·rename_i hm
   exact⟨aq _,by omega,fun j h1 h2=>by omega,fun _=>hm⟩
def nx(F:List Nm)(k:Nat):Nat:=pJ F (F.length+1) k
theorem gu(F:List Nm)(k:Nat):k<=nx F k/\nx F k<=k+F.length/\(∀j,k<=j->j<nx F k->tN j∈F)/\tN (nx F k)∉F:=by
 obtain⟨h1,h2,h3,h4⟩:=uF F (F.length+1) k
 have hlt:nx F k<k+(F.length+1):=by
  rcases Nat.lt_or_ge (nx F k) (k+(F.length+1))with h|h
  ·exact h
  ·exfalso
   have:=RM ((List.range' k (F.length+1)).map tN) F (by
    refine List.Pairwise.map _ (fun a b hab e=>hab (Bs e)) List.nodup_range') (fun x hx=>by
    obtain⟨j,hj,rfl⟩:=cd.1 hx
    obtain⟨i,hi,rfl⟩:=List.mem_range'.1 hj
    exact h3 _ (by omega) (by show _<nx F k;omega))
   simp at this
   omega
 exact⟨h1,by unfold nx at hlt |-;omega,h3,h4 hlt⟩
theorem Af{F F':List Nm}(h:∀y,y∈F↔y∈F')(k:Nat):nx F k=nx F' k:=by
 obtain⟨a1,a2,a3,a4⟩:=gu F k
 obtain⟨b1,b2,b3,b4⟩:=gu F' k
 rcases Nat.lt_trichotomy (nx F k) (nx F' k)with hl|he|hl
 ·exact absurd ((h _).2 (b3 _ a1 hl)) a4
 ·exact he
 ·exact absurd ((h _).1 (a3 _ b1 hl)) b4
def gP(F:List Nm):Ty->List Nm->Nat->E×Nat
 | .zero,_,k=>(.atom [48],k)
 | .one,_,k=>(.atom [49],k)
 | .name s,_,k=>(.atom s,k)
 | .bO u,to,k=>(.atom (gf to u),k)
 | .plus a b,to,k=>(.list [.atom [43],(gP F a to k).1,(gP F b to (gP F a to k).2).1],(gP F b to (gP F a to k).2).2)
 | .times a b,to,k=>(.list [.atom [42],(gP F a to k).1,(gP F b to (gP F a to k).2).1],(gP F b to (gP F a to k).2).2)
 | .rc a,to,k=>(.list [.atom dY,.atom (tN (nx F k)),(gP F a (to++[tN (nx F k)]) (nx F k+1)).1],(gP F a (to++[tN (nx F k)]) (nx F k+1)).2)
theorem jC{F F':List Nm}(h:∀y,y∈F↔y∈F'):∀(t:Ty) (to:List Nm) (k:Nat),gP F t to k=gP F' t to k
 | .zero,_,_=>rfl
 | .one,_,_=>rfl
 | .name _,_,_=>rfl
 | .bO _,_,_=>rfl
 | .plus a b,to,k=>by simp only[gP];rw[jC h a,jC h b]
 | .times a b,to,k=>by simp only[gP];rw[jC h a,jC h b]
 | .rc a,to,k=>by simp only[gP];rw[Af h,jC h a]
def jX:Ty->Nat->Prop
 | .bO u,i=>u<i
 | .plus a b,i=>jX a i/\jX b i
 | .times a b,i=>jX a i/\jX b i
 | .rc a,i=>jX a (i+1)
 |_,_=>True
theorem sX{e:E}(h:Wf e):∀ar,jX (cO e ar) ar.length:=by
 induction h with
 |
  @atom s hs =>
  intro ar
  simp only[cO]
  split
  ·trivial
  ·split
   ·trivial
   ·split
    ·rename_i u q;exact(fG _ _ (aq _) q).1
    ·trivial
 |plus ha hb i1 i2=>intro ar;rw[dL];exact⟨i1 ar,i2 ar⟩
 |times ha hb i1 i2=>intro ar;rw[dk];exact⟨i1 ar,i2 ar⟩
 |
  @rc n b hn hb i =>
  intro ar;rw[eV]
  have:=i (ar++[(E.atom n).at])
  rw[ax]at this
  exact this
structure Gn(F to:List Nm)(k:Nat):Prop where
 out:∀w,w∈to->w∉F
 lt:∀w,w∈to->∃j,j<k/\w=tN j
 nd:to.Nodup
theorem Gn.nil(F:List Nm)(k:Nat):Gn F [] k:=⟨fun _ h=>(by cases h),fun _ h=>(by cases h),by simp⟩
theorem Gn.mono{F to:List Nm}{k k':Nat}(h:Gn F to k)(hk:k<=k'):Gn F to k':=⟨h.out,fun w hw=>by obtain⟨j,h1,h2⟩:=h.lt w hw;exact⟨j,by omega,h2⟩,h.nd⟩
theorem Gn.push{F to:List Nm}{k:Nat}(h:Gn F to k):Gn F (to++[tN (nx F k)]) (nx F k+1):=by
 obtain⟨h1,h2,h3,h4⟩:=gu F k
 refine⟨fun w hw=>?_,fun w hw=>?_,?_⟩
 ·rcases aI.1 hw with hw|hw
  ·exact h.out w hw
  ·simp only[aL]at hw;rw[hw];exact h4
 ·rcases aI.1 hw with hw|hw
  ·obtain⟨j,g1,g2⟩:=h.lt w hw;exact⟨j,by omega,g2⟩
  ·simp only[aL]at hw;exact⟨_,by omega,hw⟩
 ·refine List.nodup_append.2 ⟨h.nd,by simp,fun a ha b hb e=>?_⟩
  simp only[aL]at hb
  obtain⟨j,g1,g2⟩:=h.lt a ha
  rw[e,hb]at g2
  have:=Bs g2
  omega
theorem tH{to:List Nm}(hn:to.Nodup){u:Nat}(hu:u<to.length):bI (gf to u) to to.length=some u:=by
 have hm:gf to u∈to:=by
  unfold gf
  have:to.length-1-u<to.length:=by omega
  simp[aa,this]
 cases q:bI (gf to u) to to.length with
 |none=>exact absurd hm ((fw _ _).1 q)
 |
  some v =>
  obtain⟨h1,h2⟩:=fG _ _ (aq _) q
  unfold gf at h2
  have e1:to.length-1-v<to.length:=by omega
  have e2:to.length-1-u<to.length:=by omega
  rw[aa,aa,be e1,be e2]at h2
  have hp:=List.pairwise_iff_getElem.1 hn
  have h3:to[to.length-1-v]=to[to.length-1-u]:=by simpa using h2
  rcases Nat.lt_trichotomy (to.length-1-v) (to.length-1-u)with hl|he|hl
  ·exact absurd h3 (hp _ _ e1 e2 hl)
  ·congr 1;omega
  ·exact absurd h3.symm (hp _ _ e2 e1 hl)
theorem kk(F:List Nm):∀(t:Ty) (to:List Nm) (k:Nat),Gn F to k->jX t to.length->(∀y,bg y t=true->y∈F/\rJ y) ->
 Wf (gP F t to k).1/\cO (gP F t to k).1 to=t/\k<=(gP F t to k).2/\(gP F t to k).2<=k+(F.length+1)*t.az/\tM (·∉F) (gP F t to k).1
 | .zero,to,k,_,_,_=>⟨.atom (by simp),rfl,aq _,dm _ _,trivial⟩
 | .one,to,k,_,_,_=>⟨.atom (by simp),rfl,aq _,dm _ _,trivial⟩
 |
  .name s,to,k,g,hl,hn=>by
  obtain⟨h1,h2⟩:=hn s (by simp[bg])
  exact⟨.atom h2.1,iQ h2 (fun h=>g.out s h h1),aq _,dm _ _,trivial⟩
 |
  .bO u,to,k,g,hl,hn=>by
  have hm:gf to u∈to:=by
   unfold gf
   have:to.length-1-u<to.length:=by have:u<to.length:=hl;omega
   simp[aa,this]
  obtain⟨j,_,e⟩:=g.lt _ hm
  have hok:rJ (gf to u):=by rw[e];exact xk j
  refine⟨.atom hok.1,?_,aq _,dm _ _,trivial⟩
  simp only[gP,cO]
  rw[if_neg hok.2.1,if_neg hok.2.2,tH g.nd hl]
 |
  .plus a b,to,k,g,hl,hn=>by
  obtain⟨a1,a2,a3,a4,a5⟩:=kk F a to k g hl.1 fun y hy=>hn y (by simp[bg,hy])
  obtain⟨b1,b2,b3,b4,b5⟩:=kk F b to _ (g.mono a3) hl.2 fun y hy=>hn y (by simp[bg,hy])
  simp only[gP,dL,a2,b2,oh,Ty.az]
  refine⟨.plus a1 b1,trivial,by omega,?_,a5,b5⟩
  have:(F.length+1)*(1+a.az+b.az)=(F.length+1)+(F.length+1)*a.az+(F.length+1)*b.az:=by simp only[cR,dF]
  omega
 |
  .times a b,to,k,g,hl,hn=>by
  obtain⟨a1,a2,a3,a4,a5⟩:=kk F a to k g hl.1 fun y hy=>hn y (by simp[bg,hy])
  obtain⟨b1,b2,b3,b4,b5⟩:=kk F b to _ (g.mono a3) hl.2 fun y hy=>hn y (by simp[bg,hy])
  simp only[gP,dk,a2,b2,mL,Ty.az]
  refine⟨.times a1 b1,trivial,by omega,?_,a5,b5⟩
  have:(F.length+1)*(1+a.az+b.az)=(F.length+1)+(F.length+1)*a.az+(F.length+1)*b.az:=by simp only[cR,dF]
  omega
 |
  .rc a,to,k,g,hl,hn=>by
  obtain⟨h1,h2,h3,h4⟩:=gu F k
  obtain⟨a1,a2,a3,a4,a5⟩:=kk F a (to++[tN (nx F k)]) (nx F k+1) g.push (by rw[ax];exact hl) hn
  simp only[gP,eV,er,a2,tR,Ty.az]
  refine⟨.rc (xk _) a1,trivial,by omega,?_,h4,a5⟩
  have:(F.length+1)*(2+a.az)=(F.length+1)*2+(F.length+1)*a.az:=by simp only[cR]
  omega
end Go.Proofs.Trees
namespace Go.Proofs.Trees
open Go Go.VL Go.RowKit
inductive kh:AV->List Nat->Prop
 |nil:kh ij []
 |cons {m:Nat} {cs:List AV} {e:AV} {ids:List Nat} (hm:m∉ids) (h:kh e ids):kh (.ptr [.pid m cs,e]) (m::ids)
theorem kh.has{a:AV}{ids:List Nat}(h:kh a ids):LK.has .ptr a:=by
 cases h
 ·exact(iT).mpr trivial
 ·exact(bY _).mpr trivial
theorem kh.R5{M:Mem}{a:AV}{ids:List Nat}(h:kh a ids):∀{v:Value},bz M du a v->∀b,b∈ids->M.p b:=by
 induction h with
 |nil=>intro v _ b hb;cases hb
 |
  @cons m cs e ids hm h ih =>
  intro v hr b hb
  cases hr with
  |
   ptr _ _ _ off us hc hr =>
   have h0:=hr 0 (by simp)
   have h1:=hr 1 (by simp)
   simp only[bh,List.getD_cons_succ]at h0 h1
   rcases aF.1 hb with rfl|hb
   ·generalize us 0=u0 at h0
    cases h0 with
    |pid _ _ _ us hp _ _=>exact hp
   ·exact ih h1 b hb
theorem kh.nodup{a:AV}{ids:List Nat}(h:kh a ids):ids.Nodup:=by
 induction h with
 |nil=>simp
 |cons hm h ih=>exact List.nodup_cons.2 ⟨hm,ih⟩
theorem zh(a b:AV)(S:Nat->Prop)(R:AV->Prop):A3 HZ cH ew (cn ew) [.agg [.x a,.x b]] S (fun o=>aG o 7) R =
 .al (LK.has .ptr a/\a.isNil=false) (.al (LK.has .ptr a/\a.isNil=false) (.al (LK.has .ptr ((a.deref.drop 3).headD .any)/\1<=(a.deref.drop 3).length)
  (.al (∀ids:Nat->Nat,(∀o,¬S (ids o))->(True/\R (.cN [.agg [(a.deref.drop 3).headD .any,.ptr [.pid (ids 7) [a,b],b]],.pid (ids 7) [a,b]]))) (.done 0 [] [])))):=by kernel_rfl
def At(t:Ty)(ea:AV)(ids:List Nat):AV->List Ob->Prop:=fun r o=>(∃m,m∉ids/\r=.cN [.agg [t.av,.ptr [.pid m [(Ty.rc t).av,ea],ea]],.pid m [(Ty.rc t).av,ea]])/\o=[]
theorem At.ne(t:Ty)(ea:AV)(ids:List Nat):∃r o,At t ea ids r o:=by
 have:∃m,m∉ids:=⟨ids.foldr max 0+1,fun h=>by
  have key:∀(l:List Nat) (x:Nat),x∈l->x<=l.foldr max 0:=by
   intro l
   induction l with
   |nil=>intro x hx;cases hx
   |
    cons y l ih =>
    intro x hx
    rcases aF.1 hx with rfl|hx
    ·simp only[List.foldr_cons];omega
    ·have:=ih x hx;simp only[List.foldr_cons];omega
  have:=key _ _ h
  omega⟩
 obtain⟨m,hm⟩:=this
 exact⟨_,_,⟨m,hm,rfl⟩,rfl⟩
theorem C8(t:Ty)(ea:AV)(ids:List Nat)(he:kh ea ids):an Tryz.prog 86 [.agg [(Ty.rc t).av,ea]] [] (At t ea ids):=by
 have hup:wg [.agg [(Ty.rc t).av,ea]] [.agg [.x (Ty.rc t).av,.x ea]]:=af (bX (af (bq ((aC _).mpr trivial)) (af (bq he.has) aA))) aA
 refine an.up hup ?_
 refine an.R0 (cH:=cH) (F:=ew) (S:=fun b=>b∈ids) (sel:=fun o=>aG o 7) tU mixed (by kernel_rfl) (by kernel_rfl) (c:=cn ew) (by kernel_rfl) (by kernel_rfl) (fun M β vs hr b hb=>?_) ?_
 ·have h0:=hr 0 (by simp)
  simp only[bh]at h0
  obtain⟨us,_,hl,hq,_⟩:=gB h0
  have h1:=hq 1 (by simp at hl |-)
  simp only[List.getD_cons_succ,bh]at h1
  cases h1 with
  |x _ _ _ _ h=>exact he.R5 h b hb
 ·rw[zh]
  simp only[Ty.av,↓zq,zs,ac,aC]
  exact⟨by omega,fun ids' hf=>⟨ids' 7,hf 7,rfl⟩⟩
theorem Nt(u:Nat)(hu:u<1000000):∀(k i:Nat) (ea:AV) (ids:List Nat),i+k=u->kh ea ids->k<=ids.length->B6 [ea,.v (.int .i64 (u:Int)),.v (.int .i64 (i:Int))] [] (fun t ys o=>t=1/\∃e',kh e' (ids.drop k)/\ys=[e']/\o=[])
 |
  0,i,ea,ids,hi,he,hk=>by
  refine BO _ _ _ ?_
  have:i=u:=by omega
  subst this
  simp only[Bh,↓zq,zs,ac]
  exact⟨he.has,fun h=>by omega,fun _=>⟨ea,he,rfl⟩⟩
 |
  k+1,i,ea,ids,hi,he,hk=>by
  refine BO _ _ _ ?_
  cases he with
  |nil=>simp at hk
  |
   @cons m cs e ids' hm h =>
   simp only[Bh,↓zq,zs,ac,h.has]
   refine⟨fun _=>⟨by omega,?_⟩,fun h=>by omega⟩
   rw[a7 i (by omega)]
   exact Nt u hu k (i+1) e ids' (by omega) h (by simpa using hk)
theorem Rb(u:Nat)(ea:AV)(ids:List Nat)(he:kh ea ids)(hu:u<ids.length)(hl:ids.length<1000000):an Tryz.prog 131 [.agg [(Ty.bO u).av,ea]] [] (fun r o=>(∃cs,r=.pid (ids.getD u 0) cs)/\o=[]):=by
 refine IV _ _ ((aC _).mpr trivial) he.has ?_
 simp only[Ev,Ty.av,↓zq,zs,ac,he.has]
 refine⟨by omega,kB (Nt u (by omega) u 0 ea ids (by omega) he (by omega)) ?_ (fun ys o h=>by cases h.1)⟩
 rintro ys o ⟨_,e',he',rfl,rfl⟩
 have hd:ids.drop u=ids.getD u 0::ids.drop (u+1):=by
  rw[aN hu];simp[aa,hu]
 rw[hd]at he'
 cases he' with
 |
  @cons m cs e ids' hm h =>
  have hp:LK.has .ptr (AV.pid (ids.getD u 0) cs):=.inr (.inr ⟨_,_,rfl⟩)
  simp only[↓zq,zs,ac,hp]
  exact⟨by omega,cs,rfl⟩
inductive zD:Tg->List Nat->List UInt8->AV->Prop
 |nm (s:List UInt8) (ids:List Nat):zD (.nm s) ids s ij
 |bd {k:Nat} {ids:List Nat} (hk:k<ids.length) (cs:List AV) (s:List UInt8):zD (.bd k) ids s (.pid (ids.getD k 0) cs)
theorem zD.has{tg:Tg}{ids:List Nat}{s:List UInt8}{fr:AV}(h:zD tg ids s fr):LK.has .ptr fr:=by
 cases h
 ·exact(iT).mpr trivial
 ·exact .inr (.inr ⟨_,_,rfl⟩)
theorem zD.push{tg:Tg}{ids:List Nat}{s:List UInt8}{fr:AV}(h:zD tg ids s fr)(m:Nat):zD tg.up (m::ids) s fr:=by
 cases h with
 |nm=>exact .nm _ _
 |
  @bd k _ hk cs =>
  have:=zD.bd (k:=k+1) (ids:=m::ids) (by simpa using hk) cs s
  simpa[Tg.up]using this
theorem yU{ids:List Nat}(h:ids.Nodup){i j:Nat}(hi:i<ids.length)(hj:j<ids.length)(he:ids.getD i 0=ids.getD j 0):i=j:=by
 have e1:ids.getD i 0=ids[i]:=by simp[aa,hi]
 have e2:ids.getD j 0=ids[j]:=by simp[aa,hj]
 rw[e1,e2]at he
 have hp:=List.pairwise_iff_getElem.1 h
 rcases Nat.lt_trichotomy i j with hlt|rfl|hlt
 ·exact absurd he (hp i j hi hj hlt)
 ·rfl
 ·exact absurd he.symm (hp j i hj hi hlt)
theorem QS(t:Ty)(tg:Tg)(ea:AV)(ids:List Nat)(s:List UInt8)(fr:AV)(he:kh ea ids)(ht:zD tg ids s fr)(hu:∀u,t=.bO u->u<ids.length)(hl:ids.length<1000000) :
 an Tryz.prog 111 [.agg [.v (.string (mk s)),fr],.agg [t.av,ea]] [] (bA (.v (.bool (fK t tg)))):=by
 refine PB _ _ _ _ ht.has ((aC _).mpr trivial) he.has ?_
 cases ht with
 |
  nm s =>
  cases t<;>simp[Cb,Ty.av,↓zq,zs,ac,zt,bA,fK]
  rw[cz];simp
 |
  @bd k _ hk cs s =>
  generalize hm0:ids.getD k 0=m0
  have hp:LK.has .ptr (AV.pid m0 cs):=.inr (.inr ⟨_,_,rfl⟩)
  have hn:(AV.pid m0 cs).isNil=false:=rfl
  cases t with
  |
   bO u =>
   have hu:=hu u rfl
   simp only[Cb,Ty.av,↓zq,zs,ac,hp,hn]
   refine⟨fun _=>⟨by omega,fun _=>?_,fun h=>absurd rfl h⟩,fun h=>by cases h⟩
   have hb:=Rb u ea ids he hu hl
   simp only[Ty.av]at hb
   refine bU hb ⟨_,_,⟨[],rfl⟩,rfl⟩ ?_
   rintro r o ⟨⟨cs',rfl⟩,rfl⟩
   have hp':LK.has .ptr (AV.pid (ids.getD u 0) cs'):=.inr (.inr ⟨_,_,rfl⟩)
   simp only[↓zq,zs,ac,hp',AV.rI,AV.Aw,bA,fK]
   congr 2
   rw[cz,Nat.beq_eq,decide_eq_true_eq,<-hm0]
   exact⟨fun h=>yU he.nodup hu hk h,fun h=>by rw[h]⟩
  |_=>simp[Cb,Ty.av,↓zq,zs,ac,hp,hn,bA,fK]
end Go.Proofs.Trees
namespace Go.Proofs.Trees
open Go Go.VL Go.RowKit
theorem yK(b:Int)(a:AV)(h:LK.ptr.has a):an Tryz.prog 100 [.v (.int .u8 b),a] [] (bA (.ptr [.v (.int .u8 b),.v (.string (mk [])),a,ij])):=by
 refine OR _ _ h ?_
 simp[Iz,↓zq,zs,ac,bA]
end Go.Proofs.Trees
namespace Go.Proofs.Trees
open Go Go.VL Go.RowKit
def hJ(l:List Hl):List (List AV):=l.map fun h=>[h.1.cB,h.2.cB]
theorem ei(l:List Hl):(hJ l).length=l.length:=by simp[hJ]
theorem lh{l:List Hl}{i:Nat}(hi:i<l.length):(hJ l).getD i []=[(l[i]).1.cB,(l[i]).2.cB]:=by simp[hJ,aa,hi]
theorem ox(out:List Hl)(a b:Vl):hJ out++[[a.cB,b.cB]]=hJ (out++[(a,b)]):=by simp[hJ]
theorem gp(g:Vl->Vl)(l:List Hl){i:Nat}(hi:i<l.length):jl g (l.drop i)=(g (l[i]).1,(l[i]).2)::jl g (l.drop (i+1)):=by
 rw[aN hi];rfl
theorem fM(g:Vl->Vl)(l:List Hl):(jl g l).length=l.length:=by simp[jl]
theorem AR(a b:AV):cD 2 [[a,b]]:=fun c hc=>by simp at hc;rw[hc];rfl
theorem KJ(x0:AV)(hx0:LK.ptr.has x0)(g:Vl->Vl)(hg:∀c:Vl,an Tryz.prog 115 [c.cB,.ref 0 0] [.cells [x0]] (cW (g c).cB [.cells [x0]]))(l:List Hl):∀(k i:Nat) (out:List Hl),i+k=l.length->out.length+k<=1000000->l.length<=1000000 ->
 FE [.sl (hJ l),.v (.int .i64 (l.length:Int)),.v (.int .i64 (i:Int))] [.cells [x0],.cells [.any],.vec 2 (hJ out)] (fX 1 [] [.cells [x0],.cells [.any],.vec 2 (hJ (out++jl g (l.drop i)))])
 |
  0,i,out,hi,ho,hl=>by
  refine Nn _ _ _ _ _ ?_
  have:i=l.length:=by omega
  subst this
  simp only[E7,↓zq,zs,ac,ei,hx0]
  exact⟨fun h=>by omega,fun _=>by simp[fX,jl]⟩
 |
  k+1,i,out,hi,ho,hl=>by
  have hlt:i<l.length:=by omega
  refine Nn _ _ _ _ _ ?_
  simp only[E7,↓zq,zs,ac,zt,ei,lh hlt,aH,bC,hx0]
  refine⟨fun _=>⟨by omega,by omega,?_⟩,fun h=>by omega⟩
  refine aS (hg _) ?_
  simp only[↓zq,zs,ac,aH,bm,bA,cW,hx0]
  refine⟨⟨AR _ _,by omega⟩,?_⟩
  rw[a7 i (by omega)]
  have:=KJ x0 hx0 g hg l k (i+1) (out++[(g (l[i]).1,(l[i]).2)]) (by omega) (by simp;omega) hl
  rw[aU]at this
  rw[gp g l hlt,ox]
  exact this
theorem Jo(x0:AV)(hx0:LK.ptr.has x0)(g:Vl->Vl)(hg:∀c:Vl,an Tryz.prog 115 [c.cB,.ref 0 0] [.cells [x0]] (cW (g c).cB [.cells [x0]]))(l out:List Hl)(hl:out.length+l.length<=1000000) :
 an Tryz.prog 112 [.sl (hJ l),.fn 115 [.ref 0 0],.ref 1 0] [.cells [x0],.cells [.vec 2],.vec 2 (hJ out)] (cW .any [.cells [x0],.cells [.vec 2],.vec 2 (hJ (out++jl g l))]):=by
 refine Rd _ _ _ ((ca _).mpr trivial) hx0 ?_
 simp only[LF,↓zq,zs,ac,ei]
 have h:=KJ x0 hx0 g hg l l.length 0 out (by omega) (by omega) (by omega)
 rw[a6]at h
 refine cf h ?_
 simp[↓zq,zs,ac,cW,bm,hx0]
theorem JK(x0:AV)(hx0:LK.ptr.has x0)(g:Vl->Vl)(hg:∀c:Vl,an Tryz.prog 116 [c.cB,.ref 0 0] [.cells [x0]] (cW (g c).cB [.cells [x0]]))(l:List Hl):∀(k i:Nat) (out:List Hl),i+k=l.length->out.length+k<=1000000->l.length<=1000000 ->
 EV [.sl (hJ l),.v (.int .i64 (l.length:Int)),.v (.int .i64 (i:Int))] [.cells [x0],.cells [.any],.vec 2 (hJ out)] (fX 1 [] [.cells [x0],.cells [.any],.vec 2 (hJ (out++jl g (l.drop i)))])
 |
  0,i,out,hi,ho,hl=>by
  refine KR _ _ _ _ _ ?_
  have:i=l.length:=by omega
  subst this
  simp only[Gk,↓zq,zs,ac,ei,hx0]
  exact⟨fun h=>by omega,fun _=>by simp[fX,jl]⟩
 |
  k+1,i,out,hi,ho,hl=>by
  have hlt:i<l.length:=by omega
  refine KR _ _ _ _ _ ?_
  simp only[Gk,↓zq,zs,ac,zt,ei,lh hlt,aH,bC,hx0]
  refine⟨fun _=>⟨by omega,by omega,?_⟩,fun h=>by omega⟩
  refine aS (hg _) ?_
  simp only[↓zq,zs,ac,aH,bm,bA,cW,hx0]
  refine⟨⟨AR _ _,by omega⟩,?_⟩
  rw[a7 i (by omega)]
  have:=JK x0 hx0 g hg l k (i+1) (out++[(g (l[i]).1,(l[i]).2)]) (by omega) (by simp;omega) hl
  rw[aU]at this
  rw[gp g l hlt,ox]
  exact this
theorem QK(x0:AV)(hx0:LK.ptr.has x0)(g:Vl->Vl)(hg:∀c:Vl,an Tryz.prog 116 [c.cB,.ref 0 0] [.cells [x0]] (cW (g c).cB [.cells [x0]]))(l out:List Hl)(hl:out.length+l.length<=1000000) :
 an Tryz.prog 112 [.sl (hJ l),.fn 116 [.ref 0 0],.ref 1 0] [.cells [x0],.cells [.vec 2],.vec 2 (hJ out)] (cW .any [.cells [x0],.cells [.vec 2],.vec 2 (hJ (out++jl g l))]):=by
 refine Qr _ _ _ ((ca _).mpr trivial) hx0 ?_
 simp only[IJ,↓zq,zs,ac,ei]
 have h:=JK x0 hx0 g hg l l.length 0 out (by omega) (by omega) (by omega)
 rw[a6]at h
 refine cf h ?_
 simp[↓zq,zs,ac,cW,bm,hx0]
theorem Iy(x0:AV)(hx0:LK.ptr.has x0)(g:Vl->Vl)(hg:∀c:Vl,an Tryz.prog 118 [c.cB,.ref 0 0] [.cells [x0]] (cW (g c).cB [.cells [x0]]))(l:List Hl):∀(k i:Nat) (out:List Hl),i+k=l.length->out.length+k<=1000000->l.length<=1000000 ->
 E0 [.sl (hJ l),.v (.int .i64 (l.length:Int)),.v (.int .i64 (i:Int))] [.cells [x0],.cells [.any],.vec 2 (hJ out)] (fX 1 [] [.cells [x0],.cells [.any],.vec 2 (hJ (out++jl g (l.drop i)))])
 |
  0,i,out,hi,ho,hl=>by
  refine Kq _ _ _ _ _ ?_
  have:i=l.length:=by omega
  subst this
  simp only[EC,↓zq,zs,ac,ei,hx0]
  exact⟨fun h=>by omega,fun _=>by simp[fX,jl]⟩
 |
  k+1,i,out,hi,ho,hl=>by
  have hlt:i<l.length:=by omega
  refine Kq _ _ _ _ _ ?_
  simp only[EC,↓zq,zs,ac,zt,ei,lh hlt,aH,bC,hx0]
  refine⟨fun _=>⟨by omega,by omega,?_⟩,fun h=>by omega⟩
  refine aS (hg _) ?_
  simp only[↓zq,zs,ac,aH,bm,bA,cW,hx0]
  refine⟨⟨AR _ _,by omega⟩,?_⟩
  rw[a7 i (by omega)]
  have:=Iy x0 hx0 g hg l k (i+1) (out++[(g (l[i]).1,(l[i]).2)]) (by omega) (by simp;omega) hl
  rw[aU]at this
  rw[gp g l hlt,ox]
  exact this
theorem OV(x0:AV)(hx0:LK.ptr.has x0)(g:Vl->Vl)(hg:∀c:Vl,an Tryz.prog 118 [c.cB,.ref 0 0] [.cells [x0]] (cW (g c).cB [.cells [x0]]))(l out:List Hl)(hl:out.length+l.length<=1000000) :
 an Tryz.prog 112 [.sl (hJ l),.fn 118 [.ref 0 0],.ref 1 0] [.cells [x0],.cells [.vec 2],.vec 2 (hJ out)] (cW .any [.cells [x0],.cells [.vec 2],.vec 2 (hJ (out++jl g l))]):=by
 refine O0 _ _ _ ((ca _).mpr trivial) hx0 ?_
 simp only[Js,↓zq,zs,ac,ei]
 have h:=Iy x0 hx0 g hg l l.length 0 out (by omega) (by omega) (by omega)
 rw[a6]at h
 refine cf h ?_
 simp[↓zq,zs,ac,cW,bm,hx0]
theorem JW(g:Vl->Vl)(hg:∀c:Vl,an Tryz.prog 119 [c.cB] [] (bA (g c).cB))(l:List Hl):∀(k i:Nat) (out:List Hl),i+k=l.length->out.length+k<=1000000->l.length<=1000000 ->
 Fw [.v (.func (.func 119) #[] #[]),.sl (hJ l),.v (.int .i64 (l.length:Int)),.v (.int .i64 (i:Int))] [.cells [.any],.vec 2 (hJ out)] (fX 1 [] [.cells [.any],.vec 2 (hJ (out++jl g (l.drop i)))])
 |
  0,i,out,hi,ho,hl=>by
  refine K0 _ _ _ _ ?_
  have:i=l.length:=by omega
  subst this
  simp only[Gc,↓zq,zs,ac,ei]
  exact⟨fun h=>by omega,fun _=>by simp[fX,jl]⟩
 |
  k+1,i,out,hi,ho,hl=>by
  have hlt:i<l.length:=by omega
  refine K0 _ _ _ _ ?_
  simp only[Gc,↓zq,zs,ac,zt,ei,lh hlt,aH,bC]
  refine⟨fun _=>⟨by omega,by omega,?_⟩,fun h=>by omega⟩
  refine ah (hg _) ?_
  simp only[↓zq,zs,ac,aH,bm,bA,cW]
  refine⟨⟨AR _ _,by omega⟩,?_⟩
  rw[a7 i (by omega)]
  have:=JW g hg l k (i+1) (out++[(g (l[i]).1,(l[i]).2)]) (by omega) (by simp;omega) hl
  rw[aU]at this
  rw[gp g l hlt,ox]
  exact this
theorem Rk(g:Vl->Vl)(hg:∀c:Vl,an Tryz.prog 119 [c.cB] [] (bA (g c).cB))(l out:List Hl)(hl:out.length+l.length<=1000000) :
 an Tryz.prog 112 [.sl (hJ l),.v (.func (.func 119) #[] #[]),.ref 0 0] [.cells [.vec 1],.vec 2 (hJ out)] (cW .any [.cells [.vec 1],.vec 2 (hJ (out++jl g l))]):=by
 refine Pv _ _ ((ca _).mpr trivial) ?_
 simp only[Kv,↓zq,zs,ac,ei]
 have h:=JW g hg l l.length 0 out (by omega) (by omega) (by omega)
 rw[a6]at h
 refine cf h ?_
 simp[↓zq,zs,ac,cW,bm]
theorem ND(x0:AV)(x1:AV)(hx0:LK.ptr.has x0)(hx1:LK.ptr.has x1)(g:Vl->Vl)(hg:∀c:Vl,an Tryz.prog 120 [c.cB,.ref 0 0] [.cells [x0,x1]] (cW (g c).cB [.cells [x0,x1]]))(l:List Hl):∀(k i:Nat) (out:List Hl),i+k=l.length->out.length+k<=1000000->l.length<=1000000 ->
 D0 [.sl (hJ l),.v (.int .i64 (l.length:Int)),.v (.int .i64 (i:Int))] [.cells [x0,x1],.cells [.any],.vec 2 (hJ out)] (fX 1 [] [.cells [x0,x1],.cells [.any],.vec 2 (hJ (out++jl g (l.drop i)))])
 |
  0,i,out,hi,ho,hl=>by
  refine Ik _ _ _ _ _ _ ?_
  have:i=l.length:=by omega
  subst this
  simp only[Ej,↓zq,zs,ac,ei,hx0,hx1]
  exact⟨fun h=>by omega,fun _=>by simp[fX,jl]⟩
 |
  k+1,i,out,hi,ho,hl=>by
  have hlt:i<l.length:=by omega
  refine Ik _ _ _ _ _ _ ?_
  simp only[Ej,↓zq,zs,ac,zt,ei,lh hlt,aH,bC,hx0,hx1]
  refine⟨fun _=>⟨by omega,by omega,?_⟩,fun h=>by omega⟩
  refine aS (hg _) ?_
  simp only[↓zq,zs,ac,aH,bm,bA,cW,hx0,hx1]
  refine⟨⟨AR _ _,by omega⟩,?_⟩
  rw[a7 i (by omega)]
  have:=ND x0 x1 hx0 hx1 g hg l k (i+1) (out++[(g (l[i]).1,(l[i]).2)]) (by omega) (by simp;omega) hl
  rw[aU]at this
  rw[gp g l hlt,ox]
  exact this
theorem Q3(x0:AV)(x1:AV)(hx0:LK.ptr.has x0)(hx1:LK.ptr.has x1)(g:Vl->Vl)(hg:∀c:Vl,an Tryz.prog 120 [c.cB,.ref 0 0] [.cells [x0,x1]] (cW (g c).cB [.cells [x0,x1]]))(l out:List Hl)(hl:out.length+l.length<=1000000) :
 an Tryz.prog 112 [.sl (hJ l),.fn 120 [.ref 0 0],.ref 1 0] [.cells [x0,x1],.cells [.vec 2],.vec 2 (hJ out)] (cW .any [.cells [x0,x1],.cells [.vec 2],.vec 2 (hJ (out++jl g l))]):=by
 refine Rc _ _ _ _ ((ca _).mpr trivial) hx0 hx1 ?_
 simp only[LP,↓zq,zs,ac,ei]
 have h:=ND x0 x1 hx0 hx1 g hg l l.length 0 out (by omega) (by omega) (by omega)
 rw[a6]at h
 refine cf h ?_
 simp[↓zq,zs,ac,cW,bm,hx0,hx1]
theorem QY(w c:Vl):an Tryz.prog 115 [c.cB,.ref 0 0] [.cells [(Vl.l w).cB]] (cW (Vl.l c).cB [.cells [(Vl.l w).cB]]):=by
 refine Nu _ _ ((aH _).mpr trivial) ((aH _).mpr trivial) ?_
 simp only[EZ,Vl.cB,↓zq,zs,ac,aH]
 refine⟨by omega,?_⟩
 refine ah (yK _ _ ((aH _).mpr trivial)) ?_
 simp[↓zq,zs,ac,cW,Vl.cB]
theorem Qn(w c:Vl):an Tryz.prog 115 [c.cB,.ref 0 0] [.cells [(Vl.r w).cB]] (cW (Vl.r c).cB [.cells [(Vl.r w).cB]]):=by
 refine Nu _ _ ((aH _).mpr trivial) ((aH _).mpr trivial) ?_
 simp only[EZ,Vl.cB,↓zq,zs,ac,aH]
 refine⟨by omega,?_⟩
 refine ah (yK _ _ ((aH _).mpr trivial)) ?_
 simp[↓zq,zs,ac,cW,Vl.cB]
theorem Ow(x y c:Vl):an Tryz.prog 116 [c.cB,.ref 0 0] [.cells [(Vl.p x y).cB]] (cW (Vl.l (.p c y)).cB [.cells [(Vl.p x y).cB]]):=by
 refine Rp _ _ ((aH _).mpr trivial) ((aH _).mpr trivial) ?_
 simp only[KV,Vl.cB,↓zq,zs,ac,aH]
 refine⟨by omega,?_⟩
 refine ah (ym _ _ ((aH _).mpr trivial) ((aH _).mpr trivial)) ?_
 simp only[↓zq,zs,ac]
 refine ah (yK _ _ ((bY _).mpr trivial)) ?_
 simp[↓zq,zs,ac,cW,Vl.cB]
theorem Ph(x y c:Vl):an Tryz.prog 118 [c.cB,.ref 0 0] [.cells [(Vl.p x y).cB]] (cW (Vl.r (.p x c)).cB [.cells [(Vl.p x y).cB]]):=by
 refine Pp _ _ ((aH _).mpr trivial) ((aH _).mpr trivial) ?_
 simp only[Ni,Vl.cB,↓zq,zs,ac,aH]
 refine⟨by omega,?_⟩
 refine ah (ym _ _ ((aH _).mpr trivial) ((aH _).mpr trivial)) ?_
 simp only[↓zq,zs,ac]
 refine ah (yK _ _ ((bY _).mpr trivial)) ?_
 simp[↓zq,zs,ac,cW,Vl.cB]
theorem OO(kc kv c:Vl):an Tryz.prog 120 [c.cB,.ref 0 0] [.cells [kc.cB,kv.cB]] (cW (Vl.f (.r (.p kc c))).cB [.cells [kc.cB,kv.cB]]):=by
 refine QA _ _ _ ((aH _).mpr trivial) ((aH _).mpr trivial) ((aH _).mpr trivial) ?_
 simp only[JG,Vl.cB,↓zq,zs,ac,aH]
 refine ah (ym _ _ ((aH _).mpr trivial) ((aH _).mpr trivial)) ?_
 simp only[↓zq,zs,ac]
 refine ah (yK _ _ ((bY _).mpr trivial)) ?_
 simp only[↓zq,zs,ac]
 refine ah (yK _ _ ((bY _).mpr trivial)) ?_
 simp[↓zq,zs,ac,cW,Vl.cB,aH]
theorem OL(c:Vl):an Tryz.prog 119 [c.cB] [] (bA (Vl.f (.l c)).cB):=by
 refine PX _ ((aH _).mpr trivial) ?_
 simp only[JX,↓zq,zs,ac]
 refine ah (yK _ _ ((aH _).mpr trivial)) ?_
 simp only[↓zq,zs,ac]
 refine ah (yK _ _ ((bY _).mpr trivial)) ?_
 simp[↓zq,zs,ac,bA,Vl.cB]
end Go.Proofs.Trees
namespace Go.Proofs.Trees
open Go Go.VL Go.RowKit
abbrev zC(a:Ty)(tg:Tg):Hl->List Hl:=fun h=>jl (fun c=>.f (.r (.p h.1 c))) (cg (.rc a) tg h.2)
theorem AH(l:List Hl){i:Nat}(hi:i<l.length):l[i]∈l:=bD _
def Gq(t:Ty)(ea:AV)(s:List UInt8)(fr:AV)(tg:Tg)(v:Vl):Prop:=an Tryz.prog 87 [.agg [t.av,ea],v.cB,.agg [.v (.string (mk s)),fr]] [] (bA (.sl (hJ (cg t tg v))))
theorem Ki(a:Ty)(ea:AV)(s:List UInt8)(fr:AV)(tg:Tg)(he:LK.ptr.has ea)(hf:LK.ptr.has fr)(l:List Hl)(hl:l.length<=1000000)(ih:∀h,h∈l->Gq (.rc a) ea s fr tg h.2) :
 ∀(k i:Nat) (out:List Hl),i+k=l.length->(out++(l.drop i).flatMap (zC a tg)).length<=1000000 ->
 D7 [.sl (hJ l),.v (.int .i64 (l.length:Int)),.v (.int .i64 (i:Int))] [.cells [(Ty.rc a).av,ea],.cells [.v (.string (mk s)),fr],.cells [.any],.vec 2 (hJ out)] (fX 1 [] [.cells [.any],.vec 2 (hJ (out++(l.drop i).flatMap (zC a tg)))])
 |
  0,i,out,hi,ho=>by
  refine MB _ _ _ _ _ _ _ _ ?_
  have:i=l.length:=by omega
  subst this
  simp only[EA,↓zq,zs,ac,ei,aC,he,hf]
  exact⟨fun h=>by omega,fun _=>by simp[fX]⟩
 |
  k+1,i,out,hi,ho=>by
  have hlt:i<l.length:=by omega
  have hd:(l.drop i).flatMap (zC a tg)=zC a tg (l[i])++(l.drop (i+1)).flatMap (zC a tg):=by rw[aN hlt,List.flatMap_cons]
  rw[hd]at ho |-
  refine MB _ _ _ _ _ _ _ _ ?_
  simp only[EA,↓zq,zs,ac,zt,ei,lh hlt,aC,aH,bC,he,hf]
  refine⟨fun _=>⟨by omega,by omega,?_⟩,fun h=>by omega⟩
  refine ah (ih _ (AH l hlt)) ?_
  simp only[↓zq,zs,ac]
  have hb:out.length+(cg (.rc a) tg (l[i]).2).length<=1000000:=by
   simp only[ax,fM]at ho;omega
  refine aS (Q3 _ _ ((aH _).mpr trivial) ((aH _).mpr trivial) (fun c=>.f (.r (.p (l[i]).1 c))) (fun c=>OO (l[i]).1 (l[i]).2 c) (cg (.rc a) tg (l[i]).2) out hb) ?_
  simp only[↓zq,zs,ac,bm,aH]
  rw[a7 i (by omega),<-aU]
  exact Ki a ea s fr tg he hf l hl ih k (i+1) _ (by omega) (by rw[aU];exact ho)
theorem Dz(n:Nat):∀(m:Nat) (v:Vl),v.nodes<=m->∀(e:E) (env:List Fr) (t:Ty),Ask e env t->eQ n v (e,env)=true->env.length+v.nodes<100000->∀(ea:AV) (ids:List Nat),kh ea ids->ids.length=env.length->∀(tg:Tg) (s:List UInt8) (fr:AV),zD tg ids s fr->Gq t ea s fr tg v
 |0,v,hm=>by have:=dE v;omega
 |
  m+1,v,hm=>by
  intro e env t A hv hl ea ids he hids tg s fr ht
  unfold Gq
  refine QG _ _ _ _ _ ((aC _).mpr trivial) he.has ((aH _).mpr trivial) ht.has ?_
  unfold Nr
  refine ah (QS t tg ea ids s fr he ht (fun u hu=>by
   rcases gl A.wf A.ty with⟨hb,_⟩|⟨u',g,rfl,_,hg⟩
   ·rw[hu]at hb;cases hb
   ·cases hu;rw[hids];exact(List.getElem?_eq_some_iff.1 hg).1) (by omega)) ?_
  have hlen:=mI t tg v
  cases hat:fK t tg with
  |
   true =>
   rw[mj v hat]
   simp only[↓zq,zs,ac,bA,hJ,bM,List.map_nil,Vl.cB]
   exact⟨fun _=>trivial,fun h=>(by cases h)⟩
  |false =>
  simp only[↓zq,zs,ac]
  refine⟨fun h=>(by cases h),fun _=>?_⟩
  rcases gl A.wf A.ty with⟨hb,hq⟩|⟨u,g,rfl,hq,hu⟩
  ·have hhd:hd e env=(e,env):=j6 hq
   rcases fD A.ty hb A.cl with⟨rfl,rfl⟩|⟨rfl,rfl⟩|⟨s,rfl,rfl,hp,h0,h1⟩|⟨x,a,b,t1,t2,rfl,hx,rfl,ha,hbb⟩|⟨x,a,b,t1,t2,rfl,hx,rfl,ha,hbb⟩|⟨x,a,b,t1,rfl,hx,rfl⟩
   ·rw[dS hat (by cases v<;>rfl)]
    simp[Ty.av,↓zq,zs,ac,bA,hJ]
   ·rw[dS hat (by cases v<;>rfl)]
    simp[Ty.av,↓zq,zs,ac,bA,hJ]
   ·rw[dS hat (by cases v<;>rfl)]
    simp[Ty.av,↓zq,zs,ac,bA,hJ]
   ·obtain⟨ok1,ok2,ok3,_⟩:=A.ok
    obtain⟨f1,f2⟩:=fm A.cl
    have hL:=zl t1.av t2.av ea 43 (mk []) 0 ((aC _).mpr trivial) he.has
    have hR:=yN t1.av t2.av ea 43 (mk []) 0 ((aC _).mpr trivial) he.has
    cases v with
    |
     l w =>
     simp only[eQ,hhd,hx,beq_self_eq_true,bQ]at hv
     simp only[Vl.nodes]at hm hl hlen
     rw[mS]at hlen |-
     rw[fM]at hlen
     simp only[Ty.av,↓zq,zs,ac]
     refine⟨by omega,fun _=>?_,fun h=>absurd rfl h⟩
     refine ah hL ?_
     simp only[↓zq,zs,ac,bC,aC,he.has,Vl.cB,aH]
     refine⟨by omega,fun h=>by omega,fun _=>⟨by omega,?_⟩⟩
     refine ah (Dz n m w (by omega) a env t1 ⟨ok2,A.wf,ha,f1⟩ hv (by omega) ea ids he hids tg s fr ht) ?_
     simp only[↓zq,zs,ac]
     have hadd:=Jo (Vl.l w).cB ((aH _).mpr trivial) Vl.l (fun c=>QY w c) (cg t1 tg w) [] (by simp;omega)
     simp only[Vl.cB,hJ,List.map_nil,aM]at hadd
     refine aS hadd ?_
     simp[↓zq,zs,ac,bm,bA,aH,hJ,bY]
    |
     r w =>
     simp only[eQ,hhd,hx,beq_self_eq_true,bQ]at hv
     simp only[Vl.nodes]at hm hl hlen
     rw[mE]at hlen |-
     rw[fM]at hlen
     simp only[Ty.av,↓zq,zs,ac]
     refine⟨by omega,fun _=>?_,fun h=>absurd rfl h⟩
     refine ah hL ?_
     simp only[↓zq,zs,ac,bC,aC,he.has,Vl.cB,aH]
     refine⟨by omega,fun _=>?_,fun h=>absurd rfl h⟩
     refine ah hR ?_
     simp only[↓zq,zs,ac,bC,aC,he.has,aH]
     refine⟨by omega,?_⟩
     refine ah (Dz n m w (by omega) b env t2 ⟨ok3,A.wf,hbb,f2⟩ hv (by omega) ea ids he hids tg s fr ht) ?_
     simp only[↓zq,zs,ac]
     have hadd:=Jo (Vl.r w).cB ((aH _).mpr trivial) Vl.r (fun c=>Qn w c) (cg t2 tg w) [] (by simp;omega)
     simp only[Vl.cB,hJ,List.map_nil,aM]at hadd
     refine aS hadd ?_
     simp[↓zq,zs,ac,bm,bA,aH,hJ,bY]
    |_=>simp[eQ,hhd,hx]at hv
   ·obtain⟨ok1,ok2,ok3,_⟩:=A.ok
    obtain⟨f1,f2⟩:=eM A.cl
    have hL:=zl t1.av t2.av ea 42 (mk []) 0 ((aC _).mpr trivial) he.has
    have hR:=yN t1.av t2.av ea 42 (mk []) 0 ((aC _).mpr trivial) he.has
    cases v with
    |
     p w w' =>
     simp only[eQ,hhd,hx,beq_self_eq_true,bQ,ap]at hv
     simp only[Vl.nodes]at hm hl hlen
     rw[mP]at hlen |-
     simp only[ax,fM]at hlen
     simp only[Ty.av,↓zq,zs,ac]
     refine⟨by omega,fun h=>by omega,fun _=>⟨fun _=>?_,fun h=>absurd rfl h⟩⟩
     refine ah hL ?_
     simp only[↓zq,zs,ac,bC,aC,he.has,Vl.cB,aH]
     refine⟨by omega,?_⟩
     refine ah (Dz n m w (by omega) a env t1 ⟨ok2,A.wf,ha,f1⟩ hv.1 (by omega) ea ids he hids tg s fr ht) ?_
     simp only[↓zq,zs,ac]
     have hadd:=QK (Vl.p w w').cB ((aH _).mpr trivial) (fun c=>.l (.p c w')) (fun c=>Ow w w' c) (cg t1 tg w) [] (by simp;omega)
     simp only[Vl.cB,hJ,List.map_nil,aM]at hadd
     refine aS hadd ?_
     simp only[↓zq,zs,ac,bm,aH]
     refine ah hR ?_
     simp only[↓zq,zs,ac,bC,aC,he.has,aH]
     refine⟨by omega,?_⟩
     refine ah (Dz n m w' (by omega) b env t2 ⟨ok3,A.wf,hbb,f2⟩ hv.2 (by omega) ea ids he hids tg s fr ht) ?_
     simp only[↓zq,zs,ac]
     have hadd2:=OV (Vl.p w w').cB ((aH _).mpr trivial) (fun c=>.r (.p w c)) (fun c=>Ph w w' c) (cg t2 tg w') (jl (fun c=>.l (.p c w')) (cg t1 tg w)) (by rw[fM];omega)
     simp only[Vl.cB,hJ]at hadd2
     refine aS hadd2 ?_
     simp[↓zq,zs,ac,bm,bA,aH,hJ,bY]
    |_=>simp[eQ,hhd,hx]at hv
   ·obtain⟨t1',he1,h1,f1,hw1⟩:=jd A.wf A.ok hx A.ty A.cl
    cases he1
    obtain⟨ok1,ok2,ok3,_⟩:=A.ok
    have A':Ask b (.mk a.at (.list [x,a,b]) env::env) t1:=⟨ok3,hw1,h1,f1⟩
    cases v with
    |
     f w =>
     simp only[eQ,hhd,hx,beq_self_eq_true,bQ]at hv
     simp only[Vl.nodes]at hm hl hlen
     rw[mJ]at hlen |-
     simp only[ax,fM]at hlen
     have hin:=C8 t1 ea ids he
     simp only[Ty.av]at hin
     simp only[Ty.av,↓zq,zs,ac]
     refine⟨by omega,fun h=>by omega,fun _=>⟨fun h=>by omega,fun _=>⟨fun _=>?_,fun h=>absurd rfl h⟩⟩⟩
     refine bU hin (by have:=At.ne t1 ea ids;simpa only[At,Ty.av]using this) ?_
     intro r o hr
     obtain⟨⟨mm,hmm,rfl⟩,rfl⟩:=hr
     have he2:kh (.ptr [.pid mm [(Ty.rc t1).av,ea],ea]) (mm::ids):=.cons hmm he
     have hfr:LK.ptr.has (.pid mm [(Ty.rc t1).av,ea]):=.inr (.inr ⟨_,_,rfl⟩)
     simp only[Ty.av]at he2 hfr
     simp only[↓zq,zs,ac,bC,aC,he2.has,hfr,Vl.cB,aH,Ty.av]
     refine⟨by omega,?_⟩
     have i1:=Dz n m w (by omega) b _ t1 A' hv (by simp;omega) _ _ he2 (by simp[hids]) tg.up s fr (ht.push mm)
     unfold Gq at i1
     refine ah i1 ?_
     simp only[↓zq,zs,ac]
     have hadd:=Rk (fun c=>.f (.l c)) (fun c=>OL c) (cg t1 tg.up w) [] (by simp;omega)
     simp only[Vl.cB,hJ,List.map_nil,aM]at hadd
     refine aS hadd ?_
     simp only[↓zq,zs,ac,bm,aH]
     have i2:=Dz n m w (by omega) b _ t1 A' hv (by simp;omega) _ _ he2 (by simp[hids]) (.bd 0) [] _ (by have:=zD.bd (k:=0) (ids:=mm::ids) (by simp) [(Ty.rc t1).av,ea] [];simpa only[bh,Ty.av]using this)
     unfold Gq at i2
     refine⟨by omega,?_⟩
     refine ah i2 ?_
     simp only[↓zq,zs,ac,ei]
     have hl2:=mI t1 (.bd 0) w
     have ih3:∀h,h∈cg t1 (.bd 0) w->Gq (.rc t1) ea s fr tg h.2:=fun h hh=>by
      have h3:=(jh hh).1
      have h4:=hD n m w (by omega) b _ t1 A' hv 0 _ rfl h hh
      exact Dz n m h.2 (by omega) (.list [x,a,b]) env (.rc t1) A h4 (by omega) ea ids he hids tg s fr ht
     have hloop:=Ki t1 ea s fr tg he.has ht.has (cg t1 (.bd 0) w) (by omega) ih3 (cg t1 (.bd 0) w).length 0 (jl (fun c=>.f (.l c)) (cg t1 tg.up w)) (by omega) (by
      simp only[a6,ax,fM]
      have hlen2:(cg t1 tg.up w).length+((cg t1 (.bd 0) w).flatMap (zC t1 tg)).length<=1+w.nodes:=hlen
      omega)
     simp only[Ty.av,hJ,a6]at hloop
     refine cf hloop ?_
     simp[↓zq,zs,ac,ac,bA,hJ]
    |_=>simp[eQ,hhd,hx]at hv
  ·rw[dS hat (by cases v<;>rfl)]
   simp[Ty.av,↓zq,zs,ac,bA,hJ]
end Go.Proofs.Trees
namespace Go.Proofs.Trees
open Go Go.VL Go.RowKit
theorem Fv:∀(v:Vl),v.cV.length<=900000->an Tryz.prog 66 [v.cB] [] (bA (.v (.string (mk v.cV))))
 | .u,h=>by refine yL _ ((aH _).mpr trivial) ?_;simp[wo,Vl.cB,↓zq,zs,ac,bA,Vl.cV,Vl.cG,fQ]
 | .el k,h=>by refine yL _ ((aH _).mpr trivial) ?_;simp[wo,Vl.cB,↓zq,zs,ac,bA,Vl.cV,Vl.cG,fQ]
 |
  .l v,h=>by
  simp only[Vl.cV,Vl.cG,fQ,en,aB,ax,aJ]at h
  refine yL _ ((aH _).mpr trivial) ?_
  have hb:(⟨(bytesOf [[.v (.int .u8 108)]]).toArray⟩:ByteArray)=mk [108]:=rfl
  have ha:i6 [[.v (.int .u8 108)]]:=jx 108
  simp only[wo,Vl.cB,↓zq,zs,ac,aH,fu,hb]
  refine⟨by omega,fun h=>by omega,fun _=>⟨fun h=>by omega,fun _=>⟨fun h=>by omega,fun _=>⟨by omega,ha,by simp[cy],by rw[jB,cy,cy];simp,by omega,?_⟩⟩⟩⟩
  refine ah (Fv v (by simp only[Vl.cV];omega)) ?_
  simp only[↓zq,zs,ac,zt,bA,Vl.cV,Vl.cG,fQ,en]
  refine⟨by simp;omega,by simp;omega,by simp⟩
 |
  .r v,h=>by
  simp only[Vl.cV,Vl.cG,fQ,en,aB,ax,aJ]at h
  refine yL _ ((aH _).mpr trivial) ?_
  have hb:(⟨(bytesOf [[.v (.int .u8 114)]]).toArray⟩:ByteArray)=mk [114]:=rfl
  have ha:i6 [[.v (.int .u8 114)]]:=jx 114
  simp only[wo,Vl.cB,↓zq,zs,ac,aH,fu,hb]
  refine⟨by omega,fun h=>by omega,fun _=>⟨fun h=>by omega,fun _=>⟨fun h=>by omega,fun _=>⟨by omega,ha,by simp[cy],by rw[jB,cy,cy];simp,by omega,?_⟩⟩⟩⟩
  refine ah (Fv v (by simp only[Vl.cV];omega)) ?_
  simp only[↓zq,zs,ac,zt,bA,Vl.cV,Vl.cG,fQ,en]
  refine⟨by simp;omega,by simp;omega,by simp⟩
 |
  .f v,h=>by
  simp only[Vl.cV,Vl.cG,fQ,en,aB,ax,aJ]at h
  refine yL _ ((aH _).mpr trivial) ?_
  have hb:(⟨(bytesOf [[.v (.int .u8 102)]]).toArray⟩:ByteArray)=mk [102]:=rfl
  have ha:i6 [[.v (.int .u8 102)]]:=jx 102
  simp only[wo,Vl.cB,↓zq,zs,ac,aH,fu,hb]
  refine⟨by omega,fun h=>by omega,fun _=>⟨fun h=>by omega,fun _=>⟨fun h=>by omega,fun _=>⟨by omega,ha,by simp[cy],by rw[jB,cy,cy];simp,by omega,?_⟩⟩⟩⟩
  refine ah (Fv v (by simp only[Vl.cV];omega)) ?_
  simp only[↓zq,zs,ac,zt,bA,Vl.cV,Vl.cG,fQ,en]
  refine⟨by simp;omega,by simp;omega,by simp⟩
 |
  .p a b,h=>by
  simp only[Vl.cV,Vl.cG,fQ,en,aB,ax,aJ]at h
  refine yL _ ((aH _).mpr trivial) ?_
  simp only[wo,Vl.cB,↓zq,zs,ac,aH,fu]
  refine⟨by omega,fun h=>by omega,fun _=>⟨fun h=>by omega,fun _=>⟨fun _=>⟨by omega,?_⟩,fun h=>absurd rfl h⟩⟩⟩
  refine ah (Fv a (by simp only[Vl.cV];omega)) ?_
  simp only[↓zq,zs,ac,zt,aH,Vl.cV]
  refine⟨by simp;omega,by simp;omega,by omega,?_⟩
  refine ah (Fv b (by simp only[Vl.cV];omega)) ?_
  simp only[↓zq,zs,ac,zt,bA,Vl.cV,Vl.cG,fQ,en]
  refine⟨by simp;omega,by simp;omega,by simp⟩
def s5:Option (List UInt8)->AV
 |some s=>.cN [.v (.string (mk s)),.v (.bool true)]
 |none=>.cN [.v (.string (mk [])),.v (.bool false)]
end Go.Proofs.Trees
namespace Go.Proofs.Trees
open Go Go.VL Go.RowKit
def back(n:Nat):Ty->Nat->Vl
 | .name _,c=>.el c
 | .plus a b,c=>match HN n a with|some x=>if c<x then .l (back n a c)else .r (back n b (c-x))|none=>.u
 | .times a b,c=>match HN n b with|some y=>.p (back n a (c/y)) (back n b (c%y))|none=>.u
 |_,_=>.u
theorem xj:∀l:List E,cD 2 (E.bj l)
 |[]=>fun c hc=>by cases hc
 |
  e::l=>fun c hc=>by
  simp only[E.bj,aF]at hc
  rcases hc with rfl|hc
  ·exact gj e
  ·exact xj l c hc
theorem MU(w:List UInt8)(l:List E)(hl:l.length<1000000):an Tryz.prog 98 [.v (.string (mk w)),.sl (E.bj l)] [] (bA (E.ko (.list (.atom w::l)))):=by
 refine HU _ _ ((ca _).mpr trivial) ?_
 simp only[FH,↓zq,zs,ac,dW,bA,E.ko,E.im,E.bj]
 exact⟨⟨xj l,by omega⟩,rfl⟩
end Go.Proofs.Trees
namespace Go.Proofs.Trees
open Go Go.VL Go.RowKit
def lP(l:List Hl):List (List AV):=l.map fun h=>[.v (.string (mk h.1.cG.at)),h.1.cG.sp,.v (.string (mk h.2.cG.at)),h.2.cG.sp]
theorem fq(l:List Hl):(lP l).length=l.length:=by simp[lP]
theorem gy{l:List Hl}{i:Nat}(hi:i<l.length):(lP l).getD i []=[.v (.string (mk (l[i]).1.cG.at)),(l[i]).1.cG.sp,.v (.string (mk (l[i]).2.cG.at)),(l[i]).2.cG.sp]:=by simp[lP,aa,hi]
theorem oy(out:List Hl)(a b:Vl):lP out++[[.v (.string (mk a.cG.at)),a.cG.sp,.v (.string (mk b.cG.at)),b.cG.sp]]=lP (out++[(a,b)]):=by simp[lP]
theorem yP(a b c d:AV):cD 4 [[a,b,c,d]]:=fun x hx=>by simp at hx;rw[hx];rfl
theorem aR(s:ByteArray)(e:E):bC [.str,.sl] [.v (.string s),e.sp] 0=True:=by simp[bC,ej,aY]
theorem kG(s:ByteArray)(e:E)(x y:AV):bC [.str,.sl] [.v (.string s),e.sp,x,y] 0=True:=by simp[bC,ej,aY]
theorem zB(w:List UInt8)(e:E):an Tryz.prog 98 [.v (.string (mk w)),.sl [[.v (.string (mk e.at)),e.sp]]] [] (bA (.agg [.v (.string (mk [])),(E.list [.atom w,e]).sp])):=by
 have:=MU w [e] (by simp)
 simpa only[E.bj,fC,dw,E.at]using this
theorem wP(w:List UInt8)(e e':E):an Tryz.prog 98 [.v (.string (mk w)),.sl [[.v (.string (mk e.at)),e.sp],[.v (.string (mk e'.at)),e'.sp]]] [] (bA (.agg [.v (.string (mk [])),(E.list [.atom w,e,e']).sp])):=by
 have:=MU w [e,e'] (by simp)
 simpa only[E.bj,fC,dw,E.at]using this
def P3(pv:AV)(a b:E):Prop:=LK.sl.has pv/\pv.aQ.length=3/\pv.aQ.getD 1 []=[.v (.string (mk a.at)),a.sp]/\pv.aQ.getD 2 []=[.v (.string (mk b.at)),b.sp]
theorem P3.of(x a b:E):P3 (E.list [x,a,b]).sp a b:=⟨by simp[E.sp,ca],by simp[E.sp,E.bj,fV],by simp[E.sp,E.bj,fV,fC],by simp[E.sp,E.bj,fV,fC]⟩
def P2(pv:AV)(a:E):Prop:=LK.sl.has pv/\pv.aQ.length=2/\pv.aQ.getD 1 []=[.v (.string (mk a.at)),a.sp]
theorem P2.of(x a:E):P2 (E.list [x,a]).sp a:=⟨by simp[E.sp,ca],by simp[E.sp,E.bj,fV],by simp[E.sp,E.bj,fV,fC]⟩
theorem MS(w:List UInt8)(g:Vl->Vl)(hg:∀c,(g c).cG=.list [.atom w,c.cG])(l:List Hl)(hl:l.length<=1000000):∀(k i:Nat) (out:List Hl),i+k=l.length->out.length+k<=1000000 ->
 Gt [.sl (lP l),.v (.string (mk w)),.v (.int .i64 (i:Int))] [.vec 4 (lP out)] (fX 1 [] [.vec 4 (lP (out++jl g (l.drop i)))])
 |
  0,i,out,hi,ho=>by
  refine NR _ _ _ _ ?_
  have:i=l.length:=by omega
  subst this
  simp only[Fm,↓zq,zs,ac,fq]
  exact⟨fun h=>by omega,fun _=>by simp[fX,jl]⟩
 |
  k+1,i,out,hi,ho=>by
  have hlt:i<l.length:=by omega
  refine NR _ _ _ _ ?_
  simp only[Fm,↓zq,zs,ac,zt,fq,gy hlt,kG,aR]
  refine⟨fun _=>?_,fun h=>by omega⟩
  repeat refine⟨by omega,?_⟩
  refine ah (zB _ _) ?_
  simp only[↓zq,zs,ac,aR]
  repeat refine⟨by omega,?_⟩
  refine⟨⟨yP _ _ _ _,by omega⟩,?_⟩
  rw[a7 i (by omega)]
  have:=MS w g hg l hl k (i+1) (out++[(g (l[i]).1,(l[i]).2)]) (by omega) (by simp;omega)
  rw[aU,<-oy,hg]at this
  rw[gp g l hlt]
  exact this
theorem N2(w:List UInt8)(g:Vl->Vl)(hg:∀c,(g c).cG=.list [.atom w,c.cG])(l out:List Hl)(hl:out.length+l.length<=1000000) :
 an Tryz.prog 126 [.sl (lP l),.v (.string (mk w)),.vec 0] [.vec 4 (lP out)] (cW (.vec 1) [.dead,.vec 4 (lP (out++jl g l))]):=by
 refine Qq _ _ _ ((ca _).mpr trivial) ?_
 simp only[J2,↓zq,zs,ac]
 have h:=MS w g hg l (by omega) l.length 0 out (by omega) (by omega)
 rw[a6]at h
 refine cf h ?_
 simp[↓zq,zs,ac,cW]
theorem Ij(s:List UInt8)(ta:ByteArray)(tp:AV)(ht:LK.sl.has tp)(va:ByteArray)(vp:AV)(x y:Vl)(hp:P3 vp x.cG y.cG)(l:List Hl)(hl:l.length<=1000000):∀(k i:Nat) (out:List Hl),i+k=l.length->out.length+k<=1000000 ->
 G1 [.v (.string (mk s)),.sl (lP l),.v (.int .i64 (i:Int))] [.cells [.v (.string ta),tp],.cells [.v (.string va),vp],.vec 4 (lP out)] (fX 1 [.v (.string (mk s))] [.cells [.v (.string ta),tp],.cells [.v (.string va),vp],.vec 4 (lP (out++jl (fun c=>Vl.l (.p c y)) (l.drop i)))])
 |
  0,i,out,hi,ho=>by
  refine MG _ _ _ _ _ _ _ _ ?_
  have:i=l.length:=by omega
  subst this
  simp only[EP,↓zq,zs,ac,fq,ht,aY,ac,hp.1]
  exact⟨fun h=>by omega,fun _=>by simp[fX,jl]⟩
 |
  k+1,i,out,hi,ho=>by
  have hlt:i<l.length:=by omega
  refine MG _ _ _ _ _ _ _ _ ?_
  simp only[EP,↓zq,zs,ac,zt,fq,gy hlt,kG,aR,gy,ht,aY,ac,hp.1,toNat_one,bi,hp.1,hp.2.1,hp.2.2.1,hp.2.2.2]
  refine⟨fun _=>?_,fun h=>by omega⟩
  repeat refine⟨by omega,?_⟩
  refine ah (wP _ _ _) ?_
  simp only[↓zq,zs,ac,aR]
  repeat refine⟨by omega,?_⟩
  refine ah (zB [108] (E.list [.atom [112],(l[i]).1.cG,y.cG])) ?_
  simp only[↓zq,zs,ac,aR]
  repeat refine⟨by omega,?_⟩
  refine⟨⟨yP _ _ _ _,by omega⟩,?_⟩
  rw[a7 i (by omega)]
  have:=Ij s ta tp ht va vp x y hp l hl k (i+1) (out++[((fun c=>Vl.l (.p c y)) (l[i]).1,(l[i]).2)]) (by omega) (by simp;omega)
  rw[aU,<-oy]at this
  rw[gp (fun c=>Vl.l (.p c y)) l hlt]
  exact this
theorem KP(va:ByteArray)(vp:AV)(x y:Vl)(hp:P3 vp x.cG y.cG)(l:List Hl)(hl:l.length<=1000000):∀(k i:Nat) (out:List Hl),i+k=l.length->out.length+k<=1000000 ->
 He [.sl (lP l),.v (.int .i64 (i:Int))] [.cells [.v (.string va),vp],.vec 4 (lP out)] (fX 1 [] [.vec 4 (lP (out++jl (fun c=>Vl.r (.p x c)) (l.drop i)))])
 |
  0,i,out,hi,ho=>by
  refine Nw _ _ _ _ _ ?_
  have:i=l.length:=by omega
  subst this
  simp only[Hs,↓zq,zs,ac,fq,aY,ac,hp.1]
  exact⟨fun h=>by omega,fun _=>by simp[fX,jl]⟩
 |
  k+1,i,out,hi,ho=>by
  have hlt:i<l.length:=by omega
  refine Nw _ _ _ _ _ ?_
  simp only[Hs,↓zq,zs,ac,zt,fq,gy hlt,kG,aR,gy,aY,ac,hp.1,toNat_one,bi,hp.1,hp.2.1,hp.2.2.1,hp.2.2.2]
  refine⟨fun _=>?_,fun h=>by omega⟩
  repeat refine⟨by omega,?_⟩
  refine ah (wP _ _ _) ?_
  simp only[↓zq,zs,ac,aR]
  repeat refine⟨by omega,?_⟩
  refine ah (zB [114] (E.list [.atom [112],x.cG,(l[i]).1.cG])) ?_
  simp only[↓zq,zs,ac,aR]
  repeat refine⟨by omega,?_⟩
  refine⟨⟨yP _ _ _ _,by omega⟩,?_⟩
  rw[a7 i (by omega)]
  have:=KP va vp x y hp l hl k (i+1) (out++[((fun c=>Vl.r (.p x c)) (l[i]).1,(l[i]).2)]) (by omega) (by simp;omega)
  rw[aU,<-oy]at this
  rw[gp (fun c=>Vl.r (.p x c)) l hlt]
  exact this
theorem Kh(s s2:List UInt8)(ta:ByteArray)(tp:AV)(ht:LK.sl.has tp)(va:ByteArray)(vp:AV)(hp:LK.sl.has vp)(l:List Hl)(hl:l.length<=1000000):∀(k i:Nat) (out:List Hl),i+k=l.length->out.length+k<=1000000 ->
 E4 [.v (.string (mk s)),.v (.string (mk s2)),.sl (lP l),.v (.int .i64 (i:Int))] [.cells [.v (.string ta),tp],.cells [.v (.string va),vp],.vec 4 (lP out)] (fX 1 [.v (.string (mk s)),.v (.string (mk s2))] [.cells [.v (.string ta),tp],.cells [.v (.string va),vp],.vec 4 (lP (out++jl (fun c=>Vl.f (.l c)) (l.drop i)))])
 |
  0,i,out,hi,ho=>by
  refine Ih _ _ _ _ _ _ _ _ _ ?_
  have:i=l.length:=by omega
  subst this
  simp only[Fc,↓zq,zs,ac,fq,ht,aY,ac,hp]
  exact⟨fun h=>by omega,fun _=>by simp[fX,jl]⟩
 |
  k+1,i,out,hi,ho=>by
  have hlt:i<l.length:=by omega
  refine Ih _ _ _ _ _ _ _ _ _ ?_
  simp only[Fc,↓zq,zs,ac,zt,fq,gy hlt,kG,aR,gy,ht,aY,ac,hp]
  refine⟨fun _=>?_,fun h=>by omega⟩
  repeat refine⟨by omega,?_⟩
  refine ah (zB _ _) ?_
  simp only[↓zq,zs,ac,aR]
  repeat refine⟨by omega,?_⟩
  refine ah (zB [102] (E.list [.atom [108],(l[i]).1.cG])) ?_
  simp only[↓zq,zs,ac,aR]
  repeat refine⟨by omega,?_⟩
  refine⟨⟨yP _ _ _ _,by omega⟩,?_⟩
  rw[a7 i (by omega)]
  have:=Kh s s2 ta tp ht va vp hp l hl k (i+1) (out++[((fun c=>Vl.f (.l c)) (l[i]).1,(l[i]).2)]) (by omega) (by simp;omega)
  rw[aU,<-oy]at this
  rw[gp (fun c=>Vl.f (.l c)) l hlt]
  exact this
theorem Kt(s:List UInt8)(L:AV)(q:Nat)(kc:Vl)(kv:Vl)(hL:LK.sl.has L)(hq:q<L.aQ.length)(hg:L.aQ.getD q []=[.v (.string (mk kc.cG.at)),kc.cG.sp,.v (.string (mk kv.cG.at)),kv.cG.sp])(ta:ByteArray)(tp:AV)(ht:LK.sl.has tp)(l:List Hl)(hl:l.length<=1000000):∀(k i:Nat) (out:List Hl),i+k=l.length->out.length+k<=1000000 ->
 Ft [.v (.string (mk s)),L,.v (.int .i64 (q:Int)),.sl (lP l),.v (.int .i64 (i:Int))] [.cells [.v (.string ta),tp],.vec 4 (lP out)] (fX 1 [.v (.string (mk s)),L,.v (.int .i64 (q:Int))] [.cells [.v (.string ta),tp],.vec 4 (lP (out++jl (fun c=>Vl.f (.r (.p kc c))) (l.drop i)))])
 |
  0,i,out,hi,ho=>by
  refine K7 _ _ _ _ _ _ _ _ ?_
  have:i=l.length:=by omega
  subst this
  simp only[D5,↓zq,zs,ac,fq,ht,aY,ac,hL]
  exact⟨fun h=>by omega,fun _=>by simp[fX,jl]⟩
 |
  k+1,i,out,hi,ho=>by
  have hlt:i<l.length:=by omega
  refine K7 _ _ _ _ _ _ _ _ ?_
  simp only[D5,↓zq,zs,ac,zt,fq,gy hlt,kG,aR,gy,ht,aY,ac,hL,hg]
  refine⟨fun _=>?_,fun h=>by omega⟩
  repeat refine⟨by omega,?_⟩
  refine ah (wP _ _ _) ?_
  simp only[↓zq,zs,ac,aR]
  repeat refine⟨by omega,?_⟩
  refine ah (zB [114] (E.list [.atom [112],kc.cG,(l[i]).1.cG])) ?_
  simp only[↓zq,zs,ac,aR]
  repeat refine⟨by omega,?_⟩
  refine ah (zB [102] (E.list [.atom [114],E.list [.atom [112],kc.cG,(l[i]).1.cG]])) ?_
  simp only[↓zq,zs,ac,aR]
  repeat refine⟨by omega,?_⟩
  refine⟨⟨yP _ _ _ _,by omega⟩,?_⟩
  rw[a7 i (by omega)]
  have:=Kt s L q kc kv hL hq hg ta tp ht l hl k (i+1) (out++[((fun c=>Vl.f (.r (.p kc c))) (l[i]).1,(l[i]).2)]) (by omega) (by simp;omega)
  rw[aU,<-oy]at this
  rw[gp (fun c=>Vl.f (.r (.p kc c))) l hlt]
  exact this
theorem Ig(s:List UInt8)(te:E)(a:Ty)(tg:Tg)(l:List Hl)(hl:l.length<=1000000)(ih:∀h,h∈l->an Tryz.prog 92 [.agg [.v (.string (mk te.at)),te.sp],.v (.string (mk s)),.agg [.v (.string (mk h.2.cG.at)),h.2.cG.sp]] [] (bA (.sl (lP (cg (.rc a) tg h.2))))) :
 ∀(k i:Nat) (out:List Hl),i+k=l.length->(out++(l.drop i).flatMap (zC a tg)).length<=1000000 ->
 F0 [.v (.string (mk s)),.sl (lP l),.v (.int .i64 (i:Int))] [.cells [.v (.string (mk te.at)),te.sp],.vec 4 (lP out)] (fX 1 [] [.vec 4 (lP (out++(l.drop i).flatMap (zC a tg)))])
 |
  0,i,out,hi,ho=>by
  refine LJ _ _ _ _ _ _ ?_
  have:i=l.length:=by omega
  subst this
  simp only[G9,↓zq,zs,ac,fq,aY,ac]
  exact⟨fun h=>by omega,fun _=>by simp[fX]⟩
 |
  k+1,i,out,hi,ho=>by
  have hlt:i<l.length:=by omega
  have hd:(l.drop i).flatMap (zC a tg)=zC a tg (l[i])++(l.drop (i+1)).flatMap (zC a tg):=by rw[aN hlt,List.flatMap_cons]
  rw[hd]at ho |-
  refine LJ _ _ _ _ _ _ ?_
  simp only[G9,↓zq,zs,ac,zt,fq,gy hlt,kG,aR,aY,ac]
  refine⟨fun _=>?_,fun h=>by omega⟩
  repeat refine⟨by omega,?_⟩
  refine ah (ih _ (AH l hlt)) ?_
  simp only[↓zq,zs,ac]
  have hb:out.length+(cg (.rc a) tg (l[i]).2).length<=1000000:=by
   simp only[ax,fM]at ho;omega
  have h5:=Kt s (.sl (lP l)) i (l[i]).1 (l[i]).2 ((ca _).mpr trivial) (by rw[fV,fq];omega) (by rw[fV,gy hlt]) (mk te.at) te.sp ((aY _).mpr trivial) (cg (.rc a) tg (l[i]).2) (by omega) (cg (.rc a) tg (l[i]).2).length 0 out (by omega) (by omega)
  rw[a6]at h5
  refine cf h5 ?_
  simp only[↓zq,zs,ac,aY,ac]
  repeat refine⟨by omega,?_⟩
  rw[a7 i (by omega),<-aU]
  exact Ig s te a tg l hl ih k (i+1) _ (by omega) (by rw[aU];exact ho)
end Go.Proofs.Trees
namespace Go.Proofs.Trees
open Go Go.VL Go.RowKit
def kids(a:Ty):Vl->List Hl
 | .f w=>cg a (.bd 0) w
 |_=>[]
theorem sN(a:Ty)(v:Vl):kH (kids a v)+1<=v.nodes:=by
 cases v with
 |f w=>have:=qK a (.bd 0) w;simp only[kids,Vl.nodes];omega
 |_=>simp only[kids,kH,Vl.nodes,List.map_nil,List.sum_nil];omega
theorem w6{a:Ty}{v:Vl}{h:Hl}(hh:h∈kids a v):h.2.nodes<v.nodes:=by
 cases v with
 |f w=>have:=(jh hh).1;simp only[Vl.nodes];omega
 |_=>cases hh
theorem oi{n:Nat}{a:Ty}{v:Vl}{h:Hl}(hv:v.ir n)(hh:h∈kids a v):h.1.ir n/\h.2.ir n:=by
 cases v with
 |f w=>exact gT n _ _ _ w h hv hh
 |_=>cases hh
end Go.Proofs.Trees
namespace Go.Proofs.Trees
open Go Go.VL
mutual
def E.pr:E->Prop
 | .atom s=>s≠[]/\s.all eS=true
 | .list l=>l≠[]/\E.zI l
def E.zI:List E->Prop
 |[]=>True
 |e::l=>e.pr/\E.zI l
end
mutual
def E.dp:E->Nat
 | .atom _=>0
 | .list l=>1+E.uh l
def E.uh:List E->Nat
 |[]=>0
 |e::l=>max e.dp (E.uh l)
end
def H9(r:List UInt8):Prop:=∀c t,r=c::t->eS c=false
theorem s8:H9 []:=by intro c t h;cases h
theorem zK{s r:List UInt8}(hs:s.all eS=true)(hr:H9 r):(s++r).takeWhile eS=s/\(s++r).dropWhile eS=r:=by
 induction s with
 |
  nil =>
  cases r with
  |nil=>exact⟨rfl,rfl⟩
  |cons c t=>have:=hr c t rfl;simp[List.takeWhile,List.dropWhile,this]
 |
  cons c s ih =>
  simp only[cY,ap]at hs
  have:=ih hs.2
  simp[List.takeWhile,List.dropWhile,hs.1,this.1,this.2]
theorem uZ(l:List E)(r:List UInt8):H9 (en l++41::r):=by
 intro c t h
 cases l with
 |nil=>simp only[en,aM,List.cons.injEq]at h;rw[<-h.1];decide
 |cons e l=>simp only[en,aZ,List.cons.injEq]at h;rw[<-h.1];decide
theorem zR{f:List UInt8->Option (E×List UInt8)}(r:List UInt8):∀(l:List E) (e:E) (acc:List E) (n:Nat),l.length<n->(∀x,x=e\/x∈l->∀r,H9 r->f (fQ x++r)=some (x,r)) ->
 rL f n (fQ e++(en l++41::r)) acc=some (.list (acc++e::l),r)
 |l,e,acc,0,hn,hf=>by omega
 |
  [],e,acc,n+1,hn,hf=>by
  simp only[rL]
  rw[hf e (.inl rfl) _ (uZ [] r)]
  simp[en]
 |
  x::l,e,acc,n+1,hn,hf=>by
  simp only[rL]
  rw[hf e (.inl rfl) _ (uZ (x::l) r)]
  simp only[aB]at hn
  have ih:=zR r l x (acc++[e]) n (by omega) (fun y hy=>hf y (.inr (by cases hy with|inl h=>rw[h];exact aj|inr h=>exact ak _ h)))
  simp only[aU,aZ,aM]at ih
  simp only[en,aZ,aU]
  simp[ih]
theorem BJ{l:List E}{k:Nat}:E.zI l->E.uh l<=k->∀x,x∈l->x.pr/\x.dp<=k:=by
 induction l with
 |nil=>intro _ _ x h;cases h
 |
  cons e l ih =>
  intro h hd x hx
  simp only[E.zI,E.uh]at h hd
  cases hx with
  |head=>exact⟨h.1,by omega⟩
  |tail _ hx=>exact ih h.2 (by omega) x hx
theorem xK:∀(k:Nat) (e:E) (r:List UInt8),e.pr->e.dp<=k->H9 r->rd k (fQ e++r)=some (e,r)
 |
  0,.atom s,r,hp,hd,hr=>by
  have h:=zK hp.2 hr
  simp only[fQ,rd,h.1,h.2,hp.1,if_false]
 |
  k+1,.atom s,r,hp,hd,hr=>by
  have h:=zK hp.2 hr
  simp only[fQ,rd,h.1,h.2,hp.1,if_false]
 |0,.list l,r,hp,hd,hr=>by simp only[E.dp]at hd;omega
 |k+1,.list [],r,hp,hd,hr=>by exact absurd rfl hp.1
 |
  k+1,.list (e::l),r,hp,hd,hr=>by
  have hs:eS 40=false:=by decide
  simp only[E.dp,E.pr]at hd hp
  have hm:=BJ (k:=k) hp.2 (by omega)
  have:=zR (f:=rd k) r l e [] ((fQ e++(en l++41::r)).length+1) (by have:=rb l;simp only[ax,aB];omega)
   (fun x hx r hr=>xK k x r (hm x (by cases hx with|inl h=>rw[h];exact aj|inr h=>exact ak _ h)).1 (hm x (by cases hx with|inl h=>rw[h];exact aj|inr h=>exact ak _ h)).2 hr)
  simp only[fQ,aZ,aU,aM]at *
  simp only[rd,List.takeWhile,hs,if_true]
  simpa using this
theorem Ab{e e':E}(h:e.pr)(h':e'.pr)(ht:fQ e=fQ e'):e=e':=by
 have a:=xK (max e.dp e'.dp) e [] h (by omega) s8
 have b:=xK (max e.dp e'.dp) e' [] h' (by omega) s8
 rw[ht,b]at a;cases a;rfl
theorem Eb{e:E}(h:e.pr)(hd:e.dp<=300)(hl:(fQ e).length<=8000):p8 (fQ e)=some e:=by
 have:=xK 300 e [] h hd s8
 rw[cA]at this
 rw[p8,this];simp;omega
theorem An(s:List UInt8):(s.takeWhile eS).all eS=true:=by
 induction s with
 |nil=>rfl
 |cons c s ih =>
  cases h:eS c
  ·simp[List.takeWhile,h]
  ·simp only[List.takeWhile,h,cY,ih];rfl
theorem B5(l r:List E):E.zI (l++r)↔E.zI l/\E.zI r:=by
 induction l with
 |nil=>simp[E.zI]
 |cons e l ih=>simp[E.zI,ih,and_assoc]
theorem B0(l r:List E):E.uh (l++r)=max (E.uh l) (E.uh r):=by
 induction l with
 |nil=>simp[E.uh]
 |cons e l ih=>simp[E.uh,ih,Nat.max_assoc]
theorem yc{k:Nat}{f:List UInt8->Option (E×List UInt8)}(hf:∀s e r,f s=some (e,r)->s=fQ e++r/\e.pr/\e.dp<=k):∀(n:Nat) (s:List UInt8) (acc:List E) (e:E) (r:List UInt8),rL f n s acc=some (e,r)->E.zI acc->E.uh acc<=k ->
 ∃l,e=.list (acc++l)/\l≠[]/\32::s=en l++41::r/\E.zI l/\E.uh l<=k
 |0,s,acc,e,r,h,hp,hd=>by cases h
 |
  n+1,s,acc,e,r,h,hp,hd=>by
  simp only[rL]at h
  split at h
  ·rename_i p c r' hs
   obtain⟨h1,h2,h3⟩:=hf _ _ _ hs
   split at h
   ·rename_i hc
    have hc:c=41:=dQ.mp hc
    cases h
    exact⟨[p],rfl,by simp,by simp[en,h1,hc],⟨h2,trivial⟩,by simp[E.uh];omega⟩
   ·split at h
    ·rename_i hc
     have hc:c=32:=dQ.mp hc
     obtain⟨l,g1,g2,g3,g4,g5⟩:=yc hf n _ _ _ _ h ((B5 _ _).mpr ⟨hp,h2,trivial⟩) (by rw[B0];simp[E.uh];omega)
     refine⟨p::l,by simpa using g1,by simp,?_,⟨h2,g4⟩,by simp only[E.uh];omega⟩
     rw[h1,hc,g3];simp[en]
    ·cases h
  ·cases h
theorem Ad:∀(k:Nat) (s:List UInt8) (e:E) (r:List UInt8),rd k s=some (e,r)->s=fQ e++r/\e.pr/\e.dp<=k
 |
  0,s,e,r,h=>by
  simp only[rd]at h
  split at h
  ·cases h
  ·rename_i hs;cases h
   exact⟨(cb).symm,⟨hs,An s⟩,aq _⟩
 |
  k+1,s,e,r,h=>by
  simp only[rd]at h
  split at h
  ·split at h
   ·rename_i c r' _
    split at h
    ·rename_i hc
     have hc:c=40:=dQ.mp hc
     obtain⟨l,g1,g2,g3,g4,g5⟩:=yc (k:=k) (fun s e r h=>Ad k s e r h) _ _ _ _ _ h trivial (Nat.zero_le _)
     simp only[aM]at g1
     subst g1;subst hc
     refine⟨?_,⟨g2,g4⟩,by simp only[E.dp];omega⟩
     cases l with
     |nil=>exact absurd rfl g2
     |
      cons x l =>
      simp only[en,aZ,aU,List.cons.injEq,true_and]at g3
      rw[g3];simp[fQ]
    ·cases h
   ·cases h
  ·rename_i hs;cases h
   exact⟨(cb).symm,⟨hs,An s⟩,by simp[E.dp]⟩
theorem xL{s:List UInt8}{e:E}(h:p8 s=some e):s=fQ e/\e.pr/\e.dp<=300/\s.length<=8000:=by
 unfold p8 at h
 split at h
 ·cases h
 ·rename_i hl
  split at h
  ·rename_i e' hr
   cases h
   have:=Ad _ _ _ _ hr
   exact⟨by simpa using this.1,this.2.1,this.2.2,by omega⟩
  ·cases h
theorem AI{k:Nat}(h:k<10):eS (ba (48+k))=true:=by
 have:∀k:Fin 10,eS (ba (48+k.val))=true:=by decide
 exact this ⟨k,h⟩
theorem vU:∀(n k:Nat),k<n->(dd k).all eS=true
 |0,k,h=>by omega
 |
  n+1,k,h=>by
  by_cases hk:k<10
  ·rw[eE hk,cY,AI hk];rfl
  ·rw[fk hk]
   have:=vU n (k/10) (by omega)
   rw[List.all_append,this,cY,AI (Nat.mod_lt k (by omega:0<10))];rfl
theorem Eg(k:Nat):(E.atom (vR k)).pr:=⟨by simp,by have:=vU (k+1) k (by omega);simp only[vR,cY,this];decide⟩
theorem mh:∀v:Vl,v.cG.pr
 | .u=>⟨by simp,by decide⟩
 | .el k=>Eg k
 | .l v=>⟨by simp,⟨by simp,by decide⟩,mh v,trivial⟩
 | .r v=>⟨by simp,⟨by simp,by decide⟩,mh v,trivial⟩
 | .f v=>⟨by simp,⟨by simp,by decide⟩,mh v,trivial⟩
 | .p a b=>⟨by simp,⟨by simp,by decide⟩,mh a,mh b,trivial⟩
theorem pk:∀v:Vl,v.cG.dp<v.nodes+1
 | .u=>by simp[Vl.cG,E.dp,Vl.nodes]
 | .el k=>by simp[Vl.cG,E.dp,Vl.nodes]
 | .l v=>by have:=pk v;simp only[Vl.cG,E.dp,E.uh,Vl.nodes]at *;omega
 | .r v=>by have:=pk v;simp only[Vl.cG,E.dp,E.uh,Vl.nodes]at *;omega
 | .f v=>by have:=pk v;simp only[Vl.cG,E.dp,E.uh,Vl.nodes]at *;omega
 | .p a b=>by have:=pk a;have:=pk b;simp only[Vl.cG,E.dp,E.uh,Vl.nodes]at *;omega
theorem BX(k:Nat)(h:k<100):(dd k).length<=2:=by
 by_cases hk:k<10
 ·rw[eE hk];simp
 ·rw[fk hk,eE (by omega:k/10<10)];simp
theorem kO:∀v:Vl,v.ir 100->v.cV.length<=5*v.nodes
 | .u,_=>by simp[Vl.cV,Vl.cG,fQ,Vl.nodes]
 |
  .el k,h=>by
  have:=BX k h
  simp only[Vl.cV,Vl.cG,fQ,Vl.nodes,aB];omega
 | .l v,h=>by have:=kO v h;simp only[Vl.cV,Vl.cG,fQ,en,Vl.nodes,aB,ax,aJ]at this |-;omega
 | .r v,h=>by have:=kO v h;simp only[Vl.cV,Vl.cG,fQ,en,Vl.nodes,aB,ax,aJ]at this |-;omega
 | .f v,h=>by have:=kO v h;simp only[Vl.cV,Vl.cG,fQ,en,Vl.nodes,aB,ax,aJ]at this |-;omega
 | .p a b,h=>by have:=kO a h.1;have:=kO b h.2;simp only[Vl.cV,Vl.cG,fQ,en,Vl.nodes,aB,ax,aJ]at *;omega
theorem G6(k:Nat):vR k≠[117]:=by simp[vR]
theorem j7:∀v:Vl,v.ir 100->fH v.cG=some v
 | .u,_=>by simp[Vl.cG,fH]
 | .el k,h=>by simp only[Vl.cG,fH,G6,if_false,u3 k h]
 | .l v,h=>by simp only[Vl.cG,fH,j7 v h,E.at];simp
 | .r v,h=>by simp only[Vl.cG,fH,j7 v h,E.at];simp
 | .f v,h=>by simp only[Vl.cG,fH,j7 v h,E.at];simp
 | .p a b,h=>by simp only[Vl.cG,fH,j7 a h.1,j7 b h.2,E.at];simp
theorem qi{v:Vl}(h:v.ir 100)(hn:v.nodes<=200):rK v.cV=some v:=by
 have hd:=pk v
 have hl:=kO v h
 rw[rK,Eb (mh v) (by omega) (by show v.cV.length<=8000;omega)]
 simp only[j7 v h]
 rw[if_neg (by omega)]
theorem xY{v w:Vl}(h:v.ir 100)(h':w.ir 100)(ht:v.cV=w.cV):v=w:=by
 have:=Ab (mh v) (mh w) ht
 have a:=j7 v h
 rw[this,j7 w h']at a;cases a;rfl
theorem qo{s:List UInt8}{v:Vl}(h:rK s=some v):s=v.cV:=(xL (lL h).1).1
end Go.Proofs.Trees
namespace Go.Proofs.Trees
open Go Go.VL Go.RowKit
theorem bS(l:List E):(E.list l).at=[]:=rfl
def dC:Ty->Vl->Vl->Vl
 | .plus a _,.l c,v=>.l (dC a c v)
 | .plus _ b,.r c,v=>.r (dC b c v)
 | .times a _,.l (.p x y),v=>.p (dC a x v) y
 | .times _ b,.r (.p x y),v=>.p x (dC b y v)
 | .rc a,.f (.l x),v=>.f (dC a x v)
 | .rc a,.f (.r (.p x y)),v=>.f (dC a x (dC (.rc a) y v))
 |_,_,v=>v
def dN:Ty->Vl->Bool
 | .plus a _,.l c=>dN a c
 | .plus _ b,.r c=>dN b c
 | .times a _,.l (.p x _)=>dN a x
 | .times _ b,.r (.p _ y)=>dN b y
 | .rc a,.f (.l x)=>dN a x
 | .rc a,.f (.r (.p x y))=>dN a x&&dN (.rc a) y
 | .plus _ _,_=>false
 | .times _ _,_=>false
 | .rc _,_=>false
 |_,_=>true
theorem sO(c v:Vl):dC .zero c v=v:=by cases c<;>rfl
theorem vr(c v:Vl):dC .one c v=v:=by cases c<;>rfl
theorem mQ(s:List UInt8)(c v:Vl):dC (.name s) c v=v:=by cases c<;>rfl
theorem qO(u:Nat)(c v:Vl):dC (.bO u) c v=v:=by cases c<;>rfl
theorem u6{a b:Ty}{c:Vl}(h:dN (.plus a b) c=true):(∃x,c=.l x/\dN a x=true)\/∃x,c=.r x/\dN b x=true:=by
 cases c<;>simp[dN]at h<;>simp[h]
theorem ss{a b:Ty}{c:Vl}(h:dN (.times a b) c=true):(∃x y,c=.l (.p x y)/\dN a x=true)\/∃x y,c=.r (.p x y)/\dN b y=true:=by
 cases c with
 |l c=>cases c<;>simp[dN]at h<;>simp[h]
 |r c=>cases c<;>simp[dN]at h<;>exact .inr ⟨_,_,rfl,h⟩
 |_=>simp[dN]at h
theorem Av{a:Ty}{c:Vl}(h:dN (.rc a) c=true):(∃x,c=.f (.l x)/\dN a x=true)\/∃x y,c=.f (.r (.p x y))/\dN a x=true/\dN (.rc a) y=true:=by
 cases c with
 |
  f c =>
  cases c with
  |l c=>simp[dN]at h;simp[h]
  |r c=>cases c<;>simp[dN]at h<;>exact .inr ⟨_,_,rfl,h⟩
  |_=>simp[dN]at h
 |_=>simp[dN]at h
theorem rl(t:Ty)(c v:Vl):(dC t c v).nodes<=c.nodes+v.nodes:=by
 induction t,c,v using dC.induct<;>simp only[dC,Vl.nodes]at*<;> omega
theorem qW(m:Nat)(t:Ty)(c v:Vl):c.ir m->v.ir m->(dC t c v).ir m:=by
 induction t,c,v using dC.induct with
 |case1 a b c v ih=>exact fun h h'=>ih h h'
 |case2 a b c v ih=>exact fun h h'=>ih h h'
 |case3 a b x y v ih=>exact fun h h'=>⟨ih h.1 h',h.2⟩
 |case4 a b x y v ih=>exact fun h h'=>⟨h.1,ih h.2 h'⟩
 |case5 a x v ih=>exact fun h h'=>ih h h'
 |case6 a x y v ih1 ih2=>exact fun h h'=>ih2 h.1 (ih1 h.2 h')
 |case7=>intro h h';simpa only[dC]using h'
def HM:Hl:=(.u,.u)
end Go.Proofs.Trees
namespace Go.Proofs.Trees
open Go Go.VL Go.RowKit
theorem p9(s:Nm)(a b:E):an Tryz.prog 121 [.agg [.v (.string (mk [])),(E.list [.atom s,a,b]).sp]] [] (bA (.v (.string (mk s)))):=ur (.atom s) [a,b]
theorem Cy{e:E}(h:Wf e):∀(bd l:List Nm) (a:AV),cv a bd->bd.length+l.length+e.sz<100000->an Tryz.prog 137 [.agg [.v (.string (mk e.at)),e.sp],a,.vec 0] [.vec 1 (bo l)] (cW (.vec 1) [.dead,.vec 1 (bo (j8 e bd l))]):=by
 induction h with
 |
  @atom s hs =>
  intro bd l a ha hl
  simp only[E.sz]at hl
  refine yu _ _ _ _ ((aY _).mpr trivial) ha.1 ?_
  have hll:(bo l).length=l.length:=by simp[bo]
  simp only[Hp,er,↓zq,zs,ac,zt,cW,j8]
  refine⟨fun _=>⟨fun h=>?_,fun h=>⟨fun h1=>?_,fun h1=>?_⟩⟩,fun h=>absurd h hs⟩
  ·rw[if_pos (.inl h)]
  ·rw[if_pos (.inr (.inl h1))]
  ·refine ah (zb bd a ha s (by omega)) ?_
   simp only[↓zq,zs,ac]
   refine⟨fun h2=>?_,fun h2=>ah (zb l _ (.of l) s (by omega)) ?_⟩
   ·rw[if_pos (.inr (.inr (.inl h2)))]
   ·simp only[↓zq,zs,ac]
    refine⟨fun h3=>?_,fun h3=>⟨⟨fun c hc=>(by simp at hc;rw[hc];rfl),by omega⟩,?_⟩⟩
    ·rw[if_pos (.inr (.inr (.inr h3)))]
    ·rw[yo,if_neg]
     rintro(q|q|q|q)
     ·exact h q
     ·exact h1 q
     ·exact h2 q
     ·exact h3 q
 |
  @plus x y hx hy i1 i2 =>
  intro bd l a ha hl
  simp only[E.sz,E.jP]at hl
  have hfl:=ga x bd l
  refine yu _ _ _ _ ((aY _).mpr trivial) ha.1 ?_
  have hP:=P3.of (.atom [43]) x y
  simp only[Hp,bS,toNat_one,bi,↓zq,zs,ac,zt,hP.1,hP.2.1,hP.2.2.1,hP.2.2.2,aR,cW]
  refine⟨fun h=>absurd rfl h,fun _=>?_⟩
  refine ah (p9 [43] x y) ?_
  simp only[↓zq,zs,ac,zt]
  refine⟨fun h=>by simp at h,fun _=>?_⟩
  repeat refine⟨by omega,?_⟩
  refine aS (i1 bd l a ha (by omega)) ?_
  simp only[↓zq,zs,ac,zt,aP,bF,Ob.es]
  repeat refine⟨by omega,?_⟩
  refine aS (i2 bd (j8 x bd l) a ha (by omega)) ?_
  simp only[↓zq,zs,ac,zt,aP,bF,Ob.es]
  rw[j8,if_neg (by decide)]
 |
  @times x y hx hy i1 i2 =>
  intro bd l a ha hl
  simp only[E.sz,E.jP]at hl
  have hfl:=ga x bd l
  refine yu _ _ _ _ ((aY _).mpr trivial) ha.1 ?_
  have hP:=P3.of (.atom [42]) x y
  simp only[Hp,bS,toNat_one,bi,↓zq,zs,ac,zt,hP.1,hP.2.1,hP.2.2.1,hP.2.2.2,aR,cW]
  refine⟨fun h=>absurd rfl h,fun _=>?_⟩
  refine ah (p9 [42] x y) ?_
  simp only[↓zq,zs,ac,zt]
  refine⟨fun h=>by simp at h,fun _=>?_⟩
  repeat refine⟨by omega,?_⟩
  refine aS (i1 bd l a ha (by omega)) ?_
  simp only[↓zq,zs,ac,zt,aP,bF,Ob.es]
  repeat refine⟨by omega,?_⟩
  refine aS (i2 bd (j8 x bd l) a ha (by omega)) ?_
  simp only[↓zq,zs,ac,zt,aP,bF,Ob.es]
  rw[j8,if_neg (by decide)]
 |
  @rc n y hn hy i =>
  intro bd l a ha hl
  simp only[E.sz,E.jP]at hl
  refine yu _ _ _ _ ((aY _).mpr trivial) ha.1 ?_
  have hP:=P3.of (.atom dY) (.atom n) y
  simp only[Hp,bS,toNat_one,bi,↓zq,zs,ac,zt,hP.1,hP.2.1,hP.2.2.1,hP.2.2.2,aR,cW]
  refine⟨fun h=>absurd rfl h,fun _=>?_⟩
  refine ah (p9 dY (.atom n) y) ?_
  simp only[↓zq,zs,ac,zt]
  refine⟨fun _=>?_,fun h=>absurd rfl h⟩
  repeat refine⟨by omega,?_⟩
  refine ah (Dm bd a ha n (by omega)) ?_
  simp only[↓zq,zs,ac]
  refine aS (i (bd++[n]) l _ (.of _) (by simp;omega)) ?_
  simp only[↓zq,zs,ac,aP,bF,Ob.es]
  rw[j8,if_pos (er _)];rfl
theorem Pf(x:Nm)(u:E){e:E}(h:Wf e):an Tryz.prog 192 [.agg [.v (.string (mk e.at)),e.sp],.v (.string (mk x)),.agg [.v (.string (mk u.at)),u.sp]] [] (bA (.agg [.v (.string (mk (rA x u e).at)),(rA x u e).sp])):=by
 induction h with
 |
  @atom s hs =>
  refine BY _ _ _ _ _ ((aY _).mpr trivial) ((aY _).mpr trivial) ?_
  simp only[AB,er,↓zq,zs,ac,zt,bA,rA]
  refine⟨fun _=>⟨fun h=>?_,fun h=>?_⟩,fun h=>absurd h hs⟩
  ·rw[if_pos h]
  ·rw[if_neg h];rfl
 |
  @plus a b ha hb i1 i2 =>
  refine BY _ _ _ _ _ ((aY _).mpr trivial) ((aY _).mpr trivial) ?_
  have hP:=P3.of (.atom [43]) a b
  simp only[AB,bS,toNat_one,bi,↓zq,zs,ac,zt,hP.1,hP.2.1,hP.2.2.1,hP.2.2.2,aR]
  refine⟨fun h=>absurd rfl h,fun _=>?_⟩
  refine ah (p9 [43] a b) ?_
  simp only[↓zq,zs,ac,zt]
  refine⟨fun h=>by simp at h,fun _=>?_⟩
  refine ah (p9 [43] a b) ?_
  simp only[↓zq,zs,ac,zt]
  repeat refine⟨by omega,?_⟩
  refine ah i1 ?_
  simp only[↓zq,zs,ac,zt,aR]
  repeat refine⟨by omega,?_⟩
  refine ah i2 ?_
  simp only[↓zq,zs,ac,zt,aR]
  repeat refine⟨by omega,?_⟩
  refine ah (wP _ _ _) ?_
  simp only[↓zq,zs,ac,zt,aR,uC,bS]
  repeat refine⟨by omega,?_⟩
  exact⟨rfl,rfl⟩
 |
  @times a b ha hb i1 i2 =>
  refine BY _ _ _ _ _ ((aY _).mpr trivial) ((aY _).mpr trivial) ?_
  have hP:=P3.of (.atom [42]) a b
  simp only[AB,bS,toNat_one,bi,↓zq,zs,ac,zt,hP.1,hP.2.1,hP.2.2.1,hP.2.2.2,aR]
  refine⟨fun h=>absurd rfl h,fun _=>?_⟩
  refine ah (p9 [42] a b) ?_
  simp only[↓zq,zs,ac,zt]
  refine⟨fun h=>by simp at h,fun _=>?_⟩
  refine ah (p9 [42] a b) ?_
  simp only[↓zq,zs,ac,zt]
  repeat refine⟨by omega,?_⟩
  refine ah i1 ?_
  simp only[↓zq,zs,ac,zt,aR]
  repeat refine⟨by omega,?_⟩
  refine ah i2 ?_
  simp only[↓zq,zs,ac,zt,aR]
  repeat refine⟨by omega,?_⟩
  refine ah (wP _ _ _) ?_
  simp only[↓zq,zs,ac,zt,aR,sq,bS]
  repeat refine⟨by omega,?_⟩
  exact⟨rfl,rfl⟩
 |
  @rc n b hn hb i =>
  refine BY _ _ _ _ _ ((aY _).mpr trivial) ((aY _).mpr trivial) ?_
  have hP:=P3.of (.atom dY) (.atom n) b
  simp only[AB,bS,toNat_one,bi,↓zq,zs,ac,zt,hP.1,hP.2.1,hP.2.2.1,hP.2.2.2,aR]
  refine⟨fun h=>absurd rfl h,fun _=>?_⟩
  refine ah (p9 dY (.atom n) b) ?_
  simp only[↓zq,zs,ac,zt]
  refine⟨fun _=>?_,fun h=>absurd rfl h⟩
  repeat refine⟨by omega,?_⟩
  rw[Bm]
  refine⟨fun h=>?_,fun h=>?_⟩
  ·have hh:n=x:=h
   rw[if_pos hh];exact⟨rfl,rfl⟩
  ·have hh:¬n=x:=h
   rw[if_neg hh]
   repeat refine⟨by omega,?_⟩
   refine ah i ?_
   simp only[↓zq,zs,ac,zt,aR]
   repeat refine⟨by omega,?_⟩
   refine ah (wP dY (.atom n) (rA x u b)) ?_
   simp only[↓zq,zs,ac,zt,aR,bS]
   repeat refine⟨by omega,?_⟩
   exact⟨rfl,rfl⟩
theorem qC(x:Nm){e:E}(h:Wf e):mF x e<=e.dB:=by
 induction h with
 |atom hs=>simp only[mF,E.dB];split<;>omega
 |plus ha hb i1 i2=>rw[qU];simp only[E.dB,E.fJ];omega
 |times ha hb i1 i2=>rw[oP];simp only[E.dB,E.fJ];omega
 |rc hn hb i=>rw[wK];simp only[E.dB,E.fJ];split<;>omega
theorem PV(x:Nm){e:E}(h:Wf e):e.dB<1000000->an Tryz.prog 191 [.agg [.v (.string (mk e.at)),e.sp],.v (.string (mk x))] [] (bA (.v (.int .i64 (mF x e:Int)))):=by
 induction h with
 |
  @atom s hs =>
  intro hl
  refine CB _ _ _ ((aY _).mpr trivial) ?_
  simp only[AP,er,↓zq,zs,ac,zt,bA,mF]
  refine⟨fun _=>⟨fun h=>?_,fun h=>?_⟩,fun h=>absurd h hs⟩
  ·rw[if_pos h];rfl
  ·rw[if_neg h];rfl
 |
  @plus a b ha hb i1 i2 =>
  intro hl
  simp only[E.dB,E.fJ]at hl
  have u1:=qC x ha
  have u2:=qC x hb
  refine CB _ _ _ ((aY _).mpr trivial) ?_
  have hP:=P3.of (.atom [43]) a b
  simp only[AP,bS,toNat_one,bi,↓zq,zs,ac,zt,hP.1,hP.2.1,hP.2.2.1,hP.2.2.2,aR]
  refine⟨fun h=>absurd rfl h,fun _=>?_⟩
  refine ah (p9 [43] a b) ?_
  simp only[↓zq,zs,ac,zt]
  refine⟨fun h=>by simp at h,fun _=>?_⟩
  repeat refine⟨by omega,?_⟩
  refine ah (i1 (by omega)) ?_
  simp only[↓zq,zs,ac,zt]
  repeat refine⟨by omega,?_⟩
  refine ah (i2 (by omega)) ?_
  simp only[↓zq,zs,ac,zt]
  rw[qU,wrap64 _ (by omega) (by omega)]
  exact⟨by simp,rfl⟩
 |
  @times a b ha hb i1 i2 =>
  intro hl
  simp only[E.dB,E.fJ]at hl
  have u1:=qC x ha
  have u2:=qC x hb
  refine CB _ _ _ ((aY _).mpr trivial) ?_
  have hP:=P3.of (.atom [42]) a b
  simp only[AP,bS,toNat_one,bi,↓zq,zs,ac,zt,hP.1,hP.2.1,hP.2.2.1,hP.2.2.2,aR]
  refine⟨fun h=>absurd rfl h,fun _=>?_⟩
  refine ah (p9 [42] a b) ?_
  simp only[↓zq,zs,ac,zt]
  refine⟨fun h=>by simp at h,fun _=>?_⟩
  repeat refine⟨by omega,?_⟩
  refine ah (i1 (by omega)) ?_
  simp only[↓zq,zs,ac,zt]
  repeat refine⟨by omega,?_⟩
  refine ah (i2 (by omega)) ?_
  simp only[↓zq,zs,ac,zt]
  rw[oP,wrap64 _ (by omega) (by omega)]
  exact⟨by simp,rfl⟩
 |
  @rc n b hn hb i =>
  intro hl
  simp only[E.dB,E.fJ]at hl
  refine CB _ _ _ ((aY _).mpr trivial) ?_
  have hP:=P3.of (.atom dY) (.atom n) b
  simp only[AP,bS,toNat_one,bi,↓zq,zs,ac,zt,hP.1,hP.2.1,hP.2.2.1,hP.2.2.2,aR]
  refine⟨fun h=>absurd rfl h,fun _=>?_⟩
  refine ah (p9 dY (.atom n) b) ?_
  simp only[↓zq,zs,ac,zt]
  refine⟨fun _=>?_,fun h=>absurd rfl h⟩
  repeat refine⟨by omega,?_⟩
  rw[wK]
  refine⟨fun h=>?_,fun h=>?_⟩
  ·have hh:n=x:=h
   rw[if_pos hh];exact⟨rfl,rfl⟩
  ·have hh:¬n=x:=h
   rw[if_neg hh]
   repeat refine⟨by omega,?_⟩
   refine ah (i (by omega)) ?_
   simp only[↓zq,zs,ac,zt]
   exact⟨rfl,rfl⟩
theorem Ru{x:Nm}(hx:rJ x){e u:E}(h:Wf e)(hu:Wf u)(hl:e.dB<=1000)(hlu:u.dB<=1000):an Tryz.prog 171 [.agg [.v (.string (mk e.at)),e.sp],.v (.string (mk x)),.agg [.v (.string (mk u.at)),u.sp]] [] (bA (.v (.bool (decide ((sub x (cO u []) (cO e [])).az<=400))))):=by
 refine Q8 _ _ _ _ _ ((aY _).mpr trivial) ((aY _).mpr trivial) ?_
 unfold IF
 have a1:=ET e h.ok (by have:=h.sz;omega)
 have a2:=ET u hu.ok (by have:=hu.sz;omega)
 rw[dw]at a1 a2
 have hle:=qC x h
 have hpos:1<=u.dB:=by rw[hu.dB []];exact eg _
 refine ah a1 ?_
 simp only[↓zq,zs,ac,zt]
 refine ah (PV x h (by omega)) ?_
 simp only[↓zq,zs,ac,zt]
 refine ah a2 ?_
 simp only[↓zq,zs,ac,zt]
 have e1:=dU x (cO u []) (cO e [])
 have e2:=CS hx h []
 rw[if_neg (by simp)]at e2
 rw[e2,<-h.dB [],<-hu.dB []]at e1
 have hm:mF x e*(u.dB-1)<=1000*1000:=Nat.mul_le_mul (by omega) (by omega)
 have e3:(mF x e:Int)*((u.dB:Int)-1)=((mF x e*(u.dB-1):Nat):Int):=by
  rw[Int.natCast_mul];congr 1;omega
 have e4:mF x e*(u.dB-1)+mF x e=mF x e*u.dB:=by
  rw[Nat.mul_sub,dF]
  have:=Nat.le_mul_of_pos_right (mF x e) hpos
  omega
 rw[wrap64 ((u.dB:Int)-1) (by omega) (by omega),e3,wrap64 ((mF x e*(u.dB-1):Nat):Int) (by omega) (by omega),wrap64 _ (by omega) (by omega)]
 refine⟨?_,rfl⟩
 congr 2
 rw[cz,decide_eq_true_eq,decide_eq_true_eq]
 omega
end Go.Proofs.Trees
namespace Go.Proofs.Trees
open Go Go.VL Go.RowKit
abbrev zx:AV:=.v (.slice none 0 0)
abbrev zE:Ob:=.cells [.v (.string (mk [])),zx]
theorem Nj(s:Nm)(p a b:AV)(hp:LK.sl.has p)(F fr to:List Nm)(k:Int)(ha:cv a fr)(hb:cv b to)(hft:fr.length=to.length)(hl:fr.length<1000000):∀(i:Nat),i<=fr.length ->
 Hv [a,b,.v (.int .i64 ((i:Int)-1))] [.cells [.v (.string (mk s)),p],zE,.cells [.any,.v (.int .i64 k)],.vec 1 (bo F)]
  (nr (match bI s fr i with|some u=>(2,[],[.cells [.v (.string (mk (gf to u))),zx],.cells [.any,.v (.int .i64 k)],.vec 1 (bo F)])|none=>(1,[],[.cells [.v (.string (mk s)),p],zE,.cells [.any,.v (.int .i64 k)],.vec 1 (bo F)])))
 |
  0,hi=>by
  refine NN _ _ _ _ _ _ _ _ _ ?_
  simp only[Es,↓zq,zs,ac,ac,hp,bw]
  exact⟨ha.1,hb.1,fun h=>by omega,fun _=>rfl⟩
 |
  i+1,hi=>by
  have hlt:i<fr.length:=by omega
  have hlt':i<to.length:=by omega
  have e1:((i+1:Nat):Int)-1=(i:Int):=by omega
  rw[e1]
  refine NN _ _ _ _ _ _ _ _ _ ?_
  simp only[Es,↓zq,zs,ac,zt,ac,hp,bw,ha.len,hb.len,ha.idx hlt,hb.idx hlt',bx]
  refine⟨ha.1,hb.1,fun _=>⟨⟨ha.1,by omega,by omega⟩,by omega,fun h=>?_,fun h=>?_⟩,fun h=>by omega⟩
  ·refine⟨⟨hb.1,by omega,by omega⟩,by omega,?_⟩
   have hh:fr.getD i []=s:=h
   simp only[bI,hh,if_true,nr]
   have:gf to (fr.length-1-i)=to.getD i []:=by unfold gf;congr 1;omega
   rw[this]
  ·have hh:¬fr.getD i []=s:=h
   simp only[bI,hh,if_false]
   rw[wrap64 _ (by omega) (by omega)]
   exact Nj s p a b hp F fr to k ha hb hft hl i (by omega)
theorem KC(a b:AV)(ha:LK.sl.has a)(hb:LK.sl.has b)(F:List Nm)(hF:F.length<100000)(t:ByteArray)(p:AV)(hp:LK.sl.has p):∀(n j:Nat),pJ F n j<j+n->j+n<100000000 ->
 Gg [a,b,.v (.string (mk (tN j)))] [.cells [.any,.v (.int .i64 (j:Int))],.vec 1 (bo F),.cells [.v (.string t),p],zE] (fX 1 [a,b,.v (.string (mk (tN (pJ F n j))))] [.cells [.any,.v (.int .i64 (pJ F n j:Int))],.vec 1 (bo F),.cells [.v (.string t),p],zE])
 |0,j,h,_=>by simp only[pJ]at h;omega
 |
  n+1,j,h,hj=>by
  refine Oo _ _ _ _ _ _ _ _ _ ?_
  simp only[Mx,↓zq,zs,ac,zt,ac,hp,bw]
  refine⟨ha,hb,?_⟩
  refine ah (zb F _ (.of F) (tN j) (by omega)) ?_
  simp only[↓zq,zs,ac,zt]
  rw[pJ]at h |-
  refine⟨fun hm=>?_,fun hm=>?_⟩
  ·rw[if_pos hm]at h |-
   rw[a7 j (by omega)]
   refine ah (AN (j+2) (j+1) (by omega) (by omega)) ?_
   have hd:=lC (j+2) (j+1) (by omega)
   simp only[↓zq,zs,ac,zt,aZ,aM]
   refine⟨by simp[cy];omega,?_⟩
   exact KC a b ha hb F hF t p hp n (j+1) (by omega) (by omega)
  ·rw[if_neg hm]
   exact⟨rfl,rfl,rfl⟩
theorem ik(F:List Nm):∀(t:Ty) (to:List Nm) (k:Nat),k<=(gP F t to k).2/\(gP F t to k).2<=k+(F.length+1)*t.az
 | .zero,_,k=>⟨aq _,dm _ _⟩
 | .one,_,k=>⟨aq _,dm _ _⟩
 | .name _,_,k=>⟨aq _,dm _ _⟩
 | .bO _,_,k=>⟨aq _,dm _ _⟩
 |
  .plus a b,to,k=>by
  have h1:=ik F a to k
  have h2:=ik F b to (gP F a to k).2
  simp only[gP,Ty.az]
  have:(F.length+1)*(1+a.az+b.az)=(F.length+1)+(F.length+1)*a.az+(F.length+1)*b.az:=by simp only[cR,dF]
  omega
 |
  .times a b,to,k=>by
  have h1:=ik F a to k
  have h2:=ik F b to (gP F a to k).2
  simp only[gP,Ty.az]
  have:(F.length+1)*(1+a.az+b.az)=(F.length+1)+(F.length+1)*a.az+(F.length+1)*b.az:=by simp only[cR,dF]
  omega
 |
  .rc a,to,k=>by
  obtain⟨g1,g2,_,_⟩:=gu F k
  have h1:=ik F a (to++[tN (nx F k)]) (nx F k+1)
  simp only[gP,Ty.az]
  have:(F.length+1)*(2+a.az)=(F.length+1)*2+(F.length+1)*a.az:=by simp only[cR]
  omega
theorem mw(l:List Nm):(bo l).length=l.length:=by simp[bo]
theorem RD(F:List Nm)(hF:F.length<10000){e:E}(h:Wf e):∀(fr to:List Nm) (a b:AV) (k:Nat),cv a fr->cv b to->fr.length=to.length->(∀w,w∈fr->rJ w)->fr.length+e.sz<10000->k+(F.length+1)*(cO e fr).az<99000000 ->
 an Tryz.prog 143 [.agg [.v (.string (mk e.at)),e.sp],a,b,.ref 0 0] [.cells [.vec 1,.v (.int .i64 (k:Int))],.vec 1 (bo F)] (cW (.agg [.v (.string (mk (gP F (cO e fr) to k).1.at)),(gP F (cO e fr) to k).1.sp]) [.cells [.vec 1,.v (.int .i64 ((gP F (cO e fr) to k).2:Int))],.vec 1 (bo F)]):=by
 induction h with
 |
  @atom s hs =>
  intro fr to a b k ha hb hft hfr hl hk
  simp only[E.sz]at hl
  refine BS _ _ _ _ _ _ ((aY _).mpr trivial) ha.1 hb.1 ?_
  have hz:∀c,(c=[48]\/c=[49])->bI c fr fr.length=none:=fun c hc=>(fw c fr).2 fun hm=>by
   obtain⟨h1,h2,h3⟩:=hfr c hm
   rcases hc with rfl|rfl
   ·exact h2 rfl
   ·exact h3 rfl
  have hq:gP F (cO (.atom s) fr) to k=(match bI s fr fr.length with|some u=>.atom (gf to u)|none=>.atom s,k):=by
   simp only[cO]
   by_cases h0:s=[48]
   ·rw[if_pos h0,hz s (.inl h0),h0];rfl
   ·rw[if_neg h0]
    by_cases h1:s=[49]
    ·rw[if_pos h1,hz s (.inr h1),h1];rfl
    ·rw[if_neg h1]
     cases bI s fr fr.length<;>rfl
  simp only[Ah,er,↓zq,zs,ac,zt]
  refine⟨fun _=>⟨ha.1,?_⟩,fun h=>absurd h hs⟩
  rw[ha.len,wrap64 _ (by omega) (by omega)]
  refine eX (Nj s _ a b ((aY _).mpr trivial) F fr to (k:Int) ha hb hft (by omega) fr.length (aq _)) (fun ys o e=>?_) (fun ys o e=>?_)
  ·rw[hq]
   cases q:bI s fr fr.length<;>rw[q]at e<;>cases e
   simp only[↓zq,zs,ac,zt,ac,bm,bw,aY]
   exact⟨rfl,rfl⟩
  ·rw[hq]
   cases q:bI s fr fr.length<;>rw[q]at e<;>cases e
   simp only[↓zq,zs,ac,zt,ac,bm,bw]
   exact⟨rfl,rfl⟩
 |
  @plus x y hx hy i1 i2 =>
  intro fr to a b k ha hb hft hfr hl hk
  simp only[E.sz,E.jP]at hl
  rw[dL]at hk |-
  simp only[Ty.az]at hk
  have hm:(F.length+1)*(1+(cO x fr).az+(cO y fr).az)=(F.length+1)+(F.length+1)*(cO x fr).az+(F.length+1)*(cO y fr).az:=by simp only[cR,dF]
  have hc:=ik F (cO x fr) to k
  refine BS _ _ _ _ _ _ ((aY _).mpr trivial) ha.1 hb.1 ?_
  have hP:=P3.of (.atom [43]) x y
  simp only[Ah,bS,toNat_one,bi,↓zq,zs,ac,zt,hP.1,hP.2.1,hP.2.2.1,hP.2.2.2,aR]
  refine⟨fun h=>absurd rfl h,fun _=>?_⟩
  refine ah (p9 [43] x y) ?_
  simp only[↓zq,zs,ac,zt]
  refine⟨fun h=>by simp at h,fun _=>?_⟩
  repeat refine⟨by omega,?_⟩
  refine aS (i1 fr to a b k ha hb hft hfr (by omega) (by omega)) ?_
  simp only[↓zq,zs,ac,zt,bm,aR,aP,bF,Ob.es]
  repeat refine⟨by omega,?_⟩
  refine ah (p9 [43] x y) ?_
  simp only[↓zq,zs,ac,zt]
  repeat refine⟨by omega,?_⟩
  refine aS (i2 fr to a b _ ha hb hft hfr (by omega) (by omega)) ?_
  simp only[↓zq,zs,ac,zt,bm,aR,aP,bF,Ob.es]
  repeat refine⟨by omega,?_⟩
  refine ah (wP _ _ _) ?_
  simp only[↓zq,zs,ac,zt,aR,bS]
  repeat refine⟨by omega,?_⟩
  exact⟨rfl,rfl⟩
 |
  @times x y hx hy i1 i2 =>
  intro fr to a b k ha hb hft hfr hl hk
  simp only[E.sz,E.jP]at hl
  rw[dk]at hk |-
  simp only[Ty.az]at hk
  have hm:(F.length+1)*(1+(cO x fr).az+(cO y fr).az)=(F.length+1)+(F.length+1)*(cO x fr).az+(F.length+1)*(cO y fr).az:=by simp only[cR,dF]
  have hc:=ik F (cO x fr) to k
  refine BS _ _ _ _ _ _ ((aY _).mpr trivial) ha.1 hb.1 ?_
  have hP:=P3.of (.atom [42]) x y
  simp only[Ah,bS,toNat_one,bi,↓zq,zs,ac,zt,hP.1,hP.2.1,hP.2.2.1,hP.2.2.2,aR]
  refine⟨fun h=>absurd rfl h,fun _=>?_⟩
  refine ah (p9 [42] x y) ?_
  simp only[↓zq,zs,ac,zt]
  refine⟨fun h=>by simp at h,fun _=>?_⟩
  repeat refine⟨by omega,?_⟩
  refine aS (i1 fr to a b k ha hb hft hfr (by omega) (by omega)) ?_
  simp only[↓zq,zs,ac,zt,bm,aR,aP,bF,Ob.es]
  repeat refine⟨by omega,?_⟩
  refine ah (p9 [42] x y) ?_
  simp only[↓zq,zs,ac,zt]
  repeat refine⟨by omega,?_⟩
  refine aS (i2 fr to a b _ ha hb hft hfr (by omega) (by omega)) ?_
  simp only[↓zq,zs,ac,zt,bm,aR,aP,bF,Ob.es]
  repeat refine⟨by omega,?_⟩
  refine ah (wP _ _ _) ?_
  simp only[↓zq,zs,ac,zt,aR,bS]
  repeat refine⟨by omega,?_⟩
  exact⟨rfl,rfl⟩
 |
  @rc n y hn hy i =>
  intro fr to a b k ha hb hft hfr hl hk
  simp only[E.sz,E.jP]at hl
  rw[eV]at hk |-
  simp only[Ty.az,er]at hk
  have hm:(F.length+1)*(2+(cO y (fr++[n])).az)=(F.length+1)*2+(F.length+1)*(cO y (fr++[n])).az:=by simp only[cR]
  have hc:=ik F (cO y (fr++[n])) (to++[tN (nx F k)]) (nx F k+1)
  obtain⟨g1,g2,_,_⟩:=gu F k
  refine BS _ _ _ _ _ _ ((aY _).mpr trivial) ha.1 hb.1 ?_
  have hP:=P3.of (.atom dY) (.atom n) y
  simp only[Ah,bS,toNat_one,bi,↓zq,zs,ac,zt,hP.1,hP.2.1,hP.2.2.1,hP.2.2.2,aR]
  refine⟨fun h=>absurd rfl h,fun _=>?_⟩
  refine ah (p9 dY (.atom n) y) ?_
  simp only[↓zq,zs,ac,zt]
  refine⟨fun _=>?_,fun h=>absurd rfl h⟩
  refine ah (AN (k+1) k (by omega) (by omega)) ?_
  have hd:=lC (k+1) k (by omega)
  simp only[↓zq,zs,ac,zt,aZ,aM]
  refine⟨by simp[cy];omega,?_⟩
  refine cf (KC a b ha.1 hb.1 F (by omega) (mk []) _ ((aY _).mpr trivial) (F.length+1) k (by show nx F k<_;omega) (by omega)) ?_
  simp only[↓zq,zs,ac,zt,ac,bm,bw,aY,ha.1,hb.1,hP.1,hP.2.1,hP.2.2.1,hP.2.2.2,toNat_one,bi,aR]
  repeat refine⟨by omega,?_⟩
  have hnx:pJ F (F.length+1) k=nx F k:=rfl
  rw[hnx]
  refine ah (Dm fr a ha n (by omega)) ?_
  simp only[↓zq,zs,ac,zt]
  refine ah (Dm to b hb (tN (nx F k)) (by omega)) ?_
  simp only[↓zq,zs,ac,zt]
  rw[a7 (nx F k) (by omega)]
  have hmk:=wP dY (.atom (tN (nx F k))) (gP F (cO y (fr++[n])) (to++[tN (nx F k)]) (nx F k+1)).1
  simp only[er]at hmk
  refine aS (i (fr++[n]) (to++[tN (nx F k)]) _ _ (nx F k+1) (.of _) (.of _) (by simp[hft]) (fun w hw=>by
   rcases aI.1 hw with hw|hw
   ·exact hfr w hw
   ·simp only[aL]at hw;rw[hw];exact hn) (by simp;omega) (by omega)) ?_
  simp only[↓zq,zs,ac,zt,bm,aR,aP,bF,Ob.es]
  repeat refine⟨by omega,?_⟩
  refine ah hmk ?_
  simp only[↓zq,zs,ac,zt,aR,bS]
  repeat refine⟨by omega,?_⟩
  exact⟨rfl,rfl⟩
theorem vW(l r:List Nm):bo (l++r)=bo l++bo r:=by simp[bo]
def qS(os:List E):List Nm:=os.flatMap fun o=>j8 o [] []
theorem uz{os:List E}{i:Nat}(h:i<os.length):(E.bj os).getD i []=[.v (.string (mk (os[i]).at)),(os[i]).sp]:=by
 have:∀(os:List E) (i:Nat) (h:i<os.length),(E.bj os).getD i []=(os[i]).im:=by
  intro os
  induction os with
  |nil=>intro i h;simp at h
  |
   cons o os ih =>
   intro i h
   cases i with
   |zero=>simp[E.bj]
   |succ i=>simpa[E.bj]using ih i (by simpa using h)
 rw[this os i h,fC]
theorem yQ(os:List E){i:Nat}(h:i<os.length):qS (os.drop i)=j8 (os[i]) [] []++qS (os.drop (i+1)):=by
 unfold qS;rw[aN h,List.flatMap_cons]
theorem Jn(a:AV)(os:List E)(ha:LK.sl.has a/\a.aQ=E.bj os)(ho:∀o,o∈os->Wf o/\o.sz<5000)(hl:os.length<100)(t:ByteArray)(p:AV)(hp:LK.sl.has p):∀(k i:Nat) (F:List Nm),i+k=os.length->F.length<=5000+5000*i ->
 GU [a,.v (.int .i64 (i:Int))] [.cells [.v (.string t),p],zE,.vec 1 (bo F)] (fX 1 [] [.cells [.v (.string t),p],zE,.vec 1 (bo (F++qS (os.drop i)))])
 |
  0,i,F,hi,hF=>by
  refine Mu _ _ _ _ _ _ _ ?_
  have:i=os.length:=by omega
  subst this
  simp only[DY,↓zq,zs,ac,zt,ac,hp,bw,ha.1,ha.2,dW,List.drop_length]
  exact⟨fun h=>by omega,fun _=>by simp[fX,qS]⟩
 |
  k+1,i,F,hi,hF=>by
  have hlt:i<os.length:=by omega
  obtain⟨hw,hsz⟩:=ho _ (bD hlt)
  have hfl:=ga (os[i]) [] []
  refine Mu _ _ _ _ _ _ _ ?_
  simp only[DY,↓zq,zs,ac,zt,ac,hp,bw,ha.1,ha.2,dW,uz hlt,aR,bx]
  refine⟨fun _=>?_,fun h=>by omega⟩
  repeat refine⟨by omega,?_⟩
  have hfre:=Cy hw [] [] (.sl []) (.of []) (by simp;omega)
  refine aS hfre ?_
  simp only[↓zq,zs,ac,zt,aP,bF,Ob.es,mw,<-vW]
  rw[a7 i (by omega),yQ os hlt,<-aU]
  simp only[aJ,aT]at hfl
  refine⟨⟨kf _,by omega⟩,?_⟩
  exact Jn a os ha ho hl t p hp k (i+1) _ (by omega) (by simp;omega)
def zz(e:E)(os:List E):List Nm:=j8 e [] []++qS os
def Ai(e:E)(os:List E):E:=(gP (zz e os) (cO e []) [] 0).1
theorem Cd{e:E}{os:List E}(h:e.sz<=2000)(ho:∀o,o∈os->Wf o/\o.sz<=2000)(hl:os.length<=2):(zz e os).length<=6000:=by
 have h1:=ga e [] []
 have h2:∀(l:List E),(∀o,o∈l->o.sz<=2000)->(qS l).length<=2000*l.length:=by
  intro l
  induction l with
  |nil=>intro _;simp[qS]
  |
   cons o l ih =>
   intro hl
   have:=ih fun q hq=>hl q (ak _ hq)
   have:=hl o aj
   have:=ga o [] []
   simp only[qS,List.flatMap_cons,ax,aB,aJ]at *
   omega
 have:=h2 os fun o ho'=>(ho o ho').2
 simp only[zz,ax,aJ]at *
 omega
end Go.Proofs.Trees
