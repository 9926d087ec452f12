/-
  Part of a proof: Go functions read by values, trees of functions, their contracts.
-/
import Derived.Test.YtfdpbglppfohhaaGreatDoorP4
set_option linter.unusedVariables false
set_option linter.unusedSimpArgs false
open And renaming intro→aE
open Bool renaming and_eq_true→ap,eq_iff_iff→cq,or_eq_false_iff→cv,or_eq_true→bw,true_and→bP
open Int renaming cast_ofNat_Int→dh,ofNat_eq_natCast→cR,toNat→bF,toNat_natCast→bJ
open List renaming all_cons→cW,any_eq_true→cj,append_assoc→aW,append_nil→cE,cons_append→a7,drop_eq_getElem_cons→aK,drop_eq_nil_of_le→bL,drop_zero→aZ,eq_nil_of_length_eq_zero→bU,getD_cons_zero→bo,getD_eq_getElem?_getD→aa,getElem?_eq_getElem→bf,getElem_mem→bx,headD_cons→aS,length_append→ax,length_cons→aB,length_drop→cn,length_nil→aJ,map_cons→bE,mem_append→aI,mem_append_left→ay,mem_cons→aF,mem_cons_of_mem→ak,mem_cons_self→aj,mem_map→cf,mem_singleton→aP,nil_append→aM,tail_cons→bG,takeWhile_append_dropWhile→cb
open Nat renaming beq→aG,le_add_right→dk,le_refl→aq,mul_add→cS,mul_one→dE,zero_add→aU
open Option renaming bind_eq_some_iff→bc,isSome_iff_exists→ck,isSome_none→bq,map_some→cy
open UInt8 renaming ofNat→ba,toNat_inj→dP
namespace Go.Proofs.Trees
open Go Go.VL Go.RowKit
theorem vi(b:UInt8):Hb.contains b=hJ b:=by
 have:∀n:Fin 256,Hb.contains (ba n.val)=hJ (ba n.val):=by decide +kernel
 have:=this ⟨b.toNat,b.toNat_lt⟩
 simpa using this
theorem MA(s ls:List UInt8)(lo hi:Nat)(hls:∀c:UInt8,c∈ls↔lo<=c.toNat/\c.toNat<=hi):an Tryz.prog 182 [.v (.string (mk s)),.v (.string (mk ls))] [] (bA (.v (.bool (named lo hi s)))):=by
 refine Od _ _ ?_
 simp only[LM,↓zq,zs,ac,zt,bA]
 cases s with
 |nil=>exact⟨fun h=>by simp at h,fun _=>rfl⟩
 |
  cons c s =>
  have e1:(List.take (bF 1) (c::s))=[c]:=rfl
  have e2:(List.take (s.length+1) (c::s)).drop (bF 1)=s:=by simp
  simp only[aB,e1,e2]
  refine⟨fun _=>⟨fun h3=>⟨by omega,?_⟩,fun h3=>?_⟩,fun h=>by omega⟩
  ·have hl:s.length<=2:=by omega
   refine ah (Re ls c) ?_
   simp only[↓zq,zs,ac]
   have hi1:=(na ls c).1
   refine⟨fun h=>⟨by omega,?_⟩,fun h=>?_⟩
   ·refine ah (Lv s Hb (by omega) (by decide) (by decide)) ?_
    simp only[↓zq,zs,ac,zt]
    have hc:=(hls c).1 (hi1.1 h)
    congr 2
    rw[cq,beq_iff_eq,sL]
    simp only[named,hl,hc,decide_true,bP,and_self]
    have:(fun x=>Hb.contains x)=hJ:=funext vi
    rw[this]
   ·have hc:¬(lo<=c.toNat/\c.toNat<=hi):=fun h'=>h (hi1.2 ((hls c).2 h'))
    simp only[named,hc,zf]
  ·have hl:¬s.length<=2:=by omega
   simp only[named,hl,zf]
theorem Lq(s:List UInt8):an Tryz.prog 173 [.v (.string (mk s))] [] (bA (.v (.bool (gV s)))):=by
 refine Pf _ ?_
 unfold Iu
 have h:∀n:Fin 256,(ba n.val∈[(120:UInt8),121,122])↔120<=(ba n.val).toNat/\(ba n.val).toNat<=122:=by decide +kernel
 refine ah (MA s [120,121,122] 120 122 fun c=>by simpa using h ⟨c.toNat,c.toNat_lt⟩) ?_
 simp only[↓zq,zs,ac,bA,gV]
theorem CY(s:List UInt8):an Tryz.prog 159 [.v (.string (mk s))] [] (bA (.v (.bool (db s)))):=by
 refine Qz _ ?_
 unfold IJ
 have h:∀n:Fin 256,(ba n.val∈[(116:UInt8)])↔116<=(ba n.val).toNat/\(ba n.val).toNat<=116:=by decide +kernel
 refine ah (MA s [116] 116 116 fun c=>by simpa using h ⟨c.toNat,c.toNat_lt⟩) ?_
 simp only[↓zq,zs,ac,bA,db]
end Go.Proofs.Trees
namespace Go.Proofs.Trees
open Go Go.VL
inductive Ty where
 |zero|one
 |name (s:List UInt8)
 |bN (up:Nat)
 |plus (a b:Ty)
 |times (a b:Ty)
 |rc (a:Ty)
def Ty.av:Ty->AV
 | .zero=>.ptr [.v (.int .u8 48),.v (.string (mk [])),.v (.int .i64 0),.v (.pointer none),.v (.pointer none)]
 | .one=>.ptr [.v (.int .u8 49),.v (.string (mk [])),.v (.int .i64 0),.v (.pointer none),.v (.pointer none)]
 | .name s=>.ptr [.v (.int .u8 110),.v (.string (mk s)),.v (.int .i64 0),.v (.pointer none),.v (.pointer none)]
 | .bN up=>.ptr [.v (.int .u8 98),.v (.string (mk [])),.v (.int .i64 (up:Int)),.v (.pointer none),.v (.pointer none)]
 | .plus a b=>.ptr [.v (.int .u8 43),.v (.string (mk [])),.v (.int .i64 0),a.av,b.av]
 | .times a b=>.ptr [.v (.int .u8 42),.v (.string (mk [])),.v (.int .i64 0),a.av,b.av]
 | .rc a=>.ptr [.v (.int .u8 114),.v (.string (mk [])),.v (.int .i64 0),a.av,.v (.pointer none)]
theorem aC(t:Ty):LK.has .ptr t.av=True:=by cases t<;>simp[Ty.av,bV]
theorem fG(t:Ty):t.av.isNil=false:=by cases t<;>rfl
def hG:Option Ty->AV
 |some t=>t.av
 |none=>.v (.pointer none)
theorem il(t:Option Ty):LK.has .ptr (hG t)=True:=by cases t<;>simp[hG,aC,hZ]
def E.at:E->List UInt8
 | .atom s=>s
 | .list _=>[]
def bI(s:List UInt8)(ar:List (List UInt8)):Nat->Option Nat
 |0=>none
 |i+1=>if ar.getD i []=s then some (ar.length-1-i)else bI s ar i
def cQ:E->List (List UInt8)->Option Ty
 | .atom s,ar=>if s=[48]then some .zero else if s=[49]then some .one else if gV s=true then some (.name s)else if db s=true then(match bI s ar ar.length with|some u=>some (.bN u)|none=>some (.name s))else none
 |
  .list [x,a,b],ar =>
  if x.at=[43]then(match cQ a ar,cQ b ar with|some t,some u=>some (.plus t u)|_,_=>none)
  else if x.at=[42]then(match cQ a ar,cQ b ar with|some t,some u=>some (.times t u)|_,_=>none)
  else if x.at=[114,101,99]then(if db a.at=true then(match cQ b (ar++[a.at])with|some t=>some (.rc t)|none=>none)else none)
  else none
 | .list _,_=>none
def bj(l:List (List UInt8)):List (List AV):=l.map fun s=>[.v (.string (mk s))]
def cc(a:AV)(l:List (List UInt8)):Prop:=LK.sl.has a/\a.aN=bj l
theorem cc.len{a:AV}{l:List (List UInt8)}(h:cc a l):a.aN.length=l.length:=by rw[h.2];simp[bj]
theorem cc.idx{a:AV}{l:List (List UInt8)}(h:cc a l){i:Nat}(hi:i<l.length):a.aN.getD i []=[.v (.string (mk (l.getD i [])))]:=by
 rw[h.2];simp[bj,aa,hi]
theorem cc.of(l:List (List UInt8)):cc (.sl (bj l)) l:=⟨(ca _).mpr trivial,rfl⟩
theorem cc.nil:cc (.v (.slice none 0 0)) []:=⟨(bp).mpr trivial,rfl⟩
theorem yd(e:E)(w:List UInt8):an Tryz.prog 162 [e.cx,.v (.string (mk w)),.v (.int .i64 3)] [] (bA (.v (.bool (match e with| .list [x,_,_]=>x.at==w|_=>false)))):=by
 refine MS _ _ _ ((cT e).mpr trivial) ?_
 cases e with
 |atom s=>simp only[Ar,E.cx,↓zq,zs,ac,zt,bA];exact⟨by omega,fun h=>by omega,fun _=>trivial⟩
 |
  list l =>
  simp only[Ar,E.cx,↓zq,zs,ac,zt,bA,qK]
  match l with
  |[]=>exact⟨by simp,fun h=>by simp at h,fun _=>rfl⟩
  |[_]=>exact⟨by simp,fun h=>by simp at h,fun _=>rfl⟩
  |[_,_]=>exact⟨by simp,fun h=>by simp at h,fun _=>rfl⟩
  |
   [x,y,z] =>
   refine⟨by simp,fun _=>?_,fun h=>by simp at h⟩
   cases x<;>simp[E.lX,E.cx,bV,oS,jz,eg,tt,toList_mk,E.at]
  |_::_::_::_::l=>exact⟨by simp,fun h=>by simp at h;omega,fun _=>rfl⟩
theorem KF(e:E)(a:AV)(ar:List (List UInt8))(ha:cc a ar)(hl:ar.length<1000000):∀(i:Nat),i<=ar.length->GH [e.cx,a,.v (.int .i64 ((i:Int)-1))] []
 (nv (match bI e.at ar i with|some u=>(2,[],[.cells [.v (.int .u8 98),.v (.string (mk [])),.v (.int .i64 (u:Int)),.v (.pointer none),.v (.pointer none)]])|none=>(1,[e.cx],[])))
 |
  0,hi=>by
  refine Ng _ _ _ ?_
  simp only[EM,↓zq,zs,ac,cT]
  exact⟨ha.1,fun h=>by omega,fun _=>rfl⟩
 |
  i+1,hi=>by
  have hlt:i<ar.length:=by omega
  have e1:((i+1:Nat):Int)-1=(i:Int):=by omega
  rw[e1]
  refine Ng _ _ _ ?_
  have hd:e.cx.deref.headD .any=.v (.string (mk e.at)):=by cases e<;>rfl
  have hdl:1<=e.cx.deref.length:=by cases e<;>simp[E.cx,jz]
  simp only[EM,↓zq,zs,ac,zt,cT,eh,ha.len,ha.idx hlt,hd,qH]
  refine⟨ha.1,fun _=>⟨⟨ha.1,by omega,by omega⟩,by omega,hdl,fun h=>⟨ha.1,?_⟩,fun h=>?_⟩,fun h=>by omega⟩
  ·simp only[bI,h,if_true,nv]
   rw[wrap64 ((ar.length:Int)-1) (by omega) (by omega),wrap64 _ (by omega) (by omega)]
   have:(ar.length:Int)-1-(i:Int)=((ar.length-1-i:Nat):Int):=by omega
   rw[this]
  ·simp only[bI,h,if_false]
   rw[wrap64 _ (by omega) (by omega)]
   exact KF e a ar ha hl i (by omega)
end Go.Proofs.Trees
namespace Go.Proofs.Trees
open Go Go.VL
theorem np(e:E):e.cx.deref.headD .any=.v (.string (mk e.at)):=by cases e<;>rfl
theorem lr(e:E):1<=e.cx.deref.length:=by cases e<;>simp[E.cx,jz]
theorem toNat_one:bF 1=1:=rfl
theorem bi:bF 2=2:=rfl
theorem Ek{ar:List (List UInt8)}(s:List UInt8):bj ar++[[.v (.string (mk s))]]=bj (ar++[s]):=by simp[bj]
theorem j0(ar:List (List UInt8)):cA 1 (bj ar):=fun c hc=>by
 obtain⟨s,_,rfl⟩:=cf.1 hc;rfl
theorem kR{x a b:E}(ar:List (List UInt8))(hx:x.at=[43]):cQ (.list [x,a,b]) ar=match cQ a ar,cQ b ar with|some t,some u=>some (.plus t u)|_,_=>none:=by rw[cQ,if_pos hx]<;>cases cQ a ar<;>cases cQ b ar<;>rfl
theorem jO{x a b:E}(ar:List (List UInt8))(hx:x.at=[42]):cQ (.list [x,a,b]) ar=match cQ a ar,cQ b ar with|some t,some u=>some (.times t u)|_,_=>none:=by rw[cQ,if_neg (by rw[hx];decide),if_pos hx]<;>cases cQ a ar<;>cases cQ b ar<;>rfl
theorem mv{x a b:E}(ar:List (List UInt8))(hx:x.at=[114,101,99]):cQ (.list [x,a,b]) ar=if db a.at=true then(match cQ b (ar++[a.at])with|some t=>some (.rc t)|none=>none)else none:=by rw[cQ,if_neg (by rw[hx];decide),if_neg (by rw[hx];decide),if_pos hx]<;>cases cQ b (ar++[a.at])<;>rfl
theorem iR{x a b:E}(ar:List (List UInt8))(h1:x.at≠[43])(h2:x.at≠[42])(h3:x.at≠[114,101,99]):cQ (.list [x,a,b]) ar=none:=by rw[cQ,if_neg h1,if_neg h2,if_neg h3]
theorem Cs:∀(e:E) (ar:List (List UInt8)) (a:AV),e.ok->cc a ar->ar.length+e.sz<100000->an Tryz.prog 144 [e.cx,a] [] (bA (hG (cQ e ar)))
 |
  .atom s,ar,a,hok,ha,hl=>by
  simp only[E.sz]at hl
  refine IY _ _ ((cT _).mpr trivial) ha.1 ?_
  have hd:=np (.atom s)
  have hlen:=lr (.atom s)
  simp only[E.at]at hd
  simp only[EP,↓zq,zs,ac,zt,bA,cT,eh,hd,cQ]
  refine⟨hlen,fun h=>⟨hlen,?_,?_⟩,fun h=>⟨hlen,fun h1=>⟨hlen,?_,?_⟩,fun h1=>⟨hlen,?_⟩⟩⟩
  ·rw[h];decide
  ·rw[if_pos h,h];rfl
  ·rw[h1];decide
  ·rw[if_neg h,if_pos h1,h1];rfl
  ·rw[if_neg h,if_neg h1]
   refine ah (Lq s) ?_
   simp only[↓zq,zs,ac]
   refine⟨fun hp=>⟨hlen,?_⟩,fun hp=>⟨hlen,?_⟩⟩
   ·rw[if_pos hp];rfl
   ·rw[if_neg (by rw[hp];simp)]
    refine ah (CY s) ?_
    simp only[↓zq,zs,ac,ha.len]
    refine⟨fun hq=>⟨ha.1,?_⟩,fun hq=>?_⟩
    ·rw[if_pos hq,wrap64 _ (by omega) (by omega)]
     refine eX (KF (.atom s) a ar ha (by omega) ar.length (by omega)) (fun ys o e=>?_) (fun ys o e=>?_)
     ·simp only[E.at]at e
      cases hq2:bI s ar ar.length<;>rw[hq2]at e<;>cases e
      simp only[↓zq,zs,ac,zt,cT,eh,hd]
      exact⟨hlen,rfl⟩
     ·simp only[E.at]at e
      cases hq2:bI s ar ar.length<;>rw[hq2]at e<;>cases e
      simp only[↓zq,zs,ac,zt,LK.has]
      simp[hG,Ty.av,ac,LK.has]
    ·rw[if_neg (by rw[hq];simp)]
     refine ah (yd (.atom s) [43]) ?_
     simp only[↓zq,zs,ac]
     refine⟨fun h=>(by simp at h),fun _=>?_⟩
     refine ah (yd (.atom s) [42]) ?_
     simp only[↓zq,zs,ac]
     refine⟨fun h=>(by simp at h),fun _=>?_⟩
     refine ah (yd (.atom s) [114,101,99]) ?_
     simp only[↓zq,zs,ac]
     refine⟨fun h=>(by simp at h),fun _=>?_⟩
     trivial
 |
  .list l,ar,a,hok,ha,hl=>by
  simp only[E.sz]at hl
  refine IY _ _ ((cT _).mpr trivial) ha.1 ?_
  have hd:=np (.list l)
  have hlen:=lr (.list l)
  simp only[E.at]at hd
  have hp:gV []=false:=rfl
  have hq:db []=false:=rfl
  simp only[EP,↓zq,zs,ac,zt,bA,cT,eh,hd]
  refine⟨hlen,fun h=>(by simp at h),fun h=>⟨hlen,fun h1=>(by simp at h1),fun h1=>⟨hlen,?_⟩⟩⟩
  refine ah (Lq []) ?_
  simp only[↓zq,zs,ac,hp]
  refine⟨fun h=>(by simp at h),fun _=>⟨hlen,?_⟩⟩
  refine ah (CY []) ?_
  simp only[↓zq,zs,ac,hq]
  refine⟨fun h=>(by simp at h),fun _=>?_⟩
  refine ah (yd (.list l) [43]) ?_
  match l,hok,hl with
  |
   [x,y,z],hok,hl =>
   simp only[E.jH]at hl
   obtain⟨ok1,ok2,ok3,_⟩:=hok
   have iy:=Cs y ar a ok2 ha (by omega)
   have iz:=Cs z ar a ok3 ha (by omega)
   have hds:((E.list [x,y,z]).cx.deref.drop 1).headD .any=.sl [[x.cx],[y.cx],[z.cx]]:=rfl
   have hdl:1<=((E.list [x,y,z]).cx.deref.drop 1).length:=by simp[E.cx,jz]
   have hxd:=np x
   have hxl:=lr x
   have hyd:=np y
   have hyl:=lr y
   have bin:∀(c:UInt8) (mkT:Ty->Ty->Ty),(∀t u:Ty,(mkT t u).av=.ptr [.v (.int .u8 (c.toNat:Int)),.v (.string (mk [])),.v (.int .i64 0),t.av,u.av])->x.at=[c]->bt (mk x.at) 0=(c.toNat:Int):=fun c _ _ hx=>by
    have:=lV x.at 0 (by rw[hx];simp)
    simp only[cR,dh]at this
    rw[this,hx];rfl
   simp only[↓zq,zs,ac,zt,hds,hdl,cT,eh,toNat_one,bi,hxd,hyd,qH]
   refine⟨fun hx=>?_,fun hx=>?_⟩
   ·refine⟨by omega,by omega,?_⟩
    refine ah iy ?_
    simp only[↓zq,zs,ac,il]
    refine⟨by omega,by omega,?_⟩
    refine ah iz ?_
    have hb:=bin 43 Ty.plus (fun _ _=>rfl) hx
    rw[kR ar hx]
    simp only[↓zq,zs,ac,zt,il]
    cases h1:cQ y ar with
    |none=>simp[hG,jC]
    |
     some t =>
     cases h2:cQ z ar with
     |none=>simp[hG,jC,fG]
     |
      some u =>
      simp only[hG,fG,hb]
      refine⟨fun h=>(by cases h),fun _=>⟨fun h=>(by cases h),fun _=>⟨by omega,by omega,hxl,⟨by omega,by rw[hx];simp⟩,rfl⟩⟩⟩
   ·refine ah (yd (.list [x,y,z]) [42]) ?_
    simp only[↓zq,zs,ac,hds,hdl,cT,eh,toNat_one,bi,hxd,hyd,qH]
    refine⟨fun hx2=>?_,fun hx2=>?_⟩
    ·refine⟨by omega,by omega,?_⟩
     refine ah iy ?_
     simp only[↓zq,zs,ac,il]
     refine⟨by omega,by omega,?_⟩
     refine ah iz ?_
     have hb:=bin 42 Ty.times (fun _ _=>rfl) hx2
     rw[jO ar hx2]
     simp only[↓zq,zs,ac,zt,il]
     cases h1:cQ y ar with
     |none=>simp[hG,jC]
     |
      some t =>
      cases h2:cQ z ar with
      |none=>simp[hG,jC,fG]
      |
       some u =>
       simp only[hG,fG,hb]
       refine⟨fun h=>(by cases h),fun _=>⟨fun h=>(by cases h),fun _=>⟨by omega,by omega,hxl,⟨by omega,by rw[hx2];simp⟩,rfl⟩⟩⟩
    ·refine ah (yd (.list [x,y,z]) [114,101,99]) ?_
     simp only[↓zq,zs,ac,zt,hds,hdl,cT,eh,toNat_one,bi,hxd,hyd,qH]
     refine⟨fun hx3=>⟨by omega,by omega,hyl,?_⟩,fun hx3=>?_⟩
     ·refine ah (CY y.at) ?_
      rw[mv ar hx3]
      simp only[↓zq,zs,ac]
      have hal:cA 1 a.aN:=by rw[ha.2];exact j0 ar
      have hal1:cA 1 [[AV.v (.string (mk y.at))]]:=fun c hc=>by simp at hc;rw[hc];rfl
      refine⟨fun hlo=>⟨by omega,by omega,⟨ha.1,hal,by rw[ha.len];omega⟩,by omega,by omega,hyl,⟨hal1,by rw[aM,ha.len];omega⟩,?_⟩,fun hlo=>?_⟩
      ·rw[aM,ha.2,Ek,if_pos hlo]
       refine ah (Cs z (ar++[y.at]) _ ok3 (.of _) (by simp;omega)) ?_
       simp only[↓zq,zs,ac,il]
       cases h2:cQ z (ar++[y.at])with
       |none=>simp[hG,jC]
       |
        some u =>
        simp only[hG,fG]
        refine⟨fun h=>(by cases h),fun _=>rfl⟩
      ·rw[if_neg (by rw[hlo];simp)];rfl
     ·rw[iR ar hx hx2 hx3];rfl
  |
   [],_,_ =>
   simp only[↓zq,zs,ac]
   refine⟨fun h=>(by cases h),fun _=>?_⟩
   refine ah (yd (.list []) [42]) ?_
   simp only[↓zq,zs,ac]
   refine⟨fun h=>(by cases h),fun _=>?_⟩
   refine ah (yd (.list []) [114,101,99]) ?_
   simp only[↓zq,zs,ac]
   refine⟨fun h=>(by cases h),fun _=>?_⟩
   rfl
  |
   [x1],_,_ =>
   simp only[↓zq,zs,ac]
   refine⟨fun h=>(by cases h),fun _=>?_⟩
   refine ah (yd (.list [x1]) [42]) ?_
   simp only[↓zq,zs,ac]
   refine⟨fun h=>(by cases h),fun _=>?_⟩
   refine ah (yd (.list [x1]) [114,101,99]) ?_
   simp only[↓zq,zs,ac]
   refine⟨fun h=>(by cases h),fun _=>?_⟩
   rfl
  |
   [x1,x2],_,_ =>
   simp only[↓zq,zs,ac]
   refine⟨fun h=>(by cases h),fun _=>?_⟩
   refine ah (yd (.list [x1,x2]) [42]) ?_
   simp only[↓zq,zs,ac]
   refine⟨fun h=>(by cases h),fun _=>?_⟩
   refine ah (yd (.list [x1,x2]) [114,101,99]) ?_
   simp only[↓zq,zs,ac]
   refine⟨fun h=>(by cases h),fun _=>?_⟩
   rfl
  |
   x1::x2::x3::x4::l,_,_ =>
   simp only[↓zq,zs,ac]
   refine⟨fun h=>(by cases h),fun _=>?_⟩
   refine ah (yd (.list (x1::x2::x3::x4::l)) [42]) ?_
   simp only[↓zq,zs,ac]
   refine⟨fun h=>(by cases h),fun _=>?_⟩
   refine ah (yd (.list (x1::x2::x3::x4::l)) [114,101,99]) ?_
   simp only[↓zq,zs,ac]
   refine⟨fun h=>(by cases h),fun _=>?_⟩
   rfl
end Go.Proofs.Trees
namespace Go.Proofs.Trees
open Go Go.VL
def cX(v:AV)(obs:List Ob):AV->List Ob->Prop:=fun r o=>r=v/\o=obs
theorem aT{P:Program}{n:Nat}{Q:Nat->List AV->List Ob->Prop}{f:Nat}{xs:List AV}{ins:List Ob}{k:AV->List Ob->Tree}{v:AV}{obs:List Ob}(h:an P f xs ins (cX v obs))(hk:eM P n (k v obs) Q):eM P n (.call f xs ins k) Q :=
 ⟨cX v obs,h,⟨v,obs,rfl,rfl⟩,fun r o ⟨h1,h2⟩=>by rw[h1,h2];exact hk⟩
def Ty.az:Ty->Nat
 | .plus a b=>1+a.az+b.az
 | .times a b=>1+a.az+b.az
 | .rc a=>2+a.az
 |_=>1
theorem DE:∀(t:Ty),t.az<1000000->an Tryz.prog 145 [t.av] [] (bA (.v (.int .i64 (t.az:Int))))
 | .zero,h=>by refine wG _ ((aC _).mpr trivial) ?_;simp[DY,Ty.av,↓zq,zs,ac,bA,Ty.az]
 | .one,h=>by refine wG _ ((aC _).mpr trivial) ?_;simp[DY,Ty.av,↓zq,zs,ac,bA,Ty.az]
 | .name s,h=>by refine wG _ ((aC _).mpr trivial) ?_;simp[DY,Ty.av,↓zq,zs,ac,bA,Ty.az]
 | .bN u,h=>by refine wG _ ((aC _).mpr trivial) ?_;simp[DY,Ty.av,↓zq,zs,ac,bA,Ty.az]
 |
  .plus a b,h=>by
  simp only[Ty.az]at h
  refine wG _ ((aC _).mpr trivial) ?_
  simp only[DY,Ty.av,↓zq,zs,ac,aC]
  refine⟨by omega,fun _=>⟨by omega,?_⟩,fun h=>absurd rfl h⟩
  refine ah (DE a (by omega)) ?_
  simp only[↓zq,zs,ac,aC]
  refine⟨by omega,?_⟩
  refine ah (DE b (by omega)) ?_
  simp only[↓zq,zs,ac,bA,Ty.az]
  rw[wrap64 (1+(a.az:Int)) (by omega) (by omega),wrap64 _ (by omega) (by omega)]
  congr 2
 |
  .times a b,h=>by
  simp only[Ty.az]at h
  refine wG _ ((aC _).mpr trivial) ?_
  simp only[DY,Ty.av,↓zq,zs,ac,aC]
  refine⟨by omega,fun h=>by omega,fun _=>⟨fun _=>⟨by omega,?_⟩,fun h=>absurd rfl h⟩⟩
  refine ah (DE a (by omega)) ?_
  simp only[↓zq,zs,ac,aC]
  refine⟨by omega,?_⟩
  refine ah (DE b (by omega)) ?_
  simp only[↓zq,zs,ac,bA,Ty.az]
  rw[wrap64 (1+(a.az:Int)) (by omega) (by omega),wrap64 _ (by omega) (by omega)]
  congr 2
 |
  .rc a,h=>by
  simp only[Ty.az]at h
  refine wG _ ((aC _).mpr trivial) ?_
  simp only[DY,Ty.av,↓zq,zs,ac,aC]
  refine⟨by omega,fun h=>by omega,fun _=>⟨fun h=>by omega,fun _=>⟨fun _=>⟨by omega,?_⟩,fun h=>absurd rfl h⟩⟩⟩
  refine ah (DE a (by omega)) ?_
  simp only[↓zq,zs,ac,bA,Ty.az]
  rw[wrap64 _ (by omega) (by omega)]
  congr 2
theorem iK:∀(e:E) (ar:List (List UInt8)) (t:Ty),cQ e ar=some t->t.az<=e.sz
 |
  .atom s,ar,t,h=>by
  simp only[cQ]at h
  simp only[E.sz]
  split at h
  ·cases h;simp[Ty.az]
  ·split at h
   ·cases h;simp[Ty.az]
   ·split at h
    ·cases h;simp[Ty.az]
    ·split at h
     ·split at h<;>cases h<;>simp[Ty.az]
     ·cases h
 |
  .list [x,a,b],ar,t,h=>by
  have hs:∀e:E,1<=e.sz:=fun e=>by cases e<;>simp[E.sz];try omega
  have hx:=hs x
  have ha:=hs a
  simp only[E.sz,E.jH]
  by_cases h1:x.at=[43]
  ·rw[kR ar h1]at h
   split at h
   ·rename_i t1 t2 e1 e2
    cases h
    have:=iK a ar t1 e1
    have:=iK b ar t2 e2
    simp only[Ty.az];omega
   ·cases h
  ·by_cases h2:x.at=[42]
   ·rw[jO ar h2]at h
    split at h
    ·rename_i t1 t2 e1 e2
     cases h
     have:=iK a ar t1 e1
     have:=iK b ar t2 e2
     simp only[Ty.az];omega
    ·cases h
   ·by_cases h3:x.at=[114,101,99]
    ·rw[mv ar h3]at h
     split at h
     ·split at h
      ·rename_i t1 e1
       cases h
       have:=iK b _ t1 e1
       simp only[Ty.az];omega
      ·cases h
     ·cases h
    ·rw[iR ar h1 h2 h3]at h;cases h
 | .list [],_,_,h=>by cases h
 | .list [_],_,_,h=>by cases h
 | .list [_,_],_,_,h=>by cases h
 | .list (_::_::_::_::_),_,_,h=>by cases h
def qe(s:List UInt8):Option Ty:=match qf s with
 |none=>none
 |
  some e=>match cQ e []with
  |none=>none
  |some t=>if t.az>400 then none else some t
theorem D5(s:List UInt8):an Tryz.prog 108 [.v (.string (mk s))] [] (bA (hG (qe s))):=by
 refine QE _ ?_
 unfold HU
 refine ah (Jd s) ?_
 unfold qe
 cases he:qf s with
 |none=>simp only[tz,↓zq,zs,ac,bA,hG];simp
 |
  some e =>
  obtain⟨h1,h2⟩:=nt he
  simp only[tz,↓zq,zs,ac,cT,eh]
  refine⟨fun h=>(by cases h),fun _=>?_⟩
  refine ah (Cs e [] _ h1 .nil (by simp;omega)) ?_
  cases ht:cQ e []with
  |none=>simp only[hG,↓zq,zs,ac,bA];simp
  |
   some t =>
   have:=iK e [] t ht
   simp only[hG,↓zq,zs,ac,aC,fG]
   refine⟨fun h=>(by cases h),fun _=>?_⟩
   refine ah (DE t (by omega)) ?_
   simp only[↓zq,zs,ac,bA]
   refine⟨fun h=>?_,fun h=>?_⟩
   ·rw[if_pos (by omega)]
   ·rw[if_neg (by omega)]
end Go.Proofs.Trees
namespace Go.Proofs.Trees
open Go Go.VL
def zQ(p:Prop):Nat->List AV->List Ob->Prop:=fun t ys o=>(t=1/\¬p/\ys=[]/\o=[])\/(t=2/\p/\∃j:Nat,ys=[.v (.int .i64 (j:Int))]/\o=[])
theorem Lx(l:List (List UInt8))(a:AV)(ha:cc a l)(s:List UInt8)(hl:l.length<1000000):∀(k i:Nat),i+k=l.length->s∉l.take i->Fe [a,.v (.string (mk s)),.v (.int .i64 (l.length:Int)),.v (.int .i64 (i:Int))] []
 (zQ (s∈l))
 |
  0,i,hi,hn=>by
  refine Ll _ _ _ _ ?_
  simp only[FW,↓zq,zs,ac]
  have:l.take i=l:=List.take_of_length_le (by omega)
  rw[this]at hn
  exact⟨ha.1,fun h=>by omega,fun _=>.inl ⟨rfl,hn,rfl,rfl⟩⟩
 |
  k+1,i,hi,hn=>by
  have hlt:i<l.length:=by omega
  refine Ll _ _ _ _ ?_
  simp only[FW,↓zq,zs,ac,zt,ha.len,ha.idx hlt]
  have hm:l.getD i []∈l:=by simp[aa,hlt]
  refine⟨ha.1,fun _=>⟨⟨ha.1,by omega,by omega⟩,by omega,fun h=>?_,fun h=>?_⟩,fun h=>by omega⟩
  ·exact .inr ⟨rfl,by rw[h];exact hm,i,rfl,rfl⟩
  ·rw[bg i (by omega)]
   refine Lx l a ha s hl k (i+1) (by omega) ?_
   rw[List.take_add_one]
   simp only[aI,not_or]
   refine⟨hn,?_⟩
   have:l[i]?=some (l.getD i []):=by simp[aa,hlt]
   rw[this];simpa using h
theorem MJ(l:List (List UInt8))(a:AV)(ha:cc a l)(s:List UInt8)(hl:l.length<1000000):an Tryz.prog 177 [a,.v (.string (mk s))] [] (bA (.v (.bool (decide (s∈l))))):=by
 have hI:an Tryz.prog 194 [a,.v (.string (mk s))] [] (fun r o=>∃n:Int,r=.v (.int .i64 n)/\(0<=n↔s∈l)/\o=[]):=by
  refine O2 _ _ ha.1 ?_
  simp only[Iz,↓zq,zs,ac,ha.len]
  refine⟨ha.1,kJ (Lx l a ha s hl l.length 0 (by omega) (by simp)) ?_ ?_⟩
  ·rintro ys o (⟨_,h1,rfl,rfl⟩|⟨h,_⟩)
   ·simp only[↓zq,zs,ac]
    exact⟨-1,rfl,⟨fun h=>(by omega),fun h=>absurd h h1⟩⟩
   ·cases h
  ·rintro ys o (⟨h,_⟩|⟨_,h1,j,rfl,rfl⟩)
   ·cases h
   ·simp only[↓zq,zs,ac]
    exact⟨j,rfl,⟨fun _=>h1,fun _=>(by omega)⟩⟩
 refine PY _ _ ha.1 ?_
 unfold HQ
 refine bO hI ⟨.v (.int .i64 (if s∈l then 0 else -1)),[],_,rfl,by split<;>simp_all,rfl⟩ ?_
 rintro r o ⟨n,rfl,hn,rfl⟩
 simp only[↓zq,zs,ac,bA]
 congr 2
 rw[cq];simp[hn]
def ph(out:List (List UInt8)):Ty->List (List UInt8)
 | .name s=>if s∈out then out else out++[s]
 |_=>out
theorem E4(t:Ty)(out:List (List UInt8))(hl:out.length<100000):an Tryz.prog 181 [t.av,.ref 0 0] [.cells [.vec 1],.vec 1 (bj out)] (cX .any [.cells [.vec 1],.vec 1 (bj (ph out t))]):=by
 refine PL _ _ ((aC _).mpr trivial) ?_
 have hlen:(bj out).length=out.length:=by simp[bj]
 cases t with
 |
  name s =>
  simp only[EI,Ty.av,↓zq,zs,ac,cX,hlen]
  refine⟨by omega,fun _=>⟨by omega,?_⟩,fun h=>absurd rfl h⟩
  refine ah (MJ out _ (.of out) s (by omega)) ?_
  simp only[↓zq,zs,ac,ph]
  refine⟨fun h=>⟨by omega,⟨fun c hc=>(by simp at hc;rw[hc];rfl),by omega⟩,?_⟩,fun h=>?_⟩
  ·rw[Ek,if_neg h]
  ·rw[if_pos h]
 |_=>simp[EI,Ty.av,↓zq,zs,ac,cX,ph]
def bH:Ty->List (List UInt8)->List (List UInt8)
 | .name s,out=>ph out (.name s)
 | .plus a b,out=>bH b (bH a out)
 | .times a b,out=>bH b (bH a out)
 | .rc a,out=>bH a out
 |_,out=>out
theorem ew:∀(t:Ty) (out:List (List UInt8)),(bH t out).length<=out.length+t.az
 | .name s,out=>by simp only[bH,ph,Ty.az];split<;>simp
 |
  .plus a b,out=>by
  have:=ew a out
  have:=ew b (bH a out)
  simp only[bH,Ty.az];omega
 |
  .times a b,out=>by
  have:=ew a out
  have:=ew b (bH a out)
  simp only[bH,Ty.az];omega
 |
  .rc a,out=>by
  have:=ew a out
  simp only[bH,Ty.az];omega
 | .zero,out=>by simp[bH]
 | .one,out=>by simp[bH]
 | .bN u,out=>by simp[bH]
theorem yM:∀(t:Ty) (out:List (List UInt8)),out.length+t.az<100000->an Tryz.prog 180 [t.av,.fn 181 [.ref 0 0]] [.cells [.vec 1],.vec 1 (bj out)] (cX .any [.cells [.vec 1],.vec 1 (bj (bH t out))])
 |
  .plus a b,out,hl=>by
  simp only[Ty.az]at hl
  have:=ew a out
  refine vP _ _ ((aC _).mpr trivial) ?_
  unfold D4
  refine aT (E4 (.plus a b) out (by omega)) ?_
  simp only[Ty.av,↓zq,zs,ac,aC,fG,ph,bn,cX]
  refine⟨by omega,fun _=>⟨by omega,?_⟩,fun h=>(by cases h)⟩
  refine aT (yM a out (by omega)) ?_
  simp only[↓zq,zs,ac,aC,fG,bn]
  refine⟨by omega,fun _=>⟨by omega,?_⟩,fun h=>(by cases h)⟩
  refine aT (yM b (bH a out) (by omega)) ?_
  simp only[↓zq,zs,ac,bn,bH]
 |
  .times a b,out,hl=>by
  simp only[Ty.az]at hl
  have:=ew a out
  refine vP _ _ ((aC _).mpr trivial) ?_
  unfold D4
  refine aT (E4 (.times a b) out (by omega)) ?_
  simp only[Ty.av,↓zq,zs,ac,aC,fG,ph,bn,cX]
  refine⟨by omega,fun _=>⟨by omega,?_⟩,fun h=>(by cases h)⟩
  refine aT (yM a out (by omega)) ?_
  simp only[↓zq,zs,ac,aC,fG,bn]
  refine⟨by omega,fun _=>⟨by omega,?_⟩,fun h=>(by cases h)⟩
  refine aT (yM b (bH a out) (by omega)) ?_
  simp only[↓zq,zs,ac,bn,bH]
 |
  .rc a,out,hl=>by
  simp only[Ty.az]at hl
  refine vP _ _ ((aC _).mpr trivial) ?_
  unfold D4
  refine aT (E4 (.rc a) out (by omega)) ?_
  simp only[Ty.av,↓zq,zs,ac,aC,fG,ph,bn,cX]
  refine⟨by omega,fun _=>⟨by omega,?_⟩,fun h=>(by cases h)⟩
  refine aT (yM a out (by omega)) ?_
  simp[↓zq,zs,ac,aC,fG,bn,bH]
 |
  .name s,out,hl=>by
  refine vP _ _ ((aC _).mpr trivial) ?_
  unfold D4
  refine aT (E4 (.name s) out (by omega)) ?_
  simp[Ty.av,↓zq,zs,ac,bn,cX,bH]
 |
  .zero,out,hl=>by
  refine vP _ _ ((aC _).mpr trivial) ?_
  unfold D4
  refine aT (E4 .zero out (by omega)) ?_
  simp[Ty.av,↓zq,zs,ac,bn,cX,bH,ph]
 |
  .one,out,hl=>by
  refine vP _ _ ((aC _).mpr trivial) ?_
  unfold D4
  refine aT (E4 .one out (by omega)) ?_
  simp[Ty.av,↓zq,zs,ac,bn,cX,bH,ph]
 |
  .bN u,out,hl=>by
  refine vP _ _ ((aC _).mpr trivial) ?_
  unfold D4
  refine aT (E4 (.bN u) out (by omega)) ?_
  simp[Ty.av,↓zq,zs,ac,bn,cX,bH,ph]
theorem HS(t:Ty)(hl:t.az<100000):an Tryz.prog 158 [t.av] [] (bA (.sl (bj (bH t [])))):=by
 refine QG _ ((aC _).mpr trivial) ?_
 unfold J1
 refine aT (yM t [] (by simpa using hl)) ?_
 simp[↓zq,zs,ac,bn,bA]
theorem Nn(l:List (List UInt8))(a:AV)(ha:cc a l)(hl:l.length<1000000):∀(k i:Nat),i+k=l.length->(∀s,s∈l.take i->db s=false)->ES [a,.v (.func (.func 159) #[] #[]),.v (.int .i64 (l.length:Int)),.v (.int .i64 (i:Int))] []
 (zQ (l.any db=true))
 |
  0,i,hi,hn=>by
  refine KO _ _ _ ?_
  simp only[Hv,↓zq,zs,ac]
  have:l.take i=l:=List.take_of_length_le (by omega)
  rw[this]at hn
  exact⟨ha.1,fun h=>by omega,fun _=>.inl ⟨rfl,fun hh=>(by obtain⟨x,hx,hy⟩:=cj.1 hh;rw[hn x hx]at hy;cases hy),rfl,rfl⟩⟩
 |
  k+1,i,hi,hn=>by
  have hlt:i<l.length:=by omega
  refine KO _ _ _ ?_
  simp only[Hv,↓zq,zs,ac,zt,ha.len,ha.idx hlt]
  have hm:l.getD i []∈l:=by simp[aa,hlt]
  refine⟨ha.1,fun _=>⟨⟨ha.1,by omega,by omega⟩,by omega,?_⟩,fun h=>by omega⟩
  refine ah (CY _) ?_
  simp only[↓zq,zs,ac]
  refine⟨fun h=>?_,fun h=>?_⟩
  ·exact .inr ⟨rfl,cj.2 ⟨_,hm,h⟩,i,rfl,rfl⟩
  ·rw[bg i (by omega)]
   refine Nn l a ha hl k (i+1) (by omega) ?_
   intro s hs
   rw[List.take_add_one]at hs
   have:l[i]?=some (l.getD i []):=by simp[aa,hlt]
   rw[this]at hs
   rcases aI.1 hs with hs|hs
   ·exact hn s hs
   ·simp at hs;rw[hs];simpa using h
theorem Qs(l:List (List UInt8))(a:AV)(ha:cc a l)(hl:l.length<1000000):an Tryz.prog 157 [a,.v (.func (.func 159) #[] #[])] [] (bA (.v (.bool (l.any db)))):=by
 have hI:an Tryz.prog 179 [a,.v (.func (.func 159) #[] #[])] [] (fun r o=>∃n:Int,r=.v (.int .i64 n)/\(0<=n↔l.any db=true)/\o=[]):=by
  refine PX _ ha.1 ?_
  simp only[HT,↓zq,zs,ac,ha.len]
  refine⟨ha.1,kJ (Nn l a ha hl l.length 0 (by omega) (by simp)) ?_ ?_⟩
  ·rintro ys o (⟨_,h1,rfl,rfl⟩|⟨h,_⟩)
   ·simp only[↓zq,zs,ac]
    exact⟨-1,rfl,⟨fun h=>(by omega),fun h=>absurd h h1⟩⟩
   ·cases h
  ·rintro ys o (⟨h,_⟩|⟨_,h1,j,rfl,rfl⟩)
   ·cases h
   ·simp only[↓zq,zs,ac]
    exact⟨j,rfl,⟨fun _=>h1,fun _=>(by omega)⟩⟩
 refine PZ _ ha.1 ?_
 unfold I4
 refine bO hI ⟨.v (.int .i64 (if l.any db=true then 0 else -1)),[],_,rfl,by split<;>simp_all,rfl⟩ ?_
 rintro r o ⟨n,rfl,hn,rfl⟩
 simp only[↓zq,zs,ac,bA]
 congr 2
 rw[cq];simp only[decide_eq_true_eq,ge_iff_le,hn]
def Ty.closed(t:Ty):Bool:=!((bH t []).any db)
theorem O7(t:Ty)(hl:t.az<100000):an Tryz.prog 127 [t.av] [] (bA (.v (.bool t.closed))):=by
 refine OY _ ((aC _).mpr trivial) ?_
 unfold KC
 refine ah (HS t hl) ?_
 simp only[↓zq,zs,ac]
 have:=ew t []
 refine ah (Qs _ _ (.of _) (by simp at this;omega)) ?_
 simp only[↓zq,zs,ac,bA,Ty.closed]
def wb(s:List UInt8):Option Ty:=match qe s with
 |none=>none
 |some t=>if t.closed=true then some t else none
theorem rX{s:List UInt8}{t:Ty}(h:qe s=some t):t.az<=400:=by
 unfold qe at h
 split at h
 ·cases h
 ·split at h
  ·cases h
  ·split at h<;>cases h
   omega
theorem LN(s:List UInt8):an Tryz.prog 93 [.v (.string (mk s))] [] (bA (hG (wb s))):=by
 refine Rk _ ?_
 unfold Nf
 refine ah (D5 s) ?_
 unfold wb
 cases ht:qe s with
 |none=>simp[hG,↓zq,zs,ac,bA]
 |
  some t =>
  have:=rX ht
  simp only[hG,↓zq,zs,ac,aC,fG]
  refine⟨fun h=>(by cases h),fun _=>?_⟩
  refine ah (O7 t (by omega)) ?_
  simp only[↓zq,zs,ac,bA]
  refine⟨fun h=>?_,fun h=>?_⟩
  ·rw[if_neg (by rw[h];simp)]
  ·rw[if_pos h]
end Go.Proofs.Trees
namespace Go.Proofs.Trees
open Go Go.VL Go.RowKit
abbrev Nm:=List UInt8
def dK(u:Ty):Ty->Nat->Ty
 | .bN k,i=>if k=i then u else .bN k
 | .plus a b,i=>.plus (dK u a i) (dK u b i)
 | .times a b,i=>.times (dK u a i) (dK u b i)
 | .rc a,i=>.rc (dK u a (i+1))
 |t,_=>t
def sub(x:Nm)(u:Ty):Ty->Ty
 | .name s=>if s=x then u else .name s
 | .plus a b=>.plus (sub x u a) (sub x u b)
 | .times a b=>.times (sub x u a) (sub x u b)
 | .rc a=>.rc (sub x u a)
 |t=>t
def bh(x:Nm):Ty->Bool
 | .name s=>decide (s=x)
 | .plus a b=>bh x a||bh x b
 | .times a b=>bh x a||bh x b
 | .rc a=>bh x a
 |_=>false
def jx(f:Nm->Nm):Ty->Ty
 | .name s=>.name (f s)
 | .plus a b=>.plus (jx f a) (jx f b)
 | .times a b=>.times (jx f a) (jx f b)
 | .rc a=>.rc (jx f a)
 |t=>t
def Io(f:Nm->Nm):Prop:=∀x y,f x=f y->x=y
theorem lJ(f:Nm->Nm)(x:Nm):∀(t:Ty) (i:Nat),jx f (dK (.name x) t i)=dK (.name (f x)) (jx f t) i
 | .bN k,i=>by simp only[dK,jx];split<;>rfl
 | .plus a b,i=>by simp only[dK,jx,lJ f x a i,lJ f x b i]
 | .times a b,i=>by simp only[dK,jx,lJ f x a i,lJ f x b i]
 | .rc a,i=>by simp only[dK,jx,lJ f x a (i+1)]
 | .zero,i=>rfl
 | .one,i=>rfl
 | .name s,i=>rfl
theorem k8{f:Nm->Nm}(hf:Io f)(x:Nm)(u:Ty):∀t:Ty,jx f (sub x u t)=sub (f x) (jx f u) (jx f t)
 |
  .name s=>by
  simp only[sub,jx]
  by_cases h:s=x
  ·subst h;simp
  ·rw[if_neg h,if_neg fun e=>h (hf _ _ e)];rfl
 | .plus a b=>by simp only[sub,jx,k8 hf x u a,k8 hf x u b]
 | .times a b=>by simp only[sub,jx,k8 hf x u a,k8 hf x u b]
 | .rc a=>by simp only[sub,jx,k8 hf x u a]
 | .zero=>rfl
 | .one=>rfl
 | .bN k=>rfl
theorem mT{f:Nm->Nm}(hf:Io f)(x:Nm):∀t:Ty,bh (f x) (jx f t)=bh x t
 | .name s=>by simp only[bh,jx];rw[cq];simp only[decide_eq_true_eq];exact⟨fun e=>hf _ _ e,fun e=>by rw[e]⟩
 | .plus a b=>by simp only[bh,jx,mT hf x a,mT hf x b]
 | .times a b=>by simp only[bh,jx,mT hf x a,mT hf x b]
 | .rc a=>by simp only[bh,jx,mT hf x a]
 | .zero=>rfl
 | .one=>rfl
 | .bN k=>rfl
theorem gP(f:Nm->Nm):∀t:Ty,(jx f t).az=t.az
 | .plus a b=>by simp only[Ty.az,jx,gP f a,gP f b]
 | .times a b=>by simp only[Ty.az,jx,gP f a,gP f b]
 | .rc a=>by simp only[Ty.az,jx,gP f a]
 | .name s=>rfl
 | .zero=>rfl
 | .one=>rfl
 | .bN k=>rfl
theorem pw{f:Nm->Nm}:∀t:Ty,(∀x,bh x t=true->f x=x)->jx f t=t
 | .name s,h=>by simp only[jx];rw[h s (by simp[bh])]
 | .plus a b,h=>by simp only[jx];rw[pw a fun x hx=>h x (by simp[bh,hx]),pw b fun x hx=>h x (by simp[bh,hx])]
 | .times a b,h=>by simp only[jx];rw[pw a fun x hx=>h x (by simp[bh,hx]),pw b fun x hx=>h x (by simp[bh,hx])]
 | .rc a,h=>by simp only[jx];rw[pw a fun x hx=>h x hx]
 | .zero,_=>rfl
 | .one,_=>rfl
 | .bN k,_=>rfl
theorem fE(x:Nm):∀(t:Ty) (i:Nat),(dK (.name x) t i).az=t.az
 | .bN k,i=>by simp only[dK];split<;>rfl
 | .plus a b,i=>by simp only[dK,Ty.az,fE x a i,fE x b i]
 | .times a b,i=>by simp only[dK,Ty.az,fE x a i,fE x b i]
 | .rc a,i=>by simp only[dK,Ty.az,fE x a (i+1)]
 | .zero,i=>rfl
 | .one,i=>rfl
 | .name s,i=>rfl
theorem ef(t:Ty):1<=t.az:=by cases t<;>simp only[Ty.az]<;>omega
theorem gR(x:Nm)(u:Ty):∀t:Ty,t.az<=(sub x u t).az
 | .name s=>by simp only[sub];split<;>simp only[Ty.az];exact ef u;omega
 | .plus a b=>by have:=gR x u a;have:=gR x u b;simp only[sub,Ty.az];omega
 | .times a b=>by have:=gR x u a;have:=gR x u b;simp only[sub,Ty.az];omega
 | .rc a=>by have:=gR x u a;simp only[sub,Ty.az];omega
 | .zero=>aq _
 | .one=>aq _
 | .bN k=>aq _
theorem gr{x y:Nm}:∀(t:Ty) (i:Nat),bh y (dK (.name x) t i)=true->y=x\/bh y t=true
 |
  .bN k,i,h=>by
  simp only[dK]at h
  split at h
  ·left;simp only[bh,decide_eq_true_eq]at h;exact h.symm
  ·cases h
 |
  .plus a b,i,h=>by
  simp only[dK,bh,bw]at h |-
  rcases h with h|h
  ·rcases gr a i h with h|h<;>simp[h]
  ·rcases gr b i h with h|h<;>simp[h]
 |
  .times a b,i,h=>by
  simp only[dK,bh,bw]at h |-
  rcases h with h|h
  ·rcases gr a i h with h|h<;>simp[h]
  ·rcases gr b i h with h|h<;>simp[h]
 | .rc a,i,h=>gr a (i+1) h
 | .zero,i,h=>by cases h
 | .one,i,h=>by cases h
 | .name s,i,h=>.inr h
theorem iV{x y:Nm}{u:Ty}:∀t:Ty,bh y (sub x u t)=true->bh y u=true\/(y≠x/\bh y t=true)
 |
  .name s,h=>by
  simp only[sub]at h
  split at h
  ·exact .inl h
  ·rename_i hs
   simp only[bh,decide_eq_true_eq]at h
   subst h
   exact .inr ⟨hs,by simp[bh]⟩
 |
  .plus a b,h=>by
  simp only[sub,bh,bw]at h |-
  rcases h with h|h
  ·rcases iV a h with h|h<;>simp[h]
  ·rcases iV b h with h|h<;>simp[h]
 |
  .times a b,h=>by
  simp only[sub,bh,bw]at h |-
  rcases h with h|h
  ·rcases iV a h with h|h<;>simp[h]
  ·rcases iV b h with h|h<;>simp[h]
 |
  .rc a,h=>by
  simp only[sub,bh]at h |-
  exact iV a h
 | .zero,h=>by cases h
 | .one,h=>by cases h
 | .bN k,h=>by cases h
def swp(x y:Nm):Nm->Nm:=fun s=>if s=x then y else if s=y then x else s
theorem xC(x y:Nm):Io (swp x y):=by
 intro a b h
 unfold swp at h
 by_cases h1:a=x<;>by_cases h2:a=y<;>by_cases h3:b=x<;>by_cases h4:b=y<;>simp_all
theorem vJ(x y:Nm):swp x y x=y:=by simp[swp]
theorem Aa{x y s:Nm}(h:s≠x)(h':s≠y):swp x y s=s:=by simp[swp,h,h']
theorem sZ{x y:Nm}{t:Ty}(h:bh x t=false)(h':bh y t=false):jx (swp x y) t=t :=
 pw t fun z hz=>Aa (fun e=>by subst e;rw[h]at hz;cases hz) (fun e=>by subst e;rw[h']at hz;cases hz)
def oR(a:Ty)(x:Nm)(c d:Ty):Ty:=.rc (.plus (sub x (.rc a) c) (.times (sub x (.rc a) d) (.bN 0)))
inductive Dv:Ty->Nm->Ty->Prop
 |zero (s):Dv .zero s .zero
 |one (s):Dv .one s .zero
 |bN (k s):Dv (.bN k) s .zero
 |hit (s):Dv (.name s) s .one
 |qt {n s} (h:n≠s):Dv (.name n) s .zero
 |plus {a b s a' b'} (h1:Dv a s a') (h2:Dv b s b') (hl:(Ty.plus a' b').az<=400):Dv (.plus a b) s (.plus a' b')
 |times {a b s a' b'} (h1:Dv a s a') (h2:Dv b s b') (hl:(Ty.plus (.times a' b) (.times a b')).az<=400):Dv (.times a b) s (.plus (.times a' b) (.times a b'))
 |rc {a s c d} (x:Nm) (hx:bh x a=false) (hs:x≠s) (h1:Dv (dK (.name x) a 0) s c) (h2:Dv (dK (.name x) a 0) x d) (hl:(oR a x c d).az<=400):Dv (.rc a) s (oR a x c d)
theorem yi{f:Nm->Nm}(hf:Io f)(a:Ty)(x:Nm)(c d:Ty):jx f (oR a x c d)=oR (jx f a) (f x) (jx f c) (jx f d):=by
 simp only[oR,jx,k8 hf]
theorem Dv.jx{f:Nm->Nm}(hf:Io f){t d:Ty}{s:Nm}(h:Dv t s d):Dv (jx f t) (f s) (jx f d):=by
 induction h with
 |zero s=>exact .zero _
 |one s=>exact .one _
 |bN k s=>exact .bN _ _
 |hit s=>exact .hit _
 |qt h=>exact .qt fun e=>h (hf _ _ e)
 |plus h1 h2 hl i1 i2=>exact .plus i1 i2 (by rw[<-gP f]at hl;exact hl)
 |times h1 h2 hl i1 i2=>exact .times i1 i2 (by rw[<-gP f]at hl;exact hl)
 |
  rc x hx hs h1 h2 hl i1 i2 =>
  rw[yi hf]
  rw[lJ]at i1 i2
  exact .rc (f x) (by rw[mT hf];exact hx) (fun e=>hs (hf _ _ e)) i1 i2 (by rw[<-yi hf,gP];exact hl)
theorem Dv.names{t d:Ty}{s:Nm}(h:Dv t s d):∀y,bh y d=true->bh y t=true:=by
 induction h with
 |zero s=>intro y hy;cases hy
 |one s=>intro y hy;cases hy
 |bN k s=>intro y hy;cases hy
 |hit s=>intro y hy;cases hy
 |qt h=>intro y hy;cases hy
 |
  plus h1 h2 hl i1 i2 =>
  intro y hy
  simp only[bh,bw]at hy |-
  rcases hy with hy|hy
  ·exact .inl (i1 y hy)
  ·exact .inr (i2 y hy)
 |
  times h1 h2 hl i1 i2 =>
  intro y hy
  simp only[bh,bw]at hy |-
  rcases hy with(hy|hy)|(hy|hy)
  ·exact .inl (i1 y hy)
  ·exact .inr hy
  ·exact .inl hy
  ·exact .inr (i2 y hy)
 |
  rc x hx hs h1 h2 hl i1 i2 =>
  intro y hy
  simp only[oR,bh,bw,Bool.or_false]at hy |-
  have key:∀{a c:Ty},(∀y,bh y c=true->bh y (dK (.name x) a 0)=true)->bh y (sub x (.rc a) c)=true->bh y a=true:=fun i h=>by
   rcases iV _ h with h|⟨h,h'⟩
   ·exact h
   ·rcases gr _ _ (i y h')with e|e
    ·exact absurd e h
    ·exact e
  rcases hy with hy|hy
  ·exact key i1 hy
  ·exact key i2 hy
theorem Dv.fresh{t d:Ty}{s y:Nm}(h:Dv t s d)(hy:bh y t=false):bh y d=false:=by
 cases e:bh y d with
 |false=>rfl
 |true=>rw[h.names y e]at hy;cases hy
theorem Dv.move{a c:Ty}{x y s:Nm}(hx:bh x a=false)(hy:bh y a=false)(h:Dv (dK (.name x) a 0) s c):Dv (dK (.name y) a 0) (swp x y s) (Go.Proofs.Trees.jx (swp x y) c):=by
 have:=h.jx (xC x y)
 rw[lJ,vJ,sZ hx hy]at this
 exact this
theorem mb{a c:Ty}{x y s:Nm}(hx:bh x a=false)(hy:bh y a=false)(h:Dv (dK (.name x) a 0) s c):sub y (.rc a) (jx (swp x y) c)=sub x (.rc a) c:=by
 have e:=k8 (xC x y) x (.rc a) c
 rw[vJ,sZ (t:=.rc a) hx hy]at e
 rw[<-e]
 have key:∀z,(z=x\/z=y)->bh z (sub x (.rc a) c)=false:=fun z hz=>by
  cases q:bh z (sub x (.rc a) c)with
  |false=>rfl
  |
   true =>
   exfalso
   have hz':bh z a=false:=by rcases hz with rfl|rfl<;>assumption
   rcases iV _ q with h1|⟨h1,h2⟩
   ·rw[show bh z (.rc a)=bh z a from rfl,hz']at h1;cases h1
   ·rcases gr _ _ (h.names z h2)with e|e
    ·exact h1 e
    ·rw[hz']at e;cases e
 exact sZ (key x (.inl rfl)) (key y (.inr rfl))
theorem Dv.we:∀(n:Nat) (t:Ty),t.az<=n->∀{s:Nm} {d d':Ty},Dv t s d->Dv t s d'->d=d'
 |0,t,h,_,_,_,_,_=>by have:=ef t;omega
 |
  n+1,t,hn,s,d,d',h,h'=>by
  cases h with
  |zero=>cases h';rfl
  |one=>cases h';rfl
  |bN=>cases h';rfl
  |
   hit =>
   cases h' with
   |hit=>rfl
   |qt h=>exact absurd rfl h
  |
   qt h =>
   cases h' with
   |hit=>exact absurd rfl h
   |qt _=>rfl
  |
   plus h1 h2 =>
   simp only[Ty.az]at hn
   cases h' with
   |plus g1 g2=>rw[Dv.we n _ (by omega) h1 g1,Dv.we n _ (by omega) h2 g2]
  |
   times h1 h2 =>
   simp only[Ty.az]at hn
   cases h' with
   |times g1 g2=>rw[Dv.we n _ (by omega) h1 g1,Dv.we n _ (by omega) h2 g2]
  |
   rc x hx hs h1 h2 =>
   simp only[Ty.az]at hn
   cases h' with
   |
    rc y hy hs' g1 g2 =>
    rename_i a _ _ _ _ _ _
    have m1:=h1.move hx hy
    have m2:=h2.move hx hy
    rw[Aa (Ne.symm hs) (Ne.symm hs')]at m1
    rw[vJ]at m2
    have e1:=Dv.we n _ (by rw[fE];omega) m1 g1
    have e2:=Dv.we n _ (by rw[fE];omega) m2 g2
    rw[oR,oR,<-e1,<-e2,mb hx hy h1,mb hx hy h2]
theorem Dv.small{t d:Ty}{s:Nm}(h:Dv t s d):d.az<=400:=by
 cases h<;>first|assumption|simp[Ty.az]
open Classical in
noncomputable def lm (t:Ty) (s:Nm):Option Ty:=if h:∃d,Dv t s d then some (Classical.choose h)else none
theorem cU{t:Ty}{s:Nm}{d:Ty}:lm t s=some d↔Dv t s d:=by
 unfold lm
 by_cases h:∃d,Dv t s d
 ·rw[dif_pos h]
  have:=Classical.choose_spec h
  constructor
  ·intro e;cases e;exact this
  ·intro g;rw[Dv.we _ t (aq _) this g]
 ·rw[dif_neg h]
  exact⟨fun e=>(by cases e),fun g=>absurd ⟨d,g⟩ h⟩
def nh(t:Ty):Option Ty:=if t.az<=400 then some t else none
theorem eT{t d:Ty}:nh t=some d↔t.az<=400/\t=d:=by
 unfold nh
 split
 ·rename_i h;simp[h]
 ·rename_i h;simp[h]
theorem p9{α:Type}{a b:Option α}(h:∀d,a=some d↔b=some d):a=b:=by
 cases a with
 |
  none=>cases b with
  |none=>rfl
  |some x=>have:=(h x).2 rfl;cases this
 |some x=>exact((h x).1 rfl).symm
theorem uT(s:Nm):lm .zero s=some .zero:=cU.2 (.zero _)
theorem wX(s:Nm):lm .one s=some .zero:=cU.2 (.one _)
theorem yX(k:Nat)(s:Nm):lm (.bN k) s=some .zero:=cU.2 (.bN _ _)
theorem oG(n s:Nm):lm (.name n) s=some (if n=s then .one else .zero):=by
 split
 ·rename_i h;subst h;exact cU.2 (.hit _)
 ·rename_i h;exact cU.2 (.qt h)
theorem vy(a b:Ty)(s:Nm):lm (.plus a b) s=(lm a s).bind fun a'=>(lm b s).bind fun b'=>nh (.plus a' b'):=by
 refine p9 fun d=>?_
 rw[cU]
 simp only[bc,cU,eT]
 constructor
 ·intro h;cases h with|plus h1 h2 hl=>exact⟨_,h1,_,h2,hl,rfl⟩
 ·rintro⟨a',h1,b',h2,hl,rfl⟩;exact .plus h1 h2 hl
theorem sd(a b:Ty)(s:Nm):lm (.times a b) s=(lm a s).bind fun a'=>(lm b s).bind fun b'=>nh (.plus (.times a' b) (.times a b')):=by
 refine p9 fun d=>?_
 rw[cU]
 simp only[bc,cU,eT]
 constructor
 ·intro h;cases h with|times h1 h2 hl=>exact⟨_,h1,_,h2,hl,rfl⟩
 ·rintro⟨a',h1,b',h2,hl,rfl⟩;exact .times h1 h2 hl
theorem BB{a:Ty}{s x:Nm}(hx:bh x a=false)(hs:x≠s):lm (.rc a) s=(lm (dK (.name x) a 0) s).bind fun c=>(lm (dK (.name x) a 0) x).bind fun d=>nh (oR a x c d):=by
 refine p9 fun d=>?_
 rw[cU]
 simp only[bc,cU,eT]
 constructor
 ·intro h
  cases h with
  |
   rc y hy hs' h1 h2 hl =>
   have m1:=h1.move hy hx
   have m2:=h2.move hy hx
   rw[Aa (Ne.symm hs') (Ne.symm hs)]at m1
   rw[vJ]at m2
   refine⟨_,m1,_,m2,?_⟩
   have e:∀c d,sub x (.rc a) (jx (swp y x) c)=sub y (.rc a) c->sub x (.rc a) (jx (swp y x) d)=sub y (.rc a) d->oR a x (jx (swp y x) c) (jx (swp y x) d)=oR a y c d:=fun c d e1 e2=>by rw[oR,oR,e1,e2]
   rw[e _ _ (mb hy hx h1) (mb hy hx h2)]
   exact⟨hl,rfl⟩
 ·rintro⟨c,h1,d',h2,hl,rfl⟩;exact .rc x hx hs h1 h2 hl
noncomputable def oN (a:Ty) (x:Nm):Option Ty:=(lm (dK (.name x) a 0) x).bind fun d=>nh (sub x (.rc a) d)
theorem EO{a:Ty}{x y:Nm}(hx:bh x a=false)(hy:bh y a=false):oN a x=oN a y:=by
 have key:∀{x y:Nm} {d:Ty},bh x a=false->bh y a=false->oN a x=some d->oN a y=some d:=fun {x y d} hx hy h=>by
  simp only[oN,bc,cU,eT]at h |-
  obtain⟨d',h1,hl,rfl⟩:=h
  have m1:=h1.move hx hy
  rw[vJ]at m1
  exact⟨_,m1,by rw[mb hx hy h1];exact⟨hl,rfl⟩⟩
 exact p9 fun d=>⟨key hx hy,key hy hx⟩
end Go.Proofs.Trees
namespace Go.Proofs.Trees
open Go Go.VL
theorem O0(b:UInt8):an Tryz.prog 178 [.v (.int .u8 (b.toNat:Int))] [] (bA (.v (.bool (eN b)))):=by
 refine OS _ ?_
 simp only[Ni,↓zq,zs,ac,bA,eN]
 repeat' (apply aE<;>intro _)
 all_goals first|(congr 2;rw[cq];simp;omega)|(congr 2;simp;omega)
def B5(s:List UInt8)(x:Option (E×List UInt8)):AV->List Ob->Prop:=fun r o=>o=[] /\
 match x with
 |some (e,u)=>r=.cI [e.kj,.v (.int .i64 ((s.length-u.length:Nat):Int))]
 |none=>∃(c:List UInt8) (d:AV),LK.sl.has d/\r=.cI [.agg [.v (.string (mk c)),d],.v (.int .i64 (-1))]
theorem B5.ne(s:List UInt8)(x:Option (E×List UInt8)):∃r o,B5 s x r o:=by
 cases x with
 |some q=>exact⟨_,_,rfl,rfl⟩
 |none=>exact⟨_,_,rfl,[],.v (.slice none 0 0),(bp).mpr trivial,rfl⟩
def jc(c:List UInt8)(d:AV):Ob:=.cells [.v (.string (mk c)),d]
theorem Nb(s:List UInt8)(hs:s.length<=8000)(from_:Int)(c1 c2:List UInt8)(d1 d2:AV)(h1:LK.sl.has d1)(h2:LK.sl.has d2):∀(k i:Nat),i+k=s.length->Hs [.v (.string (mk s)),.v (.int .i64 (i:Int)),.v (.int .i64 from_)] [jc c1 d1,jc c2 d2]
 (gD 1 [.v (.string (mk s)),.v (.int .i64 ((i+((s.drop i).takeWhile eN).length:Nat):Int)),.v (.int .i64 from_)] [jc c1 d1,jc c2 d2])
 |
  0,i,hi=>by
  refine M5 _ _ _ _ _ _ _ ?_
  have hd:s.drop i=[]:=bL (by omega)
  simp only[Gw,↓zq,zs,ac,zt]
  exact⟨h1,h2,fun h=>by omega,fun _=>by simp[gD,hd,jc]⟩
 |
  k+1,i,hi=>by
  have hlt:i<s.length:=by omega
  refine M5 _ _ _ _ _ _ _ ?_
  simp only[Gw,↓zq,zs,ac,zt,lV s i hlt]
  refine⟨h1,h2,fun _=>⟨by omega,?_⟩,fun h=>by omega⟩
  refine ah (O0 _) ?_
  simp only[↓zq,zs,ac]
  refine⟨fun hb=>?_,fun hb=>?_⟩
  ·rw[bg i (by omega)]
   have:=Nb s hs from_ c1 c2 d1 d2 h1 h2 k (i+1) (by omega)
   rw[yg hlt hb,show i+(((s.drop (i+1)).takeWhile eN).length+1)=i+1+((s.drop (i+1)).takeWhile eN).length by omega]
   exact this
  ·simp[gD,qi hlt hb,jc]
def RM(s:List UInt8)(x:Option (E×List UInt8)):Nat->List AV->List Ob->Prop:=fun t ys o=>t=2 /\
 match x with
 |some (e,u)=>∃l,e=.list l/\ys=[.v (.int .i64 ((s.length-u.length:Nat):Int))]/\o=[jc [] .any,.vec 2 (E.bm l)]
 |none=>∃es,ys=[.v (.int .i64 (-1))]/\o=[jc [] .any,.vec 2 es]
theorem w4(e:E):(e.kj=.agg e.kj.cs/\e.kj.cs.length=2/\bB [.str,.sl] e.kj.cs 0)=True:=by
 apply eq_true
 cases e<;>simp[E.kj,E.ii,Bd,bB,eg,bp,ca]
theorem wm(e:E):[AV.v (.string ((e.kj.cs.getD 0 .any).ai)),e.kj.cs.getD 1 .any]=e.ii:=by
 cases e<;>rfl
theorem drop_cons{s:List UInt8}{j:Nat}(hj:j<s.length):s.drop j=s.getD j 0::s.drop (j+1):=by
 rw[aK hj];simp[aa,hj]
theorem J4(s:List UInt8)(hs:s.length<=8000)(d:Nat)(hd:d<=300)(f:List UInt8->Option (E×List UInt8))(hf:∀u e r,f u=some (e,r)->∃j,r=u.drop j/\0<j/\j<=u.length)
 (ih:∀j,j<=s.length->an Tryz.prog 152 [.v (.string (mk s)),.v (.int .i64 (j:Int)),.v (.int .i64 ((d+1:Nat):Int))] [] (B5 s (f (s.drop j)))) :
 ∀(n i:Nat) (acc:List E) (c1:List UInt8) (d1:AV),LK.sl.has d1->s.length-(i+1)<n->i<s.length->s.length-i+acc.length<=8001->E5 [.v (.string (mk s)),.v (.int .i64 (i:Int)),.v (.int .i64 (d:Int))] [jc c1 d1,jc [] .any,.vec 2 (E.bm acc)]
  (RM s (rL f n (s.drop (i+1)) acc))
 |0,i,acc,c1,d1,h1,hn,_,_=>by omega
 |
  n+1,i,acc,c1,d1,h1,hn,hi,hl=>by
  refine QS _ _ _ _ _ _ _ ?_
  simp only[Nz,↓zq,zs,ac,jc]
  refine⟨h1,?_⟩
  rw[bg i (by omega),bg d (by omega)]
  refine bO (ih (i+1) (by omega)) (B5.ne _ _) ?_
  rintro r o ⟨rfl,hr⟩
  have hff:=hf (s.drop (i+1))
  unfold rL
  cases hq:f (s.drop (i+1))with
  |
   none =>
   rw[hq]at hr
   obtain⟨c,d',hd',rfl⟩:=hr
   simp only[↓zq,zs,ac,zt,bB]
   refine⟨hd',fun _=>⟨rfl,_,rfl,rfl⟩,fun h=>by omega⟩
  |
   some q =>
   obtain⟨e,u⟩:=q
   rw[hq]at hr
   subst hr
   obtain⟨j,hu,hj0,hj⟩:=hff e u hq
   rw[List.drop_drop]at hu
   simp only[cn]at hj
   have hul:u.length=s.length-(i+1+j):=by rw[hu,cn]
   have hpos:s.length-u.length=i+1+j:=by omega
   simp only[↓zq,zs,ac,zt,w4,hpos,wm,dW]
   refine⟨fun h=>by omega,fun _=>⟨fun h=>?_,fun h=>⟨⟨fun c hc=>(by simp at hc;rw[hc];cases e<;>rfl),by omega⟩,?_⟩⟩⟩
   ·have:u=[]:=by rw[hu];exact bL (by omega)
    subst this
    exact⟨rfl,_,rfl,rfl⟩
   ·have hlt:i+1+j<s.length:=by omega
    rw[drop_cons hlt]at hu
    subst hu
    rw[lV s _ hlt]
    generalize hb:s.getD (i+1+j) 0=b
    refine⟨by omega,fun h41=>?_,fun h41=>⟨by omega,fun h32=>?_,fun h32=>?_⟩⟩
    ·have h41':b.toNat=41:=by omega
     dsimp only
     rw[if_pos h41',bg _ (by omega)]
     refine⟨rfl,acc++[e],rfl,?_,?_⟩
     ·rw[cn];congr 3;omega
     ·simp[jc,pN,E.bm]
    ·have h41':¬b.toNat=41:=by omega
     have h32':¬b.toNat=32:=by omega
     dsimp only
     rw[if_neg h41',if_neg h32']
     exact⟨rfl,_,rfl,rfl⟩
    ·have h41':¬b.toNat=41:=by omega
     have h32':b.toNat=32:=by omega
     dsimp only
     rw[if_neg h41',if_pos h32']
     have:=J4 s hs d hd f hf ih n (i+1+j) (acc++[e]) c1 d1 h1 (by omega) hlt (by simp;omega)
     simpa[jc,pN,E.bm]using this
theorem Dx(k:Nat)(u:List UInt8)(e:E)(r:List UInt8)(h:rd k u=some (e,r)):∃j,r=u.drop j/\0<j/\j<=u.length:=by
 have suf:∀(k:Nat) (u:List UInt8) (e:E) (r:List UInt8),rd k u=some (e,r)->r <:+ u:=by
  intro k
  have tw:∀u:List UInt8,u.dropWhile eN <:+ u:=fun u=>List.dropWhile_suffix _
  have ll:∀(f:List UInt8->Option (E×List UInt8)),(∀u e r,f u=some (e,r)->r <:+ u)->∀(n:Nat) (u:List UInt8) (acc:List E) (e:E) (r:List UInt8),rL f n u acc=some (e,r)->r <:+ u:=by
   intro f hf n
   induction n with
   |zero=>intro u acc e r h;cases h
   |
    succ n ih =>
    intro u acc e r h
    simp only[rL]at h
    split at h
    ·rename_i p c r' hs
     have h1:r' <:+ u:=(List.suffix_cons c r').trans (hf _ _ _ hs)
     split at h
     ·cases h;exact h1
     ·split at h
      ·exact(ih _ _ _ _ h).trans h1
      ·cases h
    ·cases h
  induction k with
  |
   zero =>
   intro u e r h
   simp only[rd]at h
   split at h
   ·cases h
   ·cases h;exact tw u
  |
   succ k ih =>
   intro u e r h
   simp only[rd]at h
   split at h
   ·split at h
    ·split at h
     ·exact(ll _ ih _ _ _ _ _ h).trans (List.suffix_cons _ _)
     ·cases h
    ·cases h
   ·cases h;exact tw u
 obtain⟨p,hp⟩:=suf k u e r h
 have hlt:=xz k u e r h
 have:=congrArg List.length hp
 simp only[ax]at this
 exact⟨p.length,by rw[<-hp];simp,by omega,by omega⟩
theorem AI(n:Nat)(u:List UInt8)(acc:List E):rL (fun _=>none) n u acc=none:=by
 cases n<;>rfl
theorem QM(s:List UInt8)(j:Nat):an Tryz.prog 152 [.v (.string (mk s)),.v (.int .i64 (j:Int)),.v (.int .i64 ((300+1:Nat):Int))] [] (B5 s none):=by
 refine L0 _ _ _ ?_
 simp only[Gi,↓zq,zs,ac]
 exact⟨fun _=>⟨rfl,[],_,(bp).mpr trivial,rfl⟩,fun h=>by omega⟩
theorem pO(s:List UInt8)(hs:s.length<=8000)(d i:Nat)(hd:d<=300)(hi:i<=s.length)(f:List UInt8->Option (E×List UInt8))(hf:∀u e r,f u=some (e,r)->∃j,r=u.drop j/\0<j/\j<=u.length)
 (ih:∀j,j<=s.length->an Tryz.prog 152 [.v (.string (mk s)),.v (.int .i64 (j:Int)),.v (.int .i64 ((d+1:Nat):Int))] [] (B5 s (f (s.drop j)))) (x:Option (E×List UInt8))
 (h0:i=s.length->x=none)
 (h1:i<s.length->(s.drop i).takeWhile eN≠[]->x=some (.atom ((s.drop i).takeWhile eN),(s.drop i).dropWhile eN))
 (h2:i<s.length->(s.drop i).takeWhile eN=[]->¬(s.getD i 0).toNat=40->x=none)
 (h3:i<s.length->(s.getD i 0).toNat=40->x=rL f (s.length-(i+1)+1) (s.drop (i+1)) []) :
 an Tryz.prog 152 [.v (.string (mk s)),.v (.int .i64 (i:Int)),.v (.int .i64 (d:Int))] [] (B5 s x):=by
 refine L0 _ _ _ ?_
 simp only[Gi,↓zq,zs,ac,zt]
 refine⟨fun h=>by omega,fun _=>⟨fun h=>?_,fun h=>⟨by omega,?_⟩⟩⟩
 ·rw[h0 (by omega)]
  exact⟨rfl,[],_,(bp).mpr trivial,rfl⟩
 ·have hlt:i<s.length:=by omega
  rw[lV s i hlt]
  refine⟨fun h40=>?_,fun h40=>?_⟩
  ·have h40':¬(s.getD i 0).toNat=40:=by omega
   refine cr (Nb s hs _ [] [] _ _ ((bp).mpr trivial) ((bp).mpr trivial) (s.length-i) i (by omega)) ?_
   have hex:(List.take (i+((s.drop i).takeWhile eN).length) s).drop i=(s.drop i).takeWhile eN:=by
    rw[List.drop_take,Nat.add_sub_cancel_left];exact tM _
   have hle:i+((s.drop i).takeWhile eN).length<=s.length:=by
    have:=tD (s.drop i);simp only[cn]at this;omega
   simp only[jc,↓zq,zs,ac,zt,hex]
   refine⟨by omega,fun hnil=>?_,fun hnil=>?_⟩
   ·rw[h2 hlt hnil h40',hnil]
    exact⟨rfl,[],_,(bp).mpr trivial,rfl⟩
   ·rw[h1 hlt hnil]
    refine⟨rfl,?_⟩
    have:=tD (s.drop i)
    simp only[cn]at this
    show _=AV.cI [E.kj (.atom _),_]
    have e:s.length-((s.drop i).dropWhile eN).length=i+((s.drop i).takeWhile eN).length:=by omega
    rw[e];rfl
  ·have h40':(s.getD i 0).toNat=40:=by omega
   rw[h3 hlt h40']
   refine kJ (J4 s hs d hd f hf ih (s.length-(i+1)+1) i [] [] _ ((bp).mpr trivial) (by omega) hlt (by simp;omega)) ?_ ?_
   ·rintro ys o ⟨h,_⟩;cases h
   ·rintro ys o ⟨_,hr⟩
    cases hq:rL f (s.length-(i+1)+1) (s.drop (i+1)) []with
    |
     none =>
     rw[hq]at hr
     obtain⟨es,rfl,rfl⟩:=hr
     simp only[jc,↓zq,zs,ac]
     exact⟨rfl,[],_,(ca _).mpr trivial,rfl⟩
    |
     some q =>
     obtain⟨e,u⟩:=q
     rw[hq]at hr
     obtain⟨l,rfl,rfl,rfl⟩:=hr
     simp only[jc,↓zq,zs,ac]
     exact⟨rfl,rfl⟩
theorem Oz(s:List UInt8)(hs:s.length<=8000):∀(k:Nat),k<=300->∀i,i<=s.length->an Tryz.prog 152 [.v (.string (mk s)),.v (.int .i64 (i:Int)),.v (.int .i64 ((300-k:Nat):Int))] [] (B5 s (rd k (s.drop i))):=by
 intro k
 have hnil:∀k,rd k []=none:=fun k=>by cases k<;>simp[rd]
 have ha40:∀b:UInt8,b.toNat=40->eN b=false:=fun b hb=>by simp[eN,hb]
 induction k with
 |
  zero =>
  intro hk i hi
  refine pO s hs 300 i (by omega) hi (fun _=>none) (fun _ _ _ h=>by cases h) (fun j _=>QM s j) _ (fun h=>?_) (fun hlt h=>?_) (fun hlt h h40=>?_) (fun hlt h40=>?_)
  ·rw[bL (by omega)];exact hnil 0
  ·simp only[rd,if_neg h]
  ·simp only[rd,if_pos h]
  ·rw[AI]
   have:(s.drop i).takeWhile eN=[]:=qi hlt (ha40 _ h40)
   simp only[rd,if_pos this]
 |
  succ k ih =>
  intro hk i hi
  have hd:300-(k+1)+1=300-k:=by omega
  refine pO s hs (300-(k+1)) i (by omega) hi (rd k) (Dx k) (fun j hj=>by rw[hd];exact ih (by omega) j hj) _ (fun h=>?_) (fun hlt h=>?_) (fun hlt h h40=>?_) (fun hlt h40=>?_)
  ·rw[bL (by omega)];exact hnil _
  ·simp only[rd,if_neg h]
  ·rw[drop_cons hlt]at h |-
   simp only[rd,if_pos h,if_neg h40]
  ·have h:=qi hlt (ha40 _ h40)
   rw[drop_cons hlt]at h |-
   simp only[rd,if_pos h,if_pos h40,cn]
end Go.Proofs.Trees
namespace Go.Proofs.Trees
open Go Go.VL
theorem iM(e:E):AV.agg [.v (.string ((e.ii.getD 0 .any).ai)),e.ii.getD 1 .any]=e.kj:=by cases e<;>rfl
theorem gf(e:E):e.ii.length=2:=by cases e<;>rfl
theorem iF(e:E):bB [.str,.sl] e.ii 0=True:=by
 apply eq_true
 cases e<;>simp[E.ii,bB,eg,bp,ca]
theorem mq(e:E):e.ii.headD .any=.v (.string (mk e.at)):=by cases e<;>rfl
theorem uu(x:E)(l:List E):an Tryz.prog 121 [.agg [.v (.string (mk [])),.sl (E.bm (x::l))]] [] (bA (.v (.string (mk x.at)))):=by
 refine Hq _ _ ((ca _).mpr trivial) ?_
 simp only[Cy,E.bm,↓zq,zs,ac,zt,bA,gf,mq,aq]
 refine⟨fun h=>absurd rfl h,fun _=>⟨fun h=>by omega,fun _=>⟨by omega,by omega⟩⟩⟩
theorem QI:an Tryz.prog 121 [.agg [.v (.string (mk [])),.sl (E.bm [])]] [] (bA (.v (.string (mk [])))):=by
 refine Hq _ _ ((ca _).mpr trivial) ?_
 simp only[Cy,E.bm,↓zq,zs,ac,zt,bA,gf,mq,aq]
 simp
def jT:E->Bool
 | .atom s=>(s==[48])||(s==[49])||gV s||db s
 | .list [x,a,b]=>if x.at=[43]then jT a&&jT b else if x.at=[42]then jT a&&jT b else if x.at=[114,101,99]then db a.at&&jT b else false
 | .list _=>false
theorem yw:∀(e:E),e.ok->an Tryz.prog 165 [e.kj] [] (bA (.v (.bool (jT e))))
 |
  .atom s,hok=>by
  refine Mn _ _ ((bp).mpr trivial) ?_
  have hne:s≠[]:=hok
  simp only[wP,↓zq,zs,ac,zt,bA,jT]
  refine⟨fun _=>⟨fun h=>?_,fun h=>⟨fun h1=>?_,fun h1=>?_⟩⟩,fun h=>absurd h hne⟩
  ·simp[h]
  ·simp[h1]
  ·refine ah (EV s) ?_
   simp only[↓zq,zs,ac]
   refine⟨fun hp=>?_,fun hp=>?_⟩
   ·simp[hp]
   ·refine ah (E9 s) ?_
    simp[↓zq,zs,ac,hp,h,h1]
 |
  .list l,hok=>by
  refine Mn _ _ ((ca _).mpr trivial) ?_
  match l,hok with
  |[],hok=>simp[wP,E.bm,↓zq,zs,ac,zt,bA,jT]
  |[x],hok=>simp[wP,E.bm,↓zq,zs,ac,zt,bA,jT]
  |[x,y],hok=>simp[wP,E.bm,↓zq,zs,ac,zt,bA,jT]
  |
   x::y::z::w::l,hok =>
   simp only[wP,E.bm,↓zq,zs,ac,zt,bA,jT]
   exact⟨fun h=>absurd rfl h,fun _=>⟨fun _=>trivial,fun h=>by omega⟩⟩
  |
   [x,y,z],hok =>
   obtain⟨ok1,ok2,ok3,_⟩:=hok
   simp only[wP,↓zq,zs,ac,zt,bA]
   refine⟨fun h=>absurd rfl h,fun _=>⟨fun h=>absurd rfl h,fun _=>?_⟩⟩
   refine ah (uu x _) ?_
   simp only[E.bm,toNat_one,bi,↓zq,zs,ac,zt,iM,gf,iF,mq,aq,jT]
   refine⟨fun h=>?_,fun h=>⟨fun h1=>?_,fun h1=>⟨fun h2=>?_,fun h2=>?_⟩⟩⟩
   ·rw[if_pos h]
    refine⟨by omega,ah (yw y ok2) ?_⟩
    simp only[↓zq,zs,ac]
    refine⟨fun hy=>⟨by omega,ah (yw z ok3) ?_⟩,fun hy=>?_⟩
    ·simp only[↓zq,zs,ac,hy,bP]
    ·rw[hy];rfl
   ·rw[if_neg h,if_pos h1]
    refine⟨by omega,ah (yw y ok2) ?_⟩
    simp only[↓zq,zs,ac]
    refine⟨fun hy=>⟨by omega,ah (yw z ok3) ?_⟩,fun hy=>?_⟩
    ·simp only[↓zq,zs,ac,hy,bP]
    ·rw[hy];rfl
   ·rw[if_neg h,if_neg h1,if_pos h2]
    refine⟨by omega,by omega,ah (E9 _) ?_⟩
    simp only[↓zq,zs,ac]
    refine⟨fun hy=>⟨by omega,ah (yw z ok3) ?_⟩,fun hy=>?_⟩
    ·simp only[↓zq,zs,ac,hy,bP]
    ·rw[hy];rfl
   ·rw[if_neg h,if_neg h1,if_neg h2]
theorem iP:∀(e:E) (ar:List (List UInt8)),(cQ e ar).isSome=jT e
 |
  .atom s,ar=>by
  simp only[cQ,jT]
  by_cases h:s=[48]
  ·simp[h]
  ·by_cases h1:s=[49]
   ·simp[h1]
   ·rw[if_neg h,if_neg h1]
    by_cases h2:gV s=true
    ·simp[h2]
    ·rw[if_neg h2]
     by_cases h3:db s=true
     ·rw[if_pos h3];cases bI s ar ar.length<;>simp[h3]
     ·rw[if_neg h3];simp[h,h1,h2,h3]
 | .list [],_=>rfl
 | .list [_],_=>rfl
 | .list [_,_],_=>rfl
 | .list (_::_::_::_::_),_=>rfl
 |
  .list [x,a,b],ar=>by
  have ha:=iP a ar
  have hb:=iP b ar
  have hb2:=iP b (ar++[a.at])
  rw[jT]
  by_cases h:x.at=[43]
  ·rw[kR ar h,if_pos h,<-ha,<-hb];cases cQ a ar<;>cases cQ b ar<;>rfl
  ·by_cases h1:x.at=[42]
   ·rw[jO ar h1,if_neg h,if_pos h1,<-ha,<-hb];cases cQ a ar<;>cases cQ b ar<;>rfl
   ·by_cases h2:x.at=[114,101,99]
    ·rw[mv ar h2,if_neg h,if_neg h1,if_pos h2,<-hb2]
     cases db a.at<;>cases cQ b (ar++[a.at])<;>rfl
    ·rw[iR ar h h1 h2,if_neg h,if_neg h1,if_neg h2];rfl
mutual
def E.dA:E->Nat
 | .atom _=>1
 | .list l=>E.fJ l
def E.fJ:List E->Nat
 |[]=>0
 |e::l=>e.dA+E.fJ l
end
mutual
theorem iG:∀e:E,e.dA<=e.sz
 | .atom s=>by simp[E.dA,E.sz]
 | .list l=>by have:=sX l;simp only[E.dA,E.sz];omega
theorem sX:∀l:List E,E.fJ l<=E.jH l
 |[]=>by simp[E.fJ,E.jH]
 |e::l=>by have:=iG e;have:=sX l;simp only[E.fJ,E.jH];omega
end
theorem jq:∀(l:List E) (i:Nat) (h:i<l.length),(E.bm l).getD i []=(l[i]).ii
 |e::l,0,_=>rfl
 |
  e::l,i+1,h=>by
  have:=jq l i (by simpa using h)
  simp only[E.bm,List.getD_cons_succ,List.getElem_cons_succ];exact this
theorem za:∀(l:List E) (i:Nat) (h:i<l.length),E.fJ (l.drop i)=(l[i]).dA+E.fJ (l.drop (i+1)):=by
 intro l i h
 rw[aK h];rfl
theorem ug:∀(l:List E) (i:Nat) (h:i<l.length),E.CL l->(l[i]).ok
 |e::l,0,_,h=>h.1
 |e::l,i+1,hi,h=>ug l i (by simpa using hi) h.2
theorem IT(l:List E)(hl:E.fJ l<1000000)(hll:l.length<1000000)(ih:∀i (h:i<l.length),an Tryz.prog 140 [(l[i]).kj] [] (bA (.v (.int .i64 ((l[i]).dA:Int))))) :
 ∀(k i n:Nat),i+k=l.length->n+E.fJ (l.drop i)<=E.fJ l->FI [.v (.int .i64 (n:Int)),.v (.int .i64 (i:Int))] [.cells [.v (.string (mk [])),.sl (E.bm l)]] (gD 1 [.v (.int .i64 ((n+E.fJ (l.drop i):Nat):Int))] [])
 |
  0,i,n,hi,hn=>by
  refine Lw _ _ _ _ ?_
  simp only[F9,↓zq,zs,ac,dW]
  have:l.drop i=[]:=bL (by omega)
  refine⟨fun h=>by omega,fun _=>?_⟩
  simp[gD,this,E.fJ]
 |
  k+1,i,n,hi,hn=>by
  have hlt:i<l.length:=by omega
  refine Lw _ _ _ _ ?_
  simp only[F9,↓zq,zs,ac,zt,dW,jq l i hlt,gf,iF,iM,aq]
  refine⟨fun _=>⟨by omega,?_⟩,fun h=>by omega⟩
  refine ah (ih i hlt) ?_
  have h1:=za l i hlt
  simp only[↓zq,zs,ac]
  rw[bg i (by omega),wrap64 _ (by omega) (by omega)]
  have:=IT l hl hll ih k (i+1) (n+(l[i]).dA) (by omega) (by omega)
  rw[h1,<-Nat.add_assoc]
  simpa using this
theorem tf:∀l:List E,l.length<=E.jH l
 |[]=>by simp[E.jH]
 |
  e::l=>by
  have:=tf l
  have:1<=e.sz:=by cases e<;>simp[E.sz]
  simp only[E.jH,aB];omega
theorem tH:∀(l:List E) (i:Nat) (h:i<l.length),(l[i]).sz<=E.jH l
 |e::l,0,_=>by simp[E.jH]
 |e::l,i+1,h=>by have:=tH l i (by simpa using h);simp only[E.jH,List.getElem_cons_succ];omega
theorem Ky:∀(n:Nat) (e:E),e.sz<n->e.ok->e.sz<1000000->an Tryz.prog 140 [e.kj] [] (bA (.v (.int .i64 (e.dA:Int))))
 |0,e,hn,_,_=>by omega
 |
  n+1,.atom s,hn,hok,hl=>by
  refine MN _ _ ((bp).mpr trivial) ?_
  have hne:s≠[]:=hok
  simp only[Eh,↓zq,zs,ac,zt,bA]
  exact⟨fun _=>rfl,fun h=>absurd h hne⟩
 |
  n+1,.list l,hn,hok,hl=>by
  refine MN _ _ ((ca _).mpr trivial) ?_
  simp only[E.sz]at hn hl
  have h1:=sX l
  have h2:=tf l
  simp only[Eh,↓zq,zs,ac,zt,bA]
  refine⟨fun h=>absurd rfl h,fun _=>?_⟩
  refine cr (IT l (by omega) (by omega) (fun i hi=>?_) l.length 0 0 (by omega) (by simp)) ?_
  ·have:=tH l i hi
   exact Ky n (l[i]) (by omega) (ug l i hi hok) (by omega)
  ·simp[↓zq,zs,ac,E.dA]
theorem FA(e:E)(h:e.ok)(hl:e.sz<1000000):an Tryz.prog 140 [e.kj] [] (bA (.v (.int .i64 (e.dA:Int)))):=Ky (e.sz+1) e (by omega) h hl
theorem uc{x:E}(h:x.at≠[]):x.dA=1:=by cases x<;>simp[E.at,E.dA]at h |-
theorem BG{s:List UInt8}(h:db s=true):s≠[]:=by rintro rfl;cases h
theorem jW:∀(e:E) (ar:List (List UInt8)) (t:Ty),cQ e ar=some t->e.dA=t.az
 |
  .atom s,ar,t,h=>by
  simp only[cQ]at h
  simp only[E.dA]
  split at h
  ·cases h;rfl
  ·split at h
   ·cases h;rfl
   ·split at h
    ·cases h;rfl
    ·split at h
     ·split at h<;>cases h<;>rfl
     ·cases h
 | .list [],_,_,h=>by cases h
 | .list [_],_,_,h=>by cases h
 | .list [_,_],_,_,h=>by cases h
 | .list (_::_::_::_::_),_,_,h=>by cases h
 |
  .list [x,a,b],ar,t,h=>by
  simp only[E.dA,E.fJ]
  by_cases h0:x.at=[43]
  ·rw[kR ar h0]at h
   have:=uc (x:=x) (by rw[h0];simp)
   split at h
   ·rename_i t1 t2 e1 e2
    cases h
    have:=jW a ar _ e1
    have:=jW b ar _ e2
    simp only[Ty.az];omega
   ·cases h
  ·by_cases h1:x.at=[42]
   ·rw[jO ar h1]at h
    have:=uc (x:=x) (by rw[h1];simp)
    split at h
    ·rename_i t1 t2 e1 e2
     cases h
     have:=jW a ar _ e1
     have:=jW b ar _ e2
     simp only[Ty.az];omega
    ·cases h
   ·by_cases h2:x.at=[114,101,99]
    ·rw[mv ar h2]at h
     have:=uc (x:=x) (by rw[h2];simp)
     split at h
     ·rename_i hl
      have:=uc (BG hl)
      split at h
      ·rename_i t1 e1
       cases h
       have:=jW b _ _ e1
       simp only[Ty.az];omega
      ·cases h
     ·cases h
    ·rw[iR ar h0 h1 h2]at h;cases h
def jP(x:Option E)(b:Bool):AV->List Ob->Prop:=fun r o=>∃c:List UInt8,∃d:AV,LK.sl.has d/\r=.cI [.agg [.v (.string (mk c)),d],.v (.bool b)]/\(b=true->∃e,x=some e/\AV.agg [.v (.string (mk c)),d]=e.kj)
theorem Bl(e:E):∃c:List UInt8,∃d:AV,LK.sl.has d/\e.kj=AV.agg [.v (.string (mk c)),d]:=by
 cases e with
 |atom s=>exact⟨s,_,(bp).mpr trivial,rfl⟩
 |list l=>exact⟨[],_,(ca _).mpr trivial,rfl⟩
theorem jP.ne(x:Option E)(b:Bool)(h:b=true->x.isSome=true):∃r o,jP x b r o:=by
 cases b with
 |false=>exact⟨_,[],[],.v (.slice none 0 0),(bp).mpr trivial,rfl,fun h=>by cases h⟩
 |
  true =>
  cases x with
  |none=>cases h rfl
  |
   some e =>
   obtain⟨c,d,hd,he⟩:=Bl e
   exact⟨_,[],c,d,hd,rfl,fun _=>⟨e,rfl,he.symm⟩⟩
theorem Jp(s:List UInt8):an Tryz.prog 122 [.v (.string (mk s))] [] (jP (qf s) (qf s).isSome):=by
 refine Qf _ ?_
 simp only[I9,↓zq,zs,ac,zt,qf]
 refine⟨fun h=>?_,fun h=>?_⟩
 ·rw[if_pos (by omega)]
  exact⟨[],_,(bp).mpr trivial,rfl,fun h=>by cases h⟩
 ·rw[if_neg (by omega)]
  refine bO (Oz s (by omega) 300 (by omega) 0 (by omega)) (B5.ne _ _) ?_
  rintro r o ⟨rfl,hr⟩
  rw[aZ]at hr
  cases hq:rd 300 s with
  |
   none =>
   rw[hq]at hr
   obtain⟨c,d,hd,rfl⟩:=hr
   simp only[↓zq,zs,ac,zt,bB]
   refine⟨hd,c,d,hd,?_,fun h=>by cases h⟩
   have:((-1:Int)==(s.length:Int))=false:=by
    rw[beq_eq_false_iff_ne];omega
   rw[this];rfl
  |
   some q =>
   obtain⟨e,u⟩:=q
   rw[hq]at hr
   subst hr
   have hlt:=xz _ _ _ _ hq
   obtain⟨c,d,hd,he⟩:=Bl e
   simp only[he,↓zq,zs,ac,zt,bB]
   cases u with
   |
    nil =>
    refine⟨hd,c,d,hd,?_,fun _=>⟨e,rfl,he.symm⟩⟩
    simp
   |
    cons b u =>
    simp only[aB]at hlt |-
    refine⟨hd,c,d,hd,?_,fun h=>by cases h⟩
    have:(((s.length-(u.length+1):Nat):Int)==(s.length:Int))=false:=by simp;omega
    rw[this];rfl
def vL(s:List UInt8):Option E:=match qf s with
 |none=>none
 |some e=>if jT e=true/\e.dA<=400 then some e else none
theorem Gv(s:List UInt8):an Tryz.prog 132 [.v (.string (mk s))] [] (jP (vL s) (vL s).isSome):=by
 refine P7 _ ?_
 unfold MW
 refine bO (Jp s) (jP.ne _ _ (fun h=>h)) ?_
 rintro r o ⟨c,d,hd,rfl,hh⟩
 simp only[↓zq,zs,ac,zt,bB,vL]
 refine⟨hd,fun h=>?_,fun h=>?_⟩
 ·obtain⟨e,he,hce⟩:=hh h
  obtain⟨hok,hsz⟩:=nt he
  rw[he,hce]
  refine ah (yw e hok) ?_
  simp only[↓zq,zs,ac]
  refine⟨fun hi=>?_,fun hi=>?_⟩
  ·refine ah (FA e hok (by omega)) ?_
   simp only[↓zq,zs,ac,hi]
   refine⟨c,d,hd,?_,?_⟩
   ·rw[hce]
    by_cases h4:e.dA<=400
    ·rw[if_pos h4];exact congrArg (fun b=>AV.cI [e.kj,.v (.bool b)]) (decide_eq_true (show ((e.dA:Nat):Int)<=400 by omega))
    ·rw[if_neg h4];exact congrArg (fun b=>AV.cI [e.kj,.v (.bool b)]) (decide_eq_false (show ¬((e.dA:Nat):Int)<=400 by omega))
   ·split
    ·exact fun _=>⟨e,rfl,hce⟩
    ·exact fun h=>by cases h
  ·refine⟨c,d,hd,?_,?_⟩
   ·rw[hce,if_neg (by rw[hi];simp)];rfl
   ·rw[if_neg (by rw[hi];simp)];exact fun h=>by cases h
 ·have hn:qf s=none:=by cases hq:qf s<;>simp[hq]at h |-
  rw[hn]
  exact⟨c,d,hd,rfl,fun h=>by cases h⟩
theorem pq{s:List UInt8}{e:E}(h:vL s=some e):qf s=some e/\jT e=true/\e.dA<=400:=by
 unfold vL at h
 split at h
 ·cases h
 ·split at h
  ·rename_i e' h1 h2;cases h;exact⟨h1,h2⟩
  ·cases h
end Go.Proofs.Trees
namespace Go.Proofs.Trees
open Go Go.VL
def bW:Ty->Bool
 | .name s=>db s
 | .plus a b=>bW a||bW b
 | .times a b=>bW a||bW b
 | .rc a=>bW a
 |_=>false
theorem gZ:∀(t:Ty) (out:List (List UInt8)),(bH t out).any db=(out.any db||bW t)
 |
  .name s,out=>by
  simp only[bH,ph,bW]
  split
  ·rename_i h
   cases hs:db s with
   |false=>simp
   |true=>rw[Bool.or_true,cj];exact⟨s,h,hs⟩
  ·simp
 | .plus a b,out=>by simp only[bH,bW,gZ a,gZ b,Bool.or_assoc]
 | .times a b,out=>by simp only[bH,bW,gZ a,gZ b,Bool.or_assoc]
 | .rc a,out=>by simp only[bH,bW,gZ a]
 | .zero,out=>by simp[bH,bW]
 | .one,out=>by simp[bH,bW]
 | .bN u,out=>by simp[bH,bW]
theorem sf(t:Ty):t.closed = !bW t:=by simp[Ty.closed,gZ]
def pl:Ty->Bool
 | .name s=>decide (s.length<=1)
 | .plus a b=>pl a&&pl b
 | .times a b=>pl a&&pl b
 | .rc a=>false
 |_=>true
theorem lN{lo hi:Nat}{s:List UInt8}(h:named lo hi s=true):∃c r,s=c::r/\lo<=c.toNat/\c.toNat<=hi:=by
 cases s with
 |nil=>cases h
 |cons c r=>simp only[named,ap,decide_eq_true_eq]at h;exact⟨c,r,rfl,by omega,by omega⟩
theorem fF{x a b:E}{ar:List (List UInt8)}{t:Ty}(hx:x.at=[43])(h:cQ (.list [x,a,b]) ar=some t):∃t1 t2,cQ a ar=some t1/\cQ b ar=some t2/\t=.plus t1 t2:=by
 rw[kR ar hx]at h
 split at h
 ·rename_i t1 t2 e1 e2;cases h;exact⟨t1,t2,e1,e2,rfl⟩
 ·cases h
theorem eU{x a b:E}{ar:List (List UInt8)}{t:Ty}(hx:x.at=[42])(h:cQ (.list [x,a,b]) ar=some t):∃t1 t2,cQ a ar=some t1/\cQ b ar=some t2/\t=.times t1 t2:=by
 rw[jO ar hx]at h
 split at h
 ·rename_i t1 t2 e1 e2;cases h;exact⟨t1,t2,e1,e2,rfl⟩
 ·cases h
theorem dy{x a b:E}{ar:List (List UInt8)}{t:Ty}(hx:x.at=[114,101,99])(h:cQ (.list [x,a,b]) ar=some t):∃t1,db a.at=true/\cQ b (ar++[a.at])=some t1/\t=.rc t1:=by
 rw[mv ar hx]at h
 split at h
 ·rename_i hl
  split at h
  ·rename_i t1 e1;cases h;exact⟨t1,hl,e1,rfl⟩
  ·cases h
 ·cases h
theorem s8{s:List UInt8}:qe s=match vL s with|none=>none|some e=>cQ e []:=by
 unfold qe vL
 cases he:qf s with
 |none=>rfl
 |
  some e =>
  have hs:=iP e []
  simp only
  cases ht:cQ e []with
  |
   none =>
   rw[ht]at hs
   rw[if_neg (by rw[<-hs];simp)]
  |
   some t =>
   rw[ht]at hs
   have ha:=jW e [] t ht
   by_cases h4:e.dA<=400
   ·rw[if_pos ⟨hs.symm,h4⟩];dsimp only;rw[if_neg (by omega)];exact ht.symm
   ·rw[if_neg (fun h=>h4 h.2)];dsimp only;rw[if_pos (by omega)]
end Go.Proofs.Trees
namespace Go.Proofs.Trees
open Go Go.VL
def pure:Ty->Bool
 | .zero=>true
 | .one=>true
 | .name s=>(s==[120])||(s==[121])||(s==[122])
 | .plus a b=>pure a&&pure b
 | .times a b=>pure a&&pure b
 |_=>false
def LF(v:Nat):Option Nat:=if v<=1000000000 then some v else none
def HI(n:Nat):Ty->Option Nat
 | .zero=>some 0
 | .one=>some 1
 | .name _=>some n
 | .plus a b=>match HI n a,HI n b with|some x,some y=>LF (x+y)|_,_=>none
 | .times a b=>match HI n a,HI n b with|some x,some y=>LF (x*y)|_,_=>none
 |_=>none
def JJ(x:Option Nat):AV->List Ob->Prop:=fun r o=>∃v:Int,r=.cI [.v (.int .i64 v),.v (.bool x.isSome)]/\∀c,x=some c->v=(c:Int)
theorem JJ.ne(x:Option Nat):∃r o,JJ x r o:=by
 cases x with
 |none=>exact⟨_,[],0,rfl,fun c h=>by cases h⟩
 |some c=>exact⟨_,[],(c:Int),rfl,fun c' h=>by cases h;rfl⟩
end Go.Proofs.Trees
namespace Go.Proofs.Trees
open Go Go.VL Go.RowKit
abbrev dd(n:Nat):List UInt8:=Lib.decDigits n
theorem eD{k:Nat}(h:k<10):dd k=[ba (48+k)]:=by rw[dd,Lib.decDigits,dif_pos h]
theorem fh{k:Nat}(h:¬k<10):dd k=dd (k/10)++[ba (48+k%10)]:=by rw[dd,Lib.decDigits,dif_neg h]
theorem lz:∀(n k:Nat),k<n->(dd k).length<=k+1
 |0,k,h=>by omega
 |
  n+1,k,h=>by
  by_cases h1:k<10
  ·rw[eD h1];simp
  ·rw[fh h1]
   have:=lz n (k/10) (by omega)
   simp only[ax,aB,aJ];omega
theorem uk(d:Nat)(h:d<10):(Value.int .u8 (IntKind.wrap .u8 (IntKind.wrap .i64 (48+(d:Int)))))=.int .u8 ((ba (48+d)).toNat:Int):=by
 have:d=0\/d=1\/d=2\/d=3\/d=4\/d=5\/d=6\/d=7\/d=8\/d=9:=by omega
 rcases this with rfl|rfl|rfl|rfl|rfl|rfl|rfl|rfl|rfl|rfl<;>rfl
theorem j5(b:UInt8):bytesOf [[.v (.int .u8 (b.toNat:Int))]]=[b]:=by simp[bytesOf,xH]
theorem jA(b:UInt8):ja [[.v (.int .u8 (b.toNat:Int))]]:=⟨rfl,(mP _ _).mpr trivial,trivial⟩
theorem BC:∀(n k:Nat),k<n->k<1000000000->an Tryz.prog 142 [.v (.int .i64 (k:Int))] [] (bA (.v (.string (mk (dd k)))))
 |0,k,h,_=>by omega
 |
  n+1,k,h,hk=>by
  refine Oo _ ?_
  simp only[Ki,↓zq,zs,ac,bA]
  refine⟨fun h=>by omega,fun _=>⟨fun h=>by omega,fun _=>⟨fun h1=>?_,fun h1=>⟨by omega,?_⟩⟩⟩⟩
  ·rw[uk k (by omega)]
   refine⟨jA _,?_⟩
   rw[j5,eD (by omega)];rfl
  ·have e1:IntKind.wrap .i64 (Int.tdiv (k:Int) 10)=((k/10:Nat):Int):=by
    rw[show Int.tdiv (k:Int) 10=((k/10:Nat):Int) from (Int.ofNat_tdiv k 10).symm,wrap64 _ (by omega) (by omega)]
   have e2:Int.tmod (k:Int) 10=((k%10:Nat):Int):=(Int.ofNat_tmod k 10).symm
   rw[e1,e2,uk (k%10) (by omega)]
   refine ah (BC n (k/10) (by omega) (by omega)) ?_
   have hl:=lz (k+1) (k/10) (by omega)
   simp only[↓zq,zs,ac,zt,j5]
   have h9:(k:Int)<1000000000:=by omega
   refine⟨by omega,jA _,?_,?_⟩
   ·show (mk (dd (k/10))).size+(mk [ba (48+k%10)]).size<=_
    rw[cw,cw];simp;omega
   ·show AV.v (.string (mk (dd (k/10))++mk [ba (48+k%10)]))=_
    rw[jB,fh (k:=k) (by omega)]
theorem Cc(s:List UInt8)(d:AV)(hd:LK.sl.has d)(h:s≠[]):an Tryz.prog 121 [.agg [.v (.string (mk s)),d]] [] (bA (.v (.string (mk [])))):=by
 refine Hq _ _ hd ?_
 simp only[Cy,↓zq,zs,ac,zt,bA]
 exact⟨fun _=>trivial,fun h'=>absurd h' h⟩
theorem CP(e:E):AV.agg [.v (.string ((e.kj.cs.getD 0 .any).ai)),e.kj.cs.getD 1 .any]=e.kj:=by cases e<;>rfl
mutual
def fQ:E->List UInt8
 | .atom s=>s
 | .list []=>[40,41]
 | .list (e::l)=>40::(fQ e++(en l++[41]))
def en:List E->List UInt8
 |[]=>[]
 |e::l=>32::(fQ e++en l)
end
theorem yI:∀(l:List E) (i:Nat) (h:i<l.length),en (l.drop i)=32::(fQ l[i]++en (l.drop (i+1))):=by
 intro l i h
 rw[aK h,en]
theorem K3(l:List E)(hll:l.length<1000000000000)(ih:∀i (h:i<l.length),an Tryz.prog 97 [(l[i]).kj] [] (bA (.v (.string (mk (fQ l[i])))))) :
 ∀(k i:Nat) (out:List UInt8),i+k=l.length->1<=i->out.length+(en (l.drop i)).length<=1000000000000->BM [.v (.string (mk out)),.v (.int .i64 (i:Int))] [.cells [.v (.string (mk [])),.sl (E.bm l)]] (gD 1 [.v (.string (mk (out++en (l.drop i))))] [])
 |
  0,i,out,hi,h1,hn=>by
  refine CI _ _ _ _ ?_
  simp only[zW,↓zq,zs,ac,dW]
  have:l.drop i=[]:=bL (by omega)
  refine⟨fun h=>by omega,fun _=>?_⟩
  simp[gD,this,en]
 |
  k+1,i,out,hi,h1,hn=>by
  have hlt:i<l.length:=by omega
  have hd:=yI l i hlt
  rw[hd]at hn
  simp only[aB,ax]at hn
  refine CI _ _ _ _ ?_
  simp only[zW,↓zq,zs,ac,zt,dW,jq l i hlt,gf,iF,iM,aq]
  refine⟨fun _=>⟨fun _=>⟨by omega,by omega,?_⟩,fun h=>by omega⟩,fun h=>by omega⟩
  refine ah (ih i hlt) ?_
  simp only[↓zq,zs,ac,zt]
  refine⟨by simp;omega,?_⟩
  rw[bg i (by omega),hd]
  have:=K3 l hll ih k (i+1) (out++[32]++fQ l[i]) (by omega) (by omega) (by simp;omega)
  simpa using this
theorem ym:∀(l:List E) (i:Nat) (h:i<l.length),(fQ l[i]).length<=(en l).length
 |e::l,0,_=>by simp only[en,List.getElem_cons_zero,aB,ax];omega
 |e::l,i+1,h=>by have:=ym l i (by simpa using h);simp only[en,List.getElem_cons_succ,aB,ax];omega
theorem rC:∀l:List E,l.length<=(en l).length
 |[]=>by simp[en]
 |e::l=>by have:=rC l;simp only[en,aB,ax];omega
theorem FD:∀(n:Nat) (e:E),e.sz<n->e.ok->(fQ e).length<=900000000000->an Tryz.prog 97 [e.kj] [] (bA (.v (.string (mk (fQ e)))))
 |0,e,hn,_,_=>by omega
 |
  n+1,.atom s,hn,hok,hl=>by
  refine E6 _ _ ((bp).mpr trivial) ?_
  have hne:s≠[]:=hok
  simp only[Ci,↓zq,zs,ac,zt,bA]
  exact⟨fun _=>rfl,fun h=>absurd h hne⟩
 |
  n+1,.list [],hn,hok,hl=>by
  refine E6 _ _ ((ca _).mpr trivial) ?_
  simp only[Ci,↓zq,zs,ac,zt,bA]
  refine⟨fun h=>absurd rfl h,fun _=>?_⟩
  have h1:BM [.v (.string (mk [40])),.v (.int .i64 0)] [.cells [.v (.string (mk [])),.sl (E.bm [])]] (gD 1 [.v (.string (mk [40]))] []):=by
   refine CI _ _ _ _ ?_
   simp[zW,↓zq,zs,ac,E.bm,gD]
  refine cr h1 ?_
  simp only[↓zq,zs,ac,zt]
  exact⟨by simp,rfl⟩
 |
  n+1,.list (x::l),hn,hok,hl=>by
  refine E6 _ _ ((ca _).mpr trivial) ?_
  simp only[E.sz,E.jH]at hn
  simp only[fQ,aB,ax,aJ]at hl
  have h2:=rC l
  simp only[Ci,↓zq,zs,ac,zt,bA]
  refine⟨fun h=>absurd rfl h,fun _=>?_⟩
  have hL:BM [.v (.string (mk [40])),.v (.int .i64 0)] [.cells [.v (.string (mk [])),.sl (E.bm (x::l))]] (gD 1 [.v (.string (mk ([40]++fQ x++en l)))] []):=by
   refine CI _ _ _ _ ?_
   simp only[zW,E.bm,Int.toNat_zero,↓zq,zs,ac,zt,dW,gf,iF,iM,aq]
   refine⟨fun _=>⟨fun h=>by omega,fun _=>⟨by omega,?_⟩⟩,fun h=>by omega⟩
   refine ah (FD n x (by omega) hok.1 (by omega)) ?_
   simp only[↓zq,zs,ac,zt]
   refine⟨by simp;omega,?_⟩
   have:=K3 (x::l) (by simp;omega) (fun i hi=>by
    have h3:=tH (x::l) i hi
    simp only[E.jH]at h3
    refine FD n _ (by omega) (ug _ i hi hok) ?_
    have h4:=ym (x::l) i hi
    simp only[en,aB,ax]at h4
    omega) l.length 1 ([40]++fQ x) (by simp;omega) (by omega) (by simp;omega)
   rw[show IntKind.wrap .i64 (0+1)=1 from rfl]
   simpa[E.bm]using this
  refine cr hL ?_
  simp only[↓zq,zs,ac,zt]
  refine⟨by simp;omega,?_⟩
  simp[fQ]
theorem Cz(e:E)(h:e.ok)(hl:(fQ e).length<=900000):an Tryz.prog 97 [e.kj] [] (bA (.v (.string (mk (fQ e))))):=FD (e.sz+1) e (by omega) h (by omega)
mutual
def E.nd:E->Nat
 | .atom _=>1
 | .list []=>1
 | .list (_::l)=>1+E.uo l
def E.uo:List E->Nat
 |[]=>0
 |e::l=>e.nd+E.uo l
end
mutual
theorem Aj:∀e:E,e.nd<=e.sz
 | .atom s=>by simp[E.nd,E.sz]
 | .list []=>by simp[E.nd,E.sz,E.jH]
 | .list (x::l)=>by have:=wL l;simp only[E.nd,E.sz,E.jH];omega
theorem wL:∀l:List E,E.uo l<=E.jH l
 |[]=>by simp[E.uo,E.jH]
 |e::l=>by have:=Aj e;have:=wL l;simp only[E.uo,E.jH];omega
end
theorem AG:∀(l:List E) (i:Nat) (h:i<l.length),E.uo (l.drop i)=(l[i]).nd+E.uo (l.drop (i+1)):=by
 intro l i h
 rw[aK h];rfl
theorem Iw(l:List E)(hl:E.uo l<1000000)(hll:l.length<1000000)(ih:∀i (h:i<l.length),an Tryz.prog 124 [(l[i]).kj] [] (bA (.v (.int .i64 ((l[i]).nd:Int))))) :
 ∀(k i n:Nat),i+k=l.length->n+E.uo (l.drop i)<=1+E.uo l->Af [.v (.int .i64 (n:Int)),.v (.int .i64 (i:Int))] [.cells [.v (.string (mk [])),.sl (E.bm l)]] (gD 1 [.v (.int .i64 ((n+E.uo (l.drop i):Nat):Int))] [])
 |
  0,i,n,hi,hn=>by
  refine Cf _ _ _ _ ?_
  simp only[Bs,↓zq,zs,ac,dW]
  have:l.drop i=[]:=bL (by omega)
  refine⟨fun h=>by omega,fun _=>?_⟩
  simp[gD,this,E.uo]
 |
  k+1,i,n,hi,hn=>by
  have hlt:i<l.length:=by omega
  refine Cf _ _ _ _ ?_
  simp only[Bs,↓zq,zs,ac,zt,dW,jq l i hlt,gf,iF,iM,aq]
  refine⟨fun _=>⟨by omega,?_⟩,fun h=>by omega⟩
  refine ah (ih i hlt) ?_
  have h1:=AG l i hlt
  simp only[↓zq,zs,ac]
  rw[bg i (by omega),wrap64 _ (by omega) (by omega)]
  have:=Iw l hl hll ih k (i+1) (n+(l[i]).nd) (by omega) (by omega)
  rw[h1,<-Nat.add_assoc]
  simpa using this
theorem Is:∀(n:Nat) (e:E),e.sz<n->e.sz<900000->an Tryz.prog 124 [e.kj] [] (bA (.v (.int .i64 (e.nd:Int))))
 |0,e,hn,_=>by omega
 |
  n+1,.atom s,hn,hl=>by
  refine If _ _ ((bp).mpr trivial) ?_
  simp only[Hw]
  have hL:Af [.v (.int .i64 1),.v (.int .i64 1)] [.cells [.v (.string (mk s)),.v (.slice none 0 0)]] (gD 1 [.v (.int .i64 1)] []):=by
   refine Cf _ _ _ _ ?_
   simp[Bs,↓zq,zs,ac,gD]
  refine cr hL ?_
  simp[↓zq,zs,ac,bA,E.nd]
 |
  n+1,.list l,hn,hl=>by
  refine If _ _ ((ca _).mpr trivial) ?_
  simp only[E.sz]at hn hl
  simp only[Hw]
  match l,hn,hl with
  |
   [],hn,hl =>
   have hL:Af [.v (.int .i64 1),.v (.int .i64 1)] [.cells [.v (.string (mk [])),.sl (E.bm [])]] (gD 1 [.v (.int .i64 1)] []):=by
    refine Cf _ _ _ _ ?_
    simp[Bs,↓zq,zs,ac,gD,E.bm]
   refine cr hL ?_
   simp[↓zq,zs,ac,bA,E.nd]
  |
   x::l,hn,hl =>
   simp only[E.jH]at hn hl
   have h1:=wL l
   have h2:=tf l
   have h0:=Aj x
   refine cr (Iw (x::l) (by simp only[E.uo];omega) (by simp;omega) (fun i hi=>?_) l.length 1 1 (by simp;omega) (by simp[E.uo])) ?_
   ·have:=tH (x::l) i hi
    simp only[E.jH]at this
    exact Is n _ (by omega) (by omega)
   ·simp[↓zq,zs,ac,E.nd,bA]
theorem Pd(e:E)(hl:e.sz<900000):an Tryz.prog 124 [e.kj] [] (bA (.v (.int .i64 (e.nd:Int)))):=Is (e.sz+1) e (by omega) hl
inductive Vl where
 |u
 |el (k:Nat)
 |l (v:Vl)
 |r (v:Vl)
 |f (v:Vl)
 |p (a b:Vl)
abbrev wl(k:Nat):List UInt8:=101::dd k
abbrev gp:AV:=.v (.pointer none)
def Vl.cx:Vl->AV
 | .u=>.ptr [.v (.int .u8 117),.v (.string (mk [])),gp,gp]
 | .el k=>.ptr [.v (.int .u8 101),.v (.string (mk (wl k))),gp,gp]
 | .l v=>.ptr [.v (.int .u8 108),.v (.string (mk [])),v.cx,gp]
 | .r v=>.ptr [.v (.int .u8 114),.v (.string (mk [])),v.cx,gp]
 | .f v=>.ptr [.v (.int .u8 102),.v (.string (mk [])),v.cx,gp]
 | .p a b=>.ptr [.v (.int .u8 112),.v (.string (mk [])),a.cx,b.cx]
def Vl.cH:Vl->E
 | .u=>.atom [117]
 | .el k=>.atom (wl k)
 | .l v=>.list [.atom [108],v.cH]
 | .r v=>.list [.atom [114],v.cH]
 | .f v=>.list [.atom [102],v.cH]
 | .p a b=>.list [.atom [112],a.cH,b.cH]
def Vl.nodes:Vl->Nat
 | .l v=>1+v.nodes
 | .r v=>1+v.nodes
 | .f v=>1+v.nodes
 | .p a b=>1+a.nodes+b.nodes
 |_=>1
def Vl.iu(n:Nat):Vl->Prop
 | .el k=>k<n
 | .l v=>v.iu n
 | .r v=>v.iu n
 | .f v=>v.iu n
 | .p a b=>a.iu n/\b.iu n
 | .u=>True
abbrev Vl.cK(v:Vl):List UInt8:=fQ v.cH
theorem aH(v:Vl):LK.has .ptr v.cx=True:=by cases v<;>simp[Vl.cx,bV]
theorem fm(v:Vl):v.cx.isNil=false:=by cases v<;>rfl
theorem my:∀v:Vl,v.cH.ok
 | .u=>by simp[Vl.cH,E.ok]
 | .el k=>by simp[Vl.cH,E.ok]
 | .l v=>⟨by simp[E.ok],my v,trivial⟩
 | .r v=>⟨by simp[E.ok],my v,trivial⟩
 | .f v=>⟨by simp[E.ok],my v,trivial⟩
 | .p a b=>⟨by simp[E.ok],my a,my b,trivial⟩
theorem nD:∀v:Vl,v.cH.nd=v.nodes
 | .u=>rfl
 | .el k=>rfl
 | .l v=>by simp[Vl.cH,E.nd,E.uo,Vl.nodes,nD v]
 | .r v=>by simp[Vl.cH,E.nd,E.uo,Vl.nodes,nD v]
 | .f v=>by simp[Vl.cH,E.nd,E.uo,Vl.nodes,nD v]
 | .p a b=>by simp[Vl.cH,E.nd,E.uo,Vl.nodes,nD a,nD b,Nat.add_assoc]
theorem iT:∀v:Vl,v.iu 100->v.cK.length<=200*v.nodes
 | .u,_=>by simp[Vl.cK,Vl.cH,fQ,Vl.nodes]
 |
  .el k,h=>by
  have h':k<100:=h
  have:=lz 1000 k (by omega)
  simp only[Vl.cK,Vl.cH,fQ,Vl.nodes,aB];omega
 | .l v,h=>by have:=iT v h;simp only[Vl.cK,Vl.cH,fQ,en,Vl.nodes,aB,ax,aJ]at this |-;omega
 | .r v,h=>by have:=iT v h;simp only[Vl.cK,Vl.cH,fQ,en,Vl.nodes,aB,ax,aJ]at this |-;omega
 | .f v,h=>by have:=iT v h;simp only[Vl.cK,Vl.cH,fQ,en,Vl.nodes,aB,ax,aJ]at this |-;omega
 | .p a b,h=>by have:=iT a h.1;have:=iT b h.2;simp only[Vl.cK,Vl.cH,fQ,en,Vl.nodes,aB,ax,aJ]at *;omega
theorem yK(a b:AV)(h:LK.ptr.has a)(h':LK.ptr.has b):an Tryz.prog 117 [a,b] [] (bA (.ptr [.v (.int .u8 112),.v (.string (mk [])),a,b])):=by
 refine Pu _ _ h h' ?_
 simp[Nq,↓zq,zs,ac,bA]
theorem dD(v:Vl):1<=v.nodes:=by cases v<;>simp[Vl.nodes]<;>omega
theorem D1:∀(v:Vl),v.nodes<1000000->an Tryz.prog 75 [v.cx] [] (bA (.v (.int .i64 (v.nodes:Int))))
 | .u,h=>by refine zd _ ((aH _).mpr trivial) ?_;simp[wt,Vl.cx,↓zq,zs,ac,bA,Vl.nodes]
 | .el k,h=>by refine zd _ ((aH _).mpr trivial) ?_;simp[wt,Vl.cx,↓zq,zs,ac,bA,Vl.nodes]
 |
  .l v,h=>by
  simp only[Vl.nodes]at h
  refine zd _ ((aH _).mpr trivial) ?_
  simp only[wt,Vl.cx,↓zq,zs,ac,aH,fm]
  refine⟨by omega,fun _=>⟨by omega,?_⟩,fun h=>(by cases h)⟩
  refine ah (D1 v (by omega)) ?_
  simp only[↓zq,zs,ac,bA,Vl.nodes]
  rw[wrap64 _ (by omega) (by omega)]
  simp
 |
  .r v,h=>by
  simp only[Vl.nodes]at h
  refine zd _ ((aH _).mpr trivial) ?_
  simp only[wt,Vl.cx,↓zq,zs,ac,aH,fm]
  refine⟨by omega,fun _=>⟨by omega,?_⟩,fun h=>(by cases h)⟩
  refine ah (D1 v (by omega)) ?_
  simp only[↓zq,zs,ac,bA,Vl.nodes]
  rw[wrap64 _ (by omega) (by omega)]
  simp
 |
  .f v,h=>by
  simp only[Vl.nodes]at h
  refine zd _ ((aH _).mpr trivial) ?_
  simp only[wt,Vl.cx,↓zq,zs,ac,aH,fm]
  refine⟨by omega,fun _=>⟨by omega,?_⟩,fun h=>(by cases h)⟩
  refine ah (D1 v (by omega)) ?_
  simp only[↓zq,zs,ac,bA,Vl.nodes]
  rw[wrap64 _ (by omega) (by omega)]
  simp
 |
  .p a b,h=>by
  simp only[Vl.nodes]at h
  refine zd _ ((aH _).mpr trivial) ?_
  simp only[wt,Vl.cx,↓zq,zs,ac,aH,fm]
  refine⟨by omega,fun _=>⟨by omega,?_⟩,fun h=>(by cases h)⟩
  refine ah (D1 a (by omega)) ?_
  simp only[↓zq,zs,ac,aH,fm]
  rw[wrap64 (1+(a.nodes:Int)) (by omega) (by omega)]
  refine⟨by omega,fun _=>⟨by omega,?_⟩,fun h=>(by cases h)⟩
  refine ah (D1 b (by omega)) ?_
  simp only[↓zq,zs,ac,bA,Vl.nodes]
  rw[wrap64 _ (by omega) (by omega)]
  congr 2
end Go.Proofs.Trees
namespace Go.Proofs.Trees
open Go Go.VL Go.RowKit
def yU:List UInt8->Nat->Option Nat
 |[],n=>some n
 |b::r,n=>if hJ b=true then yU r (10*n+(b.toNat-48))else none
def fK(s:List UInt8):Option Nat :=
 if s.length=2\/s.length=3 then(if s.getD 0 0=101/\¬(s.length=3/\s.getD 1 0=48)then yU (s.drop 1) 0 else none)else none
def zL(s:List UInt8):Int:=match fK s with|some k=>(k:Int)|none=>-1
theorem Ir(s:List UInt8)(hs:s.length<=3):∀(k i n:Nat),i+k=s.length->1<=i->(n+1)*10 ^ k<=1000->GF [.v (.string (mk s)),.v (.int .i64 (n:Int)),.v (.int .i64 (i:Int))] []
 (nv (match yU (s.drop i) n with|some m=>(1,[.v (.int .i64 (m:Int))],[])|none=>(2,[.v (.int .i64 (-1))],[])))
 |
  0,i,n,hi,h1,hn=>by
  refine Jv _ _ _ ?_
  have hd:s.drop i=[]:=bL (by omega)
  simp only[Fk,↓zq,zs,ac,zt,hd,yU]
  exact⟨fun h=>by omega,fun _=>by first|trivial|rfl⟩
 |
  k+1,i,n,hi,h1,hn=>by
  have hlt:i<s.length:=by omega
  refine Jv _ _ _ ?_
  rw[drop_cons hlt,yU]
  simp only[Fk,↓zq,zs,ac,zt,lV s i hlt]
  generalize s.getD i 0=b
  have hb:=b.toNat_lt
  refine⟨fun _=>⟨by omega,fun h48=>?_,fun h48=>⟨by omega,fun h57=>?_,fun h57=>⟨by omega,?_⟩⟩⟩,fun h=>by omega⟩
  ·have:hJ b=false:=by simp only[hJ,decide_eq_false_iff_not];omega
   rw[this];rfl
  ·have:hJ b=false:=by simp only[hJ,decide_eq_false_iff_not];omega
   rw[this];rfl
  ·have:hJ b=true:=by simp only[hJ,decide_eq_true_eq];omega
   rw[if_pos this]
   have hk:k=0\/k=1:=by omega
   have hn2:n*10<=1000:=by
    rcases hk with rfl|rfl<;>simp at hn<;>omega
   have e8:IntKind.wrap .u8 ((b.toNat:Int)-48)=((b.toNat-48:Nat):Int):=by
    have:b.toNat=48\/b.toNat=49\/b.toNat=50\/b.toNat=51\/b.toNat=52\/b.toNat=53\/b.toNat=54\/b.toNat=55\/b.toNat=56\/b.toNat=57:=by omega
    rcases this with h|h|h|h|h|h|h|h|h|h<;>rw[h]<;>rfl
   rw[e8,bg i (by omega),wrap64 ((b.toNat-48:Nat):Int) (by omega) (by omega),wrap64 (10*(n:Int)) (by omega) (by omega),wrap64 _ (by omega) (by omega)]
   have e:(10*(n:Int)+((b.toNat-48:Nat):Int))=((10*n+(b.toNat-48):Nat):Int):=by omega
   rw[e]
   exact Ir s hs k (i+1) _ (by omega) (by omega) (by rcases hk with rfl|rfl<;>simp at hn |-<;>omega)
theorem Ip(s:List UInt8):an Tryz.prog 153 [.v (.string (mk s))] [] (bA (.v (.int .i64 (zL s)))):=by
 refine Qt _ ?_
 unfold K0
 refine ah (yr _ _ _) ?_
 simp only[↓zq,zs,ac,zt,wS,bA]
 have hL:∀(Q:Nat->List AV->List Ob->Prop),(s.length=2\/s.length=3)->s.getD 0 0=101->¬(s.length=3/\s.getD 1 0=48)->(Q 0 [.v (.int .i64 (zL s))] []) ->
  eM Tryz.prog 49 (.loop CQ zZ [.v (.string (mk s)),.v (.int .i64 0),.v (.int .i64 1)] [] (fun y2 q2=>.al (LK.has (.int .i64) (y2.headD .any))<|.done 0 [.v (.int .i64 ((y2.headD .any).toInt))] []) (fun y2 q2=>.al (LK.has (.int .i64) (y2.headD .any))<|.done 0 [.v (.int .i64 ((y2.headD .any).toInt))] [])) Q:=by
  intro Q hl h0 h1 hQ
  have e:fK s=yU (s.drop 1) 0:=by rw[fK,if_pos hl,if_pos ⟨h0,h1⟩]
  refine eX (Ir s (by omega) (s.length-1) 1 0 (by omega) (by omega) (by rcases hl with h|h<;>rw[h]<;>decide)) (fun ys o e'=>?_) (fun ys o e'=>?_)
  ·cases hq:yU (s.drop 1) 0<;>rw[hq]at e'<;>cases e'
   rw[hq]at e
   simp only[zL,e]at hQ
   simp only[↓zq,zs,ac];exact hQ
  ·cases hq:yU (s.drop 1) 0<;>rw[hq]at e'<;>cases e'
   rw[hq]at e
   simp only[zL,e]at hQ
   simp only[↓zq,zs,ac];exact hQ
 have hz:∀{i:Nat},i<s.length->bt (mk s) (i:Int)=((s.getD i 0).toNat:Int):=fun h=>lV s _ h
 refine⟨fun h=>?_,fun h=>⟨?_,fun h0=>?_,fun h0=>⟨fun h3=>⟨by omega,fun h1=>?_,fun h1=>?_⟩,fun h3=>?_⟩⟩⟩
 ·have h':¬(2<=(s.length:Int)/\(s.length:Int)<=3):=by simpa using h
  rw[zL,fK,if_neg (by omega)]
 ·have h':2<=(s.length:Int)/\(s.length:Int)<=3:=by simpa using h
  omega
 ·have h':2<=(s.length:Int)/\(s.length:Int)<=3:=by simpa using h
  have e0:=hz (i:=0) (by omega)
  simp only[cR,dh]at e0
  rw[e0]at h0
  rw[zL,fK,if_pos (by omega),if_neg]
  rintro⟨e,_⟩
  rw[e]at h0;exact h0 rfl
 ·have h':2<=(s.length:Int)/\(s.length:Int)<=3:=by simpa using h
  have e1:=hz (i:=1) (by omega)
  simp only[cR,dh]at e1
  rw[e1]at h1
  rw[zL,fK,if_pos (by omega),if_neg]
  rintro⟨_,e⟩
  refine e ⟨by omega,?_⟩
  rw[<-dP];show (s.getD 1 0).toNat=48;omega
 ·have h':2<=(s.length:Int)/\(s.length:Int)<=3:=by simpa using h
  have e0:=hz (i:=0) (by omega)
  have e1:=hz (i:=1) (by omega)
  simp only[cR,dh]at e0 e1
  rw[e0]at h0;rw[e1]at h1
  refine hL _ (by omega) ?_ ?_ ⟨rfl,rfl⟩
  ·rw[<-dP];show (s.getD 0 0).toNat=101;omega
  ·rintro⟨_,e⟩;rw[e]at h1;exact h1 rfl
 ·have h':2<=(s.length:Int)/\(s.length:Int)<=3:=by simpa using h
  have e0:=hz (i:=0) (by omega)
  simp only[cR,dh]at e0
  rw[e0]at h0
  refine hL _ (by omega) ?_ ?_ ⟨rfl,rfl⟩
  ·rw[<-dP];show (s.getD 0 0).toNat=101;omega
  ·rintro⟨e,_⟩;omega
theorem nR:∀(l:List UInt8) (n:Nat),(yU l n).isSome=l.all hJ
 |[],n=>rfl
 |
  b::l,n=>by
  rw[yU]
  cases hb:hJ b with
  |true=>rw[if_pos rfl,nR l];simp[hb]
  |false=>rw[if_neg (by simp)];simp[hb]
theorem IA(s:List UInt8):an Tryz.prog 161 [.v (.string (mk s))] [] (bA (.v (.bool (fK s).isSome))):=by
 refine Pa _ ?_
 simp only[Na,↓zq,zs,ac,zt,bA]
 have hz:∀{i:Nat},i<s.length->bt (mk s) (i:Int)=((s.getD i 0).toNat:Int):=fun h=>lV s _ h
 refine⟨fun h=>?_,fun h=>⟨fun h3=>?_,fun h3=>?_⟩⟩
 ·rw[fK,if_neg (by omega)];rfl
 ·rw[fK,if_neg (by omega)];rfl
 ·have e0:=hz (i:=0) (by omega)
  have e1:=hz (i:=1) (by omega)
  simp only[cR,dh]at e0 e1
  rw[e0,e1]
  have hx:s.drop (bF 1)=s.drop 1:=rfl
  refine⟨by omega,fun h0=>?_,fun h0=>⟨by omega,?_⟩⟩
  ·rw[fK,if_pos (by omega),if_neg]
   ·rfl
   ·rintro⟨e,_⟩;rw[e]at h0;exact h0 rfl
  ·rw[hx]
   refine ah (Lv (s.drop 1) Hb (by simp;omega) (by decide) (by decide)) ?_
   simp only[↓zq,zs,ac,zt]
   have h101:s.getD 0 0=101:=by rw[<-dP];show (s.getD 0 0).toNat=101;omega
   have hall:Lib.trimS (s.drop 1) Hb=[]↔(s.drop 1).all hJ=true:=by
    rw[sL]
    have:(fun x=>Hb.contains x)=hJ:=funext vi
    rw[this]
   refine⟨fun ht=>?_,fun ht=>⟨fun h2=>?_,fun h2=>⟨by omega,?_⟩⟩⟩
   ·have:(s.drop 1).all hJ=false:=by
     cases hq:(s.drop 1).all hJ with
     |false=>rfl
     |true=>exact absurd (hall.2 hq) ht
    rw[fK,if_pos (by omega)]
    split
    ·rw[nR,this]
    ·rfl
   ·have hq:=hall.1 ht
    rw[fK,if_pos (by omega),if_pos ⟨h101,by omega⟩,nR,hq]
   ·have hq:=hall.1 ht
    rw[fK,if_pos (by omega)]
    by_cases h48:s.getD 1 0=48
    ·rw[if_neg (by rintro⟨_,e⟩;exact e ⟨by omega,h48⟩),h48];rfl
    ·rw[if_pos ⟨h101,fun e=>h48 e.2⟩,nR,hq]
     have:¬((s.getD 1 0).toNat:Int)=48:=fun e=>h48 (by rw[<-dP];show (s.getD 1 0).toNat=48;omega)
     rw[bne_iff_ne.2 this]
theorem sS{s:List UInt8}{k:Nat}(h:fK s=some k):s=wl k/\k<100:=by
 have key1:∀a:Fin 256,hJ (ba a.val)=true->yU [ba a.val] 0=some ((ba a.val).toNat-48)/\(ba a.val).toNat-48<10/\[ba a.val]=[ba (48+((ba a.val).toNat-48))]:=by decide +kernel
 unfold fK at h
 split at h
 ·rename_i hl
  split at h
  ·rename_i hh
   obtain⟨h0,h1⟩:=hh
   rcases hl with hl|hl
   ·match s,hl with
    |
     [c,a],_ =>
     simp only[bo]at h0
     subst h0
     simp only[List.drop_succ_cons,aZ,yU]at h
     split at h
     ·rename_i ha
      have:=key1 ⟨a.toNat,a.toNat_lt⟩ (by simpa using ha)
      simp only[UInt8.ofNat_toNat]at this
      cases h
      refine⟨?_,by omega⟩
      rw[wl,eD (by omega)]
      simp only[Nat.mul_zero,aU]
      rw[<-this.2.2]
     ·cases h
   ·match s,hl with
    |
     [c,a,b],_ =>
     simp only[bo,List.getD_cons_succ,aB,aJ,true_and]at h0 h1
     subst h0
     simp only[List.drop_succ_cons,aZ,yU]at h
     split at h
     ·rename_i ha
      split at h
      ·rename_i hb
       have k1:=key1 ⟨a.toNat,a.toNat_lt⟩ (by simpa using ha)
       have k2:=key1 ⟨b.toNat,b.toNat_lt⟩ (by simpa using hb)
       simp only[UInt8.ofNat_toNat]at k1 k2
       have ha':48<=a.toNat/\a.toNat<=57:=by simpa[hJ]using ha
       have hb':48<=b.toNat/\b.toNat<=57:=by simpa[hJ]using hb
       have h48:a.toNat≠48:=fun e=>h1 (by rw[<-dP];simpa using e)
       cases h
       simp only[Nat.mul_zero,aU]
       refine⟨?_,by omega⟩
       rw[wl,fh (by omega),eD (by omega)]
       have e1:(10*(a.toNat-48)+(b.toNat-48))/10=a.toNat-48:=by omega
       have e2:(10*(a.toNat-48)+(b.toNat-48))%10=b.toNat-48:=by omega
       rw[e1,e2,<-k1.2.2,<-k2.2.2];rfl
      ·cases h
     ·cases h
  ·cases h
 ·cases h
theorem uR(k:Nat)(h:k<100):fK (wl k)=some k:=by
 have e:∀k,k<100->dd k=if k<10 then [ba (48+k)]else [ba (48+k/10),ba (48+k%10)]:=by
  intro k hk
  by_cases h1:k<10
  ·rw[eD h1,if_pos h1]
  ·rw[fh h1,eD (by omega),if_neg h1];rfl
 have key:∀k:Fin 100,fK (101::(if k.val<10 then [ba (48+k.val)]else [ba (48+k.val/10),ba (48+k.val%10)]))=some k.val:=by decide +kernel
 rw[wl,e k h];exact key ⟨k,h⟩
theorem Eb(k:Nat)(h:k<100):zL (wl k)=(k:Int):=by rw[zL,uR k h]
def xJ:E->Bool
 | .atom s=>(s==[117])||(fK s).isSome
 | .list [x,a]=>((x.at==[108])||(x.at==[114])||(x.at==[102]))&&xJ a
 | .list [x,a,b]=>(x.at==[112])&&(xJ a&&xJ b)
 | .list _=>false
def fH:E->Option Vl
 | .atom s=>if s=[117]then some .u else match fK s with|some k=>some (.el k)|none=>none
 |
  .list [x,a]=>match fH a with
  |none=>none
  |some v=>if x.at=[108]then some (.l v)else if x.at=[114]then some (.r v)else if x.at=[102]then some (.f v)else none
 | .list [x,a,b]=>if x.at=[112]then(match fH a,fH b with|some v,some w=>some (.p v w)|_,_=>none)else none
 | .list _=>none
theorem nU:∀e:E,(fH e).isSome=xJ e
 |
  .atom s=>by
  simp only[fH,xJ]
  by_cases h:s=[117]
  ·simp[h]
  ·rw[if_neg h];cases fK s<;>simp[h]
 | .list []=>rfl
 | .list [_]=>rfl
 |
  .list [x,a]=>by
  have ha:=nU a
  rw[fH,xJ,<-ha]
  cases fH a with
  |none=>simp
  |
   some v =>
   by_cases h1:x.at=[108]
   ·simp[h1]
   ·by_cases h2:x.at=[114]
    ·simp[h2]
    ·by_cases h3:x.at=[102]
     ·simp[h3]
     ·simp[h1,h2,h3]
 |
  .list [x,a,b]=>by
  have ha:=nU a
  have hb:=nU b
  rw[fH,xJ,<-ha,<-hb]
  by_cases h1:x.at=[112]
  ·rw[if_pos h1,h1];cases fH a<;>cases fH b<;>rfl
  ·simp[h1]
 | .list (_::_::_::_::_)=>rfl
theorem jZ{x:E}{w:List UInt8}(h:x.at=w)(hw:w≠[]):x=.atom w:=by
 cases x with
 |atom s=>exact congrArg E.atom h
 |list l=>exact absurd h.symm hw
theorem kE:∀(e:E) (v:Vl),fH e=some v->v.cH=e/\v.iu 100
 |
  .atom s,v,h=>by
  simp only[fH]at h
  split at h
  ·rename_i h1;cases h;exact⟨by rw[h1];rfl,trivial⟩
  ·split at h
   ·rename_i k hk
    cases h
    obtain⟨h1,h2⟩:=sS hk
    exact⟨by rw[h1];rfl,h2⟩
   ·cases h
 | .list [],_,h=>by cases h
 | .list [_],_,h=>by cases h
 | .list (_::_::_::_::_),_,h=>by cases h
 |
  .list [x,a],v,h=>by
  rw[fH]at h
  split at h
  ·cases h
  ·rename_i w hw
   obtain⟨h1,h2⟩:=kE a w hw
   split at h
   ·rename_i hx;cases h;rw[jZ hx (by simp)];exact⟨by rw[Vl.cH,h1],h2⟩
   ·split at h
    ·rename_i hx;cases h;rw[jZ hx (by simp)];exact⟨by rw[Vl.cH,h1],h2⟩
    ·split at h
     ·rename_i hx;cases h;rw[jZ hx (by simp)];exact⟨by rw[Vl.cH,h1],h2⟩
     ·cases h
 |
  .list [x,a,b],v,h=>by
  rw[fH]at h
  split at h
  ·rename_i hx
   split at h
   ·rename_i w1 w2 hw1 hw2
    cases h
    obtain⟨h1,h2⟩:=kE a w1 hw1
    obtain⟨h3,h4⟩:=kE b w2 hw2
    rw[jZ hx (by simp)]
    exact⟨by rw[Vl.cH,h1,h3],h2,h4⟩
   ·cases h
  ·cases h
def pB(e:E)(w:List UInt8)(k:Nat):Bool:=match e with| .list (x::l)=>decide (l.length+1=k)&&(x.at==w)|_=>false
theorem sb(e:E)(w:List UInt8)(k:Nat)(hk:1<=k):an Tryz.prog 162 [e.cx,.v (.string (mk w)),.v (.int .i64 (k:Int))] [] (bA (.v (.bool (pB e w k)))):=by
 refine MS _ _ _ ((cT e).mpr trivial) ?_
 cases e with
 |atom s=>simp only[Ar,E.cx,↓zq,zs,ac,zt,bA,pB];exact⟨by omega,fun h=>by omega,fun _=>trivial⟩
 |
  list l =>
  simp only[Ar,E.cx,↓zq,zs,ac,zt,bA,qK]
  cases l with
  |nil=>exact⟨by simp,fun h=>by simp at h;omega,fun _=>rfl⟩
  |
   cons x l =>
   simp only[aB]
   refine⟨by simp,fun h=>?_,fun h=>?_⟩
   ·have:decide (l.length+1=k)=true:=by rw[decide_eq_true_eq];omega
    simp only[pB,this]
    cases x<;>simp[E.lX,E.cx,bV,oS,jz,eg,tt,toList_mk,E.at]
   ·have:decide (l.length+1=k)=false:=by rw[decide_eq_false_iff_not];omega
    simp only[pB,this];rfl
def je:Option Vl->AV
 |some v=>v.cx
 |none=>.v (.pointer none)
end Go.Proofs.Trees
namespace Go.Proofs.Trees
open Go Go.VL Go.RowKit
theorem gn(v:Option Vl):LK.has .ptr (je v)=True:=by cases v<;>simp[je,aH,hZ]
theorem yO:∀(e:E),e.ok->an Tryz.prog 129 [e.cx] [] (bA (je (fH e)))
 |
  .atom s,hok=>by
  refine Jl _ ((cT _).mpr trivial) ?_
  have hd:=np (.atom s)
  have hlen:=lr (.atom s)
  simp only[E.at]at hd
  simp only[Gj,↓zq,zs,ac,zt,bA,cT,eh,hd,fH]
  refine⟨hlen,fun h=>?_,fun h=>⟨hlen,?_⟩⟩
  ·rw[if_pos h];rfl
  ·rw[if_neg h]
   refine ah (IA s) ?_
   simp only[↓zq,zs,ac,zt]
   refine⟨fun he=>⟨hlen,?_⟩,fun he=>?_⟩
   ·obtain⟨k,hk⟩:=ck.1 he
    obtain⟨h1,h2⟩:=sS hk
    rw[hk,h1];rfl
   ·have hn:fK s=none:=by cases hq:fK s<;>simp[hq]at he |-
    rw[hn]
    refine ah (sb (.atom s) [108] 2 (by omega)) ?_
    simp only[pB,↓zq,zs,ac,zf]
    refine⟨fun h=>(by cases h),fun _=>ah (sb (.atom s) [114] 2 (by omega)) ?_⟩
    simp only[pB,↓zq,zs,ac,zf]
    refine⟨fun h=>(by cases h),fun _=>ah (sb (.atom s) [102] 2 (by omega)) ?_⟩
    simp only[pB,↓zq,zs,ac,zf]
    refine⟨fun h=>(by cases h),fun _=>ah (sb (.atom s) [112] 3 (by omega)) ?_⟩
    simp only[pB,↓zq,zs,ac,zf]
    exact⟨fun h=>(by cases h),fun _=>rfl⟩
 |
  .list l,hok=>by
  refine Jl _ ((cT _).mpr trivial) ?_
  have hd:=np (.list l)
  have hlen:=lr (.list l)
  have hlen2:∀{l:List E},((AV.v (.string (mk [])))::[AV.sl (E.lX l)]).length=2:=rfl
  simp only[E.at]at hd
  have he:fK []=none:=rfl
  simp only[Gj,↓zq,zs,ac,zt,bA,cT,eh,hd]
  refine⟨hlen,fun h=>(by cases h),fun h=>⟨hlen,?_⟩⟩
  refine ah (IA []) ?_
  rw[he]
  simp only[↓zq,zs,ac,zt,zf,bq]
  refine⟨fun h=>(by cases h),fun _=>ah (sb (.list l) [108] 2 (by omega)) ?_⟩
  have hno:∀w:List UInt8,(∀x a,l≠[x,a])->pB (.list l) w 2=false:=by
   intro w h2
   match l,h2 with
   |[],_=>rfl
   |[x],_=>rfl
   |[x,a],h2=>exact absurd rfl (h2 x a)
   |x::y::z::l,_=>simp[pB]
  match l,hok,hno,hlen with
  |
   [x,a],hok,hno,hlen =>
   clear hno
   obtain⟨ok1,ok2,_⟩:=hok
   have e2:∀w:List UInt8,pB (.list [x,a]) w 2=(x.at==w):=fun w=>rfl
   have e3:pB (.list [x,a]) [112] 3=false:=rfl
   have hx:=np x
   have hxl:=lr x
   rw[fH]
   simp only[e2,↓zq,zs,ac]
   refine⟨fun h1=>?_,fun h1=>ah (sb (.list [x,a]) [114] 2 (by omega)) ?_⟩
   ·simp only[E.cx,E.lX,toNat_one,↓zq,zs,ac,zt,cT,eh]
    refine⟨by omega,by omega,by omega,ah (yO a ok2) ?_⟩
    cases hv:fH a with
    |none=>simp only[je,↓zq,zs,ac,gn];exact⟨fun _=>trivial,fun h=>(by cases h)⟩
    |
     some v =>
     simp only[je,↓zq,zs,ac,zt,aH,fm,hx,h1,cT,eh]
     refine⟨fun h=>(by cases h),fun _=>⟨by omega,by omega,by omega,hxl,by simp,?_⟩⟩
     rfl
   ·simp only[e2,↓zq,zs,ac]
    refine⟨fun h2=>?_,fun h2=>ah (sb (.list [x,a]) [102] 2 (by omega)) ?_⟩
    ·simp only[E.cx,E.lX,toNat_one,↓zq,zs,ac,zt,cT,eh]
     refine⟨by omega,by omega,by omega,ah (yO a ok2) ?_⟩
     cases hv:fH a with
     |none=>simp only[je,↓zq,zs,ac,gn];exact⟨fun _=>trivial,fun h=>(by cases h)⟩
     |
      some v =>
      simp only[je,↓zq,zs,ac,zt,aH,fm,hx,h2,cT,eh]
      refine⟨fun h=>(by cases h),fun _=>⟨by omega,by omega,by omega,hxl,by simp,?_⟩⟩
      rfl
    ·simp only[e2,↓zq,zs,ac]
     refine⟨fun h3=>?_,fun h3=>ah (sb (.list [x,a]) [112] 3 (by omega)) ?_⟩
     ·simp only[E.cx,E.lX,toNat_one,↓zq,zs,ac,zt,cT,eh]
      refine⟨by omega,by omega,by omega,ah (yO a ok2) ?_⟩
      cases hv:fH a with
      |none=>simp only[je,↓zq,zs,ac,gn];exact⟨fun _=>trivial,fun h=>(by cases h)⟩
      |
       some v =>
       simp only[je,↓zq,zs,ac,zt,aH,fm,hx,h3,cT,eh]
       refine⟨fun h=>(by cases h),fun _=>⟨by omega,by omega,by omega,hxl,by simp,?_⟩⟩
       rfl
     ·rw[e3]
      simp only[↓zq,zs,ac]
      refine⟨fun h=>(by cases h),fun _=>?_⟩
      cases fH a with
      |none=>rfl
      |some v=>simp only[if_neg h1,if_neg h2,if_neg h3];rfl
  |
   [x,a,b],hok,hno,hlen =>
   obtain⟨ok1,ok2,ok3,_⟩:=hok
   have h2:=fun w=>hno w (fun x a h=>(by cases h))
   rw[h2]
   simp only[↓zq,zs,ac]
   refine⟨fun h=>(by cases h),fun _=>ah (sb (.list [x,a,b]) [114] 2 (by omega)) ?_⟩
   rw[h2]
   simp only[↓zq,zs,ac]
   refine⟨fun h=>(by cases h),fun _=>ah (sb (.list [x,a,b]) [102] 2 (by omega)) ?_⟩
   rw[h2]
   simp only[↓zq,zs,ac]
   refine⟨fun h=>(by cases h),fun _=>ah (sb (.list [x,a,b]) [112] 3 (by omega)) ?_⟩
   have e3:pB (.list [x,a,b]) [112] 3=(x.at==[112]):=rfl
   rw[e3,fH]
   simp only[↓zq,zs,ac]
   refine⟨fun h1=>?_,fun h1=>?_⟩
   ·rw[if_pos h1]
    simp only[E.cx,E.lX,toNat_one,bi,↓zq,zs,ac,zt,cT,eh]
    refine⟨by omega,by omega,by omega,ah (yO a ok2) ?_⟩
    simp only[↓zq,zs,ac,gn,cT]
    refine⟨by omega,by omega,by omega,ah (yO b ok3) ?_⟩
    cases hv:fH a with
    |none=>cases hw:fH b<;>simp only[je,↓zq,zs,ac,gn,aH]<;>exact⟨fun _=>trivial,fun h=>(by cases h)⟩
    |
     some v =>
     cases hw:fH b with
     |
      none =>
      simp only[je,↓zq,zs,ac,gn,aH,fm]
      exact⟨fun h=>(by cases h),fun _=>⟨fun _=>trivial,fun h=>(by cases h)⟩⟩
     |
      some w =>
      simp only[je,↓zq,zs,ac,aH,fm]
      refine⟨fun h=>(by cases h),fun _=>⟨fun h=>(by cases h),fun _=>?_⟩⟩
      refine ah (yK _ _ ((aH _).mpr trivial) ((aH _).mpr trivial)) ?_
      simp only[↓zq,zs,ac];rfl
   ·rw[if_neg h1];rfl
  |
   [],hok,hno,hlen =>
   have h2:=fun w=>hno w (fun x a h=>(by cases h))
   have e3:pB (.list []) [112] 3=false:=rfl
   rw[h2]
   simp only[↓zq,zs,ac]
   refine⟨fun h=>(by cases h),fun _=>ah (sb (.list []) [114] 2 (by omega)) ?_⟩
   rw[h2]
   simp only[↓zq,zs,ac]
   refine⟨fun h=>(by cases h),fun _=>ah (sb (.list []) [102] 2 (by omega)) ?_⟩
   rw[h2]
   simp only[↓zq,zs,ac]
   refine⟨fun h=>(by cases h),fun _=>ah (sb (.list []) [112] 3 (by omega)) ?_⟩
   rw[e3]
   simp only[↓zq,zs,ac]
   exact⟨fun h=>(by cases h),fun _=>rfl⟩
  |
   [x],hok,hno,hlen =>
   have h2:=fun w=>hno w (fun x a h=>(by cases h))
   have e3:pB (.list [x]) [112] 3=false:=rfl
   rw[h2]
   simp only[↓zq,zs,ac]
   refine⟨fun h=>(by cases h),fun _=>ah (sb (.list [x]) [114] 2 (by omega)) ?_⟩
   rw[h2]
   simp only[↓zq,zs,ac]
   refine⟨fun h=>(by cases h),fun _=>ah (sb (.list [x]) [102] 2 (by omega)) ?_⟩
   rw[h2]
   simp only[↓zq,zs,ac]
   refine⟨fun h=>(by cases h),fun _=>ah (sb (.list [x]) [112] 3 (by omega)) ?_⟩
   rw[e3]
   simp only[↓zq,zs,ac]
   exact⟨fun h=>(by cases h),fun _=>rfl⟩
  |
   x::y::z::w::l,hok,hno,hlen =>
   have h2:=fun w=>hno w (fun x a h=>(by cases h))
   have e3:pB (.list (x::y::z::w::l)) [112] 3=false:=by simp[pB]
   rw[h2]
   simp only[↓zq,zs,ac]
   refine⟨fun h=>(by cases h),fun _=>ah (sb (.list (x::y::z::w::l)) [114] 2 (by omega)) ?_⟩
   rw[h2]
   simp only[↓zq,zs,ac]
   refine⟨fun h=>(by cases h),fun _=>ah (sb (.list (x::y::z::w::l)) [102] 2 (by omega)) ?_⟩
   rw[h2]
   simp only[↓zq,zs,ac]
   refine⟨fun h=>(by cases h),fun _=>ah (sb (.list (x::y::z::w::l)) [112] 3 (by omega)) ?_⟩
   rw[e3]
   simp only[↓zq,zs,ac]
   exact⟨fun h=>(by cases h),fun _=>rfl⟩
def rM(s:List UInt8):Option Vl:=match qf s with
 |none=>none
 |
  some e=>match fH e with
  |none=>none
  |some v=>if v.nodes>200 then none else some v
theorem lG{s:List UInt8}{v:Vl}(h:rM s=some v):qf s=some v.cH/\v.iu 100/\v.nodes<=200:=by
 unfold rM at h
 split at h
 ·cases h
 ·rename_i e he
  split at h
  ·cases h
  ·rename_i w hw
   split at h
   ·cases h
   ·cases h
    obtain⟨h1,h2⟩:=kE e _ hw
    rw[h1]
    exact⟨he,h2,by omega⟩
theorem wg{e:E}{v:Vl}(h:fH e=some v):v.nodes<=e.sz:=by
 obtain⟨h1,_⟩:=kE e v h
 rw[<-nD,h1];exact Aj e
theorem Pk(s:List UInt8):an Tryz.prog 94 [.v (.string (mk s))] [] (bA (je (rM s))):=by
 refine OL _ ?_
 unfold Kb
 refine ah (Jd s) ?_
 unfold rM
 cases he:qf s with
 |none=>simp only[tz,↓zq,zs,ac,bA,je];simp
 |
  some e =>
  obtain⟨h1,h2⟩:=nt he
  simp only[tz,↓zq,zs,ac,cT,eh]
  refine⟨fun h=>(by cases h),fun _=>?_⟩
  refine ah (yO e h1) ?_
  cases hv:fH e with
  |none=>simp only[je,↓zq,zs,ac,bA];simp
  |
   some v =>
   have hn:=wg hv
   simp only[je,↓zq,zs,ac,aH,fm]
   refine⟨fun h=>(by cases h),fun _=>?_⟩
   refine ah (D1 v (by omega)) ?_
   simp only[↓zq,zs,ac,bA]
   refine⟨fun h=>?_,fun h=>?_⟩
   ·rw[if_pos (by omega)]
   ·rw[if_neg (by omega)]
theorem yY:∀(e:E),e.ok->an Tryz.prog 123 [e.kj] [] (bA (.v (.bool (xJ e))))
 |
  .atom s,hok=>by
  refine yP _ _ ((bp).mpr trivial) ?_
  have hne:s≠[]:=hok
  simp only[Hn,↓zq,zs,ac,zt,bA,xJ]
  refine⟨fun _=>⟨fun h=>?_,fun h=>?_⟩,fun h=>absurd h hne⟩
  ·simp[h]
  ·refine ah (Ip s) ?_
   have h':(s==[117])=false:=by simpa using h
   simp only[↓zq,zs,ac,h',Bool.false_or]
   congr 2
   rw[zL]
   cases fK s with
   |none=>rfl
   |some k=>simp
 |
  .list [],hok=>by
  refine yP _ _ ((ca _).mpr trivial) ?_
  simp only[Hn,↓zq,zs,ac,zt,bA,xJ]
  refine⟨fun h=>absurd rfl h,fun _=>?_⟩
  refine ah QI ?_
  simp[↓zq,zs,ac,zt]
 |
  .list [x],hok=>by
  refine yP _ _ ((ca _).mpr trivial) ?_
  simp only[Hn,↓zq,zs,ac,zt,bA,xJ]
  refine⟨fun h=>absurd rfl h,fun _=>?_⟩
  refine ah (uu x _) ?_
  simp[↓zq,zs,ac,zt,E.bm]
 |
  .list (x::y::z::w::l),hok=>by
  refine yP _ _ ((ca _).mpr trivial) ?_
  simp only[Hn,↓zq,zs,ac,zt,bA,xJ]
  refine⟨fun h=>absurd rfl h,fun _=>?_⟩
  refine ah (uu x _) ?_
  simp only[↓zq,zs,ac,zt,E.bm]
  refine⟨fun _=>⟨fun h=>by omega,fun _=>trivial⟩,fun _=>⟨fun _=>⟨fun h=>by omega,fun _=>trivial⟩,fun _=>⟨fun _=>⟨fun h=>by omega,fun _=>trivial⟩,fun _=>⟨fun _=>⟨fun h=>by omega,fun _=>trivial⟩,fun _=>trivial⟩⟩⟩⟩
 |
  .list [x,a],hok=>by
  refine yP _ _ ((ca _).mpr trivial) ?_
  obtain⟨ok1,ok2,_⟩:=hok
  simp only[Hn,↓zq,zs,ac,zt,bA,xJ]
  refine⟨fun h=>absurd rfl h,fun _=>?_⟩
  refine ah (uu x _) ?_
  simp only[E.bm,toNat_one,bi,↓zq,zs,ac,zt,iM,gf,iF,mq,aq]
  refine⟨fun h=>⟨fun _=>⟨by omega,?_⟩,fun h=>by omega⟩,fun h1=>⟨fun h=>⟨fun _=>⟨by omega,?_⟩,fun h=>by omega⟩,fun h2=>⟨fun h=>⟨fun _=>⟨by omega,?_⟩,fun h=>by omega⟩,fun h3=>⟨fun h=>⟨fun h=>by omega,fun _=>?_⟩,fun h=>?_⟩⟩⟩⟩
  ·refine ah (yY a ok2) ?_
   simp[↓zq,zs,ac,h]
  ·refine ah (yY a ok2) ?_
   simp[↓zq,zs,ac,h]
  ·refine ah (yY a ok2) ?_
   simp[↓zq,zs,ac,h]
  ·simp[h]
  ·simp[h1,h2,h3]
 |
  .list [x,a,b],hok=>by
  refine yP _ _ ((ca _).mpr trivial) ?_
  obtain⟨ok1,ok2,ok3,_⟩:=hok
  simp only[Hn,↓zq,zs,ac,zt,bA,xJ]
  refine⟨fun h=>absurd rfl h,fun _=>?_⟩
  refine ah (uu x _) ?_
  simp only[E.bm,toNat_one,bi,↓zq,zs,ac,zt,iM,gf,iF,mq,aq]
  refine⟨fun h=>⟨fun h=>by omega,fun _=>?_⟩,fun h1=>⟨fun h=>⟨fun h=>by omega,fun _=>?_⟩,fun h2=>⟨fun h=>⟨fun h=>by omega,fun _=>?_⟩,fun h3=>⟨fun h=>⟨fun _=>⟨by omega,?_⟩,fun h=>by omega⟩,fun h=>?_⟩⟩⟩⟩
  ·simp[h]
  ·simp[h]
  ·simp[h]
  ·refine ah (yY a ok2) ?_
   simp only[↓zq,zs,ac,h]
   refine⟨fun ha=>⟨by omega,ah (yY b ok3) ?_⟩,fun ha=>?_⟩
   ·simp[↓zq,zs,ac,ha]
   ·simp[ha]
  ·simp[h]
theorem BW(s:List UInt8):an Tryz.prog 89 [.v (.string (mk s))] [] (jP ((rM s).map Vl.cH) (rM s).isSome):=by
 refine N9 _ ?_
 unfold My
 refine bO (Jp s) (jP.ne _ _ (fun h=>h)) ?_
 rintro r o ⟨c,d,hd,rfl,hh⟩
 simp only[↓zq,zs,ac,zt,bB,rM]
 refine⟨hd,fun h=>?_,fun h=>?_⟩
 ·obtain⟨e,he,hce⟩:=hh h
  obtain⟨hok,hsz⟩:=nt he
  rw[he,hce]
  refine ah (yY e hok) ?_
  simp only[↓zq,zs,ac]
  have hs:=nU e
  refine⟨fun hi=>?_,fun hi=>?_⟩
  ·rw[hi]at hs
   obtain⟨v,hv⟩:=ck.1 hs
   obtain⟨h1,h2⟩:=kE e v hv
   refine ah (Pd e (by omega)) ?_
   simp only[↓zq,zs,ac,hv]
   have hnd:e.nd=v.nodes:=by rw[<-h1,nD]
   rw[hnd]
   refine⟨c,d,hd,?_,?_⟩
   ·rw[hce]
    by_cases h4:v.nodes>200
    ·rw[if_pos h4];exact congrArg (fun b=>AV.cI [e.kj,.v (.bool b)]) (decide_eq_false (show ¬((v.nodes:Nat):Int)<=200 by omega))
    ·rw[if_neg h4];exact congrArg (fun b=>AV.cI [e.kj,.v (.bool b)]) (decide_eq_true (show ((v.nodes:Nat):Int)<=200 by omega))
   ·split
    ·exact fun h=>by cases h
    ·exact fun _=>⟨e,by simp[h1],hce⟩
  ·rw[hi]at hs
   have hn:fH e=none:=by cases hq:fH e<;>simp[hq]at hs |-
   rw[hn]
   exact⟨c,d,hd,by rw[hce];rfl,fun h=>by cases h⟩
 ·have hn:qf s=none:=by cases hq:qf s<;>simp[hq]at h |-
  rw[hn]
  exact⟨c,d,hd,rfl,fun h=>by cases h⟩
end Go.Proofs.Trees
namespace Go.Proofs.Trees
open Go Go.VL Go.RowKit
inductive Fr where
 |mk (s:List UInt8) (e:E) (o:List Fr)
def Fr.nm:Fr->List UInt8| .mk s _ _=>s
def Fr.ex:Fr->E| .mk _ e _=>e
def Fr.out:Fr->List Fr| .mk _ _ o=>o
def names:List Fr->List (List UInt8)
 |[]=>[]
 |f::r=>names r++[f.nm]
def xO(e:E)(o:List Fr):Ty:=(cQ e (names o)).getD .zero
def E.sp:E->AV
 | .atom _=>.v (.slice none 0 0)
 | .list l=>.sl (E.bm l)
theorem fB(e:E):e.ii=[.v (.string (mk e.at)),e.sp]:=by cases e<;>rfl
theorem dr(e:E):e.kj=.agg [.v (.string (mk e.at)),e.sp]:=by cases e<;>rfl
theorem a6(e:E):LK.has .sl e.sp=True:=by cases e<;>simp[E.sp,bp,ca]
mutual
def Fr.cells:Fr->List AV
 | .mk s e o=>[.v (.string (mk s)),.v (.string (mk e.at)),e.sp,.sl (jY o)]
def jY:List Fr->List (List AV)
 |[]=>[]
 |f::r=>jY r++[f.cells]
end
mutual
def Fr.cx:Fr->AV
 | .mk s e o=>.ptr [(xO e o).av,oH o]
def oH:List Fr->AV
 |[]=>gp
 |f::r=>.ptr [f.cx,oH r]
end
inductive WF:List Fr->Prop
 |nil:WF []
 |cons {s:List UInt8} {x a b:E} {t:Ty} {r:List Fr} (hs:db s=true) (hok:(E.list [x,a,b]).ok) (hx:x.at=[114,101,99]) (ht:cQ (.list [x,a,b]) (names r)=some t) (hf:bW t=false) (hr:WF r):WF (.mk s (.list [x,a,b]) r::r)
theorem kV:∀env:List Fr,(jY env).length=env.length
 |[]=>rfl
 |f::r=>by simp[jY,kV r]
theorem ek(env:List Fr):LK.has .ptr (oH env)=True:=by cases env<;>simp[oH,hZ,bV]
theorem Bg(f:Fr):LK.has .ptr f.cx=True:=by cases f;simp[Fr.cx,bV]
def fR(s:List UInt8):List Fr->Option Fr
 |[]=>none
 |f::r=>if f.nm=s then some f else fR s r
def hd(e:E)(env:List Fr):E×List Fr:=match fR e.at env with|some f=>(f.ex,f.out)|none=>(e,env)
theorem kS{env:List Fr}(h:WF env):fR [] env=none:=by
 induction h with
 |nil=>rfl
 |
  @cons s x a b t r hs hok hx ht hf hr ih =>
  rw[fR,if_neg (show ¬(Fr.mk s (.list [x,a,b]) r).nm=[] from BG hs)];exact ih
theorem yV{env:List Fr}(h:WF env){s:List UInt8}{f:Fr}(hf:fR s env=some f):db s=true:=by
 induction h with
 |nil=>cases hf
 |
  cons hs hok hx ht hf' hr ih =>
  rw[fR]at hf
  split at hf
  ·rename_i e;exact e ▸ hs
  ·exact ih hf
theorem nK{env:List Fr}(h:WF env){s:List UInt8}{f:Fr}(hf:fR s env=some f):∃x a b t,f.ex=.list [x,a,b]/\(E.list [x,a,b]).ok/\x.at=[114,101,99]/\cQ f.ex (names f.out)=some t/\bW t=false/\WF f.out/\f.out.length<env.length:=by
 induction h with
 |nil=>cases hf
 |
  cons hs hok hx ht hf' hr ih =>
  rw[fR]at hf
  split at hf
  ·cases hf;exact⟨_,_,_,_,rfl,hok,hx,ht,hf',hr,by simp[Fr.out]⟩
  ·obtain⟨x,a,b,t,h1,h2,h3,h4,h5,h6,h7⟩:=ih hf
   exact⟨x,a,b,t,h1,h2,h3,h4,h5,h6,by simp;omega⟩
theorem ki(s w:List UInt8)(ar:List (List UInt8)):∀i,i<=ar.length->bI s (ar++[w]) i=(bI s ar i).map (·+1)
 |0,_=>rfl
 |
  i+1,hi=>by
  have hlt:i<ar.length:=by omega
  have e:(ar++[w]).getD i []=ar.getD i []:=by simp[aa,List.getElem?_append_left hlt]
  rw[bI,bI,e,ki s w ar i (by omega)]
  split
  ·simp only[ax,aB,aJ,cy,Option.some.injEq];omega
  ·rfl
theorem vF(s:List UInt8)(f:Fr)(r:List Fr):bI s (names (f::r)) (names (f::r)).length=if f.nm=s then some 0 else(bI s (names r) (names r).length).map (·+1):=by
 have e:(names (f::r)).length=(names r).length+1:=by simp[names]
 rw[e,bI]
 have e2:(names (f::r)).getD (names r).length []=f.nm:=by simp[names,aa]
 rw[e2]
 split
 ·rw[e];simp
 ·rw[names,ki _ _ _ _ (aq _)]
theorem nL(s:List UInt8):∀env:List Fr,bI s (names env) (names env).length=none/\fR s env=none\/∃(u:Nat) (f:Fr),bI s (names env) (names env).length=some u/\fR s env=some f/\env[u]?=some f
 |[]=>.inl ⟨rfl,rfl⟩
 |
  f::r=>by
  rw[vF,fR]
  split
  ·exact .inr ⟨0,f,rfl,rfl,rfl⟩
  ·rcases nL s r with⟨h1,h2⟩|⟨u,g,h1,h2,h3⟩
   ·exact .inl ⟨by rw[h1];rfl,h2⟩
   ·exact .inr ⟨u+1,g,by rw[h1];rfl,h2,by simpa using h3⟩
def Ty.NV:Ty->Bool
 | .bN _=>true
 |_=>false
theorem gl{e:E}{env:List Fr}{t:Ty}(hw:WF env)(ht:cQ e (names env)=some t) :
 (t.NV=false/\fR e.at env=none)\/∃(u:Nat) (f:Fr),t=.bN u/\fR e.at env=some f/\env[u]?=some f:=by
 cases e with
 |
  list l =>
  left
  refine⟨?_,kS hw⟩
  match l,ht with
  |
   [x,a,b],ht =>
   by_cases h0:x.at=[43]
   ·obtain⟨t1,t2,_,_,rfl⟩:=fF h0 ht;rfl
   ·by_cases h1:x.at=[42]
    ·obtain⟨t1,t2,_,_,rfl⟩:=eU h1 ht;rfl
    ·by_cases h2:x.at=[114,101,99]
     ·obtain⟨t1,_,_,rfl⟩:=dy h2 ht;rfl
     ·rw[iR _ h0 h1 h2]at ht;cases ht
  |[],ht=>cases ht
  |[_],ht=>cases ht
  |[_,_],ht=>cases ht
  |_::_::_::_::_,ht=>cases ht
 |
  atom s =>
  simp only[cQ]at ht
  have hno:db s=false->fR s env=none:=fun h=>by
   cases hq:fR s env with
   |none=>rfl
   |some f=>rw[yV hw hq]at h;cases h
  split at ht
  ·rename_i h;cases ht;subst h;exact .inl ⟨rfl,hno rfl⟩
  ·split at ht
   ·rename_i h;cases ht;subst h;exact .inl ⟨rfl,hno rfl⟩
   ·split at ht
    ·rename_i h
     cases ht
     refine .inl ⟨rfl,hno ?_⟩
     cases hq:db s with
     |false=>rfl
     |
      true =>
      obtain⟨c,r,rfl,h1,h2⟩:=lN h
      obtain⟨c',r',he,h3,h4⟩:=lN hq
      cases he;omega
    ·split at ht
     ·rcases nL s env with⟨h1,h2⟩|⟨u,f,h1,h2,h3⟩
      ·rw[h1]at ht;cases ht;exact .inl ⟨rfl,h2⟩
      ·rw[h1]at ht;cases ht;exact .inr ⟨u,f,rfl,h2,h3⟩
     ·cases ht
def eK(n:Nat):Vl->E×List Fr->Bool
 | .u,p=>match hd p.1 p.2 with|(.atom s,_)=>s==[49]|_=>false
 | .el k,p=>match hd p.1 p.2 with|(.atom s,_)=>!(s==[49])&&(gV s&&decide (k<n))|_=>false
 | .l w,p=>match hd p.1 p.2 with|(.list [x,a,b],o)=>(x.at==[43])&&eK n w (a,o)|_=>false
 | .r w,p=>match hd p.1 p.2 with|(.list [x,a,b],o)=>(x.at==[43])&&eK n w (b,o)|_=>false
 | .f w,p=>match hd p.1 p.2 with|(.list [x,a,b],o)=>(x.at==[114,101,99])&&eK n w (b,.mk a.at (.list [x,a,b]) o::o)|_=>false
 | .p v w,p=>match hd p.1 p.2 with|(.list [x,a,b],o)=>(x.at==[42])&&(eK n v (a,o)&&eK n w (b,o))|_=>false
theorem j9{e:E}{env:List Fr}(h:fR e.at env=none):hd e env=(e,env):=by rw[hd,h]
theorem qn{e:E}{env:List Fr}{f:Fr}(h:fR e.at env=some f):hd e env=(f.ex,f.out):=by rw[hd,h]
theorem pe{x a b:E}{o:List Fr}(h:WF o):hd (.list [x,a,b]) o=(.list [x,a,b],o):=j9 (kS h)
theorem tP(n:Nat)(v:Vl){e e':E}{env o:List Fr}(h:hd e env=(e',o))(h':hd e' o=(e',o)):eK n v (e,env)=eK n v (e',o):=by
 cases v<;>simp only[eK,h,h']
theorem i6{x a b:E}{env:List Fr}{t:Ty}(hw:WF env)(hok:(E.list [x,a,b]).ok)(hx:x.at=[114,101,99])(ht:cQ (.list [x,a,b]) (names env)=some t)(hf:bW t=false) :
 ∃t1,t=.rc t1/\cQ b (names (.mk a.at (.list [x,a,b]) env::env))=some t1/\bW t1=false/\WF (.mk a.at (.list [x,a,b]) env::env):=by
 obtain⟨t1,hl,h1,rfl⟩:=dy hx ht
 exact⟨t1,rfl,h1,hf,.cons hl hok hx ht hf hw⟩
theorem zl(a b env:AV)(n:Int)(s:ByteArray)(u:Int)(ha:LK.ptr.has a)(he:LK.ptr.has env):an Tryz.prog 113 [.agg [.ptr [.v (.int .u8 n),.v (.string s),.v (.int .i64 u),a,b],env]] [] (bA (.agg [a,env])):=by
 refine Ri _ _ ((bV _).mpr trivial) he ?_
 simp only[M7,↓zq,zs,ac,bA]
 exact⟨ha,by omega⟩
theorem yR(a b env:AV)(n:Int)(s:ByteArray)(u:Int)(hb:LK.ptr.has b)(he:LK.ptr.has env):an Tryz.prog 114 [.agg [.ptr [.v (.int .u8 n),.v (.string s),.v (.int .i64 u),a,b],env]] [] (bA (.agg [b,env])):=by
 refine OG _ _ ((bV _).mpr trivial) he ?_
 simp only[LY,↓zq,zs,ac,bA]
 exact⟨hb,by omega⟩
theorem PI(t:Ty)(env:List Fr)(s:List UInt8)(e:E)(ht:xO e env=.rc t):an Tryz.prog 86 [.agg [(Ty.rc t).av,oH env]] [] (bA (.cI [.agg [t.av,oH (.mk s e env::env)],(Fr.mk s e env).cx])):=by
 refine Qo _ _ ((aC _).mpr trivial) ((ek _).mpr trivial) ?_
 simp only[Mx,Ty.av,↓zq,zs,ac,aC,bA,oH,Fr.cx,ht]
 omega
theorem sn(env:List Fr)(i:Nat)(f:Fr)(h:env[i]?=some f):oH (env.drop i)=.ptr [f.cx,oH (env.drop (i+1))]:=by
 obtain⟨hlt,he⟩:=List.getElem?_eq_some_iff.1 h
 rw[aK hlt,he,oH]
theorem Ij(env:List Fr)(u:Nat)(hu:u<env.length)(hl:env.length<1000000):∀(k i:Nat),i+k=u->CN [oH (env.drop i),.v (.int .i64 (u:Int)),.v (.int .i64 (i:Int))] [] (gD 1 [oH (env.drop u)] [])
 |
  0,i,hi=>by
  refine C5 _ _ _ ?_
  have:i=u:=by omega
  subst this
  simp only[AA,↓zq,zs,ac,ek]
  exact⟨fun h=>by omega,fun _=>by simp[gD]⟩
 |
  k+1,i,hi=>by
  refine C5 _ _ _ ?_
  have hlt:i<env.length:=by omega
  have hg:env[i]?=some env[i]:=bf hlt
  have hd:=sn env i _ hg
  rw[hd]
  simp only[AA,↓zq,zs,ac,ek]
  refine⟨fun _=>⟨by omega,?_⟩,fun h=>by omega⟩
  rw[bg i (by omega)]
  exact Ij env u hu hl k (i+1) (by omega)
theorem PM(env:List Fr)(u:Nat)(f:Fr)(hf:env[u]?=some f)(hl:env.length<1000000):an Tryz.prog 131 [.agg [(Ty.bN u).av,oH env]] [] (bA f.cx):=by
 refine NF _ _ ((aC _).mpr trivial) ((ek _).mpr trivial) ?_
 obtain⟨hlt,he⟩:=List.getElem?_eq_some_iff.1 hf
 simp only[Ft,Ty.av,↓zq,zs,ac]
 refine⟨by omega,?_⟩
 have h:=Ij env u hlt hl u 0 (by omega)
 simp only[aZ]at h
 refine cr h ?_
 rw[sn env u f hf]
 simp only[↓zq,zs,ac,Bg,bA]
 omega
theorem B7(k:Nat)(h:k<100):Lib.atoi (dd k)=some (k:Int):=by
 have e:∀k,k<100->dd k=if k<10 then [ba (48+k)]else [ba (48+k/10),ba (48+k%10)]:=by
  intro k hk
  by_cases h1:k<10
  ·rw[eD h1,if_pos h1]
  ·rw[fh h1,eD (by omega),if_neg h1];rfl
 have key:∀k:Fin 100,Lib.atoi (if k.val<10 then [ba (48+k.val)]else [ba (48+k.val/10),ba (48+k.val%10)])=some (k.val:Int):=by decide +kernel
 rw[e k h];exact key ⟨k,h⟩
theorem PT(k:Nat)(hk:k<100):an Tryz.prog 130 [.v (.string (mk (dd k)))] [] (bA (.cI [.v (.int .i64 (k:Int)),.v .nilIface])):=by
 have hl:=lz 1000 k (by omega)
 have hl2:(dd k).length<=18:=by
  have e:(dd k).length<=2:=by
   by_cases h1:k<10
   ·rw[eD h1];simp
   ·rw[fh h1,eD (by omega)];simp
  omega
 refine an.QV (xs:=[.string (mk (dd k))]) (v:=.tuple #[.int .i64 (k:Int),.nilIface]) ⟨pW,by kernel_rfl,by kernel_rfl,by kernel_rfl⟩ (fun M=>?_) fun w=>?_
 ·refine bz.cI _ _ [.int .i64 (k:Int),.nilIface] rfl fun i hi=>?_
  match i,hi with
  |0,_=>exact .v _ _
  |1,_=>exact .v _ _
 ·have:=Any.strconv_Atoi Tryz.C3 (mk (dd k)) (k:Int) (by rw[cw];exact hl2) (by
   have:(mk (dd k)).data.toList=dd k:=by simp[mk]
   rw[this];exact B7 k hk) w
  refine Calls.mono this fun e w' ⟨h1,t,h2⟩=>⟨h1,?_⟩
  subst h2
  refine⟨rfl,rfl,rfl,?_,fun b hb=>Lib.bytesWorld_at_old _ _ _ _ hb⟩
  simp[Lib.bytesWorld,World.freeze]
end Go.Proofs.Trees
namespace Go.Proofs.Trees
open Go Go.VL Go.RowKit
theorem fp{a b:Ty}(h:bW (.plus a b)=false):bW a=false/\bW b=false:=by simpa[bW]using h
theorem eJ{a b:Ty}(h:bW (.times a b)=false):bW a=false/\bW b=false:=by simpa[bW]using h
theorem fC{e:E}{ar:List (List UInt8)}{t:Ty}(ht:cQ e ar=some t)(hb:t.NV=false)(hf:bW t=false) :
 (e=.atom [48]/\t=.zero)\/(e=.atom [49]/\t=.one)\/(∃s,e=.atom s/\t=.name s/\gV s=true/\s≠[48]/\s≠[49]) ∨
 (∃x a b t1 t2,e=.list [x,a,b]/\x.at=[43]/\t=.plus t1 t2/\cQ a ar=some t1/\cQ b ar=some t2) ∨
 (∃x a b t1 t2,e=.list [x,a,b]/\x.at=[42]/\t=.times t1 t2/\cQ a ar=some t1/\cQ b ar=some t2) ∨
 (∃x a b t1,e=.list [x,a,b]/\x.at=[114,101,99]/\t=.rc t1):=by
 cases e with
 |
  list l =>
  match l,ht with
  |
   [x,a,b],ht =>
   by_cases h0:x.at=[43]
   ·obtain⟨t1,t2,h1,h2,rfl⟩:=fF h0 ht
    exact .inr (.inr (.inr (.inl ⟨x,a,b,t1,t2,rfl,h0,rfl,h1,h2⟩)))
   ·by_cases h1:x.at=[42]
    ·obtain⟨t1,t2,h3,h2,rfl⟩:=eU h1 ht
     exact .inr (.inr (.inr (.inr (.inl ⟨x,a,b,t1,t2,rfl,h1,rfl,h3,h2⟩))))
    ·by_cases h2:x.at=[114,101,99]
     ·obtain⟨t1,_,_,rfl⟩:=dy h2 ht
      exact .inr (.inr (.inr (.inr (.inr ⟨x,a,b,t1,rfl,h2,rfl⟩))))
     ·rw[iR _ h0 h1 h2]at ht;cases ht
  |[],ht=>cases ht
  |[_],ht=>cases ht
  |[_,_],ht=>cases ht
  |_::_::_::_::_,ht=>cases ht
 |
  atom s =>
  simp only[cQ]at ht
  split at ht
  ·rename_i h;cases ht;subst h;exact .inl ⟨rfl,rfl⟩
  ·rename_i h0
   split at ht
   ·rename_i h;cases ht;subst h;exact .inr (.inl ⟨rfl,rfl⟩)
   ·rename_i h1
    split at ht
    ·rename_i h;cases ht;exact .inr (.inr (.inl ⟨s,rfl,rfl,h,h0,h1⟩))
    ·split at ht
     ·rename_i h
      split at ht
      ·cases ht;cases hb
      ·cases ht;simp only[bW]at hf;rw[h]at hf;cases hf
     ·cases ht
def pH(n:Nat)(v:Vl)(e:E)(env:List Fr)(t:Ty):Prop:=an Tryz.prog 95 [.agg [t.av,oH env],v.cx,.v (.int .i64 (n:Int))] [] (bA (.v (.bool (eK n v (e,env)))))
structure Ask(e:E)(env:List Fr)(t:Ty):Prop where
 ok:e.ok
 wf:WF env
 ty:cQ e (names env)=some t
 cl:bW t=false
theorem Mb(n:Nat)(hn:n<=100)(v:Vl)(hv:v.iu 100)(IH:∀w:Vl,w.nodes<v.nodes->w.iu 100->∀e env t,Ask e env t->env.length+w.nodes<100000->pH n w e env t)
 (e:E) (env:List Fr) (t:Ty) (A:Ask e env t) (hl:env.length+v.nodes<100000) (hb:t.NV=false) (hh:fR e.at env=none):pH n v e env t:=by
 have hhd:hd e env=(e,env):=j9 hh
 unfold pH
 refine JG _ _ _ _ ((aC _).mpr trivial) ((ek _).mpr trivial) ((aH _).mpr trivial) ?_
 rcases fC A.ty hb A.cl with⟨rfl,rfl⟩|⟨rfl,rfl⟩|⟨s,rfl,rfl,hp,h0,h1⟩|⟨x,a,b,t1,t2,rfl,hx,rfl,ha,hbb⟩|⟨x,a,b,t1,t2,rfl,hx,rfl,ha,hbb⟩|⟨x,a,b,t1,rfl,hx,rfl⟩
 ·have hp0:gV [48]=false:=rfl
  cases v<;>simp[zB,Ty.av,↓zq,zs,ac,bA,eK,hhd,hp0]
 ·have hp0:gV [49]=false:=rfl
  cases v<;>simp[zB,Ty.av,Vl.cx,↓zq,zs,ac,bA,eK,hhd,hp0]
 ·have h1':(s==[49])=false:=by simpa using h1
  cases v with
  |
   el k =>
   have hk:k<100:=hv
   simp only[zB,Ty.av,Vl.cx,↓zq,zs,ac,zt]
   refine⟨by omega,fun h=>by omega,fun _=>⟨fun _=>⟨by omega,fun h=>absurd rfl h,fun _=>⟨by omega,by omega,?_⟩⟩,fun h=>absurd rfl h⟩⟩
   have e1:(List.take ((dd k).length+1) (wl k)).drop (bF 1)=dd k:=by simp[wl]
   rw[e1]
   refine ah (PT k hk) ?_
   simp only[↓zq,zs,ac,bA,eK,hhd,h1',hp,zf]
   refine⟨rfl,?_⟩
   congr 2
   rw[cq];simp
  |
   _ =>
   simp only[zB,Ty.av,Vl.cx,↓zq,zs,ac,zt,eK,hhd,h1',bA]
   exact⟨by omega,fun h=>by omega,fun _=>⟨fun _=>⟨by omega,fun _=>trivial,fun h=>by omega⟩,fun h=>absurd rfl h⟩⟩
 ·have hok:=A.ok
  obtain⟨ok1,ok2,ok3,_⟩:=hok
  obtain⟨f1,f2⟩:=fp A.cl
  cases v with
  |
   l w =>
   simp only[Vl.nodes]at hl
   simp only[zB,Ty.av,Vl.cx,↓zq,zs,ac]
   refine⟨by omega,fun h=>by omega,fun _=>⟨fun h=>by omega,fun _=>⟨fun h=>by omega,fun _=>⟨fun _=>⟨by omega,fun _=>?_,fun h=>absurd rfl h⟩,fun h=>absurd rfl h⟩⟩⟩⟩
   refine ah (zl _ _ _ _ _ _ ((aC _).mpr trivial) ((ek _).mpr trivial)) ?_
   simp only[↓zq,zs,ac,bB,aC,ek,aH]
   refine⟨by omega,?_⟩
   refine ah (IH w (by simp only[Vl.nodes];omega) hv a env t1 ⟨ok2,A.wf,ha,f1⟩ (by omega)) ?_
   simp only[↓zq,zs,ac,bA,eK,hhd,hx]
   refine⟨fun h=>?_,fun h=>⟨by omega,fun h=>by omega,fun _=>?_⟩⟩
   ·simp[h]
   ·simp[h]
  |
   r w =>
   simp only[Vl.nodes]at hl
   simp only[zB,Ty.av,Vl.cx,↓zq,zs,ac]
   refine⟨by omega,fun h=>by omega,fun _=>⟨fun h=>by omega,fun _=>⟨fun h=>by omega,fun _=>⟨fun _=>⟨by omega,fun h=>by omega,fun _=>⟨by omega,fun _=>?_,fun h=>absurd rfl h⟩⟩,fun h=>absurd rfl h⟩⟩⟩⟩
   refine ah (yR _ _ _ _ _ _ ((aC _).mpr trivial) ((ek _).mpr trivial)) ?_
   simp only[↓zq,zs,ac,bB,aC,ek,aH]
   refine⟨by omega,?_⟩
   refine ah (IH w (by simp only[Vl.nodes];omega) hv b env t2 ⟨ok3,A.wf,hbb,f2⟩ (by omega)) ?_
   simp[↓zq,zs,ac,bA,eK,hhd,hx]
  |
   _ =>
   simp only[zB,Ty.av,Vl.cx,↓zq,zs,ac,eK,hhd,bA]
   exact⟨by omega,fun h=>by omega,fun _=>⟨fun h=>by omega,fun _=>⟨fun h=>by omega,fun _=>⟨fun _=>⟨by omega,fun h=>by omega,fun _=>⟨by omega,fun h=>by omega,fun _=>by simp[hx]⟩⟩,fun h=>absurd rfl h⟩⟩⟩⟩
 ·have hok:=A.ok
  obtain⟨ok1,ok2,ok3,_⟩:=hok
  obtain⟨f1,f2⟩:=eJ A.cl
  cases v with
  |
   p v w =>
   simp only[Vl.nodes]at hl
   simp only[zB,Ty.av,Vl.cx,↓zq,zs,ac]
   refine⟨by omega,fun h=>by omega,fun _=>⟨fun h=>by omega,fun _=>⟨fun h=>by omega,fun _=>⟨fun h=>by omega,fun _=>⟨fun _=>⟨by omega,fun _=>?_,fun h=>absurd rfl h⟩,fun h=>absurd rfl h⟩⟩⟩⟩⟩
   refine ah (zl _ _ _ _ _ _ ((aC _).mpr trivial) ((ek _).mpr trivial)) ?_
   simp only[↓zq,zs,ac,bB,aC,ek,aH]
   refine⟨by omega,?_⟩
   refine ah (IH v (by simp only[Vl.nodes];omega) hv.1 a env t1 ⟨ok2,A.wf,ha,f1⟩ (by omega)) ?_
   simp only[↓zq,zs,ac,bA,eK,hhd,hx]
   refine⟨fun h=>?_,fun h=>?_⟩
   ·refine ah (yR _ _ _ _ _ _ ((aC _).mpr trivial) ((ek _).mpr trivial)) ?_
    simp only[↓zq,zs,ac,bB,aC,ek,aH]
    refine⟨by omega,?_⟩
    refine ah (IH w (by simp only[Vl.nodes];omega) hv.2 b env t2 ⟨ok3,A.wf,hbb,f2⟩ (by omega)) ?_
    simp[↓zq,zs,ac,h]
   ·simp[h]
  |
   _ =>
   simp only[zB,Ty.av,Vl.cx,↓zq,zs,ac,eK,hhd,bA]
   exact⟨by omega,fun h=>by omega,fun _=>⟨fun h=>by omega,fun _=>⟨fun h=>by omega,fun _=>⟨fun h=>by omega,fun _=>⟨fun _=>⟨by omega,fun h=>by omega,fun _=>by simp[hx]⟩,fun h=>absurd rfl h⟩⟩⟩⟩⟩
 ·obtain⟨t1',he1,h1,f1,hw1⟩:=i6 A.wf A.ok hx A.ty A.cl
  cases he1
  have hok:=A.ok
  obtain⟨ok1,ok2,ok3,_⟩:=hok
  have htD:xO (.list [x,a,b]) env=.rc t1:=by rw[xO,A.ty];rfl
  have hin:=PI t1 env a.at (.list [x,a,b]) htD
  simp only[Ty.av]at hin
  simp only[zB,Ty.av,↓zq,zs,ac]
  refine⟨by omega,fun h=>by omega,fun _=>⟨fun h=>by omega,fun _=>⟨fun h=>by omega,fun _=>⟨fun h=>by omega,fun _=>⟨fun h=>by omega,fun _=>⟨fun _=>?_,fun h=>absurd rfl h⟩⟩⟩⟩⟩⟩
  refine ah hin ?_
  simp only[↓zq,zs,ac,bB,aC,ek,Bg,aH,fm]
  cases v with
  |
   f w =>
   simp only[Vl.nodes]at hl
   simp only[Vl.cx,↓zq,zs,ac,aH]
   refine⟨by omega,fun _=>⟨by omega,?_⟩,fun h=>absurd rfl h⟩
   refine ah (IH w (by simp only[Vl.nodes];omega) hv b (.mk a.at (.list [x,a,b]) env::env) t1 ⟨ok3,hw1,h1,f1⟩ (by simp;omega)) ?_
   simp[↓zq,zs,ac,bA,eK,hhd,hx]
  |
   _ =>
   simp only[Vl.cx,↓zq,zs,ac,eK,hhd,bA]
   exact⟨by omega,fun h=>by omega,fun _=>by simp[hx]⟩
theorem MM(n:Nat)(hn:n<=100):∀(m:Nat) (v:Vl),v.nodes<m->v.iu 100->∀e env t,Ask e env t->env.length+v.nodes<100000->pH n v e env t
 |0,v,h,_=>by omega
 |
  m+1,v,h,hv=>by
  intro e env t A hl
  have IH:∀w:Vl,w.nodes<v.nodes->w.iu 100->∀e env t,Ask e env t->env.length+w.nodes<100000->pH n w e env t:=fun w hw hb=>MM n hn m w (by omega) hb
  rcases gl A.wf A.ty with⟨hb,hh⟩|⟨u,f,rfl,hh,hu⟩
  ·exact Mb n hn v hv IH e env t A hl hb hh
  ·obtain⟨x,a,b,t',hfe,hok,hx,ht',hf',hwf,hlt⟩:=nK A.wf hh
   obtain⟨t1,hl1,h1,rfl⟩:=dy hx (hfe ▸ ht')
   have hvis:eK n v (e,env)=eK n v (f.ex,f.out):=tP n v (qn hh) (by rw[hfe];exact pe hwf)
   unfold pH
   refine JG _ _ _ _ ((aC _).mpr trivial) ((ek _).mpr trivial) ((aH _).mpr trivial) ?_
   have hbd:=PM env u f hu (by omega)
   simp only[Ty.av]at hbd
   simp only[zB,Ty.av,↓zq,zs,ac]
   refine⟨by omega,fun h=>by omega,fun _=>⟨fun h=>by omega,fun _=>⟨fun _=>?_,fun h=>absurd rfl h⟩⟩⟩
   refine ah hbd ?_
   cases f with
   |
    mk s ee oo =>
    simp only[Fr.ex,Fr.out]at hfe ht' hf' hwf hvis hlt
    have htD:xO ee oo=.rc t1:=by rw[xO,ht'];rfl
    simp only[Fr.cx,htD,↓zq,zs,ac,bB,aC,ek]
    refine⟨by omega,?_⟩
    have hs:=Mb n hn v hv IH ee oo (.rc t1) ⟨by rw[hfe];exact hok,hwf,ht',hf'⟩ (by omega) rfl (by rw[hfe];exact kS hwf)
    unfold pH at hs
    refine ah hs ?_
    simp[↓zq,zs,ac,bA,hvis]
end Go.Proofs.Trees
namespace Go.Proofs.Trees
open Go Go.VL Go.RowKit
theorem sR:∀(env:List Fr) (k:Nat) (f:Fr),env[k]?=some f->(jY env).getD (env.length-1-k) []=f.cells
 |[],k,f,h=>by cases h
 |
  g::r,0,f,h=>by
  cases h
  have:(g::r).length-1-0=(jY r).length:=by simp[kV]
  rw[this,jY];simp[aa]
 |
  g::r,k+1,f,h=>by
  have h':r[k]?=some f:=by simpa using h
  have hlt:=(List.getElem?_eq_some_iff.1 h').1
  have e:(g::r).length-1-(k+1)=r.length-1-k:=by simp;omega
  have:=sR r k f h'
  rw[e,jY,aa,List.getElem?_append_left (by rw[kV];omega),<-aa]
  exact this
theorem qI(f:Fr):f.cells=[.v (.string (mk f.nm)),.v (.string (mk f.ex.at)),f.ex.sp,.sl (jY f.out)]:=by cases f;rfl
theorem Ns(e:E)(env:List Fr)(hl:env.length<1000000):∀(j k:Nat),k+j=env.length->Gc [.sl (jY env),.v (.int .i64 ((env.length:Int)-1-(k:Int)))] [.cells [.v (.string (mk e.at)),e.sp],.cells [.v (.string (mk [])),.v (.slice none 0 0)]]
 (nv (match fR e.at (env.drop k)with|some f=>(2,[.sl (jY f.out)],[.cells [.v (.string (mk f.ex.at)),f.ex.sp]])|none=>(1,[.sl (jY env)],[.cells [.v (.string (mk e.at)),e.sp],.cells [.v (.string (mk [])),.v (.slice none 0 0)]])))
 |
  0,k,hk=>by
  refine Ms _ _ _ _ _ _ ?_
  have hd:env.drop k=[]:=bL (by omega)
  simp only[Gx,↓zq,zs,ac,a6,hd,fR]
  exact⟨fun h=>by omega,fun _=>by first|trivial|rfl⟩
 |
  j+1,k,hk=>by
  refine Ms _ _ _ _ _ _ ?_
  have hlt:k<env.length:=by omega
  have hg:env[k]?=some env[k]:=bf hlt
  have hc:=sR env k _ hg
  have e1:((env.length:Int)-1-(k:Int))=((env.length-1-k:Nat):Int):=by omega
  have hdr:env.drop k=env[k]::env.drop (k+1):=aK hlt
  rw[hdr,fR,e1]
  simp only[Gx,bJ,hc,qI,↓zq,zs,ac,zt,a6,kV,bB]
  refine⟨fun _=>⟨by omega,by omega,fun h=>⟨by omega,by omega,by omega,by omega,?_⟩,fun h=>?_⟩,fun h=>by omega⟩
  ·rw[if_pos h]
  ·rw[if_neg h]
   have e2:IntKind.wrap .i64 (((env.length-1-k:Nat):Int)-1)=(env.length:Int)-1-((k+1:Nat):Int):=by
    have:IntKind.wrap .i64 (((env.length-1-k:Nat):Int)-1)=((env.length-1-k:Nat):Int)-1:=wrap64 _ (by omega) (by omega)
    omega
   rw[e2]
   exact Ns e env hl j (k+1) (by omega)
theorem Rc(e:E)(env:List Fr)(hl:env.length<1000000):an Tryz.prog 154 [e.kj,.sl (jY env)] [] (bA (.cI [(hd e env).1.kj,.sl (jY (hd e env).2)])):=by
 rw[dr e]
 refine Qa _ _ _ ((a6 _).mpr trivial) ((ca _).mpr trivial) ?_
 simp only[J0,↓zq,zs,ac,kV,bA]
 have h:=Ns e env hl env.length 0 (by omega)
 simp only[aZ]at h
 rw[wrap64 _ (by omega) (by omega)]
 rw[show (env.length:Int)-1-((0:Nat):Int)=(env.length:Int)-1 by omega]at h
 refine eX h (fun ys o e'=>?_) (fun ys o e'=>?_)
 ·unfold hd
  cases hq:fR e.at env<;>rw[hq]at e'<;>cases e'
  simp only[↓zq,zs,ac,zt,a6,dr]
 ·unfold hd
  cases hq:fR e.at env<;>rw[hq]at e'<;>cases e'
  simp only[↓zq,zs,ac,zt,a6,dr]
theorem pD:∀env:List Fr,cA 4 (jY env)
 |[]=>fun c hc=>by cases hc
 |
  f::r=>fun c hc=>by
  simp only[jY,aI,aP]at hc
  rcases hc with hc|rfl
  ·exact pD r c hc
  ·rw[qI];rfl
theorem PC(x a b:E)(env:List Fr)(hl:env.length<1000000):an Tryz.prog 156 [(E.list [x,a,b]).kj,.sl (jY env)] [] (bA (.cI [b.kj,.sl (jY (.mk a.at (.list [x,a,b]) env::env))])):=by
 refine Q2 _ _ _ ((ca _).mpr trivial) ((ca _).mpr trivial) ?_
 simp only[L6,E.bm,toNat_one,bi,↓zq,zs,ac,zt,iM,gf,iF,mq,aq,kV,bA,aM]
 refine⟨by omega,⟨pD env,by omega⟩,by omega,by omega,⟨fun c hc=>(by simp at hc;rw[hc];rfl),by omega⟩,?_⟩
 simp only[jY,qI,Fr.nm,Fr.ex,Fr.out,E.at,E.sp,E.bm]
theorem B4(s:ByteArray)(e:E):bB [.str,.sl] [.v (.string s),e.sp] 0=True:=by apply eq_true;simp[bB,eg,a6]
theorem FX{e:E}{env:List Fr}{t:Ty}(A:Ask e env t):∃e' o t',hd e env=(e',o)/\Ask e' o t'/\t'.NV=false/\hd e' o=(e',o)/\o.length<=env.length:=by
 rcases gl A.wf A.ty with⟨hb,hh⟩|⟨u,f,rfl,hh,hu⟩
 ·exact⟨e,env,t,j9 hh,A,hb,j9 hh,aq _⟩
 ·obtain⟨x,a,b,t',hfe,hok,hx,ht',hf',hwf,hlt⟩:=nK A.wf hh
  refine⟨f.ex,f.out,t',qn hh,⟨by rw[hfe];exact hok,hwf,ht',hf'⟩,?_,?_,by omega⟩
  ·obtain⟨t1,_,_,rfl⟩:=dy hx (hfe ▸ ht');rfl
  ·rw[hfe];exact pe hwf
def vh:Vl->List UInt8
 | .l _=>[108]
 | .r _=>[114]
 | .f _=>[102]
 | .p _ _=>[112]
 |_=>[]
theorem Ah(v:Vl):an Tryz.prog 121 [v.cH.kj] [] (bA (.v (.string (mk (vh v))))):=by
 cases v with
 |u=>exact Cc _ _ ((bp).mpr trivial) (by simp)
 |el k=>exact Cc _ _ ((bp).mpr trivial) (by simp)
 |l v=>exact uu _ _
 |r v=>exact uu _ _
 |f v=>exact uu _ _
 |p v w=>exact uu _ _
theorem RH(v:Vl)(hv:v.iu 100):v.cH.at=(match v with| .u=>[117]| .el k=>wl k|_=>[])/\zL v.cH.at=(match v with| .el k=>(k:Int)|_=>-1):=by
 cases v with
 |el k=>exact⟨rfl,Eb k hv⟩
 |u=>exact⟨rfl,rfl⟩
 |_=>exact⟨rfl,rfl⟩
theorem yL(n:Nat)(hn:n<=100):∀(m:Nat) (v:Vl),v.nodes<m->v.iu 100->∀e env t,Ask e env t->env.length+v.nodes<100000->an Tryz.prog 125 [e.kj,.sl (jY env),v.cH.kj,.v (.int .i64 (n:Int))] [] (bA (.v (.bool (eK n v (e,env)))))
 |0,v,hm,hv,e,env,t,A,hl=>by omega
 |
  m+1,v,hm,hv,e,env,t,A,hl=>by
  obtain⟨e',o,t',hhd,A',hb,hh',hlen⟩:=FX A
  rw[tP n v hhd hh',dr e,dr v.cH]
  refine PN _ _ _ _ _ _ ((a6 _).mpr trivial) ((ca _).mpr trivial) ((a6 _).mpr trivial) ?_
  have hf:=Rc e env (by omega)
  rw[dr e,hhd]at hf
  have hvh:=Ah v
  rw[dr]at hvh
  unfold Nx
  refine ah hf ?_
  simp only[dr e',↓zq,zs,ac,zt,a6,B4,bA]
  rcases fC A'.ty hb A'.cl with⟨rfl,rfl⟩|⟨rfl,rfl⟩|⟨s,rfl,rfl,hp,h0,h1⟩|⟨x,a,b,t1,t2,rfl,hx,rfl,ha,hbb⟩|⟨x,a,b,t1,t2,rfl,hx,rfl,ha,hbb⟩|⟨x,a,b,t1,rfl,hx,rfl⟩
  ·refine⟨fun _=>⟨fun h=>by simp[E.at]at h,fun _=>ah (EV _) ?_⟩,fun h=>by simp[E.at]at h⟩
   have hp0:gV (E.atom [48]).at=false:=rfl
   have hp1:gV [48]=false:=rfl
   cases v<;>simp[↓zq,zs,ac,hp0,eK,hh',hp1]
  ·refine⟨fun _=>⟨fun _=>?_,fun h=>absurd rfl h⟩,fun h=>by simp[E.at]at h⟩
   have hp1:gV [49]=false:=rfl
   cases v<;>simp[eK,hh',hp1,Vl.cH,E.at]
  ·have hne:s≠[]:=A'.ok
   have h1':(s==[49])=false:=by simpa using h1
   refine⟨fun _=>⟨fun h=>absurd h h1,fun _=>ah (EV _) ?_⟩,fun h=>absurd h hne⟩
   have hat:(E.atom s).at=s:=rfl
   simp only[hat,hp,↓zq,zs,ac]
   refine⟨fun _=>ah (Ip _) ?_,fun h=>by cases h⟩
   simp only[↓zq,zs,ac]
   rw[wrap64 _ (by omega) (by omega)]
   refine ah (yr _ _ _) ?_
   simp only[↓zq,zs,ac,wS,(RH v hv).2]
   cases v with
   |
    el k =>
    simp only[eK,hh',h1',hp,zf]
    congr 2
    rw[cq];simp;omega
   |_=>simp[eK,hh',h1']
  ·have hok:=A'.ok
   obtain⟨ok1,ok2,ok3,_⟩:=hok
   obtain⟨f1,f2⟩:=fp A'.cl
   refine⟨fun h=>absurd rfl h,fun _=>ah (uu x [a,b]) ?_⟩
   simp only[↓zq,zs,ac]
   refine ah hvh ?_
   rw[hx]
   cases v with
   |
    l w =>
    simp only[Vl.nodes]at hl
    simp only[vh,Vl.cH,E.sp,E.bm,toNat_one,bi,↓zq,zs,ac,zt,iM,gf,iF,mq,aq]
    refine⟨by simp,fun _=>⟨by omega,by omega,ah (yL n hn m w (by simp only[Vl.nodes]at hm;omega) hv a o t1 ⟨ok2,A'.wf,ha,f1⟩ (by omega)) ?_⟩,fun h=>absurd rfl h⟩
    simp[↓zq,zs,ac,eK,hh',hx]
   |
    r w =>
    simp only[Vl.nodes]at hl
    simp only[vh,Vl.cH,E.sp,E.bm,toNat_one,bi,↓zq,zs,ac,zt,iM,gf,iF,mq,aq]
    refine⟨by simp,fun h=>by simp at h,fun _=>⟨fun _=>⟨by omega,by omega,ah (yL n hn m w (by simp only[Vl.nodes]at hm;omega) hv b o t2 ⟨ok3,A'.wf,hbb,f2⟩ (by omega)) ?_⟩,fun h=>absurd rfl h⟩⟩
    simp[↓zq,zs,ac,eK,hh',hx]
   |_=>simp[vh,↓zq,zs,ac,zt,eK,hh',hx]
  ·have hok:=A'.ok
   obtain⟨ok1,ok2,ok3,_⟩:=hok
   obtain⟨f1,f2⟩:=eJ A'.cl
   refine⟨fun h=>absurd rfl h,fun _=>ah (uu x [a,b]) ?_⟩
   simp only[↓zq,zs,ac]
   refine ah hvh ?_
   rw[hx]
   cases v with
   |
    p w z =>
    simp only[Vl.nodes]at hl
    simp only[vh,Vl.cH,E.sp,E.bm,toNat_one,bi,↓zq,zs,ac,zt,iM,gf,iF,mq,aq]
    refine⟨by simp,fun h=>by simp at h,fun _=>⟨fun h=>by simp at h,fun _=>⟨fun _=>⟨by omega,by omega,ah (yL n hn m w (by simp only[Vl.nodes]at hm;omega) hv.1 a o t1 ⟨ok2,A'.wf,ha,f1⟩ (by omega)) ?_⟩,fun h=>absurd rfl h⟩⟩⟩
    simp only[↓zq,zs,ac,eK,hh',hx]
    refine⟨fun h=>⟨by omega,by omega,ah (yL n hn m z (by simp only[Vl.nodes]at hm;omega) hv.2 b o t2 ⟨ok3,A'.wf,hbb,f2⟩ (by omega)) ?_⟩,fun h=>?_⟩
    ·simp[↓zq,zs,ac,h]
    ·simp[h]
   |_=>simp[vh,↓zq,zs,ac,zt,eK,hh',hx]
  ·obtain⟨t1',he1,h1,f1,hw1⟩:=i6 A'.wf A'.ok hx A'.ty A'.cl
   cases he1
   have hok:=A'.ok
   obtain⟨ok1,ok2,ok3,_⟩:=hok
   refine⟨fun h=>absurd rfl h,fun _=>ah (uu x [a,b]) ?_⟩
   simp only[↓zq,zs,ac]
   refine ah hvh ?_
   rw[hx]
   cases v with
   |
    f w =>
    simp only[Vl.nodes]at hl
    simp only[vh,Vl.cH,E.sp,E.bm,toNat_one,bi,↓zq,zs,ac,zt,iM,gf,iF,mq,aq]
    refine⟨by simp,fun h=>by simp at h,fun _=>⟨fun h=>by simp at h,fun _=>⟨fun h=>by simp at h,fun _=>⟨fun _=>ah (PC x a b o (by omega)) ?_,fun h=>absurd rfl h⟩⟩⟩⟩
    simp only[↓zq,zs,ac,w4,CP]
    refine⟨by omega,ah (yL n hn m w (by simp only[Vl.nodes]at hm;omega) hv b (.mk a.at (.list [x,a,b]) o::o) t1 ⟨ok3,hw1,h1,f1⟩ (by simp;omega)) ?_⟩
    simp[↓zq,zs,ac,eK,hh',hx]
   |_=>simp[vh,↓zq,zs,ac,zt,eK,hh',hx]
theorem Qv(n:Nat)(hn:n<=100)(v:Vl)(hv:v.iu 100)(e:E)(env:List Fr)(t:Ty)(A:Ask e env t)(hl:env.length+v.nodes<100000):an Tryz.prog 125 [e.kj,.sl (jY env),v.cH.kj,.v (.int .i64 (n:Int))] [] (bA (.v (.bool (eK n v (e,env))))):=yL n hn (v.nodes+1) v (by omega) hv e env t A hl
end Go.Proofs.Trees
namespace Go.Proofs.Trees
open Go Go.VL Go.RowKit
theorem Js(l:List (List UInt8))(a:AV)(ha:cc a l)(s:List UInt8)(hl:l.length<1000000):∀(k i:Nat),i+k=l.length->Gd [a,.v (.string (mk s)),.v (.int .i64 (i:Int))] []
 (nv (if s∈l.drop i then(2,[.v (.bool true)],[])else(1,[],[])))
 |
  0,i,hi=>by
  refine Nv _ _ _ ?_
  have hd:l.drop i=[]:=bL (by omega)
  simp only[EG,↓zq,zs,ac,hd,ha.len]
  exact⟨ha.1,ha.1,fun h=>by omega,fun _=>by simp[nv]⟩
 |
  k+1,i,hi=>by
  have hlt:i<l.length:=by omega
  have hdr:l.drop i=l.getD i []::l.drop (i+1):=by
   rw[aK hlt];simp[aa,hlt]
  refine Nv _ _ _ ?_
  simp only[EG,↓zq,zs,ac,zt,ha.len,ha.idx hlt]
  refine⟨ha.1,ha.1,fun _=>⟨⟨ha.1,by omega,by omega⟩,by omega,fun h=>?_,fun h=>?_⟩,fun h=>by omega⟩
  ·rw[hdr,h];simp[nv]
  ·rw[bg i (by omega)]
   have:=Js l a ha s hl k (i+1) (by omega)
   have e:s∈l.drop i↔s∈l.drop (i+1):=by
    rw[hdr,aF];exact⟨fun q=>q.resolve_left (fun q=>h q.symm),.inr⟩
   simp only[e];exact this
theorem zy(l:List (List UInt8))(a:AV)(ha:cc a l)(s:List UInt8)(hl:l.length<1000000):an Tryz.prog 169 [a,.v (.string (mk s))] [] (bA (.v (.bool (decide (s∈l))))):=by
 refine O4 _ _ ha.1 ?_
 unfold IZ
 refine eX (Js l a ha s hl l.length 0 (by omega)) (fun ys o e=>?_) (fun ys o e=>?_)
 ·simp only[aZ]at e
  split at e<;>cases e
  rename_i h
  simp[↓zq,zs,ac,bA,h]
 ·simp only[aZ]at e
  split at e<;>cases e
  rename_i h
  simp[↓zq,zs,ac,bA,h]
theorem C7(l:List (List UInt8))(a:AV)(ha:cc a l)(s:List UInt8)(hl:l.length<1000000):an Tryz.prog 79 [a,.v (.string (mk s))] [] (bA (.sl (bj (l++[s])))):=by
 refine MV _ _ ha.1 ?_
 simp only[Ha,↓zq,zs,ac,ha.2,bA,aM]
 have:(bj l).length=l.length:=by simp[bj]
 refine⟨⟨ha.1,j0 l,by omega⟩,⟨fun c hc=>(by simp at hc;rw[hc];rfl),by omega⟩,?_⟩
 rw[Ek]
def kb:E->List (List UInt8)->List (List UInt8)->List (List UInt8)
 | .atom s,bd,l=>if s=[48]\/s=[49]\/s∈bd\/s∈l then l else l++[s]
 | .list [x,a,b],bd,l=>if x.at=[114,101,99]then kb b (bd++[a.at]) l else kb b bd (kb a bd l)
 | .list _,_,l=>l
theorem fZ:∀(e:E) (bd l:List (List UInt8)),(kb e bd l).length<=l.length+e.sz
 | .atom s,bd,l=>by rw[kb];split<;>simp[E.sz]
 | .list [],bd,l=>by simp[kb]
 | .list [_],bd,l=>by simp[kb]
 | .list [_,_],bd,l=>by simp[kb]
 | .list (_::_::_::_::_),bd,l=>by simp[kb]
 |
  .list [x,a,b],bd,l=>by
  rw[kb]
  simp only[E.sz,E.jH]
  split
  ·have:=fZ b (bd++[a.at]) l;omega
  ·have:=fZ a bd l
   have:=fZ b bd (kb a bd l)
   omega
theorem BZ:∀(e:E) (bd l:List (List UInt8)) (a:AV),e.ok->jT e=true->cc a bd->bd.length+l.length+e.sz<100000->an Tryz.prog 137 [e.kj,a,.vec 0] [.vec 1 (bj l)] (cX (.vec 1) [.dead,.vec 1 (bj (kb e bd l))])
 |
  .atom s,bd,l,a,hok,hty,ha,hl=>by
  simp only[E.sz]at hl
  refine yF _ _ _ _ ((bp).mpr trivial) ha.1 ?_
  have hne:s≠[]:=hok
  have hll:(bj l).length=l.length:=by simp[bj]
  simp only[wo,↓zq,zs,ac,zt,cX,kb]
  refine⟨fun _=>⟨fun h=>?_,fun h=>⟨fun h1=>?_,fun h1=>?_⟩⟩,fun h=>absurd h hne⟩
  ·rw[if_pos (.inl h)]
  ·rw[if_pos (.inr (.inl h1))]
  ·refine ah (zy bd a ha s (by omega)) ?_
   simp only[↓zq,zs,ac]
   refine⟨fun h2=>?_,fun h2=>ah (zy l _ (.of l) s (by omega)) ?_⟩
   ·rw[if_pos (.inr (.inr (.inl h2)))]
   ·simp only[↓zq,zs,ac]
    refine⟨fun h3=>?_,fun h3=>⟨⟨fun c hc=>(by simp at hc;rw[hc];rfl),by omega⟩,?_⟩⟩
    ·rw[if_pos (.inr (.inr (.inr h3)))]
    ·rw[Ek,if_neg]
     rintro(q|q|q|q)
     ·exact h q
     ·exact h1 q
     ·exact h2 q
     ·exact h3 q
 | .list [],_,_,_,_,h,_,_=>by cases h
 | .list [_],_,_,_,_,h,_,_=>by cases h
 | .list [_,_],_,_,_,_,h,_,_=>by cases h
 | .list (_::_::_::_::_),_,_,_,_,h,_,_=>by cases h
 |
  .list [x,y,z],bd,l,a,hok,hty,ha,hl=>by
  simp only[E.sz,E.jH]at hl
  obtain⟨ok1,ok2,ok3,_⟩:=hok
  refine yF _ _ _ _ ((ca _).mpr trivial) ha.1 ?_
  simp only[wo,E.bm,toNat_one,bi,↓zq,zs,ac,zt,iM,gf,iF,mq,aq,cX]
  refine⟨fun h=>absurd rfl h,fun _=>ah (uu x [y,z]) ?_⟩
  simp only[↓zq,zs,ac,zt]
  have hyl:=fZ y bd l
  rw[jT]at hty
  refine⟨fun h=>⟨by omega,by omega,by omega,ah (C7 bd a ha y.at (by omega)) ?_⟩,fun h=>⟨by omega,by omega,?_⟩⟩
  ·have hz:jT z=true:=by
    rw[if_neg (by rw[h];decide),if_neg (by rw[h];decide),if_pos h]at hty
    simp only[ap]at hty;exact hty.2
   simp only[↓zq,zs,ac]
   refine aT (BZ z (bd++[y.at]) l _ ok3 hz (.of _) (by simp;omega)) ?_
   simp only[↓zq,zs,ac]
   rw[kb,if_pos h]
  ·have hyz:jT y=true/\jT z=true:=by
    split at hty
    ·simpa using hty
    ·split at hty
     ·simpa using hty
     ·cases hty
   refine aT (BZ y bd l a ok2 hyz.1 ha (by omega)) ?_
   simp only[↓zq,zs,ac]
   refine aT (BZ z bd (kb y bd l) a ok3 hyz.2 ha (by omega)) ?_
   simp only[↓zq,zs,ac]
   rw[kb,if_neg h]
theorem ka{s:List UInt8}(h:gV s=true):db s=false:=by
 cases hq:db s with
 |false=>rfl
 |
  true =>
  obtain⟨c,r,rfl,h1,h2⟩:=lN h
  obtain⟨c',r',he,h3,h4⟩:=lN hq
  cases he;omega
theorem mf(s:List UInt8)(ar:List (List UInt8)):∀i,i<=ar.length->(bI s ar i=none↔s∉ar.take i)
 |0,_=>by simp[bI]
 |
  i+1,hi=>by
  have hlt:i<ar.length:=by omega
  have e:ar.getD i []=ar[i]:=by simp[aa,hlt]
  have e2:s∈ar.take (i+1)↔s∈ar.take i\/s=ar[i]:=by
   rw[show ar.take (i+1)=ar.take i++[ar[i]] from (List.take_append_getElem hlt).symm]
   simp only[aI,aP]
  rw[bI,e,e2]
  by_cases h:ar[i]=s
  ·rw[if_pos h]
   exact⟨fun h=>(by cases h),fun h'=>absurd (.inr h.symm) h'⟩
  ·rw[if_neg h,mf s ar i (by omega)]
   exact⟨fun h1 h2=>h2.elim h1 (fun h3=>h h3.symm),fun h1 h2=>h1 (.inl h2)⟩
theorem lC:∀(e:E) (ar l:List (List UInt8)) (t:Ty),cQ e ar=some t->(∀w,w∈ar->db w=true)->(kb e ar l).any db=(l.any db||bW t)
 |
  .atom s,ar,l,t,h,har=>by
  simp only[cQ]at h
  rw[kb]
  split at h
  ·rename_i h0;cases h;rw[if_pos (.inl h0)];simp[bW]
  ·rename_i h0
   split at h
   ·rename_i h1;cases h;rw[if_pos (.inr (.inl h1))];simp[bW]
   ·rename_i h1
    split at h
    ·rename_i h2
     cases h
     have hn:=ka h2
     simp only[bW,hn]
     split
     ·simp
     ·simp[hn]
    ·split at h
     ·rename_i h2 h3
      have hlo:=mf s ar ar.length (aq _)
      rw[List.take_length]at hlo
      cases hq:bI s ar ar.length with
      |
       some u =>
       rw[hq]at h;cases h
       have hm:s∈ar:=Classical.byContradiction fun hm=>by rw[hlo.2 hm]at hq;cases hq
       rw[if_pos (.inr (.inr (.inl hm)))];simp[bW]
      |
       none =>
       rw[hq]at h;cases h
       have hm:=hlo.1 hq
       simp only[bW,h3,Bool.or_true]
       split
       ·rename_i hh
        rcases hh with q|q|q|q
        ·exact absurd q h0
        ·exact absurd q h1
        ·exact absurd q hm
        ·rw[cj];exact⟨s,q,h3⟩
       ·simp[h3]
     ·cases h
 | .list [],_,_,_,h,_=>by cases h
 | .list [_],_,_,_,h,_=>by cases h
 | .list [_,_],_,_,_,h,_=>by cases h
 | .list (_::_::_::_::_),_,_,_,h,_=>by cases h
 |
  .list [x,a,b],ar,l,t,h,har=>by
  rw[kb]
  by_cases h0:x.at=[43]
  ·obtain⟨t1,t2,e1,e2,rfl⟩:=fF h0 h
   rw[if_neg (by rw[h0];decide),lC b ar _ t2 e2 har,lC a ar l t1 e1 har,bW,Bool.or_assoc]
  ·by_cases h1:x.at=[42]
   ·obtain⟨t1,t2,e1,e2,rfl⟩:=eU h1 h
    rw[if_neg (by rw[h1];decide),lC b ar _ t2 e2 har,lC a ar l t1 e1 har,bW,Bool.or_assoc]
   ·by_cases h2:x.at=[114,101,99]
    ·obtain⟨t1,hl,e1,rfl⟩:=dy h2 h
     rw[if_pos h2,lC b _ l t1 e1 (fun w hw=>by
      simp only[aI,aP]at hw
      rcases hw with hw|rfl
      ·exact har w hw
      ·exact hl),bW]
    ·rw[iR _ h0 h1 h2]at h;cases h
def jt(s:List UInt8):Option E:=match vL s with
 |none=>none
 |some e=>if(kb e [] []).any db=true then none else some e
theorem zK{s:List UInt8}:wb s=match jt s with|none=>none|some e=>cQ e []:=by
 unfold wb jt
 rw[s8]
 cases he:vL s with
 |none=>rfl
 |
  some e =>
  obtain⟨h1,h2,h3⟩:=pq he
  have hs:=iP e []
  rw[h2]at hs
  obtain⟨t,ht⟩:=ck.1 hs
  have ha:=lC e [] [] t ht (fun w hw=>by cases hw)
  simp only[ht,sf,ha,List.any_nil,Bool.false_or]
  cases hf:bW t<;>simp[ht]
theorem iE{s:List UInt8}{e:E}(h:jt s=some e):∃t,wb s=some t/\Ask e [] t/\jT e=true/\e.sz<=8000/\t.az<=400/\qf s=some e:=by
 have h0:=h
 unfold jt at h
 split at h
 ·cases h
 ·rename_i e' he
  split at h
  ·cases h
  ·rename_i hn
   cases h
   obtain⟨h1,h2,h3⟩:=pq he
   obtain⟨hok,hsz⟩:=nt h1
   have hs:=iP e []
   rw[h2]at hs
   obtain⟨t,ht⟩:=ck.1 hs
   have ha:=lC e [] [] t ht (fun w hw=>by cases hw)
   rw[ha]at hn
   refine⟨t,by rw[zK,h0];exact ht,⟨hok,.nil,ht,by simpa using hn⟩,h2,hsz,?_,h1⟩
   rw[<-jW e [] t ht];exact h3
theorem mH{s:List UInt8}(h:jt s=none):wb s=none:=by rw[zK,h]
theorem HY(e:E)(l:List (List UInt8))(hl:l.length<1000000):∀(k i:Nat),i+k=l.length->Fh [.v (.int .i64 (i:Int))] [.cells [.v (.string (mk [])),.v (.slice none 0 0)],.cells [.v (.string (mk e.at)),e.sp],.vec 1 (bj l)]
 (nv (if(l.drop i).any db=true then(2,[.v (.bool false)],[.cells [.v (.string (mk e.at)),e.sp]])else(1,[],[.cells [.v (.string (mk [])),.v (.slice none 0 0)],.cells [.v (.string (mk e.at)),e.sp]])))
 |
  0,i,hi=>by
  refine KV _ _ _ _ _ _ ?_
  have hd:l.drop i=[]:=bL (by omega)
  have hll:(bj l).length=l.length:=by simp[bj]
  simp only[G3,↓zq,zs,ac,hd,hll,a6]
  exact⟨fun h=>by omega,fun _=>by simp[nv]⟩
 |
  k+1,i,hi=>by
  have hlt:i<l.length:=by omega
  have hll:(bj l).length=l.length:=by simp[bj]
  have hdr:l.drop i=l.getD i []::l.drop (i+1):=by
   rw[aK hlt];simp[aa,hlt]
  have hg:=(cc.of l).idx hlt
  simp only[fS]at hg
  refine KV _ _ _ _ _ _ ?_
  simp only[G3,↓zq,zs,ac,zt,hll,hg,a6]
  refine⟨fun _=>⟨by omega,by omega,ah (E9 _) ?_⟩,fun h=>by omega⟩
  simp only[↓zq,zs,ac,hdr,List.any_cons]
  refine⟨fun h=>?_,fun h=>?_⟩
  ·rw[h];simp[nv]
  ·rw[h,bg i (by omega)]
   simp only[Bool.false_or]
   exact HY e l hl k (i+1) (by omega)
theorem Jj(s:List UInt8):an Tryz.prog 104 [.v (.string (mk s))] [] (jP (jt s) (jt s).isSome):=by
 refine QN _ ?_
 unfold IL
 refine bO (Gv s) (jP.ne _ _ (fun h=>h)) ?_
 rintro r o ⟨c,d,hd,rfl,hh⟩
 have hhas:bB [.str,.sl] [.v (.string (mk c)),d] 0:=by simp[bB,eg,hd]
 simp only[↓zq,zs,ac,zt]
 refine⟨hhas,fun h=>?_,fun h=>?_⟩
 ·have hn:vL s=none:=by cases hq:vL s<;>simp[hq]at h |-
  unfold jt
  rw[hn]
  exact⟨c,d,hd,rfl,fun h=>by cases h⟩
 ·obtain⟨e,he,hce⟩:=hh h
  obtain⟨h1,h2,h3⟩:=pq he
  obtain⟨hok,hsz⟩:=nt h1
  have hce':=hce
  rw[dr]at hce'
  simp only[AV.agg.injEq,List.cons.injEq,AV.v.injEq,Value.string.injEq,and_true]at hce'
  obtain⟨hc1,rfl⟩:=hce'
  have hc2:=Ay hc1
  subst hc2
  rw[<-dr]
  refine aT (BZ e [] [] _ hok h2 (.of []) (by simp;omega)) ?_
  have hfl:=fZ e [] []
  simp only[↓zq,zs,ac]
  have hLS:=HY e (kb e [] []) (by simp at hfl;omega) (kb e [] []).length 0 (by omega)
  simp only[aZ]at hLS
  unfold jt
  rw[he]
  refine eX hLS (fun ys o e'=>?_) (fun ys o e'=>?_)
  ·split at e'<;>cases e'
   rename_i hn
   simp only[↓zq,zs,ac,a6,if_neg hn]
   exact⟨e.at,e.sp,hd,rfl,fun _=>⟨e,rfl,(dr e).symm⟩⟩
  ·split at e'<;>cases e'
   rename_i hn
   simp only[↓zq,zs,ac,a6,if_pos hn]
   exact⟨e.at,e.sp,hd,rfl,fun h=>by cases h⟩
def ni(s v:List UInt8)(n:Int):Option Vl:=match jt s,rM v with
 |some e,some w=>if(0<=n/\n<=100)/\eK n.toNat w (e,[])=true then some w else none
 |_,_=>none
theorem rb{s v:List UInt8}{n:Int}{w:Vl}(h:ni s v n=some w):∃e t m,jt s=some e/\rM v=some w/\wb s=some t/\Ask e [] t/\n=(m:Nat)/\m<=100/\eK m w (e,[])=true:=by
 unfold ni at h
 split at h
 ·rename_i e w' he hw
  split at h
  ·rename_i hh
   cases h
   obtain⟨t,h1,h2,_⟩:=iE he
   exact⟨e,t,n.toNat,he,hw,h1,h2,by omega,by omega,hh.2⟩
  ·cases h
 ·cases h
theorem M9(s v:List UInt8)(n:Int):an Tryz.prog 71 [.v (.string (mk s)),.v (.string (mk v)),.v (.int .i64 n)] [] (bA (.cI [hG (wb s),je (ni s v n)])):=by
 refine Ox _ _ _ ?_
 unfold Nj
 refine ah (LN s) ?_
 simp only[↓zq,zs,ac,il]
 refine ah (Pk v) ?_
 simp only[↓zq,zs,ac,gn,bA]
 unfold ni
 cases he:jt s with
 |none=>rw[mH he];cases rM v<;>simp[hG,je,↓zq,zs,ac]
 |
  some e =>
  obtain⟨t,h1,h2,h3,h4,h5,_⟩:=iE he
  rw[h1]
  cases hv:rM v with
  |none=>simp only[hG,je,aC,fG,↓zq,zs,ac];exact⟨fun h=>(by cases h),fun _=>⟨fun _=>trivial,fun h=>(by cases h)⟩⟩
  |
   some w =>
   obtain⟨h6,h7,h8⟩:=lG hv
   simp only[hG,je,aC,fG,aH,fm,↓zq,zs,ac]
   refine⟨fun h=>(by cases h),fun _=>⟨fun h=>(by cases h),fun _=>⟨fun h=>?_,fun h=>⟨fun h'=>?_,fun h'=>?_⟩⟩⟩⟩
   ·rw[if_neg (by omega)]
   ·rw[if_neg (by omega)]
   ·obtain⟨m,rfl⟩:∃m:Nat,n=(m:Int):=⟨n.toNat,by omega⟩
    have hi:=MM m (by omega) (w.nodes+1) w (by omega) h7 e [] t h2 (by simp;omega)
    unfold pH at hi
    refine ah hi ?_
    simp only[↓zq,zs,ac,bJ]
    refine⟨fun hq=>?_,fun hq=>?_⟩
    ·rw[if_neg (by rw[hq];simp)]
    ·rw[if_pos ⟨by omega,hq⟩]
theorem yZ(s v:List UInt8)(n:Int):an Tryz.prog 90 [.v (.string (mk s)),.v (.string (mk v)),.v (.int .i64 n)] [] (bA (.v (.bool (ni s v n).isSome))):=by
 refine N7 _ _ _ ?_
 unfold KY
 refine bO (Jj s) (jP.ne _ _ (fun h=>h)) ?_
 rintro r o ⟨c,d,hd,rfl,hh⟩
 have hhas:bB [.str,.sl] [.v (.string (mk c)),d] 0:=by simp[bB,eg,hd]
 simp only[↓zq,zs,ac,zt]
 refine⟨hhas,?_⟩
 refine bO (BW v) (jP.ne _ _ (fun h=>by cases hq:rM v<;>simp[hq]at h |-)) ?_
 rintro r o ⟨c',d',hd',rfl,hh'⟩
 have hhas':bB [.str,.sl] [.v (.string (mk c')),d'] 0:=by simp[bB,eg,hd']
 simp only[↓zq,zs,ac,zt,bA]
 refine⟨hhas',fun h=>⟨fun h2=>?_,fun h2=>?_⟩,fun h=>?_⟩
 ·obtain⟨e,he,hce⟩:=hh h
  obtain⟨t,h1,hA,h3,h4,h5,_⟩:=iE he
  obtain⟨w,hw⟩:=ck.1 h2
  obtain⟨e2,he2,hce2⟩:=hh' h2
  rw[hw]at he2
  cases he2
  obtain⟨h6,h7,h8⟩:=lG hw
  refine ah (yr _ _ _) ?_
  simp only[↓zq,zs,ac,wS,ni,he,hw]
  refine⟨fun hq=>?_,fun hq=>?_⟩
  ·have hq':0<=n/\n<=100:=by simpa using hq
   obtain⟨m,rfl⟩:∃m:Nat,n=(m:Int):=⟨n.toNat,by omega⟩
   rw[hce,hce2]
   have:=Qv m (by omega) w h7 e [] t hA (by simp;omega)
   rw[show jY []=[] from rfl]at this
   refine ah this ?_
   simp only[↓zq,zs,ac,bJ]
   by_cases hb:eK m w (e,[])=true
   ·rw[if_pos ⟨hq',hb⟩,hb];rfl
   ·rw[if_neg (fun h=>hb h.2)]
    rw[Bool.not_eq_true]at hb
    rw[hb];rfl
  ·have hq':¬(0<=n/\n<=100):=by simpa using hq
   rw[if_neg (fun h=>hq' h.1)];rfl
 ·have hn:rM v=none:=by cases hq:rM v<;>simp[hq]at h2 |-
  unfold ni
  rw[hn];cases jt s<;>rfl
 ·have hn:jt s=none:=by cases hq:jt s<;>simp[hq]at h |-
  unfold ni
  rw[hn];rfl
end Go.Proofs.Trees
namespace Go.Proofs.Trees
open Go Go.VL Go.RowKit
inductive Tg where
 |nm (s:List UInt8)
 |bd (k:Nat)
 deriving DecidableEq
def Tg.up:Tg->Tg
 | .nm s=>.nm s
 | .bd k=>.bd (k+1)
def fI:Ty->Tg->Bool
 | .name s,.nm s'=>decide (s=s')
 | .bN u,.bd k=>decide (u=k)
 |_,_=>false
abbrev Hl:=Vl×Vl
def ji(g:Vl->Vl)(l:List Hl):List Hl:=l.map fun h=>(g h.1,h.2)
def km(f:Ty->Tg->Vl->List Hl)(tg:Tg):Ty->Vl->List Hl
 | .plus a _,.l w=>ji .l (f a tg w)
 | .plus _ b,.r w=>ji .r (f b tg w)
 | .times a b,.p x y=>ji (fun c=>.l (.p c y)) (f a tg x)++ji (fun c=>.r (.p x c)) (f b tg y)
 | .rc a,.f w=>ji (fun c=>.f (.l c)) (f a tg.up w)++(f a (.bd 0) w).flatMap fun h=>ji (fun c=>.f (.r (.p h.1 c))) (f (.rc a) tg h.2)
 |_,_=>[]
def eA:Nat->Ty->Tg->Vl->List Hl
 |0,_,_,_=>[]
 |n+1,t,tg,v=>if fI t tg=true then [(.u,v)]else km (eA n) tg t v
def stuck:Ty->Vl->Bool
 | .plus _ _,.l _=>false
 | .plus _ _,.r _=>false
 | .times _ _,.p _ _=>false
 | .rc _,.f _=>false
 |_,_=>true
def cg(t:Ty)(tg:Tg)(v:Vl):List Hl:=eA v.nodes t tg v
theorem dF{g:Vl->Vl}{l:List Hl}{h:Hl}(hm:h∈ji g l):∃k,k∈l/\h=(g k.1,k.2):=by
 obtain⟨k,h1,h2⟩:=cf.1 hm
 exact⟨k,h1,h2.symm⟩
theorem jI{f g:Hl->List Hl}:∀{l:List Hl},(∀h,h∈l->f h=g h)->l.flatMap f=l.flatMap g
 |[],_=>rfl
 |h::l,hl=>by rw[List.flatMap_cons,List.flatMap_cons,hl h aj,jI (l:=l) fun k hk=>hl k (ak _ hk)]
theorem fD:∀(n:Nat) (t:Ty) (tg:Tg) (v:Vl) (h:Hl),h∈eA n t tg v->h.2.nodes<=v.nodes/\h.1.nodes+4*h.2.nodes<=4*v.nodes+1
 |0,t,tg,v,h,hm=>by simp[eA]at hm
 |
  n+1,t,tg,v,h,hm=>by
  unfold eA at hm
  split at hm
  ·simp only[aP]at hm
   subst hm
   simp only[Vl.nodes];omega
  ·unfold km at hm
   split at hm
   ·obtain⟨k,h1,rfl⟩:=dF hm
    have:=fD n _ _ _ k h1
    simp only[Vl.nodes];omega
   ·obtain⟨k,h1,rfl⟩:=dF hm
    have:=fD n _ _ _ k h1
    simp only[Vl.nodes];omega
   ·rcases aI.1 hm with hm|hm
    ·obtain⟨k,h1,rfl⟩:=dF hm
     have:=fD n _ _ _ k h1
     simp only[Vl.nodes];omega
    ·obtain⟨k,h1,rfl⟩:=dF hm
     have:=fD n _ _ _ k h1
     simp only[Vl.nodes];omega
   ·rcases aI.1 hm with hm|hm
    ·obtain⟨k,h1,rfl⟩:=dF hm
     have:=fD n _ _ _ k h1
     simp only[Vl.nodes];omega
    ·obtain⟨k,h1,h2⟩:=List.mem_flatMap.1 hm
     obtain⟨k2,h3,rfl⟩:=dF h2
     have:=fD n _ _ _ k h1
     have:=fD n _ _ _ k2 h3
     simp only[Vl.nodes];omega
   ·simp at hm
theorem gY:∀(n m:Nat) (t:Ty) (tg:Tg) (v:Vl),v.nodes<=n->v.nodes<=m->eA n t tg v=eA m t tg v
 |0,m,t,tg,v,h,_=>by have:=dD v;omega
 |n+1,0,t,tg,v,_,h=>by have:=dD v;omega
 |
  n+1,m+1,t,tg,v,hn,hm=>by
  rw[eA,eA]
  split
  ·rfl
  ·unfold km
   split
   ·simp only[Vl.nodes]at hn hm;rw[gY n m _ _ _ (by omega) (by omega)]
   ·simp only[Vl.nodes]at hn hm;rw[gY n m _ _ _ (by omega) (by omega)]
   ·simp only[Vl.nodes]at hn hm;rw[gY n m _ _ _ (by omega) (by omega),gY n m _ _ _ (by omega) (by omega)]
   ·rename_i a w
    simp only[Vl.nodes]at hn hm;rw[gY n m _ _ _ (by omega) (by omega),gY n m _ (.bd 0) _ (by omega) (by omega)]
    congr 1
    apply jI
    intro h hh
    have:=(fD _ _ _ _ _ hh).1
    rw[gY n m _ _ _ (by omega) (by omega)]
   ·rfl
theorem oL{n:Nat}(t:Ty)(tg:Tg){v:Vl}(h:v.nodes<=n):eA n t tg v=cg t tg v:=gY _ _ _ _ _ h (aq _)
theorem ml{t:Ty}{tg:Tg}(v:Vl)(h:fI t tg=true):cg t tg v=[(.u,v)]:=by
 have:=dD v
 unfold cg
 cases e:v.nodes with
 |zero=>omega
 |succ n=>rw[eA,if_pos h]
theorem mF(a b:Ty)(tg:Tg)(w:Vl):cg (.plus a b) tg (.l w)=ji .l (cg a tg w):=by
 unfold cg;rw[show (Vl.l w).nodes=w.nodes+1 by simp[Vl.nodes];omega,eA,if_neg (by simp[fI])];rfl
theorem mM(a b:Ty)(tg:Tg)(w:Vl):cg (.plus a b) tg (.r w)=ji .r (cg b tg w):=by
 unfold cg;rw[show (Vl.r w).nodes=w.nodes+1 by simp[Vl.nodes];omega,eA,if_neg (by simp[fI])];rfl
theorem mG(a b:Ty)(tg:Tg)(x y:Vl):cg (.times a b) tg (.p x y)=ji (fun c=>.l (.p c y)) (cg a tg x)++ji (fun c=>.r (.p x c)) (cg b tg y):=by
 rw[cg,show (Vl.p x y).nodes=(x.nodes+y.nodes)+1 by simp[Vl.nodes];omega,eA,if_neg (by simp[fI])]
 rw[km,oL a tg (by omega),oL b tg (by omega)]
theorem mE(a:Ty)(tg:Tg)(w:Vl):cg (.rc a) tg (.f w)=ji (fun c=>.f (.l c)) (cg a tg.up w)++(cg a (.bd 0) w).flatMap fun h=>ji (fun c=>.f (.r (.p h.1 c))) (cg (.rc a) tg h.2):=by
 rw[cg,show (Vl.f w).nodes=w.nodes+1 by simp[Vl.nodes];omega,eA,if_neg (by simp[fI])]
 rw[km,oL a tg.up (aq _),oL a (.bd 0) (aq _)]
 congr 1
 apply jI
 intro h hh
 have:=(fD _ _ _ _ _ hh).1
 rw[oL (.rc a) tg this]
theorem dS{t:Ty}{tg:Tg}{v:Vl}(h:fI t tg=false)(h2:stuck t v=true):cg t tg v=[]:=by
 unfold cg
 cases e:v.nodes with
 |zero=>rfl
 |
  succ n =>
  rw[eA,if_neg (by rw[h];simp)]
  unfold km
  split<;>first|(simp[stuck]at h2;done)|rfl
theorem ir{t:Ty}{tg:Tg}{v:Vl}{h:Hl}(hm:h∈cg t tg v):h.2.nodes<=v.nodes/\h.1.nodes+4*h.2.nodes<=4*v.nodes+1:=fD _ _ _ _ _ hm
theorem gX(n:Nat):∀(m:Nat) (t:Ty) (tg:Tg) (v:Vl) (h:Hl),v.iu n->h∈eA m t tg v->h.1.iu n/\h.2.iu n
 |0,t,tg,v,h,hv,hm=>by simp[eA]at hm
 |
  m+1,t,tg,v,h,hv,hm=>by
  unfold eA at hm
  split at hm
  ·simp only[aP]at hm
   subst hm
   exact⟨trivial,hv⟩
  ·unfold km at hm
   split at hm
   ·obtain⟨k,h1,rfl⟩:=dF hm
    exact(fun q=>gX n m _ _ _ k q h1) hv
   ·obtain⟨k,h1,rfl⟩:=dF hm
    exact(fun q=>gX n m _ _ _ k q h1) hv
   ·rcases aI.1 hm with hm|hm
    ·obtain⟨k,h1,rfl⟩:=dF hm
     obtain⟨q1,q2⟩:=gX n m _ _ _ k hv.1 h1
     exact⟨⟨q1,hv.2⟩,q2⟩
    ·obtain⟨k,h1,rfl⟩:=dF hm
     obtain⟨q1,q2⟩:=gX n m _ _ _ k hv.2 h1
     exact⟨⟨hv.1,q1⟩,q2⟩
   ·rcases aI.1 hm with hm|hm
    ·obtain⟨k,h1,rfl⟩:=dF hm
     exact(fun q=>gX n m _ _ _ k q h1) hv
    ·obtain⟨k,h1,h2⟩:=List.mem_flatMap.1 hm
     obtain⟨k2,h3,rfl⟩:=dF h2
     obtain⟨q1,q2⟩:=(fun q=>gX n m _ _ _ k q h1) hv
     obtain⟨q3,q4⟩:=gX n m _ _ _ k2 q2 h3
     exact⟨⟨q1,q3⟩,q4⟩
   ·simp at hm
def kT(l:List Hl):Nat:=(l.map fun h=>h.2.nodes).sum
theorem qZ(l r:List Hl):kT (l++r)=kT l+kT r:=by simp[kT]
theorem nJ(g:Vl->Vl)(l:List Hl):kT (ji g l)=kT l:=by simp[kT,ji,Function.comp_def]
def ko(f:Tg->Nat)(T:List Tg):Nat:=(T.map f).sum
theorem ou(f g:Tg->Nat):∀T:List Tg,ko (fun x=>f x+g x) T=ko f T+ko g T
 |[]=>rfl
 |x::T=>by have:=ou f g T;simp only[ko,bE,List.sum_cons]at this |-;omega
theorem xS{f g:Tg->Nat}:∀{T:List Tg},(∀x,x∈T->f x<=g x)->ko f T<=ko g T
 |[],_=>aq _
 |
  x::T,h=>by
  have:=xS (T:=T) fun y hy=>h y (ak _ hy)
  have:=h x aj
  simp only[ko,bE,List.sum_cons]at *;omega
theorem oW{f:Tg->Nat}:∀{T:List Tg},(∀x,x∈T->f x=0)->ko f T=0
 |[],_=>rfl
 |
  x::T,h=>by
  have:=oW (T:=T) fun y hy=>h y (ak _ hy)
  have:=h x aj
  simp only[ko,bE,List.sum_cons]at *;omega
theorem sk(g:Hl->Tg->Nat)(T:List Tg):∀l:List Hl,ko (fun x=>(l.map fun h=>g h x).sum) T=(l.map fun h=>ko (g h) T).sum
 |[]=>oW fun _ _=>rfl
 |
  h::l=>by
  have:=sk g T l
  simp only[bE,List.sum_cons]
  rw[ou,this]
theorem sQ(f:Hl->List Hl):∀l:List Hl,kT (l.flatMap f)=(l.map fun h=>kT (f h)).sum
 |[]=>rfl
 |h::l=>by rw[List.flatMap_cons,qZ,sQ f l];simp
theorem Bj{f g:Hl->Nat}:∀{l:List Hl},(∀x,x∈l->f x<=g x)->(l.map f).sum<=(l.map g).sum
 |[],_=>aq _
 |
  x::l,h=>by
  have:=Bj (l:=l) fun y hy=>h y (ak _ hy)
  have:=h x aj
  simp only[bE,List.sum_cons]at *;omega
theorem Bz{t:Ty}{x y:Tg}(h:fI t x=true)(h':fI t y=true):x=y:=by
 cases t<;>cases x<;>cases y<;>simp[fI]at h h'<;>simp_all
theorem wR{t:Ty}(n:Nat):∀{T:List Tg},T.Nodup->ko (fun x=>if fI t x=true then n else 0) T<=n
 |[],_=>Nat.zero_le _
 |
  x::T,h=>by
  obtain⟨h1,h2⟩:=List.nodup_cons.1 h
  have ih:=wR (t:=t) n h2
  by_cases hx:fI t x=true
  ·have:ko (fun x=>if fI t x=true then n else 0) T=0:=oW fun y hy=>by
    rw[if_neg fun hy'=>h1 (by rw[Bz hx hy'];exact hy)]
   simp only[ko,bE,List.sum_cons]at *
   rw[if_pos hx];omega
  ·simp only[ko,bE,List.sum_cons]at *
   rw[if_neg hx];omega
theorem zR{T:List Tg}(h:T.Nodup):(Tg.bd 0::T.map Tg.up).Nodup:=by
 refine List.nodup_cons.2 ⟨fun hm=>?_,?_⟩
 ·obtain⟨x,_,e⟩:=cf.1 hm
  cases x<;>simp[Tg.up]at e
 ·refine List.Pairwise.map _ (fun a b hab e=>hab ?_) h
  cases a<;>cases b<;>simp[Tg.up]at e<;>simp_all
theorem apart:∀(n:Nat) (v:Vl),v.nodes<=n->∀(t:Ty) (T:List Tg),T.Nodup->ko (fun x=>kT (cg t x v)) T<=v.nodes
 |0,v,h=>by have:=dD v;omega
 |
  n+1,v,hn=>by
  intro t T hT
  have base:∀(hno:∀x,fI t x=false->cg t x v=[]),ko (fun x=>kT (cg t x v)) T<=v.nodes:=fun hno=>by
   refine Nat.le_trans (xS fun x _=>?_) (wR (t:=t) v.nodes hT)
   cases e:fI t x with
   |true=>rw[ml v e];simp[kT]
   |false=>rw[hno x e];simp[kT]
  cases hm:stuck t v with
  |true=>exact base fun x hx=>dS hx hm
  |
   false =>
   unfold stuck at hm
   split at hm
   ·rename_i a b w
    simp only[Vl.nodes]at hn |-
    simp only[mF,nJ]
    have:=apart n w (by omega) a T hT
    omega
   ·rename_i a b w
    simp only[Vl.nodes]at hn |-
    simp only[mM,nJ]
    have:=apart n w (by omega) b T hT
    omega
   ·rename_i a b x y
    simp only[Vl.nodes]at hn |-
    simp only[mG,qZ,nJ]
    rw[ou]
    have:=apart n x (by omega) a T hT
    have:=apart n y (by omega) b T hT
    omega
   ·rename_i a w
    simp only[Vl.nodes]at hn |-
    simp only[mE,qZ,nJ,sQ]
    rw[ou,sk]
    have h1:=apart n w (by omega) a _ (zR hT)
    simp only[ko,bE,List.sum_cons,List.map_map]at h1
    have h2:((cg a (.bd 0) w).map fun h=>ko (fun x=>kT (cg (.rc a) x h.2)) T).sum<=kT (cg a (.bd 0) w):=Bj fun h hh=>by
     have:=(ir hh).1
     exact apart n h.2 (by omega) (.rc a) T hT
    simp only[ko,Function.comp_def]at h1 h2 |-
    omega
   ·cases hm
theorem rn(t:Ty)(tg:Tg)(v:Vl):kT (cg t tg v)<=v.nodes:=by
 have:=apart v.nodes v (aq _) t [tg] (by simp)
 simpa[ko]using this
theorem mi:∀l:List Hl,l.length<=kT l
 |[]=>Nat.zero_le _
 |
  h::l=>by
  have:=mi l
  have:=dD h.2
  simp only[kT,bE,List.sum_cons,aB]at *;omega
theorem mL(t:Ty)(tg:Tg)(v:Vl):(cg t tg v).length<=v.nodes:=Nat.le_trans (mi _) (rn t tg v)
end Go.Proofs.Trees
namespace Go.Proofs.Trees
open Go Go.VL Go.RowKit
def gb(ar:List (List UInt8))(k:Nat):List UInt8:=ar.getD (ar.length-1-k) []
theorem fA{s:List UInt8}{ar:List (List UInt8)}:∀(i u:Nat),i<=ar.length->bI s ar i=some u->u<ar.length/\gb ar u=s
 |0,u,_,h=>by cases h
 |
  i+1,u,hi,h=>by
  rw[bI]at h
  split at h
  ·rename_i e
   cases h
   refine⟨by omega,?_⟩
   rw[gb,show ar.length-1-(ar.length-1-i)=i by omega];exact e
  ·exact fA i u (by omega) h
def uy:Ty->Tg->Bool
 | .plus a b,tg=>uy a tg||uy b tg
 | .times a b,tg=>uy a tg||uy b tg
 | .rc a,tg=>uy a tg.up
 |t,tg=>fI t tg
theorem iN:∀(n:Nat) (v:Vl),v.nodes<=n->∀(t:Ty) (tg:Tg),uy t tg=false->cg t tg v=[]
 |0,v,h=>by have:=dD v;omega
 |
  n+1,v,hn=>by
  intro t tg ho
  cases hm:stuck t v with
  |
   true =>
   refine dS ?_ hm
   cases t<;>first|exact ho|rfl
  |
   false =>
   unfold stuck at hm
   split at hm
   ·simp only[Vl.nodes]at hn
    simp only[uy,cv]at ho
    rw[mF,iN n _ (by omega) _ _ ho.1];rfl
   ·simp only[Vl.nodes]at hn
    simp only[uy,cv]at ho
    rw[mM,iN n _ (by omega) _ _ ho.2];rfl
   ·simp only[Vl.nodes]at hn
    simp only[uy,cv]at ho
    rw[mG,iN n _ (by omega) _ _ ho.1,iN n _ (by omega) _ _ ho.2];rfl
   ·rename_i a w
    simp only[Vl.nodes]at hn
    have ho':uy a tg.up=false:=ho
    rw[mE,iN n _ (by omega) _ _ ho']
    have:(cg a (.bd 0) w).flatMap (fun h=>ji (fun c=>.f (.r (.p h.1 c))) (cg (.rc a) tg h.2))=(cg a (.bd 0) w).flatMap (fun _=>[]):=jI fun h hh=>by
     have:=(ir hh).1
     rw[iN n h.2 (by omega) (.rc a) tg ho];rfl
    rw[this]
    induction cg a (.bd 0) w<;>simp_all[ji]
   ·cases hm
theorem kG:∀(e:E) (ar:List (List UInt8)) (t:Ty) (k:Nat),cQ e ar=some t->uy t (.bd k)=true->k<ar.length/\bI (gb ar k) ar ar.length=some k
 |
  .atom s,ar,t,k,ht,ho=>by
  simp only[cQ]at ht
  split at ht
  ·cases ht;cases ho
  ·split at ht
   ·cases ht;cases ho
   ·split at ht
    ·cases ht;cases ho
    ·split at ht
     ·split at ht
      ·rename_i u hu
       cases ht
       have:u=k:=by simpa[uy,fI]using ho
       subst this
       obtain⟨h1,h2⟩:=fA _ _ (aq _) hu
       exact⟨h1,by rw[h2];exact hu⟩
      ·cases ht;cases ho
     ·cases ht
 |
  .list [x,a,b],ar,t,k,ht,ho=>by
  by_cases h0:x.at=[43]
  ·obtain⟨t1,t2,h1,h2,rfl⟩:=fF h0 ht
   simp only[uy,bw]at ho
   rcases ho with ho|ho
   ·exact kG a ar t1 k h1 ho
   ·exact kG b ar t2 k h2 ho
  ·by_cases h1:x.at=[42]
   ·obtain⟨t1,t2,h1,h2,rfl⟩:=eU h1 ht
    simp only[uy,bw]at ho
    rcases ho with ho|ho
    ·exact kG a ar t1 k h1 ho
    ·exact kG b ar t2 k h2 ho
   ·by_cases h2:x.at=[114,101,99]
    ·obtain⟨t1,_,h3,rfl⟩:=dy h2 ht
     obtain⟨q1,q2⟩:=kG b (ar++[a.at]) t1 (k+1) h3 ho
     simp only[ax,aB,aJ]at q1
     have hk:k<ar.length:=by omega
     have e:gb (ar++[a.at]) (k+1)=gb ar k:=by
      unfold gb
      rw[ax,show ar.length+[a.at].length-1-(k+1)=ar.length-1-k by simp;omega]
      simp[aa,List.getElem?_append_left (show ar.length-1-k<ar.length by omega)]
     rw[e]at q2
     refine⟨hk,?_⟩
     have e2:(ar++[a.at]).length=ar.length+1:=by simp
     rw[e2,bI]at q2
     split at q2
     ·rw[e2]at q2;simp at q2
     ·rw[ki _ _ _ _ (aq _)]at q2
      cases hq:bI (gb ar k) ar ar.length with
      |none=>rw[hq]at q2;cases q2
      |some u=>rw[hq]at q2;simpa using q2
    ·rw[iR _ h0 h1 h2]at ht;cases ht
 | .list [],ar,t,k,ht,ho=>by cases ht
 | .list [_],ar,t,k,ht,ho=>by cases ht
 | .list [_,_],ar,t,k,ht,ho=>by cases ht
 | .list (_::_::_::_::_),ar,t,k,ht,ho=>by cases ht
theorem e9(w:List UInt8)(ar:List (List UInt8)):bI w (ar++[w]) (ar++[w]).length=some 0:=by
 have e2:(ar++[w]).length=ar.length+1:=by simp
 rw[e2,bI,if_pos (by simp[aa]),e2];simp
theorem jp{s w:List UInt8}(ar:List (List UInt8))(h:w≠s):bI s (ar++[w]) (ar++[w]).length=(bI s ar ar.length).map (·+1):=by
 have e2:(ar++[w]).length=ar.length+1:=by simp
 rw[e2,bI,if_neg (by simpa[aa]using h),ki _ _ _ _ (aq _)]
theorem GY{b:E}{ar:List (List UInt8)}{w:List UInt8}{t:Ty}{k:Nat}(hb:cQ b (ar++[w])=some t)(hk:bI w ar ar.length=some k):uy t (.bd (k+1))=false:=by
 cases h:uy t (.bd (k+1))with
 |false=>rfl
 |
  true =>
  obtain⟨_,q2⟩:=kG _ _ _ _ hb h
  obtain⟨h1,h2⟩:=fA _ _ (aq _) hk
  have e:gb (ar++[w]) (k+1)=gb ar k:=by
   unfold gb
   rw[ax,show ar.length+[w].length-1-(k+1)=ar.length-1-k by simp;omega]
   simp[aa,List.getElem?_append_left (show ar.length-1-k<ar.length by omega)]
  rw[e,h2,e9]at q2
  cases q2
def n9(s:List UInt8)(ar:List (List UInt8)):Tg:=match bI s ar ar.length with|some u=>.bd u|none=>.nm s
theorem vG(w:List UInt8)(ar:List (List UInt8)):n9 w (ar++[w])=.bd 0:=by rw[n9,e9]
theorem zc{s w:List UInt8}(ar:List (List UInt8))(h:w≠s):n9 s (ar++[w])=(n9 s ar).up:=by
 rw[n9,n9,jp ar h]
 cases bI s ar ar.length<;>rfl
theorem iq(n:Nat):∀(m:Nat) (v:Vl),v.nodes<=m->∀(e:E) (env:List Fr) (t:Ty),Ask e env t->eK n v (e,env)=true->∀(k:Nat) (f:Fr),env[k]?=some f->∀h,h∈cg t (.bd k) v->eK n h.2 (f.ex,f.out)=true
 |0,v,hm=>by have:=dD v;omega
 |
  m+1,v,hm=>by
  intro e env t A hv k f hf h hh
  rcases gl A.wf A.ty with⟨hb,hq⟩|⟨u,g,rfl,hq,hu⟩
  ·have hhd:hd e env=(e,env):=j9 hq
   rcases fC A.ty hb A.cl with⟨rfl,rfl⟩|⟨rfl,rfl⟩|⟨s,rfl,rfl,hp,h0,h1⟩|⟨x,a,b,t1,t2,rfl,hx,rfl,ha,hbb⟩|⟨x,a,b,t1,t2,rfl,hx,rfl,ha,hbb⟩|⟨x,a,b,t1,rfl,hx,rfl⟩
   ·rw[dS rfl (by cases v<;>rfl)]at hh;cases hh
   ·rw[dS rfl (by cases v<;>rfl)]at hh;cases hh
   ·rw[dS rfl (by cases v<;>rfl)]at hh;cases hh
   ·obtain⟨ok1,ok2,ok3,_⟩:=A.ok
    obtain⟨f1,f2⟩:=fp A.cl
    cases v with
    |
     l w =>
     simp only[eK,hhd,hx,beq_self_eq_true,bP]at hv
     simp only[Vl.nodes]at hm
     rw[mF]at hh
     obtain⟨h2,h3,rfl⟩:=dF hh
     exact iq n m w (by omega) a env t1 ⟨ok2,A.wf,ha,f1⟩ hv k f hf h2 h3
    |
     r w =>
     simp only[eK,hhd,hx,beq_self_eq_true,bP]at hv
     simp only[Vl.nodes]at hm
     rw[mM]at hh
     obtain⟨h2,h3,rfl⟩:=dF hh
     exact iq n m w (by omega) b env t2 ⟨ok3,A.wf,hbb,f2⟩ hv k f hf h2 h3
    |_=>rw[dS rfl rfl]at hh;cases hh
   ·obtain⟨ok1,ok2,ok3,_⟩:=A.ok
    obtain⟨f1,f2⟩:=eJ A.cl
    cases v with
    |
     p w w' =>
     simp only[eK,hhd,hx,beq_self_eq_true,bP,ap]at hv
     simp only[Vl.nodes]at hm
     rw[mG]at hh
     rcases aI.1 hh with hh|hh
     ·obtain⟨h2,h3,rfl⟩:=dF hh
      exact iq n m w (by omega) a env t1 ⟨ok2,A.wf,ha,f1⟩ hv.1 k f hf h2 h3
     ·obtain⟨h2,h3,rfl⟩:=dF hh
      exact iq n m w' (by omega) b env t2 ⟨ok3,A.wf,hbb,f2⟩ hv.2 k f hf h2 h3
    |_=>rw[dS rfl rfl]at hh;cases hh
   ·obtain⟨t1',he1,h1,f1,hw1⟩:=i6 A.wf A.ok hx A.ty A.cl
    cases he1
    obtain⟨ok1,ok2,ok3,_⟩:=A.ok
    cases v with
    |
     f w =>
     simp only[eK,hhd,hx,beq_self_eq_true,bP]at hv
     simp only[Vl.nodes]at hm
     rw[mE]at hh
     have A':Ask b (.mk a.at (.list [x,a,b]) env::env) t1:=⟨ok3,hw1,h1,f1⟩
     rcases aI.1 hh with hh|hh
     ·obtain⟨h2,h3,rfl⟩:=dF hh
      exact iq n m w (by omega) b _ t1 A' hv (k+1) f (by simpa using hf) h2 h3
     ·obtain⟨kd,h2,h3⟩:=List.mem_flatMap.1 hh
      obtain⟨h4,h5,rfl⟩:=dF h3
      have hkd:=iq n m w (by omega) b _ t1 A' hv 0 _ rfl kd h2
      have:=(ir h2).1
      exact iq n m kd.2 (by omega) (.list [x,a,b]) env _ A hkd k f hf h4 h5
    |_=>rw[dS rfl rfl]at hh;cases hh
  ·by_cases huk:u=k
   ·subst huk
    rw[hu]at hf;cases hf
    rw[ml v (by simp[fI])]at hh
    simp only[aP]at hh
    subst hh
    obtain⟨x,a,b,t',hfe,hok,hx,ht',hf',hwf,hlt⟩:=nK A.wf hq
    rw[<-tP n v (qn hq) (by rw[hfe];exact pe hwf)];exact hv
   ·rw[dS (by simpa[fI]using huk) (by cases v<;>rfl)]at hh;cases hh
end Go.Proofs.Trees
namespace Go.Proofs.Trees
open Go Go.VL Go.RowKit
def cP:E->List Nm->Ty
 | .atom s,ar=>if s=[48]then .zero else if s=[49]then .one else match bI s ar ar.length with|some u=>.bN u|none=>.name s
 | .list [x,a,b],ar=>if x.at=[43]then .plus (cP a ar) (cP b ar)else if x.at=[42]then .times (cP a ar) (cP b ar)else .rc (cP b (ar++[a.at]))
 | .list _,_=>.zero
def rO(s:Nm):Prop:=s≠[]/\s≠[48]/\s≠[49]
inductive Wf:E->Prop
 |atom {s} (h:s≠[]):Wf (.atom s)
 |plus {a b} (ha:Wf a) (hb:Wf b):Wf (.list [.atom [43],a,b])
 |times {a b} (ha:Wf a) (hb:Wf b):Wf (.list [.atom [42],a,b])
 |rc {n b} (hn:rO n) (hb:Wf b):Wf (.list [.atom [114,101,99],.atom n,b])
theorem dI(a b:E)(ar:List Nm):cP (.list [.atom [43],a,b]) ar=.plus (cP a ar) (cP b ar):=by rw[cP,if_pos (show (E.atom [43]).at=[43] from rfl)]
theorem dj(a b:E)(ar:List Nm):cP (.list [.atom [42],a,b]) ar=.times (cP a ar) (cP b ar):=by rw[cP,if_neg (by decide),if_pos (show (E.atom [42]).at=[42] from rfl)]
theorem eS(a b:E)(ar:List Nm):cP (.list [.atom [114,101,99],a,b]) ar=.rc (cP b (ar++[a.at])):=by rw[cP,if_neg (by decide),if_neg (by decide)]
theorem Wf.ok{e:E}(h:Wf e):e.ok:=by
 induction h with
 |atom h=>exact h
 |plus ha hb i1 i2=>exact⟨by simp[E.ok],i1,i2,trivial⟩
 |times ha hb i1 i2=>exact⟨by simp[E.ok],i1,i2,trivial⟩
 |rc hn hb i=>exact⟨by simp[E.ok],hn.1,i,trivial⟩
theorem Wf.dA{e:E}(h:Wf e):∀ar,e.dA=(cP e ar).az:=by
 induction h with
 |
  @atom s h =>
  intro ar
  simp only[E.dA,cP]
  split
  ·rfl
  ·split
   ·rfl
   ·split<;>rfl
 |plus ha hb i1 i2=>intro ar;rw[dI];simp only[E.dA,E.fJ,Ty.az,<-i1 ar,<-i2 ar];omega
 |times ha hb i1 i2=>intro ar;rw[dj];simp only[E.dA,E.fJ,Ty.az,<-i1 ar,<-i2 ar];omega
 |@rc n b hn hb i=>intro ar;rw[eS];simp only[E.dA,E.fJ,Ty.az,<-i];omega
theorem Wf.sz{e:E}(h:Wf e):e.sz<=3*e.dA:=by
 induction h with
 |atom h=>simp[E.sz,E.dA]
 |plus ha hb i1 i2=>simp only[E.sz,E.jH,E.dA,E.fJ];omega
 |times ha hb i1 i2=>simp only[E.sz,E.jH,E.dA,E.fJ];omega
 |rc hn hb i=>simp only[E.sz,E.jH,E.dA,E.fJ];omega
theorem kZ:∀(e:E) (ar:List Nm) (t:Ty),e.ok->(∀w,w∈ar->db w=true)->cQ e ar=some t->Wf e/\cP e ar=t
 |
  .atom s,ar,t,hok,hl,ht=>by
  refine⟨.atom hok,?_⟩
  simp only[cQ,cP]at ht |-
  split at ht
  ·rename_i h;rw[if_pos h];simpa using ht
  ·rename_i h;rw[if_neg h]
   split at ht
   ·rename_i h1;rw[if_pos h1];simpa using ht
   ·rename_i h1;rw[if_neg h1]
    split at ht
    ·rename_i hp
     cases q:bI s ar ar.length with
     |none=>simpa using ht
     |
      some u =>
      obtain⟨h1,h2⟩:=fA _ _ (aq _) q
      have:=hl (gb ar u) (by
       unfold gb
       have:ar.length-1-u<ar.length:=by omega
       simp[aa,this])
      rw[h2,ka hp]at this;cases this
    ·split at ht
     ·split at ht<;>rename_i q<;>rw[q]<;>simpa using ht
     ·cases ht
 |
  .list [x,a,b],ar,t,hok,hl,ht=>by
  obtain⟨ok1,ok2,ok3,_⟩:=hok
  by_cases h0:x.at=[43]
  ·obtain⟨t1,t2,h1,h2,rfl⟩:=fF h0 ht
   obtain rfl:=jZ h0 (by simp)
   obtain⟨w1,e1⟩:=kZ a ar t1 ok2 hl h1
   obtain⟨w2,e2⟩:=kZ b ar t2 ok3 hl h2
   exact⟨.plus w1 w2,by rw[dI,e1,e2]⟩
  ·by_cases h1:x.at=[42]
   ·obtain⟨t1,t2,h2,h3,rfl⟩:=eU h1 ht
    obtain rfl:=jZ h1 (by simp)
    obtain⟨w1,e1⟩:=kZ a ar t1 ok2 hl h2
    obtain⟨w2,e2⟩:=kZ b ar t2 ok3 hl h3
    exact⟨.times w1 w2,by rw[dj,e1,e2]⟩
   ·by_cases h2:x.at=[114,101,99]
    ·obtain⟨t1,hla,h3,rfl⟩:=dy h2 ht
     obtain rfl:=jZ h2 (by simp)
     have hne:a.at≠[]:=by intro e;rw[e]at hla;cases hla
     have ha:a=.atom a.at:=jZ rfl hne
     obtain⟨w1,e1⟩:=kZ b (ar++[a.at]) t1 ok3 (fun w hw=>by
      rcases aI.1 hw with hw|hw
      ·exact hl w hw
      ·simp only[aP]at hw;rw[hw];exact hla) h3
     have hN:rO a.at:=⟨hne,fun e=>by rw[e]at hla;revert hla;decide,fun e=>by rw[e]at hla;revert hla;decide⟩
     refine⟨?_,by rw[eS,e1]⟩
     rw[ha];exact .rc hN w1
    ·rw[iR _ h0 h1 h2]at ht;cases ht
 | .list [],ar,t,_,_,ht=>by cases ht
 | .list [_],ar,t,_,_,ht=>by cases ht
 | .list [_,_],ar,t,_,_,ht=>by cases ht
 | .list (_::_::_::_::_),ar,t,_,_,ht=>by cases ht
theorem fg(s:Nm)(ar:List Nm):bI s ar ar.length=none↔s∉ar:=by
 have:=mf s ar ar.length (aq _)
 rwa[List.take_length]at this
theorem nE(s:Nm)(ar:List Nm):∀(n:Nat) (br:List Nm),br.length=n->bI s (ar++br) (ar++br).length=match bI s br br.length with|some u=>some u|none=>(bI s ar ar.length).map (·+br.length)
 |
  0,br,h=>by
  obtain rfl:=bU h
  rw[cE]
  cases h:bI s ar ar.length<;>simp[bI]
 |
  n+1,br,h=>by
  obtain⟨b2,w,rfl⟩:∃b2 w,br=b2++[w]:=⟨br.dropLast,br.getLast (by intro e;rw[e]at h;cases h),(List.dropLast_concat_getLast _).symm⟩
  rw[<-aW]
  by_cases hw:w=s
  ·subst hw;rw[e9,e9]
  ·rw[jp _ hw,jp _ hw,nE s ar n b2 (by simpa using h)]
   cases bI s b2 b2.length with
   |some u=>rfl
   |
    none =>
    cases bI s ar ar.length with
    |none=>rfl
    |some u=>simp only[Option.map_none,cy,ax,aB,aJ];congr 1
theorem tb(ar:List Nm){e:E}(h:Wf e):∀br,(∀y,bh y (cP e br)=true->y∉ar)->cP e (ar++br)=cP e br:=by
 induction h with
 |
  @atom s h =>
  intro br hy
  simp only[cP]at hy |-
  split
  ·rfl
  ·rename_i h0
   split
   ·rfl
   ·rename_i h1
    rw[if_neg h0,if_neg h1]at hy
    rw[nE s ar _ br rfl]
    cases q:bI s br br.length with
    |some u=>rfl
    |
     none =>
     rw[q]at hy
     have:=(fg s ar).2 (hy s (by simp[bh]))
     rw[this];rfl
 |
  plus ha hb i1 i2 =>
  intro br hy
  rw[dI]at hy |-
  rw[dI,i1 br fun y h=>hy y (by simp[bh,h]),i2 br fun y h=>hy y (by simp[bh,h])]
 |
  times ha hb i1 i2 =>
  intro br hy
  rw[dj]at hy |-
  rw[dj,i1 br fun y h=>hy y (by simp[bh,h]),i2 br fun y h=>hy y (by simp[bh,h])]
 |
  @rc n b hn hb i =>
  intro br hy
  rw[eS]at hy |-
  rw[eS,aW,i _ hy]
theorem xq(x:Nm){e:E}(h:Wf e):∀ar,cP e ar=dK (.name x) (cP e ([x]++ar)) ar.length:=by
 induction h with
 |
  @atom s h =>
  intro ar
  simp only[cP]
  split
  ·rfl
  ·split
   ·rfl
   ·rw[nE s [x] _ ar rfl]
    cases q:bI s ar ar.length with
    |
     some u =>
     have:=(fA _ _ (aq _) q).1
     simp only[dK];rw[if_neg (by omega)]
    |
     none =>
     by_cases hx:x=s
     ·subst hx
      have:bI x [x] [x].length=some 0:=e9 x []
      rw[this];simp[dK]
     ·have:bI s [x] [x].length=none:=(fg s [x]).2 (by simpa using fun e=>hx e.symm)
      rw[this];rfl
 |plus ha hb i1 i2=>intro ar;rw[dI,dI,dK,<-i1 ar,<-i2 ar]
 |times ha hb i1 i2=>intro ar;rw[dj,dj,dK,<-i1 ar,<-i2 ar]
 |
  @rc n b hn hb i =>
  intro ar
  rw[eS,eS,dK,i (ar++[E.at (.atom n)]),aW]
  simp
theorem mO{e:E}(h:Wf e):∀ar y,bh y (cP e ar)=true->rO y/\y∉ar:=by
 induction h with
 |
  @atom s h =>
  intro ar y hy
  simp only[cP]at hy
  split at hy
  ·cases hy
  ·rename_i h0
   split at hy
   ·cases hy
   ·rename_i h1
    split at hy
    ·cases hy
    ·rename_i q
     simp only[bh,decide_eq_true_eq]at hy
     subst hy
     exact⟨⟨h,h0,h1⟩,(fg _ _).1 q⟩
 |
  plus ha hb i1 i2 =>
  intro ar y hy
  rw[dI]at hy
  simp only[bh,bw]at hy
  rcases hy with hy|hy
  ·exact i1 ar y hy
  ·exact i2 ar y hy
 |
  times ha hb i1 i2 =>
  intro ar y hy
  rw[dj]at hy
  simp only[bh,bw]at hy
  rcases hy with hy|hy
  ·exact i1 ar y hy
  ·exact i2 ar y hy
 |
  rc hn hb i =>
  intro ar y hy
  rw[eS]at hy
  obtain⟨h1,h2⟩:=i _ y hy
  exact⟨h1,fun h=>h2 (ay _ h)⟩
theorem lB{e:E}(h:Wf e):∀(bd l:List Nm) (y:Nm),y∈kb e bd l↔y∈l\/bh y (cP e bd)=true:=by
 induction h with
 |
  @atom s h =>
  intro bd l y
  simp only[kb,cP]
  by_cases h0:s=[48]
  ·simp[h0,bh]
  ·by_cases h1:s=[49]
   ·simp[h1,bh]
   ·rw[if_neg h0,if_neg h1]
    by_cases h2:s∈bd
    ·cases q:bI s bd bd.length with
     |none=>exact absurd h2 ((fg _ _).1 q)
     |some u=>simp[h2,bh]
    ·rw[(fg _ _).2 h2]
     simp only[h0,h1,h2,false_or,bh,decide_eq_true_eq]
     by_cases h3:s∈l
     ·simp only[h3,if_true]
      exact⟨fun h=>.inl h,fun h=>by rcases h with h|rfl<;>assumption⟩
     ·simp only[h3,if_false,aI,aP,eq_comm]
 |
  plus ha hb i1 i2 =>
  intro bd l y
  rw[kb,if_neg (by decide),dI,i2,i1]
  simp[bh,or_assoc]
 |
  times ha hb i1 i2 =>
  intro bd l y
  rw[kb,if_neg (by decide),dj,i2,i1]
  simp[bh,or_assoc]
 |
  rc hn hb i =>
  intro bd l y
  rw[kb,if_pos (show (E.atom [114,101,99]).at=[114,101,99] from rfl),eS,i]
  rfl
theorem eF:∀(t:Ty) (out:List Nm) (y:Nm),y∈bH t out↔y∈out\/bh y t=true
 |
  .name s,out,y=>by
  simp only[bH,ph,bh,decide_eq_true_eq]
  split
  ·rename_i h;exact⟨fun h=>.inl h,fun h'=>by rcases h' with h'|rfl<;>assumption⟩
  ·simp[eq_comm]
 | .plus a b,out,y=>by rw[bH,eF b,eF a];simp[bh,or_assoc]
 | .times a b,out,y=>by rw[bH,eF b,eF a];simp[bh,or_assoc]
 | .rc a,out,y=>by rw[bH,eF a];rfl
 | .zero,out,y=>by simp[bH,bh]
 | .one,out,y=>by simp[bH,bh]
 | .bN k,out,y=>by simp[bH,bh]
end Go.Proofs.Trees
namespace Go.Proofs.Trees
open Go Go.VL Go.RowKit
abbrev dX:Nm:=[114,101,99]
theorem ep(s:Nm):(E.atom s).at=s:=rfl
def rH(x:Nm)(u:E):E->E
 | .atom s=>if s=x then u else .atom s
 | .list [h,a,b]=>if h.at=dX then(if a.at=x then .list [h,a,b]else .list [.atom dX,a,rH x u b])else .list [.atom h.at,rH x u a,rH x u b]
 | .list l=>.list l
def mR(x:Nm):E->Nat
 | .atom s=>if s=x then 1 else 0
 | .list [h,a,b]=>if h.at=dX then(if a.at=x then 0 else mR x b)else mR x a+mR x b
 | .list _=>0
def th(p:Nm->Prop):E->Prop
 | .atom _=>True
 | .list [h,a,b]=>(if h.at=dX then p a.at else th p a)/\th p b
 | .list _=>True
def fk(x:Nm):Ty->Nat
 | .name s=>if s=x then 1 else 0
 | .plus a b=>fk x a+fk x b
 | .times a b=>fk x a+fk x b
 | .rc a=>fk x a
 |_=>0
theorem vx(x:Nm)(u a b:E):rH x u (.list [.atom [43],a,b])=.list [.atom [43],rH x u a,rH x u b]:=by rw[rH,if_neg (by decide)];rfl
theorem sI(x:Nm)(u a b:E):rH x u (.list [.atom [42],a,b])=.list [.atom [42],rH x u a,rH x u b]:=by rw[rH,if_neg (by decide)];rfl
theorem Bq(x:Nm)(u:E)(n:Nm)(b:E):rH x u (.list [.atom dX,.atom n,b])=if n=x then .list [.atom dX,.atom n,b]else .list [.atom dX,.atom n,rH x u b]:=by rw[rH,if_pos (ep _)];rfl
theorem qW(x:Nm)(a b:E):mR x (.list [.atom [43],a,b])=mR x a+mR x b:=by rw[mR,if_neg (by decide)]
theorem oO(x:Nm)(a b:E):mR x (.list [.atom [42],a,b])=mR x a+mR x b:=by rw[mR,if_neg (by decide)]
theorem vV(x:Nm)(n:Nm)(b:E):mR x (.list [.atom dX,.atom n,b])=if n=x then 0 else mR x b:=by rw[mR,if_pos (ep _)];rfl
theorem oE(p:Nm->Prop)(a b:E):th p (.list [.atom [43],a,b])↔th p a/\th p b:=by rw[th,if_neg (by decide)]
theorem mI(p:Nm->Prop)(a b:E):th p (.list [.atom [42],a,b])↔th p a/\th p b:=by rw[th,if_neg (by decide)]
theorem tW(p:Nm->Prop)(n:Nm)(b:E):th p (.list [.atom dX,.atom n,b])↔p n/\th p b:=by rw[th,if_pos (ep _)];rfl
theorem Az{p q:Nm->Prop}(h:∀n,p n->q n){e:E}(hw:Wf e):th p e->th q e:=by
 induction hw with
 |atom _=>exact fun _=>trivial
 |plus _ _ i1 i2=>rw[oE,oE];exact fun g=>⟨i1 g.1,i2 g.2⟩
 |times _ _ i1 i2=>rw[mI,mI];exact fun g=>⟨i1 g.1,i2 g.2⟩
 |rc _ _ i=>rw[tW,tW];exact fun g=>⟨h _ g.1,i g.2⟩
theorem iQ{s:Nm}(hs:rO s){ar:List Nm}(h:s∉ar):cP (.atom s) ar=.name s:=by
 simp only[cP];rw[if_neg hs.2.1,if_neg hs.2.2,(fg s ar).2 h]
theorem Cd{x:Nm}(hx:rO x){u:E}(hu:Wf u){e:E}(h:Wf e):th (fun n=>n≠x/\bh n (cP u [])=false) e->∀ar,x∉ar->(∀y,y∈ar->bh y (cP u [])=false)->Wf (rH x u e)/\cP (rH x u e) ar=sub x (cP u []) (cP e ar):=by
 induction h with
 |
  @atom s hs =>
  intro _ ar har hy
  by_cases e:s=x
  ·subst e
   have:cP u (ar++[])=cP u []:=tb ar hu [] fun y hy' hm=>by rw[hy y hm]at hy';cases hy'
   rw[cE]at this
   rw[iQ hx har]
   simp only[rH,sub,if_true]
   exact⟨hu,this⟩
  ·simp only[rH,if_neg e]
   refine⟨.atom hs,?_⟩
   simp only[cP]
   split
   ·rfl
   ·split
    ·rfl
    ·split
     ·rfl
     ·simp only[sub,if_neg e]
 |
  plus ha hb i1 i2 =>
  intro hap ar har hy
  rw[oE]at hap
  obtain⟨w1,e1⟩:=i1 hap.1 ar har hy
  obtain⟨w2,e2⟩:=i2 hap.2 ar har hy
  rw[vx,dI,dI,e1,e2]
  exact⟨.plus w1 w2,rfl⟩
 |
  times ha hb i1 i2 =>
  intro hap ar har hy
  rw[mI]at hap
  obtain⟨w1,e1⟩:=i1 hap.1 ar har hy
  obtain⟨w2,e2⟩:=i2 hap.2 ar har hy
  rw[sI,dj,dj,e1,e2]
  exact⟨.times w1 w2,rfl⟩
 |
  @rc n b hn hb i =>
  intro hap ar har hy
  rw[tW]at hap
  obtain⟨w1,e1⟩:=i hap.2 (ar++[n]) (by
   simp only[aI,aP]
   rintro(h|h)
   ·exact har h
   ·exact hap.1.1 h.symm) (fun y hm=>by
   simp only[aI,aP]at hm
   rcases hm with hm|rfl
   ·exact hy y hm
   ·exact hap.1.2)
  rw[Bq,if_neg hap.1.1,eS,eS]
  refine⟨.rc hn w1,?_⟩
  show Ty.rc (cP (rH x u b) (ar++[n]))=_
  rw[e1];rfl
theorem Ck{x:Nm}(hx:rO x){e:E}(h:Wf e):∀ar,fk x (cP e ar)=if x∈ar then 0 else mR x e:=by
 induction h with
 |
  @atom s hs =>
  intro ar
  by_cases e:s=x
  ·subst e
   by_cases hm:s∈ar
   ·rw[if_pos hm]
    simp only[cP];rw[if_neg hx.2.1,if_neg hx.2.2]
    cases q:bI s ar ar.length with
    |none=>exact absurd hm ((fg _ _).1 q)
    |some u=>rfl
   ·rw[if_neg hm,iQ hx hm];simp[fk,mR]
  ·have:fk x (cP (.atom s) ar)=0:=by
    simp only[cP]
    split
    ·rfl
    ·split
     ·rfl
     ·split
      ·rfl
      ·simp[fk,e]
   rw[this];simp[mR,e]
 |plus ha hb i1 i2=>intro ar;rw[dI,qW,fk,i1,i2];split<;>simp
 |times ha hb i1 i2=>intro ar;rw[dj,oO,fk,i1,i2];split<;>simp
 |
  @rc n b hn hb i =>
  intro ar
  rw[eS,vV,fk,i]
  simp only[ep,aI,aP]
  by_cases h1:x∈ar
  ·simp[h1]
  ·by_cases h2:x=n
   ·simp[h2]
   ·simp[h1,h2,Ne.symm h2]
theorem dU(x:Nm)(u:Ty):∀t:Ty,(sub x u t).az+fk x t=t.az+fk x t*u.az
 | .name s=>by simp only[sub,fk];split<;>simp[Ty.az];omega
 | .plus a b=>by have:=dU x u a;have:=dU x u b;simp only[sub,Ty.az,fk,Nat.add_mul];omega
 | .times a b=>by have:=dU x u a;have:=dU x u b;simp only[sub,Ty.az,fk,Nat.add_mul];omega
 | .rc a=>by have:=dU x u a;simp only[sub,Ty.az,fk];omega
 | .zero=>by simp[sub,fk]
 | .one=>by simp[sub,fk]
 | .bN k=>by simp[sub,fk]
abbrev tN(m:Nat):Nm:=116::dd m
theorem D0(m:Nat):dd m≠[]:=by
 by_cases h:m<10
 ·rw[eD h];simp
 ·rw[fh h];simp
theorem wu:∀(n m k:Nat),m<n->dd m=dd k->m=k
 |0,m,k,h,_=>by omega
 |
  n+1,m,k,h,e=>by
  have d10:∀{a b:Nat},a<10->b<10->ba (48+a)=ba (48+b)->a=b:=fun {a b} ha hb h=>by
   have:=congrArg UInt8.toNat h
   simp only[UInt8.toNat_ofNat']at this
   omega
  by_cases h1:m<10<;>by_cases h2:k<10
  ·rw[eD h1,eD h2]at e
   simp only[List.cons.injEq,and_true]at e
   exact d10 h1 h2 e
  ·rw[eD h1,fh h2]at e
   have:=congrArg List.length e
   have:dd (k/10)=[]:=by
    apply bU
    simp at this;simpa using this
   exact absurd this (D0 _)
  ·rw[fh h1,eD h2]at e
   have:=congrArg List.length e
   have:dd (m/10)=[]:=by
    apply bU
    simp at this;simpa using this
   exact absurd this (D0 _)
  ·rw[fh h1,fh h2]at e
   obtain⟨e1,e2⟩:=List.append_inj' e rfl
   have:=wu n (m/10) (k/10) (by omega) e1
   simp only[List.cons.injEq,and_true]at e2
   have:=d10 (Nat.mod_lt _ (by omega)) (Nat.mod_lt _ (by omega)) e2
   omega
theorem z8{m k:Nat}(h:tN m=tN k):m=k:=wu (m+1) m k (by omega) (List.cons.inj h).2
theorem xn(m:Nat):rO (tN m):=⟨by simp,by simp,by simp⟩
theorem Rx:∀(l F:List Nm),l.Nodup->(∀x,x∈l->x∈F)->l.length<=F.length
 |[],_,_,_=>Nat.zero_le _
 |
  x::l,F,hn,hs=>by
  obtain⟨h1,h2⟩:=List.nodup_cons.1 hn
  have hx:=hs x aj
  have:=Rx l (F.erase x) h2 fun y hy=>(List.mem_erase_of_ne (fun e=>h1 (by rw[<-e];exact hy))).2 (hs y (ak _ hy))
  rw[List.length_erase_of_mem hx]at this
  have:0<F.length:=List.length_pos_of_mem hx
  simp only[aB];omega
def pL(F:List Nm):Nat->Nat->Nat
 |0,k=>k
 |n+1,k=>if tN k∈F then pL F n (k+1)else k
theorem u4(F:List Nm):∀(n k:Nat),k<=pL F n k/\pL F n k<=k+n/\(∀j,k<=j->j<pL F n k->tN j∈F)/\(pL F n k<k+n->tN (pL F n k)∉F)
 |0,k=>⟨aq _,aq _,fun j h1 h2=>by simp only[pL]at h2;omega,fun h=>by simp only[pL]at h;omega⟩
 |
  n+1,k=>by
  rw[pL]
  split
  ·rename_i hm
   obtain⟨h1,h2,h3,h4⟩:=u4 F n (k+1)
   refine⟨by omega,by omega,fun j hj hl=>?_,fun h=>h4 (by omega)⟩
   by_cases e:j=k
   ·subst e;exact hm
   ·exact h3 j (by omega) hl
  ·rename_i hm
   exact⟨aq _,by omega,fun j h1 h2=>by omega,fun _=>hm⟩
def nx(F:List Nm)(k:Nat):Nat:=pL F (F.length+1) k
theorem gx(F:List Nm)(k:Nat):k<=nx F k/\nx F k<=k+F.length/\(∀j,k<=j->j<nx F k->tN j∈F)/\tN (nx F k)∉F:=by
 obtain⟨h1,h2,h3,h4⟩:=u4 F (F.length+1) k
 have hlt:nx F k<k+(F.length+1):=by
  rcases Nat.lt_or_ge (nx F k) (k+(F.length+1))with h|h
  ·exact h
  ·exfalso
   have:=Rx ((List.range' k (F.length+1)).map tN) F (by
    refine List.Pairwise.map _ (fun a b hab e=>hab (z8 e)) List.nodup_range') (fun x hx=>by
    obtain⟨j,hj,rfl⟩:=cf.1 hx
    obtain⟨i,hi,rfl⟩:=List.mem_range'.1 hj
    exact h3 _ (by omega) (by show _<nx F k;omega))
   simp at this
   omega
 exact⟨h1,by unfold nx at hlt |-;omega,h3,h4 hlt⟩
theorem AX{F F':List Nm}(h:∀y,y∈F↔y∈F')(k:Nat):nx F k=nx F' k:=by
 obtain⟨a1,a2,a3,a4⟩:=gx F k
 obtain⟨b1,b2,b3,b4⟩:=gx F' k
 rcases Nat.lt_trichotomy (nx F k) (nx F' k)with hl|he|hl
 ·exact absurd ((h _).2 (b3 _ a1 hl)) a4
 ·exact he
 ·exact absurd ((h _).1 (a3 _ b1 hl)) b4
def gT(F:List Nm):Ty->List Nm->Nat->E×Nat
 | .zero,_,k=>(.atom [48],k)
 | .one,_,k=>(.atom [49],k)
 | .name s,_,k=>(.atom s,k)
 | .bN u,to,k=>(.atom (gb to u),k)
 | .plus a b,to,k=>(.list [.atom [43],(gT F a to k).1,(gT F b to (gT F a to k).2).1],(gT F b to (gT F a to k).2).2)
 | .times a b,to,k=>(.list [.atom [42],(gT F a to k).1,(gT F b to (gT F a to k).2).1],(gT F b to (gT F a to k).2).2)
 | .rc a,to,k=>(.list [.atom dX,.atom (tN (nx F k)),(gT F a (to++[tN (nx F k)]) (nx F k+1)).1],(gT F a (to++[tN (nx F k)]) (nx F k+1)).2)
theorem jy{F F':List Nm}(h:∀y,y∈F↔y∈F'):∀(t:Ty) (to:List Nm) (k:Nat),gT F t to k=gT F' t to k
 | .zero,_,_=>rfl
 | .one,_,_=>rfl
 | .name _,_,_=>rfl
 | .bN _,_,_=>rfl
 | .plus a b,to,k=>by simp only[gT];rw[jy h a,jy h b]
 | .times a b,to,k=>by simp only[gT];rw[jy h a,jy h b]
 | .rc a,to,k=>by simp only[gT];rw[AX h,jy h a]
def jX:Ty->Nat->Prop
 | .bN u,i=>u<i
 | .plus a b,i=>jX a i/\jX b i
 | .times a b,i=>jX a i/\jX b i
 | .rc a,i=>jX a (i+1)
 |_,_=>True
theorem tY{e:E}(h:Wf e):∀ar,jX (cP e ar) ar.length:=by
 induction h with
 |
  @atom s hs =>
  intro ar
  simp only[cP]
  split
  ·trivial
  ·split
   ·trivial
   ·split
    ·rename_i u q;exact(fA _ _ (aq _) q).1
    ·trivial
 |plus ha hb i1 i2=>intro ar;rw[dI];exact⟨i1 ar,i2 ar⟩
 |times ha hb i1 i2=>intro ar;rw[dj];exact⟨i1 ar,i2 ar⟩
 |
  @rc n b hn hb i =>
  intro ar;rw[eS]
  have:=i (ar++[(E.atom n).at])
  rw[ax]at this
  exact this
structure Gn(F to:List Nm)(k:Nat):Prop where
 out:∀w,w∈to->w∉F
 lt:∀w,w∈to->∃j,j<k/\w=tN j
 nd:to.Nodup
theorem Gn.nil(F:List Nm)(k:Nat):Gn F [] k:=⟨fun _ h=>(by cases h),fun _ h=>(by cases h),by simp⟩
theorem Gn.mono{F to:List Nm}{k k':Nat}(h:Gn F to k)(hk:k<=k'):Gn F to k':=⟨h.out,fun w hw=>by obtain⟨j,h1,h2⟩:=h.lt w hw;exact⟨j,by omega,h2⟩,h.nd⟩
theorem Gn.push{F to:List Nm}{k:Nat}(h:Gn F to k):Gn F (to++[tN (nx F k)]) (nx F k+1):=by
 obtain⟨h1,h2,h3,h4⟩:=gx F k
 refine⟨fun w hw=>?_,fun w hw=>?_,?_⟩
 ·rcases aI.1 hw with hw|hw
  ·exact h.out w hw
  ·simp only[aP]at hw;rw[hw];exact h4
 ·rcases aI.1 hw with hw|hw
  ·obtain⟨j,g1,g2⟩:=h.lt w hw;exact⟨j,by omega,g2⟩
  ·simp only[aP]at hw;exact⟨_,by omega,hw⟩
 ·refine List.nodup_append.2 ⟨h.nd,by simp,fun a ha b hb e=>?_⟩
  simp only[aP]at hb
  obtain⟨j,g1,g2⟩:=h.lt a ha
  rw[e,hb]at g2
  have:=z8 g2
  omega
theorem s3{to:List Nm}(hn:to.Nodup){u:Nat}(hu:u<to.length):bI (gb to u) to to.length=some u:=by
 have hm:gb to u∈to:=by
  unfold gb
  have:to.length-1-u<to.length:=by omega
  simp[aa,this]
 cases q:bI (gb to u) to to.length with
 |none=>exact absurd hm ((fg _ _).1 q)
 |
  some v =>
  obtain⟨h1,h2⟩:=fA _ _ (aq _) q
  unfold gb at h2
  have e1:to.length-1-v<to.length:=by omega
  have e2:to.length-1-u<to.length:=by omega
  rw[aa,aa,bf e1,bf e2]at h2
  have hp:=List.pairwise_iff_getElem.1 hn
  have h3:to[to.length-1-v]=to[to.length-1-u]:=by simpa using h2
  rcases Nat.lt_trichotomy (to.length-1-v) (to.length-1-u)with hl|he|hl
  ·exact absurd h3 (hp _ _ e1 e2 hl)
  ·congr 1;omega
  ·exact absurd h3.symm (hp _ _ e2 e1 hl)
theorem kq(F:List Nm):∀(t:Ty) (to:List Nm) (k:Nat),Gn F to k->jX t to.length->(∀y,bh y t=true->y∈F/\rO y) ->
 Wf (gT F t to k).1/\cP (gT F t to k).1 to=t/\k<=(gT F t to k).2/\(gT F t to k).2<=k+(F.length+1)*t.az/\th (·∉F) (gT F t to k).1
 | .zero,to,k,_,_,_=>⟨.atom (by simp),rfl,aq _,dk _ _,trivial⟩
 | .one,to,k,_,_,_=>⟨.atom (by simp),rfl,aq _,dk _ _,trivial⟩
 |
  .name s,to,k,g,hl,hn=>by
  obtain⟨h1,h2⟩:=hn s (by simp[bh])
  exact⟨.atom h2.1,iQ h2 (fun h=>g.out s h h1),aq _,dk _ _,trivial⟩
 |
  .bN u,to,k,g,hl,hn=>by
  have hm:gb to u∈to:=by
   unfold gb
   have:to.length-1-u<to.length:=by have:u<to.length:=hl;omega
   simp[aa,this]
  obtain⟨j,_,e⟩:=g.lt _ hm
  have hok:rO (gb to u):=by rw[e];exact xn j
  refine⟨.atom hok.1,?_,aq _,dk _ _,trivial⟩
  simp only[gT,cP]
  rw[if_neg hok.2.1,if_neg hok.2.2,s3 g.nd hl]
 |
  .plus a b,to,k,g,hl,hn=>by
  obtain⟨a1,a2,a3,a4,a5⟩:=kq F a to k g hl.1 fun y hy=>hn y (by simp[bh,hy])
  obtain⟨b1,b2,b3,b4,b5⟩:=kq F b to _ (g.mono a3) hl.2 fun y hy=>hn y (by simp[bh,hy])
  simp only[gT,dI,a2,b2,oE,Ty.az]
  refine⟨.plus a1 b1,trivial,by omega,?_,a5,b5⟩
  have:(F.length+1)*(1+a.az+b.az)=(F.length+1)+(F.length+1)*a.az+(F.length+1)*b.az:=by simp only[cS,dE]
  omega
 |
  .times a b,to,k,g,hl,hn=>by
  obtain⟨a1,a2,a3,a4,a5⟩:=kq F a to k g hl.1 fun y hy=>hn y (by simp[bh,hy])
  obtain⟨b1,b2,b3,b4,b5⟩:=kq F b to _ (g.mono a3) hl.2 fun y hy=>hn y (by simp[bh,hy])
  simp only[gT,dj,a2,b2,mI,Ty.az]
  refine⟨.times a1 b1,trivial,by omega,?_,a5,b5⟩
  have:(F.length+1)*(1+a.az+b.az)=(F.length+1)+(F.length+1)*a.az+(F.length+1)*b.az:=by simp only[cS,dE]
  omega
 |
  .rc a,to,k,g,hl,hn=>by
  obtain⟨h1,h2,h3,h4⟩:=gx F k
  obtain⟨a1,a2,a3,a4,a5⟩:=kq F a (to++[tN (nx F k)]) (nx F k+1) g.push (by rw[ax];exact hl) hn
  simp only[gT,eS,ep,a2,tW,Ty.az]
  refine⟨.rc (xn _) a1,trivial,by omega,?_,h4,a5⟩
  have:(F.length+1)*(2+a.az)=(F.length+1)*2+(F.length+1)*a.az:=by simp only[cS]
  omega
end Go.Proofs.Trees
namespace Go.Proofs.Trees
open Go Go.VL Go.RowKit
inductive kk:AV->List Nat->Prop
 |nil:kk gp []
 |cons {m:Nat} {cs:List AV} {e:AV} {ids:List Nat} (hm:m∉ids) (h:kk e ids):kk (.ptr [.pid m cs,e]) (m::ids)
theorem kk.has{a:AV}{ids:List Nat}(h:kk a ids):LK.has .ptr a:=by
 cases h
 ·exact(hZ).mpr trivial
 ·exact(bV _).mpr trivial
theorem kk.RA{M:Mem}{a:AV}{ids:List Nat}(h:kk a ids):∀{v:Value},bz M du a v->∀b,b∈ids->M.p b:=by
 induction h with
 |nil=>intro v _ b hb;cases hb
 |
  @cons m cs e ids hm h ih =>
  intro v hr b hb
  cases hr with
  |
   ptr _ _ _ off us hc hr =>
   have h0:=hr 0 (by simp)
   have h1:=hr 1 (by simp)
   simp only[bo,List.getD_cons_succ]at h0 h1
   rcases aF.1 hb with rfl|hb
   ·generalize us 0=u0 at h0
    cases h0 with
    |pid _ _ _ us hp _ _=>exact hp
   ·exact ih h1 b hb
theorem kk.nodup{a:AV}{ids:List Nat}(h:kk a ids):ids.Nodup:=by
 induction h with
 |nil=>simp
 |cons hm h ih=>exact List.nodup_cons.2 ⟨hm,ih⟩
theorem zh(a b:AV)(S:Nat->Prop)(R:AV->Prop):BF IN cJ er (cu er) [.agg [.x a,.x b]] S (fun o=>aG o 7) R =
 .al (LK.has .ptr a/\a.isNil=false) (.al (LK.has .ptr a/\a.isNil=false) (.al (LK.has .ptr ((a.deref.drop 3).headD .any)/\1<=(a.deref.drop 3).length)
  (.al (∀ids:Nat->Nat,(∀o,¬S (ids o))->(True/\R (.cI [.agg [(a.deref.drop 3).headD .any,.ptr [.pid (ids 7) [a,b],b]],.pid (ids 7) [a,b]]))) (.done 0 [] [])))):=by kernel_rfl
def Bv(t:Ty)(ea:AV)(ids:List Nat):AV->List Ob->Prop:=fun r o=>(∃m,m∉ids/\r=.cI [.agg [t.av,.ptr [.pid m [(Ty.rc t).av,ea],ea]],.pid m [(Ty.rc t).av,ea]])/\o=[]
theorem Bv.ne(t:Ty)(ea:AV)(ids:List Nat):∃r o,Bv t ea ids r o:=by
 have:∃m,m∉ids:=⟨ids.foldr max 0+1,fun h=>by
  have key:∀(l:List Nat) (x:Nat),x∈l->x<=l.foldr max 0:=by
   intro l
   induction l with
   |nil=>intro x hx;cases hx
   |
    cons y l ih =>
    intro x hx
    rcases aF.1 hx with rfl|hx
    ·simp only[List.foldr_cons];omega
    ·have:=ih x hx;simp only[List.foldr_cons];omega
  have:=key _ _ h
  omega⟩
 obtain⟨m,hm⟩:=this
 exact⟨_,_,⟨m,hm,rfl⟩,rfl⟩
theorem B2(t:Ty)(ea:AV)(ids:List Nat)(he:kk ea ids):an Tryz.prog 86 [.agg [(Ty.rc t).av,ea]] [] (Bv t ea ids):=by
 have hup:wF [.agg [(Ty.rc t).av,ea]] [.agg [.x (Ty.rc t).av,.x ea]]:=af (bT (af (bu ((aC _).mpr trivial)) (af (bu he.has) aA))) aA
 refine an.up hup ?_
 refine an.RQ (cJ:=cJ) (F:=er) (S:=fun b=>b∈ids) (sel:=fun o=>aG o 7) ua mixed (by kernel_rfl) (by kernel_rfl) (c:=cu er) (by kernel_rfl) (by kernel_rfl) (fun M β vs hr b hb=>?_) ?_
 ·have h0:=hr 0 (by simp)
  simp only[bo]at h0
  obtain⟨us,_,hl,hq,_⟩:=gq h0
  have h1:=hq 1 (by simp at hl |-)
  simp only[List.getD_cons_succ,bo]at h1
  cases h1 with
  |x _ _ _ _ h=>exact he.RA h b hb
 ·rw[zh]
  simp only[Ty.av,↓zq,zs,ac,aC]
  exact⟨by omega,fun ids' hf=>⟨ids' 7,hf 7,rfl⟩⟩
theorem Il(u:Nat)(hu:u<1000000):∀(k i:Nat) (ea:AV) (ids:List Nat),i+k=u->kk ea ids->k<=ids.length->CN [ea,.v (.int .i64 (u:Int)),.v (.int .i64 (i:Int))] [] (fun t ys o=>t=1/\∃e',kk e' (ids.drop k)/\ys=[e']/\o=[])
 |
  0,i,ea,ids,hi,he,hk=>by
  refine C5 _ _ _ ?_
  have:i=u:=by omega
  subst this
  simp only[AA,↓zq,zs,ac]
  exact⟨he.has,fun h=>by omega,fun _=>⟨ea,he,rfl⟩⟩
 |
  k+1,i,ea,ids,hi,he,hk=>by
  refine C5 _ _ _ ?_
  cases he with
  |nil=>simp at hk
  |
   @cons m cs e ids' hm h =>
   simp only[AA,↓zq,zs,ac,h.has]
   refine⟨fun _=>⟨by omega,?_⟩,fun h=>by omega⟩
   rw[bg i (by omega)]
   exact Il u hu k (i+1) e ids' (by omega) h (by simpa using hk)
theorem Q5(u:Nat)(ea:AV)(ids:List Nat)(he:kk ea ids)(hu:u<ids.length)(hl:ids.length<1000000):an Tryz.prog 131 [.agg [(Ty.bN u).av,ea]] [] (fun r o=>(∃cs,r=.pid (ids.getD u 0) cs)/\o=[]):=by
 refine NF _ _ ((aC _).mpr trivial) he.has ?_
 simp only[Ft,Ty.av,↓zq,zs,ac,he.has]
 refine⟨by omega,kJ (Il u (by omega) u 0 ea ids (by omega) he (by omega)) ?_ (fun ys o h=>by cases h.1)⟩
 rintro ys o ⟨_,e',he',rfl,rfl⟩
 have hd:ids.drop u=ids.getD u 0::ids.drop (u+1):=by
  rw[aK hu];simp[aa,hu]
 rw[hd]at he'
 cases he' with
 |
  @cons m cs e ids' hm h =>
  have hp:LK.has .ptr (AV.pid (ids.getD u 0) cs):=.inr (.inr ⟨_,_,rfl⟩)
  simp only[↓zq,zs,ac,hp]
  exact⟨by omega,cs,rfl⟩
inductive zJ:Tg->List Nat->List UInt8->AV->Prop
 |nm (s:List UInt8) (ids:List Nat):zJ (.nm s) ids s gp
 |bd {k:Nat} {ids:List Nat} (hk:k<ids.length) (cs:List AV) (s:List UInt8):zJ (.bd k) ids s (.pid (ids.getD k 0) cs)
theorem zJ.has{tg:Tg}{ids:List Nat}{s:List UInt8}{fr:AV}(h:zJ tg ids s fr):LK.has .ptr fr:=by
 cases h
 ·exact(hZ).mpr trivial
 ·exact .inr (.inr ⟨_,_,rfl⟩)
theorem zJ.push{tg:Tg}{ids:List Nat}{s:List UInt8}{fr:AV}(h:zJ tg ids s fr)(m:Nat):zJ tg.up (m::ids) s fr:=by
 cases h with
 |nm=>exact .nm _ _
 |
  @bd k _ hk cs =>
  have:=zJ.bd (k:=k+1) (ids:=m::ids) (by simpa using hk) cs s
  simpa[Tg.up]using this
theorem zu{ids:List Nat}(h:ids.Nodup){i j:Nat}(hi:i<ids.length)(hj:j<ids.length)(he:ids.getD i 0=ids.getD j 0):i=j:=by
 have e1:ids.getD i 0=ids[i]:=by simp[aa,hi]
 have e2:ids.getD j 0=ids[j]:=by simp[aa,hj]
 rw[e1,e2]at he
 have hp:=List.pairwise_iff_getElem.1 h
 rcases Nat.lt_trichotomy i j with hlt|rfl|hlt
 ·exact absurd he (hp i j hi hj hlt)
 ·rfl
 ·exact absurd he.symm (hp j i hj hi hlt)
theorem Rb(t:Ty)(tg:Tg)(ea:AV)(ids:List Nat)(s:List UInt8)(fr:AV)(he:kk ea ids)(ht:zJ tg ids s fr)(hu:∀u,t=.bN u->u<ids.length)(hl:ids.length<1000000) :
 an Tryz.prog 111 [.agg [.v (.string (mk s)),fr],.agg [t.av,ea]] [] (bA (.v (.bool (fI t tg)))):=by
 refine Pm _ _ _ _ ht.has ((aC _).mpr trivial) he.has ?_
 cases ht with
 |
  nm s =>
  cases t<;>simp[BU,Ty.av,↓zq,zs,ac,zt,bA,fI]
  rw[cq];simp
 |
  @bd k _ hk cs s =>
  generalize hm0:ids.getD k 0=m0
  have hp:LK.has .ptr (AV.pid m0 cs):=.inr (.inr ⟨_,_,rfl⟩)
  have hn:(AV.pid m0 cs).isNil=false:=rfl
  cases t with
  |
   bN u =>
   have hu:=hu u rfl
   simp only[BU,Ty.av,↓zq,zs,ac,hp,hn]
   refine⟨fun _=>⟨by omega,fun _=>?_,fun h=>absurd rfl h⟩,fun h=>by cases h⟩
   have hb:=Q5 u ea ids he hu hl
   simp only[Ty.av]at hb
   refine bO hb ⟨_,_,⟨[],rfl⟩,rfl⟩ ?_
   rintro r o ⟨⟨cs',rfl⟩,rfl⟩
   have hp':LK.has .ptr (AV.pid (ids.getD u 0) cs'):=.inr (.inr ⟨_,_,rfl⟩)
   simp only[↓zq,zs,ac,hp',AV.qO,AV.AK,bA,fI]
   congr 2
   rw[cq,Nat.beq_eq,decide_eq_true_eq,<-hm0]
   exact⟨fun h=>zu he.nodup hu hk h,fun h=>by rw[h]⟩
  |_=>simp[BU,Ty.av,↓zq,zs,ac,hp,hn,bA,fI]
end Go.Proofs.Trees
namespace Go.Proofs.Trees
open Go Go.VL Go.RowKit
theorem zn(b:Int)(a:AV)(h:LK.ptr.has a):an Tryz.prog 100 [.v (.int .u8 b),a] [] (bA (.ptr [.v (.int .u8 b),.v (.string (mk [])),a,gp])):=by
 refine Q4 _ _ h ?_
 simp[Mw,↓zq,zs,ac,bA]
end Go.Proofs.Trees
namespace Go.Proofs.Trees
open Go Go.VL Go.RowKit
def gJ(l:List Hl):List (List AV):=l.map fun h=>[h.1.cx,h.2.cx]
theorem ei(l:List Hl):(gJ l).length=l.length:=by simp[gJ]
theorem ly{l:List Hl}{i:Nat}(hi:i<l.length):(gJ l).getD i []=[(l[i]).1.cx,(l[i]).2.cx]:=by simp[gJ,aa,hi]
theorem oy(out:List Hl)(a b:Vl):gJ out++[[a.cx,b.cx]]=gJ (out++[(a,b)]):=by simp[gJ]
theorem gm(g:Vl->Vl)(l:List Hl){i:Nat}(hi:i<l.length):ji g (l.drop i)=(g (l[i]).1,(l[i]).2)::ji g (l.drop (i+1)):=by
 rw[aK hi];rfl
theorem fM(g:Vl->Vl)(l:List Hl):(ji g l).length=l.length:=by simp[ji]
theorem zX(a b:AV):cA 2 [[a,b]]:=fun c hc=>by simp at hc;rw[hc];rfl
theorem MC(x0:AV)(hx0:LK.ptr.has x0)(g:Vl->Vl)(hg:∀c:Vl,an Tryz.prog 115 [c.cx,.ref 0 0] [.cells [x0]] (cX (g c).cx [.cells [x0]]))(l:List Hl):∀(k i:Nat) (out:List Hl),i+k=l.length->out.length+k<=1000000->l.length<=1000000 ->
 Ff [.sl (gJ l),.v (.int .i64 (l.length:Int)),.v (.int .i64 (i:Int))] [.cells [x0],.cells [.any],.vec 2 (gJ out)] (gD 1 [] [.cells [x0],.cells [.any],.vec 2 (gJ (out++ji g (l.drop i)))])
 |
  0,i,out,hi,ho,hl=>by
  refine KT _ _ _ _ _ ?_
  have:i=l.length:=by omega
  subst this
  simp only[EL,↓zq,zs,ac,ei,hx0]
  exact⟨fun h=>by omega,fun _=>by simp[gD,ji]⟩
 |
  k+1,i,out,hi,ho,hl=>by
  have hlt:i<l.length:=by omega
  refine KT _ _ _ _ _ ?_
  simp only[EL,↓zq,zs,ac,zt,ei,ly hlt,aH,bB,hx0]
  refine⟨fun _=>⟨by omega,by omega,?_⟩,fun h=>by omega⟩
  refine aT (hg _) ?_
  simp only[↓zq,zs,ac,aH,bn,bA,cX,hx0]
  refine⟨⟨zX _ _,by omega⟩,?_⟩
  rw[bg i (by omega)]
  have:=MC x0 hx0 g hg l k (i+1) (out++[(g (l[i]).1,(l[i]).2)]) (by omega) (by simp;omega) hl
  rw[aW]at this
  rw[gm g l hlt,oy]
  exact this
theorem Kt(x0:AV)(hx0:LK.ptr.has x0)(g:Vl->Vl)(hg:∀c:Vl,an Tryz.prog 115 [c.cx,.ref 0 0] [.cells [x0]] (cX (g c).cx [.cells [x0]]))(l out:List Hl)(hl:out.length+l.length<=1000000) :
 an Tryz.prog 112 [.sl (gJ l),.fn 115 [.ref 0 0],.ref 1 0] [.cells [x0],.cells [.vec 2],.vec 2 (gJ out)] (cX .any [.cells [x0],.cells [.vec 2],.vec 2 (gJ (out++ji g l))]):=by
 refine OD _ _ _ ((ca _).mpr trivial) hx0 ?_
 simp only[L8,↓zq,zs,ac,ei]
 have h:=MC x0 hx0 g hg l l.length 0 out (by omega) (by omega) (by omega)
 rw[aZ]at h
 refine cr h ?_
 simp[↓zq,zs,ac,cX,bn,hx0]
theorem Lk(x0:AV)(hx0:LK.ptr.has x0)(g:Vl->Vl)(hg:∀c:Vl,an Tryz.prog 116 [c.cx,.ref 0 0] [.cells [x0]] (cX (g c).cx [.cells [x0]]))(l:List Hl):∀(k i:Nat) (out:List Hl),i+k=l.length->out.length+k<=1000000->l.length<=1000000 ->
 Ht [.sl (gJ l),.v (.int .i64 (l.length:Int)),.v (.int .i64 (i:Int))] [.cells [x0],.cells [.any],.vec 2 (gJ out)] (gD 1 [] [.cells [x0],.cells [.any],.vec 2 (gJ (out++ji g (l.drop i)))])
 |
  0,i,out,hi,ho,hl=>by
  refine J5 _ _ _ _ _ ?_
  have:i=l.length:=by omega
  subst this
  simp only[GR,↓zq,zs,ac,ei,hx0]
  exact⟨fun h=>by omega,fun _=>by simp[gD,ji]⟩
 |
  k+1,i,out,hi,ho,hl=>by
  have hlt:i<l.length:=by omega
  refine J5 _ _ _ _ _ ?_
  simp only[GR,↓zq,zs,ac,zt,ei,ly hlt,aH,bB,hx0]
  refine⟨fun _=>⟨by omega,by omega,?_⟩,fun h=>by omega⟩
  refine aT (hg _) ?_
  simp only[↓zq,zs,ac,aH,bn,bA,cX,hx0]
  refine⟨⟨zX _ _,by omega⟩,?_⟩
  rw[bg i (by omega)]
  have:=Lk x0 hx0 g hg l k (i+1) (out++[(g (l[i]).1,(l[i]).2)]) (by omega) (by simp;omega) hl
  rw[aW]at this
  rw[gm g l hlt,oy]
  exact this
theorem Oe(x0:AV)(hx0:LK.ptr.has x0)(g:Vl->Vl)(hg:∀c:Vl,an Tryz.prog 116 [c.cx,.ref 0 0] [.cells [x0]] (cX (g c).cx [.cells [x0]]))(l out:List Hl)(hl:out.length+l.length<=1000000) :
 an Tryz.prog 112 [.sl (gJ l),.fn 116 [.ref 0 0],.ref 1 0] [.cells [x0],.cells [.vec 2],.vec 2 (gJ out)] (cX .any [.cells [x0],.cells [.vec 2],.vec 2 (gJ (out++ji g l))]):=by
 refine N4 _ _ _ ((ca _).mpr trivial) hx0 ?_
 simp only[Lj,↓zq,zs,ac,ei]
 have h:=Lk x0 hx0 g hg l l.length 0 out (by omega) (by omega) (by omega)
 rw[aZ]at h
 refine cr h ?_
 simp[↓zq,zs,ac,cX,bn,hx0]
theorem Ly(x0:AV)(hx0:LK.ptr.has x0)(g:Vl->Vl)(hg:∀c:Vl,an Tryz.prog 118 [c.cx,.ref 0 0] [.cells [x0]] (cX (g c).cx [.cells [x0]]))(l:List Hl):∀(k i:Nat) (out:List Hl),i+k=l.length->out.length+k<=1000000->l.length<=1000000 ->
 Hu [.sl (gJ l),.v (.int .i64 (l.length:Int)),.v (.int .i64 (i:Int))] [.cells [x0],.cells [.any],.vec 2 (gJ out)] (gD 1 [] [.cells [x0],.cells [.any],.vec 2 (gJ (out++ji g (l.drop i)))])
 |
  0,i,out,hi,ho,hl=>by
  refine ME _ _ _ _ _ ?_
  have:i=l.length:=by omega
  subst this
  simp only[Ew,↓zq,zs,ac,ei,hx0]
  exact⟨fun h=>by omega,fun _=>by simp[gD,ji]⟩
 |
  k+1,i,out,hi,ho,hl=>by
  have hlt:i<l.length:=by omega
  refine ME _ _ _ _ _ ?_
  simp only[Ew,↓zq,zs,ac,zt,ei,ly hlt,aH,bB,hx0]
  refine⟨fun _=>⟨by omega,by omega,?_⟩,fun h=>by omega⟩
  refine aT (hg _) ?_
  simp only[↓zq,zs,ac,aH,bn,bA,cX,hx0]
  refine⟨⟨zX _ _,by omega⟩,?_⟩
  rw[bg i (by omega)]
  have:=Ly x0 hx0 g hg l k (i+1) (out++[(g (l[i]).1,(l[i]).2)]) (by omega) (by simp;omega) hl
  rw[aW]at this
  rw[gm g l hlt,oy]
  exact this
theorem QU(x0:AV)(hx0:LK.ptr.has x0)(g:Vl->Vl)(hg:∀c:Vl,an Tryz.prog 118 [c.cx,.ref 0 0] [.cells [x0]] (cX (g c).cx [.cells [x0]]))(l out:List Hl)(hl:out.length+l.length<=1000000) :
 an Tryz.prog 112 [.sl (gJ l),.fn 118 [.ref 0 0],.ref 1 0] [.cells [x0],.cells [.vec 2],.vec 2 (gJ out)] (cX .any [.cells [x0],.cells [.vec 2],.vec 2 (gJ (out++ji g l))]):=by
 refine Pt _ _ _ ((ca _).mpr trivial) hx0 ?_
 simp only[H6,↓zq,zs,ac,ei]
 have h:=Ly x0 hx0 g hg l l.length 0 out (by omega) (by omega) (by omega)
 rw[aZ]at h
 refine cr h ?_
 simp[↓zq,zs,ac,cX,bn,hx0]
theorem K4(g:Vl->Vl)(hg:∀c:Vl,an Tryz.prog 119 [c.cx] [] (bA (g c).cx))(l:List Hl):∀(k i:Nat) (out:List Hl),i+k=l.length->out.length+k<=1000000->l.length<=1000000 ->
 Hi [.v (.func (.func 119) #[] #[]),.sl (gJ l),.v (.int .i64 (l.length:Int)),.v (.int .i64 (i:Int))] [.cells [.any],.vec 2 (gJ out)] (gD 1 [] [.cells [.any],.vec 2 (gJ (out++ji g (l.drop i)))])
 |
  0,i,out,hi,ho,hl=>by
  refine JA _ _ _ _ ?_
  have:i=l.length:=by omega
  subst this
  simp only[Fw,↓zq,zs,ac,ei]
  exact⟨fun h=>by omega,fun _=>by simp[gD,ji]⟩
 |
  k+1,i,out,hi,ho,hl=>by
  have hlt:i<l.length:=by omega
  refine JA _ _ _ _ ?_
  simp only[Fw,↓zq,zs,ac,zt,ei,ly hlt,aH,bB]
  refine⟨fun _=>⟨by omega,by omega,?_⟩,fun h=>by omega⟩
  refine ah (hg _) ?_
  simp only[↓zq,zs,ac,aH,bn,bA,cX]
  refine⟨⟨zX _ _,by omega⟩,?_⟩
  rw[bg i (by omega)]
  have:=K4 g hg l k (i+1) (out++[(g (l[i]).1,(l[i]).2)]) (by omega) (by simp;omega) hl
  rw[aW]at this
  rw[gm g l hlt,oy]
  exact this
theorem P6(g:Vl->Vl)(hg:∀c:Vl,an Tryz.prog 119 [c.cx] [] (bA (g c).cx))(l out:List Hl)(hl:out.length+l.length<=1000000) :
 an Tryz.prog 112 [.sl (gJ l),.v (.func (.func 119) #[] #[]),.ref 0 0] [.cells [.vec 1],.vec 2 (gJ out)] (cX .any [.cells [.vec 1],.vec 2 (gJ (out++ji g l))]):=by
 refine PR _ _ ((ca _).mpr trivial) ?_
 simp only[Jq,↓zq,zs,ac,ei]
 have h:=K4 g hg l l.length 0 out (by omega) (by omega) (by omega)
 rw[aZ]at h
 refine cr h ?_
 simp[↓zq,zs,ac,cX,bn]
theorem LD(x0:AV)(x1:AV)(hx0:LK.ptr.has x0)(hx1:LK.ptr.has x1)(g:Vl->Vl)(hg:∀c:Vl,an Tryz.prog 120 [c.cx,.ref 0 0] [.cells [x0,x1]] (cX (g c).cx [.cells [x0,x1]]))(l:List Hl):∀(k i:Nat) (out:List Hl),i+k=l.length->out.length+k<=1000000->l.length<=1000000 ->
 F5 [.sl (gJ l),.v (.int .i64 (l.length:Int)),.v (.int .i64 (i:Int))] [.cells [x0,x1],.cells [.any],.vec 2 (gJ out)] (gD 1 [] [.cells [x0,x1],.cells [.any],.vec 2 (gJ (out++ji g (l.drop i)))])
 |
  0,i,out,hi,ho,hl=>by
  refine Ju _ _ _ _ _ _ ?_
  have:i=l.length:=by omega
  subst this
  simp only[Fu,↓zq,zs,ac,ei,hx0,hx1]
  exact⟨fun h=>by omega,fun _=>by simp[gD,ji]⟩
 |
  k+1,i,out,hi,ho,hl=>by
  have hlt:i<l.length:=by omega
  refine Ju _ _ _ _ _ _ ?_
  simp only[Fu,↓zq,zs,ac,zt,ei,ly hlt,aH,bB,hx0,hx1]
  refine⟨fun _=>⟨by omega,by omega,?_⟩,fun h=>by omega⟩
  refine aT (hg _) ?_
  simp only[↓zq,zs,ac,aH,bn,bA,cX,hx0,hx1]
  refine⟨⟨zX _ _,by omega⟩,?_⟩
  rw[bg i (by omega)]
  have:=LD x0 x1 hx0 hx1 g hg l k (i+1) (out++[(g (l[i]).1,(l[i]).2)]) (by omega) (by simp;omega) hl
  rw[aW]at this
  rw[gm g l hlt,oy]
  exact this
theorem Pw(x0:AV)(x1:AV)(hx0:LK.ptr.has x0)(hx1:LK.ptr.has x1)(g:Vl->Vl)(hg:∀c:Vl,an Tryz.prog 120 [c.cx,.ref 0 0] [.cells [x0,x1]] (cX (g c).cx [.cells [x0,x1]]))(l out:List Hl)(hl:out.length+l.length<=1000000) :
 an Tryz.prog 112 [.sl (gJ l),.fn 120 [.ref 0 0],.ref 1 0] [.cells [x0,x1],.cells [.vec 2],.vec 2 (gJ out)] (cX .any [.cells [x0,x1],.cells [.vec 2],.vec 2 (gJ (out++ji g l))]):=by
 refine Ps _ _ _ _ ((ca _).mpr trivial) hx0 hx1 ?_
 simp only[NC,↓zq,zs,ac,ei]
 have h:=LD x0 x1 hx0 hx1 g hg l l.length 0 out (by omega) (by omega) (by omega)
 rw[aZ]at h
 refine cr h ?_
 simp[↓zq,zs,ac,cX,bn,hx0,hx1]
theorem PV(w c:Vl):an Tryz.prog 115 [c.cx,.ref 0 0] [.cells [(Vl.l w).cx]] (cX (Vl.l c).cx [.cells [(Vl.l w).cx]]):=by
 refine LZ _ _ ((aH _).mpr trivial) ((aH _).mpr trivial) ?_
 simp only[Gm,Vl.cx,↓zq,zs,ac,aH]
 refine⟨by omega,?_⟩
 refine ah (zn _ _ ((aH _).mpr trivial)) ?_
 simp[↓zq,zs,ac,cX,Vl.cx]
theorem PS(w c:Vl):an Tryz.prog 115 [c.cx,.ref 0 0] [.cells [(Vl.r w).cx]] (cX (Vl.r c).cx [.cells [(Vl.r w).cx]]):=by
 refine LZ _ _ ((aH _).mpr trivial) ((aH _).mpr trivial) ?_
 simp only[Gm,Vl.cx,↓zq,zs,ac,aH]
 refine⟨by omega,?_⟩
 refine ah (zn _ _ ((aH _).mpr trivial)) ?_
 simp[↓zq,zs,ac,cX,Vl.cx]
theorem O9(x y c:Vl):an Tryz.prog 116 [c.cx,.ref 0 0] [.cells [(Vl.p x y).cx]] (cX (Vl.l (.p c y)).cx [.cells [(Vl.p x y).cx]]):=by
 refine Pq _ _ ((aH _).mpr trivial) ((aH _).mpr trivial) ?_
 simp only[MT,Vl.cx,↓zq,zs,ac,aH]
 refine⟨by omega,?_⟩
 refine ah (yK _ _ ((aH _).mpr trivial) ((aH _).mpr trivial)) ?_
 simp only[↓zq,zs,ac]
 refine ah (zn _ _ ((bV _).mpr trivial)) ?_
 simp[↓zq,zs,ac,cX,Vl.cx]
theorem QP(x y c:Vl):an Tryz.prog 118 [c.cx,.ref 0 0] [.cells [(Vl.p x y).cx]] (cX (Vl.r (.p x c)).cx [.cells [(Vl.p x y).cx]]):=by
 refine N1 _ _ ((aH _).mpr trivial) ((aH _).mpr trivial) ?_
 simp only[IU,Vl.cx,↓zq,zs,ac,aH]
 refine⟨by omega,?_⟩
 refine ah (yK _ _ ((aH _).mpr trivial) ((aH _).mpr trivial)) ?_
 simp only[↓zq,zs,ac]
 refine ah (zn _ _ ((bV _).mpr trivial)) ?_
 simp[↓zq,zs,ac,cX,Vl.cx]
theorem Qu(kc kv c:Vl):an Tryz.prog 120 [c.cx,.ref 0 0] [.cells [kc.cx,kv.cx]] (cX (Vl.f (.r (.p kc c))).cx [.cells [kc.cx,kv.cx]]):=by
 refine Qb _ _ _ ((aH _).mpr trivial) ((aH _).mpr trivial) ((aH _).mpr trivial) ?_
 simp only[JB,Vl.cx,↓zq,zs,ac,aH]
 refine ah (yK _ _ ((aH _).mpr trivial) ((aH _).mpr trivial)) ?_
 simp only[↓zq,zs,ac]
 refine ah (zn _ _ ((bV _).mpr trivial)) ?_
 simp only[↓zq,zs,ac]
 refine ah (zn _ _ ((bV _).mpr trivial)) ?_
 simp[↓zq,zs,ac,cX,Vl.cx,aH]
theorem Ql(c:Vl):an Tryz.prog 119 [c.cx] [] (bA (Vl.f (.l c)).cx):=by
 refine QX _ ((aH _).mpr trivial) ?_
 simp only[MG,↓zq,zs,ac]
 refine ah (zn _ _ ((aH _).mpr trivial)) ?_
 simp only[↓zq,zs,ac]
 refine ah (zn _ _ ((bV _).mpr trivial)) ?_
 simp[↓zq,zs,ac,bA,Vl.cx]
end Go.Proofs.Trees
namespace Go.Proofs.Trees
open Go Go.VL Go.RowKit
abbrev zF(a:Ty)(tg:Tg):Hl->List Hl:=fun h=>ji (fun c=>.f (.r (.p h.1 c))) (cg (.rc a) tg h.2)
theorem AR(l:List Hl){i:Nat}(hi:i<l.length):l[i]∈l:=bx _
def Fi(t:Ty)(ea:AV)(s:List UInt8)(fr:AV)(tg:Tg)(v:Vl):Prop:=an Tryz.prog 87 [.agg [t.av,ea],v.cx,.agg [.v (.string (mk s)),fr]] [] (bA (.sl (gJ (cg t tg v))))
theorem H7(a:Ty)(ea:AV)(s:List UInt8)(fr:AV)(tg:Tg)(he:LK.ptr.has ea)(hf:LK.ptr.has fr)(l:List Hl)(hl:l.length<=1000000)(ih:∀h,h∈l->Fi (.rc a) ea s fr tg h.2) :
 ∀(k i:Nat) (out:List Hl),i+k=l.length->(out++(l.drop i).flatMap (zF a tg)).length<=1000000 ->
 Hz [.sl (gJ l),.v (.int .i64 (l.length:Int)),.v (.int .i64 (i:Int))] [.cells [(Ty.rc a).av,ea],.cells [.v (.string (mk s)),fr],.cells [.any],.vec 2 (gJ out)] (gD 1 [] [.cells [.any],.vec 2 (gJ (out++(l.drop i).flatMap (zF a tg)))])
 |
  0,i,out,hi,ho=>by
  refine MD _ _ _ _ _ _ _ _ ?_
  have:i=l.length:=by omega
  subst this
  simp only[FY,↓zq,zs,ac,ei,aC,he,hf]
  exact⟨fun h=>by omega,fun _=>by simp[gD]⟩
 |
  k+1,i,out,hi,ho=>by
  have hlt:i<l.length:=by omega
  have hd:(l.drop i).flatMap (zF a tg)=zF a tg (l[i])++(l.drop (i+1)).flatMap (zF a tg):=by rw[aK hlt,List.flatMap_cons]
  rw[hd]at ho |-
  refine MD _ _ _ _ _ _ _ _ ?_
  simp only[FY,↓zq,zs,ac,zt,ei,ly hlt,aC,aH,bB,he,hf]
  refine⟨fun _=>⟨by omega,by omega,?_⟩,fun h=>by omega⟩
  refine ah (ih _ (AR l hlt)) ?_
  simp only[↓zq,zs,ac]
  have hb:out.length+(cg (.rc a) tg (l[i]).2).length<=1000000:=by
   simp only[ax,fM]at ho;omega
  refine aT (Pw _ _ ((aH _).mpr trivial) ((aH _).mpr trivial) (fun c=>.f (.r (.p (l[i]).1 c))) (fun c=>Qu (l[i]).1 (l[i]).2 c) (cg (.rc a) tg (l[i]).2) out hb) ?_
  simp only[↓zq,zs,ac,bn,aH]
  rw[bg i (by omega),<-aW]
  exact H7 a ea s fr tg he hf l hl ih k (i+1) _ (by omega) (by rw[aW];exact ho)
theorem DT(n:Nat):∀(m:Nat) (v:Vl),v.nodes<=m->∀(e:E) (env:List Fr) (t:Ty),Ask e env t->eK n v (e,env)=true->env.length+v.nodes<100000->∀(ea:AV) (ids:List Nat),kk ea ids->ids.length=env.length->∀(tg:Tg) (s:List UInt8) (fr:AV),zJ tg ids s fr->Fi t ea s fr tg v
 |0,v,hm=>by have:=dD v;omega
 |
  m+1,v,hm=>by
  intro e env t A hv hl ea ids he hids tg s fr ht
  unfold Fi
  refine Pb _ _ _ _ _ ((aC _).mpr trivial) he.has ((aH _).mpr trivial) ht.has ?_
  unfold IQ
  refine ah (Rb t tg ea ids s fr he ht (fun u hu=>by
   rcases gl A.wf A.ty with⟨hb,_⟩|⟨u',g,rfl,_,hg⟩
   ·rw[hu]at hb;cases hb
   ·cases hu;rw[hids];exact(List.getElem?_eq_some_iff.1 hg).1) (by omega)) ?_
  have hlen:=mL t tg v
  cases hat:fI t tg with
  |
   true =>
   rw[ml v hat]
   simp only[↓zq,zs,ac,bA,gJ,bE,List.map_nil,Vl.cx]
   exact⟨fun _=>trivial,fun h=>(by cases h)⟩
  |false =>
  simp only[↓zq,zs,ac]
  refine⟨fun h=>(by cases h),fun _=>?_⟩
  rcases gl A.wf A.ty with⟨hb,hq⟩|⟨u,g,rfl,hq,hu⟩
  ·have hhd:hd e env=(e,env):=j9 hq
   rcases fC A.ty hb A.cl with⟨rfl,rfl⟩|⟨rfl,rfl⟩|⟨s,rfl,rfl,hp,h0,h1⟩|⟨x,a,b,t1,t2,rfl,hx,rfl,ha,hbb⟩|⟨x,a,b,t1,t2,rfl,hx,rfl,ha,hbb⟩|⟨x,a,b,t1,rfl,hx,rfl⟩
   ·rw[dS hat (by cases v<;>rfl)]
    simp[Ty.av,↓zq,zs,ac,bA,gJ]
   ·rw[dS hat (by cases v<;>rfl)]
    simp[Ty.av,↓zq,zs,ac,bA,gJ]
   ·rw[dS hat (by cases v<;>rfl)]
    simp[Ty.av,↓zq,zs,ac,bA,gJ]
   ·obtain⟨ok1,ok2,ok3,_⟩:=A.ok
    obtain⟨f1,f2⟩:=fp A.cl
    have hL:=zl t1.av t2.av ea 43 (mk []) 0 ((aC _).mpr trivial) he.has
    have hR:=yR t1.av t2.av ea 43 (mk []) 0 ((aC _).mpr trivial) he.has
    cases v with
    |
     l w =>
     simp only[eK,hhd,hx,beq_self_eq_true,bP]at hv
     simp only[Vl.nodes]at hm hl hlen
     rw[mF]at hlen |-
     rw[fM]at hlen
     simp only[Ty.av,↓zq,zs,ac]
     refine⟨by omega,fun _=>?_,fun h=>absurd rfl h⟩
     refine ah hL ?_
     simp only[↓zq,zs,ac,bB,aC,he.has,Vl.cx,aH]
     refine⟨by omega,fun h=>by omega,fun _=>⟨by omega,?_⟩⟩
     refine ah (DT n m w (by omega) a env t1 ⟨ok2,A.wf,ha,f1⟩ hv (by omega) ea ids he hids tg s fr ht) ?_
     simp only[↓zq,zs,ac]
     have hadd:=Kt (Vl.l w).cx ((aH _).mpr trivial) Vl.l (fun c=>PV w c) (cg t1 tg w) [] (by simp;omega)
     simp only[Vl.cx,gJ,List.map_nil,aM]at hadd
     refine aT hadd ?_
     simp[↓zq,zs,ac,bn,bA,aH,gJ,bV]
    |
     r w =>
     simp only[eK,hhd,hx,beq_self_eq_true,bP]at hv
     simp only[Vl.nodes]at hm hl hlen
     rw[mM]at hlen |-
     rw[fM]at hlen
     simp only[Ty.av,↓zq,zs,ac]
     refine⟨by omega,fun _=>?_,fun h=>absurd rfl h⟩
     refine ah hL ?_
     simp only[↓zq,zs,ac,bB,aC,he.has,Vl.cx,aH]
     refine⟨by omega,fun _=>?_,fun h=>absurd rfl h⟩
     refine ah hR ?_
     simp only[↓zq,zs,ac,bB,aC,he.has,aH]
     refine⟨by omega,?_⟩
     refine ah (DT n m w (by omega) b env t2 ⟨ok3,A.wf,hbb,f2⟩ hv (by omega) ea ids he hids tg s fr ht) ?_
     simp only[↓zq,zs,ac]
     have hadd:=Kt (Vl.r w).cx ((aH _).mpr trivial) Vl.r (fun c=>PS w c) (cg t2 tg w) [] (by simp;omega)
     simp only[Vl.cx,gJ,List.map_nil,aM]at hadd
     refine aT hadd ?_
     simp[↓zq,zs,ac,bn,bA,aH,gJ,bV]
    |_=>simp[eK,hhd,hx]at hv
   ·obtain⟨ok1,ok2,ok3,_⟩:=A.ok
    obtain⟨f1,f2⟩:=eJ A.cl
    have hL:=zl t1.av t2.av ea 42 (mk []) 0 ((aC _).mpr trivial) he.has
    have hR:=yR t1.av t2.av ea 42 (mk []) 0 ((aC _).mpr trivial) he.has
    cases v with
    |
     p w w' =>
     simp only[eK,hhd,hx,beq_self_eq_true,bP,ap]at hv
     simp only[Vl.nodes]at hm hl hlen
     rw[mG]at hlen |-
     simp only[ax,fM]at hlen
     simp only[Ty.av,↓zq,zs,ac]
     refine⟨by omega,fun h=>by omega,fun _=>⟨fun _=>?_,fun h=>absurd rfl h⟩⟩
     refine ah hL ?_
     simp only[↓zq,zs,ac,bB,aC,he.has,Vl.cx,aH]
     refine⟨by omega,?_⟩
     refine ah (DT n m w (by omega) a env t1 ⟨ok2,A.wf,ha,f1⟩ hv.1 (by omega) ea ids he hids tg s fr ht) ?_
     simp only[↓zq,zs,ac]
     have hadd:=Oe (Vl.p w w').cx ((aH _).mpr trivial) (fun c=>.l (.p c w')) (fun c=>O9 w w' c) (cg t1 tg w) [] (by simp;omega)
     simp only[Vl.cx,gJ,List.map_nil,aM]at hadd
     refine aT hadd ?_
     simp only[↓zq,zs,ac,bn,aH]
     refine ah hR ?_
     simp only[↓zq,zs,ac,bB,aC,he.has,aH]
     refine⟨by omega,?_⟩
     refine ah (DT n m w' (by omega) b env t2 ⟨ok3,A.wf,hbb,f2⟩ hv.2 (by omega) ea ids he hids tg s fr ht) ?_
     simp only[↓zq,zs,ac]
     have hadd2:=QU (Vl.p w w').cx ((aH _).mpr trivial) (fun c=>.r (.p w c)) (fun c=>QP w w' c) (cg t2 tg w') (ji (fun c=>.l (.p c w')) (cg t1 tg w)) (by rw[fM];omega)
     simp only[Vl.cx,gJ]at hadd2
     refine aT hadd2 ?_
     simp[↓zq,zs,ac,bn,bA,aH,gJ,bV]
    |_=>simp[eK,hhd,hx]at hv
   ·obtain⟨t1',he1,h1,f1,hw1⟩:=i6 A.wf A.ok hx A.ty A.cl
    cases he1
    obtain⟨ok1,ok2,ok3,_⟩:=A.ok
    have A':Ask b (.mk a.at (.list [x,a,b]) env::env) t1:=⟨ok3,hw1,h1,f1⟩
    cases v with
    |
     f w =>
     simp only[eK,hhd,hx,beq_self_eq_true,bP]at hv
     simp only[Vl.nodes]at hm hl hlen
     rw[mE]at hlen |-
     simp only[ax,fM]at hlen
     have hin:=B2 t1 ea ids he
     simp only[Ty.av]at hin
     simp only[Ty.av,↓zq,zs,ac]
     refine⟨by omega,fun h=>by omega,fun _=>⟨fun h=>by omega,fun _=>⟨fun _=>?_,fun h=>absurd rfl h⟩⟩⟩
     refine bO hin (by have:=Bv.ne t1 ea ids;simpa only[Bv,Ty.av]using this) ?_
     intro r o hr
     obtain⟨⟨mm,hmm,rfl⟩,rfl⟩:=hr
     have he2:kk (.ptr [.pid mm [(Ty.rc t1).av,ea],ea]) (mm::ids):=.cons hmm he
     have hfr:LK.ptr.has (.pid mm [(Ty.rc t1).av,ea]):=.inr (.inr ⟨_,_,rfl⟩)
     simp only[Ty.av]at he2 hfr
     simp only[↓zq,zs,ac,bB,aC,he2.has,hfr,Vl.cx,aH,Ty.av]
     refine⟨by omega,?_⟩
     have i1:=DT n m w (by omega) b _ t1 A' hv (by simp;omega) _ _ he2 (by simp[hids]) tg.up s fr (ht.push mm)
     unfold Fi at i1
     refine ah i1 ?_
     simp only[↓zq,zs,ac]
     have hadd:=P6 (fun c=>.f (.l c)) (fun c=>Ql c) (cg t1 tg.up w) [] (by simp;omega)
     simp only[Vl.cx,gJ,List.map_nil,aM]at hadd
     refine aT hadd ?_
     simp only[↓zq,zs,ac,bn,aH]
     have i2:=DT n m w (by omega) b _ t1 A' hv (by simp;omega) _ _ he2 (by simp[hids]) (.bd 0) [] _ (by have:=zJ.bd (k:=0) (ids:=mm::ids) (by simp) [(Ty.rc t1).av,ea] [];simpa only[bo,Ty.av]using this)
     unfold Fi at i2
     refine⟨by omega,?_⟩
     refine ah i2 ?_
     simp only[↓zq,zs,ac,ei]
     have hl2:=mL t1 (.bd 0) w
     have ih3:∀h,h∈cg t1 (.bd 0) w->Fi (.rc t1) ea s fr tg h.2:=fun h hh=>by
      have h3:=(ir hh).1
      have h4:=iq n m w (by omega) b _ t1 A' hv 0 _ rfl h hh
      exact DT n m h.2 (by omega) (.list [x,a,b]) env (.rc t1) A h4 (by omega) ea ids he hids tg s fr ht
     have hloop:=H7 t1 ea s fr tg he.has ht.has (cg t1 (.bd 0) w) (by omega) ih3 (cg t1 (.bd 0) w).length 0 (ji (fun c=>.f (.l c)) (cg t1 tg.up w)) (by omega) (by
      simp only[aZ,ax,fM]
      have hlen2:(cg t1 tg.up w).length+((cg t1 (.bd 0) w).flatMap (zF t1 tg)).length<=1+w.nodes:=hlen
      omega)
     simp only[Ty.av,gJ,aZ]at hloop
     refine cr hloop ?_
     simp[↓zq,zs,ac,ac,bA,gJ]
    |_=>simp[eK,hhd,hx]at hv
  ·rw[dS hat (by cases v<;>rfl)]
   simp[Ty.av,↓zq,zs,ac,bA,gJ]
end Go.Proofs.Trees
namespace Go.Proofs.Trees
open Go Go.VL Go.RowKit
theorem Du:∀(v:Vl),v.cK.length<=900000->an Tryz.prog 66 [v.cx] [] (bA (.v (.string (mk v.cK))))
 | .u,h=>by refine yW _ ((aH _).mpr trivial) ?_;simp[Ez,Vl.cx,↓zq,zs,ac,bA,Vl.cK,Vl.cH,fQ]
 | .el k,h=>by refine yW _ ((aH _).mpr trivial) ?_;simp[Ez,Vl.cx,↓zq,zs,ac,bA,Vl.cK,Vl.cH,fQ]
 |
  .l v,h=>by
  simp only[Vl.cK,Vl.cH,fQ,en,aB,ax,aJ]at h
  refine yW _ ((aH _).mpr trivial) ?_
  have hb:(⟨(bytesOf [[.v (.int .u8 108)]]).toArray⟩:ByteArray)=mk [108]:=rfl
  have ha:ja [[.v (.int .u8 108)]]:=jA 108
  simp only[Ez,Vl.cx,↓zq,zs,ac,aH,fm,hb]
  refine⟨by omega,fun h=>by omega,fun _=>⟨fun h=>by omega,fun _=>⟨fun h=>by omega,fun _=>⟨by omega,ha,by simp[cw],by rw[jB,cw,cw];simp,by omega,?_⟩⟩⟩⟩
  refine ah (Du v (by simp only[Vl.cK];omega)) ?_
  simp only[↓zq,zs,ac,zt,bA,Vl.cK,Vl.cH,fQ,en]
  refine⟨by simp;omega,by simp;omega,by simp⟩
 |
  .r v,h=>by
  simp only[Vl.cK,Vl.cH,fQ,en,aB,ax,aJ]at h
  refine yW _ ((aH _).mpr trivial) ?_
  have hb:(⟨(bytesOf [[.v (.int .u8 114)]]).toArray⟩:ByteArray)=mk [114]:=rfl
  have ha:ja [[.v (.int .u8 114)]]:=jA 114
  simp only[Ez,Vl.cx,↓zq,zs,ac,aH,fm,hb]
  refine⟨by omega,fun h=>by omega,fun _=>⟨fun h=>by omega,fun _=>⟨fun h=>by omega,fun _=>⟨by omega,ha,by simp[cw],by rw[jB,cw,cw];simp,by omega,?_⟩⟩⟩⟩
  refine ah (Du v (by simp only[Vl.cK];omega)) ?_
  simp only[↓zq,zs,ac,zt,bA,Vl.cK,Vl.cH,fQ,en]
  refine⟨by simp;omega,by simp;omega,by simp⟩
 |
  .f v,h=>by
  simp only[Vl.cK,Vl.cH,fQ,en,aB,ax,aJ]at h
  refine yW _ ((aH _).mpr trivial) ?_
  have hb:(⟨(bytesOf [[.v (.int .u8 102)]]).toArray⟩:ByteArray)=mk [102]:=rfl
  have ha:ja [[.v (.int .u8 102)]]:=jA 102
  simp only[Ez,Vl.cx,↓zq,zs,ac,aH,fm,hb]
  refine⟨by omega,fun h=>by omega,fun _=>⟨fun h=>by omega,fun _=>⟨fun h=>by omega,fun _=>⟨by omega,ha,by simp[cw],by rw[jB,cw,cw];simp,by omega,?_⟩⟩⟩⟩
  refine ah (Du v (by simp only[Vl.cK];omega)) ?_
  simp only[↓zq,zs,ac,zt,bA,Vl.cK,Vl.cH,fQ,en]
  refine⟨by simp;omega,by simp;omega,by simp⟩
 |
  .p a b,h=>by
  simp only[Vl.cK,Vl.cH,fQ,en,aB,ax,aJ]at h
  refine yW _ ((aH _).mpr trivial) ?_
  simp only[Ez,Vl.cx,↓zq,zs,ac,aH,fm]
  refine⟨by omega,fun h=>by omega,fun _=>⟨fun h=>by omega,fun _=>⟨fun _=>⟨by omega,?_⟩,fun h=>absurd rfl h⟩⟩⟩
  refine ah (Du a (by simp only[Vl.cK];omega)) ?_
  simp only[↓zq,zs,ac,zt,aH,Vl.cK]
  refine⟨by simp;omega,by simp;omega,by omega,?_⟩
  refine ah (Du b (by simp only[Vl.cK];omega)) ?_
  simp only[↓zq,zs,ac,zt,bA,Vl.cK,Vl.cH,fQ,en]
  refine⟨by simp;omega,by simp;omega,by simp⟩
def s6:Option (List UInt8)->AV
 |some s=>.cI [.v (.string (mk s)),.v (.bool true)]
 |none=>.cI [.v (.string (mk [])),.v (.bool false)]
end Go.Proofs.Trees
namespace Go.Proofs.Trees
open Go Go.VL Go.RowKit
def back(n:Nat):Ty->Nat->Vl
 | .name _,c=>.el c
 | .plus a b,c=>match HI n a with|some x=>if c<x then .l (back n a c)else .r (back n b (c-x))|none=>.u
 | .times a b,c=>match HI n b with|some y=>.p (back n a (c/y)) (back n b (c%y))|none=>.u
 |_,_=>.u
theorem ye:∀l:List E,cA 2 (E.bm l)
 |[]=>fun c hc=>by cases hc
 |
  e::l=>fun c hc=>by
  simp only[E.bm,aF]at hc
  rcases hc with rfl|hc
  ·exact gf e
  ·exact ye l c hc
theorem Kk(w:List UInt8)(l:List E)(hl:l.length<1000000):an Tryz.prog 98 [.v (.string (mk w)),.sl (E.bm l)] [] (bA (E.kj (.list (.atom w::l)))):=by
 refine JD _ _ ((ca _).mpr trivial) ?_
 simp only[Es,↓zq,zs,ac,dW,bA,E.kj,E.ii,E.bm]
 exact⟨⟨ye l,by omega⟩,rfl⟩
end Go.Proofs.Trees
namespace Go.Proofs.Trees
open Go Go.VL Go.RowKit
def lS(l:List Hl):List (List AV):=l.map fun h=>[.v (.string (mk h.1.cH.at)),h.1.cH.sp,.v (.string (mk h.2.cH.at)),h.2.cH.sp]
theorem fq(l:List Hl):(lS l).length=l.length:=by simp[lS]
theorem gB{l:List Hl}{i:Nat}(hi:i<l.length):(lS l).getD i []=[.v (.string (mk (l[i]).1.cH.at)),(l[i]).1.cH.sp,.v (.string (mk (l[i]).2.cH.at)),(l[i]).2.cH.sp]:=by simp[lS,aa,hi]
theorem ol(out:List Hl)(a b:Vl):lS out++[[.v (.string (mk a.cH.at)),a.cH.sp,.v (.string (mk b.cH.at)),b.cH.sp]]=lS (out++[(a,b)]):=by simp[lS]
theorem yy(a b c d:AV):cA 4 [[a,b,c,d]]:=fun x hx=>by simp at hx;rw[hx];rfl
theorem aQ(s:ByteArray)(e:E):bB [.str,.sl] [.v (.string s),e.sp] 0=True:=by simp[bB,eg,a6]
theorem kH(s:ByteArray)(e:E)(x y:AV):bB [.str,.sl] [.v (.string s),e.sp,x,y] 0=True:=by simp[bB,eg,a6]
theorem zH(w:List UInt8)(e:E):an Tryz.prog 98 [.v (.string (mk w)),.sl [[.v (.string (mk e.at)),e.sp]]] [] (bA (.agg [.v (.string (mk [])),(E.list [.atom w,e]).sp])):=by
 have:=Kk w [e] (by simp)
 simpa only[E.bm,fB,dr,E.at]using this
theorem w8(w:List UInt8)(e e':E):an Tryz.prog 98 [.v (.string (mk w)),.sl [[.v (.string (mk e.at)),e.sp],[.v (.string (mk e'.at)),e'.sp]]] [] (bA (.agg [.v (.string (mk [])),(E.list [.atom w,e,e']).sp])):=by
 have:=Kk w [e,e'] (by simp)
 simpa only[E.bm,fB,dr,E.at]using this
def P3(pv:AV)(a b:E):Prop:=LK.sl.has pv/\pv.aN.length=3/\pv.aN.getD 1 []=[.v (.string (mk a.at)),a.sp]/\pv.aN.getD 2 []=[.v (.string (mk b.at)),b.sp]
theorem P3.of(x a b:E):P3 (E.list [x,a,b]).sp a b:=⟨by simp[E.sp,ca],by simp[E.sp,E.bm,fS],by simp[E.sp,E.bm,fS,fB],by simp[E.sp,E.bm,fS,fB]⟩
def P2(pv:AV)(a:E):Prop:=LK.sl.has pv/\pv.aN.length=2/\pv.aN.getD 1 []=[.v (.string (mk a.at)),a.sp]
theorem P2.of(x a:E):P2 (E.list [x,a]).sp a:=⟨by simp[E.sp,ca],by simp[E.sp,E.bm,fS],by simp[E.sp,E.bm,fS,fB]⟩
theorem Jh(w:List UInt8)(g:Vl->Vl)(hg:∀c,(g c).cH=.list [.atom w,c.cH])(l:List Hl)(hl:l.length<=1000000):∀(k i:Nat) (out:List Hl),i+k=l.length->out.length+k<=1000000 ->
 FG [.sl (lS l),.v (.string (mk w)),.v (.int .i64 (i:Int))] [.vec 4 (lS out)] (gD 1 [] [.vec 4 (lS (out++ji g (l.drop i)))])
 |
  0,i,out,hi,ho=>by
  refine Nc _ _ _ _ ?_
  have:i=l.length:=by omega
  subst this
  simp only[GC,↓zq,zs,ac,fq]
  exact⟨fun h=>by omega,fun _=>by simp[gD,ji]⟩
 |
  k+1,i,out,hi,ho=>by
  have hlt:i<l.length:=by omega
  refine Nc _ _ _ _ ?_
  simp only[GC,↓zq,zs,ac,zt,fq,gB hlt,kH,aQ]
  refine⟨fun _=>?_,fun h=>by omega⟩
  repeat refine⟨by omega,?_⟩
  refine ah (zH _ _) ?_
  simp only[↓zq,zs,ac,aQ]
  repeat refine⟨by omega,?_⟩
  refine⟨⟨yy _ _ _ _,by omega⟩,?_⟩
  rw[bg i (by omega)]
  have:=Jh w g hg l hl k (i+1) (out++[(g (l[i]).1,(l[i]).2)]) (by omega) (by simp;omega)
  rw[aW,<-ol,hg]at this
  rw[gm g l hlt]
  exact this
theorem Ic(w:List UInt8)(g:Vl->Vl)(hg:∀c,(g c).cH=.list [.atom w,c.cH])(l out:List Hl)(hl:out.length+l.length<=1000000) :
 an Tryz.prog 126 [.sl (lS l),.v (.string (mk w)),.vec 0] [.vec 4 (lS out)] (cX (.vec 1) [.dead,.vec 4 (lS (out++ji g l))]):=by
 refine Oj _ _ _ ((ca _).mpr trivial) ?_
 simp only[Kx,↓zq,zs,ac]
 have h:=Jh w g hg l (by omega) l.length 0 out (by omega) (by omega)
 rw[aZ]at h
 refine cr h ?_
 simp[↓zq,zs,ac,cX]
theorem Np(s:List UInt8)(ta:ByteArray)(tp:AV)(ht:LK.sl.has tp)(va:ByteArray)(vp:AV)(x y:Vl)(hp:P3 vp x.cH y.cH)(l:List Hl)(hl:l.length<=1000000):∀(k i:Nat) (out:List Hl),i+k=l.length->out.length+k<=1000000 ->
 FE [.v (.string (mk s)),.sl (lS l),.v (.int .i64 (i:Int))] [.cells [.v (.string ta),tp],.cells [.v (.string va),vp],.vec 4 (lS out)] (gD 1 [.v (.string (mk s))] [.cells [.v (.string ta),tp],.cells [.v (.string va),vp],.vec 4 (lS (out++ji (fun c=>Vl.l (.p c y)) (l.drop i)))])
 |
  0,i,out,hi,ho=>by
  refine Jn _ _ _ _ _ _ _ _ ?_
  have:i=l.length:=by omega
  subst this
  simp only[G7,↓zq,zs,ac,fq,ht,a6,ac,hp.1]
  exact⟨fun h=>by omega,fun _=>by simp[gD,ji]⟩
 |
  k+1,i,out,hi,ho=>by
  have hlt:i<l.length:=by omega
  refine Jn _ _ _ _ _ _ _ _ ?_
  simp only[G7,↓zq,zs,ac,zt,fq,gB hlt,kH,aQ,gB,ht,a6,ac,hp.1,toNat_one,bi,hp.1,hp.2.1,hp.2.2.1,hp.2.2.2]
  refine⟨fun _=>?_,fun h=>by omega⟩
  repeat refine⟨by omega,?_⟩
  refine ah (w8 _ _ _) ?_
  simp only[↓zq,zs,ac,aQ]
  repeat refine⟨by omega,?_⟩
  refine ah (zH [108] (E.list [.atom [112],(l[i]).1.cH,y.cH])) ?_
  simp only[↓zq,zs,ac,aQ]
  repeat refine⟨by omega,?_⟩
  refine⟨⟨yy _ _ _ _,by omega⟩,?_⟩
  rw[bg i (by omega)]
  have:=Np s ta tp ht va vp x y hp l hl k (i+1) (out++[((fun c=>Vl.l (.p c y)) (l[i]).1,(l[i]).2)]) (by omega) (by simp;omega)
  rw[aW,<-ol]at this
  rw[gm (fun c=>Vl.l (.p c y)) l hlt]
  exact this
theorem HN(va:ByteArray)(vp:AV)(x y:Vl)(hp:P3 vp x.cH y.cH)(l:List Hl)(hl:l.length<=1000000):∀(k i:Nat) (out:List Hl),i+k=l.length->out.length+k<=1000000 ->
 Eo [.sl (lS l),.v (.int .i64 (i:Int))] [.cells [.v (.string va),vp],.vec 4 (lS out)] (gD 1 [] [.vec 4 (lS (out++ji (fun c=>Vl.r (.p x c)) (l.drop i)))])
 |
  0,i,out,hi,ho=>by
  refine JM _ _ _ _ _ ?_
  have:i=l.length:=by omega
  subst this
  simp only[EZ,↓zq,zs,ac,fq,a6,ac,hp.1]
  exact⟨fun h=>by omega,fun _=>by simp[gD,ji]⟩
 |
  k+1,i,out,hi,ho=>by
  have hlt:i<l.length:=by omega
  refine JM _ _ _ _ _ ?_
  simp only[EZ,↓zq,zs,ac,zt,fq,gB hlt,kH,aQ,gB,a6,ac,hp.1,toNat_one,bi,hp.1,hp.2.1,hp.2.2.1,hp.2.2.2]
  refine⟨fun _=>?_,fun h=>by omega⟩
  repeat refine⟨by omega,?_⟩
  refine ah (w8 _ _ _) ?_
  simp only[↓zq,zs,ac,aQ]
  repeat refine⟨by omega,?_⟩
  refine ah (zH [114] (E.list [.atom [112],x.cH,(l[i]).1.cH])) ?_
  simp only[↓zq,zs,ac,aQ]
  repeat refine⟨by omega,?_⟩
  refine⟨⟨yy _ _ _ _,by omega⟩,?_⟩
  rw[bg i (by omega)]
  have:=HN va vp x y hp l hl k (i+1) (out++[((fun c=>Vl.r (.p x c)) (l[i]).1,(l[i]).2)]) (by omega) (by simp;omega)
  rw[aW,<-ol]at this
  rw[gm (fun c=>Vl.r (.p x c)) l hlt]
  exact this
theorem MZ(s s2:List UInt8)(ta:ByteArray)(tp:AV)(ht:LK.sl.has tp)(va:ByteArray)(vp:AV)(hp:LK.sl.has vp)(l:List Hl)(hl:l.length<=1000000):∀(k i:Nat) (out:List Hl),i+k=l.length->out.length+k<=1000000 ->
 EN [.v (.string (mk s)),.v (.string (mk s2)),.sl (lS l),.v (.int .i64 (i:Int))] [.cells [.v (.string ta),tp],.cells [.v (.string va),vp],.vec 4 (lS out)] (gD 1 [.v (.string (mk s)),.v (.string (mk s2))] [.cells [.v (.string ta),tp],.cells [.v (.string va),vp],.vec 4 (lS (out++ji (fun c=>Vl.f (.l c)) (l.drop i)))])
 |
  0,i,out,hi,ho=>by
  refine Ig _ _ _ _ _ _ _ _ _ ?_
  have:i=l.length:=by omega
  subst this
  simp only[EY,↓zq,zs,ac,fq,ht,a6,ac,hp]
  exact⟨fun h=>by omega,fun _=>by simp[gD,ji]⟩
 |
  k+1,i,out,hi,ho=>by
  have hlt:i<l.length:=by omega
  refine Ig _ _ _ _ _ _ _ _ _ ?_
  simp only[EY,↓zq,zs,ac,zt,fq,gB hlt,kH,aQ,gB,ht,a6,ac,hp]
  refine⟨fun _=>?_,fun h=>by omega⟩
  repeat refine⟨by omega,?_⟩
  refine ah (zH _ _) ?_
  simp only[↓zq,zs,ac,aQ]
  repeat refine⟨by omega,?_⟩
  refine ah (zH [102] (E.list [.atom [108],(l[i]).1.cH])) ?_
  simp only[↓zq,zs,ac,aQ]
  repeat refine⟨by omega,?_⟩
  refine⟨⟨yy _ _ _ _,by omega⟩,?_⟩
  rw[bg i (by omega)]
  have:=MZ s s2 ta tp ht va vp hp l hl k (i+1) (out++[((fun c=>Vl.f (.l c)) (l[i]).1,(l[i]).2)]) (by omega) (by simp;omega)
  rw[aW,<-ol]at this
  rw[gm (fun c=>Vl.f (.l c)) l hlt]
  exact this
theorem Lg(s:List UInt8)(L:AV)(q:Nat)(kc:Vl)(kv:Vl)(hL:LK.sl.has L)(hq:q<L.aN.length)(hg:L.aN.getD q []=[.v (.string (mk kc.cH.at)),kc.cH.sp,.v (.string (mk kv.cH.at)),kv.cH.sp])(ta:ByteArray)(tp:AV)(ht:LK.sl.has tp)(l:List Hl)(hl:l.length<=1000000):∀(k i:Nat) (out:List Hl),i+k=l.length->out.length+k<=1000000 ->
 Gl [.v (.string (mk s)),L,.v (.int .i64 (q:Int)),.sl (lS l),.v (.int .i64 (i:Int))] [.cells [.v (.string ta),tp],.vec 4 (lS out)] (gD 1 [.v (.string (mk s)),L,.v (.int .i64 (q:Int))] [.cells [.v (.string ta),tp],.vec 4 (lS (out++ji (fun c=>Vl.f (.r (.p kc c))) (l.drop i)))])
 |
  0,i,out,hi,ho=>by
  refine KG _ _ _ _ _ _ _ _ ?_
  have:i=l.length:=by omega
  subst this
  simp only[HF,↓zq,zs,ac,fq,ht,a6,ac,hL]
  exact⟨fun h=>by omega,fun _=>by simp[gD,ji]⟩
 |
  k+1,i,out,hi,ho=>by
  have hlt:i<l.length:=by omega
  refine KG _ _ _ _ _ _ _ _ ?_
  simp only[HF,↓zq,zs,ac,zt,fq,gB hlt,kH,aQ,gB,ht,a6,ac,hL,hg]
  refine⟨fun _=>?_,fun h=>by omega⟩
  repeat refine⟨by omega,?_⟩
  refine ah (w8 _ _ _) ?_
  simp only[↓zq,zs,ac,aQ]
  repeat refine⟨by omega,?_⟩
  refine ah (zH [114] (E.list [.atom [112],kc.cH,(l[i]).1.cH])) ?_
  simp only[↓zq,zs,ac,aQ]
  repeat refine⟨by omega,?_⟩
  refine ah (zH [102] (E.list [.atom [114],E.list [.atom [112],kc.cH,(l[i]).1.cH]])) ?_
  simp only[↓zq,zs,ac,aQ]
  repeat refine⟨by omega,?_⟩
  refine⟨⟨yy _ _ _ _,by omega⟩,?_⟩
  rw[bg i (by omega)]
  have:=Lg s L q kc kv hL hq hg ta tp ht l hl k (i+1) (out++[((fun c=>Vl.f (.r (.p kc c))) (l[i]).1,(l[i]).2)]) (by omega) (by simp;omega)
  rw[aW,<-ol]at this
  rw[gm (fun c=>Vl.f (.r (.p kc c))) l hlt]
  exact this
theorem Ku(s:List UInt8)(te:E)(a:Ty)(tg:Tg)(l:List Hl)(hl:l.length<=1000000)(ih:∀h,h∈l->an Tryz.prog 92 [.agg [.v (.string (mk te.at)),te.sp],.v (.string (mk s)),.agg [.v (.string (mk h.2.cH.at)),h.2.cH.sp]] [] (bA (.sl (lS (cg (.rc a) tg h.2))))) :
 ∀(k i:Nat) (out:List Hl),i+k=l.length->(out++(l.drop i).flatMap (zF a tg)).length<=1000000 ->
 GI [.v (.string (mk s)),.sl (lS l),.v (.int .i64 (i:Int))] [.cells [.v (.string (mk te.at)),te.sp],.vec 4 (lS out)] (gD 1 [] [.vec 4 (lS (out++(l.drop i).flatMap (zF a tg)))])
 |
  0,i,out,hi,ho=>by
  refine Lb _ _ _ _ _ _ ?_
  have:i=l.length:=by omega
  subst this
  simp only[EX,↓zq,zs,ac,fq,a6,ac]
  exact⟨fun h=>by omega,fun _=>by simp[gD]⟩
 |
  k+1,i,out,hi,ho=>by
  have hlt:i<l.length:=by omega
  have hd:(l.drop i).flatMap (zF a tg)=zF a tg (l[i])++(l.drop (i+1)).flatMap (zF a tg):=by rw[aK hlt,List.flatMap_cons]
  rw[hd]at ho |-
  refine Lb _ _ _ _ _ _ ?_
  simp only[EX,↓zq,zs,ac,zt,fq,gB hlt,kH,aQ,a6,ac]
  refine⟨fun _=>?_,fun h=>by omega⟩
  repeat refine⟨by omega,?_⟩
  refine ah (ih _ (AR l hlt)) ?_
  simp only[↓zq,zs,ac]
  have hb:out.length+(cg (.rc a) tg (l[i]).2).length<=1000000:=by
   simp only[ax,fM]at ho;omega
  have h5:=Lg s (.sl (lS l)) i (l[i]).1 (l[i]).2 ((ca _).mpr trivial) (by rw[fS,fq];omega) (by rw[fS,gB hlt]) (mk te.at) te.sp ((a6 _).mpr trivial) (cg (.rc a) tg (l[i]).2) (by omega) (cg (.rc a) tg (l[i]).2).length 0 out (by omega) (by omega)
  rw[aZ]at h5
  refine cr h5 ?_
  simp only[↓zq,zs,ac,a6,ac]
  repeat refine⟨by omega,?_⟩
  rw[bg i (by omega),<-aW]
  exact Ku s te a tg l hl ih k (i+1) _ (by omega) (by rw[aW];exact ho)
end Go.Proofs.Trees
namespace Go.Proofs.Trees
open Go Go.VL Go.RowKit
def kids(a:Ty):Vl->List Hl
 | .f w=>cg a (.bd 0) w
 |_=>[]
theorem pf(a:Ty)(v:Vl):kT (kids a v)+1<=v.nodes:=by
 cases v with
 |f w=>have:=rn a (.bd 0) w;simp only[kids,Vl.nodes];omega
 |_=>simp only[kids,kT,Vl.nodes,List.map_nil,List.sum_nil];omega
theorem xb{a:Ty}{v:Vl}{h:Hl}(hh:h∈kids a v):h.2.nodes<v.nodes:=by
 cases v with
 |f w=>have:=(ir hh).1;simp only[Vl.nodes];omega
 |_=>cases hh
theorem oM{n:Nat}{a:Ty}{v:Vl}{h:Hl}(hv:v.iu n)(hh:h∈kids a v):h.1.iu n/\h.2.iu n:=by
 cases v with
 |f w=>exact gX n _ _ _ w h hv hh
 |_=>cases hh
end Go.Proofs.Trees
namespace Go.Proofs.Trees
open Go Go.VL
mutual
def E.pr:E->Prop
 | .atom s=>s≠[]/\s.all eN=true
 | .list l=>l≠[]/\E.BD l
def E.BD:List E->Prop
 |[]=>True
 |e::l=>e.pr/\E.BD l
end
mutual
def E.dp:E->Nat
 | .atom _=>0
 | .list l=>1+E.uz l
def E.uz:List E->Nat
 |[]=>0
 |e::l=>max e.dp (E.uz l)
end
def I1(r:List UInt8):Prop:=∀c t,r=c::t->eN c=false
theorem tL:I1 []:=by intro c t h;cases h
theorem Ai{s r:List UInt8}(hs:s.all eN=true)(hr:I1 r):(s++r).takeWhile eN=s/\(s++r).dropWhile eN=r:=by
 induction s with
 |
  nil =>
  cases r with
  |nil=>exact⟨rfl,rfl⟩
  |cons c t=>have:=hr c t rfl;simp[List.takeWhile,List.dropWhile,this]
 |
  cons c s ih =>
  simp only[cW,ap]at hs
  have:=ih hs.2
  simp[List.takeWhile,List.dropWhile,hs.1,this.1,this.2]
theorem vn(l:List E)(r:List UInt8):I1 (en l++41::r):=by
 intro c t h
 cases l with
 |nil=>simp only[en,aM,List.cons.injEq]at h;rw[<-h.1];decide
 |cons e l=>simp only[en,a7,List.cons.injEq]at h;rw[<-h.1];decide
theorem A6{f:List UInt8->Option (E×List UInt8)}(r:List UInt8):∀(l:List E) (e:E) (acc:List E) (n:Nat),l.length<n->(∀x,x=e\/x∈l->∀r,I1 r->f (fQ x++r)=some (x,r)) ->
 rL f n (fQ e++(en l++41::r)) acc=some (.list (acc++e::l),r)
 |l,e,acc,0,hn,hf=>by omega
 |
  [],e,acc,n+1,hn,hf=>by
  simp only[rL]
  rw[hf e (.inl rfl) _ (vn [] r)]
  simp[en]
 |
  x::l,e,acc,n+1,hn,hf=>by
  simp only[rL]
  rw[hf e (.inl rfl) _ (vn (x::l) r)]
  simp only[aB]at hn
  have ih:=A6 r l x (acc++[e]) n (by omega) (fun y hy=>hf y (.inr (by cases hy with|inl h=>rw[h];exact aj|inr h=>exact ak _ h)))
  simp only[aW,a7,aM]at ih
  simp only[en,a7,aW]
  simp[ih]
theorem Db{l:List E}{k:Nat}:E.BD l->E.uz l<=k->∀x,x∈l->x.pr/\x.dp<=k:=by
 induction l with
 |nil=>intro _ _ x h;cases h
 |
  cons e l ih =>
  intro h hd x hx
  simp only[E.BD,E.uz]at h hd
  cases hx with
  |head=>exact⟨h.1,by omega⟩
  |tail _ hx=>exact ih h.2 (by omega) x hx
theorem xy:∀(k:Nat) (e:E) (r:List UInt8),e.pr->e.dp<=k->I1 r->rd k (fQ e++r)=some (e,r)
 |
  0,.atom s,r,hp,hd,hr=>by
  have h:=Ai hp.2 hr
  simp only[fQ,rd,h.1,h.2,hp.1,if_false]
 |
  k+1,.atom s,r,hp,hd,hr=>by
  have h:=Ai hp.2 hr
  simp only[fQ,rd,h.1,h.2,hp.1,if_false]
 |0,.list l,r,hp,hd,hr=>by simp only[E.dp]at hd;omega
 |k+1,.list [],r,hp,hd,hr=>by exact absurd rfl hp.1
 |
  k+1,.list (e::l),r,hp,hd,hr=>by
  have hs:eN 40=false:=by decide
  simp only[E.dp,E.pr]at hd hp
  have hm:=Db (k:=k) hp.2 (by omega)
  have:=A6 (f:=rd k) r l e [] ((fQ e++(en l++41::r)).length+1) (by have:=rC l;simp only[ax,aB];omega)
   (fun x hx r hr=>xy k x r (hm x (by cases hx with|inl h=>rw[h];exact aj|inr h=>exact ak _ h)).1 (hm x (by cases hx with|inl h=>rw[h];exact aj|inr h=>exact ak _ h)).2 hr)
  simp only[fQ,a7,aW,aM]at *
  simp only[rd,List.takeWhile,hs,if_true]
  simpa using this
theorem BL{e e':E}(h:e.pr)(h':e'.pr)(ht:fQ e=fQ e'):e=e':=by
 have a:=xy (max e.dp e'.dp) e [] h (by omega) tL
 have b:=xy (max e.dp e'.dp) e' [] h' (by omega) tL
 rw[ht,b]at a;cases a;rfl
theorem F7{e:E}(h:e.pr)(hd:e.dp<=300)(hl:(fQ e).length<=8000):qf (fQ e)=some e:=by
 have:=xy 300 e [] h hd tL
 rw[cE]at this
 rw[qf,this];simp;omega
theorem Aw(s:List UInt8):(s.takeWhile eN).all eN=true:=by
 induction s with
 |nil=>rfl
 |cons c s ih =>
  cases h:eN c
  ·simp[List.takeWhile,h]
  ·simp only[List.takeWhile,h,cW,ih];rfl
theorem CC(l r:List E):E.BD (l++r)↔E.BD l/\E.BD r:=by
 induction l with
 |nil=>simp[E.BD]
 |cons e l ih=>simp[E.BD,ih,and_assoc]
theorem DA(l r:List E):E.uz (l++r)=max (E.uz l) (E.uz r):=by
 induction l with
 |nil=>simp[E.uz]
 |cons e l ih=>simp[E.uz,ih,Nat.max_assoc]
theorem xE{k:Nat}{f:List UInt8->Option (E×List UInt8)}(hf:∀s e r,f s=some (e,r)->s=fQ e++r/\e.pr/\e.dp<=k):∀(n:Nat) (s:List UInt8) (acc:List E) (e:E) (r:List UInt8),rL f n s acc=some (e,r)->E.BD acc->E.uz acc<=k ->
 ∃l,e=.list (acc++l)/\l≠[]/\32::s=en l++41::r/\E.BD l/\E.uz l<=k
 |0,s,acc,e,r,h,hp,hd=>by cases h
 |
  n+1,s,acc,e,r,h,hp,hd=>by
  simp only[rL]at h
  split at h
  ·rename_i p c r' hs
   obtain⟨h1,h2,h3⟩:=hf _ _ _ hs
   split at h
   ·rename_i hc
    have hc:c=41:=dP.mp hc
    cases h
    exact⟨[p],rfl,by simp,by simp[en,h1,hc],⟨h2,trivial⟩,by simp[E.uz];omega⟩
   ·split at h
    ·rename_i hc
     have hc:c=32:=dP.mp hc
     obtain⟨l,g1,g2,g3,g4,g5⟩:=xE hf n _ _ _ _ h ((CC _ _).mpr ⟨hp,h2,trivial⟩) (by rw[DA];simp[E.uz];omega)
     refine⟨p::l,by simpa using g1,by simp,?_,⟨h2,g4⟩,by simp only[E.uz];omega⟩
     rw[h1,hc,g3];simp[en]
    ·cases h
  ·cases h
theorem zT:∀(k:Nat) (s:List UInt8) (e:E) (r:List UInt8),rd k s=some (e,r)->s=fQ e++r/\e.pr/\e.dp<=k
 |
  0,s,e,r,h=>by
  simp only[rd]at h
  split at h
  ·cases h
  ·rename_i hs;cases h
   exact⟨(cb).symm,⟨hs,Aw s⟩,aq _⟩
 |
  k+1,s,e,r,h=>by
  simp only[rd]at h
  split at h
  ·split at h
   ·rename_i c r' _
    split at h
    ·rename_i hc
     have hc:c=40:=dP.mp hc
     obtain⟨l,g1,g2,g3,g4,g5⟩:=xE (k:=k) (fun s e r h=>zT k s e r h) _ _ _ _ _ h trivial (Nat.zero_le _)
     simp only[aM]at g1
     subst g1;subst hc
     refine⟨?_,⟨g2,g4⟩,by simp only[E.dp];omega⟩
     cases l with
     |nil=>exact absurd rfl g2
     |
      cons x l =>
      simp only[en,a7,aW,List.cons.injEq,true_and]at g3
      rw[g3];simp[fQ]
    ·cases h
   ·cases h
  ·rename_i hs;cases h
   exact⟨(cb).symm,⟨hs,Aw s⟩,by simp[E.dp]⟩
theorem xT{s:List UInt8}{e:E}(h:qf s=some e):s=fQ e/\e.pr/\e.dp<=300/\s.length<=8000:=by
 unfold qf at h
 split at h
 ·cases h
 ·rename_i hl
  split at h
  ·rename_i e' hr
   cases h
   have:=zT _ _ _ _ hr
   exact⟨by simpa using this.1,this.2.1,this.2.2,by omega⟩
  ·cases h
theorem AD{k:Nat}(h:k<10):eN (ba (48+k))=true:=by
 have:∀k:Fin 10,eN (ba (48+k.val))=true:=by decide
 exact this ⟨k,h⟩
theorem vN:∀(n k:Nat),k<n->(dd k).all eN=true
 |0,k,h=>by omega
 |
  n+1,k,h=>by
  by_cases hk:k<10
  ·rw[eD hk,cW,AD hk];rfl
  ·rw[fh hk]
   have:=vN n (k/10) (by omega)
   rw[List.all_append,this,cW,AD (Nat.mod_lt k (by omega:0<10))];rfl
theorem Hd(k:Nat):(E.atom (wl k)).pr:=⟨by simp,by have:=vN (k+1) k (by omega);simp only[wl,cW,this];decide⟩
theorem l9:∀v:Vl,v.cH.pr
 | .u=>⟨by simp,by decide⟩
 | .el k=>Hd k
 | .l v=>⟨by simp,⟨by simp,by decide⟩,l9 v,trivial⟩
 | .r v=>⟨by simp,⟨by simp,by decide⟩,l9 v,trivial⟩
 | .f v=>⟨by simp,⟨by simp,by decide⟩,l9 v,trivial⟩
 | .p a b=>⟨by simp,⟨by simp,by decide⟩,l9 a,l9 b,trivial⟩
theorem pi:∀v:Vl,v.cH.dp<v.nodes+1
 | .u=>by simp[Vl.cH,E.dp,Vl.nodes]
 | .el k=>by simp[Vl.cH,E.dp,Vl.nodes]
 | .l v=>by have:=pi v;simp only[Vl.cH,E.dp,E.uz,Vl.nodes]at *;omega
 | .r v=>by have:=pi v;simp only[Vl.cH,E.dp,E.uz,Vl.nodes]at *;omega
 | .f v=>by have:=pi v;simp only[Vl.cH,E.dp,E.uz,Vl.nodes]at *;omega
 | .p a b=>by have:=pi a;have:=pi b;simp only[Vl.cH,E.dp,E.uz,Vl.nodes]at *;omega
theorem Dk(k:Nat)(h:k<100):(dd k).length<=2:=by
 by_cases hk:k<10
 ·rw[eD hk];simp
 ·rw[fh hk,eD (by omega:k/10<10)];simp
theorem kU:∀v:Vl,v.iu 100->v.cK.length<=5*v.nodes
 | .u,_=>by simp[Vl.cK,Vl.cH,fQ,Vl.nodes]
 |
  .el k,h=>by
  have:=Dk k h
  simp only[Vl.cK,Vl.cH,fQ,Vl.nodes,aB];omega
 | .l v,h=>by have:=kU v h;simp only[Vl.cK,Vl.cH,fQ,en,Vl.nodes,aB,ax,aJ]at this |-;omega
 | .r v,h=>by have:=kU v h;simp only[Vl.cK,Vl.cH,fQ,en,Vl.nodes,aB,ax,aJ]at this |-;omega
 | .f v,h=>by have:=kU v h;simp only[Vl.cK,Vl.cH,fQ,en,Vl.nodes,aB,ax,aJ]at this |-;omega
 | .p a b,h=>by have:=kU a h.1;have:=kU b h.2;simp only[Vl.cK,Vl.cH,fQ,en,Vl.nodes,aB,ax,aJ]at *;omega
theorem F0(k:Nat):wl k≠[117]:=by simp[wl]
theorem kh:∀v:Vl,v.iu 100->fH v.cH=some v
 | .u,_=>by simp[Vl.cH,fH]
 | .el k,h=>by simp only[Vl.cH,fH,F0,if_false,uR k h]
 | .l v,h=>by simp only[Vl.cH,fH,kh v h,E.at];simp
 | .r v,h=>by simp only[Vl.cH,fH,kh v h,E.at];simp
 | .f v,h=>by simp only[Vl.cH,fH,kh v h,E.at];simp
 | .p a b,h=>by simp only[Vl.cH,fH,kh a h.1,kh b h.2,E.at];simp
theorem ql{v:Vl}(h:v.iu 100)(hn:v.nodes<=200):rM v.cK=some v:=by
 have hd:=pi v
 have hl:=kU v h
 rw[rM,F7 (l9 v) (by omega) (by show v.cK.length<=8000;omega)]
 simp only[kh v h]
 rw[if_neg (by omega)]
theorem xD{v w:Vl}(h:v.iu 100)(h':w.iu 100)(ht:v.cK=w.cK):v=w:=by
 have:=BL (l9 v) (l9 w) ht
 have a:=kh v h
 rw[this,kh w h']at a;cases a;rfl
theorem qk{s:List UInt8}{v:Vl}(h:rM s=some v):s=v.cK:=(xT (lG h).1).1
end Go.Proofs.Trees
namespace Go.Proofs.Trees
open Go Go.VL Go.RowKit
theorem bS(l:List E):(E.list l).at=[]:=rfl
def dB:Ty->Vl->Vl->Vl
 | .plus a _,.l c,v=>.l (dB a c v)
 | .plus _ b,.r c,v=>.r (dB b c v)
 | .times a _,.l (.p x y),v=>.p (dB a x v) y
 | .times _ b,.r (.p x y),v=>.p x (dB b y v)
 | .rc a,.f (.l x),v=>.f (dB a x v)
 | .rc a,.f (.r (.p x y)),v=>.f (dB a x (dB (.rc a) y v))
 |_,_,v=>v
def dM:Ty->Vl->Bool
 | .plus a _,.l c=>dM a c
 | .plus _ b,.r c=>dM b c
 | .times a _,.l (.p x _)=>dM a x
 | .times _ b,.r (.p _ y)=>dM b y
 | .rc a,.f (.l x)=>dM a x
 | .rc a,.f (.r (.p x y))=>dM a x&&dM (.rc a) y
 | .plus _ _,_=>false
 | .times _ _,_=>false
 | .rc _,_=>false
 |_,_=>true
theorem rV(c v:Vl):dB .zero c v=v:=by cases c<;>rfl
theorem u6(c v:Vl):dB .one c v=v:=by cases c<;>rfl
theorem mQ(s:List UInt8)(c v:Vl):dB (.name s) c v=v:=by cases c<;>rfl
theorem rI(u:Nat)(c v:Vl):dB (.bN u) c v=v:=by cases c<;>rfl
theorem vD{a b:Ty}{c:Vl}(h:dM (.plus a b) c=true):(∃x,c=.l x/\dM a x=true)\/∃x,c=.r x/\dM b x=true:=by
 cases c<;>simp[dM]at h<;>simp[h]
theorem sK{a b:Ty}{c:Vl}(h:dM (.times a b) c=true):(∃x y,c=.l (.p x y)/\dM a x=true)\/∃x y,c=.r (.p x y)/\dM b y=true:=by
 cases c with
 |l c=>cases c<;>simp[dM]at h<;>simp[h]
 |r c=>cases c<;>simp[dM]at h<;>exact .inr ⟨_,_,rfl,h⟩
 |_=>simp[dM]at h
theorem Bi{a:Ty}{c:Vl}(h:dM (.rc a) c=true):(∃x,c=.f (.l x)/\dM a x=true)\/∃x y,c=.f (.r (.p x y))/\dM a x=true/\dM (.rc a) y=true:=by
 cases c with
 |
  f c =>
  cases c with
  |l c=>simp[dM]at h;simp[h]
  |r c=>cases c<;>simp[dM]at h<;>exact .inr ⟨_,_,rfl,h⟩
  |_=>simp[dM]at h
 |_=>simp[dM]at h
theorem rj(t:Ty)(c v:Vl):(dB t c v).nodes<=c.nodes+v.nodes:=by
 induction t,c,v using dB.induct<;>simp only[dB,Vl.nodes]at*<;> omega
theorem rz(m:Nat)(t:Ty)(c v:Vl):c.iu m->v.iu m->(dB t c v).iu m:=by
 induction t,c,v using dB.induct with
 |case1 a b c v ih=>exact fun h h'=>ih h h'
 |case2 a b c v ih=>exact fun h h'=>ih h h'
 |case3 a b x y v ih=>exact fun h h'=>⟨ih h.1 h',h.2⟩
 |case4 a b x y v ih=>exact fun h h'=>⟨h.1,ih h.2 h'⟩
 |case5 a x v ih=>exact fun h h'=>ih h h'
 |case6 a x y v ih1 ih2=>exact fun h h'=>ih2 h.1 (ih1 h.2 h')
 |case7=>intro h h';simpa only[dB]using h'
def HL:Hl:=(.u,.u)
end Go.Proofs.Trees
namespace Go.Proofs.Trees
open Go Go.VL Go.RowKit
theorem qg(s:Nm)(a b:E):an Tryz.prog 121 [.agg [.v (.string (mk [])),(E.list [.atom s,a,b]).sp]] [] (bA (.v (.string (mk s)))):=uu (.atom s) [a,b]
theorem Dp{e:E}(h:Wf e):∀(bd l:List Nm) (a:AV),cc a bd->bd.length+l.length+e.sz<100000->an Tryz.prog 137 [.agg [.v (.string (mk e.at)),e.sp],a,.vec 0] [.vec 1 (bj l)] (cX (.vec 1) [.dead,.vec 1 (bj (kb e bd l))]):=by
 induction h with
 |
  @atom s hs =>
  intro bd l a ha hl
  simp only[E.sz]at hl
  refine yF _ _ _ _ ((a6 _).mpr trivial) ha.1 ?_
  have hll:(bj l).length=l.length:=by simp[bj]
  simp only[wo,ep,↓zq,zs,ac,zt,cX,kb]
  refine⟨fun _=>⟨fun h=>?_,fun h=>⟨fun h1=>?_,fun h1=>?_⟩⟩,fun h=>absurd h hs⟩
  ·rw[if_pos (.inl h)]
  ·rw[if_pos (.inr (.inl h1))]
  ·refine ah (zy bd a ha s (by omega)) ?_
   simp only[↓zq,zs,ac]
   refine⟨fun h2=>?_,fun h2=>ah (zy l _ (.of l) s (by omega)) ?_⟩
   ·rw[if_pos (.inr (.inr (.inl h2)))]
   ·simp only[↓zq,zs,ac]
    refine⟨fun h3=>?_,fun h3=>⟨⟨fun c hc=>(by simp at hc;rw[hc];rfl),by omega⟩,?_⟩⟩
    ·rw[if_pos (.inr (.inr (.inr h3)))]
    ·rw[Ek,if_neg]
     rintro(q|q|q|q)
     ·exact h q
     ·exact h1 q
     ·exact h2 q
     ·exact h3 q
 |
  @plus x y hx hy i1 i2 =>
  intro bd l a ha hl
  simp only[E.sz,E.jH]at hl
  have hfl:=fZ x bd l
  refine yF _ _ _ _ ((a6 _).mpr trivial) ha.1 ?_
  have hP:=P3.of (.atom [43]) x y
  simp only[wo,bS,toNat_one,bi,↓zq,zs,ac,zt,hP.1,hP.2.1,hP.2.2.1,hP.2.2.2,aQ,cX]
  refine⟨fun h=>absurd rfl h,fun _=>?_⟩
  refine ah (qg [43] x y) ?_
  simp only[↓zq,zs,ac,zt]
  refine⟨fun h=>by simp at h,fun _=>?_⟩
  repeat refine⟨by omega,?_⟩
  refine aT (i1 bd l a ha (by omega)) ?_
  simp only[↓zq,zs,ac,zt,aS,bG,Ob.es]
  repeat refine⟨by omega,?_⟩
  refine aT (i2 bd (kb x bd l) a ha (by omega)) ?_
  simp only[↓zq,zs,ac,zt,aS,bG,Ob.es]
  rw[kb,if_neg (by decide)]
 |
  @times x y hx hy i1 i2 =>
  intro bd l a ha hl
  simp only[E.sz,E.jH]at hl
  have hfl:=fZ x bd l
  refine yF _ _ _ _ ((a6 _).mpr trivial) ha.1 ?_
  have hP:=P3.of (.atom [42]) x y
  simp only[wo,bS,toNat_one,bi,↓zq,zs,ac,zt,hP.1,hP.2.1,hP.2.2.1,hP.2.2.2,aQ,cX]
  refine⟨fun h=>absurd rfl h,fun _=>?_⟩
  refine ah (qg [42] x y) ?_
  simp only[↓zq,zs,ac,zt]
  refine⟨fun h=>by simp at h,fun _=>?_⟩
  repeat refine⟨by omega,?_⟩
  refine aT (i1 bd l a ha (by omega)) ?_
  simp only[↓zq,zs,ac,zt,aS,bG,Ob.es]
  repeat refine⟨by omega,?_⟩
  refine aT (i2 bd (kb x bd l) a ha (by omega)) ?_
  simp only[↓zq,zs,ac,zt,aS,bG,Ob.es]
  rw[kb,if_neg (by decide)]
 |
  @rc n y hn hy i =>
  intro bd l a ha hl
  simp only[E.sz,E.jH]at hl
  refine yF _ _ _ _ ((a6 _).mpr trivial) ha.1 ?_
  have hP:=P3.of (.atom dX) (.atom n) y
  simp only[wo,bS,toNat_one,bi,↓zq,zs,ac,zt,hP.1,hP.2.1,hP.2.2.1,hP.2.2.2,aQ,cX]
  refine⟨fun h=>absurd rfl h,fun _=>?_⟩
  refine ah (qg dX (.atom n) y) ?_
  simp only[↓zq,zs,ac,zt]
  refine⟨fun _=>?_,fun h=>absurd rfl h⟩
  repeat refine⟨by omega,?_⟩
  refine ah (C7 bd a ha n (by omega)) ?_
  simp only[↓zq,zs,ac]
  refine aT (i (bd++[n]) l _ (.of _) (by simp;omega)) ?_
  simp only[↓zq,zs,ac,aS,bG,Ob.es]
  rw[kb,if_pos (ep _)];rfl
theorem Of(x:Nm)(u:E){e:E}(h:Wf e):an Tryz.prog 192 [.agg [.v (.string (mk e.at)),e.sp],.v (.string (mk x)),.agg [.v (.string (mk u.at)),u.sp]] [] (bA (.agg [.v (.string (mk (rH x u e).at)),(rH x u e).sp])):=by
 induction h with
 |
  @atom s hs =>
  refine C1 _ _ _ _ _ ((a6 _).mpr trivial) ((a6 _).mpr trivial) ?_
  simp only[Am,ep,↓zq,zs,ac,zt,bA,rH]
  refine⟨fun _=>⟨fun h=>?_,fun h=>?_⟩,fun h=>absurd h hs⟩
  ·rw[if_pos h]
  ·rw[if_neg h];rfl
 |
  @plus a b ha hb i1 i2 =>
  refine C1 _ _ _ _ _ ((a6 _).mpr trivial) ((a6 _).mpr trivial) ?_
  have hP:=P3.of (.atom [43]) a b
  simp only[Am,bS,toNat_one,bi,↓zq,zs,ac,zt,hP.1,hP.2.1,hP.2.2.1,hP.2.2.2,aQ]
  refine⟨fun h=>absurd rfl h,fun _=>?_⟩
  refine ah (qg [43] a b) ?_
  simp only[↓zq,zs,ac,zt]
  refine⟨fun h=>by simp at h,fun _=>?_⟩
  refine ah (qg [43] a b) ?_
  simp only[↓zq,zs,ac,zt]
  repeat refine⟨by omega,?_⟩
  refine ah i1 ?_
  simp only[↓zq,zs,ac,zt,aQ]
  repeat refine⟨by omega,?_⟩
  refine ah i2 ?_
  simp only[↓zq,zs,ac,zt,aQ]
  repeat refine⟨by omega,?_⟩
  refine ah (w8 _ _ _) ?_
  simp only[↓zq,zs,ac,zt,aQ,vx,bS]
  repeat refine⟨by omega,?_⟩
  exact⟨rfl,rfl⟩
 |
  @times a b ha hb i1 i2 =>
  refine C1 _ _ _ _ _ ((a6 _).mpr trivial) ((a6 _).mpr trivial) ?_
  have hP:=P3.of (.atom [42]) a b
  simp only[Am,bS,toNat_one,bi,↓zq,zs,ac,zt,hP.1,hP.2.1,hP.2.2.1,hP.2.2.2,aQ]
  refine⟨fun h=>absurd rfl h,fun _=>?_⟩
  refine ah (qg [42] a b) ?_
  simp only[↓zq,zs,ac,zt]
  refine⟨fun h=>by simp at h,fun _=>?_⟩
  refine ah (qg [42] a b) ?_
  simp only[↓zq,zs,ac,zt]
  repeat refine⟨by omega,?_⟩
  refine ah i1 ?_
  simp only[↓zq,zs,ac,zt,aQ]
  repeat refine⟨by omega,?_⟩
  refine ah i2 ?_
  simp only[↓zq,zs,ac,zt,aQ]
  repeat refine⟨by omega,?_⟩
  refine ah (w8 _ _ _) ?_
  simp only[↓zq,zs,ac,zt,aQ,sI,bS]
  repeat refine⟨by omega,?_⟩
  exact⟨rfl,rfl⟩
 |
  @rc n b hn hb i =>
  refine C1 _ _ _ _ _ ((a6 _).mpr trivial) ((a6 _).mpr trivial) ?_
  have hP:=P3.of (.atom dX) (.atom n) b
  simp only[Am,bS,toNat_one,bi,↓zq,zs,ac,zt,hP.1,hP.2.1,hP.2.2.1,hP.2.2.2,aQ]
  refine⟨fun h=>absurd rfl h,fun _=>?_⟩
  refine ah (qg dX (.atom n) b) ?_
  simp only[↓zq,zs,ac,zt]
  refine⟨fun _=>?_,fun h=>absurd rfl h⟩
  repeat refine⟨by omega,?_⟩
  rw[Bq]
  refine⟨fun h=>?_,fun h=>?_⟩
  ·have hh:n=x:=h
   rw[if_pos hh];exact⟨rfl,rfl⟩
  ·have hh:¬n=x:=h
   rw[if_neg hh]
   repeat refine⟨by omega,?_⟩
   refine ah i ?_
   simp only[↓zq,zs,ac,zt,aQ]
   repeat refine⟨by omega,?_⟩
   refine ah (w8 dX (.atom n) (rH x u b)) ?_
   simp only[↓zq,zs,ac,zt,aQ,bS]
   repeat refine⟨by omega,?_⟩
   exact⟨rfl,rfl⟩
theorem rp(x:Nm){e:E}(h:Wf e):mR x e<=e.dA:=by
 induction h with
 |atom hs=>simp only[mR,E.dA];split<;>omega
 |plus ha hb i1 i2=>rw[qW];simp only[E.dA,E.fJ];omega
 |times ha hb i1 i2=>rw[oO];simp only[E.dA,E.fJ];omega
 |rc hn hb i=>rw[vV];simp only[E.dA,E.fJ];split<;>omega
theorem N5(x:Nm){e:E}(h:Wf e):e.dA<1000000->an Tryz.prog 191 [.agg [.v (.string (mk e.at)),e.sp],.v (.string (mk x))] [] (bA (.v (.int .i64 (mR x e:Int)))):=by
 induction h with
 |
  @atom s hs =>
  intro hl
  refine Ca _ _ _ ((a6 _).mpr trivial) ?_
  simp only[AM,ep,↓zq,zs,ac,zt,bA,mR]
  refine⟨fun _=>⟨fun h=>?_,fun h=>?_⟩,fun h=>absurd h hs⟩
  ·rw[if_pos h];rfl
  ·rw[if_neg h];rfl
 |
  @plus a b ha hb i1 i2 =>
  intro hl
  simp only[E.dA,E.fJ]at hl
  have u1:=rp x ha
  have u2:=rp x hb
  refine Ca _ _ _ ((a6 _).mpr trivial) ?_
  have hP:=P3.of (.atom [43]) a b
  simp only[AM,bS,toNat_one,bi,↓zq,zs,ac,zt,hP.1,hP.2.1,hP.2.2.1,hP.2.2.2,aQ]
  refine⟨fun h=>absurd rfl h,fun _=>?_⟩
  refine ah (qg [43] a b) ?_
  simp only[↓zq,zs,ac,zt]
  refine⟨fun h=>by simp at h,fun _=>?_⟩
  repeat refine⟨by omega,?_⟩
  refine ah (i1 (by omega)) ?_
  simp only[↓zq,zs,ac,zt]
  repeat refine⟨by omega,?_⟩
  refine ah (i2 (by omega)) ?_
  simp only[↓zq,zs,ac,zt]
  rw[qW,wrap64 _ (by omega) (by omega)]
  exact⟨by simp,rfl⟩
 |
  @times a b ha hb i1 i2 =>
  intro hl
  simp only[E.dA,E.fJ]at hl
  have u1:=rp x ha
  have u2:=rp x hb
  refine Ca _ _ _ ((a6 _).mpr trivial) ?_
  have hP:=P3.of (.atom [42]) a b
  simp only[AM,bS,toNat_one,bi,↓zq,zs,ac,zt,hP.1,hP.2.1,hP.2.2.1,hP.2.2.2,aQ]
  refine⟨fun h=>absurd rfl h,fun _=>?_⟩
  refine ah (qg [42] a b) ?_
  simp only[↓zq,zs,ac,zt]
  refine⟨fun h=>by simp at h,fun _=>?_⟩
  repeat refine⟨by omega,?_⟩
  refine ah (i1 (by omega)) ?_
  simp only[↓zq,zs,ac,zt]
  repeat refine⟨by omega,?_⟩
  refine ah (i2 (by omega)) ?_
  simp only[↓zq,zs,ac,zt]
  rw[oO,wrap64 _ (by omega) (by omega)]
  exact⟨by simp,rfl⟩
 |
  @rc n b hn hb i =>
  intro hl
  simp only[E.dA,E.fJ]at hl
  refine Ca _ _ _ ((a6 _).mpr trivial) ?_
  have hP:=P3.of (.atom dX) (.atom n) b
  simp only[AM,bS,toNat_one,bi,↓zq,zs,ac,zt,hP.1,hP.2.1,hP.2.2.1,hP.2.2.2,aQ]
  refine⟨fun h=>absurd rfl h,fun _=>?_⟩
  refine ah (qg dX (.atom n) b) ?_
  simp only[↓zq,zs,ac,zt]
  refine⟨fun _=>?_,fun h=>absurd rfl h⟩
  repeat refine⟨by omega,?_⟩
  rw[vV]
  refine⟨fun h=>?_,fun h=>?_⟩
  ·have hh:n=x:=h
   rw[if_pos hh];exact⟨rfl,rfl⟩
  ·have hh:¬n=x:=h
   rw[if_neg hh]
   repeat refine⟨by omega,?_⟩
   refine ah (i (by omega)) ?_
   simp only[↓zq,zs,ac,zt]
   exact⟨rfl,rfl⟩
theorem OT{x:Nm}(hx:rO x){e u:E}(h:Wf e)(hu:Wf u)(hl:e.dA<=1000)(hlu:u.dA<=1000):an Tryz.prog 171 [.agg [.v (.string (mk e.at)),e.sp],.v (.string (mk x)),.agg [.v (.string (mk u.at)),u.sp]] [] (bA (.v (.bool (decide ((sub x (cP u []) (cP e [])).az<=400))))):=by
 refine Oc _ _ _ _ _ ((a6 _).mpr trivial) ((a6 _).mpr trivial) ?_
 unfold JI
 have a1:=FA e h.ok (by have:=h.sz;omega)
 have a2:=FA u hu.ok (by have:=hu.sz;omega)
 rw[dr]at a1 a2
 have hle:=rp x h
 have hpos:1<=u.dA:=by rw[hu.dA []];exact ef _
 refine ah a1 ?_
 simp only[↓zq,zs,ac,zt]
 refine ah (N5 x h (by omega)) ?_
 simp only[↓zq,zs,ac,zt]
 refine ah a2 ?_
 simp only[↓zq,zs,ac,zt]
 have e1:=dU x (cP u []) (cP e [])
 have e2:=Ck hx h []
 rw[if_neg (by simp)]at e2
 rw[e2,<-h.dA [],<-hu.dA []]at e1
 have hm:mR x e*(u.dA-1)<=1000*1000:=Nat.mul_le_mul (by omega) (by omega)
 have e3:(mR x e:Int)*((u.dA:Int)-1)=((mR x e*(u.dA-1):Nat):Int):=by
  rw[Int.natCast_mul];congr 1;omega
 have e4:mR x e*(u.dA-1)+mR x e=mR x e*u.dA:=by
  rw[Nat.mul_sub,dE]
  have:=Nat.le_mul_of_pos_right (mR x e) hpos
  omega
 rw[wrap64 ((u.dA:Int)-1) (by omega) (by omega),e3,wrap64 ((mR x e*(u.dA-1):Nat):Int) (by omega) (by omega),wrap64 _ (by omega) (by omega)]
 refine⟨?_,rfl⟩
 congr 2
 rw[cq,decide_eq_true_eq,decide_eq_true_eq]
 omega
end Go.Proofs.Trees
namespace Go.Proofs.Trees
open Go Go.VL Go.RowKit
abbrev xl:AV:=.v (.slice none 0 0)
abbrev zE:Ob:=.cells [.v (.string (mk [])),xl]
theorem Jg(s:Nm)(p a b:AV)(hp:LK.sl.has p)(F fr to:List Nm)(k:Int)(ha:cc a fr)(hb:cc b to)(hft:fr.length=to.length)(hl:fr.length<1000000):∀(i:Nat),i<=fr.length ->
 ED [a,b,.v (.int .i64 ((i:Int)-1))] [.cells [.v (.string (mk s)),p],zE,.cells [.any,.v (.int .i64 k)],.vec 1 (bj F)]
  (nv (match bI s fr i with|some u=>(2,[],[.cells [.v (.string (mk (gb to u))),xl],.cells [.any,.v (.int .i64 k)],.vec 1 (bj F)])|none=>(1,[],[.cells [.v (.string (mk s)),p],zE,.cells [.any,.v (.int .i64 k)],.vec 1 (bj F)])))
 |
  0,hi=>by
  refine Kn _ _ _ _ _ _ _ _ _ ?_
  simp only[Gb,↓zq,zs,ac,ac,hp,bp]
  exact⟨ha.1,hb.1,fun h=>by omega,fun _=>rfl⟩
 |
  i+1,hi=>by
  have hlt:i<fr.length:=by omega
  have hlt':i<to.length:=by omega
  have e1:((i+1:Nat):Int)-1=(i:Int):=by omega
  rw[e1]
  refine Kn _ _ _ _ _ _ _ _ _ ?_
  simp only[Gb,↓zq,zs,ac,zt,ac,hp,bp,ha.len,hb.len,ha.idx hlt,hb.idx hlt',bJ]
  refine⟨ha.1,hb.1,fun _=>⟨⟨ha.1,by omega,by omega⟩,by omega,fun h=>?_,fun h=>?_⟩,fun h=>by omega⟩
  ·refine⟨⟨hb.1,by omega,by omega⟩,by omega,?_⟩
   have hh:fr.getD i []=s:=h
   simp only[bI,hh,if_true,nv]
   have:gb to (fr.length-1-i)=to.getD i []:=by unfold gb;congr 1;omega
   rw[this]
  ·have hh:¬fr.getD i []=s:=h
   simp only[bI,hh,if_false]
   rw[wrap64 _ (by omega) (by omega)]
   exact Jg s p a b hp F fr to k ha hb hft hl i (by omega)
theorem Nw(a b:AV)(ha:LK.sl.has a)(hb:LK.sl.has b)(F:List Nm)(hF:F.length<100000)(t:ByteArray)(p:AV)(hp:LK.sl.has p):∀(n j:Nat),pL F n j<j+n->j+n<100000000 ->
 G2 [a,b,.v (.string (mk (tN j)))] [.cells [.any,.v (.int .i64 (j:Int))],.vec 1 (bj F),.cells [.v (.string t),p],zE] (gD 1 [a,b,.v (.string (mk (tN (pL F n j))))] [.cells [.any,.v (.int .i64 (pL F n j:Int))],.vec 1 (bj F),.cells [.v (.string t),p],zE])
 |0,j,h,_=>by simp only[pL]at h;omega
 |
  n+1,j,h,hj=>by
  refine PE _ _ _ _ _ _ _ _ _ ?_
  simp only[KZ,↓zq,zs,ac,zt,ac,hp,bp]
  refine⟨ha,hb,?_⟩
  refine ah (zy F _ (.of F) (tN j) (by omega)) ?_
  simp only[↓zq,zs,ac,zt]
  rw[pL]at h |-
  refine⟨fun hm=>?_,fun hm=>?_⟩
  ·rw[if_pos hm]at h |-
   rw[bg j (by omega)]
   refine ah (BC (j+2) (j+1) (by omega) (by omega)) ?_
   have hd:=lz (j+2) (j+1) (by omega)
   simp only[↓zq,zs,ac,zt,a7,aM]
   refine⟨by simp[cw];omega,?_⟩
   exact Nw a b ha hb F hF t p hp n (j+1) (by omega) (by omega)
  ·rw[if_neg hm]
   exact⟨rfl,rfl,rfl⟩
theorem ij(F:List Nm):∀(t:Ty) (to:List Nm) (k:Nat),k<=(gT F t to k).2/\(gT F t to k).2<=k+(F.length+1)*t.az
 | .zero,_,k=>⟨aq _,dk _ _⟩
 | .one,_,k=>⟨aq _,dk _ _⟩
 | .name _,_,k=>⟨aq _,dk _ _⟩
 | .bN _,_,k=>⟨aq _,dk _ _⟩
 |
  .plus a b,to,k=>by
  have h1:=ij F a to k
  have h2:=ij F b to (gT F a to k).2
  simp only[gT,Ty.az]
  have:(F.length+1)*(1+a.az+b.az)=(F.length+1)+(F.length+1)*a.az+(F.length+1)*b.az:=by simp only[cS,dE]
  omega
 |
  .times a b,to,k=>by
  have h1:=ij F a to k
  have h2:=ij F b to (gT F a to k).2
  simp only[gT,Ty.az]
  have:(F.length+1)*(1+a.az+b.az)=(F.length+1)+(F.length+1)*a.az+(F.length+1)*b.az:=by simp only[cS,dE]
  omega
 |
  .rc a,to,k=>by
  obtain⟨g1,g2,_,_⟩:=gx F k
  have h1:=ij F a (to++[tN (nx F k)]) (nx F k+1)
  simp only[gT,Ty.az]
  have:(F.length+1)*(2+a.az)=(F.length+1)*2+(F.length+1)*a.az:=by simp only[cS]
  omega
theorem j6(l:List Nm):(bj l).length=l.length:=by simp[bj]
theorem Q6(F:List Nm)(hF:F.length<10000){e:E}(h:Wf e):∀(fr to:List Nm) (a b:AV) (k:Nat),cc a fr->cc b to->fr.length=to.length->(∀w,w∈fr->rO w)->fr.length+e.sz<10000->k+(F.length+1)*(cP e fr).az<99000000 ->
 an Tryz.prog 143 [.agg [.v (.string (mk e.at)),e.sp],a,b,.ref 0 0] [.cells [.vec 1,.v (.int .i64 (k:Int))],.vec 1 (bj F)] (cX (.agg [.v (.string (mk (gT F (cP e fr) to k).1.at)),(gT F (cP e fr) to k).1.sp]) [.cells [.vec 1,.v (.int .i64 ((gT F (cP e fr) to k).2:Int))],.vec 1 (bj F)]):=by
 induction h with
 |
  @atom s hs =>
  intro fr to a b k ha hb hft hfr hl hk
  simp only[E.sz]at hl
  refine Da _ _ _ _ _ _ ((a6 _).mpr trivial) ha.1 hb.1 ?_
  have hz:∀c,(c=[48]\/c=[49])->bI c fr fr.length=none:=fun c hc=>(fg c fr).2 fun hm=>by
   obtain⟨h1,h2,h3⟩:=hfr c hm
   rcases hc with rfl|rfl
   ·exact h2 rfl
   ·exact h3 rfl
  have hq:gT F (cP (.atom s) fr) to k=(match bI s fr fr.length with|some u=>.atom (gb to u)|none=>.atom s,k):=by
   simp only[cP]
   by_cases h0:s=[48]
   ·rw[if_pos h0,hz s (.inl h0),h0];rfl
   ·rw[if_neg h0]
    by_cases h1:s=[49]
    ·rw[if_pos h1,hz s (.inr h1),h1];rfl
    ·rw[if_neg h1]
     cases bI s fr fr.length<;>rfl
  simp only[AL,ep,↓zq,zs,ac,zt]
  refine⟨fun _=>⟨ha.1,?_⟩,fun h=>absurd h hs⟩
  rw[ha.len,wrap64 _ (by omega) (by omega)]
  refine eX (Jg s _ a b ((a6 _).mpr trivial) F fr to (k:Int) ha hb hft (by omega) fr.length (aq _)) (fun ys o e=>?_) (fun ys o e=>?_)
  ·rw[hq]
   cases q:bI s fr fr.length<;>rw[q]at e<;>cases e
   simp only[↓zq,zs,ac,zt,ac,bn,bp,a6]
   exact⟨rfl,rfl⟩
  ·rw[hq]
   cases q:bI s fr fr.length<;>rw[q]at e<;>cases e
   simp only[↓zq,zs,ac,zt,ac,bn,bp]
   exact⟨rfl,rfl⟩
 |
  @plus x y hx hy i1 i2 =>
  intro fr to a b k ha hb hft hfr hl hk
  simp only[E.sz,E.jH]at hl
  rw[dI]at hk |-
  simp only[Ty.az]at hk
  have hm:(F.length+1)*(1+(cP x fr).az+(cP y fr).az)=(F.length+1)+(F.length+1)*(cP x fr).az+(F.length+1)*(cP y fr).az:=by simp only[cS,dE]
  have hc:=ij F (cP x fr) to k
  refine Da _ _ _ _ _ _ ((a6 _).mpr trivial) ha.1 hb.1 ?_
  have hP:=P3.of (.atom [43]) x y
  simp only[AL,bS,toNat_one,bi,↓zq,zs,ac,zt,hP.1,hP.2.1,hP.2.2.1,hP.2.2.2,aQ]
  refine⟨fun h=>absurd rfl h,fun _=>?_⟩
  refine ah (qg [43] x y) ?_
  simp only[↓zq,zs,ac,zt]
  refine⟨fun h=>by simp at h,fun _=>?_⟩
  repeat refine⟨by omega,?_⟩
  refine aT (i1 fr to a b k ha hb hft hfr (by omega) (by omega)) ?_
  simp only[↓zq,zs,ac,zt,bn,aQ,aS,bG,Ob.es]
  repeat refine⟨by omega,?_⟩
  refine ah (qg [43] x y) ?_
  simp only[↓zq,zs,ac,zt]
  repeat refine⟨by omega,?_⟩
  refine aT (i2 fr to a b _ ha hb hft hfr (by omega) (by omega)) ?_
  simp only[↓zq,zs,ac,zt,bn,aQ,aS,bG,Ob.es]
  repeat refine⟨by omega,?_⟩
  refine ah (w8 _ _ _) ?_
  simp only[↓zq,zs,ac,zt,aQ,bS]
  repeat refine⟨by omega,?_⟩
  exact⟨rfl,rfl⟩
 |
  @times x y hx hy i1 i2 =>
  intro fr to a b k ha hb hft hfr hl hk
  simp only[E.sz,E.jH]at hl
  rw[dj]at hk |-
  simp only[Ty.az]at hk
  have hm:(F.length+1)*(1+(cP x fr).az+(cP y fr).az)=(F.length+1)+(F.length+1)*(cP x fr).az+(F.length+1)*(cP y fr).az:=by simp only[cS,dE]
  have hc:=ij F (cP x fr) to k
  refine Da _ _ _ _ _ _ ((a6 _).mpr trivial) ha.1 hb.1 ?_
  have hP:=P3.of (.atom [42]) x y
  simp only[AL,bS,toNat_one,bi,↓zq,zs,ac,zt,hP.1,hP.2.1,hP.2.2.1,hP.2.2.2,aQ]
  refine⟨fun h=>absurd rfl h,fun _=>?_⟩
  refine ah (qg [42] x y) ?_
  simp only[↓zq,zs,ac,zt]
  refine⟨fun h=>by simp at h,fun _=>?_⟩
  repeat refine⟨by omega,?_⟩
  refine aT (i1 fr to a b k ha hb hft hfr (by omega) (by omega)) ?_
  simp only[↓zq,zs,ac,zt,bn,aQ,aS,bG,Ob.es]
  repeat refine⟨by omega,?_⟩
  refine ah (qg [42] x y) ?_
  simp only[↓zq,zs,ac,zt]
  repeat refine⟨by omega,?_⟩
  refine aT (i2 fr to a b _ ha hb hft hfr (by omega) (by omega)) ?_
  simp only[↓zq,zs,ac,zt,bn,aQ,aS,bG,Ob.es]
  repeat refine⟨by omega,?_⟩
  refine ah (w8 _ _ _) ?_
  simp only[↓zq,zs,ac,zt,aQ,bS]
  repeat refine⟨by omega,?_⟩
  exact⟨rfl,rfl⟩
 |
  @rc n y hn hy i =>
  intro fr to a b k ha hb hft hfr hl hk
  simp only[E.sz,E.jH]at hl
  rw[eS]at hk |-
  simp only[Ty.az,ep]at hk
  have hm:(F.length+1)*(2+(cP y (fr++[n])).az)=(F.length+1)*2+(F.length+1)*(cP y (fr++[n])).az:=by simp only[cS]
  have hc:=ij F (cP y (fr++[n])) (to++[tN (nx F k)]) (nx F k+1)
  obtain⟨g1,g2,_,_⟩:=gx F k
  refine Da _ _ _ _ _ _ ((a6 _).mpr trivial) ha.1 hb.1 ?_
  have hP:=P3.of (.atom dX) (.atom n) y
  simp only[AL,bS,toNat_one,bi,↓zq,zs,ac,zt,hP.1,hP.2.1,hP.2.2.1,hP.2.2.2,aQ]
  refine⟨fun h=>absurd rfl h,fun _=>?_⟩
  refine ah (qg dX (.atom n) y) ?_
  simp only[↓zq,zs,ac,zt]
  refine⟨fun _=>?_,fun h=>absurd rfl h⟩
  refine ah (BC (k+1) k (by omega) (by omega)) ?_
  have hd:=lz (k+1) k (by omega)
  simp only[↓zq,zs,ac,zt,a7,aM]
  refine⟨by simp[cw];omega,?_⟩
  refine cr (Nw a b ha.1 hb.1 F (by omega) (mk []) _ ((a6 _).mpr trivial) (F.length+1) k (by show nx F k<_;omega) (by omega)) ?_
  simp only[↓zq,zs,ac,zt,ac,bn,bp,a6,ha.1,hb.1,hP.1,hP.2.1,hP.2.2.1,hP.2.2.2,toNat_one,bi,aQ]
  repeat refine⟨by omega,?_⟩
  have hnx:pL F (F.length+1) k=nx F k:=rfl
  rw[hnx]
  refine ah (C7 fr a ha n (by omega)) ?_
  simp only[↓zq,zs,ac,zt]
  refine ah (C7 to b hb (tN (nx F k)) (by omega)) ?_
  simp only[↓zq,zs,ac,zt]
  rw[bg (nx F k) (by omega)]
  have hmk:=w8 dX (.atom (tN (nx F k))) (gT F (cP y (fr++[n])) (to++[tN (nx F k)]) (nx F k+1)).1
  simp only[ep]at hmk
  refine aT (i (fr++[n]) (to++[tN (nx F k)]) _ _ (nx F k+1) (.of _) (.of _) (by simp[hft]) (fun w hw=>by
   rcases aI.1 hw with hw|hw
   ·exact hfr w hw
   ·simp only[aP]at hw;rw[hw];exact hn) (by simp;omega) (by omega)) ?_
  simp only[↓zq,zs,ac,zt,bn,aQ,aS,bG,Ob.es]
  repeat refine⟨by omega,?_⟩
  refine ah hmk ?_
  simp only[↓zq,zs,ac,zt,aQ,bS]
  repeat refine⟨by omega,?_⟩
  exact⟨rfl,rfl⟩
theorem wE(l r:List Nm):bj (l++r)=bj l++bj r:=by simp[bj]
def rh(os:List E):List Nm:=os.flatMap fun o=>kb o [] []
theorem vC{os:List E}{i:Nat}(h:i<os.length):(E.bm os).getD i []=[.v (.string (mk (os[i]).at)),(os[i]).sp]:=by
 have:∀(os:List E) (i:Nat) (h:i<os.length),(E.bm os).getD i []=(os[i]).ii:=by
  intro os
  induction os with
  |nil=>intro i h;simp at h
  |
   cons o os ih =>
   intro i h
   cases i with
   |zero=>simp[E.bm]
   |succ i=>simpa[E.bm]using ih i (by simpa using h)
 rw[this os i h,fB]
theorem zr(os:List E){i:Nat}(h:i<os.length):rh (os.drop i)=kb (os[i]) [] []++rh (os.drop (i+1)):=by
 unfold rh;rw[aK h,List.flatMap_cons]
end Go.Proofs.Trees
