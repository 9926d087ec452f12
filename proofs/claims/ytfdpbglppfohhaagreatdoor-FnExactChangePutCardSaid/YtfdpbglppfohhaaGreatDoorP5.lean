/-
  Part of a proof: Go functions read by values, trees of functions, their contracts.
-/
import Derived.Test.YtfdpbglppfohhaaGreatDoorP4
set_option linter.unusedVariables false
set_option linter.unusedSimpArgs false
open And renaming intro→aE
open Bool renaming and_eq_true→ap,eq_iff_iff→ct,or_eq_false_iff→cr,or_eq_true→bw,true_and→bO
open Int renaming cast_ofNat_Int→dc,ofNat_eq_natCast→cQ,toNat→bD,toNat_natCast→cf
open List renaming all_cons→cW,any_eq_true→ci,append_assoc→ba,append_nil→cL,cons_append→a8,drop_eq_getElem_cons→aL,drop_eq_nil_of_le→bL,drop_zero→a6,eq_nil_of_length_eq_zero→bV,getD_cons_zero→bp,getD_eq_getElem?_getD→aa,getElem?_eq_getElem→bg,getElem_mem→bA,headD_cons→aU,length_append→ax,length_cons→aB,length_drop→cm,length_nil→aJ,map_cons→bG,mem_append→aI,mem_append_left→ay,mem_cons→aF,mem_cons_of_mem→ak,mem_cons_self→aj,mem_map→bS,mem_singleton→aN,nil_append→aO,tail_cons→bE,takeWhile_append_dropWhile→bZ
open Nat renaming beq→aG,le_add_right→dj,le_refl→aq,lt_of_lt_of_le→db,mul_add→cR,mul_one→dC,zero_add→aV
open Option renaming bind_eq_some_iff→bm,isSome_iff_exists→bK,isSome_none→aT,map_some→co
open UInt8 renaming ofNat→bi,toNat_inj→dN
namespace Go.Proofs.Trees
open Go Go.VL
def cP:E->List (List UInt8)->Option Ty
 | .atom s,ar=>if s=[48]then some .zero else if s=[49]then some .one else if gO s=true then some (.name s)else if cZ s=true then(match bH s ar ar.length with|some u=>some (.bN u)|none=>some (.name s))else none
 |
  .list [x,a,b],ar =>
  if x.at=[43]then(match cP a ar,cP b ar with|some t,some u=>some (.plus t u)|_,_=>none)
  else if x.at=[42]then(match cP a ar,cP b ar with|some t,some u=>some (.times t u)|_,_=>none)
  else if x.at=[114,101,99]then(if cZ a.at=true then(match cP b (ar++[a.at])with|some t=>some (.rc t)|none=>none)else none)
  else none
 | .list _,_=>none
def bT(l:List (List UInt8)):List (List AV):=l.map fun s=>[.v (.string (mk s))]
def cI(a:AV)(l:List (List UInt8)):Prop:=LK.sl.has a/\a.aS=bT l
theorem cI.len{a:AV}{l:List (List UInt8)}(h:cI a l):a.aS.length=l.length:=by rw[h.2];simp[bT]
theorem cI.idx{a:AV}{l:List (List UInt8)}(h:cI a l){i:Nat}(hi:i<l.length):a.aS.getD i []=[.v (.string (mk (l.getD i [])))]:=by
 rw[h.2];simp[bT,aa,hi]
theorem cI.of(l:List (List UInt8)):cI (.sl (bT l)) l:=⟨(cc _).mpr trivial,rfl⟩
theorem cI.nil:cI (.v (.slice none 0 0)) []:=⟨(bb).mpr trivial,rfl⟩
theorem wP(e:E)(w:List UInt8):an Tryz.prog 162 [e.cu,.v (.string (mk w)),.v (.int .i64 3)] [] (bB (.v (.bool (match e with| .list [x,_,_]=>x.at==w|_=>false)))):=by
 refine KH _ _ _ ((cT e).mpr trivial) ?_
 cases e with
 |atom s=>simp only[AQ,E.cu,↓zq,zs,ac,zt,bB];exact⟨by omega,fun h=>by omega,fun _=>trivial⟩
 |
  list l =>
  simp only[AQ,E.cu,↓zq,zs,ac,zt,bB,qs]
  match l with
  |[]=>exact⟨by simp,fun h=>by simp at h,fun _=>rfl⟩
  |[_]=>exact⟨by simp,fun h=>by simp at h,fun _=>rfl⟩
  |[_,_]=>exact⟨by simp,fun h=>by simp at h,fun _=>rfl⟩
  |
   [x,y,z] =>
   refine⟨by simp,fun _=>?_,fun h=>by simp at h⟩
   cases x<;>simp[E.lR,E.cu,bY,oU,jw,dY,sV,toList_mk,E.at]
  |_::_::_::_::l=>exact⟨by simp,fun h=>by simp at h;omega,fun _=>rfl⟩
theorem MR(e:E)(a:AV)(ar:List (List UInt8))(ha:cI a ar)(hl:ar.length<1000000):∀(i:Nat),i<=ar.length->Gq [e.cu,a,.v (.int .i64 ((i:Int)-1))] []
 (ph (match bH e.at ar i with|some u=>(2,[],[.cells [.v (.int .u8 98),.v (.string (mk [])),.v (.int .i64 (u:Int)),.v (.pointer none),.v (.pointer none)]])|none=>(1,[e.cu],[])))
 |
  0,hi=>by
  refine Hy _ _ _ ?_
  simp only[Gp,↓zq,zs,ac,cT]
  exact⟨ha.1,fun h=>by omega,fun _=>rfl⟩
 |
  i+1,hi=>by
  have hlt:i<ar.length:=by omega
  have e1:((i+1:Nat):Int)-1=(i:Int):=by omega
  rw[e1]
  refine Hy _ _ _ ?_
  have hd:e.cu.deref.headD .any=.v (.string (mk e.at)):=by cases e<;>rfl
  have hdl:1<=e.cu.deref.length:=by cases e<;>simp[E.cu,jw]
  simp only[Gp,↓zq,zs,ac,zt,cT,dZ,ha.len,ha.idx hlt,hd,rC]
  refine⟨ha.1,fun _=>⟨⟨ha.1,by omega,by omega⟩,by omega,hdl,fun h=>⟨ha.1,?_⟩,fun h=>?_⟩,fun h=>by omega⟩
  ·simp only[bH,h,if_true,ph]
   rw[wrap64 ((ar.length:Int)-1) (by omega) (by omega),wrap64 _ (by omega) (by omega)]
   have:(ar.length:Int)-1-(i:Int)=((ar.length-1-i:Nat):Int):=by omega
   rw[this]
  ·simp only[bH,h,if_false]
   rw[wrap64 _ (by omega) (by omega)]
   exact MR e a ar ha hl i (by omega)
end Go.Proofs.Trees
namespace Go.Proofs.Trees
open Go Go.VL
theorem nl(e:E):e.cu.deref.headD .any=.v (.string (mk e.at)):=by cases e<;>rfl
theorem lA(e:E):1<=e.cu.deref.length:=by cases e<;>simp[E.cu,jw]
theorem toNat_one:bD 1=1:=rfl
theorem bj:bD 2=2:=rfl
theorem wm{ar:List (List UInt8)}(s:List UInt8):bT ar++[[.v (.string (mk s))]]=bT (ar++[s]):=by simp[bT]
theorem j9(ar:List (List UInt8)):cw 1 (bT ar):=fun c hc=>by
 obtain⟨s,_,rfl⟩:=bS.1 hc;rfl
theorem kS{x a b:E}(ar:List (List UInt8))(hx:x.at=[43]):cP (.list [x,a,b]) ar=match cP a ar,cP b ar with|some t,some u=>some (.plus t u)|_,_=>none:=by rw[cP,if_pos hx]<;>cases cP a ar<;>cases cP b ar<;>rfl
theorem jC{x a b:E}(ar:List (List UInt8))(hx:x.at=[42]):cP (.list [x,a,b]) ar=match cP a ar,cP b ar with|some t,some u=>some (.times t u)|_,_=>none:=by rw[cP,if_neg (by rw[hx];decide),if_pos hx]<;>cases cP a ar<;>cases cP b ar<;>rfl
theorem lW{x a b:E}(ar:List (List UInt8))(hx:x.at=[114,101,99]):cP (.list [x,a,b]) ar=if cZ a.at=true then(match cP b (ar++[a.at])with|some t=>some (.rc t)|none=>none)else none:=by rw[cP,if_neg (by rw[hx];decide),if_neg (by rw[hx];decide),if_pos hx]<;>cases cP b (ar++[a.at])<;>rfl
theorem iS{x a b:E}(ar:List (List UInt8))(h1:x.at≠[43])(h2:x.at≠[42])(h3:x.at≠[114,101,99]):cP (.list [x,a,b]) ar=none:=by rw[cP,if_neg h1,if_neg h2,if_neg h3]
theorem Cv:∀(e:E) (ar:List (List UInt8)) (a:AV),e.ok->cI a ar->ar.length+e.sz<100000->an Tryz.prog 144 [e.cu,a] [] (bB (gZ (cP e ar)))
 |
  .atom s,ar,a,hok,ha,hl=>by
  simp only[E.sz]at hl
  refine J7 _ _ ((cT _).mpr trivial) ha.1 ?_
  have hd:=nl (.atom s)
  have hlen:=lA (.atom s)
  simp only[E.at]at hd
  simp only[EL,↓zq,zs,ac,zt,bB,cT,dZ,hd,cP]
  refine⟨hlen,fun h=>⟨hlen,?_,?_⟩,fun h=>⟨hlen,fun h1=>⟨hlen,?_,?_⟩,fun h1=>⟨hlen,?_⟩⟩⟩
  ·rw[h];decide
  ·rw[if_pos h,h];rfl
  ·rw[h1];decide
  ·rw[if_neg h,if_pos h1,h1];rfl
  ·rw[if_neg h,if_neg h1]
   refine ah (Ko s) ?_
   simp only[↓zq,zs,ac]
   refine⟨fun hp=>⟨hlen,?_⟩,fun hp=>⟨hlen,?_⟩⟩
   ·rw[if_pos hp];rfl
   ·rw[if_neg (by rw[hp];simp)]
    refine ah (Cm s) ?_
    simp only[↓zq,zs,ac,ha.len]
    refine⟨fun hq=>⟨ha.1,?_⟩,fun hq=>?_⟩
    ·rw[if_pos hq,wrap64 _ (by omega) (by omega)]
     refine fR (MR (.atom s) a ar ha (by omega) ar.length (by omega)) (fun ys o e=>?_) (fun ys o e=>?_)
     ·simp only[E.at]at e
      cases hq2:bH s ar ar.length<;>rw[hq2]at e<;>cases e
      simp only[↓zq,zs,ac,zt,cT,dZ,hd]
      exact⟨hlen,rfl⟩
     ·simp only[E.at]at e
      cases hq2:bH s ar ar.length<;>rw[hq2]at e<;>cases e
      simp only[↓zq,zs,ac,zt,LK.has]
      simp[gZ,Ty.av,ac,LK.has]
    ·rw[if_neg (by rw[hq];simp)]
     refine ah (wP (.atom s) [43]) ?_
     simp only[↓zq,zs,ac]
     refine⟨fun h=>(by simp at h),fun _=>?_⟩
     refine ah (wP (.atom s) [42]) ?_
     simp only[↓zq,zs,ac]
     refine⟨fun h=>(by simp at h),fun _=>?_⟩
     refine ah (wP (.atom s) [114,101,99]) ?_
     simp only[↓zq,zs,ac]
     refine⟨fun h=>(by simp at h),fun _=>?_⟩
     trivial
 |
  .list l,ar,a,hok,ha,hl=>by
  simp only[E.sz]at hl
  refine J7 _ _ ((cT _).mpr trivial) ha.1 ?_
  have hd:=nl (.list l)
  have hlen:=lA (.list l)
  simp only[E.at]at hd
  have hp:gO []=false:=rfl
  have hq:cZ []=false:=rfl
  simp only[EL,↓zq,zs,ac,zt,bB,cT,dZ,hd]
  refine⟨hlen,fun h=>(by simp at h),fun h=>⟨hlen,fun h1=>(by simp at h1),fun h1=>⟨hlen,?_⟩⟩⟩
  refine ah (Ko []) ?_
  simp only[↓zq,zs,ac,hp]
  refine⟨fun h=>(by simp at h),fun _=>⟨hlen,?_⟩⟩
  refine ah (Cm []) ?_
  simp only[↓zq,zs,ac,hq]
  refine⟨fun h=>(by simp at h),fun _=>?_⟩
  refine ah (wP (.list l) [43]) ?_
  match l,hok,hl with
  |
   [x,y,z],hok,hl =>
   simp only[E.jM]at hl
   obtain⟨ok1,ok2,ok3,_⟩:=hok
   have iy:=Cv y ar a ok2 ha (by omega)
   have iz:=Cv z ar a ok3 ha (by omega)
   have hds:((E.list [x,y,z]).cu.deref.drop 1).headD .any=.sl [[x.cu],[y.cu],[z.cu]]:=rfl
   have hdl:1<=((E.list [x,y,z]).cu.deref.drop 1).length:=by simp[E.cu,jw]
   have hxd:=nl x
   have hxl:=lA x
   have hyd:=nl y
   have hyl:=lA y
   have bin:∀(c:UInt8) (mkT:Ty->Ty->Ty),(∀t u:Ty,(mkT t u).av=.ptr [.v (.int .u8 (c.toNat:Int)),.v (.string (mk [])),.v (.int .i64 0),t.av,u.av])->x.at=[c]->bt (mk x.at) 0=(c.toNat:Int):=fun c _ _ hx=>by
    have:=lK x.at 0 (by rw[hx];simp)
    simp only[cQ,dc]at this
    rw[this,hx];rfl
   simp only[↓zq,zs,ac,zt,hds,hdl,cT,dZ,toNat_one,bj,hxd,hyd,rC]
   refine⟨fun hx=>?_,fun hx=>?_⟩
   ·refine⟨by omega,by omega,?_⟩
    refine ah iy ?_
    simp only[↓zq,zs,ac,ic]
    refine⟨by omega,by omega,?_⟩
    refine ah iz ?_
    have hb:=bin 43 Ty.plus (fun _ _=>rfl) hx
    rw[kS ar hx]
    simp only[↓zq,zs,ac,zt,ic]
    cases h1:cP y ar with
    |none=>simp[gZ,jy]
    |
     some t =>
     cases h2:cP z ar with
     |none=>simp[gZ,jy,fD]
     |
      some u =>
      simp only[gZ,fD,hb]
      refine⟨fun h=>(by cases h),fun _=>⟨fun h=>(by cases h),fun _=>⟨by omega,by omega,hxl,⟨by omega,by rw[hx];simp⟩,rfl⟩⟩⟩
   ·refine ah (wP (.list [x,y,z]) [42]) ?_
    simp only[↓zq,zs,ac,hds,hdl,cT,dZ,toNat_one,bj,hxd,hyd,rC]
    refine⟨fun hx2=>?_,fun hx2=>?_⟩
    ·refine⟨by omega,by omega,?_⟩
     refine ah iy ?_
     simp only[↓zq,zs,ac,ic]
     refine⟨by omega,by omega,?_⟩
     refine ah iz ?_
     have hb:=bin 42 Ty.times (fun _ _=>rfl) hx2
     rw[jC ar hx2]
     simp only[↓zq,zs,ac,zt,ic]
     cases h1:cP y ar with
     |none=>simp[gZ,jy]
     |
      some t =>
      cases h2:cP z ar with
      |none=>simp[gZ,jy,fD]
      |
       some u =>
       simp only[gZ,fD,hb]
       refine⟨fun h=>(by cases h),fun _=>⟨fun h=>(by cases h),fun _=>⟨by omega,by omega,hxl,⟨by omega,by rw[hx2];simp⟩,rfl⟩⟩⟩
    ·refine ah (wP (.list [x,y,z]) [114,101,99]) ?_
     simp only[↓zq,zs,ac,zt,hds,hdl,cT,dZ,toNat_one,bj,hxd,hyd,rC]
     refine⟨fun hx3=>⟨by omega,by omega,hyl,?_⟩,fun hx3=>?_⟩
     ·refine ah (Cm y.at) ?_
      rw[lW ar hx3]
      simp only[↓zq,zs,ac]
      have hal:cw 1 a.aS:=by rw[ha.2];exact j9 ar
      have hal1:cw 1 [[AV.v (.string (mk y.at))]]:=fun c hc=>by simp at hc;rw[hc];rfl
      refine⟨fun hlo=>⟨by omega,by omega,⟨ha.1,hal,by rw[ha.len];omega⟩,by omega,by omega,hyl,⟨hal1,by rw[aO,ha.len];omega⟩,?_⟩,fun hlo=>?_⟩
      ·rw[aO,ha.2,wm,if_pos hlo]
       refine ah (Cv z (ar++[y.at]) _ ok3 (.of _) (by simp;omega)) ?_
       simp only[↓zq,zs,ac,ic]
       cases h2:cP z (ar++[y.at])with
       |none=>simp[gZ,jy]
       |
        some u =>
        simp only[gZ,fD]
        refine⟨fun h=>(by cases h),fun _=>rfl⟩
      ·rw[if_neg (by rw[hlo];simp)];rfl
     ·rw[iS ar hx hx2 hx3];rfl
  |
   [],_,_ =>
   simp only[↓zq,zs,ac]
   refine⟨fun h=>(by cases h),fun _=>?_⟩
   refine ah (wP (.list []) [42]) ?_
   simp only[↓zq,zs,ac]
   refine⟨fun h=>(by cases h),fun _=>?_⟩
   refine ah (wP (.list []) [114,101,99]) ?_
   simp only[↓zq,zs,ac]
   refine⟨fun h=>(by cases h),fun _=>?_⟩
   rfl
  |
   [x1],_,_ =>
   simp only[↓zq,zs,ac]
   refine⟨fun h=>(by cases h),fun _=>?_⟩
   refine ah (wP (.list [x1]) [42]) ?_
   simp only[↓zq,zs,ac]
   refine⟨fun h=>(by cases h),fun _=>?_⟩
   refine ah (wP (.list [x1]) [114,101,99]) ?_
   simp only[↓zq,zs,ac]
   refine⟨fun h=>(by cases h),fun _=>?_⟩
   rfl
  |
   [x1,x2],_,_ =>
   simp only[↓zq,zs,ac]
   refine⟨fun h=>(by cases h),fun _=>?_⟩
   refine ah (wP (.list [x1,x2]) [42]) ?_
   simp only[↓zq,zs,ac]
   refine⟨fun h=>(by cases h),fun _=>?_⟩
   refine ah (wP (.list [x1,x2]) [114,101,99]) ?_
   simp only[↓zq,zs,ac]
   refine⟨fun h=>(by cases h),fun _=>?_⟩
   rfl
  |
   x1::x2::x3::x4::l,_,_ =>
   simp only[↓zq,zs,ac]
   refine⟨fun h=>(by cases h),fun _=>?_⟩
   refine ah (wP (.list (x1::x2::x3::x4::l)) [42]) ?_
   simp only[↓zq,zs,ac]
   refine⟨fun h=>(by cases h),fun _=>?_⟩
   refine ah (wP (.list (x1::x2::x3::x4::l)) [114,101,99]) ?_
   simp only[↓zq,zs,ac]
   refine⟨fun h=>(by cases h),fun _=>?_⟩
   rfl
end Go.Proofs.Trees
namespace Go.Proofs.Trees
open Go Go.VL
def dh(v:AV)(obs:List Ob):AV->List Ob->Prop:=fun r o=>r=v/\o=obs
theorem aX{P:Program}{n:Nat}{Q:Nat->List AV->List Ob->Prop}{f:Nat}{xs:List AV}{ins:List Ob}{k:AV->List Ob->Tree}{v:AV}{obs:List Ob}(h:an P f xs ins (dh v obs))(hk:eK P n (k v obs) Q):eK P n (.call f xs ins k) Q :=
 ⟨dh v obs,h,⟨v,obs,rfl,rfl⟩,fun r o ⟨h1,h2⟩=>by rw[h1,h2];exact hk⟩
def Ty.az:Ty->Nat
 | .plus a b=>1+a.az+b.az
 | .times a b=>1+a.az+b.az
 | .rc a=>2+a.az
 |_=>1
theorem Dz:∀(t:Ty),t.az<1000000->an Tryz.prog 145 [t.av] [] (bB (.v (.int .i64 (t.az:Int))))
 | .zero,h=>by refine vJ _ ((aC _).mpr trivial) ?_;simp[Du,Ty.av,↓zq,zs,ac,bB,Ty.az]
 | .one,h=>by refine vJ _ ((aC _).mpr trivial) ?_;simp[Du,Ty.av,↓zq,zs,ac,bB,Ty.az]
 | .name s,h=>by refine vJ _ ((aC _).mpr trivial) ?_;simp[Du,Ty.av,↓zq,zs,ac,bB,Ty.az]
 | .bN u,h=>by refine vJ _ ((aC _).mpr trivial) ?_;simp[Du,Ty.av,↓zq,zs,ac,bB,Ty.az]
 |
  .plus a b,h=>by
  simp only[Ty.az]at h
  refine vJ _ ((aC _).mpr trivial) ?_
  simp only[Du,Ty.av,↓zq,zs,ac,aC]
  refine⟨by omega,fun _=>⟨by omega,?_⟩,fun h=>absurd rfl h⟩
  refine ah (Dz a (by omega)) ?_
  simp only[↓zq,zs,ac,aC]
  refine⟨by omega,?_⟩
  refine ah (Dz b (by omega)) ?_
  simp only[↓zq,zs,ac,bB,Ty.az]
  rw[wrap64 (1+(a.az:Int)) (by omega) (by omega),wrap64 _ (by omega) (by omega)]
  congr 2
 |
  .times a b,h=>by
  simp only[Ty.az]at h
  refine vJ _ ((aC _).mpr trivial) ?_
  simp only[Du,Ty.av,↓zq,zs,ac,aC]
  refine⟨by omega,fun h=>by omega,fun _=>⟨fun _=>⟨by omega,?_⟩,fun h=>absurd rfl h⟩⟩
  refine ah (Dz a (by omega)) ?_
  simp only[↓zq,zs,ac,aC]
  refine⟨by omega,?_⟩
  refine ah (Dz b (by omega)) ?_
  simp only[↓zq,zs,ac,bB,Ty.az]
  rw[wrap64 (1+(a.az:Int)) (by omega) (by omega),wrap64 _ (by omega) (by omega)]
  congr 2
 |
  .rc a,h=>by
  simp only[Ty.az]at h
  refine vJ _ ((aC _).mpr trivial) ?_
  simp only[Du,Ty.av,↓zq,zs,ac,aC]
  refine⟨by omega,fun h=>by omega,fun _=>⟨fun h=>by omega,fun _=>⟨fun _=>⟨by omega,?_⟩,fun h=>absurd rfl h⟩⟩⟩
  refine ah (Dz a (by omega)) ?_
  simp only[↓zq,zs,ac,bB,Ty.az]
  rw[wrap64 _ (by omega) (by omega)]
  congr 2
theorem iH:∀(e:E) (ar:List (List UInt8)) (t:Ty),cP e ar=some t->t.az<=e.sz
 |
  .atom s,ar,t,h=>by
  simp only[cP]at h
  simp only[E.sz]
  split at h
  ·cases h;simp[Ty.az]
  ·split at h
   ·cases h;simp[Ty.az]
   ·split at h
    ·cases h;simp[Ty.az]
    ·split at h
     ·split at h<;>cases h<;>simp[Ty.az]
     ·cases h
 |
  .list [x,a,b],ar,t,h=>by
  have hs:∀e:E,1<=e.sz:=fun e=>by cases e<;>simp[E.sz];try omega
  have hx:=hs x
  have ha:=hs a
  simp only[E.sz,E.jM]
  by_cases h1:x.at=[43]
  ·rw[kS ar h1]at h
   split at h
   ·rename_i t1 t2 e1 e2
    cases h
    have:=iH a ar t1 e1
    have:=iH b ar t2 e2
    simp only[Ty.az];omega
   ·cases h
  ·by_cases h2:x.at=[42]
   ·rw[jC ar h2]at h
    split at h
    ·rename_i t1 t2 e1 e2
     cases h
     have:=iH a ar t1 e1
     have:=iH b ar t2 e2
     simp only[Ty.az];omega
    ·cases h
   ·by_cases h3:x.at=[114,101,99]
    ·rw[lW ar h3]at h
     split at h
     ·split at h
      ·rename_i t1 e1
       cases h
       have:=iH b _ t1 e1
       simp only[Ty.az];omega
      ·cases h
     ·cases h
    ·rw[iS ar h1 h2 h3]at h;cases h
 | .list [],_,_,h=>by cases h
 | .list [_],_,_,h=>by cases h
 | .list [_,_],_,_,h=>by cases h
 | .list (_::_::_::_::_),_,_,h=>by cases h
def p9(s:List UInt8):Option Ty:=match qk s with
 |none=>none
 |
  some e=>match cP e []with
  |none=>none
  |some t=>if t.az>400 then none else some t
theorem E1(s:List UInt8):an Tryz.prog 108 [.v (.string (mk s))] [] (bB (gZ (p9 s))):=by
 refine Qg _ ?_
 unfold K2
 refine ah (Mz s) ?_
 unfold p9
 cases he:qk s with
 |none=>simp only[s3,↓zq,zs,ac,bB,gZ];simp
 |
  some e =>
  obtain⟨h1,h2⟩:=ny he
  simp only[s3,↓zq,zs,ac,cT,dZ]
  refine⟨fun h=>(by cases h),fun _=>?_⟩
  refine ah (Cv e [] _ h1 .nil (by simp;omega)) ?_
  cases ht:cP e []with
  |none=>simp only[gZ,↓zq,zs,ac,bB];simp
  |
   some t =>
   have:=iH e [] t ht
   simp only[gZ,↓zq,zs,ac,aC,fD]
   refine⟨fun h=>(by cases h),fun _=>?_⟩
   refine ah (Dz t (by omega)) ?_
   simp only[↓zq,zs,ac,bB]
   refine⟨fun h=>?_,fun h=>?_⟩
   ·rw[if_pos (by omega)]
   ·rw[if_neg (by omega)]
end Go.Proofs.Trees
namespace Go.Proofs.Trees
open Go Go.VL
def A0(p:Prop):Nat->List AV->List Ob->Prop:=fun t ys o=>(t=1/\¬p/\ys=[]/\o=[])\/(t=2/\p/\∃j:Nat,ys=[.v (.int .i64 (j:Int))]/\o=[])
theorem Ls(l:List (List UInt8))(a:AV)(ha:cI a l)(s:List UInt8)(hl:l.length<1000000):∀(k i:Nat),i+k=l.length->s∉l.take i->G6 [a,.v (.string (mk s)),.v (.int .i64 (l.length:Int)),.v (.int .i64 (i:Int))] []
 (A0 (s∈l))
 |
  0,i,hi,hn=>by
  refine H0 _ _ _ _ ?_
  simp only[GD,↓zq,zs,ac]
  have:l.take i=l:=List.take_of_length_le (by omega)
  rw[this]at hn
  exact⟨ha.1,fun h=>by omega,fun _=>.inl ⟨rfl,hn,rfl,rfl⟩⟩
 |
  k+1,i,hi,hn=>by
  have hlt:i<l.length:=by omega
  refine H0 _ _ _ _ ?_
  simp only[GD,↓zq,zs,ac,zt,ha.len,ha.idx hlt]
  have hm:l.getD i []∈l:=by simp[aa,hlt]
  refine⟨ha.1,fun _=>⟨⟨ha.1,by omega,by omega⟩,by omega,fun h=>?_,fun h=>?_⟩,fun h=>by omega⟩
  ·exact .inr ⟨rfl,by rw[h];exact hm,i,rfl,rfl⟩
  ·rw[bq i (by omega)]
   refine Ls l a ha s hl k (i+1) (by omega) ?_
   rw[List.take_add_one]
   simp only[aI,not_or]
   refine⟨hn,?_⟩
   have:l[i]?=some (l.getD i []):=by simp[aa,hlt]
   rw[this];simpa using h
theorem JT(l:List (List UInt8))(a:AV)(ha:cI a l)(s:List UInt8)(hl:l.length<1000000):an Tryz.prog 177 [a,.v (.string (mk s))] [] (bB (.v (.bool (decide (s∈l))))):=by
 have hI:an Tryz.prog 194 [a,.v (.string (mk s))] [] (fun r o=>∃n:Int,r=.v (.int .i64 n)/\(0<=n↔s∈l)/\o=[]):=by
  refine Ns _ _ ha.1 ?_
  simp only[MM,↓zq,zs,ac,ha.len]
  refine⟨ha.1,kN (Ls l a ha s hl l.length 0 (by omega) (by simp)) ?_ ?_⟩
  ·rintro ys o (⟨_,h1,rfl,rfl⟩|⟨h,_⟩)
   ·simp only[↓zq,zs,ac]
    exact⟨-1,rfl,⟨fun h=>(by omega),fun h=>absurd h h1⟩⟩
   ·cases h
  ·rintro ys o (⟨h,_⟩|⟨_,h1,j,rfl,rfl⟩)
   ·cases h
   ·simp only[↓zq,zs,ac]
    exact⟨j,rfl,⟨fun _=>h1,fun _=>(by omega)⟩⟩
 refine Qf _ _ ha.1 ?_
 unfold HG
 refine bC hI ⟨.v (.int .i64 (if s∈l then 0 else -1)),[],_,rfl,by split<;>simp_all,rfl⟩ ?_
 rintro r o ⟨n,rfl,hn,rfl⟩
 simp only[↓zq,zs,ac,bB]
 congr 2
 rw[ct];simp[hn]
def pi(out:List (List UInt8)):Ty->List (List UInt8)
 | .name s=>if s∈out then out else out++[s]
 |_=>out
theorem Fv(t:Ty)(out:List (List UInt8))(hl:out.length<100000):an Tryz.prog 181 [t.av,.ref 0 0] [.cells [.vec 1],.vec 1 (bT out)] (dh .any [.cells [.vec 1],.vec 1 (bT (pi out t))]):=by
 refine Pg _ _ ((aC _).mpr trivial) ?_
 have hlen:(bT out).length=out.length:=by simp[bT]
 cases t with
 |
  name s =>
  simp only[GM,Ty.av,↓zq,zs,ac,dh,hlen]
  refine⟨by omega,fun _=>⟨by omega,?_⟩,fun h=>absurd rfl h⟩
  refine ah (JT out _ (.of out) s (by omega)) ?_
  simp only[↓zq,zs,ac,pi]
  refine⟨fun h=>⟨by omega,⟨fun c hc=>(by simp at hc;rw[hc];rfl),by omega⟩,?_⟩,fun h=>?_⟩
  ·rw[wm,if_neg h]
  ·rw[if_pos h]
 |_=>simp[GM,Ty.av,↓zq,zs,ac,dh,pi]
def bF:Ty->List (List UInt8)->List (List UInt8)
 | .name s,out=>pi out (.name s)
 | .plus a b,out=>bF b (bF a out)
 | .times a b,out=>bF b (bF a out)
 | .rc a,out=>bF a out
 |_,out=>out
theorem ep:∀(t:Ty) (out:List (List UInt8)),(bF t out).length<=out.length+t.az
 | .name s,out=>by simp only[bF,pi,Ty.az];split<;>simp
 |
  .plus a b,out=>by
  have:=ep a out
  have:=ep b (bF a out)
  simp only[bF,Ty.az];omega
 |
  .times a b,out=>by
  have:=ep a out
  have:=ep b (bF a out)
  simp only[bF,Ty.az];omega
 |
  .rc a,out=>by
  have:=ep a out
  simp only[bF,Ty.az];omega
 | .zero,out=>by simp[bF]
 | .one,out=>by simp[bF]
 | .bN u,out=>by simp[bF]
theorem yZ:∀(t:Ty) (out:List (List UInt8)),out.length+t.az<100000->an Tryz.prog 180 [t.av,.fn 181 [.ref 0 0]] [.cells [.vec 1],.vec 1 (bT out)] (dh .any [.cells [.vec 1],.vec 1 (bT (bF t out))])
 |
  .plus a b,out,hl=>by
  simp only[Ty.az]at hl
  have:=ep a out
  refine EF _ _ ((aC _).mpr trivial) ?_
  unfold DQ
  refine aX (Fv (.plus a b) out (by omega)) ?_
  simp only[Ty.av,↓zq,zs,ac,aC,fD,pi,bo,dh]
  refine⟨by omega,fun _=>⟨by omega,?_⟩,fun h=>(by cases h)⟩
  refine aX (yZ a out (by omega)) ?_
  simp only[↓zq,zs,ac,aC,fD,bo]
  refine⟨by omega,fun _=>⟨by omega,?_⟩,fun h=>(by cases h)⟩
  refine aX (yZ b (bF a out) (by omega)) ?_
  simp only[↓zq,zs,ac,bo,bF]
 |
  .times a b,out,hl=>by
  simp only[Ty.az]at hl
  have:=ep a out
  refine EF _ _ ((aC _).mpr trivial) ?_
  unfold DQ
  refine aX (Fv (.times a b) out (by omega)) ?_
  simp only[Ty.av,↓zq,zs,ac,aC,fD,pi,bo,dh]
  refine⟨by omega,fun _=>⟨by omega,?_⟩,fun h=>(by cases h)⟩
  refine aX (yZ a out (by omega)) ?_
  simp only[↓zq,zs,ac,aC,fD,bo]
  refine⟨by omega,fun _=>⟨by omega,?_⟩,fun h=>(by cases h)⟩
  refine aX (yZ b (bF a out) (by omega)) ?_
  simp only[↓zq,zs,ac,bo,bF]
 |
  .rc a,out,hl=>by
  simp only[Ty.az]at hl
  refine EF _ _ ((aC _).mpr trivial) ?_
  unfold DQ
  refine aX (Fv (.rc a) out (by omega)) ?_
  simp only[Ty.av,↓zq,zs,ac,aC,fD,pi,bo,dh]
  refine⟨by omega,fun _=>⟨by omega,?_⟩,fun h=>(by cases h)⟩
  refine aX (yZ a out (by omega)) ?_
  simp[↓zq,zs,ac,aC,fD,bo,bF]
 |
  .name s,out,hl=>by
  refine EF _ _ ((aC _).mpr trivial) ?_
  unfold DQ
  refine aX (Fv (.name s) out (by omega)) ?_
  simp[Ty.av,↓zq,zs,ac,bo,dh,bF]
 |
  .zero,out,hl=>by
  refine EF _ _ ((aC _).mpr trivial) ?_
  unfold DQ
  refine aX (Fv .zero out (by omega)) ?_
  simp[Ty.av,↓zq,zs,ac,bo,dh,bF,pi]
 |
  .one,out,hl=>by
  refine EF _ _ ((aC _).mpr trivial) ?_
  unfold DQ
  refine aX (Fv .one out (by omega)) ?_
  simp[Ty.av,↓zq,zs,ac,bo,dh,bF,pi]
 |
  .bN u,out,hl=>by
  refine EF _ _ ((aC _).mpr trivial) ?_
  unfold DQ
  refine aX (Fv (.bN u) out (by omega)) ?_
  simp[Ty.av,↓zq,zs,ac,bo,dh,bF,pi]
theorem Kz(t:Ty)(hl:t.az<100000):an Tryz.prog 158 [t.av] [] (bB (.sl (bT (bF t [])))):=by
 refine QL _ ((aC _).mpr trivial) ?_
 unfold Kp
 refine aX (yZ t [] (by simpa using hl)) ?_
 simp[↓zq,zs,ac,bo,bB]
theorem Lc(l:List (List UInt8))(a:AV)(ha:cI a l)(hl:l.length<1000000):∀(k i:Nat),i+k=l.length->(∀s,s∈l.take i->cZ s=false)->EO [a,.v (.func (.func 159) #[] #[]),.v (.int .i64 (l.length:Int)),.v (.int .i64 (i:Int))] []
 (A0 (l.any cZ=true))
 |
  0,i,hi,hn=>by
  refine Js _ _ _ ?_
  simp only[EC,↓zq,zs,ac]
  have:l.take i=l:=List.take_of_length_le (by omega)
  rw[this]at hn
  exact⟨ha.1,fun h=>by omega,fun _=>.inl ⟨rfl,fun hh=>(by obtain⟨x,hx,hy⟩:=ci.1 hh;rw[hn x hx]at hy;cases hy),rfl,rfl⟩⟩
 |
  k+1,i,hi,hn=>by
  have hlt:i<l.length:=by omega
  refine Js _ _ _ ?_
  simp only[EC,↓zq,zs,ac,zt,ha.len,ha.idx hlt]
  have hm:l.getD i []∈l:=by simp[aa,hlt]
  refine⟨ha.1,fun _=>⟨⟨ha.1,by omega,by omega⟩,by omega,?_⟩,fun h=>by omega⟩
  refine ah (Cm _) ?_
  simp only[↓zq,zs,ac]
  refine⟨fun h=>?_,fun h=>?_⟩
  ·exact .inr ⟨rfl,ci.2 ⟨_,hm,h⟩,i,rfl,rfl⟩
  ·rw[bq i (by omega)]
   refine Lc l a ha hl k (i+1) (by omega) ?_
   intro s hs
   rw[List.take_add_one]at hs
   have:l[i]?=some (l.getD i []):=by simp[aa,hlt]
   rw[this]at hs
   rcases aI.1 hs with hs|hs
   ·exact hn s hs
   ·simp at hs;rw[hs];simpa using h
theorem Po(l:List (List UInt8))(a:AV)(ha:cI a l)(hl:l.length<1000000):an Tryz.prog 157 [a,.v (.func (.func 159) #[] #[])] [] (bB (.v (.bool (l.any cZ)))):=by
 have hI:an Tryz.prog 179 [a,.v (.func (.func 159) #[] #[])] [] (fun r o=>∃n:Int,r=.v (.int .i64 n)/\(0<=n↔l.any cZ=true)/\o=[]):=by
  refine O8 _ ha.1 ?_
  simp only[LR,↓zq,zs,ac,ha.len]
  refine⟨ha.1,kN (Lc l a ha hl l.length 0 (by omega) (by simp)) ?_ ?_⟩
  ·rintro ys o (⟨_,h1,rfl,rfl⟩|⟨h,_⟩)
   ·simp only[↓zq,zs,ac]
    exact⟨-1,rfl,⟨fun h=>(by omega),fun h=>absurd h h1⟩⟩
   ·cases h
  ·rintro ys o (⟨h,_⟩|⟨_,h1,j,rfl,rfl⟩)
   ·cases h
   ·simp only[↓zq,zs,ac]
    exact⟨j,rfl,⟨fun _=>h1,fun _=>(by omega)⟩⟩
 refine Qm _ ha.1 ?_
 unfold MI
 refine bC hI ⟨.v (.int .i64 (if l.any cZ=true then 0 else -1)),[],_,rfl,by split<;>simp_all,rfl⟩ ?_
 rintro r o ⟨n,rfl,hn,rfl⟩
 simp only[↓zq,zs,ac,bB]
 congr 2
 rw[ct];simp only[decide_eq_true_eq,ge_iff_le,hn]
def Ty.closed(t:Ty):Bool:=!((bF t []).any cZ)
theorem Ni(t:Ty)(hl:t.az<100000):an Tryz.prog 127 [t.av] [] (bB (.v (.bool t.closed))):=by
 refine Pe _ ((aC _).mpr trivial) ?_
 unfold MJ
 refine ah (Kz t hl) ?_
 simp only[↓zq,zs,ac]
 have:=ep t []
 refine ah (Po _ _ (.of _) (by simp at this;omega)) ?_
 simp only[↓zq,zs,ac,bB,Ty.closed]
def wu(s:List UInt8):Option Ty:=match p9 s with
 |none=>none
 |some t=>if t.closed=true then some t else none
theorem sF{s:List UInt8}{t:Ty}(h:p9 s=some t):t.az<=400:=by
 unfold p9 at h
 split at h
 ·cases h
 ·split at h
  ·cases h
  ·split at h<;>cases h
   omega
theorem Kb(s:List UInt8):an Tryz.prog 93 [.v (.string (mk s))] [] (bB (gZ (wu s))):=by
 refine O6 _ ?_
 unfold LJ
 refine ah (E1 s) ?_
 unfold wu
 cases ht:p9 s with
 |none=>simp[gZ,↓zq,zs,ac,bB]
 |
  some t =>
  have:=sF ht
  simp only[gZ,↓zq,zs,ac,aC,fD]
  refine⟨fun h=>(by cases h),fun _=>?_⟩
  refine ah (Ni t (by omega)) ?_
  simp only[↓zq,zs,ac,bB]
  refine⟨fun h=>?_,fun h=>?_⟩
  ·rw[if_neg (by rw[h];simp)]
  ·rw[if_pos h]
end Go.Proofs.Trees
namespace Go.Proofs.Trees
open Go Go.VL Go.RowKit
abbrev Nm:=List UInt8
def dF(u:Ty):Ty->Nat->Ty
 | .bN k,i=>if k=i then u else .bN k
 | .plus a b,i=>.plus (dF u a i) (dF u b i)
 | .times a b,i=>.times (dF u a i) (dF u b i)
 | .rc a,i=>.rc (dF u a (i+1))
 |t,_=>t
def sub(x:Nm)(u:Ty):Ty->Ty
 | .name s=>if s=x then u else .name s
 | .plus a b=>.plus (sub x u a) (sub x u b)
 | .times a b=>.times (sub x u a) (sub x u b)
 | .rc a=>.rc (sub x u a)
 |t=>t
def bh(x:Nm):Ty->Bool
 | .name s=>decide (s=x)
 | .plus a b=>bh x a||bh x b
 | .times a b=>bh x a||bh x b
 | .rc a=>bh x a
 |_=>false
def jx(f:Nm->Nm):Ty->Ty
 | .name s=>.name (f s)
 | .plus a b=>.plus (jx f a) (jx f b)
 | .times a b=>.times (jx f a) (jx f b)
 | .rc a=>.rc (jx f a)
 |t=>t
def LD(f:Nm->Nm):Prop:=∀x y,f x=f y->x=y
theorem lB(f:Nm->Nm)(x:Nm):∀(t:Ty) (i:Nat),jx f (dF (.name x) t i)=dF (.name (f x)) (jx f t) i
 | .bN k,i=>by simp only[dF,jx];split<;>rfl
 | .plus a b,i=>by simp only[dF,jx,lB f x a i,lB f x b i]
 | .times a b,i=>by simp only[dF,jx,lB f x a i,lB f x b i]
 | .rc a,i=>by simp only[dF,jx,lB f x a (i+1)]
 | .zero,i=>rfl
 | .one,i=>rfl
 | .name s,i=>rfl
theorem kX{f:Nm->Nm}(hf:LD f)(x:Nm)(u:Ty):∀t:Ty,jx f (sub x u t)=sub (f x) (jx f u) (jx f t)
 |
  .name s=>by
  simp only[sub,jx]
  by_cases h:s=x
  ·subst h;simp
  ·rw[if_neg h,if_neg fun e=>h (hf _ _ e)];rfl
 | .plus a b=>by simp only[sub,jx,kX hf x u a,kX hf x u b]
 | .times a b=>by simp only[sub,jx,kX hf x u a,kX hf x u b]
 | .rc a=>by simp only[sub,jx,kX hf x u a]
 | .zero=>rfl
 | .one=>rfl
 | .bN k=>rfl
theorem mQ{f:Nm->Nm}(hf:LD f)(x:Nm):∀t:Ty,bh (f x) (jx f t)=bh x t
 | .name s=>by simp only[bh,jx];rw[ct];simp only[decide_eq_true_eq];exact⟨fun e=>hf _ _ e,fun e=>by rw[e]⟩
 | .plus a b=>by simp only[bh,jx,mQ hf x a,mQ hf x b]
 | .times a b=>by simp only[bh,jx,mQ hf x a,mQ hf x b]
 | .rc a=>by simp only[bh,jx,mQ hf x a]
 | .zero=>rfl
 | .one=>rfl
 | .bN k=>rfl
theorem gK(f:Nm->Nm):∀t:Ty,(jx f t).az=t.az
 | .plus a b=>by simp only[Ty.az,jx,gK f a,gK f b]
 | .times a b=>by simp only[Ty.az,jx,gK f a,gK f b]
 | .rc a=>by simp only[Ty.az,jx,gK f a]
 | .name s=>rfl
 | .zero=>rfl
 | .one=>rfl
 | .bN k=>rfl
theorem pn{f:Nm->Nm}:∀t:Ty,(∀x,bh x t=true->f x=x)->jx f t=t
 | .name s,h=>by simp only[jx];rw[h s (by simp[bh])]
 | .plus a b,h=>by simp only[jx];rw[pn a fun x hx=>h x (by simp[bh,hx]),pn b fun x hx=>h x (by simp[bh,hx])]
 | .times a b,h=>by simp only[jx];rw[pn a fun x hx=>h x (by simp[bh,hx]),pn b fun x hx=>h x (by simp[bh,hx])]
 | .rc a,h=>by simp only[jx];rw[pn a fun x hx=>h x hx]
 | .zero,_=>rfl
 | .one,_=>rfl
 | .bN k,_=>rfl
theorem fq(x:Nm):∀(t:Ty) (i:Nat),(dF (.name x) t i).az=t.az
 | .bN k,i=>by simp only[dF];split<;>rfl
 | .plus a b,i=>by simp only[dF,Ty.az,fq x a i,fq x b i]
 | .times a b,i=>by simp only[dF,Ty.az,fq x a i,fq x b i]
 | .rc a,i=>by simp only[dF,Ty.az,fq x a (i+1)]
 | .zero,i=>rfl
 | .one,i=>rfl
 | .name s,i=>rfl
theorem ef(t:Ty):1<=t.az:=by cases t<;>simp only[Ty.az]<;>omega
theorem gI(x:Nm)(u:Ty):∀t:Ty,t.az<=(sub x u t).az
 | .name s=>by simp only[sub];split<;>simp only[Ty.az];exact ef u;omega
 | .plus a b=>by have:=gI x u a;have:=gI x u b;simp only[sub,Ty.az];omega
 | .times a b=>by have:=gI x u a;have:=gI x u b;simp only[sub,Ty.az];omega
 | .rc a=>by have:=gI x u a;simp only[sub,Ty.az];omega
 | .zero=>aq _
 | .one=>aq _
 | .bN k=>aq _
theorem gr{x y:Nm}:∀(t:Ty) (i:Nat),bh y (dF (.name x) t i)=true->y=x\/bh y t=true
 |
  .bN k,i,h=>by
  simp only[dF]at h
  split at h
  ·left;simp only[bh,decide_eq_true_eq]at h;exact h.symm
  ·cases h
 |
  .plus a b,i,h=>by
  simp only[dF,bh,bw]at h |-
  rcases h with h|h
  ·rcases gr a i h with h|h<;>simp[h]
  ·rcases gr b i h with h|h<;>simp[h]
 |
  .times a b,i,h=>by
  simp only[dF,bh,bw]at h |-
  rcases h with h|h
  ·rcases gr a i h with h|h<;>simp[h]
  ·rcases gr b i h with h|h<;>simp[h]
 | .rc a,i,h=>gr a (i+1) h
 | .zero,i,h=>by cases h
 | .one,i,h=>by cases h
 | .name s,i,h=>.inr h
theorem iU{x y:Nm}{u:Ty}:∀t:Ty,bh y (sub x u t)=true->bh y u=true\/(y≠x/\bh y t=true)
 |
  .name s,h=>by
  simp only[sub]at h
  split at h
  ·exact .inl h
  ·rename_i hs
   simp only[bh,decide_eq_true_eq]at h
   subst h
   exact .inr ⟨hs,by simp[bh]⟩
 |
  .plus a b,h=>by
  simp only[sub,bh,bw]at h |-
  rcases h with h|h
  ·rcases iU a h with h|h<;>simp[h]
  ·rcases iU b h with h|h<;>simp[h]
 |
  .times a b,h=>by
  simp only[sub,bh,bw]at h |-
  rcases h with h|h
  ·rcases iU a h with h|h<;>simp[h]
  ·rcases iU b h with h|h<;>simp[h]
 |
  .rc a,h=>by
  simp only[sub,bh]at h |-
  exact iU a h
 | .zero,h=>by cases h
 | .one,h=>by cases h
 | .bN k,h=>by cases h
def swp(x y:Nm):Nm->Nm:=fun s=>if s=x then y else if s=y then x else s
theorem wW(x y:Nm):LD (swp x y):=by
 intro a b h
 unfold swp at h
 by_cases h1:a=x<;>by_cases h2:a=y<;>by_cases h3:b=x<;>by_cases h4:b=y<;>simp_all
theorem uH(x y:Nm):swp x y x=y:=by simp[swp]
theorem A1{x y s:Nm}(h:s≠x)(h':s≠y):swp x y s=s:=by simp[swp,h,h']
theorem s5{x y:Nm}{t:Ty}(h:bh x t=false)(h':bh y t=false):jx (swp x y) t=t :=
 pn t fun z hz=>A1 (fun e=>by subst e;rw[h]at hz;cases hz) (fun e=>by subst e;rw[h']at hz;cases hz)
def pq(a:Ty)(x:Nm)(c d:Ty):Ty:=.rc (.plus (sub x (.rc a) c) (.times (sub x (.rc a) d) (.bN 0)))
inductive Dv:Ty->Nm->Ty->Prop
 |zero (s):Dv .zero s .zero
 |one (s):Dv .one s .zero
 |bN (k s):Dv (.bN k) s .zero
 |hit (s):Dv (.name s) s .one
 |qW {n s} (h:n≠s):Dv (.name n) s .zero
 |plus {a b s a' b'} (h1:Dv a s a') (h2:Dv b s b') (hl:(Ty.plus a' b').az<=400):Dv (.plus a b) s (.plus a' b')
 |times {a b s a' b'} (h1:Dv a s a') (h2:Dv b s b') (hl:(Ty.plus (.times a' b) (.times a b')).az<=400):Dv (.times a b) s (.plus (.times a' b) (.times a b'))
 |rc {a s c d} (x:Nm) (hx:bh x a=false) (hs:x≠s) (h1:Dv (dF (.name x) a 0) s c) (h2:Dv (dF (.name x) a 0) x d) (hl:(pq a x c d).az<=400):Dv (.rc a) s (pq a x c d)
theorem xb{f:Nm->Nm}(hf:LD f)(a:Ty)(x:Nm)(c d:Ty):jx f (pq a x c d)=pq (jx f a) (f x) (jx f c) (jx f d):=by
 simp only[pq,jx,kX hf]
theorem Dv.jx{f:Nm->Nm}(hf:LD f){t d:Ty}{s:Nm}(h:Dv t s d):Dv (jx f t) (f s) (jx f d):=by
 induction h with
 |zero s=>exact .zero _
 |one s=>exact .one _
 |bN k s=>exact .bN _ _
 |hit s=>exact .hit _
 |qW h=>exact .qW fun e=>h (hf _ _ e)
 |plus h1 h2 hl i1 i2=>exact .plus i1 i2 (by rw[<-gK f]at hl;exact hl)
 |times h1 h2 hl i1 i2=>exact .times i1 i2 (by rw[<-gK f]at hl;exact hl)
 |
  rc x hx hs h1 h2 hl i1 i2 =>
  rw[xb hf]
  rw[lB]at i1 i2
  exact .rc (f x) (by rw[mQ hf];exact hx) (fun e=>hs (hf _ _ e)) i1 i2 (by rw[<-xb hf,gK];exact hl)
theorem Dv.names{t d:Ty}{s:Nm}(h:Dv t s d):∀y,bh y d=true->bh y t=true:=by
 induction h with
 |zero s=>intro y hy;cases hy
 |one s=>intro y hy;cases hy
 |bN k s=>intro y hy;cases hy
 |hit s=>intro y hy;cases hy
 |qW h=>intro y hy;cases hy
 |
  plus h1 h2 hl i1 i2 =>
  intro y hy
  simp only[bh,bw]at hy |-
  rcases hy with hy|hy
  ·exact .inl (i1 y hy)
  ·exact .inr (i2 y hy)
 |
  times h1 h2 hl i1 i2 =>
  intro y hy
  simp only[bh,bw]at hy |-
  rcases hy with(hy|hy)|(hy|hy)
  ·exact .inl (i1 y hy)
  ·exact .inr hy
  ·exact .inl hy
  ·exact .inr (i2 y hy)
 |
  rc x hx hs h1 h2 hl i1 i2 =>
  intro y hy
  simp only[pq,bh,bw,Bool.or_false]at hy |-
  have key:∀{a c:Ty},(∀y,bh y c=true->bh y (dF (.name x) a 0)=true)->bh y (sub x (.rc a) c)=true->bh y a=true:=fun i h=>by
   rcases iU _ h with h|⟨h,h'⟩
   ·exact h
   ·rcases gr _ _ (i y h')with e|e
    ·exact absurd e h
    ·exact e
  rcases hy with hy|hy
  ·exact key i1 hy
  ·exact key i2 hy
theorem Dv.fresh{t d:Ty}{s y:Nm}(h:Dv t s d)(hy:bh y t=false):bh y d=false:=by
 cases e:bh y d with
 |false=>rfl
 |true=>rw[h.names y e]at hy;cases hy
theorem Dv.move{a c:Ty}{x y s:Nm}(hx:bh x a=false)(hy:bh y a=false)(h:Dv (dF (.name x) a 0) s c):Dv (dF (.name y) a 0) (swp x y s) (Go.Proofs.Trees.jx (swp x y) c):=by
 have:=h.jx (wW x y)
 rw[lB,uH,s5 hx hy]at this
 exact this
theorem mb{a c:Ty}{x y s:Nm}(hx:bh x a=false)(hy:bh y a=false)(h:Dv (dF (.name x) a 0) s c):sub y (.rc a) (jx (swp x y) c)=sub x (.rc a) c:=by
 have e:=kX (wW x y) x (.rc a) c
 rw[uH,s5 (t:=.rc a) hx hy]at e
 rw[<-e]
 have key:∀z,(z=x\/z=y)->bh z (sub x (.rc a) c)=false:=fun z hz=>by
  cases q:bh z (sub x (.rc a) c)with
  |false=>rfl
  |
   true =>
   exfalso
   have hz':bh z a=false:=by rcases hz with rfl|rfl<;>assumption
   rcases iU _ q with h1|⟨h1,h2⟩
   ·rw[show bh z (.rc a)=bh z a from rfl,hz']at h1;cases h1
   ·rcases gr _ _ (h.names z h2)with e|e
    ·exact h1 e
    ·rw[hz']at e;cases e
 exact s5 (key x (.inl rfl)) (key y (.inr rfl))
theorem Dv.vR:∀(n:Nat) (t:Ty),t.az<=n->∀{s:Nm} {d d':Ty},Dv t s d->Dv t s d'->d=d'
 |0,t,h,_,_,_,_,_=>by have:=ef t;omega
 |
  n+1,t,hn,s,d,d',h,h'=>by
  cases h with
  |zero=>cases h';rfl
  |one=>cases h';rfl
  |bN=>cases h';rfl
  |
   hit =>
   cases h' with
   |hit=>rfl
   |qW h=>exact absurd rfl h
  |
   qW h =>
   cases h' with
   |hit=>exact absurd rfl h
   |qW _=>rfl
  |
   plus h1 h2 =>
   simp only[Ty.az]at hn
   cases h' with
   |plus g1 g2=>rw[Dv.vR n _ (by omega) h1 g1,Dv.vR n _ (by omega) h2 g2]
  |
   times h1 h2 =>
   simp only[Ty.az]at hn
   cases h' with
   |times g1 g2=>rw[Dv.vR n _ (by omega) h1 g1,Dv.vR n _ (by omega) h2 g2]
  |
   rc x hx hs h1 h2 =>
   simp only[Ty.az]at hn
   cases h' with
   |
    rc y hy hs' g1 g2 =>
    rename_i a _ _ _ _ _ _
    have m1:=h1.move hx hy
    have m2:=h2.move hx hy
    rw[A1 (Ne.symm hs) (Ne.symm hs')]at m1
    rw[uH]at m2
    have e1:=Dv.vR n _ (by rw[fq];omega) m1 g1
    have e2:=Dv.vR n _ (by rw[fq];omega) m2 g2
    rw[pq,pq,<-e1,<-e2,mb hx hy h1,mb hx hy h2]
theorem Dv.small{t d:Ty}{s:Nm}(h:Dv t s d):d.az<=400:=by
 cases h<;>first|assumption|simp[Ty.az]
open Classical in
noncomputable def kV (t:Ty) (s:Nm):Option Ty:=if h:∃d,Dv t s d then some (Classical.choose h)else none
theorem cS{t:Ty}{s:Nm}{d:Ty}:kV t s=some d↔Dv t s d:=by
 unfold kV
 by_cases h:∃d,Dv t s d
 ·rw[dif_pos h]
  have:=Classical.choose_spec h
  constructor
  ·intro e;cases e;exact this
  ·intro g;rw[Dv.vR _ t (aq _) this g]
 ·rw[dif_neg h]
  exact⟨fun e=>(by cases e),fun g=>absurd ⟨d,g⟩ h⟩
def mX(t:Ty):Option Ty:=if t.az<=400 then some t else none
theorem eT{t d:Ty}:mX t=some d↔t.az<=400/\t=d:=by
 unfold mX
 split
 ·rename_i h;simp[h]
 ·rename_i h;simp[h]
theorem ql{α:Type}{a b:Option α}(h:∀d,a=some d↔b=some d):a=b:=by
 cases a with
 |
  none=>cases b with
  |none=>rfl
  |some x=>have:=(h x).2 rfl;cases this
 |some x=>exact((h x).1 rfl).symm
theorem vt(s:Nm):kV .zero s=some .zero:=cS.2 (.zero _)
theorem wZ(s:Nm):kV .one s=some .zero:=cS.2 (.one _)
theorem yx(k:Nat)(s:Nm):kV (.bN k) s=some .zero:=cS.2 (.bN _ _)
theorem n6(n s:Nm):kV (.name n) s=some (if n=s then .one else .zero):=by
 split
 ·rename_i h;subst h;exact cS.2 (.hit _)
 ·rename_i h;exact cS.2 (.qW h)
theorem uy(a b:Ty)(s:Nm):kV (.plus a b) s=(kV a s).bind fun a'=>(kV b s).bind fun b'=>mX (.plus a' b'):=by
 refine ql fun d=>?_
 rw[cS]
 simp only[bm,cS,eT]
 constructor
 ·intro h;cases h with|plus h1 h2 hl=>exact⟨_,h1,_,h2,hl,rfl⟩
 ·rintro⟨a',h1,b',h2,hl,rfl⟩;exact .plus h1 h2 hl
theorem so(a b:Ty)(s:Nm):kV (.times a b) s=(kV a s).bind fun a'=>(kV b s).bind fun b'=>mX (.plus (.times a' b) (.times a b')):=by
 refine ql fun d=>?_
 rw[cS]
 simp only[bm,cS,eT]
 constructor
 ·intro h;cases h with|times h1 h2 hl=>exact⟨_,h1,_,h2,hl,rfl⟩
 ·rintro⟨a',h1,b',h2,hl,rfl⟩;exact .times h1 h2 hl
theorem AL{a:Ty}{s x:Nm}(hx:bh x a=false)(hs:x≠s):kV (.rc a) s=(kV (dF (.name x) a 0) s).bind fun c=>(kV (dF (.name x) a 0) x).bind fun d=>mX (pq a x c d):=by
 refine ql fun d=>?_
 rw[cS]
 simp only[bm,cS,eT]
 constructor
 ·intro h
  cases h with
  |
   rc y hy hs' h1 h2 hl =>
   have m1:=h1.move hy hx
   have m2:=h2.move hy hx
   rw[A1 (Ne.symm hs') (Ne.symm hs)]at m1
   rw[uH]at m2
   refine⟨_,m1,_,m2,?_⟩
   have e:∀c d,sub x (.rc a) (jx (swp y x) c)=sub y (.rc a) c->sub x (.rc a) (jx (swp y x) d)=sub y (.rc a) d->pq a x (jx (swp y x) c) (jx (swp y x) d)=pq a y c d:=fun c d e1 e2=>by rw[pq,pq,e1,e2]
   rw[e _ _ (mb hy hx h1) (mb hy hx h2)]
   exact⟨hl,rfl⟩
 ·rintro⟨c,h1,d',h2,hl,rfl⟩;exact .rc x hx hs h1 h2 hl
noncomputable def oL (a:Ty) (x:Nm):Option Ty:=(kV (dF (.name x) a 0) x).bind fun d=>mX (sub x (.rc a) d)
theorem ER{a:Ty}{x y:Nm}(hx:bh x a=false)(hy:bh y a=false):oL a x=oL a y:=by
 have key:∀{x y:Nm} {d:Ty},bh x a=false->bh y a=false->oL a x=some d->oL a y=some d:=fun {x y d} hx hy h=>by
  simp only[oL,bm,cS,eT]at h |-
  obtain⟨d',h1,hl,rfl⟩:=h
  have m1:=h1.move hx hy
  rw[uH]at m1
  exact⟨_,m1,by rw[mb hx hy h1];exact⟨hl,rfl⟩⟩
 exact ql fun d=>⟨key hx hy,key hy hx⟩
end Go.Proofs.Trees
namespace Go.Proofs.Trees
open Go Go.VL
theorem Pa(b:UInt8):an Tryz.prog 178 [.v (.int .u8 (b.toNat:Int))] [] (bB (.v (.bool (eM b)))):=by
 refine QC _ ?_
 simp only[Mg,↓zq,zs,ac,bB,eM]
 repeat' (apply aE<;>intro _)
 all_goals first|(congr 2;rw[ct];simp;omega)|(congr 2;simp;omega)
def Cp(s:List UInt8)(x:Option (E×List UInt8)):AV->List Ob->Prop:=fun r o=>o=[] /\
 match x with
 |some (e,u)=>r=.cv [e.kj,.v (.int .i64 ((s.length-u.length:Nat):Int))]
 |none=>∃(c:List UInt8) (d:AV),LK.sl.has d/\r=.cv [.agg [.v (.string (mk c)),d],.v (.int .i64 (-1))]
theorem Cp.ne(s:List UInt8)(x:Option (E×List UInt8)):∃r o,Cp s x r o:=by
 cases x with
 |some q=>exact⟨_,_,rfl,rfl⟩
 |none=>exact⟨_,_,rfl,[],.v (.slice none 0 0),(bb).mpr trivial,rfl⟩
def jc(c:List UInt8)(d:AV):Ob:=.cells [.v (.string (mk c)),d]
theorem JD(s:List UInt8)(hs:s.length<=8000)(from_:Int)(c1 c2:List UInt8)(d1 d2:AV)(h1:LK.sl.has d1)(h2:LK.sl.has d2):∀(k i:Nat),i+k=s.length->GN [.v (.string (mk s)),.v (.int .i64 (i:Int)),.v (.int .i64 from_)] [jc c1 d1,jc c2 d2]
 (gX 1 [.v (.string (mk s)),.v (.int .i64 ((i+((s.drop i).takeWhile eM).length:Nat):Int)),.v (.int .i64 from_)] [jc c1 d1,jc c2 d2])
 |
  0,i,hi=>by
  refine Ji _ _ _ _ _ _ _ ?_
  have hd:s.drop i=[]:=bL (by omega)
  simp only[El,↓zq,zs,ac,zt]
  exact⟨h1,h2,fun h=>by omega,fun _=>by simp[gX,hd,jc]⟩
 |
  k+1,i,hi=>by
  have hlt:i<s.length:=by omega
  refine Ji _ _ _ _ _ _ _ ?_
  simp only[El,↓zq,zs,ac,zt,lK s i hlt]
  refine⟨h1,h2,fun _=>⟨by omega,?_⟩,fun h=>by omega⟩
  refine ah (Pa _) ?_
  simp only[↓zq,zs,ac]
  refine⟨fun hb=>?_,fun hb=>?_⟩
  ·rw[bq i (by omega)]
   have:=JD s hs from_ c1 c2 d1 d2 h1 h2 k (i+1) (by omega)
   rw[wR hlt hb,show i+(((s.drop (i+1)).takeWhile eM).length+1)=i+1+((s.drop (i+1)).takeWhile eM).length by omega]
   exact this
  ·simp[gX,qa hlt hb,jc]
def Q0(s:List UInt8)(x:Option (E×List UInt8)):Nat->List AV->List Ob->Prop:=fun t ys o=>t=2 /\
 match x with
 |some (e,u)=>∃l,e=.list l/\ys=[.v (.int .i64 ((s.length-u.length:Nat):Int))]/\o=[jc [] .any,.vec 2 (E.bn l)]
 |none=>∃es,ys=[.v (.int .i64 (-1))]/\o=[jc [] .any,.vec 2 es]
theorem yd(e:E):(e.kj=.agg e.kj.cs/\e.kj.cs.length=2/\bu [.str,.sl] e.kj.cs 0)=True:=by
 apply eq_true
 cases e<;>simp[E.kj,E.hJ,An,bu,dY,bb,cc]
theorem vP(e:E):[AV.v (.string ((e.kj.cs.getD 0 .any).ai)),e.kj.cs.getD 1 .any]=e.hJ:=by
 cases e<;>rfl
theorem drop_cons{s:List UInt8}{j:Nat}(hj:j<s.length):s.drop j=s.getD j 0::s.drop (j+1):=by
 rw[aL hj];simp[aa,hj]
theorem Mh(s:List UInt8)(hs:s.length<=8000)(d:Nat)(hd:d<=300)(f:List UInt8->Option (E×List UInt8))(hf:∀u e r,f u=some (e,r)->∃j,r=u.drop j/\0<j/\j<=u.length)
 (ih:∀j,j<=s.length->an Tryz.prog 152 [.v (.string (mk s)),.v (.int .i64 (j:Int)),.v (.int .i64 ((d+1:Nat):Int))] [] (Cp s (f (s.drop j)))) :
 ∀(n i:Nat) (acc:List E) (c1:List UInt8) (d1:AV),LK.sl.has d1->s.length-(i+1)<n->i<s.length->s.length-i+acc.length<=8001->Ep [.v (.string (mk s)),.v (.int .i64 (i:Int)),.v (.int .i64 (d:Int))] [jc c1 d1,jc [] .any,.vec 2 (E.bn acc)]
  (Q0 s (rG f n (s.drop (i+1)) acc))
 |0,i,acc,c1,d1,h1,hn,_,_=>by omega
 |
  n+1,i,acc,c1,d1,h1,hn,hi,hl=>by
  refine OM _ _ _ _ _ _ _ ?_
  simp only[JV,↓zq,zs,ac,jc]
  refine⟨h1,?_⟩
  rw[bq i (by omega),bq d (by omega)]
  refine bC (ih (i+1) (by omega)) (Cp.ne _ _) ?_
  rintro r o ⟨rfl,hr⟩
  have hff:=hf (s.drop (i+1))
  unfold rG
  cases hq:f (s.drop (i+1))with
  |
   none =>
   rw[hq]at hr
   obtain⟨c,d',hd',rfl⟩:=hr
   simp only[↓zq,zs,ac,zt,bu]
   refine⟨hd',fun _=>⟨rfl,_,rfl,rfl⟩,fun h=>by omega⟩
  |
   some q =>
   obtain⟨e,u⟩:=q
   rw[hq]at hr
   subst hr
   obtain⟨j,hu,hj0,hj⟩:=hff e u hq
   rw[List.drop_drop]at hu
   simp only[cm]at hj
   have hul:u.length=s.length-(i+1+j):=by rw[hu,cm]
   have hpos:s.length-u.length=i+1+j:=by omega
   simp only[↓zq,zs,ac,zt,yd,hpos,vP,dV]
   refine⟨fun h=>by omega,fun _=>⟨fun h=>?_,fun h=>⟨⟨fun c hc=>(by simp at hc;rw[hc];cases e<;>rfl),by omega⟩,?_⟩⟩⟩
   ·have:u=[]:=by rw[hu];exact bL (by omega)
    subst this
    exact⟨rfl,_,rfl,rfl⟩
   ·have hlt:i+1+j<s.length:=by omega
    rw[drop_cons hlt]at hu
    subst hu
    rw[lK s _ hlt]
    generalize hb:s.getD (i+1+j) 0=b
    refine⟨by omega,fun h41=>?_,fun h41=>⟨by omega,fun h32=>?_,fun h32=>?_⟩⟩
    ·have h41':b.toNat=41:=by omega
     dsimp only
     rw[if_pos h41',bq _ (by omega)]
     refine⟨rfl,acc++[e],rfl,?_,?_⟩
     ·rw[cm];congr 3;omega
     ·simp[jc,pz,E.bn]
    ·have h41':¬b.toNat=41:=by omega
     have h32':¬b.toNat=32:=by omega
     dsimp only
     rw[if_neg h41',if_neg h32']
     exact⟨rfl,_,rfl,rfl⟩
    ·have h41':¬b.toNat=41:=by omega
     have h32':b.toNat=32:=by omega
     dsimp only
     rw[if_neg h41',if_pos h32']
     have:=Mh s hs d hd f hf ih n (i+1+j) (acc++[e]) c1 d1 h1 (by omega) hlt (by simp;omega)
     simpa[jc,pz,E.bn]using this
theorem BQ(k:Nat)(u:List UInt8)(e:E)(r:List UInt8)(h:rd k u=some (e,r)):∃j,r=u.drop j/\0<j/\j<=u.length:=by
 have suf:∀(k:Nat) (u:List UInt8) (e:E) (r:List UInt8),rd k u=some (e,r)->r <:+ u:=by
  intro k
  have tw:∀u:List UInt8,u.dropWhile eM <:+ u:=fun u=>List.dropWhile_suffix _
  have ll:∀(f:List UInt8->Option (E×List UInt8)),(∀u e r,f u=some (e,r)->r <:+ u)->∀(n:Nat) (u:List UInt8) (acc:List E) (e:E) (r:List UInt8),rG f n u acc=some (e,r)->r <:+ u:=by
   intro f hf n
   induction n with
   |zero=>intro u acc e r h;cases h
   |
    succ n ih =>
    intro u acc e r h
    simp only[rG]at h
    split at h
    ·rename_i p c r' hs
     have h1:r' <:+ u:=(List.suffix_cons c r').trans (hf _ _ _ hs)
     split at h
     ·cases h;exact h1
     ·split at h
      ·exact(ih _ _ _ _ h).trans h1
      ·cases h
    ·cases h
  induction k with
  |
   zero =>
   intro u e r h
   simp only[rd]at h
   split at h
   ·cases h
   ·cases h;exact tw u
  |
   succ k ih =>
   intro u e r h
   simp only[rd]at h
   split at h
   ·split at h
    ·split at h
     ·exact(ll _ ih _ _ _ _ _ h).trans (List.suffix_cons _ _)
     ·cases h
    ·cases h
   ·cases h;exact tw u
 obtain⟨p,hp⟩:=suf k u e r h
 have hlt:=xL k u e r h
 have:=congrArg List.length hp
 simp only[ax]at this
 exact⟨p.length,by rw[<-hp];simp,by omega,by omega⟩
theorem zV(n:Nat)(u:List UInt8)(acc:List E):rG (fun _=>none) n u acc=none:=by
 cases n<;>rfl
theorem Nw(s:List UInt8)(j:Nat):an Tryz.prog 152 [.v (.string (mk s)),.v (.int .i64 (j:Int)),.v (.int .i64 ((300+1:Nat):Int))] [] (Cp s none):=by
 refine Kc _ _ _ ?_
 simp only[Er,↓zq,zs,ac]
 exact⟨fun _=>⟨rfl,[],_,(bb).mpr trivial,rfl⟩,fun h=>by omega⟩
theorem pC(s:List UInt8)(hs:s.length<=8000)(d i:Nat)(hd:d<=300)(hi:i<=s.length)(f:List UInt8->Option (E×List UInt8))(hf:∀u e r,f u=some (e,r)->∃j,r=u.drop j/\0<j/\j<=u.length)
 (ih:∀j,j<=s.length->an Tryz.prog 152 [.v (.string (mk s)),.v (.int .i64 (j:Int)),.v (.int .i64 ((d+1:Nat):Int))] [] (Cp s (f (s.drop j)))) (x:Option (E×List UInt8))
 (h0:i=s.length->x=none)
 (h1:i<s.length->(s.drop i).takeWhile eM≠[]->x=some (.atom ((s.drop i).takeWhile eM),(s.drop i).dropWhile eM))
 (h2:i<s.length->(s.drop i).takeWhile eM=[]->¬(s.getD i 0).toNat=40->x=none)
 (h3:i<s.length->(s.getD i 0).toNat=40->x=rG f (s.length-(i+1)+1) (s.drop (i+1)) []) :
 an Tryz.prog 152 [.v (.string (mk s)),.v (.int .i64 (i:Int)),.v (.int .i64 (d:Int))] [] (Cp s x):=by
 refine Kc _ _ _ ?_
 simp only[Er,↓zq,zs,ac,zt]
 refine⟨fun h=>by omega,fun _=>⟨fun h=>?_,fun h=>⟨by omega,?_⟩⟩⟩
 ·rw[h0 (by omega)]
  exact⟨rfl,[],_,(bb).mpr trivial,rfl⟩
 ·have hlt:i<s.length:=by omega
  rw[lK s i hlt]
  refine⟨fun h40=>?_,fun h40=>?_⟩
  ·have h40':¬(s.getD i 0).toNat=40:=by omega
   refine cq (JD s hs _ [] [] _ _ ((bb).mpr trivial) ((bb).mpr trivial) (s.length-i) i (by omega)) ?_
   have hex:(List.take (i+((s.drop i).takeWhile eM).length) s).drop i=(s.drop i).takeWhile eM:=by
    rw[List.drop_take,Nat.add_sub_cancel_left];exact tF _
   have hle:i+((s.drop i).takeWhile eM).length<=s.length:=by
    have:=tH (s.drop i);simp only[cm]at this;omega
   simp only[jc,↓zq,zs,ac,zt,hex]
   refine⟨by omega,fun hnil=>?_,fun hnil=>?_⟩
   ·rw[h2 hlt hnil h40',hnil]
    exact⟨rfl,[],_,(bb).mpr trivial,rfl⟩
   ·rw[h1 hlt hnil]
    refine⟨rfl,?_⟩
    have:=tH (s.drop i)
    simp only[cm]at this
    show _=AV.cv [E.kj (.atom _),_]
    have e:s.length-((s.drop i).dropWhile eM).length=i+((s.drop i).takeWhile eM).length:=by omega
    rw[e];rfl
  ·have h40':(s.getD i 0).toNat=40:=by omega
   rw[h3 hlt h40']
   refine kN (Mh s hs d hd f hf ih (s.length-(i+1)+1) i [] [] _ ((bb).mpr trivial) (by omega) hlt (by simp;omega)) ?_ ?_
   ·rintro ys o ⟨h,_⟩;cases h
   ·rintro ys o ⟨_,hr⟩
    cases hq:rG f (s.length-(i+1)+1) (s.drop (i+1)) []with
    |
     none =>
     rw[hq]at hr
     obtain⟨es,rfl,rfl⟩:=hr
     simp only[jc,↓zq,zs,ac]
     exact⟨rfl,[],_,(cc _).mpr trivial,rfl⟩
    |
     some q =>
     obtain⟨e,u⟩:=q
     rw[hq]at hr
     obtain⟨l,rfl,rfl,rfl⟩:=hr
     simp only[jc,↓zq,zs,ac]
     exact⟨rfl,rfl⟩
theorem NO(s:List UInt8)(hs:s.length<=8000):∀(k:Nat),k<=300->∀i,i<=s.length->an Tryz.prog 152 [.v (.string (mk s)),.v (.int .i64 (i:Int)),.v (.int .i64 ((300-k:Nat):Int))] [] (Cp s (rd k (s.drop i))):=by
 intro k
 have hnil:∀k,rd k []=none:=fun k=>by cases k<;>simp[rd]
 have ha40:∀b:UInt8,b.toNat=40->eM b=false:=fun b hb=>by simp[eM,hb]
 induction k with
 |
  zero =>
  intro hk i hi
  refine pC s hs 300 i (by omega) hi (fun _=>none) (fun _ _ _ h=>by cases h) (fun j _=>Nw s j) _ (fun h=>?_) (fun hlt h=>?_) (fun hlt h h40=>?_) (fun hlt h40=>?_)
  ·rw[bL (by omega)];exact hnil 0
  ·simp only[rd,if_neg h]
  ·simp only[rd,if_pos h]
  ·rw[zV]
   have:(s.drop i).takeWhile eM=[]:=qa hlt (ha40 _ h40)
   simp only[rd,if_pos this]
 |
  succ k ih =>
  intro hk i hi
  have hd:300-(k+1)+1=300-k:=by omega
  refine pC s hs (300-(k+1)) i (by omega) hi (rd k) (BQ k) (fun j hj=>by rw[hd];exact ih (by omega) j hj) _ (fun h=>?_) (fun hlt h=>?_) (fun hlt h h40=>?_) (fun hlt h40=>?_)
  ·rw[bL (by omega)];exact hnil _
  ·simp only[rd,if_neg h]
  ·rw[drop_cons hlt]at h |-
   simp only[rd,if_pos h,if_neg h40]
  ·have h:=qa hlt (ha40 _ h40)
   rw[drop_cons hlt]at h |-
   simp only[rd,if_pos h,if_pos h40,cm]
end Go.Proofs.Trees
namespace Go.Proofs.Trees
open Go Go.VL
theorem iG(e:E):AV.agg [.v (.string ((e.hJ.getD 0 .any).ai)),e.hJ.getD 1 .any]=e.kj:=by cases e<;>rfl
theorem fZ(e:E):e.hJ.length=2:=by cases e<;>rfl
theorem iL(e:E):bu [.str,.sl] e.hJ 0=True:=by
 apply eq_true
 cases e<;>simp[E.hJ,bu,dY,bb,cc]
theorem mw(e:E):e.hJ.headD .any=.v (.string (mk e.at)):=by cases e<;>rfl
theorem ui(x:E)(l:List E):an Tryz.prog 121 [.agg [.v (.string (mk [])),.sl (E.bn (x::l))]] [] (bB (.v (.string (mk x.at)))):=by
 refine Hi _ _ ((cc _).mpr trivial) ?_
 simp only[BM,E.bn,↓zq,zs,ac,zt,bB,fZ,mw,aq]
 refine⟨fun h=>absurd rfl h,fun _=>⟨fun h=>by omega,fun _=>⟨by omega,by omega⟩⟩⟩
theorem Ow:an Tryz.prog 121 [.agg [.v (.string (mk [])),.sl (E.bn [])]] [] (bB (.v (.string (mk [])))):=by
 refine Hi _ _ ((cc _).mpr trivial) ?_
 simp only[BM,E.bn,↓zq,zs,ac,zt,bB,fZ,mw,aq]
 simp
def jA:E->Bool
 | .atom s=>(s==[48])||(s==[49])||gO s||cZ s
 | .list [x,a,b]=>if x.at=[43]then jA a&&jA b else if x.at=[42]then jA a&&jA b else if x.at=[114,101,99]then cZ a.at&&jA b else false
 | .list _=>false
theorem yN:∀(e:E),e.ok->an Tryz.prog 165 [e.kj] [] (bB (.v (.bool (jA e))))
 |
  .atom s,hok=>by
  refine KK _ _ ((bb).mpr trivial) ?_
  have hne:s≠[]:=hok
  simp only[wH,↓zq,zs,ac,zt,bB,jA]
  refine⟨fun _=>⟨fun h=>?_,fun h=>⟨fun h1=>?_,fun h1=>?_⟩⟩,fun h=>absurd h hne⟩
  ·simp[h]
  ·simp[h1]
  ·refine ah (Es s) ?_
   simp only[↓zq,zs,ac]
   refine⟨fun hp=>?_,fun hp=>?_⟩
   ·simp[hp]
   ·refine ah (Fa s) ?_
    simp[↓zq,zs,ac,hp,h,h1]
 |
  .list l,hok=>by
  refine KK _ _ ((cc _).mpr trivial) ?_
  match l,hok with
  |[],hok=>simp[wH,E.bn,↓zq,zs,ac,zt,bB,jA]
  |[x],hok=>simp[wH,E.bn,↓zq,zs,ac,zt,bB,jA]
  |[x,y],hok=>simp[wH,E.bn,↓zq,zs,ac,zt,bB,jA]
  |
   x::y::z::w::l,hok =>
   simp only[wH,E.bn,↓zq,zs,ac,zt,bB,jA]
   exact⟨fun h=>absurd rfl h,fun _=>⟨fun _=>trivial,fun h=>by omega⟩⟩
  |
   [x,y,z],hok =>
   obtain⟨ok1,ok2,ok3,_⟩:=hok
   simp only[wH,↓zq,zs,ac,zt,bB]
   refine⟨fun h=>absurd rfl h,fun _=>⟨fun h=>absurd rfl h,fun _=>?_⟩⟩
   refine ah (ui x _) ?_
   simp only[E.bn,toNat_one,bj,↓zq,zs,ac,zt,iG,fZ,iL,mw,aq,jA]
   refine⟨fun h=>?_,fun h=>⟨fun h1=>?_,fun h1=>⟨fun h2=>?_,fun h2=>?_⟩⟩⟩
   ·rw[if_pos h]
    refine⟨by omega,ah (yN y ok2) ?_⟩
    simp only[↓zq,zs,ac]
    refine⟨fun hy=>⟨by omega,ah (yN z ok3) ?_⟩,fun hy=>?_⟩
    ·simp only[↓zq,zs,ac,hy,bO]
    ·rw[hy];rfl
   ·rw[if_neg h,if_pos h1]
    refine⟨by omega,ah (yN y ok2) ?_⟩
    simp only[↓zq,zs,ac]
    refine⟨fun hy=>⟨by omega,ah (yN z ok3) ?_⟩,fun hy=>?_⟩
    ·simp only[↓zq,zs,ac,hy,bO]
    ·rw[hy];rfl
   ·rw[if_neg h,if_neg h1,if_pos h2]
    refine⟨by omega,by omega,ah (Fa _) ?_⟩
    simp only[↓zq,zs,ac]
    refine⟨fun hy=>⟨by omega,ah (yN z ok3) ?_⟩,fun hy=>?_⟩
    ·simp only[↓zq,zs,ac,hy,bO]
    ·rw[hy];rfl
   ·rw[if_neg h,if_neg h1,if_neg h2]
theorem iJ:∀(e:E) (ar:List (List UInt8)),(cP e ar).isSome=jA e
 |
  .atom s,ar=>by
  simp only[cP,jA]
  by_cases h:s=[48]
  ·simp[h]
  ·by_cases h1:s=[49]
   ·simp[h1]
   ·rw[if_neg h,if_neg h1]
    by_cases h2:gO s=true
    ·simp[h2]
    ·rw[if_neg h2]
     by_cases h3:cZ s=true
     ·rw[if_pos h3];cases bH s ar ar.length<;>simp[h3]
     ·rw[if_neg h3];simp[h,h1,h2,h3]
 | .list [],_=>rfl
 | .list [_],_=>rfl
 | .list [_,_],_=>rfl
 | .list (_::_::_::_::_),_=>rfl
 |
  .list [x,a,b],ar=>by
  have ha:=iJ a ar
  have hb:=iJ b ar
  have hb2:=iJ b (ar++[a.at])
  rw[jA]
  by_cases h:x.at=[43]
  ·rw[kS ar h,if_pos h,<-ha,<-hb];cases cP a ar<;>cases cP b ar<;>rfl
  ·by_cases h1:x.at=[42]
   ·rw[jC ar h1,if_neg h,if_pos h1,<-ha,<-hb];cases cP a ar<;>cases cP b ar<;>rfl
   ·by_cases h2:x.at=[114,101,99]
    ·rw[lW ar h2,if_neg h,if_neg h1,if_pos h2,<-hb2]
     cases cZ a.at<;>cases cP b (ar++[a.at])<;>rfl
    ·rw[iS ar h h1 h2,if_neg h,if_neg h1,if_neg h2];rfl
mutual
def E.dy:E->Nat
 | .atom _=>1
 | .list l=>E.fF l
def E.fF:List E->Nat
 |[]=>0
 |e::l=>e.dy+E.fF l
end
mutual
theorem iN:∀e:E,e.dy<=e.sz
 | .atom s=>by simp[E.dy,E.sz]
 | .list l=>by have:=tR l;simp only[E.dy,E.sz];omega
theorem tR:∀l:List E,E.fF l<=E.jM l
 |[]=>by simp[E.fF,E.jM]
 |e::l=>by have:=iN e;have:=tR l;simp only[E.fF,E.jM];omega
end
theorem jv:∀(l:List E) (i:Nat) (h:i<l.length),(E.bn l).getD i []=(l[i]).hJ
 |e::l,0,_=>rfl
 |
  e::l,i+1,h=>by
  have:=jv l i (by simpa using h)
  simp only[E.bn,List.getD_cons_succ,List.getElem_cons_succ];exact this
theorem zl:∀(l:List E) (i:Nat) (h:i<l.length),E.fF (l.drop i)=(l[i]).dy+E.fF (l.drop (i+1)):=by
 intro l i h
 rw[aL h];rfl
theorem tu:∀(l:List E) (i:Nat) (h:i<l.length),E.Cg l->(l[i]).ok
 |e::l,0,_,h=>h.1
 |e::l,i+1,hi,h=>tu l i (by simpa using hi) h.2
theorem JO(l:List E)(hl:E.fF l<1000000)(hll:l.length<1000000)(ih:∀i (h:i<l.length),an Tryz.prog 140 [(l[i]).kj] [] (bB (.v (.int .i64 ((l[i]).dy:Int))))) :
 ∀(k i n:Nat),i+k=l.length->n+E.fF (l.drop i)<=E.fF l->F5 [.v (.int .i64 (n:Int)),.v (.int .i64 (i:Int))] [.cells [.v (.string (mk [])),.sl (E.bn l)]] (gX 1 [.v (.int .i64 ((n+E.fF (l.drop i):Nat):Int))] [])
 |
  0,i,n,hi,hn=>by
  refine KP _ _ _ _ ?_
  simp only[E8,↓zq,zs,ac,dV]
  have:l.drop i=[]:=bL (by omega)
  refine⟨fun h=>by omega,fun _=>?_⟩
  simp[gX,this,E.fF]
 |
  k+1,i,n,hi,hn=>by
  have hlt:i<l.length:=by omega
  refine KP _ _ _ _ ?_
  simp only[E8,↓zq,zs,ac,zt,dV,jv l i hlt,fZ,iL,iG,aq]
  refine⟨fun _=>⟨by omega,?_⟩,fun h=>by omega⟩
  refine ah (ih i hlt) ?_
  have h1:=zl l i hlt
  simp only[↓zq,zs,ac]
  rw[bq i (by omega),wrap64 _ (by omega) (by omega)]
  have:=JO l hl hll ih k (i+1) (n+(l[i]).dy) (by omega) (by omega)
  rw[h1,<-Nat.add_assoc]
  simpa using this
theorem tW:∀l:List E,l.length<=E.jM l
 |[]=>by simp[E.jM]
 |
  e::l=>by
  have:=tW l
  have:1<=e.sz:=by cases e<;>simp[E.sz]
  simp only[E.jM,aB];omega
theorem tS:∀(l:List E) (i:Nat) (h:i<l.length),(l[i]).sz<=E.jM l
 |e::l,0,_=>by simp[E.jM]
 |e::l,i+1,h=>by have:=tS l i (by simpa using h);simp only[E.jM,List.getElem_cons_succ];omega
theorem Hz:∀(n:Nat) (e:E),e.sz<n->e.ok->e.sz<1000000->an Tryz.prog 140 [e.kj] [] (bB (.v (.int .i64 (e.dy:Int))))
 |0,e,hn,_,_=>by omega
 |
  n+1,.atom s,hn,hok,hl=>by
  refine Kk _ _ ((bb).mpr trivial) ?_
  have hne:s≠[]:=hok
  simp only[Ey,↓zq,zs,ac,zt,bB]
  exact⟨fun _=>rfl,fun h=>absurd h hne⟩
 |
  n+1,.list l,hn,hok,hl=>by
  refine Kk _ _ ((cc _).mpr trivial) ?_
  simp only[E.sz]at hn hl
  have h1:=tR l
  have h2:=tW l
  simp only[Ey,↓zq,zs,ac,zt,bB]
  refine⟨fun h=>absurd rfl h,fun _=>?_⟩
  refine cq (JO l (by omega) (by omega) (fun i hi=>?_) l.length 0 0 (by omega) (by simp)) ?_
  ·have:=tS l i hi
   exact Hz n (l[i]) (by omega) (tu l i hi hok) (by omega)
  ·simp[↓zq,zs,ac,E.dy]
theorem FG(e:E)(h:e.ok)(hl:e.sz<1000000):an Tryz.prog 140 [e.kj] [] (bB (.v (.int .i64 (e.dy:Int)))):=Hz (e.sz+1) e (by omega) h hl
theorem tn{x:E}(h:x.at≠[]):x.dy=1:=by cases x<;>simp[E.at,E.dy]at h |-
theorem BC{s:List UInt8}(h:cZ s=true):s≠[]:=by rintro rfl;cases h
theorem jO:∀(e:E) (ar:List (List UInt8)) (t:Ty),cP e ar=some t->e.dy=t.az
 |
  .atom s,ar,t,h=>by
  simp only[cP]at h
  simp only[E.dy]
  split at h
  ·cases h;rfl
  ·split at h
   ·cases h;rfl
   ·split at h
    ·cases h;rfl
    ·split at h
     ·split at h<;>cases h<;>rfl
     ·cases h
 | .list [],_,_,h=>by cases h
 | .list [_],_,_,h=>by cases h
 | .list [_,_],_,_,h=>by cases h
 | .list (_::_::_::_::_),_,_,h=>by cases h
 |
  .list [x,a,b],ar,t,h=>by
  simp only[E.dy,E.fF]
  by_cases h0:x.at=[43]
  ·rw[kS ar h0]at h
   have:=tn (x:=x) (by rw[h0];simp)
   split at h
   ·rename_i t1 t2 e1 e2
    cases h
    have:=jO a ar _ e1
    have:=jO b ar _ e2
    simp only[Ty.az];omega
   ·cases h
  ·by_cases h1:x.at=[42]
   ·rw[jC ar h1]at h
    have:=tn (x:=x) (by rw[h1];simp)
    split at h
    ·rename_i t1 t2 e1 e2
     cases h
     have:=jO a ar _ e1
     have:=jO b ar _ e2
     simp only[Ty.az];omega
    ·cases h
   ·by_cases h2:x.at=[114,101,99]
    ·rw[lW ar h2]at h
     have:=tn (x:=x) (by rw[h2];simp)
     split at h
     ·rename_i hl
      have:=tn (BC hl)
      split at h
      ·rename_i t1 e1
       cases h
       have:=jO b _ _ e1
       simp only[Ty.az];omega
      ·cases h
     ·cases h
    ·rw[iS ar h0 h1 h2]at h;cases h
def jR(x:Option E)(b:Bool):AV->List Ob->Prop:=fun r o=>∃c:List UInt8,∃d:AV,LK.sl.has d/\r=.cv [.agg [.v (.string (mk c)),d],.v (.bool b)]/\(b=true->∃e,x=some e/\AV.agg [.v (.string (mk c)),d]=e.kj)
theorem Bn(e:E):∃c:List UInt8,∃d:AV,LK.sl.has d/\e.kj=AV.agg [.v (.string (mk c)),d]:=by
 cases e with
 |atom s=>exact⟨s,_,(bb).mpr trivial,rfl⟩
 |list l=>exact⟨[],_,(cc _).mpr trivial,rfl⟩
theorem jR.ne(x:Option E)(b:Bool)(h:b=true->x.isSome=true):∃r o,jR x b r o:=by
 cases b with
 |false=>exact⟨_,[],[],.v (.slice none 0 0),(bb).mpr trivial,rfl,fun h=>by cases h⟩
 |
  true =>
  cases x with
  |none=>cases h rfl
  |
   some e =>
   obtain⟨c,d,hd,he⟩:=Bn e
   exact⟨_,[],c,d,hd,rfl,fun _=>⟨e,rfl,he.symm⟩⟩
theorem Kf(s:List UInt8):an Tryz.prog 122 [.v (.string (mk s))] [] (jR (qk s) (qk s).isSome):=by
 refine Nt _ ?_
 simp only[HN,↓zq,zs,ac,zt,qk]
 refine⟨fun h=>?_,fun h=>?_⟩
 ·rw[if_pos (by omega)]
  exact⟨[],_,(bb).mpr trivial,rfl,fun h=>by cases h⟩
 ·rw[if_neg (by omega)]
  refine bC (NO s (by omega) 300 (by omega) 0 (by omega)) (Cp.ne _ _) ?_
  rintro r o ⟨rfl,hr⟩
  rw[a6]at hr
  cases hq:rd 300 s with
  |
   none =>
   rw[hq]at hr
   obtain⟨c,d,hd,rfl⟩:=hr
   simp only[↓zq,zs,ac,zt,bu]
   refine⟨hd,c,d,hd,?_,fun h=>by cases h⟩
   have:((-1:Int)==(s.length:Int))=false:=by
    rw[beq_eq_false_iff_ne];omega
   rw[this];rfl
  |
   some q =>
   obtain⟨e,u⟩:=q
   rw[hq]at hr
   subst hr
   have hlt:=xL _ _ _ _ hq
   obtain⟨c,d,hd,he⟩:=Bn e
   simp only[he,↓zq,zs,ac,zt,bu]
   cases u with
   |
    nil =>
    refine⟨hd,c,d,hd,?_,fun _=>⟨e,rfl,he.symm⟩⟩
    simp
   |
    cons b u =>
    simp only[aB]at hlt |-
    refine⟨hd,c,d,hd,?_,fun h=>by cases h⟩
    have:(((s.length-(u.length+1):Nat):Int)==(s.length:Int))=false:=by simp;omega
    rw[this];rfl
def vC(s:List UInt8):Option E:=match qk s with
 |none=>none
 |some e=>if jA e=true/\e.dy<=400 then some e else none
theorem GB(s:List UInt8):an Tryz.prog 132 [.v (.string (mk s))] [] (jR (vC s) (vC s).isSome):=by
 refine N3 _ ?_
 unfold Jk
 refine bC (Kf s) (jR.ne _ _ (fun h=>h)) ?_
 rintro r o ⟨c,d,hd,rfl,hh⟩
 simp only[↓zq,zs,ac,zt,bu,vC]
 refine⟨hd,fun h=>?_,fun h=>?_⟩
 ·obtain⟨e,he,hce⟩:=hh h
  obtain⟨hok,hsz⟩:=ny he
  rw[he,hce]
  refine ah (yN e hok) ?_
  simp only[↓zq,zs,ac]
  refine⟨fun hi=>?_,fun hi=>?_⟩
  ·refine ah (FG e hok (by omega)) ?_
   simp only[↓zq,zs,ac,hi]
   refine⟨c,d,hd,?_,?_⟩
   ·rw[hce]
    by_cases h4:e.dy<=400
    ·rw[if_pos h4];exact congrArg (fun b=>AV.cv [e.kj,.v (.bool b)]) (decide_eq_true (show ((e.dy:Nat):Int)<=400 by omega))
    ·rw[if_neg h4];exact congrArg (fun b=>AV.cv [e.kj,.v (.bool b)]) (decide_eq_false (show ¬((e.dy:Nat):Int)<=400 by omega))
   ·split
    ·exact fun _=>⟨e,rfl,hce⟩
    ·exact fun h=>by cases h
  ·refine⟨c,d,hd,?_,?_⟩
   ·rw[hce,if_neg (by rw[hi];simp)];rfl
   ·rw[if_neg (by rw[hi];simp)];exact fun h=>by cases h
 ·have hn:qk s=none:=by cases hq:qk s<;>simp[hq]at h |-
  rw[hn]
  exact⟨c,d,hd,rfl,fun h=>by cases h⟩
theorem pj{s:List UInt8}{e:E}(h:vC s=some e):qk s=some e/\jA e=true/\e.dy<=400:=by
 unfold vC at h
 split at h
 ·cases h
 ·split at h
  ·rename_i e' h1 h2;cases h;exact⟨h1,h2⟩
  ·cases h
end Go.Proofs.Trees
namespace Go.Proofs.Trees
open Go Go.VL
def bW:Ty->Bool
 | .name s=>cZ s
 | .plus a b=>bW a||bW b
 | .times a b=>bW a||bW b
 | .rc a=>bW a
 |_=>false
theorem gL:∀(t:Ty) (out:List (List UInt8)),(bF t out).any cZ=(out.any cZ||bW t)
 |
  .name s,out=>by
  simp only[bF,pi,bW]
  split
  ·rename_i h
   cases hs:cZ s with
   |false=>simp
   |true=>rw[Bool.or_true,ci];exact⟨s,h,hs⟩
  ·simp
 | .plus a b,out=>by simp only[bF,bW,gL a,gL b,Bool.or_assoc]
 | .times a b,out=>by simp only[bF,bW,gL a,gL b,Bool.or_assoc]
 | .rc a,out=>by simp only[bF,bW,gL a]
 | .zero,out=>by simp[bF,bW]
 | .one,out=>by simp[bF,bW]
 | .bN u,out=>by simp[bF,bW]
theorem sJ(t:Ty):t.closed = !bW t:=by simp[Ty.closed,gL]
def pl:Ty->Bool
 | .name s=>decide (s.length<=1)
 | .plus a b=>pl a&&pl b
 | .times a b=>pl a&&pl b
 | .rc a=>false
 |_=>true
theorem ly{lo hi:Nat}{s:List UInt8}(h:named lo hi s=true):∃c r,s=c::r/\lo<=c.toNat/\c.toNat<=hi:=by
 cases s with
 |nil=>cases h
 |cons c r=>simp only[named,ap,decide_eq_true_eq]at h;exact⟨c,r,rfl,by omega,by omega⟩
theorem fu{x a b:E}{ar:List (List UInt8)}{t:Ty}(hx:x.at=[43])(h:cP (.list [x,a,b]) ar=some t):∃t1 t2,cP a ar=some t1/\cP b ar=some t2/\t=.plus t1 t2:=by
 rw[kS ar hx]at h
 split at h
 ·rename_i t1 t2 e1 e2;cases h;exact⟨t1,t2,e1,e2,rfl⟩
 ·cases h
theorem eQ{x a b:E}{ar:List (List UInt8)}{t:Ty}(hx:x.at=[42])(h:cP (.list [x,a,b]) ar=some t):∃t1 t2,cP a ar=some t1/\cP b ar=some t2/\t=.times t1 t2:=by
 rw[jC ar hx]at h
 split at h
 ·rename_i t1 t2 e1 e2;cases h;exact⟨t1,t2,e1,e2,rfl⟩
 ·cases h
theorem dx{x a b:E}{ar:List (List UInt8)}{t:Ty}(hx:x.at=[114,101,99])(h:cP (.list [x,a,b]) ar=some t):∃t1,cZ a.at=true/\cP b (ar++[a.at])=some t1/\t=.rc t1:=by
 rw[lW ar hx]at h
 split at h
 ·rename_i hl
  split at h
  ·rename_i t1 e1;cases h;exact⟨t1,hl,e1,rfl⟩
  ·cases h
 ·cases h
theorem tG{s:List UInt8}:p9 s=match vC s with|none=>none|some e=>cP e []:=by
 unfold p9 vC
 cases he:qk s with
 |none=>rfl
 |
  some e =>
  have hs:=iJ e []
  simp only
  cases ht:cP e []with
  |
   none =>
   rw[ht]at hs
   rw[if_neg (by rw[<-hs];simp)]
  |
   some t =>
   rw[ht]at hs
   have ha:=jO e [] t ht
   by_cases h4:e.dy<=400
   ·rw[if_pos ⟨hs.symm,h4⟩];dsimp only;rw[if_neg (by omega)];exact ht.symm
   ·rw[if_neg (fun h=>h4 h.2)];dsimp only;rw[if_pos (by omega)]
end Go.Proofs.Trees
namespace Go.Proofs.Trees
open Go Go.VL
def pure:Ty->Bool
 | .zero=>true
 | .one=>true
 | .name s=>(s==[120])||(s==[121])||(s==[122])
 | .plus a b=>pure a&&pure b
 | .times a b=>pure a&&pure b
 |_=>false
def Mk(v:Nat):Option Nat:=if v<=1000000000 then some v else none
def Hp(n:Nat):Ty->Option Nat
 | .zero=>some 0
 | .one=>some 1
 | .name _=>some n
 | .plus a b=>match Hp n a,Hp n b with|some x,some y=>Mk (x+y)|_,_=>none
 | .times a b=>match Hp n a,Hp n b with|some x,some y=>Mk (x*y)|_,_=>none
 |_=>none
def ID(x:Option Nat):AV->List Ob->Prop:=fun r o=>∃v:Int,r=.cv [.v (.int .i64 v),.v (.bool x.isSome)]/\∀c,x=some c->v=(c:Int)
theorem ID.ne(x:Option Nat):∃r o,ID x r o:=by
 cases x with
 |none=>exact⟨_,[],0,rfl,fun c h=>by cases h⟩
 |some c=>exact⟨_,[],(c:Int),rfl,fun c' h=>by cases h;rfl⟩
end Go.Proofs.Trees
namespace Go.Proofs.Trees
open Go Go.VL Go.RowKit
abbrev dd(n:Nat):List UInt8:=Lib.decDigits n
theorem eH{k:Nat}(h:k<10):dd k=[bi (48+k)]:=by rw[dd,Lib.decDigits,dif_pos h]
theorem fI{k:Nat}(h:¬k<10):dd k=dd (k/10)++[bi (48+k%10)]:=by rw[dd,Lib.decDigits,dif_neg h]
theorem ml:∀(n k:Nat),k<n->(dd k).length<=k+1
 |0,k,h=>by omega
 |
  n+1,k,h=>by
  by_cases h1:k<10
  ·rw[eH h1];simp
  ·rw[fI h1]
   have:=ml n (k/10) (by omega)
   simp only[ax,aB,aJ];omega
theorem xk(d:Nat)(h:d<10):(Value.int .u8 (IntKind.wrap .u8 (IntKind.wrap .i64 (48+(d:Int)))))=.int .u8 ((bi (48+d)).toNat:Int):=by
 have:d=0\/d=1\/d=2\/d=3\/d=4\/d=5\/d=6\/d=7\/d=8\/d=9:=by omega
 rcases this with rfl|rfl|rfl|rfl|rfl|rfl|rfl|rfl|rfl|rfl<;>rfl
theorem pB(b:UInt8):bytesOf [[.v (.int .u8 (b.toNat:Int))]]=[b]:=by simp[bytesOf,wX]
theorem kz(b:UInt8):jn [[.v (.int .u8 (b.toNat:Int))]]:=⟨rfl,(mE _ _).mpr trivial,trivial⟩
theorem zS:∀(n k:Nat),k<n->k<1000000000->an Tryz.prog 142 [.v (.int .i64 (k:Int))] [] (bB (.v (.string (mk (dd k)))))
 |0,k,h,_=>by omega
 |
  n+1,k,h,hk=>by
  refine Pb _ ?_
  simp only[LS,↓zq,zs,ac,bB]
  refine⟨fun h=>by omega,fun _=>⟨fun h=>by omega,fun _=>⟨fun h1=>?_,fun h1=>⟨by omega,?_⟩⟩⟩⟩
  ·rw[xk k (by omega)]
   refine⟨kz _,?_⟩
   rw[pB,eH (by omega)];rfl
  ·have e1:IntKind.wrap .i64 (Int.tdiv (k:Int) 10)=((k/10:Nat):Int):=by
    rw[show Int.tdiv (k:Int) 10=((k/10:Nat):Int) from (Int.ofNat_tdiv k 10).symm,wrap64 _ (by omega) (by omega)]
   have e2:Int.tmod (k:Int) 10=((k%10:Nat):Int):=(Int.ofNat_tmod k 10).symm
   rw[e1,e2,xk (k%10) (by omega)]
   refine ah (zS n (k/10) (by omega) (by omega)) ?_
   have hl:=ml (k+1) (k/10) (by omega)
   simp only[↓zq,zs,ac,zt,pB]
   have h9:(k:Int)<1000000000:=by omega
   refine⟨by omega,kz _,?_,?_⟩
   ·show (mk (dd (k/10))).size+(mk [bi (48+k%10)]).size<=_
    rw[cG,cG];simp;omega
   ·show AV.v (.string (mk (dd (k/10))++mk [bi (48+k%10)]))=_
    rw[kH,fI (k:=k) (by omega)]
theorem Ch(s:List UInt8)(d:AV)(hd:LK.sl.has d)(h:s≠[]):an Tryz.prog 121 [.agg [.v (.string (mk s)),d]] [] (bB (.v (.string (mk [])))):=by
 refine Hi _ _ hd ?_
 simp only[BM,↓zq,zs,ac,zt,bB]
 exact⟨fun _=>trivial,fun h'=>absurd h' h⟩
theorem C6(e:E):AV.agg [.v (.string ((e.kj.cs.getD 0 .any).ai)),e.kj.cs.getD 1 .any]=e.kj:=by cases e<;>rfl
mutual
def fN:E->List UInt8
 | .atom s=>s
 | .list []=>[40,41]
 | .list (e::l)=>40::(fN e++(ei l++[41]))
def ei:List E->List UInt8
 |[]=>[]
 |e::l=>32::(fN e++ei l)
end
theorem za:∀(l:List E) (i:Nat) (h:i<l.length),ei (l.drop i)=32::(fN l[i]++ei (l.drop (i+1))):=by
 intro l i h
 rw[aL h,ei]
theorem IV(l:List E)(hll:l.length<1000000000000)(ih:∀i (h:i<l.length),an Tryz.prog 97 [(l[i]).kj] [] (bB (.v (.string (mk (fN l[i])))))) :
 ∀(k i:Nat) (out:List UInt8),i+k=l.length->1<=i->out.length+(ei (l.drop i)).length<=1000000000000->Aj [.v (.string (mk out)),.v (.int .i64 (i:Int))] [.cells [.v (.string (mk [])),.sl (E.bn l)]] (gX 1 [.v (.string (mk (out++ei (l.drop i))))] [])
 |
  0,i,out,hi,h1,hn=>by
  refine B6 _ _ _ _ ?_
  simp only[z6,↓zq,zs,ac,dV]
  have:l.drop i=[]:=bL (by omega)
  refine⟨fun h=>by omega,fun _=>?_⟩
  simp[gX,this,ei]
 |
  k+1,i,out,hi,h1,hn=>by
  have hlt:i<l.length:=by omega
  have hd:=za l i hlt
  rw[hd]at hn
  simp only[aB,ax]at hn
  refine B6 _ _ _ _ ?_
  simp only[z6,↓zq,zs,ac,zt,dV,jv l i hlt,fZ,iL,iG,aq]
  refine⟨fun _=>⟨fun _=>⟨by omega,by omega,?_⟩,fun h=>by omega⟩,fun h=>by omega⟩
  refine ah (ih i hlt) ?_
  simp only[↓zq,zs,ac,zt]
  refine⟨by simp;omega,?_⟩
  rw[bq i (by omega),hd]
  have:=IV l hll ih k (i+1) (out++[32]++fN l[i]) (by omega) (by omega) (by simp;omega)
  simpa using this
theorem yb:∀(l:List E) (i:Nat) (h:i<l.length),(fN l[i]).length<=(ei l).length
 |e::l,0,_=>by simp only[ei,List.getElem_cons_zero,aB,ax];omega
 |e::l,i+1,h=>by have:=yb l i (by simpa using h);simp only[ei,List.getElem_cons_succ,aB,ax];omega
theorem ry:∀l:List E,l.length<=(ei l).length
 |[]=>by simp[ei]
 |e::l=>by have:=ry l;simp only[ei,aB,ax];omega
theorem E2:∀(n:Nat) (e:E),e.sz<n->e.ok->(fN e).length<=900000000000->an Tryz.prog 97 [e.kj] [] (bB (.v (.string (mk (fN e)))))
 |0,e,hn,_,_=>by omega
 |
  n+1,.atom s,hn,hok,hl=>by
  refine Ha _ _ ((bb).mpr trivial) ?_
  have hne:s≠[]:=hok
  simp only[CN,↓zq,zs,ac,zt,bB]
  exact⟨fun _=>rfl,fun h=>absurd h hne⟩
 |
  n+1,.list [],hn,hok,hl=>by
  refine Ha _ _ ((cc _).mpr trivial) ?_
  simp only[CN,↓zq,zs,ac,zt,bB]
  refine⟨fun h=>absurd rfl h,fun _=>?_⟩
  have h1:Aj [.v (.string (mk [40])),.v (.int .i64 0)] [.cells [.v (.string (mk [])),.sl (E.bn [])]] (gX 1 [.v (.string (mk [40]))] []):=by
   refine B6 _ _ _ _ ?_
   simp[z6,↓zq,zs,ac,E.bn,gX]
  refine cq h1 ?_
  simp only[↓zq,zs,ac,zt]
  exact⟨by simp,rfl⟩
 |
  n+1,.list (x::l),hn,hok,hl=>by
  refine Ha _ _ ((cc _).mpr trivial) ?_
  simp only[E.sz,E.jM]at hn
  simp only[fN,aB,ax,aJ]at hl
  have h2:=ry l
  simp only[CN,↓zq,zs,ac,zt,bB]
  refine⟨fun h=>absurd rfl h,fun _=>?_⟩
  have hL:Aj [.v (.string (mk [40])),.v (.int .i64 0)] [.cells [.v (.string (mk [])),.sl (E.bn (x::l))]] (gX 1 [.v (.string (mk ([40]++fN x++ei l)))] []):=by
   refine B6 _ _ _ _ ?_
   simp only[z6,E.bn,Int.toNat_zero,↓zq,zs,ac,zt,dV,fZ,iL,iG,aq]
   refine⟨fun _=>⟨fun h=>by omega,fun _=>⟨by omega,?_⟩⟩,fun h=>by omega⟩
   refine ah (E2 n x (by omega) hok.1 (by omega)) ?_
   simp only[↓zq,zs,ac,zt]
   refine⟨by simp;omega,?_⟩
   have:=IV (x::l) (by simp;omega) (fun i hi=>by
    have h3:=tS (x::l) i hi
    simp only[E.jM]at h3
    refine E2 n _ (by omega) (tu _ i hi hok) ?_
    have h4:=yb (x::l) i hi
    simp only[ei,aB,ax]at h4
    omega) l.length 1 ([40]++fN x) (by simp;omega) (by omega) (by simp;omega)
   rw[show IntKind.wrap .i64 (0+1)=1 from rfl]
   simpa[E.bn]using this
  refine cq hL ?_
  simp only[↓zq,zs,ac,zt]
  refine⟨by simp;omega,?_⟩
  simp[fN]
theorem BL(e:E)(h:e.ok)(hl:(fN e).length<=900000):an Tryz.prog 97 [e.kj] [] (bB (.v (.string (mk (fN e))))):=E2 (e.sz+1) e (by omega) h (by omega)
mutual
def E.nd:E->Nat
 | .atom _=>1
 | .list []=>1
 | .list (_::l)=>1+E.ug l
def E.ug:List E->Nat
 |[]=>0
 |e::l=>e.nd+E.ug l
end
mutual
theorem zQ:∀e:E,e.nd<=e.sz
 | .atom s=>by simp[E.nd,E.sz]
 | .list []=>by simp[E.nd,E.sz,E.jM]
 | .list (x::l)=>by have:=ww l;simp only[E.nd,E.sz,E.jM];omega
theorem ww:∀l:List E,E.ug l<=E.jM l
 |[]=>by simp[E.ug,E.jM]
 |e::l=>by have:=zQ e;have:=ww l;simp only[E.ug,E.jM];omega
end
theorem BB:∀(l:List E) (i:Nat) (h:i<l.length),E.ug (l.drop i)=(l[i]).nd+E.ug (l.drop (i+1)):=by
 intro l i h
 rw[aL h];rfl
theorem MB(l:List E)(hl:E.ug l<1000000)(hll:l.length<1000000)(ih:∀i (h:i<l.length),an Tryz.prog 124 [(l[i]).kj] [] (bB (.v (.int .i64 ((l[i]).nd:Int))))) :
 ∀(k i n:Nat),i+k=l.length->n+E.ug (l.drop i)<=1+E.ug l->Ax [.v (.int .i64 (n:Int)),.v (.int .i64 (i:Int))] [.cells [.v (.string (mk [])),.sl (E.bn l)]] (gX 1 [.v (.int .i64 ((n+E.ug (l.drop i):Nat):Int))] [])
 |
  0,i,n,hi,hn=>by
  refine Dd _ _ _ _ ?_
  simp only[zL,↓zq,zs,ac,dV]
  have:l.drop i=[]:=bL (by omega)
  refine⟨fun h=>by omega,fun _=>?_⟩
  simp[gX,this,E.ug]
 |
  k+1,i,n,hi,hn=>by
  have hlt:i<l.length:=by omega
  refine Dd _ _ _ _ ?_
  simp only[zL,↓zq,zs,ac,zt,dV,jv l i hlt,fZ,iL,iG,aq]
  refine⟨fun _=>⟨by omega,?_⟩,fun h=>by omega⟩
  refine ah (ih i hlt) ?_
  have h1:=BB l i hlt
  simp only[↓zq,zs,ac]
  rw[bq i (by omega),wrap64 _ (by omega) (by omega)]
  have:=MB l hl hll ih k (i+1) (n+(l[i]).nd) (by omega) (by omega)
  rw[h1,<-Nat.add_assoc]
  simpa using this
theorem MH:∀(n:Nat) (e:E),e.sz<n->e.sz<900000->an Tryz.prog 124 [e.kj] [] (bB (.v (.int .i64 (e.nd:Int))))
 |0,e,hn,_=>by omega
 |
  n+1,.atom s,hn,hl=>by
  refine LL _ _ ((bb).mpr trivial) ?_
  simp only[Fj]
  have hL:Ax [.v (.int .i64 1),.v (.int .i64 1)] [.cells [.v (.string (mk s)),.v (.slice none 0 0)]] (gX 1 [.v (.int .i64 1)] []):=by
   refine Dd _ _ _ _ ?_
   simp[zL,↓zq,zs,ac,gX]
  refine cq hL ?_
  simp[↓zq,zs,ac,bB,E.nd]
 |
  n+1,.list l,hn,hl=>by
  refine LL _ _ ((cc _).mpr trivial) ?_
  simp only[E.sz]at hn hl
  simp only[Fj]
  match l,hn,hl with
  |
   [],hn,hl =>
   have hL:Ax [.v (.int .i64 1),.v (.int .i64 1)] [.cells [.v (.string (mk [])),.sl (E.bn [])]] (gX 1 [.v (.int .i64 1)] []):=by
    refine Dd _ _ _ _ ?_
    simp[zL,↓zq,zs,ac,gX,E.bn]
   refine cq hL ?_
   simp[↓zq,zs,ac,bB,E.nd]
  |
   x::l,hn,hl =>
   simp only[E.jM]at hn hl
   have h1:=ww l
   have h2:=tW l
   have h0:=zQ x
   refine cq (MB (x::l) (by simp only[E.ug];omega) (by simp;omega) (fun i hi=>?_) l.length 1 1 (by simp;omega) (by simp[E.ug])) ?_
   ·have:=tS (x::l) i hi
    simp only[E.jM]at this
    exact MH n _ (by omega) (by omega)
   ·simp[↓zq,zs,ac,E.nd,bB]
theorem PW(e:E)(hl:e.sz<900000):an Tryz.prog 124 [e.kj] [] (bB (.v (.int .i64 (e.nd:Int)))):=MH (e.sz+1) e (by omega) hl
inductive Vl where
 |u
 |el (k:Nat)
 |l (v:Vl)
 |r (v:Vl)
 |f (v:Vl)
 |p (a b:Vl)
abbrev vF(k:Nat):List UInt8:=101::dd k
abbrev ir:AV:=.v (.pointer none)
def Vl.cu:Vl->AV
 | .u=>.ptr [.v (.int .u8 117),.v (.string (mk [])),ir,ir]
 | .el k=>.ptr [.v (.int .u8 101),.v (.string (mk (vF k))),ir,ir]
 | .l v=>.ptr [.v (.int .u8 108),.v (.string (mk [])),v.cu,ir]
 | .r v=>.ptr [.v (.int .u8 114),.v (.string (mk [])),v.cu,ir]
 | .f v=>.ptr [.v (.int .u8 102),.v (.string (mk [])),v.cu,ir]
 | .p a b=>.ptr [.v (.int .u8 112),.v (.string (mk [])),a.cu,b.cu]
def Vl.cE:Vl->E
 | .u=>.atom [117]
 | .el k=>.atom (vF k)
 | .l v=>.list [.atom [108],v.cE]
 | .r v=>.list [.atom [114],v.cE]
 | .f v=>.list [.atom [102],v.cE]
 | .p a b=>.list [.atom [112],a.cE,b.cE]
def Vl.nodes:Vl->Nat
 | .l v=>1+v.nodes
 | .r v=>1+v.nodes
 | .f v=>1+v.nodes
 | .p a b=>1+a.nodes+b.nodes
 |_=>1
def Vl.iA(n:Nat):Vl->Prop
 | .el k=>k<n
 | .l v=>v.iA n
 | .r v=>v.iA n
 | .f v=>v.iA n
 | .p a b=>a.iA n/\b.iA n
 | .u=>True
abbrev Vl.cN(v:Vl):List UInt8:=fN v.cE
theorem aH(v:Vl):LK.has .ptr v.cu=True:=by cases v<;>simp[Vl.cu,bY]
theorem fe(v:Vl):v.cu.isNil=false:=by cases v<;>rfl
theorem l6:∀v:Vl,v.cE.ok
 | .u=>by simp[Vl.cE,E.ok]
 | .el k=>by simp[Vl.cE,E.ok]
 | .l v=>⟨by simp[E.ok],l6 v,trivial⟩
 | .r v=>⟨by simp[E.ok],l6 v,trivial⟩
 | .f v=>⟨by simp[E.ok],l6 v,trivial⟩
 | .p a b=>⟨by simp[E.ok],l6 a,l6 b,trivial⟩
theorem nk:∀v:Vl,v.cE.nd=v.nodes
 | .u=>rfl
 | .el k=>rfl
 | .l v=>by simp[Vl.cE,E.nd,E.ug,Vl.nodes,nk v]
 | .r v=>by simp[Vl.cE,E.nd,E.ug,Vl.nodes,nk v]
 | .f v=>by simp[Vl.cE,E.nd,E.ug,Vl.nodes,nk v]
 | .p a b=>by simp[Vl.cE,E.nd,E.ug,Vl.nodes,nk a,nk b,Nat.add_assoc]
theorem iT:∀v:Vl,v.iA 100->v.cN.length<=200*v.nodes
 | .u,_=>by simp[Vl.cN,Vl.cE,fN,Vl.nodes]
 |
  .el k,h=>by
  have h':k<100:=h
  have:=ml 1000 k (by omega)
  simp only[Vl.cN,Vl.cE,fN,Vl.nodes,aB];omega
 | .l v,h=>by have:=iT v h;simp only[Vl.cN,Vl.cE,fN,ei,Vl.nodes,aB,ax,aJ]at this |-;omega
 | .r v,h=>by have:=iT v h;simp only[Vl.cN,Vl.cE,fN,ei,Vl.nodes,aB,ax,aJ]at this |-;omega
 | .f v,h=>by have:=iT v h;simp only[Vl.cN,Vl.cE,fN,ei,Vl.nodes,aB,ax,aJ]at this |-;omega
 | .p a b,h=>by have:=iT a h.1;have:=iT b h.2;simp only[Vl.cN,Vl.cE,fN,ei,Vl.nodes,aB,ax,aJ]at *;omega
theorem yL(a b:AV)(h:LK.ptr.has a)(h':LK.ptr.has b):an Tryz.prog 117 [a,b] [] (bB (.ptr [.v (.int .u8 112),.v (.string (mk [])),a,b])):=by
 refine Qi _ _ h h' ?_
 simp[Ix,↓zq,zs,ac,bB]
theorem dA(v:Vl):1<=v.nodes:=by cases v<;>simp[Vl.nodes]<;>omega
theorem Dn:∀(v:Vl),v.nodes<1000000->an Tryz.prog 75 [v.cu] [] (bB (.v (.int .i64 (v.nodes:Int))))
 | .u,h=>by refine yD _ ((aH _).mpr trivial) ?_;simp[wz,Vl.cu,↓zq,zs,ac,bB,Vl.nodes]
 | .el k,h=>by refine yD _ ((aH _).mpr trivial) ?_;simp[wz,Vl.cu,↓zq,zs,ac,bB,Vl.nodes]
 |
  .l v,h=>by
  simp only[Vl.nodes]at h
  refine yD _ ((aH _).mpr trivial) ?_
  simp only[wz,Vl.cu,↓zq,zs,ac,aH,fe]
  refine⟨by omega,fun _=>⟨by omega,?_⟩,fun h=>(by cases h)⟩
  refine ah (Dn v (by omega)) ?_
  simp only[↓zq,zs,ac,bB,Vl.nodes]
  rw[wrap64 _ (by omega) (by omega)]
  simp
 |
  .r v,h=>by
  simp only[Vl.nodes]at h
  refine yD _ ((aH _).mpr trivial) ?_
  simp only[wz,Vl.cu,↓zq,zs,ac,aH,fe]
  refine⟨by omega,fun _=>⟨by omega,?_⟩,fun h=>(by cases h)⟩
  refine ah (Dn v (by omega)) ?_
  simp only[↓zq,zs,ac,bB,Vl.nodes]
  rw[wrap64 _ (by omega) (by omega)]
  simp
 |
  .f v,h=>by
  simp only[Vl.nodes]at h
  refine yD _ ((aH _).mpr trivial) ?_
  simp only[wz,Vl.cu,↓zq,zs,ac,aH,fe]
  refine⟨by omega,fun _=>⟨by omega,?_⟩,fun h=>(by cases h)⟩
  refine ah (Dn v (by omega)) ?_
  simp only[↓zq,zs,ac,bB,Vl.nodes]
  rw[wrap64 _ (by omega) (by omega)]
  simp
 |
  .p a b,h=>by
  simp only[Vl.nodes]at h
  refine yD _ ((aH _).mpr trivial) ?_
  simp only[wz,Vl.cu,↓zq,zs,ac,aH,fe]
  refine⟨by omega,fun _=>⟨by omega,?_⟩,fun h=>(by cases h)⟩
  refine ah (Dn a (by omega)) ?_
  simp only[↓zq,zs,ac,aH,fe]
  rw[wrap64 (1+(a.nodes:Int)) (by omega) (by omega)]
  refine⟨by omega,fun _=>⟨by omega,?_⟩,fun h=>(by cases h)⟩
  refine ah (Dn b (by omega)) ?_
  simp only[↓zq,zs,ac,bB,Vl.nodes]
  rw[wrap64 _ (by omega) (by omega)]
  congr 2
end Go.Proofs.Trees
namespace Go.Proofs.Trees
open Go Go.VL Go.RowKit
def yj:List UInt8->Nat->Option Nat
 |[],n=>some n
 |b::r,n=>if hD b=true then yj r (10*n+(b.toNat-48))else none
def fG(s:List UInt8):Option Nat :=
 if s.length=2\/s.length=3 then(if s.getD 0 0=101/\¬(s.length=3/\s.getD 1 0=48)then yj (s.drop 1) 0 else none)else none
def z8(s:List UInt8):Int:=match fG s with|some k=>(k:Int)|none=>-1
theorem Je(s:List UInt8)(hs:s.length<=3):∀(k i n:Nat),i+k=s.length->1<=i->(n+1)*10 ^ k<=1000->DY [.v (.string (mk s)),.v (.int .i64 (n:Int)),.v (.int .i64 (i:Int))] []
 (ph (match yj (s.drop i) n with|some m=>(1,[.v (.int .i64 (m:Int))],[])|none=>(2,[.v (.int .i64 (-1))],[])))
 |
  0,i,n,hi,h1,hn=>by
  refine I4 _ _ _ ?_
  have hd:s.drop i=[]:=bL (by omega)
  simp only[FH,↓zq,zs,ac,zt,hd,yj]
  exact⟨fun h=>by omega,fun _=>by first|trivial|rfl⟩
 |
  k+1,i,n,hi,h1,hn=>by
  have hlt:i<s.length:=by omega
  refine I4 _ _ _ ?_
  rw[drop_cons hlt,yj]
  simp only[FH,↓zq,zs,ac,zt,lK s i hlt]
  generalize s.getD i 0=b
  have hb:=b.toNat_lt
  refine⟨fun _=>⟨by omega,fun h48=>?_,fun h48=>⟨by omega,fun h57=>?_,fun h57=>⟨by omega,?_⟩⟩⟩,fun h=>by omega⟩
  ·have:hD b=false:=by simp only[hD,decide_eq_false_iff_not];omega
   rw[this];rfl
  ·have:hD b=false:=by simp only[hD,decide_eq_false_iff_not];omega
   rw[this];rfl
  ·have:hD b=true:=by simp only[hD,decide_eq_true_eq];omega
   rw[if_pos this]
   have hk:k=0\/k=1:=by omega
   have hn2:n*10<=1000:=by
    rcases hk with rfl|rfl<;>simp at hn<;>omega
   have e8:IntKind.wrap .u8 ((b.toNat:Int)-48)=((b.toNat-48:Nat):Int):=by
    have:b.toNat=48\/b.toNat=49\/b.toNat=50\/b.toNat=51\/b.toNat=52\/b.toNat=53\/b.toNat=54\/b.toNat=55\/b.toNat=56\/b.toNat=57:=by omega
    rcases this with h|h|h|h|h|h|h|h|h|h<;>rw[h]<;>rfl
   rw[e8,bq i (by omega),wrap64 ((b.toNat-48:Nat):Int) (by omega) (by omega),wrap64 (10*(n:Int)) (by omega) (by omega),wrap64 _ (by omega) (by omega)]
   have e:(10*(n:Int)+((b.toNat-48:Nat):Int))=((10*n+(b.toNat-48):Nat):Int):=by omega
   rw[e]
   exact Je s hs k (i+1) _ (by omega) (by omega) (by rcases hk with rfl|rfl<;>simp at hn |-<;>omega)
theorem JW(s:List UInt8):an Tryz.prog 153 [.v (.string (mk s))] [] (bB (.v (.int .i64 (z8 s)))):=by
 refine PS _ ?_
 unfold Ig
 refine ah (zJ _ _ _) ?_
 simp only[↓zq,zs,ac,zt,BJ,bB]
 have hL:∀(Q:Nat->List AV->List Ob->Prop),(s.length=2\/s.length=3)->s.getD 0 0=101->¬(s.length=3/\s.getD 1 0=48)->(Q 0 [.v (.int .i64 (z8 s))] []) ->
  eK Tryz.prog 49 (.loop Dc zR [.v (.string (mk s)),.v (.int .i64 0),.v (.int .i64 1)] [] (fun y2 q2=>.al (LK.has (.int .i64) (y2.headD .any))<|.done 0 [.v (.int .i64 ((y2.headD .any).toInt))] []) (fun y2 q2=>.al (LK.has (.int .i64) (y2.headD .any))<|.done 0 [.v (.int .i64 ((y2.headD .any).toInt))] [])) Q:=by
  intro Q hl h0 h1 hQ
  have e:fG s=yj (s.drop 1) 0:=by rw[fG,if_pos hl,if_pos ⟨h0,h1⟩]
  refine fR (Je s (by omega) (s.length-1) 1 0 (by omega) (by omega) (by rcases hl with h|h<;>rw[h]<;>decide)) (fun ys o e'=>?_) (fun ys o e'=>?_)
  ·cases hq:yj (s.drop 1) 0<;>rw[hq]at e'<;>cases e'
   rw[hq]at e
   simp only[z8,e]at hQ
   simp only[↓zq,zs,ac];exact hQ
  ·cases hq:yj (s.drop 1) 0<;>rw[hq]at e'<;>cases e'
   rw[hq]at e
   simp only[z8,e]at hQ
   simp only[↓zq,zs,ac];exact hQ
 have hz:∀{i:Nat},i<s.length->bt (mk s) (i:Int)=((s.getD i 0).toNat:Int):=fun h=>lK s _ h
 refine⟨fun h=>?_,fun h=>⟨?_,fun h0=>?_,fun h0=>⟨fun h3=>⟨by omega,fun h1=>?_,fun h1=>?_⟩,fun h3=>?_⟩⟩⟩
 ·have h':¬(2<=(s.length:Int)/\(s.length:Int)<=3):=by simpa using h
  rw[z8,fG,if_neg (by omega)]
 ·have h':2<=(s.length:Int)/\(s.length:Int)<=3:=by simpa using h
  omega
 ·have h':2<=(s.length:Int)/\(s.length:Int)<=3:=by simpa using h
  have e0:=hz (i:=0) (by omega)
  simp only[cQ,dc]at e0
  rw[e0]at h0
  rw[z8,fG,if_pos (by omega),if_neg]
  rintro⟨e,_⟩
  rw[e]at h0;exact h0 rfl
 ·have h':2<=(s.length:Int)/\(s.length:Int)<=3:=by simpa using h
  have e1:=hz (i:=1) (by omega)
  simp only[cQ,dc]at e1
  rw[e1]at h1
  rw[z8,fG,if_pos (by omega),if_neg]
  rintro⟨_,e⟩
  refine e ⟨by omega,?_⟩
  rw[<-dN];show (s.getD 1 0).toNat=48;omega
 ·have h':2<=(s.length:Int)/\(s.length:Int)<=3:=by simpa using h
  have e0:=hz (i:=0) (by omega)
  have e1:=hz (i:=1) (by omega)
  simp only[cQ,dc]at e0 e1
  rw[e0]at h0;rw[e1]at h1
  refine hL _ (by omega) ?_ ?_ ⟨rfl,rfl⟩
  ·rw[<-dN];show (s.getD 0 0).toNat=101;omega
  ·rintro⟨_,e⟩;rw[e]at h1;exact h1 rfl
 ·have h':2<=(s.length:Int)/\(s.length:Int)<=3:=by simpa using h
  have e0:=hz (i:=0) (by omega)
  simp only[cQ,dc]at e0
  rw[e0]at h0
  refine hL _ (by omega) ?_ ?_ ⟨rfl,rfl⟩
  ·rw[<-dN];show (s.getD 0 0).toNat=101;omega
  ·rintro⟨e,_⟩;omega
theorem n8:∀(l:List UInt8) (n:Nat),(yj l n).isSome=l.all hD
 |[],n=>rfl
 |
  b::l,n=>by
  rw[yj]
  cases hb:hD b with
  |true=>rw[if_pos rfl,n8 l];simp[hb]
  |false=>rw[if_neg (by simp)];simp[hb]
theorem Lj(s:List UInt8):an Tryz.prog 161 [.v (.string (mk s))] [] (bB (.v (.bool (fG s).isSome))):=by
 refine O5 _ ?_
 simp only[JR,↓zq,zs,ac,zt,bB]
 have hz:∀{i:Nat},i<s.length->bt (mk s) (i:Int)=((s.getD i 0).toNat:Int):=fun h=>lK s _ h
 refine⟨fun h=>?_,fun h=>⟨fun h3=>?_,fun h3=>?_⟩⟩
 ·rw[fG,if_neg (by omega)];rfl
 ·rw[fG,if_neg (by omega)];rfl
 ·have e0:=hz (i:=0) (by omega)
  have e1:=hz (i:=1) (by omega)
  simp only[cQ,dc]at e0 e1
  rw[e0,e1]
  have hx:s.drop (bD 1)=s.drop 1:=rfl
  refine⟨by omega,fun h0=>?_,fun h0=>⟨by omega,?_⟩⟩
  ·rw[fG,if_pos (by omega),if_neg]
   ·rfl
   ·rintro⟨e,_⟩;rw[e]at h0;exact h0 rfl
  ·rw[hx]
   refine ah (Ii (s.drop 1) EG (by simp;omega) (by decide) (by decide)) ?_
   simp only[↓zq,zs,ac,zt]
   have h101:s.getD 0 0=101:=by rw[<-dN];show (s.getD 0 0).toNat=101;omega
   have hall:Lib.trimS (s.drop 1) EG=[]↔(s.drop 1).all hD=true:=by
    rw[su]
    have:(fun x=>EG.contains x)=hD:=funext uE
    rw[this]
   refine⟨fun ht=>?_,fun ht=>⟨fun h2=>?_,fun h2=>⟨by omega,?_⟩⟩⟩
   ·have:(s.drop 1).all hD=false:=by
     cases hq:(s.drop 1).all hD with
     |false=>rfl
     |true=>exact absurd (hall.2 hq) ht
    rw[fG,if_pos (by omega)]
    split
    ·rw[n8,this]
    ·rfl
   ·have hq:=hall.1 ht
    rw[fG,if_pos (by omega),if_pos ⟨h101,by omega⟩,n8,hq]
   ·have hq:=hall.1 ht
    rw[fG,if_pos (by omega)]
    by_cases h48:s.getD 1 0=48
    ·rw[if_neg (by rintro⟨_,e⟩;exact e ⟨by omega,h48⟩),h48];rfl
    ·rw[if_pos ⟨h101,fun e=>h48 e.2⟩,n8,hq]
     have:¬((s.getD 1 0).toNat:Int)=48:=fun e=>h48 (by rw[<-dN];show (s.getD 1 0).toNat=48;omega)
     rw[bne_iff_ne.2 this]
theorem sq{s:List UInt8}{k:Nat}(h:fG s=some k):s=vF k/\k<100:=by
 have key1:∀a:Fin 256,hD (bi a.val)=true->yj [bi a.val] 0=some ((bi a.val).toNat-48)/\(bi a.val).toNat-48<10/\[bi a.val]=[bi (48+((bi a.val).toNat-48))]:=by decide +kernel
 unfold fG at h
 split at h
 ·rename_i hl
  split at h
  ·rename_i hh
   obtain⟨h0,h1⟩:=hh
   rcases hl with hl|hl
   ·match s,hl with
    |
     [c,a],_ =>
     simp only[bp]at h0
     subst h0
     simp only[List.drop_succ_cons,a6,yj]at h
     split at h
     ·rename_i ha
      have:=key1 ⟨a.toNat,a.toNat_lt⟩ (by simpa using ha)
      simp only[UInt8.ofNat_toNat]at this
      cases h
      refine⟨?_,by omega⟩
      rw[vF,eH (by omega)]
      simp only[Nat.mul_zero,aV]
      rw[<-this.2.2]
     ·cases h
   ·match s,hl with
    |
     [c,a,b],_ =>
     simp only[bp,List.getD_cons_succ,aB,aJ,true_and]at h0 h1
     subst h0
     simp only[List.drop_succ_cons,a6,yj]at h
     split at h
     ·rename_i ha
      split at h
      ·rename_i hb
       have k1:=key1 ⟨a.toNat,a.toNat_lt⟩ (by simpa using ha)
       have k2:=key1 ⟨b.toNat,b.toNat_lt⟩ (by simpa using hb)
       simp only[UInt8.ofNat_toNat]at k1 k2
       have ha':48<=a.toNat/\a.toNat<=57:=by simpa[hD]using ha
       have hb':48<=b.toNat/\b.toNat<=57:=by simpa[hD]using hb
       have h48:a.toNat≠48:=fun e=>h1 (by rw[<-dN];simpa using e)
       cases h
       simp only[Nat.mul_zero,aV]
       refine⟨?_,by omega⟩
       rw[vF,fI (by omega),eH (by omega)]
       have e1:(10*(a.toNat-48)+(b.toNat-48))/10=a.toNat-48:=by omega
       have e2:(10*(a.toNat-48)+(b.toNat-48))%10=b.toNat-48:=by omega
       rw[e1,e2,<-k1.2.2,<-k2.2.2];rfl
      ·cases h
     ·cases h
  ·cases h
 ·cases h
theorem uL(k:Nat)(h:k<100):fG (vF k)=some k:=by
 have e:∀k,k<100->dd k=if k<10 then [bi (48+k)]else [bi (48+k/10),bi (48+k%10)]:=by
  intro k hk
  by_cases h1:k<10
  ·rw[eH h1,if_pos h1]
  ·rw[fI h1,eH (by omega),if_neg h1];rfl
 have key:∀k:Fin 100,fG (101::(if k.val<10 then [bi (48+k.val)]else [bi (48+k.val/10),bi (48+k.val%10)]))=some k.val:=by decide +kernel
 rw[vF,e k h];exact key ⟨k,h⟩
theorem GH(k:Nat)(h:k<100):z8 (vF k)=(k:Int):=by rw[z8,uL k h]
def wU:E->Bool
 | .atom s=>(s==[117])||(fG s).isSome
 | .list [x,a]=>((x.at==[108])||(x.at==[114])||(x.at==[102]))&&wU a
 | .list [x,a,b]=>(x.at==[112])&&(wU a&&wU b)
 | .list _=>false
def fC:E->Option Vl
 | .atom s=>if s=[117]then some .u else match fG s with|some k=>some (.el k)|none=>none
 |
  .list [x,a]=>match fC a with
  |none=>none
  |some v=>if x.at=[108]then some (.l v)else if x.at=[114]then some (.r v)else if x.at=[102]then some (.f v)else none
 | .list [x,a,b]=>if x.at=[112]then(match fC a,fC b with|some v,some w=>some (.p v w)|_,_=>none)else none
 | .list _=>none
theorem nS:∀e:E,(fC e).isSome=wU e
 |
  .atom s=>by
  simp only[fC,wU]
  by_cases h:s=[117]
  ·simp[h]
  ·rw[if_neg h];cases fG s<;>simp[h]
 | .list []=>rfl
 | .list [_]=>rfl
 |
  .list [x,a]=>by
  have ha:=nS a
  rw[fC,wU,<-ha]
  cases fC a with
  |none=>simp
  |
   some v =>
   by_cases h1:x.at=[108]
   ·simp[h1]
   ·by_cases h2:x.at=[114]
    ·simp[h2]
    ·by_cases h3:x.at=[102]
     ·simp[h3]
     ·simp[h1,h2,h3]
 |
  .list [x,a,b]=>by
  have ha:=nS a
  have hb:=nS b
  rw[fC,wU,<-ha,<-hb]
  by_cases h1:x.at=[112]
  ·rw[if_pos h1,h1];cases fC a<;>cases fC b<;>rfl
  ·simp[h1]
 | .list (_::_::_::_::_)=>rfl
theorem j3{x:E}{w:List UInt8}(h:x.at=w)(hw:w≠[]):x=.atom w:=by
 cases x with
 |atom s=>exact congrArg E.atom h
 |list l=>exact absurd h.symm hw
theorem kD:∀(e:E) (v:Vl),fC e=some v->v.cE=e/\v.iA 100
 |
  .atom s,v,h=>by
  simp only[fC]at h
  split at h
  ·rename_i h1;cases h;exact⟨by rw[h1];rfl,trivial⟩
  ·split at h
   ·rename_i k hk
    cases h
    obtain⟨h1,h2⟩:=sq hk
    exact⟨by rw[h1];rfl,h2⟩
   ·cases h
 | .list [],_,h=>by cases h
 | .list [_],_,h=>by cases h
 | .list (_::_::_::_::_),_,h=>by cases h
 |
  .list [x,a],v,h=>by
  rw[fC]at h
  split at h
  ·cases h
  ·rename_i w hw
   obtain⟨h1,h2⟩:=kD a w hw
   split at h
   ·rename_i hx;cases h;rw[j3 hx (by simp)];exact⟨by rw[Vl.cE,h1],h2⟩
   ·split at h
    ·rename_i hx;cases h;rw[j3 hx (by simp)];exact⟨by rw[Vl.cE,h1],h2⟩
    ·split at h
     ·rename_i hx;cases h;rw[j3 hx (by simp)];exact⟨by rw[Vl.cE,h1],h2⟩
     ·cases h
 |
  .list [x,a,b],v,h=>by
  rw[fC]at h
  split at h
  ·rename_i hx
   split at h
   ·rename_i w1 w2 hw1 hw2
    cases h
    obtain⟨h1,h2⟩:=kD a w1 hw1
    obtain⟨h3,h4⟩:=kD b w2 hw2
    rw[j3 hx (by simp)]
    exact⟨by rw[Vl.cE,h1,h3],h2,h4⟩
   ·cases h
  ·cases h
def px(e:E)(w:List UInt8)(k:Nat):Bool:=match e with| .list (x::l)=>decide (l.length+1=k)&&(x.at==w)|_=>false
theorem sA(e:E)(w:List UInt8)(k:Nat)(hk:1<=k):an Tryz.prog 162 [e.cu,.v (.string (mk w)),.v (.int .i64 (k:Int))] [] (bB (.v (.bool (px e w k)))):=by
 refine KH _ _ _ ((cT e).mpr trivial) ?_
 cases e with
 |atom s=>simp only[AQ,E.cu,↓zq,zs,ac,zt,bB,px];exact⟨by omega,fun h=>by omega,fun _=>trivial⟩
 |
  list l =>
  simp only[AQ,E.cu,↓zq,zs,ac,zt,bB,qs]
  cases l with
  |nil=>exact⟨by simp,fun h=>by simp at h;omega,fun _=>rfl⟩
  |
   cons x l =>
   simp only[aB]
   refine⟨by simp,fun h=>?_,fun h=>?_⟩
   ·have:decide (l.length+1=k)=true:=by rw[decide_eq_true_eq];omega
    simp only[px,this]
    cases x<;>simp[E.lR,E.cu,bY,oU,jw,dY,sV,toList_mk,E.at]
   ·have:decide (l.length+1=k)=false:=by rw[decide_eq_false_iff_not];omega
    simp only[px,this];rfl
def ja:Option Vl->AV
 |some v=>v.cu
 |none=>.v (.pointer none)
end Go.Proofs.Trees
namespace Go.Proofs.Trees
open Go Go.VL Go.RowKit
theorem gm(v:Option Vl):LK.has .ptr (ja v)=True:=by cases v<;>simp[ja,aH,ib]
theorem yQ:∀(e:E),e.ok->an Tryz.prog 129 [e.cu] [] (bB (ja (fC e)))
 |
  .atom s,hok=>by
  refine MP _ ((cT _).mpr trivial) ?_
  have hd:=nl (.atom s)
  have hlen:=lA (.atom s)
  simp only[E.at]at hd
  simp only[Eb,↓zq,zs,ac,zt,bB,cT,dZ,hd,fC]
  refine⟨hlen,fun h=>?_,fun h=>⟨hlen,?_⟩⟩
  ·rw[if_pos h];rfl
  ·rw[if_neg h]
   refine ah (Lj s) ?_
   simp only[↓zq,zs,ac,zt]
   refine⟨fun he=>⟨hlen,?_⟩,fun he=>?_⟩
   ·obtain⟨k,hk⟩:=bK.1 he
    obtain⟨h1,h2⟩:=sq hk
    rw[hk,h1];rfl
   ·have hn:fG s=none:=by cases hq:fG s<;>simp[hq]at he |-
    rw[hn]
    refine ah (sA (.atom s) [108] 2 (by omega)) ?_
    simp only[px,↓zq,zs,ac,zf]
    refine⟨fun h=>(by cases h),fun _=>ah (sA (.atom s) [114] 2 (by omega)) ?_⟩
    simp only[px,↓zq,zs,ac,zf]
    refine⟨fun h=>(by cases h),fun _=>ah (sA (.atom s) [102] 2 (by omega)) ?_⟩
    simp only[px,↓zq,zs,ac,zf]
    refine⟨fun h=>(by cases h),fun _=>ah (sA (.atom s) [112] 3 (by omega)) ?_⟩
    simp only[px,↓zq,zs,ac,zf]
    exact⟨fun h=>(by cases h),fun _=>rfl⟩
 |
  .list l,hok=>by
  refine MP _ ((cT _).mpr trivial) ?_
  have hd:=nl (.list l)
  have hlen:=lA (.list l)
  have hlen2:∀{l:List E},((AV.v (.string (mk [])))::[AV.sl (E.lR l)]).length=2:=rfl
  simp only[E.at]at hd
  have he:fG []=none:=rfl
  simp only[Eb,↓zq,zs,ac,zt,bB,cT,dZ,hd]
  refine⟨hlen,fun h=>(by cases h),fun h=>⟨hlen,?_⟩⟩
  refine ah (Lj []) ?_
  rw[he]
  simp only[↓zq,zs,ac,zt,zf,aT]
  refine⟨fun h=>(by cases h),fun _=>ah (sA (.list l) [108] 2 (by omega)) ?_⟩
  have hno:∀w:List UInt8,(∀x a,l≠[x,a])->px (.list l) w 2=false:=by
   intro w h2
   match l,h2 with
   |[],_=>rfl
   |[x],_=>rfl
   |[x,a],h2=>exact absurd rfl (h2 x a)
   |x::y::z::l,_=>simp[px]
  match l,hok,hno,hlen with
  |
   [x,a],hok,hno,hlen =>
   clear hno
   obtain⟨ok1,ok2,_⟩:=hok
   have e2:∀w:List UInt8,px (.list [x,a]) w 2=(x.at==w):=fun w=>rfl
   have e3:px (.list [x,a]) [112] 3=false:=rfl
   have hx:=nl x
   have hxl:=lA x
   rw[fC]
   simp only[e2,↓zq,zs,ac]
   refine⟨fun h1=>?_,fun h1=>ah (sA (.list [x,a]) [114] 2 (by omega)) ?_⟩
   ·simp only[E.cu,E.lR,toNat_one,↓zq,zs,ac,zt,cT,dZ]
    refine⟨by omega,by omega,by omega,ah (yQ a ok2) ?_⟩
    cases hv:fC a with
    |none=>simp only[ja,↓zq,zs,ac,gm];exact⟨fun _=>trivial,fun h=>(by cases h)⟩
    |
     some v =>
     simp only[ja,↓zq,zs,ac,zt,aH,fe,hx,h1,cT,dZ]
     refine⟨fun h=>(by cases h),fun _=>⟨by omega,by omega,by omega,hxl,by simp,?_⟩⟩
     rfl
   ·simp only[e2,↓zq,zs,ac]
    refine⟨fun h2=>?_,fun h2=>ah (sA (.list [x,a]) [102] 2 (by omega)) ?_⟩
    ·simp only[E.cu,E.lR,toNat_one,↓zq,zs,ac,zt,cT,dZ]
     refine⟨by omega,by omega,by omega,ah (yQ a ok2) ?_⟩
     cases hv:fC a with
     |none=>simp only[ja,↓zq,zs,ac,gm];exact⟨fun _=>trivial,fun h=>(by cases h)⟩
     |
      some v =>
      simp only[ja,↓zq,zs,ac,zt,aH,fe,hx,h2,cT,dZ]
      refine⟨fun h=>(by cases h),fun _=>⟨by omega,by omega,by omega,hxl,by simp,?_⟩⟩
      rfl
    ·simp only[e2,↓zq,zs,ac]
     refine⟨fun h3=>?_,fun h3=>ah (sA (.list [x,a]) [112] 3 (by omega)) ?_⟩
     ·simp only[E.cu,E.lR,toNat_one,↓zq,zs,ac,zt,cT,dZ]
      refine⟨by omega,by omega,by omega,ah (yQ a ok2) ?_⟩
      cases hv:fC a with
      |none=>simp only[ja,↓zq,zs,ac,gm];exact⟨fun _=>trivial,fun h=>(by cases h)⟩
      |
       some v =>
       simp only[ja,↓zq,zs,ac,zt,aH,fe,hx,h3,cT,dZ]
       refine⟨fun h=>(by cases h),fun _=>⟨by omega,by omega,by omega,hxl,by simp,?_⟩⟩
       rfl
     ·rw[e3]
      simp only[↓zq,zs,ac]
      refine⟨fun h=>(by cases h),fun _=>?_⟩
      cases fC a with
      |none=>rfl
      |some v=>simp only[if_neg h1,if_neg h2,if_neg h3];rfl
  |
   [x,a,b],hok,hno,hlen =>
   obtain⟨ok1,ok2,ok3,_⟩:=hok
   have h2:=fun w=>hno w (fun x a h=>(by cases h))
   rw[h2]
   simp only[↓zq,zs,ac]
   refine⟨fun h=>(by cases h),fun _=>ah (sA (.list [x,a,b]) [114] 2 (by omega)) ?_⟩
   rw[h2]
   simp only[↓zq,zs,ac]
   refine⟨fun h=>(by cases h),fun _=>ah (sA (.list [x,a,b]) [102] 2 (by omega)) ?_⟩
   rw[h2]
   simp only[↓zq,zs,ac]
   refine⟨fun h=>(by cases h),fun _=>ah (sA (.list [x,a,b]) [112] 3 (by omega)) ?_⟩
   have e3:px (.list [x,a,b]) [112] 3=(x.at==[112]):=rfl
   rw[e3,fC]
   simp only[↓zq,zs,ac]
   refine⟨fun h1=>?_,fun h1=>?_⟩
   ·rw[if_pos h1]
    simp only[E.cu,E.lR,toNat_one,bj,↓zq,zs,ac,zt,cT,dZ]
    refine⟨by omega,by omega,by omega,ah (yQ a ok2) ?_⟩
    simp only[↓zq,zs,ac,gm,cT]
    refine⟨by omega,by omega,by omega,ah (yQ b ok3) ?_⟩
    cases hv:fC a with
    |none=>cases hw:fC b<;>simp only[ja,↓zq,zs,ac,gm,aH]<;>exact⟨fun _=>trivial,fun h=>(by cases h)⟩
    |
     some v =>
     cases hw:fC b with
     |
      none =>
      simp only[ja,↓zq,zs,ac,gm,aH,fe]
      exact⟨fun h=>(by cases h),fun _=>⟨fun _=>trivial,fun h=>(by cases h)⟩⟩
     |
      some w =>
      simp only[ja,↓zq,zs,ac,aH,fe]
      refine⟨fun h=>(by cases h),fun _=>⟨fun h=>(by cases h),fun _=>?_⟩⟩
      refine ah (yL _ _ ((aH _).mpr trivial) ((aH _).mpr trivial)) ?_
      simp only[↓zq,zs,ac];rfl
   ·rw[if_neg h1];rfl
  |
   [],hok,hno,hlen =>
   have h2:=fun w=>hno w (fun x a h=>(by cases h))
   have e3:px (.list []) [112] 3=false:=rfl
   rw[h2]
   simp only[↓zq,zs,ac]
   refine⟨fun h=>(by cases h),fun _=>ah (sA (.list []) [114] 2 (by omega)) ?_⟩
   rw[h2]
   simp only[↓zq,zs,ac]
   refine⟨fun h=>(by cases h),fun _=>ah (sA (.list []) [102] 2 (by omega)) ?_⟩
   rw[h2]
   simp only[↓zq,zs,ac]
   refine⟨fun h=>(by cases h),fun _=>ah (sA (.list []) [112] 3 (by omega)) ?_⟩
   rw[e3]
   simp only[↓zq,zs,ac]
   exact⟨fun h=>(by cases h),fun _=>rfl⟩
  |
   [x],hok,hno,hlen =>
   have h2:=fun w=>hno w (fun x a h=>(by cases h))
   have e3:px (.list [x]) [112] 3=false:=rfl
   rw[h2]
   simp only[↓zq,zs,ac]
   refine⟨fun h=>(by cases h),fun _=>ah (sA (.list [x]) [114] 2 (by omega)) ?_⟩
   rw[h2]
   simp only[↓zq,zs,ac]
   refine⟨fun h=>(by cases h),fun _=>ah (sA (.list [x]) [102] 2 (by omega)) ?_⟩
   rw[h2]
   simp only[↓zq,zs,ac]
   refine⟨fun h=>(by cases h),fun _=>ah (sA (.list [x]) [112] 3 (by omega)) ?_⟩
   rw[e3]
   simp only[↓zq,zs,ac]
   exact⟨fun h=>(by cases h),fun _=>rfl⟩
  |
   x::y::z::w::l,hok,hno,hlen =>
   have h2:=fun w=>hno w (fun x a h=>(by cases h))
   have e3:px (.list (x::y::z::w::l)) [112] 3=false:=by simp[px]
   rw[h2]
   simp only[↓zq,zs,ac]
   refine⟨fun h=>(by cases h),fun _=>ah (sA (.list (x::y::z::w::l)) [114] 2 (by omega)) ?_⟩
   rw[h2]
   simp only[↓zq,zs,ac]
   refine⟨fun h=>(by cases h),fun _=>ah (sA (.list (x::y::z::w::l)) [102] 2 (by omega)) ?_⟩
   rw[h2]
   simp only[↓zq,zs,ac]
   refine⟨fun h=>(by cases h),fun _=>ah (sA (.list (x::y::z::w::l)) [112] 3 (by omega)) ?_⟩
   rw[e3]
   simp only[↓zq,zs,ac]
   exact⟨fun h=>(by cases h),fun _=>rfl⟩
def rI(s:List UInt8):Option Vl:=match qk s with
 |none=>none
 |
  some e=>match fC e with
  |none=>none
  |some v=>if v.nodes>200 then none else some v
theorem kZ{s:List UInt8}{v:Vl}(h:rI s=some v):qk s=some v.cE/\v.iA 100/\v.nodes<=200:=by
 unfold rI at h
 split at h
 ·cases h
 ·rename_i e he
  split at h
  ·cases h
  ·rename_i w hw
   split at h
   ·cases h
   ·cases h
    obtain⟨h1,h2⟩:=kD e _ hw
    rw[h1]
    exact⟨he,h2,by omega⟩
theorem vL{e:E}{v:Vl}(h:fC e=some v):v.nodes<=e.sz:=by
 obtain⟨h1,_⟩:=kD e v h
 rw[<-nk,h1];exact zQ e
theorem Qj(s:List UInt8):an Tryz.prog 94 [.v (.string (mk s))] [] (bB (ja (rI s))):=by
 refine Pp _ ?_
 unfold Jt
 refine ah (Mz s) ?_
 unfold rI
 cases he:qk s with
 |none=>simp only[s3,↓zq,zs,ac,bB,ja];simp
 |
  some e =>
  obtain⟨h1,h2⟩:=ny he
  simp only[s3,↓zq,zs,ac,cT,dZ]
  refine⟨fun h=>(by cases h),fun _=>?_⟩
  refine ah (yQ e h1) ?_
  cases hv:fC e with
  |none=>simp only[ja,↓zq,zs,ac,bB];simp
  |
   some v =>
   have hn:=vL hv
   simp only[ja,↓zq,zs,ac,aH,fe]
   refine⟨fun h=>(by cases h),fun _=>?_⟩
   refine ah (Dn v (by omega)) ?_
   simp only[↓zq,zs,ac,bB]
   refine⟨fun h=>?_,fun h=>?_⟩
   ·rw[if_pos (by omega)]
   ·rw[if_neg (by omega)]
theorem yy:∀(e:E),e.ok->an Tryz.prog 123 [e.kj] [] (bB (.v (.bool (wU e))))
 |
  .atom s,hok=>by
  refine yH _ _ ((bb).mpr trivial) ?_
  have hne:s≠[]:=hok
  simp only[vG,↓zq,zs,ac,zt,bB,wU]
  refine⟨fun _=>⟨fun h=>?_,fun h=>?_⟩,fun h=>absurd h hne⟩
  ·simp[h]
  ·refine ah (JW s) ?_
   have h':(s==[117])=false:=by simpa using h
   simp only[↓zq,zs,ac,h',Bool.false_or]
   congr 2
   rw[z8]
   cases fG s with
   |none=>rfl
   |some k=>simp
 |
  .list [],hok=>by
  refine yH _ _ ((cc _).mpr trivial) ?_
  simp only[vG,↓zq,zs,ac,zt,bB,wU]
  refine⟨fun h=>absurd rfl h,fun _=>?_⟩
  refine ah Ow ?_
  simp[↓zq,zs,ac,zt]
 |
  .list [x],hok=>by
  refine yH _ _ ((cc _).mpr trivial) ?_
  simp only[vG,↓zq,zs,ac,zt,bB,wU]
  refine⟨fun h=>absurd rfl h,fun _=>?_⟩
  refine ah (ui x _) ?_
  simp[↓zq,zs,ac,zt,E.bn]
 |
  .list (x::y::z::w::l),hok=>by
  refine yH _ _ ((cc _).mpr trivial) ?_
  simp only[vG,↓zq,zs,ac,zt,bB,wU]
  refine⟨fun h=>absurd rfl h,fun _=>?_⟩
  refine ah (ui x _) ?_
  simp only[↓zq,zs,ac,zt,E.bn]
  refine⟨fun _=>⟨fun h=>by omega,fun _=>trivial⟩,fun _=>⟨fun _=>⟨fun h=>by omega,fun _=>trivial⟩,fun _=>⟨fun _=>⟨fun h=>by omega,fun _=>trivial⟩,fun _=>⟨fun _=>⟨fun h=>by omega,fun _=>trivial⟩,fun _=>trivial⟩⟩⟩⟩
 |
  .list [x,a],hok=>by
  refine yH _ _ ((cc _).mpr trivial) ?_
  obtain⟨ok1,ok2,_⟩:=hok
  simp only[vG,↓zq,zs,ac,zt,bB,wU]
  refine⟨fun h=>absurd rfl h,fun _=>?_⟩
  refine ah (ui x _) ?_
  simp only[E.bn,toNat_one,bj,↓zq,zs,ac,zt,iG,fZ,iL,mw,aq]
  refine⟨fun h=>⟨fun _=>⟨by omega,?_⟩,fun h=>by omega⟩,fun h1=>⟨fun h=>⟨fun _=>⟨by omega,?_⟩,fun h=>by omega⟩,fun h2=>⟨fun h=>⟨fun _=>⟨by omega,?_⟩,fun h=>by omega⟩,fun h3=>⟨fun h=>⟨fun h=>by omega,fun _=>?_⟩,fun h=>?_⟩⟩⟩⟩
  ·refine ah (yy a ok2) ?_
   simp[↓zq,zs,ac,h]
  ·refine ah (yy a ok2) ?_
   simp[↓zq,zs,ac,h]
  ·refine ah (yy a ok2) ?_
   simp[↓zq,zs,ac,h]
  ·simp[h]
  ·simp[h1,h2,h3]
 |
  .list [x,a,b],hok=>by
  refine yH _ _ ((cc _).mpr trivial) ?_
  obtain⟨ok1,ok2,ok3,_⟩:=hok
  simp only[vG,↓zq,zs,ac,zt,bB,wU]
  refine⟨fun h=>absurd rfl h,fun _=>?_⟩
  refine ah (ui x _) ?_
  simp only[E.bn,toNat_one,bj,↓zq,zs,ac,zt,iG,fZ,iL,mw,aq]
  refine⟨fun h=>⟨fun h=>by omega,fun _=>?_⟩,fun h1=>⟨fun h=>⟨fun h=>by omega,fun _=>?_⟩,fun h2=>⟨fun h=>⟨fun h=>by omega,fun _=>?_⟩,fun h3=>⟨fun h=>⟨fun _=>⟨by omega,?_⟩,fun h=>by omega⟩,fun h=>?_⟩⟩⟩⟩
  ·simp[h]
  ·simp[h]
  ·simp[h]
  ·refine ah (yy a ok2) ?_
   simp only[↓zq,zs,ac,h]
   refine⟨fun ha=>⟨by omega,ah (yy b ok3) ?_⟩,fun ha=>?_⟩
   ·simp[↓zq,zs,ac,ha]
   ·simp[ha]
  ·simp[h]
theorem C4(s:List UInt8):an Tryz.prog 89 [.v (.string (mk s))] [] (jR ((rI s).map Vl.cE) (rI s).isSome):=by
 refine NQ _ ?_
 unfold HB
 refine bC (Kf s) (jR.ne _ _ (fun h=>h)) ?_
 rintro r o ⟨c,d,hd,rfl,hh⟩
 simp only[↓zq,zs,ac,zt,bu,rI]
 refine⟨hd,fun h=>?_,fun h=>?_⟩
 ·obtain⟨e,he,hce⟩:=hh h
  obtain⟨hok,hsz⟩:=ny he
  rw[he,hce]
  refine ah (yy e hok) ?_
  simp only[↓zq,zs,ac]
  have hs:=nS e
  refine⟨fun hi=>?_,fun hi=>?_⟩
  ·rw[hi]at hs
   obtain⟨v,hv⟩:=bK.1 hs
   obtain⟨h1,h2⟩:=kD e v hv
   refine ah (PW e (by omega)) ?_
   simp only[↓zq,zs,ac,hv]
   have hnd:e.nd=v.nodes:=by rw[<-h1,nk]
   rw[hnd]
   refine⟨c,d,hd,?_,?_⟩
   ·rw[hce]
    by_cases h4:v.nodes>200
    ·rw[if_pos h4];exact congrArg (fun b=>AV.cv [e.kj,.v (.bool b)]) (decide_eq_false (show ¬((v.nodes:Nat):Int)<=200 by omega))
    ·rw[if_neg h4];exact congrArg (fun b=>AV.cv [e.kj,.v (.bool b)]) (decide_eq_true (show ((v.nodes:Nat):Int)<=200 by omega))
   ·split
    ·exact fun h=>by cases h
    ·exact fun _=>⟨e,by simp[h1],hce⟩
  ·rw[hi]at hs
   have hn:fC e=none:=by cases hq:fC e<;>simp[hq]at hs |-
   rw[hn]
   exact⟨c,d,hd,by rw[hce];rfl,fun h=>by cases h⟩
 ·have hn:qk s=none:=by cases hq:qk s<;>simp[hq]at h |-
  rw[hn]
  exact⟨c,d,hd,rfl,fun h=>by cases h⟩
end Go.Proofs.Trees
namespace Go.Proofs.Trees
open Go Go.VL Go.RowKit
inductive Fr where
 |mk (s:List UInt8) (e:E) (o:List Fr)
def Fr.nm:Fr->List UInt8| .mk s _ _=>s
def Fr.ex:Fr->E| .mk _ e _=>e
def Fr.out:Fr->List Fr| .mk _ _ o=>o
def names:List Fr->List (List UInt8)
 |[]=>[]
 |f::r=>names r++[f.nm]
def yf(e:E)(o:List Fr):Ty:=(cP e (names o)).getD .zero
def E.sp:E->AV
 | .atom _=>.v (.slice none 0 0)
 | .list l=>.sl (E.bn l)
theorem fw(e:E):e.hJ=[.v (.string (mk e.at)),e.sp]:=by cases e<;>rfl
theorem dr(e:E):e.kj=.agg [.v (.string (mk e.at)),e.sp]:=by cases e<;>rfl
theorem a7(e:E):LK.has .sl e.sp=True:=by cases e<;>simp[E.sp,bb,cc]
mutual
def Fr.cells:Fr->List AV
 | .mk s e o=>[.v (.string (mk s)),.v (.string (mk e.at)),e.sp,.sl (jU o)]
def jU:List Fr->List (List AV)
 |[]=>[]
 |f::r=>jU r++[f.cells]
end
mutual
def Fr.cu:Fr->AV
 | .mk s e o=>.ptr [(yf e o).av,oe o]
def oe:List Fr->AV
 |[]=>ir
 |f::r=>.ptr [f.cu,oe r]
end
inductive WF:List Fr->Prop
 |nil:WF []
 |cons {s:List UInt8} {x a b:E} {t:Ty} {r:List Fr} (hs:cZ s=true) (hok:(E.list [x,a,b]).ok) (hx:x.at=[114,101,99]) (ht:cP (.list [x,a,b]) (names r)=some t) (hf:bW t=false) (hr:WF r):WF (.mk s (.list [x,a,b]) r::r)
theorem kC:∀env:List Fr,(jU env).length=env.length
 |[]=>rfl
 |f::r=>by simp[jU,kC r]
theorem eh(env:List Fr):LK.has .ptr (oe env)=True:=by cases env<;>simp[oe,ib,bY]
theorem zY(f:Fr):LK.has .ptr f.cu=True:=by cases f;simp[Fr.cu,bY]
def fQ(s:List UInt8):List Fr->Option Fr
 |[]=>none
 |f::r=>if f.nm=s then some f else fQ s r
def hd(e:E)(env:List Fr):E×List Fr:=match fQ e.at env with|some f=>(f.ex,f.out)|none=>(e,env)
theorem kA{env:List Fr}(h:WF env):fQ [] env=none:=by
 induction h with
 |nil=>rfl
 |
  @cons s x a b t r hs hok hx ht hf hr ih =>
  rw[fQ,if_neg (show ¬(Fr.mk s (.list [x,a,b]) r).nm=[] from BC hs)];exact ih
theorem yK{env:List Fr}(h:WF env){s:List UInt8}{f:Fr}(hf:fQ s env=some f):cZ s=true:=by
 induction h with
 |nil=>cases hf
 |
  cons hs hok hx ht hf' hr ih =>
  rw[fQ]at hf
  split at hf
  ·rename_i e;exact e ▸ hs
  ·exact ih hf
theorem nG{env:List Fr}(h:WF env){s:List UInt8}{f:Fr}(hf:fQ s env=some f):∃x a b t,f.ex=.list [x,a,b]/\(E.list [x,a,b]).ok/\x.at=[114,101,99]/\cP f.ex (names f.out)=some t/\bW t=false/\WF f.out/\f.out.length<env.length:=by
 induction h with
 |nil=>cases hf
 |
  cons hs hok hx ht hf' hr ih =>
  rw[fQ]at hf
  split at hf
  ·cases hf;exact⟨_,_,_,_,rfl,hok,hx,ht,hf',hr,by simp[Fr.out]⟩
  ·obtain⟨x,a,b,t,h1,h2,h3,h4,h5,h6,h7⟩:=ih hf
   exact⟨x,a,b,t,h1,h2,h3,h4,h5,h6,by simp;omega⟩
theorem j0(s w:List UInt8)(ar:List (List UInt8)):∀i,i<=ar.length->bH s (ar++[w]) i=(bH s ar i).map (·+1)
 |0,_=>rfl
 |
  i+1,hi=>by
  have hlt:i<ar.length:=by omega
  have e:(ar++[w]).getD i []=ar.getD i []:=by simp[aa,List.getElem?_append_left hlt]
  rw[bH,bH,e,j0 s w ar i (by omega)]
  split
  ·simp only[ax,aB,aJ,co,Option.some.injEq];omega
  ·rfl
theorem uV(s:List UInt8)(f:Fr)(r:List Fr):bH s (names (f::r)) (names (f::r)).length=if f.nm=s then some 0 else(bH s (names r) (names r).length).map (·+1):=by
 have e:(names (f::r)).length=(names r).length+1:=by simp[names]
 rw[e,bH]
 have e2:(names (f::r)).getD (names r).length []=f.nm:=by simp[names,aa]
 rw[e2]
 split
 ·rw[e];simp
 ·rw[names,j0 _ _ _ _ (aq _)]
theorem nQ(s:List UInt8):∀env:List Fr,bH s (names env) (names env).length=none/\fQ s env=none\/∃(u:Nat) (f:Fr),bH s (names env) (names env).length=some u/\fQ s env=some f/\env[u]?=some f
 |[]=>.inl ⟨rfl,rfl⟩
 |
  f::r=>by
  rw[uV,fQ]
  split
  ·exact .inr ⟨0,f,rfl,rfl,rfl⟩
  ·rcases nQ s r with⟨h1,h2⟩|⟨u,g,h1,h2,h3⟩
   ·exact .inl ⟨by rw[h1];rfl,h2⟩
   ·exact .inr ⟨u+1,g,by rw[h1];rfl,h2,by simpa using h3⟩
def Ty.Nd:Ty->Bool
 | .bN _=>true
 |_=>false
theorem gn{e:E}{env:List Fr}{t:Ty}(hw:WF env)(ht:cP e (names env)=some t) :
 (t.Nd=false/\fQ e.at env=none)\/∃(u:Nat) (f:Fr),t=.bN u/\fQ e.at env=some f/\env[u]?=some f:=by
 cases e with
 |
  list l =>
  left
  refine⟨?_,kA hw⟩
  match l,ht with
  |
   [x,a,b],ht =>
   by_cases h0:x.at=[43]
   ·obtain⟨t1,t2,_,_,rfl⟩:=fu h0 ht;rfl
   ·by_cases h1:x.at=[42]
    ·obtain⟨t1,t2,_,_,rfl⟩:=eQ h1 ht;rfl
    ·by_cases h2:x.at=[114,101,99]
     ·obtain⟨t1,_,_,rfl⟩:=dx h2 ht;rfl
     ·rw[iS _ h0 h1 h2]at ht;cases ht
  |[],ht=>cases ht
  |[_],ht=>cases ht
  |[_,_],ht=>cases ht
  |_::_::_::_::_,ht=>cases ht
 |
  atom s =>
  simp only[cP]at ht
  have hno:cZ s=false->fQ s env=none:=fun h=>by
   cases hq:fQ s env with
   |none=>rfl
   |some f=>rw[yK hw hq]at h;cases h
  split at ht
  ·rename_i h;cases ht;subst h;exact .inl ⟨rfl,hno rfl⟩
  ·split at ht
   ·rename_i h;cases ht;subst h;exact .inl ⟨rfl,hno rfl⟩
   ·split at ht
    ·rename_i h
     cases ht
     refine .inl ⟨rfl,hno ?_⟩
     cases hq:cZ s with
     |false=>rfl
     |
      true =>
      obtain⟨c,r,rfl,h1,h2⟩:=ly h
      obtain⟨c',r',he,h3,h4⟩:=ly hq
      cases he;omega
    ·split at ht
     ·rcases nQ s env with⟨h1,h2⟩|⟨u,f,h1,h2,h3⟩
      ·rw[h1]at ht;cases ht;exact .inl ⟨rfl,h2⟩
      ·rw[h1]at ht;cases ht;exact .inr ⟨u,f,rfl,h2,h3⟩
     ·cases ht
def eJ(n:Nat):Vl->E×List Fr->Bool
 | .u,p=>match hd p.1 p.2 with|(.atom s,_)=>s==[49]|_=>false
 | .el k,p=>match hd p.1 p.2 with|(.atom s,_)=>!(s==[49])&&(gO s&&decide (k<n))|_=>false
 | .l w,p=>match hd p.1 p.2 with|(.list [x,a,b],o)=>(x.at==[43])&&eJ n w (a,o)|_=>false
 | .r w,p=>match hd p.1 p.2 with|(.list [x,a,b],o)=>(x.at==[43])&&eJ n w (b,o)|_=>false
 | .f w,p=>match hd p.1 p.2 with|(.list [x,a,b],o)=>(x.at==[114,101,99])&&eJ n w (b,.mk a.at (.list [x,a,b]) o::o)|_=>false
 | .p v w,p=>match hd p.1 p.2 with|(.list [x,a,b],o)=>(x.at==[42])&&(eJ n v (a,o)&&eJ n w (b,o))|_=>false
theorem j8{e:E}{env:List Fr}(h:fQ e.at env=none):hd e env=(e,env):=by rw[hd,h]
theorem qh{e:E}{env:List Fr}{f:Fr}(h:fQ e.at env=some f):hd e env=(f.ex,f.out):=by rw[hd,h]
theorem oP{x a b:E}{o:List Fr}(h:WF o):hd (.list [x,a,b]) o=(.list [x,a,b],o):=j8 (kA h)
theorem tU(n:Nat)(v:Vl){e e':E}{env o:List Fr}(h:hd e env=(e',o))(h':hd e' o=(e',o)):eJ n v (e,env)=eJ n v (e',o):=by
 cases v<;>simp only[eJ,h,h']
theorem jg{x a b:E}{env:List Fr}{t:Ty}(hw:WF env)(hok:(E.list [x,a,b]).ok)(hx:x.at=[114,101,99])(ht:cP (.list [x,a,b]) (names env)=some t)(hf:bW t=false) :
 ∃t1,t=.rc t1/\cP b (names (.mk a.at (.list [x,a,b]) env::env))=some t1/\bW t1=false/\WF (.mk a.at (.list [x,a,b]) env::env):=by
 obtain⟨t1,hl,h1,rfl⟩:=dx hx ht
 exact⟨t1,rfl,h1,hf,.cons hl hok hx ht hf hw⟩
theorem yA(a b env:AV)(n:Int)(s:ByteArray)(u:Int)(ha:LK.ptr.has a)(he:LK.ptr.has env):an Tryz.prog 113 [.agg [.ptr [.v (.int .u8 n),.v (.string s),.v (.int .i64 u),a,b],env]] [] (bB (.agg [a,env])):=by
 refine PN _ _ ((bY _).mpr trivial) he ?_
 simp only[Jp,↓zq,zs,ac,bB]
 exact⟨ha,by omega⟩
theorem yt(a b env:AV)(n:Int)(s:ByteArray)(u:Int)(hb:LK.ptr.has b)(he:LK.ptr.has env):an Tryz.prog 114 [.agg [.ptr [.v (.int .u8 n),.v (.string s),.v (.int .i64 u),a,b],env]] [] (bB (.agg [b,env])):=by
 refine Px _ _ ((bY _).mpr trivial) he ?_
 simp only[LQ,↓zq,zs,ac,bB]
 exact⟨hb,by omega⟩
theorem Ov(t:Ty)(env:List Fr)(s:List UInt8)(e:E)(ht:yf e env=.rc t):an Tryz.prog 86 [.agg [(Ty.rc t).av,oe env]] [] (bB (.cv [.agg [t.av,oe (.mk s e env::env)],(Fr.mk s e env).cu])):=by
 refine PO _ _ ((aC _).mpr trivial) ((eh _).mpr trivial) ?_
 simp only[Ib,Ty.av,↓zq,zs,ac,aC,bB,oe,Fr.cu,ht]
 omega
theorem sn(env:List Fr)(i:Nat)(f:Fr)(h:env[i]?=some f):oe (env.drop i)=.ptr [f.cu,oe (env.drop (i+1))]:=by
 obtain⟨hlt,he⟩:=List.getElem?_eq_some_iff.1 h
 rw[aL hlt,he,oe]
theorem HD(env:List Fr)(u:Nat)(hu:u<env.length)(hl:env.length<1000000):∀(k i:Nat),i+k=u->Cr [oe (env.drop i),.v (.int .i64 (u:Int)),.v (.int .i64 (i:Int))] [] (gX 1 [oe (env.drop u)] [])
 |
  0,i,hi=>by
  refine Cl _ _ _ ?_
  have:i=u:=by omega
  subst this
  simp only[zX,↓zq,zs,ac,eh]
  exact⟨fun h=>by omega,fun _=>by simp[gX]⟩
 |
  k+1,i,hi=>by
  refine Cl _ _ _ ?_
  have hlt:i<env.length:=by omega
  have hg:env[i]?=some env[i]:=bg hlt
  have hd:=sn env i _ hg
  rw[hd]
  simp only[zX,↓zq,zs,ac,eh]
  refine⟨fun _=>⟨by omega,?_⟩,fun h=>by omega⟩
  rw[bq i (by omega)]
  exact HD env u hu hl k (i+1) (by omega)
theorem OA(env:List Fr)(u:Nat)(f:Fr)(hf:env[u]?=some f)(hl:env.length<1000000):an Tryz.prog 131 [.agg [(Ty.bN u).av,oe env]] [] (bB f.cu):=by
 refine JF _ _ ((aC _).mpr trivial) ((eh _).mpr trivial) ?_
 obtain⟨hlt,he⟩:=List.getElem?_eq_some_iff.1 hf
 simp only[Ez,Ty.av,↓zq,zs,ac]
 refine⟨by omega,?_⟩
 have h:=HD env u hlt hl u 0 (by omega)
 simp only[a6]at h
 refine cq h ?_
 rw[sn env u f hf]
 simp only[↓zq,zs,ac,zY,bB]
 omega
theorem B0(k:Nat)(h:k<100):Lib.atoi (dd k)=some (k:Int):=by
 have e:∀k,k<100->dd k=if k<10 then [bi (48+k)]else [bi (48+k/10),bi (48+k%10)]:=by
  intro k hk
  by_cases h1:k<10
  ·rw[eH h1,if_pos h1]
  ·rw[fI h1,eH (by omega),if_neg h1];rfl
 have key:∀k:Fin 100,Lib.atoi (if k.val<10 then [bi (48+k.val)]else [bi (48+k.val/10),bi (48+k.val%10)])=some (k.val:Int):=by decide +kernel
 rw[e k h];exact key ⟨k,h⟩
theorem NU(k:Nat)(hk:k<100):an Tryz.prog 130 [.v (.string (mk (dd k)))] [] (bB (.cv [.v (.int .i64 (k:Int)),.v .nilIface])):=by
 have hl:=ml 1000 k (by omega)
 have hl2:(dd k).length<=18:=by
  have e:(dd k).length<=2:=by
   by_cases h1:k<10
   ·rw[eH h1];simp
   ·rw[fI h1,eH (by omega)];simp
  omega
 refine an.OG (xs:=[.string (mk (dd k))]) (v:=.tuple #[.int .i64 (k:Int),.nilIface]) ⟨pO,by kernel_rfl,by kernel_rfl,by kernel_rfl⟩ (fun M=>?_) fun w=>?_
 ·refine bx.cv _ _ [.int .i64 (k:Int),.nilIface] rfl fun i hi=>?_
  match i,hi with
  |0,_=>exact .v _ _
  |1,_=>exact .v _ _
 ·have:=Any.strconv_Atoi Tryz.CF (mk (dd k)) (k:Int) (by rw[cG];exact hl2) (by
   have:(mk (dd k)).data.toList=dd k:=by simp[mk]
   rw[this];exact B0 k hk) w
  refine Calls.mono this fun e w' ⟨h1,t,h2⟩=>⟨h1,?_⟩
  subst h2
  refine⟨rfl,rfl,rfl,?_,fun b hb=>Lib.bytesWorld_at_old _ _ _ _ hb⟩
  simp[Lib.bytesWorld,World.freeze]
end Go.Proofs.Trees
namespace Go.Proofs.Trees
open Go Go.VL Go.RowKit
theorem e9{a b:Ty}(h:bW (.plus a b)=false):bW a=false/\bW b=false:=by simpa[bW]using h
theorem eI{a b:Ty}(h:bW (.times a b)=false):bW a=false/\bW b=false:=by simpa[bW]using h
theorem fy{e:E}{ar:List (List UInt8)}{t:Ty}(ht:cP e ar=some t)(hb:t.Nd=false)(hf:bW t=false) :
 (e=.atom [48]/\t=.zero)\/(e=.atom [49]/\t=.one)\/(∃s,e=.atom s/\t=.name s/\gO s=true/\s≠[48]/\s≠[49]) ∨
 (∃x a b t1 t2,e=.list [x,a,b]/\x.at=[43]/\t=.plus t1 t2/\cP a ar=some t1/\cP b ar=some t2) ∨
 (∃x a b t1 t2,e=.list [x,a,b]/\x.at=[42]/\t=.times t1 t2/\cP a ar=some t1/\cP b ar=some t2) ∨
 (∃x a b t1,e=.list [x,a,b]/\x.at=[114,101,99]/\t=.rc t1):=by
 cases e with
 |
  list l =>
  match l,ht with
  |
   [x,a,b],ht =>
   by_cases h0:x.at=[43]
   ·obtain⟨t1,t2,h1,h2,rfl⟩:=fu h0 ht
    exact .inr (.inr (.inr (.inl ⟨x,a,b,t1,t2,rfl,h0,rfl,h1,h2⟩)))
   ·by_cases h1:x.at=[42]
    ·obtain⟨t1,t2,h3,h2,rfl⟩:=eQ h1 ht
     exact .inr (.inr (.inr (.inr (.inl ⟨x,a,b,t1,t2,rfl,h1,rfl,h3,h2⟩))))
    ·by_cases h2:x.at=[114,101,99]
     ·obtain⟨t1,_,_,rfl⟩:=dx h2 ht
      exact .inr (.inr (.inr (.inr (.inr ⟨x,a,b,t1,rfl,h2,rfl⟩))))
     ·rw[iS _ h0 h1 h2]at ht;cases ht
  |[],ht=>cases ht
  |[_],ht=>cases ht
  |[_,_],ht=>cases ht
  |_::_::_::_::_,ht=>cases ht
 |
  atom s =>
  simp only[cP]at ht
  split at ht
  ·rename_i h;cases ht;subst h;exact .inl ⟨rfl,rfl⟩
  ·rename_i h0
   split at ht
   ·rename_i h;cases ht;subst h;exact .inr (.inl ⟨rfl,rfl⟩)
   ·rename_i h1
    split at ht
    ·rename_i h;cases ht;exact .inr (.inr (.inl ⟨s,rfl,rfl,h,h0,h1⟩))
    ·split at ht
     ·rename_i h
      split at ht
      ·cases ht;cases hb
      ·cases ht;simp only[bW]at hf;rw[h]at hf;cases hf
     ·cases ht
def pL(n:Nat)(v:Vl)(e:E)(env:List Fr)(t:Ty):Prop:=an Tryz.prog 95 [.agg [t.av,oe env],v.cu,.v (.int .i64 (n:Int))] [] (bB (.v (.bool (eJ n v (e,env)))))
structure Ask(e:E)(env:List Fr)(t:Ty):Prop where
 ok:e.ok
 wf:WF env
 ty:cP e (names env)=some t
 cl:bW t=false
theorem Jr(n:Nat)(hn:n<=100)(v:Vl)(hv:v.iA 100)(IH:∀w:Vl,w.nodes<v.nodes->w.iA 100->∀e env t,Ask e env t->env.length+w.nodes<100000->pL n w e env t)
 (e:E) (env:List Fr) (t:Ty) (A:Ask e env t) (hl:env.length+v.nodes<100000) (hb:t.Nd=false) (hh:fQ e.at env=none):pL n v e env t:=by
 have hhd:hd e env=(e,env):=j8 hh
 unfold pL
 refine Lb _ _ _ _ ((aC _).mpr trivial) ((eh _).mpr trivial) ((aH _).mpr trivial) ?_
 rcases fy A.ty hb A.cl with⟨rfl,rfl⟩|⟨rfl,rfl⟩|⟨s,rfl,rfl,hp,h0,h1⟩|⟨x,a,b,t1,t2,rfl,hx,rfl,ha,hbb⟩|⟨x,a,b,t1,t2,rfl,hx,rfl,ha,hbb⟩|⟨x,a,b,t1,rfl,hx,rfl⟩
 ·have hp0:gO [48]=false:=rfl
  cases v<;>simp[zv,Ty.av,↓zq,zs,ac,bB,eJ,hhd,hp0]
 ·have hp0:gO [49]=false:=rfl
  cases v<;>simp[zv,Ty.av,Vl.cu,↓zq,zs,ac,bB,eJ,hhd,hp0]
 ·have h1':(s==[49])=false:=by simpa using h1
  cases v with
  |
   el k =>
   have hk:k<100:=hv
   simp only[zv,Ty.av,Vl.cu,↓zq,zs,ac,zt]
   refine⟨by omega,fun h=>by omega,fun _=>⟨fun _=>⟨by omega,fun h=>absurd rfl h,fun _=>⟨by omega,by omega,?_⟩⟩,fun h=>absurd rfl h⟩⟩
   have e1:(List.take ((dd k).length+1) (vF k)).drop (bD 1)=dd k:=by simp[vF]
   rw[e1]
   refine ah (NU k hk) ?_
   simp only[↓zq,zs,ac,bB,eJ,hhd,h1',hp,zf]
   refine⟨rfl,?_⟩
   congr 2
   rw[ct];simp
  |
   _ =>
   simp only[zv,Ty.av,Vl.cu,↓zq,zs,ac,zt,eJ,hhd,h1',bB]
   exact⟨by omega,fun h=>by omega,fun _=>⟨fun _=>⟨by omega,fun _=>trivial,fun h=>by omega⟩,fun h=>absurd rfl h⟩⟩
 ·have hok:=A.ok
  obtain⟨ok1,ok2,ok3,_⟩:=hok
  obtain⟨f1,f2⟩:=e9 A.cl
  cases v with
  |
   l w =>
   simp only[Vl.nodes]at hl
   simp only[zv,Ty.av,Vl.cu,↓zq,zs,ac]
   refine⟨by omega,fun h=>by omega,fun _=>⟨fun h=>by omega,fun _=>⟨fun h=>by omega,fun _=>⟨fun _=>⟨by omega,fun _=>?_,fun h=>absurd rfl h⟩,fun h=>absurd rfl h⟩⟩⟩⟩
   refine ah (yA _ _ _ _ _ _ ((aC _).mpr trivial) ((eh _).mpr trivial)) ?_
   simp only[↓zq,zs,ac,bu,aC,eh,aH]
   refine⟨by omega,?_⟩
   refine ah (IH w (by simp only[Vl.nodes];omega) hv a env t1 ⟨ok2,A.wf,ha,f1⟩ (by omega)) ?_
   simp only[↓zq,zs,ac,bB,eJ,hhd,hx]
   refine⟨fun h=>?_,fun h=>⟨by omega,fun h=>by omega,fun _=>?_⟩⟩
   ·simp[h]
   ·simp[h]
  |
   r w =>
   simp only[Vl.nodes]at hl
   simp only[zv,Ty.av,Vl.cu,↓zq,zs,ac]
   refine⟨by omega,fun h=>by omega,fun _=>⟨fun h=>by omega,fun _=>⟨fun h=>by omega,fun _=>⟨fun _=>⟨by omega,fun h=>by omega,fun _=>⟨by omega,fun _=>?_,fun h=>absurd rfl h⟩⟩,fun h=>absurd rfl h⟩⟩⟩⟩
   refine ah (yt _ _ _ _ _ _ ((aC _).mpr trivial) ((eh _).mpr trivial)) ?_
   simp only[↓zq,zs,ac,bu,aC,eh,aH]
   refine⟨by omega,?_⟩
   refine ah (IH w (by simp only[Vl.nodes];omega) hv b env t2 ⟨ok3,A.wf,hbb,f2⟩ (by omega)) ?_
   simp[↓zq,zs,ac,bB,eJ,hhd,hx]
  |
   _ =>
   simp only[zv,Ty.av,Vl.cu,↓zq,zs,ac,eJ,hhd,bB]
   exact⟨by omega,fun h=>by omega,fun _=>⟨fun h=>by omega,fun _=>⟨fun h=>by omega,fun _=>⟨fun _=>⟨by omega,fun h=>by omega,fun _=>⟨by omega,fun h=>by omega,fun _=>by simp[hx]⟩⟩,fun h=>absurd rfl h⟩⟩⟩⟩
 ·have hok:=A.ok
  obtain⟨ok1,ok2,ok3,_⟩:=hok
  obtain⟨f1,f2⟩:=eI A.cl
  cases v with
  |
   p v w =>
   simp only[Vl.nodes]at hl
   simp only[zv,Ty.av,Vl.cu,↓zq,zs,ac]
   refine⟨by omega,fun h=>by omega,fun _=>⟨fun h=>by omega,fun _=>⟨fun h=>by omega,fun _=>⟨fun h=>by omega,fun _=>⟨fun _=>⟨by omega,fun _=>?_,fun h=>absurd rfl h⟩,fun h=>absurd rfl h⟩⟩⟩⟩⟩
   refine ah (yA _ _ _ _ _ _ ((aC _).mpr trivial) ((eh _).mpr trivial)) ?_
   simp only[↓zq,zs,ac,bu,aC,eh,aH]
   refine⟨by omega,?_⟩
   refine ah (IH v (by simp only[Vl.nodes];omega) hv.1 a env t1 ⟨ok2,A.wf,ha,f1⟩ (by omega)) ?_
   simp only[↓zq,zs,ac,bB,eJ,hhd,hx]
   refine⟨fun h=>?_,fun h=>?_⟩
   ·refine ah (yt _ _ _ _ _ _ ((aC _).mpr trivial) ((eh _).mpr trivial)) ?_
    simp only[↓zq,zs,ac,bu,aC,eh,aH]
    refine⟨by omega,?_⟩
    refine ah (IH w (by simp only[Vl.nodes];omega) hv.2 b env t2 ⟨ok3,A.wf,hbb,f2⟩ (by omega)) ?_
    simp[↓zq,zs,ac,h]
   ·simp[h]
  |
   _ =>
   simp only[zv,Ty.av,Vl.cu,↓zq,zs,ac,eJ,hhd,bB]
   exact⟨by omega,fun h=>by omega,fun _=>⟨fun h=>by omega,fun _=>⟨fun h=>by omega,fun _=>⟨fun h=>by omega,fun _=>⟨fun _=>⟨by omega,fun h=>by omega,fun _=>by simp[hx]⟩,fun h=>absurd rfl h⟩⟩⟩⟩⟩
 ·obtain⟨t1',he1,h1,f1,hw1⟩:=jg A.wf A.ok hx A.ty A.cl
  cases he1
  have hok:=A.ok
  obtain⟨ok1,ok2,ok3,_⟩:=hok
  have htD:yf (.list [x,a,b]) env=.rc t1:=by rw[yf,A.ty];rfl
  have hin:=Ov t1 env a.at (.list [x,a,b]) htD
  simp only[Ty.av]at hin
  simp only[zv,Ty.av,↓zq,zs,ac]
  refine⟨by omega,fun h=>by omega,fun _=>⟨fun h=>by omega,fun _=>⟨fun h=>by omega,fun _=>⟨fun h=>by omega,fun _=>⟨fun h=>by omega,fun _=>⟨fun _=>?_,fun h=>absurd rfl h⟩⟩⟩⟩⟩⟩
  refine ah hin ?_
  simp only[↓zq,zs,ac,bu,aC,eh,zY,aH,fe]
  cases v with
  |
   f w =>
   simp only[Vl.nodes]at hl
   simp only[Vl.cu,↓zq,zs,ac,aH]
   refine⟨by omega,fun _=>⟨by omega,?_⟩,fun h=>absurd rfl h⟩
   refine ah (IH w (by simp only[Vl.nodes];omega) hv b (.mk a.at (.list [x,a,b]) env::env) t1 ⟨ok3,hw1,h1,f1⟩ (by simp;omega)) ?_
   simp[↓zq,zs,ac,bB,eJ,hhd,hx]
  |
   _ =>
   simp only[Vl.cu,↓zq,zs,ac,eJ,hhd,bB]
   exact⟨by omega,fun h=>by omega,fun _=>by simp[hx]⟩
theorem Hu(n:Nat)(hn:n<=100):∀(m:Nat) (v:Vl),v.nodes<m->v.iA 100->∀e env t,Ask e env t->env.length+v.nodes<100000->pL n v e env t
 |0,v,h,_=>by omega
 |
  m+1,v,h,hv=>by
  intro e env t A hl
  have IH:∀w:Vl,w.nodes<v.nodes->w.iA 100->∀e env t,Ask e env t->env.length+w.nodes<100000->pL n w e env t:=fun w hw hb=>Hu n hn m w (by omega) hb
  rcases gn A.wf A.ty with⟨hb,hh⟩|⟨u,f,rfl,hh,hu⟩
  ·exact Jr n hn v hv IH e env t A hl hb hh
  ·obtain⟨x,a,b,t',hfe,hok,hx,ht',hf',hwf,hlt⟩:=nG A.wf hh
   obtain⟨t1,hl1,h1,rfl⟩:=dx hx (hfe ▸ ht')
   have hvis:eJ n v (e,env)=eJ n v (f.ex,f.out):=tU n v (qh hh) (by rw[hfe];exact oP hwf)
   unfold pL
   refine Lb _ _ _ _ ((aC _).mpr trivial) ((eh _).mpr trivial) ((aH _).mpr trivial) ?_
   have hbd:=OA env u f hu (by omega)
   simp only[Ty.av]at hbd
   simp only[zv,Ty.av,↓zq,zs,ac]
   refine⟨by omega,fun h=>by omega,fun _=>⟨fun h=>by omega,fun _=>⟨fun _=>?_,fun h=>absurd rfl h⟩⟩⟩
   refine ah hbd ?_
   cases f with
   |
    mk s ee oo =>
    simp only[Fr.ex,Fr.out]at hfe ht' hf' hwf hvis hlt
    have htD:yf ee oo=.rc t1:=by rw[yf,ht'];rfl
    simp only[Fr.cu,htD,↓zq,zs,ac,bu,aC,eh]
    refine⟨by omega,?_⟩
    have hs:=Jr n hn v hv IH ee oo (.rc t1) ⟨by rw[hfe];exact hok,hwf,ht',hf'⟩ (by omega) rfl (by rw[hfe];exact kA hwf)
    unfold pL at hs
    refine ah hs ?_
    simp[↓zq,zs,ac,bB,hvis]
end Go.Proofs.Trees
namespace Go.Proofs.Trees
open Go Go.VL Go.RowKit
theorem rV:∀(env:List Fr) (k:Nat) (f:Fr),env[k]?=some f->(jU env).getD (env.length-1-k) []=f.cells
 |[],k,f,h=>by cases h
 |
  g::r,0,f,h=>by
  cases h
  have:(g::r).length-1-0=(jU r).length:=by simp[kC]
  rw[this,jU];simp[aa]
 |
  g::r,k+1,f,h=>by
  have h':r[k]?=some f:=by simpa using h
  have hlt:=(List.getElem?_eq_some_iff.1 h').1
  have e:(g::r).length-1-(k+1)=r.length-1-k:=by simp;omega
  have:=rV r k f h'
  rw[e,jU,aa,List.getElem?_append_left (by rw[kC];omega),<-aa]
  exact this
theorem qK(f:Fr):f.cells=[.v (.string (mk f.nm)),.v (.string (mk f.ex.at)),f.ex.sp,.sl (jU f.out)]:=by cases f;rfl
theorem HJ(e:E)(env:List Fr)(hl:env.length<1000000):∀(j k:Nat),k+j=env.length->E9 [.sl (jU env),.v (.int .i64 ((env.length:Int)-1-(k:Int)))] [.cells [.v (.string (mk e.at)),e.sp],.cells [.v (.string (mk [])),.v (.slice none 0 0)]]
 (ph (match fQ e.at (env.drop k)with|some f=>(2,[.sl (jU f.out)],[.cells [.v (.string (mk f.ex.at)),f.ex.sp]])|none=>(1,[.sl (jU env)],[.cells [.v (.string (mk e.at)),e.sp],.cells [.v (.string (mk [])),.v (.slice none 0 0)]])))
 |
  0,k,hk=>by
  refine Md _ _ _ _ _ _ ?_
  have hd:env.drop k=[]:=bL (by omega)
  simp only[Hd,↓zq,zs,ac,a7,hd,fQ]
  exact⟨fun h=>by omega,fun _=>by first|trivial|rfl⟩
 |
  j+1,k,hk=>by
  refine Md _ _ _ _ _ _ ?_
  have hlt:k<env.length:=by omega
  have hg:env[k]?=some env[k]:=bg hlt
  have hc:=rV env k _ hg
  have e1:((env.length:Int)-1-(k:Int))=((env.length-1-k:Nat):Int):=by omega
  have hdr:env.drop k=env[k]::env.drop (k+1):=aL hlt
  rw[hdr,fQ,e1]
  simp only[Hd,cf,hc,qK,↓zq,zs,ac,zt,a7,kC,bu]
  refine⟨fun _=>⟨by omega,by omega,fun h=>⟨by omega,by omega,by omega,by omega,?_⟩,fun h=>?_⟩,fun h=>by omega⟩
  ·rw[if_pos h]
  ·rw[if_neg h]
   have e2:IntKind.wrap .i64 (((env.length-1-k:Nat):Int)-1)=(env.length:Int)-1-((k+1:Nat):Int):=by
    have:IntKind.wrap .i64 (((env.length-1-k:Nat):Int)-1)=((env.length-1-k:Nat):Int)-1:=wrap64 _ (by omega) (by omega)
    omega
   rw[e2]
   exact HJ e env hl j (k+1) (by omega)
theorem N6(e:E)(env:List Fr)(hl:env.length<1000000):an Tryz.prog 154 [e.kj,.sl (jU env)] [] (bB (.cv [(hd e env).1.kj,.sl (jU (hd e env).2)])):=by
 rw[dr e]
 refine Pm _ _ _ ((a7 _).mpr trivial) ((cc _).mpr trivial) ?_
 simp only[Lf,↓zq,zs,ac,kC,bB]
 have h:=HJ e env hl env.length 0 (by omega)
 simp only[a6]at h
 rw[wrap64 _ (by omega) (by omega)]
 rw[show (env.length:Int)-1-((0:Nat):Int)=(env.length:Int)-1 by omega]at h
 refine fR h (fun ys o e'=>?_) (fun ys o e'=>?_)
 ·unfold hd
  cases hq:fQ e.at env<;>rw[hq]at e'<;>cases e'
  simp only[↓zq,zs,ac,zt,a7,dr]
 ·unfold hd
  cases hq:fQ e.at env<;>rw[hq]at e'<;>cases e'
  simp only[↓zq,zs,ac,zt,a7,dr]
theorem py:∀env:List Fr,cw 4 (jU env)
 |[]=>fun c hc=>by cases hc
 |
  f::r=>fun c hc=>by
  simp only[jU,aI,aN]at hc
  rcases hc with hc|rfl
  ·exact py r c hc
  ·rw[qK];rfl
theorem Of(x a b:E)(env:List Fr)(hl:env.length<1000000):an Tryz.prog 156 [(E.list [x,a,b]).kj,.sl (jU env)] [] (bB (.cv [b.kj,.sl (jU (.mk a.at (.list [x,a,b]) env::env))])):=by
 refine Nh _ _ _ ((cc _).mpr trivial) ((cc _).mpr trivial) ?_
 simp only[HL,E.bn,toNat_one,bj,↓zq,zs,ac,zt,iG,fZ,iL,mw,aq,kC,bB,aO]
 refine⟨by omega,⟨py env,by omega⟩,by omega,by omega,⟨fun c hc=>(by simp at hc;rw[hc];rfl),by omega⟩,?_⟩
 simp only[jU,qK,Fr.nm,Fr.ex,Fr.out,E.at,E.sp,E.bn]
theorem Dj(s:ByteArray)(e:E):bu [.str,.sl] [.v (.string s),e.sp] 0=True:=by apply eq_true;simp[bu,dY,a7]
theorem Eg{e:E}{env:List Fr}{t:Ty}(A:Ask e env t):∃e' o t',hd e env=(e',o)/\Ask e' o t'/\t'.Nd=false/\hd e' o=(e',o)/\o.length<=env.length:=by
 rcases gn A.wf A.ty with⟨hb,hh⟩|⟨u,f,rfl,hh,hu⟩
 ·exact⟨e,env,t,j8 hh,A,hb,j8 hh,aq _⟩
 ·obtain⟨x,a,b,t',hfe,hok,hx,ht',hf',hwf,hlt⟩:=nG A.wf hh
  refine⟨f.ex,f.out,t',qh hh,⟨by rw[hfe];exact hok,hwf,ht',hf'⟩,?_,?_,by omega⟩
  ·obtain⟨t1,_,_,rfl⟩:=dx hx (hfe ▸ ht');rfl
  ·rw[hfe];exact oP hwf
def vh:Vl->List UInt8
 | .l _=>[108]
 | .r _=>[114]
 | .f _=>[102]
 | .p _ _=>[112]
 |_=>[]
theorem AO(v:Vl):an Tryz.prog 121 [v.cE.kj] [] (bB (.v (.string (mk (vh v))))):=by
 cases v with
 |u=>exact Ch _ _ ((bb).mpr trivial) (by simp)
 |el k=>exact Ch _ _ ((bb).mpr trivial) (by simp)
 |l v=>exact ui _ _
 |r v=>exact ui _ _
 |f v=>exact ui _ _
 |p v w=>exact ui _ _
theorem Rf(v:Vl)(hv:v.iA 100):v.cE.at=(match v with| .u=>[117]| .el k=>vF k|_=>[])/\z8 v.cE.at=(match v with| .el k=>(k:Int)|_=>-1):=by
 cases v with
 |el k=>exact⟨rfl,GH k hv⟩
 |u=>exact⟨rfl,rfl⟩
 |_=>exact⟨rfl,rfl⟩
theorem yJ(n:Nat)(hn:n<=100):∀(m:Nat) (v:Vl),v.nodes<m->v.iA 100->∀e env t,Ask e env t->env.length+v.nodes<100000->an Tryz.prog 125 [e.kj,.sl (jU env),v.cE.kj,.v (.int .i64 (n:Int))] [] (bB (.v (.bool (eJ n v (e,env)))))
 |0,v,hm,hv,e,env,t,A,hl=>by omega
 |
  m+1,v,hm,hv,e,env,t,A,hl=>by
  obtain⟨e',o,t',hhd,A',hb,hh',hlen⟩:=Eg A
  rw[tU n v hhd hh',dr e,dr v.cE]
  refine Pv _ _ _ _ _ _ ((a7 _).mpr trivial) ((cc _).mpr trivial) ((a7 _).mpr trivial) ?_
  have hf:=N6 e env (by omega)
  rw[dr e,hhd]at hf
  have hvh:=AO v
  rw[dr]at hvh
  unfold Iu
  refine ah hf ?_
  simp only[dr e',↓zq,zs,ac,zt,a7,Dj,bB]
  rcases fy A'.ty hb A'.cl with⟨rfl,rfl⟩|⟨rfl,rfl⟩|⟨s,rfl,rfl,hp,h0,h1⟩|⟨x,a,b,t1,t2,rfl,hx,rfl,ha,hbb⟩|⟨x,a,b,t1,t2,rfl,hx,rfl,ha,hbb⟩|⟨x,a,b,t1,rfl,hx,rfl⟩
  ·refine⟨fun _=>⟨fun h=>by simp[E.at]at h,fun _=>ah (Es _) ?_⟩,fun h=>by simp[E.at]at h⟩
   have hp0:gO (E.atom [48]).at=false:=rfl
   have hp1:gO [48]=false:=rfl
   cases v<;>simp[↓zq,zs,ac,hp0,eJ,hh',hp1]
  ·refine⟨fun _=>⟨fun _=>?_,fun h=>absurd rfl h⟩,fun h=>by simp[E.at]at h⟩
   have hp1:gO [49]=false:=rfl
   cases v<;>simp[eJ,hh',hp1,Vl.cE,E.at]
  ·have hne:s≠[]:=A'.ok
   have h1':(s==[49])=false:=by simpa using h1
   refine⟨fun _=>⟨fun h=>absurd h h1,fun _=>ah (Es _) ?_⟩,fun h=>absurd h hne⟩
   have hat:(E.atom s).at=s:=rfl
   simp only[hat,hp,↓zq,zs,ac]
   refine⟨fun _=>ah (JW _) ?_,fun h=>by cases h⟩
   simp only[↓zq,zs,ac]
   rw[wrap64 _ (by omega) (by omega)]
   refine ah (zJ _ _ _) ?_
   simp only[↓zq,zs,ac,BJ,(Rf v hv).2]
   cases v with
   |
    el k =>
    simp only[eJ,hh',h1',hp,zf]
    congr 2
    rw[ct];simp;omega
   |_=>simp[eJ,hh',h1']
  ·have hok:=A'.ok
   obtain⟨ok1,ok2,ok3,_⟩:=hok
   obtain⟨f1,f2⟩:=e9 A'.cl
   refine⟨fun h=>absurd rfl h,fun _=>ah (ui x [a,b]) ?_⟩
   simp only[↓zq,zs,ac]
   refine ah hvh ?_
   rw[hx]
   cases v with
   |
    l w =>
    simp only[Vl.nodes]at hl
    simp only[vh,Vl.cE,E.sp,E.bn,toNat_one,bj,↓zq,zs,ac,zt,iG,fZ,iL,mw,aq]
    refine⟨by simp,fun _=>⟨by omega,by omega,ah (yJ n hn m w (by simp only[Vl.nodes]at hm;omega) hv a o t1 ⟨ok2,A'.wf,ha,f1⟩ (by omega)) ?_⟩,fun h=>absurd rfl h⟩
    simp[↓zq,zs,ac,eJ,hh',hx]
   |
    r w =>
    simp only[Vl.nodes]at hl
    simp only[vh,Vl.cE,E.sp,E.bn,toNat_one,bj,↓zq,zs,ac,zt,iG,fZ,iL,mw,aq]
    refine⟨by simp,fun h=>by simp at h,fun _=>⟨fun _=>⟨by omega,by omega,ah (yJ n hn m w (by simp only[Vl.nodes]at hm;omega) hv b o t2 ⟨ok3,A'.wf,hbb,f2⟩ (by omega)) ?_⟩,fun h=>absurd rfl h⟩⟩
    simp[↓zq,zs,ac,eJ,hh',hx]
   |_=>simp[vh,↓zq,zs,ac,zt,eJ,hh',hx]
  ·have hok:=A'.ok
   obtain⟨ok1,ok2,ok3,_⟩:=hok
   obtain⟨f1,f2⟩:=eI A'.cl
   refine⟨fun h=>absurd rfl h,fun _=>ah (ui x [a,b]) ?_⟩
   simp only[↓zq,zs,ac]
   refine ah hvh ?_
   rw[hx]
   cases v with
   |
    p w z =>
    simp only[Vl.nodes]at hl
    simp only[vh,Vl.cE,E.sp,E.bn,toNat_one,bj,↓zq,zs,ac,zt,iG,fZ,iL,mw,aq]
    refine⟨by simp,fun h=>by simp at h,fun _=>⟨fun h=>by simp at h,fun _=>⟨fun _=>⟨by omega,by omega,ah (yJ n hn m w (by simp only[Vl.nodes]at hm;omega) hv.1 a o t1 ⟨ok2,A'.wf,ha,f1⟩ (by omega)) ?_⟩,fun h=>absurd rfl h⟩⟩⟩
    simp only[↓zq,zs,ac,eJ,hh',hx]
    refine⟨fun h=>⟨by omega,by omega,ah (yJ n hn m z (by simp only[Vl.nodes]at hm;omega) hv.2 b o t2 ⟨ok3,A'.wf,hbb,f2⟩ (by omega)) ?_⟩,fun h=>?_⟩
    ·simp[↓zq,zs,ac,h]
    ·simp[h]
   |_=>simp[vh,↓zq,zs,ac,zt,eJ,hh',hx]
  ·obtain⟨t1',he1,h1,f1,hw1⟩:=jg A'.wf A'.ok hx A'.ty A'.cl
   cases he1
   have hok:=A'.ok
   obtain⟨ok1,ok2,ok3,_⟩:=hok
   refine⟨fun h=>absurd rfl h,fun _=>ah (ui x [a,b]) ?_⟩
   simp only[↓zq,zs,ac]
   refine ah hvh ?_
   rw[hx]
   cases v with
   |
    f w =>
    simp only[Vl.nodes]at hl
    simp only[vh,Vl.cE,E.sp,E.bn,toNat_one,bj,↓zq,zs,ac,zt,iG,fZ,iL,mw,aq]
    refine⟨by simp,fun h=>by simp at h,fun _=>⟨fun h=>by simp at h,fun _=>⟨fun h=>by simp at h,fun _=>⟨fun _=>ah (Of x a b o (by omega)) ?_,fun h=>absurd rfl h⟩⟩⟩⟩
    simp only[↓zq,zs,ac,yd,C6]
    refine⟨by omega,ah (yJ n hn m w (by simp only[Vl.nodes]at hm;omega) hv b (.mk a.at (.list [x,a,b]) o::o) t1 ⟨ok3,hw1,h1,f1⟩ (by simp;omega)) ?_⟩
    simp[↓zq,zs,ac,eJ,hh',hx]
   |_=>simp[vh,↓zq,zs,ac,zt,eJ,hh',hx]
theorem Qy(n:Nat)(hn:n<=100)(v:Vl)(hv:v.iA 100)(e:E)(env:List Fr)(t:Ty)(A:Ask e env t)(hl:env.length+v.nodes<100000):an Tryz.prog 125 [e.kj,.sl (jU env),v.cE.kj,.v (.int .i64 (n:Int))] [] (bB (.v (.bool (eJ n v (e,env))))):=yJ n hn (v.nodes+1) v (by omega) hv e env t A hl
end Go.Proofs.Trees
namespace Go.Proofs.Trees
open Go Go.VL Go.RowKit
theorem LU(l:List (List UInt8))(a:AV)(ha:cI a l)(s:List UInt8)(hl:l.length<1000000):∀(k i:Nat),i+k=l.length->D7 [a,.v (.string (mk s)),.v (.int .i64 (i:Int))] []
 (ph (if s∈l.drop i then(2,[.v (.bool true)],[])else(1,[],[])))
 |
  0,i,hi=>by
  refine MA _ _ _ ?_
  have hd:l.drop i=[]:=bL (by omega)
  simp only[FM,↓zq,zs,ac,hd,ha.len]
  exact⟨ha.1,ha.1,fun h=>by omega,fun _=>by simp[ph]⟩
 |
  k+1,i,hi=>by
  have hlt:i<l.length:=by omega
  have hdr:l.drop i=l.getD i []::l.drop (i+1):=by
   rw[aL hlt];simp[aa,hlt]
  refine MA _ _ _ ?_
  simp only[FM,↓zq,zs,ac,zt,ha.len,ha.idx hlt]
  refine⟨ha.1,ha.1,fun _=>⟨⟨ha.1,by omega,by omega⟩,by omega,fun h=>?_,fun h=>?_⟩,fun h=>by omega⟩
  ·rw[hdr,h];simp[ph]
  ·rw[bq i (by omega)]
   have:=LU l a ha s hl k (i+1) (by omega)
   have e:s∈l.drop i↔s∈l.drop (i+1):=by
    rw[hdr,aF];exact⟨fun q=>q.resolve_left (fun q=>h q.symm),.inr⟩
   simp only[e];exact this
theorem zn(l:List (List UInt8))(a:AV)(ha:cI a l)(s:List UInt8)(hl:l.length<1000000):an Tryz.prog 169 [a,.v (.string (mk s))] [] (bB (.v (.bool (decide (s∈l))))):=by
 refine N0 _ _ ha.1 ?_
 unfold Jn
 refine fR (LU l a ha s hl l.length 0 (by omega)) (fun ys o e=>?_) (fun ys o e=>?_)
 ·simp only[a6]at e
  split at e<;>cases e
  rename_i h
  simp[↓zq,zs,ac,bB,h]
 ·simp only[a6]at e
  split at e<;>cases e
  rename_i h
  simp[↓zq,zs,ac,bB,h]
theorem Dl(l:List (List UInt8))(a:AV)(ha:cI a l)(s:List UInt8)(hl:l.length<1000000):an Tryz.prog 79 [a,.v (.string (mk s))] [] (bB (.sl (bT (l++[s])))):=by
 refine KE _ _ ha.1 ?_
 simp only[DZ,↓zq,zs,ac,ha.2,bB,aO]
 have:(bT l).length=l.length:=by simp[bT]
 refine⟨⟨ha.1,j9 l,by omega⟩,⟨fun c hc=>(by simp at hc;rw[hc];rfl),by omega⟩,?_⟩
 rw[wm]
def kb:E->List (List UInt8)->List (List UInt8)->List (List UInt8)
 | .atom s,bd,l=>if s=[48]\/s=[49]\/s∈bd\/s∈l then l else l++[s]
 | .list [x,a,b],bd,l=>if x.at=[114,101,99]then kb b (bd++[a.at]) l else kb b bd (kb a bd l)
 | .list _,_,l=>l
theorem fX:∀(e:E) (bd l:List (List UInt8)),(kb e bd l).length<=l.length+e.sz
 | .atom s,bd,l=>by rw[kb];split<;>simp[E.sz]
 | .list [],bd,l=>by simp[kb]
 | .list [_],bd,l=>by simp[kb]
 | .list [_,_],bd,l=>by simp[kb]
 | .list (_::_::_::_::_),bd,l=>by simp[kb]
 |
  .list [x,a,b],bd,l=>by
  rw[kb]
  simp only[E.sz,E.jM]
  split
  ·have:=fX b (bd++[a.at]) l;omega
  ·have:=fX a bd l
   have:=fX b bd (kb a bd l)
   omega
theorem Di:∀(e:E) (bd l:List (List UInt8)) (a:AV),e.ok->jA e=true->cI a bd->bd.length+l.length+e.sz<100000->an Tryz.prog 137 [e.kj,a,.vec 0] [.vec 1 (bT l)] (dh (.vec 1) [.dead,.vec 1 (bT (kb e bd l))])
 |
  .atom s,bd,l,a,hok,hty,ha,hl=>by
  simp only[E.sz]at hl
  refine yV _ _ _ _ ((bb).mpr trivial) ha.1 ?_
  have hne:s≠[]:=hok
  have hll:(bT l).length=l.length:=by simp[bT]
  simp only[GL,↓zq,zs,ac,zt,dh,kb]
  refine⟨fun _=>⟨fun h=>?_,fun h=>⟨fun h1=>?_,fun h1=>?_⟩⟩,fun h=>absurd h hne⟩
  ·rw[if_pos (.inl h)]
  ·rw[if_pos (.inr (.inl h1))]
  ·refine ah (zn bd a ha s (by omega)) ?_
   simp only[↓zq,zs,ac]
   refine⟨fun h2=>?_,fun h2=>ah (zn l _ (.of l) s (by omega)) ?_⟩
   ·rw[if_pos (.inr (.inr (.inl h2)))]
   ·simp only[↓zq,zs,ac]
    refine⟨fun h3=>?_,fun h3=>⟨⟨fun c hc=>(by simp at hc;rw[hc];rfl),by omega⟩,?_⟩⟩
    ·rw[if_pos (.inr (.inr (.inr h3)))]
    ·rw[wm,if_neg]
     rintro(q|q|q|q)
     ·exact h q
     ·exact h1 q
     ·exact h2 q
     ·exact h3 q
 | .list [],_,_,_,_,h,_,_=>by cases h
 | .list [_],_,_,_,_,h,_,_=>by cases h
 | .list [_,_],_,_,_,_,h,_,_=>by cases h
 | .list (_::_::_::_::_),_,_,_,_,h,_,_=>by cases h
 |
  .list [x,y,z],bd,l,a,hok,hty,ha,hl=>by
  simp only[E.sz,E.jM]at hl
  obtain⟨ok1,ok2,ok3,_⟩:=hok
  refine yV _ _ _ _ ((cc _).mpr trivial) ha.1 ?_
  simp only[GL,E.bn,toNat_one,bj,↓zq,zs,ac,zt,iG,fZ,iL,mw,aq,dh]
  refine⟨fun h=>absurd rfl h,fun _=>ah (ui x [y,z]) ?_⟩
  simp only[↓zq,zs,ac,zt]
  have hyl:=fX y bd l
  rw[jA]at hty
  refine⟨fun h=>⟨by omega,by omega,by omega,ah (Dl bd a ha y.at (by omega)) ?_⟩,fun h=>⟨by omega,by omega,?_⟩⟩
  ·have hz:jA z=true:=by
    rw[if_neg (by rw[h];decide),if_neg (by rw[h];decide),if_pos h]at hty
    simp only[ap]at hty;exact hty.2
   simp only[↓zq,zs,ac]
   refine aX (Di z (bd++[y.at]) l _ ok3 hz (.of _) (by simp;omega)) ?_
   simp only[↓zq,zs,ac]
   rw[kb,if_pos h]
  ·have hyz:jA y=true/\jA z=true:=by
    split at hty
    ·simpa using hty
    ·split at hty
     ·simpa using hty
     ·cases hty
   refine aX (Di y bd l a ok2 hyz.1 ha (by omega)) ?_
   simp only[↓zq,zs,ac]
   refine aX (Di z bd (kb y bd l) a ok3 hyz.2 ha (by omega)) ?_
   simp only[↓zq,zs,ac]
   rw[kb,if_neg h]
theorem ke{s:List UInt8}(h:gO s=true):cZ s=false:=by
 cases hq:cZ s with
 |false=>rfl
 |
  true =>
  obtain⟨c,r,rfl,h1,h2⟩:=ly h
  obtain⟨c',r',he,h3,h4⟩:=ly hq
  cases he;omega
theorem mh(s:List UInt8)(ar:List (List UInt8)):∀i,i<=ar.length->(bH s ar i=none↔s∉ar.take i)
 |0,_=>by simp[bH]
 |
  i+1,hi=>by
  have hlt:i<ar.length:=by omega
  have e:ar.getD i []=ar[i]:=by simp[aa,hlt]
  have e2:s∈ar.take (i+1)↔s∈ar.take i\/s=ar[i]:=by
   rw[show ar.take (i+1)=ar.take i++[ar[i]] from (List.take_append_getElem hlt).symm]
   simp only[aI,aN]
  rw[bH,e,e2]
  by_cases h:ar[i]=s
  ·rw[if_pos h]
   exact⟨fun h=>(by cases h),fun h'=>absurd (.inr h.symm) h'⟩
  ·rw[if_neg h,mh s ar i (by omega)]
   exact⟨fun h1 h2=>h2.elim h1 (fun h3=>h h3.symm),fun h1 h2=>h1 (.inl h2)⟩
theorem lF:∀(e:E) (ar l:List (List UInt8)) (t:Ty),cP e ar=some t->(∀w,w∈ar->cZ w=true)->(kb e ar l).any cZ=(l.any cZ||bW t)
 |
  .atom s,ar,l,t,h,har=>by
  simp only[cP]at h
  rw[kb]
  split at h
  ·rename_i h0;cases h;rw[if_pos (.inl h0)];simp[bW]
  ·rename_i h0
   split at h
   ·rename_i h1;cases h;rw[if_pos (.inr (.inl h1))];simp[bW]
   ·rename_i h1
    split at h
    ·rename_i h2
     cases h
     have hn:=ke h2
     simp only[bW,hn]
     split
     ·simp
     ·simp[hn]
    ·split at h
     ·rename_i h2 h3
      have hlo:=mh s ar ar.length (aq _)
      rw[List.take_length]at hlo
      cases hq:bH s ar ar.length with
      |
       some u =>
       rw[hq]at h;cases h
       have hm:s∈ar:=Classical.byContradiction fun hm=>by rw[hlo.2 hm]at hq;cases hq
       rw[if_pos (.inr (.inr (.inl hm)))];simp[bW]
      |
       none =>
       rw[hq]at h;cases h
       have hm:=hlo.1 hq
       simp only[bW,h3,Bool.or_true]
       split
       ·rename_i hh
        rcases hh with q|q|q|q
        ·exact absurd q h0
        ·exact absurd q h1
        ·exact absurd q hm
        ·rw[ci];exact⟨s,q,h3⟩
       ·simp[h3]
     ·cases h
 | .list [],_,_,_,h,_=>by cases h
 | .list [_],_,_,_,h,_=>by cases h
 | .list [_,_],_,_,_,h,_=>by cases h
 | .list (_::_::_::_::_),_,_,_,h,_=>by cases h
 |
  .list [x,a,b],ar,l,t,h,har=>by
  rw[kb]
  by_cases h0:x.at=[43]
  ·obtain⟨t1,t2,e1,e2,rfl⟩:=fu h0 h
   rw[if_neg (by rw[h0];decide),lF b ar _ t2 e2 har,lF a ar l t1 e1 har,bW,Bool.or_assoc]
  ·by_cases h1:x.at=[42]
   ·obtain⟨t1,t2,e1,e2,rfl⟩:=eQ h1 h
    rw[if_neg (by rw[h1];decide),lF b ar _ t2 e2 har,lF a ar l t1 e1 har,bW,Bool.or_assoc]
   ·by_cases h2:x.at=[114,101,99]
    ·obtain⟨t1,hl,e1,rfl⟩:=dx h2 h
     rw[if_pos h2,lF b _ l t1 e1 (fun w hw=>by
      simp only[aI,aN]at hw
      rcases hw with hw|rfl
      ·exact har w hw
      ·exact hl),bW]
    ·rw[iS _ h0 h1 h2]at h;cases h
def jp(s:List UInt8):Option E:=match vC s with
 |none=>none
 |some e=>if(kb e [] []).any cZ=true then none else some e
theorem Ap{s:List UInt8}:wu s=match jp s with|none=>none|some e=>cP e []:=by
 unfold wu jp
 rw[tG]
 cases he:vC s with
 |none=>rfl
 |
  some e =>
  obtain⟨h1,h2,h3⟩:=pj he
  have hs:=iJ e []
  rw[h2]at hs
  obtain⟨t,ht⟩:=bK.1 hs
  have ha:=lF e [] [] t ht (fun w hw=>by cases hw)
  simp only[ht,sJ,ha,List.any_nil,Bool.false_or]
  cases hf:bW t<;>simp[ht]
theorem iQ{s:List UInt8}{e:E}(h:jp s=some e):∃t,wu s=some t/\Ask e [] t/\jA e=true/\e.sz<=8000/\t.az<=400/\qk s=some e:=by
 have h0:=h
 unfold jp at h
 split at h
 ·cases h
 ·rename_i e' he
  split at h
  ·cases h
  ·rename_i hn
   cases h
   obtain⟨h1,h2,h3⟩:=pj he
   obtain⟨hok,hsz⟩:=ny h1
   have hs:=iJ e []
   rw[h2]at hs
   obtain⟨t,ht⟩:=bK.1 hs
   have ha:=lF e [] [] t ht (fun w hw=>by cases hw)
   rw[ha]at hn
   refine⟨t,by rw[Ap,h0];exact ht,⟨hok,.nil,ht,by simpa using hn⟩,h2,hsz,?_,h1⟩
   rw[<-jO e [] t ht];exact h3
theorem mO{s:List UInt8}(h:jp s=none):wu s=none:=by rw[Ap,h]
theorem Mx(e:E)(l:List (List UInt8))(hl:l.length<1000000):∀(k i:Nat),i+k=l.length->EY [.v (.int .i64 (i:Int))] [.cells [.v (.string (mk [])),.v (.slice none 0 0)],.cells [.v (.string (mk e.at)),e.sp],.vec 1 (bT l)]
 (ph (if(l.drop i).any cZ=true then(2,[.v (.bool false)],[.cells [.v (.string (mk e.at)),e.sp]])else(1,[],[.cells [.v (.string (mk [])),.v (.slice none 0 0)],.cells [.v (.string (mk e.at)),e.sp]])))
 |
  0,i,hi=>by
  refine Hw _ _ _ _ _ _ ?_
  have hd:l.drop i=[]:=bL (by omega)
  have hll:(bT l).length=l.length:=by simp[bT]
  simp only[EN,↓zq,zs,ac,hd,hll,a7]
  exact⟨fun h=>by omega,fun _=>by simp[ph]⟩
 |
  k+1,i,hi=>by
  have hlt:i<l.length:=by omega
  have hll:(bT l).length=l.length:=by simp[bT]
  have hdr:l.drop i=l.getD i []::l.drop (i+1):=by
   rw[aL hlt];simp[aa,hlt]
  have hg:=(cI.of l).idx hlt
  simp only[fS]at hg
  refine Hw _ _ _ _ _ _ ?_
  simp only[EN,↓zq,zs,ac,zt,hll,hg,a7]
  refine⟨fun _=>⟨by omega,by omega,ah (Fa _) ?_⟩,fun h=>by omega⟩
  simp only[↓zq,zs,ac,hdr,List.any_cons]
  refine⟨fun h=>?_,fun h=>?_⟩
  ·rw[h];simp[ph]
  ·rw[h,bq i (by omega)]
   simp only[Bool.false_or]
   exact Mx e l hl k (i+1) (by omega)
theorem IU(s:List UInt8):an Tryz.prog 104 [.v (.string (mk s))] [] (jR (jp s) (jp s).isSome):=by
 refine P7 _ ?_
 unfold Mj
 refine bC (GB s) (jR.ne _ _ (fun h=>h)) ?_
 rintro r o ⟨c,d,hd,rfl,hh⟩
 have hhas:bu [.str,.sl] [.v (.string (mk c)),d] 0:=by simp[bu,dY,hd]
 simp only[↓zq,zs,ac,zt]
 refine⟨hhas,fun h=>?_,fun h=>?_⟩
 ·have hn:vC s=none:=by cases hq:vC s<;>simp[hq]at h |-
  unfold jp
  rw[hn]
  exact⟨c,d,hd,rfl,fun h=>by cases h⟩
 ·obtain⟨e,he,hce⟩:=hh h
  obtain⟨h1,h2,h3⟩:=pj he
  obtain⟨hok,hsz⟩:=ny h1
  have hce':=hce
  rw[dr]at hce'
  simp only[AV.agg.injEq,List.cons.injEq,AV.v.injEq,Value.string.injEq,and_true]at hce'
  obtain⟨hc1,rfl⟩:=hce'
  have hc2:=Au hc1
  subst hc2
  rw[<-dr]
  refine aX (Di e [] [] _ hok h2 (.of []) (by simp;omega)) ?_
  have hfl:=fX e [] []
  simp only[↓zq,zs,ac]
  have hLS:=Mx e (kb e [] []) (by simp at hfl;omega) (kb e [] []).length 0 (by omega)
  simp only[a6]at hLS
  unfold jp
  rw[he]
  refine fR hLS (fun ys o e'=>?_) (fun ys o e'=>?_)
  ·split at e'<;>cases e'
   rename_i hn
   simp only[↓zq,zs,ac,a7,if_neg hn]
   exact⟨e.at,e.sp,hd,rfl,fun _=>⟨e,rfl,(dr e).symm⟩⟩
  ·split at e'<;>cases e'
   rename_i hn
   simp only[↓zq,zs,ac,a7,if_pos hn]
   exact⟨e.at,e.sp,hd,rfl,fun h=>by cases h⟩
def nE(s v:List UInt8)(n:Int):Option Vl:=match jp s,rI v with
 |some e,some w=>if(0<=n/\n<=100)/\eJ n.toNat w (e,[])=true then some w else none
 |_,_=>none
theorem qo{s v:List UInt8}{n:Int}{w:Vl}(h:nE s v n=some w):∃e t m,jp s=some e/\rI v=some w/\wu s=some t/\Ask e [] t/\n=(m:Nat)/\m<=100/\eJ m w (e,[])=true:=by
 unfold nE at h
 split at h
 ·rename_i e w' he hw
  split at h
  ·rename_i hh
   cases h
   obtain⟨t,h1,h2,_⟩:=iQ he
   exact⟨e,t,n.toNat,he,hw,h1,h2,by omega,by omega,hh.2⟩
  ·cases h
 ·cases h
theorem MS(s v:List UInt8)(n:Int):an Tryz.prog 71 [.v (.string (mk s)),.v (.string (mk v)),.v (.int .i64 n)] [] (bB (.cv [gZ (wu s),ja (nE s v n)])):=by
 refine PD _ _ _ ?_
 unfold Kd
 refine ah (Kb s) ?_
 simp only[↓zq,zs,ac,ic]
 refine ah (Qj v) ?_
 simp only[↓zq,zs,ac,gm,bB]
 unfold nE
 cases he:jp s with
 |none=>rw[mO he];cases rI v<;>simp[gZ,ja,↓zq,zs,ac]
 |
  some e =>
  obtain⟨t,h1,h2,h3,h4,h5,_⟩:=iQ he
  rw[h1]
  cases hv:rI v with
  |none=>simp only[gZ,ja,aC,fD,↓zq,zs,ac];exact⟨fun h=>(by cases h),fun _=>⟨fun _=>trivial,fun h=>(by cases h)⟩⟩
  |
   some w =>
   obtain⟨h6,h7,h8⟩:=kZ hv
   simp only[gZ,ja,aC,fD,aH,fe,↓zq,zs,ac]
   refine⟨fun h=>(by cases h),fun _=>⟨fun h=>(by cases h),fun _=>⟨fun h=>?_,fun h=>⟨fun h'=>?_,fun h'=>?_⟩⟩⟩⟩
   ·rw[if_neg (by omega)]
   ·rw[if_neg (by omega)]
   ·obtain⟨m,rfl⟩:∃m:Nat,n=(m:Int):=⟨n.toNat,by omega⟩
    have hi:=Hu m (by omega) (w.nodes+1) w (by omega) h7 e [] t h2 (by simp;omega)
    unfold pL at hi
    refine ah hi ?_
    simp only[↓zq,zs,ac,cf]
    refine⟨fun hq=>?_,fun hq=>?_⟩
    ·rw[if_neg (by rw[hq];simp)]
    ·rw[if_pos ⟨by omega,hq⟩]
theorem zd(s v:List UInt8)(n:Int):an Tryz.prog 90 [.v (.string (mk s)),.v (.string (mk v)),.v (.int .i64 n)] [] (bB (.v (.bool (nE s v n).isSome))):=by
 refine Pw _ _ _ ?_
 unfold JY
 refine bC (IU s) (jR.ne _ _ (fun h=>h)) ?_
 rintro r o ⟨c,d,hd,rfl,hh⟩
 have hhas:bu [.str,.sl] [.v (.string (mk c)),d] 0:=by simp[bu,dY,hd]
 simp only[↓zq,zs,ac,zt]
 refine⟨hhas,?_⟩
 refine bC (C4 v) (jR.ne _ _ (fun h=>by cases hq:rI v<;>simp[hq]at h |-)) ?_
 rintro r o ⟨c',d',hd',rfl,hh'⟩
 have hhas':bu [.str,.sl] [.v (.string (mk c')),d'] 0:=by simp[bu,dY,hd']
 simp only[↓zq,zs,ac,zt,bB]
 refine⟨hhas',fun h=>⟨fun h2=>?_,fun h2=>?_⟩,fun h=>?_⟩
 ·obtain⟨e,he,hce⟩:=hh h
  obtain⟨t,h1,hA,h3,h4,h5,_⟩:=iQ he
  obtain⟨w,hw⟩:=bK.1 h2
  obtain⟨e2,he2,hce2⟩:=hh' h2
  rw[hw]at he2
  cases he2
  obtain⟨h6,h7,h8⟩:=kZ hw
  refine ah (zJ _ _ _) ?_
  simp only[↓zq,zs,ac,BJ,nE,he,hw]
  refine⟨fun hq=>?_,fun hq=>?_⟩
  ·have hq':0<=n/\n<=100:=by simpa using hq
   obtain⟨m,rfl⟩:∃m:Nat,n=(m:Int):=⟨n.toNat,by omega⟩
   rw[hce,hce2]
   have:=Qy m (by omega) w h7 e [] t hA (by simp;omega)
   rw[show jU []=[] from rfl]at this
   refine ah this ?_
   simp only[↓zq,zs,ac,cf]
   by_cases hb:eJ m w (e,[])=true
   ·rw[if_pos ⟨hq',hb⟩,hb];rfl
   ·rw[if_neg (fun h=>hb h.2)]
    rw[Bool.not_eq_true]at hb
    rw[hb];rfl
  ·have hq':¬(0<=n/\n<=100):=by simpa using hq
   rw[if_neg (fun h=>hq' h.1)];rfl
 ·have hn:rI v=none:=by cases hq:rI v<;>simp[hq]at h2 |-
  unfold nE
  rw[hn];cases jp s<;>rfl
 ·have hn:jp s=none:=by cases hq:jp s<;>simp[hq]at h |-
  unfold nE
  rw[hn];rfl
end Go.Proofs.Trees
namespace Go.Proofs.Trees
open Go Go.VL Go.RowKit
inductive Tg where
 |nm (s:List UInt8)
 |bd (k:Nat)
 deriving DecidableEq
def Tg.up:Tg->Tg
 | .nm s=>.nm s
 | .bd k=>.bd (k+1)
def fE:Ty->Tg->Bool
 | .name s,.nm s'=>decide (s=s')
 | .bN u,.bd k=>decide (u=k)
 |_,_=>false
abbrev Hl:=Vl×Vl
def ji(g:Vl->Vl)(l:List Hl):List Hl:=l.map fun h=>(g h.1,h.2)
def kl(f:Ty->Tg->Vl->List Hl)(tg:Tg):Ty->Vl->List Hl
 | .plus a _,.l w=>ji .l (f a tg w)
 | .plus _ b,.r w=>ji .r (f b tg w)
 | .times a b,.p x y=>ji (fun c=>.l (.p c y)) (f a tg x)++ji (fun c=>.r (.p x c)) (f b tg y)
 | .rc a,.f w=>ji (fun c=>.f (.l c)) (f a tg.up w)++(f a (.bd 0) w).flatMap fun h=>ji (fun c=>.f (.r (.p h.1 c))) (f (.rc a) tg h.2)
 |_,_=>[]
def ew:Nat->Ty->Tg->Vl->List Hl
 |0,_,_,_=>[]
 |n+1,t,tg,v=>if fE t tg=true then [(.u,v)]else kl (ew n) tg t v
def stuck:Ty->Vl->Bool
 | .plus _ _,.l _=>false
 | .plus _ _,.r _=>false
 | .times _ _,.p _ _=>false
 | .rc _,.f _=>false
 |_,_=>true
def cb(t:Ty)(tg:Tg)(v:Vl):List Hl:=ew v.nodes t tg v
theorem dD{g:Vl->Vl}{l:List Hl}{h:Hl}(hm:h∈ji g l):∃k,k∈l/\h=(g k.1,k.2):=by
 obtain⟨k,h1,h2⟩:=bS.1 hm
 exact⟨k,h1,h2.symm⟩
theorem jE{f g:Hl->List Hl}:∀{l:List Hl},(∀h,h∈l->f h=g h)->l.flatMap f=l.flatMap g
 |[],_=>rfl
 |h::l,hl=>by rw[List.flatMap_cons,List.flatMap_cons,hl h aj,jE (l:=l) fun k hk=>hl k (ak _ hk)]
theorem fA:∀(n:Nat) (t:Ty) (tg:Tg) (v:Vl) (h:Hl),h∈ew n t tg v->h.2.nodes<=v.nodes/\h.1.nodes+4*h.2.nodes<=4*v.nodes+1
 |0,t,tg,v,h,hm=>by simp[ew]at hm
 |
  n+1,t,tg,v,h,hm=>by
  unfold ew at hm
  split at hm
  ·simp only[aN]at hm
   subst hm
   simp only[Vl.nodes];omega
  ·unfold kl at hm
   split at hm
   ·obtain⟨k,h1,rfl⟩:=dD hm
    have:=fA n _ _ _ k h1
    simp only[Vl.nodes];omega
   ·obtain⟨k,h1,rfl⟩:=dD hm
    have:=fA n _ _ _ k h1
    simp only[Vl.nodes];omega
   ·rcases aI.1 hm with hm|hm
    ·obtain⟨k,h1,rfl⟩:=dD hm
     have:=fA n _ _ _ k h1
     simp only[Vl.nodes];omega
    ·obtain⟨k,h1,rfl⟩:=dD hm
     have:=fA n _ _ _ k h1
     simp only[Vl.nodes];omega
   ·rcases aI.1 hm with hm|hm
    ·obtain⟨k,h1,rfl⟩:=dD hm
     have:=fA n _ _ _ k h1
     simp only[Vl.nodes];omega
    ·obtain⟨k,h1,h2⟩:=List.mem_flatMap.1 hm
     obtain⟨k2,h3,rfl⟩:=dD h2
     have:=fA n _ _ _ k h1
     have:=fA n _ _ _ k2 h3
     simp only[Vl.nodes];omega
   ·simp at hm
theorem gG:∀(n m:Nat) (t:Ty) (tg:Tg) (v:Vl),v.nodes<=n->v.nodes<=m->ew n t tg v=ew m t tg v
 |0,m,t,tg,v,h,_=>by have:=dA v;omega
 |n+1,0,t,tg,v,_,h=>by have:=dA v;omega
 |
  n+1,m+1,t,tg,v,hn,hm=>by
  rw[ew,ew]
  split
  ·rfl
  ·unfold kl
   split
   ·simp only[Vl.nodes]at hn hm;rw[gG n m _ _ _ (by omega) (by omega)]
   ·simp only[Vl.nodes]at hn hm;rw[gG n m _ _ _ (by omega) (by omega)]
   ·simp only[Vl.nodes]at hn hm;rw[gG n m _ _ _ (by omega) (by omega),gG n m _ _ _ (by omega) (by omega)]
   ·rename_i a w
    simp only[Vl.nodes]at hn hm;rw[gG n m _ _ _ (by omega) (by omega),gG n m _ (.bd 0) _ (by omega) (by omega)]
    congr 1
    apply jE
    intro h hh
    have:=(fA _ _ _ _ _ hh).1
    rw[gG n m _ _ _ (by omega) (by omega)]
   ·rfl
theorem oH{n:Nat}(t:Ty)(tg:Tg){v:Vl}(h:v.nodes<=n):ew n t tg v=cb t tg v:=gG _ _ _ _ _ h (aq _)
theorem mo{t:Ty}{tg:Tg}(v:Vl)(h:fE t tg=true):cb t tg v=[(.u,v)]:=by
 have:=dA v
 unfold cb
 cases e:v.nodes with
 |zero=>omega
 |succ n=>rw[ew,if_pos h]
theorem mR(a b:Ty)(tg:Tg)(w:Vl):cb (.plus a b) tg (.l w)=ji .l (cb a tg w):=by
 unfold cb;rw[show (Vl.l w).nodes=w.nodes+1 by simp[Vl.nodes];omega,ew,if_neg (by simp[fE])];rfl
theorem mH(a b:Ty)(tg:Tg)(w:Vl):cb (.plus a b) tg (.r w)=ji .r (cb b tg w):=by
 unfold cb;rw[show (Vl.r w).nodes=w.nodes+1 by simp[Vl.nodes];omega,ew,if_neg (by simp[fE])];rfl
theorem mJ(a b:Ty)(tg:Tg)(x y:Vl):cb (.times a b) tg (.p x y)=ji (fun c=>.l (.p c y)) (cb a tg x)++ji (fun c=>.r (.p x c)) (cb b tg y):=by
 rw[cb,show (Vl.p x y).nodes=(x.nodes+y.nodes)+1 by simp[Vl.nodes];omega,ew,if_neg (by simp[fE])]
 rw[kl,oH a tg (by omega),oH b tg (by omega)]
theorem mF(a:Ty)(tg:Tg)(w:Vl):cb (.rc a) tg (.f w)=ji (fun c=>.f (.l c)) (cb a tg.up w)++(cb a (.bd 0) w).flatMap fun h=>ji (fun c=>.f (.r (.p h.1 c))) (cb (.rc a) tg h.2):=by
 rw[cb,show (Vl.f w).nodes=w.nodes+1 by simp[Vl.nodes];omega,ew,if_neg (by simp[fE])]
 rw[kl,oH a tg.up (aq _),oH a (.bd 0) (aq _)]
 congr 1
 apply jE
 intro h hh
 have:=(fA _ _ _ _ _ hh).1
 rw[oH (.rc a) tg this]
theorem dP{t:Ty}{tg:Tg}{v:Vl}(h:fE t tg=false)(h2:stuck t v=true):cb t tg v=[]:=by
 unfold cb
 cases e:v.nodes with
 |zero=>rfl
 |
  succ n =>
  rw[ew,if_neg (by rw[h];simp)]
  unfold kl
  split<;>first|(simp[stuck]at h2;done)|rfl
theorem iq{t:Ty}{tg:Tg}{v:Vl}{h:Hl}(hm:h∈cb t tg v):h.2.nodes<=v.nodes/\h.1.nodes+4*h.2.nodes<=4*v.nodes+1:=fA _ _ _ _ _ hm
theorem gM(n:Nat):∀(m:Nat) (t:Ty) (tg:Tg) (v:Vl) (h:Hl),v.iA n->h∈ew m t tg v->h.1.iA n/\h.2.iA n
 |0,t,tg,v,h,hv,hm=>by simp[ew]at hm
 |
  m+1,t,tg,v,h,hv,hm=>by
  unfold ew at hm
  split at hm
  ·simp only[aN]at hm
   subst hm
   exact⟨trivial,hv⟩
  ·unfold kl at hm
   split at hm
   ·obtain⟨k,h1,rfl⟩:=dD hm
    exact(fun q=>gM n m _ _ _ k q h1) hv
   ·obtain⟨k,h1,rfl⟩:=dD hm
    exact(fun q=>gM n m _ _ _ k q h1) hv
   ·rcases aI.1 hm with hm|hm
    ·obtain⟨k,h1,rfl⟩:=dD hm
     obtain⟨q1,q2⟩:=gM n m _ _ _ k hv.1 h1
     exact⟨⟨q1,hv.2⟩,q2⟩
    ·obtain⟨k,h1,rfl⟩:=dD hm
     obtain⟨q1,q2⟩:=gM n m _ _ _ k hv.2 h1
     exact⟨⟨hv.1,q1⟩,q2⟩
   ·rcases aI.1 hm with hm|hm
    ·obtain⟨k,h1,rfl⟩:=dD hm
     exact(fun q=>gM n m _ _ _ k q h1) hv
    ·obtain⟨k,h1,h2⟩:=List.mem_flatMap.1 hm
     obtain⟨k2,h3,rfl⟩:=dD h2
     obtain⟨q1,q2⟩:=(fun q=>gM n m _ _ _ k q h1) hv
     obtain⟨q3,q4⟩:=gM n m _ _ _ k2 q2 h3
     exact⟨⟨q1,q3⟩,q4⟩
   ·simp at hm
def ku(l:List Hl):Nat:=(l.map fun h=>h.2.nodes).sum
theorem qR(l r:List Hl):ku (l++r)=ku l+ku r:=by simp[ku]
theorem nN(g:Vl->Vl)(l:List Hl):ku (ji g l)=ku l:=by simp[ku,ji,Function.comp_def]
def ki(f:Tg->Nat)(T:List Tg):Nat:=(T.map f).sum
theorem nK(f g:Tg->Nat):∀T:List Tg,ki (fun x=>f x+g x) T=ki f T+ki g T
 |[]=>rfl
 |x::T=>by have:=nK f g T;simp only[ki,bG,List.sum_cons]at this |-;omega
theorem xw{f g:Tg->Nat}:∀{T:List Tg},(∀x,x∈T->f x<=g x)->ki f T<=ki g T
 |[],_=>aq _
 |
  x::T,h=>by
  have:=xw (T:=T) fun y hy=>h y (ak _ hy)
  have:=h x aj
  simp only[ki,bG,List.sum_cons]at *;omega
theorem pg{f:Tg->Nat}:∀{T:List Tg},(∀x,x∈T->f x=0)->ki f T=0
 |[],_=>rfl
 |
  x::T,h=>by
  have:=pg (T:=T) fun y hy=>h y (ak _ hy)
  have:=h x aj
  simp only[ki,bG,List.sum_cons]at *;omega
theorem sP(g:Hl->Tg->Nat)(T:List Tg):∀l:List Hl,ki (fun x=>(l.map fun h=>g h x).sum) T=(l.map fun h=>ki (g h) T).sum
 |[]=>pg fun _ _=>rfl
 |
  h::l=>by
  have:=sP g T l
  simp only[bG,List.sum_cons]
  rw[nK,this]
theorem sf(f:Hl->List Hl):∀l:List Hl,ku (l.flatMap f)=(l.map fun h=>ku (f h)).sum
 |[]=>rfl
 |h::l=>by rw[List.flatMap_cons,qR,sf f l];simp
theorem zD{f g:Hl->Nat}:∀{l:List Hl},(∀x,x∈l->f x<=g x)->(l.map f).sum<=(l.map g).sum
 |[],_=>aq _
 |
  x::l,h=>by
  have:=zD (l:=l) fun y hy=>h y (ak _ hy)
  have:=h x aj
  simp only[bG,List.sum_cons]at *;omega
theorem zI{t:Ty}{x y:Tg}(h:fE t x=true)(h':fE t y=true):x=y:=by
 cases t<;>cases x<;>cases y<;>simp[fE]at h h'<;>simp_all
theorem yh{t:Ty}(n:Nat):∀{T:List Tg},T.Nodup->ki (fun x=>if fE t x=true then n else 0) T<=n
 |[],_=>Nat.zero_le _
 |
  x::T,h=>by
  obtain⟨h1,h2⟩:=List.nodup_cons.1 h
  have ih:=yh (t:=t) n h2
  by_cases hx:fE t x=true
  ·have:ki (fun x=>if fE t x=true then n else 0) T=0:=pg fun y hy=>by
    rw[if_neg fun hy'=>h1 (by rw[zI hx hy'];exact hy)]
   simp only[ki,bG,List.sum_cons]at *
   rw[if_pos hx];omega
  ·simp only[ki,bG,List.sum_cons]at *
   rw[if_neg hx];omega
theorem Aq{T:List Tg}(h:T.Nodup):(Tg.bd 0::T.map Tg.up).Nodup:=by
 refine List.nodup_cons.2 ⟨fun hm=>?_,?_⟩
 ·obtain⟨x,_,e⟩:=bS.1 hm
  cases x<;>simp[Tg.up]at e
 ·refine List.Pairwise.map _ (fun a b hab e=>hab ?_) h
  cases a<;>cases b<;>simp[Tg.up]at e<;>simp_all
theorem apart:∀(n:Nat) (v:Vl),v.nodes<=n->∀(t:Ty) (T:List Tg),T.Nodup->ki (fun x=>ku (cb t x v)) T<=v.nodes
 |0,v,h=>by have:=dA v;omega
 |
  n+1,v,hn=>by
  intro t T hT
  have base:∀(hno:∀x,fE t x=false->cb t x v=[]),ki (fun x=>ku (cb t x v)) T<=v.nodes:=fun hno=>by
   refine Nat.le_trans (xw fun x _=>?_) (yh (t:=t) v.nodes hT)
   cases e:fE t x with
   |true=>rw[mo v e];simp[ku]
   |false=>rw[hno x e];simp[ku]
  cases hm:stuck t v with
  |true=>exact base fun x hx=>dP hx hm
  |
   false =>
   unfold stuck at hm
   split at hm
   ·rename_i a b w
    simp only[Vl.nodes]at hn |-
    simp only[mR,nN]
    have:=apart n w (by omega) a T hT
    omega
   ·rename_i a b w
    simp only[Vl.nodes]at hn |-
    simp only[mH,nN]
    have:=apart n w (by omega) b T hT
    omega
   ·rename_i a b x y
    simp only[Vl.nodes]at hn |-
    simp only[mJ,qR,nN]
    rw[nK]
    have:=apart n x (by omega) a T hT
    have:=apart n y (by omega) b T hT
    omega
   ·rename_i a w
    simp only[Vl.nodes]at hn |-
    simp only[mF,qR,nN,sf]
    rw[nK,sP]
    have h1:=apart n w (by omega) a _ (Aq hT)
    simp only[ki,bG,List.sum_cons,List.map_map]at h1
    have h2:((cb a (.bd 0) w).map fun h=>ki (fun x=>ku (cb (.rc a) x h.2)) T).sum<=ku (cb a (.bd 0) w):=zD fun h hh=>by
     have:=(iq hh).1
     exact apart n h.2 (by omega) (.rc a) T hT
    simp only[ki,Function.comp_def]at h1 h2 |-
    omega
   ·cases hm
theorem qy(t:Ty)(tg:Tg)(v:Vl):ku (cb t tg v)<=v.nodes:=by
 have:=apart v.nodes v (aq _) t [tg] (by simp)
 simpa[ki]using this
theorem oz:∀l:List Hl,l.length<=ku l
 |[]=>Nat.zero_le _
 |
  h::l=>by
  have:=oz l
  have:=dA h.2
  simp only[ku,bG,List.sum_cons,aB]at *;omega
theorem mz(t:Ty)(tg:Tg)(v:Vl):(cb t tg v).length<=v.nodes:=Nat.le_trans (oz _) (qy t tg v)
end Go.Proofs.Trees
namespace Go.Proofs.Trees
open Go Go.VL Go.RowKit
def gd(ar:List (List UInt8))(k:Nat):List UInt8:=ar.getD (ar.length-1-k) []
theorem fB{s:List UInt8}{ar:List (List UInt8)}:∀(i u:Nat),i<=ar.length->bH s ar i=some u->u<ar.length/\gd ar u=s
 |0,u,_,h=>by cases h
 |
  i+1,u,hi,h=>by
  rw[bH]at h
  split at h
  ·rename_i e
   cases h
   refine⟨by omega,?_⟩
   rw[gd,show ar.length-1-(ar.length-1-i)=i by omega];exact e
  ·exact fB i u (by omega) h
def uj:Ty->Tg->Bool
 | .plus a b,tg=>uj a tg||uj b tg
 | .times a b,tg=>uj a tg||uj b tg
 | .rc a,tg=>uj a tg.up
 |t,tg=>fE t tg
theorem iK:∀(n:Nat) (v:Vl),v.nodes<=n->∀(t:Ty) (tg:Tg),uj t tg=false->cb t tg v=[]
 |0,v,h=>by have:=dA v;omega
 |
  n+1,v,hn=>by
  intro t tg ho
  cases hm:stuck t v with
  |
   true =>
   refine dP ?_ hm
   cases t<;>first|exact ho|rfl
  |
   false =>
   unfold stuck at hm
   split at hm
   ·simp only[Vl.nodes]at hn
    simp only[uj,cr]at ho
    rw[mR,iK n _ (by omega) _ _ ho.1];rfl
   ·simp only[Vl.nodes]at hn
    simp only[uj,cr]at ho
    rw[mH,iK n _ (by omega) _ _ ho.2];rfl
   ·simp only[Vl.nodes]at hn
    simp only[uj,cr]at ho
    rw[mJ,iK n _ (by omega) _ _ ho.1,iK n _ (by omega) _ _ ho.2];rfl
   ·rename_i a w
    simp only[Vl.nodes]at hn
    have ho':uj a tg.up=false:=ho
    rw[mF,iK n _ (by omega) _ _ ho']
    have:(cb a (.bd 0) w).flatMap (fun h=>ji (fun c=>.f (.r (.p h.1 c))) (cb (.rc a) tg h.2))=(cb a (.bd 0) w).flatMap (fun _=>[]):=jE fun h hh=>by
     have:=(iq hh).1
     rw[iK n h.2 (by omega) (.rc a) tg ho];rfl
    rw[this]
    induction cb a (.bd 0) w<;>simp_all[ji]
   ·cases hm
theorem kM:∀(e:E) (ar:List (List UInt8)) (t:Ty) (k:Nat),cP e ar=some t->uj t (.bd k)=true->k<ar.length/\bH (gd ar k) ar ar.length=some k
 |
  .atom s,ar,t,k,ht,ho=>by
  simp only[cP]at ht
  split at ht
  ·cases ht;cases ho
  ·split at ht
   ·cases ht;cases ho
   ·split at ht
    ·cases ht;cases ho
    ·split at ht
     ·split at ht
      ·rename_i u hu
       cases ht
       have:u=k:=by simpa[uj,fE]using ho
       subst this
       obtain⟨h1,h2⟩:=fB _ _ (aq _) hu
       exact⟨h1,by rw[h2];exact hu⟩
      ·cases ht;cases ho
     ·cases ht
 |
  .list [x,a,b],ar,t,k,ht,ho=>by
  by_cases h0:x.at=[43]
  ·obtain⟨t1,t2,h1,h2,rfl⟩:=fu h0 ht
   simp only[uj,bw]at ho
   rcases ho with ho|ho
   ·exact kM a ar t1 k h1 ho
   ·exact kM b ar t2 k h2 ho
  ·by_cases h1:x.at=[42]
   ·obtain⟨t1,t2,h1,h2,rfl⟩:=eQ h1 ht
    simp only[uj,bw]at ho
    rcases ho with ho|ho
    ·exact kM a ar t1 k h1 ho
    ·exact kM b ar t2 k h2 ho
   ·by_cases h2:x.at=[114,101,99]
    ·obtain⟨t1,_,h3,rfl⟩:=dx h2 ht
     obtain⟨q1,q2⟩:=kM b (ar++[a.at]) t1 (k+1) h3 ho
     simp only[ax,aB,aJ]at q1
     have hk:k<ar.length:=by omega
     have e:gd (ar++[a.at]) (k+1)=gd ar k:=by
      unfold gd
      rw[ax,show ar.length+[a.at].length-1-(k+1)=ar.length-1-k by simp;omega]
      simp[aa,List.getElem?_append_left (show ar.length-1-k<ar.length by omega)]
     rw[e]at q2
     refine⟨hk,?_⟩
     have e2:(ar++[a.at]).length=ar.length+1:=by simp
     rw[e2,bH]at q2
     split at q2
     ·rw[e2]at q2;simp at q2
     ·rw[j0 _ _ _ _ (aq _)]at q2
      cases hq:bH (gd ar k) ar ar.length with
      |none=>rw[hq]at q2;cases q2
      |some u=>rw[hq]at q2;simpa using q2
    ·rw[iS _ h0 h1 h2]at ht;cases ht
 | .list [],ar,t,k,ht,ho=>by cases ht
 | .list [_],ar,t,k,ht,ho=>by cases ht
 | .list [_,_],ar,t,k,ht,ho=>by cases ht
 | .list (_::_::_::_::_),ar,t,k,ht,ho=>by cases ht
theorem eY(w:List UInt8)(ar:List (List UInt8)):bH w (ar++[w]) (ar++[w]).length=some 0:=by
 have e2:(ar++[w]).length=ar.length+1:=by simp
 rw[e2,bH,if_pos (by simp[aa]),e2];simp
theorem jr{s w:List UInt8}(ar:List (List UInt8))(h:w≠s):bH s (ar++[w]) (ar++[w]).length=(bH s ar ar.length).map (·+1):=by
 have e2:(ar++[w]).length=ar.length+1:=by simp
 rw[e2,bH,if_neg (by simpa[aa]using h),j0 _ _ _ _ (aq _)]
theorem Hn{b:E}{ar:List (List UInt8)}{w:List UInt8}{t:Ty}{k:Nat}(hb:cP b (ar++[w])=some t)(hk:bH w ar ar.length=some k):uj t (.bd (k+1))=false:=by
 cases h:uj t (.bd (k+1))with
 |false=>rfl
 |
  true =>
  obtain⟨_,q2⟩:=kM _ _ _ _ hb h
  obtain⟨h1,h2⟩:=fB _ _ (aq _) hk
  have e:gd (ar++[w]) (k+1)=gd ar k:=by
   unfold gd
   rw[ax,show ar.length+[w].length-1-(k+1)=ar.length-1-k by simp;omega]
   simp[aa,List.getElem?_append_left (show ar.length-1-k<ar.length by omega)]
  rw[e,h2,eY]at q2
  cases q2
def oK(s:List UInt8)(ar:List (List UInt8)):Tg:=match bH s ar ar.length with|some u=>.bd u|none=>.nm s
theorem uU(w:List UInt8)(ar:List (List UInt8)):oK w (ar++[w])=.bd 0:=by rw[oK,eY]
theorem yM{s w:List UInt8}(ar:List (List UInt8))(h:w≠s):oK s (ar++[w])=(oK s ar).up:=by
 rw[oK,oK,jr ar h]
 cases bH s ar ar.length<;>rfl
theorem hZ(n:Nat):∀(m:Nat) (v:Vl),v.nodes<=m->∀(e:E) (env:List Fr) (t:Ty),Ask e env t->eJ n v (e,env)=true->∀(k:Nat) (f:Fr),env[k]?=some f->∀h,h∈cb t (.bd k) v->eJ n h.2 (f.ex,f.out)=true
 |0,v,hm=>by have:=dA v;omega
 |
  m+1,v,hm=>by
  intro e env t A hv k f hf h hh
  rcases gn A.wf A.ty with⟨hb,hq⟩|⟨u,g,rfl,hq,hu⟩
  ·have hhd:hd e env=(e,env):=j8 hq
   rcases fy A.ty hb A.cl with⟨rfl,rfl⟩|⟨rfl,rfl⟩|⟨s,rfl,rfl,hp,h0,h1⟩|⟨x,a,b,t1,t2,rfl,hx,rfl,ha,hbb⟩|⟨x,a,b,t1,t2,rfl,hx,rfl,ha,hbb⟩|⟨x,a,b,t1,rfl,hx,rfl⟩
   ·rw[dP rfl (by cases v<;>rfl)]at hh;cases hh
   ·rw[dP rfl (by cases v<;>rfl)]at hh;cases hh
   ·rw[dP rfl (by cases v<;>rfl)]at hh;cases hh
   ·obtain⟨ok1,ok2,ok3,_⟩:=A.ok
    obtain⟨f1,f2⟩:=e9 A.cl
    cases v with
    |
     l w =>
     simp only[eJ,hhd,hx,beq_self_eq_true,bO]at hv
     simp only[Vl.nodes]at hm
     rw[mR]at hh
     obtain⟨h2,h3,rfl⟩:=dD hh
     exact hZ n m w (by omega) a env t1 ⟨ok2,A.wf,ha,f1⟩ hv k f hf h2 h3
    |
     r w =>
     simp only[eJ,hhd,hx,beq_self_eq_true,bO]at hv
     simp only[Vl.nodes]at hm
     rw[mH]at hh
     obtain⟨h2,h3,rfl⟩:=dD hh
     exact hZ n m w (by omega) b env t2 ⟨ok3,A.wf,hbb,f2⟩ hv k f hf h2 h3
    |_=>rw[dP rfl rfl]at hh;cases hh
   ·obtain⟨ok1,ok2,ok3,_⟩:=A.ok
    obtain⟨f1,f2⟩:=eI A.cl
    cases v with
    |
     p w w' =>
     simp only[eJ,hhd,hx,beq_self_eq_true,bO,ap]at hv
     simp only[Vl.nodes]at hm
     rw[mJ]at hh
     rcases aI.1 hh with hh|hh
     ·obtain⟨h2,h3,rfl⟩:=dD hh
      exact hZ n m w (by omega) a env t1 ⟨ok2,A.wf,ha,f1⟩ hv.1 k f hf h2 h3
     ·obtain⟨h2,h3,rfl⟩:=dD hh
      exact hZ n m w' (by omega) b env t2 ⟨ok3,A.wf,hbb,f2⟩ hv.2 k f hf h2 h3
    |_=>rw[dP rfl rfl]at hh;cases hh
   ·obtain⟨t1',he1,h1,f1,hw1⟩:=jg A.wf A.ok hx A.ty A.cl
    cases he1
    obtain⟨ok1,ok2,ok3,_⟩:=A.ok
    cases v with
    |
     f w =>
     simp only[eJ,hhd,hx,beq_self_eq_true,bO]at hv
     simp only[Vl.nodes]at hm
     rw[mF]at hh
     have A':Ask b (.mk a.at (.list [x,a,b]) env::env) t1:=⟨ok3,hw1,h1,f1⟩
     rcases aI.1 hh with hh|hh
     ·obtain⟨h2,h3,rfl⟩:=dD hh
      exact hZ n m w (by omega) b _ t1 A' hv (k+1) f (by simpa using hf) h2 h3
     ·obtain⟨kd,h2,h3⟩:=List.mem_flatMap.1 hh
      obtain⟨h4,h5,rfl⟩:=dD h3
      have hkd:=hZ n m w (by omega) b _ t1 A' hv 0 _ rfl kd h2
      have:=(iq h2).1
      exact hZ n m kd.2 (by omega) (.list [x,a,b]) env _ A hkd k f hf h4 h5
    |_=>rw[dP rfl rfl]at hh;cases hh
  ·by_cases huk:u=k
   ·subst huk
    rw[hu]at hf;cases hf
    rw[mo v (by simp[fE])]at hh
    simp only[aN]at hh
    subst hh
    obtain⟨x,a,b,t',hfe,hok,hx,ht',hf',hwf,hlt⟩:=nG A.wf hq
    rw[<-tU n v (qh hq) (by rw[hfe];exact oP hwf)];exact hv
   ·rw[dP (by simpa[fE]using huk) (by cases v<;>rfl)]at hh;cases hh
end Go.Proofs.Trees
namespace Go.Proofs.Trees
open Go Go.VL Go.RowKit
def cO:E->List Nm->Ty
 | .atom s,ar=>if s=[48]then .zero else if s=[49]then .one else match bH s ar ar.length with|some u=>.bN u|none=>.name s
 | .list [x,a,b],ar=>if x.at=[43]then .plus (cO a ar) (cO b ar)else if x.at=[42]then .times (cO a ar) (cO b ar)else .rc (cO b (ar++[a.at]))
 | .list _,_=>.zero
def rJ(s:Nm):Prop:=s≠[]/\s≠[48]/\s≠[49]
inductive Wf:E->Prop
 |atom {s} (h:s≠[]):Wf (.atom s)
 |plus {a b} (ha:Wf a) (hb:Wf b):Wf (.list [.atom [43],a,b])
 |times {a b} (ha:Wf a) (hb:Wf b):Wf (.list [.atom [42],a,b])
 |rc {n b} (hn:rJ n) (hb:Wf b):Wf (.list [.atom [114,101,99],.atom n,b])
theorem dK(a b:E)(ar:List Nm):cO (.list [.atom [43],a,b]) ar=.plus (cO a ar) (cO b ar):=by rw[cO,if_pos (show (E.atom [43]).at=[43] from rfl)]
theorem di(a b:E)(ar:List Nm):cO (.list [.atom [42],a,b]) ar=.times (cO a ar) (cO b ar):=by rw[cO,if_neg (by decide),if_pos (show (E.atom [42]).at=[42] from rfl)]
theorem eU(a b:E)(ar:List Nm):cO (.list [.atom [114,101,99],a,b]) ar=.rc (cO b (ar++[a.at])):=by rw[cO,if_neg (by decide),if_neg (by decide)]
theorem Wf.ok{e:E}(h:Wf e):e.ok:=by
 induction h with
 |atom h=>exact h
 |plus ha hb i1 i2=>exact⟨by simp[E.ok],i1,i2,trivial⟩
 |times ha hb i1 i2=>exact⟨by simp[E.ok],i1,i2,trivial⟩
 |rc hn hb i=>exact⟨by simp[E.ok],hn.1,i,trivial⟩
theorem Wf.dy{e:E}(h:Wf e):∀ar,e.dy=(cO e ar).az:=by
 induction h with
 |
  @atom s h =>
  intro ar
  simp only[E.dy,cO]
  split
  ·rfl
  ·split
   ·rfl
   ·split<;>rfl
 |plus ha hb i1 i2=>intro ar;rw[dK];simp only[E.dy,E.fF,Ty.az,<-i1 ar,<-i2 ar];omega
 |times ha hb i1 i2=>intro ar;rw[di];simp only[E.dy,E.fF,Ty.az,<-i1 ar,<-i2 ar];omega
 |@rc n b hn hb i=>intro ar;rw[eU];simp only[E.dy,E.fF,Ty.az,<-i];omega
theorem Wf.sz{e:E}(h:Wf e):e.sz<=3*e.dy:=by
 induction h with
 |atom h=>simp[E.sz,E.dy]
 |plus ha hb i1 i2=>simp only[E.sz,E.jM,E.dy,E.fF];omega
 |times ha hb i1 i2=>simp only[E.sz,E.jM,E.dy,E.fF];omega
 |rc hn hb i=>simp only[E.sz,E.jM,E.dy,E.fF];omega
theorem lH:∀(e:E) (ar:List Nm) (t:Ty),e.ok->(∀w,w∈ar->cZ w=true)->cP e ar=some t->Wf e/\cO e ar=t
 |
  .atom s,ar,t,hok,hl,ht=>by
  refine⟨.atom hok,?_⟩
  simp only[cP,cO]at ht |-
  split at ht
  ·rename_i h;rw[if_pos h];simpa using ht
  ·rename_i h;rw[if_neg h]
   split at ht
   ·rename_i h1;rw[if_pos h1];simpa using ht
   ·rename_i h1;rw[if_neg h1]
    split at ht
    ·rename_i hp
     cases q:bH s ar ar.length with
     |none=>simpa using ht
     |
      some u =>
      obtain⟨h1,h2⟩:=fB _ _ (aq _) q
      have:=hl (gd ar u) (by
       unfold gd
       have:ar.length-1-u<ar.length:=by omega
       simp[aa,this])
      rw[h2,ke hp]at this;cases this
    ·split at ht
     ·split at ht<;>rename_i q<;>rw[q]<;>simpa using ht
     ·cases ht
 |
  .list [x,a,b],ar,t,hok,hl,ht=>by
  obtain⟨ok1,ok2,ok3,_⟩:=hok
  by_cases h0:x.at=[43]
  ·obtain⟨t1,t2,h1,h2,rfl⟩:=fu h0 ht
   obtain rfl:=j3 h0 (by simp)
   obtain⟨w1,e1⟩:=lH a ar t1 ok2 hl h1
   obtain⟨w2,e2⟩:=lH b ar t2 ok3 hl h2
   exact⟨.plus w1 w2,by rw[dK,e1,e2]⟩
  ·by_cases h1:x.at=[42]
   ·obtain⟨t1,t2,h2,h3,rfl⟩:=eQ h1 ht
    obtain rfl:=j3 h1 (by simp)
    obtain⟨w1,e1⟩:=lH a ar t1 ok2 hl h2
    obtain⟨w2,e2⟩:=lH b ar t2 ok3 hl h3
    exact⟨.times w1 w2,by rw[di,e1,e2]⟩
   ·by_cases h2:x.at=[114,101,99]
    ·obtain⟨t1,hla,h3,rfl⟩:=dx h2 ht
     obtain rfl:=j3 h2 (by simp)
     have hne:a.at≠[]:=by intro e;rw[e]at hla;cases hla
     have ha:a=.atom a.at:=j3 rfl hne
     obtain⟨w1,e1⟩:=lH b (ar++[a.at]) t1 ok3 (fun w hw=>by
      rcases aI.1 hw with hw|hw
      ·exact hl w hw
      ·simp only[aN]at hw;rw[hw];exact hla) h3
     have hN:rJ a.at:=⟨hne,fun e=>by rw[e]at hla;revert hla;decide,fun e=>by rw[e]at hla;revert hla;decide⟩
     refine⟨?_,by rw[eU,e1]⟩
     rw[ha];exact .rc hN w1
    ·rw[iS _ h0 h1 h2]at ht;cases ht
 | .list [],ar,t,_,_,ht=>by cases ht
 | .list [_],ar,t,_,_,ht=>by cases ht
 | .list [_,_],ar,t,_,_,ht=>by cases ht
 | .list (_::_::_::_::_),ar,t,_,_,ht=>by cases ht
theorem ff(s:Nm)(ar:List Nm):bH s ar ar.length=none↔s∉ar:=by
 have:=mh s ar ar.length (aq _)
 rwa[List.take_length]at this
theorem nu(s:Nm)(ar:List Nm):∀(n:Nat) (br:List Nm),br.length=n->bH s (ar++br) (ar++br).length=match bH s br br.length with|some u=>some u|none=>(bH s ar ar.length).map (·+br.length)
 |
  0,br,h=>by
  obtain rfl:=bV h
  rw[cL]
  cases h:bH s ar ar.length<;>simp[bH]
 |
  n+1,br,h=>by
  obtain⟨b2,w,rfl⟩:∃b2 w,br=b2++[w]:=⟨br.dropLast,br.getLast (by intro e;rw[e]at h;cases h),(List.dropLast_concat_getLast _).symm⟩
  rw[<-ba]
  by_cases hw:w=s
  ·subst hw;rw[eY,eY]
  ·rw[jr _ hw,jr _ hw,nu s ar n b2 (by simpa using h)]
   cases bH s b2 b2.length with
   |some u=>rfl
   |
    none =>
    cases bH s ar ar.length with
    |none=>rfl
    |some u=>simp only[Option.map_none,co,ax,aB,aJ];congr 1
theorem tI(ar:List Nm){e:E}(h:Wf e):∀br,(∀y,bh y (cO e br)=true->y∉ar)->cO e (ar++br)=cO e br:=by
 induction h with
 |
  @atom s h =>
  intro br hy
  simp only[cO]at hy |-
  split
  ·rfl
  ·rename_i h0
   split
   ·rfl
   ·rename_i h1
    rw[if_neg h0,if_neg h1]at hy
    rw[nu s ar _ br rfl]
    cases q:bH s br br.length with
    |some u=>rfl
    |
     none =>
     rw[q]at hy
     have:=(ff s ar).2 (hy s (by simp[bh]))
     rw[this];rfl
 |
  plus ha hb i1 i2 =>
  intro br hy
  rw[dK]at hy |-
  rw[dK,i1 br fun y h=>hy y (by simp[bh,h]),i2 br fun y h=>hy y (by simp[bh,h])]
 |
  times ha hb i1 i2 =>
  intro br hy
  rw[di]at hy |-
  rw[di,i1 br fun y h=>hy y (by simp[bh,h]),i2 br fun y h=>hy y (by simp[bh,h])]
 |
  @rc n b hn hb i =>
  intro br hy
  rw[eU]at hy |-
  rw[eU,ba,i _ hy]
theorem xB(x:Nm){e:E}(h:Wf e):∀ar,cO e ar=dF (.name x) (cO e ([x]++ar)) ar.length:=by
 induction h with
 |
  @atom s h =>
  intro ar
  simp only[cO]
  split
  ·rfl
  ·split
   ·rfl
   ·rw[nu s [x] _ ar rfl]
    cases q:bH s ar ar.length with
    |
     some u =>
     have:=(fB _ _ (aq _) q).1
     simp only[dF];rw[if_neg (by omega)]
    |
     none =>
     by_cases hx:x=s
     ·subst hx
      have:bH x [x] [x].length=some 0:=eY x []
      rw[this];simp[dF]
     ·have:bH s [x] [x].length=none:=(ff s [x]).2 (by simpa using fun e=>hx e.symm)
      rw[this];rfl
 |plus ha hb i1 i2=>intro ar;rw[dK,dK,dF,<-i1 ar,<-i2 ar]
 |times ha hb i1 i2=>intro ar;rw[di,di,dF,<-i1 ar,<-i2 ar]
 |
  @rc n b hn hb i =>
  intro ar
  rw[eU,eU,dF,i (ar++[E.at (.atom n)]),ba]
  simp
theorem mK{e:E}(h:Wf e):∀ar y,bh y (cO e ar)=true->rJ y/\y∉ar:=by
 induction h with
 |
  @atom s h =>
  intro ar y hy
  simp only[cO]at hy
  split at hy
  ·cases hy
  ·rename_i h0
   split at hy
   ·cases hy
   ·rename_i h1
    split at hy
    ·cases hy
    ·rename_i q
     simp only[bh,decide_eq_true_eq]at hy
     subst hy
     exact⟨⟨h,h0,h1⟩,(ff _ _).1 q⟩
 |
  plus ha hb i1 i2 =>
  intro ar y hy
  rw[dK]at hy
  simp only[bh,bw]at hy
  rcases hy with hy|hy
  ·exact i1 ar y hy
  ·exact i2 ar y hy
 |
  times ha hb i1 i2 =>
  intro ar y hy
  rw[di]at hy
  simp only[bh,bw]at hy
  rcases hy with hy|hy
  ·exact i1 ar y hy
  ·exact i2 ar y hy
 |
  rc hn hb i =>
  intro ar y hy
  rw[eU]at hy
  obtain⟨h1,h2⟩:=i _ y hy
  exact⟨h1,fun h=>h2 (ay _ h)⟩
theorem lj{e:E}(h:Wf e):∀(bd l:List Nm) (y:Nm),y∈kb e bd l↔y∈l\/bh y (cO e bd)=true:=by
 induction h with
 |
  @atom s h =>
  intro bd l y
  simp only[kb,cO]
  by_cases h0:s=[48]
  ·simp[h0,bh]
  ·by_cases h1:s=[49]
   ·simp[h1,bh]
   ·rw[if_neg h0,if_neg h1]
    by_cases h2:s∈bd
    ·cases q:bH s bd bd.length with
     |none=>exact absurd h2 ((ff _ _).1 q)
     |some u=>simp[h2,bh]
    ·rw[(ff _ _).2 h2]
     simp only[h0,h1,h2,false_or,bh,decide_eq_true_eq]
     by_cases h3:s∈l
     ·simp only[h3,if_true]
      exact⟨fun h=>.inl h,fun h=>by rcases h with h|rfl<;>assumption⟩
     ·simp only[h3,if_false,aI,aN,eq_comm]
 |
  plus ha hb i1 i2 =>
  intro bd l y
  rw[kb,if_neg (by decide),dK,i2,i1]
  simp[bh,or_assoc]
 |
  times ha hb i1 i2 =>
  intro bd l y
  rw[kb,if_neg (by decide),di,i2,i1]
  simp[bh,or_assoc]
 |
  rc hn hb i =>
  intro bd l y
  rw[kb,if_pos (show (E.atom [114,101,99]).at=[114,101,99] from rfl),eU,i]
  rfl
theorem eG:∀(t:Ty) (out:List Nm) (y:Nm),y∈bF t out↔y∈out\/bh y t=true
 |
  .name s,out,y=>by
  simp only[bF,pi,bh,decide_eq_true_eq]
  split
  ·rename_i h;exact⟨fun h=>.inl h,fun h'=>by rcases h' with h'|rfl<;>assumption⟩
  ·simp[eq_comm]
 | .plus a b,out,y=>by rw[bF,eG b,eG a];simp[bh,or_assoc]
 | .times a b,out,y=>by rw[bF,eG b,eG a];simp[bh,or_assoc]
 | .rc a,out,y=>by rw[bF,eG a];rfl
 | .zero,out,y=>by simp[bF,bh]
 | .one,out,y=>by simp[bF,bh]
 | .bN k,out,y=>by simp[bF,bh]
end Go.Proofs.Trees
namespace Go.Proofs.Trees
open Go Go.VL Go.RowKit
abbrev dW:Nm:=[114,101,99]
theorem ej(s:Nm):(E.atom s).at=s:=rfl
def qu(x:Nm)(u:E):E->E
 | .atom s=>if s=x then u else .atom s
 | .list [h,a,b]=>if h.at=dW then(if a.at=x then .list [h,a,b]else .list [.atom dW,a,qu x u b])else .list [.atom h.at,qu x u a,qu x u b]
 | .list l=>.list l
def mP(x:Nm):E->Nat
 | .atom s=>if s=x then 1 else 0
 | .list [h,a,b]=>if h.at=dW then(if a.at=x then 0 else mP x b)else mP x a+mP x b
 | .list _=>0
def s6(p:Nm->Prop):E->Prop
 | .atom _=>True
 | .list [h,a,b]=>(if h.at=dW then p a.at else s6 p a)/\s6 p b
 | .list _=>True
def fh(x:Nm):Ty->Nat
 | .name s=>if s=x then 1 else 0
 | .plus a b=>fh x a+fh x b
 | .times a b=>fh x a+fh x b
 | .rc a=>fh x a
 |_=>0
theorem vu(x:Nm)(u a b:E):qu x u (.list [.atom [43],a,b])=.list [.atom [43],qu x u a,qu x u b]:=by rw[qu,if_neg (by decide)];rfl
theorem sQ(x:Nm)(u a b:E):qu x u (.list [.atom [42],a,b])=.list [.atom [42],qu x u a,qu x u b]:=by rw[qu,if_neg (by decide)];rfl
theorem Ac(x:Nm)(u:E)(n:Nm)(b:E):qu x u (.list [.atom dW,.atom n,b])=if n=x then .list [.atom dW,.atom n,b]else .list [.atom dW,.atom n,qu x u b]:=by rw[qu,if_pos (ej _)];rfl
theorem rl(x:Nm)(a b:E):mP x (.list [.atom [43],a,b])=mP x a+mP x b:=by rw[mP,if_neg (by decide)]
theorem pe(x:Nm)(a b:E):mP x (.list [.atom [42],a,b])=mP x a+mP x b:=by rw[mP,if_neg (by decide)]
theorem wg(x:Nm)(n:Nm)(b:E):mP x (.list [.atom dW,.atom n,b])=if n=x then 0 else mP x b:=by rw[mP,if_pos (ej _)];rfl
theorem nY(p:Nm->Prop)(a b:E):s6 p (.list [.atom [43],a,b])↔s6 p a/\s6 p b:=by rw[s6,if_neg (by decide)]
theorem mD(p:Nm->Prop)(a b:E):s6 p (.list [.atom [42],a,b])↔s6 p a/\s6 p b:=by rw[s6,if_neg (by decide)]
theorem tM(p:Nm->Prop)(n:Nm)(b:E):s6 p (.list [.atom dW,.atom n,b])↔p n/\s6 p b:=by rw[s6,if_pos (ej _)];rfl
theorem AT{p q:Nm->Prop}(h:∀n,p n->q n){e:E}(hw:Wf e):s6 p e->s6 q e:=by
 induction hw with
 |atom _=>exact fun _=>trivial
 |plus _ _ i1 i2=>rw[nY,nY];exact fun g=>⟨i1 g.1,i2 g.2⟩
 |times _ _ i1 i2=>rw[mD,mD];exact fun g=>⟨i1 g.1,i2 g.2⟩
 |rc _ _ i=>rw[tM,tM];exact fun g=>⟨h _ g.1,i g.2⟩
theorem iX{s:Nm}(hs:rJ s){ar:List Nm}(h:s∉ar):cO (.atom s) ar=.name s:=by
 simp only[cO];rw[if_neg hs.2.1,if_neg hs.2.2,(ff s ar).2 h]
theorem Dg{x:Nm}(hx:rJ x){u:E}(hu:Wf u){e:E}(h:Wf e):s6 (fun n=>n≠x/\bh n (cO u [])=false) e->∀ar,x∉ar->(∀y,y∈ar->bh y (cO u [])=false)->Wf (qu x u e)/\cO (qu x u e) ar=sub x (cO u []) (cO e ar):=by
 induction h with
 |
  @atom s hs =>
  intro _ ar har hy
  by_cases e:s=x
  ·subst e
   have:cO u (ar++[])=cO u []:=tI ar hu [] fun y hy' hm=>by rw[hy y hm]at hy';cases hy'
   rw[cL]at this
   rw[iX hx har]
   simp only[qu,sub,if_true]
   exact⟨hu,this⟩
  ·simp only[qu,if_neg e]
   refine⟨.atom hs,?_⟩
   simp only[cO]
   split
   ·rfl
   ·split
    ·rfl
    ·split
     ·rfl
     ·simp only[sub,if_neg e]
 |
  plus ha hb i1 i2 =>
  intro hap ar har hy
  rw[nY]at hap
  obtain⟨w1,e1⟩:=i1 hap.1 ar har hy
  obtain⟨w2,e2⟩:=i2 hap.2 ar har hy
  rw[vu,dK,dK,e1,e2]
  exact⟨.plus w1 w2,rfl⟩
 |
  times ha hb i1 i2 =>
  intro hap ar har hy
  rw[mD]at hap
  obtain⟨w1,e1⟩:=i1 hap.1 ar har hy
  obtain⟨w2,e2⟩:=i2 hap.2 ar har hy
  rw[sQ,di,di,e1,e2]
  exact⟨.times w1 w2,rfl⟩
 |
  @rc n b hn hb i =>
  intro hap ar har hy
  rw[tM]at hap
  obtain⟨w1,e1⟩:=i hap.2 (ar++[n]) (by
   simp only[aI,aN]
   rintro(h|h)
   ·exact har h
   ·exact hap.1.1 h.symm) (fun y hm=>by
   simp only[aI,aN]at hm
   rcases hm with hm|rfl
   ·exact hy y hm
   ·exact hap.1.2)
  rw[Ac,if_neg hap.1.1,eU,eU]
  refine⟨.rc hn w1,?_⟩
  show Ty.rc (cO (qu x u b) (ar++[n]))=_
  rw[e1];rfl
theorem CD{x:Nm}(hx:rJ x){e:E}(h:Wf e):∀ar,fh x (cO e ar)=if x∈ar then 0 else mP x e:=by
 induction h with
 |
  @atom s hs =>
  intro ar
  by_cases e:s=x
  ·subst e
   by_cases hm:s∈ar
   ·rw[if_pos hm]
    simp only[cO];rw[if_neg hx.2.1,if_neg hx.2.2]
    cases q:bH s ar ar.length with
    |none=>exact absurd hm ((ff _ _).1 q)
    |some u=>rfl
   ·rw[if_neg hm,iX hx hm];simp[fh,mP]
  ·have:fh x (cO (.atom s) ar)=0:=by
    simp only[cO]
    split
    ·rfl
    ·split
     ·rfl
     ·split
      ·rfl
      ·simp[fh,e]
   rw[this];simp[mP,e]
 |plus ha hb i1 i2=>intro ar;rw[dK,rl,fh,i1,i2];split<;>simp
 |times ha hb i1 i2=>intro ar;rw[di,pe,fh,i1,i2];split<;>simp
 |
  @rc n b hn hb i =>
  intro ar
  rw[eU,wg,fh,i]
  simp only[ej,aI,aN]
  by_cases h1:x∈ar
  ·simp[h1]
  ·by_cases h2:x=n
   ·simp[h2]
   ·simp[h1,h2,Ne.symm h2]
theorem dT(x:Nm)(u:Ty):∀t:Ty,(sub x u t).az+fh x t=t.az+fh x t*u.az
 | .name s=>by simp only[sub,fh];split<;>simp[Ty.az];omega
 | .plus a b=>by have:=dT x u a;have:=dT x u b;simp only[sub,Ty.az,fh,Nat.add_mul];omega
 | .times a b=>by have:=dT x u a;have:=dT x u b;simp only[sub,Ty.az,fh,Nat.add_mul];omega
 | .rc a=>by have:=dT x u a;simp only[sub,Ty.az,fh];omega
 | .zero=>by simp[sub,fh]
 | .one=>by simp[sub,fh]
 | .bN k=>by simp[sub,fh]
abbrev tN(m:Nat):Nm:=116::dd m
theorem DE(m:Nat):dd m≠[]:=by
 by_cases h:m<10
 ·rw[eH h];simp
 ·rw[fI h];simp
theorem wh:∀(n m k:Nat),m<n->dd m=dd k->m=k
 |0,m,k,h,_=>by omega
 |
  n+1,m,k,h,e=>by
  have d10:∀{a b:Nat},a<10->b<10->bi (48+a)=bi (48+b)->a=b:=fun {a b} ha hb h=>by
   have:=congrArg UInt8.toNat h
   simp only[UInt8.toNat_ofNat']at this
   omega
  by_cases h1:m<10<;>by_cases h2:k<10
  ·rw[eH h1,eH h2]at e
   simp only[List.cons.injEq,and_true]at e
   exact d10 h1 h2 e
  ·rw[eH h1,fI h2]at e
   have:=congrArg List.length e
   have:dd (k/10)=[]:=by
    apply bV
    simp at this;simpa using this
   exact absurd this (DE _)
  ·rw[fI h1,eH h2]at e
   have:=congrArg List.length e
   have:dd (m/10)=[]:=by
    apply bV
    simp at this;simpa using this
   exact absurd this (DE _)
  ·rw[fI h1,fI h2]at e
   obtain⟨e1,e2⟩:=List.append_inj' e rfl
   have:=wh n (m/10) (k/10) (by omega) e1
   simp only[List.cons.injEq,and_true]at e2
   have:=d10 (Nat.mod_lt _ (by omega)) (Nat.mod_lt _ (by omega)) e2
   omega
theorem zK{m k:Nat}(h:tN m=tN k):m=k:=wh (m+1) m k (by omega) (List.cons.inj h).2
theorem xu(m:Nat):rJ (tN m):=⟨by simp,by simp,by simp⟩
theorem QR:∀(l F:List Nm),l.Nodup->(∀x,x∈l->x∈F)->l.length<=F.length
 |[],_,_,_=>Nat.zero_le _
 |
  x::l,F,hn,hs=>by
  obtain⟨h1,h2⟩:=List.nodup_cons.1 hn
  have hx:=hs x aj
  have:=QR l (F.erase x) h2 fun y hy=>(List.mem_erase_of_ne (fun e=>h1 (by rw[<-e];exact hy))).2 (hs y (ak _ hy))
  rw[List.length_erase_of_mem hx]at this
  have:0<F.length:=List.length_pos_of_mem hx
  simp only[aB];omega
def pG(F:List Nm):Nat->Nat->Nat
 |0,k=>k
 |n+1,k=>if tN k∈F then pG F n (k+1)else k
theorem vz(F:List Nm):∀(n k:Nat),k<=pG F n k/\pG F n k<=k+n/\(∀j,k<=j->j<pG F n k->tN j∈F)/\(pG F n k<k+n->tN (pG F n k)∉F)
 |0,k=>⟨aq _,aq _,fun j h1 h2=>by simp only[pG]at h2;omega,fun h=>by simp only[pG]at h;omega⟩
 |
  n+1,k=>by
  rw[pG]
  split
  ·rename_i hm
   obtain⟨h1,h2,h3,h4⟩:=vz F n (k+1)
   refine⟨by omega,by omega,fun j hj hl=>?_,fun h=>h4 (by omega)⟩
   by_cases e:j=k
   ·subst e;exact hm
   ·exact h3 j (by omega) hl
  ·rename_i hm
   exact⟨aq _,by omega,fun j h1 h2=>by omega,fun _=>hm⟩
def nx(F:List Nm)(k:Nat):Nat:=pG F (F.length+1) k
theorem gq(F:List Nm)(k:Nat):k<=nx F k/\nx F k<=k+F.length/\(∀j,k<=j->j<nx F k->tN j∈F)/\tN (nx F k)∉F:=by
 obtain⟨h1,h2,h3,h4⟩:=vz F (F.length+1) k
 have hlt:nx F k<k+(F.length+1):=by
  rcases Nat.lt_or_ge (nx F k) (k+(F.length+1))with h|h
  ·exact h
  ·exfalso
   have:=QR ((List.range' k (F.length+1)).map tN) F (by
    refine List.Pairwise.map _ (fun a b hab e=>hab (zK e)) List.nodup_range') (fun x hx=>by
    obtain⟨j,hj,rfl⟩:=bS.1 hx
    obtain⟨i,hi,rfl⟩:=List.mem_range'.1 hj
    exact h3 _ (by omega) (by show _<nx F k;omega))
   simp at this
   omega
 exact⟨h1,by unfold nx at hlt |-;omega,h3,h4 hlt⟩
theorem Ao{F F':List Nm}(h:∀y,y∈F↔y∈F')(k:Nat):nx F k=nx F' k:=by
 obtain⟨a1,a2,a3,a4⟩:=gq F k
 obtain⟨b1,b2,b3,b4⟩:=gq F' k
 rcases Nat.lt_trichotomy (nx F k) (nx F' k)with hl|he|hl
 ·exact absurd ((h _).2 (b3 _ a1 hl)) a4
 ·exact he
 ·exact absurd ((h _).1 (a3 _ b1 hl)) b4
def gV(F:List Nm):Ty->List Nm->Nat->E×Nat
 | .zero,_,k=>(.atom [48],k)
 | .one,_,k=>(.atom [49],k)
 | .name s,_,k=>(.atom s,k)
 | .bN u,to,k=>(.atom (gd to u),k)
 | .plus a b,to,k=>(.list [.atom [43],(gV F a to k).1,(gV F b to (gV F a to k).2).1],(gV F b to (gV F a to k).2).2)
 | .times a b,to,k=>(.list [.atom [42],(gV F a to k).1,(gV F b to (gV F a to k).2).1],(gV F b to (gV F a to k).2).2)
 | .rc a,to,k=>(.list [.atom dW,.atom (tN (nx F k)),(gV F a (to++[tN (nx F k)]) (nx F k+1)).1],(gV F a (to++[tN (nx F k)]) (nx F k+1)).2)
theorem jz{F F':List Nm}(h:∀y,y∈F↔y∈F'):∀(t:Ty) (to:List Nm) (k:Nat),gV F t to k=gV F' t to k
 | .zero,_,_=>rfl
 | .one,_,_=>rfl
 | .name _,_,_=>rfl
 | .bN _,_,_=>rfl
 | .plus a b,to,k=>by simp only[gV];rw[jz h a,jz h b]
 | .times a b,to,k=>by simp only[gV];rw[jz h a,jz h b]
 | .rc a,to,k=>by simp only[gV];rw[Ao h,jz h a]
def jT:Ty->Nat->Prop
 | .bN u,i=>u<i
 | .plus a b,i=>jT a i/\jT b i
 | .times a b,i=>jT a i/\jT b i
 | .rc a,i=>jT a (i+1)
 |_,_=>True
theorem sY{e:E}(h:Wf e):∀ar,jT (cO e ar) ar.length:=by
 induction h with
 |
  @atom s hs =>
  intro ar
  simp only[cO]
  split
  ·trivial
  ·split
   ·trivial
   ·split
    ·rename_i u q;exact(fB _ _ (aq _) q).1
    ·trivial
 |plus ha hb i1 i2=>intro ar;rw[dK];exact⟨i1 ar,i2 ar⟩
 |times ha hb i1 i2=>intro ar;rw[di];exact⟨i1 ar,i2 ar⟩
 |
  @rc n b hn hb i =>
  intro ar;rw[eU]
  have:=i (ar++[(E.atom n).at])
  rw[ax]at this
  exact this
structure Gn(F to:List Nm)(k:Nat):Prop where
 out:∀w,w∈to->w∉F
 lt:∀w,w∈to->∃j,j<k/\w=tN j
 nd:to.Nodup
theorem Gn.nil(F:List Nm)(k:Nat):Gn F [] k:=⟨fun _ h=>(by cases h),fun _ h=>(by cases h),by simp⟩
theorem Gn.mono{F to:List Nm}{k k':Nat}(h:Gn F to k)(hk:k<=k'):Gn F to k':=⟨h.out,fun w hw=>by obtain⟨j,h1,h2⟩:=h.lt w hw;exact⟨j,by omega,h2⟩,h.nd⟩
theorem Gn.push{F to:List Nm}{k:Nat}(h:Gn F to k):Gn F (to++[tN (nx F k)]) (nx F k+1):=by
 obtain⟨h1,h2,h3,h4⟩:=gq F k
 refine⟨fun w hw=>?_,fun w hw=>?_,?_⟩
 ·rcases aI.1 hw with hw|hw
  ·exact h.out w hw
  ·simp only[aN]at hw;rw[hw];exact h4
 ·rcases aI.1 hw with hw|hw
  ·obtain⟨j,g1,g2⟩:=h.lt w hw;exact⟨j,by omega,g2⟩
  ·simp only[aN]at hw;exact⟨_,by omega,hw⟩
 ·refine List.nodup_append.2 ⟨h.nd,by simp,fun a ha b hb e=>?_⟩
  simp only[aN]at hb
  obtain⟨j,g1,g2⟩:=h.lt a ha
  rw[e,hb]at g2
  have:=zK g2
  omega
theorem tL{to:List Nm}(hn:to.Nodup){u:Nat}(hu:u<to.length):bH (gd to u) to to.length=some u:=by
 have hm:gd to u∈to:=by
  unfold gd
  have:to.length-1-u<to.length:=by omega
  simp[aa,this]
 cases q:bH (gd to u) to to.length with
 |none=>exact absurd hm ((ff _ _).1 q)
 |
  some v =>
  obtain⟨h1,h2⟩:=fB _ _ (aq _) q
  unfold gd at h2
  have e1:to.length-1-v<to.length:=by omega
  have e2:to.length-1-u<to.length:=by omega
  rw[aa,aa,bg e1,bg e2]at h2
  have hp:=List.pairwise_iff_getElem.1 hn
  have h3:to[to.length-1-v]=to[to.length-1-u]:=by simpa using h2
  rcases Nat.lt_trichotomy (to.length-1-v) (to.length-1-u)with hl|he|hl
  ·exact absurd h3 (hp _ _ e1 e2 hl)
  ·congr 1;omega
  ·exact absurd h3.symm (hp _ _ e2 e1 hl)
theorem kq(F:List Nm):∀(t:Ty) (to:List Nm) (k:Nat),Gn F to k->jT t to.length->(∀y,bh y t=true->y∈F/\rJ y) ->
 Wf (gV F t to k).1/\cO (gV F t to k).1 to=t/\k<=(gV F t to k).2/\(gV F t to k).2<=k+(F.length+1)*t.az/\s6 (·∉F) (gV F t to k).1
 | .zero,to,k,_,_,_=>⟨.atom (by simp),rfl,aq _,dj _ _,trivial⟩
 | .one,to,k,_,_,_=>⟨.atom (by simp),rfl,aq _,dj _ _,trivial⟩
 |
  .name s,to,k,g,hl,hn=>by
  obtain⟨h1,h2⟩:=hn s (by simp[bh])
  exact⟨.atom h2.1,iX h2 (fun h=>g.out s h h1),aq _,dj _ _,trivial⟩
 |
  .bN u,to,k,g,hl,hn=>by
  have hm:gd to u∈to:=by
   unfold gd
   have:to.length-1-u<to.length:=by have:u<to.length:=hl;omega
   simp[aa,this]
  obtain⟨j,_,e⟩:=g.lt _ hm
  have hok:rJ (gd to u):=by rw[e];exact xu j
  refine⟨.atom hok.1,?_,aq _,dj _ _,trivial⟩
  simp only[gV,cO]
  rw[if_neg hok.2.1,if_neg hok.2.2,tL g.nd hl]
 |
  .plus a b,to,k,g,hl,hn=>by
  obtain⟨a1,a2,a3,a4,a5⟩:=kq F a to k g hl.1 fun y hy=>hn y (by simp[bh,hy])
  obtain⟨b1,b2,b3,b4,b5⟩:=kq F b to _ (g.mono a3) hl.2 fun y hy=>hn y (by simp[bh,hy])
  simp only[gV,dK,a2,b2,nY,Ty.az]
  refine⟨.plus a1 b1,trivial,by omega,?_,a5,b5⟩
  have:(F.length+1)*(1+a.az+b.az)=(F.length+1)+(F.length+1)*a.az+(F.length+1)*b.az:=by simp only[cR,dC]
  omega
 |
  .times a b,to,k,g,hl,hn=>by
  obtain⟨a1,a2,a3,a4,a5⟩:=kq F a to k g hl.1 fun y hy=>hn y (by simp[bh,hy])
  obtain⟨b1,b2,b3,b4,b5⟩:=kq F b to _ (g.mono a3) hl.2 fun y hy=>hn y (by simp[bh,hy])
  simp only[gV,di,a2,b2,mD,Ty.az]
  refine⟨.times a1 b1,trivial,by omega,?_,a5,b5⟩
  have:(F.length+1)*(1+a.az+b.az)=(F.length+1)+(F.length+1)*a.az+(F.length+1)*b.az:=by simp only[cR,dC]
  omega
 |
  .rc a,to,k,g,hl,hn=>by
  obtain⟨h1,h2,h3,h4⟩:=gq F k
  obtain⟨a1,a2,a3,a4,a5⟩:=kq F a (to++[tN (nx F k)]) (nx F k+1) g.push (by rw[ax];exact hl) hn
  simp only[gV,eU,ej,a2,tM,Ty.az]
  refine⟨.rc (xu _) a1,trivial,by omega,?_,h4,a5⟩
  have:(F.length+1)*(2+a.az)=(F.length+1)*2+(F.length+1)*a.az:=by simp only[cR]
  omega
end Go.Proofs.Trees
namespace Go.Proofs.Trees
open Go Go.VL Go.RowKit
inductive kh:AV->List Nat->Prop
 |nil:kh ir []
 |cons {m:Nat} {cs:List AV} {e:AV} {ids:List Nat} (hm:m∉ids) (h:kh e ids):kh (.ptr [.pid m cs,e]) (m::ids)
theorem kh.has{a:AV}{ids:List Nat}(h:kh a ids):LK.has .ptr a:=by
 cases h
 ·exact(ib).mpr trivial
 ·exact(bY _).mpr trivial
theorem kh.Q4{M:Mem}{a:AV}{ids:List Nat}(h:kh a ids):∀{v:Value},bx M dq a v->∀b,b∈ids->M.p b:=by
 induction h with
 |nil=>intro v _ b hb;cases hb
 |
  @cons m cs e ids hm h ih =>
  intro v hr b hb
  cases hr with
  |
   ptr _ _ _ off us hc hr =>
   have h0:=hr 0 (by simp)
   have h1:=hr 1 (by simp)
   simp only[bp,List.getD_cons_succ]at h0 h1
   rcases aF.1 hb with rfl|hb
   ·generalize us 0=u0 at h0
    cases h0 with
    |pid _ _ _ us hp _ _=>exact hp
   ·exact ih h1 b hb
theorem kh.nodup{a:AV}{ids:List Nat}(h:kh a ids):ids.Nodup:=by
 induction h with
 |nil=>simp
 |cons hm h ih=>exact List.nodup_cons.2 ⟨hm,ih⟩
theorem yY(a b:AV)(S:Nat->Prop)(R:AV->Prop):Am Ms cF ek (cy ek) [.agg [.x a,.x b]] S (fun o=>aG o 7) R =
 .al (LK.has .ptr a/\a.isNil=false) (.al (LK.has .ptr a/\a.isNil=false) (.al (LK.has .ptr ((a.deref.drop 3).headD .any)/\1<=(a.deref.drop 3).length)
  (.al (∀ids:Nat->Nat,(∀o,¬S (ids o))->(True/\R (.cv [.agg [(a.deref.drop 3).headD .any,.ptr [.pid (ids 7) [a,b],b]],.pid (ids 7) [a,b]]))) (.done 0 [] [])))):=by kernel_rfl
def Ai(t:Ty)(ea:AV)(ids:List Nat):AV->List Ob->Prop:=fun r o=>(∃m,m∉ids/\r=.cv [.agg [t.av,.ptr [.pid m [(Ty.rc t).av,ea],ea]],.pid m [(Ty.rc t).av,ea]])/\o=[]
theorem Ai.ne(t:Ty)(ea:AV)(ids:List Nat):∃r o,Ai t ea ids r o:=by
 have:∃m,m∉ids:=⟨ids.foldr max 0+1,fun h=>by
  have key:∀(l:List Nat) (x:Nat),x∈l->x<=l.foldr max 0:=by
   intro l
   induction l with
   |nil=>intro x hx;cases hx
   |
    cons y l ih =>
    intro x hx
    rcases aF.1 hx with rfl|hx
    ·simp only[List.foldr_cons];omega
    ·have:=ih x hx;simp only[List.foldr_cons];omega
  have:=key _ _ h
  omega⟩
 obtain⟨m,hm⟩:=this
 exact⟨_,_,⟨m,hm,rfl⟩,rfl⟩
theorem Co(t:Ty)(ea:AV)(ids:List Nat)(he:kh ea ids):an Tryz.prog 86 [.agg [(Ty.rc t).av,ea]] [] (Ai t ea ids):=by
 have hup:vI [.agg [(Ty.rc t).av,ea]] [.agg [.x (Ty.rc t).av,.x ea]]:=af (bP (af (bz ((aC _).mpr trivial)) (af (bz he.has) aA))) aA
 refine an.up hup ?_
 refine an.Rd (cF:=cF) (F:=ek) (S:=fun b=>b∈ids) (sel:=fun o=>aG o 7) s4 mixed (by kernel_rfl) (by kernel_rfl) (c:=cy ek) (by kernel_rfl) (by kernel_rfl) (fun M β vs hr b hb=>?_) ?_
 ·have h0:=hr 0 (by simp)
  simp only[bp]at h0
  obtain⟨us,_,hl,hq,_⟩:=gp h0
  have h1:=hq 1 (by simp at hl |-)
  simp only[List.getD_cons_succ,bp]at h1
  cases h1 with
  |x _ _ _ _ h=>exact he.Q4 h b hb
 ·rw[yY]
  simp only[Ty.av,↓zq,zs,ac,aC]
  exact⟨by omega,fun ids' hf=>⟨ids' 7,hf 7,rfl⟩⟩
theorem JI(u:Nat)(hu:u<1000000):∀(k i:Nat) (ea:AV) (ids:List Nat),i+k=u->kh ea ids->k<=ids.length->Cr [ea,.v (.int .i64 (u:Int)),.v (.int .i64 (i:Int))] [] (fun t ys o=>t=1/\∃e',kh e' (ids.drop k)/\ys=[e']/\o=[])
 |
  0,i,ea,ids,hi,he,hk=>by
  refine Cl _ _ _ ?_
  have:i=u:=by omega
  subst this
  simp only[zX,↓zq,zs,ac]
  exact⟨he.has,fun h=>by omega,fun _=>⟨ea,he,rfl⟩⟩
 |
  k+1,i,ea,ids,hi,he,hk=>by
  refine Cl _ _ _ ?_
  cases he with
  |nil=>simp at hk
  |
   @cons m cs e ids' hm h =>
   simp only[zX,↓zq,zs,ac,h.has]
   refine⟨fun _=>⟨by omega,?_⟩,fun h=>by omega⟩
   rw[bq i (by omega)]
   exact JI u hu k (i+1) e ids' (by omega) h (by simpa using hk)
theorem Pf(u:Nat)(ea:AV)(ids:List Nat)(he:kh ea ids)(hu:u<ids.length)(hl:ids.length<1000000):an Tryz.prog 131 [.agg [(Ty.bN u).av,ea]] [] (fun r o=>(∃cs,r=.pid (ids.getD u 0) cs)/\o=[]):=by
 refine JF _ _ ((aC _).mpr trivial) he.has ?_
 simp only[Ez,Ty.av,↓zq,zs,ac,he.has]
 refine⟨by omega,kN (JI u (by omega) u 0 ea ids (by omega) he (by omega)) ?_ (fun ys o h=>by cases h.1)⟩
 rintro ys o ⟨_,e',he',rfl,rfl⟩
 have hd:ids.drop u=ids.getD u 0::ids.drop (u+1):=by
  rw[aL hu];simp[aa,hu]
 rw[hd]at he'
 cases he' with
 |
  @cons m cs e ids' hm h =>
  have hp:LK.has .ptr (AV.pid (ids.getD u 0) cs):=.inr (.inr ⟨_,_,rfl⟩)
  simp only[↓zq,zs,ac,hp]
  exact⟨by omega,cs,rfl⟩
inductive zB:Tg->List Nat->List UInt8->AV->Prop
 |nm (s:List UInt8) (ids:List Nat):zB (.nm s) ids s ir
 |bd {k:Nat} {ids:List Nat} (hk:k<ids.length) (cs:List AV) (s:List UInt8):zB (.bd k) ids s (.pid (ids.getD k 0) cs)
theorem zB.has{tg:Tg}{ids:List Nat}{s:List UInt8}{fr:AV}(h:zB tg ids s fr):LK.has .ptr fr:=by
 cases h
 ·exact(ib).mpr trivial
 ·exact .inr (.inr ⟨_,_,rfl⟩)
theorem zB.push{tg:Tg}{ids:List Nat}{s:List UInt8}{fr:AV}(h:zB tg ids s fr)(m:Nat):zB tg.up (m::ids) s fr:=by
 cases h with
 |nm=>exact .nm _ _
 |
  @bd k _ hk cs =>
  have:=zB.bd (k:=k+1) (ids:=m::ids) (by simpa using hk) cs s
  simpa[Tg.up]using this
theorem zh{ids:List Nat}(h:ids.Nodup){i j:Nat}(hi:i<ids.length)(hj:j<ids.length)(he:ids.getD i 0=ids.getD j 0):i=j:=by
 have e1:ids.getD i 0=ids[i]:=by simp[aa,hi]
 have e2:ids.getD j 0=ids[j]:=by simp[aa,hj]
 rw[e1,e2]at he
 have hp:=List.pairwise_iff_getElem.1 h
 rcases Nat.lt_trichotomy i j with hlt|rfl|hlt
 ·exact absurd he (hp i j hi hj hlt)
 ·rfl
 ·exact absurd he.symm (hp j i hj hi hlt)
theorem PI(t:Ty)(tg:Tg)(ea:AV)(ids:List Nat)(s:List UInt8)(fr:AV)(he:kh ea ids)(ht:zB tg ids s fr)(hu:∀u,t=.bN u->u<ids.length)(hl:ids.length<1000000) :
 an Tryz.prog 111 [.agg [.v (.string (mk s)),fr],.agg [t.av,ea]] [] (bB (.v (.bool (fE t tg)))):=by
 refine N1 _ _ _ _ ht.has ((aC _).mpr trivial) he.has ?_
 cases ht with
 |
  nm s =>
  cases t<;>simp[Df,Ty.av,↓zq,zs,ac,zt,bB,fE]
  rw[ct];simp
 |
  @bd k _ hk cs s =>
  generalize hm0:ids.getD k 0=m0
  have hp:LK.has .ptr (AV.pid m0 cs):=.inr (.inr ⟨_,_,rfl⟩)
  have hn:(AV.pid m0 cs).isNil=false:=rfl
  cases t with
  |
   bN u =>
   have hu:=hu u rfl
   simp only[Df,Ty.av,↓zq,zs,ac,hp,hn]
   refine⟨fun _=>⟨by omega,fun _=>?_,fun h=>absurd rfl h⟩,fun h=>by cases h⟩
   have hb:=Pf u ea ids he hu hl
   simp only[Ty.av]at hb
   refine bC hb ⟨_,_,⟨[],rfl⟩,rfl⟩ ?_
   rintro r o ⟨⟨cs',rfl⟩,rfl⟩
   have hp':LK.has .ptr (AV.pid (ids.getD u 0) cs'):=.inr (.inr ⟨_,_,rfl⟩)
   simp only[↓zq,zs,ac,hp',AV.qI,AV.BG,bB,fE]
   congr 2
   rw[ct,Nat.beq_eq,decide_eq_true_eq,<-hm0]
   exact⟨fun h=>zh he.nodup hu hk h,fun h=>by rw[h]⟩
  |_=>simp[Df,Ty.av,↓zq,zs,ac,hp,hn,bB,fE]
end Go.Proofs.Trees
namespace Go.Proofs.Trees
open Go Go.VL Go.RowKit
theorem yP(b:Int)(a:AV)(h:LK.ptr.has a):an Tryz.prog 100 [.v (.int .u8 b),a] [] (bB (.ptr [.v (.int .u8 b),.v (.string (mk [])),a,ir])):=by
 refine No _ _ h ?_
 simp[KV,↓zq,zs,ac,bB]
end Go.Proofs.Trees
namespace Go.Proofs.Trees
open Go Go.VL Go.RowKit
def gY(l:List Hl):List (List AV):=l.map fun h=>[h.1.cu,h.2.cu]
theorem ez(l:List Hl):(gY l).length=l.length:=by simp[gY]
theorem mM{l:List Hl}{i:Nat}(hi:i<l.length):(gY l).getD i []=[(l[i]).1.cu,(l[i]).2.cu]:=by simp[gY,aa,hi]
theorem nR(out:List Hl)(a b:Vl):gY out++[[a.cu,b.cu]]=gY (out++[(a,b)]):=by simp[gY]
theorem gl(g:Vl->Vl)(l:List Hl){i:Nat}(hi:i<l.length):ji g (l.drop i)=(g (l[i]).1,(l[i]).2)::ji g (l.drop (i+1)):=by
 rw[aL hi];rfl
theorem fJ(g:Vl->Vl)(l:List Hl):(ji g l).length=l.length:=by simp[ji]
theorem Bw(a b:AV):cw 2 [[a,b]]:=fun c hc=>by simp at hc;rw[hc];rfl
theorem LB(x0:AV)(hx0:LK.ptr.has x0)(g:Vl->Vl)(hg:∀c:Vl,an Tryz.prog 115 [c.cu,.ref 0 0] [.cells [x0]] (dh (g c).cu [.cells [x0]]))(l:List Hl):∀(k i:Nat) (out:List Hl),i+k=l.length->out.length+k<=1000000->l.length<=1000000 ->
 FQ [.sl (gY l),.v (.int .i64 (l.length:Int)),.v (.int .i64 (i:Int))] [.cells [x0],.cells [.any],.vec 2 (gY out)] (gX 1 [] [.cells [x0],.cells [.any],.vec 2 (gY (out++ji g (l.drop i)))])
 |
  0,i,out,hi,ho,hl=>by
  refine H9 _ _ _ _ _ ?_
  have:i=l.length:=by omega
  subst this
  simp only[DW,↓zq,zs,ac,ez,hx0]
  exact⟨fun h=>by omega,fun _=>by simp[gX,ji]⟩
 |
  k+1,i,out,hi,ho,hl=>by
  have hlt:i<l.length:=by omega
  refine H9 _ _ _ _ _ ?_
  simp only[DW,↓zq,zs,ac,zt,ez,mM hlt,aH,bu,hx0]
  refine⟨fun _=>⟨by omega,by omega,?_⟩,fun h=>by omega⟩
  refine aX (hg _) ?_
  simp only[↓zq,zs,ac,aH,bo,bB,dh,hx0]
  refine⟨⟨Bw _ _,by omega⟩,?_⟩
  rw[bq i (by omega)]
  have:=LB x0 hx0 g hg l k (i+1) (out++[(g (l[i]).1,(l[i]).2)]) (by omega) (by simp;omega) hl
  rw[ba]at this
  rw[gl g l hlt,nR]
  exact this
theorem LC(x0:AV)(hx0:LK.ptr.has x0)(g:Vl->Vl)(hg:∀c:Vl,an Tryz.prog 115 [c.cu,.ref 0 0] [.cells [x0]] (dh (g c).cu [.cells [x0]]))(l out:List Hl)(hl:out.length+l.length<=1000000) :
 an Tryz.prog 112 [.sl (gY l),.fn 115 [.ref 0 0],.ref 1 0] [.cells [x0],.cells [.vec 2],.vec 2 (gY out)] (dh .any [.cells [x0],.cells [.vec 2],.vec 2 (gY (out++ji g l))]):=by
 refine PB _ _ _ ((cc _).mpr trivial) hx0 ?_
 simp only[IN,↓zq,zs,ac,ez]
 have h:=LB x0 hx0 g hg l l.length 0 out (by omega) (by omega) (by omega)
 rw[a6]at h
 refine cq h ?_
 simp[↓zq,zs,ac,dh,bo,hx0]
theorem MT(x0:AV)(hx0:LK.ptr.has x0)(g:Vl->Vl)(hg:∀c:Vl,an Tryz.prog 116 [c.cu,.ref 0 0] [.cells [x0]] (dh (g c).cu [.cells [x0]]))(l:List Hl):∀(k i:Nat) (out:List Hl),i+k=l.length->out.length+k<=1000000->l.length<=1000000 ->
 Fu [.sl (gY l),.v (.int .i64 (l.length:Int)),.v (.int .i64 (i:Int))] [.cells [x0],.cells [.any],.vec 2 (gY out)] (gX 1 [] [.cells [x0],.cells [.any],.vec 2 (gY (out++ji g (l.drop i)))])
 |
  0,i,out,hi,ho,hl=>by
  refine KC _ _ _ _ _ ?_
  have:i=l.length:=by omega
  subst this
  simp only[Ho,↓zq,zs,ac,ez,hx0]
  exact⟨fun h=>by omega,fun _=>by simp[gX,ji]⟩
 |
  k+1,i,out,hi,ho,hl=>by
  have hlt:i<l.length:=by omega
  refine KC _ _ _ _ _ ?_
  simp only[Ho,↓zq,zs,ac,zt,ez,mM hlt,aH,bu,hx0]
  refine⟨fun _=>⟨by omega,by omega,?_⟩,fun h=>by omega⟩
  refine aX (hg _) ?_
  simp only[↓zq,zs,ac,aH,bo,bB,dh,hx0]
  refine⟨⟨Bw _ _,by omega⟩,?_⟩
  rw[bq i (by omega)]
  have:=MT x0 hx0 g hg l k (i+1) (out++[(g (l[i]).1,(l[i]).2)]) (by omega) (by simp;omega) hl
  rw[ba]at this
  rw[gl g l hlt,nR]
  exact this
theorem PM(x0:AV)(hx0:LK.ptr.has x0)(g:Vl->Vl)(hg:∀c:Vl,an Tryz.prog 116 [c.cu,.ref 0 0] [.cells [x0]] (dh (g c).cu [.cells [x0]]))(l out:List Hl)(hl:out.length+l.length<=1000000) :
 an Tryz.prog 112 [.sl (gY l),.fn 116 [.ref 0 0],.ref 1 0] [.cells [x0],.cells [.vec 2],.vec 2 (gY out)] (dh .any [.cells [x0],.cells [.vec 2],.vec 2 (gY (out++ji g l))]):=by
 refine O9 _ _ _ ((cc _).mpr trivial) hx0 ?_
 simp only[H5,↓zq,zs,ac,ez]
 have h:=MT x0 hx0 g hg l l.length 0 out (by omega) (by omega) (by omega)
 rw[a6]at h
 refine cq h ?_
 simp[↓zq,zs,ac,dh,bo,hx0]
theorem JJ(x0:AV)(hx0:LK.ptr.has x0)(g:Vl->Vl)(hg:∀c:Vl,an Tryz.prog 118 [c.cu,.ref 0 0] [.cells [x0]] (dh (g c).cu [.cells [x0]]))(l:List Hl):∀(k i:Nat) (out:List Hl),i+k=l.length->out.length+k<=1000000->l.length<=1000000 ->
 Fe [.sl (gY l),.v (.int .i64 (l.length:Int)),.v (.int .i64 (i:Int))] [.cells [x0],.cells [.any],.vec 2 (gY out)] (gX 1 [] [.cells [x0],.cells [.any],.vec 2 (gY (out++ji g (l.drop i)))])
 |
  0,i,out,hi,ho,hl=>by
  refine MD _ _ _ _ _ ?_
  have:i=l.length:=by omega
  subst this
  simp only[Hc,↓zq,zs,ac,ez,hx0]
  exact⟨fun h=>by omega,fun _=>by simp[gX,ji]⟩
 |
  k+1,i,out,hi,ho,hl=>by
  have hlt:i<l.length:=by omega
  refine MD _ _ _ _ _ ?_
  simp only[Hc,↓zq,zs,ac,zt,ez,mM hlt,aH,bu,hx0]
  refine⟨fun _=>⟨by omega,by omega,?_⟩,fun h=>by omega⟩
  refine aX (hg _) ?_
  simp only[↓zq,zs,ac,aH,bo,bB,dh,hx0]
  refine⟨⟨Bw _ _,by omega⟩,?_⟩
  rw[bq i (by omega)]
  have:=JJ x0 hx0 g hg l k (i+1) (out++[(g (l[i]).1,(l[i]).2)]) (by omega) (by simp;omega) hl
  rw[ba]at this
  rw[gl g l hlt,nR]
  exact this
theorem PP(x0:AV)(hx0:LK.ptr.has x0)(g:Vl->Vl)(hg:∀c:Vl,an Tryz.prog 118 [c.cu,.ref 0 0] [.cells [x0]] (dh (g c).cu [.cells [x0]]))(l out:List Hl)(hl:out.length+l.length<=1000000) :
 an Tryz.prog 112 [.sl (gY l),.fn 118 [.ref 0 0],.ref 1 0] [.cells [x0],.cells [.vec 2],.vec 2 (gY out)] (dh .any [.cells [x0],.cells [.vec 2],.vec 2 (gY (out++ji g l))]):=by
 refine Nj _ _ _ ((cc _).mpr trivial) hx0 ?_
 simp only[Hx,↓zq,zs,ac,ez]
 have h:=JJ x0 hx0 g hg l l.length 0 out (by omega) (by omega) (by omega)
 rw[a6]at h
 refine cq h ?_
 simp[↓zq,zs,ac,dh,bo,hx0]
theorem L3(g:Vl->Vl)(hg:∀c:Vl,an Tryz.prog 119 [c.cu] [] (bB (g c).cu))(l:List Hl):∀(k i:Nat) (out:List Hl),i+k=l.length->out.length+k<=1000000->l.length<=1000000 ->
 Eo [.v (.func (.func 119) #[] #[]),.sl (gY l),.v (.int .i64 (l.length:Int)),.v (.int .i64 (i:Int))] [.cells [.any],.vec 2 (gY out)] (gX 1 [] [.cells [.any],.vec 2 (gY (out++ji g (l.drop i)))])
 |
  0,i,out,hi,ho,hl=>by
  refine Lm _ _ _ _ ?_
  have:i=l.length:=by omega
  subst this
  simp only[GJ,↓zq,zs,ac,ez]
  exact⟨fun h=>by omega,fun _=>by simp[gX,ji]⟩
 |
  k+1,i,out,hi,ho,hl=>by
  have hlt:i<l.length:=by omega
  refine Lm _ _ _ _ ?_
  simp only[GJ,↓zq,zs,ac,zt,ez,mM hlt,aH,bu]
  refine⟨fun _=>⟨by omega,by omega,?_⟩,fun h=>by omega⟩
  refine ah (hg _) ?_
  simp only[↓zq,zs,ac,aH,bo,bB,dh]
  refine⟨⟨Bw _ _,by omega⟩,?_⟩
  rw[bq i (by omega)]
  have:=L3 g hg l k (i+1) (out++[(g (l[i]).1,(l[i]).2)]) (by omega) (by simp;omega) hl
  rw[ba]at this
  rw[gl g l hlt,nR]
  exact this
theorem P8(g:Vl->Vl)(hg:∀c:Vl,an Tryz.prog 119 [c.cu] [] (bB (g c).cu))(l out:List Hl)(hl:out.length+l.length<=1000000) :
 an Tryz.prog 112 [.sl (gY l),.v (.func (.func 119) #[] #[]),.ref 0 0] [.cells [.vec 1],.vec 2 (gY out)] (dh .any [.cells [.vec 1],.vec 2 (gY (out++ji g l))]):=by
 refine Qs _ _ ((cc _).mpr trivial) ?_
 simp only[M7,↓zq,zs,ac,ez]
 have h:=L3 g hg l l.length 0 out (by omega) (by omega) (by omega)
 rw[a6]at h
 refine cq h ?_
 simp[↓zq,zs,ac,dh,bo]
theorem Ie(x0:AV)(x1:AV)(hx0:LK.ptr.has x0)(hx1:LK.ptr.has x1)(g:Vl->Vl)(hg:∀c:Vl,an Tryz.prog 120 [c.cu,.ref 0 0] [.cells [x0,x1]] (dh (g c).cu [.cells [x0,x1]]))(l:List Hl):∀(k i:Nat) (out:List Hl),i+k=l.length->out.length+k<=1000000->l.length<=1000000 ->
 Fc [.sl (gY l),.v (.int .i64 (l.length:Int)),.v (.int .i64 (i:Int))] [.cells [x0,x1],.cells [.any],.vec 2 (gY out)] (gX 1 [] [.cells [x0,x1],.cells [.any],.vec 2 (gY (out++ji g (l.drop i)))])
 |
  0,i,out,hi,ho,hl=>by
  refine K0 _ _ _ _ _ _ ?_
  have:i=l.length:=by omega
  subst this
  simp only[Fk,↓zq,zs,ac,ez,hx0,hx1]
  exact⟨fun h=>by omega,fun _=>by simp[gX,ji]⟩
 |
  k+1,i,out,hi,ho,hl=>by
  have hlt:i<l.length:=by omega
  refine K0 _ _ _ _ _ _ ?_
  simp only[Fk,↓zq,zs,ac,zt,ez,mM hlt,aH,bu,hx0,hx1]
  refine⟨fun _=>⟨by omega,by omega,?_⟩,fun h=>by omega⟩
  refine aX (hg _) ?_
  simp only[↓zq,zs,ac,aH,bo,bB,dh,hx0,hx1]
  refine⟨⟨Bw _ _,by omega⟩,?_⟩
  rw[bq i (by omega)]
  have:=Ie x0 x1 hx0 hx1 g hg l k (i+1) (out++[(g (l[i]).1,(l[i]).2)]) (by omega) (by simp;omega) hl
  rw[ba]at this
  rw[gl g l hlt,nR]
  exact this
theorem Ql(x0:AV)(x1:AV)(hx0:LK.ptr.has x0)(hx1:LK.ptr.has x1)(g:Vl->Vl)(hg:∀c:Vl,an Tryz.prog 120 [c.cu,.ref 0 0] [.cells [x0,x1]] (dh (g c).cu [.cells [x0,x1]]))(l out:List Hl)(hl:out.length+l.length<=1000000) :
 an Tryz.prog 112 [.sl (gY l),.fn 120 [.ref 0 0],.ref 1 0] [.cells [x0,x1],.cells [.vec 2],.vec 2 (gY out)] (dh .any [.cells [x0,x1],.cells [.vec 2],.vec 2 (gY (out++ji g l))]):=by
 refine Qn _ _ _ _ ((cc _).mpr trivial) hx0 hx1 ?_
 simp only[J4,↓zq,zs,ac,ez]
 have h:=Ie x0 x1 hx0 hx1 g hg l l.length 0 out (by omega) (by omega) (by omega)
 rw[a6]at h
 refine cq h ?_
 simp[↓zq,zs,ac,dh,bo,hx0,hx1]
theorem OV(w c:Vl):an Tryz.prog 115 [c.cu,.ref 0 0] [.cells [(Vl.l w).cu]] (dh (Vl.l c).cu [.cells [(Vl.l w).cu]]):=by
 refine Mb _ _ ((aH _).mpr trivial) ((aH _).mpr trivial) ?_
 simp only[Gz,Vl.cu,↓zq,zs,ac,aH]
 refine⟨by omega,?_⟩
 refine ah (yP _ _ ((aH _).mpr trivial)) ?_
 simp[↓zq,zs,ac,dh,Vl.cu]
theorem Oo(w c:Vl):an Tryz.prog 115 [c.cu,.ref 0 0] [.cells [(Vl.r w).cu]] (dh (Vl.r c).cu [.cells [(Vl.r w).cu]]):=by
 refine Mb _ _ ((aH _).mpr trivial) ((aH _).mpr trivial) ?_
 simp only[Gz,Vl.cu,↓zq,zs,ac,aH]
 refine⟨by omega,?_⟩
 refine ah (yP _ _ ((aH _).mpr trivial)) ?_
 simp[↓zq,zs,ac,dh,Vl.cu]
theorem Nu(x y c:Vl):an Tryz.prog 116 [c.cu,.ref 0 0] [.cells [(Vl.p x y).cu]] (dh (Vl.l (.p c y)).cu [.cells [(Vl.p x y).cu]]):=by
 refine P9 _ _ ((aH _).mpr trivial) ((aH _).mpr trivial) ?_
 simp only[MQ,Vl.cu,↓zq,zs,ac,aH]
 refine⟨by omega,?_⟩
 refine ah (yL _ _ ((aH _).mpr trivial) ((aH _).mpr trivial)) ?_
 simp only[↓zq,zs,ac]
 refine ah (yP _ _ ((bY _).mpr trivial)) ?_
 simp[↓zq,zs,ac,dh,Vl.cu]
theorem Nz(x y c:Vl):an Tryz.prog 118 [c.cu,.ref 0 0] [.cells [(Vl.p x y).cu]] (dh (Vl.r (.p x c)).cu [.cells [(Vl.p x y).cu]]):=by
 refine Nx _ _ ((aH _).mpr trivial) ((aH _).mpr trivial) ?_
 simp only[Jl,Vl.cu,↓zq,zs,ac,aH]
 refine⟨by omega,?_⟩
 refine ah (yL _ _ ((aH _).mpr trivial) ((aH _).mpr trivial)) ?_
 simp only[↓zq,zs,ac]
 refine ah (yP _ _ ((bY _).mpr trivial)) ?_
 simp[↓zq,zs,ac,dh,Vl.cu]
theorem Oq(kc kv c:Vl):an Tryz.prog 120 [c.cu,.ref 0 0] [.cells [kc.cu,kv.cu]] (dh (Vl.f (.r (.p kc c))).cu [.cells [kc.cu,kv.cu]]):=by
 refine Qe _ _ _ ((aH _).mpr trivial) ((aH _).mpr trivial) ((aH _).mpr trivial) ?_
 simp only[Ks,Vl.cu,↓zq,zs,ac,aH]
 refine ah (yL _ _ ((aH _).mpr trivial) ((aH _).mpr trivial)) ?_
 simp only[↓zq,zs,ac]
 refine ah (yP _ _ ((bY _).mpr trivial)) ?_
 simp only[↓zq,zs,ac]
 refine ah (yP _ _ ((bY _).mpr trivial)) ?_
 simp[↓zq,zs,ac,dh,Vl.cu,aH]
theorem NM(c:Vl):an Tryz.prog 119 [c.cu] [] (bB (Vl.f (.l c)).cu):=by
 refine P4 _ ((aH _).mpr trivial) ?_
 simp only[JC,↓zq,zs,ac]
 refine ah (yP _ _ ((aH _).mpr trivial)) ?_
 simp only[↓zq,zs,ac]
 refine ah (yP _ _ ((bY _).mpr trivial)) ?_
 simp[↓zq,zs,ac,bB,Vl.cu]
end Go.Proofs.Trees
namespace Go.Proofs.Trees
open Go Go.VL Go.RowKit
abbrev zr(a:Ty)(tg:Tg):Hl->List Hl:=fun h=>ji (fun c=>.f (.r (.p h.1 c))) (cb (.rc a) tg h.2)
theorem AW(l:List Hl){i:Nat}(hi:i<l.length):l[i]∈l:=bA _
def FP(t:Ty)(ea:AV)(s:List UInt8)(fr:AV)(tg:Tg)(v:Vl):Prop:=an Tryz.prog 87 [.agg [t.av,ea],v.cu,.agg [.v (.string (mk s)),fr]] [] (bB (.sl (gY (cb t tg v))))
theorem Jd(a:Ty)(ea:AV)(s:List UInt8)(fr:AV)(tg:Tg)(he:LK.ptr.has ea)(hf:LK.ptr.has fr)(l:List Hl)(hl:l.length<=1000000)(ih:∀h,h∈l->FP (.rc a) ea s fr tg h.2) :
 ∀(k i:Nat) (out:List Hl),i+k=l.length->(out++(l.drop i).flatMap (zr a tg)).length<=1000000 ->
 Hj [.sl (gY l),.v (.int .i64 (l.length:Int)),.v (.int .i64 (i:Int))] [.cells [(Ty.rc a).av,ea],.cells [.v (.string (mk s)),fr],.cells [.any],.vec 2 (gY out)] (gX 1 [] [.cells [.any],.vec 2 (gY (out++(l.drop i).flatMap (zr a tg)))])
 |
  0,i,out,hi,ho=>by
  refine Mt _ _ _ _ _ _ _ _ ?_
  have:i=l.length:=by omega
  subst this
  simp only[Gi,↓zq,zs,ac,ez,aC,he,hf]
  exact⟨fun h=>by omega,fun _=>by simp[gX]⟩
 |
  k+1,i,out,hi,ho=>by
  have hlt:i<l.length:=by omega
  have hd:(l.drop i).flatMap (zr a tg)=zr a tg (l[i])++(l.drop (i+1)).flatMap (zr a tg):=by rw[aL hlt,List.flatMap_cons]
  rw[hd]at ho |-
  refine Mt _ _ _ _ _ _ _ _ ?_
  simp only[Gi,↓zq,zs,ac,zt,ez,mM hlt,aC,aH,bu,he,hf]
  refine⟨fun _=>⟨by omega,by omega,?_⟩,fun h=>by omega⟩
  refine ah (ih _ (AW l hlt)) ?_
  simp only[↓zq,zs,ac]
  have hb:out.length+(cb (.rc a) tg (l[i]).2).length<=1000000:=by
   simp only[ax,fJ]at ho;omega
  refine aX (Ql _ _ ((aH _).mpr trivial) ((aH _).mpr trivial) (fun c=>.f (.r (.p (l[i]).1 c))) (fun c=>Oq (l[i]).1 (l[i]).2 c) (cb (.rc a) tg (l[i]).2) out hb) ?_
  simp only[↓zq,zs,ac,bo,aH]
  rw[bq i (by omega),<-ba]
  exact Jd a ea s fr tg he hf l hl ih k (i+1) _ (by omega) (by rw[ba];exact ho)
theorem Ds(n:Nat):∀(m:Nat) (v:Vl),v.nodes<=m->∀(e:E) (env:List Fr) (t:Ty),Ask e env t->eJ n v (e,env)=true->env.length+v.nodes<100000->∀(ea:AV) (ids:List Nat),kh ea ids->ids.length=env.length->∀(tg:Tg) (s:List UInt8) (fr:AV),zB tg ids s fr->FP t ea s fr tg v
 |0,v,hm=>by have:=dA v;omega
 |
  m+1,v,hm=>by
  intro e env t A hv hl ea ids he hids tg s fr ht
  unfold FP
  refine QK _ _ _ _ _ ((aC _).mpr trivial) he.has ((aH _).mpr trivial) ht.has ?_
  unfold Jw
  refine ah (PI t tg ea ids s fr he ht (fun u hu=>by
   rcases gn A.wf A.ty with⟨hb,_⟩|⟨u',g,rfl,_,hg⟩
   ·rw[hu]at hb;cases hb
   ·cases hu;rw[hids];exact(List.getElem?_eq_some_iff.1 hg).1) (by omega)) ?_
  have hlen:=mz t tg v
  cases hat:fE t tg with
  |
   true =>
   rw[mo v hat]
   simp only[↓zq,zs,ac,bB,gY,bG,List.map_nil,Vl.cu]
   exact⟨fun _=>trivial,fun h=>(by cases h)⟩
  |false =>
  simp only[↓zq,zs,ac]
  refine⟨fun h=>(by cases h),fun _=>?_⟩
  rcases gn A.wf A.ty with⟨hb,hq⟩|⟨u,g,rfl,hq,hu⟩
  ·have hhd:hd e env=(e,env):=j8 hq
   rcases fy A.ty hb A.cl with⟨rfl,rfl⟩|⟨rfl,rfl⟩|⟨s,rfl,rfl,hp,h0,h1⟩|⟨x,a,b,t1,t2,rfl,hx,rfl,ha,hbb⟩|⟨x,a,b,t1,t2,rfl,hx,rfl,ha,hbb⟩|⟨x,a,b,t1,rfl,hx,rfl⟩
   ·rw[dP hat (by cases v<;>rfl)]
    simp[Ty.av,↓zq,zs,ac,bB,gY]
   ·rw[dP hat (by cases v<;>rfl)]
    simp[Ty.av,↓zq,zs,ac,bB,gY]
   ·rw[dP hat (by cases v<;>rfl)]
    simp[Ty.av,↓zq,zs,ac,bB,gY]
   ·obtain⟨ok1,ok2,ok3,_⟩:=A.ok
    obtain⟨f1,f2⟩:=e9 A.cl
    have hL:=yA t1.av t2.av ea 43 (mk []) 0 ((aC _).mpr trivial) he.has
    have hR:=yt t1.av t2.av ea 43 (mk []) 0 ((aC _).mpr trivial) he.has
    cases v with
    |
     l w =>
     simp only[eJ,hhd,hx,beq_self_eq_true,bO]at hv
     simp only[Vl.nodes]at hm hl hlen
     rw[mR]at hlen |-
     rw[fJ]at hlen
     simp only[Ty.av,↓zq,zs,ac]
     refine⟨by omega,fun _=>?_,fun h=>absurd rfl h⟩
     refine ah hL ?_
     simp only[↓zq,zs,ac,bu,aC,he.has,Vl.cu,aH]
     refine⟨by omega,fun h=>by omega,fun _=>⟨by omega,?_⟩⟩
     refine ah (Ds n m w (by omega) a env t1 ⟨ok2,A.wf,ha,f1⟩ hv (by omega) ea ids he hids tg s fr ht) ?_
     simp only[↓zq,zs,ac]
     have hadd:=LC (Vl.l w).cu ((aH _).mpr trivial) Vl.l (fun c=>OV w c) (cb t1 tg w) [] (by simp;omega)
     simp only[Vl.cu,gY,List.map_nil,aO]at hadd
     refine aX hadd ?_
     simp[↓zq,zs,ac,bo,bB,aH,gY,bY]
    |
     r w =>
     simp only[eJ,hhd,hx,beq_self_eq_true,bO]at hv
     simp only[Vl.nodes]at hm hl hlen
     rw[mH]at hlen |-
     rw[fJ]at hlen
     simp only[Ty.av,↓zq,zs,ac]
     refine⟨by omega,fun _=>?_,fun h=>absurd rfl h⟩
     refine ah hL ?_
     simp only[↓zq,zs,ac,bu,aC,he.has,Vl.cu,aH]
     refine⟨by omega,fun _=>?_,fun h=>absurd rfl h⟩
     refine ah hR ?_
     simp only[↓zq,zs,ac,bu,aC,he.has,aH]
     refine⟨by omega,?_⟩
     refine ah (Ds n m w (by omega) b env t2 ⟨ok3,A.wf,hbb,f2⟩ hv (by omega) ea ids he hids tg s fr ht) ?_
     simp only[↓zq,zs,ac]
     have hadd:=LC (Vl.r w).cu ((aH _).mpr trivial) Vl.r (fun c=>Oo w c) (cb t2 tg w) [] (by simp;omega)
     simp only[Vl.cu,gY,List.map_nil,aO]at hadd
     refine aX hadd ?_
     simp[↓zq,zs,ac,bo,bB,aH,gY,bY]
    |_=>simp[eJ,hhd,hx]at hv
   ·obtain⟨ok1,ok2,ok3,_⟩:=A.ok
    obtain⟨f1,f2⟩:=eI A.cl
    have hL:=yA t1.av t2.av ea 42 (mk []) 0 ((aC _).mpr trivial) he.has
    have hR:=yt t1.av t2.av ea 42 (mk []) 0 ((aC _).mpr trivial) he.has
    cases v with
    |
     p w w' =>
     simp only[eJ,hhd,hx,beq_self_eq_true,bO,ap]at hv
     simp only[Vl.nodes]at hm hl hlen
     rw[mJ]at hlen |-
     simp only[ax,fJ]at hlen
     simp only[Ty.av,↓zq,zs,ac]
     refine⟨by omega,fun h=>by omega,fun _=>⟨fun _=>?_,fun h=>absurd rfl h⟩⟩
     refine ah hL ?_
     simp only[↓zq,zs,ac,bu,aC,he.has,Vl.cu,aH]
     refine⟨by omega,?_⟩
     refine ah (Ds n m w (by omega) a env t1 ⟨ok2,A.wf,ha,f1⟩ hv.1 (by omega) ea ids he hids tg s fr ht) ?_
     simp only[↓zq,zs,ac]
     have hadd:=PM (Vl.p w w').cu ((aH _).mpr trivial) (fun c=>.l (.p c w')) (fun c=>Nu w w' c) (cb t1 tg w) [] (by simp;omega)
     simp only[Vl.cu,gY,List.map_nil,aO]at hadd
     refine aX hadd ?_
     simp only[↓zq,zs,ac,bo,aH]
     refine ah hR ?_
     simp only[↓zq,zs,ac,bu,aC,he.has,aH]
     refine⟨by omega,?_⟩
     refine ah (Ds n m w' (by omega) b env t2 ⟨ok3,A.wf,hbb,f2⟩ hv.2 (by omega) ea ids he hids tg s fr ht) ?_
     simp only[↓zq,zs,ac]
     have hadd2:=PP (Vl.p w w').cu ((aH _).mpr trivial) (fun c=>.r (.p w c)) (fun c=>Nz w w' c) (cb t2 tg w') (ji (fun c=>.l (.p c w')) (cb t1 tg w)) (by rw[fJ];omega)
     simp only[Vl.cu,gY]at hadd2
     refine aX hadd2 ?_
     simp[↓zq,zs,ac,bo,bB,aH,gY,bY]
    |_=>simp[eJ,hhd,hx]at hv
   ·obtain⟨t1',he1,h1,f1,hw1⟩:=jg A.wf A.ok hx A.ty A.cl
    cases he1
    obtain⟨ok1,ok2,ok3,_⟩:=A.ok
    have A':Ask b (.mk a.at (.list [x,a,b]) env::env) t1:=⟨ok3,hw1,h1,f1⟩
    cases v with
    |
     f w =>
     simp only[eJ,hhd,hx,beq_self_eq_true,bO]at hv
     simp only[Vl.nodes]at hm hl hlen
     rw[mF]at hlen |-
     simp only[ax,fJ]at hlen
     have hin:=Co t1 ea ids he
     simp only[Ty.av]at hin
     simp only[Ty.av,↓zq,zs,ac]
     refine⟨by omega,fun h=>by omega,fun _=>⟨fun h=>by omega,fun _=>⟨fun _=>?_,fun h=>absurd rfl h⟩⟩⟩
     refine bC hin (by have:=Ai.ne t1 ea ids;simpa only[Ai,Ty.av]using this) ?_
     intro r o hr
     obtain⟨⟨mm,hmm,rfl⟩,rfl⟩:=hr
     have he2:kh (.ptr [.pid mm [(Ty.rc t1).av,ea],ea]) (mm::ids):=.cons hmm he
     have hfr:LK.ptr.has (.pid mm [(Ty.rc t1).av,ea]):=.inr (.inr ⟨_,_,rfl⟩)
     simp only[Ty.av]at he2 hfr
     simp only[↓zq,zs,ac,bu,aC,he2.has,hfr,Vl.cu,aH,Ty.av]
     refine⟨by omega,?_⟩
     have i1:=Ds n m w (by omega) b _ t1 A' hv (by simp;omega) _ _ he2 (by simp[hids]) tg.up s fr (ht.push mm)
     unfold FP at i1
     refine ah i1 ?_
     simp only[↓zq,zs,ac]
     have hadd:=P8 (fun c=>.f (.l c)) (fun c=>NM c) (cb t1 tg.up w) [] (by simp;omega)
     simp only[Vl.cu,gY,List.map_nil,aO]at hadd
     refine aX hadd ?_
     simp only[↓zq,zs,ac,bo,aH]
     have i2:=Ds n m w (by omega) b _ t1 A' hv (by simp;omega) _ _ he2 (by simp[hids]) (.bd 0) [] _ (by have:=zB.bd (k:=0) (ids:=mm::ids) (by simp) [(Ty.rc t1).av,ea] [];simpa only[bp,Ty.av]using this)
     unfold FP at i2
     refine⟨by omega,?_⟩
     refine ah i2 ?_
     simp only[↓zq,zs,ac,ez]
     have hl2:=mz t1 (.bd 0) w
     have ih3:∀h,h∈cb t1 (.bd 0) w->FP (.rc t1) ea s fr tg h.2:=fun h hh=>by
      have h3:=(iq hh).1
      have h4:=hZ n m w (by omega) b _ t1 A' hv 0 _ rfl h hh
      exact Ds n m h.2 (by omega) (.list [x,a,b]) env (.rc t1) A h4 (by omega) ea ids he hids tg s fr ht
     have hloop:=Jd t1 ea s fr tg he.has ht.has (cb t1 (.bd 0) w) (by omega) ih3 (cb t1 (.bd 0) w).length 0 (ji (fun c=>.f (.l c)) (cb t1 tg.up w)) (by omega) (by
      simp only[a6,ax,fJ]
      have hlen2:(cb t1 tg.up w).length+((cb t1 (.bd 0) w).flatMap (zr t1 tg)).length<=1+w.nodes:=hlen
      omega)
     simp only[Ty.av,gY,a6]at hloop
     refine cq hloop ?_
     simp[↓zq,zs,ac,ac,bB,gY]
    |_=>simp[eJ,hhd,hx]at hv
  ·rw[dP hat (by cases v<;>rfl)]
   simp[Ty.av,↓zq,zs,ac,bB,gY]
end Go.Proofs.Trees
namespace Go.Proofs.Trees
open Go Go.VL Go.RowKit
theorem DH:∀(v:Vl),v.cN.length<=900000->an Tryz.prog 66 [v.cu] [] (bB (.v (.string (mk v.cN))))
 | .u,h=>by refine yX _ ((aH _).mpr trivial) ?_;simp[Gw,Vl.cu,↓zq,zs,ac,bB,Vl.cN,Vl.cE,fN]
 | .el k,h=>by refine yX _ ((aH _).mpr trivial) ?_;simp[Gw,Vl.cu,↓zq,zs,ac,bB,Vl.cN,Vl.cE,fN]
 |
  .l v,h=>by
  simp only[Vl.cN,Vl.cE,fN,ei,aB,ax,aJ]at h
  refine yX _ ((aH _).mpr trivial) ?_
  have hb:(⟨(bytesOf [[.v (.int .u8 108)]]).toArray⟩:ByteArray)=mk [108]:=rfl
  have ha:jn [[.v (.int .u8 108)]]:=kz 108
  simp only[Gw,Vl.cu,↓zq,zs,ac,aH,fe,hb]
  refine⟨by omega,fun h=>by omega,fun _=>⟨fun h=>by omega,fun _=>⟨fun h=>by omega,fun _=>⟨by omega,ha,by simp[cG],by rw[kH,cG,cG];simp,by omega,?_⟩⟩⟩⟩
  refine ah (DH v (by simp only[Vl.cN];omega)) ?_
  simp only[↓zq,zs,ac,zt,bB,Vl.cN,Vl.cE,fN,ei]
  refine⟨by simp;omega,by simp;omega,by simp⟩
 |
  .r v,h=>by
  simp only[Vl.cN,Vl.cE,fN,ei,aB,ax,aJ]at h
  refine yX _ ((aH _).mpr trivial) ?_
  have hb:(⟨(bytesOf [[.v (.int .u8 114)]]).toArray⟩:ByteArray)=mk [114]:=rfl
  have ha:jn [[.v (.int .u8 114)]]:=kz 114
  simp only[Gw,Vl.cu,↓zq,zs,ac,aH,fe,hb]
  refine⟨by omega,fun h=>by omega,fun _=>⟨fun h=>by omega,fun _=>⟨fun h=>by omega,fun _=>⟨by omega,ha,by simp[cG],by rw[kH,cG,cG];simp,by omega,?_⟩⟩⟩⟩
  refine ah (DH v (by simp only[Vl.cN];omega)) ?_
  simp only[↓zq,zs,ac,zt,bB,Vl.cN,Vl.cE,fN,ei]
  refine⟨by simp;omega,by simp;omega,by simp⟩
 |
  .f v,h=>by
  simp only[Vl.cN,Vl.cE,fN,ei,aB,ax,aJ]at h
  refine yX _ ((aH _).mpr trivial) ?_
  have hb:(⟨(bytesOf [[.v (.int .u8 102)]]).toArray⟩:ByteArray)=mk [102]:=rfl
  have ha:jn [[.v (.int .u8 102)]]:=kz 102
  simp only[Gw,Vl.cu,↓zq,zs,ac,aH,fe,hb]
  refine⟨by omega,fun h=>by omega,fun _=>⟨fun h=>by omega,fun _=>⟨fun h=>by omega,fun _=>⟨by omega,ha,by simp[cG],by rw[kH,cG,cG];simp,by omega,?_⟩⟩⟩⟩
  refine ah (DH v (by simp only[Vl.cN];omega)) ?_
  simp only[↓zq,zs,ac,zt,bB,Vl.cN,Vl.cE,fN,ei]
  refine⟨by simp;omega,by simp;omega,by simp⟩
 |
  .p a b,h=>by
  simp only[Vl.cN,Vl.cE,fN,ei,aB,ax,aJ]at h
  refine yX _ ((aH _).mpr trivial) ?_
  simp only[Gw,Vl.cu,↓zq,zs,ac,aH,fe]
  refine⟨by omega,fun h=>by omega,fun _=>⟨fun h=>by omega,fun _=>⟨fun _=>⟨by omega,?_⟩,fun h=>absurd rfl h⟩⟩⟩
  refine ah (DH a (by simp only[Vl.cN];omega)) ?_
  simp only[↓zq,zs,ac,zt,aH,Vl.cN]
  refine⟨by simp;omega,by simp;omega,by omega,?_⟩
  refine ah (DH b (by simp only[Vl.cN];omega)) ?_
  simp only[↓zq,zs,ac,zt,bB,Vl.cN,Vl.cE,fN,ei]
  refine⟨by simp;omega,by simp;omega,by simp⟩
def pu:Option (List UInt8)->AV
 |some s=>.cv [.v (.string (mk s)),.v (.bool true)]
 |none=>.cv [.v (.string (mk [])),.v (.bool false)]
end Go.Proofs.Trees
namespace Go.Proofs.Trees
open Go Go.VL Go.RowKit
def back(n:Nat):Ty->Nat->Vl
 | .name _,c=>.el c
 | .plus a b,c=>match Hp n a with|some x=>if c<x then .l (back n a c)else .r (back n b (c-x))|none=>.u
 | .times a b,c=>match Hp n b with|some y=>.p (back n a (c/y)) (back n b (c%y))|none=>.u
 |_,_=>.u
theorem xg:∀l:List E,cw 2 (E.bn l)
 |[]=>fun c hc=>by cases hc
 |
  e::l=>fun c hc=>by
  simp only[E.bn,aF]at hc
  rcases hc with rfl|hc
  ·exact fZ e
  ·exact xg l c hc
theorem ME(w:List UInt8)(l:List E)(hl:l.length<1000000):an Tryz.prog 98 [.v (.string (mk w)),.sl (E.bn l)] [] (bB (E.kj (.list (.atom w::l)))):=by
 refine M6 _ _ ((cc _).mpr trivial) ?_
 simp only[Hb,↓zq,zs,ac,dV,bB,E.kj,E.hJ,E.bn]
 exact⟨⟨xg l,by omega⟩,rfl⟩
end Go.Proofs.Trees
namespace Go.Proofs.Trees
open Go Go.VL Go.RowKit
def lN(l:List Hl):List (List AV):=l.map fun h=>[.v (.string (mk h.1.cE.at)),h.1.cE.sp,.v (.string (mk h.2.cE.at)),h.2.cE.sp]
theorem fk(l:List Hl):(lN l).length=l.length:=by simp[lN]
theorem gx{l:List Hl}{i:Nat}(hi:i<l.length):(lN l).getD i []=[.v (.string (mk (l[i]).1.cE.at)),(l[i]).1.cE.sp,.v (.string (mk (l[i]).2.cE.at)),(l[i]).2.cE.sp]:=by simp[lN,aa,hi]
theorem nX(out:List Hl)(a b:Vl):lN out++[[.v (.string (mk a.cE.at)),a.cE.sp,.v (.string (mk b.cE.at)),b.cE.sp]]=lN (out++[(a,b)]):=by simp[lN]
theorem yl(a b c d:AV):cw 4 [[a,b,c,d]]:=fun x hx=>by simp at hx;rw[hx];rfl
theorem aR(s:ByteArray)(e:E):bu [.str,.sl] [.v (.string s),e.sp] 0=True:=by simp[bu,dY,a7]
theorem kE(s:ByteArray)(e:E)(x y:AV):bu [.str,.sl] [.v (.string s),e.sp,x,y] 0=True:=by simp[bu,dY,a7]
theorem zw(w:List UInt8)(e:E):an Tryz.prog 98 [.v (.string (mk w)),.sl [[.v (.string (mk e.at)),e.sp]]] [] (bB (.agg [.v (.string (mk [])),(E.list [.atom w,e]).sp])):=by
 have:=ME w [e] (by simp)
 simpa only[E.bn,fw,dr,E.at]using this
theorem xQ(w:List UInt8)(e e':E):an Tryz.prog 98 [.v (.string (mk w)),.sl [[.v (.string (mk e.at)),e.sp],[.v (.string (mk e'.at)),e'.sp]]] [] (bB (.agg [.v (.string (mk [])),(E.list [.atom w,e,e']).sp])):=by
 have:=ME w [e,e'] (by simp)
 simpa only[E.bn,fw,dr,E.at]using this
def P3(pv:AV)(a b:E):Prop:=LK.sl.has pv/\pv.aS.length=3/\pv.aS.getD 1 []=[.v (.string (mk a.at)),a.sp]/\pv.aS.getD 2 []=[.v (.string (mk b.at)),b.sp]
theorem P3.of(x a b:E):P3 (E.list [x,a,b]).sp a b:=⟨by simp[E.sp,cc],by simp[E.sp,E.bn,fS],by simp[E.sp,E.bn,fS,fw],by simp[E.sp,E.bn,fS,fw]⟩
def P2(pv:AV)(a:E):Prop:=LK.sl.has pv/\pv.aS.length=2/\pv.aS.getD 1 []=[.v (.string (mk a.at)),a.sp]
theorem P2.of(x a:E):P2 (E.list [x,a]).sp a:=⟨by simp[E.sp,cc],by simp[E.sp,E.bn,fS],by simp[E.sp,E.bn,fS,fw]⟩
theorem My(w:List UInt8)(g:Vl->Vl)(hg:∀c,(g c).cE=.list [.atom w,c.cE])(l:List Hl)(hl:l.length<=1000000):∀(k i:Nat) (out:List Hl),i+k=l.length->out.length+k<=1000000 ->
 D6 [.sl (lN l),.v (.string (mk w)),.v (.int .i64 (i:Int))] [.vec 4 (lN out)] (gX 1 [] [.vec 4 (lN (out++ji g (l.drop i)))])
 |
  0,i,out,hi,ho=>by
  refine Ma _ _ _ _ ?_
  have:i=l.length:=by omega
  subst this
  simp only[Gs,↓zq,zs,ac,fk]
  exact⟨fun h=>by omega,fun _=>by simp[gX,ji]⟩
 |
  k+1,i,out,hi,ho=>by
  have hlt:i<l.length:=by omega
  refine Ma _ _ _ _ ?_
  simp only[Gs,↓zq,zs,ac,zt,fk,gx hlt,kE,aR]
  refine⟨fun _=>?_,fun h=>by omega⟩
  repeat refine⟨by omega,?_⟩
  refine ah (zw _ _) ?_
  simp only[↓zq,zs,ac,aR]
  repeat refine⟨by omega,?_⟩
  refine⟨⟨yl _ _ _ _,by omega⟩,?_⟩
  rw[bq i (by omega)]
  have:=My w g hg l hl k (i+1) (out++[(g (l[i]).1,(l[i]).2)]) (by omega) (by simp;omega)
  rw[ba,<-nX,hg]at this
  rw[gl g l hlt]
  exact this
theorem Le(w:List UInt8)(g:Vl->Vl)(hg:∀c,(g c).cE=.list [.atom w,c.cE])(l out:List Hl)(hl:out.length+l.length<=1000000) :
 an Tryz.prog 126 [.sl (lN l),.v (.string (mk w)),.vec 0] [.vec 4 (lN out)] (dh (.vec 1) [.dead,.vec 4 (lN (out++ji g l))]):=by
 refine Ol _ _ _ ((cc _).mpr trivial) ?_
 simp only[KJ,↓zq,zs,ac]
 have h:=My w g hg l (by omega) l.length 0 out (by omega) (by omega)
 rw[a6]at h
 refine cq h ?_
 simp[↓zq,zs,ac,dh]
theorem IF(s:List UInt8)(ta:ByteArray)(tp:AV)(ht:LK.sl.has tp)(va:ByteArray)(vp:AV)(x y:Vl)(hp:P3 vp x.cE y.cE)(l:List Hl)(hl:l.length<=1000000):∀(k i:Nat) (out:List Hl),i+k=l.length->out.length+k<=1000000 ->
 EX [.v (.string (mk s)),.sl (lN l),.v (.int .i64 (i:Int))] [.cells [.v (.string ta),tp],.cells [.v (.string va),vp],.vec 4 (lN out)] (gX 1 [.v (.string (mk s))] [.cells [.v (.string ta),tp],.cells [.v (.string va),vp],.vec 4 (lN (out++ji (fun c=>Vl.l (.p c y)) (l.drop i)))])
 |
  0,i,out,hi,ho=>by
  refine KB _ _ _ _ _ _ _ _ ?_
  have:i=l.length:=by omega
  subst this
  simp only[Hk,↓zq,zs,ac,fk,ht,a7,ac,hp.1]
  exact⟨fun h=>by omega,fun _=>by simp[gX,ji]⟩
 |
  k+1,i,out,hi,ho=>by
  have hlt:i<l.length:=by omega
  refine KB _ _ _ _ _ _ _ _ ?_
  simp only[Hk,↓zq,zs,ac,zt,fk,gx hlt,kE,aR,gx,ht,a7,ac,hp.1,toNat_one,bj,hp.1,hp.2.1,hp.2.2.1,hp.2.2.2]
  refine⟨fun _=>?_,fun h=>by omega⟩
  repeat refine⟨by omega,?_⟩
  refine ah (xQ _ _ _) ?_
  simp only[↓zq,zs,ac,aR]
  repeat refine⟨by omega,?_⟩
  refine ah (zw [108] (E.list [.atom [112],(l[i]).1.cE,y.cE])) ?_
  simp only[↓zq,zs,ac,aR]
  repeat refine⟨by omega,?_⟩
  refine⟨⟨yl _ _ _ _,by omega⟩,?_⟩
  rw[bq i (by omega)]
  have:=IF s ta tp ht va vp x y hp l hl k (i+1) (out++[((fun c=>Vl.l (.p c y)) (l[i]).1,(l[i]).2)]) (by omega) (by simp;omega)
  rw[ba,<-nX]at this
  rw[gl (fun c=>Vl.l (.p c y)) l hlt]
  exact this
theorem L8(va:ByteArray)(vp:AV)(x y:Vl)(hp:P3 vp x.cE y.cE)(l:List Hl)(hl:l.length<=1000000):∀(k i:Nat) (out:List Hl),i+k=l.length->out.length+k<=1000000 ->
 Fi [.sl (lN l),.v (.int .i64 (i:Int))] [.cells [.v (.string va),vp],.vec 4 (lN out)] (gX 1 [] [.vec 4 (lN (out++ji (fun c=>Vl.r (.p x c)) (l.drop i)))])
 |
  0,i,out,hi,ho=>by
  refine Ke _ _ _ _ _ ?_
  have:i=l.length:=by omega
  subst this
  simp only[EA,↓zq,zs,ac,fk,a7,ac,hp.1]
  exact⟨fun h=>by omega,fun _=>by simp[gX,ji]⟩
 |
  k+1,i,out,hi,ho=>by
  have hlt:i<l.length:=by omega
  refine Ke _ _ _ _ _ ?_
  simp only[EA,↓zq,zs,ac,zt,fk,gx hlt,kE,aR,gx,a7,ac,hp.1,toNat_one,bj,hp.1,hp.2.1,hp.2.2.1,hp.2.2.2]
  refine⟨fun _=>?_,fun h=>by omega⟩
  repeat refine⟨by omega,?_⟩
  refine ah (xQ _ _ _) ?_
  simp only[↓zq,zs,ac,aR]
  repeat refine⟨by omega,?_⟩
  refine ah (zw [114] (E.list [.atom [112],x.cE,(l[i]).1.cE])) ?_
  simp only[↓zq,zs,ac,aR]
  repeat refine⟨by omega,?_⟩
  refine⟨⟨yl _ _ _ _,by omega⟩,?_⟩
  rw[bq i (by omega)]
  have:=L8 va vp x y hp l hl k (i+1) (out++[((fun c=>Vl.r (.p x c)) (l[i]).1,(l[i]).2)]) (by omega) (by simp;omega)
  rw[ba,<-nX]at this
  rw[gl (fun c=>Vl.r (.p x c)) l hlt]
  exact this
theorem Im(s s2:List UInt8)(ta:ByteArray)(tp:AV)(ht:LK.sl.has tp)(va:ByteArray)(vp:AV)(hp:LK.sl.has vp)(l:List Hl)(hl:l.length<=1000000):∀(k i:Nat) (out:List Hl),i+k=l.length->out.length+k<=1000000 ->
 G2 [.v (.string (mk s)),.v (.string (mk s2)),.sl (lN l),.v (.int .i64 (i:Int))] [.cells [.v (.string ta),tp],.cells [.v (.string va),vp],.vec 4 (lN out)] (gX 1 [.v (.string (mk s)),.v (.string (mk s2))] [.cells [.v (.string ta),tp],.cells [.v (.string va),vp],.vec 4 (lN (out++ji (fun c=>Vl.f (.l c)) (l.drop i)))])
 |
  0,i,out,hi,ho=>by
  refine Il _ _ _ _ _ _ _ _ _ ?_
  have:i=l.length:=by omega
  subst this
  simp only[FE,↓zq,zs,ac,fk,ht,a7,ac,hp]
  exact⟨fun h=>by omega,fun _=>by simp[gX,ji]⟩
 |
  k+1,i,out,hi,ho=>by
  have hlt:i<l.length:=by omega
  refine Il _ _ _ _ _ _ _ _ _ ?_
  simp only[FE,↓zq,zs,ac,zt,fk,gx hlt,kE,aR,gx,ht,a7,ac,hp]
  refine⟨fun _=>?_,fun h=>by omega⟩
  repeat refine⟨by omega,?_⟩
  refine ah (zw _ _) ?_
  simp only[↓zq,zs,ac,aR]
  repeat refine⟨by omega,?_⟩
  refine ah (zw [102] (E.list [.atom [108],(l[i]).1.cE])) ?_
  simp only[↓zq,zs,ac,aR]
  repeat refine⟨by omega,?_⟩
  refine⟨⟨yl _ _ _ _,by omega⟩,?_⟩
  rw[bq i (by omega)]
  have:=Im s s2 ta tp ht va vp hp l hl k (i+1) (out++[((fun c=>Vl.f (.l c)) (l[i]).1,(l[i]).2)]) (by omega) (by simp;omega)
  rw[ba,<-nX]at this
  rw[gl (fun c=>Vl.f (.l c)) l hlt]
  exact this
theorem I8(s:List UInt8)(L:AV)(q:Nat)(kc:Vl)(kv:Vl)(hL:LK.sl.has L)(hq:q<L.aS.length)(hg:L.aS.getD q []=[.v (.string (mk kc.cE.at)),kc.cE.sp,.v (.string (mk kv.cE.at)),kv.cE.sp])(ta:ByteArray)(tp:AV)(ht:LK.sl.has tp)(l:List Hl)(hl:l.length<=1000000):∀(k i:Nat) (out:List Hl),i+k=l.length->out.length+k<=1000000 ->
 EZ [.v (.string (mk s)),L,.v (.int .i64 (q:Int)),.sl (lN l),.v (.int .i64 (i:Int))] [.cells [.v (.string ta),tp],.vec 4 (lN out)] (gX 1 [.v (.string (mk s)),L,.v (.int .i64 (q:Int))] [.cells [.v (.string ta),tp],.vec 4 (lN (out++ji (fun c=>Vl.f (.r (.p kc c))) (l.drop i)))])
 |
  0,i,out,hi,ho=>by
  refine Lq _ _ _ _ _ _ _ _ ?_
  have:i=l.length:=by omega
  subst this
  simp only[Fp,↓zq,zs,ac,fk,ht,a7,ac,hL]
  exact⟨fun h=>by omega,fun _=>by simp[gX,ji]⟩
 |
  k+1,i,out,hi,ho=>by
  have hlt:i<l.length:=by omega
  refine Lq _ _ _ _ _ _ _ _ ?_
  simp only[Fp,↓zq,zs,ac,zt,fk,gx hlt,kE,aR,gx,ht,a7,ac,hL,hg]
  refine⟨fun _=>?_,fun h=>by omega⟩
  repeat refine⟨by omega,?_⟩
  refine ah (xQ _ _ _) ?_
  simp only[↓zq,zs,ac,aR]
  repeat refine⟨by omega,?_⟩
  refine ah (zw [114] (E.list [.atom [112],kc.cE,(l[i]).1.cE])) ?_
  simp only[↓zq,zs,ac,aR]
  repeat refine⟨by omega,?_⟩
  refine ah (zw [102] (E.list [.atom [114],E.list [.atom [112],kc.cE,(l[i]).1.cE]])) ?_
  simp only[↓zq,zs,ac,aR]
  repeat refine⟨by omega,?_⟩
  refine⟨⟨yl _ _ _ _,by omega⟩,?_⟩
  rw[bq i (by omega)]
  have:=I8 s L q kc kv hL hq hg ta tp ht l hl k (i+1) (out++[((fun c=>Vl.f (.r (.p kc c))) (l[i]).1,(l[i]).2)]) (by omega) (by simp;omega)
  rw[ba,<-nX]at this
  rw[gl (fun c=>Vl.f (.r (.p kc c))) l hlt]
  exact this
theorem H8(s:List UInt8)(te:E)(a:Ty)(tg:Tg)(l:List Hl)(hl:l.length<=1000000)(ih:∀h,h∈l->an Tryz.prog 92 [.agg [.v (.string (mk te.at)),te.sp],.v (.string (mk s)),.agg [.v (.string (mk h.2.cE.at)),h.2.cE.sp]] [] (bB (.sl (lN (cb (.rc a) tg h.2))))) :
 ∀(k i:Nat) (out:List Hl),i+k=l.length->(out++(l.drop i).flatMap (zr a tg)).length<=1000000 ->
 Gj [.v (.string (mk s)),.sl (lN l),.v (.int .i64 (i:Int))] [.cells [.v (.string (mk te.at)),te.sp],.vec 4 (lN out)] (gX 1 [] [.vec 4 (lN (out++(l.drop i).flatMap (zr a tg)))])
 |
  0,i,out,hi,ho=>by
  refine Jf _ _ _ _ _ _ ?_
  have:i=l.length:=by omega
  subst this
  simp only[GA,↓zq,zs,ac,fk,a7,ac]
  exact⟨fun h=>by omega,fun _=>by simp[gX]⟩
 |
  k+1,i,out,hi,ho=>by
  have hlt:i<l.length:=by omega
  have hd:(l.drop i).flatMap (zr a tg)=zr a tg (l[i])++(l.drop (i+1)).flatMap (zr a tg):=by rw[aL hlt,List.flatMap_cons]
  rw[hd]at ho |-
  refine Jf _ _ _ _ _ _ ?_
  simp only[GA,↓zq,zs,ac,zt,fk,gx hlt,kE,aR,a7,ac]
  refine⟨fun _=>?_,fun h=>by omega⟩
  repeat refine⟨by omega,?_⟩
  refine ah (ih _ (AW l hlt)) ?_
  simp only[↓zq,zs,ac]
  have hb:out.length+(cb (.rc a) tg (l[i]).2).length<=1000000:=by
   simp only[ax,fJ]at ho;omega
  have h5:=I8 s (.sl (lN l)) i (l[i]).1 (l[i]).2 ((cc _).mpr trivial) (by rw[fS,fk];omega) (by rw[fS,gx hlt]) (mk te.at) te.sp ((a7 _).mpr trivial) (cb (.rc a) tg (l[i]).2) (by omega) (cb (.rc a) tg (l[i]).2).length 0 out (by omega) (by omega)
  rw[a6]at h5
  refine cq h5 ?_
  simp only[↓zq,zs,ac,a7,ac]
  repeat refine⟨by omega,?_⟩
  rw[bq i (by omega),<-ba]
  exact H8 s te a tg l hl ih k (i+1) _ (by omega) (by rw[ba];exact ho)
end Go.Proofs.Trees
namespace Go.Proofs.Trees
open Go Go.VL Go.RowKit
def kids(a:Ty):Vl->List Hl
 | .f w=>cb a (.bd 0) w
 |_=>[]
theorem se(a:Ty)(v:Vl):ku (kids a v)+1<=v.nodes:=by
 cases v with
 |f w=>have:=qy a (.bd 0) w;simp only[kids,Vl.nodes];omega
 |_=>simp only[kids,ku,Vl.nodes,List.map_nil,List.sum_nil];omega
theorem xV{a:Ty}{v:Vl}{h:Hl}(hh:h∈kids a v):h.2.nodes<v.nodes:=by
 cases v with
 |f w=>have:=(iq hh).1;simp only[Vl.nodes];omega
 |_=>cases hh
theorem ou{n:Nat}{a:Ty}{v:Vl}{h:Hl}(hv:v.iA n)(hh:h∈kids a v):h.1.iA n/\h.2.iA n:=by
 cases v with
 |f w=>exact gM n _ _ _ w h hv hh
 |_=>cases hh
end Go.Proofs.Trees
namespace Go.Proofs.Trees
open Go Go.VL
mutual
def E.pr:E->Prop
 | .atom s=>s≠[]/\s.all eM=true
 | .list l=>l≠[]/\E.AE l
def E.AE:List E->Prop
 |[]=>True
 |e::l=>e.pr/\E.AE l
end
mutual
def E.dp:E->Nat
 | .atom _=>0
 | .list l=>1+E.uf l
def E.uf:List E->Nat
 |[]=>0
 |e::l=>max e.dp (E.uf l)
end
def Iq(r:List UInt8):Prop:=∀c t,r=c::t->eM c=false
theorem ub:Iq []:=by intro c t h;cases h
theorem AM{s r:List UInt8}(hs:s.all eM=true)(hr:Iq r):(s++r).takeWhile eM=s/\(s++r).dropWhile eM=r:=by
 induction s with
 |
  nil =>
  cases r with
  |nil=>exact⟨rfl,rfl⟩
  |cons c t=>have:=hr c t rfl;simp[List.takeWhile,List.dropWhile,this]
 |
  cons c s ih =>
  simp only[cW,ap]at hs
  have:=ih hs.2
  simp[List.takeWhile,List.dropWhile,hs.1,this.1,this.2]
theorem vx(l:List E)(r:List UInt8):Iq (ei l++41::r):=by
 intro c t h
 cases l with
 |nil=>simp only[ei,aO,List.cons.injEq]at h;rw[<-h.1];decide
 |cons e l=>simp only[ei,a8,List.cons.injEq]at h;rw[<-h.1];decide
theorem zH{f:List UInt8->Option (E×List UInt8)}(r:List UInt8):∀(l:List E) (e:E) (acc:List E) (n:Nat),l.length<n->(∀x,x=e\/x∈l->∀r,Iq r->f (fN x++r)=some (x,r)) ->
 rG f n (fN e++(ei l++41::r)) acc=some (.list (acc++e::l),r)
 |l,e,acc,0,hn,hf=>by omega
 |
  [],e,acc,n+1,hn,hf=>by
  simp only[rG]
  rw[hf e (.inl rfl) _ (vx [] r)]
  simp[ei]
 |
  x::l,e,acc,n+1,hn,hf=>by
  simp only[rG]
  rw[hf e (.inl rfl) _ (vx (x::l) r)]
  simp only[aB]at hn
  have ih:=zH r l x (acc++[e]) n (by omega) (fun y hy=>hf y (.inr (by cases hy with|inl h=>rw[h];exact aj|inr h=>exact ak _ h)))
  simp only[ba,a8,aO]at ih
  simp only[ei,a8,ba]
  simp[ih]
theorem CE{l:List E}{k:Nat}:E.AE l->E.uf l<=k->∀x,x∈l->x.pr/\x.dp<=k:=by
 induction l with
 |nil=>intro _ _ x h;cases h
 |
  cons e l ih =>
  intro h hd x hx
  simp only[E.AE,E.uf]at h hd
  cases hx with
  |head=>exact⟨h.1,by omega⟩
  |tail _ hx=>exact ih h.2 (by omega) x hx
theorem xm:∀(k:Nat) (e:E) (r:List UInt8),e.pr->e.dp<=k->Iq r->rd k (fN e++r)=some (e,r)
 |
  0,.atom s,r,hp,hd,hr=>by
  have h:=AM hp.2 hr
  simp only[fN,rd,h.1,h.2,hp.1,if_false]
 |
  k+1,.atom s,r,hp,hd,hr=>by
  have h:=AM hp.2 hr
  simp only[fN,rd,h.1,h.2,hp.1,if_false]
 |0,.list l,r,hp,hd,hr=>by simp only[E.dp]at hd;omega
 |k+1,.list [],r,hp,hd,hr=>by exact absurd rfl hp.1
 |
  k+1,.list (e::l),r,hp,hd,hr=>by
  have hs:eM 40=false:=by decide
  simp only[E.dp,E.pr]at hd hp
  have hm:=CE (k:=k) hp.2 (by omega)
  have:=zH (f:=rd k) r l e [] ((fN e++(ei l++41::r)).length+1) (by have:=ry l;simp only[ax,aB];omega)
   (fun x hx r hr=>xm k x r (hm x (by cases hx with|inl h=>rw[h];exact aj|inr h=>exact ak _ h)).1 (hm x (by cases hx with|inl h=>rw[h];exact aj|inr h=>exact ak _ h)).2 hr)
  simp only[fN,a8,ba,aO]at *
  simp only[rd,List.takeWhile,hs,if_true]
  simpa using this
theorem Bl{e e':E}(h:e.pr)(h':e'.pr)(ht:fN e=fN e'):e=e':=by
 have a:=xm (max e.dp e'.dp) e [] h (by omega) ub
 have b:=xm (max e.dp e'.dp) e' [] h' (by omega) ub
 rw[ht,b]at a;cases a;rfl
theorem Ei{e:E}(h:e.pr)(hd:e.dp<=300)(hl:(fN e).length<=8000):qk (fN e)=some e:=by
 have:=xm 300 e [] h hd ub
 rw[cL]at this
 rw[qk,this];simp;omega
theorem AK(s:List UInt8):(s.takeWhile eM).all eM=true:=by
 induction s with
 |nil=>rfl
 |cons c s ih =>
  cases h:eM c
  ·simp[List.takeWhile,h]
  ·simp only[List.takeWhile,h,cW,ih];rfl
theorem BK(l r:List E):E.AE (l++r)↔E.AE l/\E.AE r:=by
 induction l with
 |nil=>simp[E.AE]
 |cons e l ih=>simp[E.AE,ih,and_assoc]
theorem CC(l r:List E):E.uf (l++r)=max (E.uf l) (E.uf r):=by
 induction l with
 |nil=>simp[E.uf]
 |cons e l ih=>simp[E.uf,ih,Nat.max_assoc]
theorem xd{k:Nat}{f:List UInt8->Option (E×List UInt8)}(hf:∀s e r,f s=some (e,r)->s=fN e++r/\e.pr/\e.dp<=k):∀(n:Nat) (s:List UInt8) (acc:List E) (e:E) (r:List UInt8),rG f n s acc=some (e,r)->E.AE acc->E.uf acc<=k ->
 ∃l,e=.list (acc++l)/\l≠[]/\32::s=ei l++41::r/\E.AE l/\E.uf l<=k
 |0,s,acc,e,r,h,hp,hd=>by cases h
 |
  n+1,s,acc,e,r,h,hp,hd=>by
  simp only[rG]at h
  split at h
  ·rename_i p c r' hs
   obtain⟨h1,h2,h3⟩:=hf _ _ _ hs
   split at h
   ·rename_i hc
    have hc:c=41:=dN.mp hc
    cases h
    exact⟨[p],rfl,by simp,by simp[ei,h1,hc],⟨h2,trivial⟩,by simp[E.uf];omega⟩
   ·split at h
    ·rename_i hc
     have hc:c=32:=dN.mp hc
     obtain⟨l,g1,g2,g3,g4,g5⟩:=xd hf n _ _ _ _ h ((BK _ _).mpr ⟨hp,h2,trivial⟩) (by rw[CC];simp[E.uf];omega)
     refine⟨p::l,by simpa using g1,by simp,?_,⟨h2,g4⟩,by simp only[E.uf];omega⟩
     rw[h1,hc,g3];simp[ei]
    ·cases h
  ·cases h
theorem Ba:∀(k:Nat) (s:List UInt8) (e:E) (r:List UInt8),rd k s=some (e,r)->s=fN e++r/\e.pr/\e.dp<=k
 |
  0,s,e,r,h=>by
  simp only[rd]at h
  split at h
  ·cases h
  ·rename_i hs;cases h
   exact⟨(bZ).symm,⟨hs,AK s⟩,aq _⟩
 |
  k+1,s,e,r,h=>by
  simp only[rd]at h
  split at h
  ·split at h
   ·rename_i c r' _
    split at h
    ·rename_i hc
     have hc:c=40:=dN.mp hc
     obtain⟨l,g1,g2,g3,g4,g5⟩:=xd (k:=k) (fun s e r h=>Ba k s e r h) _ _ _ _ _ h trivial (Nat.zero_le _)
     simp only[aO]at g1
     subst g1;subst hc
     refine⟨?_,⟨g2,g4⟩,by simp only[E.dp];omega⟩
     cases l with
     |nil=>exact absurd rfl g2
     |
      cons x l =>
      simp only[ei,a8,ba,List.cons.injEq,true_and]at g3
      rw[g3];simp[fN]
    ·cases h
   ·cases h
  ·rename_i hs;cases h
   exact⟨(bZ).symm,⟨hs,AK s⟩,by simp[E.dp]⟩
theorem xX{s:List UInt8}{e:E}(h:qk s=some e):s=fN e/\e.pr/\e.dp<=300/\s.length<=8000:=by
 unfold qk at h
 split at h
 ·cases h
 ·rename_i hl
  split at h
  ·rename_i e' hr
   cases h
   have:=Ba _ _ _ _ hr
   exact⟨by simpa using this.1,this.2.1,this.2.2,by omega⟩
  ·cases h
theorem BE{k:Nat}(h:k<10):eM (bi (48+k))=true:=by
 have:∀k:Fin 10,eM (bi (48+k.val))=true:=by decide
 exact this ⟨k,h⟩
theorem vD:∀(n k:Nat),k<n->(dd k).all eM=true
 |0,k,h=>by omega
 |
  n+1,k,h=>by
  by_cases hk:k<10
  ·rw[eH hk,cW,BE hk];rfl
  ·rw[fI hk]
   have:=vD n (k/10) (by omega)
   rw[List.all_append,this,cW,BE (Nat.mod_lt k (by omega:0<10))];rfl
theorem Fg(k:Nat):(E.atom (vF k)).pr:=⟨by simp,by have:=vD (k+1) k (by omega);simp only[vF,cW,this];decide⟩
theorem mj:∀v:Vl,v.cE.pr
 | .u=>⟨by simp,by decide⟩
 | .el k=>Fg k
 | .l v=>⟨by simp,⟨by simp,by decide⟩,mj v,trivial⟩
 | .r v=>⟨by simp,⟨by simp,by decide⟩,mj v,trivial⟩
 | .f v=>⟨by simp,⟨by simp,by decide⟩,mj v,trivial⟩
 | .p a b=>⟨by simp,⟨by simp,by decide⟩,mj a,mj b,trivial⟩
theorem oT:∀v:Vl,v.cE.dp<v.nodes+1
 | .u=>by simp[Vl.cE,E.dp,Vl.nodes]
 | .el k=>by simp[Vl.cE,E.dp,Vl.nodes]
 | .l v=>by have:=oT v;simp only[Vl.cE,E.dp,E.uf,Vl.nodes]at *;omega
 | .r v=>by have:=oT v;simp only[Vl.cE,E.dp,E.uf,Vl.nodes]at *;omega
 | .f v=>by have:=oT v;simp only[Vl.cE,E.dp,E.uf,Vl.nodes]at *;omega
 | .p a b=>by have:=oT a;have:=oT b;simp only[Vl.cE,E.dp,E.uf,Vl.nodes]at *;omega
theorem CI(k:Nat)(h:k<100):(dd k).length<=2:=by
 by_cases hk:k<10
 ·rw[eH hk];simp
 ·rw[fI hk,eH (by omega:k/10<10)];simp
theorem kw:∀v:Vl,v.iA 100->v.cN.length<=5*v.nodes
 | .u,_=>by simp[Vl.cN,Vl.cE,fN,Vl.nodes]
 |
  .el k,h=>by
  have:=CI k h
  simp only[Vl.cN,Vl.cE,fN,Vl.nodes,aB];omega
 | .l v,h=>by have:=kw v h;simp only[Vl.cN,Vl.cE,fN,ei,Vl.nodes,aB,ax,aJ]at this |-;omega
 | .r v,h=>by have:=kw v h;simp only[Vl.cN,Vl.cE,fN,ei,Vl.nodes,aB,ax,aJ]at this |-;omega
 | .f v,h=>by have:=kw v h;simp only[Vl.cN,Vl.cE,fN,ei,Vl.nodes,aB,ax,aJ]at this |-;omega
 | .p a b,h=>by have:=kw a h.1;have:=kw b h.2;simp only[Vl.cN,Vl.cE,fN,ei,Vl.nodes,aB,ax,aJ]at *;omega
theorem FV(k:Nat):vF k≠[117]:=by simp[vF]
theorem jZ:∀v:Vl,v.iA 100->fC v.cE=some v
 | .u,_=>by simp[Vl.cE,fC]
 | .el k,h=>by simp only[Vl.cE,fC,FV,if_false,uL k h]
 | .l v,h=>by simp only[Vl.cE,fC,jZ v h,E.at];simp
 | .r v,h=>by simp only[Vl.cE,fC,jZ v h,E.at];simp
 | .f v,h=>by simp only[Vl.cE,fC,jZ v h,E.at];simp
 | .p a b,h=>by simp only[Vl.cE,fC,jZ a h.1,jZ b h.2,E.at];simp
theorem p5{v:Vl}(h:v.iA 100)(hn:v.nodes<=200):rI v.cN=some v:=by
 have hd:=oT v
 have hl:=kw v h
 rw[rI,Ei (mj v) (by omega) (by show v.cN.length<=8000;omega)]
 simp only[jZ v h]
 rw[if_neg (by omega)]
theorem xH{v w:Vl}(h:v.iA 100)(h':w.iA 100)(ht:v.cN=w.cN):v=w:=by
 have:=Bl (mj v) (mj w) ht
 have a:=jZ v h
 rw[this,jZ w h']at a;cases a;rfl
theorem qf{s:List UInt8}{v:Vl}(h:rI s=some v):s=v.cN:=(xX (kZ h).1).1
end Go.Proofs.Trees
namespace Go.Proofs.Trees
open Go Go.VL Go.RowKit
theorem bR(l:List E):(E.list l).at=[]:=rfl
def dz:Ty->Vl->Vl->Vl
 | .plus a _,.l c,v=>.l (dz a c v)
 | .plus _ b,.r c,v=>.r (dz b c v)
 | .times a _,.l (.p x y),v=>.p (dz a x v) y
 | .times _ b,.r (.p x y),v=>.p x (dz b y v)
 | .rc a,.f (.l x),v=>.f (dz a x v)
 | .rc a,.f (.r (.p x y)),v=>.f (dz a x (dz (.rc a) y v))
 |_,_,v=>v
def dH:Ty->Vl->Bool
 | .plus a _,.l c=>dH a c
 | .plus _ b,.r c=>dH b c
 | .times a _,.l (.p x _)=>dH a x
 | .times _ b,.r (.p _ y)=>dH b y
 | .rc a,.f (.l x)=>dH a x
 | .rc a,.f (.r (.p x y))=>dH a x&&dH (.rc a) y
 | .plus _ _,_=>false
 | .times _ _,_=>false
 | .rc _,_=>false
 |_,_=>true
theorem ss(c v:Vl):dz .zero c v=v:=by cases c<;>rfl
theorem vr(c v:Vl):dz .one c v=v:=by cases c<;>rfl
theorem mN(s:List UInt8)(c v:Vl):dz (.name s) c v=v:=by cases c<;>rfl
theorem qG(u:Nat)(c v:Vl):dz (.bN u) c v=v:=by cases c<;>rfl
theorem u4{a b:Ty}{c:Vl}(h:dH (.plus a b) c=true):(∃x,c=.l x/\dH a x=true)\/∃x,c=.r x/\dH b x=true:=by
 cases c<;>simp[dH]at h<;>simp[h]
theorem si{a b:Ty}{c:Vl}(h:dH (.times a b) c=true):(∃x y,c=.l (.p x y)/\dH a x=true)\/∃x y,c=.r (.p x y)/\dH b y=true:=by
 cases c with
 |l c=>cases c<;>simp[dH]at h<;>simp[h]
 |r c=>cases c<;>simp[dH]at h<;>exact .inr ⟨_,_,rfl,h⟩
 |_=>simp[dH]at h
theorem Be{a:Ty}{c:Vl}(h:dH (.rc a) c=true):(∃x,c=.f (.l x)/\dH a x=true)\/∃x y,c=.f (.r (.p x y))/\dH a x=true/\dH (.rc a) y=true:=by
 cases c with
 |
  f c =>
  cases c with
  |l c=>simp[dH]at h;simp[h]
  |r c=>cases c<;>simp[dH]at h<;>exact .inr ⟨_,_,rfl,h⟩
  |_=>simp[dH]at h
 |_=>simp[dH]at h
theorem rb(t:Ty)(c v:Vl):(dz t c v).nodes<=c.nodes+v.nodes:=by
 induction t,c,v using dz.induct<;>simp only[dz,Vl.nodes]at*<;> omega
theorem rn(m:Nat)(t:Ty)(c v:Vl):c.iA m->v.iA m->(dz t c v).iA m:=by
 induction t,c,v using dz.induct with
 |case1 a b c v ih=>exact fun h h'=>ih h h'
 |case2 a b c v ih=>exact fun h h'=>ih h h'
 |case3 a b x y v ih=>exact fun h h'=>⟨ih h.1 h',h.2⟩
 |case4 a b x y v ih=>exact fun h h'=>⟨h.1,ih h.2 h'⟩
 |case5 a x v ih=>exact fun h h'=>ih h h'
 |case6 a x y v ih1 ih2=>exact fun h h'=>ih2 h.1 (ih1 h.2 h')
 |case7=>intro h h';simpa only[dz]using h'
def Nc:Hl:=(.u,.u)
end Go.Proofs.Trees
namespace Go.Proofs.Trees
open Go Go.VL Go.RowKit
theorem p7(s:Nm)(a b:E):an Tryz.prog 121 [.agg [.v (.string (mk [])),(E.list [.atom s,a,b]).sp]] [] (bB (.v (.string (mk s)))):=ui (.atom s) [a,b]
theorem Cd{e:E}(h:Wf e):∀(bd l:List Nm) (a:AV),cI a bd->bd.length+l.length+e.sz<100000->an Tryz.prog 137 [.agg [.v (.string (mk e.at)),e.sp],a,.vec 0] [.vec 1 (bT l)] (dh (.vec 1) [.dead,.vec 1 (bT (kb e bd l))]):=by
 induction h with
 |
  @atom s hs =>
  intro bd l a ha hl
  simp only[E.sz]at hl
  refine yV _ _ _ _ ((a7 _).mpr trivial) ha.1 ?_
  have hll:(bT l).length=l.length:=by simp[bT]
  simp only[GL,ej,↓zq,zs,ac,zt,dh,kb]
  refine⟨fun _=>⟨fun h=>?_,fun h=>⟨fun h1=>?_,fun h1=>?_⟩⟩,fun h=>absurd h hs⟩
  ·rw[if_pos (.inl h)]
  ·rw[if_pos (.inr (.inl h1))]
  ·refine ah (zn bd a ha s (by omega)) ?_
   simp only[↓zq,zs,ac]
   refine⟨fun h2=>?_,fun h2=>ah (zn l _ (.of l) s (by omega)) ?_⟩
   ·rw[if_pos (.inr (.inr (.inl h2)))]
   ·simp only[↓zq,zs,ac]
    refine⟨fun h3=>?_,fun h3=>⟨⟨fun c hc=>(by simp at hc;rw[hc];rfl),by omega⟩,?_⟩⟩
    ·rw[if_pos (.inr (.inr (.inr h3)))]
    ·rw[wm,if_neg]
     rintro(q|q|q|q)
     ·exact h q
     ·exact h1 q
     ·exact h2 q
     ·exact h3 q
 |
  @plus x y hx hy i1 i2 =>
  intro bd l a ha hl
  simp only[E.sz,E.jM]at hl
  have hfl:=fX x bd l
  refine yV _ _ _ _ ((a7 _).mpr trivial) ha.1 ?_
  have hP:=P3.of (.atom [43]) x y
  simp only[GL,bR,toNat_one,bj,↓zq,zs,ac,zt,hP.1,hP.2.1,hP.2.2.1,hP.2.2.2,aR,dh]
  refine⟨fun h=>absurd rfl h,fun _=>?_⟩
  refine ah (p7 [43] x y) ?_
  simp only[↓zq,zs,ac,zt]
  refine⟨fun h=>by simp at h,fun _=>?_⟩
  repeat refine⟨by omega,?_⟩
  refine aX (i1 bd l a ha (by omega)) ?_
  simp only[↓zq,zs,ac,zt,aU,bE,Ob.es]
  repeat refine⟨by omega,?_⟩
  refine aX (i2 bd (kb x bd l) a ha (by omega)) ?_
  simp only[↓zq,zs,ac,zt,aU,bE,Ob.es]
  rw[kb,if_neg (by decide)]
 |
  @times x y hx hy i1 i2 =>
  intro bd l a ha hl
  simp only[E.sz,E.jM]at hl
  have hfl:=fX x bd l
  refine yV _ _ _ _ ((a7 _).mpr trivial) ha.1 ?_
  have hP:=P3.of (.atom [42]) x y
  simp only[GL,bR,toNat_one,bj,↓zq,zs,ac,zt,hP.1,hP.2.1,hP.2.2.1,hP.2.2.2,aR,dh]
  refine⟨fun h=>absurd rfl h,fun _=>?_⟩
  refine ah (p7 [42] x y) ?_
  simp only[↓zq,zs,ac,zt]
  refine⟨fun h=>by simp at h,fun _=>?_⟩
  repeat refine⟨by omega,?_⟩
  refine aX (i1 bd l a ha (by omega)) ?_
  simp only[↓zq,zs,ac,zt,aU,bE,Ob.es]
  repeat refine⟨by omega,?_⟩
  refine aX (i2 bd (kb x bd l) a ha (by omega)) ?_
  simp only[↓zq,zs,ac,zt,aU,bE,Ob.es]
  rw[kb,if_neg (by decide)]
 |
  @rc n y hn hy i =>
  intro bd l a ha hl
  simp only[E.sz,E.jM]at hl
  refine yV _ _ _ _ ((a7 _).mpr trivial) ha.1 ?_
  have hP:=P3.of (.atom dW) (.atom n) y
  simp only[GL,bR,toNat_one,bj,↓zq,zs,ac,zt,hP.1,hP.2.1,hP.2.2.1,hP.2.2.2,aR,dh]
  refine⟨fun h=>absurd rfl h,fun _=>?_⟩
  refine ah (p7 dW (.atom n) y) ?_
  simp only[↓zq,zs,ac,zt]
  refine⟨fun _=>?_,fun h=>absurd rfl h⟩
  repeat refine⟨by omega,?_⟩
  refine ah (Dl bd a ha n (by omega)) ?_
  simp only[↓zq,zs,ac]
  refine aX (i (bd++[n]) l _ (.of _) (by simp;omega)) ?_
  simp only[↓zq,zs,ac,aU,bE,Ob.es]
  rw[kb,if_pos (ej _)];rfl
theorem N8(x:Nm)(u:E){e:E}(h:Wf e):an Tryz.prog 192 [.agg [.v (.string (mk e.at)),e.sp],.v (.string (mk x)),.agg [.v (.string (mk u.at)),u.sp]] [] (bB (.agg [.v (.string (mk (qu x u e).at)),(qu x u e).sp])):=by
 induction h with
 |
  @atom s hs =>
  refine BS _ _ _ _ _ ((a7 _).mpr trivial) ((a7 _).mpr trivial) ?_
  simp only[A8,ej,↓zq,zs,ac,zt,bB,qu]
  refine⟨fun _=>⟨fun h=>?_,fun h=>?_⟩,fun h=>absurd h hs⟩
  ·rw[if_pos h]
  ·rw[if_neg h];rfl
 |
  @plus a b ha hb i1 i2 =>
  refine BS _ _ _ _ _ ((a7 _).mpr trivial) ((a7 _).mpr trivial) ?_
  have hP:=P3.of (.atom [43]) a b
  simp only[A8,bR,toNat_one,bj,↓zq,zs,ac,zt,hP.1,hP.2.1,hP.2.2.1,hP.2.2.2,aR]
  refine⟨fun h=>absurd rfl h,fun _=>?_⟩
  refine ah (p7 [43] a b) ?_
  simp only[↓zq,zs,ac,zt]
  refine⟨fun h=>by simp at h,fun _=>?_⟩
  refine ah (p7 [43] a b) ?_
  simp only[↓zq,zs,ac,zt]
  repeat refine⟨by omega,?_⟩
  refine ah i1 ?_
  simp only[↓zq,zs,ac,zt,aR]
  repeat refine⟨by omega,?_⟩
  refine ah i2 ?_
  simp only[↓zq,zs,ac,zt,aR]
  repeat refine⟨by omega,?_⟩
  refine ah (xQ _ _ _) ?_
  simp only[↓zq,zs,ac,zt,aR,vu,bR]
  repeat refine⟨by omega,?_⟩
  exact⟨rfl,rfl⟩
 |
  @times a b ha hb i1 i2 =>
  refine BS _ _ _ _ _ ((a7 _).mpr trivial) ((a7 _).mpr trivial) ?_
  have hP:=P3.of (.atom [42]) a b
  simp only[A8,bR,toNat_one,bj,↓zq,zs,ac,zt,hP.1,hP.2.1,hP.2.2.1,hP.2.2.2,aR]
  refine⟨fun h=>absurd rfl h,fun _=>?_⟩
  refine ah (p7 [42] a b) ?_
  simp only[↓zq,zs,ac,zt]
  refine⟨fun h=>by simp at h,fun _=>?_⟩
  refine ah (p7 [42] a b) ?_
  simp only[↓zq,zs,ac,zt]
  repeat refine⟨by omega,?_⟩
  refine ah i1 ?_
  simp only[↓zq,zs,ac,zt,aR]
  repeat refine⟨by omega,?_⟩
  refine ah i2 ?_
  simp only[↓zq,zs,ac,zt,aR]
  repeat refine⟨by omega,?_⟩
  refine ah (xQ _ _ _) ?_
  simp only[↓zq,zs,ac,zt,aR,sQ,bR]
  repeat refine⟨by omega,?_⟩
  exact⟨rfl,rfl⟩
 |
  @rc n b hn hb i =>
  refine BS _ _ _ _ _ ((a7 _).mpr trivial) ((a7 _).mpr trivial) ?_
  have hP:=P3.of (.atom dW) (.atom n) b
  simp only[A8,bR,toNat_one,bj,↓zq,zs,ac,zt,hP.1,hP.2.1,hP.2.2.1,hP.2.2.2,aR]
  refine⟨fun h=>absurd rfl h,fun _=>?_⟩
  refine ah (p7 dW (.atom n) b) ?_
  simp only[↓zq,zs,ac,zt]
  refine⟨fun _=>?_,fun h=>absurd rfl h⟩
  repeat refine⟨by omega,?_⟩
  rw[Ac]
  refine⟨fun h=>?_,fun h=>?_⟩
  ·have hh:n=x:=h
   rw[if_pos hh];exact⟨rfl,rfl⟩
  ·have hh:¬n=x:=h
   rw[if_neg hh]
   repeat refine⟨by omega,?_⟩
   refine ah i ?_
   simp only[↓zq,zs,ac,zt,aR]
   repeat refine⟨by omega,?_⟩
   refine ah (xQ dW (.atom n) (qu x u b)) ?_
   simp only[↓zq,zs,ac,zt,aR,bR]
   repeat refine⟨by omega,?_⟩
   exact⟨rfl,rfl⟩
theorem qC(x:Nm){e:E}(h:Wf e):mP x e<=e.dy:=by
 induction h with
 |atom hs=>simp only[mP,E.dy];split<;>omega
 |plus ha hb i1 i2=>rw[rl];simp only[E.dy,E.fF];omega
 |times ha hb i1 i2=>rw[pe];simp only[E.dy,E.fF];omega
 |rc hn hb i=>rw[wg];simp only[E.dy,E.fF];split<;>omega
theorem N4(x:Nm){e:E}(h:Wf e):e.dy<1000000->an Tryz.prog 191 [.agg [.v (.string (mk e.at)),e.sp],.v (.string (mk x))] [] (bB (.v (.int .i64 (mP x e:Int)))):=by
 induction h with
 |
  @atom s hs =>
  intro hl
  refine Cy _ _ _ ((a7 _).mpr trivial) ?_
  simp only[BA,ej,↓zq,zs,ac,zt,bB,mP]
  refine⟨fun _=>⟨fun h=>?_,fun h=>?_⟩,fun h=>absurd h hs⟩
  ·rw[if_pos h];rfl
  ·rw[if_neg h];rfl
 |
  @plus a b ha hb i1 i2 =>
  intro hl
  simp only[E.dy,E.fF]at hl
  have u1:=qC x ha
  have u2:=qC x hb
  refine Cy _ _ _ ((a7 _).mpr trivial) ?_
  have hP:=P3.of (.atom [43]) a b
  simp only[BA,bR,toNat_one,bj,↓zq,zs,ac,zt,hP.1,hP.2.1,hP.2.2.1,hP.2.2.2,aR]
  refine⟨fun h=>absurd rfl h,fun _=>?_⟩
  refine ah (p7 [43] a b) ?_
  simp only[↓zq,zs,ac,zt]
  refine⟨fun h=>by simp at h,fun _=>?_⟩
  repeat refine⟨by omega,?_⟩
  refine ah (i1 (by omega)) ?_
  simp only[↓zq,zs,ac,zt]
  repeat refine⟨by omega,?_⟩
  refine ah (i2 (by omega)) ?_
  simp only[↓zq,zs,ac,zt]
  rw[rl,wrap64 _ (by omega) (by omega)]
  exact⟨by simp,rfl⟩
 |
  @times a b ha hb i1 i2 =>
  intro hl
  simp only[E.dy,E.fF]at hl
  have u1:=qC x ha
  have u2:=qC x hb
  refine Cy _ _ _ ((a7 _).mpr trivial) ?_
  have hP:=P3.of (.atom [42]) a b
  simp only[BA,bR,toNat_one,bj,↓zq,zs,ac,zt,hP.1,hP.2.1,hP.2.2.1,hP.2.2.2,aR]
  refine⟨fun h=>absurd rfl h,fun _=>?_⟩
  refine ah (p7 [42] a b) ?_
  simp only[↓zq,zs,ac,zt]
  refine⟨fun h=>by simp at h,fun _=>?_⟩
  repeat refine⟨by omega,?_⟩
  refine ah (i1 (by omega)) ?_
  simp only[↓zq,zs,ac,zt]
  repeat refine⟨by omega,?_⟩
  refine ah (i2 (by omega)) ?_
  simp only[↓zq,zs,ac,zt]
  rw[pe,wrap64 _ (by omega) (by omega)]
  exact⟨by simp,rfl⟩
 |
  @rc n b hn hb i =>
  intro hl
  simp only[E.dy,E.fF]at hl
  refine Cy _ _ _ ((a7 _).mpr trivial) ?_
  have hP:=P3.of (.atom dW) (.atom n) b
  simp only[BA,bR,toNat_one,bj,↓zq,zs,ac,zt,hP.1,hP.2.1,hP.2.2.1,hP.2.2.2,aR]
  refine⟨fun h=>absurd rfl h,fun _=>?_⟩
  refine ah (p7 dW (.atom n) b) ?_
  simp only[↓zq,zs,ac,zt]
  refine⟨fun _=>?_,fun h=>absurd rfl h⟩
  repeat refine⟨by omega,?_⟩
  rw[wg]
  refine⟨fun h=>?_,fun h=>?_⟩
  ·have hh:n=x:=h
   rw[if_pos hh];exact⟨rfl,rfl⟩
  ·have hh:¬n=x:=h
   rw[if_neg hh]
   repeat refine⟨by omega,?_⟩
   refine ah (i (by omega)) ?_
   simp only[↓zq,zs,ac,zt]
   exact⟨rfl,rfl⟩
theorem Pd{x:Nm}(hx:rJ x){e u:E}(h:Wf e)(hu:Wf u)(hl:e.dy<=1000)(hlu:u.dy<=1000):an Tryz.prog 171 [.agg [.v (.string (mk e.at)),e.sp],.v (.string (mk x)),.agg [.v (.string (mk u.at)),u.sp]] [] (bB (.v (.bool (decide ((sub x (cO u []) (cO e [])).az<=400))))):=by
 refine Qb _ _ _ _ _ ((a7 _).mpr trivial) ((a7 _).mpr trivial) ?_
 unfold JM
 have a1:=FG e h.ok (by have:=h.sz;omega)
 have a2:=FG u hu.ok (by have:=hu.sz;omega)
 rw[dr]at a1 a2
 have hle:=qC x h
 have hpos:1<=u.dy:=by rw[hu.dy []];exact ef _
 refine ah a1 ?_
 simp only[↓zq,zs,ac,zt]
 refine ah (N4 x h (by omega)) ?_
 simp only[↓zq,zs,ac,zt]
 refine ah a2 ?_
 simp only[↓zq,zs,ac,zt]
 have e1:=dT x (cO u []) (cO e [])
 have e2:=CD hx h []
 rw[if_neg (by simp)]at e2
 rw[e2,<-h.dy [],<-hu.dy []]at e1
 have hm:mP x e*(u.dy-1)<=1000*1000:=Nat.mul_le_mul (by omega) (by omega)
 have e3:(mP x e:Int)*((u.dy:Int)-1)=((mP x e*(u.dy-1):Nat):Int):=by
  rw[Int.natCast_mul];congr 1;omega
 have e4:mP x e*(u.dy-1)+mP x e=mP x e*u.dy:=by
  rw[Nat.mul_sub,dC]
  have:=Nat.le_mul_of_pos_right (mP x e) hpos
  omega
 rw[wrap64 ((u.dy:Int)-1) (by omega) (by omega),e3,wrap64 ((mP x e*(u.dy-1):Nat):Int) (by omega) (by omega),wrap64 _ (by omega) (by omega)]
 refine⟨?_,rfl⟩
 congr 2
 rw[ct,decide_eq_true_eq,decide_eq_true_eq]
 omega
end Go.Proofs.Trees
namespace Go.Proofs.Trees
open Go Go.VL Go.RowKit
abbrev xt:AV:=.v (.slice none 0 0)
abbrev zE:Ob:=.cells [.v (.string (mk [])),xt]
theorem I6(s:Nm)(p a b:AV)(hp:LK.sl.has p)(F fr to:List Nm)(k:Int)(ha:cI a fr)(hb:cI b to)(hft:fr.length=to.length)(hl:fr.length<1000000):∀(i:Nat),i<=fr.length ->
 F8 [a,b,.v (.int .i64 ((i:Int)-1))] [.cells [.v (.string (mk s)),p],zE,.cells [.any,.v (.int .i64 k)],.vec 1 (bT F)]
  (ph (match bH s fr i with|some u=>(2,[],[.cells [.v (.string (mk (gd to u))),xt],.cells [.any,.v (.int .i64 k)],.vec 1 (bT F)])|none=>(1,[],[.cells [.v (.string (mk s)),p],zE,.cells [.any,.v (.int .i64 k)],.vec 1 (bT F)])))
 |
  0,hi=>by
  refine Mo _ _ _ _ _ _ _ _ _ ?_
  simp only[Et,↓zq,zs,ac,ac,hp,bb]
  exact⟨ha.1,hb.1,fun h=>by omega,fun _=>rfl⟩
 |
  i+1,hi=>by
  have hlt:i<fr.length:=by omega
  have hlt':i<to.length:=by omega
  have e1:((i+1:Nat):Int)-1=(i:Int):=by omega
  rw[e1]
  refine Mo _ _ _ _ _ _ _ _ _ ?_
  simp only[Et,↓zq,zs,ac,zt,ac,hp,bb,ha.len,hb.len,ha.idx hlt,hb.idx hlt',cf]
  refine⟨ha.1,hb.1,fun _=>⟨⟨ha.1,by omega,by omega⟩,by omega,fun h=>?_,fun h=>?_⟩,fun h=>by omega⟩
  ·refine⟨⟨hb.1,by omega,by omega⟩,by omega,?_⟩
   have hh:fr.getD i []=s:=h
   simp only[bH,hh,if_true,ph]
   have:gd to (fr.length-1-i)=to.getD i []:=by unfold gd;congr 1;omega
   rw[this]
  ·have hh:¬fr.getD i []=s:=h
   simp only[bH,hh,if_false]
   rw[wrap64 _ (by omega) (by omega)]
   exact I6 s p a b hp F fr to k ha hb hft hl i (by omega)
theorem JZ(a b:AV)(ha:LK.sl.has a)(hb:LK.sl.has b)(F:List Nm)(hF:F.length<100000)(t:ByteArray)(p:AV)(hp:LK.sl.has p):∀(n j:Nat),pG F n j<j+n->j+n<100000000 ->
 GS [a,b,.v (.string (mk (tN j)))] [.cells [.any,.v (.int .i64 (j:Int))],.vec 1 (bT F),.cells [.v (.string t),p],zE] (gX 1 [a,b,.v (.string (mk (tN (pG F n j))))] [.cells [.any,.v (.int .i64 (pG F n j:Int))],.vec 1 (bT F),.cells [.v (.string t),p],zE])
 |0,j,h,_=>by simp only[pG]at h;omega
 |
  n+1,j,h,hj=>by
  refine Qt _ _ _ _ _ _ _ _ _ ?_
  simp only[Ia,↓zq,zs,ac,zt,ac,hp,bb]
  refine⟨ha,hb,?_⟩
  refine ah (zn F _ (.of F) (tN j) (by omega)) ?_
  simp only[↓zq,zs,ac,zt]
  rw[pG]at h |-
  refine⟨fun hm=>?_,fun hm=>?_⟩
  ·rw[if_pos hm]at h |-
   rw[bq j (by omega)]
   refine ah (zS (j+2) (j+1) (by omega) (by omega)) ?_
   have hd:=ml (j+2) (j+1) (by omega)
   simp only[↓zq,zs,ac,zt,a8,aO]
   refine⟨by simp[cG];omega,?_⟩
   exact JZ a b ha hb F hF t p hp n (j+1) (by omega) (by omega)
  ·rw[if_neg hm]
   exact⟨rfl,rfl,rfl⟩
theorem ig(F:List Nm):∀(t:Ty) (to:List Nm) (k:Nat),k<=(gV F t to k).2/\(gV F t to k).2<=k+(F.length+1)*t.az
 | .zero,_,k=>⟨aq _,dj _ _⟩
 | .one,_,k=>⟨aq _,dj _ _⟩
 | .name _,_,k=>⟨aq _,dj _ _⟩
 | .bN _,_,k=>⟨aq _,dj _ _⟩
 |
  .plus a b,to,k=>by
  have h1:=ig F a to k
  have h2:=ig F b to (gV F a to k).2
  simp only[gV,Ty.az]
  have:(F.length+1)*(1+a.az+b.az)=(F.length+1)+(F.length+1)*a.az+(F.length+1)*b.az:=by simp only[cR,dC]
  omega
 |
  .times a b,to,k=>by
  have h1:=ig F a to k
  have h2:=ig F b to (gV F a to k).2
  simp only[gV,Ty.az]
  have:(F.length+1)*(1+a.az+b.az)=(F.length+1)+(F.length+1)*a.az+(F.length+1)*b.az:=by simp only[cR,dC]
  omega
 |
  .rc a,to,k=>by
  obtain⟨g1,g2,_,_⟩:=gq F k
  have h1:=ig F a (to++[tN (nx F k)]) (nx F k+1)
  simp only[gV,Ty.az]
  have:(F.length+1)*(2+a.az)=(F.length+1)*2+(F.length+1)*a.az:=by simp only[cR]
  omega
theorem j1(l:List Nm):(bT l).length=l.length:=by simp[bT]
theorem QB(F:List Nm)(hF:F.length<10000){e:E}(h:Wf e):∀(fr to:List Nm) (a b:AV) (k:Nat),cI a fr->cI b to->fr.length=to.length->(∀w,w∈fr->rJ w)->fr.length+e.sz<10000->k+(F.length+1)*(cO e fr).az<99000000 ->
 an Tryz.prog 143 [.agg [.v (.string (mk e.at)),e.sp],a,b,.ref 0 0] [.cells [.vec 1,.v (.int .i64 (k:Int))],.vec 1 (bT F)] (dh (.agg [.v (.string (mk (gV F (cO e fr) to k).1.at)),(gV F (cO e fr) to k).1.sp]) [.cells [.vec 1,.v (.int .i64 ((gV F (cO e fr) to k).2:Int))],.vec 1 (bT F)]):=by
 induction h with
 |
  @atom s hs =>
  intro fr to a b k ha hb hft hfr hl hk
  simp only[E.sz]at hl
  refine B7 _ _ _ _ _ _ ((a7 _).mpr trivial) ha.1 hb.1 ?_
  have hz:∀c,(c=[48]\/c=[49])->bH c fr fr.length=none:=fun c hc=>(ff c fr).2 fun hm=>by
   obtain⟨h1,h2,h3⟩:=hfr c hm
   rcases hc with rfl|rfl
   ·exact h2 rfl
   ·exact h3 rfl
  have hq:gV F (cO (.atom s) fr) to k=(match bH s fr fr.length with|some u=>.atom (gd to u)|none=>.atom s,k):=by
   simp only[cO]
   by_cases h0:s=[48]
   ·rw[if_pos h0,hz s (.inl h0),h0];rfl
   ·rw[if_neg h0]
    by_cases h1:s=[49]
    ·rw[if_pos h1,hz s (.inr h1),h1];rfl
    ·rw[if_neg h1]
     cases bH s fr fr.length<;>rfl
  simp only[zM,ej,↓zq,zs,ac,zt]
  refine⟨fun _=>⟨ha.1,?_⟩,fun h=>absurd h hs⟩
  rw[ha.len,wrap64 _ (by omega) (by omega)]
  refine fR (I6 s _ a b ((a7 _).mpr trivial) F fr to (k:Int) ha hb hft (by omega) fr.length (aq _)) (fun ys o e=>?_) (fun ys o e=>?_)
  ·rw[hq]
   cases q:bH s fr fr.length<;>rw[q]at e<;>cases e
   simp only[↓zq,zs,ac,zt,ac,bo,bb,a7]
   exact⟨rfl,rfl⟩
  ·rw[hq]
   cases q:bH s fr fr.length<;>rw[q]at e<;>cases e
   simp only[↓zq,zs,ac,zt,ac,bo,bb]
   exact⟨rfl,rfl⟩
 |
  @plus x y hx hy i1 i2 =>
  intro fr to a b k ha hb hft hfr hl hk
  simp only[E.sz,E.jM]at hl
  rw[dK]at hk |-
  simp only[Ty.az]at hk
  have hm:(F.length+1)*(1+(cO x fr).az+(cO y fr).az)=(F.length+1)+(F.length+1)*(cO x fr).az+(F.length+1)*(cO y fr).az:=by simp only[cR,dC]
  have hc:=ig F (cO x fr) to k
  refine B7 _ _ _ _ _ _ ((a7 _).mpr trivial) ha.1 hb.1 ?_
  have hP:=P3.of (.atom [43]) x y
  simp only[zM,bR,toNat_one,bj,↓zq,zs,ac,zt,hP.1,hP.2.1,hP.2.2.1,hP.2.2.2,aR]
  refine⟨fun h=>absurd rfl h,fun _=>?_⟩
  refine ah (p7 [43] x y) ?_
  simp only[↓zq,zs,ac,zt]
  refine⟨fun h=>by simp at h,fun _=>?_⟩
  repeat refine⟨by omega,?_⟩
  refine aX (i1 fr to a b k ha hb hft hfr (by omega) (by omega)) ?_
  simp only[↓zq,zs,ac,zt,bo,aR,aU,bE,Ob.es]
  repeat refine⟨by omega,?_⟩
  refine ah (p7 [43] x y) ?_
  simp only[↓zq,zs,ac,zt]
  repeat refine⟨by omega,?_⟩
  refine aX (i2 fr to a b _ ha hb hft hfr (by omega) (by omega)) ?_
  simp only[↓zq,zs,ac,zt,bo,aR,aU,bE,Ob.es]
  repeat refine⟨by omega,?_⟩
  refine ah (xQ _ _ _) ?_
  simp only[↓zq,zs,ac,zt,aR,bR]
  repeat refine⟨by omega,?_⟩
  exact⟨rfl,rfl⟩
 |
  @times x y hx hy i1 i2 =>
  intro fr to a b k ha hb hft hfr hl hk
  simp only[E.sz,E.jM]at hl
  rw[di]at hk |-
  simp only[Ty.az]at hk
  have hm:(F.length+1)*(1+(cO x fr).az+(cO y fr).az)=(F.length+1)+(F.length+1)*(cO x fr).az+(F.length+1)*(cO y fr).az:=by simp only[cR,dC]
  have hc:=ig F (cO x fr) to k
  refine B7 _ _ _ _ _ _ ((a7 _).mpr trivial) ha.1 hb.1 ?_
  have hP:=P3.of (.atom [42]) x y
  simp only[zM,bR,toNat_one,bj,↓zq,zs,ac,zt,hP.1,hP.2.1,hP.2.2.1,hP.2.2.2,aR]
  refine⟨fun h=>absurd rfl h,fun _=>?_⟩
  refine ah (p7 [42] x y) ?_
  simp only[↓zq,zs,ac,zt]
  refine⟨fun h=>by simp at h,fun _=>?_⟩
  repeat refine⟨by omega,?_⟩
  refine aX (i1 fr to a b k ha hb hft hfr (by omega) (by omega)) ?_
  simp only[↓zq,zs,ac,zt,bo,aR,aU,bE,Ob.es]
  repeat refine⟨by omega,?_⟩
  refine ah (p7 [42] x y) ?_
  simp only[↓zq,zs,ac,zt]
  repeat refine⟨by omega,?_⟩
  refine aX (i2 fr to a b _ ha hb hft hfr (by omega) (by omega)) ?_
  simp only[↓zq,zs,ac,zt,bo,aR,aU,bE,Ob.es]
  repeat refine⟨by omega,?_⟩
  refine ah (xQ _ _ _) ?_
  simp only[↓zq,zs,ac,zt,aR,bR]
  repeat refine⟨by omega,?_⟩
  exact⟨rfl,rfl⟩
 |
  @rc n y hn hy i =>
  intro fr to a b k ha hb hft hfr hl hk
  simp only[E.sz,E.jM]at hl
  rw[eU]at hk |-
  simp only[Ty.az,ej]at hk
  have hm:(F.length+1)*(2+(cO y (fr++[n])).az)=(F.length+1)*2+(F.length+1)*(cO y (fr++[n])).az:=by simp only[cR]
  have hc:=ig F (cO y (fr++[n])) (to++[tN (nx F k)]) (nx F k+1)
  obtain⟨g1,g2,_,_⟩:=gq F k
  refine B7 _ _ _ _ _ _ ((a7 _).mpr trivial) ha.1 hb.1 ?_
  have hP:=P3.of (.atom dW) (.atom n) y
  simp only[zM,bR,toNat_one,bj,↓zq,zs,ac,zt,hP.1,hP.2.1,hP.2.2.1,hP.2.2.2,aR]
  refine⟨fun h=>absurd rfl h,fun _=>?_⟩
  refine ah (p7 dW (.atom n) y) ?_
  simp only[↓zq,zs,ac,zt]
  refine⟨fun _=>?_,fun h=>absurd rfl h⟩
  refine ah (zS (k+1) k (by omega) (by omega)) ?_
  have hd:=ml (k+1) k (by omega)
  simp only[↓zq,zs,ac,zt,a8,aO]
  refine⟨by simp[cG];omega,?_⟩
  refine cq (JZ a b ha.1 hb.1 F (by omega) (mk []) _ ((a7 _).mpr trivial) (F.length+1) k (by show nx F k<_;omega) (by omega)) ?_
  simp only[↓zq,zs,ac,zt,ac,bo,bb,a7,ha.1,hb.1,hP.1,hP.2.1,hP.2.2.1,hP.2.2.2,toNat_one,bj,aR]
  repeat refine⟨by omega,?_⟩
  have hnx:pG F (F.length+1) k=nx F k:=rfl
  rw[hnx]
  refine ah (Dl fr a ha n (by omega)) ?_
  simp only[↓zq,zs,ac,zt]
  refine ah (Dl to b hb (tN (nx F k)) (by omega)) ?_
  simp only[↓zq,zs,ac,zt]
  rw[bq (nx F k) (by omega)]
  have hmk:=xQ dW (.atom (tN (nx F k))) (gV F (cO y (fr++[n])) (to++[tN (nx F k)]) (nx F k+1)).1
  simp only[ej]at hmk
  refine aX (i (fr++[n]) (to++[tN (nx F k)]) _ _ (nx F k+1) (.of _) (.of _) (by simp[hft]) (fun w hw=>by
   rcases aI.1 hw with hw|hw
   ·exact hfr w hw
   ·simp only[aN]at hw;rw[hw];exact hn) (by simp;omega) (by omega)) ?_
  simp only[↓zq,zs,ac,zt,bo,aR,aU,bE,Ob.es]
  repeat refine⟨by omega,?_⟩
  refine ah hmk ?_
  simp only[↓zq,zs,ac,zt,aR,bR]
  repeat refine⟨by omega,?_⟩
  exact⟨rfl,rfl⟩
theorem vM(l r:List Nm):bT (l++r)=bT l++bT r:=by simp[bT]
def rp(os:List E):List Nm:=os.flatMap fun o=>kb o [] []
theorem uG{os:List E}{i:Nat}(h:i<os.length):(E.bn os).getD i []=[.v (.string (mk (os[i]).at)),(os[i]).sp]:=by
 have:∀(os:List E) (i:Nat) (h:i<os.length),(E.bn os).getD i []=(os[i]).hJ:=by
  intro os
  induction os with
  |nil=>intro i h;simp at h
  |
   cons o os ih =>
   intro i h
   cases i with
   |zero=>simp[E.bn]
   |succ i=>simpa[E.bn]using ih i (by simpa using h)
 rw[this os i h,fw]
theorem zo(os:List E){i:Nat}(h:i<os.length):rp (os.drop i)=kb (os[i]) [] []++rp (os.drop (i+1)):=by
 unfold rp;rw[aL h,List.flatMap_cons]
theorem Jg(a:AV)(os:List E)(ha:LK.sl.has a/\a.aS=E.bn os)(ho:∀o,o∈os->Wf o/\o.sz<5000)(hl:os.length<100)(t:ByteArray)(p:AV)(hp:LK.sl.has p):∀(k i:Nat) (F:List Nm),i+k=os.length->F.length<=5000+5000*i ->
 Eu [a,.v (.int .i64 (i:Int))] [.cells [.v (.string t),p],zE,.vec 1 (bT F)] (gX 1 [] [.cells [.v (.string t),p],zE,.vec 1 (bT (F++rp (os.drop i)))])
 |
  0,i,F,hi,hF=>by
  refine KT _ _ _ _ _ _ _ ?_
  have:i=os.length:=by omega
  subst this
  simp only[F1,↓zq,zs,ac,zt,ac,hp,bb,ha.1,ha.2,dV,List.drop_length]
  exact⟨fun h=>by omega,fun _=>by simp[gX,rp]⟩
 |
  k+1,i,F,hi,hF=>by
  have hlt:i<os.length:=by omega
  obtain⟨hw,hsz⟩:=ho _ (bA hlt)
  have hfl:=fX (os[i]) [] []
  refine KT _ _ _ _ _ _ _ ?_
  simp only[F1,↓zq,zs,ac,zt,ac,hp,bb,ha.1,ha.2,dV,uG hlt,aR,cf]
  refine⟨fun _=>?_,fun h=>by omega⟩
  repeat refine⟨by omega,?_⟩
  have hfre:=Cd hw [] [] (.sl []) (.of []) (by simp;omega)
  refine aX hfre ?_
  simp only[↓zq,zs,ac,zt,aU,bE,Ob.es,j1,<-vM]
  rw[bq i (by omega),zo os hlt,<-ba]
  simp only[aJ,aV]at hfl
  refine⟨⟨j9 _,by omega⟩,?_⟩
  exact Jg a os ha ho hl t p hp k (i+1) _ (by omega) (by simp;omega)
def zu(e:E)(os:List E):List Nm:=kb e [] []++rp os
def AH(e:E)(os:List E):E:=(gV (zu e os) (cO e []) [] 0).1
theorem Da{e:E}{os:List E}(h:e.sz<=2000)(ho:∀o,o∈os->Wf o/\o.sz<=2000)(hl:os.length<=2):(zu e os).length<=6000:=by
 have h1:=fX e [] []
 have h2:∀(l:List E),(∀o,o∈l->o.sz<=2000)->(rp l).length<=2000*l.length:=by
  intro l
  induction l with
  |nil=>intro _;simp[rp]
  |
   cons o l ih =>
   intro hl
   have:=ih fun q hq=>hl q (ak _ hq)
   have:=hl o aj
   have:=fX o [] []
   simp only[rp,List.flatMap_cons,ax,aB,aJ]at *
   omega
 have:=h2 os fun o ho'=>(ho o ho').2
 simp only[zu,ax,aJ]at *
 omega
theorem F7{e:E}(h:Wf e)(a:AV)(os:List E)(ha:LK.sl.has a/\a.aS=E.bn os)(he:e.sz<=2000)(ho:∀o,o∈os->Wf o/\o.sz<=2000)(hl:os.length<=2) :
 an Tryz.prog 106 [.agg [.v (.string (mk e.at)),e.sp],a] [] (bB (.agg [.v (.string (mk (AH e os).at)),(AH e os).sp])):=by
 refine Ou _ _ _ ((a7 _).mpr trivial) ha.1 ?_
 unfold If
 have hfl:=fX e [] []
 simp only[aJ,aV]at hfl
 have hap:=Da he ho hl
 have hats:(cO e []).az<=2000:=by
  rw[<-h.dy []]
  have:e.dy<=e.sz:=by
   clear hap hfl ha he ho hl
   induction h with
   |atom _=>simp[E.dy,E.sz]
   |plus _ _ i1 i2=>simp only[E.dy,E.fF,E.sz,E.jM];omega
   |times _ _ i1 i2=>simp only[E.dy,E.fF,E.sz,E.jM];omega
   |rc _ _ i=>simp only[E.dy,E.fF,E.sz,E.jM];omega
  omega
 have hfre:=Cd h [] [] (.sl []) (.of []) (by simp;omega)
 simp only[↓zq,zs,ac,zt]
 refine aX hfre ?_
 simp only[↓zq,zs,ac,zt,aU,bE,Ob.es]
 have hlp:=Jg a os ha (fun o hq=>⟨(ho o hq).1,by have:=(ho o hq).2;omega⟩) (by omega) (mk e.at) e.sp ((a7 _).mpr trivial) os.length 0 (kb e [] []) (by omega) (by omega)
 rw[a6]at hlp
 refine cq hlp ?_
 simp only[↓zq,zs,ac,zt,ac,bo,bb,a7,aU,bE,Ob.es]
 have hmul:((zu e os).length+1)*(cO e []).az<=6001*2000:=Nat.mul_le_mul (by omega) hats
 have hren:=QB (zu e os) (by omega) h [] [] (.sl []) (.sl []) 0 (.of []) (.of []) rfl (fun w hw=>by cases hw) (by simp;omega) (by omega)
 refine aX hren ?_
 simp only[↓zq,zs,ac,zt,bo,aR]
 repeat refine⟨by omega,?_⟩
 exact⟨rfl,rfl⟩
end Go.Proofs.Trees
namespace Go.Proofs.Trees
open Go Go.VL Go.RowKit
def fO(t:Ty):Prop:=jT t 0/\∀y,bh y t=true->rJ y
theorem gu:∀(t:Ty) {i j:Nat},jT t i->i<=j->jT t j
 | .bN u,i,j,h,hj=>db h hj
 | .plus a b,i,j,h,hj=>⟨gu a h.1 hj,gu b h.2 hj⟩
 | .times a b,i,j,h,hj=>⟨gu a h.1 hj,gu b h.2 hj⟩
 | .rc a,i,j,h,hj=>gu (i:=i+1) (j:=j+1) a h (by omega)
 | .zero,_,_,_,_=>trivial
 | .one,_,_,_,_=>trivial
 | .name _,_,_,_,_=>trivial
end Go.Proofs.Trees
