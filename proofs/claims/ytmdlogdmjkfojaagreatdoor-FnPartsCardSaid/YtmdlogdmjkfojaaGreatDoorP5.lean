/-
  Part of a proof: Go functions read by values, trees of functions, their contracts.
-/
import Derived.Test.YtmdlogdmjkfojaaGreatDoorP4
import Derived.Lib.Atoi
set_option linter.unusedVariables false
set_option linter.unusedSimpArgs false
open And renaming intro→aI
open Bool renaming and_eq_true→aw,eq_iff_iff→cq,or_eq_false_iff→cj,or_eq_true→bn,true_and→bJ
open Int renaming cast_ofNat_Int→cV,ofNat_eq_natCast→cE,tmod→du,toNat→bT,toNat_natCast→bB
open List renaming all_cons→cL,any_eq_true→bY,append_assoc→aS,drop_eq_getElem_cons→aL,drop_eq_nil_of_le→bG,drop_zero→aX,flatMap_cons→cP,getD_cons_zero→bg,getD_eq_getElem?_getD→aa,getElem?_eq_getElem→bo,getElem_mem→bE,headD_cons→bc,length_append→al,length_cons→au,length_drop→cd,length_nil→aG,map_cons→bp,mem_append→aM,mem_append_left→aB,mem_cons→aH,mem_cons_of_mem→ak,mem_cons_self→ai,mem_flatMap→dq,mem_map→bZ,mem_singleton→aU,nil_append→aQ,sum_cons→dM,tail_cons→bF
open Nat renaming beq→aJ,le_refl→aq,mod_lt→dW,zero_add→aW,zero_le→dr
open Option renaming bind_eq_some_iff→bA,isSome_iff_exists→bx,map_some→cr
open UInt8 renaming ofNat→a8,toNat_inj→dE
namespace Go.Proofs.Trees
open Go Go.VL
theorem Nl(s:List UInt8)(lo hi:Nat):ap Tryz.prog 140 [.v (.string (mk s)),.v (.int .u8 (lo:Int)),.v (.int .u8 (hi:Int))] [] (bH (.v (.bool (named lo hi s)))):=by
 refine O0 _ _ _ ?_
 unfold KY
 rw[cX]
 refine an (Dx _ _ _) ?_
 simp only[↓zq,zs,ae,zt,bH]
 refine⟨fun h=>?_,fun h=>?_⟩
 ·cases s with
  |nil=>rfl
  |
   cons c s =>
   simp[DL]at h
   have:¬s.length<=2:=by omega
   simp[named,this]
 ·cases s with
  |nil=>simp[DL]at h
  |
   cons c s =>
   simp[DL]at h
   have hl:s.length<=2:=by omega
   have hb:=lN (c::s) 0 (by simp)
   simp only[cE,cV]at hb
   simp only[↓zq,zs,ae,hb]
   refine⟨by omega,fun h1=>?_,fun h1=>⟨by omega,fun h2=>?_,fun h2=>?_⟩⟩
   ·have:¬lo<=c.toNat:=by omega
    simp[named,this]
   ·have:¬c.toNat<=hi:=by omega
    simp[named,this]
   ·refine hH (Kd (c::s) (by simp;omega) s.length 1 (by simp;omega)) (fun ys o e=>?_) (fun ys o e=>?_)
    ·split at e<;>cases e
     rename_i ha
     simp at ha
     simp only[↓zq,zs,ae]
     simp[named,hl]
     exact⟨⟨by omega,by omega⟩,fun x hx=>by simpa using ha x hx⟩
    ·split at e<;>cases e
     rename_i ha
     simp only[↓zq,zs,ae]
     have:s.all hD=false:=by simpa using ha
     simp[named,this]
theorem Fb(s:List UInt8):ap Tryz.prog 101 [.v (.string (mk s))] [] (bH (.v (.bool (gH s)))):=by
 refine OA _ ?_
 unfold Lp
 refine an (Nl s 120 122) ?_
 simp only[↓zq,zs,ae,bH,gH]
theorem FT(s:List UInt8):ap Tryz.prog 99 [.v (.string (mk s))] [] (bH (.v (.bool (cS s)))):=by
 refine Px _ ?_
 unfold Jk
 refine an (Nl s 116 116) ?_
 simp only[↓zq,zs,ae,bH,cS]
end Go.Proofs.Trees
namespace Go.Proofs.Trees
open Go Go.VL Go.RowKit
theorem Qs(l:List UInt8)(c:UInt8):ap Tryz.prog 178 [.v (.string (mk l)),.v (.string (mk [c]))] [] (bH (.v (.bool (decide (0<=Lib.indexByte l c))))):=by
 refine ap.QO (xs:=[.string (mk l),.string (mk [c])]) ⟨nh,by kernel_rfl,by kernel_rfl,by kernel_rfl⟩ fun w=>?_
 have:=Any.strings_Contains_one Tryz.DG (mk l) c w
 refine Calls.mono this fun e w' ⟨h1,h2⟩=>?_
 rw[h2]
 have hd:(mk l).data.toList=l:=by simp[mk]
 exact⟨by rw[h1,hd],Below.refl _ _⟩
theorem Ki(l cs:List UInt8)(hl:l.length<=1000000)(hc:cs.length<=1000)(ha:∀b,b∈cs->b.toNat<128):ap Tryz.prog 169 [.v (.string (mk l)),.v (.string (mk cs))] [] (bH (.v (.string (mk (Lib.trimS l cs))))):=by
 refine ap.QO (xs:=[.string (mk l),.string (mk cs)]) ⟨p8,by kernel_rfl,by kernel_rfl,by kernel_rfl⟩ fun w=>?_
 have:=Any.strings_Trim_laid Tryz.CY (by kernel_rfl) (mk l) (mk cs) w (by rw[cX];omega) (by rw[cX];omega) (fun j b hj=>ha b (by
  have:(mk cs).data.toList=cs:=by simp[mk]
  rw[this]at hj
  exact List.mem_of_getElem? hj))
 refine Calls.mono this fun e w' ⟨h1,h2⟩=>⟨?_,h2⟩
 rw[h1]
 simp[mk]
theorem nl:∀(l:List UInt8) (c:UInt8),(0<=Lib.indexByte l c↔c∈l)/\-1<=Lib.indexByte l c
 |[],c=>by simp[Lib.indexByte]
 |
  b::l,c=>by
  obtain⟨h1,h2⟩:=nl l c
  unfold Lib.indexByte
  by_cases e:b=c
  ·subst e;simp
  ·have e':(b==c)=false:=by simp[e]
   rw[e']
   by_cases q:Lib.indexByte l c = -1
   ·have:c∉l:=fun h=>by have:=h1.2 h;omega
    simp[q,this,Ne.symm e]
   ·have q':(Lib.indexByte l c==-1)=false:=by simp[q]
    simp only[q',Bool.false_eq_true,if_false,aH]
    constructor
    ·constructor
     ·intro h;exact .inr (h1.1 (by omega))
     ·intro h
      rcases h with h|h
      ·exact absurd h.symm e
      ·have:=h1.2 h;omega
    ·omega
theorem dropWhile_nil{p:UInt8->Bool}:∀(l:List UInt8),l.dropWhile p=[]↔l.all p=true
 |[]=>by simp
 |
  b::l=>by
  cases h:p b with
  |true=>rw[List.dropWhile_cons_of_pos h,dropWhile_nil l];simp[h]
  |false=>rw[List.dropWhile_cons_of_neg (by rw[h];simp)];simp[h]
theorem sk(l cs:List UInt8):Lib.trimS l cs=[]↔l.all (cs.contains ·)=true:=by
 unfold Lib.trimS Lib.trimLeftS
 rw[dropWhile_nil]
 unfold Lib.trimRightS
 constructor
 ·intro h
  by_cases hn:l.reverse.dropWhile (cs.contains ·)=[]
  ·rw[dropWhile_nil]at hn
   simpa using hn
  ·exfalso
   rw[List.all_reverse]at h
   obtain⟨b,r,e⟩:=List.exists_cons_of_ne_nil hn
   have h1:cs.contains b=false:=by
    have:=List.head_dropWhile_not (p:=(cs.contains ·)) (l:=l.reverse) hn
    simp only[e,List.head_cons]at this
    exact this
   rw[e]at h
   simp only[cL,aw]at h
   rw[h1]at h;cases h.1
 ·intro h
  have:l.reverse.dropWhile (cs.contains ·)=[]:=by rw[dropWhile_nil];simpa using h
  rw[this];rfl
def HF:List UInt8:=[48,49,50,51,52,53,54,55,56,57]
theorem u6(b:UInt8):HF.contains b=hD b:=by
 have:∀n:Fin 256,HF.contains (a8 n.val)=hD (a8 n.val):=by decide +kernel
 have:=this ⟨b.toNat,b.toNat_lt⟩
 simpa using this
theorem Jw(s ls:List UInt8)(lo hi:Nat)(hls:∀c:UInt8,c∈ls↔lo<=c.toNat/\c.toNat<=hi):ap Tryz.prog 163 [.v (.string (mk s)),.v (.string (mk ls))] [] (bH (.v (.bool (named lo hi s)))):=by
 refine Oe _ _ ?_
 simp only[Jr,↓zq,zs,ae,zt,bH]
 cases s with
 |nil=>exact⟨fun h=>by simp at h,fun _=>rfl⟩
 |
  cons c s =>
  have e1:(List.take (bT 1) (c::s))=[c]:=rfl
  have e2:(List.take (s.length+1) (c::s)).drop (bT 1)=s:=by simp
  simp only[au,e1,e2]
  refine⟨fun _=>⟨fun h3=>⟨by omega,?_⟩,fun h3=>?_⟩,fun h=>by omega⟩
  ·have hl:s.length<=2:=by omega
   refine an (Qs ls c) ?_
   simp only[↓zq,zs,ae]
   have hi1:=(nl ls c).1
   refine⟨fun h=>⟨by omega,?_⟩,fun h=>?_⟩
   ·refine an (Ki s HF (by omega) (by decide) (by decide)) ?_
    simp only[↓zq,zs,ae,zt]
    have hc:=(hls c).1 (hi1.1 h)
    congr 2
    rw[cq,beq_iff_eq,sk]
    simp only[named,hl,hc,decide_true,bJ,and_self]
    have:(fun x=>HF.contains x)=hD:=funext u6
    rw[this]
   ·have hc:¬(lo<=c.toNat/\c.toNat<=hi):=fun h'=>h (hi1.2 ((hls c).2 h'))
    simp only[named,hc,zf]
  ·have hl:¬s.length<=2:=by omega
   simp only[named,hl,zf]
theorem Mm(s:List UInt8):ap Tryz.prog 145 [.v (.string (mk s))] [] (bH (.v (.bool (gH s)))):=by
 refine Om _ ?_
 unfold Ju
 have h:∀n:Fin 256,(a8 n.val∈[(120:UInt8),121,122])↔120<=(a8 n.val).toNat/\(a8 n.val).toNat<=122:=by decide +kernel
 refine an (Jw s [120,121,122] 120 122 fun c=>by simpa using h ⟨c.toNat,c.toNat_lt⟩) ?_
 simp only[↓zq,zs,ae,bH,gH]
theorem Cm(s:List UInt8):ap Tryz.prog 146 [.v (.string (mk s))] [] (bH (.v (.bool (cS s)))):=by
 refine Ps _ ?_
 unfold LC
 have h:∀n:Fin 256,(a8 n.val∈[(116:UInt8)])↔116<=(a8 n.val).toNat/\(a8 n.val).toNat<=116:=by decide +kernel
 refine an (Jw s [116] 116 116 fun c=>by simpa using h ⟨c.toNat,c.toNat_lt⟩) ?_
 simp only[↓zq,zs,ae,bH,cS]
end Go.Proofs.Trees
namespace Go.Proofs.Trees
open Go Go.VL
inductive Ty where
 |zero|one
 |name (s:List UInt8)
 |bO (up:Nat)
 |plus (a b:Ty)
 |times (a b:Ty)
 |rc (a:Ty)
def Ty.av:Ty->AV
 | .zero=>.ptr [.v (.int .u8 48),.v (.string (mk [])),.v (.int .i64 0),.v (.pointer none),.v (.pointer none)]
 | .one=>.ptr [.v (.int .u8 49),.v (.string (mk [])),.v (.int .i64 0),.v (.pointer none),.v (.pointer none)]
 | .name s=>.ptr [.v (.int .u8 110),.v (.string (mk s)),.v (.int .i64 0),.v (.pointer none),.v (.pointer none)]
 | .bO up=>.ptr [.v (.int .u8 98),.v (.string (mk [])),.v (.int .i64 (up:Int)),.v (.pointer none),.v (.pointer none)]
 | .plus a b=>.ptr [.v (.int .u8 43),.v (.string (mk [])),.v (.int .i64 0),a.av,b.av]
 | .times a b=>.ptr [.v (.int .u8 42),.v (.string (mk [])),.v (.int .i64 0),a.av,b.av]
 | .rc a=>.ptr [.v (.int .u8 114),.v (.string (mk [])),.v (.int .i64 0),a.av,.v (.pointer none)]
theorem aF(t:Ty):LK.has .ptr t.av=True:=by cases t<;>simp[Ty.av,cu]
theorem fy(t:Ty):t.av.isNil=false:=by cases t<;>rfl
def gZ:Option Ty->AV
 |some t=>t.av
 |none=>.v (.pointer none)
theorem ii(t:Option Ty):LK.has .ptr (gZ t)=True:=by cases t<;>simp[gZ,aF,gp]
def E.at:E->List UInt8
 | .atom s=>s
 | .list _=>[]
def bK(s:List UInt8)(ar:List (List UInt8)):Nat->Option Nat
 |0=>none
 |i+1=>if ar.getD i []=s then some (ar.length-1-i)else bK s ar i
def cD:E->List (List UInt8)->Option Ty
 | .atom s,ar=>if s=[48]then some .zero else if s=[49]then some .one else if gH s=true then some (.name s)else if cS s=true then(match bK s ar ar.length with|some u=>some (.bO u)|none=>some (.name s))else none
 |
  .list [x,a,b],ar =>
  if x.at=[43]then(match cD a ar,cD b ar with|some t,some u=>some (.plus t u)|_,_=>none)
  else if x.at=[42]then(match cD a ar,cD b ar with|some t,some u=>some (.times t u)|_,_=>none)
  else if x.at=[114,101,99]then(if cS a.at=true then(match cD b (ar++[a.at])with|some t=>some (.rc t)|none=>none)else none)
  else none
 | .list _,_=>none
def bw(l:List (List UInt8)):List (List AV):=l.map fun s=>[.v (.string (mk s))]
def cZ(a:AV)(l:List (List UInt8)):Prop:=LK.sl.has a/\a.aO=bw l
theorem cZ.len{a:AV}{l:List (List UInt8)}(h:cZ a l):a.aO.length=l.length:=by rw[h.2];simp[bw]
theorem cZ.idx{a:AV}{l:List (List UInt8)}(h:cZ a l){i:Nat}(hi:i<l.length):a.aO.getD i []=[.v (.string (mk (l.getD i [])))]:=by
 rw[h.2];simp[bw,aa,hi]
theorem cZ.of(l:List (List UInt8)):cZ (.sl (bw l)) l:=⟨(ci _).mpr trivial,rfl⟩
theorem cZ.nil:cZ (.v (.slice none 0 0)) []:=⟨(be).mpr trivial,rfl⟩
theorem xn(e:E)(w:List UInt8):ap Tryz.prog 147 [e.cx,.v (.string (mk w)),.v (.int .i64 3)] [] (bH (.v (.bool (match e with| .list [x,_,_]=>x.at==w|_=>false)))):=by
 refine L8 _ _ _ ((cG e).mpr trivial) ?_
 cases e with
 |atom s=>simp only[AN,E.cx,↓zq,zs,ae,zt,bH];exact⟨by omega,fun h=>by omega,fun _=>trivial⟩
 |
  list l =>
  simp only[AN,E.cx,↓zq,zs,ae,zt,bH,rM]
  match l with
  |[]=>exact⟨by simp,fun h=>by simp at h,fun _=>rfl⟩
  |[_]=>exact⟨by simp,fun h=>by simp at h,fun _=>rfl⟩
  |[_,_]=>exact⟨by simp,fun h=>by simp at h,fun _=>rfl⟩
  |
   [x,y,z] =>
   refine⟨by simp,fun _=>?_,fun h=>by simp at h⟩
   cases x<;>simp[E.lX,E.cx,cu,pf,jA,eV,tK,toList_mk,E.at]
  |_::_::_::_::l=>exact⟨by simp,fun h=>by simp at h;omega,fun _=>rfl⟩
theorem JM(e:E)(a:AV)(ar:List (List UInt8))(ha:cZ a ar)(hl:ar.length<1000000):∀(i:Nat),i<=ar.length->Hk [e.cx,a,.v (.int .i64 ((i:Int)-1))] []
 (ru (match bK e.at ar i with|some u=>(2,[],[.cells [.v (.int .u8 98),.v (.string (mk [])),.v (.int .i64 (u:Int)),.v (.pointer none),.v (.pointer none)]])|none=>(1,[e.cx],[])))
 |
  0,hi=>by
  refine KR _ _ _ ?_
  simp only[Gc,↓zq,zs,ae,cG]
  exact⟨ha.1,fun h=>by omega,fun _=>rfl⟩
 |
  i+1,hi=>by
  have hlt:i<ar.length:=by omega
  have e1:((i+1:Nat):Int)-1=(i:Int):=by omega
  rw[e1]
  refine KR _ _ _ ?_
  have hd:e.cx.deref.headD .any=.v (.string (mk e.at)):=by cases e<;>rfl
  have hdl:1<=e.cx.deref.length:=by cases e<;>simp[E.cx,jA]
  simp only[Gc,↓zq,zs,ae,zt,cG,dU,ha.len,ha.idx hlt,hd,qY]
  refine⟨ha.1,fun _=>⟨⟨ha.1,by omega,by omega⟩,by omega,hdl,fun h=>⟨ha.1,?_⟩,fun h=>?_⟩,fun h=>by omega⟩
  ·simp only[bK,h,if_true,ru]
   rw[wrap64 ((ar.length:Int)-1) (by omega) (by omega),wrap64 _ (by omega) (by omega)]
   have:(ar.length:Int)-1-(i:Int)=((ar.length-1-i:Nat):Int):=by omega
   rw[this]
  ·simp only[bK,h,if_false]
   rw[wrap64 _ (by omega) (by omega)]
   exact JM e a ar ha hl i (by omega)
end Go.Proofs.Trees
namespace Go.Proofs.Trees
open Go Go.VL
theorem nL(e:E):e.cx.deref.headD .any=.v (.string (mk e.at)):=by cases e<;>rfl
theorem lA(e:E):1<=e.cx.deref.length:=by cases e<;>simp[E.cx,jA]
theorem toNat_one:bT 1=1:=rfl
theorem bq:bT 2=2:=rfl
theorem BS{ar:List (List UInt8)}(s:List UInt8):bw ar++[[.v (.string (mk s))]]=bw (ar++[s]):=by simp[bw]
theorem kb(ar:List (List UInt8)):bV 1 (bw ar):=fun c hc=>by
 obtain⟨s,_,rfl⟩:=bZ.1 hc;rfl
theorem kH{x a b:E}(ar:List (List UInt8))(hx:x.at=[43]):cD (.list [x,a,b]) ar=match cD a ar,cD b ar with|some t,some u=>some (.plus t u)|_,_=>none:=by rw[cD,if_pos hx]<;>cases cD a ar<;>cases cD b ar<;>rfl
theorem jD{x a b:E}(ar:List (List UInt8))(hx:x.at=[42]):cD (.list [x,a,b]) ar=match cD a ar,cD b ar with|some t,some u=>some (.times t u)|_,_=>none:=by rw[cD,if_neg (by rw[hx];decide),if_pos hx]<;>cases cD a ar<;>cases cD b ar<;>rfl
theorem mc{x a b:E}(ar:List (List UInt8))(hx:x.at=[114,101,99]):cD (.list [x,a,b]) ar=if cS a.at=true then(match cD b (ar++[a.at])with|some t=>some (.rc t)|none=>none)else none:=by rw[cD,if_neg (by rw[hx];decide),if_neg (by rw[hx];decide),if_pos hx]<;>cases cD b (ar++[a.at])<;>rfl
theorem iO{x a b:E}(ar:List (List UInt8))(h1:x.at≠[43])(h2:x.at≠[42])(h3:x.at≠[114,101,99]):cD (.list [x,a,b]) ar=none:=by rw[cD,if_neg h1,if_neg h2,if_neg h3]
theorem B7:∀(e:E) (ar:List (List UInt8)) (a:AV),e.ok->cZ a ar->ar.length+e.sz<100000->ap Tryz.prog 114 [e.cx,a] [] (bH (gZ (cD e ar)))
 |
  .atom s,ar,a,hok,ha,hl=>by
  simp only[E.sz]at hl
  refine If _ _ ((cG _).mpr trivial) ha.1 ?_
  have hd:=nL (.atom s)
  have hlen:=lA (.atom s)
  simp only[E.at]at hd
  simp only[EC,↓zq,zs,ae,zt,bH,cG,dU,hd,cD]
  refine⟨hlen,fun h=>⟨hlen,?_,?_⟩,fun h=>⟨hlen,fun h1=>⟨hlen,?_,?_⟩,fun h1=>⟨hlen,?_⟩⟩⟩
  ·rw[h];decide
  ·rw[if_pos h,h];rfl
  ·rw[h1];decide
  ·rw[if_neg h,if_pos h1,h1];rfl
  ·rw[if_neg h,if_neg h1]
   refine an (Mm s) ?_
   simp only[↓zq,zs,ae]
   refine⟨fun hp=>⟨hlen,?_⟩,fun hp=>⟨hlen,?_⟩⟩
   ·rw[if_pos hp];rfl
   ·rw[if_neg (by rw[hp];simp)]
    refine an (Cm s) ?_
    simp only[↓zq,zs,ae,ha.len]
    refine⟨fun hq=>⟨ha.1,?_⟩,fun hq=>?_⟩
    ·rw[if_pos hq,wrap64 _ (by omega) (by omega)]
     refine hH (JM (.atom s) a ar ha (by omega) ar.length (by omega)) (fun ys o e=>?_) (fun ys o e=>?_)
     ·simp only[E.at]at e
      cases hq2:bK s ar ar.length<;>rw[hq2]at e<;>cases e
      simp only[↓zq,zs,ae,zt,cG,dU,hd]
      exact⟨hlen,rfl⟩
     ·simp only[E.at]at e
      cases hq2:bK s ar ar.length<;>rw[hq2]at e<;>cases e
      simp only[↓zq,zs,ae,zt,LK.has]
      simp[gZ,Ty.av,ae,LK.has]
    ·rw[if_neg (by rw[hq];simp)]
     refine an (xn (.atom s) [43]) ?_
     simp only[↓zq,zs,ae]
     refine⟨fun h=>(by simp at h),fun _=>?_⟩
     refine an (xn (.atom s) [42]) ?_
     simp only[↓zq,zs,ae]
     refine⟨fun h=>(by simp at h),fun _=>?_⟩
     refine an (xn (.atom s) [114,101,99]) ?_
     simp only[↓zq,zs,ae]
     refine⟨fun h=>(by simp at h),fun _=>?_⟩
     trivial
 |
  .list l,ar,a,hok,ha,hl=>by
  simp only[E.sz]at hl
  refine If _ _ ((cG _).mpr trivial) ha.1 ?_
  have hd:=nL (.list l)
  have hlen:=lA (.list l)
  simp only[E.at]at hd
  have hp:gH []=false:=rfl
  have hq:cS []=false:=rfl
  simp only[EC,↓zq,zs,ae,zt,bH,cG,dU,hd]
  refine⟨hlen,fun h=>(by simp at h),fun h=>⟨hlen,fun h1=>(by simp at h1),fun h1=>⟨hlen,?_⟩⟩⟩
  refine an (Mm []) ?_
  simp only[↓zq,zs,ae,hp]
  refine⟨fun h=>(by simp at h),fun _=>⟨hlen,?_⟩⟩
  refine an (Cm []) ?_
  simp only[↓zq,zs,ae,hq]
  refine⟨fun h=>(by simp at h),fun _=>?_⟩
  refine an (xn (.list l) [43]) ?_
  match l,hok,hl with
  |
   [x,y,z],hok,hl =>
   simp only[E.ji]at hl
   obtain⟨ok1,ok2,ok3,_⟩:=hok
   have iy:=B7 y ar a ok2 ha (by omega)
   have iz:=B7 z ar a ok3 ha (by omega)
   have hds:((E.list [x,y,z]).cx.deref.drop 1).headD .any=.sl [[x.cx],[y.cx],[z.cx]]:=rfl
   have hdl:1<=((E.list [x,y,z]).cx.deref.drop 1).length:=by simp[E.cx,jA]
   have hxd:=nL x
   have hxl:=lA x
   have hyd:=nL y
   have hyl:=lA y
   have bin:∀(c:UInt8) (mkT:Ty->Ty->Ty),(∀t u:Ty,(mkT t u).av=.ptr [.v (.int .u8 (c.toNat:Int)),.v (.string (mk [])),.v (.int .i64 0),t.av,u.av])->x.at=[c]->bt (mk x.at) 0=(c.toNat:Int):=fun c _ _ hx=>by
    have:=lN x.at 0 (by rw[hx];simp)
    simp only[cE,cV]at this
    rw[this,hx];rfl
   simp only[↓zq,zs,ae,zt,hds,hdl,cG,dU,toNat_one,bq,hxd,hyd,qY]
   refine⟨fun hx=>?_,fun hx=>?_⟩
   ·refine⟨by omega,by omega,?_⟩
    refine an iy ?_
    simp only[↓zq,zs,ae,ii]
    refine⟨by omega,by omega,?_⟩
    refine an iz ?_
    have hb:=bin 43 Ty.plus (fun _ _=>rfl) hx
    rw[kH ar hx]
    simp only[↓zq,zs,ae,zt,ii]
    cases h1:cD y ar with
    |none=>simp[gZ,jy]
    |
     some t =>
     cases h2:cD z ar with
     |none=>simp[gZ,jy,fy]
     |
      some u =>
      simp only[gZ,fy,hb]
      refine⟨fun h=>(by cases h),fun _=>⟨fun h=>(by cases h),fun _=>⟨by omega,by omega,hxl,⟨by omega,by rw[hx];simp⟩,rfl⟩⟩⟩
   ·refine an (xn (.list [x,y,z]) [42]) ?_
    simp only[↓zq,zs,ae,hds,hdl,cG,dU,toNat_one,bq,hxd,hyd,qY]
    refine⟨fun hx2=>?_,fun hx2=>?_⟩
    ·refine⟨by omega,by omega,?_⟩
     refine an iy ?_
     simp only[↓zq,zs,ae,ii]
     refine⟨by omega,by omega,?_⟩
     refine an iz ?_
     have hb:=bin 42 Ty.times (fun _ _=>rfl) hx2
     rw[jD ar hx2]
     simp only[↓zq,zs,ae,zt,ii]
     cases h1:cD y ar with
     |none=>simp[gZ,jy]
     |
      some t =>
      cases h2:cD z ar with
      |none=>simp[gZ,jy,fy]
      |
       some u =>
       simp only[gZ,fy,hb]
       refine⟨fun h=>(by cases h),fun _=>⟨fun h=>(by cases h),fun _=>⟨by omega,by omega,hxl,⟨by omega,by rw[hx2];simp⟩,rfl⟩⟩⟩
    ·refine an (xn (.list [x,y,z]) [114,101,99]) ?_
     simp only[↓zq,zs,ae,zt,hds,hdl,cG,dU,toNat_one,bq,hxd,hyd,qY]
     refine⟨fun hx3=>⟨by omega,by omega,hyl,?_⟩,fun hx3=>?_⟩
     ·refine an (Cm y.at) ?_
      rw[mc ar hx3]
      simp only[↓zq,zs,ae]
      have hal:bV 1 a.aO:=by rw[ha.2];exact kb ar
      have hal1:bV 1 [[AV.v (.string (mk y.at))]]:=fun c hc=>by simp at hc;rw[hc];rfl
      refine⟨fun hlo=>⟨by omega,by omega,⟨ha.1,hal,by rw[ha.len];omega⟩,by omega,by omega,hyl,⟨hal1,by rw[aQ,ha.len];omega⟩,?_⟩,fun hlo=>?_⟩
      ·rw[aQ,ha.2,BS,if_pos hlo]
       refine an (B7 z (ar++[y.at]) _ ok3 (.of _) (by simp;omega)) ?_
       simp only[↓zq,zs,ae,ii]
       cases h2:cD z (ar++[y.at])with
       |none=>simp[gZ,jy]
       |
        some u =>
        simp only[gZ,fy]
        refine⟨fun h=>(by cases h),fun _=>rfl⟩
      ·rw[if_neg (by rw[hlo];simp)];rfl
     ·rw[iO ar hx hx2 hx3];rfl
  |
   [],_,_ =>
   simp only[↓zq,zs,ae]
   refine⟨fun h=>(by cases h),fun _=>?_⟩
   refine an (xn (.list []) [42]) ?_
   simp only[↓zq,zs,ae]
   refine⟨fun h=>(by cases h),fun _=>?_⟩
   refine an (xn (.list []) [114,101,99]) ?_
   simp only[↓zq,zs,ae]
   refine⟨fun h=>(by cases h),fun _=>?_⟩
   rfl
  |
   [x1],_,_ =>
   simp only[↓zq,zs,ae]
   refine⟨fun h=>(by cases h),fun _=>?_⟩
   refine an (xn (.list [x1]) [42]) ?_
   simp only[↓zq,zs,ae]
   refine⟨fun h=>(by cases h),fun _=>?_⟩
   refine an (xn (.list [x1]) [114,101,99]) ?_
   simp only[↓zq,zs,ae]
   refine⟨fun h=>(by cases h),fun _=>?_⟩
   rfl
  |
   [x1,x2],_,_ =>
   simp only[↓zq,zs,ae]
   refine⟨fun h=>(by cases h),fun _=>?_⟩
   refine an (xn (.list [x1,x2]) [42]) ?_
   simp only[↓zq,zs,ae]
   refine⟨fun h=>(by cases h),fun _=>?_⟩
   refine an (xn (.list [x1,x2]) [114,101,99]) ?_
   simp only[↓zq,zs,ae]
   refine⟨fun h=>(by cases h),fun _=>?_⟩
   rfl
  |
   x1::x2::x3::x4::l,_,_ =>
   simp only[↓zq,zs,ae]
   refine⟨fun h=>(by cases h),fun _=>?_⟩
   refine an (xn (.list (x1::x2::x3::x4::l)) [42]) ?_
   simp only[↓zq,zs,ae]
   refine⟨fun h=>(by cases h),fun _=>?_⟩
   refine an (xn (.list (x1::x2::x3::x4::l)) [114,101,99]) ?_
   simp only[↓zq,zs,ae]
   refine⟨fun h=>(by cases h),fun _=>?_⟩
   rfl
end Go.Proofs.Trees
namespace Go.Proofs.Trees
open Go Go.VL
def cN(v:AV)(obs:List Ob):AV->List Ob->Prop:=fun r o=>r=v/\o=obs
theorem a7{P:Program}{n:Nat}{Q:Nat->List AV->List Ob->Prop}{f:Nat}{xs:List AV}{ins:List Ob}{k:AV->List Ob->Tree}{v:AV}{obs:List Ob}(h:ap P f xs ins (cN v obs))(hk:eF P n (k v obs) Q):eF P n (.call f xs ins k) Q :=
 ⟨cN v obs,h,⟨v,obs,rfl,rfl⟩,fun r o ⟨h1,h2⟩=>by rw[h1,h2];exact hk⟩
def Ty.aC:Ty->Nat
 | .plus a b=>1+a.aC+b.aC
 | .times a b=>1+a.aC+b.aC
 | .rc a=>2+a.aC
 |_=>1
theorem D3:∀(t:Ty),t.aC<1000000->ap Tryz.prog 115 [t.av] [] (bH (.v (.int .i64 (t.aC:Int))))
 | .zero,h=>by refine FI _ ((aF _).mpr trivial) ?_;simp[D2,Ty.av,↓zq,zs,ae,bH,Ty.aC]
 | .one,h=>by refine FI _ ((aF _).mpr trivial) ?_;simp[D2,Ty.av,↓zq,zs,ae,bH,Ty.aC]
 | .name s,h=>by refine FI _ ((aF _).mpr trivial) ?_;simp[D2,Ty.av,↓zq,zs,ae,bH,Ty.aC]
 | .bO u,h=>by refine FI _ ((aF _).mpr trivial) ?_;simp[D2,Ty.av,↓zq,zs,ae,bH,Ty.aC]
 |
  .plus a b,h=>by
  simp only[Ty.aC]at h
  refine FI _ ((aF _).mpr trivial) ?_
  simp only[D2,Ty.av,↓zq,zs,ae,aF]
  refine⟨by omega,fun _=>⟨by omega,?_⟩,fun h=>absurd rfl h⟩
  refine an (D3 a (by omega)) ?_
  simp only[↓zq,zs,ae,aF]
  refine⟨by omega,?_⟩
  refine an (D3 b (by omega)) ?_
  simp only[↓zq,zs,ae,bH,Ty.aC]
  rw[wrap64 (1+(a.aC:Int)) (by omega) (by omega),wrap64 _ (by omega) (by omega)]
  congr 2
 |
  .times a b,h=>by
  simp only[Ty.aC]at h
  refine FI _ ((aF _).mpr trivial) ?_
  simp only[D2,Ty.av,↓zq,zs,ae,aF]
  refine⟨by omega,fun h=>by omega,fun _=>⟨fun _=>⟨by omega,?_⟩,fun h=>absurd rfl h⟩⟩
  refine an (D3 a (by omega)) ?_
  simp only[↓zq,zs,ae,aF]
  refine⟨by omega,?_⟩
  refine an (D3 b (by omega)) ?_
  simp only[↓zq,zs,ae,bH,Ty.aC]
  rw[wrap64 (1+(a.aC:Int)) (by omega) (by omega),wrap64 _ (by omega) (by omega)]
  congr 2
 |
  .rc a,h=>by
  simp only[Ty.aC]at h
  refine FI _ ((aF _).mpr trivial) ?_
  simp only[D2,Ty.av,↓zq,zs,ae,aF]
  refine⟨by omega,fun h=>by omega,fun _=>⟨fun h=>by omega,fun _=>⟨fun _=>⟨by omega,?_⟩,fun h=>absurd rfl h⟩⟩⟩
  refine an (D3 a (by omega)) ?_
  simp only[↓zq,zs,ae,bH,Ty.aC]
  rw[wrap64 _ (by omega) (by omega)]
  congr 2
theorem iC:∀(e:E) (ar:List (List UInt8)) (t:Ty),cD e ar=some t->t.aC<=e.sz
 |
  .atom s,ar,t,h=>by
  simp only[cD]at h
  simp only[E.sz]
  split at h
  ·cases h;simp[Ty.aC]
  ·split at h
   ·cases h;simp[Ty.aC]
   ·split at h
    ·cases h;simp[Ty.aC]
    ·split at h
     ·split at h<;>cases h<;>simp[Ty.aC]
     ·cases h
 |
  .list [x,a,b],ar,t,h=>by
  have hs:∀e:E,1<=e.sz:=fun e=>by cases e<;>simp[E.sz];try omega
  have hx:=hs x
  have ha:=hs a
  simp only[E.sz,E.ji]
  by_cases h1:x.at=[43]
  ·rw[kH ar h1]at h
   split at h
   ·rename_i t1 t2 e1 e2
    cases h
    have:=iC a ar t1 e1
    have:=iC b ar t2 e2
    simp only[Ty.aC];omega
   ·cases h
  ·by_cases h2:x.at=[42]
   ·rw[jD ar h2]at h
    split at h
    ·rename_i t1 t2 e1 e2
     cases h
     have:=iC a ar t1 e1
     have:=iC b ar t2 e2
     simp only[Ty.aC];omega
    ·cases h
   ·by_cases h3:x.at=[114,101,99]
    ·rw[mc ar h3]at h
     split at h
     ·split at h
      ·rename_i t1 e1
       cases h
       have:=iC b _ t1 e1
       simp only[Ty.aC];omega
      ·cases h
     ·cases h
    ·rw[iO ar h1 h2 h3]at h;cases h
 | .list [],_,_,h=>by cases h
 | .list [_],_,_,h=>by cases h
 | .list [_,_],_,_,h=>by cases h
 | .list (_::_::_::_::_),_,_,h=>by cases h
def s4(s:List UInt8):Option Ty:=match qk s with
 |none=>none
 |
  some e=>match cD e []with
  |none=>none
  |some t=>if t.aC>400 then none else some t
theorem EK(s:List UInt8):ap Tryz.prog 84 [.v (.string (mk s))] [] (bH (gZ (s4 s))):=by
 refine Qz _ ?_
 unfold Kz
 refine an (JD s) ?_
 unfold s4
 cases he:qk s with
 |none=>simp only[tY,↓zq,zs,ae,bH,gZ];simp
 |
  some e =>
  obtain⟨h1,h2⟩:=nJ he
  simp only[tY,↓zq,zs,ae,cG,dU]
  refine⟨fun h=>(by cases h),fun _=>?_⟩
  refine an (B7 e [] _ h1 .nil (by simp;omega)) ?_
  cases ht:cD e []with
  |none=>simp only[gZ,↓zq,zs,ae,bH];simp
  |
   some t =>
   have:=iC e [] t ht
   simp only[gZ,↓zq,zs,ae,aF,fy]
   refine⟨fun h=>(by cases h),fun _=>?_⟩
   refine an (D3 t (by omega)) ?_
   simp only[↓zq,zs,ae,bH]
   refine⟨fun h=>?_,fun h=>?_⟩
   ·rw[if_pos (by omega)]
   ·rw[if_neg (by omega)]
end Go.Proofs.Trees
namespace Go.Proofs.Trees
open Go Go.VL
def Ak(p:Prop):Nat->List AV->List Ob->Prop:=fun t ys o=>(t=1/\¬p/\ys=[]/\o=[])\/(t=2/\p/\∃j:Nat,ys=[.v (.int .i64 (j:Int))]/\o=[])
theorem IK(l:List (List UInt8))(a:AV)(ha:cZ a l)(s:List UInt8)(hl:l.length<1000000):∀(k i:Nat),i+k=l.length->s∉l.take i->FM [a,.v (.string (mk s)),.v (.int .i64 (l.length:Int)),.v (.int .i64 (i:Int))] []
 (Ak (s∈l))
 |
  0,i,hi,hn=>by
  refine Lv _ _ _ _ ?_
  simp only[EW,↓zq,zs,ae]
  have:l.take i=l:=List.take_of_length_le (by omega)
  rw[this]at hn
  exact⟨ha.1,fun h=>by omega,fun _=>.inl ⟨rfl,hn,rfl,rfl⟩⟩
 |
  k+1,i,hi,hn=>by
  have hlt:i<l.length:=by omega
  refine Lv _ _ _ _ ?_
  simp only[EW,↓zq,zs,ae,zt,ha.len,ha.idx hlt]
  have hm:l.getD i []∈l:=by simp[aa,hlt]
  refine⟨ha.1,fun _=>⟨⟨ha.1,by omega,by omega⟩,by omega,fun h=>?_,fun h=>?_⟩,fun h=>by omega⟩
  ·exact .inr ⟨rfl,by rw[h];exact hm,i,rfl,rfl⟩
  ·rw[bh i (by omega)]
   refine IK l a ha s hl k (i+1) (by omega) ?_
   rw[List.take_add_one]
   simp only[aM,not_or]
   refine⟨hn,?_⟩
   have:l[i]?=some (l.getD i []):=by simp[aa,hlt]
   rw[this];simpa using h
theorem L3(l:List (List UInt8))(a:AV)(ha:cZ a l)(s:List UInt8)(hl:l.length<1000000):ap Tryz.prog 152 [a,.v (.string (mk s))] [] (bH (.v (.bool (decide (s∈l))))):=by
 have hI:ap Tryz.prog 167 [a,.v (.string (mk s))] [] (fun r o=>∃n:Int,r=.v (.int .i64 n)/\(0<=n↔s∈l)/\o=[]):=by
  refine QD _ _ ha.1 ?_
  simp only[Ke,↓zq,zs,ae,ha.len]
  refine⟨ha.1,oC (IK l a ha s hl l.length 0 (by omega) (by simp)) ?_ ?_⟩
  ·rintro ys o (⟨_,h1,rfl,rfl⟩|⟨h,_⟩)
   ·simp only[↓zq,zs,ae]
    exact⟨-1,rfl,⟨fun h=>(by omega),fun h=>absurd h h1⟩⟩
   ·cases h
  ·rintro ys o (⟨h,_⟩|⟨_,h1,j,rfl,rfl⟩)
   ·cases h
   ·simp only[↓zq,zs,ae]
    exact⟨j,rfl,⟨fun _=>h1,fun _=>(by omega)⟩⟩
 refine QJ _ _ ha.1 ?_
 unfold J1
 refine aV hI ⟨.v (.int .i64 (if s∈l then 0 else -1)),[],_,rfl,by split<;>simp_all,rfl⟩ ?_
 rintro r o ⟨n,rfl,hn,rfl⟩
 simp only[↓zq,zs,ae,bH]
 congr 2
 rw[cq];simp[hn]
def pk(out:List (List UInt8)):Ty->List (List UInt8)
 | .name s=>if s∈out then out else out++[s]
 |_=>out
theorem EL(t:Ty)(out:List (List UInt8))(hl:out.length<100000):ap Tryz.prog 166 [t.av,.ref 0 0] [.cells [.vec 1],.vec 1 (bw out)] (cN .any [.cells [.vec 1],.vec 1 (bw (pk out t))]):=by
 refine OH _ _ ((aF _).mpr trivial) ?_
 have hlen:(bw out).length=out.length:=by simp[bw]
 cases t with
 |
  name s =>
  simp only[EE,Ty.av,↓zq,zs,ae,cN,hlen]
  refine⟨by omega,fun _=>⟨by omega,?_⟩,fun h=>absurd rfl h⟩
  refine an (L3 out _ (.of out) s (by omega)) ?_
  simp only[↓zq,zs,ae,pk]
  refine⟨fun h=>⟨by omega,⟨fun c hc=>(by simp at hc;rw[hc];rfl),by omega⟩,?_⟩,fun h=>?_⟩
  ·rw[BS,if_neg h]
  ·rw[if_pos h]
 |_=>simp[EE,Ty.av,↓zq,zs,ae,cN,pk]
def bM:Ty->List (List UInt8)->List (List UInt8)
 | .name s,out=>pk out (.name s)
 | .plus a b,out=>bM b (bM a out)
 | .times a b,out=>bM b (bM a out)
 | .rc a,out=>bM a out
 |_,out=>out
theorem eD:∀(t:Ty) (out:List (List UInt8)),(bM t out).length<=out.length+t.aC
 | .name s,out=>by simp only[bM,pk,Ty.aC];split<;>simp
 |
  .plus a b,out=>by
  have:=eD a out
  have:=eD b (bM a out)
  simp only[bM,Ty.aC];omega
 |
  .times a b,out=>by
  have:=eD a out
  have:=eD b (bM a out)
  simp only[bM,Ty.aC];omega
 |
  .rc a,out=>by
  have:=eD a out
  simp only[bM,Ty.aC];omega
 | .zero,out=>by simp[bM]
 | .one,out=>by simp[bM]
 | .bO u,out=>by simp[bM]
theorem zg:∀(t:Ty) (out:List (List UInt8)),out.length+t.aC<100000->ap Tryz.prog 165 [t.av,.fn 166 [.ref 0 0]] [.cells [.vec 1],.vec 1 (bw out)] (cN .any [.cells [.vec 1],.vec 1 (bw (bM t out))])
 |
  .plus a b,out,hl=>by
  simp only[Ty.aC]at hl
  have:=eD a out
  refine wi _ _ ((aF _).mpr trivial) ?_
  unfold Eg
  refine a7 (EL (.plus a b) out (by omega)) ?_
  simp only[Ty.av,↓zq,zs,ae,aF,fy,pk,aK,cN]
  refine⟨by omega,fun _=>⟨by omega,?_⟩,fun h=>(by cases h)⟩
  refine a7 (zg a out (by omega)) ?_
  simp only[↓zq,zs,ae,aF,fy,aK]
  refine⟨by omega,fun _=>⟨by omega,?_⟩,fun h=>(by cases h)⟩
  refine a7 (zg b (bM a out) (by omega)) ?_
  simp only[↓zq,zs,ae,aK,bM]
 |
  .times a b,out,hl=>by
  simp only[Ty.aC]at hl
  have:=eD a out
  refine wi _ _ ((aF _).mpr trivial) ?_
  unfold Eg
  refine a7 (EL (.times a b) out (by omega)) ?_
  simp only[Ty.av,↓zq,zs,ae,aF,fy,pk,aK,cN]
  refine⟨by omega,fun _=>⟨by omega,?_⟩,fun h=>(by cases h)⟩
  refine a7 (zg a out (by omega)) ?_
  simp only[↓zq,zs,ae,aF,fy,aK]
  refine⟨by omega,fun _=>⟨by omega,?_⟩,fun h=>(by cases h)⟩
  refine a7 (zg b (bM a out) (by omega)) ?_
  simp only[↓zq,zs,ae,aK,bM]
 |
  .rc a,out,hl=>by
  simp only[Ty.aC]at hl
  refine wi _ _ ((aF _).mpr trivial) ?_
  unfold Eg
  refine a7 (EL (.rc a) out (by omega)) ?_
  simp only[Ty.av,↓zq,zs,ae,aF,fy,pk,aK,cN]
  refine⟨by omega,fun _=>⟨by omega,?_⟩,fun h=>(by cases h)⟩
  refine a7 (zg a out (by omega)) ?_
  simp[↓zq,zs,ae,aF,fy,aK,bM]
 |
  .name s,out,hl=>by
  refine wi _ _ ((aF _).mpr trivial) ?_
  unfold Eg
  refine a7 (EL (.name s) out (by omega)) ?_
  simp[Ty.av,↓zq,zs,ae,aK,cN,bM]
 |
  .zero,out,hl=>by
  refine wi _ _ ((aF _).mpr trivial) ?_
  unfold Eg
  refine a7 (EL .zero out (by omega)) ?_
  simp[Ty.av,↓zq,zs,ae,aK,cN,bM,pk]
 |
  .one,out,hl=>by
  refine wi _ _ ((aF _).mpr trivial) ?_
  unfold Eg
  refine a7 (EL .one out (by omega)) ?_
  simp[Ty.av,↓zq,zs,ae,aK,cN,bM,pk]
 |
  .bO u,out,hl=>by
  refine wi _ _ ((aF _).mpr trivial) ?_
  unfold Eg
  refine a7 (EL (.bO u) out (by omega)) ?_
  simp[Ty.av,↓zq,zs,ae,aK,cN,bM,pk]
theorem LF(t:Ty)(hl:t.aC<100000):ap Tryz.prog 150 [t.av] [] (bH (.sl (bw (bM t [])))):=by
 refine OC _ ((aF _).mpr trivial) ?_
 unfold Io
 refine a7 (zg t [] (by simpa using hl)) ?_
 simp[↓zq,zs,ae,aK,bH]
theorem Ma(l:List (List UInt8))(a:AV)(ha:cZ a l)(hl:l.length<1000000):∀(k i:Nat),i+k=l.length->(∀s,s∈l.take i->cS s=false)->F0 [a,.v (.func (.func 146) #[] #[]),.v (.int .i64 (l.length:Int)),.v (.int .i64 (i:Int))] []
 (Ak (l.any cS=true))
 |
  0,i,hi,hn=>by
  refine My _ _ _ ?_
  simp only[Eu,↓zq,zs,ae]
  have:l.take i=l:=List.take_of_length_le (by omega)
  rw[this]at hn
  exact⟨ha.1,fun h=>by omega,fun _=>.inl ⟨rfl,fun hh=>(by obtain⟨x,hx,hy⟩:=bY.1 hh;rw[hn x hx]at hy;cases hy),rfl,rfl⟩⟩
 |
  k+1,i,hi,hn=>by
  have hlt:i<l.length:=by omega
  refine My _ _ _ ?_
  simp only[Eu,↓zq,zs,ae,zt,ha.len,ha.idx hlt]
  have hm:l.getD i []∈l:=by simp[aa,hlt]
  refine⟨ha.1,fun _=>⟨⟨ha.1,by omega,by omega⟩,by omega,?_⟩,fun h=>by omega⟩
  refine an (Cm _) ?_
  simp only[↓zq,zs,ae]
  refine⟨fun h=>?_,fun h=>?_⟩
  ·exact .inr ⟨rfl,bY.2 ⟨_,hm,h⟩,i,rfl,rfl⟩
  ·rw[bh i (by omega)]
   refine Ma l a ha hl k (i+1) (by omega) ?_
   intro s hs
   rw[List.take_add_one]at hs
   have:l[i]?=some (l.getD i []):=by simp[aa,hlt]
   rw[this]at hs
   rcases aM.1 hs with hs|hs
   ·exact hn s hs
   ·simp at hs;rw[hs];simpa using h
theorem O2(l:List (List UInt8))(a:AV)(ha:cZ a l)(hl:l.length<1000000):ap Tryz.prog 153 [a,.v (.func (.func 146) #[] #[])] [] (bH (.v (.bool (l.any cS)))):=by
 have hI:ap Tryz.prog 168 [a,.v (.func (.func 146) #[] #[])] [] (fun r o=>∃n:Int,r=.v (.int .i64 n)/\(0<=n↔l.any cS=true)/\o=[]):=by
  refine Pb _ ha.1 ?_
  simp only[Is,↓zq,zs,ae,ha.len]
  refine⟨ha.1,oC (Ma l a ha hl l.length 0 (by omega) (by simp)) ?_ ?_⟩
  ·rintro ys o (⟨_,h1,rfl,rfl⟩|⟨h,_⟩)
   ·simp only[↓zq,zs,ae]
    exact⟨-1,rfl,⟨fun h=>(by omega),fun h=>absurd h h1⟩⟩
   ·cases h
  ·rintro ys o (⟨h,_⟩|⟨_,h1,j,rfl,rfl⟩)
   ·cases h
   ·simp only[↓zq,zs,ae]
    exact⟨j,rfl,⟨fun _=>h1,fun _=>(by omega)⟩⟩
 refine Pw _ ha.1 ?_
 unfold Le
 refine aV hI ⟨.v (.int .i64 (if l.any cS=true then 0 else -1)),[],_,rfl,by split<;>simp_all,rfl⟩ ?_
 rintro r o ⟨n,rfl,hn,rfl⟩
 simp only[↓zq,zs,ae,bH]
 congr 2
 rw[cq];simp only[decide_eq_true_eq,ge_iff_le,hn]
def Ty.closed(t:Ty):Bool:=!((bM t []).any cS)
theorem Ql(t:Ty)(hl:t.aC<100000):ap Tryz.prog 122 [t.av] [] (bH (.v (.bool t.closed))):=by
 refine NN _ ((aF _).mpr trivial) ?_
 unfold Ky
 refine an (LF t hl) ?_
 simp only[↓zq,zs,ae]
 have:=eD t []
 refine an (O2 _ _ (.of _) (by simp at this;omega)) ?_
 simp only[↓zq,zs,ae,bH,Ty.closed]
def wj(s:List UInt8):Option Ty:=match s4 s with
 |none=>none
 |some t=>if t.closed=true then some t else none
theorem s6{s:List UInt8}{t:Ty}(h:s4 s=some t):t.aC<=400:=by
 unfold s4 at h
 split at h
 ·cases h
 ·split at h
  ·cases h
  ·split at h<;>cases h
   omega
theorem Ka(s:List UInt8):ap Tryz.prog 87 [.v (.string (mk s))] [] (bH (gZ (wj s))):=by
 refine Ok _ ?_
 unfold Md
 refine an (EK s) ?_
 unfold wj
 cases ht:s4 s with
 |none=>simp[gZ,↓zq,zs,ae,bH]
 |
  some t =>
  have:=s6 ht
  simp only[gZ,↓zq,zs,ae,aF,fy]
  refine⟨fun h=>(by cases h),fun _=>?_⟩
  refine an (Ql t (by omega)) ?_
  simp only[↓zq,zs,ae,bH]
  refine⟨fun h=>?_,fun h=>?_⟩
  ·rw[if_neg (by rw[h];simp)]
  ·rw[if_pos h]
end Go.Proofs.Trees
namespace Go.Proofs.Trees
open Go Go.VL
theorem QM(b:UInt8):ap Tryz.prog 141 [.v (.int .u8 (b.toNat:Int))] [] (bH (.v (.bool (eH b)))):=by
 refine Qm _ ?_
 simp only[Il,↓zq,zs,ae,bH,eH]
 repeat' (apply aI<;>intro _)
 all_goals first|(congr 2;rw[cq];simp;omega)|(congr 2;simp;omega)
def CB(s:List UInt8)(x:Option (E×List UInt8)):AV->List Ob->Prop:=fun r o=>o=[] /\
 match x with
 |some (e,u)=>r=.cQ [e.ko,.v (.int .i64 ((s.length-u.length:Nat):Int))]
 |none=>∃(c:List UInt8) (d:AV),LK.sl.has d/\r=.cQ [.agg [.v (.string (mk c)),d],.v (.int .i64 (-1))]
theorem CB.ne(s:List UInt8)(x:Option (E×List UInt8)):∃r o,CB s x r o:=by
 cases x with
 |some q=>exact⟨_,_,rfl,rfl⟩
 |none=>exact⟨_,_,rfl,[],.v (.slice none 0 0),(be).mpr trivial,rfl⟩
def jc(c:List UInt8)(d:AV):Ob:=.cells [.v (.string (mk c)),d]
theorem Kv(s:List UInt8)(hs:s.length<=8000)(from_:Int)(c1 c2:List UInt8)(d1 d2:AV)(h1:LK.sl.has d1)(h2:LK.sl.has d2):∀(k i:Nat),i+k=s.length->Fq [.v (.string (mk s)),.v (.int .i64 (i:Int)),.v (.int .i64 from_)] [jc c1 d1,jc c2 d2]
 (ga 1 [.v (.string (mk s)),.v (.int .i64 ((i+((s.drop i).takeWhile eH).length:Nat):Int)),.v (.int .i64 from_)] [jc c1 d1,jc c2 d2])
 |
  0,i,hi=>by
  refine Lz _ _ _ _ _ _ _ ?_
  have hd:s.drop i=[]:=bG (by omega)
  simp only[E7,↓zq,zs,ae,zt]
  exact⟨h1,h2,fun h=>by omega,fun _=>by simp[ga,hd,jc]⟩
 |
  k+1,i,hi=>by
  have hlt:i<s.length:=by omega
  refine Lz _ _ _ _ _ _ _ ?_
  simp only[E7,↓zq,zs,ae,zt,lN s i hlt]
  refine⟨h1,h2,fun _=>⟨by omega,?_⟩,fun h=>by omega⟩
  refine an (QM _) ?_
  simp only[↓zq,zs,ae]
  refine⟨fun hb=>?_,fun hb=>?_⟩
  ·rw[bh i (by omega)]
   have:=Kv s hs from_ c1 c2 d1 d2 h1 h2 k (i+1) (by omega)
   rw[xl hlt hb,show i+(((s.drop (i+1)).takeWhile eH).length+1)=i+1+((s.drop (i+1)).takeWhile eH).length by omega]
   exact this
  ·simp[ga,qi hlt hb,jc]
def Rc(s:List UInt8)(x:Option (E×List UInt8)):Nat->List AV->List Ob->Prop:=fun t ys o=>t=2 /\
 match x with
 |some (e,u)=>∃l,e=.list l/\ys=[.v (.int .i64 ((s.length-u.length:Nat):Int))]/\o=[jc [] .any,.vec 2 (E.bj l)]
 |none=>∃es,ys=[.v (.int .i64 (-1))]/\o=[jc [] .any,.vec 2 es]
theorem yy(e:E):(e.ko=.agg e.ko.cs/\e.ko.cs.length=2/\cc [.str,.sl] e.ko.cs 0)=True:=by
 apply eq_true
 cases e<;>simp[E.ko,E.hJ,zN,cc,eV,be,ci]
theorem wM(e:E):[AV.v (.string ((e.ko.cs.getD 0 .any).ah)),e.ko.cs.getD 1 .any]=e.hJ:=by
 cases e<;>rfl
theorem drop_cons{s:List UInt8}{j:Nat}(hj:j<s.length):s.drop j=s.getD j 0::s.drop (j+1):=by
 rw[aL hj];simp[aa,hj]
theorem IE(s:List UInt8)(hs:s.length<=8000)(d:Nat)(hd:d<=300)(f:List UInt8->Option (E×List UInt8))(hf:∀u e r,f u=some (e,r)->∃j,r=u.drop j/\0<j/\j<=u.length)
 (ih:∀j,j<=s.length->ap Tryz.prog 104 [.v (.string (mk s)),.v (.int .i64 (j:Int)),.v (.int .i64 ((d+1:Nat):Int))] [] (CB s (f (s.drop j)))) :
 ∀(n i:Nat) (acc:List E) (c1:List UInt8) (d1:AV),LK.sl.has d1->s.length-(i+1)<n->i<s.length->s.length-i+acc.length<=8001->FL [.v (.string (mk s)),.v (.int .i64 (i:Int)),.v (.int .i64 (d:Int))] [jc c1 d1,jc [] .any,.vec 2 (E.bj acc)]
  (Rc s (rV f n (s.drop (i+1)) acc))
 |0,i,acc,c1,d1,h1,hn,_,_=>by omega
 |
  n+1,i,acc,c1,d1,h1,hn,hi,hl=>by
  refine OW _ _ _ _ _ _ _ ?_
  simp only[Lx,↓zq,zs,ae,jc]
  refine⟨h1,?_⟩
  rw[bh i (by omega),bh d (by omega)]
  refine aV (ih (i+1) (by omega)) (CB.ne _ _) ?_
  rintro r o ⟨rfl,hr⟩
  have hff:=hf (s.drop (i+1))
  unfold rV
  cases hq:f (s.drop (i+1))with
  |
   none =>
   rw[hq]at hr
   obtain⟨c,d',hd',rfl⟩:=hr
   simp only[↓zq,zs,ae,zt,cc]
   refine⟨hd',fun _=>⟨rfl,_,rfl,rfl⟩,fun h=>by omega⟩
  |
   some q =>
   obtain⟨e,u⟩:=q
   rw[hq]at hr
   subst hr
   obtain⟨j,hu,hj0,hj⟩:=hff e u hq
   rw[List.drop_drop]at hu
   simp only[cd]at hj
   have hul:u.length=s.length-(i+1+j):=by rw[hu,cd]
   have hpos:s.length-u.length=i+1+j:=by omega
   simp only[↓zq,zs,ae,zt,yy,hpos,wM,dO]
   refine⟨fun h=>by omega,fun _=>⟨fun h=>?_,fun h=>⟨⟨fun c hc=>(by simp at hc;rw[hc];cases e<;>rfl),by omega⟩,?_⟩⟩⟩
   ·have:u=[]:=by rw[hu];exact bG (by omega)
    subst this
    exact⟨rfl,_,rfl,rfl⟩
   ·have hlt:i+1+j<s.length:=by omega
    rw[drop_cons hlt]at hu
    subst hu
    rw[lN s _ hlt]
    generalize hb:s.getD (i+1+j) 0=b
    refine⟨by omega,fun h41=>?_,fun h41=>⟨by omega,fun h32=>?_,fun h32=>?_⟩⟩
    ·have h41':b.toNat=41:=by omega
     dsimp only
     rw[if_pos h41',bh _ (by omega)]
     refine⟨rfl,acc++[e],rfl,?_,?_⟩
     ·rw[cd];congr 3;omega
     ·simp[jc,pL,E.bj]
    ·have h41':¬b.toNat=41:=by omega
     have h32':¬b.toNat=32:=by omega
     dsimp only
     rw[if_neg h41',if_neg h32']
     exact⟨rfl,_,rfl,rfl⟩
    ·have h41':¬b.toNat=41:=by omega
     have h32':b.toNat=32:=by omega
     dsimp only
     rw[if_neg h41',if_pos h32']
     have:=IE s hs d hd f hf ih n (i+1+j) (acc++[e]) c1 d1 h1 (by omega) hlt (by simp;omega)
     simpa[jc,pL,E.bj]using this
theorem Dz(k:Nat)(u:List UInt8)(e:E)(r:List UInt8)(h:rd k u=some (e,r)):∃j,r=u.drop j/\0<j/\j<=u.length:=by
 have suf:∀(k:Nat) (u:List UInt8) (e:E) (r:List UInt8),rd k u=some (e,r)->r <:+ u:=by
  intro k
  have tw:∀u:List UInt8,u.dropWhile eH <:+ u:=fun u=>List.dropWhile_suffix _
  have ll:∀(f:List UInt8->Option (E×List UInt8)),(∀u e r,f u=some (e,r)->r <:+ u)->∀(n:Nat) (u:List UInt8) (acc:List E) (e:E) (r:List UInt8),rV f n u acc=some (e,r)->r <:+ u:=by
   intro f hf n
   induction n with
   |zero=>intro u acc e r h;cases h
   |
    succ n ih =>
    intro u acc e r h
    simp only[rV]at h
    split at h
    ·rename_i p c r' hs
     have h1:r' <:+ u:=(List.suffix_cons c r').trans (hf _ _ _ hs)
     split at h
     ·cases h;exact h1
     ·split at h
      ·exact(ih _ _ _ _ h).trans h1
      ·cases h
    ·cases h
  induction k with
  |
   zero =>
   intro u e r h
   simp only[rd]at h
   split at h
   ·cases h
   ·cases h;exact tw u
  |
   succ k ih =>
   intro u e r h
   simp only[rd]at h
   split at h
   ·split at h
    ·split at h
     ·exact(ll _ ih _ _ _ _ _ h).trans (List.suffix_cons _ _)
     ·cases h
    ·cases h
   ·cases h;exact tw u
 obtain⟨p,hp⟩:=suf k u e r h
 have hlt:=xY k u e r h
 have:=congrArg List.length hp
 simp only[al]at this
 exact⟨p.length,by rw[<-hp];simp,by omega,by omega⟩
theorem Bc(n:Nat)(u:List UInt8)(acc:List E):rV (fun _=>none) n u acc=none:=by
 cases n<;>rfl
theorem N9(s:List UInt8)(j:Nat):ap Tryz.prog 104 [.v (.string (mk s)),.v (.int .i64 (j:Int)),.v (.int .i64 ((300+1:Nat):Int))] [] (CB s none):=by
 refine MJ _ _ _ ?_
 simp only[EM,↓zq,zs,ae]
 exact⟨fun _=>⟨rfl,[],_,(be).mpr trivial,rfl⟩,fun h=>by omega⟩
theorem pW(s:List UInt8)(hs:s.length<=8000)(d i:Nat)(hd:d<=300)(hi:i<=s.length)(f:List UInt8->Option (E×List UInt8))(hf:∀u e r,f u=some (e,r)->∃j,r=u.drop j/\0<j/\j<=u.length)
 (ih:∀j,j<=s.length->ap Tryz.prog 104 [.v (.string (mk s)),.v (.int .i64 (j:Int)),.v (.int .i64 ((d+1:Nat):Int))] [] (CB s (f (s.drop j)))) (x:Option (E×List UInt8))
 (h0:i=s.length->x=none)
 (h1:i<s.length->(s.drop i).takeWhile eH≠[]->x=some (.atom ((s.drop i).takeWhile eH),(s.drop i).dropWhile eH))
 (h2:i<s.length->(s.drop i).takeWhile eH=[]->¬(s.getD i 0).toNat=40->x=none)
 (h3:i<s.length->(s.getD i 0).toNat=40->x=rV f (s.length-(i+1)+1) (s.drop (i+1)) []) :
 ap Tryz.prog 104 [.v (.string (mk s)),.v (.int .i64 (i:Int)),.v (.int .i64 (d:Int))] [] (CB s x):=by
 refine MJ _ _ _ ?_
 simp only[EM,↓zq,zs,ae,zt]
 refine⟨fun h=>by omega,fun _=>⟨fun h=>?_,fun h=>⟨by omega,?_⟩⟩⟩
 ·rw[h0 (by omega)]
  exact⟨rfl,[],_,(be).mpr trivial,rfl⟩
 ·have hlt:i<s.length:=by omega
  rw[lN s i hlt]
  refine⟨fun h40=>?_,fun h40=>?_⟩
  ·have h40':¬(s.getD i 0).toNat=40:=by omega
   refine cb (Kv s hs _ [] [] _ _ ((be).mpr trivial) ((be).mpr trivial) (s.length-i) i (by omega)) ?_
   have hex:(List.take (i+((s.drop i).takeWhile eH).length) s).drop i=(s.drop i).takeWhile eH:=by
    rw[List.drop_take,Nat.add_sub_cancel_left];exact tn _
   have hle:i+((s.drop i).takeWhile eH).length<=s.length:=by
    have:=tW (s.drop i);simp only[cd]at this;omega
   simp only[jc,↓zq,zs,ae,zt,hex]
   refine⟨by omega,fun hnil=>?_,fun hnil=>?_⟩
   ·rw[h2 hlt hnil h40',hnil]
    exact⟨rfl,[],_,(be).mpr trivial,rfl⟩
   ·rw[h1 hlt hnil]
    refine⟨rfl,?_⟩
    have:=tW (s.drop i)
    simp only[cd]at this
    show _=AV.cQ [E.ko (.atom _),_]
    have e:s.length-((s.drop i).dropWhile eH).length=i+((s.drop i).takeWhile eH).length:=by omega
    rw[e];rfl
  ·have h40':(s.getD i 0).toNat=40:=by omega
   rw[h3 hlt h40']
   refine oC (IE s hs d hd f hf ih (s.length-(i+1)+1) i [] [] _ ((be).mpr trivial) (by omega) hlt (by simp;omega)) ?_ ?_
   ·rintro ys o ⟨h,_⟩;cases h
   ·rintro ys o ⟨_,hr⟩
    cases hq:rV f (s.length-(i+1)+1) (s.drop (i+1)) []with
    |
     none =>
     rw[hq]at hr
     obtain⟨es,rfl,rfl⟩:=hr
     simp only[jc,↓zq,zs,ae]
     exact⟨rfl,[],_,(ci _).mpr trivial,rfl⟩
    |
     some q =>
     obtain⟨e,u⟩:=q
     rw[hq]at hr
     obtain⟨l,rfl,rfl,rfl⟩:=hr
     simp only[jc,↓zq,zs,ae]
     exact⟨rfl,rfl⟩
theorem N3(s:List UInt8)(hs:s.length<=8000):∀(k:Nat),k<=300->∀i,i<=s.length->ap Tryz.prog 104 [.v (.string (mk s)),.v (.int .i64 (i:Int)),.v (.int .i64 ((300-k:Nat):Int))] [] (CB s (rd k (s.drop i))):=by
 intro k
 have hnil:∀k,rd k []=none:=fun k=>by cases k<;>simp[rd]
 have ha40:∀b:UInt8,b.toNat=40->eH b=false:=fun b hb=>by simp[eH,hb]
 induction k with
 |
  zero =>
  intro hk i hi
  refine pW s hs 300 i (by omega) hi (fun _=>none) (fun _ _ _ h=>by cases h) (fun j _=>N9 s j) _ (fun h=>?_) (fun hlt h=>?_) (fun hlt h h40=>?_) (fun hlt h40=>?_)
  ·rw[bG (by omega)];exact hnil 0
  ·simp only[rd,if_neg h]
  ·simp only[rd,if_pos h]
  ·rw[Bc]
   have:(s.drop i).takeWhile eH=[]:=qi hlt (ha40 _ h40)
   simp only[rd,if_pos this]
 |
  succ k ih =>
  intro hk i hi
  have hd:300-(k+1)+1=300-k:=by omega
  refine pW s hs (300-(k+1)) i (by omega) hi (rd k) (Dz k) (fun j hj=>by rw[hd];exact ih (by omega) j hj) _ (fun h=>?_) (fun hlt h=>?_) (fun hlt h h40=>?_) (fun hlt h40=>?_)
  ·rw[bG (by omega)];exact hnil _
  ·simp only[rd,if_neg h]
  ·rw[drop_cons hlt]at h |-
   simp only[rd,if_pos h,if_neg h40]
  ·have h:=qi hlt (ha40 _ h40)
   rw[drop_cons hlt]at h |-
   simp only[rd,if_pos h,if_pos h40,cd]
end Go.Proofs.Trees
namespace Go.Proofs.Trees
open Go Go.VL
theorem iD(e:E):AV.agg [.v (.string ((e.hJ.getD 0 .any).ah)),e.hJ.getD 1 .any]=e.ko:=by cases e<;>rfl
theorem gd(e:E):e.hJ.length=2:=by cases e<;>rfl
theorem iM(e:E):cc [.str,.sl] e.hJ 0=True:=by
 apply eq_true
 cases e<;>simp[E.hJ,cc,eV,be,ci]
theorem mA(e:E):e.hJ.headD .any=.v (.string (mk e.at)):=by cases e<;>rfl
theorem vY(x:E)(l:List E):ap Tryz.prog 71 [.agg [.v (.string (mk [])),.sl (E.bj (x::l))]] [] (bH (.v (.string (mk x.at)))):=by
 refine Ht _ _ ((ci _).mpr trivial) ?_
 simp only[BX,E.bj,↓zq,zs,ae,zt,bH,gd,mA,aq]
 refine⟨fun h=>absurd rfl h,fun _=>⟨fun h=>by omega,fun _=>⟨by omega,by omega⟩⟩⟩
theorem N2:ap Tryz.prog 71 [.agg [.v (.string (mk [])),.sl (E.bj [])]] [] (bH (.v (.string (mk [])))):=by
 refine Ht _ _ ((ci _).mpr trivial) ?_
 simp only[BX,E.bj,↓zq,zs,ae,zt,bH,gd,mA,aq]
 simp
def jT:E->Bool
 | .atom s=>(s==[48])||(s==[49])||gH s||cS s
 | .list [x,a,b]=>if x.at=[43]then jT a&&jT b else if x.at=[42]then jT a&&jT b else if x.at=[114,101,99]then cS a.at&&jT b else false
 | .list _=>false
theorem zv:∀(e:E),e.ok->ap Tryz.prog 138 [e.ko] [] (bH (.v (.bool (jT e))))
 |
  .atom s,hok=>by
  refine LH _ _ ((be).mpr trivial) ?_
  have hne:s≠[]:=hok
  simp only[wg,↓zq,zs,ae,zt,bH,jT]
  refine⟨fun _=>⟨fun h=>?_,fun h=>⟨fun h1=>?_,fun h1=>?_⟩⟩,fun h=>absurd h hne⟩
  ·simp[h]
  ·simp[h1]
  ·refine an (Fb s) ?_
   simp only[↓zq,zs,ae]
   refine⟨fun hp=>?_,fun hp=>?_⟩
   ·simp[hp]
   ·refine an (FT s) ?_
    simp[↓zq,zs,ae,hp,h,h1]
 |
  .list l,hok=>by
  refine LH _ _ ((ci _).mpr trivial) ?_
  match l,hok with
  |[],hok=>simp[wg,E.bj,↓zq,zs,ae,zt,bH,jT]
  |[x],hok=>simp[wg,E.bj,↓zq,zs,ae,zt,bH,jT]
  |[x,y],hok=>simp[wg,E.bj,↓zq,zs,ae,zt,bH,jT]
  |
   x::y::z::w::l,hok =>
   simp only[wg,E.bj,↓zq,zs,ae,zt,bH,jT]
   exact⟨fun h=>absurd rfl h,fun _=>⟨fun _=>trivial,fun h=>by omega⟩⟩
  |
   [x,y,z],hok =>
   obtain⟨ok1,ok2,ok3,_⟩:=hok
   simp only[wg,↓zq,zs,ae,zt,bH]
   refine⟨fun h=>absurd rfl h,fun _=>⟨fun h=>absurd rfl h,fun _=>?_⟩⟩
   refine an (vY x _) ?_
   simp only[E.bj,toNat_one,bq,↓zq,zs,ae,zt,iD,gd,iM,mA,aq,jT]
   refine⟨fun h=>?_,fun h=>⟨fun h1=>?_,fun h1=>⟨fun h2=>?_,fun h2=>?_⟩⟩⟩
   ·rw[if_pos h]
    refine⟨by omega,an (zv y ok2) ?_⟩
    simp only[↓zq,zs,ae]
    refine⟨fun hy=>⟨by omega,an (zv z ok3) ?_⟩,fun hy=>?_⟩
    ·simp only[↓zq,zs,ae,hy,bJ]
    ·rw[hy];rfl
   ·rw[if_neg h,if_pos h1]
    refine⟨by omega,an (zv y ok2) ?_⟩
    simp only[↓zq,zs,ae]
    refine⟨fun hy=>⟨by omega,an (zv z ok3) ?_⟩,fun hy=>?_⟩
    ·simp only[↓zq,zs,ae,hy,bJ]
    ·rw[hy];rfl
   ·rw[if_neg h,if_neg h1,if_pos h2]
    refine⟨by omega,by omega,an (FT _) ?_⟩
    simp only[↓zq,zs,ae]
    refine⟨fun hy=>⟨by omega,an (zv z ok3) ?_⟩,fun hy=>?_⟩
    ·simp only[↓zq,zs,ae,hy,bJ]
    ·rw[hy];rfl
   ·rw[if_neg h,if_neg h1,if_neg h2]
theorem jB:∀(e:E) (ar:List (List UInt8)),(cD e ar).isSome=jT e
 |
  .atom s,ar=>by
  simp only[cD,jT]
  by_cases h:s=[48]
  ·simp[h]
  ·by_cases h1:s=[49]
   ·simp[h1]
   ·rw[if_neg h,if_neg h1]
    by_cases h2:gH s=true
    ·simp[h2]
    ·rw[if_neg h2]
     by_cases h3:cS s=true
     ·rw[if_pos h3];cases bK s ar ar.length<;>simp[h3]
     ·rw[if_neg h3];simp[h,h1,h2,h3]
 | .list [],_=>rfl
 | .list [_],_=>rfl
 | .list [_,_],_=>rfl
 | .list (_::_::_::_::_),_=>rfl
 |
  .list [x,a,b],ar=>by
  have ha:=jB a ar
  have hb:=jB b ar
  have hb2:=jB b (ar++[a.at])
  rw[jT]
  by_cases h:x.at=[43]
  ·rw[kH ar h,if_pos h,<-ha,<-hb];cases cD a ar<;>cases cD b ar<;>rfl
  ·by_cases h1:x.at=[42]
   ·rw[jD ar h1,if_neg h,if_pos h1,<-ha,<-hb];cases cD a ar<;>cases cD b ar<;>rfl
   ·by_cases h2:x.at=[114,101,99]
    ·rw[mc ar h2,if_neg h,if_neg h1,if_pos h2,<-hb2]
     cases cS a.at<;>cases cD b (ar++[a.at])<;>rfl
    ·rw[iO ar h h1 h2,if_neg h,if_neg h1,if_neg h2];rfl
mutual
def E.en:E->Nat
 | .atom _=>1
 | .list l=>E.fA l
def E.fA:List E->Nat
 |[]=>0
 |e::l=>e.en+E.fA l
end
mutual
theorem AZ:∀e:E,e.en<=e.sz
 | .atom s=>by simp[E.en,E.sz]
 | .list l=>by have:=tS l;simp only[E.en,E.sz];omega
theorem tS:∀l:List E,E.fA l<=E.ji l
 |[]=>by simp[E.fA,E.ji]
 |e::l=>by have:=AZ e;have:=tS l;simp only[E.fA,E.ji];omega
end
theorem ju:∀(l:List E) (i:Nat) (h:i<l.length),(E.bj l).getD i []=(l[i]).hJ
 |e::l,0,_=>rfl
 |
  e::l,i+1,h=>by
  have:=ju l i (by simpa using h)
  simp only[E.bj,List.getD_cons_succ,List.getElem_cons_succ];exact this
theorem zF:∀(l:List E) (i:Nat) (h:i<l.length),E.fA (l.drop i)=(l[i]).en+E.fA (l.drop (i+1)):=by
 intro l i h
 rw[aL h];rfl
theorem tJ:∀(l:List E) (i:Nat) (h:i<l.length),E.CV l->(l[i]).ok
 |e::l,0,_,h=>h.1
 |e::l,i+1,hi,h=>tJ l i (by simpa using hi) h.2
theorem Kf(l:List E)(hl:E.fA l<1000000)(hll:l.length<1000000)(ih:∀i (h:i<l.length),ap Tryz.prog 109 [(l[i]).ko] [] (bH (.v (.int .i64 ((l[i]).en:Int))))) :
 ∀(k i n:Nat),i+k=l.length->n+E.fA (l.drop i)<=E.fA l->F2 [.v (.int .i64 (n:Int)),.v (.int .i64 (i:Int))] [.cells [.v (.string (mk [])),.sl (E.bj l)]] (ga 1 [.v (.int .i64 ((n+E.fA (l.drop i):Nat):Int))] [])
 |
  0,i,n,hi,hn=>by
  refine KJ _ _ _ _ ?_
  simp only[GK,↓zq,zs,ae,dO]
  have:l.drop i=[]:=bG (by omega)
  refine⟨fun h=>by omega,fun _=>?_⟩
  simp[ga,this,E.fA]
 |
  k+1,i,n,hi,hn=>by
  have hlt:i<l.length:=by omega
  refine KJ _ _ _ _ ?_
  simp only[GK,↓zq,zs,ae,zt,dO,ju l i hlt,gd,iM,iD,aq]
  refine⟨fun _=>⟨by omega,?_⟩,fun h=>by omega⟩
  refine an (ih i hlt) ?_
  have h1:=zF l i hlt
  simp only[↓zq,zs,ae]
  rw[bh i (by omega),wrap64 _ (by omega) (by omega)]
  have:=Kf l hl hll ih k (i+1) (n+(l[i]).en) (by omega) (by omega)
  rw[h1,<-Nat.add_assoc]
  simpa using this
theorem um:∀l:List E,l.length<=E.ji l
 |[]=>by simp[E.ji]
 |
  e::l=>by
  have:=um l
  have:1<=e.sz:=by cases e<;>simp[E.sz]
  simp only[E.ji,au];omega
theorem tz:∀(l:List E) (i:Nat) (h:i<l.length),(l[i]).sz<=E.ji l
 |e::l,0,_=>by simp[E.ji]
 |e::l,i+1,h=>by have:=tz l i (by simpa using h);simp only[E.ji,List.getElem_cons_succ];omega
theorem I8:∀(n:Nat) (e:E),e.sz<n->e.ok->e.sz<1000000->ap Tryz.prog 109 [e.ko] [] (bH (.v (.int .i64 (e.en:Int))))
 |0,e,hn,_,_=>by omega
 |
  n+1,.atom s,hn,hok,hl=>by
  refine JW _ _ ((be).mpr trivial) ?_
  have hne:s≠[]:=hok
  simp only[GX,↓zq,zs,ae,zt,bH]
  exact⟨fun _=>rfl,fun h=>absurd h hne⟩
 |
  n+1,.list l,hn,hok,hl=>by
  refine JW _ _ ((ci _).mpr trivial) ?_
  simp only[E.sz]at hn hl
  have h1:=tS l
  have h2:=um l
  simp only[GX,↓zq,zs,ae,zt,bH]
  refine⟨fun h=>absurd rfl h,fun _=>?_⟩
  refine cb (Kf l (by omega) (by omega) (fun i hi=>?_) l.length 0 0 (by omega) (by simp)) ?_
  ·have:=tz l i hi
   exact I8 n (l[i]) (by omega) (tJ l i hi hok) (by omega)
  ·simp[↓zq,zs,ae,E.en]
theorem H8(e:E)(h:e.ok)(hl:e.sz<1000000):ap Tryz.prog 109 [e.ko] [] (bH (.v (.int .i64 (e.en:Int)))):=I8 (e.sz+1) e (by omega) h hl
theorem tj{x:E}(h:x.at≠[]):x.en=1:=by cases x<;>simp[E.at,E.en]at h |-
theorem A1{s:List UInt8}(h:cS s=true):s≠[]:=by rintro rfl;cases h
theorem jM:∀(e:E) (ar:List (List UInt8)) (t:Ty),cD e ar=some t->e.en=t.aC
 |
  .atom s,ar,t,h=>by
  simp only[cD]at h
  simp only[E.en]
  split at h
  ·cases h;rfl
  ·split at h
   ·cases h;rfl
   ·split at h
    ·cases h;rfl
    ·split at h
     ·split at h<;>cases h<;>rfl
     ·cases h
 | .list [],_,_,h=>by cases h
 | .list [_],_,_,h=>by cases h
 | .list [_,_],_,_,h=>by cases h
 | .list (_::_::_::_::_),_,_,h=>by cases h
 |
  .list [x,a,b],ar,t,h=>by
  simp only[E.en,E.fA]
  by_cases h0:x.at=[43]
  ·rw[kH ar h0]at h
   have:=tj (x:=x) (by rw[h0];simp)
   split at h
   ·rename_i t1 t2 e1 e2
    cases h
    have:=jM a ar _ e1
    have:=jM b ar _ e2
    simp only[Ty.aC];omega
   ·cases h
  ·by_cases h1:x.at=[42]
   ·rw[jD ar h1]at h
    have:=tj (x:=x) (by rw[h1];simp)
    split at h
    ·rename_i t1 t2 e1 e2
     cases h
     have:=jM a ar _ e1
     have:=jM b ar _ e2
     simp only[Ty.aC];omega
    ·cases h
   ·by_cases h2:x.at=[114,101,99]
    ·rw[mc ar h2]at h
     have:=tj (x:=x) (by rw[h2];simp)
     split at h
     ·rename_i hl
      have:=tj (A1 hl)
      split at h
      ·rename_i t1 e1
       cases h
       have:=jM b _ _ e1
       simp only[Ty.aC];omega
      ·cases h
     ·cases h
    ·rw[iO ar h0 h1 h2]at h;cases h
def mD(x:Option E)(b:Bool):AV->List Ob->Prop:=fun r o=>∃c:List UInt8,∃d:AV,LK.sl.has d/\r=.cQ [.agg [.v (.string (mk c)),d],.v (.bool b)]/\(b=true->∃e,x=some e/\AV.agg [.v (.string (mk c)),d]=e.ko)
theorem Bv(e:E):∃c:List UInt8,∃d:AV,LK.sl.has d/\e.ko=AV.agg [.v (.string (mk c)),d]:=by
 cases e with
 |atom s=>exact⟨s,_,(be).mpr trivial,rfl⟩
 |list l=>exact⟨[],_,(ci _).mpr trivial,rfl⟩
theorem mD.ne(x:Option E)(b:Bool)(h:b=true->x.isSome=true):∃r o,mD x b r o:=by
 cases b with
 |false=>exact⟨_,[],[],.v (.slice none 0 0),(be).mpr trivial,rfl,fun h=>by cases h⟩
 |
  true =>
  cases x with
  |none=>cases h rfl
  |
   some e =>
   obtain⟨c,d,hd,he⟩:=Bv e
   exact⟨_,[],c,d,hd,rfl,fun _=>⟨e,rfl,he.symm⟩⟩
theorem IC(s:List UInt8):ap Tryz.prog 73 [.v (.string (mk s))] [] (mD (qk s) (qk s).isSome):=by
 refine PG _ ?_
 simp only[JT,↓zq,zs,ae,zt,qk]
 refine⟨fun h=>?_,fun h=>?_⟩
 ·rw[if_pos (by omega)]
  exact⟨[],_,(be).mpr trivial,rfl,fun h=>by cases h⟩
 ·rw[if_neg (by omega)]
  refine aV (N3 s (by omega) 300 (by omega) 0 (by omega)) (CB.ne _ _) ?_
  rintro r o ⟨rfl,hr⟩
  rw[aX]at hr
  cases hq:rd 300 s with
  |
   none =>
   rw[hq]at hr
   obtain⟨c,d,hd,rfl⟩:=hr
   simp only[↓zq,zs,ae,zt,cc]
   refine⟨hd,c,d,hd,?_,fun h=>by cases h⟩
   have:((-1:Int)==(s.length:Int))=false:=by
    rw[beq_eq_false_iff_ne];omega
   rw[this];rfl
  |
   some q =>
   obtain⟨e,u⟩:=q
   rw[hq]at hr
   subst hr
   have hlt:=xY _ _ _ _ hq
   obtain⟨c,d,hd,he⟩:=Bv e
   simp only[he,↓zq,zs,ae,zt,cc]
   cases u with
   |
    nil =>
    refine⟨hd,c,d,hd,?_,fun _=>⟨e,rfl,he.symm⟩⟩
    simp
   |
    cons b u =>
    simp only[au]at hlt |-
    refine⟨hd,c,d,hd,?_,fun h=>by cases h⟩
    have:(((s.length-(u.length+1):Nat):Int)==(s.length:Int))=false:=by simp;omega
    rw[this];rfl
def xd(s:List UInt8):Option E:=match qk s with
 |none=>none
 |some e=>if jT e=true/\e.en<=400 then some e else none
theorem QB(s:List UInt8):ap Tryz.prog 97 [.v (.string (mk s))] [] (mD (xd s) (xd s).isSome):=by
 refine Pv _ ?_
 unfold K8
 refine aV (IC s) (mD.ne _ _ (fun h=>h)) ?_
 rintro r o ⟨c,d,hd,rfl,hh⟩
 simp only[↓zq,zs,ae,zt,cc,xd]
 refine⟨hd,fun h=>?_,fun h=>?_⟩
 ·obtain⟨e,he,hce⟩:=hh h
  obtain⟨hok,hsz⟩:=nJ he
  rw[he,hce]
  refine an (zv e hok) ?_
  simp only[↓zq,zs,ae]
  refine⟨fun hi=>?_,fun hi=>?_⟩
  ·refine an (H8 e hok (by omega)) ?_
   simp only[↓zq,zs,ae,hi]
   refine⟨c,d,hd,?_,?_⟩
   ·rw[hce]
    by_cases h4:e.en<=400
    ·rw[if_pos h4];exact congrArg (fun b=>AV.cQ [e.ko,.v (.bool b)]) (decide_eq_true (show ((e.en:Nat):Int)<=400 by omega))
    ·rw[if_neg h4];exact congrArg (fun b=>AV.cQ [e.ko,.v (.bool b)]) (decide_eq_false (show ¬((e.en:Nat):Int)<=400 by omega))
   ·split
    ·exact fun _=>⟨e,rfl,hce⟩
    ·exact fun h=>by cases h
  ·refine⟨c,d,hd,?_,?_⟩
   ·rw[hce,if_neg (by rw[hi];simp)];rfl
   ·rw[if_neg (by rw[hi];simp)];exact fun h=>by cases h
 ·have hn:qk s=none:=by cases hq:qk s<;>simp[hq]at h |-
  rw[hn]
  exact⟨c,d,hd,rfl,fun h=>by cases h⟩
theorem qW{s:List UInt8}{e:E}(h:xd s=some e):qk s=some e/\jT e=true/\e.en<=400:=by
 unfold xd at h
 split at h
 ·cases h
 ·split at h
  ·rename_i e' h1 h2;cases h;exact⟨h1,h2⟩
  ·cases h
end Go.Proofs.Trees
namespace Go.Proofs.Trees
open Go Go.VL
def bP:Ty->Bool
 | .name s=>cS s
 | .plus a b=>bP a||bP b
 | .times a b=>bP a||bP b
 | .rc a=>bP a
 |_=>false
theorem gM:∀(t:Ty) (out:List (List UInt8)),(bM t out).any cS=(out.any cS||bP t)
 |
  .name s,out=>by
  simp only[bM,pk,bP]
  split
  ·rename_i h
   cases hs:cS s with
   |false=>simp
   |true=>rw[Bool.or_true,bY];exact⟨s,h,hs⟩
  ·simp
 | .plus a b,out=>by simp only[bM,bP,gM a,gM b,Bool.or_assoc]
 | .times a b,out=>by simp only[bM,bP,gM a,gM b,Bool.or_assoc]
 | .rc a,out=>by simp only[bM,bP,gM a]
 | .zero,out=>by simp[bM,bP]
 | .one,out=>by simp[bM,bP]
 | .bO u,out=>by simp[bM,bP]
theorem sF(t:Ty):t.closed = !bP t:=by simp[Ty.closed,gM]
def pl:Ty->Bool
 | .name s=>decide (s.length<=1)
 | .plus a b=>pl a&&pl b
 | .times a b=>pl a&&pl b
 | .rc a=>false
 |_=>true
theorem kV{lo hi:Nat}{s:List UInt8}(h:named lo hi s=true):∃c r,s=c::r/\lo<=c.toNat/\c.toNat<=hi:=by
 cases s with
 |nil=>cases h
 |cons c r=>simp only[named,aw,decide_eq_true_eq]at h;exact⟨c,r,rfl,by omega,by omega⟩
theorem fq{x a b:E}{ar:List (List UInt8)}{t:Ty}(hx:x.at=[43])(h:cD (.list [x,a,b]) ar=some t):∃t1 t2,cD a ar=some t1/\cD b ar=some t2/\t=.plus t1 t2:=by
 rw[kH ar hx]at h
 split at h
 ·rename_i t1 t2 e1 e2;cases h;exact⟨t1,t2,e1,e2,rfl⟩
 ·cases h
theorem eS{x a b:E}{ar:List (List UInt8)}{t:Ty}(hx:x.at=[42])(h:cD (.list [x,a,b]) ar=some t):∃t1 t2,cD a ar=some t1/\cD b ar=some t2/\t=.times t1 t2:=by
 rw[jD ar hx]at h
 split at h
 ·rename_i t1 t2 e1 e2;cases h;exact⟨t1,t2,e1,e2,rfl⟩
 ·cases h
theorem dh{x a b:E}{ar:List (List UInt8)}{t:Ty}(hx:x.at=[114,101,99])(h:cD (.list [x,a,b]) ar=some t):∃t1,cS a.at=true/\cD b (ar++[a.at])=some t1/\t=.rc t1:=by
 rw[mc ar hx]at h
 split at h
 ·rename_i hl
  split at h
  ·rename_i t1 e1;cases h;exact⟨t1,hl,e1,rfl⟩
  ·cases h
 ·cases h
theorem wB{s:List UInt8}:s4 s=match xd s with|none=>none|some e=>cD e []:=by
 unfold s4 xd
 cases he:qk s with
 |none=>rfl
 |
  some e =>
  have hs:=jB e []
  simp only
  cases ht:cD e []with
  |
   none =>
   rw[ht]at hs
   rw[if_neg (by rw[<-hs];simp)]
  |
   some t =>
   rw[ht]at hs
   have ha:=jM e [] t ht
   by_cases h4:e.en<=400
   ·rw[if_pos ⟨hs.symm,h4⟩];dsimp only;rw[if_neg (by omega)];exact ht.symm
   ·rw[if_neg (fun h=>h4 h.2)];dsimp only;rw[if_pos (by omega)]
end Go.Proofs.Trees
namespace Go.Proofs.Trees
open Go Go.VL
def pure:Ty->Bool
 | .zero=>true
 | .one=>true
 | .name s=>(s==[120])||(s==[121])||(s==[122])
 | .plus a b=>pure a&&pure b
 | .times a b=>pure a&&pure b
 |_=>false
def L5(v:Nat):Option Nat:=if v<=1000000000 then some v else none
def HO(n:Nat):Ty->Option Nat
 | .zero=>some 0
 | .one=>some 1
 | .name _=>some n
 | .plus a b=>match HO n a,HO n b with|some x,some y=>L5 (x+y)|_,_=>none
 | .times a b=>match HO n a,HO n b with|some x,some y=>L5 (x*y)|_,_=>none
 |_=>none
def IV(x:Option Nat):AV->List Ob->Prop:=fun r o=>∃v:Int,r=.cQ [.v (.int .i64 v),.v (.bool x.isSome)]/\∀c,x=some c->v=(c:Int)
theorem IV.ne(x:Option Nat):∃r o,IV x r o:=by
 cases x with
 |none=>exact⟨_,[],0,rfl,fun c h=>by cases h⟩
 |some c=>exact⟨_,[],(c:Int),rfl,fun c' h=>by cases h;rfl⟩
end Go.Proofs.Trees
namespace Go.Proofs.Trees
open Go Go.VL Go.RowKit
abbrev dd(n:Nat):List UInt8:=Lib.decDigits n
theorem ep{k:Nat}(h:k<10):dd k=[a8 (48+k)]:=by rw[dd,Lib.decDigits,dif_pos h]
theorem fD{k:Nat}(h:¬k<10):dd k=dd (k/10)++[a8 (48+k%10)]:=by rw[dd,Lib.decDigits,dif_neg h]
theorem pB:∀(n k:Nat),k<n->(dd k).length<=k+1
 |0,k,h=>by omega
 |
  n+1,k,h=>by
  by_cases h1:k<10
  ·rw[ep h1];simp
  ·rw[fD h1]
   have:=pB n (k/10) (by omega)
   simp only[al,au,aG];omega
theorem xM(d:Nat)(h:d<10):(Value.int .u8 (IntKind.wrap .u8 (IntKind.wrap .i64 (48+(d:Int)))))=.int .u8 ((a8 (48+d)).toNat:Int):=by
 have:d=0\/d=1\/d=2\/d=3\/d=4\/d=5\/d=6\/d=7\/d=8\/d=9:=by omega
 rcases this with rfl|rfl|rfl|rfl|rfl|rfl|rfl|rfl|rfl|rfl<;>rfl
theorem pY(b:UInt8):bytesOf [[.v (.int .u8 (b.toNat:Int))]]=[b]:=by simp[bytesOf,xz]
theorem kO(b:UInt8):jo [[.v (.int .u8 (b.toNat:Int))]]:=⟨rfl,(lg _ _).mpr trivial,trivial⟩
theorem Cn:∀(n k:Nat),k<n->k<1000000000->ap Tryz.prog 111 [.v (.int .i64 (k:Int))] [] (bH (.v (.string (mk (dd k)))))
 |0,k,h,_=>by omega
 |
  n+1,k,h,hk=>by
  refine Pk _ ?_
  simp only[JN,↓zq,zs,ae,bH]
  refine⟨fun h=>by omega,fun _=>⟨fun h=>by omega,fun _=>⟨fun h1=>?_,fun h1=>⟨by omega,?_⟩⟩⟩⟩
  ·rw[xM k (by omega)]
   refine⟨kO _,?_⟩
   rw[pY,ep (by omega)];rfl
  ·have e1:IntKind.wrap .i64 (Int.tdiv (k:Int) 10)=((k/10:Nat):Int):=by
    rw[show Int.tdiv (k:Int) 10=((k/10:Nat):Int) from (Int.ofNat_tdiv k 10).symm,wrap64 _ (by omega) (by omega)]
   have e2:du (k:Int) 10=((k%10:Nat):Int):=(Int.ofNat_tmod k 10).symm
   rw[e1,e2,xM (k%10) (by omega)]
   refine an (Cn n (k/10) (by omega) (by omega)) ?_
   have hl:=pB (k+1) (k/10) (by omega)
   simp only[↓zq,zs,ae,zt,pY]
   have h9:(k:Int)<1000000000:=by omega
   refine⟨by omega,kO _,?_,?_⟩
   ·show (mk (dd (k/10))).size+(mk [a8 (48+k%10)]).size<=_
    rw[cX,cX];simp;omega
   ·show AV.v (.string (mk (dd (k/10))++mk [a8 (48+k%10)]))=_
    rw[kK,fD (k:=k) (by omega)]
theorem A0(s:List UInt8)(d:AV)(hd:LK.sl.has d)(h:s≠[]):ap Tryz.prog 71 [.agg [.v (.string (mk s)),d]] [] (bH (.v (.string (mk [])))):=by
 refine Ht _ _ hd ?_
 simp only[BX,↓zq,zs,ae,zt,bH]
 exact⟨fun _=>trivial,fun h'=>absurd h' h⟩
theorem Cv(e:E):AV.agg [.v (.string ((e.ko.cs.getD 0 .any).ah)),e.ko.cs.getD 1 .any]=e.ko:=by cases e<;>rfl
mutual
def eG:E->List UInt8
 | .atom s=>s
 | .list []=>[40,41]
 | .list (e::l)=>40::(eG e++(dS l++[41]))
def dS:List E->List UInt8
 |[]=>[]
 |e::l=>32::(eG e++dS l)
end
theorem yP:∀(l:List E) (i:Nat) (h:i<l.length),dS (l.drop i)=32::(eG l[i]++dS (l.drop (i+1))):=by
 intro l i h
 rw[aL h,dS]
theorem IU(l:List E)(hll:l.length<1000000000000)(ih:∀i (h:i<l.length),ap Tryz.prog 76 [(l[i]).ko] [] (bH (.v (.string (mk (eG l[i])))))) :
 ∀(k i:Nat) (out:List UInt8),i+k=l.length->1<=i->out.length+(dS (l.drop i)).length<=1000000000000->Bw [.v (.string (mk out)),.v (.int .i64 (i:Int))] [.cells [.v (.string (mk [])),.sl (E.bj l)]] (ga 1 [.v (.string (mk (out++dS (l.drop i))))] [])
 |
  0,i,out,hi,h1,hn=>by
  refine Cs _ _ _ _ ?_
  simp only[BB,↓zq,zs,ae,dO]
  have:l.drop i=[]:=bG (by omega)
  refine⟨fun h=>by omega,fun _=>?_⟩
  simp[ga,this,dS]
 |
  k+1,i,out,hi,h1,hn=>by
  have hlt:i<l.length:=by omega
  have hd:=yP l i hlt
  rw[hd]at hn
  simp only[au,al]at hn
  refine Cs _ _ _ _ ?_
  simp only[BB,↓zq,zs,ae,zt,dO,ju l i hlt,gd,iM,iD,aq]
  refine⟨fun _=>⟨fun _=>⟨by omega,by omega,?_⟩,fun h=>by omega⟩,fun h=>by omega⟩
  refine an (ih i hlt) ?_
  simp only[↓zq,zs,ae,zt]
  refine⟨by simp;omega,?_⟩
  rw[bh i (by omega),hd]
  have:=IU l hll ih k (i+1) (out++[32]++eG l[i]) (by omega) (by omega) (by simp;omega)
  simpa using this
theorem xX:∀(l:List E) (i:Nat) (h:i<l.length),(eG l[i]).length<=(dS l).length
 |e::l,0,_=>by simp only[dS,List.getElem_cons_zero,au,al];omega
 |e::l,i+1,h=>by have:=xX l i (by simpa using h);simp only[dS,List.getElem_cons_succ,au,al];omega
theorem qR:∀l:List E,l.length<=(dS l).length
 |[]=>by simp[dS]
 |e::l=>by have:=qR l;simp only[dS,au,al];omega
theorem Df:∀(n:Nat) (e:E),e.sz<n->e.ok->(eG e).length<=900000000000->ap Tryz.prog 76 [e.ko] [] (bH (.v (.string (mk (eG e)))))
 |0,e,hn,_,_=>by omega
 |
  n+1,.atom s,hn,hok,hl=>by
  refine GW _ _ ((be).mpr trivial) ?_
  have hne:s≠[]:=hok
  simp only[CA,↓zq,zs,ae,zt,bH]
  exact⟨fun _=>rfl,fun h=>absurd h hne⟩
 |
  n+1,.list [],hn,hok,hl=>by
  refine GW _ _ ((ci _).mpr trivial) ?_
  simp only[CA,↓zq,zs,ae,zt,bH]
  refine⟨fun h=>absurd rfl h,fun _=>?_⟩
  have h1:Bw [.v (.string (mk [40])),.v (.int .i64 0)] [.cells [.v (.string (mk [])),.sl (E.bj [])]] (ga 1 [.v (.string (mk [40]))] []):=by
   refine Cs _ _ _ _ ?_
   simp[BB,↓zq,zs,ae,E.bj,ga]
  refine cb h1 ?_
  simp only[↓zq,zs,ae,zt]
  exact⟨by simp,rfl⟩
 |
  n+1,.list (x::l),hn,hok,hl=>by
  refine GW _ _ ((ci _).mpr trivial) ?_
  simp only[E.sz,E.ji]at hn
  simp only[eG,au,al,aG]at hl
  have h2:=qR l
  simp only[CA,↓zq,zs,ae,zt,bH]
  refine⟨fun h=>absurd rfl h,fun _=>?_⟩
  have hL:Bw [.v (.string (mk [40])),.v (.int .i64 0)] [.cells [.v (.string (mk [])),.sl (E.bj (x::l))]] (ga 1 [.v (.string (mk ([40]++eG x++dS l)))] []):=by
   refine Cs _ _ _ _ ?_
   simp only[BB,E.bj,Int.toNat_zero,↓zq,zs,ae,zt,dO,gd,iM,iD,aq]
   refine⟨fun _=>⟨fun h=>by omega,fun _=>⟨by omega,?_⟩⟩,fun h=>by omega⟩
   refine an (Df n x (by omega) hok.1 (by omega)) ?_
   simp only[↓zq,zs,ae,zt]
   refine⟨by simp;omega,?_⟩
   have:=IU (x::l) (by simp;omega) (fun i hi=>by
    have h3:=tz (x::l) i hi
    simp only[E.ji]at h3
    refine Df n _ (by omega) (tJ _ i hi hok) ?_
    have h4:=xX (x::l) i hi
    simp only[dS,au,al]at h4
    omega) l.length 1 ([40]++eG x) (by simp;omega) (by omega) (by simp;omega)
   rw[show IntKind.wrap .i64 (0+1)=1 from rfl]
   simpa[E.bj]using this
  refine cb hL ?_
  simp only[↓zq,zs,ae,zt]
  refine⟨by simp;omega,?_⟩
  simp[eG]
theorem OG(e:E)(h:e.ok)(hl:(eG e).length<=900000):ap Tryz.prog 76 [e.ko] [] (bH (.v (.string (mk (eG e))))):=Df (e.sz+1) e (by omega) h (by omega)
mutual
def E.nd:E->Nat
 | .atom _=>1
 | .list []=>1
 | .list (_::l)=>1+E.uv l
def E.uv:List E->Nat
 |[]=>0
 |e::l=>e.nd+E.uv l
end
mutual
theorem AC:∀e:E,e.nd<=e.sz
 | .atom s=>by simp[E.nd,E.sz]
 | .list []=>by simp[E.nd,E.sz,E.ji]
 | .list (x::l)=>by have:=wD l;simp only[E.nd,E.sz,E.ji];omega
theorem wD:∀l:List E,E.uv l<=E.ji l
 |[]=>by simp[E.uv,E.ji]
 |e::l=>by have:=AC e;have:=wD l;simp only[E.uv,E.ji];omega
end
theorem z6:∀(l:List E) (i:Nat) (h:i<l.length),E.uv (l.drop i)=(l[i]).nd+E.uv (l.drop (i+1)):=by
 intro l i h
 rw[aL h];rfl
theorem KA(l:List E)(hl:E.uv l<1000000)(hll:l.length<1000000)(ih:∀i (h:i<l.length),ap Tryz.prog 75 [(l[i]).ko] [] (bH (.v (.int .i64 ((l[i]).nd:Int))))) :
 ∀(k i n:Nat),i+k=l.length->n+E.uv (l.drop i)<=1+E.uv l->AX [.v (.int .i64 (n:Int)),.v (.int .i64 (i:Int))] [.cells [.v (.string (mk [])),.sl (E.bj l)]] (ga 1 [.v (.int .i64 ((n+E.uv (l.drop i):Nat):Int))] [])
 |
  0,i,n,hi,hn=>by
  refine Dy _ _ _ _ ?_
  simp only[A9,↓zq,zs,ae,dO]
  have:l.drop i=[]:=bG (by omega)
  refine⟨fun h=>by omega,fun _=>?_⟩
  simp[ga,this,E.uv]
 |
  k+1,i,n,hi,hn=>by
  have hlt:i<l.length:=by omega
  refine Dy _ _ _ _ ?_
  simp only[A9,↓zq,zs,ae,zt,dO,ju l i hlt,gd,iM,iD,aq]
  refine⟨fun _=>⟨by omega,?_⟩,fun h=>by omega⟩
  refine an (ih i hlt) ?_
  have h1:=z6 l i hlt
  simp only[↓zq,zs,ae]
  rw[bh i (by omega),wrap64 _ (by omega) (by omega)]
  have:=KA l hl hll ih k (i+1) (n+(l[i]).nd) (by omega) (by omega)
  rw[h1,<-Nat.add_assoc]
  simpa using this
theorem No:∀(n:Nat) (e:E),e.sz<n->e.sz<900000->ap Tryz.prog 75 [e.ko] [] (bH (.v (.int .i64 (e.nd:Int))))
 |0,e,hn,_=>by omega
 |
  n+1,.atom s,hn,hl=>by
  refine Mf _ _ ((be).mpr trivial) ?_
  simp only[Fs]
  have hL:AX [.v (.int .i64 1),.v (.int .i64 1)] [.cells [.v (.string (mk s)),.v (.slice none 0 0)]] (ga 1 [.v (.int .i64 1)] []):=by
   refine Dy _ _ _ _ ?_
   simp[A9,↓zq,zs,ae,ga]
  refine cb hL ?_
  simp[↓zq,zs,ae,bH,E.nd]
 |
  n+1,.list l,hn,hl=>by
  refine Mf _ _ ((ci _).mpr trivial) ?_
  simp only[E.sz]at hn hl
  simp only[Fs]
  match l,hn,hl with
  |
   [],hn,hl =>
   have hL:AX [.v (.int .i64 1),.v (.int .i64 1)] [.cells [.v (.string (mk [])),.sl (E.bj [])]] (ga 1 [.v (.int .i64 1)] []):=by
    refine Dy _ _ _ _ ?_
    simp[A9,↓zq,zs,ae,ga,E.bj]
   refine cb hL ?_
   simp[↓zq,zs,ae,bH,E.nd]
  |
   x::l,hn,hl =>
   simp only[E.ji]at hn hl
   have h1:=wD l
   have h2:=um l
   have h0:=AC x
   refine cb (KA (x::l) (by simp only[E.uv];omega) (by simp;omega) (fun i hi=>?_) l.length 1 1 (by simp;omega) (by simp[E.uv])) ?_
   ·have:=tz (x::l) i hi
    simp only[E.ji]at this
    exact No n _ (by omega) (by omega)
   ·simp[↓zq,zs,ae,E.nd,bH]
theorem QH(e:E)(hl:e.sz<900000):ap Tryz.prog 75 [e.ko] [] (bH (.v (.int .i64 (e.nd:Int)))):=No (e.sz+1) e (by omega) hl
inductive Vl where
 |u
 |el (k:Nat)
 |l (v:Vl)
 |r (v:Vl)
 |f (v:Vl)
 |p (a b:Vl)
abbrev vX(k:Nat):List UInt8:=101::dd k
abbrev jZ:AV:=.v (.pointer none)
def Vl.cx:Vl->AV
 | .u=>.ptr [.v (.int .u8 117),.v (.string (mk [])),jZ,jZ]
 | .el k=>.ptr [.v (.int .u8 101),.v (.string (mk (vX k))),jZ,jZ]
 | .l v=>.ptr [.v (.int .u8 108),.v (.string (mk [])),v.cx,jZ]
 | .r v=>.ptr [.v (.int .u8 114),.v (.string (mk [])),v.cx,jZ]
 | .f v=>.ptr [.v (.int .u8 102),.v (.string (mk [])),v.cx,jZ]
 | .p a b=>.ptr [.v (.int .u8 112),.v (.string (mk [])),a.cx,b.cx]
def Vl.db:Vl->E
 | .u=>.atom [117]
 | .el k=>.atom (vX k)
 | .l v=>.list [.atom [108],v.db]
 | .r v=>.list [.atom [114],v.db]
 | .f v=>.list [.atom [102],v.db]
 | .p a b=>.list [.atom [112],a.db,b.db]
def Vl.nodes:Vl->Nat
 | .l v=>1+v.nodes
 | .r v=>1+v.nodes
 | .f v=>1+v.nodes
 | .p a b=>1+a.nodes+b.nodes
 |_=>1
def Vl.jf(n:Nat):Vl->Prop
 | .el k=>k<n
 | .l v=>v.jf n
 | .r v=>v.jf n
 | .f v=>v.jf n
 | .p a b=>a.jf n/\b.jf n
 | .u=>True
abbrev Vl.dT(v:Vl):List UInt8:=eG v.db
theorem aR(v:Vl):LK.has .ptr v.cx=True:=by cases v<;>simp[Vl.cx,cu]
theorem eQ(v:Vl):v.cx.isNil=false:=by cases v<;>rfl
theorem py:∀v:Vl,v.db.ok
 | .u=>by simp[Vl.db,E.ok]
 | .el k=>by simp[Vl.db,E.ok]
 | .l v=>⟨by simp[E.ok],py v,trivial⟩
 | .r v=>⟨by simp[E.ok],py v,trivial⟩
 | .f v=>⟨by simp[E.ok],py v,trivial⟩
 | .p a b=>⟨by simp[E.ok],py a,py b,trivial⟩
theorem ny:∀v:Vl,v.db.nd=v.nodes
 | .u=>rfl
 | .el k=>rfl
 | .l v=>by simp[Vl.db,E.nd,E.uv,Vl.nodes,ny v]
 | .r v=>by simp[Vl.db,E.nd,E.uv,Vl.nodes,ny v]
 | .f v=>by simp[Vl.db,E.nd,E.uv,Vl.nodes,ny v]
 | .p a b=>by simp[Vl.db,E.nd,E.uv,Vl.nodes,ny a,ny b,Nat.add_assoc]
theorem jw:∀v:Vl,v.jf 100->v.dT.length<=200*v.nodes
 | .u,_=>by simp[Vl.dT,Vl.db,eG,Vl.nodes]
 |
  .el k,h=>by
  have h':k<100:=h
  have:=pB 1000 k (by omega)
  simp only[Vl.dT,Vl.db,eG,Vl.nodes,au];omega
 | .l v,h=>by have:=jw v h;simp only[Vl.dT,Vl.db,eG,dS,Vl.nodes,au,al,aG]at this |-;omega
 | .r v,h=>by have:=jw v h;simp only[Vl.dT,Vl.db,eG,dS,Vl.nodes,au,al,aG]at this |-;omega
 | .f v,h=>by have:=jw v h;simp only[Vl.dT,Vl.db,eG,dS,Vl.nodes,au,al,aG]at this |-;omega
 | .p a b,h=>by have:=jw a h.1;have:=jw b h.2;simp only[Vl.dT,Vl.db,eG,dS,Vl.nodes,au,al,aG]at *;omega
theorem C6(a b:AV)(h:LK.ptr.has a)(h':LK.ptr.has b):ap Tryz.prog 132 [a,b] [] (bH (.ptr [.v (.int .u8 112),.v (.string (mk [])),a,b])):=by
 refine Ph _ _ h h' ?_
 simp[Nd,↓zq,zs,ae,bH]
theorem cJ(v:Vl):1<=v.nodes:=by cases v<;>simp[Vl.nodes]<;>omega
theorem FH:∀(v:Vl),v.nodes<1000000->ap Tryz.prog 56 [v.cx] [] (bH (.v (.int .i64 (v.nodes:Int))))
 | .u,h=>by refine yO _ ((aR _).mpr trivial) ?_;simp[He,Vl.cx,↓zq,zs,ae,bH,Vl.nodes]
 | .el k,h=>by refine yO _ ((aR _).mpr trivial) ?_;simp[He,Vl.cx,↓zq,zs,ae,bH,Vl.nodes]
 |
  .l v,h=>by
  simp only[Vl.nodes]at h
  refine yO _ ((aR _).mpr trivial) ?_
  simp only[He,Vl.cx,↓zq,zs,ae,aR,eQ]
  refine⟨by omega,fun _=>⟨by omega,?_⟩,fun h=>(by cases h)⟩
  refine an (FH v (by omega)) ?_
  simp only[↓zq,zs,ae,bH,Vl.nodes]
  rw[wrap64 _ (by omega) (by omega)]
  simp
 |
  .r v,h=>by
  simp only[Vl.nodes]at h
  refine yO _ ((aR _).mpr trivial) ?_
  simp only[He,Vl.cx,↓zq,zs,ae,aR,eQ]
  refine⟨by omega,fun _=>⟨by omega,?_⟩,fun h=>(by cases h)⟩
  refine an (FH v (by omega)) ?_
  simp only[↓zq,zs,ae,bH,Vl.nodes]
  rw[wrap64 _ (by omega) (by omega)]
  simp
 |
  .f v,h=>by
  simp only[Vl.nodes]at h
  refine yO _ ((aR _).mpr trivial) ?_
  simp only[He,Vl.cx,↓zq,zs,ae,aR,eQ]
  refine⟨by omega,fun _=>⟨by omega,?_⟩,fun h=>(by cases h)⟩
  refine an (FH v (by omega)) ?_
  simp only[↓zq,zs,ae,bH,Vl.nodes]
  rw[wrap64 _ (by omega) (by omega)]
  simp
 |
  .p a b,h=>by
  simp only[Vl.nodes]at h
  refine yO _ ((aR _).mpr trivial) ?_
  simp only[He,Vl.cx,↓zq,zs,ae,aR,eQ]
  refine⟨by omega,fun _=>⟨by omega,?_⟩,fun h=>(by cases h)⟩
  refine an (FH a (by omega)) ?_
  simp only[↓zq,zs,ae,aR,eQ]
  rw[wrap64 (1+(a.nodes:Int)) (by omega) (by omega)]
  refine⟨by omega,fun _=>⟨by omega,?_⟩,fun h=>(by cases h)⟩
  refine an (FH b (by omega)) ?_
  simp only[↓zq,zs,ae,bH,Vl.nodes]
  rw[wrap64 _ (by omega) (by omega)]
  congr 2
end Go.Proofs.Trees
namespace Go.Proofs.Trees
open Go Go.VL Go.RowKit
def zo:List UInt8->Nat->Option Nat
 |[],n=>some n
 |b::r,n=>if hD b=true then zo r (10*n+(b.toNat-48))else none
def fB(s:List UInt8):Option Nat :=
 if s.length=2\/s.length=3 then(if s.getD 0 0=101/\¬(s.length=3/\s.getD 1 0=48)then zo (s.drop 1) 0 else none)else none
def BD(s:List UInt8):Int:=match fB s with|some k=>(k:Int)|none=>-1
theorem Mp(s:List UInt8)(hs:s.length<=3):∀(k i n:Nat),i+k=s.length->1<=i->(n+1)*10 ^ k<=1000->El [.v (.string (mk s)),.v (.int .i64 (n:Int)),.v (.int .i64 (i:Int))] []
 (ru (match zo (s.drop i) n with|some m=>(1,[.v (.int .i64 (m:Int))],[])|none=>(2,[.v (.int .i64 (-1))],[])))
 |
  0,i,n,hi,h1,hn=>by
  refine H2 _ _ _ ?_
  have hd:s.drop i=[]:=bG (by omega)
  simp only[Ft,↓zq,zs,ae,zt,hd,zo]
  exact⟨fun h=>by omega,fun _=>by first|trivial|rfl⟩
 |
  k+1,i,n,hi,h1,hn=>by
  have hlt:i<s.length:=by omega
  refine H2 _ _ _ ?_
  rw[drop_cons hlt,zo]
  simp only[Ft,↓zq,zs,ae,zt,lN s i hlt]
  generalize s.getD i 0=b
  have hb:=b.toNat_lt
  refine⟨fun _=>⟨by omega,fun h48=>?_,fun h48=>⟨by omega,fun h57=>?_,fun h57=>⟨by omega,?_⟩⟩⟩,fun h=>by omega⟩
  ·have:hD b=false:=by simp only[hD,decide_eq_false_iff_not];omega
   rw[this];rfl
  ·have:hD b=false:=by simp only[hD,decide_eq_false_iff_not];omega
   rw[this];rfl
  ·have:hD b=true:=by simp only[hD,decide_eq_true_eq];omega
   rw[if_pos this]
   have hk:k=0\/k=1:=by omega
   have hn2:n*10<=1000:=by
    rcases hk with rfl|rfl<;>simp at hn<;>omega
   have e8:IntKind.wrap .u8 ((b.toNat:Int)-48)=((b.toNat-48:Nat):Int):=by
    have:b.toNat=48\/b.toNat=49\/b.toNat=50\/b.toNat=51\/b.toNat=52\/b.toNat=53\/b.toNat=54\/b.toNat=55\/b.toNat=56\/b.toNat=57:=by omega
    rcases this with h|h|h|h|h|h|h|h|h|h<;>rw[h]<;>rfl
   rw[e8,bh i (by omega),wrap64 ((b.toNat-48:Nat):Int) (by omega) (by omega),wrap64 (10*(n:Int)) (by omega) (by omega),wrap64 _ (by omega) (by omega)]
   have e:(10*(n:Int)+((b.toNat-48:Nat):Int))=((10*n+(b.toNat-48):Nat):Int):=by omega
   rw[e]
   exact Mp s hs k (i+1) _ (by omega) (by omega) (by rcases hk with rfl|rfl<;>simp at hn |-<;>omega)
theorem LO(s:List UInt8):ap Tryz.prog 102 [.v (.string (mk s))] [] (bH (.v (.int .i64 (BD s)))):=by
 refine P0 _ ?_
 unfold M9
 refine an (Dx _ _ _) ?_
 simp only[↓zq,zs,ae,zt,DL,bH]
 have hL:∀(Q:Nat->List AV->List Ob->Prop),(s.length=2\/s.length=3)->s.getD 0 0=101->¬(s.length=3/\s.getD 1 0=48)->(Q 0 [.v (.int .i64 (BD s))] []) ->
  eF Tryz.prog 49 (.loop Ck BL [.v (.string (mk s)),.v (.int .i64 0),.v (.int .i64 1)] [] (fun y2 q2=>.aj (LK.has (.int .i64) (y2.headD .any))<|.done 0 [.v (.int .i64 ((y2.headD .any).toInt))] []) (fun y2 q2=>.aj (LK.has (.int .i64) (y2.headD .any))<|.done 0 [.v (.int .i64 ((y2.headD .any).toInt))] [])) Q:=by
  intro Q hl h0 h1 hQ
  have e:fB s=zo (s.drop 1) 0:=by rw[fB,if_pos hl,if_pos ⟨h0,h1⟩]
  refine hH (Mp s (by omega) (s.length-1) 1 0 (by omega) (by omega) (by rcases hl with h|h<;>rw[h]<;>decide)) (fun ys o e'=>?_) (fun ys o e'=>?_)
  ·cases hq:zo (s.drop 1) 0<;>rw[hq]at e'<;>cases e'
   rw[hq]at e
   simp only[BD,e]at hQ
   simp only[↓zq,zs,ae];exact hQ
  ·cases hq:zo (s.drop 1) 0<;>rw[hq]at e'<;>cases e'
   rw[hq]at e
   simp only[BD,e]at hQ
   simp only[↓zq,zs,ae];exact hQ
 have hz:∀{i:Nat},i<s.length->bt (mk s) (i:Int)=((s.getD i 0).toNat:Int):=fun h=>lN s _ h
 refine⟨fun h=>?_,fun h=>⟨?_,fun h0=>?_,fun h0=>⟨fun h3=>⟨by omega,fun h1=>?_,fun h1=>?_⟩,fun h3=>?_⟩⟩⟩
 ·have h':¬(2<=(s.length:Int)/\(s.length:Int)<=3):=by simpa using h
  rw[BD,fB,if_neg (by omega)]
 ·have h':2<=(s.length:Int)/\(s.length:Int)<=3:=by simpa using h
  omega
 ·have h':2<=(s.length:Int)/\(s.length:Int)<=3:=by simpa using h
  have e0:=hz (i:=0) (by omega)
  simp only[cE,cV]at e0
  rw[e0]at h0
  rw[BD,fB,if_pos (by omega),if_neg]
  rintro⟨e,_⟩
  rw[e]at h0;exact h0 rfl
 ·have h':2<=(s.length:Int)/\(s.length:Int)<=3:=by simpa using h
  have e1:=hz (i:=1) (by omega)
  simp only[cE,cV]at e1
  rw[e1]at h1
  rw[BD,fB,if_pos (by omega),if_neg]
  rintro⟨_,e⟩
  refine e ⟨by omega,?_⟩
  rw[<-dE];show (s.getD 1 0).toNat=48;omega
 ·have h':2<=(s.length:Int)/\(s.length:Int)<=3:=by simpa using h
  have e0:=hz (i:=0) (by omega)
  have e1:=hz (i:=1) (by omega)
  simp only[cE,cV]at e0 e1
  rw[e0]at h0;rw[e1]at h1
  refine hL _ (by omega) ?_ ?_ ⟨rfl,rfl⟩
  ·rw[<-dE];show (s.getD 0 0).toNat=101;omega
  ·rintro⟨_,e⟩;rw[e]at h1;exact h1 rfl
 ·have h':2<=(s.length:Int)/\(s.length:Int)<=3:=by simpa using h
  have e0:=hz (i:=0) (by omega)
  simp only[cE,cV]at e0
  rw[e0]at h0
  refine hL _ (by omega) ?_ ?_ ⟨rfl,rfl⟩
  ·rw[<-dE];show (s.getD 0 0).toNat=101;omega
  ·rintro⟨e,_⟩;omega
theorem oS:∀(l:List UInt8) (n:Nat),(zo l n).isSome=l.all hD
 |[],n=>rfl
 |
  b::l,n=>by
  rw[zo]
  cases hb:hD b with
  |true=>rw[if_pos rfl,oS l];simp[hb]
  |false=>rw[if_neg (by simp)];simp[hb]
theorem Jn(s:List UInt8):ap Tryz.prog 154 [.v (.string (mk s))] [] (bH (.v (.bool (fB s).isSome))):=by
 refine Qo _ ?_
 simp only[JU,↓zq,zs,ae,zt,bH]
 have hz:∀{i:Nat},i<s.length->bt (mk s) (i:Int)=((s.getD i 0).toNat:Int):=fun h=>lN s _ h
 refine⟨fun h=>?_,fun h=>⟨fun h3=>?_,fun h3=>?_⟩⟩
 ·rw[fB,if_neg (by omega)];rfl
 ·rw[fB,if_neg (by omega)];rfl
 ·have e0:=hz (i:=0) (by omega)
  have e1:=hz (i:=1) (by omega)
  simp only[cE,cV]at e0 e1
  rw[e0,e1]
  have hx:s.drop (bT 1)=s.drop 1:=rfl
  refine⟨by omega,fun h0=>?_,fun h0=>⟨by omega,?_⟩⟩
  ·rw[fB,if_pos (by omega),if_neg]
   ·rfl
   ·rintro⟨e,_⟩;rw[e]at h0;exact h0 rfl
  ·rw[hx]
   refine an (Ki (s.drop 1) HF (by simp;omega) (by decide) (by decide)) ?_
   simp only[↓zq,zs,ae,zt]
   have h101:s.getD 0 0=101:=by rw[<-dE];show (s.getD 0 0).toNat=101;omega
   have hall:Lib.trimS (s.drop 1) HF=[]↔(s.drop 1).all hD=true:=by
    rw[sk]
    have:(fun x=>HF.contains x)=hD:=funext u6
    rw[this]
   refine⟨fun ht=>?_,fun ht=>⟨fun h2=>?_,fun h2=>⟨by omega,?_⟩⟩⟩
   ·have:(s.drop 1).all hD=false:=by
     cases hq:(s.drop 1).all hD with
     |false=>rfl
     |true=>exact absurd (hall.2 hq) ht
    rw[fB,if_pos (by omega)]
    split
    ·rw[oS,this]
    ·rfl
   ·have hq:=hall.1 ht
    rw[fB,if_pos (by omega),if_pos ⟨h101,by omega⟩,oS,hq]
   ·have hq:=hall.1 ht
    rw[fB,if_pos (by omega)]
    by_cases h48:s.getD 1 0=48
    ·rw[if_neg (by rintro⟨_,e⟩;exact e ⟨by omega,h48⟩),h48];rfl
    ·rw[if_pos ⟨h101,fun e=>h48 e.2⟩,oS,hq]
     have:¬((s.getD 1 0).toNat:Int)=48:=fun e=>h48 (by rw[<-dE];show (s.getD 1 0).toNat=48;omega)
     rw[bne_iff_ne.2 this]
theorem sQ{s:List UInt8}{k:Nat}(h:fB s=some k):s=vX k/\k<100:=by
 have key1:∀a:Fin 256,hD (a8 a.val)=true->zo [a8 a.val] 0=some ((a8 a.val).toNat-48)/\(a8 a.val).toNat-48<10/\[a8 a.val]=[a8 (48+((a8 a.val).toNat-48))]:=by decide +kernel
 unfold fB at h
 split at h
 ·rename_i hl
  split at h
  ·rename_i hh
   obtain⟨h0,h1⟩:=hh
   rcases hl with hl|hl
   ·match s,hl with
    |
     [c,a],_ =>
     simp only[bg]at h0
     subst h0
     simp only[List.drop_succ_cons,aX,zo]at h
     split at h
     ·rename_i ha
      have:=key1 ⟨a.toNat,a.toNat_lt⟩ (by simpa using ha)
      simp only[UInt8.ofNat_toNat]at this
      cases h
      refine⟨?_,by omega⟩
      rw[vX,ep (by omega)]
      simp only[Nat.mul_zero,aW]
      rw[<-this.2.2]
     ·cases h
   ·match s,hl with
    |
     [c,a,b],_ =>
     simp only[bg,List.getD_cons_succ,au,aG,true_and]at h0 h1
     subst h0
     simp only[List.drop_succ_cons,aX,zo]at h
     split at h
     ·rename_i ha
      split at h
      ·rename_i hb
       have k1:=key1 ⟨a.toNat,a.toNat_lt⟩ (by simpa using ha)
       have k2:=key1 ⟨b.toNat,b.toNat_lt⟩ (by simpa using hb)
       simp only[UInt8.ofNat_toNat]at k1 k2
       have ha':48<=a.toNat/\a.toNat<=57:=by simpa[hD]using ha
       have hb':48<=b.toNat/\b.toNat<=57:=by simpa[hD]using hb
       have h48:a.toNat≠48:=fun e=>h1 (by rw[<-dE];simpa using e)
       cases h
       simp only[Nat.mul_zero,aW]
       refine⟨?_,by omega⟩
       rw[vX,fD (by omega),ep (by omega)]
       have e1:(10*(a.toNat-48)+(b.toNat-48))/10=a.toNat-48:=by omega
       have e2:(10*(a.toNat-48)+(b.toNat-48))%10=b.toNat-48:=by omega
       rw[e1,e2,<-k1.2.2,<-k2.2.2];rfl
      ·cases h
     ·cases h
  ·cases h
 ·cases h
theorem uR(k:Nat)(h:k<100):fB (vX k)=some k:=by
 have e:∀k,k<100->dd k=if k<10 then [a8 (48+k)]else [a8 (48+k/10),a8 (48+k%10)]:=by
  intro k hk
  by_cases h1:k<10
  ·rw[ep h1,if_pos h1]
  ·rw[fD h1,ep (by omega),if_neg h1];rfl
 have key:∀k:Fin 100,fB (101::(if k.val<10 then [a8 (48+k.val)]else [a8 (48+k.val/10),a8 (48+k.val%10)]))=some k.val:=by decide +kernel
 rw[vX,e k h];exact key ⟨k,h⟩
theorem FQ(k:Nat)(h:k<100):BD (vX k)=(k:Int):=by rw[BD,uR k h]
def yu:E->Bool
 | .atom s=>(s==[117])||(fB s).isSome
 | .list [x,a]=>((x.at==[108])||(x.at==[114])||(x.at==[102]))&&yu a
 | .list [x,a,b]=>(x.at==[112])&&(yu a&&yu b)
 | .list _=>false
def fw:E->Option Vl
 | .atom s=>if s=[117]then some .u else match fB s with|some k=>some (.el k)|none=>none
 |
  .list [x,a]=>match fw a with
  |none=>none
  |some v=>if x.at=[108]then some (.l v)else if x.at=[114]then some (.r v)else if x.at=[102]then some (.f v)else none
 | .list [x,a,b]=>if x.at=[112]then(match fw a,fw b with|some v,some w=>some (.p v w)|_,_=>none)else none
 | .list _=>none
theorem nX:∀e:E,(fw e).isSome=yu e
 |
  .atom s=>by
  simp only[fw,yu]
  by_cases h:s=[117]
  ·simp[h]
  ·rw[if_neg h];cases fB s<;>simp[h]
 | .list []=>rfl
 | .list [_]=>rfl
 |
  .list [x,a]=>by
  have ha:=nX a
  rw[fw,yu,<-ha]
  cases fw a with
  |none=>simp
  |
   some v =>
   by_cases h1:x.at=[108]
   ·simp[h1]
   ·by_cases h2:x.at=[114]
    ·simp[h2]
    ·by_cases h3:x.at=[102]
     ·simp[h3]
     ·simp[h1,h2,h3]
 |
  .list [x,a,b]=>by
  have ha:=nX a
  have hb:=nX b
  rw[fw,yu,<-ha,<-hb]
  by_cases h1:x.at=[112]
  ·rw[if_pos h1,h1];cases fw a<;>cases fw b<;>rfl
  ·simp[h1]
 | .list (_::_::_::_::_)=>rfl
theorem j7{x:E}{w:List UInt8}(h:x.at=w)(hw:w≠[]):x=.atom w:=by
 cases x with
 |atom s=>exact congrArg E.atom h
 |list l=>exact absurd h.symm hw
theorem kG:∀(e:E) (v:Vl),fw e=some v->v.db=e/\v.jf 100
 |
  .atom s,v,h=>by
  simp only[fw]at h
  split at h
  ·rename_i h1;cases h;exact⟨by rw[h1];rfl,trivial⟩
  ·split at h
   ·rename_i k hk
    cases h
    obtain⟨h1,h2⟩:=sQ hk
    exact⟨by rw[h1];rfl,h2⟩
   ·cases h
 | .list [],_,h=>by cases h
 | .list [_],_,h=>by cases h
 | .list (_::_::_::_::_),_,h=>by cases h
 |
  .list [x,a],v,h=>by
  rw[fw]at h
  split at h
  ·cases h
  ·rename_i w hw
   obtain⟨h1,h2⟩:=kG a w hw
   split at h
   ·rename_i hx;cases h;rw[j7 hx (by simp)];exact⟨by rw[Vl.db,h1],h2⟩
   ·split at h
    ·rename_i hx;cases h;rw[j7 hx (by simp)];exact⟨by rw[Vl.db,h1],h2⟩
    ·split at h
     ·rename_i hx;cases h;rw[j7 hx (by simp)];exact⟨by rw[Vl.db,h1],h2⟩
     ·cases h
 |
  .list [x,a,b],v,h=>by
  rw[fw]at h
  split at h
  ·rename_i hx
   split at h
   ·rename_i w1 w2 hw1 hw2
    cases h
    obtain⟨h1,h2⟩:=kG a w1 hw1
    obtain⟨h3,h4⟩:=kG b w2 hw2
    rw[j7 hx (by simp)]
    exact⟨by rw[Vl.db,h1,h3],h2,h4⟩
   ·cases h
  ·cases h
def pI(e:E)(w:List UInt8)(k:Nat):Bool:=match e with| .list (x::l)=>decide (l.length+1=k)&&(x.at==w)|_=>false
theorem sL(e:E)(w:List UInt8)(k:Nat)(hk:1<=k):ap Tryz.prog 147 [e.cx,.v (.string (mk w)),.v (.int .i64 (k:Int))] [] (bH (.v (.bool (pI e w k)))):=by
 refine L8 _ _ _ ((cG e).mpr trivial) ?_
 cases e with
 |atom s=>simp only[AN,E.cx,↓zq,zs,ae,zt,bH,pI];exact⟨by omega,fun h=>by omega,fun _=>trivial⟩
 |
  list l =>
  simp only[AN,E.cx,↓zq,zs,ae,zt,bH,rM]
  cases l with
  |nil=>exact⟨by simp,fun h=>by simp at h;omega,fun _=>rfl⟩
  |
   cons x l =>
   simp only[au]
   refine⟨by simp,fun h=>?_,fun h=>?_⟩
   ·have:decide (l.length+1=k)=true:=by rw[decide_eq_true_eq];omega
    simp only[pI,this]
    cases x<;>simp[E.lX,E.cx,cu,pf,jA,eV,tK,toList_mk,E.at]
   ·have:decide (l.length+1=k)=false:=by rw[decide_eq_false_iff_not];omega
    simp only[pI,this];rfl
def iq:Option Vl->AV
 |some v=>v.cx
 |none=>.v (.pointer none)
end Go.Proofs.Trees
namespace Go.Proofs.Trees
open Go Go.VL Go.RowKit
theorem gl(v:Option Vl):LK.has .ptr (iq v)=True:=by cases v<;>simp[iq,aR,gp]
theorem yJ:∀(e:E),e.ok->ap Tryz.prog 123 [e.cx] [] (bH (iq (fw e)))
 |
  .atom s,hok=>by
  refine H7 _ ((cG _).mpr trivial) ?_
  have hd:=nL (.atom s)
  have hlen:=lA (.atom s)
  simp only[E.at]at hd
  simp only[Fw,↓zq,zs,ae,zt,bH,cG,dU,hd,fw]
  refine⟨hlen,fun h=>?_,fun h=>⟨hlen,?_⟩⟩
  ·rw[if_pos h];rfl
  ·rw[if_neg h]
   refine an (Jn s) ?_
   simp only[↓zq,zs,ae,zt]
   refine⟨fun he=>⟨hlen,?_⟩,fun he=>?_⟩
   ·obtain⟨k,hk⟩:=bx.1 he
    obtain⟨h1,h2⟩:=sQ hk
    rw[hk,h1];rfl
   ·have hn:fB s=none:=by cases hq:fB s<;>simp[hq]at he |-
    rw[hn]
    refine an (sL (.atom s) [108] 2 (by omega)) ?_
    simp only[pI,↓zq,zs,ae,zf]
    refine⟨fun h=>(by cases h),fun _=>an (sL (.atom s) [114] 2 (by omega)) ?_⟩
    simp only[pI,↓zq,zs,ae,zf]
    refine⟨fun h=>(by cases h),fun _=>an (sL (.atom s) [102] 2 (by omega)) ?_⟩
    simp only[pI,↓zq,zs,ae,zf]
    refine⟨fun h=>(by cases h),fun _=>an (sL (.atom s) [112] 3 (by omega)) ?_⟩
    simp only[pI,↓zq,zs,ae,zf]
    exact⟨fun h=>(by cases h),fun _=>rfl⟩
 |
  .list l,hok=>by
  refine H7 _ ((cG _).mpr trivial) ?_
  have hd:=nL (.list l)
  have hlen:=lA (.list l)
  have hlen2:∀{l:List E},((AV.v (.string (mk [])))::[AV.sl (E.lX l)]).length=2:=rfl
  simp only[E.at]at hd
  have he:fB []=none:=rfl
  simp only[Fw,↓zq,zs,ae,zt,bH,cG,dU,hd]
  refine⟨hlen,fun h=>(by cases h),fun h=>⟨hlen,?_⟩⟩
  refine an (Jn []) ?_
  rw[he]
  simp only[↓zq,zs,ae,zt,zf,Option.isSome_none]
  refine⟨fun h=>(by cases h),fun _=>an (sL (.list l) [108] 2 (by omega)) ?_⟩
  have hno:∀w:List UInt8,(∀x a,l≠[x,a])->pI (.list l) w 2=false:=by
   intro w h2
   match l,h2 with
   |[],_=>rfl
   |[x],_=>rfl
   |[x,a],h2=>exact absurd rfl (h2 x a)
   |x::y::z::l,_=>simp[pI]
  match l,hok,hno,hlen with
  |
   [x,a],hok,hno,hlen =>
   clear hno
   obtain⟨ok1,ok2,_⟩:=hok
   have e2:∀w:List UInt8,pI (.list [x,a]) w 2=(x.at==w):=fun w=>rfl
   have e3:pI (.list [x,a]) [112] 3=false:=rfl
   have hx:=nL x
   have hxl:=lA x
   rw[fw]
   simp only[e2,↓zq,zs,ae]
   refine⟨fun h1=>?_,fun h1=>an (sL (.list [x,a]) [114] 2 (by omega)) ?_⟩
   ·simp only[E.cx,E.lX,toNat_one,↓zq,zs,ae,zt,cG,dU]
    refine⟨by omega,by omega,by omega,an (yJ a ok2) ?_⟩
    cases hv:fw a with
    |none=>simp only[iq,↓zq,zs,ae,gl];exact⟨fun _=>trivial,fun h=>(by cases h)⟩
    |
     some v =>
     simp only[iq,↓zq,zs,ae,zt,aR,eQ,hx,h1,cG,dU]
     refine⟨fun h=>(by cases h),fun _=>⟨by omega,by omega,by omega,hxl,by simp,?_⟩⟩
     rfl
   ·simp only[e2,↓zq,zs,ae]
    refine⟨fun h2=>?_,fun h2=>an (sL (.list [x,a]) [102] 2 (by omega)) ?_⟩
    ·simp only[E.cx,E.lX,toNat_one,↓zq,zs,ae,zt,cG,dU]
     refine⟨by omega,by omega,by omega,an (yJ a ok2) ?_⟩
     cases hv:fw a with
     |none=>simp only[iq,↓zq,zs,ae,gl];exact⟨fun _=>trivial,fun h=>(by cases h)⟩
     |
      some v =>
      simp only[iq,↓zq,zs,ae,zt,aR,eQ,hx,h2,cG,dU]
      refine⟨fun h=>(by cases h),fun _=>⟨by omega,by omega,by omega,hxl,by simp,?_⟩⟩
      rfl
    ·simp only[e2,↓zq,zs,ae]
     refine⟨fun h3=>?_,fun h3=>an (sL (.list [x,a]) [112] 3 (by omega)) ?_⟩
     ·simp only[E.cx,E.lX,toNat_one,↓zq,zs,ae,zt,cG,dU]
      refine⟨by omega,by omega,by omega,an (yJ a ok2) ?_⟩
      cases hv:fw a with
      |none=>simp only[iq,↓zq,zs,ae,gl];exact⟨fun _=>trivial,fun h=>(by cases h)⟩
      |
       some v =>
       simp only[iq,↓zq,zs,ae,zt,aR,eQ,hx,h3,cG,dU]
       refine⟨fun h=>(by cases h),fun _=>⟨by omega,by omega,by omega,hxl,by simp,?_⟩⟩
       rfl
     ·rw[e3]
      simp only[↓zq,zs,ae]
      refine⟨fun h=>(by cases h),fun _=>?_⟩
      cases fw a with
      |none=>rfl
      |some v=>simp only[if_neg h1,if_neg h2,if_neg h3];rfl
  |
   [x,a,b],hok,hno,hlen =>
   obtain⟨ok1,ok2,ok3,_⟩:=hok
   have h2:=fun w=>hno w (fun x a h=>(by cases h))
   rw[h2]
   simp only[↓zq,zs,ae]
   refine⟨fun h=>(by cases h),fun _=>an (sL (.list [x,a,b]) [114] 2 (by omega)) ?_⟩
   rw[h2]
   simp only[↓zq,zs,ae]
   refine⟨fun h=>(by cases h),fun _=>an (sL (.list [x,a,b]) [102] 2 (by omega)) ?_⟩
   rw[h2]
   simp only[↓zq,zs,ae]
   refine⟨fun h=>(by cases h),fun _=>an (sL (.list [x,a,b]) [112] 3 (by omega)) ?_⟩
   have e3:pI (.list [x,a,b]) [112] 3=(x.at==[112]):=rfl
   rw[e3,fw]
   simp only[↓zq,zs,ae]
   refine⟨fun h1=>?_,fun h1=>?_⟩
   ·rw[if_pos h1]
    simp only[E.cx,E.lX,toNat_one,bq,↓zq,zs,ae,zt,cG,dU]
    refine⟨by omega,by omega,by omega,an (yJ a ok2) ?_⟩
    simp only[↓zq,zs,ae,gl,cG]
    refine⟨by omega,by omega,by omega,an (yJ b ok3) ?_⟩
    cases hv:fw a with
    |none=>cases hw:fw b<;>simp only[iq,↓zq,zs,ae,gl,aR]<;>exact⟨fun _=>trivial,fun h=>(by cases h)⟩
    |
     some v =>
     cases hw:fw b with
     |
      none =>
      simp only[iq,↓zq,zs,ae,gl,aR,eQ]
      exact⟨fun h=>(by cases h),fun _=>⟨fun _=>trivial,fun h=>(by cases h)⟩⟩
     |
      some w =>
      simp only[iq,↓zq,zs,ae,aR,eQ]
      refine⟨fun h=>(by cases h),fun _=>⟨fun h=>(by cases h),fun _=>?_⟩⟩
      refine an (C6 _ _ ((aR _).mpr trivial) ((aR _).mpr trivial)) ?_
      simp only[↓zq,zs,ae];rfl
   ·rw[if_neg h1];rfl
  |
   [],hok,hno,hlen =>
   have h2:=fun w=>hno w (fun x a h=>(by cases h))
   have e3:pI (.list []) [112] 3=false:=rfl
   rw[h2]
   simp only[↓zq,zs,ae]
   refine⟨fun h=>(by cases h),fun _=>an (sL (.list []) [114] 2 (by omega)) ?_⟩
   rw[h2]
   simp only[↓zq,zs,ae]
   refine⟨fun h=>(by cases h),fun _=>an (sL (.list []) [102] 2 (by omega)) ?_⟩
   rw[h2]
   simp only[↓zq,zs,ae]
   refine⟨fun h=>(by cases h),fun _=>an (sL (.list []) [112] 3 (by omega)) ?_⟩
   rw[e3]
   simp only[↓zq,zs,ae]
   exact⟨fun h=>(by cases h),fun _=>rfl⟩
  |
   [x],hok,hno,hlen =>
   have h2:=fun w=>hno w (fun x a h=>(by cases h))
   have e3:pI (.list [x]) [112] 3=false:=rfl
   rw[h2]
   simp only[↓zq,zs,ae]
   refine⟨fun h=>(by cases h),fun _=>an (sL (.list [x]) [114] 2 (by omega)) ?_⟩
   rw[h2]
   simp only[↓zq,zs,ae]
   refine⟨fun h=>(by cases h),fun _=>an (sL (.list [x]) [102] 2 (by omega)) ?_⟩
   rw[h2]
   simp only[↓zq,zs,ae]
   refine⟨fun h=>(by cases h),fun _=>an (sL (.list [x]) [112] 3 (by omega)) ?_⟩
   rw[e3]
   simp only[↓zq,zs,ae]
   exact⟨fun h=>(by cases h),fun _=>rfl⟩
  |
   x::y::z::w::l,hok,hno,hlen =>
   have h2:=fun w=>hno w (fun x a h=>(by cases h))
   have e3:pI (.list (x::y::z::w::l)) [112] 3=false:=by simp[pI]
   rw[h2]
   simp only[↓zq,zs,ae]
   refine⟨fun h=>(by cases h),fun _=>an (sL (.list (x::y::z::w::l)) [114] 2 (by omega)) ?_⟩
   rw[h2]
   simp only[↓zq,zs,ae]
   refine⟨fun h=>(by cases h),fun _=>an (sL (.list (x::y::z::w::l)) [102] 2 (by omega)) ?_⟩
   rw[h2]
   simp only[↓zq,zs,ae]
   refine⟨fun h=>(by cases h),fun _=>an (sL (.list (x::y::z::w::l)) [112] 3 (by omega)) ?_⟩
   rw[e3]
   simp only[↓zq,zs,ae]
   exact⟨fun h=>(by cases h),fun _=>rfl⟩
def sa(s:List UInt8):Option Vl:=match qk s with
 |none=>none
 |
  some e=>match fw e with
  |none=>none
  |some v=>if v.nodes>200 then none else some v
theorem lf{s:List UInt8}{v:Vl}(h:sa s=some v):qk s=some v.db/\v.jf 100/\v.nodes<=200:=by
 unfold sa at h
 split at h
 ·cases h
 ·rename_i e he
  split at h
  ·cases h
  ·rename_i w hw
   split at h
   ·cases h
   ·cases h
    obtain⟨h1,h2⟩:=kG e _ hw
    rw[h1]
    exact⟨he,h2,by omega⟩
theorem vU{e:E}{v:Vl}(h:fw e=some v):v.nodes<=e.sz:=by
 obtain⟨h1,_⟩:=kG e v h
 rw[<-ny,h1];exact AC e
theorem Qi(s:List UInt8):ap Tryz.prog 88 [.v (.string (mk s))] [] (bH (iq (sa s))):=by
 refine PZ _ ?_
 unfold Ld
 refine an (JD s) ?_
 unfold sa
 cases he:qk s with
 |none=>simp only[tY,↓zq,zs,ae,bH,iq];simp
 |
  some e =>
  obtain⟨h1,h2⟩:=nJ he
  simp only[tY,↓zq,zs,ae,cG,dU]
  refine⟨fun h=>(by cases h),fun _=>?_⟩
  refine an (yJ e h1) ?_
  cases hv:fw e with
  |none=>simp only[iq,↓zq,zs,ae,bH];simp
  |
   some v =>
   have hn:=vU hv
   simp only[iq,↓zq,zs,ae,aR,eQ]
   refine⟨fun h=>(by cases h),fun _=>?_⟩
   refine an (FH v (by omega)) ?_
   simp only[↓zq,zs,ae,bH]
   refine⟨fun h=>?_,fun h=>?_⟩
   ·rw[if_pos (by omega)]
   ·rw[if_neg (by omega)]
theorem zc:∀(e:E),e.ok->ap Tryz.prog 74 [e.ko] [] (bH (.v (.bool (yu e))))
 |
  .atom s,hok=>by
  refine zd _ _ ((be).mpr trivial) ?_
  have hne:s≠[]:=hok
  simp only[vM,↓zq,zs,ae,zt,bH,yu]
  refine⟨fun _=>⟨fun h=>?_,fun h=>?_⟩,fun h=>absurd h hne⟩
  ·simp[h]
  ·refine an (LO s) ?_
   have h':(s==[117])=false:=by simpa using h
   simp only[↓zq,zs,ae,h',Bool.false_or]
   congr 2
   rw[BD]
   cases fB s with
   |none=>rfl
   |some k=>simp
 |
  .list [],hok=>by
  refine zd _ _ ((ci _).mpr trivial) ?_
  simp only[vM,↓zq,zs,ae,zt,bH,yu]
  refine⟨fun h=>absurd rfl h,fun _=>?_⟩
  refine an N2 ?_
  simp[↓zq,zs,ae,zt]
 |
  .list [x],hok=>by
  refine zd _ _ ((ci _).mpr trivial) ?_
  simp only[vM,↓zq,zs,ae,zt,bH,yu]
  refine⟨fun h=>absurd rfl h,fun _=>?_⟩
  refine an (vY x _) ?_
  simp[↓zq,zs,ae,zt,E.bj]
 |
  .list (x::y::z::w::l),hok=>by
  refine zd _ _ ((ci _).mpr trivial) ?_
  simp only[vM,↓zq,zs,ae,zt,bH,yu]
  refine⟨fun h=>absurd rfl h,fun _=>?_⟩
  refine an (vY x _) ?_
  simp only[↓zq,zs,ae,zt,E.bj]
  refine⟨fun _=>⟨fun h=>by omega,fun _=>trivial⟩,fun _=>⟨fun _=>⟨fun h=>by omega,fun _=>trivial⟩,fun _=>⟨fun _=>⟨fun h=>by omega,fun _=>trivial⟩,fun _=>⟨fun _=>⟨fun h=>by omega,fun _=>trivial⟩,fun _=>trivial⟩⟩⟩⟩
 |
  .list [x,a],hok=>by
  refine zd _ _ ((ci _).mpr trivial) ?_
  obtain⟨ok1,ok2,_⟩:=hok
  simp only[vM,↓zq,zs,ae,zt,bH,yu]
  refine⟨fun h=>absurd rfl h,fun _=>?_⟩
  refine an (vY x _) ?_
  simp only[E.bj,toNat_one,bq,↓zq,zs,ae,zt,iD,gd,iM,mA,aq]
  refine⟨fun h=>⟨fun _=>⟨by omega,?_⟩,fun h=>by omega⟩,fun h1=>⟨fun h=>⟨fun _=>⟨by omega,?_⟩,fun h=>by omega⟩,fun h2=>⟨fun h=>⟨fun _=>⟨by omega,?_⟩,fun h=>by omega⟩,fun h3=>⟨fun h=>⟨fun h=>by omega,fun _=>?_⟩,fun h=>?_⟩⟩⟩⟩
  ·refine an (zc a ok2) ?_
   simp[↓zq,zs,ae,h]
  ·refine an (zc a ok2) ?_
   simp[↓zq,zs,ae,h]
  ·refine an (zc a ok2) ?_
   simp[↓zq,zs,ae,h]
  ·simp[h]
  ·simp[h1,h2,h3]
 |
  .list [x,a,b],hok=>by
  refine zd _ _ ((ci _).mpr trivial) ?_
  obtain⟨ok1,ok2,ok3,_⟩:=hok
  simp only[vM,↓zq,zs,ae,zt,bH,yu]
  refine⟨fun h=>absurd rfl h,fun _=>?_⟩
  refine an (vY x _) ?_
  simp only[E.bj,toNat_one,bq,↓zq,zs,ae,zt,iD,gd,iM,mA,aq]
  refine⟨fun h=>⟨fun h=>by omega,fun _=>?_⟩,fun h1=>⟨fun h=>⟨fun h=>by omega,fun _=>?_⟩,fun h2=>⟨fun h=>⟨fun h=>by omega,fun _=>?_⟩,fun h3=>⟨fun h=>⟨fun _=>⟨by omega,?_⟩,fun h=>by omega⟩,fun h=>?_⟩⟩⟩⟩
  ·simp[h]
  ·simp[h]
  ·simp[h]
  ·refine an (zc a ok2) ?_
   simp only[↓zq,zs,ae,h]
   refine⟨fun ha=>⟨by omega,an (zc b ok3) ?_⟩,fun ha=>?_⟩
   ·simp[↓zq,zs,ae,ha]
   ·simp[ha]
  ·simp[h]
theorem Iw(s:List UInt8):ap Tryz.prog 47 [.v (.string (mk s))] [] (mD ((sa s).map Vl.db) (sa s).isSome):=by
 refine Py _ ?_
 unfold MA
 refine aV (IC s) (mD.ne _ _ (fun h=>h)) ?_
 rintro r o ⟨c,d,hd,rfl,hh⟩
 simp only[↓zq,zs,ae,zt,cc,sa]
 refine⟨hd,fun h=>?_,fun h=>?_⟩
 ·obtain⟨e,he,hce⟩:=hh h
  obtain⟨hok,hsz⟩:=nJ he
  rw[he,hce]
  refine an (zc e hok) ?_
  simp only[↓zq,zs,ae]
  have hs:=nX e
  refine⟨fun hi=>?_,fun hi=>?_⟩
  ·rw[hi]at hs
   obtain⟨v,hv⟩:=bx.1 hs
   obtain⟨h1,h2⟩:=kG e v hv
   refine an (QH e (by omega)) ?_
   simp only[↓zq,zs,ae,hv]
   have hnd:e.nd=v.nodes:=by rw[<-h1,ny]
   rw[hnd]
   refine⟨c,d,hd,?_,?_⟩
   ·rw[hce]
    by_cases h4:v.nodes>200
    ·rw[if_pos h4];exact congrArg (fun b=>AV.cQ [e.ko,.v (.bool b)]) (decide_eq_false (show ¬((v.nodes:Nat):Int)<=200 by omega))
    ·rw[if_neg h4];exact congrArg (fun b=>AV.cQ [e.ko,.v (.bool b)]) (decide_eq_true (show ((v.nodes:Nat):Int)<=200 by omega))
   ·split
    ·exact fun h=>by cases h
    ·exact fun _=>⟨e,by simp[h1],hce⟩
  ·rw[hi]at hs
   have hn:fw e=none:=by cases hq:fw e<;>simp[hq]at hs |-
   rw[hn]
   exact⟨c,d,hd,by rw[hce];rfl,fun h=>by cases h⟩
 ·have hn:qk s=none:=by cases hq:qk s<;>simp[hq]at h |-
  rw[hn]
  exact⟨c,d,hd,rfl,fun h=>by cases h⟩
end Go.Proofs.Trees
namespace Go.Proofs.Trees
open Go Go.VL
theorem nD(l:List (List UInt8)):∀x,x∈[Ob.vec 1 (bw l)]->kZ x:=by
 intro x hx
 simp only[aU]at hx
 subst hx
 intro e he c hc
 simp only[bw,bZ]at he
 obtain⟨k,_,rfl⟩:=he
 simp only[aU]at hc
 exact⟨_,hc⟩
theorem wO(l:List (List UInt8)):(bw l).length=l.length:=by simp[bw]
end Go.Proofs.Trees
namespace Go.Proofs.Trees
open Go Go.VL Go.RowKit
def QP(n:Nat):AV->List Ob->Prop:=fun r o=>∃x:Int,r=.v (.int .i64 x)/\(0<=x->n<=1048576)
theorem QP.ne(n:Nat):∃r o,QP n r o:=⟨_,[],-1,rfl,fun h=>by omega⟩
end Go.Proofs.Trees
namespace Go.Proofs.Trees
open Go Go.VL Go.RowKit
theorem J8(a b:AV)(l:List (List UInt8))(ha:cZ a l)(hb:cZ b l)(hl:l.length<=2000000):∀(m i:Nat),i+m=l.length->HG [a,b,.v (.int .i64 (i:Int))] [] (ga 1 [] [])
 |
  0,i,hi=>by
  refine I4 _ _ _ ?_
  simp only[Hs,↓zq,zs,ae,ha.len]
  exact⟨ha.1,hb.1,ha.1,fun h=>by omega,fun _=>⟨rfl,rfl,rfl⟩⟩
 |
  m+1,i,hi=>by
  have hlt:i<l.length:=by omega
  refine I4 _ _ _ ?_
  simp only[Hs,↓zq,zs,ae,zt,ha.len,hb.len,ha.idx hlt,hb.idx hlt,bB]
  refine⟨ha.1,hb.1,ha.1,fun _=>⟨⟨ha.1,by omega,by omega⟩,by omega,⟨hb.1,by omega,by omega⟩,by omega,fun h=>by simp at h,fun _=>?_⟩,fun h=>by omega⟩
  rw[bh i (by omega)]
  exact J8 a b l ha hb hl m (i+1) (by omega)
theorem P1(a b:AV)(l:List (List UInt8))(ha:cZ a l)(hb:cZ b l)(hl:l.length<=2000000):ap Tryz.prog 17 [a,b] [] (bH (.v (.bool true))):=by
 refine Pe _ _ ha.1 hb.1 ?_
 simp only[Lg,↓zq,zs,ae,ha.len,hb.len]
 refine⟨ha.1,hb.1,fun h=>by simp at h,fun _=>?_⟩
 refine cb (J8 a b l ha hb hl l.length 0 (by omega)) ?_
 simp[bH,↓zq,zs,ae]
end Go.Proofs.Trees
namespace Go.Proofs.Trees
open Go Go.VL Go.RowKit
inductive Fr where
 |mk (s:List UInt8) (e:E) (o:List Fr)
def Fr.nm:Fr->List UInt8| .mk s _ _=>s
def Fr.ex:Fr->E| .mk _ e _=>e
def Fr.out:Fr->List Fr| .mk _ _ o=>o
def names:List Fr->List (List UInt8)
 |[]=>[]
 |f::r=>names r++[f.nm]
def xC(e:E)(o:List Fr):Ty:=(cD e (names o)).getD .zero
def E.sp:E->AV
 | .atom _=>.v (.slice none 0 0)
 | .list l=>.sl (E.bj l)
theorem iJ(e:E):e.hJ=[.v (.string (mk e.at)),e.sp]:=by cases e<;>rfl
theorem ei(e:E):e.ko=.agg [.v (.string (mk e.at)),e.sp]:=by cases e<;>rfl
theorem bf(e:E):LK.has .sl e.sp=True:=by cases e<;>simp[E.sp,be,ci]
mutual
def Fr.cells:Fr->List AV
 | .mk s e o=>[.v (.string (mk s)),.v (.string (mk e.at)),e.sp,.sl (j1 o)]
def j1:List Fr->List (List AV)
 |[]=>[]
 |f::r=>j1 r++[f.cells]
end
mutual
def Fr.cx:Fr->AV
 | .mk s e o=>.ptr [(xC e o).av,nO o]
def nO:List Fr->AV
 |[]=>jZ
 |f::r=>.ptr [f.cx,nO r]
end
inductive WF:List Fr->Prop
 |nil:WF []
 |cons {s:List UInt8} {x a b:E} {t:Ty} {r:List Fr} (hs:cS s=true) (hok:(E.list [x,a,b]).ok) (hx:x.at=[114,101,99]) (ht:cD (.list [x,a,b]) (names r)=some t) (hf:bP t=false) (hr:WF r):WF (.mk s (.list [x,a,b]) r::r)
theorem kS:∀env:List Fr,(j1 env).length=env.length
 |[]=>rfl
 |f::r=>by simp[j1,kS r]
theorem dX(env:List Fr):LK.has .ptr (nO env)=True:=by cases env<;>simp[nO,gp,cu]
theorem z8(f:Fr):LK.has .ptr f.cx=True:=by cases f;simp[Fr.cx,cu]
def fN(s:List UInt8):List Fr->Option Fr
 |[]=>none
 |f::r=>if f.nm=s then some f else fN s r
def hd(e:E)(env:List Fr):E×List Fr:=match fN e.at env with|some f=>(f.ex,f.out)|none=>(e,env)
theorem mI{env:List Fr}(h:WF env):fN [] env=none:=by
 induction h with
 |nil=>rfl
 |
  @cons s x a b t r hs hok hx ht hf hr ih =>
  rw[fN,if_neg (show ¬(Fr.mk s (.list [x,a,b]) r).nm=[] from A1 hs)];exact ih
theorem yI{env:List Fr}(h:WF env){s:List UInt8}{f:Fr}(hf:fN s env=some f):cS s=true:=by
 induction h with
 |nil=>cases hf
 |
  cons hs hok hx ht hf' hr ih =>
  rw[fN]at hf
  split at hf
  ·rename_i e;exact e ▸ hs
  ·exact ih hf
theorem nT{env:List Fr}(h:WF env){s:List UInt8}{f:Fr}(hf:fN s env=some f):∃x a b t,f.ex=.list [x,a,b]/\(E.list [x,a,b]).ok/\x.at=[114,101,99]/\cD f.ex (names f.out)=some t/\bP t=false/\WF f.out/\f.out.length<env.length:=by
 induction h with
 |nil=>cases hf
 |
  cons hs hok hx ht hf' hr ih =>
  rw[fN]at hf
  split at hf
  ·cases hf;exact⟨_,_,_,_,rfl,hok,hx,ht,hf',hr,by simp[Fr.out]⟩
  ·obtain⟨x,a,b,t,h1,h2,h3,h4,h5,h6,h7⟩:=ih hf
   exact⟨x,a,b,t,h1,h2,h3,h4,h5,h6,by simp;omega⟩
theorem kf(s w:List UInt8)(ar:List (List UInt8)):∀i,i<=ar.length->bK s (ar++[w]) i=(bK s ar i).map (·+1)
 |0,_=>rfl
 |
  i+1,hi=>by
  have hlt:i<ar.length:=by omega
  have e:(ar++[w]).getD i []=ar.getD i []:=by simp[aa,List.getElem?_append_left hlt]
  rw[bK,bK,e,kf s w ar i (by omega)]
  split
  ·simp only[al,au,aG,cr,Option.some.injEq];omega
  ·rfl
theorem vF(s:List UInt8)(f:Fr)(r:List Fr):bK s (names (f::r)) (names (f::r)).length=if f.nm=s then some 0 else(bK s (names r) (names r).length).map (·+1):=by
 have e:(names (f::r)).length=(names r).length+1:=by simp[names]
 rw[e,bK]
 have e2:(names (f::r)).getD (names r).length []=f.nm:=by simp[names,aa]
 rw[e2]
 split
 ·rw[e];simp
 ·rw[names,kf _ _ _ _ (aq _)]
theorem oP(s:List UInt8):∀env:List Fr,bK s (names env) (names env).length=none/\fN s env=none\/∃(u:Nat) (f:Fr),bK s (names env) (names env).length=some u/\fN s env=some f/\env[u]?=some f
 |[]=>.inl ⟨rfl,rfl⟩
 |
  f::r=>by
  rw[vF,fN]
  split
  ·exact .inr ⟨0,f,rfl,rfl,rfl⟩
  ·rcases oP s r with⟨h1,h2⟩|⟨u,g,h1,h2,h3⟩
   ·exact .inl ⟨by rw[h1];rfl,h2⟩
   ·exact .inr ⟨u+1,g,by rw[h1];rfl,h2,by simpa using h3⟩
def Ty.Nv:Ty->Bool
 | .bO _=>true
 |_=>false
theorem im{e:E}{env:List Fr}{t:Ty}(hw:WF env)(ht:cD e (names env)=some t) :
 (t.Nv=false/\fN e.at env=none)\/∃(u:Nat) (f:Fr),t=.bO u/\fN e.at env=some f/\env[u]?=some f:=by
 cases e with
 |
  list l =>
  left
  refine⟨?_,mI hw⟩
  match l,ht with
  |
   [x,a,b],ht =>
   by_cases h0:x.at=[43]
   ·obtain⟨t1,t2,_,_,rfl⟩:=fq h0 ht;rfl
   ·by_cases h1:x.at=[42]
    ·obtain⟨t1,t2,_,_,rfl⟩:=eS h1 ht;rfl
    ·by_cases h2:x.at=[114,101,99]
     ·obtain⟨t1,_,_,rfl⟩:=dh h2 ht;rfl
     ·rw[iO _ h0 h1 h2]at ht;cases ht
  |[],ht=>cases ht
  |[_],ht=>cases ht
  |[_,_],ht=>cases ht
  |_::_::_::_::_,ht=>cases ht
 |
  atom s =>
  simp only[cD]at ht
  have hno:cS s=false->fN s env=none:=fun h=>by
   cases hq:fN s env with
   |none=>rfl
   |some f=>rw[yI hw hq]at h;cases h
  split at ht
  ·rename_i h;cases ht;subst h;exact .inl ⟨rfl,hno rfl⟩
  ·split at ht
   ·rename_i h;cases ht;subst h;exact .inl ⟨rfl,hno rfl⟩
   ·split at ht
    ·rename_i h
     cases ht
     refine .inl ⟨rfl,hno ?_⟩
     cases hq:cS s with
     |false=>rfl
     |
      true =>
      obtain⟨c,r,rfl,h1,h2⟩:=kV h
      obtain⟨c',r',he,h3,h4⟩:=kV hq
      cases he;omega
    ·split at ht
     ·rcases oP s env with⟨h1,h2⟩|⟨u,f,h1,h2,h3⟩
      ·rw[h1]at ht;cases ht;exact .inl ⟨rfl,h2⟩
      ·rw[h1]at ht;cases ht;exact .inr ⟨u,f,rfl,h2,h3⟩
     ·cases ht
def ez(n:Nat):Vl->E×List Fr->Bool
 | .u,p=>match hd p.1 p.2 with|(.atom s,_)=>s==[49]|_=>false
 | .el k,p=>match hd p.1 p.2 with|(.atom s,_)=>!(s==[49])&&(gH s&&decide (k<n))|_=>false
 | .l w,p=>match hd p.1 p.2 with|(.list [x,a,b],o)=>(x.at==[43])&&ez n w (a,o)|_=>false
 | .r w,p=>match hd p.1 p.2 with|(.list [x,a,b],o)=>(x.at==[43])&&ez n w (b,o)|_=>false
 | .f w,p=>match hd p.1 p.2 with|(.list [x,a,b],o)=>(x.at==[114,101,99])&&ez n w (b,.mk a.at (.list [x,a,b]) o::o)|_=>false
 | .p v w,p=>match hd p.1 p.2 with|(.list [x,a,b],o)=>(x.at==[42])&&(ez n v (a,o)&&ez n w (b,o))|_=>false
theorem kg{e:E}{env:List Fr}(h:fN e.at env=none):hd e env=(e,env):=by rw[hd,h]
theorem qp{e:E}{env:List Fr}{f:Fr}(h:fN e.at env=some f):hd e env=(f.ex,f.out):=by rw[hd,h]
theorem o0{x a b:E}{o:List Fr}(h:WF o):hd (.list [x,a,b]) o=(.list [x,a,b],o):=kg (mI h)
theorem ui(n:Nat)(v:Vl){e e':E}{env o:List Fr}(h:hd e env=(e',o))(h':hd e' o=(e',o)):ez n v (e,env)=ez n v (e',o):=by
 cases v<;>simp only[ez,h,h']
theorem jU{x a b:E}{env:List Fr}{t:Ty}(hw:WF env)(hok:(E.list [x,a,b]).ok)(hx:x.at=[114,101,99])(ht:cD (.list [x,a,b]) (names env)=some t)(hf:bP t=false) :
 ∃t1,t=.rc t1/\cD b (names (.mk a.at (.list [x,a,b]) env::env))=some t1/\bP t1=false/\WF (.mk a.at (.list [x,a,b]) env::env):=by
 obtain⟨t1,hl,h1,rfl⟩:=dh hx ht
 exact⟨t1,rfl,h1,hf,.cons hl hok hx ht hf hw⟩
theorem B4(a b env:AV)(n:Int)(s:ByteArray)(u:Int)(ha:LK.ptr.has a)(he:LK.ptr.has env):ap Tryz.prog 126 [.agg [.ptr [.v (.int .u8 n),.v (.string s),.v (.int .i64 u),a,b],env]] [] (bH (.agg [a,env])):=by
 refine Qb _ _ ((cu _).mpr trivial) he ?_
 simp only[KO,↓zq,zs,ae,bH]
 exact⟨ha,by omega⟩
theorem B5(a b env:AV)(n:Int)(s:ByteArray)(u:Int)(hb:LK.ptr.has b)(he:LK.ptr.has env):ap Tryz.prog 127 [.agg [.ptr [.v (.int .u8 n),.v (.string s),.v (.int .i64 u),a,b],env]] [] (bH (.agg [b,env])):=by
 refine Qy _ _ ((cu _).mpr trivial) he ?_
 simp only[HY,↓zq,zs,ae,bH]
 exact⟨hb,by omega⟩
theorem Qc(t:Ty)(env:List Fr)(s:List UInt8)(e:E)(ht:xC e env=.rc t):ap Tryz.prog 90 [.agg [(Ty.rc t).av,nO env]] [] (bH (.cQ [.agg [t.av,nO (.mk s e env::env)],(Fr.mk s e env).cx])):=by
 refine QG _ _ ((aF _).mpr trivial) ((dX _).mpr trivial) ?_
 simp only[Ku,Ty.av,↓zq,zs,ae,aF,bH,nO,Fr.cx,ht]
 omega
theorem sP(env:List Fr)(i:Nat)(f:Fr)(h:env[i]?=some f):nO (env.drop i)=.ptr [f.cx,nO (env.drop (i+1))]:=by
 obtain⟨hlt,he⟩:=List.getElem?_eq_some_iff.1 h
 rw[aL hlt,he,nO]
theorem Kb(env:List Fr)(u:Nat)(hu:u<env.length)(hl:env.length<1000000):∀(k i:Nat),i+k=u->Dd [nO (env.drop i),.v (.int .i64 (u:Int)),.v (.int .i64 (i:Int))] [] (ga 1 [nO (env.drop u)] [])
 |
  0,i,hi=>by
  refine B6 _ _ _ ?_
  have:i=u:=by omega
  subst this
  simp only[Bl,↓zq,zs,ae,dX]
  exact⟨fun h=>by omega,fun _=>by simp[ga]⟩
 |
  k+1,i,hi=>by
  refine B6 _ _ _ ?_
  have hlt:i<env.length:=by omega
  have hg:env[i]?=some env[i]:=bo hlt
  have hd:=sP env i _ hg
  rw[hd]
  simp only[Bl,↓zq,zs,ae,dX]
  refine⟨fun _=>⟨by omega,?_⟩,fun h=>by omega⟩
  rw[bh i (by omega)]
  exact Kb env u hu hl k (i+1) (by omega)
theorem PU(env:List Fr)(u:Nat)(f:Fr)(hf:env[u]?=some f)(hl:env.length<1000000):ap Tryz.prog 125 [.agg [(Ty.bO u).av,nO env]] [] (bH f.cx):=by
 refine Jt _ _ ((aF _).mpr trivial) ((dX _).mpr trivial) ?_
 obtain⟨hlt,he⟩:=List.getElem?_eq_some_iff.1 hf
 simp only[Gi,Ty.av,↓zq,zs,ae]
 refine⟨by omega,?_⟩
 have h:=Kb env u hlt hl u 0 (by omega)
 simp only[aX]at h
 refine cb h ?_
 rw[sP env u f hf]
 simp only[↓zq,zs,ae,z8,bH]
 omega
theorem Dc(k:Nat)(h:k<100):Lib.atoi (dd k)=some (k:Int):=by
 have e:∀k,k<100->dd k=if k<10 then [a8 (48+k)]else [a8 (48+k/10),a8 (48+k%10)]:=by
  intro k hk
  by_cases h1:k<10
  ·rw[ep h1,if_pos h1]
  ·rw[fD h1,ep (by omega),if_neg h1];rfl
 have key:∀k:Fin 100,Lib.atoi (if k.val<10 then [a8 (48+k.val)]else [a8 (48+k.val/10),a8 (48+k.val%10)])=some (k.val:Int):=by decide +kernel
 rw[e k h];exact key ⟨k,h⟩
theorem NX(k:Nat)(hk:k<100):ap Tryz.prog 124 [.v (.string (mk (dd k)))] [] (bH (.cQ [.v (.int .i64 (k:Int)),.v .nilIface])):=by
 have hl:=pB 1000 k (by omega)
 have hl2:(dd k).length<=18:=by
  have e:(dd k).length<=2:=by
   by_cases h1:k<10
   ·rw[ep h1];simp
   ·rw[fD h1,ep (by omega)];simp
  omega
 refine ap.NR (xs:=[.string (mk (dd k))]) (v:=.tuple #[.int .i64 (k:Int),.nilIface]) ⟨qe,by kernel_rfl,by kernel_rfl,by kernel_rfl⟩ (fun M=>?_) fun w=>?_
 ·refine bu.cQ _ _ [.int .i64 (k:Int),.nilIface] rfl fun i hi=>?_
  match i,hi with
  |0,_=>exact .v _ _
  |1,_=>exact .v _ _
 ·have:=Any.strconv_Atoi Tryz.Cl (mk (dd k)) (k:Int) (by rw[cX];exact hl2) (by
   have:(mk (dd k)).data.toList=dd k:=by simp[mk]
   rw[this];exact Dc k hk) w
  refine Calls.mono this fun e w' ⟨h1,t,h2⟩=>⟨h1,?_⟩
  subst h2
  refine⟨rfl,rfl,rfl,?_,fun b hb=>Lib.bytesWorld_at_old _ _ _ _ hb⟩
  simp[Lib.bytesWorld,World.freeze]
end Go.Proofs.Trees
namespace Go.Proofs.Trees
open Go Go.VL Go.RowKit
theorem fT{a b:Ty}(h:bP (.plus a b)=false):bP a=false/\bP b=false:=by simpa[bP]using h
theorem fm{a b:Ty}(h:bP (.times a b)=false):bP a=false/\bP b=false:=by simpa[bP]using h
theorem fR{e:E}{ar:List (List UInt8)}{t:Ty}(ht:cD e ar=some t)(hb:t.Nv=false)(hf:bP t=false) :
 (e=.atom [48]/\t=.zero)\/(e=.atom [49]/\t=.one)\/(∃s,e=.atom s/\t=.name s/\gH s=true/\s≠[48]/\s≠[49]) ∨
 (∃x a b t1 t2,e=.list [x,a,b]/\x.at=[43]/\t=.plus t1 t2/\cD a ar=some t1/\cD b ar=some t2) ∨
 (∃x a b t1 t2,e=.list [x,a,b]/\x.at=[42]/\t=.times t1 t2/\cD a ar=some t1/\cD b ar=some t2) ∨
 (∃x a b t1,e=.list [x,a,b]/\x.at=[114,101,99]/\t=.rc t1):=by
 cases e with
 |
  list l =>
  match l,ht with
  |
   [x,a,b],ht =>
   by_cases h0:x.at=[43]
   ·obtain⟨t1,t2,h1,h2,rfl⟩:=fq h0 ht
    exact .inr (.inr (.inr (.inl ⟨x,a,b,t1,t2,rfl,h0,rfl,h1,h2⟩)))
   ·by_cases h1:x.at=[42]
    ·obtain⟨t1,t2,h3,h2,rfl⟩:=eS h1 ht
     exact .inr (.inr (.inr (.inr (.inl ⟨x,a,b,t1,t2,rfl,h1,rfl,h3,h2⟩))))
    ·by_cases h2:x.at=[114,101,99]
     ·obtain⟨t1,_,_,rfl⟩:=dh h2 ht
      exact .inr (.inr (.inr (.inr (.inr ⟨x,a,b,t1,rfl,h2,rfl⟩))))
     ·rw[iO _ h0 h1 h2]at ht;cases ht
  |[],ht=>cases ht
  |[_],ht=>cases ht
  |[_,_],ht=>cases ht
  |_::_::_::_::_,ht=>cases ht
 |
  atom s =>
  simp only[cD]at ht
  split at ht
  ·rename_i h;cases ht;subst h;exact .inl ⟨rfl,rfl⟩
  ·rename_i h0
   split at ht
   ·rename_i h;cases ht;subst h;exact .inr (.inl ⟨rfl,rfl⟩)
   ·rename_i h1
    split at ht
    ·rename_i h;cases ht;exact .inr (.inr (.inl ⟨s,rfl,rfl,h,h0,h1⟩))
    ·split at ht
     ·rename_i h
      split at ht
      ·cases ht;cases hb
      ·cases ht;simp only[bP]at hf;rw[h]at hf;cases hf
     ·cases ht
def pT(n:Nat)(v:Vl)(e:E)(env:List Fr)(t:Ty):Prop:=ap Tryz.prog 89 [.agg [t.av,nO env],v.cx,.v (.int .i64 (n:Int))] [] (bH (.v (.bool (ez n v (e,env)))))
structure Ask(e:E)(env:List Fr)(t:Ty):Prop where
 ok:e.ok
 wf:WF env
 ty:cD e (names env)=some t
 cl:bP t=false
theorem HV(n:Nat)(hn:n<=100)(v:Vl)(hv:v.jf 100)(IH:∀w:Vl,w.nodes<v.nodes->w.jf 100->∀e env t,Ask e env t->env.length+w.nodes<100000->pT n w e env t)
 (e:E) (env:List Fr) (t:Ty) (A:Ask e env t) (hl:env.length+v.nodes<100000) (hb:t.Nv=false) (hh:fN e.at env=none):pT n v e env t:=by
 have hhd:hd e env=(e,env):=kg hh
 unfold pT
 refine IX _ _ _ _ ((aF _).mpr trivial) ((dX _).mpr trivial) ((aR _).mpr trivial) ?_
 rcases fR A.ty hb A.cl with⟨rfl,rfl⟩|⟨rfl,rfl⟩|⟨s,rfl,rfl,hp,h0,h1⟩|⟨x,a,b,t1,t2,rfl,hx,rfl,ha,hbb⟩|⟨x,a,b,t1,t2,rfl,hx,rfl,ha,hbb⟩|⟨x,a,b,t1,rfl,hx,rfl⟩
 ·have hp0:gH [48]=false:=rfl
  cases v<;>simp[zM,Ty.av,↓zq,zs,ae,bH,ez,hhd,hp0]
 ·have hp0:gH [49]=false:=rfl
  cases v<;>simp[zM,Ty.av,Vl.cx,↓zq,zs,ae,bH,ez,hhd,hp0]
 ·have h1':(s==[49])=false:=by simpa using h1
  cases v with
  |
   el k =>
   have hk:k<100:=hv
   simp only[zM,Ty.av,Vl.cx,↓zq,zs,ae,zt]
   refine⟨by omega,fun h=>by omega,fun _=>⟨fun _=>⟨by omega,fun h=>absurd rfl h,fun _=>⟨by omega,by omega,?_⟩⟩,fun h=>absurd rfl h⟩⟩
   have e1:(List.take ((dd k).length+1) (vX k)).drop (bT 1)=dd k:=by simp[vX]
   rw[e1]
   refine an (NX k hk) ?_
   simp only[↓zq,zs,ae,bH,ez,hhd,h1',hp,zf]
   refine⟨rfl,?_⟩
   congr 2
   rw[cq];simp
  |
   _ =>
   simp only[zM,Ty.av,Vl.cx,↓zq,zs,ae,zt,ez,hhd,h1',bH]
   exact⟨by omega,fun h=>by omega,fun _=>⟨fun _=>⟨by omega,fun _=>trivial,fun h=>by omega⟩,fun h=>absurd rfl h⟩⟩
 ·have hok:=A.ok
  obtain⟨ok1,ok2,ok3,_⟩:=hok
  obtain⟨f1,f2⟩:=fT A.cl
  cases v with
  |
   l w =>
   simp only[Vl.nodes]at hl
   simp only[zM,Ty.av,Vl.cx,↓zq,zs,ae]
   refine⟨by omega,fun h=>by omega,fun _=>⟨fun h=>by omega,fun _=>⟨fun h=>by omega,fun _=>⟨fun _=>⟨by omega,fun _=>?_,fun h=>absurd rfl h⟩,fun h=>absurd rfl h⟩⟩⟩⟩
   refine an (B4 _ _ _ _ _ _ ((aF _).mpr trivial) ((dX _).mpr trivial)) ?_
   simp only[↓zq,zs,ae,cc,aF,dX,aR]
   refine⟨by omega,?_⟩
   refine an (IH w (by simp only[Vl.nodes];omega) hv a env t1 ⟨ok2,A.wf,ha,f1⟩ (by omega)) ?_
   simp only[↓zq,zs,ae,bH,ez,hhd,hx]
   refine⟨fun h=>?_,fun h=>⟨by omega,fun h=>by omega,fun _=>?_⟩⟩
   ·simp[h]
   ·simp[h]
  |
   r w =>
   simp only[Vl.nodes]at hl
   simp only[zM,Ty.av,Vl.cx,↓zq,zs,ae]
   refine⟨by omega,fun h=>by omega,fun _=>⟨fun h=>by omega,fun _=>⟨fun h=>by omega,fun _=>⟨fun _=>⟨by omega,fun h=>by omega,fun _=>⟨by omega,fun _=>?_,fun h=>absurd rfl h⟩⟩,fun h=>absurd rfl h⟩⟩⟩⟩
   refine an (B5 _ _ _ _ _ _ ((aF _).mpr trivial) ((dX _).mpr trivial)) ?_
   simp only[↓zq,zs,ae,cc,aF,dX,aR]
   refine⟨by omega,?_⟩
   refine an (IH w (by simp only[Vl.nodes];omega) hv b env t2 ⟨ok3,A.wf,hbb,f2⟩ (by omega)) ?_
   simp[↓zq,zs,ae,bH,ez,hhd,hx]
  |
   _ =>
   simp only[zM,Ty.av,Vl.cx,↓zq,zs,ae,ez,hhd,bH]
   exact⟨by omega,fun h=>by omega,fun _=>⟨fun h=>by omega,fun _=>⟨fun h=>by omega,fun _=>⟨fun _=>⟨by omega,fun h=>by omega,fun _=>⟨by omega,fun h=>by omega,fun _=>by simp[hx]⟩⟩,fun h=>absurd rfl h⟩⟩⟩⟩
 ·have hok:=A.ok
  obtain⟨ok1,ok2,ok3,_⟩:=hok
  obtain⟨f1,f2⟩:=fm A.cl
  cases v with
  |
   p v w =>
   simp only[Vl.nodes]at hl
   simp only[zM,Ty.av,Vl.cx,↓zq,zs,ae]
   refine⟨by omega,fun h=>by omega,fun _=>⟨fun h=>by omega,fun _=>⟨fun h=>by omega,fun _=>⟨fun h=>by omega,fun _=>⟨fun _=>⟨by omega,fun _=>?_,fun h=>absurd rfl h⟩,fun h=>absurd rfl h⟩⟩⟩⟩⟩
   refine an (B4 _ _ _ _ _ _ ((aF _).mpr trivial) ((dX _).mpr trivial)) ?_
   simp only[↓zq,zs,ae,cc,aF,dX,aR]
   refine⟨by omega,?_⟩
   refine an (IH v (by simp only[Vl.nodes];omega) hv.1 a env t1 ⟨ok2,A.wf,ha,f1⟩ (by omega)) ?_
   simp only[↓zq,zs,ae,bH,ez,hhd,hx]
   refine⟨fun h=>?_,fun h=>?_⟩
   ·refine an (B5 _ _ _ _ _ _ ((aF _).mpr trivial) ((dX _).mpr trivial)) ?_
    simp only[↓zq,zs,ae,cc,aF,dX,aR]
    refine⟨by omega,?_⟩
    refine an (IH w (by simp only[Vl.nodes];omega) hv.2 b env t2 ⟨ok3,A.wf,hbb,f2⟩ (by omega)) ?_
    simp[↓zq,zs,ae,h]
   ·simp[h]
  |
   _ =>
   simp only[zM,Ty.av,Vl.cx,↓zq,zs,ae,ez,hhd,bH]
   exact⟨by omega,fun h=>by omega,fun _=>⟨fun h=>by omega,fun _=>⟨fun h=>by omega,fun _=>⟨fun h=>by omega,fun _=>⟨fun _=>⟨by omega,fun h=>by omega,fun _=>by simp[hx]⟩,fun h=>absurd rfl h⟩⟩⟩⟩⟩
 ·obtain⟨t1',he1,h1,f1,hw1⟩:=jU A.wf A.ok hx A.ty A.cl
  cases he1
  have hok:=A.ok
  obtain⟨ok1,ok2,ok3,_⟩:=hok
  have htD:xC (.list [x,a,b]) env=.rc t1:=by rw[xC,A.ty];rfl
  have hin:=Qc t1 env a.at (.list [x,a,b]) htD
  simp only[Ty.av]at hin
  simp only[zM,Ty.av,↓zq,zs,ae]
  refine⟨by omega,fun h=>by omega,fun _=>⟨fun h=>by omega,fun _=>⟨fun h=>by omega,fun _=>⟨fun h=>by omega,fun _=>⟨fun h=>by omega,fun _=>⟨fun _=>?_,fun h=>absurd rfl h⟩⟩⟩⟩⟩⟩
  refine an hin ?_
  simp only[↓zq,zs,ae,cc,aF,dX,z8,aR,eQ]
  cases v with
  |
   f w =>
   simp only[Vl.nodes]at hl
   simp only[Vl.cx,↓zq,zs,ae,aR]
   refine⟨by omega,fun _=>⟨by omega,?_⟩,fun h=>absurd rfl h⟩
   refine an (IH w (by simp only[Vl.nodes];omega) hv b (.mk a.at (.list [x,a,b]) env::env) t1 ⟨ok3,hw1,h1,f1⟩ (by simp;omega)) ?_
   simp[↓zq,zs,ae,bH,ez,hhd,hx]
  |
   _ =>
   simp only[Vl.cx,↓zq,zs,ae,ez,hhd,bH]
   exact⟨by omega,fun h=>by omega,fun _=>by simp[hx]⟩
theorem JG(n:Nat)(hn:n<=100):∀(m:Nat) (v:Vl),v.nodes<m->v.jf 100->∀e env t,Ask e env t->env.length+v.nodes<100000->pT n v e env t
 |0,v,h,_=>by omega
 |
  m+1,v,h,hv=>by
  intro e env t A hl
  have IH:∀w:Vl,w.nodes<v.nodes->w.jf 100->∀e env t,Ask e env t->env.length+w.nodes<100000->pT n w e env t:=fun w hw hb=>JG n hn m w (by omega) hb
  rcases im A.wf A.ty with⟨hb,hh⟩|⟨u,f,rfl,hh,hu⟩
  ·exact HV n hn v hv IH e env t A hl hb hh
  ·obtain⟨x,a,b,t',hfe,hok,hx,ht',hf',hwf,hlt⟩:=nT A.wf hh
   obtain⟨t1,hl1,h1,rfl⟩:=dh hx (hfe ▸ ht')
   have hvis:ez n v (e,env)=ez n v (f.ex,f.out):=ui n v (qp hh) (by rw[hfe];exact o0 hwf)
   unfold pT
   refine IX _ _ _ _ ((aF _).mpr trivial) ((dX _).mpr trivial) ((aR _).mpr trivial) ?_
   have hbd:=PU env u f hu (by omega)
   simp only[Ty.av]at hbd
   simp only[zM,Ty.av,↓zq,zs,ae]
   refine⟨by omega,fun h=>by omega,fun _=>⟨fun h=>by omega,fun _=>⟨fun _=>?_,fun h=>absurd rfl h⟩⟩⟩
   refine an hbd ?_
   cases f with
   |
    mk s ee oo =>
    simp only[Fr.ex,Fr.out]at hfe ht' hf' hwf hvis hlt
    have htD:xC ee oo=.rc t1:=by rw[xC,ht'];rfl
    simp only[Fr.cx,htD,↓zq,zs,ae,cc,aF,dX]
    refine⟨by omega,?_⟩
    have hs:=HV n hn v hv IH ee oo (.rc t1) ⟨by rw[hfe];exact hok,hwf,ht',hf'⟩ (by omega) rfl (by rw[hfe];exact mI hwf)
    unfold pT at hs
    refine an hs ?_
    simp[↓zq,zs,ae,bH,hvis]
end Go.Proofs.Trees
namespace Go.Proofs.Trees
open Go Go.VL Go.RowKit
theorem sO:∀(env:List Fr) (k:Nat) (f:Fr),env[k]?=some f->(j1 env).getD (env.length-1-k) []=f.cells
 |[],k,f,h=>by cases h
 |
  g::r,0,f,h=>by
  cases h
  have:(g::r).length-1-0=(j1 r).length:=by simp[kS]
  rw[this,j1];simp[aa]
 |
  g::r,k+1,f,h=>by
  have h':r[k]?=some f:=by simpa using h
  have hlt:=(List.getElem?_eq_some_iff.1 h').1
  have e:(g::r).length-1-(k+1)=r.length-1-k:=by simp;omega
  have:=sO r k f h'
  rw[e,j1,aa,List.getElem?_append_left (by rw[kS];omega),<-aa]
  exact this
theorem rj(f:Fr):f.cells=[.v (.string (mk f.nm)),.v (.string (mk f.ex.at)),f.ex.sp,.sl (j1 f.out)]:=by cases f;rfl
theorem Ni(e:E)(env:List Fr)(hl:env.length<1000000):∀(j k:Nat),k+j=env.length->Er [.sl (j1 env),.v (.int .i64 ((env.length:Int)-1-(k:Int)))] [.cells [.v (.string (mk e.at)),e.sp],.cells [.v (.string (mk [])),.v (.slice none 0 0)]]
 (ru (match fN e.at (env.drop k)with|some f=>(2,[.sl (j1 f.out)],[.cells [.v (.string (mk f.ex.at)),f.ex.sp]])|none=>(1,[.sl (j1 env)],[.cells [.v (.string (mk e.at)),e.sp],.cells [.v (.string (mk [])),.v (.slice none 0 0)]])))
 |
  0,k,hk=>by
  refine Iz _ _ _ _ _ _ ?_
  have hd:env.drop k=[]:=bG (by omega)
  simp only[G7,↓zq,zs,ae,bf,hd,fN]
  exact⟨fun h=>by omega,fun _=>by first|trivial|rfl⟩
 |
  j+1,k,hk=>by
  refine Iz _ _ _ _ _ _ ?_
  have hlt:k<env.length:=by omega
  have hg:env[k]?=some env[k]:=bo hlt
  have hc:=sO env k _ hg
  have e1:((env.length:Int)-1-(k:Int))=((env.length-1-k:Nat):Int):=by omega
  have hdr:env.drop k=env[k]::env.drop (k+1):=aL hlt
  rw[hdr,fN,e1]
  simp only[G7,bB,hc,rj,↓zq,zs,ae,zt,bf,kS,cc]
  refine⟨fun _=>⟨by omega,by omega,fun h=>⟨by omega,by omega,by omega,by omega,?_⟩,fun h=>?_⟩,fun h=>by omega⟩
  ·rw[if_pos h]
  ·rw[if_neg h]
   have e2:IntKind.wrap .i64 (((env.length-1-k:Nat):Int)-1)=(env.length:Int)-1-((k+1:Nat):Int):=by
    have:IntKind.wrap .i64 (((env.length-1-k:Nat):Int)-1)=((env.length-1-k:Nat):Int)-1:=wrap64 _ (by omega) (by omega)
    omega
   rw[e2]
   exact Ni e env hl j (k+1) (by omega)
theorem QC(e:E)(env:List Fr)(hl:env.length<1000000):ap Tryz.prog 100 [e.ko,.sl (j1 env)] [] (bH (.cQ [(hd e env).1.ko,.sl (j1 (hd e env).2)])):=by
 rw[ei e]
 refine ND _ _ _ ((bf _).mpr trivial) ((ci _).mpr trivial) ?_
 simp only[KQ,↓zq,zs,ae,kS,bH]
 have h:=Ni e env hl env.length 0 (by omega)
 simp only[aX]at h
 rw[wrap64 _ (by omega) (by omega)]
 rw[show (env.length:Int)-1-((0:Nat):Int)=(env.length:Int)-1 by omega]at h
 refine hH h (fun ys o e'=>?_) (fun ys o e'=>?_)
 ·unfold hd
  cases hq:fN e.at env<;>rw[hq]at e'<;>cases e'
  simp only[↓zq,zs,ae,zt,bf,ei]
 ·unfold hd
  cases hq:fN e.at env<;>rw[hq]at e'<;>cases e'
  simp only[↓zq,zs,ae,zt,bf,ei]
theorem pU:∀env:List Fr,bV 4 (j1 env)
 |[]=>fun c hc=>by cases hc
 |
  f::r=>fun c hc=>by
  simp only[j1,aM,aU]at hc
  rcases hc with hc|rfl
  ·exact pU r c hc
  ·rw[rj];rfl
theorem NH(x a b:E)(env:List Fr)(hl:env.length<1000000):ap Tryz.prog 103 [(E.list [x,a,b]).ko,.sl (j1 env)] [] (bH (.cQ [b.ko,.sl (j1 (.mk a.at (.list [x,a,b]) env::env))])):=by
 refine Ov _ _ _ ((ci _).mpr trivial) ((ci _).mpr trivial) ?_
 simp only[KS,E.bj,toNat_one,bq,↓zq,zs,ae,zt,iD,gd,iM,mA,aq,kS,bH,aQ]
 refine⟨by omega,⟨pU env,by omega⟩,by omega,by omega,⟨fun c hc=>(by simp at hc;rw[hc];rfl),by omega⟩,?_⟩
 simp only[j1,rj,Fr.nm,Fr.ex,Fr.out,E.at,E.sp,E.bj]
theorem Dm(s:ByteArray)(e:E):cc [.str,.sl] [.v (.string s),e.sp] 0=True:=by apply eq_true;simp[cc,eV,bf]
theorem Hb{e:E}{env:List Fr}{t:Ty}(A:Ask e env t):∃e' o t',hd e env=(e',o)/\Ask e' o t'/\t'.Nv=false/\hd e' o=(e',o)/\o.length<=env.length:=by
 rcases im A.wf A.ty with⟨hb,hh⟩|⟨u,f,rfl,hh,hu⟩
 ·exact⟨e,env,t,kg hh,A,hb,kg hh,aq _⟩
 ·obtain⟨x,a,b,t',hfe,hok,hx,ht',hf',hwf,hlt⟩:=nT A.wf hh
  refine⟨f.ex,f.out,t',qp hh,⟨by rw[hfe];exact hok,hwf,ht',hf'⟩,?_,?_,by omega⟩
  ·obtain⟨t1,_,_,rfl⟩:=dh hx (hfe ▸ ht');rfl
  ·rw[hfe];exact o0 hwf
def vh:Vl->List UInt8
 | .l _=>[108]
 | .r _=>[114]
 | .f _=>[102]
 | .p _ _=>[112]
 |_=>[]
theorem JL(v:Vl):ap Tryz.prog 71 [v.db.ko] [] (bH (.v (.string (mk (vh v))))):=by
 cases v with
 |u=>exact A0 _ _ ((be).mpr trivial) (by simp)
 |el k=>exact A0 _ _ ((be).mpr trivial) (by simp)
 |l v=>exact vY _ _
 |r v=>exact vY _ _
 |f v=>exact vY _ _
 |p v w=>exact vY _ _
theorem Q0(v:Vl)(hv:v.jf 100):v.db.at=(match v with| .u=>[117]| .el k=>vX k|_=>[])/\BD v.db.at=(match v with| .el k=>(k:Int)|_=>-1):=by
 cases v with
 |el k=>exact⟨rfl,FQ k hv⟩
 |u=>exact⟨rfl,rfl⟩
 |_=>exact⟨rfl,rfl⟩
theorem za(n:Nat)(hn:n<=100):∀(m:Nat) (v:Vl),v.nodes<m->v.jf 100->∀e env t,Ask e env t->env.length+v.nodes<100000->ap Tryz.prog 72 [e.ko,.sl (j1 env),v.db.ko,.v (.int .i64 (n:Int))] [] (bH (.v (.bool (ez n v (e,env)))))
 |0,v,hm,hv,e,env,t,A,hl=>by omega
 |
  m+1,v,hm,hv,e,env,t,A,hl=>by
  obtain⟨e',o,t',hhd,A',hb,hh',hlen⟩:=Hb A
  rw[ui n v hhd hh',ei e,ei v.db]
  refine NC _ _ _ _ _ _ ((bf _).mpr trivial) ((ci _).mpr trivial) ((bf _).mpr trivial) ?_
  have hf:=QC e env (by omega)
  rw[ei e,hhd]at hf
  have hvh:=JL v
  rw[ei]at hvh
  unfold Lw
  refine an hf ?_
  simp only[ei e',↓zq,zs,ae,zt,bf,Dm,bH]
  rcases fR A'.ty hb A'.cl with⟨rfl,rfl⟩|⟨rfl,rfl⟩|⟨s,rfl,rfl,hp,h0,h1⟩|⟨x,a,b,t1,t2,rfl,hx,rfl,ha,hbb⟩|⟨x,a,b,t1,t2,rfl,hx,rfl,ha,hbb⟩|⟨x,a,b,t1,rfl,hx,rfl⟩
  ·refine⟨fun _=>⟨fun h=>by simp[E.at]at h,fun _=>an (Fb _) ?_⟩,fun h=>by simp[E.at]at h⟩
   have hp0:gH (E.atom [48]).at=false:=rfl
   have hp1:gH [48]=false:=rfl
   cases v<;>simp[↓zq,zs,ae,hp0,ez,hh',hp1]
  ·refine⟨fun _=>⟨fun _=>?_,fun h=>absurd rfl h⟩,fun h=>by simp[E.at]at h⟩
   have hp1:gH [49]=false:=rfl
   cases v<;>simp[ez,hh',hp1,Vl.db,E.at]
  ·have hne:s≠[]:=A'.ok
   have h1':(s==[49])=false:=by simpa using h1
   refine⟨fun _=>⟨fun h=>absurd h h1,fun _=>an (Fb _) ?_⟩,fun h=>absurd h hne⟩
   have hat:(E.atom s).at=s:=rfl
   simp only[hat,hp,↓zq,zs,ae]
   refine⟨fun _=>an (LO _) ?_,fun h=>by cases h⟩
   simp only[↓zq,zs,ae]
   rw[wrap64 _ (by omega) (by omega)]
   refine an (Dx _ _ _) ?_
   simp only[↓zq,zs,ae,DL,(Q0 v hv).2]
   cases v with
   |
    el k =>
    simp only[ez,hh',h1',hp,zf]
    congr 2
    rw[cq];simp;omega
   |_=>simp[ez,hh',h1']
  ·have hok:=A'.ok
   obtain⟨ok1,ok2,ok3,_⟩:=hok
   obtain⟨f1,f2⟩:=fT A'.cl
   refine⟨fun h=>absurd rfl h,fun _=>an (vY x [a,b]) ?_⟩
   simp only[↓zq,zs,ae]
   refine an hvh ?_
   rw[hx]
   cases v with
   |
    l w =>
    simp only[Vl.nodes]at hl
    simp only[vh,Vl.db,E.sp,E.bj,toNat_one,bq,↓zq,zs,ae,zt,iD,gd,iM,mA,aq]
    refine⟨by simp,fun _=>⟨by omega,by omega,an (za n hn m w (by simp only[Vl.nodes]at hm;omega) hv a o t1 ⟨ok2,A'.wf,ha,f1⟩ (by omega)) ?_⟩,fun h=>absurd rfl h⟩
    simp[↓zq,zs,ae,ez,hh',hx]
   |
    r w =>
    simp only[Vl.nodes]at hl
    simp only[vh,Vl.db,E.sp,E.bj,toNat_one,bq,↓zq,zs,ae,zt,iD,gd,iM,mA,aq]
    refine⟨by simp,fun h=>by simp at h,fun _=>⟨fun _=>⟨by omega,by omega,an (za n hn m w (by simp only[Vl.nodes]at hm;omega) hv b o t2 ⟨ok3,A'.wf,hbb,f2⟩ (by omega)) ?_⟩,fun h=>absurd rfl h⟩⟩
    simp[↓zq,zs,ae,ez,hh',hx]
   |_=>simp[vh,↓zq,zs,ae,zt,ez,hh',hx]
  ·have hok:=A'.ok
   obtain⟨ok1,ok2,ok3,_⟩:=hok
   obtain⟨f1,f2⟩:=fm A'.cl
   refine⟨fun h=>absurd rfl h,fun _=>an (vY x [a,b]) ?_⟩
   simp only[↓zq,zs,ae]
   refine an hvh ?_
   rw[hx]
   cases v with
   |
    p w z =>
    simp only[Vl.nodes]at hl
    simp only[vh,Vl.db,E.sp,E.bj,toNat_one,bq,↓zq,zs,ae,zt,iD,gd,iM,mA,aq]
    refine⟨by simp,fun h=>by simp at h,fun _=>⟨fun h=>by simp at h,fun _=>⟨fun _=>⟨by omega,by omega,an (za n hn m w (by simp only[Vl.nodes]at hm;omega) hv.1 a o t1 ⟨ok2,A'.wf,ha,f1⟩ (by omega)) ?_⟩,fun h=>absurd rfl h⟩⟩⟩
    simp only[↓zq,zs,ae,ez,hh',hx]
    refine⟨fun h=>⟨by omega,by omega,an (za n hn m z (by simp only[Vl.nodes]at hm;omega) hv.2 b o t2 ⟨ok3,A'.wf,hbb,f2⟩ (by omega)) ?_⟩,fun h=>?_⟩
    ·simp[↓zq,zs,ae,h]
    ·simp[h]
   |_=>simp[vh,↓zq,zs,ae,zt,ez,hh',hx]
  ·obtain⟨t1',he1,h1,f1,hw1⟩:=jU A'.wf A'.ok hx A'.ty A'.cl
   cases he1
   have hok:=A'.ok
   obtain⟨ok1,ok2,ok3,_⟩:=hok
   refine⟨fun h=>absurd rfl h,fun _=>an (vY x [a,b]) ?_⟩
   simp only[↓zq,zs,ae]
   refine an hvh ?_
   rw[hx]
   cases v with
   |
    f w =>
    simp only[Vl.nodes]at hl
    simp only[vh,Vl.db,E.sp,E.bj,toNat_one,bq,↓zq,zs,ae,zt,iD,gd,iM,mA,aq]
    refine⟨by simp,fun h=>by simp at h,fun _=>⟨fun h=>by simp at h,fun _=>⟨fun h=>by simp at h,fun _=>⟨fun _=>an (NH x a b o (by omega)) ?_,fun h=>absurd rfl h⟩⟩⟩⟩
    simp only[↓zq,zs,ae,yy,Cv]
    refine⟨by omega,an (za n hn m w (by simp only[Vl.nodes]at hm;omega) hv b (.mk a.at (.list [x,a,b]) o::o) t1 ⟨ok3,hw1,h1,f1⟩ (by simp;omega)) ?_⟩
    simp[↓zq,zs,ae,ez,hh',hx]
   |_=>simp[vh,↓zq,zs,ae,zt,ez,hh',hx]
theorem OO(n:Nat)(hn:n<=100)(v:Vl)(hv:v.jf 100)(e:E)(env:List Fr)(t:Ty)(A:Ask e env t)(hl:env.length+v.nodes<100000):ap Tryz.prog 72 [e.ko,.sl (j1 env),v.db.ko,.v (.int .i64 (n:Int))] [] (bH (.v (.bool (ez n v (e,env))))):=za n hn (v.nodes+1) v (by omega) hv e env t A hl
end Go.Proofs.Trees
namespace Go.Proofs.Trees
open Go Go.VL Go.RowKit
theorem IS(l:List (List UInt8))(a:AV)(ha:cZ a l)(s:List UInt8)(hl:l.length<1000000):∀(k i:Nat),i+k=l.length->Gp [a,.v (.string (mk s)),.v (.int .i64 (i:Int))] []
 (ru (if s∈l.drop i then(2,[.v (.bool true)],[])else(1,[],[])))
 |
  0,i,hi=>by
  refine ME _ _ _ ?_
  have hd:l.drop i=[]:=bG (by omega)
  simp only[G4,↓zq,zs,ae,hd,ha.len]
  exact⟨ha.1,ha.1,fun h=>by omega,fun _=>by simp[ru]⟩
 |
  k+1,i,hi=>by
  have hlt:i<l.length:=by omega
  have hdr:l.drop i=l.getD i []::l.drop (i+1):=by
   rw[aL hlt];simp[aa,hlt]
  refine ME _ _ _ ?_
  simp only[G4,↓zq,zs,ae,zt,ha.len,ha.idx hlt]
  refine⟨ha.1,ha.1,fun _=>⟨⟨ha.1,by omega,by omega⟩,by omega,fun h=>?_,fun h=>?_⟩,fun h=>by omega⟩
  ·rw[hdr,h];simp[ru]
  ·rw[bh i (by omega)]
   have:=IS l a ha s hl k (i+1) (by omega)
   have e:s∈l.drop i↔s∈l.drop (i+1):=by
    rw[hdr,aH];exact⟨fun q=>q.resolve_left (fun q=>h q.symm),.inr⟩
   simp only[e];exact this
theorem yF(l:List (List UInt8))(a:AV)(ha:cZ a l)(s:List UInt8)(hl:l.length<1000000):ap Tryz.prog 139 [a,.v (.string (mk s))] [] (bH (.v (.bool (decide (s∈l))))):=by
 refine NM _ _ ha.1 ?_
 unfold I5
 refine hH (IS l a ha s hl l.length 0 (by omega)) (fun ys o e=>?_) (fun ys o e=>?_)
 ·simp only[aX]at e
  split at e<;>cases e
  rename_i h
  simp[↓zq,zs,ae,bH,h]
 ·simp only[aX]at e
  split at e<;>cases e
  rename_i h
  simp[↓zq,zs,ae,bH,h]
theorem yE(l:List (List UInt8))(a:AV)(ha:cZ a l)(s:List UInt8)(hl:l.length<1000000):ap Tryz.prog 61 [a,.v (.string (mk s))] [] (bH (.sl (bw (l++[s])))):=by
 refine N8 _ _ ha.1 ?_
 simp only[Np,↓zq,zs,ae,ha.2,bH,aQ]
 have:(bw l).length=l.length:=by simp[bw]
 refine⟨⟨ha.1,kb l,by omega⟩,⟨fun c hc=>(by simp at hc;rw[hc];rfl),by omega⟩,?_⟩
 rw[BS]
def lV:E->List (List UInt8)->List (List UInt8)->List (List UInt8)
 | .atom s,bd,l=>if s=[48]\/s=[49]\/s∈bd\/s∈l then l else l++[s]
 | .list [x,a,b],bd,l=>if x.at=[114,101,99]then lV b (bd++[a.at]) l else lV b bd (lV a bd l)
 | .list _,_,l=>l
theorem ij:∀(e:E) (bd l:List (List UInt8)),(lV e bd l).length<=l.length+e.sz
 | .atom s,bd,l=>by rw[lV];split<;>simp[E.sz]
 | .list [],bd,l=>by simp[lV]
 | .list [_],bd,l=>by simp[lV]
 | .list [_,_],bd,l=>by simp[lV]
 | .list (_::_::_::_::_),bd,l=>by simp[lV]
 |
  .list [x,a,b],bd,l=>by
  rw[lV]
  simp only[E.sz,E.ji]
  split
  ·have:=ij b (bd++[a.at]) l;omega
  ·have:=ij a bd l
   have:=ij b bd (lV a bd l)
   omega
theorem Da:∀(e:E) (bd l:List (List UInt8)) (a:AV),e.ok->jT e=true->cZ a bd->bd.length+l.length+e.sz<100000->ap Tryz.prog 98 [e.ko,a,.vec 0] [.vec 1 (bw l)] (cN (.vec 1) [.dead,.vec 1 (bw (lV e bd l))])
 |
  .atom s,bd,l,a,hok,hty,ha,hl=>by
  simp only[E.sz]at hl
  refine zm _ _ _ _ ((be).mpr trivial) ha.1 ?_
  have hne:s≠[]:=hok
  have hll:(bw l).length=l.length:=by simp[bw]
  simp only[wN,↓zq,zs,ae,zt,cN,lV]
  refine⟨fun _=>⟨fun h=>?_,fun h=>⟨fun h1=>?_,fun h1=>?_⟩⟩,fun h=>absurd h hne⟩
  ·rw[if_pos (.inl h)]
  ·rw[if_pos (.inr (.inl h1))]
  ·refine an (yF bd a ha s (by omega)) ?_
   simp only[↓zq,zs,ae]
   refine⟨fun h2=>?_,fun h2=>an (yF l _ (.of l) s (by omega)) ?_⟩
   ·rw[if_pos (.inr (.inr (.inl h2)))]
   ·simp only[↓zq,zs,ae]
    refine⟨fun h3=>?_,fun h3=>⟨⟨fun c hc=>(by simp at hc;rw[hc];rfl),by omega⟩,?_⟩⟩
    ·rw[if_pos (.inr (.inr (.inr h3)))]
    ·rw[BS,if_neg]
     rintro(q|q|q|q)
     ·exact h q
     ·exact h1 q
     ·exact h2 q
     ·exact h3 q
 | .list [],_,_,_,_,h,_,_=>by cases h
 | .list [_],_,_,_,_,h,_,_=>by cases h
 | .list [_,_],_,_,_,_,h,_,_=>by cases h
 | .list (_::_::_::_::_),_,_,_,_,h,_,_=>by cases h
 |
  .list [x,y,z],bd,l,a,hok,hty,ha,hl=>by
  simp only[E.sz,E.ji]at hl
  obtain⟨ok1,ok2,ok3,_⟩:=hok
  refine zm _ _ _ _ ((ci _).mpr trivial) ha.1 ?_
  simp only[wN,E.bj,toNat_one,bq,↓zq,zs,ae,zt,iD,gd,iM,mA,aq,cN]
  refine⟨fun h=>absurd rfl h,fun _=>an (vY x [y,z]) ?_⟩
  simp only[↓zq,zs,ae,zt]
  have hyl:=ij y bd l
  rw[jT]at hty
  refine⟨fun h=>⟨by omega,by omega,by omega,an (yE bd a ha y.at (by omega)) ?_⟩,fun h=>⟨by omega,by omega,?_⟩⟩
  ·have hz:jT z=true:=by
    rw[if_neg (by rw[h];decide),if_neg (by rw[h];decide),if_pos h]at hty
    simp only[aw]at hty;exact hty.2
   simp only[↓zq,zs,ae]
   refine a7 (Da z (bd++[y.at]) l _ ok3 hz (.of _) (by simp;omega)) ?_
   simp only[↓zq,zs,ae]
   rw[lV,if_pos h]
  ·have hyz:jT y=true/\jT z=true:=by
    split at hty
    ·simpa using hty
    ·split at hty
     ·simpa using hty
     ·cases hty
   refine a7 (Da y bd l a ok2 hyz.1 ha (by omega)) ?_
   simp only[↓zq,zs,ae]
   refine a7 (Da z bd (lV y bd l) a ok3 hyz.2 ha (by omega)) ?_
   simp only[↓zq,zs,ae]
   rw[lV,if_neg h]
theorem j2{s:List UInt8}(h:gH s=true):cS s=false:=by
 cases hq:cS s with
 |false=>rfl
 |
  true =>
  obtain⟨c,r,rfl,h1,h2⟩:=kV h
  obtain⟨c',r',he,h3,h4⟩:=kV hq
  cases he;omega
theorem mr(s:List UInt8)(ar:List (List UInt8)):∀i,i<=ar.length->(bK s ar i=none↔s∉ar.take i)
 |0,_=>by simp[bK]
 |
  i+1,hi=>by
  have hlt:i<ar.length:=by omega
  have e:ar.getD i []=ar[i]:=by simp[aa,hlt]
  have e2:s∈ar.take (i+1)↔s∈ar.take i\/s=ar[i]:=by
   rw[show ar.take (i+1)=ar.take i++[ar[i]] from (List.take_append_getElem hlt).symm]
   simp only[aM,aU]
  rw[bK,e,e2]
  by_cases h:ar[i]=s
  ·rw[if_pos h]
   exact⟨fun h=>(by cases h),fun h'=>absurd (.inr h.symm) h'⟩
  ·rw[if_neg h,mr s ar i (by omega)]
   exact⟨fun h1 h2=>h2.elim h1 (fun h3=>h h3.symm),fun h1 h2=>h1 (.inl h2)⟩
theorem lE:∀(e:E) (ar l:List (List UInt8)) (t:Ty),cD e ar=some t->(∀w,w∈ar->cS w=true)->(lV e ar l).any cS=(l.any cS||bP t)
 |
  .atom s,ar,l,t,h,har=>by
  simp only[cD]at h
  rw[lV]
  split at h
  ·rename_i h0;cases h;rw[if_pos (.inl h0)];simp[bP]
  ·rename_i h0
   split at h
   ·rename_i h1;cases h;rw[if_pos (.inr (.inl h1))];simp[bP]
   ·rename_i h1
    split at h
    ·rename_i h2
     cases h
     have hn:=j2 h2
     simp only[bP,hn]
     split
     ·simp
     ·simp[hn]
    ·split at h
     ·rename_i h2 h3
      have hlo:=mr s ar ar.length (aq _)
      rw[List.take_length]at hlo
      cases hq:bK s ar ar.length with
      |
       some u =>
       rw[hq]at h;cases h
       have hm:s∈ar:=Classical.byContradiction fun hm=>by rw[hlo.2 hm]at hq;cases hq
       rw[if_pos (.inr (.inr (.inl hm)))];simp[bP]
      |
       none =>
       rw[hq]at h;cases h
       have hm:=hlo.1 hq
       simp only[bP,h3,Bool.or_true]
       split
       ·rename_i hh
        rcases hh with q|q|q|q
        ·exact absurd q h0
        ·exact absurd q h1
        ·exact absurd q hm
        ·rw[bY];exact⟨s,q,h3⟩
       ·simp[h3]
     ·cases h
 | .list [],_,_,_,h,_=>by cases h
 | .list [_],_,_,_,h,_=>by cases h
 | .list [_,_],_,_,_,h,_=>by cases h
 | .list (_::_::_::_::_),_,_,_,h,_=>by cases h
 |
  .list [x,a,b],ar,l,t,h,har=>by
  rw[lV]
  by_cases h0:x.at=[43]
  ·obtain⟨t1,t2,e1,e2,rfl⟩:=fq h0 h
   rw[if_neg (by rw[h0];decide),lE b ar _ t2 e2 har,lE a ar l t1 e1 har,bP,Bool.or_assoc]
  ·by_cases h1:x.at=[42]
   ·obtain⟨t1,t2,e1,e2,rfl⟩:=eS h1 h
    rw[if_neg (by rw[h1];decide),lE b ar _ t2 e2 har,lE a ar l t1 e1 har,bP,Bool.or_assoc]
   ·by_cases h2:x.at=[114,101,99]
    ·obtain⟨t1,hl,e1,rfl⟩:=dh h2 h
     rw[if_pos h2,lE b _ l t1 e1 (fun w hw=>by
      simp only[aM,aU]at hw
      rcases hw with hw|rfl
      ·exact har w hw
      ·exact hl),bP]
    ·rw[iO _ h0 h1 h2]at h;cases h
def jr(s:List UInt8):Option E:=match xd s with
 |none=>none
 |some e=>if(lV e [] []).any cS=true then none else some e
theorem Aa{s:List UInt8}:wj s=match jr s with|none=>none|some e=>cD e []:=by
 unfold wj jr
 rw[wB]
 cases he:xd s with
 |none=>rfl
 |
  some e =>
  obtain⟨h1,h2,h3⟩:=qW he
  have hs:=jB e []
  rw[h2]at hs
  obtain⟨t,ht⟩:=bx.1 hs
  have ha:=lE e [] [] t ht (fun w hw=>by cases hw)
  simp only[ht,sF,ha,List.any_nil,Bool.false_or]
  cases hf:bP t<;>simp[ht]
theorem gJ{s:List UInt8}{e:E}(h:jr s=some e):∃t,wj s=some t/\Ask e [] t/\jT e=true/\e.sz<=8000/\t.aC<=400/\qk s=some e:=by
 have h0:=h
 unfold jr at h
 split at h
 ·cases h
 ·rename_i e' he
  split at h
  ·cases h
  ·rename_i hn
   cases h
   obtain⟨h1,h2,h3⟩:=qW he
   obtain⟨hok,hsz⟩:=nJ h1
   have hs:=jB e []
   rw[h2]at hs
   obtain⟨t,ht⟩:=bx.1 hs
   have ha:=lE e [] [] t ht (fun w hw=>by cases hw)
   rw[ha]at hn
   refine⟨t,by rw[Aa,h0];exact ht,⟨hok,.nil,ht,by simpa using hn⟩,h2,hsz,?_,h1⟩
   rw[<-jM e [] t ht];exact h3
theorem mJ{s:List UInt8}(h:jr s=none):wj s=none:=by rw[Aa,h]
theorem IA(e:E)(l:List (List UInt8))(hl:l.length<1000000):∀(k i:Nat),i+k=l.length->E0 [.v (.int .i64 (i:Int))] [.cells [.v (.string (mk [])),.v (.slice none 0 0)],.cells [.v (.string (mk e.at)),e.sp],.vec 1 (bw l)]
 (ru (if(l.drop i).any cS=true then(2,[.v (.bool false)],[.cells [.v (.string (mk e.at)),e.sp]])else(1,[],[.cells [.v (.string (mk [])),.v (.slice none 0 0)],.cells [.v (.string (mk e.at)),e.sp]])))
 |
  0,i,hi=>by
  refine Kr _ _ _ _ _ _ ?_
  have hd:l.drop i=[]:=bG (by omega)
  have hll:(bw l).length=l.length:=by simp[bw]
  simp only[Ha,↓zq,zs,ae,hd,hll,bf]
  exact⟨fun h=>by omega,fun _=>by simp[ru]⟩
 |
  k+1,i,hi=>by
  have hlt:i<l.length:=by omega
  have hll:(bw l).length=l.length:=by simp[bw]
  have hdr:l.drop i=l.getD i []::l.drop (i+1):=by
   rw[aL hlt];simp[aa,hlt]
  have hg:=(cZ.of l).idx hlt
  simp only[fL]at hg
  refine Kr _ _ _ _ _ _ ?_
  simp only[Ha,↓zq,zs,ae,zt,hll,hg,bf]
  refine⟨fun _=>⟨by omega,by omega,an (FT _) ?_⟩,fun h=>by omega⟩
  simp only[↓zq,zs,ae,hdr,List.any_cons]
  refine⟨fun h=>?_,fun h=>?_⟩
  ·rw[h];simp[ru]
  ·rw[h,bh i (by omega)]
   simp only[Bool.false_or]
   exact IA e l hl k (i+1) (by omega)
theorem F3(s:List UInt8):ap Tryz.prog 70 [.v (.string (mk s))] [] (mD (jr s) (jr s).isSome):=by
 refine OJ _ ?_
 unfold Iu
 refine aV (QB s) (mD.ne _ _ (fun h=>h)) ?_
 rintro r o ⟨c,d,hd,rfl,hh⟩
 have hhas:cc [.str,.sl] [.v (.string (mk c)),d] 0:=by simp[cc,eV,hd]
 simp only[↓zq,zs,ae,zt]
 refine⟨hhas,fun h=>?_,fun h=>?_⟩
 ·have hn:xd s=none:=by cases hq:xd s<;>simp[hq]at h |-
  unfold jr
  rw[hn]
  exact⟨c,d,hd,rfl,fun h=>by cases h⟩
 ·obtain⟨e,he,hce⟩:=hh h
  obtain⟨h1,h2,h3⟩:=qW he
  obtain⟨hok,hsz⟩:=nJ h1
  have hce':=hce
  rw[ei]at hce'
  simp only[AV.agg.injEq,List.cons.injEq,AV.v.injEq,Value.string.injEq,and_true]at hce'
  obtain⟨hc1,rfl⟩:=hce'
  have hc2:=vS hc1
  subst hc2
  rw[<-ei]
  refine a7 (Da e [] [] _ hok h2 (.of []) (by simp;omega)) ?_
  have hfl:=ij e [] []
  simp only[↓zq,zs,ae]
  have hLS:=IA e (lV e [] []) (by simp at hfl;omega) (lV e [] []).length 0 (by omega)
  simp only[aX]at hLS
  unfold jr
  rw[he]
  refine hH hLS (fun ys o e'=>?_) (fun ys o e'=>?_)
  ·split at e'<;>cases e'
   rename_i hn
   simp only[↓zq,zs,ae,bf,if_neg hn]
   exact⟨e.at,e.sp,hd,rfl,fun _=>⟨e,rfl,(ei e).symm⟩⟩
  ·split at e'<;>cases e'
   rename_i hn
   simp only[↓zq,zs,ae,bf,if_pos hn]
   exact⟨e.at,e.sp,hd,rfl,fun h=>by cases h⟩
def pV(s v:List UInt8)(n:Int):Option Vl:=match jr s,sa v with
 |some e,some w=>if(0<=n/\n<=100)/\ez n.toNat w (e,[])=true then some w else none
 |_,_=>none
theorem rS{s v:List UInt8}{n:Int}{w:Vl}(h:pV s v n=some w):∃e t m,jr s=some e/\sa v=some w/\wj s=some t/\Ask e [] t/\n=(m:Nat)/\m<=100/\ez m w (e,[])=true:=by
 unfold pV at h
 split at h
 ·rename_i e w' he hw
  split at h
  ·rename_i hh
   cases h
   obtain⟨t,h1,h2,_⟩:=gJ he
   exact⟨e,t,n.toNat,he,hw,h1,h2,by omega,by omega,hh.2⟩
  ·cases h
 ·cases h
theorem Ia(s v:List UInt8)(n:Int):ap Tryz.prog 54 [.v (.string (mk s)),.v (.string (mk v)),.v (.int .i64 n)] [] (bH (.cQ [gZ (wj s),iq (pV s v n)])):=by
 refine Oc _ _ _ ?_
 unfold MP
 refine an (Ka s) ?_
 simp only[↓zq,zs,ae,ii]
 refine an (Qi v) ?_
 simp only[↓zq,zs,ae,gl,bH]
 unfold pV
 cases he:jr s with
 |none=>rw[mJ he];cases sa v<;>simp[gZ,iq,↓zq,zs,ae]
 |
  some e =>
  obtain⟨t,h1,h2,h3,h4,h5,_⟩:=gJ he
  rw[h1]
  cases hv:sa v with
  |none=>simp only[gZ,iq,aF,fy,↓zq,zs,ae];exact⟨fun h=>(by cases h),fun _=>⟨fun _=>trivial,fun h=>(by cases h)⟩⟩
  |
   some w =>
   obtain⟨h6,h7,h8⟩:=lf hv
   simp only[gZ,iq,aF,fy,aR,eQ,↓zq,zs,ae]
   refine⟨fun h=>(by cases h),fun _=>⟨fun h=>(by cases h),fun _=>⟨fun h=>?_,fun h=>⟨fun h'=>?_,fun h'=>?_⟩⟩⟩⟩
   ·rw[if_neg (by omega)]
   ·rw[if_neg (by omega)]
   ·obtain⟨m,rfl⟩:∃m:Nat,n=(m:Int):=⟨n.toNat,by omega⟩
    have hi:=JG m (by omega) (w.nodes+1) w (by omega) h7 e [] t h2 (by simp;omega)
    unfold pT at hi
    refine an hi ?_
    simp only[↓zq,zs,ae,bB]
    refine⟨fun hq=>?_,fun hq=>?_⟩
    ·rw[if_neg (by rw[hq];simp)]
    ·rw[if_pos ⟨by omega,hq⟩]
theorem Q8(s v:List UInt8)(n:Int):ap Tryz.prog 46 [.v (.string (mk s)),.v (.string (mk v)),.v (.int .i64 n)] [] (bH (.v (.bool (pV s v n).isSome))):=by
 refine Oy _ _ _ ?_
 unfold IB
 refine aV (F3 s) (mD.ne _ _ (fun h=>h)) ?_
 rintro r o ⟨c,d,hd,rfl,hh⟩
 have hhas:cc [.str,.sl] [.v (.string (mk c)),d] 0:=by simp[cc,eV,hd]
 simp only[↓zq,zs,ae,zt]
 refine⟨hhas,?_⟩
 refine aV (Iw v) (mD.ne _ _ (fun h=>by cases hq:sa v<;>simp[hq]at h |-)) ?_
 rintro r o ⟨c',d',hd',rfl,hh'⟩
 have hhas':cc [.str,.sl] [.v (.string (mk c')),d'] 0:=by simp[cc,eV,hd']
 simp only[↓zq,zs,ae,zt,bH]
 refine⟨hhas',fun h=>⟨fun h2=>?_,fun h2=>?_⟩,fun h=>?_⟩
 ·obtain⟨e,he,hce⟩:=hh h
  obtain⟨t,h1,hA,h3,h4,h5,_⟩:=gJ he
  obtain⟨w,hw⟩:=bx.1 h2
  obtain⟨e2,he2,hce2⟩:=hh' h2
  rw[hw]at he2
  cases he2
  obtain⟨h6,h7,h8⟩:=lf hw
  refine an (Dx _ _ _) ?_
  simp only[↓zq,zs,ae,DL,pV,he,hw]
  refine⟨fun hq=>?_,fun hq=>?_⟩
  ·have hq':0<=n/\n<=100:=by simpa using hq
   obtain⟨m,rfl⟩:∃m:Nat,n=(m:Int):=⟨n.toNat,by omega⟩
   rw[hce,hce2]
   have:=OO m (by omega) w h7 e [] t hA (by simp;omega)
   rw[show j1 []=[] from rfl]at this
   refine an this ?_
   simp only[↓zq,zs,ae,bB]
   by_cases hb:ez m w (e,[])=true
   ·rw[if_pos ⟨hq',hb⟩,hb];rfl
   ·rw[if_neg (fun h=>hb h.2)]
    rw[Bool.not_eq_true]at hb
    rw[hb];rfl
  ·have hq':¬(0<=n/\n<=100):=by simpa using hq
   rw[if_neg (fun h=>hq' h.1)];rfl
 ·have hn:sa v=none:=by cases hq:sa v<;>simp[hq]at h2 |-
  unfold pV
  rw[hn];cases jr s<;>rfl
 ·have hn:jr s=none:=by cases hq:jr s<;>simp[hq]at h |-
  unfold pV
  rw[hn];rfl
end Go.Proofs.Trees
namespace Go.Proofs.Trees
open Go Go.VL Go.RowKit
inductive Tg where
 |nm (s:List UInt8)
 |bd (k:Nat)
 deriving DecidableEq
def Tg.up:Tg->Tg
 | .nm s=>.nm s
 | .bd k=>.bd (k+1)
def fu:Ty->Tg->Bool
 | .name s,.nm s'=>decide (s=s')
 | .bO u,.bd k=>decide (u=k)
 |_,_=>false
abbrev Hl:=Vl×Vl
def jg(g:Vl->Vl)(l:List Hl):List Hl:=l.map fun h=>(g h.1,h.2)
def kt(f:Ty->Tg->Vl->List Hl)(tg:Tg):Ty->Vl->List Hl
 | .plus a _,.l w=>jg .l (f a tg w)
 | .plus _ b,.r w=>jg .r (f b tg w)
 | .times a b,.p x y=>jg (fun c=>.l (.p c y)) (f a tg x)++jg (fun c=>.r (.p x c)) (f b tg y)
 | .rc a,.f w=>jg (fun c=>.f (.l c)) (f a tg.up w)++(f a (.bd 0) w).flatMap fun h=>jg (fun c=>.f (.r (.p h.1 c))) (f (.rc a) tg h.2)
 |_,_=>[]
def eh:Nat->Ty->Tg->Vl->List Hl
 |0,_,_,_=>[]
 |n+1,t,tg,v=>if fu t tg=true then [(.u,v)]else kt (eh n) tg t v
def stuck:Ty->Vl->Bool
 | .plus _ _,.l _=>false
 | .plus _ _,.r _=>false
 | .times _ _,.p _ _=>false
 | .rc _,.f _=>false
 |_,_=>true
def bW(t:Ty)(tg:Tg)(v:Vl):List Hl:=eh v.nodes t tg v
theorem dx{g:Vl->Vl}{l:List Hl}{h:Hl}(hm:h∈jg g l):∃k,k∈l/\h=(g k.1,k.2):=by
 obtain⟨k,h1,h2⟩:=bZ.1 hm
 exact⟨k,h1,h2.symm⟩
theorem jI{f g:Hl->List Hl}:∀{l:List Hl},(∀h,h∈l->f h=g h)->l.flatMap f=l.flatMap g
 |[],_=>rfl
 |h::l,hl=>by rw[cP,cP,hl h ai,jI (l:=l) fun k hk=>hl k (ak _ hk)]
theorem fp:∀(n:Nat) (t:Ty) (tg:Tg) (v:Vl) (h:Hl),h∈eh n t tg v->h.2.nodes<=v.nodes/\h.1.nodes+4*h.2.nodes<=4*v.nodes+1
 |0,t,tg,v,h,hm=>by simp[eh]at hm
 |
  n+1,t,tg,v,h,hm=>by
  unfold eh at hm
  split at hm
  ·simp only[aU]at hm
   subst hm
   simp only[Vl.nodes];omega
  ·unfold kt at hm
   split at hm
   ·obtain⟨k,h1,rfl⟩:=dx hm
    have:=fp n _ _ _ k h1
    simp only[Vl.nodes];omega
   ·obtain⟨k,h1,rfl⟩:=dx hm
    have:=fp n _ _ _ k h1
    simp only[Vl.nodes];omega
   ·rcases aM.1 hm with hm|hm
    ·obtain⟨k,h1,rfl⟩:=dx hm
     have:=fp n _ _ _ k h1
     simp only[Vl.nodes];omega
    ·obtain⟨k,h1,rfl⟩:=dx hm
     have:=fp n _ _ _ k h1
     simp only[Vl.nodes];omega
   ·rcases aM.1 hm with hm|hm
    ·obtain⟨k,h1,rfl⟩:=dx hm
     have:=fp n _ _ _ k h1
     simp only[Vl.nodes];omega
    ·obtain⟨k,h1,h2⟩:=dq.1 hm
     obtain⟨k2,h3,rfl⟩:=dx h2
     have:=fp n _ _ _ k h1
     have:=fp n _ _ _ k2 h3
     simp only[Vl.nodes];omega
   ·simp at hm
theorem gP:∀(n m:Nat) (t:Ty) (tg:Tg) (v:Vl),v.nodes<=n->v.nodes<=m->eh n t tg v=eh m t tg v
 |0,m,t,tg,v,h,_=>by have:=cJ v;omega
 |n+1,0,t,tg,v,_,h=>by have:=cJ v;omega
 |
  n+1,m+1,t,tg,v,hn,hm=>by
  rw[eh,eh]
  split
  ·rfl
  ·unfold kt
   split
   ·simp only[Vl.nodes]at hn hm;rw[gP n m _ _ _ (by omega) (by omega)]
   ·simp only[Vl.nodes]at hn hm;rw[gP n m _ _ _ (by omega) (by omega)]
   ·simp only[Vl.nodes]at hn hm;rw[gP n m _ _ _ (by omega) (by omega),gP n m _ _ _ (by omega) (by omega)]
   ·rename_i a w
    simp only[Vl.nodes]at hn hm;rw[gP n m _ _ _ (by omega) (by omega),gP n m _ (.bd 0) _ (by omega) (by omega)]
    congr 1
    apply jI
    intro h hh
    have:=(fp _ _ _ _ _ hh).1
    rw[gP n m _ _ _ (by omega) (by omega)]
   ·rfl
theorem oj{n:Nat}(t:Ty)(tg:Tg){v:Vl}(h:v.nodes<=n):eh n t tg v=bW t tg v:=gP _ _ _ _ _ h (aq _)
theorem mF{t:Ty}{tg:Tg}(v:Vl)(h:fu t tg=true):bW t tg v=[(.u,v)]:=by
 have:=cJ v
 unfold bW
 cases e:v.nodes with
 |zero=>omega
 |succ n=>rw[eh,if_pos h]
theorem mR(a b:Ty)(tg:Tg)(w:Vl):bW (.plus a b) tg (.l w)=jg .l (bW a tg w):=by
 unfold bW;rw[show (Vl.l w).nodes=w.nodes+1 by simp[Vl.nodes];omega,eh,if_neg (by simp[fu])];rfl
theorem mN(a b:Ty)(tg:Tg)(w:Vl):bW (.plus a b) tg (.r w)=jg .r (bW b tg w):=by
 unfold bW;rw[show (Vl.r w).nodes=w.nodes+1 by simp[Vl.nodes];omega,eh,if_neg (by simp[fu])];rfl
theorem mV(a b:Ty)(tg:Tg)(x y:Vl):bW (.times a b) tg (.p x y)=jg (fun c=>.l (.p c y)) (bW a tg x)++jg (fun c=>.r (.p x c)) (bW b tg y):=by
 rw[bW,show (Vl.p x y).nodes=(x.nodes+y.nodes)+1 by simp[Vl.nodes];omega,eh,if_neg (by simp[fu])]
 rw[kt,oj a tg (by omega),oj b tg (by omega)]
theorem mO(a:Ty)(tg:Tg)(w:Vl):bW (.rc a) tg (.f w)=jg (fun c=>.f (.l c)) (bW a tg.up w)++(bW a (.bd 0) w).flatMap fun h=>jg (fun c=>.f (.r (.p h.1 c))) (bW (.rc a) tg h.2):=by
 rw[bW,show (Vl.f w).nodes=w.nodes+1 by simp[Vl.nodes];omega,eh,if_neg (by simp[fu])]
 rw[kt,oj a tg.up (aq _),oj a (.bd 0) (aq _)]
 congr 1
 apply jI
 intro h hh
 have:=(fp _ _ _ _ _ hh).1
 rw[oj (.rc a) tg this]
theorem dH{t:Ty}{tg:Tg}{v:Vl}(h:fu t tg=false)(h2:stuck t v=true):bW t tg v=[]:=by
 unfold bW
 cases e:v.nodes with
 |zero=>rfl
 |
  succ n =>
  rw[eh,if_neg (by rw[h];simp)]
  unfold kt
  split<;>first|(simp[stuck]at h2;done)|rfl
theorem iZ{t:Ty}{tg:Tg}{v:Vl}{h:Hl}(hm:h∈bW t tg v):h.2.nodes<=v.nodes/\h.1.nodes+4*h.2.nodes<=4*v.nodes+1:=fp _ _ _ _ _ hm
theorem gX(n:Nat):∀(m:Nat) (t:Ty) (tg:Tg) (v:Vl) (h:Hl),v.jf n->h∈eh m t tg v->h.1.jf n/\h.2.jf n
 |0,t,tg,v,h,hv,hm=>by simp[eh]at hm
 |
  m+1,t,tg,v,h,hv,hm=>by
  unfold eh at hm
  split at hm
  ·simp only[aU]at hm
   subst hm
   exact⟨trivial,hv⟩
  ·unfold kt at hm
   split at hm
   ·obtain⟨k,h1,rfl⟩:=dx hm
    exact(fun q=>gX n m _ _ _ k q h1) hv
   ·obtain⟨k,h1,rfl⟩:=dx hm
    exact(fun q=>gX n m _ _ _ k q h1) hv
   ·rcases aM.1 hm with hm|hm
    ·obtain⟨k,h1,rfl⟩:=dx hm
     obtain⟨q1,q2⟩:=gX n m _ _ _ k hv.1 h1
     exact⟨⟨q1,hv.2⟩,q2⟩
    ·obtain⟨k,h1,rfl⟩:=dx hm
     obtain⟨q1,q2⟩:=gX n m _ _ _ k hv.2 h1
     exact⟨⟨hv.1,q1⟩,q2⟩
   ·rcases aM.1 hm with hm|hm
    ·obtain⟨k,h1,rfl⟩:=dx hm
     exact(fun q=>gX n m _ _ _ k q h1) hv
    ·obtain⟨k,h1,h2⟩:=dq.1 hm
     obtain⟨k2,h3,rfl⟩:=dx h2
     obtain⟨q1,q2⟩:=(fun q=>gX n m _ _ _ k q h1) hv
     obtain⟨q3,q4⟩:=gX n m _ _ _ k2 q2 h3
     exact⟨⟨q1,q3⟩,q4⟩
   ·simp at hm
def gF(l:List Hl):Nat:=(l.map fun h=>h.2.nodes).sum
theorem qV(l r:List Hl):gF (l++r)=gF l+gF r:=by simp[gF]
theorem od(g:Vl->Vl)(l:List Hl):gF (jg g l)=gF l:=by simp[gF,jg,Function.comp_def]
def kq(f:Tg->Nat)(T:List Tg):Nat:=(T.map f).sum
theorem oR(f g:Tg->Nat):∀T:List Tg,kq (fun x=>f x+g x) T=kq f T+kq g T
 |[]=>rfl
 |x::T=>by have:=oR f g T;simp only[kq,bp,dM]at this |-;omega
theorem xb{f g:Tg->Nat}:∀{T:List Tg},(∀x,x∈T->f x<=g x)->kq f T<=kq g T
 |[],_=>aq _
 |
  x::T,h=>by
  have:=xb (T:=T) fun y hy=>h y (ak _ hy)
  have:=h x ai
  simp only[kq,bp,dM]at *;omega
theorem pA{f:Tg->Nat}:∀{T:List Tg},(∀x,x∈T->f x=0)->kq f T=0
 |[],_=>rfl
 |
  x::T,h=>by
  have:=pA (T:=T) fun y hy=>h y (ak _ hy)
  have:=h x ai
  simp only[kq,bp,dM]at *;omega
theorem sj(g:Hl->Tg->Nat)(T:List Tg):∀l:List Hl,kq (fun x=>(l.map fun h=>g h x).sum) T=(l.map fun h=>kq (g h) T).sum
 |[]=>pA fun _ _=>rfl
 |
  h::l=>by
  have:=sj g T l
  simp only[bp,dM]
  rw[oR,this]
theorem sM(f:Hl->List Hl):∀l:List Hl,gF (l.flatMap f)=(l.map fun h=>gF (f h)).sum
 |[]=>rfl
 |h::l=>by rw[cP,qV,sM f l];simp
theorem Bb{f g:Hl->Nat}:∀{l:List Hl},(∀x,x∈l->f x<=g x)->(l.map f).sum<=(l.map g).sum
 |[],_=>aq _
 |
  x::l,h=>by
  have:=Bb (l:=l) fun y hy=>h y (ak _ hy)
  have:=h x ai
  simp only[bp,dM]at *;omega
theorem BF{t:Ty}{x y:Tg}(h:fu t x=true)(h':fu t y=true):x=y:=by
 cases t<;>cases x<;>cases y<;>simp[fu]at h h'<;>simp_all
theorem yx{t:Ty}(n:Nat):∀{T:List Tg},T.Nodup->kq (fun x=>if fu t x=true then n else 0) T<=n
 |[],_=>dr _
 |
  x::T,h=>by
  obtain⟨h1,h2⟩:=List.nodup_cons.1 h
  have ih:=yx (t:=t) n h2
  by_cases hx:fu t x=true
  ·have:kq (fun x=>if fu t x=true then n else 0) T=0:=pA fun y hy=>by
    rw[if_neg fun hy'=>h1 (by rw[BF hx hy'];exact hy)]
   simp only[kq,bp,dM]at *
   rw[if_pos hx];omega
  ·simp only[kq,bp,dM]at *
   rw[if_neg hx];omega
theorem Ba{T:List Tg}(h:T.Nodup):(Tg.bd 0::T.map Tg.up).Nodup:=by
 refine List.nodup_cons.2 ⟨fun hm=>?_,?_⟩
 ·obtain⟨x,_,e⟩:=bZ.1 hm
  cases x<;>simp[Tg.up]at e
 ·refine List.Pairwise.map _ (fun a b hab e=>hab ?_) h
  cases a<;>cases b<;>simp[Tg.up]at e<;>simp_all
theorem apart:∀(n:Nat) (v:Vl),v.nodes<=n->∀(t:Ty) (T:List Tg),T.Nodup->kq (fun x=>gF (bW t x v)) T<=v.nodes
 |0,v,h=>by have:=cJ v;omega
 |
  n+1,v,hn=>by
  intro t T hT
  have base:∀(hno:∀x,fu t x=false->bW t x v=[]),kq (fun x=>gF (bW t x v)) T<=v.nodes:=fun hno=>by
   refine Nat.le_trans (xb fun x _=>?_) (yx (t:=t) v.nodes hT)
   cases e:fu t x with
   |true=>rw[mF v e];simp[gF]
   |false=>rw[hno x e];simp[gF]
  cases hm:stuck t v with
  |true=>exact base fun x hx=>dH hx hm
  |
   false =>
   unfold stuck at hm
   split at hm
   ·rename_i a b w
    simp only[Vl.nodes]at hn |-
    simp only[mR,od]
    have:=apart n w (by omega) a T hT
    omega
   ·rename_i a b w
    simp only[Vl.nodes]at hn |-
    simp only[mN,od]
    have:=apart n w (by omega) b T hT
    omega
   ·rename_i a b x y
    simp only[Vl.nodes]at hn |-
    simp only[mV,qV,od]
    rw[oR]
    have:=apart n x (by omega) a T hT
    have:=apart n y (by omega) b T hT
    omega
   ·rename_i a w
    simp only[Vl.nodes]at hn |-
    simp only[mO,qV,od,sM]
    rw[oR,sj]
    have h1:=apart n w (by omega) a _ (Ba hT)
    simp only[kq,bp,dM,List.map_map]at h1
    have h2:((bW a (.bd 0) w).map fun h=>kq (fun x=>gF (bW (.rc a) x h.2)) T).sum<=gF (bW a (.bd 0) w):=Bb fun h hh=>by
     have:=(iZ hh).1
     exact apart n h.2 (by omega) (.rc a) T hT
    simp only[kq,Function.comp_def]at h1 h2 |-
    omega
   ·cases hm
theorem rK(t:Ty)(tg:Tg)(v:Vl):gF (bW t tg v)<=v.nodes:=by
 have:=apart v.nodes v (aq _) t [tg] (by simp)
 simpa[kq]using this
theorem oO:∀l:List Hl,l.length<=gF l
 |[]=>dr _
 |
  h::l=>by
  have:=oO l
  have:=cJ h.2
  simp only[gF,bp,dM,au]at *;omega
theorem mQ(t:Ty)(tg:Tg)(v:Vl):(bW t tg v).length<=v.nodes:=Nat.le_trans (oO _) (rK t tg v)
end Go.Proofs.Trees
namespace Go.Proofs.Trees
open Go Go.VL Go.RowKit
def gy(ar:List (List UInt8))(k:Nat):List UInt8:=ar.getD (ar.length-1-k) []
theorem fS{s:List UInt8}{ar:List (List UInt8)}:∀(i u:Nat),i<=ar.length->bK s ar i=some u->u<ar.length/\gy ar u=s
 |0,u,_,h=>by cases h
 |
  i+1,u,hi,h=>by
  rw[bK]at h
  split at h
  ·rename_i e
   cases h
   refine⟨by omega,?_⟩
   rw[gy,show ar.length-1-(ar.length-1-i)=i by omega];exact e
  ·exact fS i u (by omega) h
def ux:Ty->Tg->Bool
 | .plus a b,tg=>ux a tg||ux b tg
 | .times a b,tg=>ux a tg||ux b tg
 | .rc a,tg=>ux a tg.up
 |t,tg=>fu t tg
theorem iG:∀(n:Nat) (v:Vl),v.nodes<=n->∀(t:Ty) (tg:Tg),ux t tg=false->bW t tg v=[]
 |0,v,h=>by have:=cJ v;omega
 |
  n+1,v,hn=>by
  intro t tg ho
  cases hm:stuck t v with
  |
   true =>
   refine dH ?_ hm
   cases t<;>first|exact ho|rfl
  |
   false =>
   unfold stuck at hm
   split at hm
   ·simp only[Vl.nodes]at hn
    simp only[ux,cj]at ho
    rw[mR,iG n _ (by omega) _ _ ho.1];rfl
   ·simp only[Vl.nodes]at hn
    simp only[ux,cj]at ho
    rw[mN,iG n _ (by omega) _ _ ho.2];rfl
   ·simp only[Vl.nodes]at hn
    simp only[ux,cj]at ho
    rw[mV,iG n _ (by omega) _ _ ho.1,iG n _ (by omega) _ _ ho.2];rfl
   ·rename_i a w
    simp only[Vl.nodes]at hn
    have ho':ux a tg.up=false:=ho
    rw[mO,iG n _ (by omega) _ _ ho']
    have:(bW a (.bd 0) w).flatMap (fun h=>jg (fun c=>.f (.r (.p h.1 c))) (bW (.rc a) tg h.2))=(bW a (.bd 0) w).flatMap (fun _=>[]):=jI fun h hh=>by
     have:=(iZ hh).1
     rw[iG n h.2 (by omega) (.rc a) tg ho];rfl
    rw[this]
    induction bW a (.bd 0) w<;>simp_all[jg]
   ·cases hm
theorem kA:∀(e:E) (ar:List (List UInt8)) (t:Ty) (k:Nat),cD e ar=some t->ux t (.bd k)=true->k<ar.length/\bK (gy ar k) ar ar.length=some k
 |
  .atom s,ar,t,k,ht,ho=>by
  simp only[cD]at ht
  split at ht
  ·cases ht;cases ho
  ·split at ht
   ·cases ht;cases ho
   ·split at ht
    ·cases ht;cases ho
    ·split at ht
     ·split at ht
      ·rename_i u hu
       cases ht
       have:u=k:=by simpa[ux,fu]using ho
       subst this
       obtain⟨h1,h2⟩:=fS _ _ (aq _) hu
       exact⟨h1,by rw[h2];exact hu⟩
      ·cases ht;cases ho
     ·cases ht
 |
  .list [x,a,b],ar,t,k,ht,ho=>by
  by_cases h0:x.at=[43]
  ·obtain⟨t1,t2,h1,h2,rfl⟩:=fq h0 ht
   simp only[ux,bn]at ho
   rcases ho with ho|ho
   ·exact kA a ar t1 k h1 ho
   ·exact kA b ar t2 k h2 ho
  ·by_cases h1:x.at=[42]
   ·obtain⟨t1,t2,h1,h2,rfl⟩:=eS h1 ht
    simp only[ux,bn]at ho
    rcases ho with ho|ho
    ·exact kA a ar t1 k h1 ho
    ·exact kA b ar t2 k h2 ho
   ·by_cases h2:x.at=[114,101,99]
    ·obtain⟨t1,_,h3,rfl⟩:=dh h2 ht
     obtain⟨q1,q2⟩:=kA b (ar++[a.at]) t1 (k+1) h3 ho
     simp only[al,au,aG]at q1
     have hk:k<ar.length:=by omega
     have e:gy (ar++[a.at]) (k+1)=gy ar k:=by
      unfold gy
      rw[al,show ar.length+[a.at].length-1-(k+1)=ar.length-1-k by simp;omega]
      simp[aa,List.getElem?_append_left (show ar.length-1-k<ar.length by omega)]
     rw[e]at q2
     refine⟨hk,?_⟩
     have e2:(ar++[a.at]).length=ar.length+1:=by simp
     rw[e2,bK]at q2
     split at q2
     ·rw[e2]at q2;simp at q2
     ·rw[kf _ _ _ _ (aq _)]at q2
      cases hq:bK (gy ar k) ar ar.length with
      |none=>rw[hq]at q2;cases q2
      |some u=>rw[hq]at q2;simpa using q2
    ·rw[iO _ h0 h1 h2]at ht;cases ht
 | .list [],ar,t,k,ht,ho=>by cases ht
 | .list [_],ar,t,k,ht,ho=>by cases ht
 | .list [_,_],ar,t,k,ht,ho=>by cases ht
 | .list (_::_::_::_::_),ar,t,k,ht,ho=>by cases ht
theorem gR(w:List UInt8)(ar:List (List UInt8)):bK w (ar++[w]) (ar++[w]).length=some 0:=by
 have e2:(ar++[w]).length=ar.length+1:=by simp
 rw[e2,bK,if_pos (by simp[aa]),e2];simp
theorem jv{s w:List UInt8}(ar:List (List UInt8))(h:w≠s):bK s (ar++[w]) (ar++[w]).length=(bK s ar ar.length).map (·+1):=by
 have e2:(ar++[w]).length=ar.length+1:=by simp
 rw[e2,bK,if_neg (by simpa[aa]using h),kf _ _ _ _ (aq _)]
theorem FX{b:E}{ar:List (List UInt8)}{w:List UInt8}{t:Ty}{k:Nat}(hb:cD b (ar++[w])=some t)(hk:bK w ar ar.length=some k):ux t (.bd (k+1))=false:=by
 cases h:ux t (.bd (k+1))with
 |false=>rfl
 |
  true =>
  obtain⟨_,q2⟩:=kA _ _ _ _ hb h
  obtain⟨h1,h2⟩:=fS _ _ (aq _) hk
  have e:gy (ar++[w]) (k+1)=gy ar k:=by
   unfold gy
   rw[al,show ar.length+[w].length-1-(k+1)=ar.length-1-k by simp;omega]
   simp[aa,List.getElem?_append_left (show ar.length-1-k<ar.length by omega)]
  rw[e,h2,gR]at q2
  cases q2
def nR(s:List UInt8)(ar:List (List UInt8)):Tg:=match bK s ar ar.length with|some u=>.bd u|none=>.nm s
theorem uB(w:List UInt8)(ar:List (List UInt8)):nR w (ar++[w])=.bd 0:=by rw[nR,gR]
theorem zi{s w:List UInt8}(ar:List (List UInt8))(h:w≠s):nR s (ar++[w])=(nR s ar).up:=by
 rw[nR,nR,jv ar h]
 cases bK s ar ar.length<;>rfl
theorem gm(n:Nat):∀(m:Nat) (v:Vl),v.nodes<=m->∀(e:E) (env:List Fr) (t:Ty),Ask e env t->ez n v (e,env)=true->∀(k:Nat) (f:Fr),env[k]?=some f->∀h,h∈bW t (.bd k) v->ez n h.2 (f.ex,f.out)=true
 |0,v,hm=>by have:=cJ v;omega
 |
  m+1,v,hm=>by
  intro e env t A hv k f hf h hh
  rcases im A.wf A.ty with⟨hb,hq⟩|⟨u,g,rfl,hq,hu⟩
  ·have hhd:hd e env=(e,env):=kg hq
   rcases fR A.ty hb A.cl with⟨rfl,rfl⟩|⟨rfl,rfl⟩|⟨s,rfl,rfl,hp,h0,h1⟩|⟨x,a,b,t1,t2,rfl,hx,rfl,ha,hbb⟩|⟨x,a,b,t1,t2,rfl,hx,rfl,ha,hbb⟩|⟨x,a,b,t1,rfl,hx,rfl⟩
   ·rw[dH rfl (by cases v<;>rfl)]at hh;cases hh
   ·rw[dH rfl (by cases v<;>rfl)]at hh;cases hh
   ·rw[dH rfl (by cases v<;>rfl)]at hh;cases hh
   ·obtain⟨ok1,ok2,ok3,_⟩:=A.ok
    obtain⟨f1,f2⟩:=fT A.cl
    cases v with
    |
     l w =>
     simp only[ez,hhd,hx,beq_self_eq_true,bJ]at hv
     simp only[Vl.nodes]at hm
     rw[mR]at hh
     obtain⟨h2,h3,rfl⟩:=dx hh
     exact gm n m w (by omega) a env t1 ⟨ok2,A.wf,ha,f1⟩ hv k f hf h2 h3
    |
     r w =>
     simp only[ez,hhd,hx,beq_self_eq_true,bJ]at hv
     simp only[Vl.nodes]at hm
     rw[mN]at hh
     obtain⟨h2,h3,rfl⟩:=dx hh
     exact gm n m w (by omega) b env t2 ⟨ok3,A.wf,hbb,f2⟩ hv k f hf h2 h3
    |_=>rw[dH rfl rfl]at hh;cases hh
   ·obtain⟨ok1,ok2,ok3,_⟩:=A.ok
    obtain⟨f1,f2⟩:=fm A.cl
    cases v with
    |
     p w w' =>
     simp only[ez,hhd,hx,beq_self_eq_true,bJ,aw]at hv
     simp only[Vl.nodes]at hm
     rw[mV]at hh
     rcases aM.1 hh with hh|hh
     ·obtain⟨h2,h3,rfl⟩:=dx hh
      exact gm n m w (by omega) a env t1 ⟨ok2,A.wf,ha,f1⟩ hv.1 k f hf h2 h3
     ·obtain⟨h2,h3,rfl⟩:=dx hh
      exact gm n m w' (by omega) b env t2 ⟨ok3,A.wf,hbb,f2⟩ hv.2 k f hf h2 h3
    |_=>rw[dH rfl rfl]at hh;cases hh
   ·obtain⟨t1',he1,h1,f1,hw1⟩:=jU A.wf A.ok hx A.ty A.cl
    cases he1
    obtain⟨ok1,ok2,ok3,_⟩:=A.ok
    cases v with
    |
     f w =>
     simp only[ez,hhd,hx,beq_self_eq_true,bJ]at hv
     simp only[Vl.nodes]at hm
     rw[mO]at hh
     have A':Ask b (.mk a.at (.list [x,a,b]) env::env) t1:=⟨ok3,hw1,h1,f1⟩
     rcases aM.1 hh with hh|hh
     ·obtain⟨h2,h3,rfl⟩:=dx hh
      exact gm n m w (by omega) b _ t1 A' hv (k+1) f (by simpa using hf) h2 h3
     ·obtain⟨kd,h2,h3⟩:=dq.1 hh
      obtain⟨h4,h5,rfl⟩:=dx h3
      have hkd:=gm n m w (by omega) b _ t1 A' hv 0 _ rfl kd h2
      have:=(iZ h2).1
      exact gm n m kd.2 (by omega) (.list [x,a,b]) env _ A hkd k f hf h4 h5
    |_=>rw[dH rfl rfl]at hh;cases hh
  ·by_cases huk:u=k
   ·subst huk
    rw[hu]at hf;cases hf
    rw[mF v (by simp[fu])]at hh
    simp only[aU]at hh
    subst hh
    obtain⟨x,a,b,t',hfe,hok,hx,ht',hf',hwf,hlt⟩:=nT A.wf hq
    rw[<-ui n v (qp hq) (by rw[hfe];exact o0 hwf)];exact hv
   ·rw[dH (by simpa[fu]using huk) (by cases v<;>rfl)]at hh;cases hh
end Go.Proofs.Trees
namespace Go.Proofs.Trees
open Go Go.VL Go.RowKit
inductive mj:AV->List Nat->Prop
 |nil:mj jZ []
 |cons {m:Nat} {cs:List AV} {e:AV} {ids:List Nat} (hm:m∉ids) (h:mj e ids):mj (.ptr [.pid m cs,e]) (m::ids)
theorem mj.has{a:AV}{ids:List Nat}(h:mj a ids):LK.has .ptr a:=by
 cases h
 ·exact(gp).mpr trivial
 ·exact(cu _).mpr trivial
theorem mj.Q5{M:Mem}{a:AV}{ids:List Nat}(h:mj a ids):∀{v:Value},bu M dj a v->∀b,b∈ids->M.p b:=by
 induction h with
 |nil=>intro v _ b hb;cases hb
 |
  @cons m cs e ids hm h ih =>
  intro v hr b hb
  cases hr with
  |
   ptr _ _ _ off us hc hr =>
   have h0:=hr 0 (by simp)
   have h1:=hr 1 (by simp)
   simp only[bg,List.getD_cons_succ]at h0 h1
   rcases aH.1 hb with rfl|hb
   ·generalize us 0=u0 at h0
    cases h0 with
    |pid _ _ _ us hp _ _=>exact hp
   ·exact ih h1 b hb
theorem mj.nodup{a:AV}{ids:List Nat}(h:mj a ids):ids.Nodup:=by
 induction h with
 |nil=>simp
 |cons hm h ih=>exact List.nodup_cons.2 ⟨hm,ih⟩
theorem zw(a b:AV)(S:Nat->Prop)(R:AV->Prop):zX Km cw ec (ct ec) [.agg [.x a,.x b]] S (fun o=>aJ o 7) R =
 .aj (LK.has .ptr a/\a.isNil=false) (.aj (LK.has .ptr a/\a.isNil=false) (.aj (LK.has .ptr ((a.deref.drop 3).headD .any)/\1<=(a.deref.drop 3).length)
  (.aj (∀ids:Nat->Nat,(∀o,¬S (ids o))->(True/\R (.cQ [.agg [(a.deref.drop 3).headD .any,.ptr [.pid (ids 7) [a,b],b]],.pid (ids 7) [a,b]]))) (.done 0 [] [])))):=by kernel_rfl
def HR(t:Ty)(ea:AV)(ids:List Nat):AV->List Ob->Prop:=fun r o=>(∃m,m∉ids/\r=.cQ [.agg [t.av,.ptr [.pid m [(Ty.rc t).av,ea],ea]],.pid m [(Ty.rc t).av,ea]])/\o=[]
theorem HR.ne(t:Ty)(ea:AV)(ids:List Nat):∃r o,HR t ea ids r o:=by
 have:∃m,m∉ids:=⟨ids.foldr max 0+1,fun h=>by
  have key:∀(l:List Nat) (x:Nat),x∈l->x<=l.foldr max 0:=by
   intro l
   induction l with
   |nil=>intro x hx;cases hx
   |
    cons y l ih =>
    intro x hx
    rcases aH.1 hx with rfl|hx
    ·simp only[List.foldr_cons];omega
    ·have:=ih x hx;simp only[List.foldr_cons];omega
  have:=key _ _ h
  omega⟩
 obtain⟨m,hm⟩:=this
 exact⟨_,_,⟨m,hm,rfl⟩,rfl⟩
theorem I1(t:Ty)(ea:AV)(ids:List Nat)(he:mj ea ids):ap Tryz.prog 90 [.agg [(Ty.rc t).av,ea]] [] (HR t ea ids):=by
 have hup:wR [.agg [(Ty.rc t).av,ea]] [.agg [.x (Ty.rc t).av,.x ea]]:=ag (cF (ag (bD ((aF _).mpr trivial)) (ag (bD he.has) aE))) aE
 refine ap.up hup ?_
 refine ap.Q4 (cw:=cw) (F:=ec) (S:=fun b=>b∈ids) (sel:=fun o=>aJ o 7) tT mixed (by kernel_rfl) (by kernel_rfl) (c:=ct ec) (by kernel_rfl) (by kernel_rfl) (fun M β vs hr b hb=>?_) ?_
 ·have h0:=hr 0 (by simp)
  simp only[bg]at h0
  obtain⟨us,_,hl,hq,_⟩:=gv h0
  have h1:=hq 1 (by simp at hl |-)
  simp only[List.getD_cons_succ,bg]at h1
  cases h1 with
  |x _ _ _ _ h=>exact he.Q5 h b hb
 ·rw[zw]
  simp only[Ty.av,↓zq,zs,ae,aF]
  exact⟨by omega,fun ids' hf=>⟨ids' 7,hf 7,rfl⟩⟩
theorem Ko(u:Nat)(hu:u<1000000):∀(k i:Nat) (ea:AV) (ids:List Nat),i+k=u->mj ea ids->k<=ids.length->Dd [ea,.v (.int .i64 (u:Int)),.v (.int .i64 (i:Int))] [] (fun t ys o=>t=1/\∃e',mj e' (ids.drop k)/\ys=[e']/\o=[])
 |
  0,i,ea,ids,hi,he,hk=>by
  refine B6 _ _ _ ?_
  have:i=u:=by omega
  subst this
  simp only[Bl,↓zq,zs,ae]
  exact⟨he.has,fun h=>by omega,fun _=>⟨ea,he,rfl⟩⟩
 |
  k+1,i,ea,ids,hi,he,hk=>by
  refine B6 _ _ _ ?_
  cases he with
  |nil=>simp at hk
  |
   @cons m cs e ids' hm h =>
   simp only[Bl,↓zq,zs,ae,h.has]
   refine⟨fun _=>⟨by omega,?_⟩,fun h=>by omega⟩
   rw[bh i (by omega)]
   exact Ko u hu k (i+1) e ids' (by omega) h (by simpa using hk)
theorem N1(u:Nat)(ea:AV)(ids:List Nat)(he:mj ea ids)(hu:u<ids.length)(hl:ids.length<1000000):ap Tryz.prog 125 [.agg [(Ty.bO u).av,ea]] [] (fun r o=>(∃cs,r=.pid (ids.getD u 0) cs)/\o=[]):=by
 refine Jt _ _ ((aF _).mpr trivial) he.has ?_
 simp only[Gi,Ty.av,↓zq,zs,ae,he.has]
 refine⟨by omega,oC (Ko u (by omega) u 0 ea ids (by omega) he (by omega)) ?_ (fun ys o h=>by cases h.1)⟩
 rintro ys o ⟨_,e',he',rfl,rfl⟩
 have hd:ids.drop u=ids.getD u 0::ids.drop (u+1):=by
  rw[aL hu];simp[aa,hu]
 rw[hd]at he'
 cases he' with
 |
  @cons m cs e ids' hm h =>
  have hp:LK.has .ptr (AV.pid (ids.getD u 0) cs):=.inr (.inr ⟨_,_,rfl⟩)
  simp only[↓zq,zs,ae,hp]
  exact⟨by omega,cs,rfl⟩
inductive zI:Tg->List Nat->List UInt8->AV->Prop
 |nm (s:List UInt8) (ids:List Nat):zI (.nm s) ids s jZ
 |bd {k:Nat} {ids:List Nat} (hk:k<ids.length) (cs:List AV) (s:List UInt8):zI (.bd k) ids s (.pid (ids.getD k 0) cs)
theorem zI.has{tg:Tg}{ids:List Nat}{s:List UInt8}{fr:AV}(h:zI tg ids s fr):LK.has .ptr fr:=by
 cases h
 ·exact(gp).mpr trivial
 ·exact .inr (.inr ⟨_,_,rfl⟩)
theorem zI.push{tg:Tg}{ids:List Nat}{s:List UInt8}{fr:AV}(h:zI tg ids s fr)(m:Nat):zI tg.up (m::ids) s fr:=by
 cases h with
 |nm=>exact .nm _ _
 |
  @bd k _ hk cs =>
  have:=zI.bd (k:=k+1) (ids:=m::ids) (by simpa using hk) cs s
  simpa[Tg.up]using this
theorem zD{ids:List Nat}(h:ids.Nodup){i j:Nat}(hi:i<ids.length)(hj:j<ids.length)(he:ids.getD i 0=ids.getD j 0):i=j:=by
 have e1:ids.getD i 0=ids[i]:=by simp[aa,hi]
 have e2:ids.getD j 0=ids[j]:=by simp[aa,hj]
 rw[e1,e2]at he
 have hp:=List.pairwise_iff_getElem.1 h
 rcases Nat.lt_trichotomy i j with hlt|rfl|hlt
 ·exact absurd he (hp i j hi hj hlt)
 ·rfl
 ·exact absurd he.symm (hp j i hj hi hlt)
theorem OL(t:Ty)(tg:Tg)(ea:AV)(ids:List Nat)(s:List UInt8)(fr:AV)(he:mj ea ids)(ht:zI tg ids s fr)(hu:∀u,t=.bO u->u<ids.length)(hl:ids.length<1000000) :
 ap Tryz.prog 128 [.agg [.v (.string (mk s)),fr],.agg [t.av,ea]] [] (bH (.v (.bool (fu t tg)))):=by
 refine OV _ _ _ _ ht.has ((aF _).mpr trivial) he.has ?_
 cases ht with
 |
  nm s =>
  cases t<;>simp[Cb,Ty.av,↓zq,zs,ae,zt,bH,fu]
  rw[cq];simp
 |
  @bd k _ hk cs s =>
  generalize hm0:ids.getD k 0=m0
  have hp:LK.has .ptr (AV.pid m0 cs):=.inr (.inr ⟨_,_,rfl⟩)
  have hn:(AV.pid m0 cs).isNil=false:=rfl
  cases t with
  |
   bO u =>
   have hu:=hu u rfl
   simp only[Cb,Ty.av,↓zq,zs,ae,hp,hn]
   refine⟨fun _=>⟨by omega,fun _=>?_,fun h=>absurd rfl h⟩,fun h=>by cases h⟩
   have hb:=N1 u ea ids he hu hl
   simp only[Ty.av]at hb
   refine aV hb ⟨_,_,⟨[],rfl⟩,rfl⟩ ?_
   rintro r o ⟨⟨cs',rfl⟩,rfl⟩
   have hp':LK.has .ptr (AV.pid (ids.getD u 0) cs'):=.inr (.inr ⟨_,_,rfl⟩)
   simp only[↓zq,zs,ae,hp',AV.re,AV.Bx,bH,fu]
   congr 2
   rw[cq,Nat.beq_eq,decide_eq_true_eq,<-hm0]
   exact⟨fun h=>zD he.nodup hu hk h,fun h=>by rw[h]⟩
  |_=>simp[Cb,Ty.av,↓zq,zs,ae,hp,hn,bH,fu]
end Go.Proofs.Trees
namespace Go.Proofs.Trees
open Go Go.VL Go.RowKit
theorem DO(b:Int)(a:AV)(h:LK.ptr.has a):ap Tryz.prog 95 [.v (.int .u8 b),a] [] (bH (.ptr [.v (.int .u8 b),.v (.string (mk [])),a,jZ])):=by
 refine OE _ _ h ?_
 simp[JJ,↓zq,zs,ae,bH]
end Go.Proofs.Trees
namespace Go.Proofs.Trees
open Go Go.VL Go.RowKit
def gG(l:List Hl):List (List AV):=l.map fun h=>[h.1.cx,h.2.cx]
theorem dJ(l:List Hl):(gG l).length=l.length:=by simp[gG]
theorem kU{l:List Hl}{i:Nat}(hi:i<l.length):(gG l).getD i []=[(l[i]).1.cx,(l[i]).2.cx]:=by simp[gG,aa,hi]
theorem oE(out:List Hl)(a b:Vl):gG out++[[a.cx,b.cx]]=gG (out++[(a,b)]):=by simp[gG]
theorem gj(g:Vl->Vl)(l:List Hl){i:Nat}(hi:i<l.length):jg g (l.drop i)=(g (l[i]).1,(l[i]).2)::jg g (l.drop (i+1)):=by
 rw[aL hi];rfl
theorem fE(g:Vl->Vl)(l:List Hl):(jg g l).length=l.length:=by simp[jg]
theorem zh(a b:AV):bV 2 [[a,b]]:=fun c hc=>by simp at hc;rw[hc];rfl
theorem M6(x0:AV)(hx0:LK.ptr.has x0)(g:Vl->Vl)(hg:∀c:Vl,ap Tryz.prog 130 [c.cx,.ref 0 0] [.cells [x0]] (cN (g c).cx [.cells [x0]]))(l:List Hl):∀(k i:Nat) (out:List Hl),i+k=l.length->out.length+k<=1000000->l.length<=1000000 ->
 Gb [.sl (gG l),.v (.int .i64 (l.length:Int)),.v (.int .i64 (i:Int))] [.cells [x0],.cells [.any],.vec 2 (gG out)] (ga 1 [] [.cells [x0],.cells [.any],.vec 2 (gG (out++jg g (l.drop i)))])
 |
  0,i,out,hi,ho,hl=>by
  refine M4 _ _ _ _ _ ?_
  have:i=l.length:=by omega
  subst this
  simp only[Gv,↓zq,zs,ae,dJ,hx0]
  exact⟨fun h=>by omega,fun _=>by simp[ga,jg]⟩
 |
  k+1,i,out,hi,ho,hl=>by
  have hlt:i<l.length:=by omega
  refine M4 _ _ _ _ _ ?_
  simp only[Gv,↓zq,zs,ae,zt,dJ,kU hlt,aR,cc,hx0]
  refine⟨fun _=>⟨by omega,by omega,?_⟩,fun h=>by omega⟩
  refine a7 (hg _) ?_
  simp only[↓zq,zs,ae,aR,aK,bH,cN,hx0]
  refine⟨⟨zh _ _,by omega⟩,?_⟩
  rw[bh i (by omega)]
  have:=M6 x0 hx0 g hg l k (i+1) (out++[(g (l[i]).1,(l[i]).2)]) (by omega) (by simp;omega) hl
  rw[aS]at this
  rw[gj g l hlt,oE]
  exact this
theorem K3(x0:AV)(hx0:LK.ptr.has x0)(g:Vl->Vl)(hg:∀c:Vl,ap Tryz.prog 130 [c.cx,.ref 0 0] [.cells [x0]] (cN (g c).cx [.cells [x0]]))(l out:List Hl)(hl:out.length+l.length<=1000000) :
 ap Tryz.prog 129 [.sl (gG l),.fn 130 [.ref 0 0],.ref 1 0] [.cells [x0],.cells [.vec 2],.vec 2 (gG out)] (cN .any [.cells [x0],.cells [.vec 2],.vec 2 (gG (out++jg g l))]):=by
 refine O1 _ _ _ ((ci _).mpr trivial) hx0 ?_
 simp only[K2,↓zq,zs,ae,dJ]
 have h:=M6 x0 hx0 g hg l l.length 0 out (by omega) (by omega) (by omega)
 rw[aX]at h
 refine cb h ?_
 simp[↓zq,zs,ae,cN,aK,hx0]
theorem Jp(x0:AV)(hx0:LK.ptr.has x0)(g:Vl->Vl)(hg:∀c:Vl,ap Tryz.prog 131 [c.cx,.ref 0 0] [.cells [x0]] (cN (g c).cx [.cells [x0]]))(l:List Hl):∀(k i:Nat) (out:List Hl),i+k=l.length->out.length+k<=1000000->l.length<=1000000 ->
 Gg [.sl (gG l),.v (.int .i64 (l.length:Int)),.v (.int .i64 (i:Int))] [.cells [x0],.cells [.any],.vec 2 (gG out)] (ga 1 [] [.cells [x0],.cells [.any],.vec 2 (gG (out++jg g (l.drop i)))])
 |
  0,i,out,hi,ho,hl=>by
  refine Ib _ _ _ _ _ ?_
  have:i=l.length:=by omega
  subst this
  simp only[Ga,↓zq,zs,ae,dJ,hx0]
  exact⟨fun h=>by omega,fun _=>by simp[ga,jg]⟩
 |
  k+1,i,out,hi,ho,hl=>by
  have hlt:i<l.length:=by omega
  refine Ib _ _ _ _ _ ?_
  simp only[Ga,↓zq,zs,ae,zt,dJ,kU hlt,aR,cc,hx0]
  refine⟨fun _=>⟨by omega,by omega,?_⟩,fun h=>by omega⟩
  refine a7 (hg _) ?_
  simp only[↓zq,zs,ae,aR,aK,bH,cN,hx0]
  refine⟨⟨zh _ _,by omega⟩,?_⟩
  rw[bh i (by omega)]
  have:=Jp x0 hx0 g hg l k (i+1) (out++[(g (l[i]).1,(l[i]).2)]) (by omega) (by simp;omega) hl
  rw[aS]at this
  rw[gj g l hlt,oE]
  exact this
theorem Qn(x0:AV)(hx0:LK.ptr.has x0)(g:Vl->Vl)(hg:∀c:Vl,ap Tryz.prog 131 [c.cx,.ref 0 0] [.cells [x0]] (cN (g c).cx [.cells [x0]]))(l out:List Hl)(hl:out.length+l.length<=1000000) :
 ap Tryz.prog 129 [.sl (gG l),.fn 131 [.ref 0 0],.ref 1 0] [.cells [x0],.cells [.vec 2],.vec 2 (gG out)] (cN .any [.cells [x0],.cells [.vec 2],.vec 2 (gG (out++jg g l))]):=by
 refine Qd _ _ _ ((ci _).mpr trivial) hx0 ?_
 simp only[MT,↓zq,zs,ae,dJ]
 have h:=Jp x0 hx0 g hg l l.length 0 out (by omega) (by omega) (by omega)
 rw[aX]at h
 refine cb h ?_
 simp[↓zq,zs,ae,cN,aK,hx0]
theorem Na(x0:AV)(hx0:LK.ptr.has x0)(g:Vl->Vl)(hg:∀c:Vl,ap Tryz.prog 133 [c.cx,.ref 0 0] [.cells [x0]] (cN (g c).cx [.cells [x0]]))(l:List Hl):∀(k i:Nat) (out:List Hl),i+k=l.length->out.length+k<=1000000->l.length<=1000000 ->
 E9 [.sl (gG l),.v (.int .i64 (l.length:Int)),.v (.int .i64 (i:Int))] [.cells [x0],.cells [.any],.vec 2 (gG out)] (ga 1 [] [.cells [x0],.cells [.any],.vec 2 (gG (out++jg g (l.drop i)))])
 |
  0,i,out,hi,ho,hl=>by
  refine I7 _ _ _ _ _ ?_
  have:i=l.length:=by omega
  subst this
  simp only[Gf,↓zq,zs,ae,dJ,hx0]
  exact⟨fun h=>by omega,fun _=>by simp[ga,jg]⟩
 |
  k+1,i,out,hi,ho,hl=>by
  have hlt:i<l.length:=by omega
  refine I7 _ _ _ _ _ ?_
  simp only[Gf,↓zq,zs,ae,zt,dJ,kU hlt,aR,cc,hx0]
  refine⟨fun _=>⟨by omega,by omega,?_⟩,fun h=>by omega⟩
  refine a7 (hg _) ?_
  simp only[↓zq,zs,ae,aR,aK,bH,cN,hx0]
  refine⟨⟨zh _ _,by omega⟩,?_⟩
  rw[bh i (by omega)]
  have:=Na x0 hx0 g hg l k (i+1) (out++[(g (l[i]).1,(l[i]).2)]) (by omega) (by simp;omega) hl
  rw[aS]at this
  rw[gj g l hlt,oE]
  exact this
theorem QF(x0:AV)(hx0:LK.ptr.has x0)(g:Vl->Vl)(hg:∀c:Vl,ap Tryz.prog 133 [c.cx,.ref 0 0] [.cells [x0]] (cN (g c).cx [.cells [x0]]))(l out:List Hl)(hl:out.length+l.length<=1000000) :
 ap Tryz.prog 129 [.sl (gG l),.fn 133 [.ref 0 0],.ref 1 0] [.cells [x0],.cells [.vec 2],.vec 2 (gG out)] (cN .any [.cells [x0],.cells [.vec 2],.vec 2 (gG (out++jg g l))]):=by
 refine Pf _ _ _ ((ci _).mpr trivial) hx0 ?_
 simp only[LA,↓zq,zs,ae,dJ]
 have h:=Na x0 hx0 g hg l l.length 0 out (by omega) (by omega) (by omega)
 rw[aX]at h
 refine cb h ?_
 simp[↓zq,zs,ae,cN,aK,hx0]
theorem LB(g:Vl->Vl)(hg:∀c:Vl,ap Tryz.prog 134 [c.cx] [] (bH (g c).cx))(l:List Hl):∀(k i:Nat) (out:List Hl),i+k=l.length->out.length+k<=1000000->l.length<=1000000 ->
 GM [.v (.func (.func 134) #[] #[]),.sl (gG l),.v (.int .i64 (l.length:Int)),.v (.int .i64 (i:Int))] [.cells [.any],.vec 2 (gG out)] (ga 1 [] [.cells [.any],.vec 2 (gG (out++jg g (l.drop i)))])
 |
  0,i,out,hi,ho,hl=>by
  refine MU _ _ _ _ ?_
  have:i=l.length:=by omega
  subst this
  simp only[Fu,↓zq,zs,ae,dJ]
  exact⟨fun h=>by omega,fun _=>by simp[ga,jg]⟩
 |
  k+1,i,out,hi,ho,hl=>by
  have hlt:i<l.length:=by omega
  refine MU _ _ _ _ ?_
  simp only[Fu,↓zq,zs,ae,zt,dJ,kU hlt,aR,cc]
  refine⟨fun _=>⟨by omega,by omega,?_⟩,fun h=>by omega⟩
  refine an (hg _) ?_
  simp only[↓zq,zs,ae,aR,aK,bH,cN]
  refine⟨⟨zh _ _,by omega⟩,?_⟩
  rw[bh i (by omega)]
  have:=LB g hg l k (i+1) (out++[(g (l[i]).1,(l[i]).2)]) (by omega) (by simp;omega) hl
  rw[aS]at this
  rw[gj g l hlt,oE]
  exact this
theorem Pa(g:Vl->Vl)(hg:∀c:Vl,ap Tryz.prog 134 [c.cx] [] (bH (g c).cx))(l out:List Hl)(hl:out.length+l.length<=1000000) :
 ap Tryz.prog 129 [.sl (gG l),.v (.func (.func 134) #[] #[]),.ref 0 0] [.cells [.vec 1],.vec 2 (gG out)] (cN .any [.cells [.vec 1],.vec 2 (gG (out++jg g l))]):=by
 refine Ol _ _ ((ci _).mpr trivial) ?_
 simp only[Ng,↓zq,zs,ae,dJ]
 have h:=LB g hg l l.length 0 out (by omega) (by omega) (by omega)
 rw[aX]at h
 refine cb h ?_
 simp[↓zq,zs,ae,cN,aK]
theorem HW(x0:AV)(x1:AV)(hx0:LK.ptr.has x0)(hx1:LK.ptr.has x1)(g:Vl->Vl)(hg:∀c:Vl,ap Tryz.prog 135 [c.cx,.ref 0 0] [.cells [x0,x1]] (cN (g c).cx [.cells [x0,x1]]))(l:List Hl):∀(k i:Nat) (out:List Hl),i+k=l.length->out.length+k<=1000000->l.length<=1000000 ->
 G3 [.sl (gG l),.v (.int .i64 (l.length:Int)),.v (.int .i64 (i:Int))] [.cells [x0,x1],.cells [.any],.vec 2 (gG out)] (ga 1 [] [.cells [x0,x1],.cells [.any],.vec 2 (gG (out++jg g (l.drop i)))])
 |
  0,i,out,hi,ho,hl=>by
  refine K6 _ _ _ _ _ _ ?_
  have:i=l.length:=by omega
  subst this
  simp only[HB,↓zq,zs,ae,dJ,hx0,hx1]
  exact⟨fun h=>by omega,fun _=>by simp[ga,jg]⟩
 |
  k+1,i,out,hi,ho,hl=>by
  have hlt:i<l.length:=by omega
  refine K6 _ _ _ _ _ _ ?_
  simp only[HB,↓zq,zs,ae,zt,dJ,kU hlt,aR,cc,hx0,hx1]
  refine⟨fun _=>⟨by omega,by omega,?_⟩,fun h=>by omega⟩
  refine a7 (hg _) ?_
  simp only[↓zq,zs,ae,aR,aK,bH,cN,hx0,hx1]
  refine⟨⟨zh _ _,by omega⟩,?_⟩
  rw[bh i (by omega)]
  have:=HW x0 x1 hx0 hx1 g hg l k (i+1) (out++[(g (l[i]).1,(l[i]).2)]) (by omega) (by simp;omega) hl
  rw[aS]at this
  rw[gj g l hlt,oE]
  exact this
theorem Oz(x0:AV)(x1:AV)(hx0:LK.ptr.has x0)(hx1:LK.ptr.has x1)(g:Vl->Vl)(hg:∀c:Vl,ap Tryz.prog 135 [c.cx,.ref 0 0] [.cells [x0,x1]] (cN (g c).cx [.cells [x0,x1]]))(l out:List Hl)(hl:out.length+l.length<=1000000) :
 ap Tryz.prog 129 [.sl (gG l),.fn 135 [.ref 0 0],.ref 1 0] [.cells [x0,x1],.cells [.vec 2],.vec 2 (gG out)] (cN .any [.cells [x0,x1],.cells [.vec 2],.vec 2 (gG (out++jg g l))]):=by
 refine P7 _ _ _ _ ((ci _).mpr trivial) hx0 hx1 ?_
 simp only[Ie,↓zq,zs,ae,dJ]
 have h:=HW x0 x1 hx0 hx1 g hg l l.length 0 out (by omega) (by omega) (by omega)
 rw[aX]at h
 refine cb h ?_
 simp[↓zq,zs,ae,cN,aK,hx0,hx1]
theorem NK(w c:Vl):ap Tryz.prog 130 [c.cx,.ref 0 0] [.cells [(Vl.l w).cx]] (cN (Vl.l c).cx [.cells [(Vl.l w).cx]]):=by
 refine JA _ _ ((aR _).mpr trivial) ((aR _).mpr trivial) ?_
 simp only[Fi,Vl.cx,↓zq,zs,ae,aR]
 refine⟨by omega,?_⟩
 refine an (DO _ _ ((aR _).mpr trivial)) ?_
 simp[↓zq,zs,ae,cN,Vl.cx]
theorem ON(w c:Vl):ap Tryz.prog 130 [c.cx,.ref 0 0] [.cells [(Vl.r w).cx]] (cN (Vl.r c).cx [.cells [(Vl.r w).cx]]):=by
 refine JA _ _ ((aR _).mpr trivial) ((aR _).mpr trivial) ?_
 simp only[Fi,Vl.cx,↓zq,zs,ae,aR]
 refine⟨by omega,?_⟩
 refine an (DO _ _ ((aR _).mpr trivial)) ?_
 simp[↓zq,zs,ae,cN,Vl.cx]
theorem QA(x y c:Vl):ap Tryz.prog 131 [c.cx,.ref 0 0] [.cells [(Vl.p x y).cx]] (cN (Vl.l (.p c y)).cx [.cells [(Vl.p x y).cx]]):=by
 refine Oh _ _ ((aR _).mpr trivial) ((aR _).mpr trivial) ?_
 simp only[Lm,Vl.cx,↓zq,zs,ae,aR]
 refine⟨by omega,?_⟩
 refine an (C6 _ _ ((aR _).mpr trivial) ((aR _).mpr trivial)) ?_
 simp only[↓zq,zs,ae]
 refine an (DO _ _ ((cu _).mpr trivial)) ?_
 simp[↓zq,zs,ae,cN,Vl.cx]
theorem PB(x y c:Vl):ap Tryz.prog 133 [c.cx,.ref 0 0] [.cells [(Vl.p x y).cx]] (cN (Vl.r (.p x c)).cx [.cells [(Vl.p x y).cx]]):=by
 refine PN _ _ ((aR _).mpr trivial) ((aR _).mpr trivial) ?_
 simp only[MZ,Vl.cx,↓zq,zs,ae,aR]
 refine⟨by omega,?_⟩
 refine an (C6 _ _ ((aR _).mpr trivial) ((aR _).mpr trivial)) ?_
 simp only[↓zq,zs,ae]
 refine an (DO _ _ ((cu _).mpr trivial)) ?_
 simp[↓zq,zs,ae,cN,Vl.cx]
theorem OP(kc kv c:Vl):ap Tryz.prog 135 [c.cx,.ref 0 0] [.cells [kc.cx,kv.cx]] (cN (Vl.f (.r (.p kc c))).cx [.cells [kc.cx,kv.cx]]):=by
 refine PM _ _ _ ((aR _).mpr trivial) ((aR _).mpr trivial) ((aR _).mpr trivial) ?_
 simp only[LW,Vl.cx,↓zq,zs,ae,aR]
 refine an (C6 _ _ ((aR _).mpr trivial) ((aR _).mpr trivial)) ?_
 simp only[↓zq,zs,ae]
 refine an (DO _ _ ((cu _).mpr trivial)) ?_
 simp only[↓zq,zs,ae]
 refine an (DO _ _ ((cu _).mpr trivial)) ?_
 simp[↓zq,zs,ae,cN,Vl.cx,aR]
theorem OY(c:Vl):ap Tryz.prog 134 [c.cx] [] (bH (Vl.f (.l c)).cx):=by
 refine O6 _ ((aR _).mpr trivial) ?_
 simp only[H0,↓zq,zs,ae]
 refine an (DO _ _ ((aR _).mpr trivial)) ?_
 simp only[↓zq,zs,ae]
 refine an (DO _ _ ((cu _).mpr trivial)) ?_
 simp[↓zq,zs,ae,bH,Vl.cx]
end Go.Proofs.Trees
namespace Go.Proofs.Trees
open Go Go.VL Go.RowKit
abbrev zJ(a:Ty)(tg:Tg):Hl->List Hl:=fun h=>jg (fun c=>.f (.r (.p h.1 c))) (bW (.rc a) tg h.2)
theorem As(l:List Hl){i:Nat}(hi:i<l.length):l[i]∈l:=bE _
def GY(t:Ty)(ea:AV)(s:List UInt8)(fr:AV)(tg:Tg)(v:Vl):Prop:=ap Tryz.prog 91 [.agg [t.av,ea],v.cx,.agg [.v (.string (mk s)),fr]] [] (bH (.sl (gG (bW t tg v))))
theorem Nb(a:Ty)(ea:AV)(s:List UInt8)(fr:AV)(tg:Tg)(he:LK.ptr.has ea)(hf:LK.ptr.has fr)(l:List Hl)(hl:l.length<=1000000)(ih:∀h,h∈l->GY (.rc a) ea s fr tg h.2) :
 ∀(k i:Nat) (out:List Hl),i+k=l.length->(out++(l.drop i).flatMap (zJ a tg)).length<=1000000 ->
 E6 [.sl (gG l),.v (.int .i64 (l.length:Int)),.v (.int .i64 (i:Int))] [.cells [(Ty.rc a).av,ea],.cells [.v (.string (mk s)),fr],.cells [.any],.vec 2 (gG out)] (ga 1 [] [.cells [.any],.vec 2 (gG (out++(l.drop i).flatMap (zJ a tg)))])
 |
  0,i,out,hi,ho=>by
  refine Ks _ _ _ _ _ _ _ _ ?_
  have:i=l.length:=by omega
  subst this
  simp only[GV,↓zq,zs,ae,dJ,aF,he,hf]
  exact⟨fun h=>by omega,fun _=>by simp[ga]⟩
 |
  k+1,i,out,hi,ho=>by
  have hlt:i<l.length:=by omega
  have hd:(l.drop i).flatMap (zJ a tg)=zJ a tg (l[i])++(l.drop (i+1)).flatMap (zJ a tg):=by rw[aL hlt,cP]
  rw[hd]at ho |-
  refine Ks _ _ _ _ _ _ _ _ ?_
  simp only[GV,↓zq,zs,ae,zt,dJ,kU hlt,aF,aR,cc,he,hf]
  refine⟨fun _=>⟨by omega,by omega,?_⟩,fun h=>by omega⟩
  refine an (ih _ (As l hlt)) ?_
  simp only[↓zq,zs,ae]
  have hb:out.length+(bW (.rc a) tg (l[i]).2).length<=1000000:=by
   simp only[al,fE]at ho;omega
  refine a7 (Oz _ _ ((aR _).mpr trivial) ((aR _).mpr trivial) (fun c=>.f (.r (.p (l[i]).1 c))) (fun c=>OP (l[i]).1 (l[i]).2 c) (bW (.rc a) tg (l[i]).2) out hb) ?_
  simp only[↓zq,zs,ae,aK,aR]
  rw[bh i (by omega),<-aS]
  exact Nb a ea s fr tg he hf l hl ih k (i+1) _ (by omega) (by rw[aS];exact ho)
theorem DZ(n:Nat):∀(m:Nat) (v:Vl),v.nodes<=m->∀(e:E) (env:List Fr) (t:Ty),Ask e env t->ez n v (e,env)=true->env.length+v.nodes<100000->∀(ea:AV) (ids:List Nat),mj ea ids->ids.length=env.length->∀(tg:Tg) (s:List UInt8) (fr:AV),zI tg ids s fr->GY t ea s fr tg v
 |0,v,hm=>by have:=cJ v;omega
 |
  m+1,v,hm=>by
  intro e env t A hv hl ea ids he hids tg s fr ht
  unfold GY
  refine PC _ _ _ _ _ ((aF _).mpr trivial) he.has ((aR _).mpr trivial) ht.has ?_
  unfold I0
  refine an (OL t tg ea ids s fr he ht (fun u hu=>by
   rcases im A.wf A.ty with⟨hb,_⟩|⟨u',g,rfl,_,hg⟩
   ·rw[hu]at hb;cases hb
   ·cases hu;rw[hids];exact(List.getElem?_eq_some_iff.1 hg).1) (by omega)) ?_
  have hlen:=mQ t tg v
  cases hat:fu t tg with
  |
   true =>
   rw[mF v hat]
   simp only[↓zq,zs,ae,bH,gG,bp,List.map_nil,Vl.cx]
   exact⟨fun _=>trivial,fun h=>(by cases h)⟩
  |false =>
  simp only[↓zq,zs,ae]
  refine⟨fun h=>(by cases h),fun _=>?_⟩
  rcases im A.wf A.ty with⟨hb,hq⟩|⟨u,g,rfl,hq,hu⟩
  ·have hhd:hd e env=(e,env):=kg hq
   rcases fR A.ty hb A.cl with⟨rfl,rfl⟩|⟨rfl,rfl⟩|⟨s,rfl,rfl,hp,h0,h1⟩|⟨x,a,b,t1,t2,rfl,hx,rfl,ha,hbb⟩|⟨x,a,b,t1,t2,rfl,hx,rfl,ha,hbb⟩|⟨x,a,b,t1,rfl,hx,rfl⟩
   ·rw[dH hat (by cases v<;>rfl)]
    simp[Ty.av,↓zq,zs,ae,bH,gG]
   ·rw[dH hat (by cases v<;>rfl)]
    simp[Ty.av,↓zq,zs,ae,bH,gG]
   ·rw[dH hat (by cases v<;>rfl)]
    simp[Ty.av,↓zq,zs,ae,bH,gG]
   ·obtain⟨ok1,ok2,ok3,_⟩:=A.ok
    obtain⟨f1,f2⟩:=fT A.cl
    have hL:=B4 t1.av t2.av ea 43 (mk []) 0 ((aF _).mpr trivial) he.has
    have hR:=B5 t1.av t2.av ea 43 (mk []) 0 ((aF _).mpr trivial) he.has
    cases v with
    |
     l w =>
     simp only[ez,hhd,hx,beq_self_eq_true,bJ]at hv
     simp only[Vl.nodes]at hm hl hlen
     rw[mR]at hlen |-
     rw[fE]at hlen
     simp only[Ty.av,↓zq,zs,ae]
     refine⟨by omega,fun _=>?_,fun h=>absurd rfl h⟩
     refine an hL ?_
     simp only[↓zq,zs,ae,cc,aF,he.has,Vl.cx,aR]
     refine⟨by omega,fun h=>by omega,fun _=>⟨by omega,?_⟩⟩
     refine an (DZ n m w (by omega) a env t1 ⟨ok2,A.wf,ha,f1⟩ hv (by omega) ea ids he hids tg s fr ht) ?_
     simp only[↓zq,zs,ae]
     have hadd:=K3 (Vl.l w).cx ((aR _).mpr trivial) Vl.l (fun c=>NK w c) (bW t1 tg w) [] (by simp;omega)
     simp only[Vl.cx,gG,List.map_nil,aQ]at hadd
     refine a7 hadd ?_
     simp[↓zq,zs,ae,aK,bH,aR,gG,cu]
    |
     r w =>
     simp only[ez,hhd,hx,beq_self_eq_true,bJ]at hv
     simp only[Vl.nodes]at hm hl hlen
     rw[mN]at hlen |-
     rw[fE]at hlen
     simp only[Ty.av,↓zq,zs,ae]
     refine⟨by omega,fun _=>?_,fun h=>absurd rfl h⟩
     refine an hL ?_
     simp only[↓zq,zs,ae,cc,aF,he.has,Vl.cx,aR]
     refine⟨by omega,fun _=>?_,fun h=>absurd rfl h⟩
     refine an hR ?_
     simp only[↓zq,zs,ae,cc,aF,he.has,aR]
     refine⟨by omega,?_⟩
     refine an (DZ n m w (by omega) b env t2 ⟨ok3,A.wf,hbb,f2⟩ hv (by omega) ea ids he hids tg s fr ht) ?_
     simp only[↓zq,zs,ae]
     have hadd:=K3 (Vl.r w).cx ((aR _).mpr trivial) Vl.r (fun c=>ON w c) (bW t2 tg w) [] (by simp;omega)
     simp only[Vl.cx,gG,List.map_nil,aQ]at hadd
     refine a7 hadd ?_
     simp[↓zq,zs,ae,aK,bH,aR,gG,cu]
    |_=>simp[ez,hhd,hx]at hv
   ·obtain⟨ok1,ok2,ok3,_⟩:=A.ok
    obtain⟨f1,f2⟩:=fm A.cl
    have hL:=B4 t1.av t2.av ea 42 (mk []) 0 ((aF _).mpr trivial) he.has
    have hR:=B5 t1.av t2.av ea 42 (mk []) 0 ((aF _).mpr trivial) he.has
    cases v with
    |
     p w w' =>
     simp only[ez,hhd,hx,beq_self_eq_true,bJ,aw]at hv
     simp only[Vl.nodes]at hm hl hlen
     rw[mV]at hlen |-
     simp only[al,fE]at hlen
     simp only[Ty.av,↓zq,zs,ae]
     refine⟨by omega,fun h=>by omega,fun _=>⟨fun _=>?_,fun h=>absurd rfl h⟩⟩
     refine an hL ?_
     simp only[↓zq,zs,ae,cc,aF,he.has,Vl.cx,aR]
     refine⟨by omega,?_⟩
     refine an (DZ n m w (by omega) a env t1 ⟨ok2,A.wf,ha,f1⟩ hv.1 (by omega) ea ids he hids tg s fr ht) ?_
     simp only[↓zq,zs,ae]
     have hadd:=Qn (Vl.p w w').cx ((aR _).mpr trivial) (fun c=>.l (.p c w')) (fun c=>QA w w' c) (bW t1 tg w) [] (by simp;omega)
     simp only[Vl.cx,gG,List.map_nil,aQ]at hadd
     refine a7 hadd ?_
     simp only[↓zq,zs,ae,aK,aR]
     refine an hR ?_
     simp only[↓zq,zs,ae,cc,aF,he.has,aR]
     refine⟨by omega,?_⟩
     refine an (DZ n m w' (by omega) b env t2 ⟨ok3,A.wf,hbb,f2⟩ hv.2 (by omega) ea ids he hids tg s fr ht) ?_
     simp only[↓zq,zs,ae]
     have hadd2:=QF (Vl.p w w').cx ((aR _).mpr trivial) (fun c=>.r (.p w c)) (fun c=>PB w w' c) (bW t2 tg w') (jg (fun c=>.l (.p c w')) (bW t1 tg w)) (by rw[fE];omega)
     simp only[Vl.cx,gG]at hadd2
     refine a7 hadd2 ?_
     simp[↓zq,zs,ae,aK,bH,aR,gG,cu]
    |_=>simp[ez,hhd,hx]at hv
   ·obtain⟨t1',he1,h1,f1,hw1⟩:=jU A.wf A.ok hx A.ty A.cl
    cases he1
    obtain⟨ok1,ok2,ok3,_⟩:=A.ok
    have A':Ask b (.mk a.at (.list [x,a,b]) env::env) t1:=⟨ok3,hw1,h1,f1⟩
    cases v with
    |
     f w =>
     simp only[ez,hhd,hx,beq_self_eq_true,bJ]at hv
     simp only[Vl.nodes]at hm hl hlen
     rw[mO]at hlen |-
     simp only[al,fE]at hlen
     have hin:=I1 t1 ea ids he
     simp only[Ty.av]at hin
     simp only[Ty.av,↓zq,zs,ae]
     refine⟨by omega,fun h=>by omega,fun _=>⟨fun h=>by omega,fun _=>⟨fun _=>?_,fun h=>absurd rfl h⟩⟩⟩
     refine aV hin (by have:=HR.ne t1 ea ids;simpa only[HR,Ty.av]using this) ?_
     intro r o hr
     obtain⟨⟨mm,hmm,rfl⟩,rfl⟩:=hr
     have he2:mj (.ptr [.pid mm [(Ty.rc t1).av,ea],ea]) (mm::ids):=.cons hmm he
     have hfr:LK.ptr.has (.pid mm [(Ty.rc t1).av,ea]):=.inr (.inr ⟨_,_,rfl⟩)
     simp only[Ty.av]at he2 hfr
     simp only[↓zq,zs,ae,cc,aF,he2.has,hfr,Vl.cx,aR,Ty.av]
     refine⟨by omega,?_⟩
     have i1:=DZ n m w (by omega) b _ t1 A' hv (by simp;omega) _ _ he2 (by simp[hids]) tg.up s fr (ht.push mm)
     unfold GY at i1
     refine an i1 ?_
     simp only[↓zq,zs,ae]
     have hadd:=Pa (fun c=>.f (.l c)) (fun c=>OY c) (bW t1 tg.up w) [] (by simp;omega)
     simp only[Vl.cx,gG,List.map_nil,aQ]at hadd
     refine a7 hadd ?_
     simp only[↓zq,zs,ae,aK,aR]
     have i2:=DZ n m w (by omega) b _ t1 A' hv (by simp;omega) _ _ he2 (by simp[hids]) (.bd 0) [] _ (by have:=zI.bd (k:=0) (ids:=mm::ids) (by simp) [(Ty.rc t1).av,ea] [];simpa only[bg,Ty.av]using this)
     unfold GY at i2
     refine⟨by omega,?_⟩
     refine an i2 ?_
     simp only[↓zq,zs,ae,dJ]
     have hl2:=mQ t1 (.bd 0) w
     have ih3:∀h,h∈bW t1 (.bd 0) w->GY (.rc t1) ea s fr tg h.2:=fun h hh=>by
      have h3:=(iZ hh).1
      have h4:=gm n m w (by omega) b _ t1 A' hv 0 _ rfl h hh
      exact DZ n m h.2 (by omega) (.list [x,a,b]) env (.rc t1) A h4 (by omega) ea ids he hids tg s fr ht
     have hloop:=Nb t1 ea s fr tg he.has ht.has (bW t1 (.bd 0) w) (by omega) ih3 (bW t1 (.bd 0) w).length 0 (jg (fun c=>.f (.l c)) (bW t1 tg.up w)) (by omega) (by
      simp only[aX,al,fE]
      have hlen2:(bW t1 tg.up w).length+((bW t1 (.bd 0) w).flatMap (zJ t1 tg)).length<=1+w.nodes:=hlen
      omega)
     simp only[Ty.av,gG,aX]at hloop
     refine cb hloop ?_
     simp[↓zq,zs,ae,ae,bH,gG]
    |_=>simp[ez,hhd,hx]at hv
  ·rw[dH hat (by cases v<;>rfl)]
   simp[Ty.av,↓zq,zs,ae,bH,gG]
end Go.Proofs.Trees
namespace Go.Proofs.Trees
open Go Go.VL Go.RowKit
theorem DY:∀(v:Vl),v.dT.length<=900000->ap Tryz.prog 39 [v.cx] [] (bH (.v (.string (mk v.dT))))
 | .u,h=>by refine yX _ ((aR _).mpr trivial) ?_;simp[vO,Vl.cx,↓zq,zs,ae,bH,Vl.dT,Vl.db,eG]
 | .el k,h=>by refine yX _ ((aR _).mpr trivial) ?_;simp[vO,Vl.cx,↓zq,zs,ae,bH,Vl.dT,Vl.db,eG]
 |
  .l v,h=>by
  simp only[Vl.dT,Vl.db,eG,dS,au,al,aG]at h
  refine yX _ ((aR _).mpr trivial) ?_
  have hb:(⟨(bytesOf [[.v (.int .u8 108)]]).toArray⟩:ByteArray)=mk [108]:=rfl
  have ha:jo [[.v (.int .u8 108)]]:=kO 108
  simp only[vO,Vl.cx,↓zq,zs,ae,aR,eQ,hb]
  refine⟨by omega,fun h=>by omega,fun _=>⟨fun h=>by omega,fun _=>⟨fun h=>by omega,fun _=>⟨by omega,ha,by simp[cX],by rw[kK,cX,cX];simp,by omega,?_⟩⟩⟩⟩
  refine an (DY v (by simp only[Vl.dT];omega)) ?_
  simp only[↓zq,zs,ae,zt,bH,Vl.dT,Vl.db,eG,dS]
  refine⟨by simp;omega,by simp;omega,by simp⟩
 |
  .r v,h=>by
  simp only[Vl.dT,Vl.db,eG,dS,au,al,aG]at h
  refine yX _ ((aR _).mpr trivial) ?_
  have hb:(⟨(bytesOf [[.v (.int .u8 114)]]).toArray⟩:ByteArray)=mk [114]:=rfl
  have ha:jo [[.v (.int .u8 114)]]:=kO 114
  simp only[vO,Vl.cx,↓zq,zs,ae,aR,eQ,hb]
  refine⟨by omega,fun h=>by omega,fun _=>⟨fun h=>by omega,fun _=>⟨fun h=>by omega,fun _=>⟨by omega,ha,by simp[cX],by rw[kK,cX,cX];simp,by omega,?_⟩⟩⟩⟩
  refine an (DY v (by simp only[Vl.dT];omega)) ?_
  simp only[↓zq,zs,ae,zt,bH,Vl.dT,Vl.db,eG,dS]
  refine⟨by simp;omega,by simp;omega,by simp⟩
 |
  .f v,h=>by
  simp only[Vl.dT,Vl.db,eG,dS,au,al,aG]at h
  refine yX _ ((aR _).mpr trivial) ?_
  have hb:(⟨(bytesOf [[.v (.int .u8 102)]]).toArray⟩:ByteArray)=mk [102]:=rfl
  have ha:jo [[.v (.int .u8 102)]]:=kO 102
  simp only[vO,Vl.cx,↓zq,zs,ae,aR,eQ,hb]
  refine⟨by omega,fun h=>by omega,fun _=>⟨fun h=>by omega,fun _=>⟨fun h=>by omega,fun _=>⟨by omega,ha,by simp[cX],by rw[kK,cX,cX];simp,by omega,?_⟩⟩⟩⟩
  refine an (DY v (by simp only[Vl.dT];omega)) ?_
  simp only[↓zq,zs,ae,zt,bH,Vl.dT,Vl.db,eG,dS]
  refine⟨by simp;omega,by simp;omega,by simp⟩
 |
  .p a b,h=>by
  simp only[Vl.dT,Vl.db,eG,dS,au,al,aG]at h
  refine yX _ ((aR _).mpr trivial) ?_
  simp only[vO,Vl.cx,↓zq,zs,ae,aR,eQ]
  refine⟨by omega,fun h=>by omega,fun _=>⟨fun h=>by omega,fun _=>⟨fun _=>⟨by omega,?_⟩,fun h=>absurd rfl h⟩⟩⟩
  refine an (DY a (by simp only[Vl.dT];omega)) ?_
  simp only[↓zq,zs,ae,zt,aR,Vl.dT]
  refine⟨by simp;omega,by simp;omega,by omega,?_⟩
  refine an (DY b (by simp only[Vl.dT];omega)) ?_
  simp only[↓zq,zs,ae,zt,bH,Vl.dT,Vl.db,eG,dS]
  refine⟨by simp;omega,by simp;omega,by simp⟩
def Di:Option (List UInt8)->AV
 |some s=>.cQ [.v (.string (mk s)),.v (.bool true)]
 |none=>.cQ [.v (.string (mk [])),.v (.bool false)]
end Go.Proofs.Trees
namespace Go.Proofs.Trees
open Go Go.VL Go.RowKit
def back(n:Nat):Ty->Nat->Vl
 | .name _,c=>.el c
 | .plus a b,c=>match HO n a with|some x=>if c<x then .l (back n a c)else .r (back n b (c-x))|none=>.u
 | .times a b,c=>match HO n b with|some y=>.p (back n a (c/y)) (back n b (c%y))|none=>.u
 |_,_=>.u
theorem xJ:∀l:List E,bV 2 (E.bj l)
 |[]=>fun c hc=>by cases hc
 |
  e::l=>fun c hc=>by
  simp only[E.bj,aH]at hc
  rcases hc with rfl|hc
  ·exact gd e
  ·exact xJ l c hc
theorem Kn(w:List UInt8)(l:List E)(hl:l.length<1000000):ap Tryz.prog 78 [.v (.string (mk w)),.sl (E.bj l)] [] (bH (E.ko (.list (.atom w::l)))):=by
 refine PP _ _ ((ci _).mpr trivial) ?_
 simp only[IT,↓zq,zs,ae,dO,bH,E.ko,E.hJ,E.bj]
 exact⟨⟨xJ l,by omega⟩,rfl⟩
end Go.Proofs.Trees
namespace Go.Proofs.Trees
open Go Go.VL Go.RowKit
def lW(l:List Hl):List (List AV):=l.map fun h=>[.v (.string (mk h.1.db.at)),h.1.db.sp,.v (.string (mk h.2.db.at)),h.2.db.sp]
theorem eW(l:List Hl):(lW l).length=l.length:=by simp[lW]
theorem gq{l:List Hl}{i:Nat}(hi:i<l.length):(lW l).getD i []=[.v (.string (mk (l[i]).1.db.at)),(l[i]).1.db.sp,.v (.string (mk (l[i]).2.db.at)),(l[i]).2.db.sp]:=by simp[lW,aa,hi]
theorem oH(out:List Hl)(a b:Vl):lW out++[[.v (.string (mk a.db.at)),a.db.sp,.v (.string (mk b.db.at)),b.db.sp]]=lW (out++[(a,b)]):=by simp[lW]
theorem yG(a b c d:AV):bV 4 [[a,b,c,d]]:=fun x hx=>by simp at hx;rw[hx];rfl
theorem aT(s:ByteArray)(e:E):cc [.str,.sl] [.v (.string s),e.sp] 0=True:=by simp[cc,eV,bf]
theorem kD(s:ByteArray)(e:E)(x y:AV):cc [.str,.sl] [.v (.string s),e.sp,x,y] 0=True:=by simp[cc,eV,bf]
theorem BQ(w:List UInt8)(e:E):ap Tryz.prog 78 [.v (.string (mk w)),.sl [[.v (.string (mk e.at)),e.sp]]] [] (bH (.agg [.v (.string (mk [])),(E.list [.atom w,e]).sp])):=by
 have:=Kn w [e] (by simp)
 simpa only[E.bj,iJ,ei,E.at]using this
theorem BU(w:List UInt8)(e e':E):ap Tryz.prog 78 [.v (.string (mk w)),.sl [[.v (.string (mk e.at)),e.sp],[.v (.string (mk e'.at)),e'.sp]]] [] (bH (.agg [.v (.string (mk [])),(E.list [.atom w,e,e']).sp])):=by
 have:=Kn w [e,e'] (by simp)
 simpa only[E.bj,iJ,ei,E.at]using this
def P3(pv:AV)(a b:E):Prop:=LK.sl.has pv/\pv.aO.length=3/\pv.aO.getD 1 []=[.v (.string (mk a.at)),a.sp]/\pv.aO.getD 2 []=[.v (.string (mk b.at)),b.sp]
theorem P3.of(x a b:E):P3 (E.list [x,a,b]).sp a b:=⟨by simp[E.sp,ci],by simp[E.sp,E.bj,fL],by simp[E.sp,E.bj,fL,iJ],by simp[E.sp,E.bj,fL,iJ]⟩
def P2(pv:AV)(a:E):Prop:=LK.sl.has pv/\pv.aO.length=2/\pv.aO.getD 1 []=[.v (.string (mk a.at)),a.sp]
theorem P2.of(x a:E):P2 (E.list [x,a]).sp a:=⟨by simp[E.sp,ci],by simp[E.sp,E.bj,fL],by simp[E.sp,E.bj,fL,iJ]⟩
theorem Mb(w:List UInt8)(g:Vl->Vl)(hg:∀c,(g c).db=.list [.atom w,c.db])(l:List Hl)(hl:l.length<=1000000):∀(k i:Nat) (out:List Hl),i+k=l.length->out.length+k<=1000000 ->
 F5 [.sl (lW l),.v (.string (mk w)),.v (.int .i64 (i:Int))] [.vec 4 (lW out)] (ga 1 [] [.vec 4 (lW (out++jg g (l.drop i)))])
 |
  0,i,out,hi,ho=>by
  refine KL _ _ _ _ ?_
  have:i=l.length:=by omega
  subst this
  simp only[HJ,↓zq,zs,ae,eW]
  exact⟨fun h=>by omega,fun _=>by simp[ga,jg]⟩
 |
  k+1,i,out,hi,ho=>by
  have hlt:i<l.length:=by omega
  refine KL _ _ _ _ ?_
  simp only[HJ,↓zq,zs,ae,zt,eW,gq hlt,kD,aT]
  refine⟨fun _=>?_,fun h=>by omega⟩
  repeat refine⟨by omega,?_⟩
  refine an (BQ _ _) ?_
  simp only[↓zq,zs,ae,aT]
  repeat refine⟨by omega,?_⟩
  refine⟨⟨yG _ _ _ _,by omega⟩,?_⟩
  rw[bh i (by omega)]
  have:=Mb w g hg l hl k (i+1) (out++[(g (l[i]).1,(l[i]).2)]) (by omega) (by simp;omega)
  rw[aS,<-oH,hg]at this
  rw[gj g l hlt]
  exact this
theorem KK(w:List UInt8)(g:Vl->Vl)(hg:∀c,(g c).db=.list [.atom w,c.db])(l out:List Hl)(hl:out.length+l.length<=1000000) :
 ap Tryz.prog 105 [.sl (lW l),.v (.string (mk w)),.vec 0] [.vec 4 (lW out)] (cN (.vec 1) [.dead,.vec 4 (lW (out++jg g l))]):=by
 refine NF _ _ _ ((ci _).mpr trivial) ?_
 simp only[K4,↓zq,zs,ae]
 have h:=Mb w g hg l (by omega) l.length 0 out (by omega) (by omega)
 rw[aX]at h
 refine cb h ?_
 simp[↓zq,zs,ae,cN]
theorem LU(s:List UInt8)(ta:ByteArray)(tp:AV)(ht:LK.sl.has tp)(va:ByteArray)(vp:AV)(x y:Vl)(hp:P3 vp x.db y.db)(l:List Hl)(hl:l.length<=1000000):∀(k i:Nat) (out:List Hl),i+k=l.length->out.length+k<=1000000 ->
 GB [.v (.string (mk s)),.sl (lW l),.v (.int .i64 (i:Int))] [.cells [.v (.string ta),tp],.cells [.v (.string va),vp],.vec 4 (lW out)] (ga 1 [.v (.string (mk s))] [.cells [.v (.string ta),tp],.cells [.v (.string va),vp],.vec 4 (lW (out++jg (fun c=>Vl.l (.p c y)) (l.drop i)))])
 |
  0,i,out,hi,ho=>by
  refine MQ _ _ _ _ _ _ _ _ ?_
  have:i=l.length:=by omega
  subst this
  simp only[Ep,↓zq,zs,ae,eW,ht,bf,ae,hp.1]
  exact⟨fun h=>by omega,fun _=>by simp[ga,jg]⟩
 |
  k+1,i,out,hi,ho=>by
  have hlt:i<l.length:=by omega
  refine MQ _ _ _ _ _ _ _ _ ?_
  simp only[Ep,↓zq,zs,ae,zt,eW,gq hlt,kD,aT,gq,ht,bf,ae,hp.1,toNat_one,bq,hp.1,hp.2.1,hp.2.2.1,hp.2.2.2]
  refine⟨fun _=>?_,fun h=>by omega⟩
  repeat refine⟨by omega,?_⟩
  refine an (BU _ _ _) ?_
  simp only[↓zq,zs,ae,aT]
  repeat refine⟨by omega,?_⟩
  refine an (BQ [108] (E.list [.atom [112],(l[i]).1.db,y.db])) ?_
  simp only[↓zq,zs,ae,aT]
  repeat refine⟨by omega,?_⟩
  refine⟨⟨yG _ _ _ _,by omega⟩,?_⟩
  rw[bh i (by omega)]
  have:=LU s ta tp ht va vp x y hp l hl k (i+1) (out++[((fun c=>Vl.l (.p c y)) (l[i]).1,(l[i]).2)]) (by omega) (by simp;omega)
  rw[aS,<-oH]at this
  rw[gj (fun c=>Vl.l (.p c y)) l hlt]
  exact this
theorem Ih(va:ByteArray)(vp:AV)(x y:Vl)(hp:P3 vp x.db y.db)(l:List Hl)(hl:l.length<=1000000):∀(k i:Nat) (out:List Hl),i+k=l.length->out.length+k<=1000000 ->
 E5 [.sl (lW l),.v (.int .i64 (i:Int))] [.cells [.v (.string va),vp],.vec 4 (lW out)] (ga 1 [] [.vec 4 (lW (out++jg (fun c=>Vl.r (.p x c)) (l.drop i)))])
 |
  0,i,out,hi,ho=>by
  refine MV _ _ _ _ _ ?_
  have:i=l.length:=by omega
  subst this
  simp only[G9,↓zq,zs,ae,eW,bf,ae,hp.1]
  exact⟨fun h=>by omega,fun _=>by simp[ga,jg]⟩
 |
  k+1,i,out,hi,ho=>by
  have hlt:i<l.length:=by omega
  refine MV _ _ _ _ _ ?_
  simp only[G9,↓zq,zs,ae,zt,eW,gq hlt,kD,aT,gq,bf,ae,hp.1,toNat_one,bq,hp.1,hp.2.1,hp.2.2.1,hp.2.2.2]
  refine⟨fun _=>?_,fun h=>by omega⟩
  repeat refine⟨by omega,?_⟩
  refine an (BU _ _ _) ?_
  simp only[↓zq,zs,ae,aT]
  repeat refine⟨by omega,?_⟩
  refine an (BQ [114] (E.list [.atom [112],x.db,(l[i]).1.db])) ?_
  simp only[↓zq,zs,ae,aT]
  repeat refine⟨by omega,?_⟩
  refine⟨⟨yG _ _ _ _,by omega⟩,?_⟩
  rw[bh i (by omega)]
  have:=Ih va vp x y hp l hl k (i+1) (out++[((fun c=>Vl.r (.p x c)) (l[i]).1,(l[i]).2)]) (by omega) (by simp;omega)
  rw[aS,<-oH]at this
  rw[gj (fun c=>Vl.r (.p x c)) l hlt]
  exact this
theorem I3(s s2:List UInt8)(ta:ByteArray)(tp:AV)(ht:LK.sl.has tp)(va:ByteArray)(vp:AV)(hp:LK.sl.has vp)(l:List Hl)(hl:l.length<=1000000):∀(k i:Nat) (out:List Hl),i+k=l.length->out.length+k<=1000000 ->
 FN [.v (.string (mk s)),.v (.string (mk s2)),.sl (lW l),.v (.int .i64 (i:Int))] [.cells [.v (.string ta),tp],.cells [.v (.string va),vp],.vec 4 (lW out)] (ga 1 [.v (.string (mk s)),.v (.string (mk s2))] [.cells [.v (.string ta),tp],.cells [.v (.string va),vp],.vec 4 (lW (out++jg (fun c=>Vl.f (.l c)) (l.drop i)))])
 |
  0,i,out,hi,ho=>by
  refine Js _ _ _ _ _ _ _ _ _ ?_
  have:i=l.length:=by omega
  subst this
  simp only[E8,↓zq,zs,ae,eW,ht,bf,ae,hp]
  exact⟨fun h=>by omega,fun _=>by simp[ga,jg]⟩
 |
  k+1,i,out,hi,ho=>by
  have hlt:i<l.length:=by omega
  refine Js _ _ _ _ _ _ _ _ _ ?_
  simp only[E8,↓zq,zs,ae,zt,eW,gq hlt,kD,aT,gq,ht,bf,ae,hp]
  refine⟨fun _=>?_,fun h=>by omega⟩
  repeat refine⟨by omega,?_⟩
  refine an (BQ _ _) ?_
  simp only[↓zq,zs,ae,aT]
  repeat refine⟨by omega,?_⟩
  refine an (BQ [102] (E.list [.atom [108],(l[i]).1.db])) ?_
  simp only[↓zq,zs,ae,aT]
  repeat refine⟨by omega,?_⟩
  refine⟨⟨yG _ _ _ _,by omega⟩,?_⟩
  rw[bh i (by omega)]
  have:=I3 s s2 ta tp ht va vp hp l hl k (i+1) (out++[((fun c=>Vl.f (.l c)) (l[i]).1,(l[i]).2)]) (by omega) (by simp;omega)
  rw[aS,<-oH]at this
  rw[gj (fun c=>Vl.f (.l c)) l hlt]
  exact this
theorem K1(s:List UInt8)(L:AV)(q:Nat)(kc:Vl)(kv:Vl)(hL:LK.sl.has L)(hq:q<L.aO.length)(hg:L.aO.getD q []=[.v (.string (mk kc.db.at)),kc.db.sp,.v (.string (mk kv.db.at)),kv.db.sp])(ta:ByteArray)(tp:AV)(ht:LK.sl.has tp)(l:List Hl)(hl:l.length<=1000000):∀(k i:Nat) (out:List Hl),i+k=l.length->out.length+k<=1000000 ->
 Eo [.v (.string (mk s)),L,.v (.int .i64 (q:Int)),.sl (lW l),.v (.int .i64 (i:Int))] [.cells [.v (.string ta),tp],.vec 4 (lW out)] (ga 1 [.v (.string (mk s)),L,.v (.int .i64 (q:Int))] [.cells [.v (.string ta),tp],.vec 4 (lW (out++jg (fun c=>Vl.f (.r (.p kc c))) (l.drop i)))])
 |
  0,i,out,hi,ho=>by
  refine Jf _ _ _ _ _ _ _ _ ?_
  have:i=l.length:=by omega
  subst this
  simp only[E3,↓zq,zs,ae,eW,ht,bf,ae,hL]
  exact⟨fun h=>by omega,fun _=>by simp[ga,jg]⟩
 |
  k+1,i,out,hi,ho=>by
  have hlt:i<l.length:=by omega
  refine Jf _ _ _ _ _ _ _ _ ?_
  simp only[E3,↓zq,zs,ae,zt,eW,gq hlt,kD,aT,gq,ht,bf,ae,hL,hg]
  refine⟨fun _=>?_,fun h=>by omega⟩
  repeat refine⟨by omega,?_⟩
  refine an (BU _ _ _) ?_
  simp only[↓zq,zs,ae,aT]
  repeat refine⟨by omega,?_⟩
  refine an (BQ [114] (E.list [.atom [112],kc.db,(l[i]).1.db])) ?_
  simp only[↓zq,zs,ae,aT]
  repeat refine⟨by omega,?_⟩
  refine an (BQ [102] (E.list [.atom [114],E.list [.atom [112],kc.db,(l[i]).1.db]])) ?_
  simp only[↓zq,zs,ae,aT]
  repeat refine⟨by omega,?_⟩
  refine⟨⟨yG _ _ _ _,by omega⟩,?_⟩
  rw[bh i (by omega)]
  have:=K1 s L q kc kv hL hq hg ta tp ht l hl k (i+1) (out++[((fun c=>Vl.f (.r (.p kc c))) (l[i]).1,(l[i]).2)]) (by omega) (by simp;omega)
  rw[aS,<-oH]at this
  rw[gj (fun c=>Vl.f (.r (.p kc c))) l hlt]
  exact this
theorem K9(s:List UInt8)(te:E)(a:Ty)(tg:Tg)(l:List Hl)(hl:l.length<=1000000)(ih:∀h,h∈l->ap Tryz.prog 77 [.agg [.v (.string (mk te.at)),te.sp],.v (.string (mk s)),.agg [.v (.string (mk h.2.db.at)),h.2.db.sp]] [] (bH (.sl (lW (bW (.rc a) tg h.2))))) :
 ∀(k i:Nat) (out:List Hl),i+k=l.length->(out++(l.drop i).flatMap (zJ a tg)).length<=1000000 ->
 Ew [.v (.string (mk s)),.sl (lW l),.v (.int .i64 (i:Int))] [.cells [.v (.string (mk te.at)),te.sp],.vec 4 (lW out)] (ga 1 [] [.vec 4 (lW (out++(l.drop i).flatMap (zJ a tg)))])
 |
  0,i,out,hi,ho=>by
  refine Ij _ _ _ _ _ _ ?_
  have:i=l.length:=by omega
  subst this
  simp only[Fy,↓zq,zs,ae,eW,bf,ae]
  exact⟨fun h=>by omega,fun _=>by simp[ga]⟩
 |
  k+1,i,out,hi,ho=>by
  have hlt:i<l.length:=by omega
  have hd:(l.drop i).flatMap (zJ a tg)=zJ a tg (l[i])++(l.drop (i+1)).flatMap (zJ a tg):=by rw[aL hlt,cP]
  rw[hd]at ho |-
  refine Ij _ _ _ _ _ _ ?_
  simp only[Fy,↓zq,zs,ae,zt,eW,gq hlt,kD,aT,bf,ae]
  refine⟨fun _=>?_,fun h=>by omega⟩
  repeat refine⟨by omega,?_⟩
  refine an (ih _ (As l hlt)) ?_
  simp only[↓zq,zs,ae]
  have hb:out.length+(bW (.rc a) tg (l[i]).2).length<=1000000:=by
   simp only[al,fE]at ho;omega
  have h5:=K1 s (.sl (lW l)) i (l[i]).1 (l[i]).2 ((ci _).mpr trivial) (by rw[fL,eW];omega) (by rw[fL,gq hlt]) (mk te.at) te.sp ((bf _).mpr trivial) (bW (.rc a) tg (l[i]).2) (by omega) (bW (.rc a) tg (l[i]).2).length 0 out (by omega) (by omega)
  rw[aX]at h5
  refine cb h5 ?_
  simp only[↓zq,zs,ae,bf,ae]
  repeat refine⟨by omega,?_⟩
  rw[bh i (by omega),<-aS]
  exact K9 s te a tg l hl ih k (i+1) _ (by omega) (by rw[aS];exact ho)
end Go.Proofs.Trees
namespace Go.Proofs.Trees
open Go Go.VL Go.RowKit
theorem zB{env:List Fr}(h:WF env):∀w,w∈names env->cS w=true:=by
 induction h with
 |nil=>intro w hw;cases hw
 |
  cons hs _ _ _ _ _ ih =>
  intro w hw
  simp only[names,aM,aU]at hw
  rcases hw with hw|rfl
  ·exact ih w hw
  ·exact hs
theorem BP{ar:List (List UInt8)}{k:Nat}(h:k<ar.length):gy ar k∈ar:=by
 unfold gy
 have:ar.length-1-k<ar.length:=by omega
 simp[aa,this]
def Bz(s:List UInt8)(ar:List (List UInt8)):Prop:=gH s=true\/(bK s ar ar.length).isSome=true
theorem vA{s:List UInt8}{ar:List (List UInt8)}{u:Nat}(hl:∀w,w∈ar->cS w=true)(h:bK s ar ar.length=some u):cS s=true:=by
 obtain⟨h1,h2⟩:=fS _ _ (aq _) h
 rw[<-h2];exact hl _ (BP h1)
theorem Gy{s0 s:List UInt8}{ar:List (List UInt8)}{t:Ty}(ht:cD (.atom s0) ar=some t)(hl:∀w,w∈ar->cS w=true)(hs:Bz s ar):fu t (nR s ar)=decide (s0=s):=by
 have h48:∀b:UInt8,gH [b]=false->cS [b]=false->s≠[b]:=fun b h1 h2 e=>by
  subst e
  rcases hs with h|h
  ·rw[h1]at h;cases h
  ·obtain⟨u,hu⟩:=bx.1 h
   rw[vA hl hu]at h2;cases h2
 simp only[cD]at ht
 split at ht
 ·rename_i e;cases ht;subst e
  have:=h48 48 rfl rfl
  rw[decide_eq_false (fun h=>this h.symm)];cases nR s ar<;>rfl
 ·split at ht
  ·rename_i e;cases ht;subst e
   have:=h48 49 rfl rfl
   rw[decide_eq_false (fun h=>this h.symm)];cases nR s ar<;>rfl
  ·split at ht
   ·rename_i hp
    cases ht
    unfold nR
    cases e:bK s ar ar.length with
    |none=>rfl
    |
     some u =>
     have hloo:=vA hl e
     show false=_
     rw[decide_eq_false]
     rintro rfl
     rw[j2 hp]at hloo;cases hloo
   ·rename_i hnp
    split at ht
    ·split at ht
     ·rename_i u hu
      cases ht
      unfold nR
      cases e:bK s ar ar.length with
      |
       none =>
       show false=_
       rw[decide_eq_false]
       rintro rfl
       rw[hu]at e;cases e
      |
       some u' =>
       show decide (u=u')=_
       rw[cq,decide_eq_true_eq,decide_eq_true_eq]
       constructor
       ·rintro rfl
        rw[<-(fS _ _ (aq _) hu).2,<-(fS _ _ (aq _) e).2]
       ·rintro rfl
        rw[hu]at e;cases e;rfl
     ·rename_i hn
      cases ht
      unfold nR
      cases e:bK s ar ar.length with
      |none=>rfl
      |
       some u =>
       show false=_
       rw[decide_eq_false]
       rintro rfl
       rw[hn]at e;cases e
    ·cases ht
theorem Cy{b:E}{ar:List (List UInt8)}{w:List UInt8}{t:Ty}(hb:cD b (ar++[w])=some t)(hw:cS w=true)(hs:Bz w ar):ux t (nR w ar).up=false:=by
 rcases hs with h|h
 ·rw[j2 h]at hw;cases hw
 ·obtain⟨u,hu⟩:=bx.1 h
  rw[nR,hu];exact FX hb hu
theorem yU{s w:List UInt8}{ar:List (List UInt8)}(h:w≠s)(hs:Bz s ar):Bz s (ar++[w]):=by
 rcases hs with h1|h1
 ·exact .inl h1
 ·right;rw[jv ar h];obtain⟨u,hu⟩:=bx.1 h1;rw[hu];rfl
def NU(e:E)(s:List UInt8)(t:Ty)(tg:Tg)(v:Vl):Prop:=ap Tryz.prog 77 [.agg [.v (.string (mk e.at)),e.sp],.v (.string (mk s)),.agg [.v (.string (mk v.db.at)),v.db.sp]] [] (bH (.sl (lW (bW t tg v))))
theorem Ef(n:Nat):∀(m:Nat) (v:Vl),v.nodes<=m->∀(e:E) (env:List Fr) (t:Ty),Ask e env t->ez n v (e,env)=true->env.length+v.nodes<100000->∀(s:List UInt8),Bz s (names env)->NU e s t (nR s (names env)) v
 |0,v,hm=>by have:=cJ v;omega
 |
  m+1,v,hm=>by
  intro e env t A hv hl s hs
  have hloo:=zB A.wf
  unfold NU
  refine PX _ _ _ _ _ ((bf _).mpr trivial) ((bf _).mpr trivial) ?_
  have hlen:=mQ t (nR s (names env)) v
  have atomCase:∀s0,e=.atom s0->stuck t v=true->eF Tryz.prog 244 (Hj (mk e.at) e.sp (mk s) (mk v.db.at) v.db.sp) fun _ xs obs=>bH (.sl (lW (bW t (nR s (names env)) v))) (xs.headD .any) obs:=by
   rintro s0 rfl hst
   have hat:=Gy A.ty hloo hs
   have hne:s0≠[]:=A.ok
   simp only[Hj,E.at,↓zq,zs,ae,zt]
   refine⟨fun _=>⟨fun h=>?_,fun h=>?_⟩,fun h=>absurd h hne⟩
   ·rw[decide_eq_true h]at hat
    rw[mF v hat]
    refine⟨⟨yG _ _ _ _,by omega⟩,?_⟩
    simp[bH,lW,Vl.db,E.at,E.sp]
   ·rw[decide_eq_false h]at hat
    rw[dH hat hst]
    simp[bH,lW]
  have hvh:=JL v
  rw[ei]at hvh
  rcases im A.wf A.ty with⟨hb,hq⟩|⟨u,g,rfl,hq,hu⟩
  ·have hhd:hd e env=(e,env):=kg hq
   rcases fR A.ty hb A.cl with⟨rfl,rfl⟩|⟨rfl,rfl⟩|⟨s0,rfl,rfl,hp,h0,h1⟩|⟨x,a,b,t1,t2,rfl,hx,rfl,ha,hbb⟩|⟨x,a,b,t1,t2,rfl,hx,rfl,ha,hbb⟩|⟨x,a,b,t1,rfl,hx,rfl⟩
   ·exact atomCase _ rfl (by cases v<;>rfl)
   ·exact atomCase _ rfl (by cases v<;>rfl)
   ·exact atomCase _ rfl (by cases v<;>rfl)
   ·obtain⟨ok1,ok2,ok3,_⟩:=A.ok
    obtain⟨f1,f2⟩:=fT A.cl
    have hP:=P3.of x a b
    cases v with
    |
     l w =>
     simp only[ez,hhd,hx,beq_self_eq_true,bJ]at hv
     simp only[Vl.nodes]at hm hl hlen
     rw[mR]at hlen |-
     rw[fE]at hlen
     have hW:=P2.of (.atom [108]) w.db
     simp only[Hj,E.at,↓zq,zs,ae,zt]
     refine⟨fun h=>absurd rfl h,fun _=>an hvh ?_⟩
     simp only[vh,Vl.db,toNat_one,bq,↓zq,zs,ae,zt,hP.1,hP.2.1,hP.2.2.1,hP.2.2.2,hW.1,hW.2.1,hW.2.2,aT]
     refine⟨fun _=>?_,fun h=>absurd rfl h⟩
     repeat refine⟨by omega,?_⟩
     refine an (Ef n m w (by omega) a env t1 ⟨ok2,A.wf,ha,f1⟩ hv (by omega) s hs) ?_
     simp only[↓zq,zs,ae]
     refine a7 (KK [108] Vl.l (fun c=>rfl) (bW t1 (nR s (names env)) w) [] (by simp;omega)) ?_
     simp[↓zq,zs,ae,bH,bc,bF]
    |
     r w =>
     simp only[ez,hhd,hx,beq_self_eq_true,bJ]at hv
     simp only[Vl.nodes]at hm hl hlen
     rw[mN]at hlen |-
     rw[fE]at hlen
     have hW:=P2.of (.atom [114]) w.db
     simp only[Hj,E.at,↓zq,zs,ae,zt]
     refine⟨fun h=>absurd rfl h,fun _=>an hvh ?_⟩
     simp only[vh,Vl.db,toNat_one,bq,↓zq,zs,ae,zt,hP.1,hP.2.1,hP.2.2.1,hP.2.2.2,hW.1,hW.2.1,hW.2.2,aT]
     refine⟨fun h=>by simp at h,fun _=>⟨fun _=>?_,fun h=>absurd rfl h⟩⟩
     repeat refine⟨by omega,?_⟩
     refine an (Ef n m w (by omega) b env t2 ⟨ok3,A.wf,hbb,f2⟩ hv (by omega) s hs) ?_
     simp only[↓zq,zs,ae]
     refine a7 (KK [114] Vl.r (fun c=>rfl) (bW t2 (nR s (names env)) w) [] (by simp;omega)) ?_
     simp[↓zq,zs,ae,bH,bc,bF]
    |_=>simp[ez,hhd,hx]at hv
   ·obtain⟨ok1,ok2,ok3,_⟩:=A.ok
    obtain⟨f1,f2⟩:=fm A.cl
    have hP:=P3.of x a b
    cases v with
    |
     p w w' =>
     simp only[ez,hhd,hx,beq_self_eq_true,bJ,aw]at hv
     simp only[Vl.nodes]at hm hl hlen
     rw[mV]at hlen |-
     simp only[al,fE]at hlen
     have hW:=P3.of (.atom [112]) w.db w'.db
     simp only[Hj,E.at,↓zq,zs,ae,zt]
     refine⟨fun h=>absurd rfl h,fun _=>an hvh ?_⟩
     simp only[vh,Vl.db,toNat_one,bq,↓zq,zs,ae,zt,hP.1,hP.2.1,hP.2.2.1,hP.2.2.2,hW.1,hW.2.1,hW.2.2.1,hW.2.2.2,aT]
     refine⟨fun h=>by simp at h,fun _=>⟨fun h=>by simp at h,fun _=>⟨fun _=>?_,fun h=>absurd rfl h⟩⟩⟩
     repeat refine⟨by omega,?_⟩
     refine an (Ef n m w (by omega) a env t1 ⟨ok2,A.wf,ha,f1⟩ hv.1 (by omega) s hs) ?_
     simp only[↓zq,zs,ae]
     have h1:=LU s (mk []) (E.list [x,a,b]).sp ((bf _).mpr trivial) (mk []) (E.list [.atom [112],w.db,w'.db]).sp w w' (P3.of _ _ _) (bW t1 (nR s (names env)) w) (by omega) _ 0 [] (aW _) (by simp;omega)
     rw[aX,aQ]at h1
     refine cb h1 ?_
     simp only[↓zq,zs,ae,bf,ae,bq,hP.1,hP.2.1,hP.2.2.2,hW.1,hW.2.1,hW.2.2.2,aT]
     repeat refine⟨by omega,?_⟩
     refine an (Ef n m w' (by omega) b env t2 ⟨ok3,A.wf,hbb,f2⟩ hv.2 (by omega) s hs) ?_
     simp only[↓zq,zs,ae]
     have h2:=Ih (mk []) (E.list [.atom [112],w.db,w'.db]).sp w w' (P3.of _ _ _) (bW t2 (nR s (names env)) w') (by omega) _ 0 (jg (fun c=>Vl.l (.p c w')) (bW t1 (nR s (names env)) w)) (aW _) (by rw[fE];omega)
     rw[aX]at h2
     refine cb h2 ?_
     simp[↓zq,zs,ae,bH]
    |_=>simp[ez,hhd,hx]at hv
   ·obtain⟨t1',he1,h1,f1,hw1⟩:=jU A.wf A.ok hx A.ty A.cl
    cases he1
    obtain⟨ok1,ok2,ok3,_⟩:=A.ok
    obtain⟨_,hla,_,_⟩:=dh hx A.ty
    have A':Ask b (.mk a.at (.list [x,a,b]) env::env) t1:=⟨ok3,hw1,h1,f1⟩
    have hnm:names (.mk a.at (.list [x,a,b]) env::env)=names env++[a.at]:=rfl
    have hP:=P3.of x a b
    cases v with
    |
     f w =>
     simp only[ez,hhd,hx,beq_self_eq_true,bJ]at hv
     simp only[Vl.nodes]at hm hl hlen
     have hW:=P2.of (.atom [102]) w.db
     simp only[Hj,E.at,↓zq,zs,ae,zt]
     refine⟨fun h=>absurd rfl h,fun _=>an hvh ?_⟩
     simp only[vh,Vl.db,toNat_one,bq,↓zq,zs,ae,zt,hP.1,hP.2.1,hP.2.2.1,hP.2.2.2,hW.1,hW.2.1,hW.2.2,aT]
     refine⟨fun h=>by simp at h,fun _=>⟨fun h=>by simp at h,fun _=>⟨fun h=>by simp at h,fun _=>?_⟩⟩⟩
     repeat refine⟨by omega,?_⟩
     refine⟨fun h=>?_,fun h=>?_⟩
     ·
      have hh:a.at=s:=h
      subst hh
      have:ux (.rc t1) (nR a.at (names env))=false:=Cy h1 hla hs
      rw[iG _ _ (aq _) _ _ this]
      simp[bH,lW]
     ·have hh:a.at≠s:=h
      rw[mO]at hlen |-
      simp only[al,fE]at hlen
      repeat refine⟨by omega,?_⟩
      have i1:=Ef n m w (by omega) b _ t1 A' hv (by simp;omega) s (by rw[hnm];exact yU hh hs)
      rw[hnm,zi _ hh]at i1
      refine an i1 ?_
      simp only[↓zq,zs,ae]
      have h3:=I3 s a.at (mk []) (E.list [x,a,b]).sp ((bf _).mpr trivial) (mk []) (E.list [.atom [102],w.db]).sp ((bf _).mpr trivial) (bW t1 (nR s (names env)).up w) (by omega) _ 0 [] (aW _) (by simp;omega)
      rw[aX,aQ]at h3
      refine cb h3 ?_
      simp only[↓zq,zs,ae,bf,ae,toNat_one,bq,hP.1,hP.2.1,hP.2.2.2,hW.1,hW.2.1,hW.2.2,aT]
      repeat refine⟨by omega,?_⟩
      have i2:=Ef n m w (by omega) b _ t1 A' hv (by simp;omega) a.at (by rw[hnm];right;rw[gR];rfl)
      rw[hnm,uB]at i2
      refine an i2 ?_
      simp only[↓zq,zs,ae]
      have hl2:=mQ t1 (.bd 0) w
      have ih3:∀h,h∈bW t1 (.bd 0) w->NU (.list [x,a,b]) s (.rc t1) (nR s (names env)) h.2:=fun h hh=>by
       have h3:=(iZ hh).1
       have h4:=gm n m w (by omega) b _ t1 A' hv 0 _ rfl h hh
       exact Ef n m h.2 (by omega) (.list [x,a,b]) env (.rc t1) A h4 (by omega) s hs
      have h4:=K9 s (.list [x,a,b]) t1 (nR s (names env)) (bW t1 (.bd 0) w) (by omega) ih3 _ 0 (jg (fun c=>.f (.l c)) (bW t1 (nR s (names env)).up w)) (aW _) (by
       simp only[aX,al,fE]
       have hlen2:(bW t1 (nR s (names env)).up w).length+((bW t1 (.bd 0) w).flatMap (zJ t1 (nR s (names env)))).length<=1+w.nodes:=hlen
       omega)
      rw[aX]at h4
      simp only[E.at]at h4
      refine cb h4 ?_
      simp[↓zq,zs,ae,bH]
    |_=>simp[ez,hhd,hx]at hv
  ·cases e with
   |atom s0=>exact atomCase _ rfl (by cases v<;>rfl)
   |list l=>exact absurd hq (by rw[show (E.list l).at=[] from rfl,mI A.wf];simp)
end Go.Proofs.Trees
namespace Go.Proofs.Trees
open Go Go.VL Go.RowKit
def kids(a:Ty):Vl->List Hl
 | .f w=>bW a (.bd 0) w
 |_=>[]
theorem pn(a:Ty)(v:Vl):gF (kids a v)+1<=v.nodes:=by
 cases v with
 |f w=>have:=rK a (.bd 0) w;simp only[kids,Vl.nodes];omega
 |_=>simp only[kids,gF,Vl.nodes,List.map_nil,List.sum_nil];omega
theorem j9{a:Ty}{v:Vl}{h:Hl}(hh:h∈kids a v):h.2.nodes<v.nodes:=by
 cases v with
 |f w=>have:=(iZ hh).1;simp only[Vl.nodes];omega
 |_=>cases hh
theorem my{n:Nat}{a:Ty}{v:Vl}{h:Hl}(hv:v.jf n)(hh:h∈kids a v):h.1.jf n/\h.2.jf n:=by
 cases v with
 |f w=>exact gX n _ _ _ w h hv hh
 |_=>cases hh
abbrev Pt:=Vl×List Nat
def gC(pl:List Nat):List Hl->Nat->List Pt
 |[],_=>[]
 |h::l,i=>(h.2,pl++[i])::gC pl l (i+1)
theorem jd{pl:List Nat}{q:Pt}:∀{l:List Hl} {i:Nat},q∈gC pl l i->∃h,h∈l/\q.1=h.2
 |[],_,hq=>by cases hq
 |
  h::l,i,hq=>by
  rcases aH.1 hq with rfl|hq
  ·exact⟨h,ai,rfl⟩
  ·obtain⟨k,h1,h2⟩:=jd hq
   exact⟨k,ak _ h1,h2⟩
theorem sY(pl:List Nat)(l:List Hl){i:Nat}(hi:i<l.length):gC pl (l.drop i) i=((l[i]).2,pl++[i])::gC pl (l.drop (i+1)) (i+1):=by
 rw[aL hi,gC]
def e9:Nat->Ty->Pt->List Pt
 |0,_,_=>[]
 |n+1,a,p=>p::(gC p.2 (kids a p.1) 0).flatMap (e9 n a)
theorem vG{f:Pt->List Pt}(hf:∀q,(f q).length<=q.1.nodes)(pl:List Nat):∀(l:List Hl) (i:Nat),((gC pl l i).flatMap f).length<=gF l
 |[],i=>by simp[gC]
 |
  h::l,i=>by
  have:=vG hf pl l (i+1)
  have:=hf (h.2,pl++[i])
  simp only[gC,cP,al,gF,bp,dM]at *;omega
theorem jX:∀(n:Nat) (a:Ty) (p:Pt),(e9 n a p).length<=p.1.nodes
 |0,a,p=>dr _
 |
  n+1,a,p=>by
  have:=vG (f:=e9 n a) (fun q=>jX n a q) p.2 (kids a p.1) 0
  have:=pn a p.1
  simp only[e9,au];omega
def Dp(f:List Pt->List Pt)(ps:List Pt):Prop:=∀out,(out.length+ps.length<=100->f out=out++ps)/\(100<out.length+ps.length->100<(f out).length)/\out.length<=(f out).length/\(f out).length<=out.length+ps.length
theorem pD{g:List Pt->Pt->List Pt}{ps:Pt->List Pt}:∀(qs:List Pt),(∀q,q∈qs->Dp (fun o=>g o q) (ps q))->Dp (fun o=>qs.foldl g o) (qs.flatMap ps)
 |[],_=>fun out=>by simp
 |
  q::qs,h=>fun out=>by
  have ih:=pD qs fun q hq=>h q (ak _ hq)
  obtain⟨a1,a2,a3,a4⟩:=h q ai out
  obtain⟨b1,b2,b3,b4⟩:=ih (g out q)
  simp only[List.foldl_cons,cP,al]at *
  refine⟨fun hle=>?_,fun hlt=>?_,by omega,by omega⟩
  ·rw[a1 (by omega)]at b1 |-
   rw[b1 (by rw[al];omega),aS]
  ·by_cases hq:out.length+(ps q).length<=100
   ·rw[a1 hq]at b2 |-
    exact b2 (by rw[al];omega)
   ·have:=a2 (by omega);omega
def lS:Nat->Ty->List Pt->Pt->List Pt
 |0,_,out,_=>out
 |n+1,a,out,p=>if 100<(out++[p]).length then out++[p]else(gC p.2 (kids a p.1) 0).foldl (lS n a) (out++[p])
theorem rF:∀(n:Nat) (a:Ty) (p:Pt),p.1.nodes<=n->Dp (fun o=>lS n a o p) (e9 n a p)
 |0,a,p,h=>by have:=cJ p.1;omega
 |
  n+1,a,p,h=>fun out=>by
  have hk:=pD (g:=lS n a) (ps:=e9 n a) (gC p.2 (kids a p.1) 0) fun q hq=>rF n a q (by
   obtain⟨k,h1,h2⟩:=jd hq
   have:=j9 h1
   rw[h2];omega)
  obtain⟨b1,b2,b3,b4⟩:=hk (out++[p])
  simp only[lS,e9,au,al,aG]at *
  split
  ·refine⟨fun hle=>by omega,fun _=>by simp;omega,by simp,by simp⟩
  ·refine⟨fun hle=>?_,fun hlt=>b2 (by omega),by omega,by omega⟩
   rw[b1 (by omega),aS];rfl
def lT:Nat->Ty->List Pt->Pt->List Pt
 |0,_,out,_=>out
 |n+1,a,out,p=>(gC p.2 (kids a p.1) 0).foldl (fun o q=>if o.length<=100 then lT n a o q else o) (out++[p])
theorem qP:∀(n:Nat) (a:Ty) (p:Pt),p.1.nodes<=n->Dp (fun o=>lT n a o p) (e9 n a p)
 |0,a,p,h=>by have:=cJ p.1;omega
 |
  n+1,a,p,h=>fun out=>by
  have hk:=pD (g:=fun o q=>if o.length<=100 then lT n a o q else o) (ps:=e9 n a) (gC p.2 (kids a p.1) 0) fun q hq=>fun o=>by
   obtain⟨k,h1,h2⟩:=jd hq
   have:=j9 h1
   have hw:=qP n a q (by rw[h2];omega) o
   have hpos:0<(e9 n a q).length:=by
    cases n with
    |zero=>have:=cJ k.2;omega
    |succ n=>simp[e9]
   simp only at hw |-
   split
   ·exact hw
   ·exact⟨fun hle=>by omega,fun _=>by omega,aq _,by omega⟩
  obtain⟨b1,b2,b3,b4⟩:=hk (out++[p])
  simp only[lT,e9,au,al,aG]at *
  refine⟨fun hle=>?_,fun hlt=>b2 (by omega),by omega,by omega⟩
  rw[b1 (by omega),aS];rfl
def parts(a:Ty)(v:Vl):List Pt:=e9 v.nodes a (v,[])
theorem wu(a:Ty)(v:Vl):((parts a v).length<=100->lS v.nodes a [] (v,[])=parts a v)/\(100<(parts a v).length->100<(lS v.nodes a [] (v,[])).length)/\(lS v.nodes a [] (v,[])).length<=v.nodes:=by
 obtain⟨h1,h2,_,h4⟩:=rF v.nodes a (v,[]) (aq _) []
 have:=jX v.nodes a (v,[])
 simp only[aG,aW,aQ]at h1 h2 h4 this
 exact⟨h1,h2,Nat.le_trans h4 this⟩
theorem wb(a:Ty)(v:Vl):((parts a v).length<=100->lT v.nodes a [] (v,[])=parts a v)/\(100<(parts a v).length->100<(lT v.nodes a [] (v,[])).length)/\(lT v.nodes a [] (v,[])).length<=v.nodes:=by
 obtain⟨h1,h2,_,h4⟩:=qP v.nodes a (v,[]) (aq _) []
 have:=jX v.nodes a (v,[])
 simp only[aG,aW,aQ]at h1 h2 h4 this
 exact⟨h1,h2,Nat.le_trans h4 this⟩
end Go.Proofs.Trees
namespace Go.Proofs.Trees
open Go Go.VL Go.RowKit
def jC(s:List UInt8):Option Ty:=match wj s with
 |some (.rc a)=>some a
 |_=>none
def Bj:Option Ty->AV
 |some a=>(Ty.rc a).av
 |none=>jZ
theorem OM(s:List UInt8):ap Tryz.prog 69 [.v (.string (mk s))] [] (bH (Bj (jC s))):=by
 refine Qr _ ?_
 unfold JF
 refine an (Ka s) ?_
 cases h:wj s with
 |none=>simp[↓zq,zs,ae,gZ,Bj,jC,h,bH]
 |some t=>cases t<;>simp[↓zq,zs,ae,gZ,Bj,jC,h,bH,Ty.av]
def lD(s v:List UInt8):Option Vl:=match jC s with
 |some _=>pV s v 100
 |none=>none
def zT(s:List UInt8):AV:=match jC s with
 |some a=>(Ty.rc a).av
 |none=>jZ
theorem tI{s:List UInt8}{a:Ty}(h:jC s=some a):wj s=some (.rc a):=by
 unfold jC at h
 split at h
 ·rename_i e;cases h;exact e
 ·cases h
theorem Kj(s v:List UInt8):ap Tryz.prog 43 [.v (.string (mk s)),.v (.string (mk v))] [] (bH (.cQ [zT s,iq (lD s v)])):=by
 refine QE _ _ ?_
 unfold MS
 refine an (OM s) ?_
 cases h:jC s with
 |none=>simp[↓zq,zs,ae,Bj,zT,lD,h,bH,iq]
 |
  some a =>
  simp only[↓zq,zs,ae,Bj,aF,fy]
  refine⟨fun h=>(by cases h),fun _=>?_⟩
  refine an (Ia s v 100) ?_
  rw[tI h]
  simp[↓zq,zs,ae,gZ,gl,zT,lD,h,bH,aF]
structure LV(s v:List UInt8)(w:Vl)(a:Ty)(x A B:E):Prop where
 l:jC s=some a
 ce:jr s=some (.list [x,A,B])
 v:sa v=some w
 ask:Ask (.list [x,A,B]) [] (.rc a)
 hx:x.at=[114,101,99]
 Rk:cS A.at=true
 body:Ask B [.mk A.at (.list [x,A,B]) []] a
 ez:ez 100 w (.list [x,A,B],[])=true
theorem tc{e:E}{env:List Fr}{a:Ty}(A:Ask e env (.rc a)):∃x y z,e=.list [x,y,z]/\x.at=[114,101,99]/\cS y.at=true/\Ask z (.mk y.at (.list [x,y,z]) env::env) a:=by
 rcases fR A.ty rfl A.cl with⟨_,h⟩|⟨_,h⟩|⟨s,_,h,_⟩|⟨x,y,z,t1,t2,_,_,h,_⟩|⟨x,y,z,t1,t2,_,_,h,_⟩|⟨x,y,z,t1,rfl,hx,h⟩
 ·cases h
 ·cases h
 ·cases h
 ·cases h
 ·cases h
 ·cases h
  obtain⟨t1',he1,h1,f1,hw1⟩:=jU A.wf A.ok hx A.ty A.cl
  cases he1
  obtain⟨_,_,ok3,_⟩:=A.ok
  obtain⟨_,hla,_,_⟩:=dh hx A.ty
  exact⟨x,y,z,rfl,hx,hla,ok3,hw1,h1,f1⟩
theorem gK{s v:List UInt8}{w:Vl}(h:lD s v=some w):∃a x A B,LV s v w a x A B:=by
 unfold lD at h
 split at h
 ·rename_i a hl
  obtain⟨e,t,m,h1,h2,h3,h4,h5,h6,h7⟩:=rS h
  rw[tI hl]at h3
  cases h3
  obtain⟨x,A,B,rfl,hx,hA,hB⟩:=tc h4
  have:m=100:=by omega
  subst this
  exact⟨a,x,A,B,hl,h1,h2,h4,hx,hA,hB,h7⟩
 ·cases h
theorem LV.jf{s v:List UInt8}{w:Vl}{a:Ty}{x A B:E}(h:LV s v w a x A B):w.jf 100:=(lf h.v).2.1
theorem LV.nodes{s v:List UInt8}{w:Vl}{a:Ty}{x A B:E}(h:LV s v w a x A B):w.nodes<=200:=(lf h.v).2.2
theorem qt{n:Nat}{v:Vl}{x A B:E}{env:List Fr}(hw:WF env)(hx:x.at=[114,101,99])(h:ez n v (.list [x,A,B],env)=true):∃w,v=.f w/\ez n w (B,.mk A.at (.list [x,A,B]) env::env)=true:=by
 have hd:=o0 (x:=x) (a:=A) (b:=B) hw
 cases v<;>simp[ez,hd,hx]at h |-
 exact h
theorem uI{n:Nat}{v:Vl}{x A B:E}{env:List Fr}{a:Ty}(hA:Ask B (.mk A.at (.list [x,A,B]) env::env) a)(hw:WF env)(hx:x.at=[114,101,99])(h:ez n v (.list [x,A,B],env)=true){k:Hl}(hk:k∈kids a v):ez n k.2 (.list [x,A,B],env)=true:=by
 obtain⟨w,rfl,hv⟩:=qt hw hx h
 exact gm n w.nodes w (aq _) B _ a hA hv 0 _ rfl k hk
theorem Nc(n:Nat)(v:Vl)(x A B:E)(a:Ty)(hA:Ask B [.mk A.at (.list [x,A,B]) []] a)(hx:x.at=[114,101,99])(hv:ez n v (.list [x,A,B],[])=true)(hl:v.nodes<90000):ap Tryz.prog 55 [(Ty.rc a).av,v.cx] [] (bH (.sl (gG (kids a v)))):=by
 obtain⟨w,rfl,hw⟩:=qt .nil hx hv
 refine Qv _ _ ((aF _).mpr trivial) ((aR _).mpr trivial) ?_
 unfold Iq
 refine aV (I1 a jZ [] .nil) (HR.ne a jZ []) ?_
 rintro r o ⟨⟨m,hm,rfl⟩,rfl⟩
 have he2:mj (.ptr [.pid m [(Ty.rc a).av,jZ],jZ]) [m]:=.cons hm .nil
 have hfr:LK.ptr.has (.pid m [(Ty.rc a).av,jZ]):=.inr (.inr ⟨_,_,rfl⟩)
 simp only[Ty.av]at he2 hfr
 simp only[↓zq,zs,ae,cc,aF,he2.has,hfr,Vl.cx,aR,Ty.av]
 repeat refine⟨by omega,?_⟩
 simp only[Vl.nodes]at hl
 have i2:=DZ n w.nodes w (aq _) B _ a hA hw (by simp;omega) _ _ he2 (by simp) (.bd 0) [] _ (by have:=zI.bd (k:=0) (ids:=[m]) (by simp) [(Ty.rc a).av,jZ] [];simpa only[bg,Ty.av]using this)
 unfold GY at i2
 refine an i2 ?_
 simp[↓zq,zs,ae,bH,kids]
def eT(l:List Nat):List (List AV):=l.map fun(k:Nat)=>[.v (.int .i64 (k:Int))]
theorem nr(l:List Nat):(eT l).length=l.length:=by simp[eT]
theorem rA(l:List Nat)(k:Nat):eT l++[[.v (.int .i64 (k:Int))]]=eT (l++[k]):=by simp[eT]
theorem pP(l:List Nat):bV 1 (eT l):=fun c hc=>by
 obtain⟨k,_,rfl⟩:=bZ.1 hc;rfl
def nH:List Nat->AV
 |[]=>.v (.slice none 0 0)
 |k::l=>.sl (eT (k::l))
theorem ku(l:List Nat):LK.has .sl (nH l)=True:=by cases l<;>simp[nH,be,ci]
theorem yc(l:List Nat):(nH l).aO=eT l:=by cases l<;>rfl
theorem yR(l:List Nat)(k:Nat):nH (l++[k])=.sl (eT (l++[k])):=by cases l<;>rfl
def vW(l:List Pt):List (List AV):=l.map fun p=>[p.1.cx,nH p.2]
theorem mK(l:List Pt):(vW l).length=l.length:=by simp[vW]
theorem C4(out:List Pt)(p:Pt):vW out++[[p.1.cx,nH p.2]]=vW (out++[p]):=by simp[vW]
theorem oG(x:AV):bV 1 [[x]]:=fun c hc=>by simp at hc;rw[hc];rfl
def DM(a:Ty)(n:Nat)(q:Pt):Prop:=∀out:List Pt,out.length+q.1.nodes<=600->ap Tryz.prog 65 [.agg [q.1.cx,nH q.2],.ref 0 0,.ref 2 0,.fM 65 [some 0,some 2,none]] [.cells [.vec 1],.vec 2 (vW out),.cells [(Ty.rc a).av]] (cN .any [.cells [.vec 1],.vec 2 (vW (lS n a out q)),.cells [(Ty.rc a).av]])
theorem IN(a:Ty)(n:Nat)(pl:List Nat)(hpl:pl.length<=1000)(v:Vl)(l:List Hl)(hl:l.length<=1000)(ih:∀q,q∈gC pl l 0->DM a n q)(hn:∀q,q∈gC pl l 0->q.1.nodes<=n)(hs:gF l<=200):∀(k i:Nat) (out:List Pt),i+k=l.length->out.length+gF (l.drop i)<=600->(∀q,q∈gC pl (l.drop i) i->q∈gC pl l 0) ->
 HI [.sl (gG l),.v (.int .i64 (l.length:Int)),.v (.int .i64 (i:Int))] [.cells [v.cx,nH pl],.cells [.any],.vec 2 (vW out),.cells [(Ty.rc a).av]] (ga 1 [] [.cells [.any],.vec 2 (vW ((gC pl (l.drop i) i).foldl (lS n a) out)),.cells [(Ty.rc a).av]])
 |
  0,i,out,hi,ho,hm=>by
  refine LL _ _ _ _ _ _ _ ?_
  have:i=l.length:=by omega
  subst this
  simp only[F8,↓zq,zs,ae,dJ,aF,aR,ku]
  exact⟨fun h=>by omega,fun _=>by simp[ga,gC]⟩
 |
  k+1,i,out,hi,ho,hm=>by
  have hlt:i<l.length:=by omega
  have hd:=sY pl l hlt
  rw[hd]at hm |-
  have hq:=hm _ ai
  have hsum:gF (l.drop i)=(l[i]).2.nodes+gF (l.drop (i+1)):=by rw[aL hlt];rfl
  have hw:=(rF n a ((l[i]).2,pl++[i]) (hn _ hq) out).2.2.2
  have hp:=jX n a ((l[i]).2,pl++[i])
  simp only at hw hp
  refine LL _ _ _ _ _ _ _ ?_
  simp only[F8,↓zq,zs,ae,zt,dJ,kU hlt,aR,cc,aF,ku,yc,aQ,nr,rA]
  refine⟨fun _=>?_,fun h=>by omega⟩
  repeat refine⟨by omega,?_⟩
  refine⟨⟨pP _,by omega⟩,⟨oG _,by omega⟩,?_⟩
  have hcall:=ih _ hq out (by show out.length+(l[i]).2.nodes<=600;omega)
  rw[yR]at hcall
  refine a7 hcall ?_
  simp only[↓zq,zs,ae,aK,aF]
  rw[bh i (by omega),List.foldl_cons]
  exact IN a n pl hpl v l hl ih hn hs k (i+1) _ (by omega) (by omega) (fun q hq=>hm q (ak _ hq))
theorem sG(l:List Hl):gF (l.drop 0)=gF l:=by rw[aX]
theorem Mn(c:Nat)(x A B:E)(a:Ty)(hA:Ask B [.mk A.at (.list [x,A,B]) []] a)(hx:x.at=[114,101,99]):∀(n:Nat) (q:Pt),q.1.nodes<=n->n<=200->q.2.length+n<=200->ez c q.1 (.list [x,A,B],[])=true->DM a n q
 |0,q,h,_,_,_=>by have:=cJ q.1;omega
 |
  n+1,q,h,hn,hpl,hv=>by
  intro out ho
  have hk:=pn a q.1
  have hkl:=oO (kids a q.1)
  refine P6 _ _ _ _ ((aR _).mpr trivial) ((ku _).mpr trivial) ((aF _).mpr trivial) ?_
  simp only[I6,↓zq,zs,ae,mK,C4]
  have ol:(out++[q]).length=out.length+1:=by simp
  refine⟨⟨zh _ _,by omega⟩,fun hgt=>?_,fun hle=>?_⟩
  ·have hg:100<(out++[q]).length:=by omega
   rw[lS,if_pos hg];simp[cN]
  ·have hg:¬100<(out++[q]).length:=by omega
   refine an (Nc c q.1 x A B a hA hx hv (by omega)) ?_
   simp only[↓zq,zs,ae,dJ]
   have hl:=IN a n q.2 (by omega) q.1 (kids a q.1) (by omega) (fun r hr=>by
    obtain⟨k,h1,h2⟩:=jd hr
    have:=j9 h1
    have hlen:r.2.length=q.2.length+1:=by
     have:∀(l:List Hl) (i:Nat),r∈gC q.2 l i->r.2.length=q.2.length+1:=by
      intro l
      induction l with
      |nil=>intro i hh;cases hh
      |
       cons k l ih =>
       intro i hh
       rcases aH.1 hh with rfl|hh
       ·simp
       ·exact ih _ hh
     exact this _ _ hr
    exact Mn c x A B a hA hx n r (by rw[h2];omega) (by omega) (by omega) (by rw[h2];exact uI hA .nil hx hv h1)) (fun r hr=>by
    obtain⟨k,h1,h2⟩:=jd hr
    have:=j9 h1
    rw[h2];omega) (by omega) (kids a q.1).length 0 (out++[q]) (by omega) (by rw[sG,ol];omega) (fun r hr=>hr)
   rw[aX]at hl
   refine cb hl ?_
   rw[lS,if_neg hg];simp[↓zq,zs,ae,ae,aF,cN]
end Go.Proofs.Trees
namespace Go.Proofs.Trees
open Go Go.VL Go.RowKit
def pQ(a:AV)(l:List Nat):Prop:=LK.sl.has a/\a.aO=eT l
theorem pQ.of(l:List Nat):pQ (.sl (eT l)) l:=⟨(ci _).mpr trivial,rfl⟩
theorem pQ.nil:pQ (.v (.slice none 0 0)) []:=⟨(be).mpr trivial,rfl⟩
theorem pQ.len{a:AV}{l:List Nat}(h:pQ a l):a.aO.length=l.length:=by rw[h.2,nr]
theorem pQ.idx{a:AV}{l:List Nat}(h:pQ a l){i:Nat}(hi:i<l.length):a.aO.getD i []=[.v (.int .i64 (l.getD i 0:Nat))]:=by
 rw[h.2];simp[eT,aa,hi]
end Go.Proofs.Trees
namespace Go.Proofs.Trees
open Go Go.VL Go.RowKit
def qG(l:List Int):List (List AV):=l.map fun k=>[.v (.int .i64 k)]
def mC(a:AV)(l:List Int):Prop:=LK.sl.has a/\a.aO=qG l
theorem yZ(l:List Int):(qG l).length=l.length:=by simp[qG]
theorem mC.of(l:List Int):mC (.sl (qG l)) l:=⟨(ci _).mpr trivial,rfl⟩
theorem mC.nil:mC (.v (.slice none 0 0)) []:=⟨(be).mpr trivial,rfl⟩
theorem mC.len{a:AV}{l:List Int}(h:mC a l):a.aO.length=l.length:=by rw[h.2,yZ]
theorem mC.idx{a:AV}{l:List Int}(h:mC a l){i:Nat}(hi:i<l.length):a.aO.getD i []=[.v (.int .i64 (l.getD i 0))]:=by
 rw[h.2];simp[qG,aa,hi]
theorem vN(l:List Nat):eT l=qG (l.map Int.ofNat):=by simp[eT,qG,Function.comp_def]
end Go.Proofs.Trees
namespace Go.Proofs.Trees
open Go Go.VL Go.RowKit
def dk(s v:List UInt8):Option (List Pt):=match jC s,lD s v with
 |some a,some w=>if(parts a w).length<=100 then some (parts a w)else none
 |_,_=>none
theorem qK:∀(n:Nat) (a:Ty) (p q:Pt),q∈e9 n a p->q.1.nodes<=p.1.nodes/\(∀m,p.1.jf m->q.1.jf m)
 |0,a,p,q,h=>by cases h
 |
  n+1,a,p,q,h=>by
  rcases aH.1 h with rfl|h
  ·exact⟨aq _,fun m h=>h⟩
  ·obtain⟨r,h1,h2⟩:=dq.1 h
   obtain⟨k,h3,h4⟩:=jd h1
   obtain⟨q1,q2⟩:=qK n a r q h2
   have:=j9 h3
   rw[h4]at q1 q2
   exact⟨by omega,fun m hm=>q2 m (my hm h3).2⟩
theorem jE{s v:List UInt8}{l:List Pt}(h:dk s v=some l):l.length<=100/\∀q,q∈l->q.1.nodes<=200/\q.1.jf 100/\q.1.dT.length<=40000:=by
 unfold dk at h
 split at h
 ·rename_i a w ha hw
  obtain⟨a',x,A,B,L⟩:=gK hw
  split at h
  ·rename_i hl
   cases h
   refine⟨hl,fun q hq=>?_⟩
   obtain⟨h1,h2⟩:=qK _ _ _ _ hq
   have hb:=h2 100 L.jf
   have hn:=L.nodes
   have:=jw q.1 hb
   simp only at h1
   exact⟨by omega,hb,by omega⟩
  ·cases h
 ·cases h
theorem pM:∀(n:Nat) (a:Ty) (p q:Pt),q∈e9 n a p->q.2.length<=p.2.length+n
 |0,a,p,q,h=>by cases h
 |
  n+1,a,p,q,h=>by
  rcases aH.1 h with rfl|h
  ·omega
  ·obtain⟨r,h1,h2⟩:=dq.1 h
   have:=pM n a r q h2
   have hlen:∀(l:List Hl) (i:Nat),r∈gC p.2 l i->r.2.length=p.2.length+1:=by
    intro l
    induction l with
    |nil=>intro i hh;cases hh
    |
     cons k l ih =>
     intro i hh
     rcases aH.1 hh with rfl|hh
     ·simp
     ·exact ih _ hh
   have:=hlen _ _ h1
   omega
theorem tE{s v:List UInt8}{l:List Pt}(h:dk s v=some l):∀q,q∈l->q.2.length<=200:=by
 unfold dk at h
 split at h
 ·rename_i a w ha hw
  obtain⟨a',x,A,B,L⟩:=gK hw
  split at h
  ·cases h
   intro q hq
   have:=pM _ _ _ _ hq
   have hn:=L.nodes
   simp at this;omega
  ·cases h
 ·cases h
def DT(f:List Pt->List (List AV))(s v:List UInt8):AV->List Ob->Prop:=fun r o=>o=[]/\∃x,LK.sl.has x/\r=.cQ [x,.v (.bool (dk s v).isSome)]/\∀l,dk s v=some l->x=.sl (f l)
theorem DT.ne(f:List Pt->List (List AV))(s v:List UInt8):∃r o,DT f s v r o:=by
 cases h:dk s v with
 |none=>exact⟨_,_,rfl,.sl [],(ci _).mpr trivial,rfl,fun l hl=>by rw[h]at hl;cases hl⟩
 |some l=>exact⟨_,_,rfl,.sl (f l),(ci _).mpr trivial,rfl,fun l' hl=>by rw[h]at hl;cases hl;rfl⟩
theorem KE(s v:List UInt8):ap Tryz.prog 40 [.v (.string (mk s)),.v (.string (mk v))] [] (DT vW s v):=by
 refine Pz _ _ ?_
 unfold KD
 refine an (Kj s v) ?_
 have hT:LK.has .ptr (zT s)=True:=by unfold zT;cases jC s<;>simp[aF,gp]
 cases h:lD s v with
 |
  none =>
  have hn:dk s v=none:=by unfold dk;rw[h];cases jC s<;>rfl
  simp only[↓zq,zs,ae,iq,hT]
  exact⟨fun _=>⟨rfl,.v (.slice none 0 0),(be).mpr trivial,by simp[hn],fun l hl=>by rw[hn]at hl;cases hl⟩,fun h=>(by cases h)⟩
 |
  some w =>
  obtain⟨a,x,A,B,L⟩:=gK h
  have hnd:=L.nodes
  have hTa:zT s=(Ty.rc a).av:=by unfold zT;rw[L.l]
  obtain⟨p1,p2,p3⟩:=wu a w
  have htell:=Mn 100 x A B a L.body L.hx w.nodes (w,[]) (aq _) hnd (by simp;omega) L.ez [] (by simp;omega)
  simp only[↓zq,zs,ae,iq,hTa,aF,aR,eQ]
  refine⟨fun h=>(by cases h),fun _=>?_⟩
  refine a7 htell ?_
  simp only[↓zq,zs,ae,aK,aF,mK]
  refine⟨rfl,.sl (vW (lS w.nodes a [] (w,[]))),(ci _).mpr trivial,?_,fun l hl=>?_⟩
  ·congr 4
   have:dk s v=if(parts a w).length<=100 then some (parts a w)else none:=by unfold dk;rw[L.l,h]
   rw[this]
   by_cases hc:(parts a w).length<=100
   ·rw[if_pos hc,p1 hc];simp;omega
   ·rw[if_neg hc];have:=p2 (by omega);simp;omega
  ·unfold dk at hl
   rw[L.l,h]at hl
   simp only at hl
   split at hl
   ·rename_i hc
    cases hl
    rw[p1 hc]
   ·cases hl
theorem wZ{l:List Pt}{i:Nat}(hi:i<l.length):(vW l).getD i []=[(l[i]).1.cx,nH (l[i]).2]:=by simp[vW,aa,hi]
def kP(l:List Pt):List (List UInt8):=l.map fun p=>p.1.dT
def CU(f:List Pt->List (List AV))(e:AV):Option (List Pt)->AV
 |some l=>.cQ [.sl (f l),.v (.bool true)]
 |none=>.cQ [e,.v (.bool false)]
theorem Ik(l:List Pt)(hl:l.length<=1000)(ht:∀q,q∈l->q.1.dT.length<=40000):∀(k i:Nat) (out:List (List UInt8)),i+k=l.length->out.length+k<=1000 ->
 E2 [.sl (vW l),.v (.int .i64 (l.length:Int)),.v (.int .i64 (i:Int))] [.vec 1 (bw out)] (ga 1 [] [.vec 1 (bw (out++kP (l.drop i)))])
 |
  0,i,out,hi,ho=>by
  refine Ll _ _ _ _ ?_
  have:i=l.length:=by omega
  subst this
  simp only[ET,↓zq,zs,ae]
  exact⟨fun h=>by omega,fun _=>by simp[ga,kP]⟩
 |
  k+1,i,out,hi,ho=>by
  have hlt:i<l.length:=by omega
  have hm:l[i]∈l:=bE _
  refine Ll _ _ _ _ ?_
  have hlen:(bw out).length=out.length:=by simp[bw]
  simp only[ET,↓zq,zs,ae,zt,mK,wZ hlt,aR,ku,cc,hlen,BS]
  refine⟨fun _=>?_,fun h=>by omega⟩
  repeat refine⟨by omega,?_⟩
  refine an (DY (l[i]).1 (by have:=ht _ hm;omega)) ?_
  simp only[↓zq,zs,ae,BS]
  refine⟨⟨oG _,by omega⟩,?_⟩
  have:=Ik l hl ht k (i+1) (out++[(l[i]).1.dT]) (by omega) (by simp;omega)
  rw[bh i (by omega),aL hlt]
  rw[aS]at this
  exact this
def zL(s v:List UInt8):List (List UInt8):=match dk s v with
 |some l=>kP l
 |none=>[]
theorem Dl(s v:List UInt8):(zL s v).length<=1000:=by
 unfold zL
 cases h:dk s v with
 |none=>simp
 |some l=>have:=(jE h).1;simp[kP];omega
theorem QK(s v:List UInt8):ap Tryz.prog 15 [.v (.string (mk s)),.v (.string (mk v))] [] (cN (.cQ [.vec 0,.v (.bool (dk s v).isSome)]) [.vec 1 (bw (zL s v))]):=by
 refine QN _ _ ?_
 unfold Ip
 refine aV (KE s v) (DT.ne _ s v) ?_
 rintro r o ⟨rfl,x,hx,rfl,hl⟩
 cases h:dk s v with
 |none=>simp[↓zq,zs,ae,hx,h,cN,zL,bw]
 |
  some l =>
  rw[hl l h]
  obtain⟨h1,h2⟩:=jE h
  simp only[↓zq,zs,ae,Option.isSome_some,mK]
  refine⟨fun h=>(by cases h),fun _=>?_⟩
  have:=Ik l (by omega) (fun q hq=>(h2 q hq).2.2) l.length 0 [] (by omega) (by simp;omega)
  rw[aX,aQ]at this
  refine cb this ?_
  simp[↓zq,zs,ae,cN,zL,h,Ob.es]
def fk(f:List Nat->AV)(l:List Pt):List (List AV):=l.map fun p=>[f p.2]
theorem jt(f:List Nat->AV)(l:List Pt):(fk f l).length=l.length:=by simp[fk]
theorem tt(f:List Nat->AV)(out:List Pt)(p:Pt):fk f out++[[f p.2]]=fk f (out++[p]):=by simp[fk]
theorem JB(l:List Pt)(hl:l.length<=1000):∀(k i:Nat) (out:List Pt),i+k=l.length->out.length+k<=1000 ->
 GP [.sl (vW l),.v (.int .i64 (l.length:Int)),.v (.int .i64 (i:Int))] [.vec 1 (fk nH out)] (ga 1 [] [.vec 1 (fk nH (out++l.drop i))])
 |
  0,i,out,hi,ho=>by
  refine Lr _ _ _ _ ?_
  have:i=l.length:=by omega
  subst this
  simp only[Hm,↓zq,zs,ae]
  exact⟨fun h=>by omega,fun _=>by simp[ga]⟩
 |
  k+1,i,out,hi,ho=>by
  have hlt:i<l.length:=by omega
  refine Lr _ _ _ _ ?_
  simp only[Hm,↓zq,zs,ae,zt,mK,wZ hlt,aR,ku,cc,jt,tt]
  refine⟨fun _=>?_,fun h=>by omega⟩
  repeat refine⟨by omega,?_⟩
  refine⟨⟨oG _,by omega⟩,?_⟩
  have:=JB l hl k (i+1) (out++[l[i]]) (by omega) (by simp;omega)
  rw[bh i (by omega),aL hlt]
  rw[aS]at this
  exact this
theorem NY(s v:List UInt8):ap Tryz.prog 18 [.v (.string (mk s)),.v (.string (mk v))] [] (bH (CU (fk nH) (.v (.slice none 0 0)) (dk s v))):=by
 refine O9 _ _ ?_
 unfold H5
 refine aV (KE s v) (DT.ne _ s v) ?_
 rintro r o ⟨rfl,x,hx,rfl,hl⟩
 cases h:dk s v with
 |none=>simp[↓zq,zs,ae,hx,CU,h,bH]
 |
  some l =>
  rw[hl l h]
  obtain⟨h1,h2⟩:=jE h
  simp only[↓zq,zs,ae,Option.isSome_some,mK]
  refine⟨fun h=>(by cases h),fun _=>?_⟩
  have:=JB l (by omega) l.length 0 [] (by omega) (by simp;omega)
  rw[aX,aQ]at this
  refine cb this ?_
  simp[↓zq,zs,ae,CU,bH]
end Go.Proofs.Trees
namespace Go.Proofs.Trees
open Go Go.VL Go.RowKit
abbrev Nm:=List UInt8
def dN(u:Ty):Ty->Nat->Ty
 | .bO k,i=>if k=i then u else .bO k
 | .plus a b,i=>.plus (dN u a i) (dN u b i)
 | .times a b,i=>.times (dN u a i) (dN u b i)
 | .rc a,i=>.rc (dN u a (i+1))
 |t,_=>t
def sub(x:Nm)(u:Ty):Ty->Ty
 | .name s=>if s=x then u else .name s
 | .plus a b=>.plus (sub x u a) (sub x u b)
 | .times a b=>.times (sub x u a) (sub x u b)
 | .rc a=>.rc (sub x u a)
 |t=>t
def bm(x:Nm):Ty->Bool
 | .name s=>decide (s=x)
 | .plus a b=>bm x a||bm x b
 | .times a b=>bm x a||bm x b
 | .rc a=>bm x a
 |_=>false
def jz(f:Nm->Nm):Ty->Ty
 | .name s=>.name (f s)
 | .plus a b=>.plus (jz f a) (jz f b)
 | .times a b=>.times (jz f a) (jz f b)
 | .rc a=>.rc (jz f a)
 |t=>t
def LM(f:Nm->Nm):Prop:=∀x y,f x=f y->x=y
theorem lB(f:Nm->Nm)(x:Nm):∀(t:Ty) (i:Nat),jz f (dN (.name x) t i)=dN (.name (f x)) (jz f t) i
 | .bO k,i=>by simp only[dN,jz];split<;>rfl
 | .plus a b,i=>by simp only[dN,jz,lB f x a i,lB f x b i]
 | .times a b,i=>by simp only[dN,jz,lB f x a i,lB f x b i]
 | .rc a,i=>by simp only[dN,jz,lB f x a (i+1)]
 | .zero,i=>rfl
 | .one,i=>rfl
 | .name s,i=>rfl
theorem lm{f:Nm->Nm}(hf:LM f)(x:Nm)(u:Ty):∀t:Ty,jz f (sub x u t)=sub (f x) (jz f u) (jz f t)
 |
  .name s=>by
  simp only[sub,jz]
  by_cases h:s=x
  ·subst h;simp
  ·rw[if_neg h,if_neg fun e=>h (hf _ _ e)];rfl
 | .plus a b=>by simp only[sub,jz,lm hf x u a,lm hf x u b]
 | .times a b=>by simp only[sub,jz,lm hf x u a,lm hf x u b]
 | .rc a=>by simp only[sub,jz,lm hf x u a]
 | .zero=>rfl
 | .one=>rfl
 | .bO k=>rfl
theorem mL{f:Nm->Nm}(hf:LM f)(x:Nm):∀t:Ty,bm (f x) (jz f t)=bm x t
 | .name s=>by simp only[bm,jz];rw[cq];simp only[decide_eq_true_eq];exact⟨fun e=>hf _ _ e,fun e=>by rw[e]⟩
 | .plus a b=>by simp only[bm,jz,mL hf x a,mL hf x b]
 | .times a b=>by simp only[bm,jz,mL hf x a,mL hf x b]
 | .rc a=>by simp only[bm,jz,mL hf x a]
 | .zero=>rfl
 | .one=>rfl
 | .bO k=>rfl
theorem gW(f:Nm->Nm):∀t:Ty,(jz f t).aC=t.aC
 | .plus a b=>by simp only[Ty.aC,jz,gW f a,gW f b]
 | .times a b=>by simp only[Ty.aC,jz,gW f a,gW f b]
 | .rc a=>by simp only[Ty.aC,jz,gW f a]
 | .name s=>rfl
 | .zero=>rfl
 | .one=>rfl
 | .bO k=>rfl
theorem po{f:Nm->Nm}:∀t:Ty,(∀x,bm x t=true->f x=x)->jz f t=t
 | .name s,h=>by simp only[jz];rw[h s (by simp[bm])]
 | .plus a b,h=>by simp only[jz];rw[po a fun x hx=>h x (by simp[bm,hx]),po b fun x hx=>h x (by simp[bm,hx])]
 | .times a b,h=>by simp only[jz];rw[po a fun x hx=>h x (by simp[bm,hx]),po b fun x hx=>h x (by simp[bm,hx])]
 | .rc a,h=>by simp only[jz];rw[po a fun x hx=>h x hx]
 | .zero,_=>rfl
 | .one,_=>rfl
 | .bO k,_=>rfl
theorem fW(x:Nm):∀(t:Ty) (i:Nat),(dN (.name x) t i).aC=t.aC
 | .bO k,i=>by simp only[dN];split<;>rfl
 | .plus a b,i=>by simp only[dN,Ty.aC,fW x a i,fW x b i]
 | .times a b,i=>by simp only[dN,Ty.aC,fW x a i,fW x b i]
 | .rc a,i=>by simp only[dN,Ty.aC,fW x a (i+1)]
 | .zero,i=>rfl
 | .one,i=>rfl
 | .name s,i=>rfl
theorem fV(t:Ty):1<=t.aC:=by cases t<;>simp only[Ty.aC]<;>omega
theorem gT(x:Nm)(u:Ty):∀t:Ty,t.aC<=(sub x u t).aC
 | .name s=>by simp only[sub];split<;>simp only[Ty.aC];exact fV u;omega
 | .plus a b=>by have:=gT x u a;have:=gT x u b;simp only[sub,Ty.aC];omega
 | .times a b=>by have:=gT x u a;have:=gT x u b;simp only[sub,Ty.aC];omega
 | .rc a=>by have:=gT x u a;simp only[sub,Ty.aC];omega
 | .zero=>aq _
 | .one=>aq _
 | .bO k=>aq _
theorem gr{x y:Nm}:∀(t:Ty) (i:Nat),bm y (dN (.name x) t i)=true->y=x\/bm y t=true
 |
  .bO k,i,h=>by
  simp only[dN]at h
  split at h
  ·left;simp only[bm,decide_eq_true_eq]at h;exact h.symm
  ·cases h
 |
  .plus a b,i,h=>by
  simp only[dN,bm,bn]at h |-
  rcases h with h|h
  ·rcases gr a i h with h|h<;>simp[h]
  ·rcases gr b i h with h|h<;>simp[h]
 |
  .times a b,i,h=>by
  simp only[dN,bm,bn]at h |-
  rcases h with h|h
  ·rcases gr a i h with h|h<;>simp[h]
  ·rcases gr b i h with h|h<;>simp[h]
 | .rc a,i,h=>gr a (i+1) h
 | .zero,i,h=>by cases h
 | .one,i,h=>by cases h
 | .name s,i,h=>.inr h
theorem iN{x y:Nm}{u:Ty}:∀t:Ty,bm y (sub x u t)=true->bm y u=true\/(y≠x/\bm y t=true)
 |
  .name s,h=>by
  simp only[sub]at h
  split at h
  ·exact .inl h
  ·rename_i hs
   simp only[bm,decide_eq_true_eq]at h
   subst h
   exact .inr ⟨hs,by simp[bm]⟩
 |
  .plus a b,h=>by
  simp only[sub,bm,bn]at h |-
  rcases h with h|h
  ·rcases iN a h with h|h<;>simp[h]
  ·rcases iN b h with h|h<;>simp[h]
 |
  .times a b,h=>by
  simp only[sub,bm,bn]at h |-
  rcases h with h|h
  ·rcases iN a h with h|h<;>simp[h]
  ·rcases iN b h with h|h<;>simp[h]
 |
  .rc a,h=>by
  simp only[sub,bm]at h |-
  exact iN a h
 | .zero,h=>by cases h
 | .one,h=>by cases h
 | .bO k,h=>by cases h
def swp(x y:Nm):Nm->Nm:=fun s=>if s=x then y else if s=y then x else s
theorem xR(x y:Nm):LM (swp x y):=by
 intro a b h
 unfold swp at h
 by_cases h1:a=x<;>by_cases h2:a=y<;>by_cases h3:b=x<;>by_cases h4:b=y<;>simp_all
theorem xe(x y:Nm):swp x y x=y:=by simp[swp]
theorem AS{x y s:Nm}(h:s≠x)(h':s≠y):swp x y s=s:=by simp[swp,h,h']
theorem tD{x y:Nm}{t:Ty}(h:bm x t=false)(h':bm y t=false):jz (swp x y) t=t :=
 po t fun z hz=>AS (fun e=>by subst e;rw[h]at hz;cases hz) (fun e=>by subst e;rw[h']at hz;cases hz)
def sA(a:Ty)(x:Nm)(c d:Ty):Ty:=.rc (.plus (sub x (.rc a) c) (.times (sub x (.rc a) d) (.bO 0)))
inductive Dv:Ty->Nm->Ty->Prop
 |zero (s):Dv .zero s .zero
 |one (s):Dv .one s .zero
 |bO (k s):Dv (.bO k) s .zero
 |hit (s):Dv (.name s) s .one
 |qQ {n s} (h:n≠s):Dv (.name n) s .zero
 |plus {a b s a' b'} (h1:Dv a s a') (h2:Dv b s b') (hl:(Ty.plus a' b').aC<=400):Dv (.plus a b) s (.plus a' b')
 |times {a b s a' b'} (h1:Dv a s a') (h2:Dv b s b') (hl:(Ty.plus (.times a' b) (.times a b')).aC<=400):Dv (.times a b) s (.plus (.times a' b) (.times a b'))
 |rc {a s c d} (x:Nm) (hx:bm x a=false) (hs:x≠s) (h1:Dv (dN (.name x) a 0) s c) (h2:Dv (dN (.name x) a 0) x d) (hl:(sA a x c d).aC<=400):Dv (.rc a) s (sA a x c d)
theorem xO{f:Nm->Nm}(hf:LM f)(a:Ty)(x:Nm)(c d:Ty):jz f (sA a x c d)=sA (jz f a) (f x) (jz f c) (jz f d):=by
 simp only[sA,jz,lm hf]
theorem Dv.jz{f:Nm->Nm}(hf:LM f){t d:Ty}{s:Nm}(h:Dv t s d):Dv (jz f t) (f s) (jz f d):=by
 induction h with
 |zero s=>exact .zero _
 |one s=>exact .one _
 |bO k s=>exact .bO _ _
 |hit s=>exact .hit _
 |qQ h=>exact .qQ fun e=>h (hf _ _ e)
 |plus h1 h2 hl i1 i2=>exact .plus i1 i2 (by rw[<-gW f]at hl;exact hl)
 |times h1 h2 hl i1 i2=>exact .times i1 i2 (by rw[<-gW f]at hl;exact hl)
 |
  rc x hx hs h1 h2 hl i1 i2 =>
  rw[xO hf]
  rw[lB]at i1 i2
  exact .rc (f x) (by rw[mL hf];exact hx) (fun e=>hs (hf _ _ e)) i1 i2 (by rw[<-xO hf,gW];exact hl)
theorem Dv.names{t d:Ty}{s:Nm}(h:Dv t s d):∀y,bm y d=true->bm y t=true:=by
 induction h with
 |zero s=>intro y hy;cases hy
 |one s=>intro y hy;cases hy
 |bO k s=>intro y hy;cases hy
 |hit s=>intro y hy;cases hy
 |qQ h=>intro y hy;cases hy
 |
  plus h1 h2 hl i1 i2 =>
  intro y hy
  simp only[bm,bn]at hy |-
  rcases hy with hy|hy
  ·exact .inl (i1 y hy)
  ·exact .inr (i2 y hy)
 |
  times h1 h2 hl i1 i2 =>
  intro y hy
  simp only[bm,bn]at hy |-
  rcases hy with(hy|hy)|(hy|hy)
  ·exact .inl (i1 y hy)
  ·exact .inr hy
  ·exact .inl hy
  ·exact .inr (i2 y hy)
 |
  rc x hx hs h1 h2 hl i1 i2 =>
  intro y hy
  simp only[sA,bm,bn,Bool.or_false]at hy |-
  have key:∀{a c:Ty},(∀y,bm y c=true->bm y (dN (.name x) a 0)=true)->bm y (sub x (.rc a) c)=true->bm y a=true:=fun i h=>by
   rcases iN _ h with h|⟨h,h'⟩
   ·exact h
   ·rcases gr _ _ (i y h')with e|e
    ·exact absurd e h
    ·exact e
  rcases hy with hy|hy
  ·exact key i1 hy
  ·exact key i2 hy
theorem Dv.fresh{t d:Ty}{s y:Nm}(h:Dv t s d)(hy:bm y t=false):bm y d=false:=by
 cases e:bm y d with
 |false=>rfl
 |true=>rw[h.names y e]at hy;cases hy
theorem Dv.move{a c:Ty}{x y s:Nm}(hx:bm x a=false)(hy:bm y a=false)(h:Dv (dN (.name x) a 0) s c):Dv (dN (.name y) a 0) (swp x y s) (Go.Proofs.Trees.jz (swp x y) c):=by
 have:=h.jz (xR x y)
 rw[lB,xe,tD hx hy]at this
 exact this
theorem nW{a c:Ty}{x y s:Nm}(hx:bm x a=false)(hy:bm y a=false)(h:Dv (dN (.name x) a 0) s c):sub y (.rc a) (jz (swp x y) c)=sub x (.rc a) c:=by
 have e:=lm (xR x y) x (.rc a) c
 rw[xe,tD (t:=.rc a) hx hy]at e
 rw[<-e]
 have key:∀z,(z=x\/z=y)->bm z (sub x (.rc a) c)=false:=fun z hz=>by
  cases q:bm z (sub x (.rc a) c)with
  |false=>rfl
  |
   true =>
   exfalso
   have hz':bm z a=false:=by rcases hz with rfl|rfl<;>assumption
   rcases iN _ q with h1|⟨h1,h2⟩
   ·rw[show bm z (.rc a)=bm z a from rfl,hz']at h1;cases h1
   ·rcases gr _ _ (h.names z h2)with e|e
    ·exact h1 e
    ·rw[hz']at e;cases e
 exact tD (key x (.inl rfl)) (key y (.inr rfl))
theorem Dv.wz:∀(n:Nat) (t:Ty),t.aC<=n->∀{s:Nm} {d d':Ty},Dv t s d->Dv t s d'->d=d'
 |0,t,h,_,_,_,_,_=>by have:=fV t;omega
 |
  n+1,t,hn,s,d,d',h,h'=>by
  cases h with
  |zero=>cases h';rfl
  |one=>cases h';rfl
  |bO=>cases h';rfl
  |
   hit =>
   cases h' with
   |hit=>rfl
   |qQ h=>exact absurd rfl h
  |
   qQ h =>
   cases h' with
   |hit=>exact absurd rfl h
   |qQ _=>rfl
  |
   plus h1 h2 =>
   simp only[Ty.aC]at hn
   cases h' with
   |plus g1 g2=>rw[Dv.wz n _ (by omega) h1 g1,Dv.wz n _ (by omega) h2 g2]
  |
   times h1 h2 =>
   simp only[Ty.aC]at hn
   cases h' with
   |times g1 g2=>rw[Dv.wz n _ (by omega) h1 g1,Dv.wz n _ (by omega) h2 g2]
  |
   rc x hx hs h1 h2 =>
   simp only[Ty.aC]at hn
   cases h' with
   |
    rc y hy hs' g1 g2 =>
    rename_i a _ _ _ _ _ _
    have m1:=h1.move hx hy
    have m2:=h2.move hx hy
    rw[AS (Ne.symm hs) (Ne.symm hs')]at m1
    rw[xe]at m2
    have e1:=Dv.wz n _ (by rw[fW];omega) m1 g1
    have e2:=Dv.wz n _ (by rw[fW];omega) m2 g2
    rw[sA,sA,<-e1,<-e2,nW hx hy h1,nW hx hy h2]
theorem Dv.small{t d:Ty}{s:Nm}(h:Dv t s d):d.aC<=400:=by
 cases h<;>first|assumption|simp[Ty.aC]
open Classical in
noncomputable def oV (t:Ty) (s:Nm):Option Ty:=if h:∃d,Dv t s d then some (Classical.choose h)else none
theorem dG{t:Ty}{s:Nm}{d:Ty}:oV t s=some d↔Dv t s d:=by
 unfold oV
 by_cases h:∃d,Dv t s d
 ·rw[dif_pos h]
  have:=Classical.choose_spec h
  constructor
  ·intro e;cases e;exact this
  ·intro g;rw[Dv.wz _ t (aq _) this g]
 ·rw[dif_neg h]
  exact⟨fun e=>(by cases e),fun g=>absurd ⟨d,g⟩ h⟩
def v8(t:Ty):Option Ty:=if t.aC<=400 then some t else none
theorem je{t d:Ty}:v8 t=some d↔t.aC<=400/\t=d:=by
 unfold v8
 split
 ·rename_i h;simp[h]
 ·rename_i h;simp[h]
theorem tF{α:Type}{a b:Option α}(h:∀d,a=some d↔b=some d):a=b:=by
 cases a with
 |
  none=>cases b with
  |none=>rfl
  |some x=>have:=(h x).2 rfl;cases this
 |some x=>exact((h x).1 rfl).symm
theorem BJ(s:Nm):oV .zero s=some .zero:=dG.2 (.zero _)
theorem B0(s:Nm):oV .one s=some .zero:=dG.2 (.one _)
theorem yQ(k:Nat)(s:Nm):oV (.bO k) s=some .zero:=dG.2 (.bO _ _)
theorem vD(n s:Nm):oV (.name n) s=some (if n=s then .one else .zero):=by
 split
 ·rename_i h;subst h;exact dG.2 (.hit _)
 ·rename_i h;exact dG.2 (.qQ h)
theorem Bm(a b:Ty)(s:Nm):oV (.plus a b) s=(oV a s).bind fun a'=>(oV b s).bind fun b'=>v8 (.plus a' b'):=by
 refine tF fun d=>?_
 rw[dG]
 simp only[bA,dG,je]
 constructor
 ·intro h;cases h with|plus h1 h2 hl=>exact⟨_,h1,_,h2,hl,rfl⟩
 ·rintro⟨a',h1,b',h2,hl,rfl⟩;exact .plus h1 h2 hl
theorem zr(a b:Ty)(s:Nm):oV (.times a b) s=(oV a s).bind fun a'=>(oV b s).bind fun b'=>v8 (.plus (.times a' b) (.times a b')):=by
 refine tF fun d=>?_
 rw[dG]
 simp only[bA,dG,je]
 constructor
 ·intro h;cases h with|times h1 h2 hl=>exact⟨_,h1,_,h2,hl,rfl⟩
 ·rintro⟨a',h1,b',h2,hl,rfl⟩;exact .times h1 h2 hl
theorem Hx{a:Ty}{s x:Nm}(hx:bm x a=false)(hs:x≠s):oV (.rc a) s=(oV (dN (.name x) a 0) s).bind fun c=>(oV (dN (.name x) a 0) x).bind fun d=>v8 (sA a x c d):=by
 refine tF fun d=>?_
 rw[dG]
 simp only[bA,dG,je]
 constructor
 ·intro h
  cases h with
  |
   rc y hy hs' h1 h2 hl =>
   have m1:=h1.move hy hx
   have m2:=h2.move hy hx
   rw[AS (Ne.symm hs') (Ne.symm hs)]at m1
   rw[xe]at m2
   refine⟨_,m1,_,m2,?_⟩
   have e:∀c d,sub x (.rc a) (jz (swp y x) c)=sub y (.rc a) c->sub x (.rc a) (jz (swp y x) d)=sub y (.rc a) d->sA a x (jz (swp y x) c) (jz (swp y x) d)=sA a y c d:=fun c d e1 e2=>by rw[sA,sA,e1,e2]
   rw[e _ _ (nW hy hx h1) (nW hy hx h2)]
   exact⟨hl,rfl⟩
 ·rintro⟨c,h1,d',h2,hl,rfl⟩;exact .rc x hx hs h1 h2 hl
noncomputable def vK (a:Ty) (x:Nm):Option Ty:=(oV (dN (.name x) a 0) x).bind fun d=>v8 (sub x (.rc a) d)
end Go.Proofs.Trees
namespace Go.Proofs.Trees
open Go Go.VL Go.RowKit
def er:E->List Nm->Ty
 | .atom s,ar=>if s=[48]then .zero else if s=[49]then .one else match bK s ar ar.length with|some u=>.bO u|none=>.name s
 | .list [x,a,b],ar=>if x.at=[43]then .plus (er a ar) (er b ar)else if x.at=[42]then .times (er a ar) (er b ar)else .rc (er b (ar++[a.at]))
 | .list _,_=>.zero
def uJ(s:Nm):Prop:=s≠[]/\s≠[48]/\s≠[49]
inductive Wf:E->Prop
 |atom {s} (h:s≠[]):Wf (.atom s)
 |plus {a b} (ha:Wf a) (hb:Wf b):Wf (.list [.atom [43],a,b])
 |times {a b} (ha:Wf a) (hb:Wf b):Wf (.list [.atom [42],a,b])
 |rc {n b} (hn:uJ n) (hb:Wf b):Wf (.list [.atom [114,101,99],.atom n,b])
theorem fh(a b:E)(ar:List Nm):er (.list [.atom [43],a,b]) ar=.plus (er a ar) (er b ar):=by rw[er,if_pos (show (E.atom [43]).at=[43] from rfl)]
theorem eu(a b:E)(ar:List Nm):er (.list [.atom [42],a,b]) ar=.times (er a ar) (er b ar):=by rw[er,if_neg (by decide),if_pos (show (E.atom [42]).at=[42] from rfl)]
theorem jh(a b:E)(ar:List Nm):er (.list [.atom [114,101,99],a,b]) ar=.rc (er b (ar++[a.at])):=by rw[er,if_neg (by decide),if_neg (by decide)]
theorem Wf.ok{e:E}(h:Wf e):e.ok:=by
 induction h with
 |atom h=>exact h
 |plus ha hb i1 i2=>exact⟨by simp[E.ok],i1,i2,trivial⟩
 |times ha hb i1 i2=>exact⟨by simp[E.ok],i1,i2,trivial⟩
 |rc hn hb i=>exact⟨by simp[E.ok],hn.1,i,trivial⟩
theorem Wf.en{e:E}(h:Wf e):∀ar,e.en=(er e ar).aC:=by
 induction h with
 |
  @atom s h =>
  intro ar
  simp only[E.en,er]
  split
  ·rfl
  ·split
   ·rfl
   ·split<;>rfl
 |plus ha hb i1 i2=>intro ar;rw[fh];simp only[E.en,E.fA,Ty.aC,<-i1 ar,<-i2 ar];omega
 |times ha hb i1 i2=>intro ar;rw[eu];simp only[E.en,E.fA,Ty.aC,<-i1 ar,<-i2 ar];omega
 |@rc n b hn hb i=>intro ar;rw[jh];simp only[E.en,E.fA,Ty.aC,<-i];omega
theorem Wf.sz{e:E}(h:Wf e):e.sz<=3*e.en:=by
 induction h with
 |atom h=>simp[E.sz,E.en]
 |plus ha hb i1 i2=>simp only[E.sz,E.ji,E.en,E.fA];omega
 |times ha hb i1 i2=>simp only[E.sz,E.ji,E.en,E.fA];omega
 |rc hn hb i=>simp only[E.sz,E.ji,E.en,E.fA];omega
theorem ka:∀(e:E) (ar:List Nm) (t:Ty),e.ok->(∀w,w∈ar->cS w=true)->cD e ar=some t->Wf e/\er e ar=t
 |
  .atom s,ar,t,hok,hl,ht=>by
  refine⟨.atom hok,?_⟩
  simp only[cD,er]at ht |-
  split at ht
  ·rename_i h;rw[if_pos h];simpa using ht
  ·rename_i h;rw[if_neg h]
   split at ht
   ·rename_i h1;rw[if_pos h1];simpa using ht
   ·rename_i h1;rw[if_neg h1]
    split at ht
    ·rename_i hp
     cases q:bK s ar ar.length with
     |none=>simpa using ht
     |
      some u =>
      obtain⟨h1,h2⟩:=fS _ _ (aq _) q
      have:=hl (gy ar u) (by
       unfold gy
       have:ar.length-1-u<ar.length:=by omega
       simp[aa,this])
      rw[h2,j2 hp]at this;cases this
    ·split at ht
     ·split at ht<;>rename_i q<;>rw[q]<;>simpa using ht
     ·cases ht
 |
  .list [x,a,b],ar,t,hok,hl,ht=>by
  obtain⟨ok1,ok2,ok3,_⟩:=hok
  by_cases h0:x.at=[43]
  ·obtain⟨t1,t2,h1,h2,rfl⟩:=fq h0 ht
   obtain rfl:=j7 h0 (by simp)
   obtain⟨w1,e1⟩:=ka a ar t1 ok2 hl h1
   obtain⟨w2,e2⟩:=ka b ar t2 ok3 hl h2
   exact⟨.plus w1 w2,by rw[fh,e1,e2]⟩
  ·by_cases h1:x.at=[42]
   ·obtain⟨t1,t2,h2,h3,rfl⟩:=eS h1 ht
    obtain rfl:=j7 h1 (by simp)
    obtain⟨w1,e1⟩:=ka a ar t1 ok2 hl h2
    obtain⟨w2,e2⟩:=ka b ar t2 ok3 hl h3
    exact⟨.times w1 w2,by rw[eu,e1,e2]⟩
   ·by_cases h2:x.at=[114,101,99]
    ·obtain⟨t1,hla,h3,rfl⟩:=dh h2 ht
     obtain rfl:=j7 h2 (by simp)
     have hne:a.at≠[]:=by intro e;rw[e]at hla;cases hla
     have ha:a=.atom a.at:=j7 rfl hne
     obtain⟨w1,e1⟩:=ka b (ar++[a.at]) t1 ok3 (fun w hw=>by
      rcases aM.1 hw with hw|hw
      ·exact hl w hw
      ·simp only[aU]at hw;rw[hw];exact hla) h3
     have hN:uJ a.at:=⟨hne,fun e=>by rw[e]at hla;revert hla;decide,fun e=>by rw[e]at hla;revert hla;decide⟩
     refine⟨?_,by rw[jh,e1]⟩
     rw[ha];exact .rc hN w1
    ·rw[iO _ h0 h1 h2]at ht;cases ht
 | .list [],ar,t,_,_,ht=>by cases ht
 | .list [_],ar,t,_,_,ht=>by cases ht
 | .list [_,_],ar,t,_,_,ht=>by cases ht
 | .list (_::_::_::_::_),ar,t,_,_,ht=>by cases ht
theorem fO(s:Nm)(ar:List Nm):bK s ar ar.length=none↔s∉ar:=by
 have:=mr s ar ar.length (aq _)
 rwa[List.take_length]at this
theorem qL(s:Nm)(ar:List Nm):∀(n:Nat) (br:List Nm),br.length=n->bK s (ar++br) (ar++br).length=match bK s br br.length with|some u=>some u|none=>(bK s ar ar.length).map (·+br.length)
 |
  0,br,h=>by
  obtain rfl:=List.eq_nil_of_length_eq_zero h
  rw[List.append_nil]
  cases h:bK s ar ar.length<;>simp[bK]
 |
  n+1,br,h=>by
  obtain⟨b2,w,rfl⟩:∃b2 w,br=b2++[w]:=⟨br.dropLast,br.getLast (by intro e;rw[e]at h;cases h),(List.dropLast_concat_getLast _).symm⟩
  rw[<-aS]
  by_cases hw:w=s
  ·subst hw;rw[gR,gR]
  ·rw[jv _ hw,jv _ hw,qL s ar n b2 (by simpa using h)]
   cases bK s b2 b2.length with
   |some u=>rfl
   |
    none =>
    cases bK s ar ar.length with
    |none=>rfl
    |some u=>simp only[Option.map_none,cr,al,au,aG];congr 1
theorem Cc(ar:List Nm){e:E}(h:Wf e):∀br,(∀y,bm y (er e br)=true->y∉ar)->er e (ar++br)=er e br:=by
 induction h with
 |
  @atom s h =>
  intro br hy
  simp only[er]at hy |-
  split
  ·rfl
  ·rename_i h0
   split
   ·rfl
   ·rename_i h1
    rw[if_neg h0,if_neg h1]at hy
    rw[qL s ar _ br rfl]
    cases q:bK s br br.length with
    |some u=>rfl
    |
     none =>
     rw[q]at hy
     have:=(fO s ar).2 (hy s (by simp[bm]))
     rw[this];rfl
 |
  plus ha hb i1 i2 =>
  intro br hy
  rw[fh]at hy |-
  rw[fh,i1 br fun y h=>hy y (by simp[bm,h]),i2 br fun y h=>hy y (by simp[bm,h])]
 |
  times ha hb i1 i2 =>
  intro br hy
  rw[eu]at hy |-
  rw[eu,i1 br fun y h=>hy y (by simp[bm,h]),i2 br fun y h=>hy y (by simp[bm,h])]
 |
  @rc n b hn hb i =>
  intro br hy
  rw[jh]at hy |-
  rw[jh,aS,i _ hy]
theorem td{e:E}(h:Wf e):∀ar y,bm y (er e ar)=true->uJ y/\y∉ar:=by
 induction h with
 |
  @atom s h =>
  intro ar y hy
  simp only[er]at hy
  split at hy
  ·cases hy
  ·rename_i h0
   split at hy
   ·cases hy
   ·rename_i h1
    split at hy
    ·cases hy
    ·rename_i q
     simp only[bm,decide_eq_true_eq]at hy
     subst hy
     exact⟨⟨h,h0,h1⟩,(fO _ _).1 q⟩
 |
  plus ha hb i1 i2 =>
  intro ar y hy
  rw[fh]at hy
  simp only[bm,bn]at hy
  rcases hy with hy|hy
  ·exact i1 ar y hy
  ·exact i2 ar y hy
 |
  times ha hb i1 i2 =>
  intro ar y hy
  rw[eu]at hy
  simp only[bm,bn]at hy
  rcases hy with hy|hy
  ·exact i1 ar y hy
  ·exact i2 ar y hy
 |
  rc hn hb i =>
  intro ar y hy
  rw[jh]at hy
  obtain⟨h1,h2⟩:=i _ y hy
  exact⟨h1,fun h=>h2 (aB _ h)⟩
theorem xy{e:E}(h:Wf e):∀(bd l:List Nm) (y:Nm),y∈lV e bd l↔y∈l\/bm y (er e bd)=true:=by
 induction h with
 |
  @atom s h =>
  intro bd l y
  simp only[lV,er]
  by_cases h0:s=[48]
  ·simp[h0,bm]
  ·by_cases h1:s=[49]
   ·simp[h1,bm]
   ·rw[if_neg h0,if_neg h1]
    by_cases h2:s∈bd
    ·cases q:bK s bd bd.length with
     |none=>exact absurd h2 ((fO _ _).1 q)
     |some u=>simp[h2,bm]
    ·rw[(fO _ _).2 h2]
     simp only[h0,h1,h2,false_or,bm,decide_eq_true_eq]
     by_cases h3:s∈l
     ·simp only[h3,if_true]
      exact⟨fun h=>.inl h,fun h=>by rcases h with h|rfl<;>assumption⟩
     ·simp only[h3,if_false,aM,aU,eq_comm]
 |
  plus ha hb i1 i2 =>
  intro bd l y
  rw[lV,if_neg (by decide),fh,i2,i1]
  simp[bm,or_assoc]
 |
  times ha hb i1 i2 =>
  intro bd l y
  rw[lV,if_neg (by decide),eu,i2,i1]
  simp[bm,or_assoc]
 |
  rc hn hb i =>
  intro bd l y
  rw[lV,if_pos (show (E.atom [114,101,99]).at=[114,101,99] from rfl),jh,i]
  rfl
theorem fP:∀(t:Ty) (out:List Nm) (y:Nm),y∈bM t out↔y∈out\/bm y t=true
 |
  .name s,out,y=>by
  simp only[bM,pk,bm,decide_eq_true_eq]
  split
  ·rename_i h;exact⟨fun h=>.inl h,fun h'=>by rcases h' with h'|rfl<;>assumption⟩
  ·simp[eq_comm]
 | .plus a b,out,y=>by rw[bM,fP b,fP a];simp[bm,or_assoc]
 | .times a b,out,y=>by rw[bM,fP b,fP a];simp[bm,or_assoc]
 | .rc a,out,y=>by rw[bM,fP a];rfl
 | .zero,out,y=>by simp[bM,bm]
 | .one,out,y=>by simp[bM,bm]
 | .bO k,out,y=>by simp[bM,bm]
end Go.Proofs.Trees
namespace Go.Proofs.Trees
open Go Go.VL Go.RowKit
abbrev ic:Nm:=[114,101,99]
theorem eB(s:Nm):(E.atom s).at=s:=rfl
def qF(x:Nm)(u:E):E->E
 | .atom s=>if s=x then u else .atom s
 | .list [h,a,b]=>if h.at=ic then(if a.at=x then .list [h,a,b]else .list [.atom ic,a,qF x u b])else .list [.atom h.at,qF x u a,qF x u b]
 | .list l=>.list l
def mS(x:Nm):E->Nat
 | .atom s=>if s=x then 1 else 0
 | .list [h,a,b]=>if h.at=ic then(if a.at=x then 0 else mS x b)else mS x a+mS x b
 | .list _=>0
def tX(p:Nm->Prop):E->Prop
 | .atom _=>True
 | .list [h,a,b]=>(if h.at=ic then p a.at else tX p a)/\tX p b
 | .list _=>True
def eY(x:Nm):Ty->Nat
 | .name s=>if s=x then 1 else 0
 | .plus a b=>eY x a+eY x b
 | .times a b=>eY x a+eY x b
 | .rc a=>eY x a
 |_=>0
theorem vf(x:Nm)(u a b:E):qF x u (.list [.atom [43],a,b])=.list [.atom [43],qF x u a,qF x u b]:=by rw[qF,if_neg (by decide)];rfl
theorem s3(x:Nm)(u a b:E):qF x u (.list [.atom [42],a,b])=.list [.atom [42],qF x u a,qF x u b]:=by rw[qF,if_neg (by decide)];rfl
theorem AG(x:Nm)(u:E)(n:Nm)(b:E):qF x u (.list [.atom ic,.atom n,b])=if n=x then .list [.atom ic,.atom n,b]else .list [.atom ic,.atom n,qF x u b]:=by rw[qF,if_pos (eB _)];rfl
theorem rP(x:Nm)(a b:E):mS x (.list [.atom [43],a,b])=mS x a+mS x b:=by rw[mS,if_neg (by decide)]
theorem ph(x:Nm)(a b:E):mS x (.list [.atom [42],a,b])=mS x a+mS x b:=by rw[mS,if_neg (by decide)]
theorem wv(x:Nm)(n:Nm)(b:E):mS x (.list [.atom ic,.atom n,b])=if n=x then 0 else mS x b:=by rw[mS,if_pos (eB _)];rfl
theorem oM(p:Nm->Prop)(a b:E):tX p (.list [.atom [43],a,b])↔tX p a/\tX p b:=by rw[tX,if_neg (by decide)]
theorem mT(p:Nm->Prop)(a b:E):tX p (.list [.atom [42],a,b])↔tX p a/\tX p b:=by rw[tX,if_neg (by decide)]
theorem tL(p:Nm->Prop)(n:Nm)(b:E):tX p (.list [.atom ic,.atom n,b])↔p n/\tX p b:=by rw[tX,if_pos (eB _)];rfl
theorem Ab{p q:Nm->Prop}(h:∀n,p n->q n){e:E}(hw:Wf e):tX p e->tX q e:=by
 induction hw with
 |atom _=>exact fun _=>trivial
 |plus _ _ i1 i2=>rw[oM,oM];exact fun g=>⟨i1 g.1,i2 g.2⟩
 |times _ _ i1 i2=>rw[mT,mT];exact fun g=>⟨i1 g.1,i2 g.2⟩
 |rc _ _ i=>rw[tL,tL];exact fun g=>⟨h _ g.1,i g.2⟩
theorem iR{s:Nm}(hs:uJ s){ar:List Nm}(h:s∉ar):er (.atom s) ar=.name s:=by
 simp only[er];rw[if_neg hs.2.1,if_neg hs.2.2,(fO s ar).2 h]
theorem Cw{x:Nm}(hx:uJ x){u:E}(hu:Wf u){e:E}(h:Wf e):tX (fun n=>n≠x/\bm n (er u [])=false) e->∀ar,x∉ar->(∀y,y∈ar->bm y (er u [])=false)->Wf (qF x u e)/\er (qF x u e) ar=sub x (er u []) (er e ar):=by
 induction h with
 |
  @atom s hs =>
  intro _ ar har hy
  by_cases e:s=x
  ·subst e
   have:er u (ar++[])=er u []:=Cc ar hu [] fun y hy' hm=>by rw[hy y hm]at hy';cases hy'
   rw[List.append_nil]at this
   rw[iR hx har]
   simp only[qF,sub,if_true]
   exact⟨hu,this⟩
  ·simp only[qF,if_neg e]
   refine⟨.atom hs,?_⟩
   simp only[er]
   split
   ·rfl
   ·split
    ·rfl
    ·split
     ·rfl
     ·simp only[sub,if_neg e]
 |
  plus ha hb i1 i2 =>
  intro hap ar har hy
  rw[oM]at hap
  obtain⟨w1,e1⟩:=i1 hap.1 ar har hy
  obtain⟨w2,e2⟩:=i2 hap.2 ar har hy
  rw[vf,fh,fh,e1,e2]
  exact⟨.plus w1 w2,rfl⟩
 |
  times ha hb i1 i2 =>
  intro hap ar har hy
  rw[mT]at hap
  obtain⟨w1,e1⟩:=i1 hap.1 ar har hy
  obtain⟨w2,e2⟩:=i2 hap.2 ar har hy
  rw[s3,eu,eu,e1,e2]
  exact⟨.times w1 w2,rfl⟩
 |
  @rc n b hn hb i =>
  intro hap ar har hy
  rw[tL]at hap
  obtain⟨w1,e1⟩:=i hap.2 (ar++[n]) (by
   simp only[aM,aU]
   rintro(h|h)
   ·exact har h
   ·exact hap.1.1 h.symm) (fun y hm=>by
   simp only[aM,aU]at hm
   rcases hm with hm|rfl
   ·exact hy y hm
   ·exact hap.1.2)
  rw[AG,if_neg hap.1.1,jh,jh]
  refine⟨.rc hn w1,?_⟩
  show Ty.rc (er (qF x u b) (ar++[n]))=_
  rw[e1];rfl
theorem B8{x:Nm}(hx:uJ x){e:E}(h:Wf e):∀ar,eY x (er e ar)=if x∈ar then 0 else mS x e:=by
 induction h with
 |
  @atom s hs =>
  intro ar
  by_cases e:s=x
  ·subst e
   by_cases hm:s∈ar
   ·rw[if_pos hm]
    simp only[er];rw[if_neg hx.2.1,if_neg hx.2.2]
    cases q:bK s ar ar.length with
    |none=>exact absurd hm ((fO _ _).1 q)
    |some u=>rfl
   ·rw[if_neg hm,iR hx hm];simp[eY,mS]
  ·have:eY x (er (.atom s) ar)=0:=by
    simp only[er]
    split
    ·rfl
    ·split
     ·rfl
     ·split
      ·rfl
      ·simp[eY,e]
   rw[this];simp[mS,e]
 |plus ha hb i1 i2=>intro ar;rw[fh,rP,eY,i1,i2];split<;>simp
 |times ha hb i1 i2=>intro ar;rw[eu,ph,eY,i1,i2];split<;>simp
 |
  @rc n b hn hb i =>
  intro ar
  rw[jh,wv,eY,i]
  simp only[eB,aM,aU]
  by_cases h1:x∈ar
  ·simp[h1]
  ·by_cases h2:x=n
   ·simp[h2]
   ·simp[h1,h2,Ne.symm h2]
theorem dK(x:Nm)(u:Ty):∀t:Ty,(sub x u t).aC+eY x t=t.aC+eY x t*u.aC
 | .name s=>by simp only[sub,eY];split<;>simp[Ty.aC];omega
 | .plus a b=>by have:=dK x u a;have:=dK x u b;simp only[sub,Ty.aC,eY,Nat.add_mul];omega
 | .times a b=>by have:=dK x u a;have:=dK x u b;simp only[sub,Ty.aC,eY,Nat.add_mul];omega
 | .rc a=>by have:=dK x u a;simp only[sub,Ty.aC,eY];omega
 | .zero=>by simp[sub,eY]
 | .one=>by simp[sub,eY]
 | .bO k=>by simp[sub,eY]
abbrev tN(m:Nat):Nm:=116::dd m
theorem DU(m:Nat):dd m≠[]:=by
 by_cases h:m<10
 ·rw[ep h];simp
 ·rw[fD h];simp
theorem vZ:∀(n m k:Nat),m<n->dd m=dd k->m=k
 |0,m,k,h,_=>by omega
 |
  n+1,m,k,h,e=>by
  have d10:∀{a b:Nat},a<10->b<10->a8 (48+a)=a8 (48+b)->a=b:=fun {a b} ha hb h=>by
   have:=congrArg UInt8.toNat h
   simp only[UInt8.toNat_ofNat']at this
   omega
  by_cases h1:m<10<;>by_cases h2:k<10
  ·rw[ep h1,ep h2]at e
   simp only[List.cons.injEq,and_true]at e
   exact d10 h1 h2 e
  ·rw[ep h1,fD h2]at e
   have:=congrArg List.length e
   have:dd (k/10)=[]:=by
    apply List.eq_nil_of_length_eq_zero
    simp at this;simpa using this
   exact absurd this (DU _)
  ·rw[fD h1,ep h2]at e
   have:=congrArg List.length e
   have:dd (m/10)=[]:=by
    apply List.eq_nil_of_length_eq_zero
    simp at this;simpa using this
   exact absurd this (DU _)
  ·rw[fD h1,fD h2]at e
   obtain⟨e1,e2⟩:=List.append_inj' e rfl
   have:=vZ n (m/10) (k/10) (by omega) e1
   simp only[List.cons.injEq,and_true]at e2
   have:=d10 (dW _ (by omega)) (dW _ (by omega)) e2
   omega
theorem At{m k:Nat}(h:tN m=tN k):m=k:=vZ (m+1) m k (by omega) (List.cons.inj h).2
theorem D9(m:Nat):uJ (tN m):=⟨by simp,by simp,by simp⟩
theorem QS:∀(l F:List Nm),l.Nodup->(∀x,x∈l->x∈F)->l.length<=F.length
 |[],_,_,_=>dr _
 |
  x::l,F,hn,hs=>by
  obtain⟨h1,h2⟩:=List.nodup_cons.1 hn
  have hx:=hs x ai
  have:=QS l (F.erase x) h2 fun y hy=>(List.mem_erase_of_ne (fun e=>h1 (by rw[<-e];exact hy))).2 (hs y (ak _ hy))
  rw[List.length_erase_of_mem hx]at this
  have:0<F.length:=List.length_pos_of_mem hx
  simp only[au];omega
def rY(F:List Nm):Nat->Nat->Nat
 |0,k=>k
 |n+1,k=>if tN k∈F then rY F n (k+1)else k
theorem vJ(F:List Nm):∀(n k:Nat),k<=rY F n k/\rY F n k<=k+n/\(∀j,k<=j->j<rY F n k->tN j∈F)/\(rY F n k<k+n->tN (rY F n k)∉F)
 |0,k=>⟨aq _,aq _,fun j h1 h2=>by simp only[rY]at h2;omega,fun h=>by simp only[rY]at h;omega⟩
 |
  n+1,k=>by
  rw[rY]
  split
  ·rename_i hm
   obtain⟨h1,h2,h3,h4⟩:=vJ F n (k+1)
   refine⟨by omega,by omega,fun j hj hl=>?_,fun h=>h4 (by omega)⟩
   by_cases e:j=k
   ·subst e;exact hm
   ·exact h3 j (by omega) hl
  ·rename_i hm
   exact⟨aq _,by omega,fun j h1 h2=>by omega,fun _=>hm⟩
def nx(F:List Nm)(k:Nat):Nat:=rY F (F.length+1) k
theorem lM(F:List Nm)(k:Nat):k<=nx F k/\nx F k<=k+F.length/\(∀j,k<=j->j<nx F k->tN j∈F)/\tN (nx F k)∉F:=by
 obtain⟨h1,h2,h3,h4⟩:=vJ F (F.length+1) k
 have hlt:nx F k<k+(F.length+1):=by
  rcases Nat.lt_or_ge (nx F k) (k+(F.length+1))with h|h
  ·exact h
  ·exfalso
   have:=QS ((List.range' k (F.length+1)).map tN) F (by
    refine List.Pairwise.map _ (fun a b hab e=>hab (At e)) List.nodup_range') (fun x hx=>by
    obtain⟨j,hj,rfl⟩:=bZ.1 hx
    obtain⟨i,hi,rfl⟩:=List.mem_range'.1 hj
    exact h3 _ (by omega) (by show _<nx F k;omega))
   simp at this
   omega
 exact⟨h1,by unfold nx at hlt |-;omega,h3,h4 hlt⟩
end Go.Proofs.Trees
