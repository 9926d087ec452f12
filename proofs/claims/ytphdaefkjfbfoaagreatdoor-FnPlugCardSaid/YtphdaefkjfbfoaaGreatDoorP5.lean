/-
  Part of a proof: Go functions read by values, trees of functions, their contracts.
-/
import Derived.Test.YtphdaefkjfbfoaaGreatDoorP4
import Derived.Lib.Atoi
set_option linter.unusedVariables false
set_option linter.unusedSimpArgs false
open And renaming intro→aH
open Bool renaming and_eq_true→au,eq_iff_iff→cu,or_eq_false_iff→bU,or_eq_true→bn,true_and→bL
open Int renaming cast_ofNat_Int→dh,ofNat_eq_natCast→cL,tmod→dB,toNat→bW,toNat_natCast→ca
open List renaming all_cons→cU,any_eq_true→bS,append_assoc→bb,append_nil→cS,cons_append→ba,drop_eq_getElem_cons→aY,drop_eq_nil_of_le→bJ,drop_zero→bo,getD_cons_zero→bp,getD_eq_getElem?_getD→aa,getElem?_eq_getElem→bm,getElem_mem→bN,headD_cons→bg,length_append→an,length_cons→aw,length_drop→cf,length_nil→aF,map_cons→bI,mem_append→aK,mem_append_left→aB,mem_cons→aI,mem_cons_of_mem→al,mem_cons_self→ai,mem_map→cj,mem_singleton→aS,nil_append→aT,tail_cons→bx,takeWhile_append_dropWhile→bV
open Nat renaming beq→aJ,le_add_right→cV,le_refl→ap,mod_lt→ep,mul_add→cM,mul_one→dC,zero_add→aU,zero_le→dP
open Option renaming bind_eq_some_iff→a7,isSome_iff_exists→bz,isSome_none→cn,map_some→cv
open UInt8 renaming ofNat→a8,toNat_inj→dQ
namespace Go.Proofs.Trees
open Go Go.VL
theorem yf(l r:List E):E.CO (l++r)↔E.CO l/\E.CO r:=by
 induction l with
 |nil=>simp[E.CO]
 |cons e l ih=>simp[E.CO,ih,and_assoc]
theorem zK{f:List UInt8->Option (E×List UInt8)}(hf:∀s e r,f s=some (e,r)->e.ok/\e.sz+r.length<=s.length):∀(n:Nat) (s:List UInt8) (acc:List E) (e:E) (r:List UInt8),rN f n s acc=some (e,r)->E.CO acc->e.ok/\e.sz+r.length<=s.length+1+E.jk acc
 |0,s,acc,e,r,h,_=>by cases h
 |
  n+1,s,acc,e,r,h,ha=>by
  simp only[rN]at h
  split at h
  ·rename_i p c r' hs
   obtain⟨h1,h2⟩:=hf _ _ _ hs
   simp only[aw]at h2
   split at h
   ·cases h
    refine⟨(yf _ _).2 ⟨ha,h1,trivial⟩,?_⟩
    simp only[E.sz,w8,E.jk];omega
   ·split at h
    ·have:=zK hf n _ _ _ _ h ((yf _ _).2 ⟨ha,h1,trivial⟩)
     refine⟨this.1,?_⟩
     have h3:=this.2
     simp only[w8,E.jk]at h3;omega
    ·cases h
  ·cases h
theorem tq(s:List UInt8):(s.takeWhile eW).length+(s.dropWhile eW).length=s.length:=by
 have:=congrArg List.length (bV (p:=eW) (l:=s))
 simpa only[an]using this
theorem DN:∀(k:Nat) (s:List UInt8) (e:E) (r:List UInt8),rd k s=some (e,r)->e.ok/\e.sz+r.length<=s.length
 |
  0,s,e,r,h=>by
  simp only[rd]at h
  split at h
  ·cases h
  ·rename_i hn;cases h
   have:=tq s
   have:0<(s.takeWhile eW).length:=List.length_pos_iff.2 hn
   exact⟨hn,by simp only[E.sz];omega⟩
 |
  k+1,s,e,r,h=>by
  simp only[rd]at h
  split at h
  ·split at h
   ·split at h
    ·have:=zK (DN k) _ _ _ _ _ h trivial
     refine⟨this.1,?_⟩
     have h3:=this.2
     simp only[E.jk,aw]at h3 |-;omega
    ·cases h
   ·cases h
  ·rename_i hn;cases h
   have:=tq s
   have:0<(s.takeWhile eW).length:=List.length_pos_iff.2 hn
   exact⟨hn,by simp only[E.sz];omega⟩
def qn(s:List UInt8):Option E:=if s.length>8000 then none else match rd 300 s with|some (e,[])=>some e|_=>none
theorem nK{s:List UInt8}{e:E}(h:qn s=some e):e.ok/\e.sz<=8000:=by
 unfold qn at h
 split at h
 ·cases h
 ·split at h
  ·rename_i e' hr
   cases h
   have:=DN _ _ _ _ hr
   exact⟨this.1,by have:=this.2;simp at this;omega⟩
  ·cases h
def ub:Option E->AV
 |some e=>e.cq
 |none=>.v (.pointer none)
theorem Ja(s:List UInt8):aq Tryz.prog 103 [.v (.string (mk s))] [] (bC (ub (qn s))):=by
 refine Pe _ ?_
 simp only[J5,↓zq,zs,af,zt,bC,qn]
 refine⟨fun h=>?_,fun h=>?_⟩
 ·rw[if_pos (by omega)];simp[ub]
 ·rw[if_neg (by omega)]
  refine aj (Pf 300 (by omega) s (by omega)) ?_
  cases hr:rd 300 s with
  |
   none =>
   simp only[oK,↓zq,zs,af,zt,ub]
   refine⟨fun _=>trivial,fun _=>trivial⟩
  |
   some q =>
   obtain⟨e,r⟩:=q
   cases r with
   |nil=>simp only[oK,↓zq,zs,af,zt,ub,cN];simp
   |cons c r=>simp only[oK,↓zq,zs,af,zt,ub,cN];simp
def ia(b:UInt8):Bool:=decide (48<=b.toNat/\b.toNat<=57)
def named(lo hi:Nat):List UInt8->Bool
 |[]=>false
 |c::r=>decide (r.length<=2)&&decide (lo<=c.toNat/\c.toNat<=hi)&&r.all ia
def fj(s:List UInt8):Bool:=named 120 122 s
def da(s:List UInt8):Bool:=named 116 116 s
def D7(v lo hi:Int):Bool:=decide (lo<=v/\v<=hi)
theorem Cr(v lo hi:Int):aq Tryz.prog 87 [.v (.int .i64 v),.v (.int .i64 lo),.v (.int .i64 hi)] [] (bC (.v (.bool (D7 v lo hi)))):=by
 refine O2 _ _ _ ?_
 simp only[LP,↓zq,zs,af,bC,D7]
 constructor<;>intro h<;>simp at h<;>simp[h]
 omega
theorem Ia(s:List UInt8)(hs:s.length<=3):∀(k i:Nat),i+k=s.length->Eo [.v (.string (mk s)),.v (.int .i64 (i:Int))] [] (rQ (if(s.drop i).all ia=true then(1,[],[])else(2,[.v (.bool false)],[])))
 |
  0,i,hi=>by
  have hd:s.drop i=[]:=bJ (by omega)
  refine JZ _ _ ?_
  simp only[FB,↓zq,zs,af,zt]
  exact⟨fun h=>by omega,fun _=>by simp[rQ,hd]⟩
 |
  k+1,i,hi=>by
  have hlt:i<s.length:=by omega
  have e:s.drop i=s.getD i 0::s.drop (i+1):=by
   rw[aY hlt];simp[aa,hlt]
  refine JZ _ _ ?_
  simp only[FB,↓zq,zs,af,zt,lY s i hlt,e,cU]
  generalize hb:s.getD i 0=b
  refine⟨fun _=>⟨by omega,fun h=>?_,fun h=>⟨by omega,fun h2=>?_,fun h2=>?_⟩⟩,fun h=>by omega⟩
  ·have:ia b=false:=by simp[ia];omega
   simp only[this,zf,rQ]
  ·have:ia b=false:=by simp[ia];omega
   simp only[this,zf,rQ]
  ·have:ia b=true:=by simp[ia];omega
   rw[bA i (by omega),this,bL]
   exact Ia s hs k (i+1) (by omega)
theorem JS(s:List UInt8)(lo hi:Nat):aq Tryz.prog 144 [.v (.string (mk s)),.v (.int .u8 (lo:Int)),.v (.int .u8 (hi:Int))] [] (bC (.v (.bool (named lo hi s)))):=by
 refine Mw _ _ _ ?_
 unfold Is
 rw[cz]
 refine aj (Cr _ _ _) ?_
 simp only[↓zq,zs,af,zt,bC]
 refine⟨fun h=>?_,fun h=>?_⟩
 ·cases s with
  |nil=>rfl
  |
   cons c s =>
   simp[D7]at h
   have:¬s.length<=2:=by omega
   simp[named,this]
 ·cases s with
  |nil=>simp[D7]at h
  |
   cons c s =>
   simp[D7]at h
   have hl:s.length<=2:=by omega
   have hb:=lY (c::s) 0 (by simp)
   simp only[cL,dh]at hb
   simp only[↓zq,zs,af,hb]
   refine⟨by omega,fun h1=>?_,fun h1=>⟨by omega,fun h2=>?_,fun h2=>?_⟩⟩
   ·have:¬lo<=c.toNat:=by omega
    simp[named,this]
   ·have:¬c.toNat<=hi:=by omega
    simp[named,this]
   ·refine jp (Ia (c::s) (by simp;omega) s.length 1 (by simp;omega)) (fun ys o e=>?_) (fun ys o e=>?_)
    ·split at e<;>cases e
     rename_i ha
     simp at ha
     simp only[↓zq,zs,af]
     simp[named,hl]
     exact⟨⟨by omega,by omega⟩,fun x hx=>by simpa using ha x hx⟩
    ·split at e<;>cases e
     rename_i ha
     simp only[↓zq,zs,af]
     have:s.all ia=false:=by simpa using ha
     simp[named,this]
theorem zH(s:List UInt8):aq Tryz.prog 100 [.v (.string (mk s))] [] (bC (.v (.bool (fj s)))):=by
 refine O7 _ ?_
 unfold Ih
 refine aj (JS s 120 122) ?_
 simp only[↓zq,zs,af,bC,fj]
theorem E1(s:List UInt8):aq Tryz.prog 99 [.v (.string (mk s))] [] (bC (.v (.bool (da s)))):=by
 refine Ms _ ?_
 unfold HX
 refine aj (JS s 116 116) ?_
 simp only[↓zq,zs,af,bC,da]
end Go.Proofs.Trees
namespace Go.Proofs.Trees
open Go Go.VL Go.RowKit
theorem N7(l:List UInt8)(c:UInt8):aq Tryz.prog 151 [.v (.string (mk l)),.v (.string (mk [c]))] [] (bC (.v (.bool (decide (0<=Lib.indexByte l c))))):=by
 refine aq.PG (xs:=[.string (mk l),.string (mk [c])]) ⟨nf,by kernel_rfl,by kernel_rfl,by kernel_rfl⟩ fun w=>?_
 have:=Any.strings_Contains_one Tryz.DF (mk l) c w
 refine Calls.mono this fun e w' ⟨h1,h2⟩=>?_
 rw[h2]
 have hd:(mk l).data.toList=l:=by simp[mk]
 exact⟨by rw[h1,hd],Below.refl _ _⟩
theorem IC(l cs:List UInt8)(hl:l.length<=1000000)(hc:cs.length<=1000)(ha:∀b,b∈cs->b.toNat<128):aq Tryz.prog 152 [.v (.string (mk l)),.v (.string (mk cs))] [] (bC (.v (.string (mk (Lib.trimS l cs))))):=by
 refine aq.PG (xs:=[.string (mk l),.string (mk cs)]) ⟨p8,by kernel_rfl,by kernel_rfl,by kernel_rfl⟩ fun w=>?_
 have:=Any.strings_Trim_laid Tryz.Cc (by kernel_rfl) (mk l) (mk cs) w (by rw[cz];omega) (by rw[cz];omega) (fun j b hj=>ha b (by
  have:(mk cs).data.toList=cs:=by simp[mk]
  rw[this]at hj
  exact List.mem_of_getElem? hj))
 refine Calls.mono this fun e w' ⟨h1,h2⟩=>⟨?_,h2⟩
 rw[h1]
 simp[mk]
theorem nl:∀(l:List UInt8) (c:UInt8),(0<=Lib.indexByte l c↔c∈l)/\-1<=Lib.indexByte l c
 |[],c=>by simp[Lib.indexByte]
 |
  b::l,c=>by
  obtain⟨h1,h2⟩:=nl l c
  unfold Lib.indexByte
  by_cases e:b=c
  ·subst e;simp
  ·have e':(b==c)=false:=by simp[e]
   rw[e']
   by_cases q:Lib.indexByte l c = -1
   ·have:c∉l:=fun h=>by have:=h1.2 h;omega
    simp[q,this,Ne.symm e]
   ·have q':(Lib.indexByte l c==-1)=false:=by simp[q]
    simp only[q',Bool.false_eq_true,if_false,aI]
    constructor
    ·constructor
     ·intro h;exact .inr (h1.1 (by omega))
     ·intro h
      rcases h with h|h
      ·exact absurd h.symm e
      ·have:=h1.2 h;omega
    ·omega
theorem dropWhile_nil{p:UInt8->Bool}:∀(l:List UInt8),l.dropWhile p=[]↔l.all p=true
 |[]=>by simp
 |
  b::l=>by
  cases h:p b with
  |true=>rw[List.dropWhile_cons_of_pos h,dropWhile_nil l];simp[h]
  |false=>rw[List.dropWhile_cons_of_neg (by rw[h];simp)];simp[h]
theorem sK(l cs:List UInt8):Lib.trimS l cs=[]↔l.all (cs.contains ·)=true:=by
 unfold Lib.trimS Lib.trimLeftS
 rw[dropWhile_nil]
 unfold Lib.trimRightS
 constructor
 ·intro h
  by_cases hn:l.reverse.dropWhile (cs.contains ·)=[]
  ·rw[dropWhile_nil]at hn
   simpa using hn
  ·exfalso
   rw[List.all_reverse]at h
   obtain⟨b,r,e⟩:=List.exists_cons_of_ne_nil hn
   have h1:cs.contains b=false:=by
    have:=List.head_dropWhile_not (p:=(cs.contains ·)) (l:=l.reverse) hn
    simp only[e,List.head_cons]at this
    exact this
   rw[e]at h
   simp only[cU,au]at h
   rw[h1]at h;cases h.1
 ·intro h
  have:l.reverse.dropWhile (cs.contains ·)=[]:=by rw[dropWhile_nil];simpa using h
  rw[this];rfl
def FA:List UInt8:=[48,49,50,51,52,53,54,55,56,57]
theorem uM(b:UInt8):FA.contains b=ia b:=by
 have:∀n:Fin 256,FA.contains (a8 n.val)=ia (a8 n.val):=by decide +kernel
 have:=this ⟨b.toNat,b.toNat_lt⟩
 simpa using this
theorem KD(s ls:List UInt8)(lo hi:Nat)(hls:∀c:UInt8,c∈ls↔lo<=c.toNat/\c.toNat<=hi):aq Tryz.prog 111 [.v (.string (mk s)),.v (.string (mk ls))] [] (bC (.v (.bool (named lo hi s)))):=by
 refine O1 _ _ ?_
 simp only[KC,↓zq,zs,af,zt,bC]
 cases s with
 |nil=>exact⟨fun h=>by simp at h,fun _=>rfl⟩
 |
  cons c s =>
  have e1:(List.take (bW 1) (c::s))=[c]:=rfl
  have e2:(List.take (s.length+1) (c::s)).drop (bW 1)=s:=by simp
  simp only[aw,e1,e2]
  refine⟨fun _=>⟨fun h3=>⟨by omega,?_⟩,fun h3=>?_⟩,fun h=>by omega⟩
  ·have hl:s.length<=2:=by omega
   refine aj (N7 ls c) ?_
   simp only[↓zq,zs,af]
   have hi1:=(nl ls c).1
   refine⟨fun h=>⟨by omega,?_⟩,fun h=>?_⟩
   ·refine aj (IC s FA (by omega) (by decide) (by decide)) ?_
    simp only[↓zq,zs,af,zt]
    have hc:=(hls c).1 (hi1.1 h)
    congr 2
    rw[cu,beq_iff_eq,sK]
    simp only[named,hl,hc,decide_true,bL,and_self]
    have:(fun x=>FA.contains x)=ia:=funext uM
    rw[this]
   ·have hc:¬(lo<=c.toNat/\c.toNat<=hi):=fun h'=>h (hi1.2 ((hls c).2 h'))
    simp only[named,hc,zf]
  ·have hl:¬s.length<=2:=by omega
   simp only[named,hl,zf]
theorem DD(s:List UInt8):aq Tryz.prog 59 [.v (.string (mk s))] [] (bC (.v (.bool (fj s)))):=by
 refine NN _ ?_
 unfold Ln
 have h:∀n:Fin 256,(a8 n.val∈[(120:UInt8),121,122])↔120<=(a8 n.val).toNat/\(a8 n.val).toNat<=122:=by decide +kernel
 refine aj (KD s [120,121,122] 120 122 fun c=>by simpa using h ⟨c.toNat,c.toNat_lt⟩) ?_
 simp only[↓zq,zs,af,bC,fj]
theorem BZ(s:List UInt8):aq Tryz.prog 166 [.v (.string (mk s))] [] (bC (.v (.bool (da s)))):=by
 refine Pp _ ?_
 unfold Jp
 have h:∀n:Fin 256,(a8 n.val∈[(116:UInt8)])↔116<=(a8 n.val).toNat/\(a8 n.val).toNat<=116:=by decide +kernel
 refine aj (KD s [116] 116 116 fun c=>by simpa using h ⟨c.toNat,c.toNat_lt⟩) ?_
 simp only[↓zq,zs,af,bC,da]
end Go.Proofs.Trees
namespace Go.Proofs.Trees
open Go Go.VL
inductive Ty where
 |zero|one
 |name (s:List UInt8)
 |bH (up:Nat)
 |plus (a b:Ty)
 |times (a b:Ty)
 |rc (a:Ty)
def Ty.av:Ty->AV
 | .zero=>.ptr [.v (.int .u8 48),.v (.string (mk [])),.v (.int .i64 0),.v (.pointer none),.v (.pointer none)]
 | .one=>.ptr [.v (.int .u8 49),.v (.string (mk [])),.v (.int .i64 0),.v (.pointer none),.v (.pointer none)]
 | .name s=>.ptr [.v (.int .u8 110),.v (.string (mk s)),.v (.int .i64 0),.v (.pointer none),.v (.pointer none)]
 | .bH up=>.ptr [.v (.int .u8 98),.v (.string (mk [])),.v (.int .i64 (up:Int)),.v (.pointer none),.v (.pointer none)]
 | .plus a b=>.ptr [.v (.int .u8 43),.v (.string (mk [])),.v (.int .i64 0),a.av,b.av]
 | .times a b=>.ptr [.v (.int .u8 42),.v (.string (mk [])),.v (.int .i64 0),a.av,b.av]
 | .rc a=>.ptr [.v (.int .u8 114),.v (.string (mk [])),.v (.int .i64 0),a.av,.v (.pointer none)]
theorem aG(t:Ty):LK.has .ptr t.av=True:=by cases t<;>simp[Ty.av,ci]
theorem fA(t:Ty):t.av.isNil=false:=by cases t<;>rfl
def hZ:Option Ty->AV
 |some t=>t.av
 |none=>.v (.pointer none)
theorem fD(t:Option Ty):LK.has .ptr (hZ t)=True:=by cases t<;>simp[hZ,aG,jg]
def E.at:E->List UInt8
 | .atom s=>s
 | .list _=>[]
def bE(s:List UInt8)(ar:List (List UInt8)):Nat->Option Nat
 |0=>none
 |i+1=>if ar.getD i []=s then some (ar.length-1-i)else bE s ar i
def cK:E->List (List UInt8)->Option Ty
 | .atom s,ar=>if s=[48]then some .zero else if s=[49]then some .one else if fj s=true then some (.name s)else if da s=true then(match bE s ar ar.length with|some u=>some (.bH u)|none=>some (.name s))else none
 |
  .list [x,a,b],ar =>
  if x.at=[43]then(match cK a ar,cK b ar with|some t,some u=>some (.plus t u)|_,_=>none)
  else if x.at=[42]then(match cK a ar,cK b ar with|some t,some u=>some (.times t u)|_,_=>none)
  else if x.at=[114,101,99]then(if da a.at=true then(match cK b (ar++[a.at])with|some t=>some (.rc t)|none=>none)else none)
  else none
 | .list _,_=>none
def ck(l:List (List UInt8)):List (List AV):=l.map fun s=>[.v (.string (mk s))]
def dT(a:AV)(l:List (List UInt8)):Prop:=LK.sl.has a/\a.aR=ck l
theorem dT.len{a:AV}{l:List (List UInt8)}(h:dT a l):a.aR.length=l.length:=by rw[h.2];simp[ck]
theorem dT.idx{a:AV}{l:List (List UInt8)}(h:dT a l){i:Nat}(hi:i<l.length):a.aR.getD i []=[.v (.string (mk (l.getD i [])))]:=by
 rw[h.2];simp[ck,aa,hi]
theorem dT.of(l:List (List UInt8)):dT (.sl (ck l)) l:=⟨(cb _).mpr trivial,rfl⟩
theorem dT.nil:dT (.v (.slice none 0 0)) []:=⟨(bq).mpr trivial,rfl⟩
theorem xu(e:E)(w:List UInt8):aq Tryz.prog 149 [e.cq,.v (.string (mk w)),.v (.int .i64 3)] [] (bC (.v (.bool (match e with| .list [x,_,_]=>x.at==w|_=>false)))):=by
 refine Kz _ _ _ ((cN e).mpr trivial) ?_
 cases e with
 |atom s=>simp only[Bl,E.cq,↓zq,zs,af,zt,bC];exact⟨by omega,fun h=>by omega,fun _=>trivial⟩
 |
  list l =>
  simp only[Bl,E.cq,↓zq,zs,af,zt,bC,rD]
  match l with
  |[]=>exact⟨by simp,fun h=>by simp at h,fun _=>rfl⟩
  |[_]=>exact⟨by simp,fun h=>by simp at h,fun _=>rfl⟩
  |[_,_]=>exact⟨by simp,fun h=>by simp at h,fun _=>rfl⟩
  |
   [x,y,z] =>
   refine⟨by simp,fun _=>?_,fun h=>by simp at h⟩
   cases x<;>simp[E.l0,E.cq,ci,pd,jH,dq,s3,toList_mk,E.at]
  |_::_::_::_::l=>exact⟨by simp,fun h=>by simp at h;omega,fun _=>rfl⟩
theorem Jm(e:E)(a:AV)(ar:List (List UInt8))(ha:dT a ar)(hl:ar.length<1000000):∀(i:Nat),i<=ar.length->G4 [e.cq,a,.v (.int .i64 ((i:Int)-1))] []
 (rQ (match bE e.at ar i with|some u=>(2,[],[.cells [.v (.int .u8 98),.v (.string (mk [])),.v (.int .i64 (u:Int)),.v (.pointer none),.v (.pointer none)]])|none=>(1,[e.cq],[])))
 |
  0,hi=>by
  refine Lc _ _ _ ?_
  simp only[Et,↓zq,zs,af,cN]
  exact⟨ha.1,fun h=>by omega,fun _=>rfl⟩
 |
  i+1,hi=>by
  have hlt:i<ar.length:=by omega
  have e1:((i+1:Nat):Int)-1=(i:Int):=by omega
  rw[e1]
  refine Lc _ _ _ ?_
  have hd:e.cq.deref.headD .any=.v (.string (mk e.at)):=by cases e<;>rfl
  have hdl:1<=e.cq.deref.length:=by cases e<;>simp[E.cq,jH]
  simp only[Et,↓zq,zs,af,zt,cN,ej,ha.len,ha.idx hlt,hd,qD]
  refine⟨ha.1,fun _=>⟨⟨ha.1,by omega,by omega⟩,by omega,hdl,fun h=>⟨ha.1,?_⟩,fun h=>?_⟩,fun h=>by omega⟩
  ·simp only[bE,h,if_true,rQ]
   rw[wrap64 ((ar.length:Int)-1) (by omega) (by omega),wrap64 _ (by omega) (by omega)]
   have:(ar.length:Int)-1-(i:Int)=((ar.length-1-i:Nat):Int):=by omega
   rw[this]
  ·simp only[bE,h,if_false]
   rw[wrap64 _ (by omega) (by omega)]
   exact Jm e a ar ha hl i (by omega)
end Go.Proofs.Trees
namespace Go.Proofs.Trees
open Go Go.VL
theorem ns(e:E):e.cq.deref.headD .any=.v (.string (mk e.at)):=by cases e<;>rfl
theorem lK(e:E):1<=e.cq.deref.length:=by cases e<;>simp[E.cq,jH]
theorem toNat_one:bW 1=1:=rfl
theorem be:bW 2=2:=rfl
theorem yM{ar:List (List UInt8)}(s:List UInt8):ck ar++[[.v (.string (mk s))]]=ck (ar++[s]):=by simp[ck]
theorem kj(ar:List (List UInt8)):cD 1 (ck ar):=fun c hc=>by
 obtain⟨s,_,rfl⟩:=cj.1 hc;rfl
theorem kR{x a b:E}(ar:List (List UInt8))(hx:x.at=[43]):cK (.list [x,a,b]) ar=match cK a ar,cK b ar with|some t,some u=>some (.plus t u)|_,_=>none:=by rw[cK,if_pos hx]<;>cases cK a ar<;>cases cK b ar<;>rfl
theorem j2{x a b:E}(ar:List (List UInt8))(hx:x.at=[42]):cK (.list [x,a,b]) ar=match cK a ar,cK b ar with|some t,some u=>some (.times t u)|_,_=>none:=by rw[cK,if_neg (by rw[hx];decide),if_pos hx]<;>cases cK a ar<;>cases cK b ar<;>rfl
theorem mz{x a b:E}(ar:List (List UInt8))(hx:x.at=[114,101,99]):cK (.list [x,a,b]) ar=if da a.at=true then(match cK b (ar++[a.at])with|some t=>some (.rc t)|none=>none)else none:=by rw[cK,if_neg (by rw[hx];decide),if_neg (by rw[hx];decide),if_pos hx]<;>cases cK b (ar++[a.at])<;>rfl
theorem iZ{x a b:E}(ar:List (List UInt8))(h1:x.at≠[43])(h2:x.at≠[42])(h3:x.at≠[114,101,99]):cK (.list [x,a,b]) ar=none:=by rw[cK,if_neg h1,if_neg h2,if_neg h3]
theorem CD:∀(e:E) (ar:List (List UInt8)) (a:AV),e.ok->dT a ar->ar.length+e.sz<100000->aq Tryz.prog 153 [e.cq,a] [] (bC (hZ (cK e ar)))
 |
  .atom s,ar,a,hok,ha,hl=>by
  simp only[E.sz]at hl
  refine Ly _ _ ((cN _).mpr trivial) ha.1 ?_
  have hd:=ns (.atom s)
  have hlen:=lK (.atom s)
  simp only[E.at]at hd
  simp only[Ei,↓zq,zs,af,zt,bC,cN,ej,hd,cK]
  refine⟨hlen,fun h=>⟨hlen,?_,?_⟩,fun h=>⟨hlen,fun h1=>⟨hlen,?_,?_⟩,fun h1=>⟨hlen,?_⟩⟩⟩
  ·rw[h];decide
  ·rw[if_pos h,h];rfl
  ·rw[h1];decide
  ·rw[if_neg h,if_pos h1,h1];rfl
  ·rw[if_neg h,if_neg h1]
   refine aj (DD s) ?_
   simp only[↓zq,zs,af]
   refine⟨fun hp=>⟨hlen,?_⟩,fun hp=>⟨hlen,?_⟩⟩
   ·rw[if_pos hp];rfl
   ·rw[if_neg (by rw[hp];simp)]
    refine aj (BZ s) ?_
    simp only[↓zq,zs,af,ha.len]
    refine⟨fun hq=>⟨ha.1,?_⟩,fun hq=>?_⟩
    ·rw[if_pos hq,wrap64 _ (by omega) (by omega)]
     refine jp (Jm (.atom s) a ar ha (by omega) ar.length (by omega)) (fun ys o e=>?_) (fun ys o e=>?_)
     ·simp only[E.at]at e
      cases hq2:bE s ar ar.length<;>rw[hq2]at e<;>cases e
      simp only[↓zq,zs,af,zt,cN,ej,hd]
      exact⟨hlen,rfl⟩
     ·simp only[E.at]at e
      cases hq2:bE s ar ar.length<;>rw[hq2]at e<;>cases e
      simp only[↓zq,zs,af,zt,LK.has]
      simp[hZ,Ty.av,af,LK.has]
    ·rw[if_neg (by rw[hq];simp)]
     refine aj (xu (.atom s) [43]) ?_
     simp only[↓zq,zs,af]
     refine⟨fun h=>(by simp at h),fun _=>?_⟩
     refine aj (xu (.atom s) [42]) ?_
     simp only[↓zq,zs,af]
     refine⟨fun h=>(by simp at h),fun _=>?_⟩
     refine aj (xu (.atom s) [114,101,99]) ?_
     simp only[↓zq,zs,af]
     refine⟨fun h=>(by simp at h),fun _=>?_⟩
     trivial
 |
  .list l,ar,a,hok,ha,hl=>by
  simp only[E.sz]at hl
  refine Ly _ _ ((cN _).mpr trivial) ha.1 ?_
  have hd:=ns (.list l)
  have hlen:=lK (.list l)
  simp only[E.at]at hd
  have hp:fj []=false:=rfl
  have hq:da []=false:=rfl
  simp only[Ei,↓zq,zs,af,zt,bC,cN,ej,hd]
  refine⟨hlen,fun h=>(by simp at h),fun h=>⟨hlen,fun h1=>(by simp at h1),fun h1=>⟨hlen,?_⟩⟩⟩
  refine aj (DD []) ?_
  simp only[↓zq,zs,af,hp]
  refine⟨fun h=>(by simp at h),fun _=>⟨hlen,?_⟩⟩
  refine aj (BZ []) ?_
  simp only[↓zq,zs,af,hq]
  refine⟨fun h=>(by simp at h),fun _=>?_⟩
  refine aj (xu (.list l) [43]) ?_
  match l,hok,hl with
  |
   [x,y,z],hok,hl =>
   simp only[E.jk]at hl
   obtain⟨ok1,ok2,ok3,_⟩:=hok
   have iy:=CD y ar a ok2 ha (by omega)
   have iz:=CD z ar a ok3 ha (by omega)
   have hds:((E.list [x,y,z]).cq.deref.drop 1).headD .any=.sl [[x.cq],[y.cq],[z.cq]]:=rfl
   have hdl:1<=((E.list [x,y,z]).cq.deref.drop 1).length:=by simp[E.cq,jH]
   have hxd:=ns x
   have hxl:=lK x
   have hyd:=ns y
   have hyl:=lK y
   have bin:∀(c:UInt8) (mkT:Ty->Ty->Ty),(∀t u:Ty,(mkT t u).av=.ptr [.v (.int .u8 (c.toNat:Int)),.v (.string (mk [])),.v (.int .i64 0),t.av,u.av])->x.at=[c]->bt (mk x.at) 0=(c.toNat:Int):=fun c _ _ hx=>by
    have:=lY x.at 0 (by rw[hx];simp)
    simp only[cL,dh]at this
    rw[this,hx];rfl
   simp only[↓zq,zs,af,zt,hds,hdl,cN,ej,toNat_one,be,hxd,hyd,qD]
   refine⟨fun hx=>?_,fun hx=>?_⟩
   ·refine⟨by omega,by omega,?_⟩
    refine aj iy ?_
    simp only[↓zq,zs,af,fD]
    refine⟨by omega,by omega,?_⟩
    refine aj iz ?_
    have hb:=bin 43 Ty.plus (fun _ _=>rfl) hx
    rw[kR ar hx]
    simp only[↓zq,zs,af,zt,fD]
    cases h1:cK y ar with
    |none=>simp[hZ,jI]
    |
     some t =>
     cases h2:cK z ar with
     |none=>simp[hZ,jI,fA]
     |
      some u =>
      simp only[hZ,fA,hb]
      refine⟨fun h=>(by cases h),fun _=>⟨fun h=>(by cases h),fun _=>⟨by omega,by omega,hxl,⟨by omega,by rw[hx];simp⟩,rfl⟩⟩⟩
   ·refine aj (xu (.list [x,y,z]) [42]) ?_
    simp only[↓zq,zs,af,hds,hdl,cN,ej,toNat_one,be,hxd,hyd,qD]
    refine⟨fun hx2=>?_,fun hx2=>?_⟩
    ·refine⟨by omega,by omega,?_⟩
     refine aj iy ?_
     simp only[↓zq,zs,af,fD]
     refine⟨by omega,by omega,?_⟩
     refine aj iz ?_
     have hb:=bin 42 Ty.times (fun _ _=>rfl) hx2
     rw[j2 ar hx2]
     simp only[↓zq,zs,af,zt,fD]
     cases h1:cK y ar with
     |none=>simp[hZ,jI]
     |
      some t =>
      cases h2:cK z ar with
      |none=>simp[hZ,jI,fA]
      |
       some u =>
       simp only[hZ,fA,hb]
       refine⟨fun h=>(by cases h),fun _=>⟨fun h=>(by cases h),fun _=>⟨by omega,by omega,hxl,⟨by omega,by rw[hx2];simp⟩,rfl⟩⟩⟩
    ·refine aj (xu (.list [x,y,z]) [114,101,99]) ?_
     simp only[↓zq,zs,af,zt,hds,hdl,cN,ej,toNat_one,be,hxd,hyd,qD]
     refine⟨fun hx3=>⟨by omega,by omega,hyl,?_⟩,fun hx3=>?_⟩
     ·refine aj (BZ y.at) ?_
      rw[mz ar hx3]
      simp only[↓zq,zs,af]
      have hal:cD 1 a.aR:=by rw[ha.2];exact kj ar
      have hal1:cD 1 [[AV.v (.string (mk y.at))]]:=fun c hc=>by simp at hc;rw[hc];rfl
      refine⟨fun hlo=>⟨by omega,by omega,⟨ha.1,hal,by rw[ha.len];omega⟩,by omega,by omega,hyl,⟨hal1,by rw[aT,ha.len];omega⟩,?_⟩,fun hlo=>?_⟩
      ·rw[aT,ha.2,yM,if_pos hlo]
       refine aj (CD z (ar++[y.at]) _ ok3 (.of _) (by simp;omega)) ?_
       simp only[↓zq,zs,af,fD]
       cases h2:cK z (ar++[y.at])with
       |none=>simp[hZ,jI]
       |
        some u =>
        simp only[hZ,fA]
        refine⟨fun h=>(by cases h),fun _=>rfl⟩
      ·rw[if_neg (by rw[hlo];simp)];rfl
     ·rw[iZ ar hx hx2 hx3];rfl
  |
   [],_,_ =>
   simp only[↓zq,zs,af]
   refine⟨fun h=>(by cases h),fun _=>?_⟩
   refine aj (xu (.list []) [42]) ?_
   simp only[↓zq,zs,af]
   refine⟨fun h=>(by cases h),fun _=>?_⟩
   refine aj (xu (.list []) [114,101,99]) ?_
   simp only[↓zq,zs,af]
   refine⟨fun h=>(by cases h),fun _=>?_⟩
   rfl
  |
   [x1],_,_ =>
   simp only[↓zq,zs,af]
   refine⟨fun h=>(by cases h),fun _=>?_⟩
   refine aj (xu (.list [x1]) [42]) ?_
   simp only[↓zq,zs,af]
   refine⟨fun h=>(by cases h),fun _=>?_⟩
   refine aj (xu (.list [x1]) [114,101,99]) ?_
   simp only[↓zq,zs,af]
   refine⟨fun h=>(by cases h),fun _=>?_⟩
   rfl
  |
   [x1,x2],_,_ =>
   simp only[↓zq,zs,af]
   refine⟨fun h=>(by cases h),fun _=>?_⟩
   refine aj (xu (.list [x1,x2]) [42]) ?_
   simp only[↓zq,zs,af]
   refine⟨fun h=>(by cases h),fun _=>?_⟩
   refine aj (xu (.list [x1,x2]) [114,101,99]) ?_
   simp only[↓zq,zs,af]
   refine⟨fun h=>(by cases h),fun _=>?_⟩
   rfl
  |
   x1::x2::x3::x4::l,_,_ =>
   simp only[↓zq,zs,af]
   refine⟨fun h=>(by cases h),fun _=>?_⟩
   refine aj (xu (.list (x1::x2::x3::x4::l)) [42]) ?_
   simp only[↓zq,zs,af]
   refine⟨fun h=>(by cases h),fun _=>?_⟩
   refine aj (xu (.list (x1::x2::x3::x4::l)) [114,101,99]) ?_
   simp only[↓zq,zs,af]
   refine⟨fun h=>(by cases h),fun _=>?_⟩
   rfl
end Go.Proofs.Trees
namespace Go.Proofs.Trees
open Go Go.VL
def dx(v:AV)(obs:List Ob):AV->List Ob->Prop:=fun r o=>r=v/\o=obs
theorem bi{P:Program}{n:Nat}{Q:Nat->List AV->List Ob->Prop}{f:Nat}{xs:List AV}{ins:List Ob}{k:AV->List Ob->Tree}{v:AV}{obs:List Ob}(h:aq P f xs ins (dx v obs))(hk:eU P n (k v obs) Q):eU P n (.call f xs ins k) Q :=
 ⟨dx v obs,h,⟨v,obs,rfl,rfl⟩,fun r o ⟨h1,h2⟩=>by rw[h1,h2];exact hk⟩
def Ty.aC:Ty->Nat
 | .plus a b=>1+a.aC+b.aC
 | .times a b=>1+a.aC+b.aC
 | .rc a=>2+a.aC
 |_=>1
theorem DZ:∀(t:Ty),t.aC<1000000->aq Tryz.prog 154 [t.av] [] (bC (.v (.int .i64 (t.aC:Int))))
 | .zero,h=>by refine wO _ ((aG _).mpr trivial) ?_;simp[D3,Ty.av,↓zq,zs,af,bC,Ty.aC]
 | .one,h=>by refine wO _ ((aG _).mpr trivial) ?_;simp[D3,Ty.av,↓zq,zs,af,bC,Ty.aC]
 | .name s,h=>by refine wO _ ((aG _).mpr trivial) ?_;simp[D3,Ty.av,↓zq,zs,af,bC,Ty.aC]
 | .bH u,h=>by refine wO _ ((aG _).mpr trivial) ?_;simp[D3,Ty.av,↓zq,zs,af,bC,Ty.aC]
 |
  .plus a b,h=>by
  simp only[Ty.aC]at h
  refine wO _ ((aG _).mpr trivial) ?_
  simp only[D3,Ty.av,↓zq,zs,af,aG]
  refine⟨by omega,fun _=>⟨by omega,?_⟩,fun h=>absurd rfl h⟩
  refine aj (DZ a (by omega)) ?_
  simp only[↓zq,zs,af,aG]
  refine⟨by omega,?_⟩
  refine aj (DZ b (by omega)) ?_
  simp only[↓zq,zs,af,bC,Ty.aC]
  rw[wrap64 (1+(a.aC:Int)) (by omega) (by omega),wrap64 _ (by omega) (by omega)]
  congr 2
 |
  .times a b,h=>by
  simp only[Ty.aC]at h
  refine wO _ ((aG _).mpr trivial) ?_
  simp only[D3,Ty.av,↓zq,zs,af,aG]
  refine⟨by omega,fun h=>by omega,fun _=>⟨fun _=>⟨by omega,?_⟩,fun h=>absurd rfl h⟩⟩
  refine aj (DZ a (by omega)) ?_
  simp only[↓zq,zs,af,aG]
  refine⟨by omega,?_⟩
  refine aj (DZ b (by omega)) ?_
  simp only[↓zq,zs,af,bC,Ty.aC]
  rw[wrap64 (1+(a.aC:Int)) (by omega) (by omega),wrap64 _ (by omega) (by omega)]
  congr 2
 |
  .rc a,h=>by
  simp only[Ty.aC]at h
  refine wO _ ((aG _).mpr trivial) ?_
  simp only[D3,Ty.av,↓zq,zs,af,aG]
  refine⟨by omega,fun h=>by omega,fun _=>⟨fun h=>by omega,fun _=>⟨fun _=>⟨by omega,?_⟩,fun h=>absurd rfl h⟩⟩⟩
  refine aj (DZ a (by omega)) ?_
  simp only[↓zq,zs,af,bC,Ty.aC]
  rw[wrap64 _ (by omega) (by omega)]
  congr 2
theorem iX:∀(e:E) (ar:List (List UInt8)) (t:Ty),cK e ar=some t->t.aC<=e.sz
 |
  .atom s,ar,t,h=>by
  simp only[cK]at h
  simp only[E.sz]
  split at h
  ·cases h;simp[Ty.aC]
  ·split at h
   ·cases h;simp[Ty.aC]
   ·split at h
    ·cases h;simp[Ty.aC]
    ·split at h
     ·split at h<;>cases h<;>simp[Ty.aC]
     ·cases h
 |
  .list [x,a,b],ar,t,h=>by
  have hs:∀e:E,1<=e.sz:=fun e=>by cases e<;>simp[E.sz];try omega
  have hx:=hs x
  have ha:=hs a
  simp only[E.sz,E.jk]
  by_cases h1:x.at=[43]
  ·rw[kR ar h1]at h
   split at h
   ·rename_i t1 t2 e1 e2
    cases h
    have:=iX a ar t1 e1
    have:=iX b ar t2 e2
    simp only[Ty.aC];omega
   ·cases h
  ·by_cases h2:x.at=[42]
   ·rw[j2 ar h2]at h
    split at h
    ·rename_i t1 t2 e1 e2
     cases h
     have:=iX a ar t1 e1
     have:=iX b ar t2 e2
     simp only[Ty.aC];omega
    ·cases h
   ·by_cases h3:x.at=[114,101,99]
    ·rw[mz ar h3]at h
     split at h
     ·split at h
      ·rename_i t1 e1
       cases h
       have:=iX b _ t1 e1
       simp only[Ty.aC];omega
      ·cases h
     ·cases h
    ·rw[iZ ar h1 h2 h3]at h;cases h
 | .list [],_,_,h=>by cases h
 | .list [_],_,_,h=>by cases h
 | .list [_,_],_,_,h=>by cases h
 | .list (_::_::_::_::_),_,_,h=>by cases h
def py(s:List UInt8):Option Ty:=match qn s with
 |none=>none
 |
  some e=>match cK e []with
  |none=>none
  |some t=>if t.aC>400 then none else some t
theorem Fc(s:List UInt8):aq Tryz.prog 121 [.v (.string (mk s))] [] (bC (hZ (py s))):=by
 refine MI _ ?_
 unfold K1
 refine aj (Ja s) ?_
 unfold py
 cases he:qn s with
 |none=>simp only[ub,↓zq,zs,af,bC,hZ];simp
 |
  some e =>
  obtain⟨h1,h2⟩:=nK he
  simp only[ub,↓zq,zs,af,cN,ej]
  refine⟨fun h=>(by cases h),fun _=>?_⟩
  refine aj (CD e [] _ h1 .nil (by simp;omega)) ?_
  cases ht:cK e []with
  |none=>simp only[hZ,↓zq,zs,af,bC];simp
  |
   some t =>
   have:=iX e [] t ht
   simp only[hZ,↓zq,zs,af,aG,fA]
   refine⟨fun h=>(by cases h),fun _=>?_⟩
   refine aj (DZ t (by omega)) ?_
   simp only[↓zq,zs,af,bC]
   refine⟨fun h=>?_,fun h=>?_⟩
   ·rw[if_pos (by omega)]
   ·rw[if_neg (by omega)]
end Go.Proofs.Trees
namespace Go.Proofs.Trees
open Go Go.VL
def AG(p:Prop):Nat->List AV->List Ob->Prop:=fun t ys o=>(t=1/\¬p/\ys=[]/\o=[])\/(t=2/\p/\∃j:Nat,ys=[.v (.int .i64 (j:Int))]/\o=[])
theorem LW(l:List (List UInt8))(a:AV)(ha:dT a l)(s:List UInt8)(hl:l.length<1000000):∀(k i:Nat),i+k=l.length->s∉l.take i->EW [a,.v (.string (mk s)),.v (.int .i64 (l.length:Int)),.v (.int .i64 (i:Int))] []
 (AG (s∈l))
 |
  0,i,hi,hn=>by
  refine IU _ _ _ _ ?_
  simp only[G8,↓zq,zs,af]
  have:l.take i=l:=List.take_of_length_le (by omega)
  rw[this]at hn
  exact⟨ha.1,fun h=>by omega,fun _=>.inl ⟨rfl,hn,rfl,rfl⟩⟩
 |
  k+1,i,hi,hn=>by
  have hlt:i<l.length:=by omega
  refine IU _ _ _ _ ?_
  simp only[G8,↓zq,zs,af,zt,ha.len,ha.idx hlt]
  have hm:l.getD i []∈l:=by simp[aa,hlt]
  refine⟨ha.1,fun _=>⟨⟨ha.1,by omega,by omega⟩,by omega,fun h=>?_,fun h=>?_⟩,fun h=>by omega⟩
  ·exact .inr ⟨rfl,by rw[h];exact hm,i,rfl,rfl⟩
  ·rw[bA i (by omega)]
   refine LW l a ha s hl k (i+1) (by omega) ?_
   rw[List.take_add_one]
   simp only[aK,not_or]
   refine⟨hn,?_⟩
   have:l[i]?=some (l.getD i []):=by simp[aa,hlt]
   rw[this];simpa using h
theorem Ie(l:List (List UInt8))(a:AV)(ha:dT a l)(s:List UInt8)(hl:l.length<1000000):aq Tryz.prog 185 [a,.v (.string (mk s))] [] (bC (.v (.bool (decide (s∈l))))):=by
 have hI:aq Tryz.prog 202 [a,.v (.string (mk s))] [] (fun r o=>∃n:Int,r=.v (.int .i64 n)/\(0<=n↔s∈l)/\o=[]):=by
  refine NV _ _ ha.1 ?_
  simp only[JD,↓zq,zs,af,ha.len]
  refine⟨ha.1,n7 (LW l a ha s hl l.length 0 (by omega) (by simp)) ?_ ?_⟩
  ·rintro ys o (⟨_,h1,rfl,rfl⟩|⟨h,_⟩)
   ·simp only[↓zq,zs,af]
    exact⟨-1,rfl,⟨fun h=>(by omega),fun h=>absurd h h1⟩⟩
   ·cases h
  ·rintro ys o (⟨h,_⟩|⟨_,h1,j,rfl,rfl⟩)
   ·cases h
   ·simp only[↓zq,zs,af]
    exact⟨j,rfl,⟨fun _=>h1,fun _=>(by omega)⟩⟩
 refine Oo _ _ ha.1 ?_
 unfold LN
 refine aP hI ⟨.v (.int .i64 (if s∈l then 0 else -1)),[],_,rfl,by split<;>simp_all,rfl⟩ ?_
 rintro r o ⟨n,rfl,hn,rfl⟩
 simp only[↓zq,zs,af,bC]
 congr 2
 rw[cu];simp[hn]
def pj(out:List (List UInt8)):Ty->List (List UInt8)
 | .name s=>if s∈out then out else out++[s]
 |_=>out
theorem GR(t:Ty)(out:List (List UInt8))(hl:out.length<100000):aq Tryz.prog 189 [t.av,.ref 0 0] [.cells [.vec 1],.vec 1 (ck out)] (dx .any [.cells [.vec 1],.vec 1 (ck (pj out t))]):=by
 refine MZ _ _ ((aG _).mpr trivial) ?_
 have hlen:(ck out).length=out.length:=by simp[ck]
 cases t with
 |
  name s =>
  simp only[FK,Ty.av,↓zq,zs,af,dx,hlen]
  refine⟨by omega,fun _=>⟨by omega,?_⟩,fun h=>absurd rfl h⟩
  refine aj (Ie out _ (.of out) s (by omega)) ?_
  simp only[↓zq,zs,af,pj]
  refine⟨fun h=>⟨by omega,⟨fun c hc=>(by simp at hc;rw[hc];rfl),by omega⟩,?_⟩,fun h=>?_⟩
  ·rw[yM,if_neg h]
  ·rw[if_pos h]
 |_=>simp[FK,Ty.av,↓zq,zs,af,dx,pj]
def bD:Ty->List (List UInt8)->List (List UInt8)
 | .name s,out=>pj out (.name s)
 | .plus a b,out=>bD b (bD a out)
 | .times a b,out=>bD b (bD a out)
 | .rc a,out=>bD a out
 |_,out=>out
theorem eB:∀(t:Ty) (out:List (List UInt8)),(bD t out).length<=out.length+t.aC
 | .name s,out=>by simp only[bD,pj,Ty.aC];split<;>simp
 |
  .plus a b,out=>by
  have:=eB a out
  have:=eB b (bD a out)
  simp only[bD,Ty.aC];omega
 |
  .times a b,out=>by
  have:=eB a out
  have:=eB b (bD a out)
  simp only[bD,Ty.aC];omega
 |
  .rc a,out=>by
  have:=eB a out
  simp only[bD,Ty.aC];omega
 | .zero,out=>by simp[bD]
 | .one,out=>by simp[bD]
 | .bH u,out=>by simp[bD]
theorem yA:∀(t:Ty) (out:List (List UInt8)),out.length+t.aC<100000->aq Tryz.prog 91 [t.av,.fn 189 [.ref 0 0]] [.cells [.vec 1],.vec 1 (ck out)] (dx .any [.cells [.vec 1],.vec 1 (ck (bD t out))])
 |
  .plus a b,out,hl=>by
  simp only[Ty.aC]at hl
  have:=eB a out
  refine Ha _ _ ((aG _).mpr trivial) ?_
  unfold DQ
  refine bi (GR (.plus a b) out (by omega)) ?_
  simp only[Ty.av,↓zq,zs,af,aG,fA,pj,aM,dx]
  refine⟨by omega,fun _=>⟨by omega,?_⟩,fun h=>(by cases h)⟩
  refine bi (yA a out (by omega)) ?_
  simp only[↓zq,zs,af,aG,fA,aM]
  refine⟨by omega,fun _=>⟨by omega,?_⟩,fun h=>(by cases h)⟩
  refine bi (yA b (bD a out) (by omega)) ?_
  simp only[↓zq,zs,af,aM,bD]
 |
  .times a b,out,hl=>by
  simp only[Ty.aC]at hl
  have:=eB a out
  refine Ha _ _ ((aG _).mpr trivial) ?_
  unfold DQ
  refine bi (GR (.times a b) out (by omega)) ?_
  simp only[Ty.av,↓zq,zs,af,aG,fA,pj,aM,dx]
  refine⟨by omega,fun _=>⟨by omega,?_⟩,fun h=>(by cases h)⟩
  refine bi (yA a out (by omega)) ?_
  simp only[↓zq,zs,af,aG,fA,aM]
  refine⟨by omega,fun _=>⟨by omega,?_⟩,fun h=>(by cases h)⟩
  refine bi (yA b (bD a out) (by omega)) ?_
  simp only[↓zq,zs,af,aM,bD]
 |
  .rc a,out,hl=>by
  simp only[Ty.aC]at hl
  refine Ha _ _ ((aG _).mpr trivial) ?_
  unfold DQ
  refine bi (GR (.rc a) out (by omega)) ?_
  simp only[Ty.av,↓zq,zs,af,aG,fA,pj,aM,dx]
  refine⟨by omega,fun _=>⟨by omega,?_⟩,fun h=>(by cases h)⟩
  refine bi (yA a out (by omega)) ?_
  simp[↓zq,zs,af,aG,fA,aM,bD]
 |
  .name s,out,hl=>by
  refine Ha _ _ ((aG _).mpr trivial) ?_
  unfold DQ
  refine bi (GR (.name s) out (by omega)) ?_
  simp[Ty.av,↓zq,zs,af,aM,dx,bD]
 |
  .zero,out,hl=>by
  refine Ha _ _ ((aG _).mpr trivial) ?_
  unfold DQ
  refine bi (GR .zero out (by omega)) ?_
  simp[Ty.av,↓zq,zs,af,aM,dx,bD,pj]
 |
  .one,out,hl=>by
  refine Ha _ _ ((aG _).mpr trivial) ?_
  unfold DQ
  refine bi (GR .one out (by omega)) ?_
  simp[Ty.av,↓zq,zs,af,aM,dx,bD,pj]
 |
  .bH u,out,hl=>by
  refine Ha _ _ ((aG _).mpr trivial) ?_
  unfold DQ
  refine bi (GR (.bH u) out (by omega)) ?_
  simp[Ty.av,↓zq,zs,af,aM,dx,bD,pj]
theorem IK(t:Ty)(hl:t.aC<100000):aq Tryz.prog 165 [t.av] [] (bC (.sl (ck (bD t [])))):=by
 refine PA _ ((aG _).mpr trivial) ?_
 unfold Jg
 refine bi (yA t [] (by simpa using hl)) ?_
 simp[↓zq,zs,af,aM,bC]
theorem Ir(l:List (List UInt8))(a:AV)(ha:dT a l)(hl:l.length<1000000):∀(k i:Nat),i+k=l.length->(∀s,s∈l.take i->da s=false)->GG [a,.v (.func (.func 166) #[] #[]),.v (.int .i64 (l.length:Int)),.v (.int .i64 (i:Int))] []
 (AG (l.any da=true))
 |
  0,i,hi,hn=>by
  refine JL _ _ _ ?_
  simp only[Ey,↓zq,zs,af]
  have:l.take i=l:=List.take_of_length_le (by omega)
  rw[this]at hn
  exact⟨ha.1,fun h=>by omega,fun _=>.inl ⟨rfl,fun hh=>(by obtain⟨x,hx,hy⟩:=bS.1 hh;rw[hn x hx]at hy;cases hy),rfl,rfl⟩⟩
 |
  k+1,i,hi,hn=>by
  have hlt:i<l.length:=by omega
  refine JL _ _ _ ?_
  simp only[Ey,↓zq,zs,af,zt,ha.len,ha.idx hlt]
  have hm:l.getD i []∈l:=by simp[aa,hlt]
  refine⟨ha.1,fun _=>⟨⟨ha.1,by omega,by omega⟩,by omega,?_⟩,fun h=>by omega⟩
  refine aj (BZ _) ?_
  simp only[↓zq,zs,af]
  refine⟨fun h=>?_,fun h=>?_⟩
  ·exact .inr ⟨rfl,bS.2 ⟨_,hm,h⟩,i,rfl,rfl⟩
  ·rw[bA i (by omega)]
   refine Ir l a ha hl k (i+1) (by omega) ?_
   intro s hs
   rw[List.take_add_one]at hs
   have:l[i]?=some (l.getD i []):=by simp[aa,hlt]
   rw[this]at hs
   rcases aK.1 hs with hs|hs
   ·exact hn s hs
   ·simp at hs;rw[hs];simpa using h
theorem MN(l:List (List UInt8))(a:AV)(ha:dT a l)(hl:l.length<1000000):aq Tryz.prog 164 [a,.v (.func (.func 166) #[] #[])] [] (bC (.v (.bool (l.any da)))):=by
 have hI:aq Tryz.prog 188 [a,.v (.func (.func 166) #[] #[])] [] (fun r o=>∃n:Int,r=.v (.int .i64 n)/\(0<=n↔l.any da=true)/\o=[]):=by
  refine Pw _ ha.1 ?_
  simp only[JK,↓zq,zs,af,ha.len]
  refine⟨ha.1,n7 (Ir l a ha hl l.length 0 (by omega) (by simp)) ?_ ?_⟩
  ·rintro ys o (⟨_,h1,rfl,rfl⟩|⟨h,_⟩)
   ·simp only[↓zq,zs,af]
    exact⟨-1,rfl,⟨fun h=>(by omega),fun h=>absurd h h1⟩⟩
   ·cases h
  ·rintro ys o (⟨h,_⟩|⟨_,h1,j,rfl,rfl⟩)
   ·cases h
   ·simp only[↓zq,zs,af]
    exact⟨j,rfl,⟨fun _=>h1,fun _=>(by omega)⟩⟩
 refine OZ _ ha.1 ?_
 unfold I3
 refine aP hI ⟨.v (.int .i64 (if l.any da=true then 0 else -1)),[],_,rfl,by split<;>simp_all,rfl⟩ ?_
 rintro r o ⟨n,rfl,hn,rfl⟩
 simp only[↓zq,zs,af,bC]
 congr 2
 rw[cu];simp only[decide_eq_true_eq,ge_iff_le,hn]
def Ty.closed(t:Ty):Bool:=!((bD t []).any da)
theorem Py(t:Ty)(hl:t.aC<100000):aq Tryz.prog 132 [t.av] [] (bC (.v (.bool t.closed))):=by
 refine N4 _ ((aG _).mpr trivial) ?_
 unfold Kt
 refine aj (IK t hl) ?_
 simp only[↓zq,zs,af]
 have:=eB t []
 refine aj (MN _ _ (.of _) (by simp at this;omega)) ?_
 simp only[↓zq,zs,af,bC,Ty.closed]
def qz(s:List UInt8):Option Ty:=match py s with
 |none=>none
 |some t=>if t.closed=true then some t else none
theorem sw{s:List UInt8}{t:Ty}(h:py s=some t):t.aC<=400:=by
 unfold py at h
 split at h
 ·cases h
 ·split at h
  ·cases h
  ·split at h<;>cases h
   omega
theorem La(s:List UInt8):aq Tryz.prog 79 [.v (.string (mk s))] [] (bC (hZ (qz s))):=by
 refine OW _ ?_
 unfold HD
 refine aj (Fc s) ?_
 unfold qz
 cases ht:py s with
 |none=>simp[hZ,↓zq,zs,af,bC]
 |
  some t =>
  have:=sw ht
  simp only[hZ,↓zq,zs,af,aG,fA]
  refine⟨fun h=>(by cases h),fun _=>?_⟩
  refine aj (Py t (by omega)) ?_
  simp only[↓zq,zs,af,bC]
  refine⟨fun h=>?_,fun h=>?_⟩
  ·rw[if_neg (by rw[h];simp)]
  ·rw[if_pos h]
end Go.Proofs.Trees
namespace Go.Proofs.Trees
open Go Go.VL Go.RowKit
abbrev Nm:=List UInt8
def dE(u:Ty):Ty->Nat->Ty
 | .bH k,i=>if k=i then u else .bH k
 | .plus a b,i=>.plus (dE u a i) (dE u b i)
 | .times a b,i=>.times (dE u a i) (dE u b i)
 | .rc a,i=>.rc (dE u a (i+1))
 |t,_=>t
def sub(x:Nm)(u:Ty):Ty->Ty
 | .name s=>if s=x then u else .name s
 | .plus a b=>.plus (sub x u a) (sub x u b)
 | .times a b=>.times (sub x u a) (sub x u b)
 | .rc a=>.rc (sub x u a)
 |t=>t
def bh(x:Nm):Ty->Bool
 | .name s=>decide (s=x)
 | .plus a b=>bh x a||bh x b
 | .times a b=>bh x a||bh x b
 | .rc a=>bh x a
 |_=>false
def jK(f:Nm->Nm):Ty->Ty
 | .name s=>.name (f s)
 | .plus a b=>.plus (jK f a) (jK f b)
 | .times a b=>.times (jK f a) (jK f b)
 | .rc a=>.rc (jK f a)
 |t=>t
def IW(f:Nm->Nm):Prop:=∀x y,f x=f y->x=y
theorem lf(f:Nm->Nm)(x:Nm):∀(t:Ty) (i:Nat),jK f (dE (.name x) t i)=dE (.name (f x)) (jK f t) i
 | .bH k,i=>by simp only[dE,jK];split<;>rfl
 | .plus a b,i=>by simp only[dE,jK,lf f x a i,lf f x b i]
 | .times a b,i=>by simp only[dE,jK,lf f x a i,lf f x b i]
 | .rc a,i=>by simp only[dE,jK,lf f x a (i+1)]
 | .zero,i=>rfl
 | .one,i=>rfl
 | .name s,i=>rfl
theorem lG{f:Nm->Nm}(hf:IW f)(x:Nm)(u:Ty):∀t:Ty,jK f (sub x u t)=sub (f x) (jK f u) (jK f t)
 |
  .name s=>by
  simp only[sub,jK]
  by_cases h:s=x
  ·subst h;simp
  ·rw[if_neg h,if_neg fun e=>h (hf _ _ e)];rfl
 | .plus a b=>by simp only[sub,jK,lG hf x u a,lG hf x u b]
 | .times a b=>by simp only[sub,jK,lG hf x u a,lG hf x u b]
 | .rc a=>by simp only[sub,jK,lG hf x u a]
 | .zero=>rfl
 | .one=>rfl
 | .bH k=>rfl
theorem mL{f:Nm->Nm}(hf:IW f)(x:Nm):∀t:Ty,bh (f x) (jK f t)=bh x t
 | .name s=>by simp only[bh,jK];rw[cu];simp only[decide_eq_true_eq];exact⟨fun e=>hf _ _ e,fun e=>by rw[e]⟩
 | .plus a b=>by simp only[bh,jK,mL hf x a,mL hf x b]
 | .times a b=>by simp only[bh,jK,mL hf x a,mL hf x b]
 | .rc a=>by simp only[bh,jK,mL hf x a]
 | .zero=>rfl
 | .one=>rfl
 | .bH k=>rfl
theorem gX(f:Nm->Nm):∀t:Ty,(jK f t).aC=t.aC
 | .plus a b=>by simp only[Ty.aC,jK,gX f a,gX f b]
 | .times a b=>by simp only[Ty.aC,jK,gX f a,gX f b]
 | .rc a=>by simp only[Ty.aC,jK,gX f a]
 | .name s=>rfl
 | .zero=>rfl
 | .one=>rfl
 | .bH k=>rfl
theorem oW{f:Nm->Nm}:∀t:Ty,(∀x,bh x t=true->f x=x)->jK f t=t
 | .name s,h=>by simp only[jK];rw[h s (by simp[bh])]
 | .plus a b,h=>by simp only[jK];rw[oW a fun x hx=>h x (by simp[bh,hx]),oW b fun x hx=>h x (by simp[bh,hx])]
 | .times a b,h=>by simp only[jK];rw[oW a fun x hx=>h x (by simp[bh,hx]),oW b fun x hx=>h x (by simp[bh,hx])]
 | .rc a,h=>by simp only[jK];rw[oW a fun x hx=>h x hx]
 | .zero,_=>rfl
 | .one,_=>rfl
 | .bH k,_=>rfl
theorem ga(x:Nm):∀(t:Ty) (i:Nat),(dE (.name x) t i).aC=t.aC
 | .bH k,i=>by simp only[dE];split<;>rfl
 | .plus a b,i=>by simp only[dE,Ty.aC,ga x a i,ga x b i]
 | .times a b,i=>by simp only[dE,Ty.aC,ga x a i,ga x b i]
 | .rc a,i=>by simp only[dE,Ty.aC,ga x a (i+1)]
 | .zero,i=>rfl
 | .one,i=>rfl
 | .name s,i=>rfl
theorem ek(t:Ty):1<=t.aC:=by cases t<;>simp only[Ty.aC]<;>omega
theorem gO(x:Nm)(u:Ty):∀t:Ty,t.aC<=(sub x u t).aC
 | .name s=>by simp only[sub];split<;>simp only[Ty.aC];exact ek u;omega
 | .plus a b=>by have:=gO x u a;have:=gO x u b;simp only[sub,Ty.aC];omega
 | .times a b=>by have:=gO x u a;have:=gO x u b;simp only[sub,Ty.aC];omega
 | .rc a=>by have:=gO x u a;simp only[sub,Ty.aC];omega
 | .zero=>ap _
 | .one=>ap _
 | .bH k=>ap _
theorem iv{x y:Nm}:∀(t:Ty) (i:Nat),bh y (dE (.name x) t i)=true->y=x\/bh y t=true
 |
  .bH k,i,h=>by
  simp only[dE]at h
  split at h
  ·left;simp only[bh,decide_eq_true_eq]at h;exact h.symm
  ·cases h
 |
  .plus a b,i,h=>by
  simp only[dE,bh,bn]at h |-
  rcases h with h|h
  ·rcases iv a i h with h|h<;>simp[h]
  ·rcases iv b i h with h|h<;>simp[h]
 |
  .times a b,i,h=>by
  simp only[dE,bh,bn]at h |-
  rcases h with h|h
  ·rcases iv a i h with h|h<;>simp[h]
  ·rcases iv b i h with h|h<;>simp[h]
 | .rc a,i,h=>iv a (i+1) h
 | .zero,i,h=>by cases h
 | .one,i,h=>by cases h
 | .name s,i,h=>.inr h
theorem jf{x y:Nm}{u:Ty}:∀t:Ty,bh y (sub x u t)=true->bh y u=true\/(y≠x/\bh y t=true)
 |
  .name s,h=>by
  simp only[sub]at h
  split at h
  ·exact .inl h
  ·rename_i hs
   simp only[bh,decide_eq_true_eq]at h
   subst h
   exact .inr ⟨hs,by simp[bh]⟩
 |
  .plus a b,h=>by
  simp only[sub,bh,bn]at h |-
  rcases h with h|h
  ·rcases jf a h with h|h<;>simp[h]
  ·rcases jf b h with h|h<;>simp[h]
 |
  .times a b,h=>by
  simp only[sub,bh,bn]at h |-
  rcases h with h|h
  ·rcases jf a h with h|h<;>simp[h]
  ·rcases jf b h with h|h<;>simp[h]
 |
  .rc a,h=>by
  simp only[sub,bh]at h |-
  exact jf a h
 | .zero,h=>by cases h
 | .one,h=>by cases h
 | .bH k,h=>by cases h
def swp(x y:Nm):Nm->Nm:=fun s=>if s=x then y else if s=y then x else s
theorem yl(x y:Nm):IW (swp x y):=by
 intro a b h
 unfold swp at h
 by_cases h1:a=x<;>by_cases h2:a=y<;>by_cases h3:b=x<;>by_cases h4:b=y<;>simp_all
theorem wQ(x y:Nm):swp x y x=y:=by simp[swp]
theorem Ad{x y s:Nm}(h:s≠x)(h':s≠y):swp x y s=s:=by simp[swp,h,h']
theorem s7{x y:Nm}{t:Ty}(h:bh x t=false)(h':bh y t=false):jK (swp x y) t=t :=
 oW t fun z hz=>Ad (fun e=>by subst e;rw[h]at hz;cases hz) (fun e=>by subst e;rw[h']at hz;cases hz)
def pw(a:Ty)(x:Nm)(c d:Ty):Ty:=.rc (.plus (sub x (.rc a) c) (.times (sub x (.rc a) d) (.bH 0)))
inductive Dv:Ty->Nm->Ty->Prop
 |zero (s):Dv .zero s .zero
 |one (s):Dv .one s .zero
 |bH (k s):Dv (.bH k) s .zero
 |hit (s):Dv (.name s) s .one
 |qg {n s} (h:n≠s):Dv (.name n) s .zero
 |plus {a b s a' b'} (h1:Dv a s a') (h2:Dv b s b') (hl:(Ty.plus a' b').aC<=400):Dv (.plus a b) s (.plus a' b')
 |times {a b s a' b'} (h1:Dv a s a') (h2:Dv b s b') (hl:(Ty.plus (.times a' b) (.times a b')).aC<=400):Dv (.times a b) s (.plus (.times a' b) (.times a b'))
 |rc {a s c d} (x:Nm) (hx:bh x a=false) (hs:x≠s) (h1:Dv (dE (.name x) a 0) s c) (h2:Dv (dE (.name x) a 0) x d) (hl:(pw a x c d).aC<=400):Dv (.rc a) s (pw a x c d)
theorem ym{f:Nm->Nm}(hf:IW f)(a:Ty)(x:Nm)(c d:Ty):jK f (pw a x c d)=pw (jK f a) (f x) (jK f c) (jK f d):=by
 simp only[pw,jK,lG hf]
theorem Dv.jK{f:Nm->Nm}(hf:IW f){t d:Ty}{s:Nm}(h:Dv t s d):Dv (jK f t) (f s) (jK f d):=by
 induction h with
 |zero s=>exact .zero _
 |one s=>exact .one _
 |bH k s=>exact .bH _ _
 |hit s=>exact .hit _
 |qg h=>exact .qg fun e=>h (hf _ _ e)
 |plus h1 h2 hl i1 i2=>exact .plus i1 i2 (by rw[<-gX f]at hl;exact hl)
 |times h1 h2 hl i1 i2=>exact .times i1 i2 (by rw[<-gX f]at hl;exact hl)
 |
  rc x hx hs h1 h2 hl i1 i2 =>
  rw[ym hf]
  rw[lf]at i1 i2
  exact .rc (f x) (by rw[mL hf];exact hx) (fun e=>hs (hf _ _ e)) i1 i2 (by rw[<-ym hf,gX];exact hl)
theorem Dv.names{t d:Ty}{s:Nm}(h:Dv t s d):∀y,bh y d=true->bh y t=true:=by
 induction h with
 |zero s=>intro y hy;cases hy
 |one s=>intro y hy;cases hy
 |bH k s=>intro y hy;cases hy
 |hit s=>intro y hy;cases hy
 |qg h=>intro y hy;cases hy
 |
  plus h1 h2 hl i1 i2 =>
  intro y hy
  simp only[bh,bn]at hy |-
  rcases hy with hy|hy
  ·exact .inl (i1 y hy)
  ·exact .inr (i2 y hy)
 |
  times h1 h2 hl i1 i2 =>
  intro y hy
  simp only[bh,bn]at hy |-
  rcases hy with(hy|hy)|(hy|hy)
  ·exact .inl (i1 y hy)
  ·exact .inr hy
  ·exact .inl hy
  ·exact .inr (i2 y hy)
 |
  rc x hx hs h1 h2 hl i1 i2 =>
  intro y hy
  simp only[pw,bh,bn,Bool.or_false]at hy |-
  have key:∀{a c:Ty},(∀y,bh y c=true->bh y (dE (.name x) a 0)=true)->bh y (sub x (.rc a) c)=true->bh y a=true:=fun i h=>by
   rcases jf _ h with h|⟨h,h'⟩
   ·exact h
   ·rcases iv _ _ (i y h')with e|e
    ·exact absurd e h
    ·exact e
  rcases hy with hy|hy
  ·exact key i1 hy
  ·exact key i2 hy
theorem Dv.fresh{t d:Ty}{s y:Nm}(h:Dv t s d)(hy:bh y t=false):bh y d=false:=by
 cases e:bh y d with
 |false=>rfl
 |true=>rw[h.names y e]at hy;cases hy
theorem Dv.move{a c:Ty}{x y s:Nm}(hx:bh x a=false)(hy:bh y a=false)(h:Dv (dE (.name x) a 0) s c):Dv (dE (.name y) a 0) (swp x y s) (Go.Proofs.Trees.jK (swp x y) c):=by
 have:=h.jK (yl x y)
 rw[lf,wQ,s7 hx hy]at this
 exact this
theorem nT{a c:Ty}{x y s:Nm}(hx:bh x a=false)(hy:bh y a=false)(h:Dv (dE (.name x) a 0) s c):sub y (.rc a) (jK (swp x y) c)=sub x (.rc a) c:=by
 have e:=lG (yl x y) x (.rc a) c
 rw[wQ,s7 (t:=.rc a) hx hy]at e
 rw[<-e]
 have key:∀z,(z=x\/z=y)->bh z (sub x (.rc a) c)=false:=fun z hz=>by
  cases q:bh z (sub x (.rc a) c)with
  |false=>rfl
  |
   true =>
   exfalso
   have hz':bh z a=false:=by rcases hz with rfl|rfl<;>assumption
   rcases jf _ q with h1|⟨h1,h2⟩
   ·rw[show bh z (.rc a)=bh z a from rfl,hz']at h1;cases h1
   ·rcases iv _ _ (h.names z h2)with e|e
    ·exact h1 e
    ·rw[hz']at e;cases e
 exact s7 (key x (.inl rfl)) (key y (.inr rfl))
theorem Dv.vZ:∀(n:Nat) (t:Ty),t.aC<=n->∀{s:Nm} {d d':Ty},Dv t s d->Dv t s d'->d=d'
 |0,t,h,_,_,_,_,_=>by have:=ek t;omega
 |
  n+1,t,hn,s,d,d',h,h'=>by
  cases h with
  |zero=>cases h';rfl
  |one=>cases h';rfl
  |bH=>cases h';rfl
  |
   hit =>
   cases h' with
   |hit=>rfl
   |qg h=>exact absurd rfl h
  |
   qg h =>
   cases h' with
   |hit=>exact absurd rfl h
   |qg _=>rfl
  |
   plus h1 h2 =>
   simp only[Ty.aC]at hn
   cases h' with
   |plus g1 g2=>rw[Dv.vZ n _ (by omega) h1 g1,Dv.vZ n _ (by omega) h2 g2]
  |
   times h1 h2 =>
   simp only[Ty.aC]at hn
   cases h' with
   |times g1 g2=>rw[Dv.vZ n _ (by omega) h1 g1,Dv.vZ n _ (by omega) h2 g2]
  |
   rc x hx hs h1 h2 =>
   simp only[Ty.aC]at hn
   cases h' with
   |
    rc y hy hs' g1 g2 =>
    rename_i a _ _ _ _ _ _
    have m1:=h1.move hx hy
    have m2:=h2.move hx hy
    rw[Ad (Ne.symm hs) (Ne.symm hs')]at m1
    rw[wQ]at m2
    have e1:=Dv.vZ n _ (by rw[ga];omega) m1 g1
    have e2:=Dv.vZ n _ (by rw[ga];omega) m2 g2
    rw[pw,pw,<-e1,<-e2,nT hx hy h1,nT hx hy h2]
theorem Dv.small{t d:Ty}{s:Nm}(h:Dv t s d):d.aC<=400:=by
 cases h<;>first|assumption|simp[Ty.aC]
open Classical in
noncomputable def j5 (t:Ty) (s:Nm):Option Ty:=if h:∃d,Dv t s d then some (Classical.choose h)else none
theorem cJ{t:Ty}{s:Nm}{d:Ty}:j5 t s=some d↔Dv t s d:=by
 unfold j5
 by_cases h:∃d,Dv t s d
 ·rw[dif_pos h]
  have:=Classical.choose_spec h
  constructor
  ·intro e;cases e;exact this
  ·intro g;rw[Dv.vZ _ t (ap _) this g]
 ·rw[dif_neg h]
  exact⟨fun e=>(by cases e),fun g=>absurd ⟨d,g⟩ h⟩
def nC(t:Ty):Option Ty:=if t.aC<=400 then some t else none
theorem fU{t d:Ty}:nC t=some d↔t.aC<=400/\t=d:=by
 unfold nC
 split
 ·rename_i h;simp[h]
 ·rename_i h;simp[h]
theorem tF{α:Type}{a b:Option α}(h:∀d,a=some d↔b=some d):a=b:=by
 cases a with
 |
  none=>cases b with
  |none=>rfl
  |some x=>have:=(h x).2 rfl;cases this
 |some x=>exact((h x).1 rfl).symm
theorem vc(s:Nm):j5 .zero s=some .zero:=cJ.2 (.zero _)
theorem xS(s:Nm):j5 .one s=some .zero:=cJ.2 (.one _)
theorem yH(k:Nat)(s:Nm):j5 (.bH k) s=some .zero:=cJ.2 (.bH _ _)
theorem nZ(n s:Nm):j5 (.name n) s=some (if n=s then .one else .zero):=by
 split
 ·rename_i h;subst h;exact cJ.2 (.hit _)
 ·rename_i h;exact cJ.2 (.qg h)
theorem u4(a b:Ty)(s:Nm):j5 (.plus a b) s=(j5 a s).bind fun a'=>(j5 b s).bind fun b'=>nC (.plus a' b'):=by
 refine tF fun d=>?_
 rw[cJ]
 simp only[a7,cJ,fU]
 constructor
 ·intro h;cases h with|plus h1 h2 hl=>exact⟨_,h1,_,h2,hl,rfl⟩
 ·rintro⟨a',h1,b',h2,hl,rfl⟩;exact .plus h1 h2 hl
theorem sj(a b:Ty)(s:Nm):j5 (.times a b) s=(j5 a s).bind fun a'=>(j5 b s).bind fun b'=>nC (.plus (.times a' b) (.times a b')):=by
 refine tF fun d=>?_
 rw[cJ]
 simp only[a7,cJ,fU]
 constructor
 ·intro h;cases h with|times h1 h2 hl=>exact⟨_,h1,_,h2,hl,rfl⟩
 ·rintro⟨a',h1,b',h2,hl,rfl⟩;exact .times h1 h2 hl
theorem zI{a:Ty}{s x:Nm}(hx:bh x a=false)(hs:x≠s):j5 (.rc a) s=(j5 (dE (.name x) a 0) s).bind fun c=>(j5 (dE (.name x) a 0) x).bind fun d=>nC (pw a x c d):=by
 refine tF fun d=>?_
 rw[cJ]
 simp only[a7,cJ,fU]
 constructor
 ·intro h
  cases h with
  |
   rc y hy hs' h1 h2 hl =>
   have m1:=h1.move hy hx
   have m2:=h2.move hy hx
   rw[Ad (Ne.symm hs') (Ne.symm hs)]at m1
   rw[wQ]at m2
   refine⟨_,m1,_,m2,?_⟩
   have e:∀c d,sub x (.rc a) (jK (swp y x) c)=sub y (.rc a) c->sub x (.rc a) (jK (swp y x) d)=sub y (.rc a) d->pw a x (jK (swp y x) c) (jK (swp y x) d)=pw a y c d:=fun c d e1 e2=>by rw[pw,pw,e1,e2]
   rw[e _ _ (nT hy hx h1) (nT hy hx h2)]
   exact⟨hl,rfl⟩
 ·rintro⟨c,h1,d',h2,hl,rfl⟩;exact .rc x hx hs h1 h2 hl
noncomputable def zC (a:Ty) (x:Nm):Option Ty:=(j5 (dE (.name x) a 0) x).bind fun d=>nC (sub x (.rc a) d)
end Go.Proofs.Trees
namespace Go.Proofs.Trees
open Go Go.VL
theorem M9(b:UInt8):aq Tryz.prog 172 [.v (.int .u8 (b.toNat:Int))] [] (bC (.v (.bool (eW b)))):=by
 refine PC _ ?_
 simp only[LJ,↓zq,zs,af,bC,eW]
 repeat' (apply aH<;>intro _)
 all_goals first|(congr 2;rw[cu];simp;omega)|(congr 2;simp;omega)
def B0(s:List UInt8)(x:Option (E×List UInt8)):AV->List Ob->Prop:=fun r o=>o=[] /\
 match x with
 |some (e,u)=>r=.cG [e.kC,.v (.int .i64 ((s.length-u.length:Nat):Int))]
 |none=>∃(c:List UInt8) (d:AV),LK.sl.has d/\r=.cG [.agg [.v (.string (mk c)),d],.v (.int .i64 (-1))]
theorem B0.ne(s:List UInt8)(x:Option (E×List UInt8)):∃r o,B0 s x r o:=by
 cases x with
 |some q=>exact⟨_,_,rfl,rfl⟩
 |none=>exact⟨_,_,rfl,[],.v (.slice none 0 0),(bq).mpr trivial,rfl⟩
def jc(c:List UInt8)(d:AV):Ob:=.cells [.v (.string (mk c)),d]
theorem LM(s:List UInt8)(hs:s.length<=8000)(from_:Int)(c1 c2:List UInt8)(d1 d2:AV)(h1:LK.sl.has d1)(h2:LK.sl.has d2):∀(k i:Nat),i+k=s.length->EN [.v (.string (mk s)),.v (.int .i64 (i:Int)),.v (.int .i64 from_)] [jc c1 d1,jc c2 d2]
 (iG 1 [.v (.string (mk s)),.v (.int .i64 ((i+((s.drop i).takeWhile eW).length:Nat):Int)),.v (.int .i64 from_)] [jc c1 d1,jc c2 d2])
 |
  0,i,hi=>by
  refine HL _ _ _ _ _ _ _ ?_
  have hd:s.drop i=[]:=bJ (by omega)
  simp only[FP,↓zq,zs,af,zt]
  exact⟨h1,h2,fun h=>by omega,fun _=>by simp[iG,hd,jc]⟩
 |
  k+1,i,hi=>by
  have hlt:i<s.length:=by omega
  refine HL _ _ _ _ _ _ _ ?_
  simp only[FP,↓zq,zs,af,zt,lY s i hlt]
  refine⟨h1,h2,fun _=>⟨by omega,?_⟩,fun h=>by omega⟩
  refine aj (M9 _) ?_
  simp only[↓zq,zs,af]
  refine⟨fun hb=>?_,fun hb=>?_⟩
  ·rw[bA i (by omega)]
   have:=LM s hs from_ c1 c2 d1 d2 h1 h2 k (i+1) (by omega)
   rw[xn hlt hb,show i+(((s.drop (i+1)).takeWhile eW).length+1)=i+1+((s.drop (i+1)).takeWhile eW).length by omega]
   exact this
  ·simp[iG,qk hlt hb,jc]
def PW(s:List UInt8)(x:Option (E×List UInt8)):Nat->List AV->List Ob->Prop:=fun t ys o=>t=2 /\
 match x with
 |some (e,u)=>∃l,e=.list l/\ys=[.v (.int .i64 ((s.length-u.length:Nat):Int))]/\o=[jc [] .any,.vec 2 (E.bj l)]
 |none=>∃es,ys=[.v (.int .i64 (-1))]/\o=[jc [] .any,.vec 2 es]
theorem xR(e:E):(e.kC=.agg e.kC.cs/\e.kC.cs.length=2/\bB [.str,.sl] e.kC.cs 0)=True:=by
 apply eq_true
 cases e<;>simp[E.kC,E.iw,A3,bB,dq,bq,cb]
theorem wx(e:E):[AV.v (.string ((e.kC.cs.getD 0 .any).ag)),e.kC.cs.getD 1 .any]=e.iw:=by
 cases e<;>rfl
theorem drop_cons{s:List UInt8}{j:Nat}(hj:j<s.length):s.drop j=s.getD j 0::s.drop (j+1):=by
 rw[aY hj];simp[aa,hj]
theorem Hw(s:List UInt8)(hs:s.length<=8000)(d:Nat)(hd:d<=300)(f:List UInt8->Option (E×List UInt8))(hf:∀u e r,f u=some (e,r)->∃j,r=u.drop j/\0<j/\j<=u.length)
 (ih:∀j,j<=s.length->aq Tryz.prog 137 [.v (.string (mk s)),.v (.int .i64 (j:Int)),.v (.int .i64 ((d+1:Nat):Int))] [] (B0 s (f (s.drop j)))) :
 ∀(n i:Nat) (acc:List E) (c1:List UInt8) (d1:AV),LK.sl.has d1->s.length-(i+1)<n->i<s.length->s.length-i+acc.length<=8001->Gv [.v (.string (mk s)),.v (.int .i64 (i:Int)),.v (.int .i64 (d:Int))] [jc c1 d1,jc [] .any,.vec 2 (E.bj acc)]
  (PW s (rN f n (s.drop (i+1)) acc))
 |0,i,acc,c1,d1,h1,hn,_,_=>by omega
 |
  n+1,i,acc,c1,d1,h1,hn,hi,hl=>by
  refine Mz _ _ _ _ _ _ _ ?_
  simp only[Jc,↓zq,zs,af,jc]
  refine⟨h1,?_⟩
  rw[bA i (by omega),bA d (by omega)]
  refine aP (ih (i+1) (by omega)) (B0.ne _ _) ?_
  rintro r o ⟨rfl,hr⟩
  have hff:=hf (s.drop (i+1))
  unfold rN
  cases hq:f (s.drop (i+1))with
  |
   none =>
   rw[hq]at hr
   obtain⟨c,d',hd',rfl⟩:=hr
   simp only[↓zq,zs,af,zt,bB]
   refine⟨hd',fun _=>⟨rfl,_,rfl,rfl⟩,fun h=>by omega⟩
  |
   some q =>
   obtain⟨e,u⟩:=q
   rw[hq]at hr
   subst hr
   obtain⟨j,hu,hj0,hj⟩:=hff e u hq
   rw[List.drop_drop]at hu
   simp only[cf]at hj
   have hul:u.length=s.length-(i+1+j):=by rw[hu,cf]
   have hpos:s.length-u.length=i+1+j:=by omega
   simp only[↓zq,zs,af,zt,xR,hpos,wx,eg]
   refine⟨fun h=>by omega,fun _=>⟨fun h=>?_,fun h=>⟨⟨fun c hc=>(by simp at hc;rw[hc];cases e<;>rfl),by omega⟩,?_⟩⟩⟩
   ·have:u=[]:=by rw[hu];exact bJ (by omega)
    subst this
    exact⟨rfl,_,rfl,rfl⟩
   ·have hlt:i+1+j<s.length:=by omega
    rw[drop_cons hlt]at hu
    subst hu
    rw[lY s _ hlt]
    generalize hb:s.getD (i+1+j) 0=b
    refine⟨by omega,fun h41=>?_,fun h41=>⟨by omega,fun h32=>?_,fun h32=>?_⟩⟩
    ·have h41':b.toNat=41:=by omega
     dsimp only
     rw[if_pos h41',bA _ (by omega)]
     refine⟨rfl,acc++[e],rfl,?_,?_⟩
     ·rw[cf];congr 3;omega
     ·simp[jc,pW,E.bj]
    ·have h41':¬b.toNat=41:=by omega
     have h32':¬b.toNat=32:=by omega
     dsimp only
     rw[if_neg h41',if_neg h32']
     exact⟨rfl,_,rfl,rfl⟩
    ·have h41':¬b.toNat=41:=by omega
     have h32':b.toNat=32:=by omega
     dsimp only
     rw[if_neg h41',if_pos h32']
     have:=Hw s hs d hd f hf ih n (i+1+j) (acc++[e]) c1 d1 h1 (by omega) hlt (by simp;omega)
     simpa[jc,pW,E.bj]using this
theorem BY(k:Nat)(u:List UInt8)(e:E)(r:List UInt8)(h:rd k u=some (e,r)):∃j,r=u.drop j/\0<j/\j<=u.length:=by
 have suf:∀(k:Nat) (u:List UInt8) (e:E) (r:List UInt8),rd k u=some (e,r)->r <:+ u:=by
  intro k
  have tw:∀u:List UInt8,u.dropWhile eW <:+ u:=fun u=>List.dropWhile_suffix _
  have ll:∀(f:List UInt8->Option (E×List UInt8)),(∀u e r,f u=some (e,r)->r <:+ u)->∀(n:Nat) (u:List UInt8) (acc:List E) (e:E) (r:List UInt8),rN f n u acc=some (e,r)->r <:+ u:=by
   intro f hf n
   induction n with
   |zero=>intro u acc e r h;cases h
   |
    succ n ih =>
    intro u acc e r h
    simp only[rN]at h
    split at h
    ·rename_i p c r' hs
     have h1:r' <:+ u:=(List.suffix_cons c r').trans (hf _ _ _ hs)
     split at h
     ·cases h;exact h1
     ·split at h
      ·exact(ih _ _ _ _ h).trans h1
      ·cases h
    ·cases h
  induction k with
  |
   zero =>
   intro u e r h
   simp only[rd]at h
   split at h
   ·cases h
   ·cases h;exact tw u
  |
   succ k ih =>
   intro u e r h
   simp only[rd]at h
   split at h
   ·split at h
    ·split at h
     ·exact(ll _ ih _ _ _ _ _ h).trans (List.suffix_cons _ _)
     ·cases h
    ·cases h
   ·cases h;exact tw u
 obtain⟨p,hp⟩:=suf k u e r h
 have hlt:=xl k u e r h
 have:=congrArg List.length hp
 simp only[an]at this
 exact⟨p.length,by rw[<-hp];simp,by omega,by omega⟩
theorem zT(n:Nat)(u:List UInt8)(acc:List E):rN (fun _=>none) n u acc=none:=by
 cases n<;>rfl
theorem Ps(s:List UInt8)(j:Nat):aq Tryz.prog 137 [.v (.string (mk s)),.v (.int .i64 (j:Int)),.v (.int .i64 ((300+1:Nat):Int))] [] (B0 s none):=by
 refine Lx _ _ _ ?_
 simp only[FT,↓zq,zs,af]
 exact⟨fun _=>⟨rfl,[],_,(bq).mpr trivial,rfl⟩,fun h=>by omega⟩
theorem pO(s:List UInt8)(hs:s.length<=8000)(d i:Nat)(hd:d<=300)(hi:i<=s.length)(f:List UInt8->Option (E×List UInt8))(hf:∀u e r,f u=some (e,r)->∃j,r=u.drop j/\0<j/\j<=u.length)
 (ih:∀j,j<=s.length->aq Tryz.prog 137 [.v (.string (mk s)),.v (.int .i64 (j:Int)),.v (.int .i64 ((d+1:Nat):Int))] [] (B0 s (f (s.drop j)))) (x:Option (E×List UInt8))
 (h0:i=s.length->x=none)
 (h1:i<s.length->(s.drop i).takeWhile eW≠[]->x=some (.atom ((s.drop i).takeWhile eW),(s.drop i).dropWhile eW))
 (h2:i<s.length->(s.drop i).takeWhile eW=[]->¬(s.getD i 0).toNat=40->x=none)
 (h3:i<s.length->(s.getD i 0).toNat=40->x=rN f (s.length-(i+1)+1) (s.drop (i+1)) []) :
 aq Tryz.prog 137 [.v (.string (mk s)),.v (.int .i64 (i:Int)),.v (.int .i64 (d:Int))] [] (B0 s x):=by
 refine Lx _ _ _ ?_
 simp only[FT,↓zq,zs,af,zt]
 refine⟨fun h=>by omega,fun _=>⟨fun h=>?_,fun h=>⟨by omega,?_⟩⟩⟩
 ·rw[h0 (by omega)]
  exact⟨rfl,[],_,(bq).mpr trivial,rfl⟩
 ·have hlt:i<s.length:=by omega
  rw[lY s i hlt]
  refine⟨fun h40=>?_,fun h40=>?_⟩
  ·have h40':¬(s.getD i 0).toNat=40:=by omega
   refine cw (LM s hs _ [] [] _ _ ((bq).mpr trivial) ((bq).mpr trivial) (s.length-i) i (by omega)) ?_
   have hex:(List.take (i+((s.drop i).takeWhile eW).length) s).drop i=(s.drop i).takeWhile eW:=by
    rw[List.drop_take,Nat.add_sub_cancel_left];exact tz _
   have hle:i+((s.drop i).takeWhile eW).length<=s.length:=by
    have:=tq (s.drop i);simp only[cf]at this;omega
   simp only[jc,↓zq,zs,af,zt,hex]
   refine⟨by omega,fun hnil=>?_,fun hnil=>?_⟩
   ·rw[h2 hlt hnil h40',hnil]
    exact⟨rfl,[],_,(bq).mpr trivial,rfl⟩
   ·rw[h1 hlt hnil]
    refine⟨rfl,?_⟩
    have:=tq (s.drop i)
    simp only[cf]at this
    show _=AV.cG [E.kC (.atom _),_]
    have e:s.length-((s.drop i).dropWhile eW).length=i+((s.drop i).takeWhile eW).length:=by omega
    rw[e];rfl
  ·have h40':(s.getD i 0).toNat=40:=by omega
   rw[h3 hlt h40']
   refine n7 (Hw s hs d hd f hf ih (s.length-(i+1)+1) i [] [] _ ((bq).mpr trivial) (by omega) hlt (by simp;omega)) ?_ ?_
   ·rintro ys o ⟨h,_⟩;cases h
   ·rintro ys o ⟨_,hr⟩
    cases hq:rN f (s.length-(i+1)+1) (s.drop (i+1)) []with
    |
     none =>
     rw[hq]at hr
     obtain⟨es,rfl,rfl⟩:=hr
     simp only[jc,↓zq,zs,af]
     exact⟨rfl,[],_,(cb _).mpr trivial,rfl⟩
    |
     some q =>
     obtain⟨e,u⟩:=q
     rw[hq]at hr
     obtain⟨l,rfl,rfl,rfl⟩:=hr
     simp only[jc,↓zq,zs,af]
     exact⟨rfl,rfl⟩
theorem MG(s:List UInt8)(hs:s.length<=8000):∀(k:Nat),k<=300->∀i,i<=s.length->aq Tryz.prog 137 [.v (.string (mk s)),.v (.int .i64 (i:Int)),.v (.int .i64 ((300-k:Nat):Int))] [] (B0 s (rd k (s.drop i))):=by
 intro k
 have hnil:∀k,rd k []=none:=fun k=>by cases k<;>simp[rd]
 have ha40:∀b:UInt8,b.toNat=40->eW b=false:=fun b hb=>by simp[eW,hb]
 induction k with
 |
  zero =>
  intro hk i hi
  refine pO s hs 300 i (by omega) hi (fun _=>none) (fun _ _ _ h=>by cases h) (fun j _=>Ps s j) _ (fun h=>?_) (fun hlt h=>?_) (fun hlt h h40=>?_) (fun hlt h40=>?_)
  ·rw[bJ (by omega)];exact hnil 0
  ·simp only[rd,if_neg h]
  ·simp only[rd,if_pos h]
  ·rw[zT]
   have:(s.drop i).takeWhile eW=[]:=qk hlt (ha40 _ h40)
   simp only[rd,if_pos this]
 |
  succ k ih =>
  intro hk i hi
  have hd:300-(k+1)+1=300-k:=by omega
  refine pO s hs (300-(k+1)) i (by omega) hi (rd k) (BY k) (fun j hj=>by rw[hd];exact ih (by omega) j hj) _ (fun h=>?_) (fun hlt h=>?_) (fun hlt h h40=>?_) (fun hlt h40=>?_)
  ·rw[bJ (by omega)];exact hnil _
  ·simp only[rd,if_neg h]
  ·rw[drop_cons hlt]at h |-
   simp only[rd,if_pos h,if_neg h40]
  ·have h:=qk hlt (ha40 _ h40)
   rw[drop_cons hlt]at h |-
   simp only[rd,if_pos h,if_pos h40,cf]
end Go.Proofs.Trees
namespace Go.Proofs.Trees
open Go Go.VL
theorem iV(e:E):AV.agg [.v (.string ((e.iw.getD 0 .any).ag)),e.iw.getD 1 .any]=e.kC:=by cases e<;>rfl
theorem gj(e:E):e.iw.length=2:=by cases e<;>rfl
theorem iT(e:E):bB [.str,.sl] e.iw 0=True:=by
 apply eq_true
 cases e<;>simp[E.iw,bB,dq,bq,cb]
theorem me(e:E):e.iw.headD .any=.v (.string (mk e.at)):=by cases e<;>rfl
theorem uY(x:E)(l:List E):aq Tryz.prog 90 [.agg [.v (.string (mk [])),.sl (E.bj (x::l))]] [] (bC (.v (.string (mk x.at)))):=by
 refine Gx _ _ ((cb _).mpr trivial) ?_
 simp only[Cp,E.bj,↓zq,zs,af,zt,bC,gj,me,ap]
 refine⟨fun h=>absurd rfl h,fun _=>⟨fun h=>by omega,fun _=>⟨by omega,by omega⟩⟩⟩
theorem MW:aq Tryz.prog 90 [.agg [.v (.string (mk [])),.sl (E.bj [])]] [] (bC (.v (.string (mk [])))):=by
 refine Gx _ _ ((cb _).mpr trivial) ?_
 simp only[Cp,E.bj,↓zq,zs,af,zt,bC,gj,me,ap]
 simp
def jR:E->Bool
 | .atom s=>(s==[48])||(s==[49])||fj s||da s
 | .list [x,a,b]=>if x.at=[43]then jR a&&jR b else if x.at=[42]then jR a&&jR b else if x.at=[114,101,99]then da a.at&&jR b else false
 | .list _=>false
theorem yI:∀(e:E),e.ok->aq Tryz.prog 136 [e.kC] [] (bC (.v (.bool (jR e))))
 |
  .atom s,hok=>by
  refine Kb _ _ ((bq).mpr trivial) ?_
  have hne:s≠[]:=hok
  simp only[ww,↓zq,zs,af,zt,bC,jR]
  refine⟨fun _=>⟨fun h=>?_,fun h=>⟨fun h1=>?_,fun h1=>?_⟩⟩,fun h=>absurd h hne⟩
  ·simp[h]
  ·simp[h1]
  ·refine aj (zH s) ?_
   simp only[↓zq,zs,af]
   refine⟨fun hp=>?_,fun hp=>?_⟩
   ·simp[hp]
   ·refine aj (E1 s) ?_
    simp[↓zq,zs,af,hp,h,h1]
 |
  .list l,hok=>by
  refine Kb _ _ ((cb _).mpr trivial) ?_
  match l,hok with
  |[],hok=>simp[ww,E.bj,↓zq,zs,af,zt,bC,jR]
  |[x],hok=>simp[ww,E.bj,↓zq,zs,af,zt,bC,jR]
  |[x,y],hok=>simp[ww,E.bj,↓zq,zs,af,zt,bC,jR]
  |
   x::y::z::w::l,hok =>
   simp only[ww,E.bj,↓zq,zs,af,zt,bC,jR]
   exact⟨fun h=>absurd rfl h,fun _=>⟨fun _=>trivial,fun h=>by omega⟩⟩
  |
   [x,y,z],hok =>
   obtain⟨ok1,ok2,ok3,_⟩:=hok
   simp only[ww,↓zq,zs,af,zt,bC]
   refine⟨fun h=>absurd rfl h,fun _=>⟨fun h=>absurd rfl h,fun _=>?_⟩⟩
   refine aj (uY x _) ?_
   simp only[E.bj,toNat_one,be,↓zq,zs,af,zt,iV,gj,iT,me,ap,jR]
   refine⟨fun h=>?_,fun h=>⟨fun h1=>?_,fun h1=>⟨fun h2=>?_,fun h2=>?_⟩⟩⟩
   ·rw[if_pos h]
    refine⟨by omega,aj (yI y ok2) ?_⟩
    simp only[↓zq,zs,af]
    refine⟨fun hy=>⟨by omega,aj (yI z ok3) ?_⟩,fun hy=>?_⟩
    ·simp only[↓zq,zs,af,hy,bL]
    ·rw[hy];rfl
   ·rw[if_neg h,if_pos h1]
    refine⟨by omega,aj (yI y ok2) ?_⟩
    simp only[↓zq,zs,af]
    refine⟨fun hy=>⟨by omega,aj (yI z ok3) ?_⟩,fun hy=>?_⟩
    ·simp only[↓zq,zs,af,hy,bL]
    ·rw[hy];rfl
   ·rw[if_neg h,if_neg h1,if_pos h2]
    refine⟨by omega,by omega,aj (E1 _) ?_⟩
    simp only[↓zq,zs,af]
    refine⟨fun hy=>⟨by omega,aj (yI z ok3) ?_⟩,fun hy=>?_⟩
    ·simp only[↓zq,zs,af,hy,bL]
    ·rw[hy];rfl
   ·rw[if_neg h,if_neg h1,if_neg h2]
theorem iP:∀(e:E) (ar:List (List UInt8)),(cK e ar).isSome=jR e
 |
  .atom s,ar=>by
  simp only[cK,jR]
  by_cases h:s=[48]
  ·simp[h]
  ·by_cases h1:s=[49]
   ·simp[h1]
   ·rw[if_neg h,if_neg h1]
    by_cases h2:fj s=true
    ·simp[h2]
    ·rw[if_neg h2]
     by_cases h3:da s=true
     ·rw[if_pos h3];cases bE s ar ar.length<;>simp[h3]
     ·rw[if_neg h3];simp[h,h1,h2,h3]
 | .list [],_=>rfl
 | .list [_],_=>rfl
 | .list [_,_],_=>rfl
 | .list (_::_::_::_::_),_=>rfl
 |
  .list [x,a,b],ar=>by
  have ha:=iP a ar
  have hb:=iP b ar
  have hb2:=iP b (ar++[a.at])
  rw[jR]
  by_cases h:x.at=[43]
  ·rw[kR ar h,if_pos h,<-ha,<-hb];cases cK a ar<;>cases cK b ar<;>rfl
  ·by_cases h1:x.at=[42]
   ·rw[j2 ar h1,if_neg h,if_pos h1,<-ha,<-hb];cases cK a ar<;>cases cK b ar<;>rfl
   ·by_cases h2:x.at=[114,101,99]
    ·rw[mz ar h2,if_neg h,if_neg h1,if_pos h2,<-hb2]
     cases da a.at<;>cases cK b (ar++[a.at])<;>rfl
    ·rw[iZ ar h h1 h2,if_neg h,if_neg h1,if_neg h2];rfl
mutual
def E.cZ:E->Nat
 | .atom _=>1
 | .list l=>E.eX l
def E.eX:List E->Nat
 |[]=>0
 |e::l=>e.cZ+E.eX l
end
mutual
theorem jx:∀e:E,e.cZ<=e.sz
 | .atom s=>by simp[E.cZ,E.sz]
 | .list l=>by have:=tJ l;simp only[E.cZ,E.sz];omega
theorem tJ:∀l:List E,E.eX l<=E.jk l
 |[]=>by simp[E.eX,E.jk]
 |e::l=>by have:=jx e;have:=tJ l;simp only[E.eX,E.jk];omega
end
theorem jC:∀(l:List E) (i:Nat) (h:i<l.length),(E.bj l).getD i []=(l[i]).iw
 |e::l,0,_=>rfl
 |
  e::l,i+1,h=>by
  have:=jC l i (by simpa using h)
  simp only[E.bj,List.getD_cons_succ,List.getElem_cons_succ];exact this
theorem yy:∀(l:List E) (i:Nat) (h:i<l.length),E.eX (l.drop i)=(l[i]).cZ+E.eX (l.drop (i+1)):=by
 intro l i h
 rw[aY h];rfl
theorem tv:∀(l:List E) (i:Nat) (h:i<l.length),E.CO l->(l[i]).ok
 |e::l,0,_,h=>h.1
 |e::l,i+1,hi,h=>tv l i (by simpa using hi) h.2
theorem LF(l:List E)(hl:E.eX l<1000000)(hll:l.length<1000000)(ih:∀i (h:i<l.length),aq Tryz.prog 129 [(l[i]).kC] [] (bC (.v (.int .i64 ((l[i]).cZ:Int))))) :
 ∀(k i n:Nat),i+k=l.length->n+E.eX (l.drop i)<=E.eX l->Fj [.v (.int .i64 (n:Int)),.v (.int .i64 (i:Int))] [.cells [.v (.string (mk [])),.sl (E.bj l)]] (iG 1 [.v (.int .i64 ((n+E.eX (l.drop i):Nat):Int))] [])
 |
  0,i,n,hi,hn=>by
  refine K7 _ _ _ _ ?_
  simp only[GL,↓zq,zs,af,eg]
  have:l.drop i=[]:=bJ (by omega)
  refine⟨fun h=>by omega,fun _=>?_⟩
  simp[iG,this,E.eX]
 |
  k+1,i,n,hi,hn=>by
  have hlt:i<l.length:=by omega
  refine K7 _ _ _ _ ?_
  simp only[GL,↓zq,zs,af,zt,eg,jC l i hlt,gj,iT,iV,ap]
  refine⟨fun _=>⟨by omega,?_⟩,fun h=>by omega⟩
  refine aj (ih i hlt) ?_
  have h1:=yy l i hlt
  simp only[↓zq,zs,af]
  rw[bA i (by omega),wrap64 _ (by omega) (by omega)]
  have:=LF l hl hll ih k (i+1) (n+(l[i]).cZ) (by omega) (by omega)
  rw[h1,<-Nat.add_assoc]
  simpa using this
theorem tu:∀l:List E,l.length<=E.jk l
 |[]=>by simp[E.jk]
 |
  e::l=>by
  have:=tu l
  have:1<=e.sz:=by cases e<;>simp[E.sz]
  simp only[E.jk,aw];omega
theorem tC:∀(l:List E) (i:Nat) (h:i<l.length),(l[i]).sz<=E.jk l
 |e::l,0,_=>by simp[E.jk]
 |e::l,i+1,h=>by have:=tC l i (by simpa using h);simp only[E.jk,List.getElem_cons_succ];omega
theorem Il:∀(n:Nat) (e:E),e.sz<n->e.ok->e.sz<1000000->aq Tryz.prog 129 [e.kC] [] (bC (.v (.int .i64 (e.cZ:Int))))
 |0,e,hn,_,_=>by omega
 |
  n+1,.atom s,hn,hok,hl=>by
  refine LX _ _ ((bq).mpr trivial) ?_
  have hne:s≠[]:=hok
  simp only[GF,↓zq,zs,af,zt,bC]
  exact⟨fun _=>rfl,fun h=>absurd h hne⟩
 |
  n+1,.list l,hn,hok,hl=>by
  refine LX _ _ ((cb _).mpr trivial) ?_
  simp only[E.sz]at hn hl
  have h1:=tJ l
  have h2:=tu l
  simp only[GF,↓zq,zs,af,zt,bC]
  refine⟨fun h=>absurd rfl h,fun _=>?_⟩
  refine cw (LF l (by omega) (by omega) (fun i hi=>?_) l.length 0 0 (by omega) (by simp)) ?_
  ·have:=tC l i hi
   exact Il n (l[i]) (by omega) (tv l i hi hok) (by omega)
  ·simp[↓zq,zs,af,E.cZ]
theorem C8(e:E)(h:e.ok)(hl:e.sz<1000000):aq Tryz.prog 129 [e.kC] [] (bC (.v (.int .i64 (e.cZ:Int)))):=Il (e.sz+1) e (by omega) h hl
theorem uc{x:E}(h:x.at≠[]):x.cZ=1:=by cases x<;>simp[E.at,E.cZ]at h |-
theorem AP{s:List UInt8}(h:da s=true):s≠[]:=by rintro rfl;cases h
theorem jY:∀(e:E) (ar:List (List UInt8)) (t:Ty),cK e ar=some t->e.cZ=t.aC
 |
  .atom s,ar,t,h=>by
  simp only[cK]at h
  simp only[E.cZ]
  split at h
  ·cases h;rfl
  ·split at h
   ·cases h;rfl
   ·split at h
    ·cases h;rfl
    ·split at h
     ·split at h<;>cases h<;>rfl
     ·cases h
 | .list [],_,_,h=>by cases h
 | .list [_],_,_,h=>by cases h
 | .list [_,_],_,_,h=>by cases h
 | .list (_::_::_::_::_),_,_,h=>by cases h
 |
  .list [x,a,b],ar,t,h=>by
  simp only[E.cZ,E.eX]
  by_cases h0:x.at=[43]
  ·rw[kR ar h0]at h
   have:=uc (x:=x) (by rw[h0];simp)
   split at h
   ·rename_i t1 t2 e1 e2
    cases h
    have:=jY a ar _ e1
    have:=jY b ar _ e2
    simp only[Ty.aC];omega
   ·cases h
  ·by_cases h1:x.at=[42]
   ·rw[j2 ar h1]at h
    have:=uc (x:=x) (by rw[h1];simp)
    split at h
    ·rename_i t1 t2 e1 e2
     cases h
     have:=jY a ar _ e1
     have:=jY b ar _ e2
     simp only[Ty.aC];omega
    ·cases h
   ·by_cases h2:x.at=[114,101,99]
    ·rw[mz ar h2]at h
     have:=uc (x:=x) (by rw[h2];simp)
     split at h
     ·rename_i hl
      have:=uc (AP hl)
      split at h
      ·rename_i t1 e1
       cases h
       have:=jY b _ _ e1
       simp only[Ty.aC];omega
      ·cases h
     ·cases h
    ·rw[iZ ar h0 h1 h2]at h;cases h
def lO(x:Option E)(b:Bool):AV->List Ob->Prop:=fun r o=>∃c:List UInt8,∃d:AV,LK.sl.has d/\r=.cG [.agg [.v (.string (mk c)),d],.v (.bool b)]/\(b=true->∃e,x=some e/\AV.agg [.v (.string (mk c)),d]=e.kC)
theorem At(e:E):∃c:List UInt8,∃d:AV,LK.sl.has d/\e.kC=AV.agg [.v (.string (mk c)),d]:=by
 cases e with
 |atom s=>exact⟨s,_,(bq).mpr trivial,rfl⟩
 |list l=>exact⟨[],_,(cb _).mpr trivial,rfl⟩
theorem lO.ne(x:Option E)(b:Bool)(h:b=true->x.isSome=true):∃r o,lO x b r o:=by
 cases b with
 |false=>exact⟨_,[],[],.v (.slice none 0 0),(bq).mpr trivial,rfl,fun h=>by cases h⟩
 |
  true =>
  cases x with
  |none=>cases h rfl
  |
   some e =>
   obtain⟨c,d,hd,he⟩:=At e
   exact⟨_,[],c,d,hd,rfl,fun _=>⟨e,rfl,he.symm⟩⟩
theorem Hn(s:List UInt8):aq Tryz.prog 84 [.v (.string (mk s))] [] (lO (qn s) (qn s).isSome):=by
 refine NJ _ ?_
 simp only[Kk,↓zq,zs,af,zt,qn]
 refine⟨fun h=>?_,fun h=>?_⟩
 ·rw[if_pos (by omega)]
  exact⟨[],_,(bq).mpr trivial,rfl,fun h=>by cases h⟩
 ·rw[if_neg (by omega)]
  refine aP (MG s (by omega) 300 (by omega) 0 (by omega)) (B0.ne _ _) ?_
  rintro r o ⟨rfl,hr⟩
  rw[bo]at hr
  cases hq:rd 300 s with
  |
   none =>
   rw[hq]at hr
   obtain⟨c,d,hd,rfl⟩:=hr
   simp only[↓zq,zs,af,zt,bB]
   refine⟨hd,c,d,hd,?_,fun h=>by cases h⟩
   have:((-1:Int)==(s.length:Int))=false:=by
    rw[beq_eq_false_iff_ne];omega
   rw[this];rfl
  |
   some q =>
   obtain⟨e,u⟩:=q
   rw[hq]at hr
   subst hr
   have hlt:=xl _ _ _ _ hq
   obtain⟨c,d,hd,he⟩:=At e
   simp only[he,↓zq,zs,af,zt,bB]
   cases u with
   |
    nil =>
    refine⟨hd,c,d,hd,?_,fun _=>⟨e,rfl,he.symm⟩⟩
    simp
   |
    cons b u =>
    simp only[aw]at hlt |-
    refine⟨hd,c,d,hd,?_,fun h=>by cases h⟩
    have:(((s.length-(u.length+1):Nat):Int)==(s.length:Int))=false:=by simp;omega
    rw[this];rfl
def vD(s:List UInt8):Option E:=match qn s with
 |none=>none
 |some e=>if jR e=true/\e.cZ<=400 then some e else none
theorem Eh(s:List UInt8):aq Tryz.prog 82 [.v (.string (mk s))] [] (lO (vD s) (vD s).isSome):=by
 refine NO _ ?_
 unfold KS
 refine aP (Hn s) (lO.ne _ _ (fun h=>h)) ?_
 rintro r o ⟨c,d,hd,rfl,hh⟩
 simp only[↓zq,zs,af,zt,bB,vD]
 refine⟨hd,fun h=>?_,fun h=>?_⟩
 ·obtain⟨e,he,hce⟩:=hh h
  obtain⟨hok,hsz⟩:=nK he
  rw[he,hce]
  refine aj (yI e hok) ?_
  simp only[↓zq,zs,af]
  refine⟨fun hi=>?_,fun hi=>?_⟩
  ·refine aj (C8 e hok (by omega)) ?_
   simp only[↓zq,zs,af,hi]
   refine⟨c,d,hd,?_,?_⟩
   ·rw[hce]
    by_cases h4:e.cZ<=400
    ·rw[if_pos h4];exact congrArg (fun b=>AV.cG [e.kC,.v (.bool b)]) (decide_eq_true (show ((e.cZ:Nat):Int)<=400 by omega))
    ·rw[if_neg h4];exact congrArg (fun b=>AV.cG [e.kC,.v (.bool b)]) (decide_eq_false (show ¬((e.cZ:Nat):Int)<=400 by omega))
   ·split
    ·exact fun _=>⟨e,rfl,hce⟩
    ·exact fun h=>by cases h
  ·refine⟨c,d,hd,?_,?_⟩
   ·rw[hce,if_neg (by rw[hi];simp)];rfl
   ·rw[if_neg (by rw[hi];simp)];exact fun h=>by cases h
 ·have hn:qn s=none:=by cases hq:qn s<;>simp[hq]at h |-
  rw[hn]
  exact⟨c,d,hd,rfl,fun h=>by cases h⟩
theorem ph{s:List UInt8}{e:E}(h:vD s=some e):qn s=some e/\jR e=true/\e.cZ<=400:=by
 unfold vD at h
 split at h
 ·cases h
 ·split at h
  ·rename_i e' h1 h2;cases h;exact⟨h1,h2⟩
  ·cases h
end Go.Proofs.Trees
namespace Go.Proofs.Trees
open Go Go.VL
def bQ:Ty->Bool
 | .name s=>da s
 | .plus a b=>bQ a||bQ b
 | .times a b=>bQ a||bQ b
 | .rc a=>bQ a
 |_=>false
theorem gP:∀(t:Ty) (out:List (List UInt8)),(bD t out).any da=(out.any da||bQ t)
 |
  .name s,out=>by
  simp only[bD,pj,bQ]
  split
  ·rename_i h
   cases hs:da s with
   |false=>simp
   |true=>rw[Bool.or_true,bS];exact⟨s,h,hs⟩
  ·simp
 | .plus a b,out=>by simp only[bD,bQ,gP a,gP b,Bool.or_assoc]
 | .times a b,out=>by simp only[bD,bQ,gP a,gP b,Bool.or_assoc]
 | .rc a,out=>by simp only[bD,bQ,gP a]
 | .zero,out=>by simp[bD,bQ]
 | .one,out=>by simp[bD,bQ]
 | .bH u,out=>by simp[bD,bQ]
theorem sL(t:Ty):t.closed = !bQ t:=by simp[Ty.closed,gP]
def pl:Ty->Bool
 | .name s=>decide (s.length<=1)
 | .plus a b=>pl a&&pl b
 | .times a b=>pl a&&pl b
 | .rc a=>false
 |_=>true
theorem lR{lo hi:Nat}{s:List UInt8}(h:named lo hi s=true):∃c r,s=c::r/\lo<=c.toNat/\c.toNat<=hi:=by
 cases s with
 |nil=>cases h
 |cons c r=>simp only[named,au,decide_eq_true_eq]at h;exact⟨c,r,rfl,by omega,by omega⟩
theorem fG{x a b:E}{ar:List (List UInt8)}{t:Ty}(hx:x.at=[43])(h:cK (.list [x,a,b]) ar=some t):∃t1 t2,cK a ar=some t1/\cK b ar=some t2/\t=.plus t1 t2:=by
 rw[kR ar hx]at h
 split at h
 ·rename_i t1 t2 e1 e2;cases h;exact⟨t1,t2,e1,e2,rfl⟩
 ·cases h
theorem fe{x a b:E}{ar:List (List UInt8)}{t:Ty}(hx:x.at=[42])(h:cK (.list [x,a,b]) ar=some t):∃t1 t2,cK a ar=some t1/\cK b ar=some t2/\t=.times t1 t2:=by
 rw[j2 ar hx]at h
 split at h
 ·rename_i t1 t2 e1 e2;cases h;exact⟨t1,t2,e1,e2,rfl⟩
 ·cases h
theorem dy{x a b:E}{ar:List (List UInt8)}{t:Ty}(hx:x.at=[114,101,99])(h:cK (.list [x,a,b]) ar=some t):∃t1,da a.at=true/\cK b (ar++[a.at])=some t1/\t=.rc t1:=by
 rw[mz ar hx]at h
 split at h
 ·rename_i hl
  split at h
  ·rename_i t1 e1;cases h;exact⟨t1,hl,e1,rfl⟩
  ·cases h
 ·cases h
theorem tQ{s:List UInt8}:py s=match vD s with|none=>none|some e=>cK e []:=by
 unfold py vD
 cases he:qn s with
 |none=>rfl
 |
  some e =>
  have hs:=iP e []
  simp only
  cases ht:cK e []with
  |
   none =>
   rw[ht]at hs
   rw[if_neg (by rw[<-hs];simp)]
  |
   some t =>
   rw[ht]at hs
   have ha:=jY e [] t ht
   by_cases h4:e.cZ<=400
   ·rw[if_pos ⟨hs.symm,h4⟩];dsimp only;rw[if_neg (by omega)];exact ht.symm
   ·rw[if_neg (fun h=>h4 h.2)];dsimp only;rw[if_pos (by omega)]
end Go.Proofs.Trees
namespace Go.Proofs.Trees
open Go Go.VL
def pure:Ty->Bool
 | .zero=>true
 | .one=>true
 | .name s=>(s==[120])||(s==[121])||(s==[122])
 | .plus a b=>pure a&&pure b
 | .times a b=>pure a&&pure b
 |_=>false
def I2(v:Nat):Option Nat:=if v<=1000000000 then some v else none
def Hh(n:Nat):Ty->Option Nat
 | .zero=>some 0
 | .one=>some 1
 | .name _=>some n
 | .plus a b=>match Hh n a,Hh n b with|some x,some y=>I2 (x+y)|_,_=>none
 | .times a b=>match Hh n a,Hh n b with|some x,some y=>I2 (x*y)|_,_=>none
 |_=>none
def Jk(x:Option Nat):AV->List Ob->Prop:=fun r o=>∃v:Int,r=.cG [.v (.int .i64 v),.v (.bool x.isSome)]/\∀c,x=some c->v=(c:Int)
theorem Jk.ne(x:Option Nat):∃r o,Jk x r o:=by
 cases x with
 |none=>exact⟨_,[],0,rfl,fun c h=>by cases h⟩
 |some c=>exact⟨_,[],(c:Int),rfl,fun c' h=>by cases h;rfl⟩
end Go.Proofs.Trees
namespace Go.Proofs.Trees
open Go Go.VL Go.RowKit
abbrev dd(n:Nat):List UInt8:=Lib.decDigits n
theorem eH{k:Nat}(h:k<10):dd k=[a8 (48+k)]:=by rw[dd,Lib.decDigits,dif_pos h]
theorem fM{k:Nat}(h:¬k<10):dd k=dd (k/10)++[a8 (48+k%10)]:=by rw[dd,Lib.decDigits,dif_neg h]
theorem mv:∀(n k:Nat),k<n->(dd k).length<=k+1
 |0,k,h=>by omega
 |
  n+1,k,h=>by
  by_cases h1:k<10
  ·rw[eH h1];simp
  ·rw[fM h1]
   have:=mv n (k/10) (by omega)
   simp only[an,aw,aF];omega
theorem w6(d:Nat)(h:d<10):(Value.int .u8 (IntKind.wrap .u8 (IntKind.wrap .i64 (48+(d:Int)))))=.int .u8 ((a8 (48+d)).toNat:Int):=by
 have:d=0\/d=1\/d=2\/d=3\/d=4\/d=5\/d=6\/d=7\/d=8\/d=9:=by omega
 rcases this with rfl|rfl|rfl|rfl|rfl|rfl|rfl|rfl|rfl|rfl<;>rfl
theorem pR(b:UInt8):bytesOf [[.v (.int .u8 (b.toNat:Int))]]=[b]:=by simp[bytesOf,wW]
theorem kS(b:UInt8):jy [[.v (.int .u8 (b.toNat:Int))]]:=⟨rfl,(k8 _ _).mpr trivial,trivial⟩
theorem F4:∀(n k:Nat),k<n->k<1000000000->aq Tryz.prog 54 [.v (.int .i64 (k:Int))] [] (bC (.v (.string (mk (dd k)))))
 |0,k,h,_=>by omega
 |
  n+1,k,h,hk=>by
  refine OF _ ?_
  simp only[I8,↓zq,zs,af,bC]
  refine⟨fun h=>by omega,fun _=>⟨fun h=>by omega,fun _=>⟨fun h1=>?_,fun h1=>⟨by omega,?_⟩⟩⟩⟩
  ·rw[w6 k (by omega)]
   refine⟨kS _,?_⟩
   rw[pR,eH (by omega)];rfl
  ·have e1:IntKind.wrap .i64 (Int.tdiv (k:Int) 10)=((k/10:Nat):Int):=by
    rw[show Int.tdiv (k:Int) 10=((k/10:Nat):Int) from (Int.ofNat_tdiv k 10).symm,wrap64 _ (by omega) (by omega)]
   have e2:dB (k:Int) 10=((k%10:Nat):Int):=(Int.ofNat_tmod k 10).symm
   rw[e1,e2,w6 (k%10) (by omega)]
   refine aj (F4 n (k/10) (by omega) (by omega)) ?_
   have hl:=mv (k+1) (k/10) (by omega)
   simp only[↓zq,zs,af,zt,pR]
   have h9:(k:Int)<1000000000:=by omega
   refine⟨by omega,kS _,?_,?_⟩
   ·show (mk (dd (k/10))).size+(mk [a8 (48+k%10)]).size<=_
    rw[cz,cz];simp;omega
   ·show AV.v (.string (mk (dd (k/10))++mk [a8 (48+k%10)]))=_
    rw[kU,fM (k:=k) (by omega)]
theorem CG(s:List UInt8)(d:AV)(hd:LK.sl.has d)(h:s≠[]):aq Tryz.prog 90 [.agg [.v (.string (mk s)),d]] [] (bC (.v (.string (mk [])))):=by
 refine Gx _ _ hd ?_
 simp only[Cp,↓zq,zs,af,zt,bC]
 exact⟨fun _=>trivial,fun h'=>absurd h' h⟩
theorem Ci(e:E):AV.agg [.v (.string ((e.kC.cs.getD 0 .any).ag)),e.kC.cs.getD 1 .any]=e.kC:=by cases e<;>rfl
mutual
def eT:E->List UInt8
 | .atom s=>s
 | .list []=>[40,41]
 | .list (e::l)=>40::(eT e++(ei l++[41]))
def ei:List E->List UInt8
 |[]=>[]
 |e::l=>32::(eT e++ei l)
end
theorem zd:∀(l:List E) (i:Nat) (h:i<l.length),ei (l.drop i)=32::(eT l[i]++ei (l.drop (i+1))):=by
 intro l i h
 rw[aY h,ei]
theorem Hm(l:List E)(hll:l.length<1000000000000)(ih:∀i (h:i<l.length),aq Tryz.prog 57 [(l[i]).kC] [] (bC (.v (.string (mk (eT l[i])))))) :
 ∀(k i:Nat) (out:List UInt8),i+k=l.length->1<=i->out.length+(ei (l.drop i)).length<=1000000000000->AS [.v (.string (mk out)),.v (.int .i64 (i:Int))] [.cells [.v (.string (mk [])),.sl (E.bj l)]] (iG 1 [.v (.string (mk (out++ei (l.drop i))))] [])
 |
  0,i,out,hi,h1,hn=>by
  refine CQ _ _ _ _ ?_
  simp only[BG,↓zq,zs,af,eg]
  have:l.drop i=[]:=bJ (by omega)
  refine⟨fun h=>by omega,fun _=>?_⟩
  simp[iG,this,ei]
 |
  k+1,i,out,hi,h1,hn=>by
  have hlt:i<l.length:=by omega
  have hd:=zd l i hlt
  rw[hd]at hn
  simp only[aw,an]at hn
  refine CQ _ _ _ _ ?_
  simp only[BG,↓zq,zs,af,zt,eg,jC l i hlt,gj,iT,iV,ap]
  refine⟨fun _=>⟨fun _=>⟨by omega,by omega,?_⟩,fun h=>by omega⟩,fun h=>by omega⟩
  refine aj (ih i hlt) ?_
  simp only[↓zq,zs,af,zt]
  refine⟨by simp;omega,?_⟩
  rw[bA i (by omega),hd]
  have:=Hm l hll ih k (i+1) (out++[32]++eT l[i]) (by omega) (by omega) (by simp;omega)
  simpa using this
theorem wX:∀(l:List E) (i:Nat) (h:i<l.length),(eT l[i]).length<=(ei l).length
 |e::l,0,_=>by simp only[ei,List.getElem_cons_zero,aw,an];omega
 |e::l,i+1,h=>by have:=wX l i (by simpa using h);simp only[ei,List.getElem_cons_succ,aw,an];omega
theorem qZ:∀l:List E,l.length<=(ei l).length
 |[]=>by simp[ei]
 |e::l=>by have:=qZ l;simp only[ei,aw,an];omega
theorem CZ:∀(n:Nat) (e:E),e.sz<n->e.ok->(eT e).length<=900000000000->aq Tryz.prog 57 [e.kC] [] (bC (.v (.string (mk (eT e)))))
 |0,e,hn,_,_=>by omega
 |
  n+1,.atom s,hn,hok,hl=>by
  refine Fl _ _ ((bq).mpr trivial) ?_
  have hne:s≠[]:=hok
  simp only[CH,↓zq,zs,af,zt,bC]
  exact⟨fun _=>rfl,fun h=>absurd h hne⟩
 |
  n+1,.list [],hn,hok,hl=>by
  refine Fl _ _ ((cb _).mpr trivial) ?_
  simp only[CH,↓zq,zs,af,zt,bC]
  refine⟨fun h=>absurd rfl h,fun _=>?_⟩
  have h1:AS [.v (.string (mk [40])),.v (.int .i64 0)] [.cells [.v (.string (mk [])),.sl (E.bj [])]] (iG 1 [.v (.string (mk [40]))] []):=by
   refine CQ _ _ _ _ ?_
   simp[BG,↓zq,zs,af,E.bj,iG]
  refine cw h1 ?_
  simp only[↓zq,zs,af,zt]
  exact⟨by simp,rfl⟩
 |
  n+1,.list (x::l),hn,hok,hl=>by
  refine Fl _ _ ((cb _).mpr trivial) ?_
  simp only[E.sz,E.jk]at hn
  simp only[eT,aw,an,aF]at hl
  have h2:=qZ l
  simp only[CH,↓zq,zs,af,zt,bC]
  refine⟨fun h=>absurd rfl h,fun _=>?_⟩
  have hL:AS [.v (.string (mk [40])),.v (.int .i64 0)] [.cells [.v (.string (mk [])),.sl (E.bj (x::l))]] (iG 1 [.v (.string (mk ([40]++eT x++ei l)))] []):=by
   refine CQ _ _ _ _ ?_
   simp only[BG,E.bj,Int.toNat_zero,↓zq,zs,af,zt,eg,gj,iT,iV,ap]
   refine⟨fun _=>⟨fun h=>by omega,fun _=>⟨by omega,?_⟩⟩,fun h=>by omega⟩
   refine aj (CZ n x (by omega) hok.1 (by omega)) ?_
   simp only[↓zq,zs,af,zt]
   refine⟨by simp;omega,?_⟩
   have:=Hm (x::l) (by simp;omega) (fun i hi=>by
    have h3:=tC (x::l) i hi
    simp only[E.jk]at h3
    refine CZ n _ (by omega) (tv _ i hi hok) ?_
    have h4:=wX (x::l) i hi
    simp only[ei,aw,an]at h4
    omega) l.length 1 ([40]++eT x) (by simp;omega) (by omega) (by simp;omega)
   rw[show IntKind.wrap .i64 (0+1)=1 from rfl]
   simpa[E.bj]using this
  refine cw hL ?_
  simp only[↓zq,zs,af,zt]
  refine⟨by simp;omega,?_⟩
  simp[eT]
theorem Cv(e:E)(h:e.ok)(hl:(eT e).length<=900000):aq Tryz.prog 57 [e.kC] [] (bC (.v (.string (mk (eT e))))):=CZ (e.sz+1) e (by omega) h (by omega)
mutual
def E.nd:E->Nat
 | .atom _=>1
 | .list []=>1
 | .list (_::l)=>1+E.uq l
def E.uq:List E->Nat
 |[]=>0
 |e::l=>e.nd+E.uq l
end
mutual
theorem Bx:∀e:E,e.nd<=e.sz
 | .atom s=>by simp[E.nd,E.sz]
 | .list []=>by simp[E.nd,E.sz,E.jk]
 | .list (x::l)=>by have:=wz l;simp only[E.nd,E.sz,E.jk];omega
theorem wz:∀l:List E,E.uq l<=E.jk l
 |[]=>by simp[E.uq,E.jk]
 |e::l=>by have:=Bx e;have:=wz l;simp only[E.uq,E.jk];omega
end
theorem Av:∀(l:List E) (i:Nat) (h:i<l.length),E.uq (l.drop i)=(l[i]).nd+E.uq (l.drop (i+1)):=by
 intro l i h
 rw[aY h];rfl
theorem HB(l:List E)(hl:E.uq l<1000000)(hll:l.length<1000000)(ih:∀i (h:i<l.length),aq Tryz.prog 86 [(l[i]).kC] [] (bC (.v (.int .i64 ((l[i]).nd:Int))))) :
 ∀(k i n:Nat),i+k=l.length->n+E.uq (l.drop i)<=1+E.uq l->zW [.v (.int .i64 (n:Int)),.v (.int .i64 (i:Int))] [.cells [.v (.string (mk [])),.sl (E.bj l)]] (iG 1 [.v (.int .i64 ((n+E.uq (l.drop i):Nat):Int))] [])
 |
  0,i,n,hi,hn=>by
  refine CF _ _ _ _ ?_
  simp only[A7,↓zq,zs,af,eg]
  have:l.drop i=[]:=bJ (by omega)
  refine⟨fun h=>by omega,fun _=>?_⟩
  simp[iG,this,E.uq]
 |
  k+1,i,n,hi,hn=>by
  have hlt:i<l.length:=by omega
  refine CF _ _ _ _ ?_
  simp only[A7,↓zq,zs,af,zt,eg,jC l i hlt,gj,iT,iV,ap]
  refine⟨fun _=>⟨by omega,?_⟩,fun h=>by omega⟩
  refine aj (ih i hlt) ?_
  have h1:=Av l i hlt
  simp only[↓zq,zs,af]
  rw[bA i (by omega),wrap64 _ (by omega) (by omega)]
  have:=HB l hl hll ih k (i+1) (n+(l[i]).nd) (by omega) (by omega)
  rw[h1,<-Nat.add_assoc]
  simpa using this
theorem Mg:∀(n:Nat) (e:E),e.sz<n->e.sz<900000->aq Tryz.prog 86 [e.kC] [] (bC (.v (.int .i64 (e.nd:Int))))
 |0,e,hn,_=>by omega
 |
  n+1,.atom s,hn,hl=>by
  refine J3 _ _ ((bq).mpr trivial) ?_
  simp only[GP]
  have hL:zW [.v (.int .i64 1),.v (.int .i64 1)] [.cells [.v (.string (mk s)),.v (.slice none 0 0)]] (iG 1 [.v (.int .i64 1)] []):=by
   refine CF _ _ _ _ ?_
   simp[A7,↓zq,zs,af,iG]
  refine cw hL ?_
  simp[↓zq,zs,af,bC,E.nd]
 |
  n+1,.list l,hn,hl=>by
  refine J3 _ _ ((cb _).mpr trivial) ?_
  simp only[E.sz]at hn hl
  simp only[GP]
  match l,hn,hl with
  |
   [],hn,hl =>
   have hL:zW [.v (.int .i64 1),.v (.int .i64 1)] [.cells [.v (.string (mk [])),.sl (E.bj [])]] (iG 1 [.v (.int .i64 1)] []):=by
    refine CF _ _ _ _ ?_
    simp[A7,↓zq,zs,af,iG,E.bj]
   refine cw hL ?_
   simp[↓zq,zs,af,bC,E.nd]
  |
   x::l,hn,hl =>
   simp only[E.jk]at hn hl
   have h1:=wz l
   have h2:=tu l
   have h0:=Bx x
   refine cw (HB (x::l) (by simp only[E.uq];omega) (by simp;omega) (fun i hi=>?_) l.length 1 1 (by simp;omega) (by simp[E.uq])) ?_
   ·have:=tC (x::l) i hi
    simp only[E.jk]at this
    exact Mg n _ (by omega) (by omega)
   ·simp[↓zq,zs,af,E.nd,bC]
theorem N5(e:E)(hl:e.sz<900000):aq Tryz.prog 86 [e.kC] [] (bC (.v (.int .i64 (e.nd:Int)))):=Mg (e.sz+1) e (by omega) hl
inductive Vl where
 |u
 |el (k:Nat)
 |l (v:Vl)
 |r (v:Vl)
 |f (v:Vl)
 |p (a b:Vl)
abbrev uk(k:Nat):List UInt8:=101::dd k
abbrev kB:AV:=.v (.pointer none)
def Vl.cq:Vl->AV
 | .u=>.ptr [.v (.int .u8 117),.v (.string (mk [])),kB,kB]
 | .el k=>.ptr [.v (.int .u8 101),.v (.string (mk (uk k))),kB,kB]
 | .l v=>.ptr [.v (.int .u8 108),.v (.string (mk [])),v.cq,kB]
 | .r v=>.ptr [.v (.int .u8 114),.v (.string (mk [])),v.cq,kB]
 | .f v=>.ptr [.v (.int .u8 102),.v (.string (mk [])),v.cq,kB]
 | .p a b=>.ptr [.v (.int .u8 112),.v (.string (mk [])),a.cq,b.cq]
def Vl.cB:Vl->E
 | .u=>.atom [117]
 | .el k=>.atom (uk k)
 | .l v=>.list [.atom [108],v.cB]
 | .r v=>.list [.atom [114],v.cB]
 | .f v=>.list [.atom [102],v.cB]
 | .p a b=>.list [.atom [112],a.cB,b.cB]
def Vl.nodes:Vl->Nat
 | .l v=>1+v.nodes
 | .r v=>1+v.nodes
 | .f v=>1+v.nodes
 | .p a b=>1+a.nodes+b.nodes
 |_=>1
def Vl.iB(n:Nat):Vl->Prop
 | .el k=>k<n
 | .l v=>v.iB n
 | .r v=>v.iB n
 | .f v=>v.iB n
 | .p a b=>a.iB n/\b.iB n
 | .u=>True
abbrev Vl.dN(v:Vl):List UInt8:=eT v.cB
theorem aN(v:Vl):LK.has .ptr v.cq=True:=by cases v<;>simp[Vl.cq,ci]
theorem eZ(v:Vl):v.cq.isNil=false:=by cases v<;>rfl
theorem mI:∀v:Vl,v.cB.ok
 | .u=>by simp[Vl.cB,E.ok]
 | .el k=>by simp[Vl.cB,E.ok]
 | .l v=>⟨by simp[E.ok],mI v,trivial⟩
 | .r v=>⟨by simp[E.ok],mI v,trivial⟩
 | .f v=>⟨by simp[E.ok],mI v,trivial⟩
 | .p a b=>⟨by simp[E.ok],mI a,mI b,trivial⟩
theorem nu:∀v:Vl,v.cB.nd=v.nodes
 | .u=>rfl
 | .el k=>rfl
 | .l v=>by simp[Vl.cB,E.nd,E.uq,Vl.nodes,nu v]
 | .r v=>by simp[Vl.cB,E.nd,E.uq,Vl.nodes,nu v]
 | .f v=>by simp[Vl.cB,E.nd,E.uq,Vl.nodes,nu v]
 | .p a b=>by simp[Vl.cB,E.nd,E.uq,Vl.nodes,nu a,nu b,Nat.add_assoc]
theorem ii:∀v:Vl,v.iB 100->v.dN.length<=200*v.nodes
 | .u,_=>by simp[Vl.dN,Vl.cB,eT,Vl.nodes]
 |
  .el k,h=>by
  have h':k<100:=h
  have:=mv 1000 k (by omega)
  simp only[Vl.dN,Vl.cB,eT,Vl.nodes,aw];omega
 | .l v,h=>by have:=ii v h;simp only[Vl.dN,Vl.cB,eT,ei,Vl.nodes,aw,an,aF]at this |-;omega
 | .r v,h=>by have:=ii v h;simp only[Vl.dN,Vl.cB,eT,ei,Vl.nodes,aw,an,aF]at this |-;omega
 | .f v,h=>by have:=ii v h;simp only[Vl.dN,Vl.cB,eT,ei,Vl.nodes,aw,an,aF]at this |-;omega
 | .p a b,h=>by have:=ii a h.1;have:=ii b h.2;simp only[Vl.dN,Vl.cB,eT,ei,Vl.nodes,aw,an,aF]at *;omega
theorem yT(a b:AV)(h:LK.ptr.has a)(h':LK.ptr.has b):aq Tryz.prog 96 [a,b] [] (bC (.ptr [.v (.int .u8 112),.v (.string (mk [])),a,b])):=by
 refine Oh _ _ h h' ?_
 simp[I9,↓zq,zs,af,bC]
theorem dj(v:Vl):1<=v.nodes:=by cases v<;>simp[Vl.nodes]<;>omega
theorem Eg:∀(v:Vl),v.nodes<1000000->aq Tryz.prog 50 [v.cq] [] (bC (.v (.int .i64 (v.nodes:Int))))
 | .u,h=>by refine yp _ ((aN _).mpr trivial) ?_;simp[wk,Vl.cq,↓zq,zs,af,bC,Vl.nodes]
 | .el k,h=>by refine yp _ ((aN _).mpr trivial) ?_;simp[wk,Vl.cq,↓zq,zs,af,bC,Vl.nodes]
 |
  .l v,h=>by
  simp only[Vl.nodes]at h
  refine yp _ ((aN _).mpr trivial) ?_
  simp only[wk,Vl.cq,↓zq,zs,af,aN,eZ]
  refine⟨by omega,fun _=>⟨by omega,?_⟩,fun h=>(by cases h)⟩
  refine aj (Eg v (by omega)) ?_
  simp only[↓zq,zs,af,bC,Vl.nodes]
  rw[wrap64 _ (by omega) (by omega)]
  simp
 |
  .r v,h=>by
  simp only[Vl.nodes]at h
  refine yp _ ((aN _).mpr trivial) ?_
  simp only[wk,Vl.cq,↓zq,zs,af,aN,eZ]
  refine⟨by omega,fun _=>⟨by omega,?_⟩,fun h=>(by cases h)⟩
  refine aj (Eg v (by omega)) ?_
  simp only[↓zq,zs,af,bC,Vl.nodes]
  rw[wrap64 _ (by omega) (by omega)]
  simp
 |
  .f v,h=>by
  simp only[Vl.nodes]at h
  refine yp _ ((aN _).mpr trivial) ?_
  simp only[wk,Vl.cq,↓zq,zs,af,aN,eZ]
  refine⟨by omega,fun _=>⟨by omega,?_⟩,fun h=>(by cases h)⟩
  refine aj (Eg v (by omega)) ?_
  simp only[↓zq,zs,af,bC,Vl.nodes]
  rw[wrap64 _ (by omega) (by omega)]
  simp
 |
  .p a b,h=>by
  simp only[Vl.nodes]at h
  refine yp _ ((aN _).mpr trivial) ?_
  simp only[wk,Vl.cq,↓zq,zs,af,aN,eZ]
  refine⟨by omega,fun _=>⟨by omega,?_⟩,fun h=>(by cases h)⟩
  refine aj (Eg a (by omega)) ?_
  simp only[↓zq,zs,af,aN,eZ]
  rw[wrap64 (1+(a.nodes:Int)) (by omega) (by omega)]
  refine⟨by omega,fun _=>⟨by omega,?_⟩,fun h=>(by cases h)⟩
  refine aj (Eg b (by omega)) ?_
  simp only[↓zq,zs,af,bC,Vl.nodes]
  rw[wrap64 _ (by omega) (by omega)]
  congr 2
end Go.Proofs.Trees
namespace Go.Proofs.Trees
open Go Go.VL Go.RowKit
def yB:List UInt8->Nat->Option Nat
 |[],n=>some n
 |b::r,n=>if ia b=true then yB r (10*n+(b.toNat-48))else none
def eC(s:List UInt8):Option Nat :=
 if s.length=2\/s.length=3 then(if s.getD 0 0=101/\¬(s.length=3/\s.getD 1 0=48)then yB (s.drop 1) 0 else none)else none
def zv(s:List UInt8):Int:=match eC s with|some k=>(k:Int)|none=>-1
theorem H6(s:List UInt8)(hs:s.length<=3):∀(k i n:Nat),i+k=s.length->1<=i->(n+1)*10 ^ k<=1000->ES [.v (.string (mk s)),.v (.int .i64 (n:Int)),.v (.int .i64 (i:Int))] []
 (rQ (match yB (s.drop i) n with|some m=>(1,[.v (.int .i64 (m:Int))],[])|none=>(2,[.v (.int .i64 (-1))],[])))
 |
  0,i,n,hi,h1,hn=>by
  refine IS _ _ _ ?_
  have hd:s.drop i=[]:=bJ (by omega)
  simp only[F6,↓zq,zs,af,zt,hd,yB]
  exact⟨fun h=>by omega,fun _=>by first|trivial|rfl⟩
 |
  k+1,i,n,hi,h1,hn=>by
  have hlt:i<s.length:=by omega
  refine IS _ _ _ ?_
  rw[drop_cons hlt,yB]
  simp only[F6,↓zq,zs,af,zt,lY s i hlt]
  generalize s.getD i 0=b
  have hb:=b.toNat_lt
  refine⟨fun _=>⟨by omega,fun h48=>?_,fun h48=>⟨by omega,fun h57=>?_,fun h57=>⟨by omega,?_⟩⟩⟩,fun h=>by omega⟩
  ·have:ia b=false:=by simp only[ia,decide_eq_false_iff_not];omega
   rw[this];rfl
  ·have:ia b=false:=by simp only[ia,decide_eq_false_iff_not];omega
   rw[this];rfl
  ·have:ia b=true:=by simp only[ia,decide_eq_true_eq];omega
   rw[if_pos this]
   have hk:k=0\/k=1:=by omega
   have hn2:n*10<=1000:=by
    rcases hk with rfl|rfl<;>simp at hn<;>omega
   have e8:IntKind.wrap .u8 ((b.toNat:Int)-48)=((b.toNat-48:Nat):Int):=by
    have:b.toNat=48\/b.toNat=49\/b.toNat=50\/b.toNat=51\/b.toNat=52\/b.toNat=53\/b.toNat=54\/b.toNat=55\/b.toNat=56\/b.toNat=57:=by omega
    rcases this with h|h|h|h|h|h|h|h|h|h<;>rw[h]<;>rfl
   rw[e8,bA i (by omega),wrap64 ((b.toNat-48:Nat):Int) (by omega) (by omega),wrap64 (10*(n:Int)) (by omega) (by omega),wrap64 _ (by omega) (by omega)]
   have e:(10*(n:Int)+((b.toNat-48:Nat):Int))=((10*n+(b.toNat-48):Nat):Int):=by omega
   rw[e]
   exact H6 s hs k (i+1) _ (by omega) (by omega) (by rcases hk with rfl|rfl<;>simp at hn |-<;>omega)
theorem FX(s:List UInt8):aq Tryz.prog 56 [.v (.string (mk s))] [] (bC (.v (.int .i64 (zv s)))):=by
 refine N8 _ ?_
 unfold I5
 refine aj (Cr _ _ _) ?_
 simp only[↓zq,zs,af,zt,D7,bC]
 have hL:∀(Q:Nat->List AV->List Ob->Prop),(s.length=2\/s.length=3)->s.getD 0 0=101->¬(s.length=3/\s.getD 1 0=48)->(Q 0 [.v (.int .i64 (zv s))] []) ->
  eU Tryz.prog 49 (.loop Du Aa [.v (.string (mk s)),.v (.int .i64 0),.v (.int .i64 1)] [] (fun y2 q2=>.ak (LK.has (.int .i64) (y2.headD .any))<|.done 0 [.v (.int .i64 ((y2.headD .any).toInt))] []) (fun y2 q2=>.ak (LK.has (.int .i64) (y2.headD .any))<|.done 0 [.v (.int .i64 ((y2.headD .any).toInt))] [])) Q:=by
  intro Q hl h0 h1 hQ
  have e:eC s=yB (s.drop 1) 0:=by rw[eC,if_pos hl,if_pos ⟨h0,h1⟩]
  refine jp (H6 s (by omega) (s.length-1) 1 0 (by omega) (by omega) (by rcases hl with h|h<;>rw[h]<;>decide)) (fun ys o e'=>?_) (fun ys o e'=>?_)
  ·cases hq:yB (s.drop 1) 0<;>rw[hq]at e'<;>cases e'
   rw[hq]at e
   simp only[zv,e]at hQ
   simp only[↓zq,zs,af];exact hQ
  ·cases hq:yB (s.drop 1) 0<;>rw[hq]at e'<;>cases e'
   rw[hq]at e
   simp only[zv,e]at hQ
   simp only[↓zq,zs,af];exact hQ
 have hz:∀{i:Nat},i<s.length->bt (mk s) (i:Int)=((s.getD i 0).toNat:Int):=fun h=>lY s _ h
 refine⟨fun h=>?_,fun h=>⟨?_,fun h0=>?_,fun h0=>⟨fun h3=>⟨by omega,fun h1=>?_,fun h1=>?_⟩,fun h3=>?_⟩⟩⟩
 ·have h':¬(2<=(s.length:Int)/\(s.length:Int)<=3):=by simpa using h
  rw[zv,eC,if_neg (by omega)]
 ·have h':2<=(s.length:Int)/\(s.length:Int)<=3:=by simpa using h
  omega
 ·have h':2<=(s.length:Int)/\(s.length:Int)<=3:=by simpa using h
  have e0:=hz (i:=0) (by omega)
  simp only[cL,dh]at e0
  rw[e0]at h0
  rw[zv,eC,if_pos (by omega),if_neg]
  rintro⟨e,_⟩
  rw[e]at h0;exact h0 rfl
 ·have h':2<=(s.length:Int)/\(s.length:Int)<=3:=by simpa using h
  have e1:=hz (i:=1) (by omega)
  simp only[cL,dh]at e1
  rw[e1]at h1
  rw[zv,eC,if_pos (by omega),if_neg]
  rintro⟨_,e⟩
  refine e ⟨by omega,?_⟩
  rw[<-dQ];show (s.getD 1 0).toNat=48;omega
 ·have h':2<=(s.length:Int)/\(s.length:Int)<=3:=by simpa using h
  have e0:=hz (i:=0) (by omega)
  have e1:=hz (i:=1) (by omega)
  simp only[cL,dh]at e0 e1
  rw[e0]at h0;rw[e1]at h1
  refine hL _ (by omega) ?_ ?_ ⟨rfl,rfl⟩
  ·rw[<-dQ];show (s.getD 0 0).toNat=101;omega
  ·rintro⟨_,e⟩;rw[e]at h1;exact h1 rfl
 ·have h':2<=(s.length:Int)/\(s.length:Int)<=3:=by simpa using h
  have e0:=hz (i:=0) (by omega)
  simp only[cL,dh]at e0
  rw[e0]at h0
  refine hL _ (by omega) ?_ ?_ ⟨rfl,rfl⟩
  ·rw[<-dQ];show (s.getD 0 0).toNat=101;omega
  ·rintro⟨e,_⟩;omega
theorem oI:∀(l:List UInt8) (n:Nat),(yB l n).isSome=l.all ia
 |[],n=>rfl
 |
  b::l,n=>by
  rw[yB]
  cases hb:ia b with
  |true=>rw[if_pos rfl,oI l];simp[hb]
  |false=>rw[if_neg (by simp)];simp[hb]
theorem Lk(s:List UInt8):aq Tryz.prog 148 [.v (.string (mk s))] [] (bC (.v (.bool (eC s).isSome))):=by
 refine OG _ ?_
 simp only[Je,↓zq,zs,af,zt,bC]
 have hz:∀{i:Nat},i<s.length->bt (mk s) (i:Int)=((s.getD i 0).toNat:Int):=fun h=>lY s _ h
 refine⟨fun h=>?_,fun h=>⟨fun h3=>?_,fun h3=>?_⟩⟩
 ·rw[eC,if_neg (by omega)];rfl
 ·rw[eC,if_neg (by omega)];rfl
 ·have e0:=hz (i:=0) (by omega)
  have e1:=hz (i:=1) (by omega)
  simp only[cL,dh]at e0 e1
  rw[e0,e1]
  have hx:s.drop (bW 1)=s.drop 1:=rfl
  refine⟨by omega,fun h0=>?_,fun h0=>⟨by omega,?_⟩⟩
  ·rw[eC,if_pos (by omega),if_neg]
   ·rfl
   ·rintro⟨e,_⟩;rw[e]at h0;exact h0 rfl
  ·rw[hx]
   refine aj (IC (s.drop 1) FA (by simp;omega) (by decide) (by decide)) ?_
   simp only[↓zq,zs,af,zt]
   have h101:s.getD 0 0=101:=by rw[<-dQ];show (s.getD 0 0).toNat=101;omega
   have hall:Lib.trimS (s.drop 1) FA=[]↔(s.drop 1).all ia=true:=by
    rw[sK]
    have:(fun x=>FA.contains x)=ia:=funext uM
    rw[this]
   refine⟨fun ht=>?_,fun ht=>⟨fun h2=>?_,fun h2=>⟨by omega,?_⟩⟩⟩
   ·have:(s.drop 1).all ia=false:=by
     cases hq:(s.drop 1).all ia with
     |false=>rfl
     |true=>exact absurd (hall.2 hq) ht
    rw[eC,if_pos (by omega)]
    split
    ·rw[oI,this]
    ·rfl
   ·have hq:=hall.1 ht
    rw[eC,if_pos (by omega),if_pos ⟨h101,by omega⟩,oI,hq]
   ·have hq:=hall.1 ht
    rw[eC,if_pos (by omega)]
    by_cases h48:s.getD 1 0=48
    ·rw[if_neg (by rintro⟨_,e⟩;exact e ⟨by omega,h48⟩),h48];rfl
    ·rw[if_pos ⟨h101,fun e=>h48 e.2⟩,oI,hq]
     have:¬((s.getD 1 0).toNat:Int)=48:=fun e=>h48 (by rw[<-dQ];show (s.getD 1 0).toNat=48;omega)
     rw[bne_iff_ne.2 this]
theorem pi{s:List UInt8}{k:Nat}(h:eC s=some k):s=uk k/\k<100:=by
 have key1:∀a:Fin 256,ia (a8 a.val)=true->yB [a8 a.val] 0=some ((a8 a.val).toNat-48)/\(a8 a.val).toNat-48<10/\[a8 a.val]=[a8 (48+((a8 a.val).toNat-48))]:=by decide +kernel
 unfold eC at h
 split at h
 ·rename_i hl
  split at h
  ·rename_i hh
   obtain⟨h0,h1⟩:=hh
   rcases hl with hl|hl
   ·match s,hl with
    |
     [c,a],_ =>
     simp only[bp]at h0
     subst h0
     simp only[List.drop_succ_cons,bo,yB]at h
     split at h
     ·rename_i ha
      have:=key1 ⟨a.toNat,a.toNat_lt⟩ (by simpa using ha)
      simp only[UInt8.ofNat_toNat]at this
      cases h
      refine⟨?_,by omega⟩
      rw[uk,eH (by omega)]
      simp only[Nat.mul_zero,aU]
      rw[<-this.2.2]
     ·cases h
   ·match s,hl with
    |
     [c,a,b],_ =>
     simp only[bp,List.getD_cons_succ,aw,aF,true_and]at h0 h1
     subst h0
     simp only[List.drop_succ_cons,bo,yB]at h
     split at h
     ·rename_i ha
      split at h
      ·rename_i hb
       have k1:=key1 ⟨a.toNat,a.toNat_lt⟩ (by simpa using ha)
       have k2:=key1 ⟨b.toNat,b.toNat_lt⟩ (by simpa using hb)
       simp only[UInt8.ofNat_toNat]at k1 k2
       have ha':48<=a.toNat/\a.toNat<=57:=by simpa[ia]using ha
       have hb':48<=b.toNat/\b.toNat<=57:=by simpa[ia]using hb
       have h48:a.toNat≠48:=fun e=>h1 (by rw[<-dQ];simpa using e)
       cases h
       simp only[Nat.mul_zero,aU]
       refine⟨?_,by omega⟩
       rw[uk,fM (by omega),eH (by omega)]
       have e1:(10*(a.toNat-48)+(b.toNat-48))/10=a.toNat-48:=by omega
       have e2:(10*(a.toNat-48)+(b.toNat-48))%10=b.toNat-48:=by omega
       rw[e1,e2,<-k1.2.2,<-k2.2.2];rfl
      ·cases h
     ·cases h
  ·cases h
 ·cases h
theorem rb(k:Nat)(h:k<100):eC (uk k)=some k:=by
 have e:∀k,k<100->dd k=if k<10 then [a8 (48+k)]else [a8 (48+k/10),a8 (48+k%10)]:=by
  intro k hk
  by_cases h1:k<10
  ·rw[eH h1,if_pos h1]
  ·rw[fM h1,eH (by omega),if_neg h1];rfl
 have key:∀k:Fin 100,eC (101::(if k.val<10 then [a8 (48+k.val)]else [a8 (48+k.val/10),a8 (48+k.val%10)]))=some k.val:=by decide +kernel
 rw[uk,e k h];exact key ⟨k,h⟩
theorem EX(k:Nat)(h:k<100):zv (uk k)=(k:Int):=by rw[zv,rb k h]
def xU:E->Bool
 | .atom s=>(s==[117])||(eC s).isSome
 | .list [x,a]=>((x.at==[108])||(x.at==[114])||(x.at==[102]))&&xU a
 | .list [x,a,b]=>(x.at==[112])&&(xU a&&xU b)
 | .list _=>false
def fK:E->Option Vl
 | .atom s=>if s=[117]then some .u else match eC s with|some k=>some (.el k)|none=>none
 |
  .list [x,a]=>match fK a with
  |none=>none
  |some v=>if x.at=[108]then some (.l v)else if x.at=[114]then some (.r v)else if x.at=[102]then some (.f v)else none
 | .list [x,a,b]=>if x.at=[112]then(match fK a,fK b with|some v,some w=>some (.p v w)|_,_=>none)else none
 | .list _=>none
theorem oO:∀e:E,(fK e).isSome=xU e
 |
  .atom s=>by
  simp only[fK,xU]
  by_cases h:s=[117]
  ·simp[h]
  ·rw[if_neg h];cases eC s<;>simp[h]
 | .list []=>rfl
 | .list [_]=>rfl
 |
  .list [x,a]=>by
  have ha:=oO a
  rw[fK,xU,<-ha]
  cases fK a with
  |none=>simp
  |
   some v =>
   by_cases h1:x.at=[108]
   ·simp[h1]
   ·by_cases h2:x.at=[114]
    ·simp[h2]
    ·by_cases h3:x.at=[102]
     ·simp[h3]
     ·simp[h1,h2,h3]
 |
  .list [x,a,b]=>by
  have ha:=oO a
  have hb:=oO b
  rw[fK,xU,<-ha,<-hb]
  by_cases h1:x.at=[112]
  ·rw[if_pos h1,h1];cases fK a<;>cases fK b<;>rfl
  ·simp[h1]
 | .list (_::_::_::_::_)=>rfl
theorem km{x:E}{w:List UInt8}(h:x.at=w)(hw:w≠[]):x=.atom w:=by
 cases x with
 |atom s=>exact congrArg E.atom h
 |list l=>exact absurd h.symm hw
theorem kL:∀(e:E) (v:Vl),fK e=some v->v.cB=e/\v.iB 100
 |
  .atom s,v,h=>by
  simp only[fK]at h
  split at h
  ·rename_i h1;cases h;exact⟨by rw[h1];rfl,trivial⟩
  ·split at h
   ·rename_i k hk
    cases h
    obtain⟨h1,h2⟩:=pi hk
    exact⟨by rw[h1];rfl,h2⟩
   ·cases h
 | .list [],_,h=>by cases h
 | .list [_],_,h=>by cases h
 | .list (_::_::_::_::_),_,h=>by cases h
 |
  .list [x,a],v,h=>by
  rw[fK]at h
  split at h
  ·cases h
  ·rename_i w hw
   obtain⟨h1,h2⟩:=kL a w hw
   split at h
   ·rename_i hx;cases h;rw[km hx (by simp)];exact⟨by rw[Vl.cB,h1],h2⟩
   ·split at h
    ·rename_i hx;cases h;rw[km hx (by simp)];exact⟨by rw[Vl.cB,h1],h2⟩
    ·split at h
     ·rename_i hx;cases h;rw[km hx (by simp)];exact⟨by rw[Vl.cB,h1],h2⟩
     ·cases h
 |
  .list [x,a,b],v,h=>by
  rw[fK]at h
  split at h
  ·rename_i hx
   split at h
   ·rename_i w1 w2 hw1 hw2
    cases h
    obtain⟨h1,h2⟩:=kL a w1 hw1
    obtain⟨h3,h4⟩:=kL b w2 hw2
    rw[km hx (by simp)]
    exact⟨by rw[Vl.cB,h1,h3],h2,h4⟩
   ·cases h
  ·cases h
def pI(e:E)(w:List UInt8)(k:Nat):Bool:=match e with| .list (x::l)=>decide (l.length+1=k)&&(x.at==w)|_=>false
theorem sG(e:E)(w:List UInt8)(k:Nat)(hk:1<=k):aq Tryz.prog 149 [e.cq,.v (.string (mk w)),.v (.int .i64 (k:Int))] [] (bC (.v (.bool (pI e w k)))):=by
 refine Kz _ _ _ ((cN e).mpr trivial) ?_
 cases e with
 |atom s=>simp only[Bl,E.cq,↓zq,zs,af,zt,bC,pI];exact⟨by omega,fun h=>by omega,fun _=>trivial⟩
 |
  list l =>
  simp only[Bl,E.cq,↓zq,zs,af,zt,bC,rD]
  cases l with
  |nil=>exact⟨by simp,fun h=>by simp at h;omega,fun _=>rfl⟩
  |
   cons x l =>
   simp only[aw]
   refine⟨by simp,fun h=>?_,fun h=>?_⟩
   ·have:decide (l.length+1=k)=true:=by rw[decide_eq_true_eq];omega
    simp only[pI,this]
    cases x<;>simp[E.l0,E.cq,ci,pd,jH,dq,s3,toList_mk,E.at]
   ·have:decide (l.length+1=k)=false:=by rw[decide_eq_false_iff_not];omega
    simp only[pI,this];rfl
def iK:Option Vl->AV
 |some v=>v.cq
 |none=>.v (.pointer none)
end Go.Proofs.Trees
namespace Go.Proofs.Trees
open Go Go.VL Go.RowKit
theorem gx(v:Option Vl):LK.has .ptr (iK v)=True:=by cases v<;>simp[iK,aN,jg]
theorem yY:∀(e:E),e.ok->aq Tryz.prog 104 [e.cq] [] (bC (iK (fK e)))
 |
  .atom s,hok=>by
  refine K2 _ ((cN _).mpr trivial) ?_
  have hd:=ns (.atom s)
  have hlen:=lK (.atom s)
  simp only[E.at]at hd
  simp only[Ez,↓zq,zs,af,zt,bC,cN,ej,hd,fK]
  refine⟨hlen,fun h=>?_,fun h=>⟨hlen,?_⟩⟩
  ·rw[if_pos h];rfl
  ·rw[if_neg h]
   refine aj (Lk s) ?_
   simp only[↓zq,zs,af,zt]
   refine⟨fun he=>⟨hlen,?_⟩,fun he=>?_⟩
   ·obtain⟨k,hk⟩:=bz.1 he
    obtain⟨h1,h2⟩:=pi hk
    rw[hk,h1];rfl
   ·have hn:eC s=none:=by cases hq:eC s<;>simp[hq]at he |-
    rw[hn]
    refine aj (sG (.atom s) [108] 2 (by omega)) ?_
    simp only[pI,↓zq,zs,af,zf]
    refine⟨fun h=>(by cases h),fun _=>aj (sG (.atom s) [114] 2 (by omega)) ?_⟩
    simp only[pI,↓zq,zs,af,zf]
    refine⟨fun h=>(by cases h),fun _=>aj (sG (.atom s) [102] 2 (by omega)) ?_⟩
    simp only[pI,↓zq,zs,af,zf]
    refine⟨fun h=>(by cases h),fun _=>aj (sG (.atom s) [112] 3 (by omega)) ?_⟩
    simp only[pI,↓zq,zs,af,zf]
    exact⟨fun h=>(by cases h),fun _=>rfl⟩
 |
  .list l,hok=>by
  refine K2 _ ((cN _).mpr trivial) ?_
  have hd:=ns (.list l)
  have hlen:=lK (.list l)
  have hlen2:∀{l:List E},((AV.v (.string (mk [])))::[AV.sl (E.l0 l)]).length=2:=rfl
  simp only[E.at]at hd
  have he:eC []=none:=rfl
  simp only[Ez,↓zq,zs,af,zt,bC,cN,ej,hd]
  refine⟨hlen,fun h=>(by cases h),fun h=>⟨hlen,?_⟩⟩
  refine aj (Lk []) ?_
  rw[he]
  simp only[↓zq,zs,af,zt,zf,cn]
  refine⟨fun h=>(by cases h),fun _=>aj (sG (.list l) [108] 2 (by omega)) ?_⟩
  have hno:∀w:List UInt8,(∀x a,l≠[x,a])->pI (.list l) w 2=false:=by
   intro w h2
   match l,h2 with
   |[],_=>rfl
   |[x],_=>rfl
   |[x,a],h2=>exact absurd rfl (h2 x a)
   |x::y::z::l,_=>simp[pI]
  match l,hok,hno,hlen with
  |
   [x,a],hok,hno,hlen =>
   clear hno
   obtain⟨ok1,ok2,_⟩:=hok
   have e2:∀w:List UInt8,pI (.list [x,a]) w 2=(x.at==w):=fun w=>rfl
   have e3:pI (.list [x,a]) [112] 3=false:=rfl
   have hx:=ns x
   have hxl:=lK x
   rw[fK]
   simp only[e2,↓zq,zs,af]
   refine⟨fun h1=>?_,fun h1=>aj (sG (.list [x,a]) [114] 2 (by omega)) ?_⟩
   ·simp only[E.cq,E.l0,toNat_one,↓zq,zs,af,zt,cN,ej]
    refine⟨by omega,by omega,by omega,aj (yY a ok2) ?_⟩
    cases hv:fK a with
    |none=>simp only[iK,↓zq,zs,af,gx];exact⟨fun _=>trivial,fun h=>(by cases h)⟩
    |
     some v =>
     simp only[iK,↓zq,zs,af,zt,aN,eZ,hx,h1,cN,ej]
     refine⟨fun h=>(by cases h),fun _=>⟨by omega,by omega,by omega,hxl,by simp,?_⟩⟩
     rfl
   ·simp only[e2,↓zq,zs,af]
    refine⟨fun h2=>?_,fun h2=>aj (sG (.list [x,a]) [102] 2 (by omega)) ?_⟩
    ·simp only[E.cq,E.l0,toNat_one,↓zq,zs,af,zt,cN,ej]
     refine⟨by omega,by omega,by omega,aj (yY a ok2) ?_⟩
     cases hv:fK a with
     |none=>simp only[iK,↓zq,zs,af,gx];exact⟨fun _=>trivial,fun h=>(by cases h)⟩
     |
      some v =>
      simp only[iK,↓zq,zs,af,zt,aN,eZ,hx,h2,cN,ej]
      refine⟨fun h=>(by cases h),fun _=>⟨by omega,by omega,by omega,hxl,by simp,?_⟩⟩
      rfl
    ·simp only[e2,↓zq,zs,af]
     refine⟨fun h3=>?_,fun h3=>aj (sG (.list [x,a]) [112] 3 (by omega)) ?_⟩
     ·simp only[E.cq,E.l0,toNat_one,↓zq,zs,af,zt,cN,ej]
      refine⟨by omega,by omega,by omega,aj (yY a ok2) ?_⟩
      cases hv:fK a with
      |none=>simp only[iK,↓zq,zs,af,gx];exact⟨fun _=>trivial,fun h=>(by cases h)⟩
      |
       some v =>
       simp only[iK,↓zq,zs,af,zt,aN,eZ,hx,h3,cN,ej]
       refine⟨fun h=>(by cases h),fun _=>⟨by omega,by omega,by omega,hxl,by simp,?_⟩⟩
       rfl
     ·rw[e3]
      simp only[↓zq,zs,af]
      refine⟨fun h=>(by cases h),fun _=>?_⟩
      cases fK a with
      |none=>rfl
      |some v=>simp only[if_neg h1,if_neg h2,if_neg h3];rfl
  |
   [x,a,b],hok,hno,hlen =>
   obtain⟨ok1,ok2,ok3,_⟩:=hok
   have h2:=fun w=>hno w (fun x a h=>(by cases h))
   rw[h2]
   simp only[↓zq,zs,af]
   refine⟨fun h=>(by cases h),fun _=>aj (sG (.list [x,a,b]) [114] 2 (by omega)) ?_⟩
   rw[h2]
   simp only[↓zq,zs,af]
   refine⟨fun h=>(by cases h),fun _=>aj (sG (.list [x,a,b]) [102] 2 (by omega)) ?_⟩
   rw[h2]
   simp only[↓zq,zs,af]
   refine⟨fun h=>(by cases h),fun _=>aj (sG (.list [x,a,b]) [112] 3 (by omega)) ?_⟩
   have e3:pI (.list [x,a,b]) [112] 3=(x.at==[112]):=rfl
   rw[e3,fK]
   simp only[↓zq,zs,af]
   refine⟨fun h1=>?_,fun h1=>?_⟩
   ·rw[if_pos h1]
    simp only[E.cq,E.l0,toNat_one,be,↓zq,zs,af,zt,cN,ej]
    refine⟨by omega,by omega,by omega,aj (yY a ok2) ?_⟩
    simp only[↓zq,zs,af,gx,cN]
    refine⟨by omega,by omega,by omega,aj (yY b ok3) ?_⟩
    cases hv:fK a with
    |none=>cases hw:fK b<;>simp only[iK,↓zq,zs,af,gx,aN]<;>exact⟨fun _=>trivial,fun h=>(by cases h)⟩
    |
     some v =>
     cases hw:fK b with
     |
      none =>
      simp only[iK,↓zq,zs,af,gx,aN,eZ]
      exact⟨fun h=>(by cases h),fun _=>⟨fun _=>trivial,fun h=>(by cases h)⟩⟩
     |
      some w =>
      simp only[iK,↓zq,zs,af,aN,eZ]
      refine⟨fun h=>(by cases h),fun _=>⟨fun h=>(by cases h),fun _=>?_⟩⟩
      refine aj (yT _ _ ((aN _).mpr trivial) ((aN _).mpr trivial)) ?_
      simp only[↓zq,zs,af];rfl
   ·rw[if_neg h1];rfl
  |
   [],hok,hno,hlen =>
   have h2:=fun w=>hno w (fun x a h=>(by cases h))
   have e3:pI (.list []) [112] 3=false:=rfl
   rw[h2]
   simp only[↓zq,zs,af]
   refine⟨fun h=>(by cases h),fun _=>aj (sG (.list []) [114] 2 (by omega)) ?_⟩
   rw[h2]
   simp only[↓zq,zs,af]
   refine⟨fun h=>(by cases h),fun _=>aj (sG (.list []) [102] 2 (by omega)) ?_⟩
   rw[h2]
   simp only[↓zq,zs,af]
   refine⟨fun h=>(by cases h),fun _=>aj (sG (.list []) [112] 3 (by omega)) ?_⟩
   rw[e3]
   simp only[↓zq,zs,af]
   exact⟨fun h=>(by cases h),fun _=>rfl⟩
  |
   [x],hok,hno,hlen =>
   have h2:=fun w=>hno w (fun x a h=>(by cases h))
   have e3:pI (.list [x]) [112] 3=false:=rfl
   rw[h2]
   simp only[↓zq,zs,af]
   refine⟨fun h=>(by cases h),fun _=>aj (sG (.list [x]) [114] 2 (by omega)) ?_⟩
   rw[h2]
   simp only[↓zq,zs,af]
   refine⟨fun h=>(by cases h),fun _=>aj (sG (.list [x]) [102] 2 (by omega)) ?_⟩
   rw[h2]
   simp only[↓zq,zs,af]
   refine⟨fun h=>(by cases h),fun _=>aj (sG (.list [x]) [112] 3 (by omega)) ?_⟩
   rw[e3]
   simp only[↓zq,zs,af]
   exact⟨fun h=>(by cases h),fun _=>rfl⟩
  |
   x::y::z::w::l,hok,hno,hlen =>
   have h2:=fun w=>hno w (fun x a h=>(by cases h))
   have e3:pI (.list (x::y::z::w::l)) [112] 3=false:=by simp[pI]
   rw[h2]
   simp only[↓zq,zs,af]
   refine⟨fun h=>(by cases h),fun _=>aj (sG (.list (x::y::z::w::l)) [114] 2 (by omega)) ?_⟩
   rw[h2]
   simp only[↓zq,zs,af]
   refine⟨fun h=>(by cases h),fun _=>aj (sG (.list (x::y::z::w::l)) [102] 2 (by omega)) ?_⟩
   rw[h2]
   simp only[↓zq,zs,af]
   refine⟨fun h=>(by cases h),fun _=>aj (sG (.list (x::y::z::w::l)) [112] 3 (by omega)) ?_⟩
   rw[e3]
   simp only[↓zq,zs,af]
   exact⟨fun h=>(by cases h),fun _=>rfl⟩
def pT(s:List UInt8):Option Vl:=match qn s with
 |none=>none
 |
  some e=>match fK e with
  |none=>none
  |some v=>if v.nodes>200 then none else some v
theorem gH{s:List UInt8}{v:Vl}(h:pT s=some v):qn s=some v.cB/\v.iB 100/\v.nodes<=200:=by
 unfold pT at h
 split at h
 ·cases h
 ·rename_i e he
  split at h
  ·cases h
  ·rename_i w hw
   split at h
   ·cases h
   ·cases h
    obtain⟨h1,h2⟩:=kL e _ hw
    rw[h1]
    exact⟨he,h2,by omega⟩
theorem vH{e:E}{v:Vl}(h:fK e=some v):v.nodes<=e.sz:=by
 obtain⟨h1,_⟩:=kL e v h
 rw[<-nu,h1];exact Bx e
theorem JB(s:List UInt8):aq Tryz.prog 48 [.v (.string (mk s))] [] (bC (iK (pT s))):=by
 refine MT _ ?_
 unfold Hp
 refine aj (Ja s) ?_
 unfold pT
 cases he:qn s with
 |none=>simp only[ub,↓zq,zs,af,bC,iK];simp
 |
  some e =>
  obtain⟨h1,h2⟩:=nK he
  simp only[ub,↓zq,zs,af,cN,ej]
  refine⟨fun h=>(by cases h),fun _=>?_⟩
  refine aj (yY e h1) ?_
  cases hv:fK e with
  |none=>simp only[iK,↓zq,zs,af,bC];simp
  |
   some v =>
   have hn:=vH hv
   simp only[iK,↓zq,zs,af,aN,eZ]
   refine⟨fun h=>(by cases h),fun _=>?_⟩
   refine aj (Eg v (by omega)) ?_
   simp only[↓zq,zs,af,bC]
   refine⟨fun h=>?_,fun h=>?_⟩
   ·rw[if_pos (by omega)]
   ·rw[if_neg (by omega)]
theorem zc:∀(e:E),e.ok->aq Tryz.prog 85 [e.kC] [] (bC (.v (.bool (xU e))))
 |
  .atom s,hok=>by
  refine yD _ _ ((bq).mpr trivial) ?_
  have hne:s≠[]:=hok
  simp only[wo,↓zq,zs,af,zt,bC,xU]
  refine⟨fun _=>⟨fun h=>?_,fun h=>?_⟩,fun h=>absurd h hne⟩
  ·simp[h]
  ·refine aj (FX s) ?_
   have h':(s==[117])=false:=by simpa using h
   simp only[↓zq,zs,af,h',Bool.false_or]
   congr 2
   rw[zv]
   cases eC s with
   |none=>rfl
   |some k=>simp
 |
  .list [],hok=>by
  refine yD _ _ ((cb _).mpr trivial) ?_
  simp only[wo,↓zq,zs,af,zt,bC,xU]
  refine⟨fun h=>absurd rfl h,fun _=>?_⟩
  refine aj MW ?_
  simp[↓zq,zs,af,zt]
 |
  .list [x],hok=>by
  refine yD _ _ ((cb _).mpr trivial) ?_
  simp only[wo,↓zq,zs,af,zt,bC,xU]
  refine⟨fun h=>absurd rfl h,fun _=>?_⟩
  refine aj (uY x _) ?_
  simp[↓zq,zs,af,zt,E.bj]
 |
  .list (x::y::z::w::l),hok=>by
  refine yD _ _ ((cb _).mpr trivial) ?_
  simp only[wo,↓zq,zs,af,zt,bC,xU]
  refine⟨fun h=>absurd rfl h,fun _=>?_⟩
  refine aj (uY x _) ?_
  simp only[↓zq,zs,af,zt,E.bj]
  refine⟨fun _=>⟨fun h=>by omega,fun _=>trivial⟩,fun _=>⟨fun _=>⟨fun h=>by omega,fun _=>trivial⟩,fun _=>⟨fun _=>⟨fun h=>by omega,fun _=>trivial⟩,fun _=>⟨fun _=>⟨fun h=>by omega,fun _=>trivial⟩,fun _=>trivial⟩⟩⟩⟩
 |
  .list [x,a],hok=>by
  refine yD _ _ ((cb _).mpr trivial) ?_
  obtain⟨ok1,ok2,_⟩:=hok
  simp only[wo,↓zq,zs,af,zt,bC,xU]
  refine⟨fun h=>absurd rfl h,fun _=>?_⟩
  refine aj (uY x _) ?_
  simp only[E.bj,toNat_one,be,↓zq,zs,af,zt,iV,gj,iT,me,ap]
  refine⟨fun h=>⟨fun _=>⟨by omega,?_⟩,fun h=>by omega⟩,fun h1=>⟨fun h=>⟨fun _=>⟨by omega,?_⟩,fun h=>by omega⟩,fun h2=>⟨fun h=>⟨fun _=>⟨by omega,?_⟩,fun h=>by omega⟩,fun h3=>⟨fun h=>⟨fun h=>by omega,fun _=>?_⟩,fun h=>?_⟩⟩⟩⟩
  ·refine aj (zc a ok2) ?_
   simp[↓zq,zs,af,h]
  ·refine aj (zc a ok2) ?_
   simp[↓zq,zs,af,h]
  ·refine aj (zc a ok2) ?_
   simp[↓zq,zs,af,h]
  ·simp[h]
  ·simp[h1,h2,h3]
 |
  .list [x,a,b],hok=>by
  refine yD _ _ ((cb _).mpr trivial) ?_
  obtain⟨ok1,ok2,ok3,_⟩:=hok
  simp only[wo,↓zq,zs,af,zt,bC,xU]
  refine⟨fun h=>absurd rfl h,fun _=>?_⟩
  refine aj (uY x _) ?_
  simp only[E.bj,toNat_one,be,↓zq,zs,af,zt,iV,gj,iT,me,ap]
  refine⟨fun h=>⟨fun h=>by omega,fun _=>?_⟩,fun h1=>⟨fun h=>⟨fun h=>by omega,fun _=>?_⟩,fun h2=>⟨fun h=>⟨fun h=>by omega,fun _=>?_⟩,fun h3=>⟨fun h=>⟨fun _=>⟨by omega,?_⟩,fun h=>by omega⟩,fun h=>?_⟩⟩⟩⟩
  ·simp[h]
  ·simp[h]
  ·simp[h]
  ·refine aj (zc a ok2) ?_
   simp only[↓zq,zs,af,h]
   refine⟨fun ha=>⟨by omega,aj (zc b ok3) ?_⟩,fun ha=>?_⟩
   ·simp[↓zq,zs,af,ha]
   ·simp[ha]
  ·simp[h]
theorem FG(s:List UInt8):aq Tryz.prog 37 [.v (.string (mk s))] [] (lO ((pT s).map Vl.cB) (pT s).isSome):=by
 refine Ot _ ?_
 unfold HS
 refine aP (Hn s) (lO.ne _ _ (fun h=>h)) ?_
 rintro r o ⟨c,d,hd,rfl,hh⟩
 simp only[↓zq,zs,af,zt,bB,pT]
 refine⟨hd,fun h=>?_,fun h=>?_⟩
 ·obtain⟨e,he,hce⟩:=hh h
  obtain⟨hok,hsz⟩:=nK he
  rw[he,hce]
  refine aj (zc e hok) ?_
  simp only[↓zq,zs,af]
  have hs:=oO e
  refine⟨fun hi=>?_,fun hi=>?_⟩
  ·rw[hi]at hs
   obtain⟨v,hv⟩:=bz.1 hs
   obtain⟨h1,h2⟩:=kL e v hv
   refine aj (N5 e (by omega)) ?_
   simp only[↓zq,zs,af,hv]
   have hnd:e.nd=v.nodes:=by rw[<-h1,nu]
   rw[hnd]
   refine⟨c,d,hd,?_,?_⟩
   ·rw[hce]
    by_cases h4:v.nodes>200
    ·rw[if_pos h4];exact congrArg (fun b=>AV.cG [e.kC,.v (.bool b)]) (decide_eq_false (show ¬((v.nodes:Nat):Int)<=200 by omega))
    ·rw[if_neg h4];exact congrArg (fun b=>AV.cG [e.kC,.v (.bool b)]) (decide_eq_true (show ((v.nodes:Nat):Int)<=200 by omega))
   ·split
    ·exact fun h=>by cases h
    ·exact fun _=>⟨e,by simp[h1],hce⟩
  ·rw[hi]at hs
   have hn:fK e=none:=by cases hq:fK e<;>simp[hq]at hs |-
   rw[hn]
   exact⟨c,d,hd,by rw[hce];rfl,fun h=>by cases h⟩
 ·have hn:qn s=none:=by cases hq:qn s<;>simp[hq]at h |-
  rw[hn]
  exact⟨c,d,hd,rfl,fun h=>by cases h⟩
end Go.Proofs.Trees
namespace Go.Proofs.Trees
open Go Go.VL Go.RowKit
inductive Fr where
 |mk (s:List UInt8) (e:E) (o:List Fr)
def Fr.nm:Fr->List UInt8| .mk s _ _=>s
def Fr.ex:Fr->E| .mk _ e _=>e
def Fr.out:Fr->List Fr| .mk _ _ o=>o
def names:List Fr->List (List UInt8)
 |[]=>[]
 |f::r=>names r++[f.nm]
def xE(e:E)(o:List Fr):Ty:=(cK e (names o)).getD .zero
def E.sp:E->AV
 | .atom _=>.v (.slice none 0 0)
 | .list l=>.sl (E.bj l)
theorem fJ(e:E):e.iw=[.v (.string (mk e.at)),e.sp]:=by cases e<;>rfl
theorem dz(e:E):e.kC=.agg [.v (.string (mk e.at)),e.sp]:=by cases e<;>rfl
theorem aV(e:E):LK.has .sl e.sp=True:=by cases e<;>simp[E.sp,bq,cb]
mutual
def Fr.cells:Fr->List AV
 | .mk s e o=>[.v (.string (mk s)),.v (.string (mk e.at)),e.sp,.sl (j6 o)]
def j6:List Fr->List (List AV)
 |[]=>[]
 |f::r=>j6 r++[f.cells]
end
mutual
def Fr.cq:Fr->AV
 | .mk s e o=>.ptr [(xE e o).av,n0 o]
def n0:List Fr->AV
 |[]=>kB
 |f::r=>.ptr [f.cq,n0 r]
end
inductive WF:List Fr->Prop
 |nil:WF []
 |cons {s:List UInt8} {x a b:E} {t:Ty} {r:List Fr} (hs:da s=true) (hok:(E.list [x,a,b]).ok) (hx:x.at=[114,101,99]) (ht:cK (.list [x,a,b]) (names r)=some t) (hf:bQ t=false) (hr:WF r):WF (.mk s (.list [x,a,b]) r::r)
theorem kP:∀env:List Fr,(j6 env).length=env.length
 |[]=>rfl
 |f::r=>by simp[j6,kP r]
theorem er(env:List Fr):LK.has .ptr (n0 env)=True:=by cases env<;>simp[n0,jg,ci]
theorem Bt(f:Fr):LK.has .ptr f.cq=True:=by cases f;simp[Fr.cq,ci]
def fS(s:List UInt8):List Fr->Option Fr
 |[]=>none
 |f::r=>if f.nm=s then some f else fS s r
def hd(e:E)(env:List Fr):E×List Fr:=match fS e.at env with|some f=>(f.ex,f.out)|none=>(e,env)
theorem kG{env:List Fr}(h:WF env):fS [] env=none:=by
 induction h with
 |nil=>rfl
 |
  @cons s x a b t r hs hok hx ht hf hr ih =>
  rw[fS,if_neg (show ¬(Fr.mk s (.list [x,a,b]) r).nm=[] from AP hs)];exact ih
theorem zg{env:List Fr}(h:WF env){s:List UInt8}{f:Fr}(hf:fS s env=some f):da s=true:=by
 induction h with
 |nil=>cases hf
 |
  cons hs hok hx ht hf' hr ih =>
  rw[fS]at hf
  split at hf
  ·rename_i e;exact e ▸ hs
  ·exact ih hf
theorem og{env:List Fr}(h:WF env){s:List UInt8}{f:Fr}(hf:fS s env=some f):∃x a b t,f.ex=.list [x,a,b]/\(E.list [x,a,b]).ok/\x.at=[114,101,99]/\cK f.ex (names f.out)=some t/\bQ t=false/\WF f.out/\f.out.length<env.length:=by
 induction h with
 |nil=>cases hf
 |
  cons hs hok hx ht hf' hr ih =>
  rw[fS]at hf
  split at hf
  ·cases hf;exact⟨_,_,_,_,rfl,hok,hx,ht,hf',hr,by simp[Fr.out]⟩
  ·obtain⟨x,a,b,t,h1,h2,h3,h4,h5,h6,h7⟩:=ih hf
   exact⟨x,a,b,t,h1,h2,h3,h4,h5,h6,by simp;omega⟩
theorem kg(s w:List UInt8)(ar:List (List UInt8)):∀i,i<=ar.length->bE s (ar++[w]) i=(bE s ar i).map (·+1)
 |0,_=>rfl
 |
  i+1,hi=>by
  have hlt:i<ar.length:=by omega
  have e:(ar++[w]).getD i []=ar.getD i []:=by simp[aa,List.getElem?_append_left hlt]
  rw[bE,bE,e,kg s w ar i (by omega)]
  split
  ·simp only[an,aw,aF,cv,Option.some.injEq];omega
  ·rfl
theorem vi(s:List UInt8)(f:Fr)(r:List Fr):bE s (names (f::r)) (names (f::r)).length=if f.nm=s then some 0 else(bE s (names r) (names r).length).map (·+1):=by
 have e:(names (f::r)).length=(names r).length+1:=by simp[names]
 rw[e,bE]
 have e2:(names (f::r)).getD (names r).length []=f.nm:=by simp[names,aa]
 rw[e2]
 split
 ·rw[e];simp
 ·rw[names,kg _ _ _ _ (ap _)]
theorem n8(s:List UInt8):∀env:List Fr,bE s (names env) (names env).length=none/\fS s env=none\/∃(u:Nat) (f:Fr),bE s (names env) (names env).length=some u/\fS s env=some f/\env[u]?=some f
 |[]=>.inl ⟨rfl,rfl⟩
 |
  f::r=>by
  rw[vi,fS]
  split
  ·exact .inr ⟨0,f,rfl,rfl,rfl⟩
  ·rcases n8 s r with⟨h1,h2⟩|⟨u,g,h1,h2,h3⟩
   ·exact .inl ⟨by rw[h1];rfl,h2⟩
   ·exact .inr ⟨u+1,g,by rw[h1];rfl,h2,by simpa using h3⟩
def Ty.Mn:Ty->Bool
 | .bH _=>true
 |_=>false
theorem jo{e:E}{env:List Fr}{t:Ty}(hw:WF env)(ht:cK e (names env)=some t) :
 (t.Mn=false/\fS e.at env=none)\/∃(u:Nat) (f:Fr),t=.bH u/\fS e.at env=some f/\env[u]?=some f:=by
 cases e with
 |
  list l =>
  left
  refine⟨?_,kG hw⟩
  match l,ht with
  |
   [x,a,b],ht =>
   by_cases h0:x.at=[43]
   ·obtain⟨t1,t2,_,_,rfl⟩:=fG h0 ht;rfl
   ·by_cases h1:x.at=[42]
    ·obtain⟨t1,t2,_,_,rfl⟩:=fe h1 ht;rfl
    ·by_cases h2:x.at=[114,101,99]
     ·obtain⟨t1,_,_,rfl⟩:=dy h2 ht;rfl
     ·rw[iZ _ h0 h1 h2]at ht;cases ht
  |[],ht=>cases ht
  |[_],ht=>cases ht
  |[_,_],ht=>cases ht
  |_::_::_::_::_,ht=>cases ht
 |
  atom s =>
  simp only[cK]at ht
  have hno:da s=false->fS s env=none:=fun h=>by
   cases hq:fS s env with
   |none=>rfl
   |some f=>rw[zg hw hq]at h;cases h
  split at ht
  ·rename_i h;cases ht;subst h;exact .inl ⟨rfl,hno rfl⟩
  ·split at ht
   ·rename_i h;cases ht;subst h;exact .inl ⟨rfl,hno rfl⟩
   ·split at ht
    ·rename_i h
     cases ht
     refine .inl ⟨rfl,hno ?_⟩
     cases hq:da s with
     |false=>rfl
     |
      true =>
      obtain⟨c,r,rfl,h1,h2⟩:=lR h
      obtain⟨c',r',he,h3,h4⟩:=lR hq
      cases he;omega
    ·split at ht
     ·rcases n8 s env with⟨h1,h2⟩|⟨u,f,h1,h2,h3⟩
      ·rw[h1]at ht;cases ht;exact .inl ⟨rfl,h2⟩
      ·rw[h1]at ht;cases ht;exact .inr ⟨u,f,rfl,h2,h3⟩
     ·cases ht
def fq(n:Nat):Vl->E×List Fr->Bool
 | .u,p=>match hd p.1 p.2 with|(.atom s,_)=>s==[49]|_=>false
 | .el k,p=>match hd p.1 p.2 with|(.atom s,_)=>!(s==[49])&&(fj s&&decide (k<n))|_=>false
 | .l w,p=>match hd p.1 p.2 with|(.list [x,a,b],o)=>(x.at==[43])&&fq n w (a,o)|_=>false
 | .r w,p=>match hd p.1 p.2 with|(.list [x,a,b],o)=>(x.at==[43])&&fq n w (b,o)|_=>false
 | .f w,p=>match hd p.1 p.2 with|(.list [x,a,b],o)=>(x.at==[114,101,99])&&fq n w (b,.mk a.at (.list [x,a,b]) o::o)|_=>false
 | .p v w,p=>match hd p.1 p.2 with|(.list [x,a,b],o)=>(x.at==[42])&&(fq n v (a,o)&&fq n w (b,o))|_=>false
theorem ko{e:E}{env:List Fr}(h:fS e.at env=none):hd e env=(e,env):=by rw[hd,h]
theorem qo{e:E}{env:List Fr}{f:Fr}(h:fS e.at env=some f):hd e env=(f.ex,f.out):=by rw[hd,h]
theorem rH{x a b:E}{o:List Fr}(h:WF o):hd (.list [x,a,b]) o=(.list [x,a,b],o):=ko (kG h)
theorem tn(n:Nat)(v:Vl){e e':E}{env o:List Fr}(h:hd e env=(e',o))(h':hd e' o=(e',o)):fq n v (e,env)=fq n v (e',o):=by
 cases v<;>simp only[fq,h,h']
theorem jq{x a b:E}{env:List Fr}{t:Ty}(hw:WF env)(hok:(E.list [x,a,b]).ok)(hx:x.at=[114,101,99])(ht:cK (.list [x,a,b]) (names env)=some t)(hf:bQ t=false) :
 ∃t1,t=.rc t1/\cK b (names (.mk a.at (.list [x,a,b]) env::env))=some t1/\bQ t1=false/\WF (.mk a.at (.list [x,a,b]) env::env):=by
 obtain⟨t1,hl,h1,rfl⟩:=dy hx ht
 exact⟨t1,rfl,h1,hf,.cons hl hok hx ht hf hw⟩
theorem zl(a b env:AV)(n:Int)(s:ByteArray)(u:Int)(ha:LK.ptr.has a)(he:LK.ptr.has env):aq Tryz.prog 105 [.agg [.ptr [.v (.int .u8 n),.v (.string s),.v (.int .i64 u),a,b],env]] [] (bC (.agg [a,env])):=by
 refine Om _ _ ((ci _).mpr trivial) he ?_
 simp only[HA,↓zq,zs,af,bC]
 exact⟨ha,by omega⟩
theorem yR(a b env:AV)(n:Int)(s:ByteArray)(u:Int)(hb:LK.ptr.has b)(he:LK.ptr.has env):aq Tryz.prog 106 [.agg [.ptr [.v (.int .u8 n),.v (.string s),.v (.int .i64 u),a,b],env]] [] (bC (.agg [b,env])):=by
 refine NF _ _ ((ci _).mpr trivial) he ?_
 simp only[Lp,↓zq,zs,af,bC]
 exact⟨hb,by omega⟩
theorem Pz(t:Ty)(env:List Fr)(s:List UInt8)(e:E)(ht:xE e env=.rc t):aq Tryz.prog 107 [.agg [(Ty.rc t).av,n0 env]] [] (bC (.cG [.agg [t.av,n0 (.mk s e env::env)],(Fr.mk s e env).cq])):=by
 refine Mv _ _ ((aG _).mpr trivial) ((er _).mpr trivial) ?_
 simp only[Lf,Ty.av,↓zq,zs,af,aG,bC,n0,Fr.cq,ht]
 omega
theorem sY(env:List Fr)(i:Nat)(f:Fr)(h:env[i]?=some f):n0 (env.drop i)=.ptr [f.cq,n0 (env.drop (i+1))]:=by
 obtain⟨hlt,he⟩:=List.getElem?_eq_some_iff.1 h
 rw[aY hlt,he,n0]
theorem Mb(env:List Fr)(u:Nat)(hu:u<env.length)(hl:env.length<1000000):∀(k i:Nat),i+k=u->CV [n0 (env.drop i),.v (.int .i64 (u:Int)),.v (.int .i64 (i:Int))] [] (iG 1 [n0 (env.drop u)] [])
 |
  0,i,hi=>by
  refine Cg _ _ _ ?_
  have:i=u:=by omega
  subst this
  simp only[zZ,↓zq,zs,af,er]
  exact⟨fun h=>by omega,fun _=>by simp[iG]⟩
 |
  k+1,i,hi=>by
  refine Cg _ _ _ ?_
  have hlt:i<env.length:=by omega
  have hg:env[i]?=some env[i]:=bm hlt
  have hd:=sY env i _ hg
  rw[hd]
  simp only[zZ,↓zq,zs,af,er]
  refine⟨fun _=>⟨by omega,?_⟩,fun h=>by omega⟩
  rw[bA i (by omega)]
  exact Mb env u hu hl k (i+1) (by omega)
theorem Nj(env:List Fr)(u:Nat)(f:Fr)(hf:env[u]?=some f)(hl:env.length<1000000):aq Tryz.prog 133 [.agg [(Ty.bH u).av,n0 env]] [] (bC f.cq):=by
 refine KU _ _ ((aG _).mpr trivial) ((er _).mpr trivial) ?_
 obtain⟨hlt,he⟩:=List.getElem?_eq_some_iff.1 hf
 simp only[EK,Ty.av,↓zq,zs,af]
 refine⟨by omega,?_⟩
 have h:=Mb env u hlt hl u 0 (by omega)
 simp only[bo]at h
 refine cw h ?_
 rw[sY env u f hf]
 simp only[↓zq,zs,af,Bt,bC]
 omega
theorem Dk(k:Nat)(h:k<100):Lib.atoi (dd k)=some (k:Int):=by
 have e:∀k,k<100->dd k=if k<10 then [a8 (48+k)]else [a8 (48+k/10),a8 (48+k%10)]:=by
  intro k hk
  by_cases h1:k<10
  ·rw[eH h1,if_pos h1]
  ·rw[fM h1,eH (by omega),if_neg h1];rfl
 have key:∀k:Fin 100,Lib.atoi (if k.val<10 then [a8 (48+k.val)]else [a8 (48+k.val/10),a8 (48+k.val%10)])=some (k.val:Int):=by decide +kernel
 rw[e k h];exact key ⟨k,h⟩
theorem Pc(k:Nat)(hk:k<100):aq Tryz.prog 81 [.v (.string (mk (dd k)))] [] (bC (.cG [.v (.int .i64 (k:Int)),.v .nilIface])):=by
 have hl:=mv 1000 k (by omega)
 have hl2:(dd k).length<=18:=by
  have e:(dd k).length<=2:=by
   by_cases h1:k<10
   ·rw[eH h1];simp
   ·rw[fM h1,eH (by omega)];simp
  omega
 refine aq.Ng (xs:=[.string (mk (dd k))]) (v:=.tuple #[.int .i64 (k:Int),.nilIface]) ⟨qb,by kernel_rfl,by kernel_rfl,by kernel_rfl⟩ (fun M=>?_) fun w=>?_
 ·refine bw.cG _ _ [.int .i64 (k:Int),.nilIface] rfl fun i hi=>?_
  match i,hi with
  |0,_=>exact .v _ _
  |1,_=>exact .v _ _
 ·have:=Any.strconv_Atoi Tryz.B8 (mk (dd k)) (k:Int) (by rw[cz];exact hl2) (by
   have:(mk (dd k)).data.toList=dd k:=by simp[mk]
   rw[this];exact Dk k hk) w
  refine Calls.mono this fun e w' ⟨h1,t,h2⟩=>⟨h1,?_⟩
  subst h2
  refine⟨rfl,rfl,rfl,?_,fun b hb=>Lib.bytesWorld_at_old _ _ _ _ hb⟩
  simp[Lib.bytesWorld,World.freeze]
end Go.Proofs.Trees
namespace Go.Proofs.Trees
open Go Go.VL Go.RowKit
theorem fm{a b:Ty}(h:bQ (.plus a b)=false):bQ a=false/\bQ b=false:=by simpa[bQ]using h
theorem eV{a b:Ty}(h:bQ (.times a b)=false):bQ a=false/\bQ b=false:=by simpa[bQ]using h
theorem gZ{e:E}{ar:List (List UInt8)}{t:Ty}(ht:cK e ar=some t)(hb:t.Mn=false)(hf:bQ t=false) :
 (e=.atom [48]/\t=.zero)\/(e=.atom [49]/\t=.one)\/(∃s,e=.atom s/\t=.name s/\fj s=true/\s≠[48]/\s≠[49]) ∨
 (∃x a b t1 t2,e=.list [x,a,b]/\x.at=[43]/\t=.plus t1 t2/\cK a ar=some t1/\cK b ar=some t2) ∨
 (∃x a b t1 t2,e=.list [x,a,b]/\x.at=[42]/\t=.times t1 t2/\cK a ar=some t1/\cK b ar=some t2) ∨
 (∃x a b t1,e=.list [x,a,b]/\x.at=[114,101,99]/\t=.rc t1):=by
 cases e with
 |
  list l =>
  match l,ht with
  |
   [x,a,b],ht =>
   by_cases h0:x.at=[43]
   ·obtain⟨t1,t2,h1,h2,rfl⟩:=fG h0 ht
    exact .inr (.inr (.inr (.inl ⟨x,a,b,t1,t2,rfl,h0,rfl,h1,h2⟩)))
   ·by_cases h1:x.at=[42]
    ·obtain⟨t1,t2,h3,h2,rfl⟩:=fe h1 ht
     exact .inr (.inr (.inr (.inr (.inl ⟨x,a,b,t1,t2,rfl,h1,rfl,h3,h2⟩))))
    ·by_cases h2:x.at=[114,101,99]
     ·obtain⟨t1,_,_,rfl⟩:=dy h2 ht
      exact .inr (.inr (.inr (.inr (.inr ⟨x,a,b,t1,rfl,h2,rfl⟩))))
     ·rw[iZ _ h0 h1 h2]at ht;cases ht
  |[],ht=>cases ht
  |[_],ht=>cases ht
  |[_,_],ht=>cases ht
  |_::_::_::_::_,ht=>cases ht
 |
  atom s =>
  simp only[cK]at ht
  split at ht
  ·rename_i h;cases ht;subst h;exact .inl ⟨rfl,rfl⟩
  ·rename_i h0
   split at ht
   ·rename_i h;cases ht;subst h;exact .inr (.inl ⟨rfl,rfl⟩)
   ·rename_i h1
    split at ht
    ·rename_i h;cases ht;exact .inr (.inr (.inl ⟨s,rfl,rfl,h,h0,h1⟩))
    ·split at ht
     ·rename_i h
      split at ht
      ·cases ht;cases hb
      ·cases ht;simp only[bQ]at hf;rw[h]at hf;cases hf
     ·cases ht
def pN(n:Nat)(v:Vl)(e:E)(env:List Fr)(t:Ty):Prop:=aq Tryz.prog 80 [.agg [t.av,n0 env],v.cq,.v (.int .i64 (n:Int))] [] (bC (.v (.bool (fq n v (e,env)))))
structure Ask(e:E)(env:List Fr)(t:Ty):Prop where
 ok:e.ok
 wf:WF env
 ty:cK e (names env)=some t
 cl:bQ t=false
theorem LA(n:Nat)(hn:n<=100)(v:Vl)(hv:v.iB 100)(IH:∀w:Vl,w.nodes<v.nodes->w.iB 100->∀e env t,Ask e env t->env.length+w.nodes<100000->pN n w e env t)
 (e:E) (env:List Fr) (t:Ty) (A:Ask e env t) (hl:env.length+v.nodes<100000) (hb:t.Mn=false) (hh:fS e.at env=none):pN n v e env t:=by
 have hhd:hd e env=(e,env):=ko hh
 unfold pN
 refine IV _ _ _ _ ((aG _).mpr trivial) ((er _).mpr trivial) ((aN _).mpr trivial) ?_
 rcases gZ A.ty hb A.cl with⟨rfl,rfl⟩|⟨rfl,rfl⟩|⟨s,rfl,rfl,hp,h0,h1⟩|⟨x,a,b,t1,t2,rfl,hx,rfl,ha,hbb⟩|⟨x,a,b,t1,t2,rfl,hx,rfl,ha,hbb⟩|⟨x,a,b,t1,rfl,hx,rfl⟩
 ·have hp0:fj [48]=false:=rfl
  cases v<;>simp[zD,Ty.av,↓zq,zs,af,bC,fq,hhd,hp0]
 ·have hp0:fj [49]=false:=rfl
  cases v<;>simp[zD,Ty.av,Vl.cq,↓zq,zs,af,bC,fq,hhd,hp0]
 ·have h1':(s==[49])=false:=by simpa using h1
  cases v with
  |
   el k =>
   have hk:k<100:=hv
   simp only[zD,Ty.av,Vl.cq,↓zq,zs,af,zt]
   refine⟨by omega,fun h=>by omega,fun _=>⟨fun _=>⟨by omega,fun h=>absurd rfl h,fun _=>⟨by omega,by omega,?_⟩⟩,fun h=>absurd rfl h⟩⟩
   have e1:(List.take ((dd k).length+1) (uk k)).drop (bW 1)=dd k:=by simp[uk]
   rw[e1]
   refine aj (Pc k hk) ?_
   simp only[↓zq,zs,af,bC,fq,hhd,h1',hp,zf]
   refine⟨rfl,?_⟩
   congr 2
   rw[cu];simp
  |
   _ =>
   simp only[zD,Ty.av,Vl.cq,↓zq,zs,af,zt,fq,hhd,h1',bC]
   exact⟨by omega,fun h=>by omega,fun _=>⟨fun _=>⟨by omega,fun _=>trivial,fun h=>by omega⟩,fun h=>absurd rfl h⟩⟩
 ·have hok:=A.ok
  obtain⟨ok1,ok2,ok3,_⟩:=hok
  obtain⟨f1,f2⟩:=fm A.cl
  cases v with
  |
   l w =>
   simp only[Vl.nodes]at hl
   simp only[zD,Ty.av,Vl.cq,↓zq,zs,af]
   refine⟨by omega,fun h=>by omega,fun _=>⟨fun h=>by omega,fun _=>⟨fun h=>by omega,fun _=>⟨fun _=>⟨by omega,fun _=>?_,fun h=>absurd rfl h⟩,fun h=>absurd rfl h⟩⟩⟩⟩
   refine aj (zl _ _ _ _ _ _ ((aG _).mpr trivial) ((er _).mpr trivial)) ?_
   simp only[↓zq,zs,af,bB,aG,er,aN]
   refine⟨by omega,?_⟩
   refine aj (IH w (by simp only[Vl.nodes];omega) hv a env t1 ⟨ok2,A.wf,ha,f1⟩ (by omega)) ?_
   simp only[↓zq,zs,af,bC,fq,hhd,hx]
   refine⟨fun h=>?_,fun h=>⟨by omega,fun h=>by omega,fun _=>?_⟩⟩
   ·simp[h]
   ·simp[h]
  |
   r w =>
   simp only[Vl.nodes]at hl
   simp only[zD,Ty.av,Vl.cq,↓zq,zs,af]
   refine⟨by omega,fun h=>by omega,fun _=>⟨fun h=>by omega,fun _=>⟨fun h=>by omega,fun _=>⟨fun _=>⟨by omega,fun h=>by omega,fun _=>⟨by omega,fun _=>?_,fun h=>absurd rfl h⟩⟩,fun h=>absurd rfl h⟩⟩⟩⟩
   refine aj (yR _ _ _ _ _ _ ((aG _).mpr trivial) ((er _).mpr trivial)) ?_
   simp only[↓zq,zs,af,bB,aG,er,aN]
   refine⟨by omega,?_⟩
   refine aj (IH w (by simp only[Vl.nodes];omega) hv b env t2 ⟨ok3,A.wf,hbb,f2⟩ (by omega)) ?_
   simp[↓zq,zs,af,bC,fq,hhd,hx]
  |
   _ =>
   simp only[zD,Ty.av,Vl.cq,↓zq,zs,af,fq,hhd,bC]
   exact⟨by omega,fun h=>by omega,fun _=>⟨fun h=>by omega,fun _=>⟨fun h=>by omega,fun _=>⟨fun _=>⟨by omega,fun h=>by omega,fun _=>⟨by omega,fun h=>by omega,fun _=>by simp[hx]⟩⟩,fun h=>absurd rfl h⟩⟩⟩⟩
 ·have hok:=A.ok
  obtain⟨ok1,ok2,ok3,_⟩:=hok
  obtain⟨f1,f2⟩:=eV A.cl
  cases v with
  |
   p v w =>
   simp only[Vl.nodes]at hl
   simp only[zD,Ty.av,Vl.cq,↓zq,zs,af]
   refine⟨by omega,fun h=>by omega,fun _=>⟨fun h=>by omega,fun _=>⟨fun h=>by omega,fun _=>⟨fun h=>by omega,fun _=>⟨fun _=>⟨by omega,fun _=>?_,fun h=>absurd rfl h⟩,fun h=>absurd rfl h⟩⟩⟩⟩⟩
   refine aj (zl _ _ _ _ _ _ ((aG _).mpr trivial) ((er _).mpr trivial)) ?_
   simp only[↓zq,zs,af,bB,aG,er,aN]
   refine⟨by omega,?_⟩
   refine aj (IH v (by simp only[Vl.nodes];omega) hv.1 a env t1 ⟨ok2,A.wf,ha,f1⟩ (by omega)) ?_
   simp only[↓zq,zs,af,bC,fq,hhd,hx]
   refine⟨fun h=>?_,fun h=>?_⟩
   ·refine aj (yR _ _ _ _ _ _ ((aG _).mpr trivial) ((er _).mpr trivial)) ?_
    simp only[↓zq,zs,af,bB,aG,er,aN]
    refine⟨by omega,?_⟩
    refine aj (IH w (by simp only[Vl.nodes];omega) hv.2 b env t2 ⟨ok3,A.wf,hbb,f2⟩ (by omega)) ?_
    simp[↓zq,zs,af,h]
   ·simp[h]
  |
   _ =>
   simp only[zD,Ty.av,Vl.cq,↓zq,zs,af,fq,hhd,bC]
   exact⟨by omega,fun h=>by omega,fun _=>⟨fun h=>by omega,fun _=>⟨fun h=>by omega,fun _=>⟨fun h=>by omega,fun _=>⟨fun _=>⟨by omega,fun h=>by omega,fun _=>by simp[hx]⟩,fun h=>absurd rfl h⟩⟩⟩⟩⟩
 ·obtain⟨t1',he1,h1,f1,hw1⟩:=jq A.wf A.ok hx A.ty A.cl
  cases he1
  have hok:=A.ok
  obtain⟨ok1,ok2,ok3,_⟩:=hok
  have htD:xE (.list [x,a,b]) env=.rc t1:=by rw[xE,A.ty];rfl
  have hin:=Pz t1 env a.at (.list [x,a,b]) htD
  simp only[Ty.av]at hin
  simp only[zD,Ty.av,↓zq,zs,af]
  refine⟨by omega,fun h=>by omega,fun _=>⟨fun h=>by omega,fun _=>⟨fun h=>by omega,fun _=>⟨fun h=>by omega,fun _=>⟨fun h=>by omega,fun _=>⟨fun _=>?_,fun h=>absurd rfl h⟩⟩⟩⟩⟩⟩
  refine aj hin ?_
  simp only[↓zq,zs,af,bB,aG,er,Bt,aN,eZ]
  cases v with
  |
   f w =>
   simp only[Vl.nodes]at hl
   simp only[Vl.cq,↓zq,zs,af,aN]
   refine⟨by omega,fun _=>⟨by omega,?_⟩,fun h=>absurd rfl h⟩
   refine aj (IH w (by simp only[Vl.nodes];omega) hv b (.mk a.at (.list [x,a,b]) env::env) t1 ⟨ok3,hw1,h1,f1⟩ (by simp;omega)) ?_
   simp[↓zq,zs,af,bC,fq,hhd,hx]
  |
   _ =>
   simp only[Vl.cq,↓zq,zs,af,fq,hhd,bC]
   exact⟨by omega,fun h=>by omega,fun _=>by simp[hx]⟩
theorem Ig(n:Nat)(hn:n<=100):∀(m:Nat) (v:Vl),v.nodes<m->v.iB 100->∀e env t,Ask e env t->env.length+v.nodes<100000->pN n v e env t
 |0,v,h,_=>by omega
 |
  m+1,v,h,hv=>by
  intro e env t A hl
  have IH:∀w:Vl,w.nodes<v.nodes->w.iB 100->∀e env t,Ask e env t->env.length+w.nodes<100000->pN n w e env t:=fun w hw hb=>Ig n hn m w (by omega) hb
  rcases jo A.wf A.ty with⟨hb,hh⟩|⟨u,f,rfl,hh,hu⟩
  ·exact LA n hn v hv IH e env t A hl hb hh
  ·obtain⟨x,a,b,t',hfe,hok,hx,ht',hf',hwf,hlt⟩:=og A.wf hh
   obtain⟨t1,hl1,h1,rfl⟩:=dy hx (hfe ▸ ht')
   have hvis:fq n v (e,env)=fq n v (f.ex,f.out):=tn n v (qo hh) (by rw[hfe];exact rH hwf)
   unfold pN
   refine IV _ _ _ _ ((aG _).mpr trivial) ((er _).mpr trivial) ((aN _).mpr trivial) ?_
   have hbd:=Nj env u f hu (by omega)
   simp only[Ty.av]at hbd
   simp only[zD,Ty.av,↓zq,zs,af]
   refine⟨by omega,fun h=>by omega,fun _=>⟨fun h=>by omega,fun _=>⟨fun _=>?_,fun h=>absurd rfl h⟩⟩⟩
   refine aj hbd ?_
   cases f with
   |
    mk s ee oo =>
    simp only[Fr.ex,Fr.out]at hfe ht' hf' hwf hvis hlt
    have htD:xE ee oo=.rc t1:=by rw[xE,ht'];rfl
    simp only[Fr.cq,htD,↓zq,zs,af,bB,aG,er]
    refine⟨by omega,?_⟩
    have hs:=LA n hn v hv IH ee oo (.rc t1) ⟨by rw[hfe];exact hok,hwf,ht',hf'⟩ (by omega) rfl (by rw[hfe];exact kG hwf)
    unfold pN at hs
    refine aj hs ?_
    simp[↓zq,zs,af,bC,hvis]
end Go.Proofs.Trees
namespace Go.Proofs.Trees
open Go Go.VL Go.RowKit
theorem sU:∀(env:List Fr) (k:Nat) (f:Fr),env[k]?=some f->(j6 env).getD (env.length-1-k) []=f.cells
 |[],k,f,h=>by cases h
 |
  g::r,0,f,h=>by
  cases h
  have:(g::r).length-1-0=(j6 r).length:=by simp[kP]
  rw[this,j6];simp[aa]
 |
  g::r,k+1,f,h=>by
  have h':r[k]?=some f:=by simpa using h
  have hlt:=(List.getElem?_eq_some_iff.1 h').1
  have e:(g::r).length-1-(k+1)=r.length-1-k:=by simp;omega
  have:=sU r k f h'
  rw[e,j6,aa,List.getElem?_append_left (by rw[kP];omega),<-aa]
  exact this
theorem qI(f:Fr):f.cells=[.v (.string (mk f.nm)),.v (.string (mk f.ex.at)),f.ex.sp,.sl (j6 f.out)]:=by cases f;rfl
theorem Ke(e:E)(env:List Fr)(hl:env.length<1000000):∀(j k:Nat),k+j=env.length->EQ [.sl (j6 env),.v (.int .i64 ((env.length:Int)-1-(k:Int)))] [.cells [.v (.string (mk e.at)),e.sp],.cells [.v (.string (mk [])),.v (.slice none 0 0)]]
 (rQ (match fS e.at (env.drop k)with|some f=>(2,[.sl (j6 f.out)],[.cells [.v (.string (mk f.ex.at)),f.ex.sp]])|none=>(1,[.sl (j6 env)],[.cells [.v (.string (mk e.at)),e.sp],.cells [.v (.string (mk [])),.v (.slice none 0 0)]])))
 |
  0,k,hk=>by
  refine KH _ _ _ _ _ _ ?_
  have hd:env.drop k=[]:=bJ (by omega)
  simp only[GN,↓zq,zs,af,aV,hd,fS]
  exact⟨fun h=>by omega,fun _=>by first|trivial|rfl⟩
 |
  j+1,k,hk=>by
  refine KH _ _ _ _ _ _ ?_
  have hlt:k<env.length:=by omega
  have hg:env[k]?=some env[k]:=bm hlt
  have hc:=sU env k _ hg
  have e1:((env.length:Int)-1-(k:Int))=((env.length-1-k:Nat):Int):=by omega
  have hdr:env.drop k=env[k]::env.drop (k+1):=aY hlt
  rw[hdr,fS,e1]
  simp only[GN,ca,hc,qI,↓zq,zs,af,zt,aV,kP,bB]
  refine⟨fun _=>⟨by omega,by omega,fun h=>⟨by omega,by omega,by omega,by omega,?_⟩,fun h=>?_⟩,fun h=>by omega⟩
  ·rw[if_pos h]
  ·rw[if_neg h]
   have e2:IntKind.wrap .i64 (((env.length-1-k:Nat):Int)-1)=(env.length:Int)-1-((k+1:Nat):Int):=by
    have:IntKind.wrap .i64 (((env.length-1-k:Nat):Int)-1)=((env.length-1-k:Nat):Int)-1:=wrap64 _ (by omega) (by omega)
    omega
   rw[e2]
   exact Ke e env hl j (k+1) (by omega)
theorem MX(e:E)(env:List Fr)(hl:env.length<1000000):aq Tryz.prog 138 [e.kC,.sl (j6 env)] [] (bC (.cG [(hd e env).1.kC,.sl (j6 (hd e env).2)])):=by
 rw[dz e]
 refine OP _ _ _ ((aV _).mpr trivial) ((cb _).mpr trivial) ?_
 simp only[HW,↓zq,zs,af,kP,bC]
 have h:=Ke e env hl env.length 0 (by omega)
 simp only[bo]at h
 rw[wrap64 _ (by omega) (by omega)]
 rw[show (env.length:Int)-1-((0:Nat):Int)=(env.length:Int)-1 by omega]at h
 refine jp h (fun ys o e'=>?_) (fun ys o e'=>?_)
 ·unfold hd
  cases hq:fS e.at env<;>rw[hq]at e'<;>cases e'
  simp only[↓zq,zs,af,zt,aV,dz]
 ·unfold hd
  cases hq:fS e.at env<;>rw[hq]at e'<;>cases e'
  simp only[↓zq,zs,af,zt,aV,dz]
theorem pS:∀env:List Fr,cD 4 (j6 env)
 |[]=>fun c hc=>by cases hc
 |
  f::r=>fun c hc=>by
  simp only[j6,aK,aS]at hc
  rcases hc with hc|rfl
  ·exact pS r c hc
  ·rw[qI];rfl
theorem Nq(x a b:E)(env:List Fr)(hl:env.length<1000000):aq Tryz.prog 139 [(E.list [x,a,b]).kC,.sl (j6 env)] [] (bC (.cG [b.kC,.sl (j6 (.mk a.at (.list [x,a,b]) env::env))])):=by
 refine No _ _ _ ((cb _).mpr trivial) ((cb _).mpr trivial) ?_
 simp only[L9,E.bj,toNat_one,be,↓zq,zs,af,zt,iV,gj,iT,me,ap,kP,bC,aT]
 refine⟨by omega,⟨pS env,by omega⟩,by omega,by omega,⟨fun c hc=>(by simp at hc;rw[hc];rfl),by omega⟩,?_⟩
 simp only[j6,qI,Fr.nm,Fr.ex,Fr.out,E.at,E.sp,E.bj]
theorem C7(s:ByteArray)(e:E):bB [.str,.sl] [.v (.string s),e.sp] 0=True:=by apply eq_true;simp[bB,dq,aV]
theorem F7{e:E}{env:List Fr}{t:Ty}(A:Ask e env t):∃e' o t',hd e env=(e',o)/\Ask e' o t'/\t'.Mn=false/\hd e' o=(e',o)/\o.length<=env.length:=by
 rcases jo A.wf A.ty with⟨hb,hh⟩|⟨u,f,rfl,hh,hu⟩
 ·exact⟨e,env,t,ko hh,A,hb,ko hh,ap _⟩
 ·obtain⟨x,a,b,t',hfe,hok,hx,ht',hf',hwf,hlt⟩:=og A.wf hh
  refine⟨f.ex,f.out,t',qo hh,⟨by rw[hfe];exact hok,hwf,ht',hf'⟩,?_,?_,by omega⟩
  ·obtain⟨t1,_,_,rfl⟩:=dy hx (hfe ▸ ht');rfl
  ·rw[hfe];exact rH hwf
def vh:Vl->List UInt8
 | .l _=>[108]
 | .r _=>[114]
 | .f _=>[102]
 | .p _ _=>[112]
 |_=>[]
theorem AQ(v:Vl):aq Tryz.prog 90 [v.cB.kC] [] (bC (.v (.string (mk (vh v))))):=by
 cases v with
 |u=>exact CG _ _ ((bq).mpr trivial) (by simp)
 |el k=>exact CG _ _ ((bq).mpr trivial) (by simp)
 |l v=>exact uY _ _
 |r v=>exact uY _ _
 |f v=>exact uY _ _
 |p v w=>exact uY _ _
theorem PP(v:Vl)(hv:v.iB 100):v.cB.at=(match v with| .u=>[117]| .el k=>uk k|_=>[])/\zv v.cB.at=(match v with| .el k=>(k:Int)|_=>-1):=by
 cases v with
 |el k=>exact⟨rfl,EX k hv⟩
 |u=>exact⟨rfl,rfl⟩
 |_=>exact⟨rfl,rfl⟩
theorem zj(n:Nat)(hn:n<=100):∀(m:Nat) (v:Vl),v.nodes<m->v.iB 100->∀e env t,Ask e env t->env.length+v.nodes<100000->aq Tryz.prog 89 [e.kC,.sl (j6 env),v.cB.kC,.v (.int .i64 (n:Int))] [] (bC (.v (.bool (fq n v (e,env)))))
 |0,v,hm,hv,e,env,t,A,hl=>by omega
 |
  m+1,v,hm,hv,e,env,t,A,hl=>by
  obtain⟨e',o,t',hhd,A',hb,hh',hlen⟩:=F7 A
  rw[tn n v hhd hh',dz e,dz v.cB]
  refine Nl _ _ _ _ _ _ ((aV _).mpr trivial) ((cb _).mpr trivial) ((aV _).mpr trivial) ?_
  have hf:=MX e env (by omega)
  rw[dz e,hhd]at hf
  have hvh:=AQ v
  rw[dz]at hvh
  unfold Hs
  refine aj hf ?_
  simp only[dz e',↓zq,zs,af,zt,aV,C7,bC]
  rcases gZ A'.ty hb A'.cl with⟨rfl,rfl⟩|⟨rfl,rfl⟩|⟨s,rfl,rfl,hp,h0,h1⟩|⟨x,a,b,t1,t2,rfl,hx,rfl,ha,hbb⟩|⟨x,a,b,t1,t2,rfl,hx,rfl,ha,hbb⟩|⟨x,a,b,t1,rfl,hx,rfl⟩
  ·refine⟨fun _=>⟨fun h=>by simp[E.at]at h,fun _=>aj (zH _) ?_⟩,fun h=>by simp[E.at]at h⟩
   have hp0:fj (E.atom [48]).at=false:=rfl
   have hp1:fj [48]=false:=rfl
   cases v<;>simp[↓zq,zs,af,hp0,fq,hh',hp1]
  ·refine⟨fun _=>⟨fun _=>?_,fun h=>absurd rfl h⟩,fun h=>by simp[E.at]at h⟩
   have hp1:fj [49]=false:=rfl
   cases v<;>simp[fq,hh',hp1,Vl.cB,E.at]
  ·have hne:s≠[]:=A'.ok
   have h1':(s==[49])=false:=by simpa using h1
   refine⟨fun _=>⟨fun h=>absurd h h1,fun _=>aj (zH _) ?_⟩,fun h=>absurd h hne⟩
   have hat:(E.atom s).at=s:=rfl
   simp only[hat,hp,↓zq,zs,af]
   refine⟨fun _=>aj (FX _) ?_,fun h=>by cases h⟩
   simp only[↓zq,zs,af]
   rw[wrap64 _ (by omega) (by omega)]
   refine aj (Cr _ _ _) ?_
   simp only[↓zq,zs,af,D7,(PP v hv).2]
   cases v with
   |
    el k =>
    simp only[fq,hh',h1',hp,zf]
    congr 2
    rw[cu];simp;omega
   |_=>simp[fq,hh',h1']
  ·have hok:=A'.ok
   obtain⟨ok1,ok2,ok3,_⟩:=hok
   obtain⟨f1,f2⟩:=fm A'.cl
   refine⟨fun h=>absurd rfl h,fun _=>aj (uY x [a,b]) ?_⟩
   simp only[↓zq,zs,af]
   refine aj hvh ?_
   rw[hx]
   cases v with
   |
    l w =>
    simp only[Vl.nodes]at hl
    simp only[vh,Vl.cB,E.sp,E.bj,toNat_one,be,↓zq,zs,af,zt,iV,gj,iT,me,ap]
    refine⟨by simp,fun _=>⟨by omega,by omega,aj (zj n hn m w (by simp only[Vl.nodes]at hm;omega) hv a o t1 ⟨ok2,A'.wf,ha,f1⟩ (by omega)) ?_⟩,fun h=>absurd rfl h⟩
    simp[↓zq,zs,af,fq,hh',hx]
   |
    r w =>
    simp only[Vl.nodes]at hl
    simp only[vh,Vl.cB,E.sp,E.bj,toNat_one,be,↓zq,zs,af,zt,iV,gj,iT,me,ap]
    refine⟨by simp,fun h=>by simp at h,fun _=>⟨fun _=>⟨by omega,by omega,aj (zj n hn m w (by simp only[Vl.nodes]at hm;omega) hv b o t2 ⟨ok3,A'.wf,hbb,f2⟩ (by omega)) ?_⟩,fun h=>absurd rfl h⟩⟩
    simp[↓zq,zs,af,fq,hh',hx]
   |_=>simp[vh,↓zq,zs,af,zt,fq,hh',hx]
  ·have hok:=A'.ok
   obtain⟨ok1,ok2,ok3,_⟩:=hok
   obtain⟨f1,f2⟩:=eV A'.cl
   refine⟨fun h=>absurd rfl h,fun _=>aj (uY x [a,b]) ?_⟩
   simp only[↓zq,zs,af]
   refine aj hvh ?_
   rw[hx]
   cases v with
   |
    p w z =>
    simp only[Vl.nodes]at hl
    simp only[vh,Vl.cB,E.sp,E.bj,toNat_one,be,↓zq,zs,af,zt,iV,gj,iT,me,ap]
    refine⟨by simp,fun h=>by simp at h,fun _=>⟨fun h=>by simp at h,fun _=>⟨fun _=>⟨by omega,by omega,aj (zj n hn m w (by simp only[Vl.nodes]at hm;omega) hv.1 a o t1 ⟨ok2,A'.wf,ha,f1⟩ (by omega)) ?_⟩,fun h=>absurd rfl h⟩⟩⟩
    simp only[↓zq,zs,af,fq,hh',hx]
    refine⟨fun h=>⟨by omega,by omega,aj (zj n hn m z (by simp only[Vl.nodes]at hm;omega) hv.2 b o t2 ⟨ok3,A'.wf,hbb,f2⟩ (by omega)) ?_⟩,fun h=>?_⟩
    ·simp[↓zq,zs,af,h]
    ·simp[h]
   |_=>simp[vh,↓zq,zs,af,zt,fq,hh',hx]
  ·obtain⟨t1',he1,h1,f1,hw1⟩:=jq A'.wf A'.ok hx A'.ty A'.cl
   cases he1
   have hok:=A'.ok
   obtain⟨ok1,ok2,ok3,_⟩:=hok
   refine⟨fun h=>absurd rfl h,fun _=>aj (uY x [a,b]) ?_⟩
   simp only[↓zq,zs,af]
   refine aj hvh ?_
   rw[hx]
   cases v with
   |
    f w =>
    simp only[Vl.nodes]at hl
    simp only[vh,Vl.cB,E.sp,E.bj,toNat_one,be,↓zq,zs,af,zt,iV,gj,iT,me,ap]
    refine⟨by simp,fun h=>by simp at h,fun _=>⟨fun h=>by simp at h,fun _=>⟨fun h=>by simp at h,fun _=>⟨fun _=>aj (Nq x a b o (by omega)) ?_,fun h=>absurd rfl h⟩⟩⟩⟩
    simp only[↓zq,zs,af,xR,Ci]
    refine⟨by omega,aj (zj n hn m w (by simp only[Vl.nodes]at hm;omega) hv b (.mk a.at (.list [x,a,b]) o::o) t1 ⟨ok3,hw1,h1,f1⟩ (by simp;omega)) ?_⟩
    simp[↓zq,zs,af,fq,hh',hx]
   |_=>simp[vh,↓zq,zs,af,zt,fq,hh',hx]
theorem MH(n:Nat)(hn:n<=100)(v:Vl)(hv:v.iB 100)(e:E)(env:List Fr)(t:Ty)(A:Ask e env t)(hl:env.length+v.nodes<100000):aq Tryz.prog 89 [e.kC,.sl (j6 env),v.cB.kC,.v (.int .i64 (n:Int))] [] (bC (.v (.bool (fq n v (e,env))))):=zj n hn (v.nodes+1) v (by omega) hv e env t A hl
end Go.Proofs.Trees
namespace Go.Proofs.Trees
open Go Go.VL Go.RowKit
theorem I0(l:List (List UInt8))(a:AV)(ha:dT a l)(s:List UInt8)(hl:l.length<1000000):∀(k i:Nat),i+k=l.length->G9 [a,.v (.string (mk s)),.v (.int .i64 (i:Int))] []
 (rQ (if s∈l.drop i then(2,[.v (.bool true)],[])else(1,[],[])))
 |
  0,i,hi=>by
  refine Lh _ _ _ ?_
  have hd:l.drop i=[]:=bJ (by omega)
  simp only[FL,↓zq,zs,af,hd,ha.len]
  exact⟨ha.1,ha.1,fun h=>by omega,fun _=>by simp[rQ]⟩
 |
  k+1,i,hi=>by
  have hlt:i<l.length:=by omega
  have hdr:l.drop i=l.getD i []::l.drop (i+1):=by
   rw[aY hlt];simp[aa,hlt]
  refine Lh _ _ _ ?_
  simp only[FL,↓zq,zs,af,zt,ha.len,ha.idx hlt]
  refine⟨ha.1,ha.1,fun _=>⟨⟨ha.1,by omega,by omega⟩,by omega,fun h=>?_,fun h=>?_⟩,fun h=>by omega⟩
  ·rw[hdr,h];simp[rQ]
  ·rw[bA i (by omega)]
   have:=I0 l a ha s hl k (i+1) (by omega)
   have e:s∈l.drop i↔s∈l.drop (i+1):=by
    rw[hdr,aI];exact⟨fun q=>q.resolve_left (fun q=>h q.symm),.inr⟩
   simp only[e];exact this
theorem wl(l:List (List UInt8))(a:AV)(ha:dT a l)(s:List UInt8)(hl:l.length<1000000):aq Tryz.prog 142 [a,.v (.string (mk s))] [] (bC (.v (.bool (decide (s∈l))))):=by
 refine PD _ _ ha.1 ?_
 unfold HU
 refine jp (I0 l a ha s hl l.length 0 (by omega)) (fun ys o e=>?_) (fun ys o e=>?_)
 ·simp only[bo]at e
  split at e<;>cases e
  rename_i h
  simp[↓zq,zs,af,bC,h]
 ·simp only[bo]at e
  split at e<;>cases e
  rename_i h
  simp[↓zq,zs,af,bC,h]
theorem yW(l:List (List UInt8))(a:AV)(ha:dT a l)(s:List UInt8)(hl:l.length<1000000):aq Tryz.prog 143 [a,.v (.string (mk s))] [] (bC (.sl (ck (l++[s])))):=by
 refine O9 _ _ ha.1 ?_
 simp only[HJ,↓zq,zs,af,ha.2,bC,aT]
 have:(ck l).length=l.length:=by simp[ck]
 refine⟨⟨ha.1,kj l,by omega⟩,⟨fun c hc=>(by simp at hc;rw[hc];rfl),by omega⟩,?_⟩
 rw[yM]
def kf:E->List (List UInt8)->List (List UInt8)->List (List UInt8)
 | .atom s,bd,l=>if s=[48]\/s=[49]\/s∈bd\/s∈l then l else l++[s]
 | .list [x,a,b],bd,l=>if x.at=[114,101,99]then kf b (bd++[a.at]) l else kf b bd (kf a bd l)
 | .list _,_,l=>l
theorem gb:∀(e:E) (bd l:List (List UInt8)),(kf e bd l).length<=l.length+e.sz
 | .atom s,bd,l=>by rw[kf];split<;>simp[E.sz]
 | .list [],bd,l=>by simp[kf]
 | .list [_],bd,l=>by simp[kf]
 | .list [_,_],bd,l=>by simp[kf]
 | .list (_::_::_::_::_),bd,l=>by simp[kf]
 |
  .list [x,a,b],bd,l=>by
  rw[kf]
  simp only[E.sz,E.jk]
  split
  ·have:=gb b (bd++[a.at]) l;omega
  ·have:=gb a bd l
   have:=gb b bd (kf a bd l)
   omega
theorem Dc:∀(e:E) (bd l:List (List UInt8)) (a:AV),e.ok->jR e=true->dT a bd->bd.length+l.length+e.sz<100000->aq Tryz.prog 98 [e.kC,a,.vec 0] [.vec 1 (ck l)] (dx (.vec 1) [.dead,.vec 1 (ck (kf e bd l))])
 |
  .atom s,bd,l,a,hok,hty,ha,hl=>by
  simp only[E.sz]at hl
  refine yz _ _ _ _ ((bq).mpr trivial) ha.1 ?_
  have hne:s≠[]:=hok
  have hll:(ck l).length=l.length:=by simp[ck]
  simp only[wG,↓zq,zs,af,zt,dx,kf]
  refine⟨fun _=>⟨fun h=>?_,fun h=>⟨fun h1=>?_,fun h1=>?_⟩⟩,fun h=>absurd h hne⟩
  ·rw[if_pos (.inl h)]
  ·rw[if_pos (.inr (.inl h1))]
  ·refine aj (wl bd a ha s (by omega)) ?_
   simp only[↓zq,zs,af]
   refine⟨fun h2=>?_,fun h2=>aj (wl l _ (.of l) s (by omega)) ?_⟩
   ·rw[if_pos (.inr (.inr (.inl h2)))]
   ·simp only[↓zq,zs,af]
    refine⟨fun h3=>?_,fun h3=>⟨⟨fun c hc=>(by simp at hc;rw[hc];rfl),by omega⟩,?_⟩⟩
    ·rw[if_pos (.inr (.inr (.inr h3)))]
    ·rw[yM,if_neg]
     rintro(q|q|q|q)
     ·exact h q
     ·exact h1 q
     ·exact h2 q
     ·exact h3 q
 | .list [],_,_,_,_,h,_,_=>by cases h
 | .list [_],_,_,_,_,h,_,_=>by cases h
 | .list [_,_],_,_,_,_,h,_,_=>by cases h
 | .list (_::_::_::_::_),_,_,_,_,h,_,_=>by cases h
 |
  .list [x,y,z],bd,l,a,hok,hty,ha,hl=>by
  simp only[E.sz,E.jk]at hl
  obtain⟨ok1,ok2,ok3,_⟩:=hok
  refine yz _ _ _ _ ((cb _).mpr trivial) ha.1 ?_
  simp only[wG,E.bj,toNat_one,be,↓zq,zs,af,zt,iV,gj,iT,me,ap,dx]
  refine⟨fun h=>absurd rfl h,fun _=>aj (uY x [y,z]) ?_⟩
  simp only[↓zq,zs,af,zt]
  have hyl:=gb y bd l
  rw[jR]at hty
  refine⟨fun h=>⟨by omega,by omega,by omega,aj (yW bd a ha y.at (by omega)) ?_⟩,fun h=>⟨by omega,by omega,?_⟩⟩
  ·have hz:jR z=true:=by
    rw[if_neg (by rw[h];decide),if_neg (by rw[h];decide),if_pos h]at hty
    simp only[au]at hty;exact hty.2
   simp only[↓zq,zs,af]
   refine bi (Dc z (bd++[y.at]) l _ ok3 hz (.of _) (by simp;omega)) ?_
   simp only[↓zq,zs,af]
   rw[kf,if_pos h]
  ·have hyz:jR y=true/\jR z=true:=by
    split at hty
    ·simpa using hty
    ·split at hty
     ·simpa using hty
     ·cases hty
   refine bi (Dc y bd l a ok2 hyz.1 ha (by omega)) ?_
   simp only[↓zq,zs,af]
   refine bi (Dc z bd (kf y bd l) a ok3 hyz.2 ha (by omega)) ?_
   simp only[↓zq,zs,af]
   rw[kf,if_neg h]
theorem ka{s:List UInt8}(h:fj s=true):da s=false:=by
 cases hq:da s with
 |false=>rfl
 |
  true =>
  obtain⟨c,r,rfl,h1,h2⟩:=lR h
  obtain⟨c',r',he,h3,h4⟩:=lR hq
  cases he;omega
theorem mf(s:List UInt8)(ar:List (List UInt8)):∀i,i<=ar.length->(bE s ar i=none↔s∉ar.take i)
 |0,_=>by simp[bE]
 |
  i+1,hi=>by
  have hlt:i<ar.length:=by omega
  have e:ar.getD i []=ar[i]:=by simp[aa,hlt]
  have e2:s∈ar.take (i+1)↔s∈ar.take i\/s=ar[i]:=by
   rw[show ar.take (i+1)=ar.take i++[ar[i]] from (List.take_append_getElem hlt).symm]
   simp only[aK,aS]
  rw[bE,e,e2]
  by_cases h:ar[i]=s
  ·rw[if_pos h]
   exact⟨fun h=>(by cases h),fun h'=>absurd (.inr h.symm) h'⟩
  ·rw[if_neg h,mf s ar i (by omega)]
   exact⟨fun h1 h2=>h2.elim h1 (fun h3=>h h3.symm),fun h1 h2=>h1 (.inl h2)⟩
theorem lM:∀(e:E) (ar l:List (List UInt8)) (t:Ty),cK e ar=some t->(∀w,w∈ar->da w=true)->(kf e ar l).any da=(l.any da||bQ t)
 |
  .atom s,ar,l,t,h,har=>by
  simp only[cK]at h
  rw[kf]
  split at h
  ·rename_i h0;cases h;rw[if_pos (.inl h0)];simp[bQ]
  ·rename_i h0
   split at h
   ·rename_i h1;cases h;rw[if_pos (.inr (.inl h1))];simp[bQ]
   ·rename_i h1
    split at h
    ·rename_i h2
     cases h
     have hn:=ka h2
     simp only[bQ,hn]
     split
     ·simp
     ·simp[hn]
    ·split at h
     ·rename_i h2 h3
      have hlo:=mf s ar ar.length (ap _)
      rw[List.take_length]at hlo
      cases hq:bE s ar ar.length with
      |
       some u =>
       rw[hq]at h;cases h
       have hm:s∈ar:=Classical.byContradiction fun hm=>by rw[hlo.2 hm]at hq;cases hq
       rw[if_pos (.inr (.inr (.inl hm)))];simp[bQ]
      |
       none =>
       rw[hq]at h;cases h
       have hm:=hlo.1 hq
       simp only[bQ,h3,Bool.or_true]
       split
       ·rename_i hh
        rcases hh with q|q|q|q
        ·exact absurd q h0
        ·exact absurd q h1
        ·exact absurd q hm
        ·rw[bS];exact⟨s,q,h3⟩
       ·simp[h3]
     ·cases h
 | .list [],_,_,_,h,_=>by cases h
 | .list [_],_,_,_,h,_=>by cases h
 | .list [_,_],_,_,_,h,_=>by cases h
 | .list (_::_::_::_::_),_,_,_,h,_=>by cases h
 |
  .list [x,a,b],ar,l,t,h,har=>by
  rw[kf]
  by_cases h0:x.at=[43]
  ·obtain⟨t1,t2,e1,e2,rfl⟩:=fG h0 h
   rw[if_neg (by rw[h0];decide),lM b ar _ t2 e2 har,lM a ar l t1 e1 har,bQ,Bool.or_assoc]
  ·by_cases h1:x.at=[42]
   ·obtain⟨t1,t2,e1,e2,rfl⟩:=fe h1 h
    rw[if_neg (by rw[h1];decide),lM b ar _ t2 e2 har,lM a ar l t1 e1 har,bQ,Bool.or_assoc]
   ·by_cases h2:x.at=[114,101,99]
    ·obtain⟨t1,hl,e1,rfl⟩:=dy h2 h
     rw[if_pos h2,lM b _ l t1 e1 (fun w hw=>by
      simp only[aK,aS]at hw
      rcases hw with hw|rfl
      ·exact har w hw
      ·exact hl),bQ]
    ·rw[iZ _ h0 h1 h2]at h;cases h
def ic(s:List UInt8):Option E:=match vD s with
 |none=>none
 |some e=>if(kf e [] []).any da=true then none else some e
theorem BF{s:List UInt8}:qz s=match ic s with|none=>none|some e=>cK e []:=by
 unfold qz ic
 rw[tQ]
 cases he:vD s with
 |none=>rfl
 |
  some e =>
  obtain⟨h1,h2,h3⟩:=ph he
  have hs:=iP e []
  rw[h2]at hs
  obtain⟨t,ht⟩:=bz.1 hs
  have ha:=lM e [] [] t ht (fun w hw=>by cases hw)
  simp only[ht,sL,ha,List.any_nil,Bool.false_or]
  cases hf:bQ t<;>simp[ht]
theorem fX{s:List UInt8}{e:E}(h:ic s=some e):∃t,qz s=some t/\Ask e [] t/\jR e=true/\e.sz<=8000/\t.aC<=400/\qn s=some e:=by
 have h0:=h
 unfold ic at h
 split at h
 ·cases h
 ·rename_i e' he
  split at h
  ·cases h
  ·rename_i hn
   cases h
   obtain⟨h1,h2,h3⟩:=ph he
   obtain⟨hok,hsz⟩:=nK h1
   have hs:=iP e []
   rw[h2]at hs
   obtain⟨t,ht⟩:=bz.1 hs
   have ha:=lM e [] [] t ht (fun w hw=>by cases hw)
   rw[ha]at hn
   refine⟨t,by rw[BF,h0];exact ht,⟨hok,.nil,ht,by simpa using hn⟩,h2,hsz,?_,h1⟩
   rw[<-jY e [] t ht];exact h3
theorem jL{s:List UInt8}(h:ic s=none):qz s=none:=by rw[BF,h]
theorem LL(e:E)(l:List (List UInt8))(hl:l.length<1000000):∀(k i:Nat),i+k=l.length->Gk [.v (.int .i64 (i:Int))] [.cells [.v (.string (mk [])),.v (.slice none 0 0)],.cells [.v (.string (mk e.at)),e.sp],.vec 1 (ck l)]
 (rQ (if(l.drop i).any da=true then(2,[.v (.bool false)],[.cells [.v (.string (mk e.at)),e.sp]])else(1,[],[.cells [.v (.string (mk [])),.v (.slice none 0 0)],.cells [.v (.string (mk e.at)),e.sp]])))
 |
  0,i,hi=>by
  refine JN _ _ _ _ _ _ ?_
  have hd:l.drop i=[]:=bJ (by omega)
  have hll:(ck l).length=l.length:=by simp[ck]
  simp only[EY,↓zq,zs,af,hd,hll,aV]
  exact⟨fun h=>by omega,fun _=>by simp[rQ]⟩
 |
  k+1,i,hi=>by
  have hlt:i<l.length:=by omega
  have hll:(ck l).length=l.length:=by simp[ck]
  have hdr:l.drop i=l.getD i []::l.drop (i+1):=by
   rw[aY hlt];simp[aa,hlt]
  have hg:=(dT.of l).idx hlt
  simp only[fF]at hg
  refine JN _ _ _ _ _ _ ?_
  simp only[EY,↓zq,zs,af,zt,hll,hg,aV]
  refine⟨fun _=>⟨by omega,by omega,aj (E1 _) ?_⟩,fun h=>by omega⟩
  simp only[↓zq,zs,af,hdr,List.any_cons]
  refine⟨fun h=>?_,fun h=>?_⟩
  ·rw[h];simp[rQ]
  ·rw[h,bA i (by omega)]
   simp only[Bool.false_or]
   exact LL e l hl k (i+1) (by omega)
theorem Ax(s:List UInt8):aq Tryz.prog 46 [.v (.string (mk s))] [] (lO (ic s) (ic s).isSome):=by
 refine N6 _ ?_
 unfold IX
 refine aP (Eh s) (lO.ne _ _ (fun h=>h)) ?_
 rintro r o ⟨c,d,hd,rfl,hh⟩
 have hhas:bB [.str,.sl] [.v (.string (mk c)),d] 0:=by simp[bB,dq,hd]
 simp only[↓zq,zs,af,zt]
 refine⟨hhas,fun h=>?_,fun h=>?_⟩
 ·have hn:vD s=none:=by cases hq:vD s<;>simp[hq]at h |-
  unfold ic
  rw[hn]
  exact⟨c,d,hd,rfl,fun h=>by cases h⟩
 ·obtain⟨e,he,hce⟩:=hh h
  obtain⟨h1,h2,h3⟩:=ph he
  obtain⟨hok,hsz⟩:=nK h1
  have hce':=hce
  rw[dz]at hce'
  simp only[AV.agg.injEq,List.cons.injEq,AV.v.injEq,Value.string.injEq,and_true]at hce'
  obtain⟨hc1,rfl⟩:=hce'
  have hc2:=A4 hc1
  subst hc2
  rw[<-dz]
  refine bi (Dc e [] [] _ hok h2 (.of []) (by simp;omega)) ?_
  have hfl:=gb e [] []
  simp only[↓zq,zs,af]
  have hLS:=LL e (kf e [] []) (by simp at hfl;omega) (kf e [] []).length 0 (by omega)
  simp only[bo]at hLS
  unfold ic
  rw[he]
  refine jp hLS (fun ys o e'=>?_) (fun ys o e'=>?_)
  ·split at e'<;>cases e'
   rename_i hn
   simp only[↓zq,zs,af,aV,if_neg hn]
   exact⟨e.at,e.sp,hd,rfl,fun _=>⟨e,rfl,(dz e).symm⟩⟩
  ·split at e'<;>cases e'
   rename_i hn
   simp only[↓zq,zs,af,aV,if_pos hn]
   exact⟨e.at,e.sp,hd,rfl,fun h=>by cases h⟩
def mM(s v:List UInt8)(n:Int):Option Vl:=match ic s,pT v with
 |some e,some w=>if(0<=n/\n<=100)/\fq n.toNat w (e,[])=true then some w else none
 |_,_=>none
theorem kM{s v:List UInt8}{n:Int}{w:Vl}(h:mM s v n=some w):∃e t m,ic s=some e/\pT v=some w/\qz s=some t/\Ask e [] t/\n=(m:Nat)/\m<=100/\fq m w (e,[])=true:=by
 unfold mM at h
 split at h
 ·rename_i e w' he hw
  split at h
  ·rename_i hh
   cases h
   obtain⟨t,h1,h2,_⟩:=fX he
   exact⟨e,t,n.toNat,he,hw,h1,h2,by omega,by omega,hh.2⟩
  ·cases h
 ·cases h
theorem HK(s v:List UInt8)(n:Int):aq Tryz.prog 34 [.v (.string (mk s)),.v (.string (mk v)),.v (.int .i64 n)] [] (bC (.cG [hZ (qz s),iK (mM s v n)])):=by
 refine Pk _ _ _ ?_
 unfold JC
 refine aj (La s) ?_
 simp only[↓zq,zs,af,fD]
 refine aj (JB v) ?_
 simp only[↓zq,zs,af,gx,bC]
 unfold mM
 cases he:ic s with
 |none=>rw[jL he];cases pT v<;>simp[hZ,iK,↓zq,zs,af]
 |
  some e =>
  obtain⟨t,h1,h2,h3,h4,h5,_⟩:=fX he
  rw[h1]
  cases hv:pT v with
  |none=>simp only[hZ,iK,aG,fA,↓zq,zs,af];exact⟨fun h=>(by cases h),fun _=>⟨fun _=>trivial,fun h=>(by cases h)⟩⟩
  |
   some w =>
   obtain⟨h6,h7,h8⟩:=gH hv
   simp only[hZ,iK,aG,fA,aN,eZ,↓zq,zs,af]
   refine⟨fun h=>(by cases h),fun _=>⟨fun h=>(by cases h),fun _=>⟨fun h=>?_,fun h=>⟨fun h'=>?_,fun h'=>?_⟩⟩⟩⟩
   ·rw[if_neg (by omega)]
   ·rw[if_neg (by omega)]
   ·obtain⟨m,rfl⟩:∃m:Nat,n=(m:Int):=⟨n.toNat,by omega⟩
    have hi:=Ig m (by omega) (w.nodes+1) w (by omega) h7 e [] t h2 (by simp;omega)
    unfold pN at hi
    refine aj hi ?_
    simp only[↓zq,zs,af,ca]
    refine⟨fun hq=>?_,fun hq=>?_⟩
    ·rw[if_neg (by rw[hq];simp)]
    ·rw[if_pos ⟨by omega,hq⟩]
theorem GI(s v:List UInt8)(n:Int):aq Tryz.prog 39 [.v (.string (mk s)),.v (.string (mk v)),.v (.int .i64 n)] [] (bC (.v (.bool (mM s v n).isSome))):=by
 refine NH _ _ _ ?_
 unfold Jd
 refine aP (Ax s) (lO.ne _ _ (fun h=>h)) ?_
 rintro r o ⟨c,d,hd,rfl,hh⟩
 have hhas:bB [.str,.sl] [.v (.string (mk c)),d] 0:=by simp[bB,dq,hd]
 simp only[↓zq,zs,af,zt]
 refine⟨hhas,?_⟩
 refine aP (FG v) (lO.ne _ _ (fun h=>by cases hq:pT v<;>simp[hq]at h |-)) ?_
 rintro r o ⟨c',d',hd',rfl,hh'⟩
 have hhas':bB [.str,.sl] [.v (.string (mk c')),d'] 0:=by simp[bB,dq,hd']
 simp only[↓zq,zs,af,zt,bC]
 refine⟨hhas',fun h=>⟨fun h2=>?_,fun h2=>?_⟩,fun h=>?_⟩
 ·obtain⟨e,he,hce⟩:=hh h
  obtain⟨t,h1,hA,h3,h4,h5,_⟩:=fX he
  obtain⟨w,hw⟩:=bz.1 h2
  obtain⟨e2,he2,hce2⟩:=hh' h2
  rw[hw]at he2
  cases he2
  obtain⟨h6,h7,h8⟩:=gH hw
  refine aj (Cr _ _ _) ?_
  simp only[↓zq,zs,af,D7,mM,he,hw]
  refine⟨fun hq=>?_,fun hq=>?_⟩
  ·have hq':0<=n/\n<=100:=by simpa using hq
   obtain⟨m,rfl⟩:∃m:Nat,n=(m:Int):=⟨n.toNat,by omega⟩
   rw[hce,hce2]
   have:=MH m (by omega) w h7 e [] t hA (by simp;omega)
   rw[show j6 []=[] from rfl]at this
   refine aj this ?_
   simp only[↓zq,zs,af,ca]
   by_cases hb:fq m w (e,[])=true
   ·rw[if_pos ⟨hq',hb⟩,hb];rfl
   ·rw[if_neg (fun h=>hb h.2)]
    rw[Bool.not_eq_true]at hb
    rw[hb];rfl
  ·have hq':¬(0<=n/\n<=100):=by simpa using hq
   rw[if_neg (fun h=>hq' h.1)];rfl
 ·have hn:pT v=none:=by cases hq:pT v<;>simp[hq]at h2 |-
  unfold mM
  rw[hn];cases ic s<;>rfl
 ·have hn:ic s=none:=by cases hq:ic s<;>simp[hq]at h |-
  unfold mM
  rw[hn];rfl
end Go.Proofs.Trees
namespace Go.Proofs.Trees
open Go Go.VL Go.RowKit
inductive Tg where
 |nm (s:List UInt8)
 |bd (k:Nat)
 deriving DecidableEq
def Tg.up:Tg->Tg
 | .nm s=>.nm s
 | .bd k=>.bd (k+1)
def eF:Ty->Tg->Bool
 | .name s,.nm s'=>decide (s=s')
 | .bH u,.bd k=>decide (u=k)
 |_,_=>false
abbrev Hl:=Vl×Vl
def iU(g:Vl->Vl)(l:List Hl):List Hl:=l.map fun h=>(g h.1,h.2)
def jw(f:Ty->Tg->Vl->List Hl)(tg:Tg):Ty->Vl->List Hl
 | .plus a _,.l w=>iU .l (f a tg w)
 | .plus _ b,.r w=>iU .r (f b tg w)
 | .times a b,.p x y=>iU (fun c=>.l (.p c y)) (f a tg x)++iU (fun c=>.r (.p x c)) (f b tg y)
 | .rc a,.f w=>iU (fun c=>.f (.l c)) (f a tg.up w)++(f a (.bd 0) w).flatMap fun h=>iU (fun c=>.f (.r (.p h.1 c))) (f (.rc a) tg h.2)
 |_,_=>[]
def dM:Nat->Ty->Tg->Vl->List Hl
 |0,_,_,_=>[]
 |n+1,t,tg,v=>if eF t tg=true then [(.u,v)]else jw (dM n) tg t v
def stuck:Ty->Vl->Bool
 | .plus _ _,.l _=>false
 | .plus _ _,.r _=>false
 | .times _ _,.p _ _=>false
 | .rc _,.f _=>false
 |_,_=>true
def bP(t:Ty)(tg:Tg)(v:Vl):List Hl:=dM v.nodes t tg v
theorem dD{g:Vl->Vl}{l:List Hl}{h:Hl}(hm:h∈iU g l):∃k,k∈l/\h=(g k.1,k.2):=by
 obtain⟨k,h1,h2⟩:=cj.1 hm
 exact⟨k,h1,h2.symm⟩
theorem iM{f g:Hl->List Hl}:∀{l:List Hl},(∀h,h∈l->f h=g h)->l.flatMap f=l.flatMap g
 |[],_=>rfl
 |h::l,hl=>by rw[List.flatMap_cons,List.flatMap_cons,hl h ai,iM (l:=l) fun k hk=>hl k (al _ hk)]
theorem ff:∀(n:Nat) (t:Ty) (tg:Tg) (v:Vl) (h:Hl),h∈dM n t tg v->h.2.nodes<=v.nodes/\h.1.nodes+4*h.2.nodes<=4*v.nodes+1
 |0,t,tg,v,h,hm=>by simp[dM]at hm
 |
  n+1,t,tg,v,h,hm=>by
  unfold dM at hm
  split at hm
  ·simp only[aS]at hm
   subst hm
   simp only[Vl.nodes];omega
  ·unfold jw at hm
   split at hm
   ·obtain⟨k,h1,rfl⟩:=dD hm
    have:=ff n _ _ _ k h1
    simp only[Vl.nodes];omega
   ·obtain⟨k,h1,rfl⟩:=dD hm
    have:=ff n _ _ _ k h1
    simp only[Vl.nodes];omega
   ·rcases aK.1 hm with hm|hm
    ·obtain⟨k,h1,rfl⟩:=dD hm
     have:=ff n _ _ _ k h1
     simp only[Vl.nodes];omega
    ·obtain⟨k,h1,rfl⟩:=dD hm
     have:=ff n _ _ _ k h1
     simp only[Vl.nodes];omega
   ·rcases aK.1 hm with hm|hm
    ·obtain⟨k,h1,rfl⟩:=dD hm
     have:=ff n _ _ _ k h1
     simp only[Vl.nodes];omega
    ·obtain⟨k,h1,h2⟩:=List.mem_flatMap.1 hm
     obtain⟨k2,h3,rfl⟩:=dD h2
     have:=ff n _ _ _ k h1
     have:=ff n _ _ _ k2 h3
     simp only[Vl.nodes];omega
   ·simp at hm
theorem gR:∀(n m:Nat) (t:Ty) (tg:Tg) (v:Vl),v.nodes<=n->v.nodes<=m->dM n t tg v=dM m t tg v
 |0,m,t,tg,v,h,_=>by have:=dj v;omega
 |n+1,0,t,tg,v,_,h=>by have:=dj v;omega
 |
  n+1,m+1,t,tg,v,hn,hm=>by
  rw[dM,dM]
  split
  ·rfl
  ·unfold jw
   split
   ·simp only[Vl.nodes]at hn hm;rw[gR n m _ _ _ (by omega) (by omega)]
   ·simp only[Vl.nodes]at hn hm;rw[gR n m _ _ _ (by omega) (by omega)]
   ·simp only[Vl.nodes]at hn hm;rw[gR n m _ _ _ (by omega) (by omega),gR n m _ _ _ (by omega) (by omega)]
   ·rename_i a w
    simp only[Vl.nodes]at hn hm;rw[gR n m _ _ _ (by omega) (by omega),gR n m _ (.bd 0) _ (by omega) (by omega)]
    congr 1
    apply iM
    intro h hh
    have:=(ff _ _ _ _ _ hh).1
    rw[gR n m _ _ _ (by omega) (by omega)]
   ·rfl
theorem oN{n:Nat}(t:Ty)(tg:Tg){v:Vl}(h:v.nodes<=n):dM n t tg v=bP t tg v:=gR _ _ _ _ _ h (ap _)
theorem mD{t:Ty}{tg:Tg}(v:Vl)(h:eF t tg=true):bP t tg v=[(.u,v)]:=by
 have:=dj v
 unfold bP
 cases e:v.nodes with
 |zero=>omega
 |succ n=>rw[dM,if_pos h]
theorem mP(a b:Ty)(tg:Tg)(w:Vl):bP (.plus a b) tg (.l w)=iU .l (bP a tg w):=by
 unfold bP;rw[show (Vl.l w).nodes=w.nodes+1 by simp[Vl.nodes];omega,dM,if_neg (by simp[eF])];rfl
theorem mV(a b:Ty)(tg:Tg)(w:Vl):bP (.plus a b) tg (.r w)=iU .r (bP b tg w):=by
 unfold bP;rw[show (Vl.r w).nodes=w.nodes+1 by simp[Vl.nodes];omega,dM,if_neg (by simp[eF])];rfl
theorem mU(a b:Ty)(tg:Tg)(x y:Vl):bP (.times a b) tg (.p x y)=iU (fun c=>.l (.p c y)) (bP a tg x)++iU (fun c=>.r (.p x c)) (bP b tg y):=by
 rw[bP,show (Vl.p x y).nodes=(x.nodes+y.nodes)+1 by simp[Vl.nodes];omega,dM,if_neg (by simp[eF])]
 rw[jw,oN a tg (by omega),oN b tg (by omega)]
theorem mO(a:Ty)(tg:Tg)(w:Vl):bP (.rc a) tg (.f w)=iU (fun c=>.f (.l c)) (bP a tg.up w)++(bP a (.bd 0) w).flatMap fun h=>iU (fun c=>.f (.r (.p h.1 c))) (bP (.rc a) tg h.2):=by
 rw[bP,show (Vl.f w).nodes=w.nodes+1 by simp[Vl.nodes];omega,dM,if_neg (by simp[eF])]
 rw[jw,oN a tg.up (ap _),oN a (.bd 0) (ap _)]
 congr 1
 apply iM
 intro h hh
 have:=(ff _ _ _ _ _ hh).1
 rw[oN (.rc a) tg this]
theorem dS{t:Ty}{tg:Tg}{v:Vl}(h:eF t tg=false)(h2:stuck t v=true):bP t tg v=[]:=by
 unfold bP
 cases e:v.nodes with
 |zero=>rfl
 |
  succ n =>
  rw[dM,if_neg (by rw[h];simp)]
  unfold jw
  split<;>first|(simp[stuck]at h2;done)|rfl
theorem jt{t:Ty}{tg:Tg}{v:Vl}{h:Hl}(hm:h∈bP t tg v):h.2.nodes<=v.nodes/\h.1.nodes+4*h.2.nodes<=4*v.nodes+1:=ff _ _ _ _ _ hm
theorem fZ(n:Nat):∀(m:Nat) (t:Ty) (tg:Tg) (v:Vl) (h:Hl),v.iB n->h∈dM m t tg v->h.1.iB n/\h.2.iB n
 |0,t,tg,v,h,hv,hm=>by simp[dM]at hm
 |
  m+1,t,tg,v,h,hv,hm=>by
  unfold dM at hm
  split at hm
  ·simp only[aS]at hm
   subst hm
   exact⟨trivial,hv⟩
  ·unfold jw at hm
   split at hm
   ·obtain⟨k,h1,rfl⟩:=dD hm
    exact(fun q=>fZ n m _ _ _ k q h1) hv
   ·obtain⟨k,h1,rfl⟩:=dD hm
    exact(fun q=>fZ n m _ _ _ k q h1) hv
   ·rcases aK.1 hm with hm|hm
    ·obtain⟨k,h1,rfl⟩:=dD hm
     obtain⟨q1,q2⟩:=fZ n m _ _ _ k hv.1 h1
     exact⟨⟨q1,hv.2⟩,q2⟩
    ·obtain⟨k,h1,rfl⟩:=dD hm
     obtain⟨q1,q2⟩:=fZ n m _ _ _ k hv.2 h1
     exact⟨⟨hv.1,q1⟩,q2⟩
   ·rcases aK.1 hm with hm|hm
    ·obtain⟨k,h1,rfl⟩:=dD hm
     exact(fun q=>fZ n m _ _ _ k q h1) hv
    ·obtain⟨k,h1,h2⟩:=List.mem_flatMap.1 hm
     obtain⟨k2,h3,rfl⟩:=dD h2
     obtain⟨q1,q2⟩:=(fun q=>fZ n m _ _ _ k q h1) hv
     obtain⟨q3,q4⟩:=fZ n m _ _ _ k2 q2 h3
     exact⟨⟨q1,q3⟩,q4⟩
   ·simp at hm
def l9(l:List Hl):Nat:=(l.map fun h=>h.2.nodes).sum
theorem qQ(l r:List Hl):l9 (l++r)=l9 l+l9 r:=by simp[l9]
theorem oc(g:Vl->Vl)(l:List Hl):l9 (iU g l)=l9 l:=by simp[l9,iU,Function.comp_def]
def kA(f:Tg->Nat)(T:List Tg):Nat:=(T.map f).sum
theorem ox(f g:Tg->Nat):∀T:List Tg,kA (fun x=>f x+g x) T=kA f T+kA g T
 |[]=>rfl
 |x::T=>by have:=ox f g T;simp only[kA,bI,List.sum_cons]at this |-;omega
theorem xk{f g:Tg->Nat}:∀{T:List Tg},(∀x,x∈T->f x<=g x)->kA f T<=kA g T
 |[],_=>ap _
 |
  x::T,h=>by
  have:=xk (T:=T) fun y hy=>h y (al _ hy)
  have:=h x ai
  simp only[kA,bI,List.sum_cons]at *;omega
theorem pq{f:Tg->Nat}:∀{T:List Tg},(∀x,x∈T->f x=0)->kA f T=0
 |[],_=>rfl
 |
  x::T,h=>by
  have:=pq (T:=T) fun y hy=>h y (al _ hy)
  have:=h x ai
  simp only[kA,bI,List.sum_cons]at *;omega
theorem se(g:Hl->Tg->Nat)(T:List Tg):∀l:List Hl,kA (fun x=>(l.map fun h=>g h x).sum) T=(l.map fun h=>kA (g h) T).sum
 |[]=>pq fun _ _=>rfl
 |
  h::l=>by
  have:=se g T l
  simp only[bI,List.sum_cons]
  rw[ox,this]
theorem rV(f:Hl->List Hl):∀l:List Hl,l9 (l.flatMap f)=(l.map fun h=>l9 (f h)).sum
 |[]=>rfl
 |h::l=>by rw[List.flatMap_cons,qQ,rV f l];simp
theorem Ae{f g:Hl->Nat}:∀{l:List Hl},(∀x,x∈l->f x<=g x)->(l.map f).sum<=(l.map g).sum
 |[],_=>ap _
 |
  x::l,h=>by
  have:=Ae (l:=l) fun y hy=>h y (al _ hy)
  have:=h x ai
  simp only[bI,List.sum_cons]at *;omega
theorem Aq{t:Ty}{x y:Tg}(h:eF t x=true)(h':eF t y=true):x=y:=by
 cases t<;>cases x<;>cases y<;>simp[eF]at h h'<;>simp_all
theorem xy{t:Ty}(n:Nat):∀{T:List Tg},T.Nodup->kA (fun x=>if eF t x=true then n else 0) T<=n
 |[],_=>dP _
 |
  x::T,h=>by
  obtain⟨h1,h2⟩:=List.nodup_cons.1 h
  have ih:=xy (t:=t) n h2
  by_cases hx:eF t x=true
  ·have:kA (fun x=>if eF t x=true then n else 0) T=0:=pq fun y hy=>by
    rw[if_neg fun hy'=>h1 (by rw[Aq hx hy'];exact hy)]
   simp only[kA,bI,List.sum_cons]at *
   rw[if_pos hx];omega
  ·simp only[kA,bI,List.sum_cons]at *
   rw[if_neg hx];omega
theorem Ah{T:List Tg}(h:T.Nodup):(Tg.bd 0::T.map Tg.up).Nodup:=by
 refine List.nodup_cons.2 ⟨fun hm=>?_,?_⟩
 ·obtain⟨x,_,e⟩:=cj.1 hm
  cases x<;>simp[Tg.up]at e
 ·refine List.Pairwise.map _ (fun a b hab e=>hab ?_) h
  cases a<;>cases b<;>simp[Tg.up]at e<;>simp_all
theorem apart:∀(n:Nat) (v:Vl),v.nodes<=n->∀(t:Ty) (T:List Tg),T.Nodup->kA (fun x=>l9 (bP t x v)) T<=v.nodes
 |0,v,h=>by have:=dj v;omega
 |
  n+1,v,hn=>by
  intro t T hT
  have base:∀(hno:∀x,eF t x=false->bP t x v=[]),kA (fun x=>l9 (bP t x v)) T<=v.nodes:=fun hno=>by
   refine Nat.le_trans (xk fun x _=>?_) (xy (t:=t) v.nodes hT)
   cases e:eF t x with
   |true=>rw[mD v e];simp[l9]
   |false=>rw[hno x e];simp[l9]
  cases hm:stuck t v with
  |true=>exact base fun x hx=>dS hx hm
  |
   false =>
   unfold stuck at hm
   split at hm
   ·rename_i a b w
    simp only[Vl.nodes]at hn |-
    simp only[mP,oc]
    have:=apart n w (by omega) a T hT
    omega
   ·rename_i a b w
    simp only[Vl.nodes]at hn |-
    simp only[mV,oc]
    have:=apart n w (by omega) b T hT
    omega
   ·rename_i a b x y
    simp only[Vl.nodes]at hn |-
    simp only[mU,qQ,oc]
    rw[ox]
    have:=apart n x (by omega) a T hT
    have:=apart n y (by omega) b T hT
    omega
   ·rename_i a w
    simp only[Vl.nodes]at hn |-
    simp only[mO,qQ,oc,rV]
    rw[ox,se]
    have h1:=apart n w (by omega) a _ (Ah hT)
    simp only[kA,bI,List.sum_cons,List.map_map]at h1
    have h2:((bP a (.bd 0) w).map fun h=>kA (fun x=>l9 (bP (.rc a) x h.2)) T).sum<=l9 (bP a (.bd 0) w):=Ae fun h hh=>by
     have:=(jt hh).1
     exact apart n h.2 (by omega) (.rc a) T hT
    simp only[kA,Function.comp_def]at h1 h2 |-
    omega
   ·cases hm
theorem rF(t:Ty)(tg:Tg)(v:Vl):l9 (bP t tg v)<=v.nodes:=by
 have:=apart v.nodes v (ap _) t [tg] (by simp)
 simpa[kA]using this
theorem rM:∀l:List Hl,l.length<=l9 l
 |[]=>dP _
 |
  h::l=>by
  have:=rM l
  have:=dj h.2
  simp only[l9,bI,List.sum_cons,aw]at *;omega
theorem mR(t:Ty)(tg:Tg)(v:Vl):(bP t tg v).length<=v.nodes:=Nat.le_trans (rM _) (rF t tg v)
end Go.Proofs.Trees
namespace Go.Proofs.Trees
open Go Go.VL Go.RowKit
def gn(ar:List (List UInt8))(k:Nat):List UInt8:=ar.getD (ar.length-1-k) []
theorem fH{s:List UInt8}{ar:List (List UInt8)}:∀(i u:Nat),i<=ar.length->bE s ar i=some u->u<ar.length/\gn ar u=s
 |0,u,_,h=>by cases h
 |
  i+1,u,hi,h=>by
  rw[bE]at h
  split at h
  ·rename_i e
   cases h
   refine⟨by omega,?_⟩
   rw[gn,show ar.length-1-(ar.length-1-i)=i by omega];exact e
  ·exact fH i u (by omega) h
def uo:Ty->Tg->Bool
 | .plus a b,tg=>uo a tg||uo b tg
 | .times a b,tg=>uo a tg||uo b tg
 | .rc a,tg=>uo a tg.up
 |t,tg=>eF t tg
theorem iW:∀(n:Nat) (v:Vl),v.nodes<=n->∀(t:Ty) (tg:Tg),uo t tg=false->bP t tg v=[]
 |0,v,h=>by have:=dj v;omega
 |
  n+1,v,hn=>by
  intro t tg ho
  cases hm:stuck t v with
  |
   true =>
   refine dS ?_ hm
   cases t<;>first|exact ho|rfl
  |
   false =>
   unfold stuck at hm
   split at hm
   ·simp only[Vl.nodes]at hn
    simp only[uo,bU]at ho
    rw[mP,iW n _ (by omega) _ _ ho.1];rfl
   ·simp only[Vl.nodes]at hn
    simp only[uo,bU]at ho
    rw[mV,iW n _ (by omega) _ _ ho.2];rfl
   ·simp only[Vl.nodes]at hn
    simp only[uo,bU]at ho
    rw[mU,iW n _ (by omega) _ _ ho.1,iW n _ (by omega) _ _ ho.2];rfl
   ·rename_i a w
    simp only[Vl.nodes]at hn
    have ho':uo a tg.up=false:=ho
    rw[mO,iW n _ (by omega) _ _ ho']
    have:(bP a (.bd 0) w).flatMap (fun h=>iU (fun c=>.f (.r (.p h.1 c))) (bP (.rc a) tg h.2))=(bP a (.bd 0) w).flatMap (fun _=>[]):=iM fun h hh=>by
     have:=(jt hh).1
     rw[iW n h.2 (by omega) (.rc a) tg ho];rfl
    rw[this]
    induction bP a (.bd 0) w<;>simp_all[iU]
   ·cases hm
theorem kV:∀(e:E) (ar:List (List UInt8)) (t:Ty) (k:Nat),cK e ar=some t->uo t (.bd k)=true->k<ar.length/\bE (gn ar k) ar ar.length=some k
 |
  .atom s,ar,t,k,ht,ho=>by
  simp only[cK]at ht
  split at ht
  ·cases ht;cases ho
  ·split at ht
   ·cases ht;cases ho
   ·split at ht
    ·cases ht;cases ho
    ·split at ht
     ·split at ht
      ·rename_i u hu
       cases ht
       have:u=k:=by simpa[uo,eF]using ho
       subst this
       obtain⟨h1,h2⟩:=fH _ _ (ap _) hu
       exact⟨h1,by rw[h2];exact hu⟩
      ·cases ht;cases ho
     ·cases ht
 |
  .list [x,a,b],ar,t,k,ht,ho=>by
  by_cases h0:x.at=[43]
  ·obtain⟨t1,t2,h1,h2,rfl⟩:=fG h0 ht
   simp only[uo,bn]at ho
   rcases ho with ho|ho
   ·exact kV a ar t1 k h1 ho
   ·exact kV b ar t2 k h2 ho
  ·by_cases h1:x.at=[42]
   ·obtain⟨t1,t2,h1,h2,rfl⟩:=fe h1 ht
    simp only[uo,bn]at ho
    rcases ho with ho|ho
    ·exact kV a ar t1 k h1 ho
    ·exact kV b ar t2 k h2 ho
   ·by_cases h2:x.at=[114,101,99]
    ·obtain⟨t1,_,h3,rfl⟩:=dy h2 ht
     obtain⟨q1,q2⟩:=kV b (ar++[a.at]) t1 (k+1) h3 ho
     simp only[an,aw,aF]at q1
     have hk:k<ar.length:=by omega
     have e:gn (ar++[a.at]) (k+1)=gn ar k:=by
      unfold gn
      rw[an,show ar.length+[a.at].length-1-(k+1)=ar.length-1-k by simp;omega]
      simp[aa,List.getElem?_append_left (show ar.length-1-k<ar.length by omega)]
     rw[e]at q2
     refine⟨hk,?_⟩
     have e2:(ar++[a.at]).length=ar.length+1:=by simp
     rw[e2,bE]at q2
     split at q2
     ·rw[e2]at q2;simp at q2
     ·rw[kg _ _ _ _ (ap _)]at q2
      cases hq:bE (gn ar k) ar ar.length with
      |none=>rw[hq]at q2;cases q2
      |some u=>rw[hq]at q2;simpa using q2
    ·rw[iZ _ h0 h1 h2]at ht;cases ht
 | .list [],ar,t,k,ht,ho=>by cases ht
 | .list [_],ar,t,k,ht,ho=>by cases ht
 | .list [_,_],ar,t,k,ht,ho=>by cases ht
 | .list (_::_::_::_::_),ar,t,k,ht,ho=>by cases ht
theorem fW(w:List UInt8)(ar:List (List UInt8)):bE w (ar++[w]) (ar++[w]).length=some 0:=by
 have e2:(ar++[w]).length=ar.length+1:=by simp
 rw[e2,bE,if_pos (by simp[aa]),e2];simp
theorem jE{s w:List UInt8}(ar:List (List UInt8))(h:w≠s):bE s (ar++[w]) (ar++[w]).length=(bE s ar ar.length).map (·+1):=by
 have e2:(ar++[w]).length=ar.length+1:=by simp
 rw[e2,bE,if_neg (by simpa[aa]using h),kg _ _ _ _ (ap _)]
theorem EP{b:E}{ar:List (List UInt8)}{w:List UInt8}{t:Ty}{k:Nat}(hb:cK b (ar++[w])=some t)(hk:bE w ar ar.length=some k):uo t (.bd (k+1))=false:=by
 cases h:uo t (.bd (k+1))with
 |false=>rfl
 |
  true =>
  obtain⟨_,q2⟩:=kV _ _ _ _ hb h
  obtain⟨h1,h2⟩:=fH _ _ (ap _) hk
  have e:gn (ar++[w]) (k+1)=gn ar k:=by
   unfold gn
   rw[an,show ar.length+[w].length-1-(k+1)=ar.length-1-k by simp;omega]
   simp[aa,List.getElem?_append_left (show ar.length-1-k<ar.length by omega)]
  rw[e,h2,fW]at q2
  cases q2
def nM(s:List UInt8)(ar:List (List UInt8)):Tg:=match bE s ar ar.length with|some u=>.bd u|none=>.nm s
theorem zL(w:List UInt8)(ar:List (List UInt8)):nM w (ar++[w])=.bd 0:=by rw[nM,fW]
theorem yo{s w:List UInt8}(ar:List (List UInt8))(h:w≠s):nM s (ar++[w])=(nM s ar).up:=by
 rw[nM,nM,jE ar h]
 cases bE s ar ar.length<;>rfl
theorem ib(n:Nat):∀(m:Nat) (v:Vl),v.nodes<=m->∀(e:E) (env:List Fr) (t:Ty),Ask e env t->fq n v (e,env)=true->∀(k:Nat) (f:Fr),env[k]?=some f->∀h,h∈bP t (.bd k) v->fq n h.2 (f.ex,f.out)=true
 |0,v,hm=>by have:=dj v;omega
 |
  m+1,v,hm=>by
  intro e env t A hv k f hf h hh
  rcases jo A.wf A.ty with⟨hb,hq⟩|⟨u,g,rfl,hq,hu⟩
  ·have hhd:hd e env=(e,env):=ko hq
   rcases gZ A.ty hb A.cl with⟨rfl,rfl⟩|⟨rfl,rfl⟩|⟨s,rfl,rfl,hp,h0,h1⟩|⟨x,a,b,t1,t2,rfl,hx,rfl,ha,hbb⟩|⟨x,a,b,t1,t2,rfl,hx,rfl,ha,hbb⟩|⟨x,a,b,t1,rfl,hx,rfl⟩
   ·rw[dS rfl (by cases v<;>rfl)]at hh;cases hh
   ·rw[dS rfl (by cases v<;>rfl)]at hh;cases hh
   ·rw[dS rfl (by cases v<;>rfl)]at hh;cases hh
   ·obtain⟨ok1,ok2,ok3,_⟩:=A.ok
    obtain⟨f1,f2⟩:=fm A.cl
    cases v with
    |
     l w =>
     simp only[fq,hhd,hx,beq_self_eq_true,bL]at hv
     simp only[Vl.nodes]at hm
     rw[mP]at hh
     obtain⟨h2,h3,rfl⟩:=dD hh
     exact ib n m w (by omega) a env t1 ⟨ok2,A.wf,ha,f1⟩ hv k f hf h2 h3
    |
     r w =>
     simp only[fq,hhd,hx,beq_self_eq_true,bL]at hv
     simp only[Vl.nodes]at hm
     rw[mV]at hh
     obtain⟨h2,h3,rfl⟩:=dD hh
     exact ib n m w (by omega) b env t2 ⟨ok3,A.wf,hbb,f2⟩ hv k f hf h2 h3
    |_=>rw[dS rfl rfl]at hh;cases hh
   ·obtain⟨ok1,ok2,ok3,_⟩:=A.ok
    obtain⟨f1,f2⟩:=eV A.cl
    cases v with
    |
     p w w' =>
     simp only[fq,hhd,hx,beq_self_eq_true,bL,au]at hv
     simp only[Vl.nodes]at hm
     rw[mU]at hh
     rcases aK.1 hh with hh|hh
     ·obtain⟨h2,h3,rfl⟩:=dD hh
      exact ib n m w (by omega) a env t1 ⟨ok2,A.wf,ha,f1⟩ hv.1 k f hf h2 h3
     ·obtain⟨h2,h3,rfl⟩:=dD hh
      exact ib n m w' (by omega) b env t2 ⟨ok3,A.wf,hbb,f2⟩ hv.2 k f hf h2 h3
    |_=>rw[dS rfl rfl]at hh;cases hh
   ·obtain⟨t1',he1,h1,f1,hw1⟩:=jq A.wf A.ok hx A.ty A.cl
    cases he1
    obtain⟨ok1,ok2,ok3,_⟩:=A.ok
    cases v with
    |
     f w =>
     simp only[fq,hhd,hx,beq_self_eq_true,bL]at hv
     simp only[Vl.nodes]at hm
     rw[mO]at hh
     have A':Ask b (.mk a.at (.list [x,a,b]) env::env) t1:=⟨ok3,hw1,h1,f1⟩
     rcases aK.1 hh with hh|hh
     ·obtain⟨h2,h3,rfl⟩:=dD hh
      exact ib n m w (by omega) b _ t1 A' hv (k+1) f (by simpa using hf) h2 h3
     ·obtain⟨kd,h2,h3⟩:=List.mem_flatMap.1 hh
      obtain⟨h4,h5,rfl⟩:=dD h3
      have hkd:=ib n m w (by omega) b _ t1 A' hv 0 _ rfl kd h2
      have:=(jt h2).1
      exact ib n m kd.2 (by omega) (.list [x,a,b]) env _ A hkd k f hf h4 h5
    |_=>rw[dS rfl rfl]at hh;cases hh
  ·by_cases huk:u=k
   ·subst huk
    rw[hu]at hf;cases hf
    rw[mD v (by simp[eF])]at hh
    simp only[aS]at hh
    subst hh
    obtain⟨x,a,b,t',hfe,hok,hx,ht',hf',hwf,hlt⟩:=og A.wf hq
    rw[<-tn n v (qo hq) (by rw[hfe];exact rH hwf)];exact hv
   ·rw[dS (by simpa[eF]using huk) (by cases v<;>rfl)]at hh;cases hh
end Go.Proofs.Trees
namespace Go.Proofs.Trees
open Go Go.VL Go.RowKit
def cX:E->List Nm->Ty
 | .atom s,ar=>if s=[48]then .zero else if s=[49]then .one else match bE s ar ar.length with|some u=>.bH u|none=>.name s
 | .list [x,a,b],ar=>if x.at=[43]then .plus (cX a ar) (cX b ar)else if x.at=[42]then .times (cX a ar) (cX b ar)else .rc (cX b (ar++[a.at]))
 | .list _,_=>.zero
def qh(s:Nm):Prop:=s≠[]/\s≠[48]/\s≠[49]
inductive Wf:E->Prop
 |atom {s} (h:s≠[]):Wf (.atom s)
 |plus {a b} (ha:Wf a) (hb:Wf b):Wf (.list [.atom [43],a,b])
 |times {a b} (ha:Wf a) (hb:Wf b):Wf (.list [.atom [42],a,b])
 |rc {n b} (hn:qh n) (hb:Wf b):Wf (.list [.atom [114,101,99],.atom n,b])
theorem dU(a b:E)(ar:List Nm):cX (.list [.atom [43],a,b]) ar=.plus (cX a ar) (cX b ar):=by rw[cX,if_pos (show (E.atom [43]).at=[43] from rfl)]
theorem dm(a b:E)(ar:List Nm):cX (.list [.atom [42],a,b]) ar=.times (cX a ar) (cX b ar):=by rw[cX,if_neg (by decide),if_pos (show (E.atom [42]).at=[42] from rfl)]
theorem fL(a b:E)(ar:List Nm):cX (.list [.atom [114,101,99],a,b]) ar=.rc (cX b (ar++[a.at])):=by rw[cX,if_neg (by decide),if_neg (by decide)]
theorem Wf.ok{e:E}(h:Wf e):e.ok:=by
 induction h with
 |atom h=>exact h
 |plus ha hb i1 i2=>exact⟨by simp[E.ok],i1,i2,trivial⟩
 |times ha hb i1 i2=>exact⟨by simp[E.ok],i1,i2,trivial⟩
 |rc hn hb i=>exact⟨by simp[E.ok],hn.1,i,trivial⟩
theorem Wf.cZ{e:E}(h:Wf e):∀ar,e.cZ=(cX e ar).aC:=by
 induction h with
 |
  @atom s h =>
  intro ar
  simp only[E.cZ,cX]
  split
  ·rfl
  ·split
   ·rfl
   ·split<;>rfl
 |plus ha hb i1 i2=>intro ar;rw[dU];simp only[E.cZ,E.eX,Ty.aC,<-i1 ar,<-i2 ar];omega
 |times ha hb i1 i2=>intro ar;rw[dm];simp only[E.cZ,E.eX,Ty.aC,<-i1 ar,<-i2 ar];omega
 |@rc n b hn hb i=>intro ar;rw[fL];simp only[E.cZ,E.eX,Ty.aC,<-i];omega
theorem Wf.sz{e:E}(h:Wf e):e.sz<=3*e.cZ:=by
 induction h with
 |atom h=>simp[E.sz,E.cZ]
 |plus ha hb i1 i2=>simp only[E.sz,E.jk,E.cZ,E.eX];omega
 |times ha hb i1 i2=>simp only[E.sz,E.jk,E.cZ,E.eX];omega
 |rc hn hb i=>simp only[E.sz,E.jk,E.cZ,E.eX];omega
theorem kk:∀(e:E) (ar:List Nm) (t:Ty),e.ok->(∀w,w∈ar->da w=true)->cK e ar=some t->Wf e/\cX e ar=t
 |
  .atom s,ar,t,hok,hl,ht=>by
  refine⟨.atom hok,?_⟩
  simp only[cK,cX]at ht |-
  split at ht
  ·rename_i h;rw[if_pos h];simpa using ht
  ·rename_i h;rw[if_neg h]
   split at ht
   ·rename_i h1;rw[if_pos h1];simpa using ht
   ·rename_i h1;rw[if_neg h1]
    split at ht
    ·rename_i hp
     cases q:bE s ar ar.length with
     |none=>simpa using ht
     |
      some u =>
      obtain⟨h1,h2⟩:=fH _ _ (ap _) q
      have:=hl (gn ar u) (by
       unfold gn
       have:ar.length-1-u<ar.length:=by omega
       simp[aa,this])
      rw[h2,ka hp]at this;cases this
    ·split at ht
     ·split at ht<;>rename_i q<;>rw[q]<;>simpa using ht
     ·cases ht
 |
  .list [x,a,b],ar,t,hok,hl,ht=>by
  obtain⟨ok1,ok2,ok3,_⟩:=hok
  by_cases h0:x.at=[43]
  ·obtain⟨t1,t2,h1,h2,rfl⟩:=fG h0 ht
   obtain rfl:=km h0 (by simp)
   obtain⟨w1,e1⟩:=kk a ar t1 ok2 hl h1
   obtain⟨w2,e2⟩:=kk b ar t2 ok3 hl h2
   exact⟨.plus w1 w2,by rw[dU,e1,e2]⟩
  ·by_cases h1:x.at=[42]
   ·obtain⟨t1,t2,h2,h3,rfl⟩:=fe h1 ht
    obtain rfl:=km h1 (by simp)
    obtain⟨w1,e1⟩:=kk a ar t1 ok2 hl h2
    obtain⟨w2,e2⟩:=kk b ar t2 ok3 hl h3
    exact⟨.times w1 w2,by rw[dm,e1,e2]⟩
   ·by_cases h2:x.at=[114,101,99]
    ·obtain⟨t1,hla,h3,rfl⟩:=dy h2 ht
     obtain rfl:=km h2 (by simp)
     have hne:a.at≠[]:=by intro e;rw[e]at hla;cases hla
     have ha:a=.atom a.at:=km rfl hne
     obtain⟨w1,e1⟩:=kk b (ar++[a.at]) t1 ok3 (fun w hw=>by
      rcases aK.1 hw with hw|hw
      ·exact hl w hw
      ·simp only[aS]at hw;rw[hw];exact hla) h3
     have hN:qh a.at:=⟨hne,fun e=>by rw[e]at hla;revert hla;decide,fun e=>by rw[e]at hla;revert hla;decide⟩
     refine⟨?_,by rw[fL,e1]⟩
     rw[ha];exact .rc hN w1
    ·rw[iZ _ h0 h1 h2]at ht;cases ht
 | .list [],ar,t,_,_,ht=>by cases ht
 | .list [_],ar,t,_,_,ht=>by cases ht
 | .list [_,_],ar,t,_,_,ht=>by cases ht
 | .list (_::_::_::_::_),ar,t,_,_,ht=>by cases ht
theorem fy(s:Nm)(ar:List Nm):bE s ar ar.length=none↔s∉ar:=by
 have:=mf s ar ar.length (ap _)
 rwa[List.take_length]at this
theorem nI(s:Nm)(ar:List Nm):∀(n:Nat) (br:List Nm),br.length=n->bE s (ar++br) (ar++br).length=match bE s br br.length with|some u=>some u|none=>(bE s ar ar.length).map (·+br.length)
 |
  0,br,h=>by
  obtain rfl:=List.eq_nil_of_length_eq_zero h
  rw[cS]
  cases h:bE s ar ar.length<;>simp[bE]
 |
  n+1,br,h=>by
  obtain⟨b2,w,rfl⟩:∃b2 w,br=b2++[w]:=⟨br.dropLast,br.getLast (by intro e;rw[e]at h;cases h),(List.dropLast_concat_getLast _).symm⟩
  rw[<-bb]
  by_cases hw:w=s
  ·subst hw;rw[fW,fW]
  ·rw[jE _ hw,jE _ hw,nI s ar n b2 (by simpa using h)]
   cases bE s b2 b2.length with
   |some u=>rfl
   |
    none =>
    cases bE s ar ar.length with
    |none=>rfl
    |some u=>simp only[Option.map_none,cv,an,aw,aF];congr 1
theorem tE(ar:List Nm){e:E}(h:Wf e):∀br,(∀y,bh y (cX e br)=true->y∉ar)->cX e (ar++br)=cX e br:=by
 induction h with
 |
  @atom s h =>
  intro br hy
  simp only[cX]at hy |-
  split
  ·rfl
  ·rename_i h0
   split
   ·rfl
   ·rename_i h1
    rw[if_neg h0,if_neg h1]at hy
    rw[nI s ar _ br rfl]
    cases q:bE s br br.length with
    |some u=>rfl
    |
     none =>
     rw[q]at hy
     have:=(fy s ar).2 (hy s (by simp[bh]))
     rw[this];rfl
 |
  plus ha hb i1 i2 =>
  intro br hy
  rw[dU]at hy |-
  rw[dU,i1 br fun y h=>hy y (by simp[bh,h]),i2 br fun y h=>hy y (by simp[bh,h])]
 |
  times ha hb i1 i2 =>
  intro br hy
  rw[dm]at hy |-
  rw[dm,i1 br fun y h=>hy y (by simp[bh,h]),i2 br fun y h=>hy y (by simp[bh,h])]
 |
  @rc n b hn hb i =>
  intro br hy
  rw[fL]at hy |-
  rw[fL,bb,i _ hy]
theorem CW(x:Nm){e:E}(h:Wf e):∀ar,cX e ar=dE (.name x) (cX e ([x]++ar)) ar.length:=by
 induction h with
 |
  @atom s h =>
  intro ar
  simp only[cX]
  split
  ·rfl
  ·split
   ·rfl
   ·rw[nI s [x] _ ar rfl]
    cases q:bE s ar ar.length with
    |
     some u =>
     have:=(fH _ _ (ap _) q).1
     simp only[dE];rw[if_neg (by omega)]
    |
     none =>
     by_cases hx:x=s
     ·subst hx
      have:bE x [x] [x].length=some 0:=fW x []
      rw[this];simp[dE]
     ·have:bE s [x] [x].length=none:=(fy s [x]).2 (by simpa using fun e=>hx e.symm)
      rw[this];rfl
 |plus ha hb i1 i2=>intro ar;rw[dU,dU,dE,<-i1 ar,<-i2 ar]
 |times ha hb i1 i2=>intro ar;rw[dm,dm,dE,<-i1 ar,<-i2 ar]
 |
  @rc n b hn hb i =>
  intro ar
  rw[fL,fL,dE,i (ar++[E.at (.atom n)]),bb]
  simp
theorem pD{e:E}(h:Wf e):∀ar y,bh y (cX e ar)=true->qh y/\y∉ar:=by
 induction h with
 |
  @atom s h =>
  intro ar y hy
  simp only[cX]at hy
  split at hy
  ·cases hy
  ·rename_i h0
   split at hy
   ·cases hy
   ·rename_i h1
    split at hy
    ·cases hy
    ·rename_i q
     simp only[bh,decide_eq_true_eq]at hy
     subst hy
     exact⟨⟨h,h0,h1⟩,(fy _ _).1 q⟩
 |
  plus ha hb i1 i2 =>
  intro ar y hy
  rw[dU]at hy
  simp only[bh,bn]at hy
  rcases hy with hy|hy
  ·exact i1 ar y hy
  ·exact i2 ar y hy
 |
  times ha hb i1 i2 =>
  intro ar y hy
  rw[dm]at hy
  simp only[bh,bn]at hy
  rcases hy with hy|hy
  ·exact i1 ar y hy
  ·exact i2 ar y hy
 |
  rc hn hb i =>
  intro ar y hy
  rw[fL]at hy
  obtain⟨h1,h2⟩:=i _ y hy
  exact⟨h1,fun h=>h2 (aB _ h)⟩
theorem lz{e:E}(h:Wf e):∀(bd l:List Nm) (y:Nm),y∈kf e bd l↔y∈l\/bh y (cX e bd)=true:=by
 induction h with
 |
  @atom s h =>
  intro bd l y
  simp only[kf,cX]
  by_cases h0:s=[48]
  ·simp[h0,bh]
  ·by_cases h1:s=[49]
   ·simp[h1,bh]
   ·rw[if_neg h0,if_neg h1]
    by_cases h2:s∈bd
    ·cases q:bE s bd bd.length with
     |none=>exact absurd h2 ((fy _ _).1 q)
     |some u=>simp[h2,bh]
    ·rw[(fy _ _).2 h2]
     simp only[h0,h1,h2,false_or,bh,decide_eq_true_eq]
     by_cases h3:s∈l
     ·simp only[h3,if_true]
      exact⟨fun h=>.inl h,fun h=>by rcases h with h|rfl<;>assumption⟩
     ·simp only[h3,if_false,aK,aS,eq_comm]
 |
  plus ha hb i1 i2 =>
  intro bd l y
  rw[kf,if_neg (by decide),dU,i2,i1]
  simp[bh,or_assoc]
 |
  times ha hb i1 i2 =>
  intro bd l y
  rw[kf,if_neg (by decide),dm,i2,i1]
  simp[bh,or_assoc]
 |
  rc hn hb i =>
  intro bd l y
  rw[kf,if_pos (show (E.atom [114,101,99]).at=[114,101,99] from rfl),fL,i]
  rfl
theorem eQ:∀(t:Ty) (out:List Nm) (y:Nm),y∈bD t out↔y∈out\/bh y t=true
 |
  .name s,out,y=>by
  simp only[bD,pj,bh,decide_eq_true_eq]
  split
  ·rename_i h;exact⟨fun h=>.inl h,fun h'=>by rcases h' with h'|rfl<;>assumption⟩
  ·simp[eq_comm]
 | .plus a b,out,y=>by rw[bD,eQ b,eQ a];simp[bh,or_assoc]
 | .times a b,out,y=>by rw[bD,eQ b,eQ a];simp[bh,or_assoc]
 | .rc a,out,y=>by rw[bD,eQ a];rfl
 | .zero,out,y=>by simp[bD,bh]
 | .one,out,y=>by simp[bD,bh]
 | .bH k,out,y=>by simp[bD,bh]
end Go.Proofs.Trees
namespace Go.Proofs.Trees
open Go Go.VL Go.RowKit
abbrev dY:Nm:=[114,101,99]
theorem dZ(s:Nm):(E.atom s).at=s:=rfl
def qE(x:Nm)(u:E):E->E
 | .atom s=>if s=x then u else .atom s
 | .list [h,a,b]=>if h.at=dY then(if a.at=x then .list [h,a,b]else .list [.atom dY,a,qE x u b])else .list [.atom h.at,qE x u a,qE x u b]
 | .list l=>.list l
def mX(x:Nm):E->Nat
 | .atom s=>if s=x then 1 else 0
 | .list [h,a,b]=>if h.at=dY then(if a.at=x then 0 else mX x b)else mX x a+mX x b
 | .list _=>0
def tO(p:Nm->Prop):E->Prop
 | .atom _=>True
 | .list [h,a,b]=>(if h.at=dY then p a.at else tO p a)/\tO p b
 | .list _=>True
def gG(x:Nm):Ty->Nat
 | .name s=>if s=x then 1 else 0
 | .plus a b=>gG x a+gG x b
 | .times a b=>gG x a+gG x b
 | .rc a=>gG x a
 |_=>0
theorem uZ(x:Nm)(u a b:E):qE x u (.list [.atom [43],a,b])=.list [.atom [43],qE x u a,qE x u b]:=by rw[qE,if_neg (by decide)];rfl
theorem sB(x:Nm)(u a b:E):qE x u (.list [.atom [42],a,b])=.list [.atom [42],qE x u a,qE x u b]:=by rw[qE,if_neg (by decide)];rfl
theorem Bb(x:Nm)(u:E)(n:Nm)(b:E):qE x u (.list [.atom dY,.atom n,b])=if n=x then .list [.atom dY,.atom n,b]else .list [.atom dY,.atom n,qE x u b]:=by rw[qE,if_pos (dZ _)];rfl
theorem qB(x:Nm)(a b:E):mX x (.list [.atom [43],a,b])=mX x a+mX x b:=by rw[mX,if_neg (by decide)]
theorem pF(x:Nm)(a b:E):mX x (.list [.atom [42],a,b])=mX x a+mX x b:=by rw[mX,if_neg (by decide)]
theorem wL(x:Nm)(n:Nm)(b:E):mX x (.list [.atom dY,.atom n,b])=if n=x then 0 else mX x b:=by rw[mX,if_pos (dZ _)];rfl
theorem oe(p:Nm->Prop)(a b:E):tO p (.list [.atom [43],a,b])↔tO p a/\tO p b:=by rw[tO,if_neg (by decide)]
theorem mS(p:Nm->Prop)(a b:E):tO p (.list [.atom [42],a,b])↔tO p a/\tO p b:=by rw[tO,if_neg (by decide)]
theorem ui(p:Nm->Prop)(n:Nm)(b:E):tO p (.list [.atom dY,.atom n,b])↔p n/\tO p b:=by rw[tO,if_pos (dZ _)];rfl
theorem BE{p q:Nm->Prop}(h:∀n,p n->q n){e:E}(hw:Wf e):tO p e->tO q e:=by
 induction hw with
 |atom _=>exact fun _=>trivial
 |plus _ _ i1 i2=>rw[oe,oe];exact fun g=>⟨i1 g.1,i2 g.2⟩
 |times _ _ i1 i2=>rw[mS,mS];exact fun g=>⟨i1 g.1,i2 g.2⟩
 |rc _ _ i=>rw[ui,ui];exact fun g=>⟨h _ g.1,i g.2⟩
theorem ja{s:Nm}(hs:qh s){ar:List Nm}(h:s∉ar):cX (.atom s) ar=.name s:=by
 simp only[cX];rw[if_neg hs.2.1,if_neg hs.2.2,(fy s ar).2 h]
theorem Cn{x:Nm}(hx:qh x){u:E}(hu:Wf u){e:E}(h:Wf e):tO (fun n=>n≠x/\bh n (cX u [])=false) e->∀ar,x∉ar->(∀y,y∈ar->bh y (cX u [])=false)->Wf (qE x u e)/\cX (qE x u e) ar=sub x (cX u []) (cX e ar):=by
 induction h with
 |
  @atom s hs =>
  intro _ ar har hy
  by_cases e:s=x
  ·subst e
   have:cX u (ar++[])=cX u []:=tE ar hu [] fun y hy' hm=>by rw[hy y hm]at hy';cases hy'
   rw[cS]at this
   rw[ja hx har]
   simp only[qE,sub,if_true]
   exact⟨hu,this⟩
  ·simp only[qE,if_neg e]
   refine⟨.atom hs,?_⟩
   simp only[cX]
   split
   ·rfl
   ·split
    ·rfl
    ·split
     ·rfl
     ·simp only[sub,if_neg e]
 |
  plus ha hb i1 i2 =>
  intro hap ar har hy
  rw[oe]at hap
  obtain⟨w1,e1⟩:=i1 hap.1 ar har hy
  obtain⟨w2,e2⟩:=i2 hap.2 ar har hy
  rw[uZ,dU,dU,e1,e2]
  exact⟨.plus w1 w2,rfl⟩
 |
  times ha hb i1 i2 =>
  intro hap ar har hy
  rw[mS]at hap
  obtain⟨w1,e1⟩:=i1 hap.1 ar har hy
  obtain⟨w2,e2⟩:=i2 hap.2 ar har hy
  rw[sB,dm,dm,e1,e2]
  exact⟨.times w1 w2,rfl⟩
 |
  @rc n b hn hb i =>
  intro hap ar har hy
  rw[ui]at hap
  obtain⟨w1,e1⟩:=i hap.2 (ar++[n]) (by
   simp only[aK,aS]
   rintro(h|h)
   ·exact har h
   ·exact hap.1.1 h.symm) (fun y hm=>by
   simp only[aK,aS]at hm
   rcases hm with hm|rfl
   ·exact hy y hm
   ·exact hap.1.2)
  rw[Bb,if_neg hap.1.1,fL,fL]
  refine⟨.rc hn w1,?_⟩
  show Ty.rc (cX (qE x u b) (ar++[n]))=_
  rw[e1];rfl
theorem CX{x:Nm}(hx:qh x){e:E}(h:Wf e):∀ar,gG x (cX e ar)=if x∈ar then 0 else mX x e:=by
 induction h with
 |
  @atom s hs =>
  intro ar
  by_cases e:s=x
  ·subst e
   by_cases hm:s∈ar
   ·rw[if_pos hm]
    simp only[cX];rw[if_neg hx.2.1,if_neg hx.2.2]
    cases q:bE s ar ar.length with
    |none=>exact absurd hm ((fy _ _).1 q)
    |some u=>rfl
   ·rw[if_neg hm,ja hx hm];simp[gG,mX]
  ·have:gG x (cX (.atom s) ar)=0:=by
    simp only[cX]
    split
    ·rfl
    ·split
     ·rfl
     ·split
      ·rfl
      ·simp[gG,e]
   rw[this];simp[mX,e]
 |plus ha hb i1 i2=>intro ar;rw[dU,qB,gG,i1,i2];split<;>simp
 |times ha hb i1 i2=>intro ar;rw[dm,pF,gG,i1,i2];split<;>simp
 |
  @rc n b hn hb i =>
  intro ar
  rw[fL,wL,gG,i]
  simp only[dZ,aK,aS]
  by_cases h1:x∈ar
  ·simp[h1]
  ·by_cases h2:x=n
   ·simp[h2]
   ·simp[h1,h2,Ne.symm h2]
theorem ez(x:Nm)(u:Ty):∀t:Ty,(sub x u t).aC+gG x t=t.aC+gG x t*u.aC
 | .name s=>by simp only[sub,gG];split<;>simp[Ty.aC];omega
 | .plus a b=>by have:=ez x u a;have:=ez x u b;simp only[sub,Ty.aC,gG,Nat.add_mul];omega
 | .times a b=>by have:=ez x u a;have:=ez x u b;simp only[sub,Ty.aC,gG,Nat.add_mul];omega
 | .rc a=>by have:=ez x u a;simp only[sub,Ty.aC,gG];omega
 | .zero=>by simp[sub,gG]
 | .one=>by simp[sub,gG]
 | .bH k=>by simp[sub,gG]
abbrev tN(m:Nat):Nm:=116::dd m
theorem DL(m:Nat):dd m≠[]:=by
 by_cases h:m<10
 ·rw[eH h];simp
 ·rw[fM h];simp
theorem vN:∀(n m k:Nat),m<n->dd m=dd k->m=k
 |0,m,k,h,_=>by omega
 |
  n+1,m,k,h,e=>by
  have d10:∀{a b:Nat},a<10->b<10->a8 (48+a)=a8 (48+b)->a=b:=fun {a b} ha hb h=>by
   have:=congrArg UInt8.toNat h
   simp only[UInt8.toNat_ofNat']at this
   omega
  by_cases h1:m<10<;>by_cases h2:k<10
  ·rw[eH h1,eH h2]at e
   simp only[List.cons.injEq,and_true]at e
   exact d10 h1 h2 e
  ·rw[eH h1,fM h2]at e
   have:=congrArg List.length e
   have:dd (k/10)=[]:=by
    apply List.eq_nil_of_length_eq_zero
    simp at this;simpa using this
   exact absurd this (DL _)
  ·rw[fM h1,eH h2]at e
   have:=congrArg List.length e
   have:dd (m/10)=[]:=by
    apply List.eq_nil_of_length_eq_zero
    simp at this;simpa using this
   exact absurd this (DL _)
  ·rw[fM h1,fM h2]at e
   obtain⟨e1,e2⟩:=List.append_inj' e rfl
   have:=vN n (m/10) (k/10) (by omega) e1
   simp only[List.cons.injEq,and_true]at e2
   have:=d10 (ep _ (by omega)) (ep _ (by omega)) e2
   omega
theorem z6{m k:Nat}(h:tN m=tN k):m=k:=vN (m+1) m k (by omega) (List.cons.inj h).2
theorem xF(m:Nat):qh (tN m):=⟨by simp,by simp,by simp⟩
theorem PH:∀(l F:List Nm),l.Nodup->(∀x,x∈l->x∈F)->l.length<=F.length
 |[],_,_,_=>dP _
 |
  x::l,F,hn,hs=>by
  obtain⟨h1,h2⟩:=List.nodup_cons.1 hn
  have hx:=hs x ai
  have:=PH l (F.erase x) h2 fun y hy=>(List.mem_erase_of_ne (fun e=>h1 (by rw[<-e];exact hy))).2 (hs y (al _ hy))
  rw[List.length_erase_of_mem hx]at this
  have:0<F.length:=List.length_pos_of_mem hx
  simp only[aw];omega
def pX(F:List Nm):Nat->Nat->Nat
 |0,k=>k
 |n+1,k=>if tN k∈F then pX F n (k+1)else k
theorem vo(F:List Nm):∀(n k:Nat),k<=pX F n k/\pX F n k<=k+n/\(∀j,k<=j->j<pX F n k->tN j∈F)/\(pX F n k<k+n->tN (pX F n k)∉F)
 |0,k=>⟨ap _,ap _,fun j h1 h2=>by simp only[pX]at h2;omega,fun h=>by simp only[pX]at h;omega⟩
 |
  n+1,k=>by
  rw[pX]
  split
  ·rename_i hm
   obtain⟨h1,h2,h3,h4⟩:=vo F n (k+1)
   refine⟨by omega,by omega,fun j hj hl=>?_,fun h=>h4 (by omega)⟩
   by_cases e:j=k
   ·subst e;exact hm
   ·exact h3 j (by omega) hl
  ·rename_i hm
   exact⟨ap _,by omega,fun j h1 h2=>by omega,fun _=>hm⟩
def nx(F:List Nm)(k:Nat):Nat:=pX F (F.length+1) k
theorem gA(F:List Nm)(k:Nat):k<=nx F k/\nx F k<=k+F.length/\(∀j,k<=j->j<nx F k->tN j∈F)/\tN (nx F k)∉F:=by
 obtain⟨h1,h2,h3,h4⟩:=vo F (F.length+1) k
 have hlt:nx F k<k+(F.length+1):=by
  rcases Nat.lt_or_ge (nx F k) (k+(F.length+1))with h|h
  ·exact h
  ·exfalso
   have:=PH ((List.range' k (F.length+1)).map tN) F (by
    refine List.Pairwise.map _ (fun a b hab e=>hab (z6 e)) List.nodup_range') (fun x hx=>by
    obtain⟨j,hj,rfl⟩:=cj.1 hx
    obtain⟨i,hi,rfl⟩:=List.mem_range'.1 hj
    exact h3 _ (by omega) (by show _<nx F k;omega))
   simp at this
   omega
 exact⟨h1,by unfold nx at hlt |-;omega,h3,h4 hlt⟩
theorem A5{F F':List Nm}(h:∀y,y∈F↔y∈F')(k:Nat):nx F k=nx F' k:=by
 obtain⟨a1,a2,a3,a4⟩:=gA F k
 obtain⟨b1,b2,b3,b4⟩:=gA F' k
 rcases Nat.lt_trichotomy (nx F k) (nx F' k)with hl|he|hl
 ·exact absurd ((h _).2 (b3 _ a1 hl)) a4
 ·exact he
 ·exact absurd ((h _).1 (a3 _ b1 hl)) b4
def gS(F:List Nm):Ty->List Nm->Nat->E×Nat
 | .zero,_,k=>(.atom [48],k)
 | .one,_,k=>(.atom [49],k)
 | .name s,_,k=>(.atom s,k)
 | .bH u,to,k=>(.atom (gn to u),k)
 | .plus a b,to,k=>(.list [.atom [43],(gS F a to k).1,(gS F b to (gS F a to k).2).1],(gS F b to (gS F a to k).2).2)
 | .times a b,to,k=>(.list [.atom [42],(gS F a to k).1,(gS F b to (gS F a to k).2).1],(gS F b to (gS F a to k).2).2)
 | .rc a,to,k=>(.list [.atom dY,.atom (tN (nx F k)),(gS F a (to++[tN (nx F k)]) (nx F k+1)).1],(gS F a (to++[tN (nx F k)]) (nx F k+1)).2)
theorem jJ{F F':List Nm}(h:∀y,y∈F↔y∈F'):∀(t:Ty) (to:List Nm) (k:Nat),gS F t to k=gS F' t to k
 | .zero,_,_=>rfl
 | .one,_,_=>rfl
 | .name _,_,_=>rfl
 | .bH _,_,_=>rfl
 | .plus a b,to,k=>by simp only[gS];rw[jJ h a,jJ h b]
 | .times a b,to,k=>by simp only[gS];rw[jJ h a,jJ h b]
 | .rc a,to,k=>by simp only[gS];rw[A5 h,jJ h a]
def jv:Ty->Nat->Prop
 | .bH u,i=>u<i
 | .plus a b,i=>jv a i/\jv b i
 | .times a b,i=>jv a i/\jv b i
 | .rc a,i=>jv a (i+1)
 |_,_=>True
theorem ud{e:E}(h:Wf e):∀ar,jv (cX e ar) ar.length:=by
 induction h with
 |
  @atom s hs =>
  intro ar
  simp only[cX]
  split
  ·trivial
  ·split
   ·trivial
   ·split
    ·rename_i u q;exact(fH _ _ (ap _) q).1
    ·trivial
 |plus ha hb i1 i2=>intro ar;rw[dU];exact⟨i1 ar,i2 ar⟩
 |times ha hb i1 i2=>intro ar;rw[dm];exact⟨i1 ar,i2 ar⟩
 |
  @rc n b hn hb i =>
  intro ar;rw[fL]
  have:=i (ar++[(E.atom n).at])
  rw[an]at this
  exact this
structure Gn(F to:List Nm)(k:Nat):Prop where
 out:∀w,w∈to->w∉F
 lt:∀w,w∈to->∃j,j<k/\w=tN j
 nd:to.Nodup
theorem Gn.nil(F:List Nm)(k:Nat):Gn F [] k:=⟨fun _ h=>(by cases h),fun _ h=>(by cases h),by simp⟩
theorem Gn.mono{F to:List Nm}{k k':Nat}(h:Gn F to k)(hk:k<=k'):Gn F to k':=⟨h.out,fun w hw=>by obtain⟨j,h1,h2⟩:=h.lt w hw;exact⟨j,by omega,h2⟩,h.nd⟩
theorem Gn.push{F to:List Nm}{k:Nat}(h:Gn F to k):Gn F (to++[tN (nx F k)]) (nx F k+1):=by
 obtain⟨h1,h2,h3,h4⟩:=gA F k
 refine⟨fun w hw=>?_,fun w hw=>?_,?_⟩
 ·rcases aK.1 hw with hw|hw
  ·exact h.out w hw
  ·simp only[aS]at hw;rw[hw];exact h4
 ·rcases aK.1 hw with hw|hw
  ·obtain⟨j,g1,g2⟩:=h.lt w hw;exact⟨j,by omega,g2⟩
  ·simp only[aS]at hw;exact⟨_,by omega,hw⟩
 ·refine List.nodup_append.2 ⟨h.nd,by simp,fun a ha b hb e=>?_⟩
  simp only[aS]at hb
  obtain⟨j,g1,g2⟩:=h.lt a ha
  rw[e,hb]at g2
  have:=z6 g2
  omega
theorem tP{to:List Nm}(hn:to.Nodup){u:Nat}(hu:u<to.length):bE (gn to u) to to.length=some u:=by
 have hm:gn to u∈to:=by
  unfold gn
  have:to.length-1-u<to.length:=by omega
  simp[aa,this]
 cases q:bE (gn to u) to to.length with
 |none=>exact absurd hm ((fy _ _).1 q)
 |
  some v =>
  obtain⟨h1,h2⟩:=fH _ _ (ap _) q
  unfold gn at h2
  have e1:to.length-1-v<to.length:=by omega
  have e2:to.length-1-u<to.length:=by omega
  rw[aa,aa,bm e1,bm e2]at h2
  have hp:=List.pairwise_iff_getElem.1 hn
  have h3:to[to.length-1-v]=to[to.length-1-u]:=by simpa using h2
  rcases Nat.lt_trichotomy (to.length-1-v) (to.length-1-u)with hl|he|hl
  ·exact absurd h3 (hp _ _ e1 e2 hl)
  ·congr 1;omega
  ·exact absurd h3.symm (hp _ _ e2 e1 hl)
theorem kz(F:List Nm):∀(t:Ty) (to:List Nm) (k:Nat),Gn F to k->jv t to.length->(∀y,bh y t=true->y∈F/\qh y) ->
 Wf (gS F t to k).1/\cX (gS F t to k).1 to=t/\k<=(gS F t to k).2/\(gS F t to k).2<=k+(F.length+1)*t.aC/\tO (·∉F) (gS F t to k).1
 | .zero,to,k,_,_,_=>⟨.atom (by simp),rfl,ap _,cV _ _,trivial⟩
 | .one,to,k,_,_,_=>⟨.atom (by simp),rfl,ap _,cV _ _,trivial⟩
 |
  .name s,to,k,g,hl,hn=>by
  obtain⟨h1,h2⟩:=hn s (by simp[bh])
  exact⟨.atom h2.1,ja h2 (fun h=>g.out s h h1),ap _,cV _ _,trivial⟩
 |
  .bH u,to,k,g,hl,hn=>by
  have hm:gn to u∈to:=by
   unfold gn
   have:to.length-1-u<to.length:=by have:u<to.length:=hl;omega
   simp[aa,this]
  obtain⟨j,_,e⟩:=g.lt _ hm
  have hok:qh (gn to u):=by rw[e];exact xF j
  refine⟨.atom hok.1,?_,ap _,cV _ _,trivial⟩
  simp only[gS,cX]
  rw[if_neg hok.2.1,if_neg hok.2.2,tP g.nd hl]
 |
  .plus a b,to,k,g,hl,hn=>by
  obtain⟨a1,a2,a3,a4,a5⟩:=kz F a to k g hl.1 fun y hy=>hn y (by simp[bh,hy])
  obtain⟨b1,b2,b3,b4,b5⟩:=kz F b to _ (g.mono a3) hl.2 fun y hy=>hn y (by simp[bh,hy])
  simp only[gS,dU,a2,b2,oe,Ty.aC]
  refine⟨.plus a1 b1,trivial,by omega,?_,a5,b5⟩
  have:(F.length+1)*(1+a.aC+b.aC)=(F.length+1)+(F.length+1)*a.aC+(F.length+1)*b.aC:=by simp only[cM,dC]
  omega
 |
  .times a b,to,k,g,hl,hn=>by
  obtain⟨a1,a2,a3,a4,a5⟩:=kz F a to k g hl.1 fun y hy=>hn y (by simp[bh,hy])
  obtain⟨b1,b2,b3,b4,b5⟩:=kz F b to _ (g.mono a3) hl.2 fun y hy=>hn y (by simp[bh,hy])
  simp only[gS,dm,a2,b2,mS,Ty.aC]
  refine⟨.times a1 b1,trivial,by omega,?_,a5,b5⟩
  have:(F.length+1)*(1+a.aC+b.aC)=(F.length+1)+(F.length+1)*a.aC+(F.length+1)*b.aC:=by simp only[cM,dC]
  omega
 |
  .rc a,to,k,g,hl,hn=>by
  obtain⟨h1,h2,h3,h4⟩:=gA F k
  obtain⟨a1,a2,a3,a4,a5⟩:=kz F a (to++[tN (nx F k)]) (nx F k+1) g.push (by rw[an];exact hl) hn
  simp only[gS,fL,dZ,a2,ui,Ty.aC]
  refine⟨.rc (xF _) a1,trivial,by omega,?_,h4,a5⟩
  have:(F.length+1)*(2+a.aC)=(F.length+1)*2+(F.length+1)*a.aC:=by simp only[cM]
  omega
end Go.Proofs.Trees
namespace Go.Proofs.Trees
open Go Go.VL Go.RowKit
inductive lL:AV->List Nat->Prop
 |nil:lL kB []
 |cons {m:Nat} {cs:List AV} {e:AV} {ids:List Nat} (hm:m∉ids) (h:lL e ids):lL (.ptr [.pid m cs,e]) (m::ids)
theorem lL.has{a:AV}{ids:List Nat}(h:lL a ids):LK.has .ptr a:=by
 cases h
 ·exact(jg).mpr trivial
 ·exact(ci _).mpr trivial
theorem lL.Qb{M:Mem}{a:AV}{ids:List Nat}(h:lL a ids):∀{v:Value},bw M dw a v->∀b,b∈ids->M.p b:=by
 induction h with
 |nil=>intro v _ b hb;cases hb
 |
  @cons m cs e ids hm h ih =>
  intro v hr b hb
  cases hr with
  |
   ptr _ _ _ off us hc hr =>
   have h0:=hr 0 (by simp)
   have h1:=hr 1 (by simp)
   simp only[bp,List.getD_cons_succ]at h0 h1
   rcases aI.1 hb with rfl|hb
   ·generalize us 0=u0 at h0
    cases h0 with
    |pid _ _ _ us hp _ _=>exact hp
   ·exact ih h1 b hb
theorem lL.nodup{a:AV}{ids:List Nat}(h:lL a ids):ids.Nodup:=by
 induction h with
 |nil=>simp
 |cons hm h ih=>exact List.nodup_cons.2 ⟨hm,ih⟩
theorem yx(a b:AV)(S:Nat->Prop)(R:AV->Prop):Ao K8 cA eu (cQ eu) [.agg [.x a,.x b]] S (fun o=>aJ o 7) R =
 .ak (LK.has .ptr a/\a.isNil=false) (.ak (LK.has .ptr a/\a.isNil=false) (.ak (LK.has .ptr ((a.deref.drop 3).headD .any)/\1<=(a.deref.drop 3).length)
  (.ak (∀ids:Nat->Nat,(∀o,¬S (ids o))->(True/\R (.cG [.agg [(a.deref.drop 3).headD .any,.ptr [.pid (ids 7) [a,b],b]],.pid (ids 7) [a,b]]))) (.done 0 [] [])))):=by kernel_rfl
def Ck(t:Ty)(ea:AV)(ids:List Nat):AV->List Ob->Prop:=fun r o=>(∃m,m∉ids/\r=.cG [.agg [t.av,.ptr [.pid m [(Ty.rc t).av,ea],ea]],.pid m [(Ty.rc t).av,ea]])/\o=[]
theorem Ck.ne(t:Ty)(ea:AV)(ids:List Nat):∃r o,Ck t ea ids r o:=by
 have:∃m,m∉ids:=⟨ids.foldr max 0+1,fun h=>by
  have key:∀(l:List Nat) (x:Nat),x∈l->x<=l.foldr max 0:=by
   intro l
   induction l with
   |nil=>intro x hx;cases hx
   |
    cons y l ih =>
    intro x hx
    rcases aI.1 hx with rfl|hx
    ·simp only[List.foldr_cons];omega
    ·have:=ih x hx;simp only[List.foldr_cons];omega
  have:=key _ _ h
  omega⟩
 obtain⟨m,hm⟩:=this
 exact⟨_,_,⟨m,hm,rfl⟩,rfl⟩
theorem Ka(t:Ty)(ea:AV)(ids:List Nat)(he:lL ea ids):aq Tryz.prog 107 [.agg [(Ty.rc t).av,ea]] [] (Ck t ea ids):=by
 have hup:vV [.agg [(Ty.rc t).av,ea]] [.agg [.x (Ty.rc t).av,.x ea]]:=ah (cr (ah (bF ((aG _).mpr trivial)) (ah (bF he.has) aD))) aD
 refine aq.up hup ?_
 refine aq.PZ (cA:=cA) (F:=eu) (S:=fun b=>b∈ids) (sel:=fun o=>aJ o 7) tM mixed (by kernel_rfl) (by kernel_rfl) (c:=cQ eu) (by kernel_rfl) (by kernel_rfl) (fun M β vs hr b hb=>?_) ?_
 ·have h0:=hr 0 (by simp)
  simp only[bp]at h0
  obtain⟨us,_,hl,hq,_⟩:=gy h0
  have h1:=hq 1 (by simp at hl |-)
  simp only[List.getD_cons_succ,bp]at h1
  cases h1 with
  |x _ _ _ _ h=>exact he.Qb h b hb
 ·rw[yx]
  simp only[Ty.av,↓zq,zs,af,aG]
  exact⟨by omega,fun ids' hf=>⟨ids' 7,hf 7,rfl⟩⟩
theorem J1(u:Nat)(hu:u<1000000):∀(k i:Nat) (ea:AV) (ids:List Nat),i+k=u->lL ea ids->k<=ids.length->CV [ea,.v (.int .i64 (u:Int)),.v (.int .i64 (i:Int))] [] (fun t ys o=>t=1/\∃e',lL e' (ids.drop k)/\ys=[e']/\o=[])
 |
  0,i,ea,ids,hi,he,hk=>by
  refine Cg _ _ _ ?_
  have:i=u:=by omega
  subst this
  simp only[zZ,↓zq,zs,af]
  exact⟨he.has,fun h=>by omega,fun _=>⟨ea,he,rfl⟩⟩
 |
  k+1,i,ea,ids,hi,he,hk=>by
  refine Cg _ _ _ ?_
  cases he with
  |nil=>simp at hk
  |
   @cons m cs e ids' hm h =>
   simp only[zZ,↓zq,zs,af,h.has]
   refine⟨fun _=>⟨by omega,?_⟩,fun h=>by omega⟩
   rw[bA i (by omega)]
   exact J1 u hu k (i+1) e ids' (by omega) h (by simpa using hk)
theorem Nn(u:Nat)(ea:AV)(ids:List Nat)(he:lL ea ids)(hu:u<ids.length)(hl:ids.length<1000000):aq Tryz.prog 133 [.agg [(Ty.bH u).av,ea]] [] (fun r o=>(∃cs,r=.pid (ids.getD u 0) cs)/\o=[]):=by
 refine KU _ _ ((aG _).mpr trivial) he.has ?_
 simp only[EK,Ty.av,↓zq,zs,af,he.has]
 refine⟨by omega,n7 (J1 u (by omega) u 0 ea ids (by omega) he (by omega)) ?_ (fun ys o h=>by cases h.1)⟩
 rintro ys o ⟨_,e',he',rfl,rfl⟩
 have hd:ids.drop u=ids.getD u 0::ids.drop (u+1):=by
  rw[aY hu];simp[aa,hu]
 rw[hd]at he'
 cases he' with
 |
  @cons m cs e ids' hm h =>
  have hp:LK.has .ptr (AV.pid (ids.getD u 0) cs):=.inr (.inr ⟨_,_,rfl⟩)
  simp only[↓zq,zs,af,hp]
  exact⟨by omega,cs,rfl⟩
inductive zG:Tg->List Nat->List UInt8->AV->Prop
 |nm (s:List UInt8) (ids:List Nat):zG (.nm s) ids s kB
 |bd {k:Nat} {ids:List Nat} (hk:k<ids.length) (cs:List AV) (s:List UInt8):zG (.bd k) ids s (.pid (ids.getD k 0) cs)
theorem zG.has{tg:Tg}{ids:List Nat}{s:List UInt8}{fr:AV}(h:zG tg ids s fr):LK.has .ptr fr:=by
 cases h
 ·exact(jg).mpr trivial
 ·exact .inr (.inr ⟨_,_,rfl⟩)
theorem zG.push{tg:Tg}{ids:List Nat}{s:List UInt8}{fr:AV}(h:zG tg ids s fr)(m:Nat):zG tg.up (m::ids) s fr:=by
 cases h with
 |nm=>exact .nm _ _
 |
  @bd k _ hk cs =>
  have:=zG.bd (k:=k+1) (ids:=m::ids) (by simpa using hk) cs s
  simpa[Tg.up]using this
theorem yQ{ids:List Nat}(h:ids.Nodup){i j:Nat}(hi:i<ids.length)(hj:j<ids.length)(he:ids.getD i 0=ids.getD j 0):i=j:=by
 have e1:ids.getD i 0=ids[i]:=by simp[aa,hi]
 have e2:ids.getD j 0=ids[j]:=by simp[aa,hj]
 rw[e1,e2]at he
 have hp:=List.pairwise_iff_getElem.1 h
 rcases Nat.lt_trichotomy i j with hlt|rfl|hlt
 ·exact absurd he (hp i j hi hj hlt)
 ·rfl
 ·exact absurd he.symm (hp j i hj hi hlt)
theorem OO(t:Ty)(tg:Tg)(ea:AV)(ids:List Nat)(s:List UInt8)(fr:AV)(he:lL ea ids)(ht:zG tg ids s fr)(hu:∀u,t=.bH u->u<ids.length)(hl:ids.length<1000000) :
 aq Tryz.prog 112 [.agg [.v (.string (mk s)),fr],.agg [t.av,ea]] [] (bC (.v (.bool (eF t tg)))):=by
 refine OE _ _ _ _ ht.has ((aG _).mpr trivial) he.has ?_
 cases ht with
 |
  nm s =>
  cases t<;>simp[Cw,Ty.av,↓zq,zs,af,zt,bC,eF]
  rw[cu];simp
 |
  @bd k _ hk cs s =>
  generalize hm0:ids.getD k 0=m0
  have hp:LK.has .ptr (AV.pid m0 cs):=.inr (.inr ⟨_,_,rfl⟩)
  have hn:(AV.pid m0 cs).isNil=false:=rfl
  cases t with
  |
   bH u =>
   have hu:=hu u rfl
   simp only[Cw,Ty.av,↓zq,zs,af,hp,hn]
   refine⟨fun _=>⟨by omega,fun _=>?_,fun h=>absurd rfl h⟩,fun h=>by cases h⟩
   have hb:=Nn u ea ids he hu hl
   simp only[Ty.av]at hb
   refine aP hb ⟨_,_,⟨[],rfl⟩,rfl⟩ ?_
   rintro r o ⟨⟨cs',rfl⟩,rfl⟩
   have hp':LK.has .ptr (AV.pid (ids.getD u 0) cs'):=.inr (.inr ⟨_,_,rfl⟩)
   simp only[↓zq,zs,af,hp',AV.qH,AV.Be,bC,eF]
   congr 2
   rw[cu,Nat.beq_eq,decide_eq_true_eq,<-hm0]
   exact⟨fun h=>yQ he.nodup hu hk h,fun h=>by rw[h]⟩
  |_=>simp[Cw,Ty.av,↓zq,zs,af,hp,hn,bC,eF]
end Go.Proofs.Trees
namespace Go.Proofs.Trees
open Go Go.VL Go.RowKit
theorem zB(b:Int)(a:AV)(h:LK.ptr.has a):aq Tryz.prog 95 [.v (.int .u8 b),a] [] (bC (.ptr [.v (.int .u8 b),.v (.string (mk [])),a,kB])):=by
 refine MD _ _ h ?_
 simp[JG,↓zq,zs,af,bC]
end Go.Proofs.Trees
namespace Go.Proofs.Trees
open Go Go.VL Go.RowKit
def iq(l:List Hl):List (List AV):=l.map fun h=>[h.1.cq,h.2.cq]
theorem dX(l:List Hl):(iq l).length=l.length:=by simp[iq]
theorem lu{l:List Hl}{i:Nat}(hi:i<l.length):(iq l).getD i []=[(l[i]).1.cq,(l[i]).2.cq]:=by simp[iq,aa,hi]
theorem nR(out:List Hl)(a b:Vl):iq out++[[a.cq,b.cq]]=iq (out++[(a,b)]):=by simp[iq]
theorem gu(g:Vl->Vl)(l:List Hl){i:Nat}(hi:i<l.length):iU g (l.drop i)=(g (l[i]).1,(l[i]).2)::iU g (l.drop (i+1)):=by
 rw[aY hi];rfl
theorem fN(g:Vl->Vl)(l:List Hl):(iU g l).length=l.length:=by simp[iU]
theorem BI(a b:AV):cD 2 [[a,b]]:=fun c hc=>by simp at hc;rw[hc];rfl
theorem IZ(x0:AV)(hx0:LK.ptr.has x0)(g:Vl->Vl)(hg:∀c:Vl,aq Tryz.prog 114 [c.cq,.ref 0 0] [.cells [x0]] (dx (g c).cq [.cells [x0]]))(l:List Hl):∀(k i:Nat) (out:List Hl),i+k=l.length->out.length+k<=1000000->l.length<=1000000 ->
 Ej [.sl (iq l),.v (.int .i64 (l.length:Int)),.v (.int .i64 (i:Int))] [.cells [x0],.cells [.any],.vec 2 (iq out)] (iG 1 [] [.cells [x0],.cells [.any],.vec 2 (iq (out++iU g (l.drop i)))])
 |
  0,i,out,hi,ho,hl=>by
  refine IF _ _ _ _ _ ?_
  have:i=l.length:=by omega
  subst this
  simp only[EF,↓zq,zs,af,dX,hx0]
  exact⟨fun h=>by omega,fun _=>by simp[iG,iU]⟩
 |
  k+1,i,out,hi,ho,hl=>by
  have hlt:i<l.length:=by omega
  refine IF _ _ _ _ _ ?_
  simp only[EF,↓zq,zs,af,zt,dX,lu hlt,aN,bB,hx0]
  refine⟨fun _=>⟨by omega,by omega,?_⟩,fun h=>by omega⟩
  refine bi (hg _) ?_
  simp only[↓zq,zs,af,aN,aM,bC,dx,hx0]
  refine⟨⟨BI _ _,by omega⟩,?_⟩
  rw[bA i (by omega)]
  have:=IZ x0 hx0 g hg l k (i+1) (out++[(g (l[i]).1,(l[i]).2)]) (by omega) (by simp;omega) hl
  rw[bb]at this
  rw[gu g l hlt,nR]
  exact this
theorem IY(x0:AV)(hx0:LK.ptr.has x0)(g:Vl->Vl)(hg:∀c:Vl,aq Tryz.prog 114 [c.cq,.ref 0 0] [.cells [x0]] (dx (g c).cq [.cells [x0]]))(l out:List Hl)(hl:out.length+l.length<=1000000) :
 aq Tryz.prog 113 [.sl (iq l),.fn 114 [.ref 0 0],.ref 1 0] [.cells [x0],.cells [.vec 2],.vec 2 (iq out)] (dx .any [.cells [x0],.cells [.vec 2],.vec 2 (iq (out++iU g l))]):=by
 refine Nd _ _ _ ((cb _).mpr trivial) hx0 ?_
 simp only[LO,↓zq,zs,af,dX]
 have h:=IZ x0 hx0 g hg l l.length 0 out (by omega) (by omega) (by omega)
 rw[bo]at h
 refine cw h ?_
 simp[↓zq,zs,af,dx,aM,hx0]
theorem Ic(x0:AV)(hx0:LK.ptr.has x0)(g:Vl->Vl)(hg:∀c:Vl,aq Tryz.prog 115 [c.cq,.ref 0 0] [.cells [x0]] (dx (g c).cq [.cells [x0]]))(l:List Hl):∀(k i:Nat) (out:List Hl),i+k=l.length->out.length+k<=1000000->l.length<=1000000 ->
 E8 [.sl (iq l),.v (.int .i64 (l.length:Int)),.v (.int .i64 (i:Int))] [.cells [x0],.cells [.any],.vec 2 (iq out)] (iG 1 [] [.cells [x0],.cells [.any],.vec 2 (iq (out++iU g (l.drop i)))])
 |
  0,i,out,hi,ho,hl=>by
  refine J4 _ _ _ _ _ ?_
  have:i=l.length:=by omega
  subst this
  simp only[EH,↓zq,zs,af,dX,hx0]
  exact⟨fun h=>by omega,fun _=>by simp[iG,iU]⟩
 |
  k+1,i,out,hi,ho,hl=>by
  have hlt:i<l.length:=by omega
  refine J4 _ _ _ _ _ ?_
  simp only[EH,↓zq,zs,af,zt,dX,lu hlt,aN,bB,hx0]
  refine⟨fun _=>⟨by omega,by omega,?_⟩,fun h=>by omega⟩
  refine bi (hg _) ?_
  simp only[↓zq,zs,af,aN,aM,bC,dx,hx0]
  refine⟨⟨BI _ _,by omega⟩,?_⟩
  rw[bA i (by omega)]
  have:=Ic x0 hx0 g hg l k (i+1) (out++[(g (l[i]).1,(l[i]).2)]) (by omega) (by simp;omega) hl
  rw[bb]at this
  rw[gu g l hlt,nR]
  exact this
theorem On(x0:AV)(hx0:LK.ptr.has x0)(g:Vl->Vl)(hg:∀c:Vl,aq Tryz.prog 115 [c.cq,.ref 0 0] [.cells [x0]] (dx (g c).cq [.cells [x0]]))(l out:List Hl)(hl:out.length+l.length<=1000000) :
 aq Tryz.prog 113 [.sl (iq l),.fn 115 [.ref 0 0],.ref 1 0] [.cells [x0],.cells [.vec 2],.vec 2 (iq out)] (dx .any [.cells [x0],.cells [.vec 2],.vec 2 (iq (out++iU g l))]):=by
 refine MP _ _ _ ((cb _).mpr trivial) hx0 ?_
 simp only[Jl,↓zq,zs,af,dX]
 have h:=Ic x0 hx0 g hg l l.length 0 out (by omega) (by omega) (by omega)
 rw[bo]at h
 refine cw h ?_
 simp[↓zq,zs,af,dx,aM,hx0]
theorem KN(x0:AV)(hx0:LK.ptr.has x0)(g:Vl->Vl)(hg:∀c:Vl,aq Tryz.prog 116 [c.cq,.ref 0 0] [.cells [x0]] (dx (g c).cq [.cells [x0]]))(l:List Hl):∀(k i:Nat) (out:List Hl),i+k=l.length->out.length+k<=1000000->l.length<=1000000 ->
 EE [.sl (iq l),.v (.int .i64 (l.length:Int)),.v (.int .i64 (i:Int))] [.cells [x0],.cells [.any],.vec 2 (iq out)] (iG 1 [] [.cells [x0],.cells [.any],.vec 2 (iq (out++iU g (l.drop i)))])
 |
  0,i,out,hi,ho,hl=>by
  refine KK _ _ _ _ _ ?_
  have:i=l.length:=by omega
  subst this
  simp only[Gw,↓zq,zs,af,dX,hx0]
  exact⟨fun h=>by omega,fun _=>by simp[iG,iU]⟩
 |
  k+1,i,out,hi,ho,hl=>by
  have hlt:i<l.length:=by omega
  refine KK _ _ _ _ _ ?_
  simp only[Gw,↓zq,zs,af,zt,dX,lu hlt,aN,bB,hx0]
  refine⟨fun _=>⟨by omega,by omega,?_⟩,fun h=>by omega⟩
  refine bi (hg _) ?_
  simp only[↓zq,zs,af,aN,aM,bC,dx,hx0]
  refine⟨⟨BI _ _,by omega⟩,?_⟩
  rw[bA i (by omega)]
  have:=KN x0 hx0 g hg l k (i+1) (out++[(g (l[i]).1,(l[i]).2)]) (by omega) (by simp;omega) hl
  rw[bb]at this
  rw[gu g l hlt,nR]
  exact this
theorem Oj(x0:AV)(hx0:LK.ptr.has x0)(g:Vl->Vl)(hg:∀c:Vl,aq Tryz.prog 116 [c.cq,.ref 0 0] [.cells [x0]] (dx (g c).cq [.cells [x0]]))(l out:List Hl)(hl:out.length+l.length<=1000000) :
 aq Tryz.prog 113 [.sl (iq l),.fn 116 [.ref 0 0],.ref 1 0] [.cells [x0],.cells [.vec 2],.vec 2 (iq out)] (dx .any [.cells [x0],.cells [.vec 2],.vec 2 (iq (out++iU g l))]):=by
 refine Oi _ _ _ ((cb _).mpr trivial) hx0 ?_
 simp only[IP,↓zq,zs,af,dX]
 have h:=KN x0 hx0 g hg l l.length 0 out (by omega) (by omega) (by omega)
 rw[bo]at h
 refine cw h ?_
 simp[↓zq,zs,af,dx,aM,hx0]
theorem Jr(g:Vl->Vl)(hg:∀c:Vl,aq Tryz.prog 117 [c.cq] [] (bC (g c).cq))(l:List Hl):∀(k i:Nat) (out:List Hl),i+k=l.length->out.length+k<=1000000->l.length<=1000000 ->
 Fg [.v (.func (.func 117) #[] #[]),.sl (iq l),.v (.int .i64 (l.length:Int)),.v (.int .i64 (i:Int))] [.cells [.any],.vec 2 (iq out)] (iG 1 [] [.cells [.any],.vec 2 (iq (out++iU g (l.drop i)))])
 |
  0,i,out,hi,ho,hl=>by
  refine Iv _ _ _ _ ?_
  have:i=l.length:=by omega
  subst this
  simp only[FZ,↓zq,zs,af,dX]
  exact⟨fun h=>by omega,fun _=>by simp[iG,iU]⟩
 |
  k+1,i,out,hi,ho,hl=>by
  have hlt:i<l.length:=by omega
  refine Iv _ _ _ _ ?_
  simp only[FZ,↓zq,zs,af,zt,dX,lu hlt,aN,bB]
  refine⟨fun _=>⟨by omega,by omega,?_⟩,fun h=>by omega⟩
  refine aj (hg _) ?_
  simp only[↓zq,zs,af,aN,aM,bC,dx]
  refine⟨⟨BI _ _,by omega⟩,?_⟩
  rw[bA i (by omega)]
  have:=Jr g hg l k (i+1) (out++[(g (l[i]).1,(l[i]).2)]) (by omega) (by simp;omega) hl
  rw[bb]at this
  rw[gu g l hlt,nR]
  exact this
theorem NW(g:Vl->Vl)(hg:∀c:Vl,aq Tryz.prog 117 [c.cq] [] (bC (g c).cq))(l out:List Hl)(hl:out.length+l.length<=1000000) :
 aq Tryz.prog 113 [.sl (iq l),.v (.func (.func 117) #[] #[]),.ref 0 0] [.cells [.vec 1],.vec 2 (iq out)] (dx .any [.cells [.vec 1],.vec 2 (iq (out++iU g l))]):=by
 refine OB _ _ ((cb _).mpr trivial) ?_
 simp only[Kh,↓zq,zs,af,dX]
 have h:=Jr g hg l l.length 0 out (by omega) (by omega) (by omega)
 rw[bo]at h
 refine cw h ?_
 simp[↓zq,zs,af,dx,aM]
theorem IL(x0:AV)(x1:AV)(hx0:LK.ptr.has x0)(hx1:LK.ptr.has x1)(g:Vl->Vl)(hg:∀c:Vl,aq Tryz.prog 118 [c.cq,.ref 0 0] [.cells [x0,x1]] (dx (g c).cq [.cells [x0,x1]]))(l:List Hl):∀(k i:Nat) (out:List Hl),i+k=l.length->out.length+k<=1000000->l.length<=1000000 ->
 FV [.sl (iq l),.v (.int .i64 (l.length:Int)),.v (.int .i64 (i:Int))] [.cells [x0,x1],.cells [.any],.vec 2 (iq out)] (iG 1 [] [.cells [x0,x1],.cells [.any],.vec 2 (iq (out++iU g (l.drop i)))])
 |
  0,i,out,hi,ho,hl=>by
  refine J8 _ _ _ _ _ _ ?_
  have:i=l.length:=by omega
  subst this
  simp only[Gu,↓zq,zs,af,dX,hx0,hx1]
  exact⟨fun h=>by omega,fun _=>by simp[iG,iU]⟩
 |
  k+1,i,out,hi,ho,hl=>by
  have hlt:i<l.length:=by omega
  refine J8 _ _ _ _ _ _ ?_
  simp only[Gu,↓zq,zs,af,zt,dX,lu hlt,aN,bB,hx0,hx1]
  refine⟨fun _=>⟨by omega,by omega,?_⟩,fun h=>by omega⟩
  refine bi (hg _) ?_
  simp only[↓zq,zs,af,aN,aM,bC,dx,hx0,hx1]
  refine⟨⟨BI _ _,by omega⟩,?_⟩
  rw[bA i (by omega)]
  have:=IL x0 x1 hx0 hx1 g hg l k (i+1) (out++[(g (l[i]).1,(l[i]).2)]) (by omega) (by simp;omega) hl
  rw[bb]at this
  rw[gu g l hlt,nR]
  exact this
theorem MJ(x0:AV)(x1:AV)(hx0:LK.ptr.has x0)(hx1:LK.ptr.has x1)(g:Vl->Vl)(hg:∀c:Vl,aq Tryz.prog 118 [c.cq,.ref 0 0] [.cells [x0,x1]] (dx (g c).cq [.cells [x0,x1]]))(l out:List Hl)(hl:out.length+l.length<=1000000) :
 aq Tryz.prog 113 [.sl (iq l),.fn 118 [.ref 0 0],.ref 1 0] [.cells [x0,x1],.cells [.vec 2],.vec 2 (iq out)] (dx .any [.cells [x0,x1],.cells [.vec 2],.vec 2 (iq (out++iU g l))]):=by
 refine Ni _ _ _ _ ((cb _).mpr trivial) hx0 hx1 ?_
 simp only[Hr,↓zq,zs,af,dX]
 have h:=IL x0 x1 hx0 hx1 g hg l l.length 0 out (by omega) (by omega) (by omega)
 rw[bo]at h
 refine cw h ?_
 simp[↓zq,zs,af,dx,aM,hx0,hx1]
theorem N1(w c:Vl):aq Tryz.prog 114 [c.cq,.ref 0 0] [.cells [(Vl.l w).cq]] (dx (Vl.l c).cq [.cells [(Vl.l w).cq]]):=by
 refine Ll _ _ ((aN _).mpr trivial) ((aN _).mpr trivial) ?_
 simp only[GD,Vl.cq,↓zq,zs,af,aN]
 refine⟨by omega,?_⟩
 refine aj (zB _ _ ((aN _).mpr trivial)) ?_
 simp[↓zq,zs,af,dx,Vl.cq]
theorem OT(w c:Vl):aq Tryz.prog 114 [c.cq,.ref 0 0] [.cells [(Vl.r w).cq]] (dx (Vl.r c).cq [.cells [(Vl.r w).cq]]):=by
 refine Ll _ _ ((aN _).mpr trivial) ((aN _).mpr trivial) ?_
 simp only[GD,Vl.cq,↓zq,zs,af,aN]
 refine⟨by omega,?_⟩
 refine aj (zB _ _ ((aN _).mpr trivial)) ?_
 simp[↓zq,zs,af,dx,Vl.cq]
theorem M6(x y c:Vl):aq Tryz.prog 115 [c.cq,.ref 0 0] [.cells [(Vl.p x y).cq]] (dx (Vl.l (.p c y)).cq [.cells [(Vl.p x y).cq]]):=by
 refine Pu _ _ ((aN _).mpr trivial) ((aN _).mpr trivial) ?_
 simp only[Hz,Vl.cq,↓zq,zs,af,aN]
 refine⟨by omega,?_⟩
 refine aj (yT _ _ ((aN _).mpr trivial) ((aN _).mpr trivial)) ?_
 simp only[↓zq,zs,af]
 refine aj (zB _ _ ((ci _).mpr trivial)) ?_
 simp[↓zq,zs,af,dx,Vl.cq]
theorem NM(x y c:Vl):aq Tryz.prog 116 [c.cq,.ref 0 0] [.cells [(Vl.p x y).cq]] (dx (Vl.r (.p x c)).cq [.cells [(Vl.p x y).cq]]):=by
 refine Px _ _ ((aN _).mpr trivial) ((aN _).mpr trivial) ?_
 simp only[Im,Vl.cq,↓zq,zs,af,aN]
 refine⟨by omega,?_⟩
 refine aj (yT _ _ ((aN _).mpr trivial) ((aN _).mpr trivial)) ?_
 simp only[↓zq,zs,af]
 refine aj (zB _ _ ((ci _).mpr trivial)) ?_
 simp[↓zq,zs,af,dx,Vl.cq]
theorem Pv(kc kv c:Vl):aq Tryz.prog 118 [c.cq,.ref 0 0] [.cells [kc.cq,kv.cq]] (dx (Vl.f (.r (.p kc c))).cq [.cells [kc.cq,kv.cq]]):=by
 refine NQ _ _ _ ((aN _).mpr trivial) ((aN _).mpr trivial) ((aN _).mpr trivial) ?_
 simp only[Ma,Vl.cq,↓zq,zs,af,aN]
 refine aj (yT _ _ ((aN _).mpr trivial) ((aN _).mpr trivial)) ?_
 simp only[↓zq,zs,af]
 refine aj (zB _ _ ((ci _).mpr trivial)) ?_
 simp only[↓zq,zs,af]
 refine aj (zB _ _ ((ci _).mpr trivial)) ?_
 simp[↓zq,zs,af,dx,Vl.cq,aN]
theorem Nk(c:Vl):aq Tryz.prog 117 [c.cq] [] (bC (Vl.f (.l c)).cq):=by
 refine O3 _ ((aN _).mpr trivial) ?_
 simp only[KF,↓zq,zs,af]
 refine aj (zB _ _ ((aN _).mpr trivial)) ?_
 simp only[↓zq,zs,af]
 refine aj (zB _ _ ((ci _).mpr trivial)) ?_
 simp[↓zq,zs,af,bC,Vl.cq]
end Go.Proofs.Trees
namespace Go.Proofs.Trees
open Go Go.VL Go.RowKit
abbrev zz(a:Ty)(tg:Tg):Hl->List Hl:=fun h=>iU (fun c=>.f (.r (.p h.1 c))) (bP (.rc a) tg h.2)
theorem z8(l:List Hl){i:Nat}(hi:i<l.length):l[i]∈l:=bN _
def Hd(t:Ty)(ea:AV)(s:List UInt8)(fr:AV)(tg:Tg)(v:Vl):Prop:=aq Tryz.prog 61 [.agg [t.av,ea],v.cq,.agg [.v (.string (mk s)),fr]] [] (bC (.sl (iq (bP t tg v))))
theorem HC(a:Ty)(ea:AV)(s:List UInt8)(fr:AV)(tg:Tg)(he:LK.ptr.has ea)(hf:LK.ptr.has fr)(l:List Hl)(hl:l.length<=1000000)(ih:∀h,h∈l->Hd (.rc a) ea s fr tg h.2) :
 ∀(k i:Nat) (out:List Hl),i+k=l.length->(out++(l.drop i).flatMap (zz a tg)).length<=1000000 ->
 Ed [.sl (iq l),.v (.int .i64 (l.length:Int)),.v (.int .i64 (i:Int))] [.cells [(Ty.rc a).av,ea],.cells [.v (.string (mk s)),fr],.cells [.any],.vec 2 (iq out)] (iG 1 [] [.cells [.any],.vec 2 (iq (out++(l.drop i).flatMap (zz a tg)))])
 |
  0,i,out,hi,ho=>by
  refine Jq _ _ _ _ _ _ _ _ ?_
  have:i=l.length:=by omega
  subst this
  simp only[E0,↓zq,zs,af,dX,aG,he,hf]
  exact⟨fun h=>by omega,fun _=>by simp[iG]⟩
 |
  k+1,i,out,hi,ho=>by
  have hlt:i<l.length:=by omega
  have hd:(l.drop i).flatMap (zz a tg)=zz a tg (l[i])++(l.drop (i+1)).flatMap (zz a tg):=by rw[aY hlt,List.flatMap_cons]
  rw[hd]at ho |-
  refine Jq _ _ _ _ _ _ _ _ ?_
  simp only[E0,↓zq,zs,af,zt,dX,lu hlt,aG,aN,bB,he,hf]
  refine⟨fun _=>⟨by omega,by omega,?_⟩,fun h=>by omega⟩
  refine aj (ih _ (z8 l hlt)) ?_
  simp only[↓zq,zs,af]
  have hb:out.length+(bP (.rc a) tg (l[i]).2).length<=1000000:=by
   simp only[an,fN]at ho;omega
  refine bi (MJ _ _ ((aN _).mpr trivial) ((aN _).mpr trivial) (fun c=>.f (.r (.p (l[i]).1 c))) (fun c=>Pv (l[i]).1 (l[i]).2 c) (bP (.rc a) tg (l[i]).2) out hb) ?_
  simp only[↓zq,zs,af,aM,aN]
  rw[bA i (by omega),<-bb]
  exact HC a ea s fr tg he hf l hl ih k (i+1) _ (by omega) (by rw[bb];exact ho)
theorem Eb(n:Nat):∀(m:Nat) (v:Vl),v.nodes<=m->∀(e:E) (env:List Fr) (t:Ty),Ask e env t->fq n v (e,env)=true->env.length+v.nodes<100000->∀(ea:AV) (ids:List Nat),lL ea ids->ids.length=env.length->∀(tg:Tg) (s:List UInt8) (fr:AV),zG tg ids s fr->Hd t ea s fr tg v
 |0,v,hm=>by have:=dj v;omega
 |
  m+1,v,hm=>by
  intro e env t A hv hl ea ids he hids tg s fr ht
  unfold Hd
  refine Of _ _ _ _ _ ((aG _).mpr trivial) he.has ((aN _).mpr trivial) ht.has ?_
  unfold Iy
  refine aj (OO t tg ea ids s fr he ht (fun u hu=>by
   rcases jo A.wf A.ty with⟨hb,_⟩|⟨u',g,rfl,_,hg⟩
   ·rw[hu]at hb;cases hb
   ·cases hu;rw[hids];exact(List.getElem?_eq_some_iff.1 hg).1) (by omega)) ?_
  have hlen:=mR t tg v
  cases hat:eF t tg with
  |
   true =>
   rw[mD v hat]
   simp only[↓zq,zs,af,bC,iq,bI,List.map_nil,Vl.cq]
   exact⟨fun _=>trivial,fun h=>(by cases h)⟩
  |false =>
  simp only[↓zq,zs,af]
  refine⟨fun h=>(by cases h),fun _=>?_⟩
  rcases jo A.wf A.ty with⟨hb,hq⟩|⟨u,g,rfl,hq,hu⟩
  ·have hhd:hd e env=(e,env):=ko hq
   rcases gZ A.ty hb A.cl with⟨rfl,rfl⟩|⟨rfl,rfl⟩|⟨s,rfl,rfl,hp,h0,h1⟩|⟨x,a,b,t1,t2,rfl,hx,rfl,ha,hbb⟩|⟨x,a,b,t1,t2,rfl,hx,rfl,ha,hbb⟩|⟨x,a,b,t1,rfl,hx,rfl⟩
   ·rw[dS hat (by cases v<;>rfl)]
    simp[Ty.av,↓zq,zs,af,bC,iq]
   ·rw[dS hat (by cases v<;>rfl)]
    simp[Ty.av,↓zq,zs,af,bC,iq]
   ·rw[dS hat (by cases v<;>rfl)]
    simp[Ty.av,↓zq,zs,af,bC,iq]
   ·obtain⟨ok1,ok2,ok3,_⟩:=A.ok
    obtain⟨f1,f2⟩:=fm A.cl
    have hL:=zl t1.av t2.av ea 43 (mk []) 0 ((aG _).mpr trivial) he.has
    have hR:=yR t1.av t2.av ea 43 (mk []) 0 ((aG _).mpr trivial) he.has
    cases v with
    |
     l w =>
     simp only[fq,hhd,hx,beq_self_eq_true,bL]at hv
     simp only[Vl.nodes]at hm hl hlen
     rw[mP]at hlen |-
     rw[fN]at hlen
     simp only[Ty.av,↓zq,zs,af]
     refine⟨by omega,fun _=>?_,fun h=>absurd rfl h⟩
     refine aj hL ?_
     simp only[↓zq,zs,af,bB,aG,he.has,Vl.cq,aN]
     refine⟨by omega,fun h=>by omega,fun _=>⟨by omega,?_⟩⟩
     refine aj (Eb n m w (by omega) a env t1 ⟨ok2,A.wf,ha,f1⟩ hv (by omega) ea ids he hids tg s fr ht) ?_
     simp only[↓zq,zs,af]
     have hadd:=IY (Vl.l w).cq ((aN _).mpr trivial) Vl.l (fun c=>N1 w c) (bP t1 tg w) [] (by simp;omega)
     simp only[Vl.cq,iq,List.map_nil,aT]at hadd
     refine bi hadd ?_
     simp[↓zq,zs,af,aM,bC,aN,iq,ci]
    |
     r w =>
     simp only[fq,hhd,hx,beq_self_eq_true,bL]at hv
     simp only[Vl.nodes]at hm hl hlen
     rw[mV]at hlen |-
     rw[fN]at hlen
     simp only[Ty.av,↓zq,zs,af]
     refine⟨by omega,fun _=>?_,fun h=>absurd rfl h⟩
     refine aj hL ?_
     simp only[↓zq,zs,af,bB,aG,he.has,Vl.cq,aN]
     refine⟨by omega,fun _=>?_,fun h=>absurd rfl h⟩
     refine aj hR ?_
     simp only[↓zq,zs,af,bB,aG,he.has,aN]
     refine⟨by omega,?_⟩
     refine aj (Eb n m w (by omega) b env t2 ⟨ok3,A.wf,hbb,f2⟩ hv (by omega) ea ids he hids tg s fr ht) ?_
     simp only[↓zq,zs,af]
     have hadd:=IY (Vl.r w).cq ((aN _).mpr trivial) Vl.r (fun c=>OT w c) (bP t2 tg w) [] (by simp;omega)
     simp only[Vl.cq,iq,List.map_nil,aT]at hadd
     refine bi hadd ?_
     simp[↓zq,zs,af,aM,bC,aN,iq,ci]
    |_=>simp[fq,hhd,hx]at hv
   ·obtain⟨ok1,ok2,ok3,_⟩:=A.ok
    obtain⟨f1,f2⟩:=eV A.cl
    have hL:=zl t1.av t2.av ea 42 (mk []) 0 ((aG _).mpr trivial) he.has
    have hR:=yR t1.av t2.av ea 42 (mk []) 0 ((aG _).mpr trivial) he.has
    cases v with
    |
     p w w' =>
     simp only[fq,hhd,hx,beq_self_eq_true,bL,au]at hv
     simp only[Vl.nodes]at hm hl hlen
     rw[mU]at hlen |-
     simp only[an,fN]at hlen
     simp only[Ty.av,↓zq,zs,af]
     refine⟨by omega,fun h=>by omega,fun _=>⟨fun _=>?_,fun h=>absurd rfl h⟩⟩
     refine aj hL ?_
     simp only[↓zq,zs,af,bB,aG,he.has,Vl.cq,aN]
     refine⟨by omega,?_⟩
     refine aj (Eb n m w (by omega) a env t1 ⟨ok2,A.wf,ha,f1⟩ hv.1 (by omega) ea ids he hids tg s fr ht) ?_
     simp only[↓zq,zs,af]
     have hadd:=On (Vl.p w w').cq ((aN _).mpr trivial) (fun c=>.l (.p c w')) (fun c=>M6 w w' c) (bP t1 tg w) [] (by simp;omega)
     simp only[Vl.cq,iq,List.map_nil,aT]at hadd
     refine bi hadd ?_
     simp only[↓zq,zs,af,aM,aN]
     refine aj hR ?_
     simp only[↓zq,zs,af,bB,aG,he.has,aN]
     refine⟨by omega,?_⟩
     refine aj (Eb n m w' (by omega) b env t2 ⟨ok3,A.wf,hbb,f2⟩ hv.2 (by omega) ea ids he hids tg s fr ht) ?_
     simp only[↓zq,zs,af]
     have hadd2:=Oj (Vl.p w w').cq ((aN _).mpr trivial) (fun c=>.r (.p w c)) (fun c=>NM w w' c) (bP t2 tg w') (iU (fun c=>.l (.p c w')) (bP t1 tg w)) (by rw[fN];omega)
     simp only[Vl.cq,iq]at hadd2
     refine bi hadd2 ?_
     simp[↓zq,zs,af,aM,bC,aN,iq,ci]
    |_=>simp[fq,hhd,hx]at hv
   ·obtain⟨t1',he1,h1,f1,hw1⟩:=jq A.wf A.ok hx A.ty A.cl
    cases he1
    obtain⟨ok1,ok2,ok3,_⟩:=A.ok
    have A':Ask b (.mk a.at (.list [x,a,b]) env::env) t1:=⟨ok3,hw1,h1,f1⟩
    cases v with
    |
     f w =>
     simp only[fq,hhd,hx,beq_self_eq_true,bL]at hv
     simp only[Vl.nodes]at hm hl hlen
     rw[mO]at hlen |-
     simp only[an,fN]at hlen
     have hin:=Ka t1 ea ids he
     simp only[Ty.av]at hin
     simp only[Ty.av,↓zq,zs,af]
     refine⟨by omega,fun h=>by omega,fun _=>⟨fun h=>by omega,fun _=>⟨fun _=>?_,fun h=>absurd rfl h⟩⟩⟩
     refine aP hin (by have:=Ck.ne t1 ea ids;simpa only[Ck,Ty.av]using this) ?_
     intro r o hr
     obtain⟨⟨mm,hmm,rfl⟩,rfl⟩:=hr
     have he2:lL (.ptr [.pid mm [(Ty.rc t1).av,ea],ea]) (mm::ids):=.cons hmm he
     have hfr:LK.ptr.has (.pid mm [(Ty.rc t1).av,ea]):=.inr (.inr ⟨_,_,rfl⟩)
     simp only[Ty.av]at he2 hfr
     simp only[↓zq,zs,af,bB,aG,he2.has,hfr,Vl.cq,aN,Ty.av]
     refine⟨by omega,?_⟩
     have i1:=Eb n m w (by omega) b _ t1 A' hv (by simp;omega) _ _ he2 (by simp[hids]) tg.up s fr (ht.push mm)
     unfold Hd at i1
     refine aj i1 ?_
     simp only[↓zq,zs,af]
     have hadd:=NW (fun c=>.f (.l c)) (fun c=>Nk c) (bP t1 tg.up w) [] (by simp;omega)
     simp only[Vl.cq,iq,List.map_nil,aT]at hadd
     refine bi hadd ?_
     simp only[↓zq,zs,af,aM,aN]
     have i2:=Eb n m w (by omega) b _ t1 A' hv (by simp;omega) _ _ he2 (by simp[hids]) (.bd 0) [] _ (by have:=zG.bd (k:=0) (ids:=mm::ids) (by simp) [(Ty.rc t1).av,ea] [];simpa only[bp,Ty.av]using this)
     unfold Hd at i2
     refine⟨by omega,?_⟩
     refine aj i2 ?_
     simp only[↓zq,zs,af,dX]
     have hl2:=mR t1 (.bd 0) w
     have ih3:∀h,h∈bP t1 (.bd 0) w->Hd (.rc t1) ea s fr tg h.2:=fun h hh=>by
      have h3:=(jt hh).1
      have h4:=ib n m w (by omega) b _ t1 A' hv 0 _ rfl h hh
      exact Eb n m h.2 (by omega) (.list [x,a,b]) env (.rc t1) A h4 (by omega) ea ids he hids tg s fr ht
     have hloop:=HC t1 ea s fr tg he.has ht.has (bP t1 (.bd 0) w) (by omega) ih3 (bP t1 (.bd 0) w).length 0 (iU (fun c=>.f (.l c)) (bP t1 tg.up w)) (by omega) (by
      simp only[bo,an,fN]
      have hlen2:(bP t1 tg.up w).length+((bP t1 (.bd 0) w).flatMap (zz t1 tg)).length<=1+w.nodes:=hlen
      omega)
     simp only[Ty.av,iq,bo]at hloop
     refine cw hloop ?_
     simp[↓zq,zs,af,af,bC,iq]
    |_=>simp[fq,hhd,hx]at hv
  ·rw[dS hat (by cases v<;>rfl)]
   simp[Ty.av,↓zq,zs,af,bC,iq]
end Go.Proofs.Trees
namespace Go.Proofs.Trees
open Go Go.VL Go.RowKit
theorem D9:∀(v:Vl),v.dN.length<=900000->aq Tryz.prog 93 [v.cq] [] (bC (.v (.string (mk v.dN))))
 | .u,h=>by refine y0 _ ((aN _).mpr trivial) ?_;simp[vE,Vl.cq,↓zq,zs,af,bC,Vl.dN,Vl.cB,eT]
 | .el k,h=>by refine y0 _ ((aN _).mpr trivial) ?_;simp[vE,Vl.cq,↓zq,zs,af,bC,Vl.dN,Vl.cB,eT]
 |
  .l v,h=>by
  simp only[Vl.dN,Vl.cB,eT,ei,aw,an,aF]at h
  refine y0 _ ((aN _).mpr trivial) ?_
  have hb:(⟨(bytesOf [[.v (.int .u8 108)]]).toArray⟩:ByteArray)=mk [108]:=rfl
  have ha:jy [[.v (.int .u8 108)]]:=kS 108
  simp only[vE,Vl.cq,↓zq,zs,af,aN,eZ,hb]
  refine⟨by omega,fun h=>by omega,fun _=>⟨fun h=>by omega,fun _=>⟨fun h=>by omega,fun _=>⟨by omega,ha,by simp[cz],by rw[kU,cz,cz];simp,by omega,?_⟩⟩⟩⟩
  refine aj (D9 v (by simp only[Vl.dN];omega)) ?_
  simp only[↓zq,zs,af,zt,bC,Vl.dN,Vl.cB,eT,ei]
  refine⟨by simp;omega,by simp;omega,by simp⟩
 |
  .r v,h=>by
  simp only[Vl.dN,Vl.cB,eT,ei,aw,an,aF]at h
  refine y0 _ ((aN _).mpr trivial) ?_
  have hb:(⟨(bytesOf [[.v (.int .u8 114)]]).toArray⟩:ByteArray)=mk [114]:=rfl
  have ha:jy [[.v (.int .u8 114)]]:=kS 114
  simp only[vE,Vl.cq,↓zq,zs,af,aN,eZ,hb]
  refine⟨by omega,fun h=>by omega,fun _=>⟨fun h=>by omega,fun _=>⟨fun h=>by omega,fun _=>⟨by omega,ha,by simp[cz],by rw[kU,cz,cz];simp,by omega,?_⟩⟩⟩⟩
  refine aj (D9 v (by simp only[Vl.dN];omega)) ?_
  simp only[↓zq,zs,af,zt,bC,Vl.dN,Vl.cB,eT,ei]
  refine⟨by simp;omega,by simp;omega,by simp⟩
 |
  .f v,h=>by
  simp only[Vl.dN,Vl.cB,eT,ei,aw,an,aF]at h
  refine y0 _ ((aN _).mpr trivial) ?_
  have hb:(⟨(bytesOf [[.v (.int .u8 102)]]).toArray⟩:ByteArray)=mk [102]:=rfl
  have ha:jy [[.v (.int .u8 102)]]:=kS 102
  simp only[vE,Vl.cq,↓zq,zs,af,aN,eZ,hb]
  refine⟨by omega,fun h=>by omega,fun _=>⟨fun h=>by omega,fun _=>⟨fun h=>by omega,fun _=>⟨by omega,ha,by simp[cz],by rw[kU,cz,cz];simp,by omega,?_⟩⟩⟩⟩
  refine aj (D9 v (by simp only[Vl.dN];omega)) ?_
  simp only[↓zq,zs,af,zt,bC,Vl.dN,Vl.cB,eT,ei]
  refine⟨by simp;omega,by simp;omega,by simp⟩
 |
  .p a b,h=>by
  simp only[Vl.dN,Vl.cB,eT,ei,aw,an,aF]at h
  refine y0 _ ((aN _).mpr trivial) ?_
  simp only[vE,Vl.cq,↓zq,zs,af,aN,eZ]
  refine⟨by omega,fun h=>by omega,fun _=>⟨fun h=>by omega,fun _=>⟨fun _=>⟨by omega,?_⟩,fun h=>absurd rfl h⟩⟩⟩
  refine aj (D9 a (by simp only[Vl.dN];omega)) ?_
  simp only[↓zq,zs,af,zt,aN,Vl.dN]
  refine⟨by simp;omega,by simp;omega,by omega,?_⟩
  refine aj (D9 b (by simp only[Vl.dN];omega)) ?_
  simp only[↓zq,zs,af,zt,bC,Vl.dN,Vl.cB,eT,ei]
  refine⟨by simp;omega,by simp;omega,by simp⟩
def j4:Option (List UInt8)->AV
 |some s=>.cG [.v (.string (mk s)),.v (.bool true)]
 |none=>.cG [.v (.string (mk [])),.v (.bool false)]
theorem My(v:Vl)(hb:v.iB 100)(hn:v.nodes<100000):aq Tryz.prog 43 [v.cq] [] (bC (j4 (if v.nodes<=200 then some v.dN else none))):=by
 refine Nz _ ((aN _).mpr trivial) ?_
 unfold IJ
 refine aj (Eg v (by omega)) ?_
 simp only[↓zq,zs,af,bC]
 refine⟨fun h=>?_,fun h=>?_⟩
 ·rw[if_neg (by omega)];rfl
 ·have:=ii v hb
  refine aj (D9 v (by omega)) ?_
  rw[if_pos (by omega)]
  simp only[↓zq,zs,af,j4]
end Go.Proofs.Trees
namespace Go.Proofs.Trees
open Go Go.VL Go.RowKit
def back(n:Nat):Ty->Nat->Vl
 | .name _,c=>.el c
 | .plus a b,c=>match Hh n a with|some x=>if c<x then .l (back n a c)else .r (back n b (c-x))|none=>.u
 | .times a b,c=>match Hh n b with|some y=>.p (back n a (c/y)) (back n b (c%y))|none=>.u
 |_,_=>.u
theorem xY:∀l:List E,cD 2 (E.bj l)
 |[]=>fun c hc=>by cases hc
 |
  e::l=>fun c hc=>by
  simp only[E.bj,aI]at hc
  rcases hc with rfl|hc
  ·exact gj e
  ·exact xY l c hc
theorem Jy(w:List UInt8)(l:List E)(hl:l.length<1000000):aq Tryz.prog 69 [.v (.string (mk w)),.sl (E.bj l)] [] (bC (E.kC (.list (.atom w::l)))):=by
 refine LB _ _ ((cb _).mpr trivial) ?_
 simp only[Gy,↓zq,zs,af,eg,bC,E.kC,E.iw,E.bj]
 exact⟨⟨xY l,by omega⟩,rfl⟩
end Go.Proofs.Trees
namespace Go.Proofs.Trees
open Go Go.VL Go.RowKit
def lZ(l:List Hl):List (List AV):=l.map fun h=>[.v (.string (mk h.1.cB.at)),h.1.cB.sp,.v (.string (mk h.2.cB.at)),h.2.cB.sp]
theorem fw(l:List Hl):(lZ l).length=l.length:=by simp[lZ]
theorem gz{l:List Hl}{i:Nat}(hi:i<l.length):(lZ l).getD i []=[.v (.string (mk (l[i]).1.cB.at)),(l[i]).1.cB.sp,.v (.string (mk (l[i]).2.cB.at)),(l[i]).2.cB.sp]:=by simp[lZ,aa,hi]
theorem nN(out:List Hl)(a b:Vl):lZ out++[[.v (.string (mk a.cB.at)),a.cB.sp,.v (.string (mk b.cB.at)),b.cB.sp]]=lZ (out++[(a,b)]):=by simp[lZ]
theorem yw(a b c d:AV):cD 4 [[a,b,c,d]]:=fun x hx=>by simp at hx;rw[hx];rfl
theorem aL(s:ByteArray)(e:E):bB [.str,.sl] [.v (.string s),e.sp] 0=True:=by simp[bB,dq,aV]
theorem kT(s:ByteArray)(e:E)(x y:AV):bB [.str,.sl] [.v (.string s),e.sp,x,y] 0=True:=by simp[bB,dq,aV]
theorem yn(w:List UInt8)(e:E):aq Tryz.prog 69 [.v (.string (mk w)),.sl [[.v (.string (mk e.at)),e.sp]]] [] (bC (.agg [.v (.string (mk [])),(E.list [.atom w,e]).sp])):=by
 have:=Jy w [e] (by simp)
 simpa only[E.bj,fJ,dz,E.at]using this
theorem vW(w:List UInt8)(e e':E):aq Tryz.prog 69 [.v (.string (mk w)),.sl [[.v (.string (mk e.at)),e.sp],[.v (.string (mk e'.at)),e'.sp]]] [] (bC (.agg [.v (.string (mk [])),(E.list [.atom w,e,e']).sp])):=by
 have:=Jy w [e,e'] (by simp)
 simpa only[E.bj,fJ,dz,E.at]using this
def P3(pv:AV)(a b:E):Prop:=LK.sl.has pv/\pv.aR.length=3/\pv.aR.getD 1 []=[.v (.string (mk a.at)),a.sp]/\pv.aR.getD 2 []=[.v (.string (mk b.at)),b.sp]
theorem P3.of(x a b:E):P3 (E.list [x,a,b]).sp a b:=⟨by simp[E.sp,cb],by simp[E.sp,E.bj,fF],by simp[E.sp,E.bj,fF,fJ],by simp[E.sp,E.bj,fF,fJ]⟩
def P2(pv:AV)(a:E):Prop:=LK.sl.has pv/\pv.aR.length=2/\pv.aR.getD 1 []=[.v (.string (mk a.at)),a.sp]
theorem P2.of(x a:E):P2 (E.list [x,a]).sp a:=⟨by simp[E.sp,cb],by simp[E.sp,E.bj,fF],by simp[E.sp,E.bj,fF,fJ]⟩
theorem Ki(w:List UInt8)(g:Vl->Vl)(hg:∀c,(g c).cB=.list [.atom w,c.cB])(l:List Hl)(hl:l.length<=1000000):∀(k i:Nat) (out:List Hl),i+k=l.length->out.length+k<=1000000 ->
 E3 [.sl (lZ l),.v (.string (mk w)),.v (.int .i64 (i:Int))] [.vec 4 (lZ out)] (iG 1 [] [.vec 4 (lZ (out++iU g (l.drop i)))])
 |
  0,i,out,hi,ho=>by
  refine H5 _ _ _ _ ?_
  have:i=l.length:=by omega
  subst this
  simp only[Fa,↓zq,zs,af,fw]
  exact⟨fun h=>by omega,fun _=>by simp[iG,iU]⟩
 |
  k+1,i,out,hi,ho=>by
  have hlt:i<l.length:=by omega
  refine H5 _ _ _ _ ?_
  simp only[Fa,↓zq,zs,af,zt,fw,gz hlt,kT,aL]
  refine⟨fun _=>?_,fun h=>by omega⟩
  repeat refine⟨by omega,?_⟩
  refine aj (yn _ _) ?_
  simp only[↓zq,zs,af,aL]
  repeat refine⟨by omega,?_⟩
  refine⟨⟨yw _ _ _ _,by omega⟩,?_⟩
  rw[bA i (by omega)]
  have:=Ki w g hg l hl k (i+1) (out++[(g (l[i]).1,(l[i]).2)]) (by omega) (by simp;omega)
  rw[bb,<-nN,hg]at this
  rw[gu g l hlt]
  exact this
theorem KV(w:List UInt8)(g:Vl->Vl)(hg:∀c,(g c).cB=.list [.atom w,c.cB])(l out:List Hl)(hl:out.length+l.length<=1000000) :
 aq Tryz.prog 150 [.sl (lZ l),.v (.string (mk w)),.vec 0] [.vec 4 (lZ out)] (dx (.vec 1) [.dead,.vec 4 (lZ (out++iU g l))]):=by
 refine Po _ _ _ ((cb _).mpr trivial) ?_
 simp only[LQ,↓zq,zs,af]
 have h:=Ki w g hg l (by omega) l.length 0 out (by omega) (by omega)
 rw[bo]at h
 refine cw h ?_
 simp[↓zq,zs,af,dx]
theorem Ip(s:List UInt8)(ta:ByteArray)(tp:AV)(ht:LK.sl.has tp)(va:ByteArray)(vp:AV)(x y:Vl)(hp:P3 vp x.cB y.cB)(l:List Hl)(hl:l.length<=1000000):∀(k i:Nat) (out:List Hl),i+k=l.length->out.length+k<=1000000 ->
 F0 [.v (.string (mk s)),.sl (lZ l),.v (.int .i64 (i:Int))] [.cells [.v (.string ta),tp],.cells [.v (.string va),vp],.vec 4 (lZ out)] (iG 1 [.v (.string (mk s))] [.cells [.v (.string ta),tp],.cells [.v (.string va),vp],.vec 4 (lZ (out++iU (fun c=>Vl.l (.p c y)) (l.drop i)))])
 |
  0,i,out,hi,ho=>by
  refine KZ _ _ _ _ _ _ _ _ ?_
  have:i=l.length:=by omega
  subst this
  simp only[GQ,↓zq,zs,af,fw,ht,aV,af,hp.1]
  exact⟨fun h=>by omega,fun _=>by simp[iG,iU]⟩
 |
  k+1,i,out,hi,ho=>by
  have hlt:i<l.length:=by omega
  refine KZ _ _ _ _ _ _ _ _ ?_
  simp only[GQ,↓zq,zs,af,zt,fw,gz hlt,kT,aL,gz,ht,aV,af,hp.1,toNat_one,be,hp.1,hp.2.1,hp.2.2.1,hp.2.2.2]
  refine⟨fun _=>?_,fun h=>by omega⟩
  repeat refine⟨by omega,?_⟩
  refine aj (vW _ _ _) ?_
  simp only[↓zq,zs,af,aL]
  repeat refine⟨by omega,?_⟩
  refine aj (yn [108] (E.list [.atom [112],(l[i]).1.cB,y.cB])) ?_
  simp only[↓zq,zs,af,aL]
  repeat refine⟨by omega,?_⟩
  refine⟨⟨yw _ _ _ _,by omega⟩,?_⟩
  rw[bA i (by omega)]
  have:=Ip s ta tp ht va vp x y hp l hl k (i+1) (out++[((fun c=>Vl.l (.p c y)) (l[i]).1,(l[i]).2)]) (by omega) (by simp;omega)
  rw[bb,<-nN]at this
  rw[gu (fun c=>Vl.l (.p c y)) l hlt]
  exact this
theorem IM(va:ByteArray)(vp:AV)(x y:Vl)(hp:P3 vp x.cB y.cB)(l:List Hl)(hl:l.length<=1000000):∀(k i:Nat) (out:List Hl),i+k=l.length->out.length+k<=1000000 ->
 E6 [.sl (lZ l),.v (.int .i64 (i:Int))] [.cells [.v (.string va),vp],.vec 4 (lZ out)] (iG 1 [] [.vec 4 (lZ (out++iU (fun c=>Vl.r (.p x c)) (l.drop i)))])
 |
  0,i,out,hi,ho=>by
  refine Jo _ _ _ _ _ ?_
  have:i=l.length:=by omega
  subst this
  simp only[Gh,↓zq,zs,af,fw,aV,af,hp.1]
  exact⟨fun h=>by omega,fun _=>by simp[iG,iU]⟩
 |
  k+1,i,out,hi,ho=>by
  have hlt:i<l.length:=by omega
  refine Jo _ _ _ _ _ ?_
  simp only[Gh,↓zq,zs,af,zt,fw,gz hlt,kT,aL,gz,aV,af,hp.1,toNat_one,be,hp.1,hp.2.1,hp.2.2.1,hp.2.2.2]
  refine⟨fun _=>?_,fun h=>by omega⟩
  repeat refine⟨by omega,?_⟩
  refine aj (vW _ _ _) ?_
  simp only[↓zq,zs,af,aL]
  repeat refine⟨by omega,?_⟩
  refine aj (yn [114] (E.list [.atom [112],x.cB,(l[i]).1.cB])) ?_
  simp only[↓zq,zs,af,aL]
  repeat refine⟨by omega,?_⟩
  refine⟨⟨yw _ _ _ _,by omega⟩,?_⟩
  rw[bA i (by omega)]
  have:=IM va vp x y hp l hl k (i+1) (out++[((fun c=>Vl.r (.p x c)) (l[i]).1,(l[i]).2)]) (by omega) (by simp;omega)
  rw[bb,<-nN]at this
  rw[gu (fun c=>Vl.r (.p x c)) l hlt]
  exact this
theorem LS(s s2:List UInt8)(ta:ByteArray)(tp:AV)(ht:LK.sl.has tp)(va:ByteArray)(vp:AV)(hp:LK.sl.has vp)(l:List Hl)(hl:l.length<=1000000):∀(k i:Nat) (out:List Hl),i+k=l.length->out.length+k<=1000000 ->
 Fx [.v (.string (mk s)),.v (.string (mk s2)),.sl (lZ l),.v (.int .i64 (i:Int))] [.cells [.v (.string ta),tp],.cells [.v (.string va),vp],.vec 4 (lZ out)] (iG 1 [.v (.string (mk s)),.v (.string (mk s2))] [.cells [.v (.string ta),tp],.cells [.v (.string va),vp],.vec 4 (lZ (out++iU (fun c=>Vl.f (.l c)) (l.drop i)))])
 |
  0,i,out,hi,ho=>by
  refine IT _ _ _ _ _ _ _ _ _ ?_
  have:i=l.length:=by omega
  subst this
  simp only[F2,↓zq,zs,af,fw,ht,aV,af,hp]
  exact⟨fun h=>by omega,fun _=>by simp[iG,iU]⟩
 |
  k+1,i,out,hi,ho=>by
  have hlt:i<l.length:=by omega
  refine IT _ _ _ _ _ _ _ _ _ ?_
  simp only[F2,↓zq,zs,af,zt,fw,gz hlt,kT,aL,gz,ht,aV,af,hp]
  refine⟨fun _=>?_,fun h=>by omega⟩
  repeat refine⟨by omega,?_⟩
  refine aj (yn _ _) ?_
  simp only[↓zq,zs,af,aL]
  repeat refine⟨by omega,?_⟩
  refine aj (yn [102] (E.list [.atom [108],(l[i]).1.cB])) ?_
  simp only[↓zq,zs,af,aL]
  repeat refine⟨by omega,?_⟩
  refine⟨⟨yw _ _ _ _,by omega⟩,?_⟩
  rw[bA i (by omega)]
  have:=LS s s2 ta tp ht va vp hp l hl k (i+1) (out++[((fun c=>Vl.f (.l c)) (l[i]).1,(l[i]).2)]) (by omega) (by simp;omega)
  rw[bb,<-nN]at this
  rw[gu (fun c=>Vl.f (.l c)) l hlt]
  exact this
theorem LD(s:List UInt8)(L:AV)(q:Nat)(kc:Vl)(kv:Vl)(hL:LK.sl.has L)(hq:q<L.aR.length)(hg:L.aR.getD q []=[.v (.string (mk kc.cB.at)),kc.cB.sp,.v (.string (mk kv.cB.at)),kv.cB.sp])(ta:ByteArray)(tp:AV)(ht:LK.sl.has tp)(l:List Hl)(hl:l.length<=1000000):∀(k i:Nat) (out:List Hl),i+k=l.length->out.length+k<=1000000 ->
 Fy [.v (.string (mk s)),L,.v (.int .i64 (q:Int)),.sl (lZ l),.v (.int .i64 (i:Int))] [.cells [.v (.string ta),tp],.vec 4 (lZ out)] (iG 1 [.v (.string (mk s)),L,.v (.int .i64 (q:Int))] [.cells [.v (.string ta),tp],.vec 4 (lZ (out++iU (fun c=>Vl.f (.r (.p kc c))) (l.drop i)))])
 |
  0,i,out,hi,ho=>by
  refine Lz _ _ _ _ _ _ _ _ ?_
  have:i=l.length:=by omega
  subst this
  simp only[FQ,↓zq,zs,af,fw,ht,aV,af,hL]
  exact⟨fun h=>by omega,fun _=>by simp[iG,iU]⟩
 |
  k+1,i,out,hi,ho=>by
  have hlt:i<l.length:=by omega
  refine Lz _ _ _ _ _ _ _ _ ?_
  simp only[FQ,↓zq,zs,af,zt,fw,gz hlt,kT,aL,gz,ht,aV,af,hL,hg]
  refine⟨fun _=>?_,fun h=>by omega⟩
  repeat refine⟨by omega,?_⟩
  refine aj (vW _ _ _) ?_
  simp only[↓zq,zs,af,aL]
  repeat refine⟨by omega,?_⟩
  refine aj (yn [114] (E.list [.atom [112],kc.cB,(l[i]).1.cB])) ?_
  simp only[↓zq,zs,af,aL]
  repeat refine⟨by omega,?_⟩
  refine aj (yn [102] (E.list [.atom [114],E.list [.atom [112],kc.cB,(l[i]).1.cB]])) ?_
  simp only[↓zq,zs,af,aL]
  repeat refine⟨by omega,?_⟩
  refine⟨⟨yw _ _ _ _,by omega⟩,?_⟩
  rw[bA i (by omega)]
  have:=LD s L q kc kv hL hq hg ta tp ht l hl k (i+1) (out++[((fun c=>Vl.f (.r (.p kc c))) (l[i]).1,(l[i]).2)]) (by omega) (by simp;omega)
  rw[bb,<-nN]at this
  rw[gu (fun c=>Vl.f (.r (.p kc c))) l hlt]
  exact this
theorem Jn(s:List UInt8)(te:E)(a:Ty)(tg:Tg)(l:List Hl)(hl:l.length<=1000000)(ih:∀h,h∈l->aq Tryz.prog 110 [.agg [.v (.string (mk te.at)),te.sp],.v (.string (mk s)),.agg [.v (.string (mk h.2.cB.at)),h.2.cB.sp]] [] (bC (.sl (lZ (bP (.rc a) tg h.2))))) :
 ∀(k i:Nat) (out:List Hl),i+k=l.length->(out++(l.drop i).flatMap (zz a tg)).length<=1000000 ->
 Gd [.v (.string (mk s)),.sl (lZ l),.v (.int .i64 (i:Int))] [.cells [.v (.string (mk te.at)),te.sp],.vec 4 (lZ out)] (iG 1 [] [.vec 4 (lZ (out++(l.drop i).flatMap (zz a tg)))])
 |
  0,i,out,hi,ho=>by
  refine Kg _ _ _ _ _ _ ?_
  have:i=l.length:=by omega
  subst this
  simp only[GY,↓zq,zs,af,fw,aV,af]
  exact⟨fun h=>by omega,fun _=>by simp[iG]⟩
 |
  k+1,i,out,hi,ho=>by
  have hlt:i<l.length:=by omega
  have hd:(l.drop i).flatMap (zz a tg)=zz a tg (l[i])++(l.drop (i+1)).flatMap (zz a tg):=by rw[aY hlt,List.flatMap_cons]
  rw[hd]at ho |-
  refine Kg _ _ _ _ _ _ ?_
  simp only[GY,↓zq,zs,af,zt,fw,gz hlt,kT,aL,aV,af]
  refine⟨fun _=>?_,fun h=>by omega⟩
  repeat refine⟨by omega,?_⟩
  refine aj (ih _ (z8 l hlt)) ?_
  simp only[↓zq,zs,af]
  have hb:out.length+(bP (.rc a) tg (l[i]).2).length<=1000000:=by
   simp only[an,fN]at ho;omega
  have h5:=LD s (.sl (lZ l)) i (l[i]).1 (l[i]).2 ((cb _).mpr trivial) (by rw[fF,fw];omega) (by rw[fF,gz hlt]) (mk te.at) te.sp ((aV _).mpr trivial) (bP (.rc a) tg (l[i]).2) (by omega) (bP (.rc a) tg (l[i]).2).length 0 out (by omega) (by omega)
  rw[bo]at h5
  refine cw h5 ?_
  simp only[↓zq,zs,af,aV,af]
  repeat refine⟨by omega,?_⟩
  rw[bA i (by omega),<-bb]
  exact Jn s te a tg l hl ih k (i+1) _ (by omega) (by rw[bb];exact ho)
end Go.Proofs.Trees
namespace Go.Proofs.Trees
open Go Go.VL Go.RowKit
def kids(a:Ty):Vl->List Hl
 | .f w=>bP a (.bd 0) w
 |_=>[]
theorem C6{a:Ty}{v:Vl}{h:Hl}(hh:h∈kids a v):h.2.nodes<v.nodes:=by
 cases v with
 |f w=>have:=(jt hh).1;simp only[Vl.nodes];omega
 |_=>cases hh
theorem qV{n:Nat}{a:Ty}{v:Vl}{h:Hl}(hv:v.iB n)(hh:h∈kids a v):h.1.iB n/\h.2.iB n:=by
 cases v with
 |f w=>exact fZ n _ _ _ w h hv hh
 |_=>cases hh
end Go.Proofs.Trees
namespace Go.Proofs.Trees
open Go Go.VL
mutual
def E.pr:E->Prop
 | .atom s=>s≠[]/\s.all eW=true
 | .list l=>l≠[]/\E.AI l
def E.AI:List E->Prop
 |[]=>True
 |e::l=>e.pr/\E.AI l
end
mutual
def E.dp:E->Nat
 | .atom _=>0
 | .list l=>1+E.um l
def E.um:List E->Nat
 |[]=>0
 |e::l=>max e.dp (E.um l)
end
def JX(r:List UInt8):Prop:=∀c t,r=c::t->eW c=false
theorem s8:JX []:=by intro c t h;cases h
theorem BL{s r:List UInt8}(hs:s.all eW=true)(hr:JX r):(s++r).takeWhile eW=s/\(s++r).dropWhile eW=r:=by
 induction s with
 |
  nil =>
  cases r with
  |nil=>exact⟨rfl,rfl⟩
  |cons c t=>have:=hr c t rfl;simp[List.takeWhile,List.dropWhile,this]
 |
  cons c s ih =>
  simp only[cU,au]at hs
  have:=ih hs.2
  simp[List.takeWhile,List.dropWhile,hs.1,this.1,this.2]
theorem u6(l:List E)(r:List UInt8):JX (ei l++41::r):=by
 intro c t h
 cases l with
 |nil=>simp only[ei,aT,List.cons.injEq]at h;rw[<-h.1];decide
 |cons e l=>simp only[ei,ba,List.cons.injEq]at h;rw[<-h.1];decide
theorem Au{f:List UInt8->Option (E×List UInt8)}(r:List UInt8):∀(l:List E) (e:E) (acc:List E) (n:Nat),l.length<n->(∀x,x=e\/x∈l->∀r,JX r->f (eT x++r)=some (x,r)) ->
 rN f n (eT e++(ei l++41::r)) acc=some (.list (acc++e::l),r)
 |l,e,acc,0,hn,hf=>by omega
 |
  [],e,acc,n+1,hn,hf=>by
  simp only[rN]
  rw[hf e (.inl rfl) _ (u6 [] r)]
  simp[ei]
 |
  x::l,e,acc,n+1,hn,hf=>by
  simp only[rN]
  rw[hf e (.inl rfl) _ (u6 (x::l) r)]
  simp only[aw]at hn
  have ih:=Au r l x (acc++[e]) n (by omega) (fun y hy=>hf y (.inr (by cases hy with|inl h=>rw[h];exact ai|inr h=>exact al _ h)))
  simp only[bb,ba,aT]at ih
  simp only[ei,ba,bb]
  simp[ih]
theorem DB{l:List E}{k:Nat}:E.AI l->E.um l<=k->∀x,x∈l->x.pr/\x.dp<=k:=by
 induction l with
 |nil=>intro _ _ x h;cases h
 |
  cons e l ih =>
  intro h hd x hx
  simp only[E.AI,E.um]at h hd
  cases hx with
  |head=>exact⟨h.1,by omega⟩
  |tail _ hx=>exact ih h.2 (by omega) x hx
theorem xO:∀(k:Nat) (e:E) (r:List UInt8),e.pr->e.dp<=k->JX r->rd k (eT e++r)=some (e,r)
 |
  0,.atom s,r,hp,hd,hr=>by
  have h:=BL hp.2 hr
  simp only[eT,rd,h.1,h.2,hp.1,if_false]
 |
  k+1,.atom s,r,hp,hd,hr=>by
  have h:=BL hp.2 hr
  simp only[eT,rd,h.1,h.2,hp.1,if_false]
 |0,.list l,r,hp,hd,hr=>by simp only[E.dp]at hd;omega
 |k+1,.list [],r,hp,hd,hr=>by exact absurd rfl hp.1
 |
  k+1,.list (e::l),r,hp,hd,hr=>by
  have hs:eW 40=false:=by decide
  simp only[E.dp,E.pr]at hd hp
  have hm:=DB (k:=k) hp.2 (by omega)
  have:=Au (f:=rd k) r l e [] ((eT e++(ei l++41::r)).length+1) (by have:=qZ l;simp only[an,aw];omega)
   (fun x hx r hr=>xO k x r (hm x (by cases hx with|inl h=>rw[h];exact ai|inr h=>exact al _ h)).1 (hm x (by cases hx with|inl h=>rw[h];exact ai|inr h=>exact al _ h)).2 hr)
  simp only[eT,ba,bb,aT]at *
  simp only[rd,List.takeWhile,hs,if_true]
  simpa using this
theorem AA{e e':E}(h:e.pr)(h':e'.pr)(ht:eT e=eT e'):e=e':=by
 have a:=xO (max e.dp e'.dp) e [] h (by omega) s8
 have b:=xO (max e.dp e'.dp) e' [] h' (by omega) s8
 rw[ht,b]at a;cases a;rfl
theorem Fq{e:E}(h:e.pr)(hd:e.dp<=300)(hl:(eT e).length<=8000):qn (eT e)=some e:=by
 have:=xO 300 e [] h hd s8
 rw[cS]at this
 rw[qn,this];simp;omega
theorem AY(s:List UInt8):(s.takeWhile eW).all eW=true:=by
 induction s with
 |nil=>rfl
 |cons c s ih =>
  cases h:eW c
  ·simp[List.takeWhile,h]
  ·simp only[List.takeWhile,h,cU,ih];rfl
theorem BV(l r:List E):E.AI (l++r)↔E.AI l/\E.AI r:=by
 induction l with
 |nil=>simp[E.AI]
 |cons e l ih=>simp[E.AI,ih,and_assoc]
theorem CS(l r:List E):E.um (l++r)=max (E.um l) (E.um r):=by
 induction l with
 |nil=>simp[E.um]
 |cons e l ih=>simp[E.um,ih,Nat.max_assoc]
theorem xP{k:Nat}{f:List UInt8->Option (E×List UInt8)}(hf:∀s e r,f s=some (e,r)->s=eT e++r/\e.pr/\e.dp<=k):∀(n:Nat) (s:List UInt8) (acc:List E) (e:E) (r:List UInt8),rN f n s acc=some (e,r)->E.AI acc->E.um acc<=k ->
 ∃l,e=.list (acc++l)/\l≠[]/\32::s=ei l++41::r/\E.AI l/\E.um l<=k
 |0,s,acc,e,r,h,hp,hd=>by cases h
 |
  n+1,s,acc,e,r,h,hp,hd=>by
  simp only[rN]at h
  split at h
  ·rename_i p c r' hs
   obtain⟨h1,h2,h3⟩:=hf _ _ _ hs
   split at h
   ·rename_i hc
    have hc:c=41:=dQ.mp hc
    cases h
    exact⟨[p],rfl,by simp,by simp[ei,h1,hc],⟨h2,trivial⟩,by simp[E.um];omega⟩
   ·split at h
    ·rename_i hc
     have hc:c=32:=dQ.mp hc
     obtain⟨l,g1,g2,g3,g4,g5⟩:=xP hf n _ _ _ _ h ((BV _ _).mpr ⟨hp,h2,trivial⟩) (by rw[CS];simp[E.um];omega)
     refine⟨p::l,by simpa using g1,by simp,?_,⟨h2,g4⟩,by simp only[E.um];omega⟩
     rw[h1,hc,g3];simp[ei]
    ·cases h
  ·cases h
theorem z7:∀(k:Nat) (s:List UInt8) (e:E) (r:List UInt8),rd k s=some (e,r)->s=eT e++r/\e.pr/\e.dp<=k
 |
  0,s,e,r,h=>by
  simp only[rd]at h
  split at h
  ·cases h
  ·rename_i hs;cases h
   exact⟨(bV).symm,⟨hs,AY s⟩,ap _⟩
 |
  k+1,s,e,r,h=>by
  simp only[rd]at h
  split at h
  ·split at h
   ·rename_i c r' _
    split at h
    ·rename_i hc
     have hc:c=40:=dQ.mp hc
     obtain⟨l,g1,g2,g3,g4,g5⟩:=xP (k:=k) (fun s e r h=>z7 k s e r h) _ _ _ _ _ h trivial (dP _)
     simp only[aT]at g1
     subst g1;subst hc
     refine⟨?_,⟨g2,g4⟩,by simp only[E.dp];omega⟩
     cases l with
     |nil=>exact absurd rfl g2
     |
      cons x l =>
      simp only[ei,ba,bb,List.cons.injEq,true_and]at g3
      rw[g3];simp[eT]
    ·cases h
   ·cases h
  ·rename_i hs;cases h
   exact⟨(bV).symm,⟨hs,AY s⟩,by simp[E.dp]⟩
theorem yi{s:List UInt8}{e:E}(h:qn s=some e):s=eT e/\e.pr/\e.dp<=300/\s.length<=8000:=by
 unfold qn at h
 split at h
 ·cases h
 ·rename_i hl
  split at h
  ·rename_i e' hr
   cases h
   have:=z7 _ _ _ _ hr
   exact⟨by simpa using this.1,this.2.1,this.2.2,by omega⟩
  ·cases h
theorem BH{k:Nat}(h:k<10):eW (a8 (48+k))=true:=by
 have:∀k:Fin 10,eW (a8 (48+k.val))=true:=by decide
 exact this ⟨k,h⟩
theorem vM:∀(n k:Nat),k<n->(dd k).all eW=true
 |0,k,h=>by omega
 |
  n+1,k,h=>by
  by_cases hk:k<10
  ·rw[eH hk,cU,BH hk];rfl
  ·rw[fM hk]
   have:=vM n (k/10) (by omega)
   rw[List.all_append,this,cU,BH (ep k (by omega:0<10))];rfl
theorem EL(k:Nat):(E.atom (uk k)).pr:=⟨by simp,by have:=vM (k+1) k (by omega);simp only[uk,cU,this];decide⟩
theorem mc:∀v:Vl,v.cB.pr
 | .u=>⟨by simp,by decide⟩
 | .el k=>EL k
 | .l v=>⟨by simp,⟨by simp,by decide⟩,mc v,trivial⟩
 | .r v=>⟨by simp,⟨by simp,by decide⟩,mc v,trivial⟩
 | .f v=>⟨by simp,⟨by simp,by decide⟩,mc v,trivial⟩
 | .p a b=>⟨by simp,⟨by simp,by decide⟩,mc a,mc b,trivial⟩
theorem pB:∀v:Vl,v.cB.dp<v.nodes+1
 | .u=>by simp[Vl.cB,E.dp,Vl.nodes]
 | .el k=>by simp[Vl.cB,E.dp,Vl.nodes]
 | .l v=>by have:=pB v;simp only[Vl.cB,E.dp,E.um,Vl.nodes]at *;omega
 | .r v=>by have:=pB v;simp only[Vl.cB,E.dp,E.um,Vl.nodes]at *;omega
 | .f v=>by have:=pB v;simp only[Vl.cB,E.dp,E.um,Vl.nodes]at *;omega
 | .p a b=>by have:=pB a;have:=pB b;simp only[Vl.cB,E.dp,E.um,Vl.nodes]at *;omega
theorem CI(k:Nat)(h:k<100):(dd k).length<=2:=by
 by_cases hk:k<10
 ·rw[eH hk];simp
 ·rw[fM hk,eH (by omega:k/10<10)];simp
theorem kJ:∀v:Vl,v.iB 100->v.dN.length<=5*v.nodes
 | .u,_=>by simp[Vl.dN,Vl.cB,eT,Vl.nodes]
 |
  .el k,h=>by
  have:=CI k h
  simp only[Vl.dN,Vl.cB,eT,Vl.nodes,aw];omega
 | .l v,h=>by have:=kJ v h;simp only[Vl.dN,Vl.cB,eT,ei,Vl.nodes,aw,an,aF]at this |-;omega
 | .r v,h=>by have:=kJ v h;simp only[Vl.dN,Vl.cB,eT,ei,Vl.nodes,aw,an,aF]at this |-;omega
 | .f v,h=>by have:=kJ v h;simp only[Vl.dN,Vl.cB,eT,ei,Vl.nodes,aw,an,aF]at this |-;omega
 | .p a b,h=>by have:=kJ a h.1;have:=kJ b h.2;simp only[Vl.dN,Vl.cB,eT,ei,Vl.nodes,aw,an,aF]at *;omega
theorem E4(k:Nat):uk k≠[117]:=by simp[uk]
theorem kh:∀v:Vl,v.iB 100->fK v.cB=some v
 | .u,_=>by simp[Vl.cB,fK]
 | .el k,h=>by simp only[Vl.cB,fK,E4,if_false,rb k h]
 | .l v,h=>by simp only[Vl.cB,fK,kh v h,E.at];simp
 | .r v,h=>by simp only[Vl.cB,fK,kh v h,E.at];simp
 | .f v,h=>by simp only[Vl.cB,fK,kh v h,E.at];simp
 | .p a b,h=>by simp only[Vl.cB,fK,kh a h.1,kh b h.2,E.at];simp
theorem nO{v:Vl}(h:v.iB 100)(hn:v.nodes<=200):pT v.dN=some v:=by
 have hd:=pB v
 have hl:=kJ v h
 rw[pT,Fq (mc v) (by omega) (by show v.dN.length<=8000;omega)]
 simp only[kh v h]
 rw[if_neg (by omega)]
theorem tS{v w:Vl}(h:v.iB 100)(h':w.iB 100)(ht:v.dN=w.dN):v=w:=by
 have:=AA (mc v) (mc w) ht
 have a:=kh v h
 rw[this,kh w h']at a;cases a;rfl
theorem lC{s:List UInt8}{v:Vl}(h:pT s=some v):s=v.dN:=(yi (gH h).1).1
end Go.Proofs.Trees
namespace Go.Proofs.Trees
open Go Go.VL Go.RowKit
theorem bR(l:List E):(E.list l).at=[]:=rfl
def cO:Ty->Vl->Vl->Vl
 | .plus a _,.l c,v=>.l (cO a c v)
 | .plus _ b,.r c,v=>.r (cO b c v)
 | .times a _,.l (.p x y),v=>.p (cO a x v) y
 | .times _ b,.r (.p x y),v=>.p x (cO b y v)
 | .rc a,.f (.l x),v=>.f (cO a x v)
 | .rc a,.f (.r (.p x y)),v=>.f (cO a x (cO (.rc a) y v))
 |_,_,v=>v
def dL:Ty->Vl->Bool
 | .plus a _,.l c=>dL a c
 | .plus _ b,.r c=>dL b c
 | .times a _,.l (.p x _)=>dL a x
 | .times _ b,.r (.p _ y)=>dL b y
 | .rc a,.f (.l x)=>dL a x
 | .rc a,.f (.r (.p x y))=>dL a x&&dL (.rc a) y
 | .plus _ _,_=>false
 | .times _ _,_=>false
 | .rc _,_=>false
 |_,_=>true
theorem si(c v:Vl):cO .zero c v=v:=by cases c<;>rfl
theorem vg(c v:Vl):cO .one c v=v:=by cases c<;>rfl
theorem kI(s:List UInt8)(c v:Vl):cO (.name s) c v=v:=by cases c<;>rfl
theorem qG(u:Nat)(c v:Vl):cO (.bH u) c v=v:=by cases c<;>rfl
theorem ux{a b:Ty}{c:Vl}(h:dL (.plus a b) c=true):(∃x,c=.l x/\dL a x=true)\/∃x,c=.r x/\dL b x=true:=by
 cases c<;>simp[dL]at h<;>simp[h]
theorem ss{a b:Ty}{c:Vl}(h:dL (.times a b) c=true):(∃x y,c=.l (.p x y)/\dL a x=true)\/∃x y,c=.r (.p x y)/\dL b y=true:=by
 cases c with
 |l c=>cases c<;>simp[dL]at h<;>simp[h]
 |r c=>cases c<;>simp[dL]at h<;>exact .inr ⟨_,_,rfl,h⟩
 |_=>simp[dL]at h
theorem zR{a:Ty}{c:Vl}(h:dL (.rc a) c=true):(∃x,c=.f (.l x)/\dL a x=true)\/∃x y,c=.f (.r (.p x y))/\dL a x=true/\dL (.rc a) y=true:=by
 cases c with
 |
  f c =>
  cases c with
  |l c=>simp[dL]at h;simp[h]
  |r c=>cases c<;>simp[dL]at h<;>exact .inr ⟨_,_,rfl,h⟩
  |_=>simp[dL]at h
 |_=>simp[dL]at h
theorem vX(t:Ty)(c v:Vl):(cO t c v).nodes<=c.nodes+v.nodes:=by
 induction t,c,v using cO.induct<;>simp only[cO,Vl.nodes]at*<;> omega
theorem uF(m:Nat)(t:Ty)(c v:Vl):c.iB m->v.iB m->(cO t c v).iB m:=by
 induction t,c,v using cO.induct with
 |case1 a b c v ih=>exact fun h h'=>ih h h'
 |case2 a b c v ih=>exact fun h h'=>ih h h'
 |case3 a b x y v ih=>exact fun h h'=>⟨ih h.1 h',h.2⟩
 |case4 a b x y v ih=>exact fun h h'=>⟨h.1,ih h.2 h'⟩
 |case5 a x v ih=>exact fun h h'=>ih h h'
 |case6 a x y v ih1 ih2=>exact fun h h'=>ih2 h.1 (ih1 h.2 h')
 |case7=>intro h h';simpa only[cO]using h'
def Mi:Hl:=(.u,.u)
end Go.Proofs.Trees
namespace Go.Proofs.Trees
open Go Go.VL Go.RowKit
theorem pg(s:Nm)(a b:E):aq Tryz.prog 90 [.agg [.v (.string (mk [])),(E.list [.atom s,a,b]).sp]] [] (bC (.v (.string (mk s)))):=uY (.atom s) [a,b]
theorem B5{e:E}(h:Wf e):∀(bd l:List Nm) (a:AV),dT a bd->bd.length+l.length+e.sz<100000->aq Tryz.prog 98 [.agg [.v (.string (mk e.at)),e.sp],a,.vec 0] [.vec 1 (ck l)] (dx (.vec 1) [.dead,.vec 1 (ck (kf e bd l))]):=by
 induction h with
 |
  @atom s hs =>
  intro bd l a ha hl
  simp only[E.sz]at hl
  refine yz _ _ _ _ ((aV _).mpr trivial) ha.1 ?_
  have hll:(ck l).length=l.length:=by simp[ck]
  simp only[wG,dZ,↓zq,zs,af,zt,dx,kf]
  refine⟨fun _=>⟨fun h=>?_,fun h=>⟨fun h1=>?_,fun h1=>?_⟩⟩,fun h=>absurd h hs⟩
  ·rw[if_pos (.inl h)]
  ·rw[if_pos (.inr (.inl h1))]
  ·refine aj (wl bd a ha s (by omega)) ?_
   simp only[↓zq,zs,af]
   refine⟨fun h2=>?_,fun h2=>aj (wl l _ (.of l) s (by omega)) ?_⟩
   ·rw[if_pos (.inr (.inr (.inl h2)))]
   ·simp only[↓zq,zs,af]
    refine⟨fun h3=>?_,fun h3=>⟨⟨fun c hc=>(by simp at hc;rw[hc];rfl),by omega⟩,?_⟩⟩
    ·rw[if_pos (.inr (.inr (.inr h3)))]
    ·rw[yM,if_neg]
     rintro(q|q|q|q)
     ·exact h q
     ·exact h1 q
     ·exact h2 q
     ·exact h3 q
 |
  @plus x y hx hy i1 i2 =>
  intro bd l a ha hl
  simp only[E.sz,E.jk]at hl
  have hfl:=gb x bd l
  refine yz _ _ _ _ ((aV _).mpr trivial) ha.1 ?_
  have hP:=P3.of (.atom [43]) x y
  simp only[wG,bR,toNat_one,be,↓zq,zs,af,zt,hP.1,hP.2.1,hP.2.2.1,hP.2.2.2,aL,dx]
  refine⟨fun h=>absurd rfl h,fun _=>?_⟩
  refine aj (pg [43] x y) ?_
  simp only[↓zq,zs,af,zt]
  refine⟨fun h=>by simp at h,fun _=>?_⟩
  repeat refine⟨by omega,?_⟩
  refine bi (i1 bd l a ha (by omega)) ?_
  simp only[↓zq,zs,af,zt,bg,bx,Ob.es]
  repeat refine⟨by omega,?_⟩
  refine bi (i2 bd (kf x bd l) a ha (by omega)) ?_
  simp only[↓zq,zs,af,zt,bg,bx,Ob.es]
  rw[kf,if_neg (by decide)]
 |
  @times x y hx hy i1 i2 =>
  intro bd l a ha hl
  simp only[E.sz,E.jk]at hl
  have hfl:=gb x bd l
  refine yz _ _ _ _ ((aV _).mpr trivial) ha.1 ?_
  have hP:=P3.of (.atom [42]) x y
  simp only[wG,bR,toNat_one,be,↓zq,zs,af,zt,hP.1,hP.2.1,hP.2.2.1,hP.2.2.2,aL,dx]
  refine⟨fun h=>absurd rfl h,fun _=>?_⟩
  refine aj (pg [42] x y) ?_
  simp only[↓zq,zs,af,zt]
  refine⟨fun h=>by simp at h,fun _=>?_⟩
  repeat refine⟨by omega,?_⟩
  refine bi (i1 bd l a ha (by omega)) ?_
  simp only[↓zq,zs,af,zt,bg,bx,Ob.es]
  repeat refine⟨by omega,?_⟩
  refine bi (i2 bd (kf x bd l) a ha (by omega)) ?_
  simp only[↓zq,zs,af,zt,bg,bx,Ob.es]
  rw[kf,if_neg (by decide)]
 |
  @rc n y hn hy i =>
  intro bd l a ha hl
  simp only[E.sz,E.jk]at hl
  refine yz _ _ _ _ ((aV _).mpr trivial) ha.1 ?_
  have hP:=P3.of (.atom dY) (.atom n) y
  simp only[wG,bR,toNat_one,be,↓zq,zs,af,zt,hP.1,hP.2.1,hP.2.2.1,hP.2.2.2,aL,dx]
  refine⟨fun h=>absurd rfl h,fun _=>?_⟩
  refine aj (pg dY (.atom n) y) ?_
  simp only[↓zq,zs,af,zt]
  refine⟨fun _=>?_,fun h=>absurd rfl h⟩
  repeat refine⟨by omega,?_⟩
  refine aj (yW bd a ha n (by omega)) ?_
  simp only[↓zq,zs,af]
  refine bi (i (bd++[n]) l _ (.of _) (by simp;omega)) ?_
  simp only[↓zq,zs,af,bg,bx,Ob.es]
  rw[kf,if_pos (dZ _)];rfl
theorem Pt(x:Nm)(u:E){e:E}(h:Wf e):aq Tryz.prog 187 [.agg [.v (.string (mk e.at)),e.sp],.v (.string (mk x)),.agg [.v (.string (mk u.at)),u.sp]] [] (bC (.agg [.v (.string (mk (qE x u e).at)),(qE x u e).sp])):=by
 induction h with
 |
  @atom s hs =>
  refine CP _ _ _ _ _ ((aV _).mpr trivial) ((aV _).mpr trivial) ?_
  simp only[Am,dZ,↓zq,zs,af,zt,bC,qE]
  refine⟨fun _=>⟨fun h=>?_,fun h=>?_⟩,fun h=>absurd h hs⟩
  ·rw[if_pos h]
  ·rw[if_neg h];rfl
 |
  @plus a b ha hb i1 i2 =>
  refine CP _ _ _ _ _ ((aV _).mpr trivial) ((aV _).mpr trivial) ?_
  have hP:=P3.of (.atom [43]) a b
  simp only[Am,bR,toNat_one,be,↓zq,zs,af,zt,hP.1,hP.2.1,hP.2.2.1,hP.2.2.2,aL]
  refine⟨fun h=>absurd rfl h,fun _=>?_⟩
  refine aj (pg [43] a b) ?_
  simp only[↓zq,zs,af,zt]
  refine⟨fun h=>by simp at h,fun _=>?_⟩
  refine aj (pg [43] a b) ?_
  simp only[↓zq,zs,af,zt]
  repeat refine⟨by omega,?_⟩
  refine aj i1 ?_
  simp only[↓zq,zs,af,zt,aL]
  repeat refine⟨by omega,?_⟩
  refine aj i2 ?_
  simp only[↓zq,zs,af,zt,aL]
  repeat refine⟨by omega,?_⟩
  refine aj (vW _ _ _) ?_
  simp only[↓zq,zs,af,zt,aL,uZ,bR]
  repeat refine⟨by omega,?_⟩
  exact⟨rfl,rfl⟩
 |
  @times a b ha hb i1 i2 =>
  refine CP _ _ _ _ _ ((aV _).mpr trivial) ((aV _).mpr trivial) ?_
  have hP:=P3.of (.atom [42]) a b
  simp only[Am,bR,toNat_one,be,↓zq,zs,af,zt,hP.1,hP.2.1,hP.2.2.1,hP.2.2.2,aL]
  refine⟨fun h=>absurd rfl h,fun _=>?_⟩
  refine aj (pg [42] a b) ?_
  simp only[↓zq,zs,af,zt]
  refine⟨fun h=>by simp at h,fun _=>?_⟩
  refine aj (pg [42] a b) ?_
  simp only[↓zq,zs,af,zt]
  repeat refine⟨by omega,?_⟩
  refine aj i1 ?_
  simp only[↓zq,zs,af,zt,aL]
  repeat refine⟨by omega,?_⟩
  refine aj i2 ?_
  simp only[↓zq,zs,af,zt,aL]
  repeat refine⟨by omega,?_⟩
  refine aj (vW _ _ _) ?_
  simp only[↓zq,zs,af,zt,aL,sB,bR]
  repeat refine⟨by omega,?_⟩
  exact⟨rfl,rfl⟩
 |
  @rc n b hn hb i =>
  refine CP _ _ _ _ _ ((aV _).mpr trivial) ((aV _).mpr trivial) ?_
  have hP:=P3.of (.atom dY) (.atom n) b
  simp only[Am,bR,toNat_one,be,↓zq,zs,af,zt,hP.1,hP.2.1,hP.2.2.1,hP.2.2.2,aL]
  refine⟨fun h=>absurd rfl h,fun _=>?_⟩
  refine aj (pg dY (.atom n) b) ?_
  simp only[↓zq,zs,af,zt]
  refine⟨fun _=>?_,fun h=>absurd rfl h⟩
  repeat refine⟨by omega,?_⟩
  rw[Bb]
  refine⟨fun h=>?_,fun h=>?_⟩
  ·have hh:n=x:=h
   rw[if_pos hh];exact⟨rfl,rfl⟩
  ·have hh:¬n=x:=h
   rw[if_neg hh]
   repeat refine⟨by omega,?_⟩
   refine aj i ?_
   simp only[↓zq,zs,af,zt,aL]
   repeat refine⟨by omega,?_⟩
   refine aj (vW dY (.atom n) (qE x u b)) ?_
   simp only[↓zq,zs,af,zt,aL,bR]
   repeat refine⟨by omega,?_⟩
   exact⟨rfl,rfl⟩
theorem qT(x:Nm){e:E}(h:Wf e):mX x e<=e.cZ:=by
 induction h with
 |atom hs=>simp only[mX,E.cZ];split<;>omega
 |plus ha hb i1 i2=>rw[qB];simp only[E.cZ,E.eX];omega
 |times ha hb i1 i2=>rw[pF];simp only[E.cZ,E.eX];omega
 |rc hn hb i=>rw[wL];simp only[E.cZ,E.eX];split<;>omega
theorem Ol(x:Nm){e:E}(h:Wf e):e.cZ<1000000->aq Tryz.prog 186 [.agg [.v (.string (mk e.at)),e.sp],.v (.string (mk x))] [] (bC (.v (.int .i64 (mX x e:Int)))):=by
 induction h with
 |
  @atom s hs =>
  intro hl
  refine Dn _ _ _ ((aV _).mpr trivial) ?_
  simp only[BB,dZ,↓zq,zs,af,zt,bC,mX]
  refine⟨fun _=>⟨fun h=>?_,fun h=>?_⟩,fun h=>absurd h hs⟩
  ·rw[if_pos h];rfl
  ·rw[if_neg h];rfl
 |
  @plus a b ha hb i1 i2 =>
  intro hl
  simp only[E.cZ,E.eX]at hl
  have u1:=qT x ha
  have u2:=qT x hb
  refine Dn _ _ _ ((aV _).mpr trivial) ?_
  have hP:=P3.of (.atom [43]) a b
  simp only[BB,bR,toNat_one,be,↓zq,zs,af,zt,hP.1,hP.2.1,hP.2.2.1,hP.2.2.2,aL]
  refine⟨fun h=>absurd rfl h,fun _=>?_⟩
  refine aj (pg [43] a b) ?_
  simp only[↓zq,zs,af,zt]
  refine⟨fun h=>by simp at h,fun _=>?_⟩
  repeat refine⟨by omega,?_⟩
  refine aj (i1 (by omega)) ?_
  simp only[↓zq,zs,af,zt]
  repeat refine⟨by omega,?_⟩
  refine aj (i2 (by omega)) ?_
  simp only[↓zq,zs,af,zt]
  rw[qB,wrap64 _ (by omega) (by omega)]
  exact⟨by simp,rfl⟩
 |
  @times a b ha hb i1 i2 =>
  intro hl
  simp only[E.cZ,E.eX]at hl
  have u1:=qT x ha
  have u2:=qT x hb
  refine Dn _ _ _ ((aV _).mpr trivial) ?_
  have hP:=P3.of (.atom [42]) a b
  simp only[BB,bR,toNat_one,be,↓zq,zs,af,zt,hP.1,hP.2.1,hP.2.2.1,hP.2.2.2,aL]
  refine⟨fun h=>absurd rfl h,fun _=>?_⟩
  refine aj (pg [42] a b) ?_
  simp only[↓zq,zs,af,zt]
  refine⟨fun h=>by simp at h,fun _=>?_⟩
  repeat refine⟨by omega,?_⟩
  refine aj (i1 (by omega)) ?_
  simp only[↓zq,zs,af,zt]
  repeat refine⟨by omega,?_⟩
  refine aj (i2 (by omega)) ?_
  simp only[↓zq,zs,af,zt]
  rw[pF,wrap64 _ (by omega) (by omega)]
  exact⟨by simp,rfl⟩
 |
  @rc n b hn hb i =>
  intro hl
  simp only[E.cZ,E.eX]at hl
  refine Dn _ _ _ ((aV _).mpr trivial) ?_
  have hP:=P3.of (.atom dY) (.atom n) b
  simp only[BB,bR,toNat_one,be,↓zq,zs,af,zt,hP.1,hP.2.1,hP.2.2.1,hP.2.2.2,aL]
  refine⟨fun h=>absurd rfl h,fun _=>?_⟩
  refine aj (pg dY (.atom n) b) ?_
  simp only[↓zq,zs,af,zt]
  refine⟨fun _=>?_,fun h=>absurd rfl h⟩
  repeat refine⟨by omega,?_⟩
  rw[wL]
  refine⟨fun h=>?_,fun h=>?_⟩
  ·have hh:n=x:=h
   rw[if_pos hh];exact⟨rfl,rfl⟩
  ·have hh:¬n=x:=h
   rw[if_neg hh]
   repeat refine⟨by omega,?_⟩
   refine aj (i (by omega)) ?_
   simp only[↓zq,zs,af,zt]
   exact⟨rfl,rfl⟩
theorem HT{x:Nm}(hx:qh x){e u:E}(h:Wf e)(hu:Wf u)(hl:e.cZ<=1000)(hlu:u.cZ<=1000):aq Tryz.prog 162 [.agg [.v (.string (mk e.at)),e.sp],.v (.string (mk x)),.agg [.v (.string (mk u.at)),u.sp]] [] (bC (.v (.bool (decide ((sub x (cX u []) (cX e [])).aC<=400))))):=by
 refine OQ _ _ _ _ _ ((aV _).mpr trivial) ((aV _).mpr trivial) ?_
 unfold Hu
 have a1:=C8 e h.ok (by have:=h.sz;omega)
 have a2:=C8 u hu.ok (by have:=hu.sz;omega)
 rw[dz]at a1 a2
 have hle:=qT x h
 have hpos:1<=u.cZ:=by rw[hu.cZ []];exact ek _
 refine aj a1 ?_
 simp only[↓zq,zs,af,zt]
 refine aj (Ol x h (by omega)) ?_
 simp only[↓zq,zs,af,zt]
 refine aj a2 ?_
 simp only[↓zq,zs,af,zt]
 have e1:=ez x (cX u []) (cX e [])
 have e2:=CX hx h []
 rw[if_neg (by simp)]at e2
 rw[e2,<-h.cZ [],<-hu.cZ []]at e1
 have hm:mX x e*(u.cZ-1)<=1000*1000:=Nat.mul_le_mul (by omega) (by omega)
 have e3:(mX x e:Int)*((u.cZ:Int)-1)=((mX x e*(u.cZ-1):Nat):Int):=by
  rw[Int.natCast_mul];congr 1;omega
 have e4:mX x e*(u.cZ-1)+mX x e=mX x e*u.cZ:=by
  rw[Nat.mul_sub,dC]
  have:=Nat.le_mul_of_pos_right (mX x e) hpos
  omega
 rw[wrap64 ((u.cZ:Int)-1) (by omega) (by omega),e3,wrap64 ((mX x e*(u.cZ-1):Nat):Int) (by omega) (by omega),wrap64 _ (by omega) (by omega)]
 refine⟨?_,rfl⟩
 congr 2
 rw[cu,decide_eq_true_eq,decide_eq_true_eq]
 omega
end Go.Proofs.Trees
namespace Go.Proofs.Trees
open Go Go.VL Go.RowKit
abbrev zF:AV:=.v (.slice none 0 0)
abbrev zE:Ob:=.cells [.v (.string (mk [])),zF]
theorem Kp(s:Nm)(p a b:AV)(hp:LK.sl.has p)(F fr to:List Nm)(k:Int)(ha:dT a fr)(hb:dT b to)(hft:fr.length=to.length)(hl:fr.length<1000000):∀(i:Nat),i<=fr.length ->
 Gc [a,b,.v (.int .i64 ((i:Int)-1))] [.cells [.v (.string (mk s)),p],zE,.cells [.any,.v (.int .i64 k)],.vec 1 (ck F)]
  (rQ (match bE s fr i with|some u=>(2,[],[.cells [.v (.string (mk (gn to u))),zF],.cells [.any,.v (.int .i64 k)],.vec 1 (ck F)])|none=>(1,[],[.cells [.v (.string (mk s)),p],zE,.cells [.any,.v (.int .i64 k)],.vec 1 (ck F)])))
 |
  0,hi=>by
  refine Lv _ _ _ _ _ _ _ _ _ ?_
  simp only[Gg,↓zq,zs,af,af,hp,bq]
  exact⟨ha.1,hb.1,fun h=>by omega,fun _=>rfl⟩
 |
  i+1,hi=>by
  have hlt:i<fr.length:=by omega
  have hlt':i<to.length:=by omega
  have e1:((i+1:Nat):Int)-1=(i:Int):=by omega
  rw[e1]
  refine Lv _ _ _ _ _ _ _ _ _ ?_
  simp only[Gg,↓zq,zs,af,zt,af,hp,bq,ha.len,hb.len,ha.idx hlt,hb.idx hlt',ca]
  refine⟨ha.1,hb.1,fun _=>⟨⟨ha.1,by omega,by omega⟩,by omega,fun h=>?_,fun h=>?_⟩,fun h=>by omega⟩
  ·refine⟨⟨hb.1,by omega,by omega⟩,by omega,?_⟩
   have hh:fr.getD i []=s:=h
   simp only[bE,hh,if_true,rQ]
   have:gn to (fr.length-1-i)=to.getD i []:=by unfold gn;congr 1;omega
   rw[this]
  ·have hh:¬fr.getD i []=s:=h
   simp only[bE,hh,if_false]
   rw[wrap64 _ (by omega) (by omega)]
   exact Kp s p a b hp F fr to k ha hb hft hl i (by omega)
theorem Iw(a b:AV)(ha:LK.sl.has a)(hb:LK.sl.has b)(F:List Nm)(hF:F.length<100000)(t:ByteArray)(p:AV)(hp:LK.sl.has p):∀(n j:Nat),pX F n j<j+n->j+n<100000000 ->
 EZ [a,b,.v (.string (mk (tN j)))] [.cells [.any,.v (.int .i64 (j:Int))],.vec 1 (ck F),.cells [.v (.string t),p],zE] (iG 1 [a,b,.v (.string (mk (tN (pX F n j))))] [.cells [.any,.v (.int .i64 (pX F n j:Int))],.vec 1 (ck F),.cells [.v (.string t),p],zE])
 |0,j,h,_=>by simp only[pX]at h;omega
 |
  n+1,j,h,hj=>by
  refine Na _ _ _ _ _ _ _ _ _ ?_
  simp only[HM,↓zq,zs,af,zt,af,hp,bq]
  refine⟨ha,hb,?_⟩
  refine aj (wl F _ (.of F) (tN j) (by omega)) ?_
  simp only[↓zq,zs,af,zt]
  rw[pX]at h |-
  refine⟨fun hm=>?_,fun hm=>?_⟩
  ·rw[if_pos hm]at h |-
   rw[bA j (by omega)]
   refine aj (F4 (j+2) (j+1) (by omega) (by omega)) ?_
   have hd:=mv (j+2) (j+1) (by omega)
   simp only[↓zq,zs,af,zt,ba,aT]
   refine⟨by simp[cz];omega,?_⟩
   exact Iw a b ha hb F hF t p hp n (j+1) (by omega) (by omega)
  ·rw[if_neg hm]
   exact⟨rfl,rfl,rfl⟩
end Go.Proofs.Trees
