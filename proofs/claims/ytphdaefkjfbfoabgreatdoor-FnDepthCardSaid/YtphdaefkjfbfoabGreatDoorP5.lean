/-
  Part of a proof: Go functions read by values, trees of functions, their contracts.
-/
import Derived.Test.YtphdaefkjfbfoabGreatDoorP4
import Derived.Lib.Atoi
set_option linter.unusedVariables false
set_option linter.unusedSimpArgs false
open Bool renaming and_eq_true→aq,eq_iff_iff→bV,or_eq_true→bP,true_and→bN
open ByteArray renaming toList→ac
open Int renaming cast_ofNat_Int→cF,ofNat_eq_natCast→co,tmod→cQ,toNat→bB,toNat_natCast→cc
open List renaming any_eq_true→bu,append_assoc→a7,drop_eq_getElem_cons→aJ,drop_eq_nil_of_le→bn,drop_zero→aW,flatMap_cons→cB,getD_cons_zero→a8,getD_eq_getElem?_getD→aa,getElem?_eq_getElem→bH,getElem_mem→cy,headD_cons→bc,length_append→an,length_cons→aB,length_nil→aI,map_cons→bp,mem_append→aL,mem_append_left→az,mem_append_right→aw,mem_cons→aF,mem_cons_of_mem→aj,mem_cons_self→af,mem_map→bT,mem_singleton→be,nil_append→bz,sum_cons→dh,tail_cons→bm
open Nat renaming beq→aG,le_refl→au,lt_of_lt_of_le→cE,mod_lt→dA,zero_add→aP
open Option renaming isSome_iff_exists→bI,map_some→cx
open UInt8 renaming ofNat→aY
namespace Go.Proofs.Trees
open Go Go.VL
theorem gj(e:E):AV.agg [.v (.string ((e.fP.getD 0 .any).ai)),e.fP.getD 1 .any]=e.iT:=by cases e<;>rfl
theorem eQ(e:E):e.fP.length=2:=by cases e<;>rfl
theorem gk(e:E):bJ [.str,.sl] e.fP 0=True:=by
 apply eq_true
 cases e<;>simp[E.fP,bJ,dV,bi,ca]
theorem kg(e:E):e.fP.headD .any=.v (.string (mk e.at)):=by cases e<;>rfl
theorem sV(x:E)(l:List E):ap Tryz.prog 33 [.agg [.v (.string (mk [])),.sl (E.ba (x::l))]] [] (bA (.v (.string (mk x.at)))):=by
 refine Cn _ _ ((ca _).mpr trivial) ?_
 simp only[yV,E.ba,↓zq,zs,ae,zt,bA,eQ,kg,au]
 refine⟨fun h=>absurd rfl h,fun _=>⟨fun h=>by omega,fun _=>⟨by omega,by omega⟩⟩⟩
theorem Jm:ap Tryz.prog 33 [.agg [.v (.string (mk [])),.sl (E.ba [])]] [] (bA (.v (.string (mk [])))):=by
 refine Cn _ _ ((ca _).mpr trivial) ?_
 simp only[yV,E.ba,↓zq,zs,ae,zt,bA,eQ,kg,au]
 simp
def iD:E->Bool
 | .atom s=>(s==[48])||(s==[49])||gh s||cI s
 | .list [x,a,b]=>if x.at=[43]then iD a&&iD b else if x.at=[42]then iD a&&iD b else if x.at=[114,101,99]then cI a.at&&iD b else false
 | .list _=>false
theorem C4:∀(e:E),e.ok->ap Tryz.prog 72 [e.iT] [] (bA (.v (.bool (iD e))))
 |
  .atom s,hok=>by
  refine EH _ _ ((bi).mpr trivial) ?_
  have hne:s≠[]:=hok
  simp only[Ad,↓zq,zs,ae,zt,bA,iD]
  refine⟨fun _=>⟨fun h=>?_,fun h=>⟨fun h1=>?_,fun h1=>?_⟩⟩,fun h=>absurd h hne⟩
  ·simp[h]
  ·simp[h1]
  ·refine al (Cs s) ?_
   simp only[↓zq,zs,ae]
   refine⟨fun hp=>?_,fun hp=>?_⟩
   ·simp[hp]
   ·refine al (Af s) ?_
    simp[↓zq,zs,ae,hp,h,h1]
 |
  .list l,hok=>by
  refine EH _ _ ((ca _).mpr trivial) ?_
  match l,hok with
  |[],hok=>simp[Ad,E.ba,↓zq,zs,ae,zt,bA,iD]
  |[x],hok=>simp[Ad,E.ba,↓zq,zs,ae,zt,bA,iD]
  |[x,y],hok=>simp[Ad,E.ba,↓zq,zs,ae,zt,bA,iD]
  |
   x::y::z::w::l,hok =>
   simp only[Ad,E.ba,↓zq,zs,ae,zt,bA,iD]
   exact⟨fun h=>absurd rfl h,fun _=>⟨fun _=>trivial,fun h=>by omega⟩⟩
  |
   [x,y,z],hok =>
   obtain⟨ok1,ok2,ok3,_⟩:=hok
   simp only[Ad,↓zq,zs,ae,zt,bA]
   refine⟨fun h=>absurd rfl h,fun _=>⟨fun h=>absurd rfl h,fun _=>?_⟩⟩
   refine al (sV x _) ?_
   simp only[E.ba,toNat_one,bf,↓zq,zs,ae,zt,gj,eQ,gk,kg,au,iD]
   refine⟨fun h=>?_,fun h=>⟨fun h1=>?_,fun h1=>⟨fun h2=>?_,fun h2=>?_⟩⟩⟩
   ·rw[if_pos h]
    refine⟨by omega,al (C4 y ok2) ?_⟩
    simp only[↓zq,zs,ae]
    refine⟨fun hy=>⟨by omega,al (C4 z ok3) ?_⟩,fun hy=>?_⟩
    ·simp only[↓zq,zs,ae,hy,bN]
    ·rw[hy];rfl
   ·rw[if_neg h,if_pos h1]
    refine⟨by omega,al (C4 y ok2) ?_⟩
    simp only[↓zq,zs,ae]
    refine⟨fun hy=>⟨by omega,al (C4 z ok3) ?_⟩,fun hy=>?_⟩
    ·simp only[↓zq,zs,ae,hy,bN]
    ·rw[hy];rfl
   ·rw[if_neg h,if_neg h1,if_pos h2]
    refine⟨by omega,by omega,al (Af _) ?_⟩
    simp only[↓zq,zs,ae]
    refine⟨fun hy=>⟨by omega,al (C4 z ok3) ?_⟩,fun hy=>?_⟩
    ·simp only[↓zq,zs,ae,hy,bN]
    ·rw[hy];rfl
   ·rw[if_neg h,if_neg h1,if_neg h2]
theorem ia:∀(e:E) (ar:List (List UInt8)),(cv e ar).isSome=iD e
 |
  .atom s,ar=>by
  simp only[cv,iD]
  by_cases h:s=[48]
  ·simp[h]
  ·by_cases h1:s=[49]
   ·simp[h1]
   ·rw[if_neg h,if_neg h1]
    by_cases h2:gh s=true
    ·simp[h2]
    ·rw[if_neg h2]
     by_cases h3:cI s=true
     ·rw[if_pos h3];cases bq s ar ar.length<;>simp[h3]
     ·rw[if_neg h3];simp[h,h1,h2,h3]
 | .list [],_=>rfl
 | .list [_],_=>rfl
 | .list [_,_],_=>rfl
 | .list (_::_::_::_::_),_=>rfl
 |
  .list [x,a,b],ar=>by
  have ha:=ia a ar
  have hb:=ia b ar
  have hb2:=ia b (ar++[a.at])
  rw[iD]
  by_cases h:x.at=[43]
  ·rw[jf ar h,if_pos h,<-ha,<-hb];cases cv a ar<;>cases cv b ar<;>rfl
  ·by_cases h1:x.at=[42]
   ·rw[im ar h1,if_neg h,if_pos h1,<-ha,<-hb];cases cv a ar<;>cases cv b ar<;>rfl
   ·by_cases h2:x.at=[114,101,99]
    ·rw[kF ar h2,if_neg h,if_neg h1,if_pos h2,<-hb2]
     cases cI a.at<;>cases cv b (ar++[a.at])<;>rfl
    ·rw[hD ar h h1 h2,if_neg h,if_neg h1,if_neg h2];rfl
mutual
def E.dN:E->Nat
 | .atom _=>1
 | .list l=>E.eJ l
def E.eJ:List E->Nat
 |[]=>0
 |e::l=>e.dN+E.eJ l
end
mutual
theorem Cq:∀e:E,e.dN<=e.sz
 | .atom s=>by simp[E.dN,E.sz]
 | .list l=>by have:=qp l;simp only[E.dN,E.sz];omega
theorem qp:∀l:List E,E.eJ l<=E.gT l
 |[]=>by simp[E.eJ,E.gT]
 |e::l=>by have:=Cq e;have:=qp l;simp only[E.eJ,E.gT];omega
end
theorem gZ:∀(l:List E) (i:Nat) (h:i<l.length),(E.ba l).getD i []=(l[i]).fP
 |e::l,0,_=>rfl
 |
  e::l,i+1,h=>by
  have:=gZ l i (by simpa using h)
  simp only[E.ba,List.getD_cons_succ,List.getElem_cons_succ];exact this
theorem uZ:∀(l:List E) (i:Nat) (h:i<l.length),E.eJ (l.drop i)=(l[i]).dN+E.eJ (l.drop (i+1)):=by
 intro l i h
 rw[aJ h];rfl
theorem qD:∀(l:List E) (i:Nat) (h:i<l.length),E.zx l->(l[i]).ok
 |e::l,0,_,h=>h.1
 |e::l,i+1,hi,h=>qD l i (by simpa using hi) h.2
theorem HW(l:List E)(hl:E.eJ l<1000000)(hll:l.length<1000000)(ih:∀i (h:i<l.length),ap Tryz.prog 46 [(l[i]).iT] [] (bA (.v (.int .i64 ((l[i]).dN:Int))))) :
 ∀(k i n:Nat),i+k=l.length->n+E.eJ (l.drop i)<=E.eJ l->Cp [.v (.int .i64 (n:Int)),.v (.int .i64 (i:Int))] [.cells [.v (.string (mk [])),.sl (E.ba l)]] (fI 1 [.v (.int .i64 ((n+E.eJ (l.drop i):Nat):Int))] [])
 |
  0,i,n,hi,hn=>by
  refine GJ _ _ _ _ ?_
  simp only[A1,↓zq,zs,ae,dj]
  have:l.drop i=[]:=bn (by omega)
  refine⟨fun h=>by omega,fun _=>?_⟩
  simp[fI,this,E.eJ]
 |
  k+1,i,n,hi,hn=>by
  have hlt:i<l.length:=by omega
  refine GJ _ _ _ _ ?_
  simp only[A1,↓zq,zs,ae,zt,dj,gZ l i hlt,eQ,gk,gj,au]
  refine⟨fun _=>⟨by omega,?_⟩,fun h=>by omega⟩
  refine al (ih i hlt) ?_
  have h1:=uZ l i hlt
  simp only[↓zq,zs,ae]
  rw[bk i (by omega),wrap64 _ (by omega) (by omega)]
  have:=HW l hl hll ih k (i+1) (n+(l[i]).dN) (by omega) (by omega)
  rw[h1,<-Nat.add_assoc]
  simpa using this
theorem qw:∀l:List E,l.length<=E.gT l
 |[]=>by simp[E.gT]
 |
  e::l=>by
  have:=qw l
  have:1<=e.sz:=by cases e<;>simp[E.sz]
  simp only[E.gT,aB];omega
theorem qI:∀(l:List E) (i:Nat) (h:i<l.length),(l[i]).sz<=E.gT l
 |e::l,0,_=>by simp[E.gT]
 |e::l,i+1,h=>by have:=qI l i (by simpa using h);simp only[E.gT,List.getElem_cons_succ];omega
theorem FH:∀(n:Nat) (e:E),e.sz<n->e.ok->e.sz<1000000->ap Tryz.prog 46 [e.iT] [] (bA (.v (.int .i64 (e.dN:Int))))
 |0,e,hn,_,_=>by omega
 |
  n+1,.atom s,hn,hok,hl=>by
  refine E0 _ _ ((bi).mpr trivial) ?_
  have hne:s≠[]:=hok
  simp only[CV,↓zq,zs,ae,zt,bA]
  exact⟨fun _=>rfl,fun h=>absurd h hne⟩
 |
  n+1,.list l,hn,hok,hl=>by
  refine E0 _ _ ((ca _).mpr trivial) ?_
  simp only[E.sz]at hn hl
  have h1:=qp l
  have h2:=qw l
  simp only[CV,↓zq,zs,ae,zt,bA]
  refine⟨fun h=>absurd rfl h,fun _=>?_⟩
  refine bY (HW l (by omega) (by omega) (fun i hi=>?_) l.length 0 0 (by omega) (by simp)) ?_
  ·have:=qI l i hi
   exact FH n (l[i]) (by omega) (qD l i hi hok) (by omega)
  ·simp[↓zq,zs,ae,E.dN]
theorem wN(e:E)(h:e.ok)(hl:e.sz<1000000):ap Tryz.prog 46 [e.iT] [] (bA (.v (.int .i64 (e.dN:Int)))):=FH (e.sz+1) e (by omega) h hl
theorem qo{x:E}(h:x.at≠[]):x.dN=1:=by cases x<;>simp[E.at,E.dN]at h |-
theorem wR{s:List UInt8}(h:cI s=true):s≠[]:=by rintro rfl;cases h
theorem iv:∀(e:E) (ar:List (List UInt8)) (t:Ty),cv e ar=some t->e.dN=t.aZ
 |
  .atom s,ar,t,h=>by
  simp only[cv]at h
  simp only[E.dN]
  split at h
  ·cases h;rfl
  ·split at h
   ·cases h;rfl
   ·split at h
    ·cases h;rfl
    ·split at h
     ·split at h<;>cases h<;>rfl
     ·cases h
 | .list [],_,_,h=>by cases h
 | .list [_],_,_,h=>by cases h
 | .list [_,_],_,_,h=>by cases h
 | .list (_::_::_::_::_),_,_,h=>by cases h
 |
  .list [x,a,b],ar,t,h=>by
  simp only[E.dN,E.eJ]
  by_cases h0:x.at=[43]
  ·rw[jf ar h0]at h
   have:=qo (x:=x) (by rw[h0];simp)
   split at h
   ·rename_i t1 t2 e1 e2
    cases h
    have:=iv a ar _ e1
    have:=iv b ar _ e2
    simp only[Ty.aZ];omega
   ·cases h
  ·by_cases h1:x.at=[42]
   ·rw[im ar h1]at h
    have:=qo (x:=x) (by rw[h1];simp)
    split at h
    ·rename_i t1 t2 e1 e2
     cases h
     have:=iv a ar _ e1
     have:=iv b ar _ e2
     simp only[Ty.aZ];omega
    ·cases h
   ·by_cases h2:x.at=[114,101,99]
    ·rw[kF ar h2]at h
     have:=qo (x:=x) (by rw[h2];simp)
     split at h
     ·rename_i hl
      have:=qo (wR hl)
      split at h
      ·rename_i t1 e1
       cases h
       have:=iv b _ _ e1
       simp only[Ty.aZ];omega
      ·cases h
     ·cases h
    ·rw[hD ar h0 h1 h2]at h;cases h
def kz(x:Option E)(b:Bool):AV->List Ob->Prop:=fun r o=>∃c:List UInt8,∃d:AV,LK.sl.has d/\r=.cV [.agg [.v (.string (mk c)),d],.v (.bool b)]/\(b=true->∃e,x=some e/\AV.agg [.v (.string (mk c)),d]=e.iT)
theorem wh(e:E):∃c:List UInt8,∃d:AV,LK.sl.has d/\e.iT=AV.agg [.v (.string (mk c)),d]:=by
 cases e with
 |atom s=>exact⟨s,_,(bi).mpr trivial,rfl⟩
 |list l=>exact⟨[],_,(ca _).mpr trivial,rfl⟩
theorem kz.ne(x:Option E)(b:Bool)(h:b=true->x.isSome=true):∃r o,kz x b r o:=by
 cases b with
 |false=>exact⟨_,[],[],.v (.slice none 0 0),(bi).mpr trivial,rfl,fun h=>by cases h⟩
 |
  true =>
  cases x with
  |none=>cases h rfl
  |
   some e =>
   obtain⟨c,d,hd,he⟩:=wh e
   exact⟨_,[],c,d,hd,rfl,fun _=>⟨e,rfl,he.symm⟩⟩
theorem Eg(s:List UInt8):ap Tryz.prog 34 [.v (.string (mk s))] [] (kz (pE s) (pE s).isSome):=by
 refine Kt _ ?_
 simp only[Fj,↓zq,zs,ae,zt,pE]
 refine⟨fun h=>?_,fun h=>?_⟩
 ·rw[if_pos (by omega)]
  exact⟨[],_,(bi).mpr trivial,rfl,fun h=>by cases h⟩
 ·rw[if_neg (by omega)]
  refine aT (Ji s (by omega) 300 (by omega) 0 (by omega)) (zm.ne _ _) ?_
  rintro r o ⟨rfl,hr⟩
  rw[aW]at hr
  cases hq:rd 300 s with
  |
   none =>
   rw[hq]at hr
   obtain⟨c,d,hd,rfl⟩:=hr
   simp only[↓zq,zs,ae,zt,bJ]
   refine⟨hd,c,d,hd,?_,fun h=>by cases h⟩
   have:((-1:Int)==(s.length:Int))=false:=by
    rw[beq_eq_false_iff_ne];omega
   rw[this];rfl
  |
   some q =>
   obtain⟨e,u⟩:=q
   rw[hq]at hr
   subst hr
   have hlt:=tI _ _ _ _ hq
   obtain⟨c,d,hd,he⟩:=wh e
   simp only[he,↓zq,zs,ae,zt,bJ]
   cases u with
   |
    nil =>
    refine⟨hd,c,d,hd,?_,fun _=>⟨e,rfl,he.symm⟩⟩
    simp
   |
    cons b u =>
    simp only[aB]at hlt |-
    refine⟨hd,c,d,hd,?_,fun h=>by cases h⟩
    have:(((s.length-(u.length+1):Nat):Int)==(s.length:Int))=false:=by simp;omega
    rw[this];rfl
def wQ(s:List UInt8):Option E:=match pE s with
 |none=>none
 |some e=>if iD e=true/\e.dN<=400 then some e else none
theorem JJ(s:List UInt8):ap Tryz.prog 42 [.v (.string (mk s))] [] (kz (wQ s) (wQ s).isSome):=by
 refine Kd _ ?_
 unfold HV
 refine aT (Eg s) (kz.ne _ _ (fun h=>h)) ?_
 rintro r o ⟨c,d,hd,rfl,hh⟩
 simp only[↓zq,zs,ae,zt,bJ,wQ]
 refine⟨hd,fun h=>?_,fun h=>?_⟩
 ·obtain⟨e,he,hce⟩:=hh h
  obtain⟨hok,hsz⟩:=mZ he
  rw[he,hce]
  refine al (C4 e hok) ?_
  simp only[↓zq,zs,ae]
  refine⟨fun hi=>?_,fun hi=>?_⟩
  ·refine al (wN e hok (by omega)) ?_
   simp only[↓zq,zs,ae,hi]
   refine⟨c,d,hd,?_,?_⟩
   ·rw[hce]
    by_cases h4:e.dN<=400
    ·rw[if_pos h4];exact congrArg (fun b=>AV.cV [e.iT,.v (.bool b)]) (decide_eq_true (show ((e.dN:Nat):Int)<=400 by omega))
    ·rw[if_neg h4];exact congrArg (fun b=>AV.cV [e.iT,.v (.bool b)]) (decide_eq_false (show ¬((e.dN:Nat):Int)<=400 by omega))
   ·split
    ·exact fun _=>⟨e,rfl,hce⟩
    ·exact fun h=>by cases h
  ·refine⟨c,d,hd,?_,?_⟩
   ·rw[hce,if_neg (by rw[hi];simp)];rfl
   ·rw[if_neg (by rw[hi];simp)];exact fun h=>by cases h
 ·have hn:pE s=none:=by cases hq:pE s<;>simp[hq]at h |-
  rw[hn]
  exact⟨c,d,hd,rfl,fun h=>by cases h⟩
theorem tt{s:List UInt8}{e:E}(h:wQ s=some e):pE s=some e/\iD e=true/\e.dN<=400:=by
 unfold wQ at h
 split at h
 ·cases h
 ·split at h
  ·rename_i e' h1 h2;cases h;exact⟨h1,h2⟩
  ·cases h
end Go.Proofs.Trees
namespace Go.Proofs.Trees
open Go Go.VL
def bS:Ty->Bool
 | .name s=>cI s
 | .plus a b=>bS a||bS b
 | .times a b=>bS a||bS b
 | .rc a=>bS a
 |_=>false
theorem fq:∀(t:Ty) (out:List (List UInt8)),(bE t out).any cI=(out.any cI||bS t)
 |
  .name s,out=>by
  simp only[bE,mR,bS]
  split
  ·rename_i h
   cases hs:cI s with
   |false=>simp
   |true=>rw[Bool.or_true,bu];exact⟨s,h,hs⟩
  ·simp
 | .plus a b,out=>by simp only[bE,bS,fq a,fq b,Bool.or_assoc]
 | .times a b,out=>by simp only[bE,bS,fq a,fq b,Bool.or_assoc]
 | .rc a,out=>by simp only[bE,bS,fq a]
 | .zero,out=>by simp[bE,bS]
 | .one,out=>by simp[bE,bS]
 | .cX u,out=>by simp[bE,bS]
theorem u4(t:Ty):t.closed = !bS t:=by simp[Ty.closed,fq]
def pl:Ty->Bool
 | .name s=>decide (s.length<=1)
 | .plus a b=>pl a&&pl b
 | .times a b=>pl a&&pl b
 | .rc a=>false
 |_=>true
theorem jN{lo hi:Nat}{s:List UInt8}(h:named lo hi s=true):∃c r,s=c::r/\lo<=c.toNat/\c.toNat<=hi:=by
 cases s with
 |nil=>cases h
 |cons c r=>simp only[named,aq,decide_eq_true_eq]at h;exact⟨c,r,rfl,by omega,by omega⟩
theorem eW{x a b:E}{ar:List (List UInt8)}{t:Ty}(hx:x.at=[43])(h:cv (.list [x,a,b]) ar=some t):∃t1 t2,cv a ar=some t1/\cv b ar=some t2/\t=.plus t1 t2:=by
 rw[jf ar hx]at h
 split at h
 ·rename_i t1 t2 e1 e2;cases h;exact⟨t1,t2,e1,e2,rfl⟩
 ·cases h
theorem ez{x a b:E}{ar:List (List UInt8)}{t:Ty}(hx:x.at=[42])(h:cv (.list [x,a,b]) ar=some t):∃t1 t2,cv a ar=some t1/\cv b ar=some t2/\t=.times t1 t2:=by
 rw[im ar hx]at h
 split at h
 ·rename_i t1 t2 e1 e2;cases h;exact⟨t1,t2,e1,e2,rfl⟩
 ·cases h
theorem db{x a b:E}{ar:List (List UInt8)}{t:Ty}(hx:x.at=[114,101,99])(h:cv (.list [x,a,b]) ar=some t):∃t1,cI a.at=true/\cv b (ar++[a.at])=some t1/\t=.rc t1:=by
 rw[kF ar hx]at h
 split at h
 ·rename_i hl
  split at h
  ·rename_i t1 e1;cases h;exact⟨t1,hl,e1,rfl⟩
  ·cases h
 ·cases h
theorem Ae{s:List UInt8}:zW s=match wQ s with|none=>none|some e=>cv e []:=by
 unfold zW wQ
 cases he:pE s with
 |none=>rfl
 |
  some e =>
  have hs:=ia e []
  simp only
  cases ht:cv e []with
  |
   none =>
   rw[ht]at hs
   rw[if_neg (by rw[<-hs];simp)]
  |
   some t =>
   rw[ht]at hs
   have ha:=iv e [] t ht
   by_cases h4:e.dN<=400
   ·rw[if_pos ⟨hs.symm,h4⟩];dsimp only;rw[if_neg (by omega)];exact ht.symm
   ·rw[if_neg (fun h=>h4 h.2)];dsimp only;rw[if_pos (by omega)]
end Go.Proofs.Trees
namespace Go.Proofs.Trees
open Go Go.VL
def pure:Ty->Bool
 | .zero=>true
 | .one=>true
 | .name s=>(s==[120])||(s==[121])||(s==[122])
 | .plus a b=>pure a&&pure b
 | .times a b=>pure a&&pure b
 |_=>false
def GW(v:Nat):Option Nat:=if v<=1000000000 then some v else none
def C5(n:Nat):Ty->Option Nat
 | .zero=>some 0
 | .one=>some 1
 | .name _=>some n
 | .plus a b=>match C5 n a,C5 n b with|some x,some y=>GW (x+y)|_,_=>none
 | .times a b=>match C5 n a,C5 n b with|some x,some y=>GW (x*y)|_,_=>none
 |_=>none
def FB(x:Option Nat):AV->List Ob->Prop:=fun r o=>∃v:Int,r=.cV [.v (.int .i64 v),.v (.bool x.isSome)]/\∀c,x=some c->v=(c:Int)
theorem FB.ne(x:Option Nat):∃r o,FB x r o:=by
 cases x with
 |none=>exact⟨_,[],0,rfl,fun c h=>by cases h⟩
 |some c=>exact⟨_,[],(c:Int),rfl,fun c' h=>by cases h;rfl⟩
end Go.Proofs.Trees
namespace Go.Proofs.Trees
open Go Go.VL Go.RowKit
abbrev dd(n:Nat):List UInt8:=Lib.decDigits n
theorem eM{k:Nat}(h:k<10):dd k=[aY (48+k)]:=by rw[dd,Lib.decDigits,dif_pos h]
theorem fK{k:Nat}(h:¬k<10):dd k=dd (k/10)++[aY (48+k%10)]:=by rw[dd,Lib.decDigits,dif_neg h]
theorem mX:∀(n k:Nat),k<n->(dd k).length<=k+1
 |0,k,h=>by omega
 |
  n+1,k,h=>by
  by_cases h1:k<10
  ·rw[eM h1];simp
  ·rw[fK h1]
   have:=mX n (k/10) (by omega)
   simp only[an,aB,aI];omega
theorem uC(d:Nat)(h:d<10):(Value.int .u8 (IntKind.wrap .u8 (IntKind.wrap .i64 (48+(d:Int)))))=.int .u8 ((aY (48+d)).toNat:Int):=by
 have:d=0\/d=1\/d=2\/d=3\/d=4\/d=5\/d=6\/d=7\/d=8\/d=9:=by omega
 rcases this with rfl|rfl|rfl|rfl|rfl|rfl|rfl|rfl|rfl|rfl<;>rfl
theorem nB(b:UInt8):bytesOf [[.v (.int .u8 (b.toNat:Int))]]=[b]:=by simp[bytesOf,tz]
theorem pI(b:UInt8):pa [[.v (.int .u8 (b.toNat:Int))]]:=⟨rfl,(qE _ _).mpr trivial,trivial⟩
theorem yU:∀(n k:Nat),k<n->k<1000000000->ap Tryz.prog 49 [.v (.int .i64 (k:Int))] [] (bA (.v (.string (mk (dd k)))))
 |0,k,h,_=>by omega
 |
  n+1,k,h,hk=>by
  refine KG _ ?_
  simp only[G0,↓zq,zs,ae,bA]
  refine⟨fun h=>by omega,fun _=>⟨fun h=>by omega,fun _=>⟨fun h1=>?_,fun h1=>⟨by omega,?_⟩⟩⟩⟩
  ·rw[uC k (by omega)]
   refine⟨pI _,?_⟩
   rw[nB,eM (by omega)];rfl
  ·have e1:IntKind.wrap .i64 (Int.tdiv (k:Int) 10)=((k/10:Nat):Int):=by
    rw[show Int.tdiv (k:Int) 10=((k/10:Nat):Int) from (Int.ofNat_tdiv k 10).symm,wrap64 _ (by omega) (by omega)]
   have e2:cQ (k:Int) 10=((k%10:Nat):Int):=(Int.ofNat_tmod k 10).symm
   rw[e1,e2,uC (k%10) (by omega)]
   refine al (yU n (k/10) (by omega) (by omega)) ?_
   have hl:=mX (k+1) (k/10) (by omega)
   simp only[↓zq,zs,ae,zt,nB]
   have h9:(k:Int)<1000000000:=by omega
   refine⟨by omega,pI _,?_,?_⟩
   ·show (mk (dd (k/10))).size+(mk [aY (48+k%10)]).size<=_
    rw[fO,fO];simp;omega
   ·show AV.v (.string (mk (dd (k/10))++mk [aY (48+k%10)]))=_
    rw[qc,fK (k:=k) (by omega)]
theorem vS(s:List UInt8)(d:AV)(hd:LK.sl.has d)(h:s≠[]):ap Tryz.prog 33 [.agg [.v (.string (mk s)),d]] [] (bA (.v (.string (mk [])))):=by
 refine Cn _ _ hd ?_
 simp only[yV,↓zq,zs,ae,zt,bA]
 exact⟨fun _=>trivial,fun h'=>absurd h' h⟩
theorem ym(e:E):AV.agg [.v (.string ((e.iT.cs.getD 0 .any).ai)),e.iT.cs.getD 1 .any]=e.iT:=by cases e<;>rfl
mutual
def kB:E->List UInt8
 | .atom s=>s
 | .list []=>[40,41]
 | .list (e::l)=>40::(kB e++(iF l++[41]))
def iF:List E->List UInt8
 |[]=>[]
 |e::l=>32::(kB e++iF l)
end
theorem uU:∀(l:List E) (i:Nat) (h:i<l.length),iF (l.drop i)=32::(kB l[i]++iF (l.drop (i+1))):=by
 intro l i h
 rw[aJ h,iF]
theorem DK(l:List E)(hll:l.length<1000000000000)(ih:∀i (h:i<l.length),ap Tryz.prog 26 [(l[i]).iT] [] (bA (.v (.string (mk (kB l[i])))))) :
 ∀(k i:Nat) (out:List UInt8),i+k=l.length->1<=i->out.length+(iF (l.drop i)).length<=1000000000000->vQ [.v (.string (mk out)),.v (.int .i64 (i:Int))] [.cells [.v (.string (mk [])),.sl (E.ba l)]] (fI 1 [.v (.string (mk (out++iF (l.drop i))))] [])
 |
  0,i,out,hi,h1,hn=>by
  refine zu _ _ _ _ ?_
  simp only[vR,↓zq,zs,ae,dj]
  have:l.drop i=[]:=bn (by omega)
  refine⟨fun h=>by omega,fun _=>?_⟩
  simp[fI,this,iF]
 |
  k+1,i,out,hi,h1,hn=>by
  have hlt:i<l.length:=by omega
  have hd:=uU l i hlt
  rw[hd]at hn
  simp only[aB,an]at hn
  refine zu _ _ _ _ ?_
  simp only[vR,↓zq,zs,ae,zt,dj,gZ l i hlt,eQ,gk,gj,au]
  refine⟨fun _=>⟨fun _=>⟨by omega,by omega,?_⟩,fun h=>by omega⟩,fun h=>by omega⟩
  refine al (ih i hlt) ?_
  simp only[↓zq,zs,ae,zt]
  refine⟨by simp;omega,?_⟩
  rw[bk i (by omega),hd]
  have:=DK l hll ih k (i+1) (out++[32]++kB l[i]) (by omega) (by omega) (by simp;omega)
  simpa using this
theorem uR:∀(l:List E) (i:Nat) (h:i<l.length),(kB l[i]).length<=(iF l).length
 |e::l,0,_=>by simp only[iF,List.getElem_cons_zero,aB,an];omega
 |e::l,i+1,h=>by have:=uR l i (by simpa using h);simp only[iF,List.getElem_cons_succ,aB,an];omega
theorem sb:∀l:List E,l.length<=(iF l).length
 |[]=>by simp[iF]
 |e::l=>by have:=sb l;simp only[iF,aB,an];omega
theorem yh:∀(n:Nat) (e:E),e.sz<n->e.ok->(kB e).length<=900000000000->ap Tryz.prog 26 [e.iT] [] (bA (.v (.string (mk (kB e)))))
 |0,e,hn,_,_=>by omega
 |
  n+1,.atom s,hn,hok,hl=>by
  refine As _ _ ((bi).mpr trivial) ?_
  have hne:s≠[]:=hok
  simp only[yt,↓zq,zs,ae,zt,bA]
  exact⟨fun _=>rfl,fun h=>absurd h hne⟩
 |
  n+1,.list [],hn,hok,hl=>by
  refine As _ _ ((ca _).mpr trivial) ?_
  simp only[yt,↓zq,zs,ae,zt,bA]
  refine⟨fun h=>absurd rfl h,fun _=>?_⟩
  have h1:vQ [.v (.string (mk [40])),.v (.int .i64 0)] [.cells [.v (.string (mk [])),.sl (E.ba [])]] (fI 1 [.v (.string (mk [40]))] []):=by
   refine zu _ _ _ _ ?_
   simp[vR,↓zq,zs,ae,E.ba,fI]
  refine bY h1 ?_
  simp only[↓zq,zs,ae,zt]
  exact⟨by simp,rfl⟩
 |
  n+1,.list (x::l),hn,hok,hl=>by
  refine As _ _ ((ca _).mpr trivial) ?_
  simp only[E.sz,E.gT]at hn
  simp only[kB,aB,an,aI]at hl
  have h2:=sb l
  simp only[yt,↓zq,zs,ae,zt,bA]
  refine⟨fun h=>absurd rfl h,fun _=>?_⟩
  have hL:vQ [.v (.string (mk [40])),.v (.int .i64 0)] [.cells [.v (.string (mk [])),.sl (E.ba (x::l))]] (fI 1 [.v (.string (mk ([40]++kB x++iF l)))] []):=by
   refine zu _ _ _ _ ?_
   simp only[vR,E.ba,Int.toNat_zero,↓zq,zs,ae,zt,dj,eQ,gk,gj,au]
   refine⟨fun _=>⟨fun h=>by omega,fun _=>⟨by omega,?_⟩⟩,fun h=>by omega⟩
   refine al (yh n x (by omega) hok.1 (by omega)) ?_
   simp only[↓zq,zs,ae,zt]
   refine⟨by simp;omega,?_⟩
   have:=DK (x::l) (by simp;omega) (fun i hi=>by
    have h3:=qI (x::l) i hi
    simp only[E.gT]at h3
    refine yh n _ (by omega) (qD _ i hi hok) ?_
    have h4:=uR (x::l) i hi
    simp only[iF,aB,an]at h4
    omega) l.length 1 ([40]++kB x) (by simp;omega) (by omega) (by simp;omega)
   rw[show IntKind.wrap .i64 (0+1)=1 from rfl]
   simpa[E.ba]using this
  refine bY hL ?_
  simp only[↓zq,zs,ae,zt]
  refine⟨by simp;omega,?_⟩
  simp[kB]
theorem I6(e:E)(h:e.ok)(hl:(kB e).length<=900000):ap Tryz.prog 26 [e.iT] [] (bA (.v (.string (mk (kB e))))):=yh (e.sz+1) e (by omega) h (by omega)
mutual
def E.nd:E->Nat
 | .atom _=>1
 | .list []=>1
 | .list (_::l)=>1+E.rn l
def E.rn:List E->Nat
 |[]=>0
 |e::l=>e.nd+E.rn l
end
mutual
theorem xg:∀e:E,e.nd<=e.sz
 | .atom s=>by simp[E.nd,E.sz]
 | .list []=>by simp[E.nd,E.sz,E.gT]
 | .list (x::l)=>by have:=tc l;simp only[E.nd,E.sz,E.gT];omega
theorem tc:∀l:List E,E.rn l<=E.gT l
 |[]=>by simp[E.rn,E.gT]
 |e::l=>by have:=xg e;have:=tc l;simp only[E.rn,E.gT];omega
end
theorem vU:∀(l:List E) (i:Nat) (h:i<l.length),E.rn (l.drop i)=(l[i]).nd+E.rn (l.drop (i+1)):=by
 intro l i h
 rw[aJ h];rfl
theorem Fo(l:List E)(hl:E.rn l<1000000)(hll:l.length<1000000)(ih:∀i (h:i<l.length),ap Tryz.prog 36 [(l[i]).iT] [] (bA (.v (.int .i64 ((l[i]).nd:Int))))) :
 ∀(k i n:Nat),i+k=l.length->n+E.rn (l.drop i)<=1+E.rn l->vP [.v (.int .i64 (n:Int)),.v (.int .i64 (i:Int))] [.cells [.v (.string (mk [])),.sl (E.ba l)]] (fI 1 [.v (.int .i64 ((n+E.rn (l.drop i):Nat):Int))] [])
 |
  0,i,n,hi,hn=>by
  refine zl _ _ _ _ ?_
  simp only[wm,↓zq,zs,ae,dj]
  have:l.drop i=[]:=bn (by omega)
  refine⟨fun h=>by omega,fun _=>?_⟩
  simp[fI,this,E.rn]
 |
  k+1,i,n,hi,hn=>by
  have hlt:i<l.length:=by omega
  refine zl _ _ _ _ ?_
  simp only[wm,↓zq,zs,ae,zt,dj,gZ l i hlt,eQ,gk,gj,au]
  refine⟨fun _=>⟨by omega,?_⟩,fun h=>by omega⟩
  refine al (ih i hlt) ?_
  have h1:=vU l i hlt
  simp only[↓zq,zs,ae]
  rw[bk i (by omega),wrap64 _ (by omega) (by omega)]
  have:=Fo l hl hll ih k (i+1) (n+(l[i]).nd) (by omega) (by omega)
  rw[h1,<-Nat.add_assoc]
  simpa using this
theorem Gb:∀(n:Nat) (e:E),e.sz<n->e.sz<900000->ap Tryz.prog 36 [e.iT] [] (bA (.v (.int .i64 (e.nd:Int))))
 |0,e,hn,_=>by omega
 |
  n+1,.atom s,hn,hl=>by
  refine DJ _ _ ((bi).mpr trivial) ?_
  simp only[Bo]
  have hL:vP [.v (.int .i64 1),.v (.int .i64 1)] [.cells [.v (.string (mk s)),.v (.slice none 0 0)]] (fI 1 [.v (.int .i64 1)] []):=by
   refine zl _ _ _ _ ?_
   simp[wm,↓zq,zs,ae,fI]
  refine bY hL ?_
  simp[↓zq,zs,ae,bA,E.nd]
 |
  n+1,.list l,hn,hl=>by
  refine DJ _ _ ((ca _).mpr trivial) ?_
  simp only[E.sz]at hn hl
  simp only[Bo]
  match l,hn,hl with
  |
   [],hn,hl =>
   have hL:vP [.v (.int .i64 1),.v (.int .i64 1)] [.cells [.v (.string (mk [])),.sl (E.ba [])]] (fI 1 [.v (.int .i64 1)] []):=by
    refine zl _ _ _ _ ?_
    simp[wm,↓zq,zs,ae,fI,E.ba]
   refine bY hL ?_
   simp[↓zq,zs,ae,bA,E.nd]
  |
   x::l,hn,hl =>
   simp only[E.gT]at hn hl
   have h1:=tc l
   have h2:=qw l
   have h0:=xg x
   refine bY (Fo (x::l) (by simp only[E.rn];omega) (by simp;omega) (fun i hi=>?_) l.length 1 1 (by simp;omega) (by simp[E.rn])) ?_
   ·have:=qI (x::l) i hi
    simp only[E.gT]at this
    exact Gb n _ (by omega) (by omega)
   ·simp[↓zq,zs,ae,E.nd,bA]
theorem J6(e:E)(hl:e.sz<900000):ap Tryz.prog 36 [e.iT] [] (bA (.v (.int .i64 (e.nd:Int)))):=Gb (e.sz+1) e (by omega) hl
inductive Vl where
 |u
 |el (k:Nat)
 |l (v:Vl)
 |r (v:Vl)
 |f (v:Vl)
 |p (a b:Vl)
abbrev w7(k:Nat):List UInt8:=101::dd k
abbrev jO:AV:=.v (.pointer none)
def Vl.cu:Vl->AV
 | .u=>.ptr [.v (.int .u8 117),.v (.string (mk [])),jO,jO]
 | .el k=>.ptr [.v (.int .u8 101),.v (.string (mk (w7 k))),jO,jO]
 | .l v=>.ptr [.v (.int .u8 108),.v (.string (mk [])),v.cu,jO]
 | .r v=>.ptr [.v (.int .u8 114),.v (.string (mk [])),v.cu,jO]
 | .f v=>.ptr [.v (.int .u8 102),.v (.string (mk [])),v.cu,jO]
 | .p a b=>.ptr [.v (.int .u8 112),.v (.string (mk [])),a.cu,b.cu]
def Vl.dq:Vl->E
 | .u=>.atom [117]
 | .el k=>.atom (w7 k)
 | .l v=>.list [.atom [108],v.dq]
 | .r v=>.list [.atom [114],v.dq]
 | .f v=>.list [.atom [102],v.dq]
 | .p a b=>.list [.atom [112],a.dq,b.dq]
def Vl.nodes:Vl->Nat
 | .l v=>1+v.nodes
 | .r v=>1+v.nodes
 | .f v=>1+v.nodes
 | .p a b=>1+a.nodes+b.nodes
 |_=>1
def Vl.lP(n:Nat):Vl->Prop
 | .el k=>k<n
 | .l v=>v.lP n
 | .r v=>v.lP n
 | .f v=>v.lP n
 | .p a b=>a.lP n/\b.lP n
 | .u=>True
abbrev Vl.pr(v:Vl):List UInt8:=kB v.dq
theorem aU(v:Vl):LK.has .ptr v.cu=True:=by cases v<;>simp[Vl.cu,du]
theorem fT(v:Vl):v.cu.isNil=false:=by cases v<;>rfl
theorem nh:∀v:Vl,v.dq.ok
 | .u=>by simp[Vl.dq,E.ok]
 | .el k=>by simp[Vl.dq,E.ok]
 | .l v=>⟨by simp[E.ok],nh v,trivial⟩
 | .r v=>⟨by simp[E.ok],nh v,trivial⟩
 | .f v=>⟨by simp[E.ok],nh v,trivial⟩
 | .p a b=>⟨by simp[E.ok],nh a,nh b,trivial⟩
theorem lm:∀v:Vl,v.dq.nd=v.nodes
 | .u=>rfl
 | .el k=>rfl
 | .l v=>by simp[Vl.dq,E.nd,E.rn,Vl.nodes,lm v]
 | .r v=>by simp[Vl.dq,E.nd,E.rn,Vl.nodes,lm v]
 | .f v=>by simp[Vl.dq,E.nd,E.rn,Vl.nodes,lm v]
 | .p a b=>by simp[Vl.dq,E.nd,E.rn,Vl.nodes,lm a,lm b,Nat.add_assoc]
theorem jL:∀v:Vl,v.lP 100->v.pr.length<=200*v.nodes
 | .u,_=>by simp[Vl.pr,Vl.dq,kB,Vl.nodes]
 |
  .el k,h=>by
  have h':k<100:=h
  have:=mX 1000 k (by omega)
  simp only[Vl.pr,Vl.dq,kB,Vl.nodes,aB];omega
 | .l v,h=>by have:=jL v h;simp only[Vl.pr,Vl.dq,kB,iF,Vl.nodes,aB,an,aI]at this |-;omega
 | .r v,h=>by have:=jL v h;simp only[Vl.pr,Vl.dq,kB,iF,Vl.nodes,aB,an,aI]at this |-;omega
 | .f v,h=>by have:=jL v h;simp only[Vl.pr,Vl.dq,kB,iF,Vl.nodes,aB,an,aI]at this |-;omega
 | .p a b,h=>by have:=jL a h.1;have:=jL b h.2;simp only[Vl.pr,Vl.dq,kB,iF,Vl.nodes,aB,an,aI]at *;omega
theorem yF(a b:AV)(h:LK.ptr.has a)(h':LK.ptr.has b):ap Tryz.prog 61 [a,b] [] (bA (.ptr [.v (.int .u8 112),.v (.string (mk [])),a,b])):=by
 refine KA _ _ h h' ?_
 simp[Ev,↓zq,zs,ae,bA]
theorem cZ(v:Vl):1<=v.nodes:=by cases v<;>simp[Vl.nodes]<;>omega
theorem Dk:∀(v:Vl),v.nodes<1000000->ap Tryz.prog 81 [v.cu] [] (bA (.v (.int .i64 (v.nodes:Int))))
 | .u,h=>by refine Dl _ ((aU _).mpr trivial) ?_;simp[AL,Vl.cu,↓zq,zs,ae,bA,Vl.nodes]
 | .el k,h=>by refine Dl _ ((aU _).mpr trivial) ?_;simp[AL,Vl.cu,↓zq,zs,ae,bA,Vl.nodes]
 |
  .l v,h=>by
  simp only[Vl.nodes]at h
  refine Dl _ ((aU _).mpr trivial) ?_
  simp only[AL,Vl.cu,↓zq,zs,ae,aU,fT]
  refine⟨by omega,fun _=>⟨by omega,?_⟩,fun h=>(by cases h)⟩
  refine al (Dk v (by omega)) ?_
  simp only[↓zq,zs,ae,bA,Vl.nodes]
  rw[wrap64 _ (by omega) (by omega)]
  simp
 |
  .r v,h=>by
  simp only[Vl.nodes]at h
  refine Dl _ ((aU _).mpr trivial) ?_
  simp only[AL,Vl.cu,↓zq,zs,ae,aU,fT]
  refine⟨by omega,fun _=>⟨by omega,?_⟩,fun h=>(by cases h)⟩
  refine al (Dk v (by omega)) ?_
  simp only[↓zq,zs,ae,bA,Vl.nodes]
  rw[wrap64 _ (by omega) (by omega)]
  simp
 |
  .f v,h=>by
  simp only[Vl.nodes]at h
  refine Dl _ ((aU _).mpr trivial) ?_
  simp only[AL,Vl.cu,↓zq,zs,ae,aU,fT]
  refine⟨by omega,fun _=>⟨by omega,?_⟩,fun h=>(by cases h)⟩
  refine al (Dk v (by omega)) ?_
  simp only[↓zq,zs,ae,bA,Vl.nodes]
  rw[wrap64 _ (by omega) (by omega)]
  simp
 |
  .p a b,h=>by
  simp only[Vl.nodes]at h
  refine Dl _ ((aU _).mpr trivial) ?_
  simp only[AL,Vl.cu,↓zq,zs,ae,aU,fT]
  refine⟨by omega,fun _=>⟨by omega,?_⟩,fun h=>(by cases h)⟩
  refine al (Dk a (by omega)) ?_
  simp only[↓zq,zs,ae,aU,fT]
  rw[wrap64 (1+(a.nodes:Int)) (by omega) (by omega)]
  refine⟨by omega,fun _=>⟨by omega,?_⟩,fun h=>(by cases h)⟩
  refine al (Dk b (by omega)) ?_
  simp only[↓zq,zs,ae,bA,Vl.nodes]
  rw[wrap64 _ (by omega) (by omega)]
  congr 2
end Go.Proofs.Trees
namespace Go.Proofs.Trees
open Go Go.VL Go.RowKit
def vC:List UInt8->Nat->Option Nat
 |[],n=>some n
 |b::r,n=>if ga b=true then vC r (10*n+(b.toNat-48))else none
def ek(s:List UInt8):Option Nat :=
 if s.length=2\/s.length=3 then(if s.getD 0 0=101/\¬(s.length=3/\s.getD 1 0=48)then vC (s.drop 1) 0 else none)else none
def wG(s:List UInt8):Int:=match ek s with|some k=>(k:Int)|none=>-1
theorem H6(s:List UInt8)(hs:s.length<=3):∀(k i n:Nat),i+k=s.length->1<=i->(n+1)*10 ^ k<=1000->Bn [.v (.string (mk s)),.v (.int .i64 (n:Int)),.v (.int .i64 (i:Int))] []
 (pj (match vC (s.drop i) n with|some m=>(1,[.v (.int .i64 (m:Int))],[])|none=>(2,[.v (.int .i64 (-1))],[])))
 |
  0,i,n,hi,h1,hn=>by
  refine FW _ _ _ ?_
  have hd:s.drop i=[]:=bn (by omega)
  simp only[At,↓zq,zs,ae,zt,hd,vC]
  exact⟨fun h=>by omega,fun _=>by first|trivial|rfl⟩
 |
  k+1,i,n,hi,h1,hn=>by
  have hlt:i<s.length:=by omega
  refine FW _ _ _ ?_
  rw[drop_cons hlt,vC]
  simp only[At,↓zq,zs,ae,zt,j4 s i hlt]
  generalize s.getD i 0=b
  have hb:=b.toNat_lt
  refine⟨fun _=>⟨by omega,fun h48=>?_,fun h48=>⟨by omega,fun h57=>?_,fun h57=>⟨by omega,?_⟩⟩⟩,fun h=>by omega⟩
  ·have:ga b=false:=by simp only[ga,decide_eq_false_iff_not];omega
   rw[this];rfl
  ·have:ga b=false:=by simp only[ga,decide_eq_false_iff_not];omega
   rw[this];rfl
  ·have:ga b=true:=by simp only[ga,decide_eq_true_eq];omega
   rw[if_pos this]
   have hk:k=0\/k=1:=by omega
   have hn2:n*10<=1000:=by
    rcases hk with rfl|rfl<;>simp at hn<;>omega
   have e8:IntKind.wrap .u8 ((b.toNat:Int)-48)=((b.toNat-48:Nat):Int):=by
    have:b.toNat=48\/b.toNat=49\/b.toNat=50\/b.toNat=51\/b.toNat=52\/b.toNat=53\/b.toNat=54\/b.toNat=55\/b.toNat=56\/b.toNat=57:=by omega
    rcases this with h|h|h|h|h|h|h|h|h|h<;>rw[h]<;>rfl
   rw[e8,bk i (by omega),wrap64 ((b.toNat-48:Nat):Int) (by omega) (by omega),wrap64 (10*(n:Int)) (by omega) (by omega),wrap64 _ (by omega) (by omega)]
   have e:(10*(n:Int)+((b.toNat-48:Nat):Int))=((10*n+(b.toNat-48):Nat):Int):=by omega
   rw[e]
   exact H6 s hs k (i+1) _ (by omega) (by omega) (by rcases hk with rfl|rfl<;>simp at hn |-<;>omega)
theorem D1(s:List UInt8):ap Tryz.prog 66 [.v (.string (mk s))] [] (bA (.v (.int .i64 (wG s)))):=by
 refine Jq _ ?_
 unfold EV
 refine al (ye _ _ _) ?_
 simp only[↓zq,zs,ae,zt,zM,bA]
 have hL:∀(Q:Nat->List AV->List Ob->Prop),(s.length=2\/s.length=3)->s.getD 0 0=101->¬(s.length=3/\s.getD 1 0=48)->(Q 0 [.v (.int .i64 (wG s))] []) ->
  dM Tryz.prog 49 (.loop xV xb [.v (.string (mk s)),.v (.int .i64 0),.v (.int .i64 1)] [] (fun y2 q2=>.ak (LK.has (.int .i64) (y2.headD .any))<|.done 0 [.v (.int .i64 ((y2.headD .any).toInt))] []) (fun y2 q2=>.ak (LK.has (.int .i64) (y2.headD .any))<|.done 0 [.v (.int .i64 ((y2.headD .any).toInt))] [])) Q:=by
  intro Q hl h0 h1 hQ
  have e:ek s=vC (s.drop 1) 0:=by rw[ek,if_pos hl,if_pos ⟨h0,h1⟩]
  refine gF (H6 s (by omega) (s.length-1) 1 0 (by omega) (by omega) (by rcases hl with h|h<;>rw[h]<;>decide)) (fun ys o e'=>?_) (fun ys o e'=>?_)
  ·cases hq:vC (s.drop 1) 0<;>rw[hq]at e'<;>cases e'
   rw[hq]at e
   simp only[wG,e]at hQ
   simp only[↓zq,zs,ae];exact hQ
  ·cases hq:vC (s.drop 1) 0<;>rw[hq]at e'<;>cases e'
   rw[hq]at e
   simp only[wG,e]at hQ
   simp only[↓zq,zs,ae];exact hQ
 have hz:∀{i:Nat},i<s.length->bt (mk s) (i:Int)=((s.getD i 0).toNat:Int):=fun h=>j4 s _ h
 refine⟨fun h=>?_,fun h=>⟨?_,fun h0=>?_,fun h0=>⟨fun h3=>⟨by omega,fun h1=>?_,fun h1=>?_⟩,fun h3=>?_⟩⟩⟩
 ·have h':¬(2<=(s.length:Int)/\(s.length:Int)<=3):=by simpa using h
  rw[wG,ek,if_neg (by omega)]
 ·have h':2<=(s.length:Int)/\(s.length:Int)<=3:=by simpa using h
  omega
 ·have h':2<=(s.length:Int)/\(s.length:Int)<=3:=by simpa using h
  have e0:=hz (i:=0) (by omega)
  simp only[co,cF]at e0
  rw[e0]at h0
  rw[wG,ek,if_pos (by omega),if_neg]
  rintro⟨e,_⟩
  rw[e]at h0;exact h0 rfl
 ·have h':2<=(s.length:Int)/\(s.length:Int)<=3:=by simpa using h
  have e1:=hz (i:=1) (by omega)
  simp only[co,cF]at e1
  rw[e1]at h1
  rw[wG,ek,if_pos (by omega),if_neg]
  rintro⟨_,e⟩
  refine e ⟨by omega,?_⟩
  rw[<-UInt8.toNat_inj];show (s.getD 1 0).toNat=48;omega
 ·have h':2<=(s.length:Int)/\(s.length:Int)<=3:=by simpa using h
  have e0:=hz (i:=0) (by omega)
  have e1:=hz (i:=1) (by omega)
  simp only[co,cF]at e0 e1
  rw[e0]at h0;rw[e1]at h1
  refine hL _ (by omega) ?_ ?_ ⟨rfl,rfl⟩
  ·rw[<-UInt8.toNat_inj];show (s.getD 0 0).toNat=101;omega
  ·rintro⟨_,e⟩;rw[e]at h1;exact h1 rfl
 ·have h':2<=(s.length:Int)/\(s.length:Int)<=3:=by simpa using h
  have e0:=hz (i:=0) (by omega)
  simp only[co,cF]at e0
  rw[e0]at h0
  refine hL _ (by omega) ?_ ?_ ⟨rfl,rfl⟩
  ·rw[<-UInt8.toNat_inj];show (s.getD 0 0).toNat=101;omega
  ·rintro⟨e,_⟩;omega
theorem mD:∀(l:List UInt8) (n:Nat),(vC l n).isSome=l.all ga
 |[],n=>rfl
 |
  b::l,n=>by
  rw[vC]
  cases hb:ga b with
  |true=>rw[if_pos rfl,mD l];simp[hb]
  |false=>rw[if_neg (by simp)];simp[hb]
theorem ED(s:List UInt8):ap Tryz.prog 93 [.v (.string (mk s))] [] (bA (.v (.bool (ek s).isSome))):=by
 refine Jk _ ?_
 simp only[FE,↓zq,zs,ae,zt,bA]
 have hz:∀{i:Nat},i<s.length->bt (mk s) (i:Int)=((s.getD i 0).toNat:Int):=fun h=>j4 s _ h
 refine⟨fun h=>?_,fun h=>⟨fun h3=>?_,fun h3=>?_⟩⟩
 ·rw[ek,if_neg (by omega)];rfl
 ·rw[ek,if_neg (by omega)];rfl
 ·have e0:=hz (i:=0) (by omega)
  have e1:=hz (i:=1) (by omega)
  simp only[co,cF]at e0 e1
  rw[e0,e1]
  have hx:s.drop (bB 1)=s.drop 1:=rfl
  refine⟨by omega,fun h0=>?_,fun h0=>⟨by omega,?_⟩⟩
  ·rw[ek,if_pos (by omega),if_neg]
   ·rfl
   ·rintro⟨e,_⟩;rw[e]at h0;exact h0 rfl
  ·rw[hx]
   refine al (D2 (s.drop 1) Ca (by simp;omega) (by decide) (by decide)) ?_
   simp only[↓zq,zs,ae,zt]
   have h101:s.getD 0 0=101:=by rw[<-UInt8.toNat_inj];show (s.getD 0 0).toNat=101;omega
   have hall:Lib.trimS (s.drop 1) Ca=[]↔(s.drop 1).all ga=true:=by
    rw[pO]
    have:(fun x=>Ca.contains x)=ga:=funext ru
    rw[this]
   refine⟨fun ht=>?_,fun ht=>⟨fun h2=>?_,fun h2=>⟨by omega,?_⟩⟩⟩
   ·have:(s.drop 1).all ga=false:=by
     cases hq:(s.drop 1).all ga with
     |false=>rfl
     |true=>exact absurd (hall.2 hq) ht
    rw[ek,if_pos (by omega)]
    split
    ·rw[mD,this]
    ·rfl
   ·have hq:=hall.1 ht
    rw[ek,if_pos (by omega),if_pos ⟨h101,by omega⟩,mD,hq]
   ·have hq:=hall.1 ht
    rw[ek,if_pos (by omega)]
    by_cases h48:s.getD 1 0=48
    ·rw[if_neg (by rintro⟨_,e⟩;exact e ⟨by omega,h48⟩),h48];rfl
    ·rw[if_pos ⟨h101,fun e=>h48 e.2⟩,mD,hq]
     have:¬((s.getD 1 0).toNat:Int)=48:=fun e=>h48 (by rw[<-UInt8.toNat_inj];show (s.getD 1 0).toNat=48;omega)
     rw[bne_iff_ne.2 this]
theorem pF{s:List UInt8}{k:Nat}(h:ek s=some k):s=w7 k/\k<100:=by
 have key1:∀a:Fin 256,ga (aY a.val)=true->vC [aY a.val] 0=some ((aY a.val).toNat-48)/\(aY a.val).toNat-48<10/\[aY a.val]=[aY (48+((aY a.val).toNat-48))]:=by decide +kernel
 unfold ek at h
 split at h
 ·rename_i hl
  split at h
  ·rename_i hh
   obtain⟨h0,h1⟩:=hh
   rcases hl with hl|hl
   ·match s,hl with
    |
     [c,a],_ =>
     simp only[a8]at h0
     subst h0
     simp only[List.drop_succ_cons,aW,vC]at h
     split at h
     ·rename_i ha
      have:=key1 ⟨a.toNat,a.toNat_lt⟩ (by simpa using ha)
      simp only[UInt8.ofNat_toNat]at this
      cases h
      refine⟨?_,by omega⟩
      rw[w7,eM (by omega)]
      simp only[Nat.mul_zero,aP]
      rw[<-this.2.2]
     ·cases h
   ·match s,hl with
    |
     [c,a,b],_ =>
     simp only[a8,List.getD_cons_succ,aB,aI,true_and]at h0 h1
     subst h0
     simp only[List.drop_succ_cons,aW,vC]at h
     split at h
     ·rename_i ha
      split at h
      ·rename_i hb
       have k1:=key1 ⟨a.toNat,a.toNat_lt⟩ (by simpa using ha)
       have k2:=key1 ⟨b.toNat,b.toNat_lt⟩ (by simpa using hb)
       simp only[UInt8.ofNat_toNat]at k1 k2
       have ha':48<=a.toNat/\a.toNat<=57:=by simpa[ga]using ha
       have hb':48<=b.toNat/\b.toNat<=57:=by simpa[ga]using hb
       have h48:a.toNat≠48:=fun e=>h1 (by rw[<-UInt8.toNat_inj];simpa using e)
       cases h
       simp only[Nat.mul_zero,aP]
       refine⟨?_,by omega⟩
       rw[w7,fK (by omega),eM (by omega)]
       have e1:(10*(a.toNat-48)+(b.toNat-48))/10=a.toNat-48:=by omega
       have e2:(10*(a.toNat-48)+(b.toNat-48))%10=b.toNat-48:=by omega
       rw[e1,e2,<-k1.2.2,<-k2.2.2];rfl
      ·cases h
     ·cases h
  ·cases h
 ·cases h
theorem xt(k:Nat)(h:k<100):ek (w7 k)=some k:=by
 have e:∀k,k<100->dd k=if k<10 then [aY (48+k)]else [aY (48+k/10),aY (48+k%10)]:=by
  intro k hk
  by_cases h1:k<10
  ·rw[eM h1,if_pos h1]
  ·rw[fK h1,eM (by omega),if_neg h1];rfl
 have key:∀k:Fin 100,ek (101::(if k.val<10 then [aY (48+k.val)]else [aY (48+k.val/10),aY (48+k.val%10)]))=some k.val:=by decide +kernel
 rw[w7,e k h];exact key ⟨k,h⟩
theorem CU(k:Nat)(h:k<100):wG (w7 k)=(k:Int):=by rw[wG,xt k h]
def uz:E->Bool
 | .atom s=>(s==[117])||(ek s).isSome
 | .list [x,a]=>((x.at==[108])||(x.at==[114])||(x.at==[102]))&&uz a
 | .list [x,a,b]=>(x.at==[112])&&(uz a&&uz b)
 | .list _=>false
def fH:E->Option Vl
 | .atom s=>if s=[117]then some .u else match ek s with|some k=>some (.el k)|none=>none
 |
  .list [x,a]=>match fH a with
  |none=>none
  |some v=>if x.at=[108]then some (.l v)else if x.at=[114]then some (.r v)else if x.at=[102]then some (.f v)else none
 | .list [x,a,b]=>if x.at=[112]then(match fH a,fH b with|some v,some w=>some (.p v w)|_,_=>none)else none
 | .list _=>none
theorem my:∀e:E,(fH e).isSome=uz e
 |
  .atom s=>by
  simp only[fH,uz]
  by_cases h:s=[117]
  ·simp[h]
  ·rw[if_neg h];cases ek s<;>simp[h]
 | .list []=>rfl
 | .list [_]=>rfl
 |
  .list [x,a]=>by
  have ha:=my a
  rw[fH,uz,<-ha]
  cases fH a with
  |none=>simp
  |
   some v =>
   by_cases h1:x.at=[108]
   ·simp[h1]
   ·by_cases h2:x.at=[114]
    ·simp[h2]
    ·by_cases h3:x.at=[102]
     ·simp[h3]
     ·simp[h1,h2,h3]
 |
  .list [x,a,b]=>by
  have ha:=my a
  have hb:=my b
  rw[fH,uz,<-ha,<-hb]
  by_cases h1:x.at=[112]
  ·rw[if_pos h1,h1];cases fH a<;>cases fH b<;>rfl
  ·simp[h1]
 | .list (_::_::_::_::_)=>rfl
theorem iM{x:E}{w:List UInt8}(h:x.at=w)(hw:w≠[]):x=.atom w:=by
 cases x with
 |atom s=>exact congrArg E.atom h
 |list l=>exact absurd h.symm hw
theorem jk:∀(e:E) (v:Vl),fH e=some v->v.dq=e/\v.lP 100
 |
  .atom s,v,h=>by
  simp only[fH]at h
  split at h
  ·rename_i h1;cases h;exact⟨by rw[h1];rfl,trivial⟩
  ·split at h
   ·rename_i k hk
    cases h
    obtain⟨h1,h2⟩:=pF hk
    exact⟨by rw[h1];rfl,h2⟩
   ·cases h
 | .list [],_,h=>by cases h
 | .list [_],_,h=>by cases h
 | .list (_::_::_::_::_),_,h=>by cases h
 |
  .list [x,a],v,h=>by
  rw[fH]at h
  split at h
  ·cases h
  ·rename_i w hw
   obtain⟨h1,h2⟩:=jk a w hw
   split at h
   ·rename_i hx;cases h;rw[iM hx (by simp)];exact⟨by rw[Vl.dq,h1],h2⟩
   ·split at h
    ·rename_i hx;cases h;rw[iM hx (by simp)];exact⟨by rw[Vl.dq,h1],h2⟩
    ·split at h
     ·rename_i hx;cases h;rw[iM hx (by simp)];exact⟨by rw[Vl.dq,h1],h2⟩
     ·cases h
 |
  .list [x,a,b],v,h=>by
  rw[fH]at h
  split at h
  ·rename_i hx
   split at h
   ·rename_i w1 w2 hw1 hw2
    cases h
    obtain⟨h1,h2⟩:=jk a w1 hw1
    obtain⟨h3,h4⟩:=jk b w2 hw2
    rw[iM hx (by simp)]
    exact⟨by rw[Vl.dq,h1,h3],h2,h4⟩
   ·cases h
  ·cases h
def nv(e:E)(w:List UInt8)(k:Nat):Bool:=match e with| .list (x::l)=>decide (l.length+1=k)&&(x.at==w)|_=>false
theorem pY(e:E)(w:List UInt8)(k:Nat)(hk:1<=k):ap Tryz.prog 94 [e.cu,.v (.string (mk w)),.v (.int .i64 (k:Int))] [] (bA (.v (.bool (nv e w k)))):=by
 refine GZ _ _ _ ((cq e).mpr trivial) ?_
 cases e with
 |atom s=>simp only[wC,E.cu,↓zq,zs,ae,zt,bA,nv];exact⟨by omega,fun h=>by omega,fun _=>trivial⟩
 |
  list l =>
  simp only[wC,E.cu,↓zq,zs,ae,zt,bA,oK]
  cases l with
  |nil=>exact⟨by simp,fun h=>by simp at h;omega,fun _=>rfl⟩
  |
   cons x l =>
   simp only[aB]
   refine⟨by simp,fun h=>?_,fun h=>?_⟩
   ·have:decide (l.length+1=k)=true:=by rw[decide_eq_true_eq];omega
    simp only[nv,this]
    cases x<;>simp[E.j7,E.cu,du,mQ,ib,dV,qJ,toList_mk,E.at]
   ·have:decide (l.length+1=k)=false:=by rw[decide_eq_false_iff_not];omega
    simp only[nv,this];rfl
def gY:Option Vl->AV
 |some v=>v.cu
 |none=>.v (.pointer none)
end Go.Proofs.Trees
namespace Go.Proofs.Trees
open Go Go.VL Go.RowKit
theorem gG(v:Option Vl):LK.has .ptr (gY v)=True:=by cases v<;>simp[gY,aU,jK]
theorem Dc:∀(e:E),e.ok->ap Tryz.prog 80 [e.cu] [] (bA (gY (fH e)))
 |
  .atom s,hok=>by
  refine Ek _ ((cq _).mpr trivial) ?_
  have hd:=lC (.atom s)
  have hlen:=jH (.atom s)
  simp only[E.at]at hd
  simp only[AJ,↓zq,zs,ae,zt,bA,cq,dm,hd,fH]
  refine⟨hlen,fun h=>?_,fun h=>⟨hlen,?_⟩⟩
  ·rw[if_pos h];rfl
  ·rw[if_neg h]
   refine al (ED s) ?_
   simp only[↓zq,zs,ae,zt]
   refine⟨fun he=>⟨hlen,?_⟩,fun he=>?_⟩
   ·obtain⟨k,hk⟩:=bI.1 he
    obtain⟨h1,h2⟩:=pF hk
    rw[hk,h1];rfl
   ·have hn:ek s=none:=by cases hq:ek s<;>simp[hq]at he |-
    rw[hn]
    refine al (pY (.atom s) [108] 2 (by omega)) ?_
    simp only[nv,↓zq,zs,ae,zf]
    refine⟨fun h=>(by cases h),fun _=>al (pY (.atom s) [114] 2 (by omega)) ?_⟩
    simp only[nv,↓zq,zs,ae,zf]
    refine⟨fun h=>(by cases h),fun _=>al (pY (.atom s) [102] 2 (by omega)) ?_⟩
    simp only[nv,↓zq,zs,ae,zf]
    refine⟨fun h=>(by cases h),fun _=>al (pY (.atom s) [112] 3 (by omega)) ?_⟩
    simp only[nv,↓zq,zs,ae,zf]
    exact⟨fun h=>(by cases h),fun _=>rfl⟩
 |
  .list l,hok=>by
  refine Ek _ ((cq _).mpr trivial) ?_
  have hd:=lC (.list l)
  have hlen:=jH (.list l)
  have hlen2:∀{l:List E},((AV.v (.string (mk [])))::[AV.sl (E.j7 l)]).length=2:=rfl
  simp only[E.at]at hd
  have he:ek []=none:=rfl
  simp only[AJ,↓zq,zs,ae,zt,bA,cq,dm,hd]
  refine⟨hlen,fun h=>(by cases h),fun h=>⟨hlen,?_⟩⟩
  refine al (ED []) ?_
  rw[he]
  simp only[↓zq,zs,ae,zt,zf,Option.isSome_none]
  refine⟨fun h=>(by cases h),fun _=>al (pY (.list l) [108] 2 (by omega)) ?_⟩
  have hno:∀w:List UInt8,(∀x a,l≠[x,a])->nv (.list l) w 2=false:=by
   intro w h2
   match l,h2 with
   |[],_=>rfl
   |[x],_=>rfl
   |[x,a],h2=>exact absurd rfl (h2 x a)
   |x::y::z::l,_=>simp[nv]
  match l,hok,hno,hlen with
  |
   [x,a],hok,hno,hlen =>
   clear hno
   obtain⟨ok1,ok2,_⟩:=hok
   have e2:∀w:List UInt8,nv (.list [x,a]) w 2=(x.at==w):=fun w=>rfl
   have e3:nv (.list [x,a]) [112] 3=false:=rfl
   have hx:=lC x
   have hxl:=jH x
   rw[fH]
   simp only[e2,↓zq,zs,ae]
   refine⟨fun h1=>?_,fun h1=>al (pY (.list [x,a]) [114] 2 (by omega)) ?_⟩
   ·simp only[E.cu,E.j7,toNat_one,↓zq,zs,ae,zt,cq,dm]
    refine⟨by omega,by omega,by omega,al (Dc a ok2) ?_⟩
    cases hv:fH a with
    |none=>simp only[gY,↓zq,zs,ae,gG];exact⟨fun _=>trivial,fun h=>(by cases h)⟩
    |
     some v =>
     simp only[gY,↓zq,zs,ae,zt,aU,fT,hx,h1,cq,dm]
     refine⟨fun h=>(by cases h),fun _=>⟨by omega,by omega,by omega,hxl,by simp,?_⟩⟩
     rfl
   ·simp only[e2,↓zq,zs,ae]
    refine⟨fun h2=>?_,fun h2=>al (pY (.list [x,a]) [102] 2 (by omega)) ?_⟩
    ·simp only[E.cu,E.j7,toNat_one,↓zq,zs,ae,zt,cq,dm]
     refine⟨by omega,by omega,by omega,al (Dc a ok2) ?_⟩
     cases hv:fH a with
     |none=>simp only[gY,↓zq,zs,ae,gG];exact⟨fun _=>trivial,fun h=>(by cases h)⟩
     |
      some v =>
      simp only[gY,↓zq,zs,ae,zt,aU,fT,hx,h2,cq,dm]
      refine⟨fun h=>(by cases h),fun _=>⟨by omega,by omega,by omega,hxl,by simp,?_⟩⟩
      rfl
    ·simp only[e2,↓zq,zs,ae]
     refine⟨fun h3=>?_,fun h3=>al (pY (.list [x,a]) [112] 3 (by omega)) ?_⟩
     ·simp only[E.cu,E.j7,toNat_one,↓zq,zs,ae,zt,cq,dm]
      refine⟨by omega,by omega,by omega,al (Dc a ok2) ?_⟩
      cases hv:fH a with
      |none=>simp only[gY,↓zq,zs,ae,gG];exact⟨fun _=>trivial,fun h=>(by cases h)⟩
      |
       some v =>
       simp only[gY,↓zq,zs,ae,zt,aU,fT,hx,h3,cq,dm]
       refine⟨fun h=>(by cases h),fun _=>⟨by omega,by omega,by omega,hxl,by simp,?_⟩⟩
       rfl
     ·rw[e3]
      simp only[↓zq,zs,ae]
      refine⟨fun h=>(by cases h),fun _=>?_⟩
      cases fH a with
      |none=>rfl
      |some v=>simp only[if_neg h1,if_neg h2,if_neg h3];rfl
  |
   [x,a,b],hok,hno,hlen =>
   obtain⟨ok1,ok2,ok3,_⟩:=hok
   have h2:=fun w=>hno w (fun x a h=>(by cases h))
   rw[h2]
   simp only[↓zq,zs,ae]
   refine⟨fun h=>(by cases h),fun _=>al (pY (.list [x,a,b]) [114] 2 (by omega)) ?_⟩
   rw[h2]
   simp only[↓zq,zs,ae]
   refine⟨fun h=>(by cases h),fun _=>al (pY (.list [x,a,b]) [102] 2 (by omega)) ?_⟩
   rw[h2]
   simp only[↓zq,zs,ae]
   refine⟨fun h=>(by cases h),fun _=>al (pY (.list [x,a,b]) [112] 3 (by omega)) ?_⟩
   have e3:nv (.list [x,a,b]) [112] 3=(x.at==[112]):=rfl
   rw[e3,fH]
   simp only[↓zq,zs,ae]
   refine⟨fun h1=>?_,fun h1=>?_⟩
   ·rw[if_pos h1]
    simp only[E.cu,E.j7,toNat_one,bf,↓zq,zs,ae,zt,cq,dm]
    refine⟨by omega,by omega,by omega,al (Dc a ok2) ?_⟩
    simp only[↓zq,zs,ae,gG,cq]
    refine⟨by omega,by omega,by omega,al (Dc b ok3) ?_⟩
    cases hv:fH a with
    |none=>cases hw:fH b<;>simp only[gY,↓zq,zs,ae,gG,aU]<;>exact⟨fun _=>trivial,fun h=>(by cases h)⟩
    |
     some v =>
     cases hw:fH b with
     |
      none =>
      simp only[gY,↓zq,zs,ae,gG,aU,fT]
      exact⟨fun h=>(by cases h),fun _=>⟨fun _=>trivial,fun h=>(by cases h)⟩⟩
     |
      some w =>
      simp only[gY,↓zq,zs,ae,aU,fT]
      refine⟨fun h=>(by cases h),fun _=>⟨fun h=>(by cases h),fun _=>?_⟩⟩
      refine al (yF _ _ ((aU _).mpr trivial) ((aU _).mpr trivial)) ?_
      simp only[↓zq,zs,ae];rfl
   ·rw[if_neg h1];rfl
  |
   [],hok,hno,hlen =>
   have h2:=fun w=>hno w (fun x a h=>(by cases h))
   have e3:nv (.list []) [112] 3=false:=rfl
   rw[h2]
   simp only[↓zq,zs,ae]
   refine⟨fun h=>(by cases h),fun _=>al (pY (.list []) [114] 2 (by omega)) ?_⟩
   rw[h2]
   simp only[↓zq,zs,ae]
   refine⟨fun h=>(by cases h),fun _=>al (pY (.list []) [102] 2 (by omega)) ?_⟩
   rw[h2]
   simp only[↓zq,zs,ae]
   refine⟨fun h=>(by cases h),fun _=>al (pY (.list []) [112] 3 (by omega)) ?_⟩
   rw[e3]
   simp only[↓zq,zs,ae]
   exact⟨fun h=>(by cases h),fun _=>rfl⟩
  |
   [x],hok,hno,hlen =>
   have h2:=fun w=>hno w (fun x a h=>(by cases h))
   have e3:nv (.list [x]) [112] 3=false:=rfl
   rw[h2]
   simp only[↓zq,zs,ae]
   refine⟨fun h=>(by cases h),fun _=>al (pY (.list [x]) [114] 2 (by omega)) ?_⟩
   rw[h2]
   simp only[↓zq,zs,ae]
   refine⟨fun h=>(by cases h),fun _=>al (pY (.list [x]) [102] 2 (by omega)) ?_⟩
   rw[h2]
   simp only[↓zq,zs,ae]
   refine⟨fun h=>(by cases h),fun _=>al (pY (.list [x]) [112] 3 (by omega)) ?_⟩
   rw[e3]
   simp only[↓zq,zs,ae]
   exact⟨fun h=>(by cases h),fun _=>rfl⟩
  |
   x::y::z::w::l,hok,hno,hlen =>
   have h2:=fun w=>hno w (fun x a h=>(by cases h))
   have e3:nv (.list (x::y::z::w::l)) [112] 3=false:=by simp[nv]
   rw[h2]
   simp only[↓zq,zs,ae]
   refine⟨fun h=>(by cases h),fun _=>al (pY (.list (x::y::z::w::l)) [114] 2 (by omega)) ?_⟩
   rw[h2]
   simp only[↓zq,zs,ae]
   refine⟨fun h=>(by cases h),fun _=>al (pY (.list (x::y::z::w::l)) [102] 2 (by omega)) ?_⟩
   rw[h2]
   simp only[↓zq,zs,ae]
   refine⟨fun h=>(by cases h),fun _=>al (pY (.list (x::y::z::w::l)) [112] 3 (by omega)) ?_⟩
   rw[e3]
   simp only[↓zq,zs,ae]
   exact⟨fun h=>(by cases h),fun _=>rfl⟩
def sC(s:List UInt8):Option Vl:=match pE s with
 |none=>none
 |
  some e=>match fH e with
  |none=>none
  |some v=>if v.nodes>200 then none else some v
theorem qM{s:List UInt8}{v:Vl}(h:sC s=some v):pE s=some v.dq/\v.lP 100/\v.nodes<=200:=by
 unfold sC at h
 split at h
 ·cases h
 ·rename_i e he
  split at h
  ·cases h
  ·rename_i w hw
   split at h
   ·cases h
   ·cases h
    obtain⟨h1,h2⟩:=jk e _ hw
    rw[h1]
    exact⟨he,h2,by omega⟩
theorem sM{e:E}{v:Vl}(h:fH e=some v):v.nodes<=e.sz:=by
 obtain⟨h1,_⟩:=jk e v h
 rw[<-lm,h1];exact xg e
theorem JX(s:List UInt8):ap Tryz.prog 52 [.v (.string (mk s))] [] (bA (gY (sC s))):=by
 refine Je _ ?_
 unfold Eb
 refine al (Hk s) ?_
 unfold sC
 cases he:pE s with
 |none=>simp only[ql,↓zq,zs,ae,bA,gY];simp
 |
  some e =>
  obtain⟨h1,h2⟩:=mZ he
  simp only[ql,↓zq,zs,ae,cq,dm]
  refine⟨fun h=>(by cases h),fun _=>?_⟩
  refine al (Dc e h1) ?_
  cases hv:fH e with
  |none=>simp only[gY,↓zq,zs,ae,bA];simp
  |
   some v =>
   have hn:=sM hv
   simp only[gY,↓zq,zs,ae,aU,fT]
   refine⟨fun h=>(by cases h),fun _=>?_⟩
   refine al (Dk v (by omega)) ?_
   simp only[↓zq,zs,ae,bA]
   refine⟨fun h=>?_,fun h=>?_⟩
   ·rw[if_pos (by omega)]
   ·rw[if_neg (by omega)]
theorem Dd:∀(e:E),e.ok->ap Tryz.prog 35 [e.iT] [] (bA (.v (.bool (uz e))))
 |
  .atom s,hok=>by
  refine Dm _ _ ((bi).mpr trivial) ?_
  have hne:s≠[]:=hok
  simp only[AM,↓zq,zs,ae,zt,bA,uz]
  refine⟨fun _=>⟨fun h=>?_,fun h=>?_⟩,fun h=>absurd h hne⟩
  ·simp[h]
  ·refine al (D1 s) ?_
   have h':(s==[117])=false:=by simpa using h
   simp only[↓zq,zs,ae,h',Bool.false_or]
   congr 2
   rw[wG]
   cases ek s with
   |none=>rfl
   |some k=>simp
 |
  .list [],hok=>by
  refine Dm _ _ ((ca _).mpr trivial) ?_
  simp only[AM,↓zq,zs,ae,zt,bA,uz]
  refine⟨fun h=>absurd rfl h,fun _=>?_⟩
  refine al Jm ?_
  simp[↓zq,zs,ae,zt]
 |
  .list [x],hok=>by
  refine Dm _ _ ((ca _).mpr trivial) ?_
  simp only[AM,↓zq,zs,ae,zt,bA,uz]
  refine⟨fun h=>absurd rfl h,fun _=>?_⟩
  refine al (sV x _) ?_
  simp[↓zq,zs,ae,zt,E.ba]
 |
  .list (x::y::z::w::l),hok=>by
  refine Dm _ _ ((ca _).mpr trivial) ?_
  simp only[AM,↓zq,zs,ae,zt,bA,uz]
  refine⟨fun h=>absurd rfl h,fun _=>?_⟩
  refine al (sV x _) ?_
  simp only[↓zq,zs,ae,zt,E.ba]
  refine⟨fun _=>⟨fun h=>by omega,fun _=>trivial⟩,fun _=>⟨fun _=>⟨fun h=>by omega,fun _=>trivial⟩,fun _=>⟨fun _=>⟨fun h=>by omega,fun _=>trivial⟩,fun _=>⟨fun _=>⟨fun h=>by omega,fun _=>trivial⟩,fun _=>trivial⟩⟩⟩⟩
 |
  .list [x,a],hok=>by
  refine Dm _ _ ((ca _).mpr trivial) ?_
  obtain⟨ok1,ok2,_⟩:=hok
  simp only[AM,↓zq,zs,ae,zt,bA,uz]
  refine⟨fun h=>absurd rfl h,fun _=>?_⟩
  refine al (sV x _) ?_
  simp only[E.ba,toNat_one,bf,↓zq,zs,ae,zt,gj,eQ,gk,kg,au]
  refine⟨fun h=>⟨fun _=>⟨by omega,?_⟩,fun h=>by omega⟩,fun h1=>⟨fun h=>⟨fun _=>⟨by omega,?_⟩,fun h=>by omega⟩,fun h2=>⟨fun h=>⟨fun _=>⟨by omega,?_⟩,fun h=>by omega⟩,fun h3=>⟨fun h=>⟨fun h=>by omega,fun _=>?_⟩,fun h=>?_⟩⟩⟩⟩
  ·refine al (Dd a ok2) ?_
   simp[↓zq,zs,ae,h]
  ·refine al (Dd a ok2) ?_
   simp[↓zq,zs,ae,h]
  ·refine al (Dd a ok2) ?_
   simp[↓zq,zs,ae,h]
  ·simp[h]
  ·simp[h1,h2,h3]
 |
  .list [x,a,b],hok=>by
  refine Dm _ _ ((ca _).mpr trivial) ?_
  obtain⟨ok1,ok2,ok3,_⟩:=hok
  simp only[AM,↓zq,zs,ae,zt,bA,uz]
  refine⟨fun h=>absurd rfl h,fun _=>?_⟩
  refine al (sV x _) ?_
  simp only[E.ba,toNat_one,bf,↓zq,zs,ae,zt,gj,eQ,gk,kg,au]
  refine⟨fun h=>⟨fun h=>by omega,fun _=>?_⟩,fun h1=>⟨fun h=>⟨fun h=>by omega,fun _=>?_⟩,fun h2=>⟨fun h=>⟨fun h=>by omega,fun _=>?_⟩,fun h3=>⟨fun h=>⟨fun _=>⟨by omega,?_⟩,fun h=>by omega⟩,fun h=>?_⟩⟩⟩⟩
  ·simp[h]
  ·simp[h]
  ·simp[h]
  ·refine al (Dd a ok2) ?_
   simp only[↓zq,zs,ae,h]
   refine⟨fun ha=>⟨by omega,al (Dd b ok3) ?_⟩,fun ha=>?_⟩
   ·simp[↓zq,zs,ae,ha]
   ·simp[ha]
  ·simp[h]
theorem Fc(s:List UInt8):ap Tryz.prog 20 [.v (.string (mk s))] [] (kz ((sC s).map Vl.dq) (sC s).isSome):=by
 refine JE _ ?_
 unfold Ic
 refine aT (Eg s) (kz.ne _ _ (fun h=>h)) ?_
 rintro r o ⟨c,d,hd,rfl,hh⟩
 simp only[↓zq,zs,ae,zt,bJ,sC]
 refine⟨hd,fun h=>?_,fun h=>?_⟩
 ·obtain⟨e,he,hce⟩:=hh h
  obtain⟨hok,hsz⟩:=mZ he
  rw[he,hce]
  refine al (Dd e hok) ?_
  simp only[↓zq,zs,ae]
  have hs:=my e
  refine⟨fun hi=>?_,fun hi=>?_⟩
  ·rw[hi]at hs
   obtain⟨v,hv⟩:=bI.1 hs
   obtain⟨h1,h2⟩:=jk e v hv
   refine al (J6 e (by omega)) ?_
   simp only[↓zq,zs,ae,hv]
   have hnd:e.nd=v.nodes:=by rw[<-h1,lm]
   rw[hnd]
   refine⟨c,d,hd,?_,?_⟩
   ·rw[hce]
    by_cases h4:v.nodes>200
    ·rw[if_pos h4];exact congrArg (fun b=>AV.cV [e.iT,.v (.bool b)]) (decide_eq_false (show ¬((v.nodes:Nat):Int)<=200 by omega))
    ·rw[if_neg h4];exact congrArg (fun b=>AV.cV [e.iT,.v (.bool b)]) (decide_eq_true (show ((v.nodes:Nat):Int)<=200 by omega))
   ·split
    ·exact fun h=>by cases h
    ·exact fun _=>⟨e,by simp[h1],hce⟩
  ·rw[hi]at hs
   have hn:fH e=none:=by cases hq:fH e<;>simp[hq]at hs |-
   rw[hn]
   exact⟨c,d,hd,by rw[hce];rfl,fun h=>by cases h⟩
 ·have hn:pE s=none:=by cases hq:pE s<;>simp[hq]at h |-
  rw[hn]
  exact⟨c,d,hd,rfl,fun h=>by cases h⟩
end Go.Proofs.Trees
namespace Go.Proofs.Trees
open Go Go.VL Go.RowKit
inductive Fr where
 |mk (s:List UInt8) (e:E) (o:List Fr)
def Fr.nm:Fr->List UInt8| .mk s _ _=>s
def Fr.ex:Fr->E| .mk _ e _=>e
def Fr.out:Fr->List Fr| .mk _ _ o=>o
def names:List Fr->List (List UInt8)
 |[]=>[]
 |f::r=>names r++[f.nm]
def C6(e:E)(o:List Fr):Ty:=(cv e (names o)).getD .zero
def E.sp:E->AV
 | .atom _=>.v (.slice none 0 0)
 | .list l=>.sl (E.ba l)
theorem gv(e:E):e.fP=[.v (.string (mk e.at)),e.sp]:=by cases e<;>rfl
theorem dz(e:E):e.iT=.agg [.v (.string (mk e.at)),e.sp]:=by cases e<;>rfl
theorem a6(e:E):LK.has .sl e.sp=True:=by cases e<;>simp[E.sp,bi,ca]
mutual
def Fr.cells:Fr->List AV
 | .mk s e o=>[.v (.string (mk s)),.v (.string (mk e.at)),e.sp,.sl (iG o)]
def iG:List Fr->List (List AV)
 |[]=>[]
 |f::r=>iG r++[f.cells]
end
mutual
def Fr.cu:Fr->AV
 | .mk s e o=>.ptr [(C6 e o).av,ml o]
def ml:List Fr->AV
 |[]=>jO
 |f::r=>.ptr [f.cu,ml r]
end
inductive WF:List Fr->Prop
 |nil:WF []
 |cons {s:List UInt8} {x a b:E} {t:Ty} {r:List Fr} (hs:cI s=true) (hok:(E.list [x,a,b]).ok) (hx:x.at=[114,101,99]) (ht:cv (.list [x,a,b]) (names r)=some t) (hf:bS t=false) (hr:WF r):WF (.mk s (.list [x,a,b]) r::r)
theorem je:∀env:List Fr,(iG env).length=env.length
 |[]=>rfl
 |f::r=>by simp[iG,je r]
theorem dr(env:List Fr):LK.has .ptr (ml env)=True:=by cases env<;>simp[ml,jK,du]
theorem wv(f:Fr):LK.has .ptr f.cu=True:=by cases f;simp[Fr.cu,du]
def eA(s:List UInt8):List Fr->Option Fr
 |[]=>none
 |f::r=>if f.nm=s then some f else eA s r
def hd(e:E)(env:List Fr):E×List Fr:=match eA e.at env with|some f=>(f.ex,f.out)|none=>(e,env)
theorem kW{env:List Fr}(h:WF env):eA [] env=none:=by
 induction h with
 |nil=>rfl
 |
  @cons s x a b t r hs hok hx ht hf hr ih =>
  rw[eA,if_neg (show ¬(Fr.mk s (.list [x,a,b]) r).nm=[] from wR hs)];exact ih
theorem vd{env:List Fr}(h:WF env){s:List UInt8}{f:Fr}(hf:eA s env=some f):cI s=true:=by
 induction h with
 |nil=>cases hf
 |
  cons hs hok hx ht hf' hr ih =>
  rw[eA]at hf
  split at hf
  ·rename_i e;exact e ▸ hs
  ·exact ih hf
theorem oE{env:List Fr}(h:WF env){s:List UInt8}{f:Fr}(hf:eA s env=some f):∃x a b t,f.ex=.list [x,a,b]/\(E.list [x,a,b]).ok/\x.at=[114,101,99]/\cv f.ex (names f.out)=some t/\bS t=false/\WF f.out/\f.out.length<env.length:=by
 induction h with
 |nil=>cases hf
 |
  cons hs hok hx ht hf' hr ih =>
  rw[eA]at hf
  split at hf
  ·cases hf;exact⟨_,_,_,_,rfl,hok,hx,ht,hf',hr,by simp[Fr.out]⟩
  ·obtain⟨x,a,b,t,h1,h2,h3,h4,h5,h6,h7⟩:=ih hf
   exact⟨x,a,b,t,h1,h2,h3,h4,h5,h6,by simp;omega⟩
theorem iJ(s w:List UInt8)(ar:List (List UInt8)):∀i,i<=ar.length->bq s (ar++[w]) i=(bq s ar i).map (·+1)
 |0,_=>rfl
 |
  i+1,hi=>by
  have hlt:i<ar.length:=by omega
  have e:(ar++[w]).getD i []=ar.getD i []:=by simp[aa,List.getElem?_append_left hlt]
  rw[bq,bq,e,iJ s w ar i (by omega)]
  split
  ·simp only[an,aB,aI,cx,Option.some.injEq];omega
  ·rfl
theorem rT(s:List UInt8)(f:Fr)(r:List Fr):bq s (names (f::r)) (names (f::r)).length=if f.nm=s then some 0 else(bq s (names r) (names r).length).map (·+1):=by
 have e:(names (f::r)).length=(names r).length+1:=by simp[names]
 rw[e,bq]
 have e2:(names (f::r)).getD (names r).length []=f.nm:=by simp[names,aa]
 rw[e2]
 split
 ·rw[e];simp
 ·rw[names,iJ _ _ _ _ (au _)]
theorem l6(s:List UInt8):∀env:List Fr,bq s (names env) (names env).length=none/\eA s env=none\/∃(u:Nat) (f:Fr),bq s (names env) (names env).length=some u/\eA s env=some f/\env[u]?=some f
 |[]=>.inl ⟨rfl,rfl⟩
 |
  f::r=>by
  rw[rT,eA]
  split
  ·exact .inr ⟨0,f,rfl,rfl,rfl⟩
  ·rcases l6 s r with⟨h1,h2⟩|⟨u,g,h1,h2,h3⟩
   ·exact .inl ⟨by rw[h1];rfl,h2⟩
   ·exact .inr ⟨u+1,g,by rw[h1];rfl,h2,by simpa using h3⟩
def Ty.Ii:Ty->Bool
 | .cX _=>true
 |_=>false
theorem gI{e:E}{env:List Fr}{t:Ty}(hw:WF env)(ht:cv e (names env)=some t) :
 (t.Ii=false/\eA e.at env=none)\/∃(u:Nat) (f:Fr),t=.cX u/\eA e.at env=some f/\env[u]?=some f:=by
 cases e with
 |
  list l =>
  left
  refine⟨?_,kW hw⟩
  match l,ht with
  |
   [x,a,b],ht =>
   by_cases h0:x.at=[43]
   ·obtain⟨t1,t2,_,_,rfl⟩:=eW h0 ht;rfl
   ·by_cases h1:x.at=[42]
    ·obtain⟨t1,t2,_,_,rfl⟩:=ez h1 ht;rfl
    ·by_cases h2:x.at=[114,101,99]
     ·obtain⟨t1,_,_,rfl⟩:=db h2 ht;rfl
     ·rw[hD _ h0 h1 h2]at ht;cases ht
  |[],ht=>cases ht
  |[_],ht=>cases ht
  |[_,_],ht=>cases ht
  |_::_::_::_::_,ht=>cases ht
 |
  atom s =>
  simp only[cv]at ht
  have hno:cI s=false->eA s env=none:=fun h=>by
   cases hq:eA s env with
   |none=>rfl
   |some f=>rw[vd hw hq]at h;cases h
  split at ht
  ·rename_i h;cases ht;subst h;exact .inl ⟨rfl,hno rfl⟩
  ·split at ht
   ·rename_i h;cases ht;subst h;exact .inl ⟨rfl,hno rfl⟩
   ·split at ht
    ·rename_i h
     cases ht
     refine .inl ⟨rfl,hno ?_⟩
     cases hq:cI s with
     |false=>rfl
     |
      true =>
      obtain⟨c,r,rfl,h1,h2⟩:=jN h
      obtain⟨c',r',he,h3,h4⟩:=jN hq
      cases he;omega
    ·split at ht
     ·rcases l6 s env with⟨h1,h2⟩|⟨u,f,h1,h2,h3⟩
      ·rw[h1]at ht;cases ht;exact .inl ⟨rfl,h2⟩
      ·rw[h1]at ht;cases ht;exact .inr ⟨u,f,rfl,h2,h3⟩
     ·cases ht
def er(n:Nat):Vl->E×List Fr->Bool
 | .u,p=>match hd p.1 p.2 with|(.atom s,_)=>s==[49]|_=>false
 | .el k,p=>match hd p.1 p.2 with|(.atom s,_)=>!(s==[49])&&(gh s&&decide (k<n))|_=>false
 | .l w,p=>match hd p.1 p.2 with|(.list [x,a,b],o)=>(x.at==[43])&&er n w (a,o)|_=>false
 | .r w,p=>match hd p.1 p.2 with|(.list [x,a,b],o)=>(x.at==[43])&&er n w (b,o)|_=>false
 | .f w,p=>match hd p.1 p.2 with|(.list [x,a,b],o)=>(x.at==[114,101,99])&&er n w (b,.mk a.at (.list [x,a,b]) o::o)|_=>false
 | .p v w,p=>match hd p.1 p.2 with|(.list [x,a,b],o)=>(x.at==[42])&&(er n v (a,o)&&er n w (b,o))|_=>false
theorem jI{e:E}{env:List Fr}(h:eA e.at env=none):hd e env=(e,env):=by rw[hd,h]
theorem qL{e:E}{env:List Fr}{f:Fr}(h:eA e.at env=some f):hd e env=(f.ex,f.out):=by rw[hd,h]
theorem qF{x a b:E}{o:List Fr}(h:WF o):hd (.list [x,a,b]) o=(.list [x,a,b],o):=jI (kW h)
theorem s3(n:Nat)(v:Vl){e e':E}{env o:List Fr}(h:hd e env=(e',o))(h':hd e' o=(e',o)):er n v (e,env)=er n v (e',o):=by
 cases v<;>simp only[er,h,h']
theorem jp{x a b:E}{env:List Fr}{t:Ty}(hw:WF env)(hok:(E.list [x,a,b]).ok)(hx:x.at=[114,101,99])(ht:cv (.list [x,a,b]) (names env)=some t)(hf:bS t=false) :
 ∃t1,t=.rc t1/\cv b (names (.mk a.at (.list [x,a,b]) env::env))=some t1/\bS t1=false/\WF (.mk a.at (.list [x,a,b]) env::env):=by
 obtain⟨t1,hl,h1,rfl⟩:=db hx ht
 exact⟨t1,rfl,h1,hf,.cons hl hok hx ht hf hw⟩
theorem xY(a b env:AV)(n:Int)(s:ByteArray)(u:Int)(ha:LK.ptr.has a)(he:LK.ptr.has env):ap Tryz.prog 56 [.agg [.ptr [.v (.int .u8 n),.v (.string s),.v (.int .i64 u),a,b],env]] [] (bA (.agg [a,env])):=by
 refine Jd _ _ ((du _).mpr trivial) he ?_
 simp only[HR,↓zq,zs,ae,bA]
 exact⟨ha,by omega⟩
theorem yG(a b env:AV)(n:Int)(s:ByteArray)(u:Int)(hb:LK.ptr.has b)(he:LK.ptr.has env):ap Tryz.prog 57 [.agg [.ptr [.v (.int .u8 n),.v (.string s),.v (.int .i64 u),a,b],env]] [] (bA (.agg [b,env])):=by
 refine Jb _ _ ((du _).mpr trivial) he ?_
 simp only[Hv,↓zq,zs,ae,bA]
 exact⟨hb,by omega⟩
theorem Ki(t:Ty)(env:List Fr)(s:List UInt8)(e:E)(ht:C6 e env=.rc t):ap Tryz.prog 31 [.agg [(Ty.rc t).av,ml env]] [] (bA (.cV [.agg [t.av,ml (.mk s e env::env)],(Fr.mk s e env).cu])):=by
 refine KT _ _ ((bb _).mpr trivial) ((dr _).mpr trivial) ?_
 simp only[Ej,Ty.av,↓zq,zs,ae,bb,bA,ml,Fr.cu,ht]
 omega
theorem pS(env:List Fr)(i:Nat)(f:Fr)(h:env[i]?=some f):ml (env.drop i)=.ptr [f.cu,ml (env.drop (i+1))]:=by
 obtain⟨hlt,he⟩:=List.getElem?_eq_some_iff.1 h
 rw[aJ hlt,he,ml]
theorem Ha(env:List Fr)(u:Nat)(hu:u<env.length)(hl:env.length<1000000):∀(k i:Nat),i+k=u->yz [ml (env.drop i),.v (.int .i64 (u:Int)),.v (.int .i64 (i:Int))] [] (fI 1 [ml (env.drop u)] [])
 |
  0,i,hi=>by
  refine y0 _ _ _ ?_
  have:i=u:=by omega
  subst this
  simp only[xj,↓zq,zs,ae,dr]
  exact⟨fun h=>by omega,fun _=>by simp[fI]⟩
 |
  k+1,i,hi=>by
  refine y0 _ _ _ ?_
  have hlt:i<env.length:=by omega
  have hg:env[i]?=some env[i]:=bH hlt
  have hd:=pS env i _ hg
  rw[hd]
  simp only[xj,↓zq,zs,ae,dr]
  refine⟨fun _=>⟨by omega,?_⟩,fun h=>by omega⟩
  rw[bk i (by omega)]
  exact Ha env u hu hl k (i+1) (by omega)
theorem Kn(env:List Fr)(u:Nat)(f:Fr)(hf:env[u]?=some f)(hl:env.length<1000000):ap Tryz.prog 83 [.agg [(Ty.cX u).av,ml env]] [] (bA f.cu):=by
 refine HY _ _ ((bb _).mpr trivial) ((dr _).mpr trivial) ?_
 obtain⟨hlt,he⟩:=List.getElem?_eq_some_iff.1 hf
 simp only[Am,Ty.av,↓zq,zs,ae]
 refine⟨by omega,?_⟩
 have h:=Ha env u hlt hl u 0 (by omega)
 simp only[aW]at h
 refine bY h ?_
 rw[pS env u f hf]
 simp only[↓zq,zs,ae,wv,bA]
 omega
theorem yH(k:Nat)(h:k<100):Lib.atoi (dd k)=some (k:Int):=by
 have e:∀k,k<100->dd k=if k<10 then [aY (48+k)]else [aY (48+k/10),aY (48+k%10)]:=by
  intro k hk
  by_cases h1:k<10
  ·rw[eM h1,if_pos h1]
  ·rw[fK h1,eM (by omega),if_neg h1];rfl
 have key:∀k:Fin 100,Lib.atoi (if k.val<10 then [aY (48+k.val)]else [aY (48+k.val/10),aY (48+k.val%10)])=some (k.val:Int):=by decide +kernel
 rw[e k h];exact key ⟨k,h⟩
theorem J1(k:Nat)(hk:k<100):ap Tryz.prog 82 [.v (.string (mk (dd k)))] [] (bA (.cV [.v (.int .i64 (k:Int)),.v .nilIface])):=by
 have hl:=mX 1000 k (by omega)
 have hl2:(dd k).length<=18:=by
  have e:(dd k).length<=2:=by
   by_cases h1:k<10
   ·rw[eM h1];simp
   ·rw[fK h1,eM (by omega)];simp
  omega
 refine ap.Jp (xs:=[.string (mk (dd k))]) (v:=.tuple #[.int .i64 (k:Int),.nilIface]) ⟨nO,by kernel_rfl,by kernel_rfl,by kernel_rfl⟩ (fun M=>?_) fun w=>?_
 ·refine bg.cV _ _ [.int .i64 (k:Int),.nilIface] rfl fun i hi=>?_
  match i,hi with
  |0,_=>exact .v _ _
  |1,_=>exact .v _ _
 ·have:=Any.strconv_Atoi Tryz.yn (mk (dd k)) (k:Int) (by rw[fO];exact hl2) (by
   have:(mk (dd k)).data.toList=dd k:=by simp[mk]
   rw[this];exact yH k hk) w
  refine Calls.mono this fun e w' ⟨h1,t,h2⟩=>⟨h1,?_⟩
  subst h2
  refine⟨rfl,rfl,rfl,?_,fun b hb=>Lib.bytesWorld_at_old _ _ _ _ hb⟩
  simp[Lib.bytesWorld,World.freeze]
end Go.Proofs.Trees
namespace Go.Proofs.Trees
open Go Go.VL Go.RowKit
theorem fQ{a b:Ty}(h:bS (.plus a b)=false):bS a=false/\bS b=false:=by simpa[bS]using h
theorem eX{a b:Ty}(h:bS (.times a b)=false):bS a=false/\bS b=false:=by simpa[bS]using h
theorem fw{e:E}{ar:List (List UInt8)}{t:Ty}(ht:cv e ar=some t)(hb:t.Ii=false)(hf:bS t=false) :
 (e=.atom [48]/\t=.zero)\/(e=.atom [49]/\t=.one)\/(∃s,e=.atom s/\t=.name s/\gh s=true/\s≠[48]/\s≠[49]) ∨
 (∃x a b t1 t2,e=.list [x,a,b]/\x.at=[43]/\t=.plus t1 t2/\cv a ar=some t1/\cv b ar=some t2) ∨
 (∃x a b t1 t2,e=.list [x,a,b]/\x.at=[42]/\t=.times t1 t2/\cv a ar=some t1/\cv b ar=some t2) ∨
 (∃x a b t1,e=.list [x,a,b]/\x.at=[114,101,99]/\t=.rc t1):=by
 cases e with
 |
  list l =>
  match l,ht with
  |
   [x,a,b],ht =>
   by_cases h0:x.at=[43]
   ·obtain⟨t1,t2,h1,h2,rfl⟩:=eW h0 ht
    exact .inr (.inr (.inr (.inl ⟨x,a,b,t1,t2,rfl,h0,rfl,h1,h2⟩)))
   ·by_cases h1:x.at=[42]
    ·obtain⟨t1,t2,h3,h2,rfl⟩:=ez h1 ht
     exact .inr (.inr (.inr (.inr (.inl ⟨x,a,b,t1,t2,rfl,h1,rfl,h3,h2⟩))))
    ·by_cases h2:x.at=[114,101,99]
     ·obtain⟨t1,_,_,rfl⟩:=db h2 ht
      exact .inr (.inr (.inr (.inr (.inr ⟨x,a,b,t1,rfl,h2,rfl⟩))))
     ·rw[hD _ h0 h1 h2]at ht;cases ht
  |[],ht=>cases ht
  |[_],ht=>cases ht
  |[_,_],ht=>cases ht
  |_::_::_::_::_,ht=>cases ht
 |
  atom s =>
  simp only[cv]at ht
  split at ht
  ·rename_i h;cases ht;subst h;exact .inl ⟨rfl,rfl⟩
  ·rename_i h0
   split at ht
   ·rename_i h;cases ht;subst h;exact .inr (.inl ⟨rfl,rfl⟩)
   ·rename_i h1
    split at ht
    ·rename_i h;cases ht;exact .inr (.inr (.inl ⟨s,rfl,rfl,h,h0,h1⟩))
    ·split at ht
     ·rename_i h
      split at ht
      ·cases ht;cases hb
      ·cases ht;simp only[bS]at hf;rw[h]at hf;cases hf
     ·cases ht
def nr(n:Nat)(v:Vl)(e:E)(env:List Fr)(t:Ty):Prop:=ap Tryz.prog 53 [.agg [t.av,ml env],v.cu,.v (.int .i64 (n:Int))] [] (bA (.v (.bool (er n v (e,env)))))
structure Ask(e:E)(env:List Fr)(t:Ty):Prop where
 ok:e.ok
 wf:WF env
 ty:cv e (names env)=some t
 cl:bS t=false
theorem HH(n:Nat)(hn:n<=100)(v:Vl)(hv:v.lP 100)(IH:∀w:Vl,w.nodes<v.nodes->w.lP 100->∀e env t,Ask e env t->env.length+w.nodes<100000->nr n w e env t)
 (e:E) (env:List Fr) (t:Ty) (A:Ask e env t) (hl:env.length+v.nodes<100000) (hb:t.Ii=false) (hh:eA e.at env=none):nr n v e env t:=by
 have hhd:hd e env=(e,env):=jI hh
 unfold nr
 refine Gq _ _ _ _ ((bb _).mpr trivial) ((dr _).mpr trivial) ((aU _).mpr trivial) ?_
 rcases fw A.ty hb A.cl with⟨rfl,rfl⟩|⟨rfl,rfl⟩|⟨s,rfl,rfl,hp,h0,h1⟩|⟨x,a,b,t1,t2,rfl,hx,rfl,ha,hbb⟩|⟨x,a,b,t1,t2,rfl,hx,rfl,ha,hbb⟩|⟨x,a,b,t1,rfl,hx,rfl⟩
 ·have hp0:gh [48]=false:=rfl
  cases v<;>simp[vH,Ty.av,↓zq,zs,ae,bA,er,hhd,hp0]
 ·have hp0:gh [49]=false:=rfl
  cases v<;>simp[vH,Ty.av,Vl.cu,↓zq,zs,ae,bA,er,hhd,hp0]
 ·have h1':(s==[49])=false:=by simpa using h1
  cases v with
  |
   el k =>
   have hk:k<100:=hv
   simp only[vH,Ty.av,Vl.cu,↓zq,zs,ae,zt]
   refine⟨by omega,fun h=>by omega,fun _=>⟨fun _=>⟨by omega,fun h=>absurd rfl h,fun _=>⟨by omega,by omega,?_⟩⟩,fun h=>absurd rfl h⟩⟩
   have e1:(List.take ((dd k).length+1) (w7 k)).drop (bB 1)=dd k:=by simp[w7]
   rw[e1]
   refine al (J1 k hk) ?_
   simp only[↓zq,zs,ae,bA,er,hhd,h1',hp,zf]
   refine⟨rfl,?_⟩
   congr 2
   rw[bV];simp
  |
   _ =>
   simp only[vH,Ty.av,Vl.cu,↓zq,zs,ae,zt,er,hhd,h1',bA]
   exact⟨by omega,fun h=>by omega,fun _=>⟨fun _=>⟨by omega,fun _=>trivial,fun h=>by omega⟩,fun h=>absurd rfl h⟩⟩
 ·have hok:=A.ok
  obtain⟨ok1,ok2,ok3,_⟩:=hok
  obtain⟨f1,f2⟩:=fQ A.cl
  cases v with
  |
   l w =>
   simp only[Vl.nodes]at hl
   simp only[vH,Ty.av,Vl.cu,↓zq,zs,ae]
   refine⟨by omega,fun h=>by omega,fun _=>⟨fun h=>by omega,fun _=>⟨fun h=>by omega,fun _=>⟨fun _=>⟨by omega,fun _=>?_,fun h=>absurd rfl h⟩,fun h=>absurd rfl h⟩⟩⟩⟩
   refine al (xY _ _ _ _ _ _ ((bb _).mpr trivial) ((dr _).mpr trivial)) ?_
   simp only[↓zq,zs,ae,bJ,bb,dr,aU]
   refine⟨by omega,?_⟩
   refine al (IH w (by simp only[Vl.nodes];omega) hv a env t1 ⟨ok2,A.wf,ha,f1⟩ (by omega)) ?_
   simp only[↓zq,zs,ae,bA,er,hhd,hx]
   refine⟨fun h=>?_,fun h=>⟨by omega,fun h=>by omega,fun _=>?_⟩⟩
   ·simp[h]
   ·simp[h]
  |
   r w =>
   simp only[Vl.nodes]at hl
   simp only[vH,Ty.av,Vl.cu,↓zq,zs,ae]
   refine⟨by omega,fun h=>by omega,fun _=>⟨fun h=>by omega,fun _=>⟨fun h=>by omega,fun _=>⟨fun _=>⟨by omega,fun h=>by omega,fun _=>⟨by omega,fun _=>?_,fun h=>absurd rfl h⟩⟩,fun h=>absurd rfl h⟩⟩⟩⟩
   refine al (yG _ _ _ _ _ _ ((bb _).mpr trivial) ((dr _).mpr trivial)) ?_
   simp only[↓zq,zs,ae,bJ,bb,dr,aU]
   refine⟨by omega,?_⟩
   refine al (IH w (by simp only[Vl.nodes];omega) hv b env t2 ⟨ok3,A.wf,hbb,f2⟩ (by omega)) ?_
   simp[↓zq,zs,ae,bA,er,hhd,hx]
  |
   _ =>
   simp only[vH,Ty.av,Vl.cu,↓zq,zs,ae,er,hhd,bA]
   exact⟨by omega,fun h=>by omega,fun _=>⟨fun h=>by omega,fun _=>⟨fun h=>by omega,fun _=>⟨fun _=>⟨by omega,fun h=>by omega,fun _=>⟨by omega,fun h=>by omega,fun _=>by simp[hx]⟩⟩,fun h=>absurd rfl h⟩⟩⟩⟩
 ·have hok:=A.ok
  obtain⟨ok1,ok2,ok3,_⟩:=hok
  obtain⟨f1,f2⟩:=eX A.cl
  cases v with
  |
   p v w =>
   simp only[Vl.nodes]at hl
   simp only[vH,Ty.av,Vl.cu,↓zq,zs,ae]
   refine⟨by omega,fun h=>by omega,fun _=>⟨fun h=>by omega,fun _=>⟨fun h=>by omega,fun _=>⟨fun h=>by omega,fun _=>⟨fun _=>⟨by omega,fun _=>?_,fun h=>absurd rfl h⟩,fun h=>absurd rfl h⟩⟩⟩⟩⟩
   refine al (xY _ _ _ _ _ _ ((bb _).mpr trivial) ((dr _).mpr trivial)) ?_
   simp only[↓zq,zs,ae,bJ,bb,dr,aU]
   refine⟨by omega,?_⟩
   refine al (IH v (by simp only[Vl.nodes];omega) hv.1 a env t1 ⟨ok2,A.wf,ha,f1⟩ (by omega)) ?_
   simp only[↓zq,zs,ae,bA,er,hhd,hx]
   refine⟨fun h=>?_,fun h=>?_⟩
   ·refine al (yG _ _ _ _ _ _ ((bb _).mpr trivial) ((dr _).mpr trivial)) ?_
    simp only[↓zq,zs,ae,bJ,bb,dr,aU]
    refine⟨by omega,?_⟩
    refine al (IH w (by simp only[Vl.nodes];omega) hv.2 b env t2 ⟨ok3,A.wf,hbb,f2⟩ (by omega)) ?_
    simp[↓zq,zs,ae,h]
   ·simp[h]
  |
   _ =>
   simp only[vH,Ty.av,Vl.cu,↓zq,zs,ae,er,hhd,bA]
   exact⟨by omega,fun h=>by omega,fun _=>⟨fun h=>by omega,fun _=>⟨fun h=>by omega,fun _=>⟨fun h=>by omega,fun _=>⟨fun _=>⟨by omega,fun h=>by omega,fun _=>by simp[hx]⟩,fun h=>absurd rfl h⟩⟩⟩⟩⟩
 ·obtain⟨t1',he1,h1,f1,hw1⟩:=jp A.wf A.ok hx A.ty A.cl
  cases he1
  have hok:=A.ok
  obtain⟨ok1,ok2,ok3,_⟩:=hok
  have htD:C6 (.list [x,a,b]) env=.rc t1:=by rw[C6,A.ty];rfl
  have hin:=Ki t1 env a.at (.list [x,a,b]) htD
  simp only[Ty.av]at hin
  simp only[vH,Ty.av,↓zq,zs,ae]
  refine⟨by omega,fun h=>by omega,fun _=>⟨fun h=>by omega,fun _=>⟨fun h=>by omega,fun _=>⟨fun h=>by omega,fun _=>⟨fun h=>by omega,fun _=>⟨fun _=>?_,fun h=>absurd rfl h⟩⟩⟩⟩⟩⟩
  refine al hin ?_
  simp only[↓zq,zs,ae,bJ,bb,dr,wv,aU,fT]
  cases v with
  |
   f w =>
   simp only[Vl.nodes]at hl
   simp only[Vl.cu,↓zq,zs,ae,aU]
   refine⟨by omega,fun _=>⟨by omega,?_⟩,fun h=>absurd rfl h⟩
   refine al (IH w (by simp only[Vl.nodes];omega) hv b (.mk a.at (.list [x,a,b]) env::env) t1 ⟨ok3,hw1,h1,f1⟩ (by simp;omega)) ?_
   simp[↓zq,zs,ae,bA,er,hhd,hx]
  |
   _ =>
   simp only[Vl.cu,↓zq,zs,ae,er,hhd,bA]
   exact⟨by omega,fun h=>by omega,fun _=>by simp[hx]⟩
theorem D5(n:Nat)(hn:n<=100):∀(m:Nat) (v:Vl),v.nodes<m->v.lP 100->∀e env t,Ask e env t->env.length+v.nodes<100000->nr n v e env t
 |0,v,h,_=>by omega
 |
  m+1,v,h,hv=>by
  intro e env t A hl
  have IH:∀w:Vl,w.nodes<v.nodes->w.lP 100->∀e env t,Ask e env t->env.length+w.nodes<100000->nr n w e env t:=fun w hw hb=>D5 n hn m w (by omega) hb
  rcases gI A.wf A.ty with⟨hb,hh⟩|⟨u,f,rfl,hh,hu⟩
  ·exact HH n hn v hv IH e env t A hl hb hh
  ·obtain⟨x,a,b,t',hfe,hok,hx,ht',hf',hwf,hlt⟩:=oE A.wf hh
   obtain⟨t1,hl1,h1,rfl⟩:=db hx (hfe ▸ ht')
   have hvis:er n v (e,env)=er n v (f.ex,f.out):=s3 n v (qL hh) (by rw[hfe];exact qF hwf)
   unfold nr
   refine Gq _ _ _ _ ((bb _).mpr trivial) ((dr _).mpr trivial) ((aU _).mpr trivial) ?_
   have hbd:=Kn env u f hu (by omega)
   simp only[Ty.av]at hbd
   simp only[vH,Ty.av,↓zq,zs,ae]
   refine⟨by omega,fun h=>by omega,fun _=>⟨fun h=>by omega,fun _=>⟨fun _=>?_,fun h=>absurd rfl h⟩⟩⟩
   refine al hbd ?_
   cases f with
   |
    mk s ee oo =>
    simp only[Fr.ex,Fr.out]at hfe ht' hf' hwf hvis hlt
    have htD:C6 ee oo=.rc t1:=by rw[C6,ht'];rfl
    simp only[Fr.cu,htD,↓zq,zs,ae,bJ,bb,dr]
    refine⟨by omega,?_⟩
    have hs:=HH n hn v hv IH ee oo (.rc t1) ⟨by rw[hfe];exact hok,hwf,ht',hf'⟩ (by omega) rfl (by rw[hfe];exact kW hwf)
    unfold nr at hs
    refine al hs ?_
    simp[↓zq,zs,ae,bA,hvis]
end Go.Proofs.Trees
namespace Go.Proofs.Trees
open Go Go.VL Go.RowKit
theorem pT:∀(env:List Fr) (k:Nat) (f:Fr),env[k]?=some f->(iG env).getD (env.length-1-k) []=f.cells
 |[],k,f,h=>by cases h
 |
  g::r,0,f,h=>by
  cases h
  have:(g::r).length-1-0=(iG r).length:=by simp[je]
  rw[this,iG];simp[aa]
 |
  g::r,k+1,f,h=>by
  have h':r[k]?=some f:=by simpa using h
  have hlt:=(List.getElem?_eq_some_iff.1 h').1
  have e:(g::r).length-1-(k+1)=r.length-1-k:=by simp;omega
  have:=pT r k f h'
  rw[e,iG,aa,List.getElem?_append_left (by rw[je];omega),<-aa]
  exact this
theorem oz(f:Fr):f.cells=[.v (.string (mk f.nm)),.v (.string (mk f.ex.at)),f.ex.sp,.sl (iG f.out)]:=by cases f;rfl
theorem DW(e:E)(env:List Fr)(hl:env.length<1000000):∀(j k:Nat),k+j=env.length->CW [.sl (iG env),.v (.int .i64 ((env.length:Int)-1-(k:Int)))] [.cells [.v (.string (mk e.at)),e.sp],.cells [.v (.string (mk [])),.v (.slice none 0 0)]]
 (pj (match eA e.at (env.drop k)with|some f=>(2,[.sl (iG f.out)],[.cells [.v (.string (mk f.ex.at)),f.ex.sp]])|none=>(1,[.sl (iG env)],[.cells [.v (.string (mk e.at)),e.sp],.cells [.v (.string (mk [])),.v (.slice none 0 0)]])))
 |
  0,k,hk=>by
  refine HI _ _ _ _ _ _ ?_
  have hd:env.drop k=[]:=bn (by omega)
  simp only[Bh,↓zq,zs,ae,a6,hd,eA]
  exact⟨fun h=>by omega,fun _=>by first|trivial|rfl⟩
 |
  j+1,k,hk=>by
  refine HI _ _ _ _ _ _ ?_
  have hlt:k<env.length:=by omega
  have hg:env[k]?=some env[k]:=bH hlt
  have hc:=pT env k _ hg
  have e1:((env.length:Int)-1-(k:Int))=((env.length-1-k:Nat):Int):=by omega
  have hdr:env.drop k=env[k]::env.drop (k+1):=aJ hlt
  rw[hdr,eA,e1]
  simp only[Bh,cc,hc,oz,↓zq,zs,ae,zt,a6,je,bJ]
  refine⟨fun _=>⟨by omega,by omega,fun h=>⟨by omega,by omega,by omega,by omega,?_⟩,fun h=>?_⟩,fun h=>by omega⟩
  ·rw[if_pos h]
  ·rw[if_neg h]
   have e2:IntKind.wrap .i64 (((env.length-1-k:Nat):Int)-1)=(env.length:Int)-1-((k+1:Nat):Int):=by
    have:IntKind.wrap .i64 (((env.length-1-k:Nat):Int)-1)=((env.length-1-k:Nat):Int)-1:=wrap64 _ (by omega) (by omega)
    omega
   rw[e2]
   exact DW e env hl j (k+1) (by omega)
theorem JM(e:E)(env:List Fr)(hl:env.length<1000000):ap Tryz.prog 67 [e.iT,.sl (iG env)] [] (bA (.cV [(hd e env).1.iT,.sl (iG (hd e env).2)])):=by
 rw[dz e]
 refine JI _ _ _ ((a6 _).mpr trivial) ((ca _).mpr trivial) ?_
 simp only[G3,↓zq,zs,ae,je,bA]
 have h:=DW e env hl env.length 0 (by omega)
 simp only[aW]at h
 rw[wrap64 _ (by omega) (by omega)]
 rw[show (env.length:Int)-1-((0:Nat):Int)=(env.length:Int)-1 by omega]at h
 refine gF h (fun ys o e'=>?_) (fun ys o e'=>?_)
 ·unfold hd
  cases hq:eA e.at env<;>rw[hq]at e'<;>cases e'
  simp only[↓zq,zs,ae,zt,a6,dz]
 ·unfold hd
  cases hq:eA e.at env<;>rw[hq]at e'<;>cases e'
  simp only[↓zq,zs,ae,zt,a6,dz]
theorem nA:∀env:List Fr,bU 4 (iG env)
 |[]=>fun c hc=>by cases hc
 |
  f::r=>fun c hc=>by
  simp only[iG,aL,be]at hc
  rcases hc with hc|rfl
  ·exact nA r c hc
  ·rw[oz];rfl
theorem K0(x a b:E)(env:List Fr)(hl:env.length<1000000):ap Tryz.prog 69 [(E.list [x,a,b]).iT,.sl (iG env)] [] (bA (.cV [b.iT,.sl (iG (.mk a.at (.list [x,a,b]) env::env))])):=by
 refine KM _ _ _ ((ca _).mpr trivial) ((ca _).mpr trivial) ?_
 simp only[Ei,E.ba,toNat_one,bf,↓zq,zs,ae,zt,gj,eQ,gk,kg,au,je,bA,bz]
 refine⟨by omega,⟨nA env,by omega⟩,by omega,by omega,⟨fun c hc=>(by simp at hc;rw[hc];rfl),by omega⟩,?_⟩
 simp only[iG,oz,Fr.nm,Fr.ex,Fr.out,E.at,E.sp,E.ba]
theorem zk(s:ByteArray)(e:E):bJ [.str,.sl] [.v (.string s),e.sp] 0=True:=by apply eq_true;simp[bJ,dV,a6]
theorem Cx{e:E}{env:List Fr}{t:Ty}(A:Ask e env t):∃e' o t',hd e env=(e',o)/\Ask e' o t'/\t'.Ii=false/\hd e' o=(e',o)/\o.length<=env.length:=by
 rcases gI A.wf A.ty with⟨hb,hh⟩|⟨u,f,rfl,hh,hu⟩
 ·exact⟨e,env,t,jI hh,A,hb,jI hh,au _⟩
 ·obtain⟨x,a,b,t',hfe,hok,hx,ht',hf',hwf,hlt⟩:=oE A.wf hh
  refine⟨f.ex,f.out,t',qL hh,⟨by rw[hfe];exact hok,hwf,ht',hf'⟩,?_,?_,by omega⟩
  ·obtain⟨t1,_,_,rfl⟩:=db hx (hfe ▸ ht');rfl
  ·rw[hfe];exact qF hwf
def vh:Vl->List UInt8
 | .l _=>[108]
 | .r _=>[114]
 | .f _=>[102]
 | .p _ _=>[112]
 |_=>[]
theorem G2(v:Vl):ap Tryz.prog 33 [v.dq.iT] [] (bA (.v (.string (mk (vh v))))):=by
 cases v with
 |u=>exact vS _ _ ((bi).mpr trivial) (by simp)
 |el k=>exact vS _ _ ((bi).mpr trivial) (by simp)
 |l v=>exact sV _ _
 |r v=>exact sV _ _
 |f v=>exact sV _ _
 |p v w=>exact sV _ _
theorem Lt(v:Vl)(hv:v.lP 100):v.dq.at=(match v with| .u=>[117]| .el k=>w7 k|_=>[])/\wG v.dq.at=(match v with| .el k=>(k:Int)|_=>-1):=by
 cases v with
 |el k=>exact⟨rfl,CU k hv⟩
 |u=>exact⟨rfl,rfl⟩
 |_=>exact⟨rfl,rfl⟩
theorem C3(n:Nat)(hn:n<=100):∀(m:Nat) (v:Vl),v.nodes<m->v.lP 100->∀e env t,Ask e env t->env.length+v.nodes<100000->ap Tryz.prog 38 [e.iT,.sl (iG env),v.dq.iT,.v (.int .i64 (n:Int))] [] (bA (.v (.bool (er n v (e,env)))))
 |0,v,hm,hv,e,env,t,A,hl=>by omega
 |
  m+1,v,hm,hv,e,env,t,A,hl=>by
  obtain⟨e',o,t',hhd,A',hb,hh',hlen⟩:=Cx A
  rw[s3 n v hhd hh',dz e,dz v.dq]
  refine IM _ _ _ _ _ _ ((a6 _).mpr trivial) ((ca _).mpr trivial) ((a6 _).mpr trivial) ?_
  have hf:=JM e env (by omega)
  rw[dz e,hhd]at hf
  have hvh:=G2 v
  rw[dz]at hvh
  unfold Gm
  refine al hf ?_
  simp only[dz e',↓zq,zs,ae,zt,a6,zk,bA]
  rcases fw A'.ty hb A'.cl with⟨rfl,rfl⟩|⟨rfl,rfl⟩|⟨s,rfl,rfl,hp,h0,h1⟩|⟨x,a,b,t1,t2,rfl,hx,rfl,ha,hbb⟩|⟨x,a,b,t1,t2,rfl,hx,rfl,ha,hbb⟩|⟨x,a,b,t1,rfl,hx,rfl⟩
  ·refine⟨fun _=>⟨fun h=>by simp[E.at]at h,fun _=>al (Cs _) ?_⟩,fun h=>by simp[E.at]at h⟩
   have hp0:gh (E.atom [48]).at=false:=rfl
   have hp1:gh [48]=false:=rfl
   cases v<;>simp[↓zq,zs,ae,hp0,er,hh',hp1]
  ·refine⟨fun _=>⟨fun _=>?_,fun h=>absurd rfl h⟩,fun h=>by simp[E.at]at h⟩
   have hp1:gh [49]=false:=rfl
   cases v<;>simp[er,hh',hp1,Vl.dq,E.at]
  ·have hne:s≠[]:=A'.ok
   have h1':(s==[49])=false:=by simpa using h1
   refine⟨fun _=>⟨fun h=>absurd h h1,fun _=>al (Cs _) ?_⟩,fun h=>absurd h hne⟩
   have hat:(E.atom s).at=s:=rfl
   simp only[hat,hp,↓zq,zs,ae]
   refine⟨fun _=>al (D1 _) ?_,fun h=>by cases h⟩
   simp only[↓zq,zs,ae]
   rw[wrap64 _ (by omega) (by omega)]
   refine al (ye _ _ _) ?_
   simp only[↓zq,zs,ae,zM,(Lt v hv).2]
   cases v with
   |
    el k =>
    simp only[er,hh',h1',hp,zf]
    congr 2
    rw[bV];simp;omega
   |_=>simp[er,hh',h1']
  ·have hok:=A'.ok
   obtain⟨ok1,ok2,ok3,_⟩:=hok
   obtain⟨f1,f2⟩:=fQ A'.cl
   refine⟨fun h=>absurd rfl h,fun _=>al (sV x [a,b]) ?_⟩
   simp only[↓zq,zs,ae]
   refine al hvh ?_
   rw[hx]
   cases v with
   |
    l w =>
    simp only[Vl.nodes]at hl
    simp only[vh,Vl.dq,E.sp,E.ba,toNat_one,bf,↓zq,zs,ae,zt,gj,eQ,gk,kg,au]
    refine⟨by simp,fun _=>⟨by omega,by omega,al (C3 n hn m w (by simp only[Vl.nodes]at hm;omega) hv a o t1 ⟨ok2,A'.wf,ha,f1⟩ (by omega)) ?_⟩,fun h=>absurd rfl h⟩
    simp[↓zq,zs,ae,er,hh',hx]
   |
    r w =>
    simp only[Vl.nodes]at hl
    simp only[vh,Vl.dq,E.sp,E.ba,toNat_one,bf,↓zq,zs,ae,zt,gj,eQ,gk,kg,au]
    refine⟨by simp,fun h=>by simp at h,fun _=>⟨fun _=>⟨by omega,by omega,al (C3 n hn m w (by simp only[Vl.nodes]at hm;omega) hv b o t2 ⟨ok3,A'.wf,hbb,f2⟩ (by omega)) ?_⟩,fun h=>absurd rfl h⟩⟩
    simp[↓zq,zs,ae,er,hh',hx]
   |_=>simp[vh,↓zq,zs,ae,zt,er,hh',hx]
  ·have hok:=A'.ok
   obtain⟨ok1,ok2,ok3,_⟩:=hok
   obtain⟨f1,f2⟩:=eX A'.cl
   refine⟨fun h=>absurd rfl h,fun _=>al (sV x [a,b]) ?_⟩
   simp only[↓zq,zs,ae]
   refine al hvh ?_
   rw[hx]
   cases v with
   |
    p w z =>
    simp only[Vl.nodes]at hl
    simp only[vh,Vl.dq,E.sp,E.ba,toNat_one,bf,↓zq,zs,ae,zt,gj,eQ,gk,kg,au]
    refine⟨by simp,fun h=>by simp at h,fun _=>⟨fun h=>by simp at h,fun _=>⟨fun _=>⟨by omega,by omega,al (C3 n hn m w (by simp only[Vl.nodes]at hm;omega) hv.1 a o t1 ⟨ok2,A'.wf,ha,f1⟩ (by omega)) ?_⟩,fun h=>absurd rfl h⟩⟩⟩
    simp only[↓zq,zs,ae,er,hh',hx]
    refine⟨fun h=>⟨by omega,by omega,al (C3 n hn m z (by simp only[Vl.nodes]at hm;omega) hv.2 b o t2 ⟨ok3,A'.wf,hbb,f2⟩ (by omega)) ?_⟩,fun h=>?_⟩
    ·simp[↓zq,zs,ae,h]
    ·simp[h]
   |_=>simp[vh,↓zq,zs,ae,zt,er,hh',hx]
  ·obtain⟨t1',he1,h1,f1,hw1⟩:=jp A'.wf A'.ok hx A'.ty A'.cl
   cases he1
   have hok:=A'.ok
   obtain⟨ok1,ok2,ok3,_⟩:=hok
   refine⟨fun h=>absurd rfl h,fun _=>al (sV x [a,b]) ?_⟩
   simp only[↓zq,zs,ae]
   refine al hvh ?_
   rw[hx]
   cases v with
   |
    f w =>
    simp only[Vl.nodes]at hl
    simp only[vh,Vl.dq,E.sp,E.ba,toNat_one,bf,↓zq,zs,ae,zt,gj,eQ,gk,kg,au]
    refine⟨by simp,fun h=>by simp at h,fun _=>⟨fun h=>by simp at h,fun _=>⟨fun h=>by simp at h,fun _=>⟨fun _=>al (K0 x a b o (by omega)) ?_,fun h=>absurd rfl h⟩⟩⟩⟩
    simp only[↓zq,zs,ae,tF,ym]
    refine⟨by omega,al (C3 n hn m w (by simp only[Vl.nodes]at hm;omega) hv b (.mk a.at (.list [x,a,b]) o::o) t1 ⟨ok3,hw1,h1,f1⟩ (by simp;omega)) ?_⟩
    simp[↓zq,zs,ae,er,hh',hx]
   |_=>simp[vh,↓zq,zs,ae,zt,er,hh',hx]
theorem KK(n:Nat)(hn:n<=100)(v:Vl)(hv:v.lP 100)(e:E)(env:List Fr)(t:Ty)(A:Ask e env t)(hl:env.length+v.nodes<100000):ap Tryz.prog 38 [e.iT,.sl (iG env),v.dq.iT,.v (.int .i64 (n:Int))] [] (bA (.v (.bool (er n v (e,env))))):=C3 n hn (v.nodes+1) v (by omega) hv e env t A hl
end Go.Proofs.Trees
namespace Go.Proofs.Trees
open Go Go.VL Go.RowKit
theorem DX(l:List (List UInt8))(a:AV)(ha:dD a l)(s:List UInt8)(hl:l.length<1000000):∀(k i:Nat),i+k=l.length->CN [a,.v (.string (mk s)),.v (.int .i64 (i:Int))] []
 (pj (if s∈l.drop i then(2,[.v (.bool true)],[])else(1,[],[])))
 |
  0,i,hi=>by
  refine Hi _ _ _ ?_
  have hd:l.drop i=[]:=bn (by omega)
  simp only[AG,↓zq,zs,ae,hd,ha.len]
  exact⟨ha.1,ha.1,fun h=>by omega,fun _=>by simp[pj]⟩
 |
  k+1,i,hi=>by
  have hlt:i<l.length:=by omega
  have hdr:l.drop i=l.getD i []::l.drop (i+1):=by
   rw[aJ hlt];simp[aa,hlt]
  refine Hi _ _ _ ?_
  simp only[AG,↓zq,zs,ae,zt,ha.len,ha.idx hlt]
  refine⟨ha.1,ha.1,fun _=>⟨⟨ha.1,by omega,by omega⟩,by omega,fun h=>?_,fun h=>?_⟩,fun h=>by omega⟩
  ·rw[hdr,h];simp[pj]
  ·rw[bk i (by omega)]
   have:=DX l a ha s hl k (i+1) (by omega)
   have e:s∈l.drop i↔s∈l.drop (i+1):=by
    rw[hdr,aF];exact⟨fun q=>q.resolve_left (fun q=>h q.symm),.inr⟩
   simp only[e];exact this
theorem C7(l:List (List UInt8))(a:AV)(ha:dD a l)(s:List UInt8)(hl:l.length<1000000):ap Tryz.prog 73 [a,.v (.string (mk s))] [] (bA (.v (.bool (decide (s∈l))))):=by
 refine Ir _ _ ha.1 ?_
 unfold DM
 refine gF (DX l a ha s hl l.length 0 (by omega)) (fun ys o e=>?_) (fun ys o e=>?_)
 ·simp only[aW]at e
  split at e<;>cases e
  rename_i h
  simp[↓zq,zs,ae,bA,h]
 ·simp only[aW]at e
  split at e<;>cases e
  rename_i h
  simp[↓zq,zs,ae,bA,h]
theorem Dh(l:List (List UInt8))(a:AV)(ha:dD a l)(s:List UInt8)(hl:l.length<1000000):ap Tryz.prog 71 [a,.v (.string (mk s))] [] (bA (.sl (bX (l++[s])))):=by
 refine Ku _ _ ha.1 ?_
 simp only[DN,↓zq,zs,ae,ha.2,bA,bz]
 have:(bX l).length=l.length:=by simp[bX]
 refine⟨⟨ha.1,ky l,by omega⟩,⟨fun c hc=>(by simp at hc;rw[hc];rfl),by omega⟩,?_⟩
 rw[xG]
def j1:E->List (List UInt8)->List (List UInt8)->List (List UInt8)
 | .atom s,bd,l=>if s=[48]\/s=[49]\/s∈bd\/s∈l then l else l++[s]
 | .list [x,a,b],bd,l=>if x.at=[114,101,99]then j1 b (bd++[a.at]) l else j1 b bd (j1 a bd l)
 | .list _,_,l=>l
theorem fW:∀(e:E) (bd l:List (List UInt8)),(j1 e bd l).length<=l.length+e.sz
 | .atom s,bd,l=>by rw[j1];split<;>simp[E.sz]
 | .list [],bd,l=>by simp[j1]
 | .list [_],bd,l=>by simp[j1]
 | .list [_,_],bd,l=>by simp[j1]
 | .list (_::_::_::_::_),bd,l=>by simp[j1]
 |
  .list [x,a,b],bd,l=>by
  rw[j1]
  simp only[E.sz,E.gT]
  split
  ·have:=fW b (bd++[a.at]) l;omega
  ·have:=fW a bd l
   have:=fW b bd (j1 a bd l)
   omega
theorem za:∀(e:E) (bd l:List (List UInt8)) (a:AV),e.ok->iD e=true->dD a bd->bd.length+l.length+e.sz<100000->ap Tryz.prog 43 [e.iT,a,.vec 0] [.vec 1 (bX l)] (cP (.vec 1) [.dead,.vec 1 (bX (j1 e bd l))])
 |
  .atom s,bd,l,a,hok,hty,ha,hl=>by
  simp only[E.sz]at hl
  refine C8 _ _ _ _ ((bi).mpr trivial) ha.1 ?_
  have hne:s≠[]:=hok
  have hll:(bX l).length=l.length:=by simp[bX]
  simp only[B8,↓zq,zs,ae,zt,cP,j1]
  refine⟨fun _=>⟨fun h=>?_,fun h=>⟨fun h1=>?_,fun h1=>?_⟩⟩,fun h=>absurd h hne⟩
  ·rw[if_pos (.inl h)]
  ·rw[if_pos (.inr (.inl h1))]
  ·refine al (C7 bd a ha s (by omega)) ?_
   simp only[↓zq,zs,ae]
   refine⟨fun h2=>?_,fun h2=>al (C7 l _ (.of l) s (by omega)) ?_⟩
   ·rw[if_pos (.inr (.inr (.inl h2)))]
   ·simp only[↓zq,zs,ae]
    refine⟨fun h3=>?_,fun h3=>⟨⟨fun c hc=>(by simp at hc;rw[hc];rfl),by omega⟩,?_⟩⟩
    ·rw[if_pos (.inr (.inr (.inr h3)))]
    ·rw[xG,if_neg]
     rintro(q|q|q|q)
     ·exact h q
     ·exact h1 q
     ·exact h2 q
     ·exact h3 q
 | .list [],_,_,_,_,h,_,_=>by cases h
 | .list [_],_,_,_,_,h,_,_=>by cases h
 | .list [_,_],_,_,_,_,h,_,_=>by cases h
 | .list (_::_::_::_::_),_,_,_,_,h,_,_=>by cases h
 |
  .list [x,y,z],bd,l,a,hok,hty,ha,hl=>by
  simp only[E.sz,E.gT]at hl
  obtain⟨ok1,ok2,ok3,_⟩:=hok
  refine C8 _ _ _ _ ((ca _).mpr trivial) ha.1 ?_
  simp only[B8,E.ba,toNat_one,bf,↓zq,zs,ae,zt,gj,eQ,gk,kg,au,cP]
  refine⟨fun h=>absurd rfl h,fun _=>al (sV x [y,z]) ?_⟩
  simp only[↓zq,zs,ae,zt]
  have hyl:=fW y bd l
  rw[iD]at hty
  refine⟨fun h=>⟨by omega,by omega,by omega,al (Dh bd a ha y.at (by omega)) ?_⟩,fun h=>⟨by omega,by omega,?_⟩⟩
  ·have hz:iD z=true:=by
    rw[if_neg (by rw[h];decide),if_neg (by rw[h];decide),if_pos h]at hty
    simp only[aq]at hty;exact hty.2
   simp only[↓zq,zs,ae]
   refine bx (za z (bd++[y.at]) l _ ok3 hz (.of _) (by simp;omega)) ?_
   simp only[↓zq,zs,ae]
   rw[j1,if_pos h]
  ·have hyz:iD y=true/\iD z=true:=by
    split at hty
    ·simpa using hty
    ·split at hty
     ·simpa using hty
     ·cases hty
   refine bx (za y bd l a ok2 hyz.1 ha (by omega)) ?_
   simp only[↓zq,zs,ae]
   refine bx (za z bd (j1 y bd l) a ok3 hyz.2 ha (by omega)) ?_
   simp only[↓zq,zs,ae]
   rw[j1,if_neg h]
theorem iN{s:List UInt8}(h:gh s=true):cI s=false:=by
 cases hq:cI s with
 |false=>rfl
 |
  true =>
  obtain⟨c,r,rfl,h1,h2⟩:=jN h
  obtain⟨c',r',he,h3,h4⟩:=jN hq
  cases he;omega
theorem kp(s:List UInt8)(ar:List (List UInt8)):∀i,i<=ar.length->(bq s ar i=none↔s∉ar.take i)
 |0,_=>by simp[bq]
 |
  i+1,hi=>by
  have hlt:i<ar.length:=by omega
  have e:ar.getD i []=ar[i]:=by simp[aa,hlt]
  have e2:s∈ar.take (i+1)↔s∈ar.take i\/s=ar[i]:=by
   rw[show ar.take (i+1)=ar.take i++[ar[i]] from (List.take_append_getElem hlt).symm]
   simp only[aL,be]
  rw[bq,e,e2]
  by_cases h:ar[i]=s
  ·rw[if_pos h]
   exact⟨fun h=>(by cases h),fun h'=>absurd (.inr h.symm) h'⟩
  ·rw[if_neg h,kp s ar i (by omega)]
   exact⟨fun h1 h2=>h2.elim h1 (fun h3=>h h3.symm),fun h1 h2=>h1 (.inl h2)⟩
theorem jw:∀(e:E) (ar l:List (List UInt8)) (t:Ty),cv e ar=some t->(∀w,w∈ar->cI w=true)->(j1 e ar l).any cI=(l.any cI||bS t)
 |
  .atom s,ar,l,t,h,har=>by
  simp only[cv]at h
  rw[j1]
  split at h
  ·rename_i h0;cases h;rw[if_pos (.inl h0)];simp[bS]
  ·rename_i h0
   split at h
   ·rename_i h1;cases h;rw[if_pos (.inr (.inl h1))];simp[bS]
   ·rename_i h1
    split at h
    ·rename_i h2
     cases h
     have hn:=iN h2
     simp only[bS,hn]
     split
     ·simp
     ·simp[hn]
    ·split at h
     ·rename_i h2 h3
      have hlo:=kp s ar ar.length (au _)
      rw[List.take_length]at hlo
      cases hq:bq s ar ar.length with
      |
       some u =>
       rw[hq]at h;cases h
       have hm:s∈ar:=Classical.byContradiction fun hm=>by rw[hlo.2 hm]at hq;cases hq
       rw[if_pos (.inr (.inr (.inl hm)))];simp[bS]
      |
       none =>
       rw[hq]at h;cases h
       have hm:=hlo.1 hq
       simp only[bS,h3,Bool.or_true]
       split
       ·rename_i hh
        rcases hh with q|q|q|q
        ·exact absurd q h0
        ·exact absurd q h1
        ·exact absurd q hm
        ·rw[bu];exact⟨s,q,h3⟩
       ·simp[h3]
     ·cases h
 | .list [],_,_,_,h,_=>by cases h
 | .list [_],_,_,_,h,_=>by cases h
 | .list [_,_],_,_,_,h,_=>by cases h
 | .list (_::_::_::_::_),_,_,_,h,_=>by cases h
 |
  .list [x,a,b],ar,l,t,h,har=>by
  rw[j1]
  by_cases h0:x.at=[43]
  ·obtain⟨t1,t2,e1,e2,rfl⟩:=eW h0 h
   rw[if_neg (by rw[h0];decide),jw b ar _ t2 e2 har,jw a ar l t1 e1 har,bS,Bool.or_assoc]
  ·by_cases h1:x.at=[42]
   ·obtain⟨t1,t2,e1,e2,rfl⟩:=ez h1 h
    rw[if_neg (by rw[h1];decide),jw b ar _ t2 e2 har,jw a ar l t1 e1 har,bS,Bool.or_assoc]
   ·by_cases h2:x.at=[114,101,99]
    ·obtain⟨t1,hl,e1,rfl⟩:=db h2 h
     rw[if_pos h2,jw b _ l t1 e1 (fun w hw=>by
      simp only[aL,be]at hw
      rcases hw with hw|rfl
      ·exact har w hw
      ·exact hl),bS]
    ·rw[hD _ h0 h1 h2]at h;cases h
def jm(s:List UInt8):Option E:=match wQ s with
 |none=>none
 |some e=>if(j1 e [] []).any cI=true then none else some e
theorem vY{s:List UInt8}:wx s=match jm s with|none=>none|some e=>cv e []:=by
 unfold wx jm
 rw[Ae]
 cases he:wQ s with
 |none=>rfl
 |
  some e =>
  obtain⟨h1,h2,h3⟩:=tt he
  have hs:=ia e []
  rw[h2]at hs
  obtain⟨t,ht⟩:=bI.1 hs
  have ha:=jw e [] [] t ht (fun w hw=>by cases hw)
  simp only[ht,u4,ha,List.any_nil,Bool.false_or]
  cases hf:bS t<;>simp[ht]
theorem hZ{s:List UInt8}{e:E}(h:jm s=some e):∃t,wx s=some t/\Ask e [] t/\iD e=true/\e.sz<=8000/\t.aZ<=400/\pE s=some e:=by
 have h0:=h
 unfold jm at h
 split at h
 ·cases h
 ·rename_i e' he
  split at h
  ·cases h
  ·rename_i hn
   cases h
   obtain⟨h1,h2,h3⟩:=tt he
   obtain⟨hok,hsz⟩:=mZ h1
   have hs:=ia e []
   rw[h2]at hs
   obtain⟨t,ht⟩:=bI.1 hs
   have ha:=jw e [] [] t ht (fun w hw=>by cases hw)
   rw[ha]at hn
   refine⟨t,by rw[vY,h0];exact ht,⟨hok,.nil,ht,by simpa using hn⟩,h2,hsz,?_,h1⟩
   rw[<-iv e [] t ht];exact h3
theorem pV{s:List UInt8}(h:jm s=none):wx s=none:=by rw[vY,h]
theorem GX(e:E)(l:List (List UInt8))(hl:l.length<1000000):∀(k i:Nat),i+k=l.length->Cg [.v (.int .i64 (i:Int))] [.cells [.v (.string (mk [])),.v (.slice none 0 0)],.cells [.v (.string (mk e.at)),e.sp],.vec 1 (bX l)]
 (pj (if(l.drop i).any cI=true then(2,[.v (.bool false)],[.cells [.v (.string (mk e.at)),e.sp]])else(1,[],[.cells [.v (.string (mk [])),.v (.slice none 0 0)],.cells [.v (.string (mk e.at)),e.sp]])))
 |
  0,i,hi=>by
  refine Hg _ _ _ _ _ _ ?_
  have hd:l.drop i=[]:=bn (by omega)
  have hll:(bX l).length=l.length:=by simp[bX]
  simp only[Bl,↓zq,zs,ae,hd,hll,a6]
  exact⟨fun h=>by omega,fun _=>by simp[pj]⟩
 |
  k+1,i,hi=>by
  have hlt:i<l.length:=by omega
  have hll:(bX l).length=l.length:=by simp[bX]
  have hdr:l.drop i=l.getD i []::l.drop (i+1):=by
   rw[aJ hlt];simp[aa,hlt]
  have hg:=(dD.of l).idx hlt
  simp only[eE]at hg
  refine Hg _ _ _ _ _ _ ?_
  simp only[Bl,↓zq,zs,ae,zt,hll,hg,a6]
  refine⟨fun _=>⟨by omega,by omega,al (Af _) ?_⟩,fun h=>by omega⟩
  simp only[↓zq,zs,ae,hdr,List.any_cons]
  refine⟨fun h=>?_,fun h=>?_⟩
  ·rw[h];simp[pj]
  ·rw[h,bk i (by omega)]
   simp only[Bool.false_or]
   exact GX e l hl k (i+1) (by omega)
theorem A0(s:List UInt8):ap Tryz.prog 25 [.v (.string (mk s))] [] (kz (jm s) (jm s).isSome):=by
 refine Jf _ ?_
 unfold HC
 refine aT (JJ s) (kz.ne _ _ (fun h=>h)) ?_
 rintro r o ⟨c,d,hd,rfl,hh⟩
 have hhas:bJ [.str,.sl] [.v (.string (mk c)),d] 0:=by simp[bJ,dV,hd]
 simp only[↓zq,zs,ae,zt]
 refine⟨hhas,fun h=>?_,fun h=>?_⟩
 ·have hn:wQ s=none:=by cases hq:wQ s<;>simp[hq]at h |-
  unfold jm
  rw[hn]
  exact⟨c,d,hd,rfl,fun h=>by cases h⟩
 ·obtain⟨e,he,hce⟩:=hh h
  obtain⟨h1,h2,h3⟩:=tt he
  obtain⟨hok,hsz⟩:=mZ h1
  have hce':=hce
  rw[dz]at hce'
  simp only[AV.agg.injEq,List.cons.injEq,AV.v.injEq,Value.string.injEq,and_true]at hce'
  obtain⟨hc1,rfl⟩:=hce'
  have hc2:=s5 hc1
  subst hc2
  rw[<-dz]
  refine bx (za e [] [] _ hok h2 (.of []) (by simp;omega)) ?_
  have hfl:=fW e [] []
  simp only[↓zq,zs,ae]
  have hLS:=GX e (j1 e [] []) (by simp at hfl;omega) (j1 e [] []).length 0 (by omega)
  simp only[aW]at hLS
  unfold jm
  rw[he]
  refine gF hLS (fun ys o e'=>?_) (fun ys o e'=>?_)
  ·split at e'<;>cases e'
   rename_i hn
   simp only[↓zq,zs,ae,a6,if_neg hn]
   exact⟨e.at,e.sp,hd,rfl,fun _=>⟨e,rfl,(dz e).symm⟩⟩
  ·split at e'<;>cases e'
   rename_i hn
   simp only[↓zq,zs,ae,a6,if_pos hn]
   exact⟨e.at,e.sp,hd,rfl,fun h=>by cases h⟩
def w9(s v:List UInt8)(n:Int):Option Vl:=match jm s,sC v with
 |some e,some w=>if(0<=n/\n<=100)/\er n.toNat w (e,[])=true then some w else none
 |_,_=>none
theorem xJ{s v:List UInt8}{n:Int}{w:Vl}(h:w9 s v n=some w):∃e t m,jm s=some e/\sC v=some w/\wx s=some t/\Ask e [] t/\n=(m:Nat)/\m<=100/\er m w (e,[])=true:=by
 unfold w9 at h
 split at h
 ·rename_i e w' he hw
  split at h
  ·rename_i hh
   cases h
   obtain⟨t,h1,h2,_⟩:=hZ he
   exact⟨e,t,n.toNat,he,hw,h1,h2,by omega,by omega,hh.2⟩
  ·cases h
 ·cases h
theorem Iv(s v:List UInt8)(n:Int):ap Tryz.prog 30 [.v (.string (mk s)),.v (.string (mk v)),.v (.int .i64 n)] [] (bA (.cV [gK (wx s),gY (w9 s v n)])):=by
 refine Kb _ _ _ ?_
 unfold Ht
 refine al (HO s) ?_
 simp only[↓zq,zs,ae,i6]
 refine al (JX v) ?_
 simp only[↓zq,zs,ae,gG,bA]
 unfold w9
 cases he:jm s with
 |none=>rw[pV he];cases sC v<;>simp[gK,gY,↓zq,zs,ae]
 |
  some e =>
  obtain⟨t,h1,h2,h3,h4,h5,_⟩:=hZ he
  rw[h1]
  cases hv:sC v with
  |none=>simp only[gK,gY,bb,eS,↓zq,zs,ae];exact⟨fun h=>(by cases h),fun _=>⟨fun _=>trivial,fun h=>(by cases h)⟩⟩
  |
   some w =>
   obtain⟨h6,h7,h8⟩:=qM hv
   simp only[gK,gY,bb,eS,aU,fT,↓zq,zs,ae]
   refine⟨fun h=>(by cases h),fun _=>⟨fun h=>(by cases h),fun _=>⟨fun h=>?_,fun h=>⟨fun h'=>?_,fun h'=>?_⟩⟩⟩⟩
   ·rw[if_neg (by omega)]
   ·rw[if_neg (by omega)]
   ·obtain⟨m,rfl⟩:∃m:Nat,n=(m:Int):=⟨n.toNat,by omega⟩
    have hi:=D5 m (by omega) (w.nodes+1) w (by omega) h7 e [] t h2 (by simp;omega)
    unfold nr at hi
    refine al hi ?_
    simp only[↓zq,zs,ae,cc]
    refine⟨fun hq=>?_,fun hq=>?_⟩
    ·rw[if_neg (by rw[hq];simp)]
    ·rw[if_pos ⟨by omega,hq⟩]
theorem I0(s v:List UInt8)(n:Int):ap Tryz.prog 21 [.v (.string (mk s)),.v (.string (mk v)),.v (.int .i64 n)] [] (bA (.v (.bool (w9 s v n).isSome))):=by
 refine JO _ _ _ ?_
 unfold FG
 refine aT (A0 s) (kz.ne _ _ (fun h=>h)) ?_
 rintro r o ⟨c,d,hd,rfl,hh⟩
 have hhas:bJ [.str,.sl] [.v (.string (mk c)),d] 0:=by simp[bJ,dV,hd]
 simp only[↓zq,zs,ae,zt]
 refine⟨hhas,?_⟩
 refine aT (Fc v) (kz.ne _ _ (fun h=>by cases hq:sC v<;>simp[hq]at h |-)) ?_
 rintro r o ⟨c',d',hd',rfl,hh'⟩
 have hhas':bJ [.str,.sl] [.v (.string (mk c')),d'] 0:=by simp[bJ,dV,hd']
 simp only[↓zq,zs,ae,zt,bA]
 refine⟨hhas',fun h=>⟨fun h2=>?_,fun h2=>?_⟩,fun h=>?_⟩
 ·obtain⟨e,he,hce⟩:=hh h
  obtain⟨t,h1,hA,h3,h4,h5,_⟩:=hZ he
  obtain⟨w,hw⟩:=bI.1 h2
  obtain⟨e2,he2,hce2⟩:=hh' h2
  rw[hw]at he2
  cases he2
  obtain⟨h6,h7,h8⟩:=qM hw
  refine al (ye _ _ _) ?_
  simp only[↓zq,zs,ae,zM,w9,he,hw]
  refine⟨fun hq=>?_,fun hq=>?_⟩
  ·have hq':0<=n/\n<=100:=by simpa using hq
   obtain⟨m,rfl⟩:∃m:Nat,n=(m:Int):=⟨n.toNat,by omega⟩
   rw[hce,hce2]
   have:=KK m (by omega) w h7 e [] t hA (by simp;omega)
   rw[show iG []=[] from rfl]at this
   refine al this ?_
   simp only[↓zq,zs,ae,cc]
   by_cases hb:er m w (e,[])=true
   ·rw[if_pos ⟨hq',hb⟩,hb];rfl
   ·rw[if_neg (fun h=>hb h.2)]
    rw[Bool.not_eq_true]at hb
    rw[hb];rfl
  ·have hq':¬(0<=n/\n<=100):=by simpa using hq
   rw[if_neg (fun h=>hq' h.1)];rfl
 ·have hn:sC v=none:=by cases hq:sC v<;>simp[hq]at h2 |-
  unfold w9
  rw[hn];cases jm s<;>rfl
 ·have hn:jm s=none:=by cases hq:jm s<;>simp[hq]at h |-
  unfold w9
  rw[hn];rfl
end Go.Proofs.Trees
namespace Go.Proofs.Trees
open Go Go.VL Go.RowKit
inductive Tg where
 |nm (s:List UInt8)
 |bd (k:Nat)
 deriving DecidableEq
def Tg.up:Tg->Tg
 | .nm s=>.nm s
 | .bd k=>.bd (k+1)
def gS:Ty->Tg->Bool
 | .name s,.nm s'=>decide (s=s')
 | .cX u,.bd k=>decide (u=k)
 |_,_=>false
abbrev Hl:=Vl×Vl
def gP(g:Vl->Vl)(l:List Hl):List Hl:=l.map fun h=>(g h.1,h.2)
def lH(f:Ty->Tg->Vl->List Hl)(tg:Tg):Ty->Vl->List Hl
 | .plus a _,.l w=>gP .l (f a tg w)
 | .plus _ b,.r w=>gP .r (f b tg w)
 | .times a b,.p x y=>gP (fun c=>.l (.p c y)) (f a tg x)++gP (fun c=>.r (.p x c)) (f b tg y)
 | .rc a,.f w=>gP (fun c=>.f (.l c)) (f a tg.up w)++(f a (.bd 0) w).flatMap fun h=>gP (fun c=>.f (.r (.p h.1 c))) (f (.rc a) tg h.2)
 |_,_=>[]
def dW:Nat->Ty->Tg->Vl->List Hl
 |0,_,_,_=>[]
 |n+1,t,tg,v=>if gS t tg=true then [(.u,v)]else lH (dW n) tg t v
def stuck:Ty->Vl->Bool
 | .plus _ _,.l _=>false
 | .plus _ _,.r _=>false
 | .times _ _,.p _ _=>false
 | .rc _,.f _=>false
 |_,_=>true
def bK(t:Ty)(tg:Tg)(v:Vl):List Hl:=dW v.nodes t tg v
theorem dC{g:Vl->Vl}{l:List Hl}{h:Hl}(hm:h∈gP g l):∃k,k∈l/\h=(g k.1,k.2):=by
 obtain⟨k,h1,h2⟩:=bT.1 hm
 exact⟨k,h1,h2.symm⟩
theorem jC{f g:Hl->List Hl}:∀{l:List Hl},(∀h,h∈l->f h=g h)->l.flatMap f=l.flatMap g
 |[],_=>rfl
 |h::l,hl=>by rw[cB,cB,hl h af,jC (l:=l) fun k hk=>hl k (aj _ hk)]
theorem eh:∀(n:Nat) (t:Ty) (tg:Tg) (v:Vl) (h:Hl),h∈dW n t tg v->h.2.nodes<=v.nodes/\h.1.nodes+4*h.2.nodes<=4*v.nodes+1
 |0,t,tg,v,h,hm=>by simp[dW]at hm
 |
  n+1,t,tg,v,h,hm=>by
  unfold dW at hm
  split at hm
  ·simp only[be]at hm
   subst hm
   simp only[Vl.nodes];omega
  ·unfold lH at hm
   split at hm
   ·obtain⟨k,h1,rfl⟩:=dC hm
    have:=eh n _ _ _ k h1
    simp only[Vl.nodes];omega
   ·obtain⟨k,h1,rfl⟩:=dC hm
    have:=eh n _ _ _ k h1
    simp only[Vl.nodes];omega
   ·rcases aL.1 hm with hm|hm
    ·obtain⟨k,h1,rfl⟩:=dC hm
     have:=eh n _ _ _ k h1
     simp only[Vl.nodes];omega
    ·obtain⟨k,h1,rfl⟩:=dC hm
     have:=eh n _ _ _ k h1
     simp only[Vl.nodes];omega
   ·rcases aL.1 hm with hm|hm
    ·obtain⟨k,h1,rfl⟩:=dC hm
     have:=eh n _ _ _ k h1
     simp only[Vl.nodes];omega
    ·obtain⟨k,h1,h2⟩:=List.mem_flatMap.1 hm
     obtain⟨k2,h3,rfl⟩:=dC h2
     have:=eh n _ _ _ k h1
     have:=eh n _ _ _ k2 h3
     simp only[Vl.nodes];omega
   ·simp at hm
theorem fA:∀(n m:Nat) (t:Ty) (tg:Tg) (v:Vl),v.nodes<=n->v.nodes<=m->dW n t tg v=dW m t tg v
 |0,m,t,tg,v,h,_=>by have:=cZ v;omega
 |n+1,0,t,tg,v,_,h=>by have:=cZ v;omega
 |
  n+1,m+1,t,tg,v,hn,hm=>by
  rw[dW,dW]
  split
  ·rfl
  ·unfold lH
   split
   ·simp only[Vl.nodes]at hn hm;rw[fA n m _ _ _ (by omega) (by omega)]
   ·simp only[Vl.nodes]at hn hm;rw[fA n m _ _ _ (by omega) (by omega)]
   ·simp only[Vl.nodes]at hn hm;rw[fA n m _ _ _ (by omega) (by omega),fA n m _ _ _ (by omega) (by omega)]
   ·rename_i a w
    simp only[Vl.nodes]at hn hm;rw[fA n m _ _ _ (by omega) (by omega),fA n m _ (.bd 0) _ (by omega) (by omega)]
    congr 1
    apply jC
    intro h hh
    have:=(eh _ _ _ _ _ hh).1
    rw[fA n m _ _ _ (by omega) (by omega)]
   ·rfl
theorem l5{n:Nat}(t:Ty)(tg:Tg){v:Vl}(h:v.nodes<=n):dW n t tg v=bK t tg v:=fA _ _ _ _ _ h (au _)
theorem lZ{t:Ty}{tg:Tg}(v:Vl)(h:gS t tg=true):bK t tg v=[(.u,v)]:=by
 have:=cZ v
 unfold bK
 cases e:v.nodes with
 |zero=>omega
 |succ n=>rw[dW,if_pos h]
theorem me(a b:Ty)(tg:Tg)(w:Vl):bK (.plus a b) tg (.l w)=gP .l (bK a tg w):=by
 unfold bK;rw[show (Vl.l w).nodes=w.nodes+1 by simp[Vl.nodes];omega,dW,if_neg (by simp[gS])];rfl
theorem l0(a b:Ty)(tg:Tg)(w:Vl):bK (.plus a b) tg (.r w)=gP .r (bK b tg w):=by
 unfold bK;rw[show (Vl.r w).nodes=w.nodes+1 by simp[Vl.nodes];omega,dW,if_neg (by simp[gS])];rfl
theorem lY(a b:Ty)(tg:Tg)(x y:Vl):bK (.times a b) tg (.p x y)=gP (fun c=>.l (.p c y)) (bK a tg x)++gP (fun c=>.r (.p x c)) (bK b tg y):=by
 rw[bK,show (Vl.p x y).nodes=(x.nodes+y.nodes)+1 by simp[Vl.nodes];omega,dW,if_neg (by simp[gS])]
 rw[lH,l5 a tg (by omega),l5 b tg (by omega)]
theorem mJ(a:Ty)(tg:Tg)(w:Vl):bK (.rc a) tg (.f w)=gP (fun c=>.f (.l c)) (bK a tg.up w)++(bK a (.bd 0) w).flatMap fun h=>gP (fun c=>.f (.r (.p h.1 c))) (bK (.rc a) tg h.2):=by
 rw[bK,show (Vl.f w).nodes=w.nodes+1 by simp[Vl.nodes];omega,dW,if_neg (by simp[gS])]
 rw[lH,l5 a tg.up (au _),l5 a (.bd 0) (au _)]
 congr 1
 apply jC
 intro h hh
 have:=(eh _ _ _ _ _ hh).1
 rw[l5 (.rc a) tg this]
theorem dG{t:Ty}{tg:Tg}{v:Vl}(h:gS t tg=false)(h2:stuck t v=true):bK t tg v=[]:=by
 unfold bK
 cases e:v.nodes with
 |zero=>rfl
 |
  succ n =>
  rw[dW,if_neg (by rw[h];simp)]
  unfold lH
  split<;>first|(simp[stuck]at h2;done)|rfl
theorem jn{t:Ty}{tg:Tg}{v:Vl}{h:Hl}(hm:h∈bK t tg v):h.2.nodes<=v.nodes/\h.1.nodes+4*h.2.nodes<=4*v.nodes+1:=eh _ _ _ _ _ hm
theorem fu(n:Nat):∀(m:Nat) (t:Ty) (tg:Tg) (v:Vl) (h:Hl),v.lP n->h∈dW m t tg v->h.1.lP n/\h.2.lP n
 |0,t,tg,v,h,hv,hm=>by simp[dW]at hm
 |
  m+1,t,tg,v,h,hv,hm=>by
  unfold dW at hm
  split at hm
  ·simp only[be]at hm
   subst hm
   exact⟨trivial,hv⟩
  ·unfold lH at hm
   split at hm
   ·obtain⟨k,h1,rfl⟩:=dC hm
    exact(fun q=>fu n m _ _ _ k q h1) hv
   ·obtain⟨k,h1,rfl⟩:=dC hm
    exact(fun q=>fu n m _ _ _ k q h1) hv
   ·rcases aL.1 hm with hm|hm
    ·obtain⟨k,h1,rfl⟩:=dC hm
     obtain⟨q1,q2⟩:=fu n m _ _ _ k hv.1 h1
     exact⟨⟨q1,hv.2⟩,q2⟩
    ·obtain⟨k,h1,rfl⟩:=dC hm
     obtain⟨q1,q2⟩:=fu n m _ _ _ k hv.2 h1
     exact⟨⟨hv.1,q1⟩,q2⟩
   ·rcases aL.1 hm with hm|hm
    ·obtain⟨k,h1,rfl⟩:=dC hm
     exact(fun q=>fu n m _ _ _ k q h1) hv
    ·obtain⟨k,h1,h2⟩:=List.mem_flatMap.1 hm
     obtain⟨k2,h3,rfl⟩:=dC h2
     obtain⟨q1,q2⟩:=(fun q=>fu n m _ _ _ k q h1) hv
     obtain⟨q3,q4⟩:=fu n m _ _ _ k2 q2 h3
     exact⟨⟨q1,q3⟩,q4⟩
   ·simp at hm
def fg(l:List Hl):Nat:=(l.map fun h=>h.2.nodes).sum
theorem oP(l r:List Hl):fg (l++r)=fg l+fg r:=by simp[fg]
theorem l4(g:Vl->Vl)(l:List Hl):fg (gP g l)=fg l:=by simp[fg,gP,Function.comp_def]
def iQ(f:Tg->Nat)(T:List Tg):Nat:=(T.map f).sum
theorem lX(f g:Tg->Nat):∀T:List Tg,iQ (fun x=>f x+g x) T=iQ f T+iQ g T
 |[]=>rfl
 |x::T=>by have:=lX f g T;simp only[iQ,bp,dh]at this |-;omega
theorem tG{f g:Tg->Nat}:∀{T:List Tg},(∀x,x∈T->f x<=g x)->iQ f T<=iQ g T
 |[],_=>au _
 |
  x::T,h=>by
  have:=tG (T:=T) fun y hy=>h y (aj _ hy)
  have:=h x af
  simp only[iQ,bp,dh]at *;omega
theorem mT{f:Tg->Nat}:∀{T:List Tg},(∀x,x∈T->f x=0)->iQ f T=0
 |[],_=>rfl
 |
  x::T,h=>by
  have:=mT (T:=T) fun y hy=>h y (aj _ hy)
  have:=h x af
  simp only[iQ,bp,dh]at *;omega
theorem pD(g:Hl->Tg->Nat)(T:List Tg):∀l:List Hl,iQ (fun x=>(l.map fun h=>g h x).sum) T=(l.map fun h=>iQ (g h) T).sum
 |[]=>mT fun _ _=>rfl
 |
  h::l=>by
  have:=pD g T l
  simp only[bp,dh]
  rw[lX,this]
theorem p9(f:Hl->List Hl):∀l:List Hl,fg (l.flatMap f)=(l.map fun h=>fg (f h)).sum
 |[]=>rfl
 |h::l=>by rw[cB,oP,p9 f l];simp
theorem xc{f g:Hl->Nat}:∀{l:List Hl},(∀x,x∈l->f x<=g x)->(l.map f).sum<=(l.map g).sum
 |[],_=>au _
 |
  x::l,h=>by
  have:=xc (l:=l) fun y hy=>h y (aj _ hy)
  have:=h x af
  simp only[bp,dh]at *;omega
theorem vZ{t:Ty}{x y:Tg}(h:gS t x=true)(h':gS t y=true):x=y:=by
 cases t<;>cases x<;>cases y<;>simp[gS]at h h'<;>simp_all
theorem ua{t:Ty}(n:Nat):∀{T:List Tg},T.Nodup->iQ (fun x=>if gS t x=true then n else 0) T<=n
 |[],_=>Nat.zero_le _
 |
  x::T,h=>by
  obtain⟨h1,h2⟩:=List.nodup_cons.1 h
  have ih:=ua (t:=t) n h2
  by_cases hx:gS t x=true
  ·have:iQ (fun x=>if gS t x=true then n else 0) T=0:=mT fun y hy=>by
    rw[if_neg fun hy'=>h1 (by rw[vZ hx hy'];exact hy)]
   simp only[iQ,bp,dh]at *
   rw[if_pos hx];omega
  ·simp only[iQ,bp,dh]at *
   rw[if_neg hx];omega
theorem wE{T:List Tg}(h:T.Nodup):(Tg.bd 0::T.map Tg.up).Nodup:=by
 refine List.nodup_cons.2 ⟨fun hm=>?_,?_⟩
 ·obtain⟨x,_,e⟩:=bT.1 hm
  cases x<;>simp[Tg.up]at e
 ·refine List.Pairwise.map _ (fun a b hab e=>hab ?_) h
  cases a<;>cases b<;>simp[Tg.up]at e<;>simp_all
theorem apart:∀(n:Nat) (v:Vl),v.nodes<=n->∀(t:Ty) (T:List Tg),T.Nodup->iQ (fun x=>fg (bK t x v)) T<=v.nodes
 |0,v,h=>by have:=cZ v;omega
 |
  n+1,v,hn=>by
  intro t T hT
  have base:∀(hno:∀x,gS t x=false->bK t x v=[]),iQ (fun x=>fg (bK t x v)) T<=v.nodes:=fun hno=>by
   refine Nat.le_trans (tG fun x _=>?_) (ua (t:=t) v.nodes hT)
   cases e:gS t x with
   |true=>rw[lZ v e];simp[fg]
   |false=>rw[hno x e];simp[fg]
  cases hm:stuck t v with
  |true=>exact base fun x hx=>dG hx hm
  |
   false =>
   unfold stuck at hm
   split at hm
   ·rename_i a b w
    simp only[Vl.nodes]at hn |-
    simp only[me,l4]
    have:=apart n w (by omega) a T hT
    omega
   ·rename_i a b w
    simp only[Vl.nodes]at hn |-
    simp only[l0,l4]
    have:=apart n w (by omega) b T hT
    omega
   ·rename_i a b x y
    simp only[Vl.nodes]at hn |-
    simp only[lY,oP,l4]
    rw[lX]
    have:=apart n x (by omega) a T hT
    have:=apart n y (by omega) b T hT
    omega
   ·rename_i a w
    simp only[Vl.nodes]at hn |-
    simp only[mJ,oP,l4,p9]
    rw[lX,pD]
    have h1:=apart n w (by omega) a _ (wE hT)
    simp only[iQ,bp,dh,List.map_map]at h1
    have h2:((bK a (.bd 0) w).map fun h=>iQ (fun x=>fg (bK (.rc a) x h.2)) T).sum<=fg (bK a (.bd 0) w):=xc fun h hh=>by
     have:=(jn hh).1
     exact apart n h.2 (by omega) (.rc a) T hT
    simp only[iQ,Function.comp_def]at h1 h2 |-
    omega
   ·cases hm
theorem oN(t:Ty)(tg:Tg)(v:Vl):fg (bK t tg v)<=v.nodes:=by
 have:=apart v.nodes v (au _) t [tg] (by simp)
 simpa[iQ]using this
theorem mB:∀l:List Hl,l.length<=fg l
 |[]=>Nat.zero_le _
 |
  h::l=>by
  have:=mB l
  have:=cZ h.2
  simp only[fg,bp,dh,aB]at *;omega
theorem kQ(t:Ty)(tg:Tg)(v:Vl):(bK t tg v).length<=v.nodes:=Nat.le_trans (mB _) (oN t tg v)
end Go.Proofs.Trees
namespace Go.Proofs.Trees
open Go Go.VL Go.RowKit
def gp(ar:List (List UInt8))(k:Nat):List UInt8:=ar.getD (ar.length-1-k) []
theorem eG{s:List UInt8}{ar:List (List UInt8)}:∀(i u:Nat),i<=ar.length->bq s ar i=some u->u<ar.length/\gp ar u=s
 |0,u,_,h=>by cases h
 |
  i+1,u,hi,h=>by
  rw[bq]at h
  split at h
  ·rename_i e
   cases h
   refine⟨by omega,?_⟩
   rw[gp,show ar.length-1-(ar.length-1-i)=i by omega];exact e
  ·exact eG i u (by omega) h
def rk:Ty->Tg->Bool
 | .plus a b,tg=>rk a tg||rk b tg
 | .times a b,tg=>rk a tg||rk b tg
 | .rc a,tg=>rk a tg.up
 |t,tg=>gS t tg
theorem gq:∀(n:Nat) (v:Vl),v.nodes<=n->∀(t:Ty) (tg:Tg),rk t tg=false->bK t tg v=[]
 |0,v,h=>by have:=cZ v;omega
 |
  n+1,v,hn=>by
  intro t tg ho
  cases hm:stuck t v with
  |
   true =>
   refine dG ?_ hm
   cases t<;>first|exact ho|rfl
  |
   false =>
   unfold stuck at hm
   split at hm
   ·simp only[Vl.nodes]at hn
    simp only[rk,Bool.or_eq_false_iff]at ho
    rw[me,gq n _ (by omega) _ _ ho.1];rfl
   ·simp only[Vl.nodes]at hn
    simp only[rk,Bool.or_eq_false_iff]at ho
    rw[l0,gq n _ (by omega) _ _ ho.2];rfl
   ·simp only[Vl.nodes]at hn
    simp only[rk,Bool.or_eq_false_iff]at ho
    rw[lY,gq n _ (by omega) _ _ ho.1,gq n _ (by omega) _ _ ho.2];rfl
   ·rename_i a w
    simp only[Vl.nodes]at hn
    have ho':rk a tg.up=false:=ho
    rw[mJ,gq n _ (by omega) _ _ ho']
    have:(bK a (.bd 0) w).flatMap (fun h=>gP (fun c=>.f (.r (.p h.1 c))) (bK (.rc a) tg h.2))=(bK a (.bd 0) w).flatMap (fun _=>[]):=jC fun h hh=>by
     have:=(jn hh).1
     rw[gq n h.2 (by omega) (.rc a) tg ho];rfl
    rw[this]
    induction bK a (.bd 0) w<;>simp_all[gP]
   ·cases hm
theorem jh:∀(e:E) (ar:List (List UInt8)) (t:Ty) (k:Nat),cv e ar=some t->rk t (.bd k)=true->k<ar.length/\bq (gp ar k) ar ar.length=some k
 |
  .atom s,ar,t,k,ht,ho=>by
  simp only[cv]at ht
  split at ht
  ·cases ht;cases ho
  ·split at ht
   ·cases ht;cases ho
   ·split at ht
    ·cases ht;cases ho
    ·split at ht
     ·split at ht
      ·rename_i u hu
       cases ht
       have:u=k:=by simpa[rk,gS]using ho
       subst this
       obtain⟨h1,h2⟩:=eG _ _ (au _) hu
       exact⟨h1,by rw[h2];exact hu⟩
      ·cases ht;cases ho
     ·cases ht
 |
  .list [x,a,b],ar,t,k,ht,ho=>by
  by_cases h0:x.at=[43]
  ·obtain⟨t1,t2,h1,h2,rfl⟩:=eW h0 ht
   simp only[rk,bP]at ho
   rcases ho with ho|ho
   ·exact jh a ar t1 k h1 ho
   ·exact jh b ar t2 k h2 ho
  ·by_cases h1:x.at=[42]
   ·obtain⟨t1,t2,h1,h2,rfl⟩:=ez h1 ht
    simp only[rk,bP]at ho
    rcases ho with ho|ho
    ·exact jh a ar t1 k h1 ho
    ·exact jh b ar t2 k h2 ho
   ·by_cases h2:x.at=[114,101,99]
    ·obtain⟨t1,_,h3,rfl⟩:=db h2 ht
     obtain⟨q1,q2⟩:=jh b (ar++[a.at]) t1 (k+1) h3 ho
     simp only[an,aB,aI]at q1
     have hk:k<ar.length:=by omega
     have e:gp (ar++[a.at]) (k+1)=gp ar k:=by
      unfold gp
      rw[an,show ar.length+[a.at].length-1-(k+1)=ar.length-1-k by simp;omega]
      simp[aa,List.getElem?_append_left (show ar.length-1-k<ar.length by omega)]
     rw[e]at q2
     refine⟨hk,?_⟩
     have e2:(ar++[a.at]).length=ar.length+1:=by simp
     rw[e2,bq]at q2
     split at q2
     ·rw[e2]at q2;simp at q2
     ·rw[iJ _ _ _ _ (au _)]at q2
      cases hq:bq (gp ar k) ar ar.length with
      |none=>rw[hq]at q2;cases q2
      |some u=>rw[hq]at q2;simpa using q2
    ·rw[hD _ h0 h1 h2]at ht;cases ht
 | .list [],ar,t,k,ht,ho=>by cases ht
 | .list [_],ar,t,k,ht,ho=>by cases ht
 | .list [_,_],ar,t,k,ht,ho=>by cases ht
 | .list (_::_::_::_::_),ar,t,k,ht,ho=>by cases ht
theorem fF(w:List UInt8)(ar:List (List UInt8)):bq w (ar++[w]) (ar++[w]).length=some 0:=by
 have e2:(ar++[w]).length=ar.length+1:=by simp
 rw[e2,bq,if_pos (by simp[aa]),e2];simp
theorem hG{s w:List UInt8}(ar:List (List UInt8))(h:w≠s):bq s (ar++[w]) (ar++[w]).length=(bq s ar ar.length).map (·+1):=by
 have e2:(ar++[w]).length=ar.length+1:=by simp
 rw[e2,bq,if_neg (by simpa[aa]using h),iJ _ _ _ _ (au _)]
theorem BF{b:E}{ar:List (List UInt8)}{w:List UInt8}{t:Ty}{k:Nat}(hb:cv b (ar++[w])=some t)(hk:bq w ar ar.length=some k):rk t (.bd (k+1))=false:=by
 cases h:rk t (.bd (k+1))with
 |false=>rfl
 |
  true =>
  obtain⟨_,q2⟩:=jh _ _ _ _ hb h
  obtain⟨h1,h2⟩:=eG _ _ (au _) hk
  have e:gp (ar++[w]) (k+1)=gp ar k:=by
   unfold gp
   rw[an,show ar.length+[w].length-1-(k+1)=ar.length-1-k by simp;omega]
   simp[aa,List.getElem?_append_left (show ar.length-1-k<ar.length by omega)]
  rw[e,h2,fF]at q2
  cases q2
def mz(s:List UInt8)(ar:List (List UInt8)):Tg:=match bq s ar ar.length with|some u=>.bd u|none=>.nm s
theorem rZ(w:List UInt8)(ar:List (List UInt8)):mz w (ar++[w])=.bd 0:=by rw[mz,fF]
theorem vy{s w:List UInt8}(ar:List (List UInt8))(h:w≠s):mz s (ar++[w])=(mz s ar).up:=by
 rw[mz,mz,hG ar h]
 cases bq s ar ar.length<;>rfl
theorem eY(n:Nat):∀(m:Nat) (v:Vl),v.nodes<=m->∀(e:E) (env:List Fr) (t:Ty),Ask e env t->er n v (e,env)=true->∀(k:Nat) (f:Fr),env[k]?=some f->∀h,h∈bK t (.bd k) v->er n h.2 (f.ex,f.out)=true
 |0,v,hm=>by have:=cZ v;omega
 |
  m+1,v,hm=>by
  intro e env t A hv k f hf h hh
  rcases gI A.wf A.ty with⟨hb,hq⟩|⟨u,g,rfl,hq,hu⟩
  ·have hhd:hd e env=(e,env):=jI hq
   rcases fw A.ty hb A.cl with⟨rfl,rfl⟩|⟨rfl,rfl⟩|⟨s,rfl,rfl,hp,h0,h1⟩|⟨x,a,b,t1,t2,rfl,hx,rfl,ha,hbb⟩|⟨x,a,b,t1,t2,rfl,hx,rfl,ha,hbb⟩|⟨x,a,b,t1,rfl,hx,rfl⟩
   ·rw[dG rfl (by cases v<;>rfl)]at hh;cases hh
   ·rw[dG rfl (by cases v<;>rfl)]at hh;cases hh
   ·rw[dG rfl (by cases v<;>rfl)]at hh;cases hh
   ·obtain⟨ok1,ok2,ok3,_⟩:=A.ok
    obtain⟨f1,f2⟩:=fQ A.cl
    cases v with
    |
     l w =>
     simp only[er,hhd,hx,beq_self_eq_true,bN]at hv
     simp only[Vl.nodes]at hm
     rw[me]at hh
     obtain⟨h2,h3,rfl⟩:=dC hh
     exact eY n m w (by omega) a env t1 ⟨ok2,A.wf,ha,f1⟩ hv k f hf h2 h3
    |
     r w =>
     simp only[er,hhd,hx,beq_self_eq_true,bN]at hv
     simp only[Vl.nodes]at hm
     rw[l0]at hh
     obtain⟨h2,h3,rfl⟩:=dC hh
     exact eY n m w (by omega) b env t2 ⟨ok3,A.wf,hbb,f2⟩ hv k f hf h2 h3
    |_=>rw[dG rfl rfl]at hh;cases hh
   ·obtain⟨ok1,ok2,ok3,_⟩:=A.ok
    obtain⟨f1,f2⟩:=eX A.cl
    cases v with
    |
     p w w' =>
     simp only[er,hhd,hx,beq_self_eq_true,bN,aq]at hv
     simp only[Vl.nodes]at hm
     rw[lY]at hh
     rcases aL.1 hh with hh|hh
     ·obtain⟨h2,h3,rfl⟩:=dC hh
      exact eY n m w (by omega) a env t1 ⟨ok2,A.wf,ha,f1⟩ hv.1 k f hf h2 h3
     ·obtain⟨h2,h3,rfl⟩:=dC hh
      exact eY n m w' (by omega) b env t2 ⟨ok3,A.wf,hbb,f2⟩ hv.2 k f hf h2 h3
    |_=>rw[dG rfl rfl]at hh;cases hh
   ·obtain⟨t1',he1,h1,f1,hw1⟩:=jp A.wf A.ok hx A.ty A.cl
    cases he1
    obtain⟨ok1,ok2,ok3,_⟩:=A.ok
    cases v with
    |
     f w =>
     simp only[er,hhd,hx,beq_self_eq_true,bN]at hv
     simp only[Vl.nodes]at hm
     rw[mJ]at hh
     have A':Ask b (.mk a.at (.list [x,a,b]) env::env) t1:=⟨ok3,hw1,h1,f1⟩
     rcases aL.1 hh with hh|hh
     ·obtain⟨h2,h3,rfl⟩:=dC hh
      exact eY n m w (by omega) b _ t1 A' hv (k+1) f (by simpa using hf) h2 h3
     ·obtain⟨kd,h2,h3⟩:=List.mem_flatMap.1 hh
      obtain⟨h4,h5,rfl⟩:=dC h3
      have hkd:=eY n m w (by omega) b _ t1 A' hv 0 _ rfl kd h2
      have:=(jn h2).1
      exact eY n m kd.2 (by omega) (.list [x,a,b]) env _ A hkd k f hf h4 h5
    |_=>rw[dG rfl rfl]at hh;cases hh
  ·by_cases huk:u=k
   ·subst huk
    rw[hu]at hf;cases hf
    rw[lZ v (by simp[gS])]at hh
    simp only[be]at hh
    subst hh
    obtain⟨x,a,b,t',hfe,hok,hx,ht',hf',hwf,hlt⟩:=oE A.wf hq
    rw[<-s3 n v (qL hq) (by rw[hfe];exact qF hwf)];exact hv
   ·rw[dG (by simpa[gS]using huk) (by cases v<;>rfl)]at hh;cases hh
end Go.Proofs.Trees
namespace Go.Proofs.Trees
open Go Go.VL Go.RowKit
inductive kh:AV->List Nat->Prop
 |nil:kh jO []
 |cons {m:Nat} {cs:List AV} {e:AV} {ids:List Nat} (hm:m∉ids) (h:kh e ids):kh (.ptr [.pid m cs,e]) (m::ids)
theorem kh.has{a:AV}{ids:List Nat}(h:kh a ids):LK.has .ptr a:=by
 cases h
 ·exact(jK).mpr trivial
 ·exact(du _).mpr trivial
theorem kh.Ln{M:Mem}{a:AV}{ids:List Nat}(h:kh a ids):∀{v:Value},bg M cN a v->∀b,b∈ids->M.p b:=by
 induction h with
 |nil=>intro v _ b hb;cases hb
 |
  @cons m cs e ids hm h ih =>
  intro v hr b hb
  cases hr with
  |
   ptr _ _ _ off us hc hr =>
   have h0:=hr 0 (by simp)
   have h1:=hr 1 (by simp)
   simp only[a8,List.getD_cons_succ]at h0 h1
   rcases aF.1 hb with rfl|hb
   ·generalize us 0=u0 at h0
    cases h0 with
    |pid _ _ _ us hp _ _=>exact hp
   ·exact ih h1 b hb
theorem kh.nodup{a:AV}{ids:List Nat}(h:kh a ids):ids.Nodup:=by
 induction h with
 |nil=>simp
 |cons hm h ih=>exact List.nodup_cons.2 ⟨hm,ih⟩
theorem vB(a b:AV)(S:Nat->Prop)(R:AV->Prop):xx F1 cd dv (cr dv) [.agg [.x a,.x b]] S (fun o=>aG o 7) R =
 .ak (LK.has .ptr a/\a.isNil=false) (.ak (LK.has .ptr a/\a.isNil=false) (.ak (LK.has .ptr ((a.deref.drop 3).headD .any)/\1<=(a.deref.drop 3).length)
  (.ak (∀ids:Nat->Nat,(∀o,¬S (ids o))->(True/\R (.cV [.agg [(a.deref.drop 3).headD .any,.ptr [.pid (ids 7) [a,b],b]],.pid (ids 7) [a,b]]))) (.done 0 [] [])))):=by kernel_rfl
def Dj(t:Ty)(ea:AV)(ids:List Nat):AV->List Ob->Prop:=fun r o=>(∃m,m∉ids/\r=.cV [.agg [t.av,.ptr [.pid m [(Ty.rc t).av,ea],ea]],.pid m [(Ty.rc t).av,ea]])/\o=[]
theorem Dj.ne(t:Ty)(ea:AV)(ids:List Nat):∃r o,Dj t ea ids r o:=by
 have:∃m,m∉ids:=⟨ids.foldr max 0+1,fun h=>by
  have key:∀(l:List Nat) (x:Nat),x∈l->x<=l.foldr max 0:=by
   intro l
   induction l with
   |nil=>intro x hx;cases hx
   |
    cons y l ih =>
    intro x hx
    rcases aF.1 hx with rfl|hx
    ·simp only[List.foldr_cons];omega
    ·have:=ih x hx;simp only[List.foldr_cons];omega
  have:=key _ _ h
  omega⟩
 obtain⟨m,hm⟩:=this
 exact⟨_,_,⟨m,hm,rfl⟩,rfl⟩
theorem FI(t:Ty)(ea:AV)(ids:List Nat)(he:kh ea ids):ap Tryz.prog 31 [.agg [(Ty.rc t).av,ea]] [] (Dj t ea ids):=by
 have hup:sU [.agg [(Ty.rc t).av,ea]] [.agg [.x (Ty.rc t).av,.x ea]]:=ah (cw (ah (bO ((bb _).mpr trivial)) (ah (bO he.has) aD))) aD
 refine ap.up hup ?_
 refine ap.Lr (cd:=cd) (F:=dv) (S:=fun b=>b∈ids) (sel:=fun o=>aG o 7) qT mixed (by kernel_rfl) (by kernel_rfl) (c:=cr dv) (by kernel_rfl) (by kernel_rfl) (fun M β vs hr b hb=>?_) ?_
 ·have h0:=hr 0 (by simp)
  simp only[a8]at h0
  obtain⟨us,_,hl,hq,_⟩:=fb h0
  have h1:=hq 1 (by simp at hl |-)
  simp only[List.getD_cons_succ,a8]at h1
  cases h1 with
  |x _ _ _ _ h=>exact he.Ln h b hb
 ·rw[vB]
  simp only[Ty.av,↓zq,zs,ae,bb]
  exact⟨by omega,fun ids' hf=>⟨ids' 7,hf 7,rfl⟩⟩
theorem FJ(u:Nat)(hu:u<1000000):∀(k i:Nat) (ea:AV) (ids:List Nat),i+k=u->kh ea ids->k<=ids.length->yz [ea,.v (.int .i64 (u:Int)),.v (.int .i64 (i:Int))] [] (fun t ys o=>t=1/\∃e',kh e' (ids.drop k)/\ys=[e']/\o=[])
 |
  0,i,ea,ids,hi,he,hk=>by
  refine y0 _ _ _ ?_
  have:i=u:=by omega
  subst this
  simp only[xj,↓zq,zs,ae]
  exact⟨he.has,fun h=>by omega,fun _=>⟨ea,he,rfl⟩⟩
 |
  k+1,i,ea,ids,hi,he,hk=>by
  refine y0 _ _ _ ?_
  cases he with
  |nil=>simp at hk
  |
   @cons m cs e ids' hm h =>
   simp only[xj,↓zq,zs,ae,h.has]
   refine⟨fun _=>⟨by omega,?_⟩,fun h=>by omega⟩
   rw[bk i (by omega)]
   exact FJ u hu k (i+1) e ids' (by omega) h (by simpa using hk)
theorem KO(u:Nat)(ea:AV)(ids:List Nat)(he:kh ea ids)(hu:u<ids.length)(hl:ids.length<1000000):ap Tryz.prog 83 [.agg [(Ty.cX u).av,ea]] [] (fun r o=>(∃cs,r=.pid (ids.getD u 0) cs)/\o=[]):=by
 refine HY _ _ ((bb _).mpr trivial) he.has ?_
 simp only[Am,Ty.av,↓zq,zs,ae,he.has]
 refine⟨by omega,lQ (FJ u (by omega) u 0 ea ids (by omega) he (by omega)) ?_ (fun ys o h=>by cases h.1)⟩
 rintro ys o ⟨_,e',he',rfl,rfl⟩
 have hd:ids.drop u=ids.getD u 0::ids.drop (u+1):=by
  rw[aJ hu];simp[aa,hu]
 rw[hd]at he'
 cases he' with
 |
  @cons m cs e ids' hm h =>
  have hp:LK.has .ptr (AV.pid (ids.getD u 0) cs):=.inr (.inr ⟨_,_,rfl⟩)
  simp only[↓zq,zs,ae,hp]
  exact⟨by omega,cs,rfl⟩
inductive vG:Tg->List Nat->List UInt8->AV->Prop
 |nm (s:List UInt8) (ids:List Nat):vG (.nm s) ids s jO
 |bd {k:Nat} {ids:List Nat} (hk:k<ids.length) (cs:List AV) (s:List UInt8):vG (.bd k) ids s (.pid (ids.getD k 0) cs)
theorem vG.has{tg:Tg}{ids:List Nat}{s:List UInt8}{fr:AV}(h:vG tg ids s fr):LK.has .ptr fr:=by
 cases h
 ·exact(jK).mpr trivial
 ·exact .inr (.inr ⟨_,_,rfl⟩)
theorem vG.push{tg:Tg}{ids:List Nat}{s:List UInt8}{fr:AV}(h:vG tg ids s fr)(m:Nat):vG tg.up (m::ids) s fr:=by
 cases h with
 |nm=>exact .nm _ _
 |
  @bd k _ hk cs =>
  have:=vG.bd (k:=k+1) (ids:=m::ids) (by simpa using hk) cs s
  simpa[Tg.up]using this
theorem vA{ids:List Nat}(h:ids.Nodup){i j:Nat}(hi:i<ids.length)(hj:j<ids.length)(he:ids.getD i 0=ids.getD j 0):i=j:=by
 have e1:ids.getD i 0=ids[i]:=by simp[aa,hi]
 have e2:ids.getD j 0=ids[j]:=by simp[aa,hj]
 rw[e1,e2]at he
 have hp:=List.pairwise_iff_getElem.1 h
 rcases Nat.lt_trichotomy i j with hlt|rfl|hlt
 ·exact absurd he (hp i j hi hj hlt)
 ·rfl
 ·exact absurd he.symm (hp j i hj hi hlt)
theorem KU(t:Ty)(tg:Tg)(ea:AV)(ids:List Nat)(s:List UInt8)(fr:AV)(he:kh ea ids)(ht:vG tg ids s fr)(hu:∀u,t=.cX u->u<ids.length)(hl:ids.length<1000000) :
 ap Tryz.prog 54 [.agg [.v (.string (mk s)),fr],.agg [t.av,ea]] [] (bA (.v (.bool (gS t tg)))):=by
 refine Kv _ _ _ _ ht.has ((bb _).mpr trivial) he.has ?_
 cases ht with
 |
  nm s =>
  cases t<;>simp[yK,Ty.av,↓zq,zs,ae,zt,bA,gS]
  rw[bV];simp
 |
  @bd k _ hk cs s =>
  generalize hm0:ids.getD k 0=m0
  have hp:LK.has .ptr (AV.pid m0 cs):=.inr (.inr ⟨_,_,rfl⟩)
  have hn:(AV.pid m0 cs).isNil=false:=rfl
  cases t with
  |
   cX u =>
   have hu:=hu u rfl
   simp only[yK,Ty.av,↓zq,zs,ae,hp,hn]
   refine⟨fun _=>⟨by omega,fun _=>?_,fun h=>absurd rfl h⟩,fun h=>by cases h⟩
   have hb:=KO u ea ids he hu hl
   simp only[Ty.av]at hb
   refine aT hb ⟨_,_,⟨[],rfl⟩,rfl⟩ ?_
   rintro r o ⟨⟨cs',rfl⟩,rfl⟩
   have hp':LK.has .ptr (AV.pid (ids.getD u 0) cs'):=.inr (.inr ⟨_,_,rfl⟩)
   simp only[↓zq,zs,ae,hp',AV.ou,AV.wc,bA,gS]
   congr 2
   rw[bV,Nat.beq_eq,decide_eq_true_eq,<-hm0]
   exact⟨fun h=>vA he.nodup hu hk h,fun h=>by rw[h]⟩
  |_=>simp[yK,Ty.av,↓zq,zs,ae,hp,hn,bA,gS]
end Go.Proofs.Trees
namespace Go.Proofs.Trees
open Go Go.VL Go.RowKit
theorem zX(b:Int)(a:AV)(h:LK.ptr.has a):ap Tryz.prog 59 [.v (.int .u8 b),a] [] (bA (.ptr [.v (.int .u8 b),.v (.string (mk [])),a,jO])):=by
 refine KC _ _ h ?_
 simp[D6,↓zq,zs,ae,bA]
end Go.Proofs.Trees
namespace Go.Proofs.Trees
open Go Go.VL Go.RowKit
def fX(l:List Hl):List (List AV):=l.map fun h=>[h.1.cu,h.2.cu]
theorem df(l:List Hl):(fX l).length=l.length:=by simp[fX]
theorem jQ{l:List Hl}{i:Nat}(hi:i<l.length):(fX l).getD i []=[(l[i]).1.cu,(l[i]).2.cu]:=by simp[fX,aa,hi]
theorem mj(out:List Hl)(a b:Vl):fX out++[[a.cu,b.cu]]=fX (out++[(a,b)]):=by simp[fX]
theorem e9(g:Vl->Vl)(l:List Hl){i:Nat}(hi:i<l.length):gP g (l.drop i)=(g (l[i]).1,(l[i]).2)::gP g (l.drop (i+1)):=by
 rw[aJ hi];rfl
theorem ej(g:Vl->Vl)(l:List Hl):(gP g l).length=l.length:=by simp[gP]
theorem vr(a b:AV):bU 2 [[a,b]]:=fun c hc=>by simp at hc;rw[hc];rfl
theorem Ib(x0:AV)(hx0:LK.ptr.has x0)(g:Vl->Vl)(hg:∀c:Vl,ap Tryz.prog 58 [c.cu,.ref 0 0] [.cells [x0]] (cP (g c).cu [.cells [x0]]))(l:List Hl):∀(k i:Nat) (out:List Hl),i+k=l.length->out.length+k<=1000000->l.length<=1000000 ->
 Cy [.sl (fX l),.v (.int .i64 (l.length:Int)),.v (.int .i64 (i:Int))] [.cells [x0],.cells [.any],.vec 2 (fX out)] (fI 1 [] [.cells [x0],.cells [.any],.vec 2 (fX (out++gP g (l.drop i)))])
 |
  0,i,out,hi,ho,hl=>by
  refine H2 _ _ _ _ _ ?_
  have:i=l.length:=by omega
  subst this
  simp only[Bd,↓zq,zs,ae,df,hx0]
  exact⟨fun h=>by omega,fun _=>by simp[fI,gP]⟩
 |
  k+1,i,out,hi,ho,hl=>by
  have hlt:i<l.length:=by omega
  refine H2 _ _ _ _ _ ?_
  simp only[Bd,↓zq,zs,ae,zt,df,jQ hlt,aU,bJ,hx0]
  refine⟨fun _=>⟨by omega,by omega,?_⟩,fun h=>by omega⟩
  refine bx (hg _) ?_
  simp only[↓zq,zs,ae,aU,aN,bA,cP,hx0]
  refine⟨⟨vr _ _,by omega⟩,?_⟩
  rw[bk i (by omega)]
  have:=Ib x0 hx0 g hg l k (i+1) (out++[(g (l[i]).1,(l[i]).2)]) (by omega) (by simp;omega) hl
  rw[a7]at this
  rw[e9 g l hlt,mj]
  exact this
theorem EU(x0:AV)(hx0:LK.ptr.has x0)(g:Vl->Vl)(hg:∀c:Vl,ap Tryz.prog 58 [c.cu,.ref 0 0] [.cells [x0]] (cP (g c).cu [.cells [x0]]))(l out:List Hl)(hl:out.length+l.length<=1000000) :
 ap Tryz.prog 55 [.sl (fX l),.fn 58 [.ref 0 0],.ref 1 0] [.cells [x0],.cells [.vec 2],.vec 2 (fX out)] (cP .any [.cells [x0],.cells [.vec 2],.vec 2 (fX (out++gP g l))]):=by
 refine KR _ _ _ ((ca _).mpr trivial) hx0 ?_
 simp only[Fm,↓zq,zs,ae,df]
 have h:=Ib x0 hx0 g hg l l.length 0 out (by omega) (by omega) (by omega)
 rw[aW]at h
 refine bY h ?_
 simp[↓zq,zs,ae,cP,aN,hx0]
theorem GL(x0:AV)(hx0:LK.ptr.has x0)(g:Vl->Vl)(hg:∀c:Vl,ap Tryz.prog 60 [c.cu,.ref 0 0] [.cells [x0]] (cP (g c).cu [.cells [x0]]))(l:List Hl):∀(k i:Nat) (out:List Hl),i+k=l.length->out.length+k<=1000000->l.length<=1000000 ->
 Cz [.sl (fX l),.v (.int .i64 (l.length:Int)),.v (.int .i64 (i:Int))] [.cells [x0],.cells [.any],.vec 2 (fX out)] (fI 1 [] [.cells [x0],.cells [.any],.vec 2 (fX (out++gP g (l.drop i)))])
 |
  0,i,out,hi,ho,hl=>by
  refine E8 _ _ _ _ _ ?_
  have:i=l.length:=by omega
  subst this
  simp only[Ba,↓zq,zs,ae,df,hx0]
  exact⟨fun h=>by omega,fun _=>by simp[fI,gP]⟩
 |
  k+1,i,out,hi,ho,hl=>by
  have hlt:i<l.length:=by omega
  refine E8 _ _ _ _ _ ?_
  simp only[Ba,↓zq,zs,ae,zt,df,jQ hlt,aU,bJ,hx0]
  refine⟨fun _=>⟨by omega,by omega,?_⟩,fun h=>by omega⟩
  refine bx (hg _) ?_
  simp only[↓zq,zs,ae,aU,aN,bA,cP,hx0]
  refine⟨⟨vr _ _,by omega⟩,?_⟩
  rw[bk i (by omega)]
  have:=GL x0 hx0 g hg l k (i+1) (out++[(g (l[i]).1,(l[i]).2)]) (by omega) (by simp;omega) hl
  rw[a7]at this
  rw[e9 g l hlt,mj]
  exact this
theorem Kh(x0:AV)(hx0:LK.ptr.has x0)(g:Vl->Vl)(hg:∀c:Vl,ap Tryz.prog 60 [c.cu,.ref 0 0] [.cells [x0]] (cP (g c).cu [.cells [x0]]))(l out:List Hl)(hl:out.length+l.length<=1000000) :
 ap Tryz.prog 55 [.sl (fX l),.fn 60 [.ref 0 0],.ref 1 0] [.cells [x0],.cells [.vec 2],.vec 2 (fX out)] (cP .any [.cells [x0],.cells [.vec 2],.vec 2 (fX (out++gP g l))]):=by
 refine Jo _ _ _ ((ca _).mpr trivial) hx0 ?_
 simp only[Dw,↓zq,zs,ae,df]
 have h:=GL x0 hx0 g hg l l.length 0 out (by omega) (by omega) (by omega)
 rw[aW]at h
 refine bY h ?_
 simp[↓zq,zs,ae,cP,aN,hx0]
theorem DZ(x0:AV)(hx0:LK.ptr.has x0)(g:Vl->Vl)(hg:∀c:Vl,ap Tryz.prog 62 [c.cu,.ref 0 0] [.cells [x0]] (cP (g c).cu [.cells [x0]]))(l:List Hl):∀(k i:Nat) (out:List Hl),i+k=l.length->out.length+k<=1000000->l.length<=1000000 ->
 B3 [.sl (fX l),.v (.int .i64 (l.length:Int)),.v (.int .i64 (i:Int))] [.cells [x0],.cells [.any],.vec 2 (fX out)] (fI 1 [] [.cells [x0],.cells [.any],.vec 2 (fX (out++gP g (l.drop i)))])
 |
  0,i,out,hi,ho,hl=>by
  refine HB _ _ _ _ _ ?_
  have:i=l.length:=by omega
  subst this
  simp only[Ag,↓zq,zs,ae,df,hx0]
  exact⟨fun h=>by omega,fun _=>by simp[fI,gP]⟩
 |
  k+1,i,out,hi,ho,hl=>by
  have hlt:i<l.length:=by omega
  refine HB _ _ _ _ _ ?_
  simp only[Ag,↓zq,zs,ae,zt,df,jQ hlt,aU,bJ,hx0]
  refine⟨fun _=>⟨by omega,by omega,?_⟩,fun h=>by omega⟩
  refine bx (hg _) ?_
  simp only[↓zq,zs,ae,aU,aN,bA,cP,hx0]
  refine⟨⟨vr _ _,by omega⟩,?_⟩
  rw[bk i (by omega)]
  have:=DZ x0 hx0 g hg l k (i+1) (out++[(g (l[i]).1,(l[i]).2)]) (by omega) (by simp;omega) hl
  rw[a7]at this
  rw[e9 g l hlt,mj]
  exact this
theorem II(x0:AV)(hx0:LK.ptr.has x0)(g:Vl->Vl)(hg:∀c:Vl,ap Tryz.prog 62 [c.cu,.ref 0 0] [.cells [x0]] (cP (g c).cu [.cells [x0]]))(l out:List Hl)(hl:out.length+l.length<=1000000) :
 ap Tryz.prog 55 [.sl (fX l),.fn 62 [.ref 0 0],.ref 1 0] [.cells [x0],.cells [.vec 2],.vec 2 (fX out)] (cP .any [.cells [x0],.cells [.vec 2],.vec 2 (fX (out++gP g l))]):=by
 refine IA _ _ _ ((ca _).mpr trivial) hx0 ?_
 simp only[GN,↓zq,zs,ae,df]
 have h:=DZ x0 hx0 g hg l l.length 0 out (by omega) (by omega) (by omega)
 rw[aW]at h
 refine bY h ?_
 simp[↓zq,zs,ae,cP,aN,hx0]
theorem Hn(g:Vl->Vl)(hg:∀c:Vl,ap Tryz.prog 63 [c.cu] [] (bA (g c).cu))(l:List Hl):∀(k i:Nat) (out:List Hl),i+k=l.length->out.length+k<=1000000->l.length<=1000000 ->
 AU [.v (.func (.func 63) #[] #[]),.sl (fX l),.v (.int .i64 (l.length:Int)),.v (.int .i64 (i:Int))] [.cells [.any],.vec 2 (fX out)] (fI 1 [] [.cells [.any],.vec 2 (fX (out++gP g (l.drop i)))])
 |
  0,i,out,hi,ho,hl=>by
  refine FV _ _ _ _ ?_
  have:i=l.length:=by omega
  subst this
  simp only[Aq,↓zq,zs,ae,df]
  exact⟨fun h=>by omega,fun _=>by simp[fI,gP]⟩
 |
  k+1,i,out,hi,ho,hl=>by
  have hlt:i<l.length:=by omega
  refine FV _ _ _ _ ?_
  simp only[Aq,↓zq,zs,ae,zt,df,jQ hlt,aU,bJ]
  refine⟨fun _=>⟨by omega,by omega,?_⟩,fun h=>by omega⟩
  refine al (hg _) ?_
  simp only[↓zq,zs,ae,aU,aN,bA,cP]
  refine⟨⟨vr _ _,by omega⟩,?_⟩
  rw[bk i (by omega)]
  have:=Hn g hg l k (i+1) (out++[(g (l[i]).1,(l[i]).2)]) (by omega) (by simp;omega) hl
  rw[a7]at this
  rw[e9 g l hlt,mj]
  exact this
theorem J9(g:Vl->Vl)(hg:∀c:Vl,ap Tryz.prog 63 [c.cu] [] (bA (g c).cu))(l out:List Hl)(hl:out.length+l.length<=1000000) :
 ap Tryz.prog 55 [.sl (fX l),.v (.func (.func 63) #[] #[]),.ref 0 0] [.cells [.vec 1],.vec 2 (fX out)] (cP .any [.cells [.vec 1],.vec 2 (fX (out++gP g l))]):=by
 refine JF _ _ ((ca _).mpr trivial) ?_
 simp only[G6,↓zq,zs,ae,df]
 have h:=Hn g hg l l.length 0 out (by omega) (by omega) (by omega)
 rw[aW]at h
 refine bY h ?_
 simp[↓zq,zs,ae,cP,aN]
theorem Hy(x0:AV)(x1:AV)(hx0:LK.ptr.has x0)(hx1:LK.ptr.has x1)(g:Vl->Vl)(hg:∀c:Vl,ap Tryz.prog 64 [c.cu,.ref 0 0] [.cells [x0,x1]] (cP (g c).cu [.cells [x0,x1]]))(l:List Hl):∀(k i:Nat) (out:List Hl),i+k=l.length->out.length+k<=1000000->l.length<=1000000 ->
 BK [.sl (fX l),.v (.int .i64 (l.length:Int)),.v (.int .i64 (i:Int))] [.cells [x0,x1],.cells [.any],.vec 2 (fX out)] (fI 1 [] [.cells [x0,x1],.cells [.any],.vec 2 (fX (out++gP g (l.drop i)))])
 |
  0,i,out,hi,ho,hl=>by
  refine Dq _ _ _ _ _ _ ?_
  have:i=l.length:=by omega
  subst this
  simp only[BA,↓zq,zs,ae,df,hx0,hx1]
  exact⟨fun h=>by omega,fun _=>by simp[fI,gP]⟩
 |
  k+1,i,out,hi,ho,hl=>by
  have hlt:i<l.length:=by omega
  refine Dq _ _ _ _ _ _ ?_
  simp only[BA,↓zq,zs,ae,zt,df,jQ hlt,aU,bJ,hx0,hx1]
  refine⟨fun _=>⟨by omega,by omega,?_⟩,fun h=>by omega⟩
  refine bx (hg _) ?_
  simp only[↓zq,zs,ae,aU,aN,bA,cP,hx0,hx1]
  refine⟨⟨vr _ _,by omega⟩,?_⟩
  rw[bk i (by omega)]
  have:=Hy x0 x1 hx0 hx1 g hg l k (i+1) (out++[(g (l[i]).1,(l[i]).2)]) (by omega) (by simp;omega) hl
  rw[a7]at this
  rw[e9 g l hlt,mj]
  exact this
theorem IK(x0:AV)(x1:AV)(hx0:LK.ptr.has x0)(hx1:LK.ptr.has x1)(g:Vl->Vl)(hg:∀c:Vl,ap Tryz.prog 64 [c.cu,.ref 0 0] [.cells [x0,x1]] (cP (g c).cu [.cells [x0,x1]]))(l out:List Hl)(hl:out.length+l.length<=1000000) :
 ap Tryz.prog 55 [.sl (fX l),.fn 64 [.ref 0 0],.ref 1 0] [.cells [x0,x1],.cells [.vec 2],.vec 2 (fX out)] (cP .any [.cells [x0,x1],.cells [.vec 2],.vec 2 (fX (out++gP g l))]):=by
 refine Km _ _ _ _ ((ca _).mpr trivial) hx0 hx1 ?_
 simp only[Em,↓zq,zs,ae,df]
 have h:=Hy x0 x1 hx0 hx1 g hg l l.length 0 out (by omega) (by omega) (by omega)
 rw[aW]at h
 refine bY h ?_
 simp[↓zq,zs,ae,cP,aN,hx0,hx1]
theorem Kk(w c:Vl):ap Tryz.prog 58 [c.cu,.ref 0 0] [.cells [(Vl.l w).cu]] (cP (Vl.l c).cu [.cells [(Vl.l w).cu]]):=by
 refine Ho _ _ ((aU _).mpr trivial) ((aU _).mpr trivial) ?_
 simp only[BV,Vl.cu,↓zq,zs,ae,aU]
 refine⟨by omega,?_⟩
 refine al (zX _ _ ((aU _).mpr trivial)) ?_
 simp[↓zq,zs,ae,cP,Vl.cu]
theorem IY(w c:Vl):ap Tryz.prog 58 [c.cu,.ref 0 0] [.cells [(Vl.r w).cu]] (cP (Vl.r c).cu [.cells [(Vl.r w).cu]]):=by
 refine Ho _ _ ((aU _).mpr trivial) ((aU _).mpr trivial) ?_
 simp only[BV,Vl.cu,↓zq,zs,ae,aU]
 refine⟨by omega,?_⟩
 refine al (zX _ _ ((aU _).mpr trivial)) ?_
 simp[↓zq,zs,ae,cP,Vl.cu]
theorem JS(x y c:Vl):ap Tryz.prog 60 [c.cu,.ref 0 0] [.cells [(Vl.p x y).cu]] (cP (Vl.l (.p c y)).cu [.cells [(Vl.p x y).cu]]):=by
 refine IS _ _ ((aU _).mpr trivial) ((aU _).mpr trivial) ?_
 simp only[G7,Vl.cu,↓zq,zs,ae,aU]
 refine⟨by omega,?_⟩
 refine al (yF _ _ ((aU _).mpr trivial) ((aU _).mpr trivial)) ?_
 simp only[↓zq,zs,ae]
 refine al (zX _ _ ((du _).mpr trivial)) ?_
 simp[↓zq,zs,ae,cP,Vl.cu]
theorem KZ(x y c:Vl):ap Tryz.prog 62 [c.cu,.ref 0 0] [.cells [(Vl.p x y).cu]] (cP (Vl.r (.p x c)).cu [.cells [(Vl.p x y).cu]]):=by
 refine Iz _ _ ((aU _).mpr trivial) ((aU _).mpr trivial) ?_
 simp only[GS,Vl.cu,↓zq,zs,ae,aU]
 refine⟨by omega,?_⟩
 refine al (yF _ _ ((aU _).mpr trivial) ((aU _).mpr trivial)) ?_
 simp only[↓zq,zs,ae]
 refine al (zX _ _ ((du _).mpr trivial)) ?_
 simp[↓zq,zs,ae,cP,Vl.cu]
theorem KV(kc kv c:Vl):ap Tryz.prog 64 [c.cu,.ref 0 0] [.cells [kc.cu,kv.cu]] (cP (Vl.f (.r (.p kc c))).cu [.cells [kc.cu,kv.cu]]):=by
 refine JW _ _ _ ((aU _).mpr trivial) ((aU _).mpr trivial) ((aU _).mpr trivial) ?_
 simp only[GM,Vl.cu,↓zq,zs,ae,aU]
 refine al (yF _ _ ((aU _).mpr trivial) ((aU _).mpr trivial)) ?_
 simp only[↓zq,zs,ae]
 refine al (zX _ _ ((du _).mpr trivial)) ?_
 simp only[↓zq,zs,ae]
 refine al (zX _ _ ((du _).mpr trivial)) ?_
 simp[↓zq,zs,ae,cP,Vl.cu,aU]
theorem Ip(c:Vl):ap Tryz.prog 63 [c.cu] [] (bA (Vl.f (.l c)).cu):=by
 refine JP _ ((aU _).mpr trivial) ?_
 simp only[Gx,↓zq,zs,ae]
 refine al (zX _ _ ((aU _).mpr trivial)) ?_
 simp only[↓zq,zs,ae]
 refine al (zX _ _ ((du _).mpr trivial)) ?_
 simp[↓zq,zs,ae,bA,Vl.cu]
end Go.Proofs.Trees
namespace Go.Proofs.Trees
open Go Go.VL Go.RowKit
abbrev vF(a:Ty)(tg:Tg):Hl->List Hl:=fun h=>gP (fun c=>.f (.r (.p h.1 c))) (bK (.rc a) tg h.2)
theorem vN(l:List Hl){i:Nat}(hi:i<l.length):l[i]∈l:=cy _
def AR(t:Ty)(ea:AV)(s:List UInt8)(fr:AV)(tg:Tg)(v:Vl):Prop:=ap Tryz.prog 32 [.agg [t.av,ea],v.cu,.agg [.v (.string (mk s)),fr]] [] (bA (.sl (fX (bK t tg v))))
theorem Hm(a:Ty)(ea:AV)(s:List UInt8)(fr:AV)(tg:Tg)(he:LK.ptr.has ea)(hf:LK.ptr.has fr)(l:List Hl)(hl:l.length<=1000000)(ih:∀h,h∈l->AR (.rc a) ea s fr tg h.2) :
 ∀(k i:Nat) (out:List Hl),i+k=l.length->(out++(l.drop i).flatMap (vF a tg)).length<=1000000 ->
 Bq [.sl (fX l),.v (.int .i64 (l.length:Int)),.v (.int .i64 (i:Int))] [.cells [(Ty.rc a).av,ea],.cells [.v (.string (mk s)),fr],.cells [.any],.vec 2 (fX out)] (fI 1 [] [.cells [.any],.vec 2 (fX (out++(l.drop i).flatMap (vF a tg)))])
 |
  0,i,out,hi,ho=>by
  refine HN _ _ _ _ _ _ _ _ ?_
  have:i=l.length:=by omega
  subst this
  simp only[CT,↓zq,zs,ae,df,bb,he,hf]
  exact⟨fun h=>by omega,fun _=>by simp[fI]⟩
 |
  k+1,i,out,hi,ho=>by
  have hlt:i<l.length:=by omega
  have hd:(l.drop i).flatMap (vF a tg)=vF a tg (l[i])++(l.drop (i+1)).flatMap (vF a tg):=by rw[aJ hlt,cB]
  rw[hd]at ho |-
  refine HN _ _ _ _ _ _ _ _ ?_
  simp only[CT,↓zq,zs,ae,zt,df,jQ hlt,bb,aU,bJ,he,hf]
  refine⟨fun _=>⟨by omega,by omega,?_⟩,fun h=>by omega⟩
  refine al (ih _ (vN l hlt)) ?_
  simp only[↓zq,zs,ae]
  have hb:out.length+(bK (.rc a) tg (l[i]).2).length<=1000000:=by
   simp only[an,ej]at ho;omega
  refine bx (IK _ _ ((aU _).mpr trivial) ((aU _).mpr trivial) (fun c=>.f (.r (.p (l[i]).1 c))) (fun c=>KV (l[i]).1 (l[i]).2 c) (bK (.rc a) tg (l[i]).2) out hb) ?_
  simp only[↓zq,zs,ae,aN,aU]
  rw[bk i (by omega),<-a7]
  exact Hm a ea s fr tg he hf l hl ih k (i+1) _ (by omega) (by rw[a7];exact ho)
theorem Ab(n:Nat):∀(m:Nat) (v:Vl),v.nodes<=m->∀(e:E) (env:List Fr) (t:Ty),Ask e env t->er n v (e,env)=true->env.length+v.nodes<100000->∀(ea:AV) (ids:List Nat),kh ea ids->ids.length=env.length->∀(tg:Tg) (s:List UInt8) (fr:AV),vG tg ids s fr->AR t ea s fr tg v
 |0,v,hm=>by have:=cZ v;omega
 |
  m+1,v,hm=>by
  intro e env t A hv hl ea ids he hids tg s fr ht
  unfold AR
  refine KS _ _ _ _ _ ((bb _).mpr trivial) he.has ((aU _).mpr trivial) ht.has ?_
  unfold E9
  refine al (KU t tg ea ids s fr he ht (fun u hu=>by
   rcases gI A.wf A.ty with⟨hb,_⟩|⟨u',g,rfl,_,hg⟩
   ·rw[hu]at hb;cases hb
   ·cases hu;rw[hids];exact(List.getElem?_eq_some_iff.1 hg).1) (by omega)) ?_
  have hlen:=kQ t tg v
  cases hat:gS t tg with
  |
   true =>
   rw[lZ v hat]
   simp only[↓zq,zs,ae,bA,fX,bp,List.map_nil,Vl.cu]
   exact⟨fun _=>trivial,fun h=>(by cases h)⟩
  |false =>
  simp only[↓zq,zs,ae]
  refine⟨fun h=>(by cases h),fun _=>?_⟩
  rcases gI A.wf A.ty with⟨hb,hq⟩|⟨u,g,rfl,hq,hu⟩
  ·have hhd:hd e env=(e,env):=jI hq
   rcases fw A.ty hb A.cl with⟨rfl,rfl⟩|⟨rfl,rfl⟩|⟨s,rfl,rfl,hp,h0,h1⟩|⟨x,a,b,t1,t2,rfl,hx,rfl,ha,hbb⟩|⟨x,a,b,t1,t2,rfl,hx,rfl,ha,hbb⟩|⟨x,a,b,t1,rfl,hx,rfl⟩
   ·rw[dG hat (by cases v<;>rfl)]
    simp[Ty.av,↓zq,zs,ae,bA,fX]
   ·rw[dG hat (by cases v<;>rfl)]
    simp[Ty.av,↓zq,zs,ae,bA,fX]
   ·rw[dG hat (by cases v<;>rfl)]
    simp[Ty.av,↓zq,zs,ae,bA,fX]
   ·obtain⟨ok1,ok2,ok3,_⟩:=A.ok
    obtain⟨f1,f2⟩:=fQ A.cl
    have hL:=xY t1.av t2.av ea 43 (mk []) 0 ((bb _).mpr trivial) he.has
    have hR:=yG t1.av t2.av ea 43 (mk []) 0 ((bb _).mpr trivial) he.has
    cases v with
    |
     l w =>
     simp only[er,hhd,hx,beq_self_eq_true,bN]at hv
     simp only[Vl.nodes]at hm hl hlen
     rw[me]at hlen |-
     rw[ej]at hlen
     simp only[Ty.av,↓zq,zs,ae]
     refine⟨by omega,fun _=>?_,fun h=>absurd rfl h⟩
     refine al hL ?_
     simp only[↓zq,zs,ae,bJ,bb,he.has,Vl.cu,aU]
     refine⟨by omega,fun h=>by omega,fun _=>⟨by omega,?_⟩⟩
     refine al (Ab n m w (by omega) a env t1 ⟨ok2,A.wf,ha,f1⟩ hv (by omega) ea ids he hids tg s fr ht) ?_
     simp only[↓zq,zs,ae]
     have hadd:=EU (Vl.l w).cu ((aU _).mpr trivial) Vl.l (fun c=>Kk w c) (bK t1 tg w) [] (by simp;omega)
     simp only[Vl.cu,fX,List.map_nil,bz]at hadd
     refine bx hadd ?_
     simp[↓zq,zs,ae,aN,bA,aU,fX,du]
    |
     r w =>
     simp only[er,hhd,hx,beq_self_eq_true,bN]at hv
     simp only[Vl.nodes]at hm hl hlen
     rw[l0]at hlen |-
     rw[ej]at hlen
     simp only[Ty.av,↓zq,zs,ae]
     refine⟨by omega,fun _=>?_,fun h=>absurd rfl h⟩
     refine al hL ?_
     simp only[↓zq,zs,ae,bJ,bb,he.has,Vl.cu,aU]
     refine⟨by omega,fun _=>?_,fun h=>absurd rfl h⟩
     refine al hR ?_
     simp only[↓zq,zs,ae,bJ,bb,he.has,aU]
     refine⟨by omega,?_⟩
     refine al (Ab n m w (by omega) b env t2 ⟨ok3,A.wf,hbb,f2⟩ hv (by omega) ea ids he hids tg s fr ht) ?_
     simp only[↓zq,zs,ae]
     have hadd:=EU (Vl.r w).cu ((aU _).mpr trivial) Vl.r (fun c=>IY w c) (bK t2 tg w) [] (by simp;omega)
     simp only[Vl.cu,fX,List.map_nil,bz]at hadd
     refine bx hadd ?_
     simp[↓zq,zs,ae,aN,bA,aU,fX,du]
    |_=>simp[er,hhd,hx]at hv
   ·obtain⟨ok1,ok2,ok3,_⟩:=A.ok
    obtain⟨f1,f2⟩:=eX A.cl
    have hL:=xY t1.av t2.av ea 42 (mk []) 0 ((bb _).mpr trivial) he.has
    have hR:=yG t1.av t2.av ea 42 (mk []) 0 ((bb _).mpr trivial) he.has
    cases v with
    |
     p w w' =>
     simp only[er,hhd,hx,beq_self_eq_true,bN,aq]at hv
     simp only[Vl.nodes]at hm hl hlen
     rw[lY]at hlen |-
     simp only[an,ej]at hlen
     simp only[Ty.av,↓zq,zs,ae]
     refine⟨by omega,fun h=>by omega,fun _=>⟨fun _=>?_,fun h=>absurd rfl h⟩⟩
     refine al hL ?_
     simp only[↓zq,zs,ae,bJ,bb,he.has,Vl.cu,aU]
     refine⟨by omega,?_⟩
     refine al (Ab n m w (by omega) a env t1 ⟨ok2,A.wf,ha,f1⟩ hv.1 (by omega) ea ids he hids tg s fr ht) ?_
     simp only[↓zq,zs,ae]
     have hadd:=Kh (Vl.p w w').cu ((aU _).mpr trivial) (fun c=>.l (.p c w')) (fun c=>JS w w' c) (bK t1 tg w) [] (by simp;omega)
     simp only[Vl.cu,fX,List.map_nil,bz]at hadd
     refine bx hadd ?_
     simp only[↓zq,zs,ae,aN,aU]
     refine al hR ?_
     simp only[↓zq,zs,ae,bJ,bb,he.has,aU]
     refine⟨by omega,?_⟩
     refine al (Ab n m w' (by omega) b env t2 ⟨ok3,A.wf,hbb,f2⟩ hv.2 (by omega) ea ids he hids tg s fr ht) ?_
     simp only[↓zq,zs,ae]
     have hadd2:=II (Vl.p w w').cu ((aU _).mpr trivial) (fun c=>.r (.p w c)) (fun c=>KZ w w' c) (bK t2 tg w') (gP (fun c=>.l (.p c w')) (bK t1 tg w)) (by rw[ej];omega)
     simp only[Vl.cu,fX]at hadd2
     refine bx hadd2 ?_
     simp[↓zq,zs,ae,aN,bA,aU,fX,du]
    |_=>simp[er,hhd,hx]at hv
   ·obtain⟨t1',he1,h1,f1,hw1⟩:=jp A.wf A.ok hx A.ty A.cl
    cases he1
    obtain⟨ok1,ok2,ok3,_⟩:=A.ok
    have A':Ask b (.mk a.at (.list [x,a,b]) env::env) t1:=⟨ok3,hw1,h1,f1⟩
    cases v with
    |
     f w =>
     simp only[er,hhd,hx,beq_self_eq_true,bN]at hv
     simp only[Vl.nodes]at hm hl hlen
     rw[mJ]at hlen |-
     simp only[an,ej]at hlen
     have hin:=FI t1 ea ids he
     simp only[Ty.av]at hin
     simp only[Ty.av,↓zq,zs,ae]
     refine⟨by omega,fun h=>by omega,fun _=>⟨fun h=>by omega,fun _=>⟨fun _=>?_,fun h=>absurd rfl h⟩⟩⟩
     refine aT hin (by have:=Dj.ne t1 ea ids;simpa only[Dj,Ty.av]using this) ?_
     intro r o hr
     obtain⟨⟨mm,hmm,rfl⟩,rfl⟩:=hr
     have he2:kh (.ptr [.pid mm [(Ty.rc t1).av,ea],ea]) (mm::ids):=.cons hmm he
     have hfr:LK.ptr.has (.pid mm [(Ty.rc t1).av,ea]):=.inr (.inr ⟨_,_,rfl⟩)
     simp only[Ty.av]at he2 hfr
     simp only[↓zq,zs,ae,bJ,bb,he2.has,hfr,Vl.cu,aU,Ty.av]
     refine⟨by omega,?_⟩
     have i1:=Ab n m w (by omega) b _ t1 A' hv (by simp;omega) _ _ he2 (by simp[hids]) tg.up s fr (ht.push mm)
     unfold AR at i1
     refine al i1 ?_
     simp only[↓zq,zs,ae]
     have hadd:=J9 (fun c=>.f (.l c)) (fun c=>Ip c) (bK t1 tg.up w) [] (by simp;omega)
     simp only[Vl.cu,fX,List.map_nil,bz]at hadd
     refine bx hadd ?_
     simp only[↓zq,zs,ae,aN,aU]
     have i2:=Ab n m w (by omega) b _ t1 A' hv (by simp;omega) _ _ he2 (by simp[hids]) (.bd 0) [] _ (by have:=vG.bd (k:=0) (ids:=mm::ids) (by simp) [(Ty.rc t1).av,ea] [];simpa only[a8,Ty.av]using this)
     unfold AR at i2
     refine⟨by omega,?_⟩
     refine al i2 ?_
     simp only[↓zq,zs,ae,df]
     have hl2:=kQ t1 (.bd 0) w
     have ih3:∀h,h∈bK t1 (.bd 0) w->AR (.rc t1) ea s fr tg h.2:=fun h hh=>by
      have h3:=(jn hh).1
      have h4:=eY n m w (by omega) b _ t1 A' hv 0 _ rfl h hh
      exact Ab n m h.2 (by omega) (.list [x,a,b]) env (.rc t1) A h4 (by omega) ea ids he hids tg s fr ht
     have hloop:=Hm t1 ea s fr tg he.has ht.has (bK t1 (.bd 0) w) (by omega) ih3 (bK t1 (.bd 0) w).length 0 (gP (fun c=>.f (.l c)) (bK t1 tg.up w)) (by omega) (by
      simp only[aW,an,ej]
      have hlen2:(bK t1 tg.up w).length+((bK t1 (.bd 0) w).flatMap (vF t1 tg)).length<=1+w.nodes:=hlen
      omega)
     simp only[Ty.av,fX,aW]at hloop
     refine bY hloop ?_
     simp[↓zq,zs,ae,ae,bA,fX]
    |_=>simp[er,hhd,hx]at hv
  ·rw[dG hat (by cases v<;>rfl)]
   simp[Ty.av,↓zq,zs,ae,bA,fX]
end Go.Proofs.Trees
namespace Go.Proofs.Trees
open Go Go.VL Go.RowKit
def back(n:Nat):Ty->Nat->Vl
 | .name _,c=>.el c
 | .plus a b,c=>match C5 n a with|some x=>if c<x then .l (back n a c)else .r (back n b (c-x))|none=>.u
 | .times a b,c=>match C5 n b with|some y=>.p (back n a (c/y)) (back n b (c%y))|none=>.u
 |_,_=>.u
theorem uN:∀l:List E,bU 2 (E.ba l)
 |[]=>fun c hc=>by cases hc
 |
  e::l=>fun c hc=>by
  simp only[E.ba,aF]at hc
  rcases hc with rfl|hc
  ·exact eQ e
  ·exact uN l c hc
theorem EY(w:List UInt8)(l:List E)(hl:l.length<1000000):ap Tryz.prog 47 [.v (.string (mk w)),.sl (E.ba l)] [] (bA (E.iT (.list (.atom w::l)))):=by
 refine Jc _ _ ((ca _).mpr trivial) ?_
 simp only[Fq,↓zq,zs,ae,dj,bA,E.iT,E.fP,E.ba]
 exact⟨⟨uN l,by omega⟩,rfl⟩
end Go.Proofs.Trees
namespace Go.Proofs.Trees
open Go Go.VL Go.RowKit
def ka(l:List Hl):List (List AV):=l.map fun h=>[.v (.string (mk h.1.dq.at)),h.1.dq.sp,.v (.string (mk h.2.dq.at)),h.2.dq.sp]
theorem dT(l:List Hl):(ka l).length=l.length:=by simp[ka]
theorem ff{l:List Hl}{i:Nat}(hi:i<l.length):(ka l).getD i []=[.v (.string (mk (l[i]).1.dq.at)),(l[i]).1.dq.sp,.v (.string (mk (l[i]).2.dq.at)),(l[i]).2.dq.sp]:=by simp[ka,aa,hi]
theorem lO(out:List Hl)(a b:Vl):ka out++[[.v (.string (mk a.dq.at)),a.dq.sp,.v (.string (mk b.dq.at)),b.dq.sp]]=ka (out++[(a,b)]):=by simp[ka]
theorem vu(a b c d:AV):bU 4 [[a,b,c,d]]:=fun x hx=>by simp at hx;rw[hx];rfl
theorem aM(s:ByteArray)(e:E):bJ [.str,.sl] [.v (.string s),e.sp] 0=True:=by simp[bJ,dV,a6]
theorem ja(s:ByteArray)(e:E)(x y:AV):bJ [.str,.sl] [.v (.string s),e.sp,x,y] 0=True:=by simp[bJ,dV,a6]
theorem xN(w:List UInt8)(e:E):ap Tryz.prog 47 [.v (.string (mk w)),.sl [[.v (.string (mk e.at)),e.sp]]] [] (bA (.agg [.v (.string (mk [])),(E.list [.atom w,e]).sp])):=by
 have:=EY w [e] (by simp)
 simpa only[E.ba,gv,dz,E.at]using this
theorem xP(w:List UInt8)(e e':E):ap Tryz.prog 47 [.v (.string (mk w)),.sl [[.v (.string (mk e.at)),e.sp],[.v (.string (mk e'.at)),e'.sp]]] [] (bA (.agg [.v (.string (mk [])),(E.list [.atom w,e,e']).sp])):=by
 have:=EY w [e,e'] (by simp)
 simpa only[E.ba,gv,dz,E.at]using this
def P3(pv:AV)(a b:E):Prop:=LK.sl.has pv/\pv.aO.length=3/\pv.aO.getD 1 []=[.v (.string (mk a.at)),a.sp]/\pv.aO.getD 2 []=[.v (.string (mk b.at)),b.sp]
theorem P3.of(x a b:E):P3 (E.list [x,a,b]).sp a b:=⟨by simp[E.sp,ca],by simp[E.sp,E.ba,eE],by simp[E.sp,E.ba,eE,gv],by simp[E.sp,E.ba,eE,gv]⟩
def P2(pv:AV)(a:E):Prop:=LK.sl.has pv/\pv.aO.length=2/\pv.aO.getD 1 []=[.v (.string (mk a.at)),a.sp]
theorem P2.of(x a:E):P2 (E.list [x,a]).sp a:=⟨by simp[E.sp,ca],by simp[E.sp,E.ba,eE],by simp[E.sp,E.ba,eE,gv]⟩
theorem Ga(w:List UInt8)(g:Vl->Vl)(hg:∀c,(g c).dq=.list [.atom w,c.dq])(l:List Hl)(hl:l.length<=1000000):∀(k i:Nat) (out:List Hl),i+k=l.length->out.length+k<=1000000 ->
 AN [.sl (ka l),.v (.string (mk w)),.v (.int .i64 (i:Int))] [.vec 4 (ka out)] (fI 1 [] [.vec 4 (ka (out++gP g (l.drop i)))])
 |
  0,i,out,hi,ho=>by
  refine Gf _ _ _ _ ?_
  have:i=l.length:=by omega
  subst this
  simp only[A2,↓zq,zs,ae,dT]
  exact⟨fun h=>by omega,fun _=>by simp[fI,gP]⟩
 |
  k+1,i,out,hi,ho=>by
  have hlt:i<l.length:=by omega
  refine Gf _ _ _ _ ?_
  simp only[A2,↓zq,zs,ae,zt,dT,ff hlt,ja,aM]
  refine⟨fun _=>?_,fun h=>by omega⟩
  repeat refine⟨by omega,?_⟩
  refine al (xN _ _) ?_
  simp only[↓zq,zs,ae,aM]
  repeat refine⟨by omega,?_⟩
  refine⟨⟨vu _ _ _ _,by omega⟩,?_⟩
  rw[bk i (by omega)]
  have:=Ga w g hg l hl k (i+1) (out++[(g (l[i]).1,(l[i]).2)]) (by omega) (by simp;omega)
  rw[a7,<-lO,hg]at this
  rw[e9 g l hlt]
  exact this
theorem DU(w:List UInt8)(g:Vl->Vl)(hg:∀c,(g c).dq=.list [.atom w,c.dq])(l out:List Hl)(hl:out.length+l.length<=1000000) :
 ap Tryz.prog 70 [.sl (ka l),.v (.string (mk w)),.vec 0] [.vec 4 (ka out)] (cP (.vec 1) [.dead,.vec 4 (ka (out++gP g l))]):=by
 refine I3 _ _ _ ((ca _).mpr trivial) ?_
 simp only[GB,↓zq,zs,ae]
 have h:=Ga w g hg l (by omega) l.length 0 out (by omega) (by omega)
 rw[aW]at h
 refine bY h ?_
 simp[↓zq,zs,ae,cP]
theorem Gs(s:List UInt8)(ta:ByteArray)(tp:AV)(ht:LK.sl.has tp)(va:ByteArray)(vp:AV)(x y:Vl)(hp:P3 vp x.dq y.dq)(l:List Hl)(hl:l.length<=1000000):∀(k i:Nat) (out:List Hl),i+k=l.length->out.length+k<=1000000 ->
 Cc [.v (.string (mk s)),.sl (ka l),.v (.int .i64 (i:Int))] [.cells [.v (.string ta),tp],.cells [.v (.string va),vp],.vec 4 (ka out)] (fI 1 [.v (.string (mk s))] [.cells [.v (.string ta),tp],.cells [.v (.string va),vp],.vec 4 (ka (out++gP (fun c=>Vl.l (.p c y)) (l.drop i)))])
 |
  0,i,out,hi,ho=>by
  refine FQ _ _ _ _ _ _ _ _ ?_
  have:i=l.length:=by omega
  subst this
  simp only[BD,↓zq,zs,ae,dT,ht,a6,ae,hp.1]
  exact⟨fun h=>by omega,fun _=>by simp[fI,gP]⟩
 |
  k+1,i,out,hi,ho=>by
  have hlt:i<l.length:=by omega
  refine FQ _ _ _ _ _ _ _ _ ?_
  simp only[BD,↓zq,zs,ae,zt,dT,ff hlt,ja,aM,ff,ht,a6,ae,hp.1,toNat_one,bf,hp.1,hp.2.1,hp.2.2.1,hp.2.2.2]
  refine⟨fun _=>?_,fun h=>by omega⟩
  repeat refine⟨by omega,?_⟩
  refine al (xP _ _ _) ?_
  simp only[↓zq,zs,ae,aM]
  repeat refine⟨by omega,?_⟩
  refine al (xN [108] (E.list [.atom [112],(l[i]).1.dq,y.dq])) ?_
  simp only[↓zq,zs,ae,aM]
  repeat refine⟨by omega,?_⟩
  refine⟨⟨vu _ _ _ _,by omega⟩,?_⟩
  rw[bk i (by omega)]
  have:=Gs s ta tp ht va vp x y hp l hl k (i+1) (out++[((fun c=>Vl.l (.p c y)) (l[i]).1,(l[i]).2)]) (by omega) (by simp;omega)
  rw[a7,<-lO]at this
  rw[e9 (fun c=>Vl.l (.p c y)) l hlt]
  exact this
theorem DQ(va:ByteArray)(vp:AV)(x y:Vl)(hp:P3 vp x.dq y.dq)(l:List Hl)(hl:l.length<=1000000):∀(k i:Nat) (out:List Hl),i+k=l.length->out.length+k<=1000000 ->
 Bk [.sl (ka l),.v (.int .i64 (i:Int))] [.cells [.v (.string va),vp],.vec 4 (ka out)] (fI 1 [] [.vec 4 (ka (out++gP (fun c=>Vl.r (.p x c)) (l.drop i)))])
 |
  0,i,out,hi,ho=>by
  refine D9 _ _ _ _ _ ?_
  have:i=l.length:=by omega
  subst this
  simp only[BY,↓zq,zs,ae,dT,a6,ae,hp.1]
  exact⟨fun h=>by omega,fun _=>by simp[fI,gP]⟩
 |
  k+1,i,out,hi,ho=>by
  have hlt:i<l.length:=by omega
  refine D9 _ _ _ _ _ ?_
  simp only[BY,↓zq,zs,ae,zt,dT,ff hlt,ja,aM,ff,a6,ae,hp.1,toNat_one,bf,hp.1,hp.2.1,hp.2.2.1,hp.2.2.2]
  refine⟨fun _=>?_,fun h=>by omega⟩
  repeat refine⟨by omega,?_⟩
  refine al (xP _ _ _) ?_
  simp only[↓zq,zs,ae,aM]
  repeat refine⟨by omega,?_⟩
  refine al (xN [114] (E.list [.atom [112],x.dq,(l[i]).1.dq])) ?_
  simp only[↓zq,zs,ae,aM]
  repeat refine⟨by omega,?_⟩
  refine⟨⟨vu _ _ _ _,by omega⟩,?_⟩
  rw[bk i (by omega)]
  have:=DQ va vp x y hp l hl k (i+1) (out++[((fun c=>Vl.r (.p x c)) (l[i]).1,(l[i]).2)]) (by omega) (by simp;omega)
  rw[a7,<-lO]at this
  rw[e9 (fun c=>Vl.r (.p x c)) l hlt]
  exact this
theorem Hr(s s2:List UInt8)(ta:ByteArray)(tp:AV)(ht:LK.sl.has tp)(va:ByteArray)(vp:AV)(hp:LK.sl.has vp)(l:List Hl)(hl:l.length<=1000000):∀(k i:Nat) (out:List Hl),i+k=l.length->out.length+k<=1000000 ->
 BE [.v (.string (mk s)),.v (.string (mk s2)),.sl (ka l),.v (.int .i64 (i:Int))] [.cells [.v (.string ta),tp],.cells [.v (.string va),vp],.vec 4 (ka out)] (fI 1 [.v (.string (mk s)),.v (.string (mk s2))] [.cells [.v (.string ta),tp],.cells [.v (.string va),vp],.vec 4 (ka (out++gP (fun c=>Vl.f (.l c)) (l.drop i)))])
 |
  0,i,out,hi,ho=>by
  refine Gt _ _ _ _ _ _ _ _ _ ?_
  have:i=l.length:=by omega
  subst this
  simp only[CY,↓zq,zs,ae,dT,ht,a6,ae,hp]
  exact⟨fun h=>by omega,fun _=>by simp[fI,gP]⟩
 |
  k+1,i,out,hi,ho=>by
  have hlt:i<l.length:=by omega
  refine Gt _ _ _ _ _ _ _ _ _ ?_
  simp only[CY,↓zq,zs,ae,zt,dT,ff hlt,ja,aM,ff,ht,a6,ae,hp]
  refine⟨fun _=>?_,fun h=>by omega⟩
  repeat refine⟨by omega,?_⟩
  refine al (xN _ _) ?_
  simp only[↓zq,zs,ae,aM]
  repeat refine⟨by omega,?_⟩
  refine al (xN [102] (E.list [.atom [108],(l[i]).1.dq])) ?_
  simp only[↓zq,zs,ae,aM]
  repeat refine⟨by omega,?_⟩
  refine⟨⟨vu _ _ _ _,by omega⟩,?_⟩
  rw[bk i (by omega)]
  have:=Hr s s2 ta tp ht va vp hp l hl k (i+1) (out++[((fun c=>Vl.f (.l c)) (l[i]).1,(l[i]).2)]) (by omega) (by simp;omega)
  rw[a7,<-lO]at this
  rw[e9 (fun c=>Vl.f (.l c)) l hlt]
  exact this
theorem F5(s:List UInt8)(L:AV)(q:Nat)(kc:Vl)(kv:Vl)(hL:LK.sl.has L)(hq:q<L.aO.length)(hg:L.aO.getD q []=[.v (.string (mk kc.dq.at)),kc.dq.sp,.v (.string (mk kv.dq.at)),kv.dq.sp])(ta:ByteArray)(tp:AV)(ht:LK.sl.has tp)(l:List Hl)(hl:l.length<=1000000):∀(k i:Nat) (out:List Hl),i+k=l.length->out.length+k<=1000000 ->
 Bb [.v (.string (mk s)),L,.v (.int .i64 (q:Int)),.sl (ka l),.v (.int .i64 (i:Int))] [.cells [.v (.string ta),tp],.vec 4 (ka out)] (fI 1 [.v (.string (mk s)),L,.v (.int .i64 (q:Int))] [.cells [.v (.string ta),tp],.vec 4 (ka (out++gP (fun c=>Vl.f (.r (.p kc c))) (l.drop i)))])
 |
  0,i,out,hi,ho=>by
  refine Et _ _ _ _ _ _ _ _ ?_
  have:i=l.length:=by omega
  subst this
  simp only[CF,↓zq,zs,ae,dT,ht,a6,ae,hL]
  exact⟨fun h=>by omega,fun _=>by simp[fI,gP]⟩
 |
  k+1,i,out,hi,ho=>by
  have hlt:i<l.length:=by omega
  refine Et _ _ _ _ _ _ _ _ ?_
  simp only[CF,↓zq,zs,ae,zt,dT,ff hlt,ja,aM,ff,ht,a6,ae,hL,hg]
  refine⟨fun _=>?_,fun h=>by omega⟩
  repeat refine⟨by omega,?_⟩
  refine al (xP _ _ _) ?_
  simp only[↓zq,zs,ae,aM]
  repeat refine⟨by omega,?_⟩
  refine al (xN [114] (E.list [.atom [112],kc.dq,(l[i]).1.dq])) ?_
  simp only[↓zq,zs,ae,aM]
  repeat refine⟨by omega,?_⟩
  refine al (xN [102] (E.list [.atom [114],E.list [.atom [112],kc.dq,(l[i]).1.dq]])) ?_
  simp only[↓zq,zs,ae,aM]
  repeat refine⟨by omega,?_⟩
  refine⟨⟨vu _ _ _ _,by omega⟩,?_⟩
  rw[bk i (by omega)]
  have:=F5 s L q kc kv hL hq hg ta tp ht l hl k (i+1) (out++[((fun c=>Vl.f (.r (.p kc c))) (l[i]).1,(l[i]).2)]) (by omega) (by simp;omega)
  rw[a7,<-lO]at this
  rw[e9 (fun c=>Vl.f (.r (.p kc c))) l hlt]
  exact this
theorem Fv(s:List UInt8)(te:E)(a:Ty)(tg:Tg)(l:List Hl)(hl:l.length<=1000000)(ih:∀h,h∈l->ap Tryz.prog 39 [.agg [.v (.string (mk te.at)),te.sp],.v (.string (mk s)),.agg [.v (.string (mk h.2.dq.at)),h.2.dq.sp]] [] (bA (.sl (ka (bK (.rc a) tg h.2))))) :
 ∀(k i:Nat) (out:List Hl),i+k=l.length->(out++(l.drop i).flatMap (vF a tg)).length<=1000000 ->
 Bp [.v (.string (mk s)),.sl (ka l),.v (.int .i64 (i:Int))] [.cells [.v (.string (mk te.at)),te.sp],.vec 4 (ka out)] (fI 1 [] [.vec 4 (ka (out++(l.drop i).flatMap (vF a tg)))])
 |
  0,i,out,hi,ho=>by
  refine F8 _ _ _ _ _ _ ?_
  have:i=l.length:=by omega
  subst this
  simp only[A8,↓zq,zs,ae,dT,a6,ae]
  exact⟨fun h=>by omega,fun _=>by simp[fI]⟩
 |
  k+1,i,out,hi,ho=>by
  have hlt:i<l.length:=by omega
  have hd:(l.drop i).flatMap (vF a tg)=vF a tg (l[i])++(l.drop (i+1)).flatMap (vF a tg):=by rw[aJ hlt,cB]
  rw[hd]at ho |-
  refine F8 _ _ _ _ _ _ ?_
  simp only[A8,↓zq,zs,ae,zt,dT,ff hlt,ja,aM,a6,ae]
  refine⟨fun _=>?_,fun h=>by omega⟩
  repeat refine⟨by omega,?_⟩
  refine al (ih _ (vN l hlt)) ?_
  simp only[↓zq,zs,ae]
  have hb:out.length+(bK (.rc a) tg (l[i]).2).length<=1000000:=by
   simp only[an,ej]at ho;omega
  have h5:=F5 s (.sl (ka l)) i (l[i]).1 (l[i]).2 ((ca _).mpr trivial) (by rw[eE,dT];omega) (by rw[eE,ff hlt]) (mk te.at) te.sp ((a6 _).mpr trivial) (bK (.rc a) tg (l[i]).2) (by omega) (bK (.rc a) tg (l[i]).2).length 0 out (by omega) (by omega)
  rw[aW]at h5
  refine bY h5 ?_
  simp only[↓zq,zs,ae,a6,ae]
  repeat refine⟨by omega,?_⟩
  rw[bk i (by omega),<-a7]
  exact Fv s te a tg l hl ih k (i+1) _ (by omega) (by rw[a7];exact ho)
end Go.Proofs.Trees
namespace Go.Proofs.Trees
open Go Go.VL Go.RowKit
theorem vm{env:List Fr}(h:WF env):∀w,w∈names env->cI w=true:=by
 induction h with
 |nil=>intro w hw;cases hw
 |
  cons hs _ _ _ _ _ ih =>
  intro w hw
  simp only[names,aL,be]at hw
  rcases hw with hw|rfl
  ·exact ih w hw
  ·exact hs
theorem wZ{ar:List (List UInt8)}{k:Nat}(h:k<ar.length):gp ar k∈ar:=by
 unfold gp
 have:ar.length-1-k<ar.length:=by omega
 simp[aa,this]
def we(s:List UInt8)(ar:List (List UInt8)):Prop:=gh s=true\/(bq s ar ar.length).isSome=true
theorem su{s:List UInt8}{ar:List (List UInt8)}{u:Nat}(hl:∀w,w∈ar->cI w=true)(h:bq s ar ar.length=some u):cI s=true:=by
 obtain⟨h1,h2⟩:=eG _ _ (au _) h
 rw[<-h2];exact hl _ (wZ h1)
theorem B5{s0 s:List UInt8}{ar:List (List UInt8)}{t:Ty}(ht:cv (.atom s0) ar=some t)(hl:∀w,w∈ar->cI w=true)(hs:we s ar):gS t (mz s ar)=decide (s0=s):=by
 have h48:∀b:UInt8,gh [b]=false->cI [b]=false->s≠[b]:=fun b h1 h2 e=>by
  subst e
  rcases hs with h|h
  ·rw[h1]at h;cases h
  ·obtain⟨u,hu⟩:=bI.1 h
   rw[su hl hu]at h2;cases h2
 simp only[cv]at ht
 split at ht
 ·rename_i e;cases ht;subst e
  have:=h48 48 rfl rfl
  rw[decide_eq_false (fun h=>this h.symm)];cases mz s ar<;>rfl
 ·split at ht
  ·rename_i e;cases ht;subst e
   have:=h48 49 rfl rfl
   rw[decide_eq_false (fun h=>this h.symm)];cases mz s ar<;>rfl
  ·split at ht
   ·rename_i hp
    cases ht
    unfold mz
    cases e:bq s ar ar.length with
    |none=>rfl
    |
     some u =>
     have hloo:=su hl e
     show false=_
     rw[decide_eq_false]
     rintro rfl
     rw[iN hp]at hloo;cases hloo
   ·rename_i hnp
    split at ht
    ·split at ht
     ·rename_i u hu
      cases ht
      unfold mz
      cases e:bq s ar ar.length with
      |
       none =>
       show false=_
       rw[decide_eq_false]
       rintro rfl
       rw[hu]at e;cases e
      |
       some u' =>
       show decide (u=u')=_
       rw[bV,decide_eq_true_eq,decide_eq_true_eq]
       constructor
       ·rintro rfl
        rw[<-(eG _ _ (au _) hu).2,<-(eG _ _ (au _) e).2]
       ·rintro rfl
        rw[hu]at e;cases e;rfl
     ·rename_i hn
      cases ht
      unfold mz
      cases e:bq s ar ar.length with
      |none=>rfl
      |
       some u =>
       show false=_
       rw[decide_eq_false]
       rintro rfl
       rw[hn]at e;cases e
    ·cases ht
theorem yR{b:E}{ar:List (List UInt8)}{w:List UInt8}{t:Ty}(hb:cv b (ar++[w])=some t)(hw:cI w=true)(hs:we w ar):rk t (mz w ar).up=false:=by
 rcases hs with h|h
 ·rw[iN h]at hw;cases hw
 ·obtain⟨u,hu⟩:=bI.1 h
  rw[mz,hu];exact BF hb hu
theorem vj{s w:List UInt8}{ar:List (List UInt8)}(h:w≠s)(hs:we s ar):we s (ar++[w]):=by
 rcases hs with h1|h1
 ·exact .inl h1
 ·right;rw[hG ar h];obtain⟨u,hu⟩:=bI.1 h1;rw[hu];rfl
def JD(e:E)(s:List UInt8)(t:Ty)(tg:Tg)(v:Vl):Prop:=ap Tryz.prog 39 [.agg [.v (.string (mk e.at)),e.sp],.v (.string (mk s)),.agg [.v (.string (mk v.dq.at)),v.dq.sp]] [] (bA (.sl (ka (bK t tg v))))
theorem zJ(n:Nat):∀(m:Nat) (v:Vl),v.nodes<=m->∀(e:E) (env:List Fr) (t:Ty),Ask e env t->er n v (e,env)=true->env.length+v.nodes<100000->∀(s:List UInt8),we s (names env)->JD e s t (mz s (names env)) v
 |0,v,hm=>by have:=cZ v;omega
 |
  m+1,v,hm=>by
  intro e env t A hv hl s hs
  have hloo:=vm A.wf
  unfold JD
  refine IN _ _ _ _ _ ((a6 _).mpr trivial) ((a6 _).mpr trivial) ?_
  have hlen:=kQ t (mz s (names env)) v
  have atomCase:∀s0,e=.atom s0->stuck t v=true->dM Tryz.prog 244 (Ao (mk e.at) e.sp (mk s) (mk v.dq.at) v.dq.sp) fun _ xs obs=>bA (.sl (ka (bK t (mz s (names env)) v))) (xs.headD .any) obs:=by
   rintro s0 rfl hst
   have hat:=B5 A.ty hloo hs
   have hne:s0≠[]:=A.ok
   simp only[Ao,E.at,↓zq,zs,ae,zt]
   refine⟨fun _=>⟨fun h=>?_,fun h=>?_⟩,fun h=>absurd h hne⟩
   ·rw[decide_eq_true h]at hat
    rw[lZ v hat]
    refine⟨⟨vu _ _ _ _,by omega⟩,?_⟩
    simp[bA,ka,Vl.dq,E.at,E.sp]
   ·rw[decide_eq_false h]at hat
    rw[dG hat hst]
    simp[bA,ka]
  have hvh:=G2 v
  rw[dz]at hvh
  rcases gI A.wf A.ty with⟨hb,hq⟩|⟨u,g,rfl,hq,hu⟩
  ·have hhd:hd e env=(e,env):=jI hq
   rcases fw A.ty hb A.cl with⟨rfl,rfl⟩|⟨rfl,rfl⟩|⟨s0,rfl,rfl,hp,h0,h1⟩|⟨x,a,b,t1,t2,rfl,hx,rfl,ha,hbb⟩|⟨x,a,b,t1,t2,rfl,hx,rfl,ha,hbb⟩|⟨x,a,b,t1,rfl,hx,rfl⟩
   ·exact atomCase _ rfl (by cases v<;>rfl)
   ·exact atomCase _ rfl (by cases v<;>rfl)
   ·exact atomCase _ rfl (by cases v<;>rfl)
   ·obtain⟨ok1,ok2,ok3,_⟩:=A.ok
    obtain⟨f1,f2⟩:=fQ A.cl
    have hP:=P3.of x a b
    cases v with
    |
     l w =>
     simp only[er,hhd,hx,beq_self_eq_true,bN]at hv
     simp only[Vl.nodes]at hm hl hlen
     rw[me]at hlen |-
     rw[ej]at hlen
     have hW:=P2.of (.atom [108]) w.dq
     simp only[Ao,E.at,↓zq,zs,ae,zt]
     refine⟨fun h=>absurd rfl h,fun _=>al hvh ?_⟩
     simp only[vh,Vl.dq,toNat_one,bf,↓zq,zs,ae,zt,hP.1,hP.2.1,hP.2.2.1,hP.2.2.2,hW.1,hW.2.1,hW.2.2,aM]
     refine⟨fun _=>?_,fun h=>absurd rfl h⟩
     repeat refine⟨by omega,?_⟩
     refine al (zJ n m w (by omega) a env t1 ⟨ok2,A.wf,ha,f1⟩ hv (by omega) s hs) ?_
     simp only[↓zq,zs,ae]
     refine bx (DU [108] Vl.l (fun c=>rfl) (bK t1 (mz s (names env)) w) [] (by simp;omega)) ?_
     simp[↓zq,zs,ae,bA,bc,bm]
    |
     r w =>
     simp only[er,hhd,hx,beq_self_eq_true,bN]at hv
     simp only[Vl.nodes]at hm hl hlen
     rw[l0]at hlen |-
     rw[ej]at hlen
     have hW:=P2.of (.atom [114]) w.dq
     simp only[Ao,E.at,↓zq,zs,ae,zt]
     refine⟨fun h=>absurd rfl h,fun _=>al hvh ?_⟩
     simp only[vh,Vl.dq,toNat_one,bf,↓zq,zs,ae,zt,hP.1,hP.2.1,hP.2.2.1,hP.2.2.2,hW.1,hW.2.1,hW.2.2,aM]
     refine⟨fun h=>by simp at h,fun _=>⟨fun _=>?_,fun h=>absurd rfl h⟩⟩
     repeat refine⟨by omega,?_⟩
     refine al (zJ n m w (by omega) b env t2 ⟨ok3,A.wf,hbb,f2⟩ hv (by omega) s hs) ?_
     simp only[↓zq,zs,ae]
     refine bx (DU [114] Vl.r (fun c=>rfl) (bK t2 (mz s (names env)) w) [] (by simp;omega)) ?_
     simp[↓zq,zs,ae,bA,bc,bm]
    |_=>simp[er,hhd,hx]at hv
   ·obtain⟨ok1,ok2,ok3,_⟩:=A.ok
    obtain⟨f1,f2⟩:=eX A.cl
    have hP:=P3.of x a b
    cases v with
    |
     p w w' =>
     simp only[er,hhd,hx,beq_self_eq_true,bN,aq]at hv
     simp only[Vl.nodes]at hm hl hlen
     rw[lY]at hlen |-
     simp only[an,ej]at hlen
     have hW:=P3.of (.atom [112]) w.dq w'.dq
     simp only[Ao,E.at,↓zq,zs,ae,zt]
     refine⟨fun h=>absurd rfl h,fun _=>al hvh ?_⟩
     simp only[vh,Vl.dq,toNat_one,bf,↓zq,zs,ae,zt,hP.1,hP.2.1,hP.2.2.1,hP.2.2.2,hW.1,hW.2.1,hW.2.2.1,hW.2.2.2,aM]
     refine⟨fun h=>by simp at h,fun _=>⟨fun h=>by simp at h,fun _=>⟨fun _=>?_,fun h=>absurd rfl h⟩⟩⟩
     repeat refine⟨by omega,?_⟩
     refine al (zJ n m w (by omega) a env t1 ⟨ok2,A.wf,ha,f1⟩ hv.1 (by omega) s hs) ?_
     simp only[↓zq,zs,ae]
     have h1:=Gs s (mk []) (E.list [x,a,b]).sp ((a6 _).mpr trivial) (mk []) (E.list [.atom [112],w.dq,w'.dq]).sp w w' (P3.of _ _ _) (bK t1 (mz s (names env)) w) (by omega) _ 0 [] (aP _) (by simp;omega)
     rw[aW,bz]at h1
     refine bY h1 ?_
     simp only[↓zq,zs,ae,a6,ae,bf,hP.1,hP.2.1,hP.2.2.2,hW.1,hW.2.1,hW.2.2.2,aM]
     repeat refine⟨by omega,?_⟩
     refine al (zJ n m w' (by omega) b env t2 ⟨ok3,A.wf,hbb,f2⟩ hv.2 (by omega) s hs) ?_
     simp only[↓zq,zs,ae]
     have h2:=DQ (mk []) (E.list [.atom [112],w.dq,w'.dq]).sp w w' (P3.of _ _ _) (bK t2 (mz s (names env)) w') (by omega) _ 0 (gP (fun c=>Vl.l (.p c w')) (bK t1 (mz s (names env)) w)) (aP _) (by rw[ej];omega)
     rw[aW]at h2
     refine bY h2 ?_
     simp[↓zq,zs,ae,bA]
    |_=>simp[er,hhd,hx]at hv
   ·obtain⟨t1',he1,h1,f1,hw1⟩:=jp A.wf A.ok hx A.ty A.cl
    cases he1
    obtain⟨ok1,ok2,ok3,_⟩:=A.ok
    obtain⟨_,hla,_,_⟩:=db hx A.ty
    have A':Ask b (.mk a.at (.list [x,a,b]) env::env) t1:=⟨ok3,hw1,h1,f1⟩
    have hnm:names (.mk a.at (.list [x,a,b]) env::env)=names env++[a.at]:=rfl
    have hP:=P3.of x a b
    cases v with
    |
     f w =>
     simp only[er,hhd,hx,beq_self_eq_true,bN]at hv
     simp only[Vl.nodes]at hm hl hlen
     have hW:=P2.of (.atom [102]) w.dq
     simp only[Ao,E.at,↓zq,zs,ae,zt]
     refine⟨fun h=>absurd rfl h,fun _=>al hvh ?_⟩
     simp only[vh,Vl.dq,toNat_one,bf,↓zq,zs,ae,zt,hP.1,hP.2.1,hP.2.2.1,hP.2.2.2,hW.1,hW.2.1,hW.2.2,aM]
     refine⟨fun h=>by simp at h,fun _=>⟨fun h=>by simp at h,fun _=>⟨fun h=>by simp at h,fun _=>?_⟩⟩⟩
     repeat refine⟨by omega,?_⟩
     refine⟨fun h=>?_,fun h=>?_⟩
     ·
      have hh:a.at=s:=h
      subst hh
      have:rk (.rc t1) (mz a.at (names env))=false:=yR h1 hla hs
      rw[gq _ _ (au _) _ _ this]
      simp[bA,ka]
     ·have hh:a.at≠s:=h
      rw[mJ]at hlen |-
      simp only[an,ej]at hlen
      repeat refine⟨by omega,?_⟩
      have i1:=zJ n m w (by omega) b _ t1 A' hv (by simp;omega) s (by rw[hnm];exact vj hh hs)
      rw[hnm,vy _ hh]at i1
      refine al i1 ?_
      simp only[↓zq,zs,ae]
      have h3:=Hr s a.at (mk []) (E.list [x,a,b]).sp ((a6 _).mpr trivial) (mk []) (E.list [.atom [102],w.dq]).sp ((a6 _).mpr trivial) (bK t1 (mz s (names env)).up w) (by omega) _ 0 [] (aP _) (by simp;omega)
      rw[aW,bz]at h3
      refine bY h3 ?_
      simp only[↓zq,zs,ae,a6,ae,toNat_one,bf,hP.1,hP.2.1,hP.2.2.2,hW.1,hW.2.1,hW.2.2,aM]
      repeat refine⟨by omega,?_⟩
      have i2:=zJ n m w (by omega) b _ t1 A' hv (by simp;omega) a.at (by rw[hnm];right;rw[fF];rfl)
      rw[hnm,rZ]at i2
      refine al i2 ?_
      simp only[↓zq,zs,ae]
      have hl2:=kQ t1 (.bd 0) w
      have ih3:∀h,h∈bK t1 (.bd 0) w->JD (.list [x,a,b]) s (.rc t1) (mz s (names env)) h.2:=fun h hh=>by
       have h3:=(jn hh).1
       have h4:=eY n m w (by omega) b _ t1 A' hv 0 _ rfl h hh
       exact zJ n m h.2 (by omega) (.list [x,a,b]) env (.rc t1) A h4 (by omega) s hs
      have h4:=Fv s (.list [x,a,b]) t1 (mz s (names env)) (bK t1 (.bd 0) w) (by omega) ih3 _ 0 (gP (fun c=>.f (.l c)) (bK t1 (mz s (names env)).up w)) (aP _) (by
       simp only[aW,an,ej]
       have hlen2:(bK t1 (mz s (names env)).up w).length+((bK t1 (.bd 0) w).flatMap (vF t1 (mz s (names env)))).length<=1+w.nodes:=hlen
       omega)
      rw[aW]at h4
      simp only[E.at]at h4
      refine bY h4 ?_
      simp[↓zq,zs,ae,bA]
    |_=>simp[er,hhd,hx]at hv
  ·cases e with
   |atom s0=>exact atomCase _ rfl (by cases v<;>rfl)
   |list l=>exact absurd hq (by rw[show (E.list l).at=[] from rfl,kW A.wf];simp)
end Go.Proofs.Trees
namespace Go.Proofs.Trees
open Go Go.VL Go.RowKit
def kids(a:Ty):Vl->List Hl
 | .f w=>bK a (.bd 0) w
 |_=>[]
theorem ng(a:Ty)(v:Vl):fg (kids a v)+1<=v.nodes:=by
 cases v with
 |f w=>have:=oN a (.bd 0) w;simp only[kids,Vl.nodes];omega
 |_=>simp only[kids,fg,Vl.nodes,List.map_nil,List.sum_nil];omega
theorem ju{a:Ty}{v:Vl}{h:Hl}(hh:h∈kids a v):h.2.nodes<v.nodes:=by
 cases v with
 |f w=>have:=(jn hh).1;simp only[Vl.nodes];omega
 |_=>cases hh
theorem rr{n:Nat}{a:Ty}{v:Vl}{h:Hl}(hv:v.lP n)(hh:h∈kids a v):h.1.lP n/\h.2.lP n:=by
 cases v with
 |f w=>exact fu n _ _ _ w h hv hh
 |_=>cases hh
abbrev Pt:=Vl×List Nat
def gy(pl:List Nat):List Hl->Nat->List Pt
 |[],_=>[]
 |h::l,i=>(h.2,pl++[i])::gy pl l (i+1)
theorem gL{pl:List Nat}{q:Pt}:∀{l:List Hl} {i:Nat},q∈gy pl l i->∃h,h∈l/\q.1=h.2
 |[],_,hq=>by cases hq
 |
  h::l,i,hq=>by
  rcases aF.1 hq with rfl|hq
  ·exact⟨h,af,rfl⟩
  ·obtain⟨k,h1,h2⟩:=gL hq
   exact⟨k,aj _ h1,h2⟩
theorem qd(pl:List Nat)(l:List Hl){i:Nat}(hi:i<l.length):gy pl (l.drop i) i=((l[i]).2,pl++[i])::gy pl (l.drop (i+1)) (i+1):=by
 rw[aJ hi,gy]
def fj:Nat->Ty->Pt->List Pt
 |0,_,_=>[]
 |n+1,a,p=>p::(gy p.2 (kids a p.1) 0).flatMap (fj n a)
theorem sg{f:Pt->List Pt}(hf:∀q,(f q).length<=q.1.nodes)(pl:List Nat):∀(l:List Hl) (i:Nat),((gy pl l i).flatMap f).length<=fg l
 |[],i=>by simp[gy]
 |
  h::l,i=>by
  have:=sg hf pl l (i+1)
  have:=hf (h.2,pl++[i])
  simp only[gy,cB,an,fg,bp,dh]at *;omega
theorem ii:∀(n:Nat) (a:Ty) (p:Pt),(fj n a p).length<=p.1.nodes
 |0,a,p=>Nat.zero_le _
 |
  n+1,a,p=>by
  have:=sg (f:=fj n a) (fun q=>ii n a q) p.2 (kids a p.1) 0
  have:=ng a p.1
  simp only[fj,aB];omega
def yy(f:List Pt->List Pt)(ps:List Pt):Prop:=∀out,(out.length+ps.length<=100->f out=out++ps)/\(100<out.length+ps.length->100<(f out).length)/\out.length<=(f out).length/\(f out).length<=out.length+ps.length
theorem mM{g:List Pt->Pt->List Pt}{ps:Pt->List Pt}:∀(qs:List Pt),(∀q,q∈qs->yy (fun o=>g o q) (ps q))->yy (fun o=>qs.foldl g o) (qs.flatMap ps)
 |[],_=>fun out=>by simp
 |
  q::qs,h=>fun out=>by
  have ih:=mM qs fun q hq=>h q (aj _ hq)
  obtain⟨a1,a2,a3,a4⟩:=h q af out
  obtain⟨b1,b2,b3,b4⟩:=ih (g out q)
  simp only[List.foldl_cons,cB,an]at *
  refine⟨fun hle=>?_,fun hlt=>?_,by omega,by omega⟩
  ·rw[a1 (by omega)]at b1 |-
   rw[b1 (by rw[an];omega),a7]
  ·by_cases hq:out.length+(ps q).length<=100
   ·rw[a1 hq]at b2 |-
    exact b2 (by rw[an];omega)
   ·have:=a2 (by omega);omega
def jZ:Nat->Ty->List Pt->Pt->List Pt
 |0,_,out,_=>out
 |n+1,a,out,p=>if 100<(out++[p]).length then out++[p]else(gy p.2 (kids a p.1) 0).foldl (jZ n a) (out++[p])
theorem oS:∀(n:Nat) (a:Ty) (p:Pt),p.1.nodes<=n->yy (fun o=>jZ n a o p) (fj n a p)
 |0,a,p,h=>by have:=cZ p.1;omega
 |
  n+1,a,p,h=>fun out=>by
  have hk:=mM (g:=jZ n a) (ps:=fj n a) (gy p.2 (kids a p.1) 0) fun q hq=>oS n a q (by
   obtain⟨k,h1,h2⟩:=gL hq
   have:=ju h1
   rw[h2];omega)
  obtain⟨b1,b2,b3,b4⟩:=hk (out++[p])
  simp only[jZ,fj,aB,an,aI]at *
  split
  ·refine⟨fun hle=>by omega,fun _=>by simp;omega,by simp,by simp⟩
  ·refine⟨fun hle=>?_,fun hlt=>b2 (by omega),by omega,by omega⟩
   rw[b1 (by omega),a7];rfl
def j5:Nat->Ty->List Pt->Pt->List Pt
 |0,_,out,_=>out
 |n+1,a,out,p=>(gy p.2 (kids a p.1) 0).foldl (fun o q=>if o.length<=100 then j5 n a o q else o) (out++[p])
theorem oW:∀(n:Nat) (a:Ty) (p:Pt),p.1.nodes<=n->yy (fun o=>j5 n a o p) (fj n a p)
 |0,a,p,h=>by have:=cZ p.1;omega
 |
  n+1,a,p,h=>fun out=>by
  have hk:=mM (g:=fun o q=>if o.length<=100 then j5 n a o q else o) (ps:=fj n a) (gy p.2 (kids a p.1) 0) fun q hq=>fun o=>by
   obtain⟨k,h1,h2⟩:=gL hq
   have:=ju h1
   have hw:=oW n a q (by rw[h2];omega) o
   have hpos:0<(fj n a q).length:=by
    cases n with
    |zero=>have:=cZ k.2;omega
    |succ n=>simp[fj]
   simp only at hw |-
   split
   ·exact hw
   ·exact⟨fun hle=>by omega,fun _=>by omega,au _,by omega⟩
  obtain⟨b1,b2,b3,b4⟩:=hk (out++[p])
  simp only[j5,fj,aB,an,aI]at *
  refine⟨fun hle=>?_,fun hlt=>b2 (by omega),by omega,by omega⟩
  rw[b1 (by omega),a7];rfl
def parts(a:Ty)(v:Vl):List Pt:=fj v.nodes a (v,[])
theorem sZ(a:Ty)(v:Vl):((parts a v).length<=100->jZ v.nodes a [] (v,[])=parts a v)/\(100<(parts a v).length->100<(jZ v.nodes a [] (v,[])).length)/\(jZ v.nodes a [] (v,[])).length<=v.nodes:=by
 obtain⟨h1,h2,_,h4⟩:=oS v.nodes a (v,[]) (au _) []
 have:=ii v.nodes a (v,[])
 simp only[aI,aP,bz]at h1 h2 h4 this
 exact⟨h1,h2,Nat.le_trans h4 this⟩
theorem sR(a:Ty)(v:Vl):((parts a v).length<=100->j5 v.nodes a [] (v,[])=parts a v)/\(100<(parts a v).length->100<(j5 v.nodes a [] (v,[])).length)/\(j5 v.nodes a [] (v,[])).length<=v.nodes:=by
 obtain⟨h1,h2,_,h4⟩:=oW v.nodes a (v,[]) (au _) []
 have:=ii v.nodes a (v,[])
 simp only[aI,aP,bz]at h1 h2 h4 this
 exact⟨h1,h2,Nat.le_trans h4 this⟩
end Go.Proofs.Trees
namespace Go.Proofs.Trees
open Go Go.VL Go.RowKit
def j8(s:List UInt8):Option Ty:=match wx s with
 |some (.rc a)=>some a
 |_=>none
def wA:Option Ty->AV
 |some a=>(Ty.rc a).av
 |none=>jO
theorem J2(s:List UInt8):ap Tryz.prog 29 [.v (.string (mk s))] [] (bA (wA (j8 s))):=by
 refine IC _ ?_
 unfold F0
 refine al (HO s) ?_
 cases h:wx s with
 |none=>simp[↓zq,zs,ae,gK,wA,j8,h,bA]
 |some t=>cases t<;>simp[↓zq,zs,ae,gK,wA,j8,h,bA,Ty.av]
def nL(s v:List UInt8):Option Vl:=match j8 s with
 |some _=>w9 s v 100
 |none=>none
def Cd(s:List UInt8):AV:=match j8 s with
 |some a=>(Ty.rc a).av
 |none=>jO
theorem uK{s:List UInt8}{a:Ty}(h:j8 s=some a):wx s=some (.rc a):=by
 unfold j8 at h
 split at h
 ·rename_i e;cases h;exact e
 ·cases h
theorem JL(s v:List UInt8):ap Tryz.prog 16 [.v (.string (mk s)),.v (.string (mk v))] [] (bA (.cV [Cd s,gY (nL s v)])):=by
 refine Ke _ _ ?_
 unfold Fk
 refine al (J2 s) ?_
 cases h:j8 s with
 |none=>simp[↓zq,zs,ae,wA,Cd,nL,h,bA,gY]
 |
  some a =>
  simp only[↓zq,zs,ae,wA,bb,eS]
  refine⟨fun h=>(by cases h),fun _=>?_⟩
  refine al (Iv s v 100) ?_
  rw[uK h]
  simp[↓zq,zs,ae,gK,gG,Cd,nL,h,bA,bb]
structure LV(s v:List UInt8)(w:Vl)(a:Ty)(x A B:E):Prop where
 l:j8 s=some a
 ce:jm s=some (.list [x,A,B])
 v:sC v=some w
 ask:Ask (.list [x,A,B]) [] (.rc a)
 hx:x.at=[114,101,99]
 Lv:cI A.at=true
 body:Ask B [.mk A.at (.list [x,A,B]) []] a
 er:er 100 w (.list [x,A,B],[])=true
theorem vq{e:E}{env:List Fr}{a:Ty}(A:Ask e env (.rc a)):∃x y z,e=.list [x,y,z]/\x.at=[114,101,99]/\cI y.at=true/\Ask z (.mk y.at (.list [x,y,z]) env::env) a:=by
 rcases fw A.ty rfl A.cl with⟨_,h⟩|⟨_,h⟩|⟨s,_,h,_⟩|⟨x,y,z,t1,t2,_,_,h,_⟩|⟨x,y,z,t1,t2,_,_,h,_⟩|⟨x,y,z,t1,rfl,hx,h⟩
 ·cases h
 ·cases h
 ·cases h
 ·cases h
 ·cases h
 ·cases h
  obtain⟨t1',he1,h1,f1,hw1⟩:=jp A.wf A.ok hx A.ty A.cl
  cases he1
  obtain⟨_,_,ok3,_⟩:=A.ok
  obtain⟨_,hla,_,_⟩:=db hx A.ty
  exact⟨x,y,z,rfl,hx,hla,ok3,hw1,h1,f1⟩
theorem mV{s v:List UInt8}{w:Vl}(h:nL s v=some w):∃a x A B,LV s v w a x A B:=by
 unfold nL at h
 split at h
 ·rename_i a hl
  obtain⟨e,t,m,h1,h2,h3,h4,h5,h6,h7⟩:=xJ h
  rw[uK hl]at h3
  cases h3
  obtain⟨x,A,B,rfl,hx,hA,hB⟩:=vq h4
  have:m=100:=by omega
  subst this
  exact⟨a,x,A,B,hl,h1,h2,h4,hx,hA,hB,h7⟩
 ·cases h
theorem LV.lP{s v:List UInt8}{w:Vl}{a:Ty}{x A B:E}(h:LV s v w a x A B):w.lP 100:=(qM h.v).2.1
theorem LV.nodes{s v:List UInt8}{w:Vl}{a:Ty}{x A B:E}(h:LV s v w a x A B):w.nodes<=200:=(qM h.v).2.2
theorem n8{n:Nat}{v:Vl}{x A B:E}{env:List Fr}(hw:WF env)(hx:x.at=[114,101,99])(h:er n v (.list [x,A,B],env)=true):∃w,v=.f w/\er n w (B,.mk A.at (.list [x,A,B]) env::env)=true:=by
 have hd:=qF (x:=x) (a:=A) (b:=B) hw
 cases v<;>simp[er,hd,hx]at h |-
 exact h
theorem sr{n:Nat}{v:Vl}{x A B:E}{env:List Fr}{a:Ty}(hA:Ask B (.mk A.at (.list [x,A,B]) env::env) a)(hw:WF env)(hx:x.at=[114,101,99])(h:er n v (.list [x,A,B],env)=true){k:Hl}(hk:k∈kids a v):er n k.2 (.list [x,A,B],env)=true:=by
 obtain⟨w,rfl,hv⟩:=n8 hw hx h
 exact eY n w.nodes w (au _) B _ a hA hv 0 _ rfl k hk
theorem Ks(n:Nat)(v:Vl)(x A B:E)(a:Ty)(hA:Ask B [.mk A.at (.list [x,A,B]) []] a)(hx:x.at=[114,101,99])(hv:er n v (.list [x,A,B],[])=true)(hl:v.nodes<90000):ap Tryz.prog 18 [(Ty.rc a).av,v.cu] [] (bA (.sl (fX (kids a v)))):=by
 obtain⟨w,rfl,hw⟩:=n8 .nil hx hv
 refine J8 _ _ ((bb _).mpr trivial) ((aU _).mpr trivial) ?_
 unfold DI
 refine aT (FI a jO [] .nil) (Dj.ne a jO []) ?_
 rintro r o ⟨⟨m,hm,rfl⟩,rfl⟩
 have he2:kh (.ptr [.pid m [(Ty.rc a).av,jO],jO]) [m]:=.cons hm .nil
 have hfr:LK.ptr.has (.pid m [(Ty.rc a).av,jO]):=.inr (.inr ⟨_,_,rfl⟩)
 simp only[Ty.av]at he2 hfr
 simp only[↓zq,zs,ae,bJ,bb,he2.has,hfr,Vl.cu,aU,Ty.av]
 repeat refine⟨by omega,?_⟩
 simp only[Vl.nodes]at hl
 have i2:=Ab n w.nodes w (au _) B _ a hA hw (by simp;omega) _ _ he2 (by simp) (.bd 0) [] _ (by have:=vG.bd (k:=0) (ids:=[m]) (by simp) [(Ty.rc a).av,jO] [];simpa only[a8,Ty.av]using this)
 unfold AR at i2
 refine al i2 ?_
 simp[↓zq,zs,ae,bA,kids]
def fp(l:List Nat):List (List AV):=l.map fun(k:Nat)=>[.v (.int .i64 (k:Int))]
theorem io(l:List Nat):(fp l).length=l.length:=by simp[fp]
theorem oG(l:List Nat)(k:Nat):fp l++[[.v (.int .i64 (k:Int))]]=fp (l++[k]):=by simp[fp]
theorem nt(l:List Nat):bU 1 (fp l):=fun c hc=>by
 obtain⟨k,_,rfl⟩:=bT.1 hc;rfl
def lF:List Nat->AV
 |[]=>.v (.slice none 0 0)
 |k::l=>.sl (fp (k::l))
theorem iW(l:List Nat):LK.has .sl (lF l)=True:=by cases l<;>simp[lF,bi,ca]
theorem ri(l:List Nat):(lF l).aO=fp l:=by cases l<;>rfl
theorem vo(l:List Nat)(k:Nat):lF (l++[k])=.sl (fp (l++[k])):=by cases l<;>rfl
def sH(l:List Pt):List (List AV):=l.map fun p=>[p.1.cu,lF p.2]
theorem kX(l:List Pt):(sH l).length=l.length:=by simp[sH]
theorem yi(out:List Pt)(p:Pt):sH out++[[p.1.cu,lF p.2]]=sH (out++[p]):=by simp[sH]
theorem qk(x:AV):bU 1 [[x]]:=fun c hc=>by simp at hc;rw[hc];rfl
def zN(a:Ty)(n:Nat)(q:Pt):Prop:=∀out:List Pt,out.length+q.1.nodes<=600->ap Tryz.prog 17 [.agg [q.1.cu,lF q.2],.ref 0 0,.ref 2 0,.gm 17 [some 0,some 2,none]] [.cells [.vec 1],.vec 2 (sH out),.cells [(Ty.rc a).av]] (cP .any [.cells [.vec 1],.vec 2 (sH (jZ n a out q)),.cells [(Ty.rc a).av]])
theorem HG(a:Ty)(n:Nat)(pl:List Nat)(hpl:pl.length<=1000)(v:Vl)(l:List Hl)(hl:l.length<=1000)(ih:∀q,q∈gy pl l 0->zN a n q)(hn:∀q,q∈gy pl l 0->q.1.nodes<=n)(hs:fg l<=200):∀(k i:Nat) (out:List Pt),i+k=l.length->out.length+fg (l.drop i)<=600->(∀q,q∈gy pl (l.drop i) i->q∈gy pl l 0) ->
 Bz [.sl (fX l),.v (.int .i64 (l.length:Int)),.v (.int .i64 (i:Int))] [.cells [v.cu,lF pl],.cells [.any],.vec 2 (sH out),.cells [(Ty.rc a).av]] (fI 1 [] [.cells [.any],.vec 2 (sH ((gy pl (l.drop i) i).foldl (jZ n a) out)),.cells [(Ty.rc a).av]])
 |
  0,i,out,hi,ho,hm=>by
  refine Eo _ _ _ _ _ _ _ ?_
  have:i=l.length:=by omega
  subst this
  simp only[B4,↓zq,zs,ae,df,bb,aU,iW]
  exact⟨fun h=>by omega,fun _=>by simp[fI,gy]⟩
 |
  k+1,i,out,hi,ho,hm=>by
  have hlt:i<l.length:=by omega
  have hd:=qd pl l hlt
  rw[hd]at hm |-
  have hq:=hm _ af
  have hsum:fg (l.drop i)=(l[i]).2.nodes+fg (l.drop (i+1)):=by rw[aJ hlt];rfl
  have hw:=(oS n a ((l[i]).2,pl++[i]) (hn _ hq) out).2.2.2
  have hp:=ii n a ((l[i]).2,pl++[i])
  simp only at hw hp
  refine Eo _ _ _ _ _ _ _ ?_
  simp only[B4,↓zq,zs,ae,zt,df,jQ hlt,aU,bJ,bb,iW,ri,bz,io,oG]
  refine⟨fun _=>?_,fun h=>by omega⟩
  repeat refine⟨by omega,?_⟩
  refine⟨⟨nt _,by omega⟩,⟨qk _,by omega⟩,?_⟩
  have hcall:=ih _ hq out (by show out.length+(l[i]).2.nodes<=600;omega)
  rw[vo]at hcall
  refine bx hcall ?_
  simp only[↓zq,zs,ae,aN,bb]
  rw[bk i (by omega),List.foldl_cons]
  exact HG a n pl hpl v l hl ih hn hs k (i+1) _ (by omega) (by omega) (fun q hq=>hm q (aj _ hq))
theorem qa(l:List Hl):fg (l.drop 0)=fg l:=by rw[aW]
theorem Dz(c:Nat)(x A B:E)(a:Ty)(hA:Ask B [.mk A.at (.list [x,A,B]) []] a)(hx:x.at=[114,101,99]):∀(n:Nat) (q:Pt),q.1.nodes<=n->n<=200->q.2.length+n<=200->er c q.1 (.list [x,A,B],[])=true->zN a n q
 |0,q,h,_,_,_=>by have:=cZ q.1;omega
 |
  n+1,q,h,hn,hpl,hv=>by
  intro out ho
  have hk:=ng a q.1
  have hkl:=mB (kids a q.1)
  refine JY _ _ _ _ ((aU _).mpr trivial) ((iW _).mpr trivial) ((bb _).mpr trivial) ?_
  simp only[EE,↓zq,zs,ae,kX,yi]
  have ol:(out++[q]).length=out.length+1:=by simp
  refine⟨⟨vr _ _,by omega⟩,fun hgt=>?_,fun hle=>?_⟩
  ·have hg:100<(out++[q]).length:=by omega
   rw[jZ,if_pos hg];simp[cP]
  ·have hg:¬100<(out++[q]).length:=by omega
   refine al (Ks c q.1 x A B a hA hx hv (by omega)) ?_
   simp only[↓zq,zs,ae,df]
   have hl:=HG a n q.2 (by omega) q.1 (kids a q.1) (by omega) (fun r hr=>by
    obtain⟨k,h1,h2⟩:=gL hr
    have:=ju h1
    have hlen:r.2.length=q.2.length+1:=by
     have:∀(l:List Hl) (i:Nat),r∈gy q.2 l i->r.2.length=q.2.length+1:=by
      intro l
      induction l with
      |nil=>intro i hh;cases hh
      |
       cons k l ih =>
       intro i hh
       rcases aF.1 hh with rfl|hh
       ·simp
       ·exact ih _ hh
     exact this _ _ hr
    exact Dz c x A B a hA hx n r (by rw[h2];omega) (by omega) (by omega) (by rw[h2];exact sr hA .nil hx hv h1)) (fun r hr=>by
    obtain⟨k,h1,h2⟩:=gL hr
    have:=ju h1
    rw[h2];omega) (by omega) (kids a q.1).length 0 (out++[q]) (by omega) (by rw[qa,ol];omega) (fun r hr=>hr)
   rw[aW]at hl
   refine bY hl ?_
   rw[jZ,if_neg hg];simp[↓zq,zs,ae,ae,bb,cP]
end Go.Proofs.Trees
namespace Go.Proofs.Trees
open Go Go.VL Go.RowKit
def dp(s v:List UInt8):Option (List Pt):=match j8 s,nL s v with
 |some a,some w=>if(parts a w).length<=100 then some (parts a w)else none
 |_,_=>none
theorem oJ:∀(n:Nat) (a:Ty) (p q:Pt),q∈fj n a p->q.1.nodes<=p.1.nodes/\(∀m,p.1.lP m->q.1.lP m)
 |0,a,p,q,h=>by cases h
 |
  n+1,a,p,q,h=>by
  rcases aF.1 h with rfl|h
  ·exact⟨au _,fun m h=>h⟩
  ·obtain⟨r,h1,h2⟩:=List.mem_flatMap.1 h
   obtain⟨k,h3,h4⟩:=gL h1
   obtain⟨q1,q2⟩:=oJ n a r q h2
   have:=ju h3
   rw[h4]at q1 q2
   exact⟨by omega,fun m hm=>q2 m (rr hm h3).2⟩
theorem jE{s v:List UInt8}{l:List Pt}(h:dp s v=some l):l.length<=100/\∀q,q∈l->q.1.nodes<=200/\q.1.lP 100/\q.1.pr.length<=40000:=by
 unfold dp at h
 split at h
 ·rename_i a w ha hw
  obtain⟨a',x,A,B,L⟩:=mV hw
  split at h
  ·rename_i hl
   cases h
   refine⟨hl,fun q hq=>?_⟩
   obtain⟨h1,h2⟩:=oJ _ _ _ _ hq
   have hb:=h2 100 L.lP
   have hn:=L.nodes
   have:=jL q.1 hb
   simp only at h1
   exact⟨by omega,hb,by omega⟩
  ·cases h
 ·cases h
def zO(f:List Pt->List (List AV))(s v:List UInt8):AV->List Ob->Prop:=fun r o=>o=[]/\∃x,LK.sl.has x/\r=.cV [x,.v (.bool (dp s v).isSome)]/\∀l,dp s v=some l->x=.sl (f l)
theorem zO.ne(f:List Pt->List (List AV))(s v:List UInt8):∃r o,zO f s v r o:=by
 cases h:dp s v with
 |none=>exact⟨_,_,rfl,.sl [],(ca _).mpr trivial,rfl,fun l hl=>by rw[h]at hl;cases hl⟩
 |some l=>exact⟨_,_,rfl,.sl (f l),(ca _).mpr trivial,rfl,fun l' hl=>by rw[h]at hl;cases hl;rfl⟩
theorem H7(s v:List UInt8):ap Tryz.prog 10 [.v (.string (mk s)),.v (.string (mk v))] [] (zO sH s v):=by
 refine IT _ _ ?_
 unfold Ds
 refine al (JL s v) ?_
 have hT:LK.has .ptr (Cd s)=True:=by unfold Cd;cases j8 s<;>simp[bb,jK]
 cases h:nL s v with
 |
  none =>
  have hn:dp s v=none:=by unfold dp;rw[h];cases j8 s<;>rfl
  simp only[↓zq,zs,ae,gY,hT]
  exact⟨fun _=>⟨rfl,.v (.slice none 0 0),(bi).mpr trivial,by simp[hn],fun l hl=>by rw[hn]at hl;cases hl⟩,fun h=>(by cases h)⟩
 |
  some w =>
  obtain⟨a,x,A,B,L⟩:=mV h
  have hnd:=L.nodes
  have hTa:Cd s=(Ty.rc a).av:=by unfold Cd;rw[L.l]
  obtain⟨p1,p2,p3⟩:=sZ a w
  have htell:=Dz 100 x A B a L.body L.hx w.nodes (w,[]) (au _) hnd (by simp;omega) L.er [] (by simp;omega)
  simp only[↓zq,zs,ae,gY,hTa,bb,aU,fT]
  refine⟨fun h=>(by cases h),fun _=>?_⟩
  refine bx htell ?_
  simp only[↓zq,zs,ae,aN,bb,kX]
  refine⟨rfl,.sl (sH (jZ w.nodes a [] (w,[]))),(ca _).mpr trivial,?_,fun l hl=>?_⟩
  ·congr 4
   have:dp s v=if(parts a w).length<=100 then some (parts a w)else none:=by unfold dp;rw[L.l,h]
   rw[this]
   by_cases hc:(parts a w).length<=100
   ·rw[if_pos hc,p1 hc];simp;omega
   ·rw[if_neg hc];have:=p2 (by omega);simp;omega
  ·unfold dp at hl
   rw[L.l,h]at hl
   simp only at hl
   split at hl
   ·rename_i hc
    cases hl
    rw[p1 hc]
   ·cases hl
def deep:List Pt->Nat->Nat
 |[],d=>d
 |p::l,d=>deep l (if p.2.length>d then p.2.length else d)
def pk(s v:List UInt8):Int:=match dp s v with
 |some l=>(deep l 0:Nat)
 |none=>-1
theorem tK{l:List Pt}{i:Nat}(hi:i<l.length):(sH l).getD i []=[(l[i]).1.cu,lF (l[i]).2]:=by simp[sH,aa,hi]
theorem HA(l:List Pt)(hl:l.length<=1000):∀(k i d:Nat),i+k=l.length->Bm [.v (.int .i64 (d:Int)),.sl (sH l),.v (.int .i64 (l.length:Int)),.v (.int .i64 (i:Int))] [] (fI 1 [.v (.int .i64 (deep (l.drop i) d:Nat))] [])
 |
  0,i,d,hi=>by
  refine H9 _ _ _ _ ?_
  have:i=l.length:=by omega
  subst this
  simp only[BC,↓zq,zs,ae]
  exact⟨fun h=>by omega,fun _=>by simp[fI,deep]⟩
 |
  k+1,i,d,hi=>by
  have hlt:i<l.length:=by omega
  refine H9 _ _ _ _ ?_
  simp only[BC,↓zq,zs,ae,zt,kX,tK hlt,aU,iW,ri,io,bJ]
  refine⟨fun _=>?_,fun h=>by omega⟩
  repeat refine⟨by omega,?_⟩
  rw[bk i (by omega),aJ hlt,deep]
  have:=HA l hl k (i+1) (if(l[i]).2.length>d then(l[i]).2.length else d) (by omega)
  have e:(if((l[i]).2.length:Int)>(d:Int)then((l[i]).2.length:Int)else(d:Int))=((if(l[i]).2.length>d then(l[i]).2.length else d:Nat):Int):=by split<;>split<;>omega
  rw[e];exact this
theorem Jy(s v:List UInt8):ap Tryz.prog 5 [.v (.string (mk s)),.v (.string (mk v))] [] (bA (.v (.int .i64 (pk s v)))):=by
 refine IL _ _ ?_
 unfold H8
 refine aT (H7 s v) (zO.ne _ s v) ?_
 rintro r o ⟨rfl,x,hx,rfl,hl⟩
 cases h:dp s v with
 |none=>simp[↓zq,zs,ae,hx,pk,h,bA]
 |
  some l =>
  rw[hl l h]
  have:=(jE h).1
  simp only[↓zq,zs,ae,Option.isSome_some,kX]
  refine⟨fun h=>(by cases h),fun _=>?_⟩
  refine bY (HA l (by omega) l.length 0 0 (by omega)) ?_
  simp[↓zq,zs,ae,pk,h,bA]
def xS(f:List Pt->List (List AV))(e:AV):Option (List Pt)->AV
 |some l=>.cV [.sl (f l),.v (.bool true)]
 |none=>.cV [e,.v (.bool false)]
def ew(f:List Nat->AV)(l:List Pt):List (List AV):=l.map fun p=>[f p.2]
theorem jD(f:List Nat->AV)(l:List Pt):(ew f l).length=l.length:=by simp[ew]
theorem qm(f:List Nat->AV)(out:List Pt)(p:Pt):ew f out++[[f p.2]]=ew f (out++[p]):=by simp[ew]
theorem H3(l:List Pt)(hl:l.length<=1000):∀(k i:Nat) (out:List Pt),i+k=l.length->out.length+k<=1000 ->
 CD [.sl (sH l),.v (.int .i64 (l.length:Int)),.v (.int .i64 (i:Int))] [.vec 1 (ew lF out)] (fI 1 [] [.vec 1 (ew lF (out++l.drop i))])
 |
  0,i,out,hi,ho=>by
  refine HU _ _ _ _ ?_
  have:i=l.length:=by omega
  subst this
  simp only[B0,↓zq,zs,ae]
  exact⟨fun h=>by omega,fun _=>by simp[fI]⟩
 |
  k+1,i,out,hi,ho=>by
  have hlt:i<l.length:=by omega
  refine HU _ _ _ _ ?_
  simp only[B0,↓zq,zs,ae,zt,kX,tK hlt,aU,iW,bJ,jD,qm]
  refine⟨fun _=>?_,fun h=>by omega⟩
  repeat refine⟨by omega,?_⟩
  refine⟨⟨qk _,by omega⟩,?_⟩
  have:=H3 l hl k (i+1) (out++[l[i]]) (by omega) (by simp;omega)
  rw[bk i (by omega),aJ hlt]
  rw[a7]at this
  exact this
theorem Kf(s v:List UInt8):ap Tryz.prog 7 [.v (.string (mk s)),.v (.string (mk v))] [] (bA (xS (ew lF) (.v (.slice none 0 0)) (dp s v))):=by
 refine IU _ _ ?_
 unfold Gd
 refine aT (H7 s v) (zO.ne _ s v) ?_
 rintro r o ⟨rfl,x,hx,rfl,hl⟩
 cases h:dp s v with
 |none=>simp[↓zq,zs,ae,hx,xS,h,bA]
 |
  some l =>
  rw[hl l h]
  obtain⟨h1,h2⟩:=jE h
  simp only[↓zq,zs,ae,Option.isSome_some,kX]
  refine⟨fun h=>(by cases h),fun _=>?_⟩
  have:=H3 l (by omega) l.length 0 [] (by omega) (by simp;omega)
  rw[aW,bz]at this
  refine bY this ?_
  simp[↓zq,zs,ae,xS,bA]
end Go.Proofs.Trees
namespace Go.Proofs.Trees
open Go Go.VL Go.RowKit
def kf:E->Option E
 | .list [x,a,b]=>if x.at=[114,101,99]then some (.list [x,a,b])else none
 |_=>none
def nJ(s:List UInt8):Option E:=match jm s with
 |some e=>kf e
 |none=>none
theorem Jv(s:List UInt8):ap Tryz.prog 19 [.v (.string (mk s))] [] (kz (nJ s) (nJ s).isSome):=by
 refine I2 _ ?_
 unfold GV
 refine aT (A0 s) (kz.ne _ _ (fun h=>h)) ?_
 rintro r o ⟨c,d,hd,rfl,hh⟩
 have hhas:bJ [.str,.sl] [.v (.string (mk c)),d] 0:=by simp[bJ,dV,hd]
 simp only[↓zq,zs,ae,zt]
 refine⟨hhas,fun h=>?_,fun h=>?_⟩
 ·obtain⟨e,he,hce⟩:=hh h
  obtain⟨t,h1,hA,h3,h4,h5,_⟩:=hZ he
  have hce':=hce
  rw[dz]at hce'
  simp only[AV.agg.injEq,List.cons.injEq,AV.v.injEq,Value.string.injEq,and_true]at hce'
  obtain⟨hc1,rfl⟩:=hce'
  have hc2:=s5 hc1
  subst hc2
  have head:∀w:List UInt8,ap Tryz.prog 33 [.agg [.v (.string (mk e.at)),e.sp]] [] (bA (.v (.string (mk w))))->(w=[114,101,99]↔(kf e).isSome=true)->((kf e).isSome=true->kf e=some e) ->
   dM Tryz.prog 18 (Tree.call 33 [.agg [.v (.string (mk e.at)),e.sp]] [] fun r2 o2=>Tree.ak (LK.str.has r2) (Tree.done 0 [.cV [.agg [.v (.string (mk e.at)),e.sp],.v (.bool (ac r2.ai==[114,101,99]))]] [])) fun _ xs obs=>kz (nJ s) (nJ s).isSome (xs.headD .any) obs:=by
   intro w hw h1 h2
   refine al hw ?_
   simp only[↓zq,zs,ae,zt]
   refine⟨e.at,e.sp,hd,?_,fun hs=>⟨e,?_,(dz e).symm⟩⟩
   ·congr 3
    simp only[nJ,he,AV.v.injEq,Value.bool.injEq,List.cons.injEq,and_true]
    rw[bV];simpa using h1
   ·simp only[nJ,he]at hs |-;exact h2 hs
  have hl:∀x l,e=.list (x::l)->ap Tryz.prog 33 [.agg [.v (.string (mk e.at)),e.sp]] [] (bA (.v (.string (mk x.at)))):=by
   rintro x l rfl;exact sV x l
  have ha:∀s0,e=.atom s0->ap Tryz.prog 33 [.agg [.v (.string (mk e.at)),e.sp]] [] (bA (.v (.string (mk [])))):=by
   rintro s0 rfl;exact vS s0 _ ((bi).mpr trivial) hA.ok
  rcases gI hA.wf hA.ty with⟨hb,_⟩|⟨u,g,rfl,_,hg⟩
  ·rcases fw hA.ty hb hA.cl with⟨rfl,rfl⟩|⟨rfl,rfl⟩|⟨s0,rfl,rfl,hp,h0,h1⟩|⟨x,a,b,t1,t2,rfl,hx,rfl,ha',hbb⟩|⟨x,a,b,t1,t2,rfl,hx,rfl,ha',hbb⟩|⟨x,a,b,t1,rfl,hx,rfl⟩
   ·exact head _ (ha _ rfl) (by simp[kf]) (by simp[kf])
   ·exact head _ (ha _ rfl) (by simp[kf]) (by simp[kf])
   ·exact head _ (ha _ rfl) (by simp[kf]) (by simp[kf])
   ·exact head _ (hl _ _ rfl) (by simp[kf,hx]) (by simp[kf,hx])
   ·exact head _ (hl _ _ rfl) (by simp[kf,hx]) (by simp[kf,hx])
   ·exact head _ (hl _ _ rfl) (by simp[kf,hx]) (by simp[kf,hx])
  ·simp at hg
 ·have hn:jm s=none:=by cases hq:jm s<;>simp[hq]at h |-
  refine⟨c,d,hd,?_,fun h=>?_⟩
  ·simp[nJ,hn]
  ·simp[nJ,hn]at h
theorem rR(s:List UInt8):(nJ s).isSome=(j8 s).isSome:=by
 unfold nJ j8
 cases h:jm s with
 |none=>rw[pV h];rfl
 |
  some e =>
  obtain⟨t,h1,hA,h3,h4,h5,_⟩:=hZ h
  rw[h1]
  simp only
  rcases gI hA.wf hA.ty with⟨hb,_⟩|⟨u,g,rfl,_,hg⟩
  ·rcases fw hA.ty hb hA.cl with⟨rfl,rfl⟩|⟨rfl,rfl⟩|⟨s0,rfl,rfl,hp,h0,h1⟩|⟨x,a,b,t1,t2,rfl,hx,rfl,ha',hbb⟩|⟨x,a,b,t1,t2,rfl,hx,rfl,ha',hbb⟩|⟨x,a,b,t1,rfl,hx,rfl⟩<;>simp_all[kf]
  ·simp at hg
theorem LV.le{s v:List UInt8}{w:Vl}{a:Ty}{x A B:E}(h:LV s v w a x A B):nJ s=some (.list [x,A,B]):=by
 unfold nJ;rw[h.ce];simp[kf,h.hx]
theorem Io(n:Nat)(v:Vl)(x A B:E)(a:Ty)(hA:Ask B [.mk A.at (.list [x,A,B]) []] a)(hx:x.at=[114,101,99])(w:Vl)(hw:v=.f w)(hv:er n v (.list [x,A,B],[])=true)(hl:v.nodes<90000) :
 ap Tryz.prog 39 [.agg [.v (.string (mk B.at)),B.sp],.v (.string (mk A.at)),.agg [.v (.string (mk w.dq.at)),w.dq.sp]] [] (bA (.sl (ka (kids a v)))):=by
 subst hw
 obtain⟨w',e,hw'⟩:=n8 .nil hx hv
 cases e
 simp only[Vl.nodes]at hl
 have hnm:names [Fr.mk A.at (.list [x,A,B]) []]=[]++[A.at]:=rfl
 have h:=zJ n w.nodes w (au _) B _ a hA hw' (by simp;omega) A.at (by rw[hnm];right;rw[fF];rfl)
 rw[hnm,rZ]at h
 exact h
end Go.Proofs.Trees
namespace Go.Proofs.Trees
open Go Go.VL Go.RowKit
def kt(l:List Pt):List (List AV):=l.map fun p=>[.sl (fp p.2),.v (.string (mk p.1.pr)),.v (.string (mk []))]
theorem jd(l:List Pt):(kt l).length=l.length:=by simp[kt]
theorem wa{l:List Pt}{i:Nat}(hi:i<l.length):(kt l).getD i []=[.sl (fp (l[i]).2),.v (.string (mk (l[i]).1.pr)),.v (.string (mk []))]:=by simp[kt,aa,hi]
theorem vJ(out:List Pt)(p:Pt):kt out++[[.sl (fp p.2),.v (.string (mk p.1.pr)),.v (.string (mk []))]]=kt (out++[p]):=by simp[kt]
theorem ID(a b c:AV):bU 3 [[a,b,c]]:=fun x hx=>by simp at hx;rw[hx];rfl
def zI(x A B:E)(a:Ty)(n:Nat)(q:Pt):Prop:=∀out:List Pt,out.length+q.1.nodes<=600->ap Tryz.prog 22 [.agg [.v (.string (mk [])),(E.list [x,A,B]).sp],.agg [.v (.string (mk q.1.dq.at)),q.1.dq.sp],.sl (fp q.2),.vec 0] [.vec 3 (kt out)] (cP (.vec 1) [.dead,.vec 3 (kt (j5 n a out q))])
abbrev uP(n:Nat)(a:Ty):List Pt->Pt->List Pt:=fun o q=>if o.length<=100 then j5 n a o q else o
theorem oD(n:Nat)(a:Ty):∀(l:List Pt) (o:List Pt),100<o.length->l.foldl (uP n a) o=o
 |[],_,_=>rfl
 |q::l,o,h=>by rw[List.foldl_cons,uP,if_neg (by omega)];exact oD n a l o h
theorem Hu(x A B:E)(a:Ty)(n:Nat)(pl:List Nat)(hpl:pl.length<=1000)(l:List Hl)(hl:l.length<=1000)(ih:∀q,q∈gy pl l 0->zI x A B a n q)(hn:∀q,q∈gy pl l 0->q.1.nodes<=n):∀(k i:Nat) (out:List Pt),i+k=l.length->out.length+fg (l.drop i)<=600->(∀q,q∈gy pl (l.drop i) i->q∈gy pl l 0) ->
 AA [.sl (fp pl),.sl (ka l),.v (.int .i64 (i:Int))] [.cells [.v (.string (mk [])),(E.list [x,A,B]).sp],.vec 3 (kt out)] (fI 1 [] [.vec 3 (kt ((gy pl (l.drop i) i).foldl (uP n a) out))])
 |
  0,i,out,hi,ho,hm=>by
  refine Fh _ _ _ _ _ _ ?_
  have:i=l.length:=by omega
  subst this
  simp only[BG,↓zq,zs,ae,dT,a6]
  exact⟨fun h=>by omega,fun _=>by simp[fI,gy]⟩
 |
  k+1,i,out,hi,ho,hm=>by
  have hlt:i<l.length:=by omega
  have hd:=qd pl l hlt
  rw[hd]at hm |-
  have hq:=hm _ af
  have hsum:fg (l.drop i)=(l[i]).2.nodes+fg (l.drop (i+1)):=by rw[aJ hlt];rfl
  have hw:=(oW n a ((l[i]).2,pl++[i]) (hn _ hq) out).2.2.2
  have hp:=ii n a ((l[i]).2,pl++[i])
  simp only at hw hp
  refine Fh _ _ _ _ _ _ ?_
  simp only[BG,↓zq,zs,ae,zt,dT,ff hlt,aM,a6,bz,io,oG,jd]
  refine⟨fun _=>⟨fun hle=>?_,fun hgt=>?_⟩,fun h=>by omega⟩
  ·repeat refine⟨by omega,?_⟩
   refine⟨⟨nt _,by omega⟩,⟨qk _,by omega⟩,?_⟩
   have hcall:=ih _ hq out (by show out.length+(l[i]).2.nodes<=600;omega)
   refine bx hcall ?_
   simp only[↓zq,zs,ae]
   rw[bk i (by omega),List.foldl_cons,show uP n a out ((l[i]).2,pl++[i])=j5 n a out ((l[i]).2,pl++[i]) from if_pos (by omega)]
   exact Hu x A B a n pl hpl l hl ih hn k (i+1) _ (by omega) (by omega) (fun q hq=>hm q (aj _ hq))
  ·rw[oD n a _ _ (by omega)]
   simp[fI]
theorem Gz(c:Nat)(x A B:E)(a:Ty)(hA:Ask B [.mk A.at (.list [x,A,B]) []] a)(hx:x.at=[114,101,99]):∀(n:Nat) (q:Pt),q.1.nodes<=n->n<=200->q.2.length+n<=200->q.1.lP 100->er c q.1 (.list [x,A,B],[])=true->zI x A B a n q
 |0,q,h,_,_,_,_=>by have:=cZ q.1;omega
 |
  n+1,q,h,hn,hpl,hb,hv=>by
  intro out ho
  have hk:=ng a q.1
  have hkl:=mB (kids a q.1)
  have htx:=jL q.1 hb
  obtain⟨w,hqw,hw⟩:=n8 .nil hx hv
  have hP:=P3.of x A B
  have hW:=P2.of (.atom [102]) w.dq
  have hqe:q.1.dq=.list [.atom [102],w.dq]:=by rw[hqw];rfl
  have htext:=I6 q.1.dq (nh _) (by show q.1.pr.length<=900000;omega)
  rw[dz]at htext
  refine Jl _ _ _ _ _ _ ((a6 _).mpr trivial) ((a6 _).mpr trivial) ((ca _).mpr trivial) ?_
  unfold F9
  refine al htext ?_
  have ol:(out++[q]).length=out.length+1:=by simp
  rw[hqe]
  simp only[↓zq,zs,ae,zt,jd,toNat_one,bf,hP.1,hP.2.1,hP.2.2.1,hP.2.2.2,hW.1,hW.2.1,hW.2.2,aM]
  refine⟨⟨ID _ _ _,by omega⟩,?_⟩
  repeat refine⟨by omega,?_⟩
  refine al (Io c q.1 x A B a hA hx w hqw hv (by omega)) ?_
  simp only[↓zq,zs,ae]
  have hl:=Hu x A B a n q.2 (by omega) (kids a q.1) (by omega) (fun r hr=>by
   obtain⟨k,h1,h2⟩:=gL hr
   have:=ju h1
   have hlen:r.2.length=q.2.length+1:=by
    have:∀(l:List Hl) (i:Nat),r∈gy q.2 l i->r.2.length=q.2.length+1:=by
     intro l
     induction l with
     |nil=>intro i hh;cases hh
     |
      cons k l ih =>
      intro i hh
      rcases aF.1 hh with rfl|hh
      ·simp
      ·exact ih _ hh
    exact this _ _ hr
   exact Gz c x A B a hA hx n r (by rw[h2];omega) (by omega) (by omega) (by rw[h2];exact(rr hb h1).2) (by rw[h2];exact sr hA .nil hx hv h1)) (fun r hr=>by
   obtain⟨k,h1,h2⟩:=gL hr
   have:=ju h1
   rw[h2];omega) (kids a q.1).length 0 (out++[q]) (by omega) (by rw[qa,ol];omega) (fun r hr=>hr)
  rw[aW]at hl
  rw[show kt out++[[.sl (fp q.2),.v (.string (mk (kB (.list [.atom [102],w.dq])))),.v (.string (mk []))]]=kt (out++[q]) by rw[<-hqe];exact vJ out q]
  refine bY hl ?_
  rw[j5];simp[↓zq,zs,ae,cP]
theorem JV(s v:List UInt8):ap Tryz.prog 11 [.v (.string (mk s)),.v (.string (mk v))] [] (zO kt s v):=by
 refine Ka _ _ ?_
 unfold EP
 refine aT (Jv s) (kz.ne _ _ (fun h=>h)) ?_
 rintro r o ⟨c,d,hd,rfl,hh⟩
 have hhas:bJ [.str,.sl] [.v (.string (mk c)),d] 0:=by simp[bJ,dV,hd]
 simp only[↓zq,zs,ae,zt]
 refine⟨hhas,?_⟩
 refine aT (Fc v) (kz.ne _ _ (fun h=>by cases hq:sC v<;>simp[hq]at h |-)) ?_
 rintro r o ⟨c',d',hd',rfl,hh'⟩
 have hhas':bJ [.str,.sl] [.v (.string (mk c')),d'] 0:=by simp[bJ,dV,hd']
 simp only[↓zq,zs,ae,zt]
 have none1:dp s v=none->zO kt s v (.cV [.sl [],.v (.bool false)]) []:=fun hn=>⟨rfl,.sl [],(ca _).mpr trivial,by rw[hn];rfl,fun l hl=>by rw[hn]at hl;cases hl⟩
 refine⟨hhas',fun h=>none1 ?_,fun h=>?_⟩
 ·rw[rR]at h
  have:j8 s=none:=by cases hq:j8 s<;>simp[hq]at h |-
  unfold dp;rw[this]
 ·refine al (I0 s v 100) ?_
  simp only[↓zq,zs,ae]
  refine⟨fun h2=>none1 ?_,fun h2=>?_⟩
  ·have:w9 s v 100=none:=by cases hq:w9 s v 100<;>simp[hq]at h2 |-
   have:nL s v=none:=by unfold nL;rw[this];cases j8 s<;>rfl
   unfold dp;rw[this];cases j8 s<;>rfl
  ·obtain⟨w,hw⟩:=bI.1 h2
   rw[rR]at h
   obtain⟨a0,ha0⟩:=bI.1 h
   have hlv:nL s v=some w:=by unfold nL;rw[ha0];exact hw
   obtain⟨a,x,A,B,L⟩:=mV hlv
   obtain⟨e,he,hce⟩:=hh (by rw[L.le];rfl)
   rw[L.le]at he;cases he
   obtain⟨e2,he2,hce2⟩:=hh' (by rw[L.v];rfl)
   rw[L.v]at he2;cases he2
   rw[hce,hce2,dz,dz]
   have hnd:=L.nodes
   obtain⟨p1,p2,p3⟩:=sR a w
   have hs:=Gz 100 x A B a L.body L.hx w.nodes (w,[]) (au _) hnd (by simp;omega) L.lP L.er [] (by simp;omega)
   refine bx hs ?_
   simp only[↓zq,zs,ae,jd]
   refine⟨rfl,.sl (kt (j5 w.nodes a [] (w,[]))),(ca _).mpr trivial,?_,fun l hl=>?_⟩
   ·congr 4
    have:dp s v=if(parts a w).length<=100 then some (parts a w)else none:=by unfold dp;rw[L.l,hlv]
    rw[this]
    by_cases hc:(parts a w).length<=100
    ·rw[if_pos hc,p1 hc];simp;omega
    ·rw[if_neg hc];have:=p2 (by omega);simp;omega
   ·unfold dp at hl
    rw[L.l,hlv]at hl
    simp only at hl
    split at hl
    ·rename_i hc
     cases hl
     rw[p1 hc]
    ·cases hl
end Go.Proofs.Trees
namespace Go.Proofs.Trees
open Go Go.VL Go.RowKit
theorem HZ(l:List Pt)(hl:l.length<=1000):∀(k i d:Nat),i+k=l.length->CZ [.sl (kt l),.v (.int .i64 (d:Int)),.v (.int .i64 (i:Int))] [] (fI 1 [.v (.int .i64 (deep (l.drop i) d:Nat))] [])
 |
  0,i,d,hi=>by
  refine Ee _ _ _ ?_
  have:i=l.length:=by omega
  subst this
  simp only[BZ,↓zq,zs,ae,jd]
  exact⟨fun h=>by omega,fun _=>by simp[fI,deep]⟩
 |
  k+1,i,d,hi=>by
  have hlt:i<l.length:=by omega
  refine Ee _ _ _ ?_
  simp only[BZ,↓zq,zs,ae,zt,jd,wa hlt,io]
  refine⟨fun _=>?_,fun h=>by omega⟩
  repeat refine⟨by omega,?_⟩
  rw[bk i (by omega),aJ hlt,deep]
  have:=HZ l hl k (i+1) (if(l[i]).2.length>d then(l[i]).2.length else d) (by omega)
  have e:(if((l[i]).2.length:Int)>(d:Int)then((l[i]).2.length:Int)else(d:Int))=((if(l[i]).2.length>d then(l[i]).2.length else d:Nat):Int):=by split<;>split<;>omega
  rw[e];exact this
theorem Iq(s v:List UInt8):ap Tryz.prog 6 [.v (.string (mk s)),.v (.string (mk v))] [] (bA (.v (.int .i64 (pk s v)))):=by
 refine KW _ _ ?_
 unfold Ie
 refine aT (JV s v) (zO.ne _ s v) ?_
 rintro r o ⟨rfl,x,hx,rfl,hl⟩
 cases h:dp s v with
 |none=>simp[↓zq,zs,ae,hx,pk,h,bA]
 |
  some l =>
  rw[hl l h]
  have:=(jE h).1
  simp only[↓zq,zs,ae,Option.isSome_some,jd]
  refine⟨fun h=>(by cases h),fun _=>?_⟩
  refine bY (HZ l (by omega) l.length 0 0 (by omega)) ?_
  simp[↓zq,zs,ae,pk,h,bA]
end Go.Proofs.Trees
namespace Go.Proofs.Trees
open Go Go.VL Go.RowKit
abbrev Nm:=List UInt8
def pN(u:Ty):Ty->Nat->Ty
 | .cX k,i=>if k=i then u else .cX k
 | .plus a b,i=>.plus (pN u a i) (pN u b i)
 | .times a b,i=>.times (pN u a i) (pN u b i)
 | .rc a,i=>.rc (pN u a (i+1))
 |t,_=>t
def sub(x:Nm)(u:Ty):Ty->Ty
 | .name s=>if s=x then u else .name s
 | .plus a b=>.plus (sub x u a) (sub x u b)
 | .times a b=>.times (sub x u a) (sub x u b)
 | .rc a=>.rc (sub x u a)
 |t=>t
def cj(x:Nm):Ty->Bool
 | .name s=>decide (s=x)
 | .plus a b=>cj x a||cj x b
 | .times a b=>cj x a||cj x b
 | .rc a=>cj x a
 |_=>false
def iS(f:Nm->Nm):Ty->Ty
 | .name s=>.name (f s)
 | .plus a b=>.plus (iS f a) (iS f b)
 | .times a b=>.times (iS f a) (iS f b)
 | .rc a=>.rc (iS f a)
 |t=>t
def Hc(f:Nm->Nm):Prop:=∀x y,f x=f y->x=y
theorem jU(f:Nm->Nm)(x:Nm):∀(t:Ty) (i:Nat),iS f (pN (.name x) t i)=pN (.name (f x)) (iS f t) i
 | .cX k,i=>by simp only[pN,iS];split<;>rfl
 | .plus a b,i=>by simp only[pN,iS,jU f x a i,jU f x b i]
 | .times a b,i=>by simp only[pN,iS,jU f x a i,jU f x b i]
 | .rc a,i=>by simp only[pN,iS,jU f x a (i+1)]
 | .zero,i=>rfl
 | .one,i=>rfl
 | .name s,i=>rfl
theorem kL{f:Nm->Nm}(hf:Hc f)(x:Nm)(u:Ty):∀t:Ty,iS f (sub x u t)=sub (f x) (iS f u) (iS f t)
 |
  .name s=>by
  simp only[sub,iS]
  by_cases h:s=x
  ·subst h;simp
  ·rw[if_neg h,if_neg fun e=>h (hf _ _ e)];rfl
 | .plus a b=>by simp only[sub,iS,kL hf x u a,kL hf x u b]
 | .times a b=>by simp only[sub,iS,kL hf x u a,kL hf x u b]
 | .rc a=>by simp only[sub,iS,kL hf x u a]
 | .zero=>rfl
 | .one=>rfl
 | .cX k=>rfl
theorem kN{f:Nm->Nm}(hf:Hc f)(x:Nm):∀t:Ty,cj (f x) (iS f t)=cj x t
 | .name s=>by simp only[cj,iS];rw[bV];simp only[decide_eq_true_eq];exact⟨fun e=>hf _ _ e,fun e=>by rw[e]⟩
 | .plus a b=>by simp only[cj,iS,kN hf x a,kN hf x b]
 | .times a b=>by simp only[cj,iS,kN hf x a,kN hf x b]
 | .rc a=>by simp only[cj,iS,kN hf x a]
 | .zero=>rfl
 | .one=>rfl
 | .cX k=>rfl
theorem fy(f:Nm->Nm):∀t:Ty,(iS f t).aZ=t.aZ
 | .plus a b=>by simp only[Ty.aZ,iS,fy f a,fy f b]
 | .times a b=>by simp only[Ty.aZ,iS,fy f a,fy f b]
 | .rc a=>by simp only[Ty.aZ,iS,fy f a]
 | .name s=>rfl
 | .zero=>rfl
 | .one=>rfl
 | .cX k=>rfl
theorem na{f:Nm->Nm}:∀t:Ty,(∀x,cj x t=true->f x=x)->iS f t=t
 | .name s,h=>by simp only[iS];rw[h s (by simp[cj])]
 | .plus a b,h=>by simp only[iS];rw[na a fun x hx=>h x (by simp[cj,hx]),na b fun x hx=>h x (by simp[cj,hx])]
 | .times a b,h=>by simp only[iS];rw[na a fun x hx=>h x (by simp[cj,hx]),na b fun x hx=>h x (by simp[cj,hx])]
 | .rc a,h=>by simp only[iS];rw[na a fun x hx=>h x hx]
 | .zero,_=>rfl
 | .one,_=>rfl
 | .cX k,_=>rfl
theorem vi(t:Ty):1<=t.aZ:=by cases t<;>simp only[Ty.aZ]<;>omega
theorem kT{x y:Nm}:∀(t:Ty) (i:Nat),cj y (pN (.name x) t i)=true->y=x\/cj y t=true
 |
  .cX k,i,h=>by
  simp only[pN]at h
  split at h
  ·left;simp only[cj,decide_eq_true_eq]at h;exact h.symm
  ·cases h
 |
  .plus a b,i,h=>by
  simp only[pN,cj,bP]at h |-
  rcases h with h|h
  ·rcases kT a i h with h|h<;>simp[h]
  ·rcases kT b i h with h|h<;>simp[h]
 |
  .times a b,i,h=>by
  simp only[pN,cj,bP]at h |-
  rcases h with h|h
  ·rcases kT a i h with h|h<;>simp[h]
  ·rcases kT b i h with h|h<;>simp[h]
 | .rc a,i,h=>kT a (i+1) h
 | .zero,i,h=>by cases h
 | .one,i,h=>by cases h
 | .name s,i,h=>.inr h
theorem jX{x y:Nm}{u:Ty}:∀t:Ty,cj y (sub x u t)=true->cj y u=true\/(y≠x/\cj y t=true)
 |
  .name s,h=>by
  simp only[sub]at h
  split at h
  ·exact .inl h
  ·rename_i hs
   simp only[cj,decide_eq_true_eq]at h
   subst h
   exact .inr ⟨hs,by simp[cj]⟩
 |
  .plus a b,h=>by
  simp only[sub,cj,bP]at h |-
  rcases h with h|h
  ·rcases jX a h with h|h<;>simp[h]
  ·rcases jX b h with h|h<;>simp[h]
 |
  .times a b,h=>by
  simp only[sub,cj,bP]at h |-
  rcases h with h|h
  ·rcases jX a h with h|h<;>simp[h]
  ·rcases jX b h with h|h<;>simp[h]
 |
  .rc a,h=>by
  simp only[sub,cj]at h |-
  exact jX a h
 | .zero,h=>by cases h
 | .one,h=>by cases h
 | .cX k,h=>by cases h
def swp(x y:Nm):Nm->Nm:=fun s=>if s=x then y else if s=y then x else s
theorem yr(x y:Nm):Hc (swp x y):=by
 intro a b h
 unfold swp at h
 by_cases h1:a=x<;>by_cases h2:a=y<;>by_cases h3:b=x<;>by_cases h4:b=y<;>simp_all
theorem HJ(x y:Nm):swp x y x=y:=by simp[swp]
theorem DF{x y s:Nm}(h:s≠x)(h':s≠y):swp x y s=s:=by simp[swp,h,h']
theorem yD{x y:Nm}{t:Ty}(h:cj x t=false)(h':cj y t=false):iS (swp x y) t=t :=
 na t fun z hz=>DF (fun e=>by subst e;rw[h]at hz;cases hz) (fun e=>by subst e;rw[h']at hz;cases hz)
def C9(a:Ty)(x:Nm)(c d:Ty):Ty:=.rc (.plus (sub x (.rc a) c) (.times (sub x (.rc a) d) (.cX 0)))
inductive Dv:Ty->Nm->Ty->Prop
 |zero (s):Dv .zero s .zero
 |one (s):Dv .one s .zero
 |cX (k s):Dv (.cX k) s .zero
 |hit (s):Dv (.name s) s .one
 |CH {n s} (h:n≠s):Dv (.name n) s .zero
 |plus {a b s a' b'} (h1:Dv a s a') (h2:Dv b s b') (hl:(Ty.plus a' b').aZ<=400):Dv (.plus a b) s (.plus a' b')
 |times {a b s a' b'} (h1:Dv a s a') (h2:Dv b s b') (hl:(Ty.plus (.times a' b) (.times a b')).aZ<=400):Dv (.times a b) s (.plus (.times a' b) (.times a b'))
 |rc {a s c d} (x:Nm) (hx:cj x a=false) (hs:x≠s) (h1:Dv (pN (.name x) a 0) s c) (h2:Dv (pN (.name x) a 0) x d) (hl:(C9 a x c d).aZ<=400):Dv (.rc a) s (C9 a x c d)
theorem tE{f:Nm->Nm}(hf:Hc f)(a:Ty)(x:Nm)(c d:Ty):iS f (C9 a x c d)=C9 (iS f a) (f x) (iS f c) (iS f d):=by
 simp only[C9,iS,kL hf]
theorem Dv.iS{f:Nm->Nm}(hf:Hc f){t d:Ty}{s:Nm}(h:Dv t s d):Dv (iS f t) (f s) (iS f d):=by
 induction h with
 |zero s=>exact .zero _
 |one s=>exact .one _
 |cX k s=>exact .cX _ _
 |hit s=>exact .hit _
 |CH h=>exact .CH fun e=>h (hf _ _ e)
 |plus h1 h2 hl i1 i2=>exact .plus i1 i2 (by rw[<-fy f]at hl;exact hl)
 |times h1 h2 hl i1 i2=>exact .times i1 i2 (by rw[<-fy f]at hl;exact hl)
 |
  rc x hx hs h1 h2 hl i1 i2 =>
  rw[tE hf]
  rw[jU]at i1 i2
  exact .rc (f x) (by rw[kN hf];exact hx) (fun e=>hs (hf _ _ e)) i1 i2 (by rw[<-tE hf,fy];exact hl)
theorem Dv.names{t d:Ty}{s:Nm}(h:Dv t s d):∀y,cj y d=true->cj y t=true:=by
 induction h with
 |zero s=>intro y hy;cases hy
 |one s=>intro y hy;cases hy
 |cX k s=>intro y hy;cases hy
 |hit s=>intro y hy;cases hy
 |CH h=>intro y hy;cases hy
 |
  plus h1 h2 hl i1 i2 =>
  intro y hy
  simp only[cj,bP]at hy |-
  rcases hy with hy|hy
  ·exact .inl (i1 y hy)
  ·exact .inr (i2 y hy)
 |
  times h1 h2 hl i1 i2 =>
  intro y hy
  simp only[cj,bP]at hy |-
  rcases hy with(hy|hy)|(hy|hy)
  ·exact .inl (i1 y hy)
  ·exact .inr hy
  ·exact .inl hy
  ·exact .inr (i2 y hy)
 |
  rc x hx hs h1 h2 hl i1 i2 =>
  intro y hy
  simp only[C9,cj,bP,Bool.or_false]at hy |-
  have key:∀{a c:Ty},(∀y,cj y c=true->cj y (pN (.name x) a 0)=true)->cj y (sub x (.rc a) c)=true->cj y a=true:=fun i h=>by
   rcases jX _ h with h|⟨h,h'⟩
   ·exact h
   ·rcases kT _ _ (i y h')with e|e
    ·exact absurd e h
    ·exact e
  rcases hy with hy|hy
  ·exact key i1 hy
  ·exact key i2 hy
theorem Dv.fresh{t d:Ty}{s y:Nm}(h:Dv t s d)(hy:cj y t=false):cj y d=false:=by
 cases e:cj y d with
 |false=>rfl
 |true=>rw[h.names y e]at hy;cases hy
theorem Dv.move{a c:Ty}{x y s:Nm}(hx:cj x a=false)(hy:cj y a=false)(h:Dv (pN (.name x) a 0) s c):Dv (pN (.name y) a 0) (swp x y s) (Go.Proofs.Trees.iS (swp x y) c):=by
 have:=h.iS (yr x y)
 rw[jU,HJ,yD hx hy]at this
 exact this
def G4(t:Ty):Option Ty:=if t.aZ<=400 then some t else none
end Go.Proofs.Trees
namespace Go.Proofs.Trees
open Go Go.VL Go.RowKit
def dK:E->List Nm->Ty
 | .atom s,ar=>if s=[48]then .zero else if s=[49]then .one else match bq s ar ar.length with|some u=>.cX u|none=>.name s
 | .list [x,a,b],ar=>if x.at=[43]then .plus (dK a ar) (dK b ar)else if x.at=[42]then .times (dK a ar) (dK b ar)else .rc (dK b (ar++[a.at]))
 | .list _,_=>.zero
def sD(s:Nm):Prop:=s≠[]/\s≠[48]/\s≠[49]
inductive Wf:E->Prop
 |atom {s} (h:s≠[]):Wf (.atom s)
 |plus {a b} (ha:Wf a) (hb:Wf b):Wf (.list [.atom [43],a,b])
 |times {a b} (ha:Wf a) (hb:Wf b):Wf (.list [.atom [42],a,b])
 |rc {n b} (hn:sD n) (hb:Wf b):Wf (.list [.atom [114,101,99],.atom n,b])
theorem ec(a b:E)(ar:List Nm):dK (.list [.atom [43],a,b]) ar=.plus (dK a ar) (dK b ar):=by rw[dK,if_pos (show (E.atom [43]).at=[43] from rfl)]
theorem dE(a b:E)(ar:List Nm):dK (.list [.atom [42],a,b]) ar=.times (dK a ar) (dK b ar):=by rw[dK,if_neg (by decide),if_pos (show (E.atom [42]).at=[42] from rfl)]
theorem gR(a b:E)(ar:List Nm):dK (.list [.atom [114,101,99],a,b]) ar=.rc (dK b (ar++[a.at])):=by rw[dK,if_neg (by decide),if_neg (by decide)]
theorem Wf.ok{e:E}(h:Wf e):e.ok:=by
 induction h with
 |atom h=>exact h
 |plus ha hb i1 i2=>exact⟨by simp[E.ok],i1,i2,trivial⟩
 |times ha hb i1 i2=>exact⟨by simp[E.ok],i1,i2,trivial⟩
 |rc hn hb i=>exact⟨by simp[E.ok],hn.1,i,trivial⟩
theorem Wf.dN{e:E}(h:Wf e):∀ar,e.dN=(dK e ar).aZ:=by
 induction h with
 |
  @atom s h =>
  intro ar
  simp only[E.dN,dK]
  split
  ·rfl
  ·split
   ·rfl
   ·split<;>rfl
 |plus ha hb i1 i2=>intro ar;rw[ec];simp only[E.dN,E.eJ,Ty.aZ,<-i1 ar,<-i2 ar];omega
 |times ha hb i1 i2=>intro ar;rw[dE];simp only[E.dN,E.eJ,Ty.aZ,<-i1 ar,<-i2 ar];omega
 |@rc n b hn hb i=>intro ar;rw[gR];simp only[E.dN,E.eJ,Ty.aZ,<-i];omega
theorem Wf.sz{e:E}(h:Wf e):e.sz<=3*e.dN:=by
 induction h with
 |atom h=>simp[E.sz,E.dN]
 |plus ha hb i1 i2=>simp only[E.sz,E.gT,E.dN,E.eJ];omega
 |times ha hb i1 i2=>simp only[E.sz,E.gT,E.dN,E.eJ];omega
 |rc hn hb i=>simp only[E.sz,E.gT,E.dN,E.eJ];omega
theorem kR:∀(e:E) (ar:List Nm) (t:Ty),e.ok->(∀w,w∈ar->cI w=true)->cv e ar=some t->Wf e/\dK e ar=t
 |
  .atom s,ar,t,hok,hl,ht=>by
  refine⟨.atom hok,?_⟩
  simp only[cv,dK]at ht |-
  split at ht
  ·rename_i h;rw[if_pos h];simpa using ht
  ·rename_i h;rw[if_neg h]
   split at ht
   ·rename_i h1;rw[if_pos h1];simpa using ht
   ·rename_i h1;rw[if_neg h1]
    split at ht
    ·rename_i hp
     cases q:bq s ar ar.length with
     |none=>simpa using ht
     |
      some u =>
      obtain⟨h1,h2⟩:=eG _ _ (au _) q
      have:=hl (gp ar u) (by
       unfold gp
       have:ar.length-1-u<ar.length:=by omega
       simp[aa,this])
      rw[h2,iN hp]at this;cases this
    ·split at ht
     ·split at ht<;>rename_i q<;>rw[q]<;>simpa using ht
     ·cases ht
 |
  .list [x,a,b],ar,t,hok,hl,ht=>by
  obtain⟨ok1,ok2,ok3,_⟩:=hok
  by_cases h0:x.at=[43]
  ·obtain⟨t1,t2,h1,h2,rfl⟩:=eW h0 ht
   obtain rfl:=iM h0 (by simp)
   obtain⟨w1,e1⟩:=kR a ar t1 ok2 hl h1
   obtain⟨w2,e2⟩:=kR b ar t2 ok3 hl h2
   exact⟨.plus w1 w2,by rw[ec,e1,e2]⟩
  ·by_cases h1:x.at=[42]
   ·obtain⟨t1,t2,h2,h3,rfl⟩:=ez h1 ht
    obtain rfl:=iM h1 (by simp)
    obtain⟨w1,e1⟩:=kR a ar t1 ok2 hl h2
    obtain⟨w2,e2⟩:=kR b ar t2 ok3 hl h3
    exact⟨.times w1 w2,by rw[dE,e1,e2]⟩
   ·by_cases h2:x.at=[114,101,99]
    ·obtain⟨t1,hla,h3,rfl⟩:=db h2 ht
     obtain rfl:=iM h2 (by simp)
     have hne:a.at≠[]:=by intro e;rw[e]at hla;cases hla
     have ha:a=.atom a.at:=iM rfl hne
     obtain⟨w1,e1⟩:=kR b (ar++[a.at]) t1 ok3 (fun w hw=>by
      rcases aL.1 hw with hw|hw
      ·exact hl w hw
      ·simp only[be]at hw;rw[hw];exact hla) h3
     have hN:sD a.at:=⟨hne,fun e=>by rw[e]at hla;revert hla;decide,fun e=>by rw[e]at hla;revert hla;decide⟩
     refine⟨?_,by rw[gR,e1]⟩
     rw[ha];exact .rc hN w1
    ·rw[hD _ h0 h1 h2]at ht;cases ht
 | .list [],ar,t,_,_,ht=>by cases ht
 | .list [_],ar,t,_,_,ht=>by cases ht
 | .list [_,_],ar,t,_,_,ht=>by cases ht
 | .list (_::_::_::_::_),ar,t,_,_,ht=>by cases ht
theorem eC(s:Nm)(ar:List Nm):bq s ar ar.length=none↔s∉ar:=by
 have:=kp s ar ar.length (au _)
 rwa[List.take_length]at this
theorem ov(s:Nm)(ar:List Nm):∀(n:Nat) (br:List Nm),br.length=n->bq s (ar++br) (ar++br).length=match bq s br br.length with|some u=>some u|none=>(bq s ar ar.length).map (·+br.length)
 |
  0,br,h=>by
  obtain rfl:=List.eq_nil_of_length_eq_zero h
  rw[List.append_nil]
  cases h:bq s ar ar.length<;>simp[bq]
 |
  n+1,br,h=>by
  obtain⟨b2,w,rfl⟩:∃b2 w,br=b2++[w]:=⟨br.dropLast,br.getLast (by intro e;rw[e]at h;cases h),(List.dropLast_concat_getLast _).symm⟩
  rw[<-a7]
  by_cases hw:w=s
  ·subst hw;rw[fF,fF]
  ·rw[hG _ hw,hG _ hw,ov s ar n b2 (by simpa using h)]
   cases bq s b2 b2.length with
   |some u=>rfl
   |
    none =>
    cases bq s ar ar.length with
    |none=>rfl
    |some u=>simp only[Option.map_none,cx,an,aB,aI];congr 1
theorem yS(ar:List Nm){e:E}(h:Wf e):∀br,(∀y,cj y (dK e br)=true->y∉ar)->dK e (ar++br)=dK e br:=by
 induction h with
 |
  @atom s h =>
  intro br hy
  simp only[dK]at hy |-
  split
  ·rfl
  ·rename_i h0
   split
   ·rfl
   ·rename_i h1
    rw[if_neg h0,if_neg h1]at hy
    rw[ov s ar _ br rfl]
    cases q:bq s br br.length with
    |some u=>rfl
    |
     none =>
     rw[q]at hy
     have:=(eC s ar).2 (hy s (by simp[cj]))
     rw[this];rfl
 |
  plus ha hb i1 i2 =>
  intro br hy
  rw[ec]at hy |-
  rw[ec,i1 br fun y h=>hy y (by simp[cj,h]),i2 br fun y h=>hy y (by simp[cj,h])]
 |
  times ha hb i1 i2 =>
  intro br hy
  rw[dE]at hy |-
  rw[dE,i1 br fun y h=>hy y (by simp[cj,h]),i2 br fun y h=>hy y (by simp[cj,h])]
 |
  @rc n b hn hb i =>
  intro br hy
  rw[gR]at hy |-
  rw[gR,a7,i _ hy]
theorem vk{e:E}(h:Wf e):∀ar y,cj y (dK e ar)=true->sD y/\y∉ar:=by
 induction h with
 |
  @atom s h =>
  intro ar y hy
  simp only[dK]at hy
  split at hy
  ·cases hy
  ·rename_i h0
   split at hy
   ·cases hy
   ·rename_i h1
    split at hy
    ·cases hy
    ·rename_i q
     simp only[cj,decide_eq_true_eq]at hy
     subst hy
     exact⟨⟨h,h0,h1⟩,(eC _ _).1 q⟩
 |
  plus ha hb i1 i2 =>
  intro ar y hy
  rw[ec]at hy
  simp only[cj,bP]at hy
  rcases hy with hy|hy
  ·exact i1 ar y hy
  ·exact i2 ar y hy
 |
  times ha hb i1 i2 =>
  intro ar y hy
  rw[dE]at hy
  simp only[cj,bP]at hy
  rcases hy with hy|hy
  ·exact i1 ar y hy
  ·exact i2 ar y hy
 |
  rc hn hb i =>
  intro ar y hy
  rw[gR]at hy
  obtain⟨h1,h2⟩:=i _ y hy
  exact⟨h1,fun h=>h2 (az _ h)⟩
theorem tD{e:E}(h:Wf e):∀(bd l:List Nm) (y:Nm),y∈j1 e bd l↔y∈l\/cj y (dK e bd)=true:=by
 induction h with
 |
  @atom s h =>
  intro bd l y
  simp only[j1,dK]
  by_cases h0:s=[48]
  ·simp[h0,cj]
  ·by_cases h1:s=[49]
   ·simp[h1,cj]
   ·rw[if_neg h0,if_neg h1]
    by_cases h2:s∈bd
    ·cases q:bq s bd bd.length with
     |none=>exact absurd h2 ((eC _ _).1 q)
     |some u=>simp[h2,cj]
    ·rw[(eC _ _).2 h2]
     simp only[h0,h1,h2,false_or,cj,decide_eq_true_eq]
     by_cases h3:s∈l
     ·simp only[h3,if_true]
      exact⟨fun h=>.inl h,fun h=>by rcases h with h|rfl<;>assumption⟩
     ·simp only[h3,if_false,aL,be,eq_comm]
 |
  plus ha hb i1 i2 =>
  intro bd l y
  rw[j1,if_neg (by decide),ec,i2,i1]
  simp[cj,or_assoc]
 |
  times ha hb i1 i2 =>
  intro bd l y
  rw[j1,if_neg (by decide),dE,i2,i1]
  simp[cj,or_assoc]
 |
  rc hn hb i =>
  intro bd l y
  rw[j1,if_pos (show (E.atom [114,101,99]).at=[114,101,99] from rfl),gR,i]
  rfl
theorem fD:∀(t:Ty) (out:List Nm) (y:Nm),y∈bE t out↔y∈out\/cj y t=true
 |
  .name s,out,y=>by
  simp only[bE,mR,cj,decide_eq_true_eq]
  split
  ·rename_i h;exact⟨fun h=>.inl h,fun h'=>by rcases h' with h'|rfl<;>assumption⟩
  ·simp[eq_comm]
 | .plus a b,out,y=>by rw[bE,fD b,fD a];simp[cj,or_assoc]
 | .times a b,out,y=>by rw[bE,fD b,fD a];simp[cj,or_assoc]
 | .rc a,out,y=>by rw[bE,fD a];rfl
 | .zero,out,y=>by simp[bE,cj]
 | .one,out,y=>by simp[bE,cj]
 | .cX k,out,y=>by simp[bE,cj]
end Go.Proofs.Trees
namespace Go.Proofs.Trees
open Go Go.VL Go.RowKit
abbrev fN:Nm:=[114,101,99]
theorem dI(s:Nm):(E.atom s).at=s:=rfl
def oR(x:Nm)(u:E):E->E
 | .atom s=>if s=x then u else .atom s
 | .list [h,a,b]=>if h.at=fN then(if a.at=x then .list [h,a,b]else .list [.atom fN,a,oR x u b])else .list [.atom h.at,oR x u a,oR x u b]
 | .list l=>.list l
def kS(x:Nm):E->Nat
 | .atom s=>if s=x then 1 else 0
 | .list [h,a,b]=>if h.at=fN then(if a.at=x then 0 else kS x b)else kS x a+kS x b
 | .list _=>0
def qV(p:Nm->Prop):E->Prop
 | .atom _=>True
 | .list [h,a,b]=>(if h.at=fN then p a.at else qV p a)/\qV p b
 | .list _=>True
def iV(x:Nm):Ty->Nat
 | .name s=>if s=x then 1 else 0
 | .plus a b=>iV x a+iV x b
 | .times a b=>iV x a+iV x b
 | .rc a=>iV x a
 |_=>0
theorem sf(x:Nm)(u a b:E):oR x u (.list [.atom [43],a,b])=.list [.atom [43],oR x u a,oR x u b]:=by rw[oR,if_neg (by decide)];rfl
theorem qj(x:Nm)(u a b:E):oR x u (.list [.atom [42],a,b])=.list [.atom [42],oR x u a,oR x u b]:=by rw[oR,if_neg (by decide)];rfl
theorem wW(x:Nm)(u:E)(n:Nm)(b:E):oR x u (.list [.atom fN,.atom n,b])=if n=x then .list [.atom fN,.atom n,b]else .list [.atom fN,.atom n,oR x u b]:=by rw[oR,if_pos (dI _)];rfl
theorem oB(x:Nm)(a b:E):kS x (.list [.atom [43],a,b])=kS x a+kS x b:=by rw[kS,if_neg (by decide)]
theorem mU(x:Nm)(a b:E):kS x (.list [.atom [42],a,b])=kS x a+kS x b:=by rw[kS,if_neg (by decide)]
theorem sO(x:Nm)(n:Nm)(b:E):kS x (.list [.atom fN,.atom n,b])=if n=x then 0 else kS x b:=by rw[kS,if_pos (dI _)];rfl
theorem l8(p:Nm->Prop)(a b:E):qV p (.list [.atom [43],a,b])↔qV p a/\qV p b:=by rw[qV,if_neg (by decide)]
theorem kM(p:Nm->Prop)(a b:E):qV p (.list [.atom [42],a,b])↔qV p a/\qV p b:=by rw[qV,if_neg (by decide)]
theorem qn(p:Nm->Prop)(n:Nm)(b:E):qV p (.list [.atom fN,.atom n,b])↔p n/\qV p b:=by rw[qV,if_pos (dI _)];rfl
theorem xh{p q:Nm->Prop}(h:∀n,p n->q n){e:E}(hw:Wf e):qV p e->qV q e:=by
 induction hw with
 |atom _=>exact fun _=>trivial
 |plus _ _ i1 i2=>rw[l8,l8];exact fun g=>⟨i1 g.1,i2 g.2⟩
 |times _ _ i1 i2=>rw[kM,kM];exact fun g=>⟨i1 g.1,i2 g.2⟩
 |rc _ _ i=>rw[qn,qn];exact fun g=>⟨h _ g.1,i g.2⟩
theorem gA{s:Nm}(hs:sD s){ar:List Nm}(h:s∉ar):dK (.atom s) ar=.name s:=by
 simp only[dK];rw[if_neg hs.2.1,if_neg hs.2.2,(eC s ar).2 h]
theorem y7{x:Nm}(hx:sD x){u:E}(hu:Wf u){e:E}(h:Wf e):qV (fun n=>n≠x/\cj n (dK u [])=false) e->∀ar,x∉ar->(∀y,y∈ar->cj y (dK u [])=false)->Wf (oR x u e)/\dK (oR x u e) ar=sub x (dK u []) (dK e ar):=by
 induction h with
 |
  @atom s hs =>
  intro _ ar har hy
  by_cases e:s=x
  ·subst e
   have:dK u (ar++[])=dK u []:=yS ar hu [] fun y hy' hm=>by rw[hy y hm]at hy';cases hy'
   rw[List.append_nil]at this
   rw[gA hx har]
   simp only[oR,sub,if_true]
   exact⟨hu,this⟩
  ·simp only[oR,if_neg e]
   refine⟨.atom hs,?_⟩
   simp only[dK]
   split
   ·rfl
   ·split
    ·rfl
    ·split
     ·rfl
     ·simp only[sub,if_neg e]
 |
  plus ha hb i1 i2 =>
  intro hap ar har hy
  rw[l8]at hap
  obtain⟨w1,e1⟩:=i1 hap.1 ar har hy
  obtain⟨w2,e2⟩:=i2 hap.2 ar har hy
  rw[sf,ec,ec,e1,e2]
  exact⟨.plus w1 w2,rfl⟩
 |
  times ha hb i1 i2 =>
  intro hap ar har hy
  rw[kM]at hap
  obtain⟨w1,e1⟩:=i1 hap.1 ar har hy
  obtain⟨w2,e2⟩:=i2 hap.2 ar har hy
  rw[qj,dE,dE,e1,e2]
  exact⟨.times w1 w2,rfl⟩
 |
  @rc n b hn hb i =>
  intro hap ar har hy
  rw[qn]at hap
  obtain⟨w1,e1⟩:=i hap.2 (ar++[n]) (by
   simp only[aL,be]
   rintro(h|h)
   ·exact har h
   ·exact hap.1.1 h.symm) (fun y hm=>by
   simp only[aL,be]at hm
   rcases hm with hm|rfl
   ·exact hy y hm
   ·exact hap.1.2)
  rw[wW,if_neg hap.1.1,gR,gR]
  refine⟨.rc hn w1,?_⟩
  show Ty.rc (dK (oR x u b) (ar++[n]))=_
  rw[e1];rfl
theorem xW{x:Nm}(hx:sD x){e:E}(h:Wf e):∀ar,iV x (dK e ar)=if x∈ar then 0 else kS x e:=by
 induction h with
 |
  @atom s hs =>
  intro ar
  by_cases e:s=x
  ·subst e
   by_cases hm:s∈ar
   ·rw[if_pos hm]
    simp only[dK];rw[if_neg hx.2.1,if_neg hx.2.2]
    cases q:bq s ar ar.length with
    |none=>exact absurd hm ((eC _ _).1 q)
    |some u=>rfl
   ·rw[if_neg hm,gA hx hm];simp[iV,kS]
  ·have:iV x (dK (.atom s) ar)=0:=by
    simp only[dK]
    split
    ·rfl
    ·split
     ·rfl
     ·split
      ·rfl
      ·simp[iV,e]
   rw[this];simp[kS,e]
 |plus ha hb i1 i2=>intro ar;rw[ec,oB,iV,i1,i2];split<;>simp
 |times ha hb i1 i2=>intro ar;rw[dE,mU,iV,i1,i2];split<;>simp
 |
  @rc n b hn hb i =>
  intro ar
  rw[gR,sO,iV,i]
  simp only[dI,aL,be]
  by_cases h1:x∈ar
  ·simp[h1]
  ·by_cases h2:x=n
   ·simp[h2]
   ·simp[h1,h2,Ne.symm h2]
theorem eI(x:Nm)(u:Ty):∀t:Ty,(sub x u t).aZ+iV x t=t.aZ+iV x t*u.aZ
 | .name s=>by simp only[sub,iV];split<;>simp[Ty.aZ];omega
 | .plus a b=>by have:=eI x u a;have:=eI x u b;simp only[sub,Ty.aZ,iV,Nat.add_mul];omega
 | .times a b=>by have:=eI x u a;have:=eI x u b;simp only[sub,Ty.aZ,iV,Nat.add_mul];omega
 | .rc a=>by have:=eI x u a;simp only[sub,Ty.aZ,iV];omega
 | .zero=>by simp[sub,iV]
 | .one=>by simp[sub,iV]
 | .cX k=>by simp[sub,iV]
abbrev tN(m:Nat):Nm:=116::dd m
theorem zY(m:Nat):dd m≠[]:=by
 by_cases h:m<10
 ·rw[eM h];simp
 ·rw[fK h];simp
theorem wo:∀(n m k:Nat),m<n->dd m=dd k->m=k
 |0,m,k,h,_=>by omega
 |
  n+1,m,k,h,e=>by
  have d10:∀{a b:Nat},a<10->b<10->aY (48+a)=aY (48+b)->a=b:=fun {a b} ha hb h=>by
   have:=congrArg UInt8.toNat h
   simp only[UInt8.toNat_ofNat']at this
   omega
  by_cases h1:m<10<;>by_cases h2:k<10
  ·rw[eM h1,eM h2]at e
   simp only[List.cons.injEq,and_true]at e
   exact d10 h1 h2 e
  ·rw[eM h1,fK h2]at e
   have:=congrArg List.length e
   have:dd (k/10)=[]:=by
    apply List.eq_nil_of_length_eq_zero
    simp at this;simpa using this
   exact absurd this (zY _)
  ·rw[fK h1,eM h2]at e
   have:=congrArg List.length e
   have:dd (m/10)=[]:=by
    apply List.eq_nil_of_length_eq_zero
    simp at this;simpa using this
   exact absurd this (zY _)
  ·rw[fK h1,fK h2]at e
   obtain⟨e1,e2⟩:=List.append_inj' e rfl
   have:=wo n (m/10) (k/10) (by omega) e1
   simp only[List.cons.injEq,and_true]at e2
   have:=d10 (dA _ (by omega)) (dA _ (by omega)) e2
   omega
theorem wj{m k:Nat}(h:tN m=tN k):m=k:=wo (m+1) m k (by omega) (List.cons.inj h).2
theorem zU(m:Nat):sD (tN m):=⟨by simp,by simp,by simp⟩
theorem K4:∀(l F:List Nm),l.Nodup->(∀x,x∈l->x∈F)->l.length<=F.length
 |[],_,_,_=>Nat.zero_le _
 |
  x::l,F,hn,hs=>by
  obtain⟨h1,h2⟩:=List.nodup_cons.1 hn
  have hx:=hs x af
  have:=K4 l (F.erase x) h2 fun y hy=>(List.mem_erase_of_ne (fun e=>h1 (by rw[<-e];exact hy))).2 (hs y (aj _ hy))
  rw[List.length_erase_of_mem hx]at this
  have:0<F.length:=List.length_pos_of_mem hx
  simp only[aB];omega
def sE(F:List Nm):Nat->Nat->Nat
 |0,k=>k
 |n+1,k=>if tN k∈F then sE F n (k+1)else k
theorem rX(F:List Nm):∀(n k:Nat),k<=sE F n k/\sE F n k<=k+n/\(∀j,k<=j->j<sE F n k->tN j∈F)/\(sE F n k<k+n->tN (sE F n k)∉F)
 |0,k=>⟨au _,au _,fun j h1 h2=>by simp only[sE]at h2;omega,fun h=>by simp only[sE]at h;omega⟩
 |
  n+1,k=>by
  rw[sE]
  split
  ·rename_i hm
   obtain⟨h1,h2,h3,h4⟩:=rX F n (k+1)
   refine⟨by omega,by omega,fun j hj hl=>?_,fun h=>h4 (by omega)⟩
   by_cases e:j=k
   ·subst e;exact hm
   ·exact h3 j (by omega) hl
  ·rename_i hm
   exact⟨au _,by omega,fun j h1 h2=>by omega,fun _=>hm⟩
def nx(F:List Nm)(k:Nat):Nat:=sE F (F.length+1) k
theorem nR(F:List Nm)(k:Nat):k<=nx F k/\nx F k<=k+F.length/\(∀j,k<=j->j<nx F k->tN j∈F)/\tN (nx F k)∉F:=by
 obtain⟨h1,h2,h3,h4⟩:=rX F (F.length+1) k
 have hlt:nx F k<k+(F.length+1):=by
  rcases Nat.lt_or_ge (nx F k) (k+(F.length+1))with h|h
  ·exact h
  ·exfalso
   have:=K4 ((List.range' k (F.length+1)).map tN) F (by
    refine List.Pairwise.map _ (fun a b hab e=>hab (wj e)) List.nodup_range') (fun x hx=>by
    obtain⟨j,hj,rfl⟩:=bT.1 hx
    obtain⟨i,hi,rfl⟩:=List.mem_range'.1 hj
    exact h3 _ (by omega) (by show _<nx F k;omega))
   simp at this
   omega
 exact⟨h1,by unfold nx at hlt |-;omega,h3,h4 hlt⟩
def kV(F:List Nm):Ty->List Nm->Nat->E×Nat
 | .zero,_,k=>(.atom [48],k)
 | .one,_,k=>(.atom [49],k)
 | .name s,_,k=>(.atom s,k)
 | .cX u,to,k=>(.atom (gp to u),k)
 | .plus a b,to,k=>(.list [.atom [43],(kV F a to k).1,(kV F b to (kV F a to k).2).1],(kV F b to (kV F a to k).2).2)
 | .times a b,to,k=>(.list [.atom [42],(kV F a to k).1,(kV F b to (kV F a to k).2).1],(kV F b to (kV F a to k).2).2)
 | .rc a,to,k=>(.list [.atom fN,.atom (tN (nx F k)),(kV F a (to++[tN (nx F k)]) (nx F k+1)).1],(kV F a (to++[tN (nx F k)]) (nx F k+1)).2)
def vD:Ty->Nat->Prop
 | .cX u,i=>u<i
 | .plus a b,i=>vD a i/\vD b i
 | .times a b,i=>vD a i/\vD b i
 | .rc a,i=>vD a (i+1)
 |_,_=>True
theorem Bt{e:E}(h:Wf e):∀ar,vD (dK e ar) ar.length:=by
 induction h with
 |
  @atom s hs =>
  intro ar
  simp only[dK]
  split
  ·trivial
  ·split
   ·trivial
   ·split
    ·rename_i u q;exact(eG _ _ (au _) q).1
    ·trivial
 |plus ha hb i1 i2=>intro ar;rw[ec];exact⟨i1 ar,i2 ar⟩
 |times ha hb i1 i2=>intro ar;rw[dE];exact⟨i1 ar,i2 ar⟩
 |
  @rc n b hn hb i =>
  intro ar;rw[gR]
  have:=i (ar++[(E.atom n).at])
  rw[an]at this
  exact this
structure Gn(F to:List Nm)(k:Nat):Prop where
 out:∀w,w∈to->w∉F
 lt:∀w,w∈to->∃j,j<k/\w=tN j
 nd:to.Nodup
theorem Gn.nil(F:List Nm)(k:Nat):Gn F [] k:=⟨fun _ h=>(by cases h),fun _ h=>(by cases h),by simp⟩
theorem Gn.mono{F to:List Nm}{k k':Nat}(h:Gn F to k)(hk:k<=k'):Gn F to k':=⟨h.out,fun w hw=>by obtain⟨j,h1,h2⟩:=h.lt w hw;exact⟨j,by omega,h2⟩,h.nd⟩
theorem Gn.push{F to:List Nm}{k:Nat}(h:Gn F to k):Gn F (to++[tN (nx F k)]) (nx F k+1):=by
 obtain⟨h1,h2,h3,h4⟩:=nR F k
 refine⟨fun w hw=>?_,fun w hw=>?_,?_⟩
 ·rcases aL.1 hw with hw|hw
  ·exact h.out w hw
  ·simp only[be]at hw;rw[hw];exact h4
 ·rcases aL.1 hw with hw|hw
  ·obtain⟨j,g1,g2⟩:=h.lt w hw;exact⟨j,by omega,g2⟩
  ·simp only[be]at hw;exact⟨_,by omega,hw⟩
 ·refine List.nodup_append.2 ⟨h.nd,by simp,fun a ha b hb e=>?_⟩
  simp only[be]at hb
  obtain⟨j,g1,g2⟩:=h.lt a ha
  rw[e,hb]at g2
  have:=wj g2
  omega
theorem qX{to:List Nm}(hn:to.Nodup){u:Nat}(hu:u<to.length):bq (gp to u) to to.length=some u:=by
 have hm:gp to u∈to:=by
  unfold gp
  have:to.length-1-u<to.length:=by omega
  simp[aa,this]
 cases q:bq (gp to u) to to.length with
 |none=>exact absurd hm ((eC _ _).1 q)
 |
  some v =>
  obtain⟨h1,h2⟩:=eG _ _ (au _) q
  unfold gp at h2
  have e1:to.length-1-v<to.length:=by omega
  have e2:to.length-1-u<to.length:=by omega
  rw[aa,aa,bH e1,bH e2]at h2
  have hp:=List.pairwise_iff_getElem.1 hn
  have h3:to[to.length-1-v]=to[to.length-1-u]:=by simpa using h2
  rcases Nat.lt_trichotomy (to.length-1-v) (to.length-1-u)with hl|he|hl
  ·exact absurd h3 (hp _ _ e1 e2 hl)
  ·congr 1;omega
  ·exact absurd h3.symm (hp _ _ e2 e1 hl)
theorem lp(F:List Nm):∀(t:Ty) (to:List Nm) (k:Nat),Gn F to k->vD t to.length->(∀y,cj y t=true->y∈F/\sD y) ->
 Wf (kV F t to k).1/\dK (kV F t to k).1 to=t/\k<=(kV F t to k).2/\(kV F t to k).2<=k+(F.length+1)*t.aZ/\qV (·∉F) (kV F t to k).1
 | .zero,to,k,_,_,_=>⟨.atom (by simp),rfl,au _,Nat.le_add_right _ _,trivial⟩
 | .one,to,k,_,_,_=>⟨.atom (by simp),rfl,au _,Nat.le_add_right _ _,trivial⟩
 |
  .name s,to,k,g,hl,hn=>by
  obtain⟨h1,h2⟩:=hn s (by simp[cj])
  exact⟨.atom h2.1,gA h2 (fun h=>g.out s h h1),au _,Nat.le_add_right _ _,trivial⟩
 |
  .cX u,to,k,g,hl,hn=>by
  have hm:gp to u∈to:=by
   unfold gp
   have:to.length-1-u<to.length:=by have:u<to.length:=hl;omega
   simp[aa,this]
  obtain⟨j,_,e⟩:=g.lt _ hm
  have hok:sD (gp to u):=by rw[e];exact zU j
  refine⟨.atom hok.1,?_,au _,Nat.le_add_right _ _,trivial⟩
  simp only[kV,dK]
  rw[if_neg hok.2.1,if_neg hok.2.2,qX g.nd hl]
 |
  .plus a b,to,k,g,hl,hn=>by
  obtain⟨a1,a2,a3,a4,a5⟩:=lp F a to k g hl.1 fun y hy=>hn y (by simp[cj,hy])
  obtain⟨b1,b2,b3,b4,b5⟩:=lp F b to _ (g.mono a3) hl.2 fun y hy=>hn y (by simp[cj,hy])
  simp only[kV,ec,a2,b2,l8,Ty.aZ]
  refine⟨.plus a1 b1,trivial,by omega,?_,a5,b5⟩
  have:(F.length+1)*(1+a.aZ+b.aZ)=(F.length+1)+(F.length+1)*a.aZ+(F.length+1)*b.aZ:=by simp only[Nat.mul_add,Nat.mul_one]
  omega
 |
  .times a b,to,k,g,hl,hn=>by
  obtain⟨a1,a2,a3,a4,a5⟩:=lp F a to k g hl.1 fun y hy=>hn y (by simp[cj,hy])
  obtain⟨b1,b2,b3,b4,b5⟩:=lp F b to _ (g.mono a3) hl.2 fun y hy=>hn y (by simp[cj,hy])
  simp only[kV,dE,a2,b2,kM,Ty.aZ]
  refine⟨.times a1 b1,trivial,by omega,?_,a5,b5⟩
  have:(F.length+1)*(1+a.aZ+b.aZ)=(F.length+1)+(F.length+1)*a.aZ+(F.length+1)*b.aZ:=by simp only[Nat.mul_add,Nat.mul_one]
  omega
 |
  .rc a,to,k,g,hl,hn=>by
  obtain⟨h1,h2,h3,h4⟩:=nR F k
  obtain⟨a1,a2,a3,a4,a5⟩:=lp F a (to++[tN (nx F k)]) (nx F k+1) g.push (by rw[an];exact hl) hn
  simp only[kV,gR,dI,a2,qn,Ty.aZ]
  refine⟨.rc (zU _) a1,trivial,by omega,?_,h4,a5⟩
  have:(F.length+1)*(2+a.aZ)=(F.length+1)*2+(F.length+1)*a.aZ:=by simp only[Nat.mul_add]
  omega
end Go.Proofs.Trees
namespace Go.Proofs.Trees
open Go Go.VL Go.RowKit
theorem cK(l:List E):(E.list l).at=[]:=rfl
def Ih:Hl:=(.u,.u)
end Go.Proofs.Trees
namespace Go.Proofs.Trees
open Go Go.VL Go.RowKit
theorem ph(s:Nm)(a b:E):ap Tryz.prog 33 [.agg [.v (.string (mk [])),(E.list [.atom s,a,b]).sp]] [] (bA (.v (.string (mk s)))):=sV (.atom s) [a,b]
theorem Ft{e:E}(h:Wf e):∀(bd l:List Nm) (a:AV),dD a bd->bd.length+l.length+e.sz<100000->ap Tryz.prog 43 [.agg [.v (.string (mk e.at)),e.sp],a,.vec 0] [.vec 1 (bX l)] (cP (.vec 1) [.dead,.vec 1 (bX (j1 e bd l))]):=by
 induction h with
 |
  @atom s hs =>
  intro bd l a ha hl
  simp only[E.sz]at hl
  refine C8 _ _ _ _ ((a6 _).mpr trivial) ha.1 ?_
  have hll:(bX l).length=l.length:=by simp[bX]
  simp only[B8,dI,↓zq,zs,ae,zt,cP,j1]
  refine⟨fun _=>⟨fun h=>?_,fun h=>⟨fun h1=>?_,fun h1=>?_⟩⟩,fun h=>absurd h hs⟩
  ·rw[if_pos (.inl h)]
  ·rw[if_pos (.inr (.inl h1))]
  ·refine al (C7 bd a ha s (by omega)) ?_
   simp only[↓zq,zs,ae]
   refine⟨fun h2=>?_,fun h2=>al (C7 l _ (.of l) s (by omega)) ?_⟩
   ·rw[if_pos (.inr (.inr (.inl h2)))]
   ·simp only[↓zq,zs,ae]
    refine⟨fun h3=>?_,fun h3=>⟨⟨fun c hc=>(by simp at hc;rw[hc];rfl),by omega⟩,?_⟩⟩
    ·rw[if_pos (.inr (.inr (.inr h3)))]
    ·rw[xG,if_neg]
     rintro(q|q|q|q)
     ·exact h q
     ·exact h1 q
     ·exact h2 q
     ·exact h3 q
 |
  @plus x y hx hy i1 i2 =>
  intro bd l a ha hl
  simp only[E.sz,E.gT]at hl
  have hfl:=fW x bd l
  refine C8 _ _ _ _ ((a6 _).mpr trivial) ha.1 ?_
  have hP:=P3.of (.atom [43]) x y
  simp only[B8,cK,toNat_one,bf,↓zq,zs,ae,zt,hP.1,hP.2.1,hP.2.2.1,hP.2.2.2,aM,cP]
  refine⟨fun h=>absurd rfl h,fun _=>?_⟩
  refine al (ph [43] x y) ?_
  simp only[↓zq,zs,ae,zt]
  refine⟨fun h=>by simp at h,fun _=>?_⟩
  repeat refine⟨by omega,?_⟩
  refine bx (i1 bd l a ha (by omega)) ?_
  simp only[↓zq,zs,ae,zt,bc,bm,Ob.es]
  repeat refine⟨by omega,?_⟩
  refine bx (i2 bd (j1 x bd l) a ha (by omega)) ?_
  simp only[↓zq,zs,ae,zt,bc,bm,Ob.es]
  rw[j1,if_neg (by decide)]
 |
  @times x y hx hy i1 i2 =>
  intro bd l a ha hl
  simp only[E.sz,E.gT]at hl
  have hfl:=fW x bd l
  refine C8 _ _ _ _ ((a6 _).mpr trivial) ha.1 ?_
  have hP:=P3.of (.atom [42]) x y
  simp only[B8,cK,toNat_one,bf,↓zq,zs,ae,zt,hP.1,hP.2.1,hP.2.2.1,hP.2.2.2,aM,cP]
  refine⟨fun h=>absurd rfl h,fun _=>?_⟩
  refine al (ph [42] x y) ?_
  simp only[↓zq,zs,ae,zt]
  refine⟨fun h=>by simp at h,fun _=>?_⟩
  repeat refine⟨by omega,?_⟩
  refine bx (i1 bd l a ha (by omega)) ?_
  simp only[↓zq,zs,ae,zt,bc,bm,Ob.es]
  repeat refine⟨by omega,?_⟩
  refine bx (i2 bd (j1 x bd l) a ha (by omega)) ?_
  simp only[↓zq,zs,ae,zt,bc,bm,Ob.es]
  rw[j1,if_neg (by decide)]
 |
  @rc n y hn hy i =>
  intro bd l a ha hl
  simp only[E.sz,E.gT]at hl
  refine C8 _ _ _ _ ((a6 _).mpr trivial) ha.1 ?_
  have hP:=P3.of (.atom fN) (.atom n) y
  simp only[B8,cK,toNat_one,bf,↓zq,zs,ae,zt,hP.1,hP.2.1,hP.2.2.1,hP.2.2.2,aM,cP]
  refine⟨fun h=>absurd rfl h,fun _=>?_⟩
  refine al (ph fN (.atom n) y) ?_
  simp only[↓zq,zs,ae,zt]
  refine⟨fun _=>?_,fun h=>absurd rfl h⟩
  repeat refine⟨by omega,?_⟩
  refine al (Dh bd a ha n (by omega)) ?_
  simp only[↓zq,zs,ae]
  refine bx (i (bd++[n]) l _ (.of _) (by simp;omega)) ?_
  simp only[↓zq,zs,ae,bc,bm,Ob.es]
  rw[j1,if_pos (dI _)];rfl
theorem J0(x:Nm)(u:E){e:E}(h:Wf e):ap Tryz.prog 86 [.agg [.v (.string (mk e.at)),e.sp],.v (.string (mk x)),.agg [.v (.string (mk u.at)),u.sp]] [] (bA (.agg [.v (.string (mk (oR x u e).at)),(oR x u e).sp])):=by
 induction h with
 |
  @atom s hs =>
  refine xX _ _ _ _ _ ((a6 _).mpr trivial) ((a6 _).mpr trivial) ?_
  simp only[xe,dI,↓zq,zs,ae,zt,bA,oR]
  refine⟨fun _=>⟨fun h=>?_,fun h=>?_⟩,fun h=>absurd h hs⟩
  ·rw[if_pos h]
  ·rw[if_neg h];rfl
 |
  @plus a b ha hb i1 i2 =>
  refine xX _ _ _ _ _ ((a6 _).mpr trivial) ((a6 _).mpr trivial) ?_
  have hP:=P3.of (.atom [43]) a b
  simp only[xe,cK,toNat_one,bf,↓zq,zs,ae,zt,hP.1,hP.2.1,hP.2.2.1,hP.2.2.2,aM]
  refine⟨fun h=>absurd rfl h,fun _=>?_⟩
  refine al (ph [43] a b) ?_
  simp only[↓zq,zs,ae,zt]
  refine⟨fun h=>by simp at h,fun _=>?_⟩
  refine al (ph [43] a b) ?_
  simp only[↓zq,zs,ae,zt]
  repeat refine⟨by omega,?_⟩
  refine al i1 ?_
  simp only[↓zq,zs,ae,zt,aM]
  repeat refine⟨by omega,?_⟩
  refine al i2 ?_
  simp only[↓zq,zs,ae,zt,aM]
  repeat refine⟨by omega,?_⟩
  refine al (xP _ _ _) ?_
  simp only[↓zq,zs,ae,zt,aM,sf,cK]
  repeat refine⟨by omega,?_⟩
  exact⟨rfl,rfl⟩
 |
  @times a b ha hb i1 i2 =>
  refine xX _ _ _ _ _ ((a6 _).mpr trivial) ((a6 _).mpr trivial) ?_
  have hP:=P3.of (.atom [42]) a b
  simp only[xe,cK,toNat_one,bf,↓zq,zs,ae,zt,hP.1,hP.2.1,hP.2.2.1,hP.2.2.2,aM]
  refine⟨fun h=>absurd rfl h,fun _=>?_⟩
  refine al (ph [42] a b) ?_
  simp only[↓zq,zs,ae,zt]
  refine⟨fun h=>by simp at h,fun _=>?_⟩
  refine al (ph [42] a b) ?_
  simp only[↓zq,zs,ae,zt]
  repeat refine⟨by omega,?_⟩
  refine al i1 ?_
  simp only[↓zq,zs,ae,zt,aM]
  repeat refine⟨by omega,?_⟩
  refine al i2 ?_
  simp only[↓zq,zs,ae,zt,aM]
  repeat refine⟨by omega,?_⟩
  refine al (xP _ _ _) ?_
  simp only[↓zq,zs,ae,zt,aM,qj,cK]
  repeat refine⟨by omega,?_⟩
  exact⟨rfl,rfl⟩
 |
  @rc n b hn hb i =>
  refine xX _ _ _ _ _ ((a6 _).mpr trivial) ((a6 _).mpr trivial) ?_
  have hP:=P3.of (.atom fN) (.atom n) b
  simp only[xe,cK,toNat_one,bf,↓zq,zs,ae,zt,hP.1,hP.2.1,hP.2.2.1,hP.2.2.2,aM]
  refine⟨fun h=>absurd rfl h,fun _=>?_⟩
  refine al (ph fN (.atom n) b) ?_
  simp only[↓zq,zs,ae,zt]
  refine⟨fun _=>?_,fun h=>absurd rfl h⟩
  repeat refine⟨by omega,?_⟩
  rw[wW]
  refine⟨fun h=>?_,fun h=>?_⟩
  ·have hh:n=x:=h
   rw[if_pos hh];exact⟨rfl,rfl⟩
  ·have hh:¬n=x:=h
   rw[if_neg hh]
   repeat refine⟨by omega,?_⟩
   refine al i ?_
   simp only[↓zq,zs,ae,zt,aM]
   repeat refine⟨by omega,?_⟩
   refine al (xP fN (.atom n) (oR x u b)) ?_
   simp only[↓zq,zs,ae,zt,aM,cK]
   repeat refine⟨by omega,?_⟩
   exact⟨rfl,rfl⟩
theorem oy(x:Nm){e:E}(h:Wf e):kS x e<=e.dN:=by
 induction h with
 |atom hs=>simp only[kS,E.dN];split<;>omega
 |plus ha hb i1 i2=>rw[oB];simp only[E.dN,E.eJ];omega
 |times ha hb i1 i2=>rw[mU];simp only[E.dN,E.eJ];omega
 |rc hn hb i=>rw[sO];simp only[E.dN,E.eJ];split<;>omega
theorem KB(x:Nm){e:E}(h:Wf e):e.dN<1000000->ap Tryz.prog 85 [.agg [.v (.string (mk e.at)),e.sp],.v (.string (mk x))] [] (bA (.v (.int .i64 (kS x e:Int)))):=by
 induction h with
 |
  @atom s hs =>
  intro hl
  refine yf _ _ _ ((a6 _).mpr trivial) ?_
  simp only[wL,dI,↓zq,zs,ae,zt,bA,kS]
  refine⟨fun _=>⟨fun h=>?_,fun h=>?_⟩,fun h=>absurd h hs⟩
  ·rw[if_pos h];rfl
  ·rw[if_neg h];rfl
 |
  @plus a b ha hb i1 i2 =>
  intro hl
  simp only[E.dN,E.eJ]at hl
  have u1:=oy x ha
  have u2:=oy x hb
  refine yf _ _ _ ((a6 _).mpr trivial) ?_
  have hP:=P3.of (.atom [43]) a b
  simp only[wL,cK,toNat_one,bf,↓zq,zs,ae,zt,hP.1,hP.2.1,hP.2.2.1,hP.2.2.2,aM]
  refine⟨fun h=>absurd rfl h,fun _=>?_⟩
  refine al (ph [43] a b) ?_
  simp only[↓zq,zs,ae,zt]
  refine⟨fun h=>by simp at h,fun _=>?_⟩
  repeat refine⟨by omega,?_⟩
  refine al (i1 (by omega)) ?_
  simp only[↓zq,zs,ae,zt]
  repeat refine⟨by omega,?_⟩
  refine al (i2 (by omega)) ?_
  simp only[↓zq,zs,ae,zt]
  rw[oB,wrap64 _ (by omega) (by omega)]
  exact⟨by simp,rfl⟩
 |
  @times a b ha hb i1 i2 =>
  intro hl
  simp only[E.dN,E.eJ]at hl
  have u1:=oy x ha
  have u2:=oy x hb
  refine yf _ _ _ ((a6 _).mpr trivial) ?_
  have hP:=P3.of (.atom [42]) a b
  simp only[wL,cK,toNat_one,bf,↓zq,zs,ae,zt,hP.1,hP.2.1,hP.2.2.1,hP.2.2.2,aM]
  refine⟨fun h=>absurd rfl h,fun _=>?_⟩
  refine al (ph [42] a b) ?_
  simp only[↓zq,zs,ae,zt]
  refine⟨fun h=>by simp at h,fun _=>?_⟩
  repeat refine⟨by omega,?_⟩
  refine al (i1 (by omega)) ?_
  simp only[↓zq,zs,ae,zt]
  repeat refine⟨by omega,?_⟩
  refine al (i2 (by omega)) ?_
  simp only[↓zq,zs,ae,zt]
  rw[mU,wrap64 _ (by omega) (by omega)]
  exact⟨by simp,rfl⟩
 |
  @rc n b hn hb i =>
  intro hl
  simp only[E.dN,E.eJ]at hl
  refine yf _ _ _ ((a6 _).mpr trivial) ?_
  have hP:=P3.of (.atom fN) (.atom n) b
  simp only[wL,cK,toNat_one,bf,↓zq,zs,ae,zt,hP.1,hP.2.1,hP.2.2.1,hP.2.2.2,aM]
  refine⟨fun h=>absurd rfl h,fun _=>?_⟩
  refine al (ph fN (.atom n) b) ?_
  simp only[↓zq,zs,ae,zt]
  refine⟨fun _=>?_,fun h=>absurd rfl h⟩
  repeat refine⟨by omega,?_⟩
  rw[sO]
  refine⟨fun h=>?_,fun h=>?_⟩
  ·have hh:n=x:=h
   rw[if_pos hh];exact⟨rfl,rfl⟩
  ·have hh:¬n=x:=h
   rw[if_neg hh]
   repeat refine⟨by omega,?_⟩
   refine al (i (by omega)) ?_
   simp only[↓zq,zs,ae,zt]
   exact⟨rfl,rfl⟩
theorem Jg{x:Nm}(hx:sD x){e u:E}(h:Wf e)(hu:Wf u)(hl:e.dN<=1000)(hlu:u.dN<=1000):ap Tryz.prog 75 [.agg [.v (.string (mk e.at)),e.sp],.v (.string (mk x)),.agg [.v (.string (mk u.at)),u.sp]] [] (bA (.v (.bool (decide ((sub x (dK u []) (dK e [])).aZ<=400))))):=by
 refine Kg _ _ _ _ _ ((a6 _).mpr trivial) ((a6 _).mpr trivial) ?_
 unfold Eu
 have a1:=wN e h.ok (by have:=h.sz;omega)
 have a2:=wN u hu.ok (by have:=hu.sz;omega)
 rw[dz]at a1 a2
 have hle:=oy x h
 have hpos:1<=u.dN:=by rw[hu.dN []];exact vi _
 refine al a1 ?_
 simp only[↓zq,zs,ae,zt]
 refine al (KB x h (by omega)) ?_
 simp only[↓zq,zs,ae,zt]
 refine al a2 ?_
 simp only[↓zq,zs,ae,zt]
 have e1:=eI x (dK u []) (dK e [])
 have e2:=xW hx h []
 rw[if_neg (by simp)]at e2
 rw[e2,<-h.dN [],<-hu.dN []]at e1
 have hm:kS x e*(u.dN-1)<=1000*1000:=Nat.mul_le_mul (by omega) (by omega)
 have e3:(kS x e:Int)*((u.dN:Int)-1)=((kS x e*(u.dN-1):Nat):Int):=by
  rw[Int.natCast_mul];congr 1;omega
 have e4:kS x e*(u.dN-1)+kS x e=kS x e*u.dN:=by
  rw[Nat.mul_sub,Nat.mul_one]
  have:=Nat.le_mul_of_pos_right (kS x e) hpos
  omega
 rw[wrap64 ((u.dN:Int)-1) (by omega) (by omega),e3,wrap64 ((kS x e*(u.dN-1):Nat):Int) (by omega) (by omega),wrap64 _ (by omega) (by omega)]
 refine⟨?_,rfl⟩
 congr 2
 rw[bV,decide_eq_true_eq,decide_eq_true_eq]
 omega
end Go.Proofs.Trees
namespace Go.Proofs.Trees
open Go Go.VL Go.RowKit
abbrev If:AV:=.v (.slice none 0 0)
abbrev zE:Ob:=.cells [.v (.string (mk [])),If]
theorem FN(s:Nm)(p a b:AV)(hp:LK.sl.has p)(F fr to:List Nm)(k:Int)(ha:dD a fr)(hb:dD b to)(hft:fr.length=to.length)(hl:fr.length<1000000):∀(i:Nat),i<=fr.length ->
 CL [a,b,.v (.int .i64 ((i:Int)-1))] [.cells [.v (.string (mk s)),p],zE,.cells [.any,.v (.int .i64 k)],.vec 1 (bX F)]
  (pj (match bq s fr i with|some u=>(2,[],[.cells [.v (.string (mk (gp to u))),If],.cells [.any,.v (.int .i64 k)],.vec 1 (bX F)])|none=>(1,[],[.cells [.v (.string (mk s)),p],zE,.cells [.any,.v (.int .i64 k)],.vec 1 (bX F)])))
 |
  0,hi=>by
  refine Fy _ _ _ _ _ _ _ _ _ ?_
  simp only[Bf,↓zq,zs,ae,ae,hp,bi]
  exact⟨ha.1,hb.1,fun h=>by omega,fun _=>rfl⟩
 |
  i+1,hi=>by
  have hlt:i<fr.length:=by omega
  have hlt':i<to.length:=by omega
  have e1:((i+1:Nat):Int)-1=(i:Int):=by omega
  rw[e1]
  refine Fy _ _ _ _ _ _ _ _ _ ?_
  simp only[Bf,↓zq,zs,ae,zt,ae,hp,bi,ha.len,hb.len,ha.idx hlt,hb.idx hlt',cc]
  refine⟨ha.1,hb.1,fun _=>⟨⟨ha.1,by omega,by omega⟩,by omega,fun h=>?_,fun h=>?_⟩,fun h=>by omega⟩
  ·refine⟨⟨hb.1,by omega,by omega⟩,by omega,?_⟩
   have hh:fr.getD i []=s:=h
   simp only[bq,hh,if_true,pj]
   have:gp to (fr.length-1-i)=to.getD i []:=by unfold gp;congr 1;omega
   rw[this]
  ·have hh:¬fr.getD i []=s:=h
   simp only[bq,hh,if_false]
   rw[wrap64 _ (by omega) (by omega)]
   exact FN s p a b hp F fr to k ha hb hft hl i (by omega)
theorem Ia(a b:AV)(ha:LK.sl.has a)(hb:LK.sl.has b)(F:List Nm)(hF:F.length<100000)(t:ByteArray)(p:AV)(hp:LK.sl.has p):∀(n j:Nat),sE F n j<j+n->j+n<100000000 ->
 Cj [a,b,.v (.string (mk (tN j)))] [.cells [.any,.v (.int .i64 (j:Int))],.vec 1 (bX F),.cells [.v (.string t),p],zE] (fI 1 [a,b,.v (.string (mk (tN (sE F n j))))] [.cells [.any,.v (.int .i64 (sE F n j:Int))],.vec 1 (bX F),.cells [.v (.string t),p],zE])
 |0,j,h,_=>by simp only[sE]at h;omega
 |
  n+1,j,h,hj=>by
  refine JQ _ _ _ _ _ _ _ _ _ ?_
  simp only[Ep,↓zq,zs,ae,zt,ae,hp,bi]
  refine⟨ha,hb,?_⟩
  refine al (C7 F _ (.of F) (tN j) (by omega)) ?_
  simp only[↓zq,zs,ae,zt]
  rw[sE]at h |-
  refine⟨fun hm=>?_,fun hm=>?_⟩
  ·rw[if_pos hm]at h |-
   rw[bk j (by omega)]
   refine al (yU (j+2) (j+1) (by omega) (by omega)) ?_
   have hd:=mX (j+2) (j+1) (by omega)
   simp only[↓zq,zs,ae,zt,List.cons_append,bz]
   refine⟨by simp[fO];omega,?_⟩
   exact Ia a b ha hb F hF t p hp n (j+1) (by omega) (by omega)
  ·rw[if_neg hm]
   exact⟨rfl,rfl,rfl⟩
theorem kA(F:List Nm):∀(t:Ty) (to:List Nm) (k:Nat),k<=(kV F t to k).2/\(kV F t to k).2<=k+(F.length+1)*t.aZ
 | .zero,_,k=>⟨au _,Nat.le_add_right _ _⟩
 | .one,_,k=>⟨au _,Nat.le_add_right _ _⟩
 | .name _,_,k=>⟨au _,Nat.le_add_right _ _⟩
 | .cX _,_,k=>⟨au _,Nat.le_add_right _ _⟩
 |
  .plus a b,to,k=>by
  have h1:=kA F a to k
  have h2:=kA F b to (kV F a to k).2
  simp only[kV,Ty.aZ]
  have:(F.length+1)*(1+a.aZ+b.aZ)=(F.length+1)+(F.length+1)*a.aZ+(F.length+1)*b.aZ:=by simp only[Nat.mul_add,Nat.mul_one]
  omega
 |
  .times a b,to,k=>by
  have h1:=kA F a to k
  have h2:=kA F b to (kV F a to k).2
  simp only[kV,Ty.aZ]
  have:(F.length+1)*(1+a.aZ+b.aZ)=(F.length+1)+(F.length+1)*a.aZ+(F.length+1)*b.aZ:=by simp only[Nat.mul_add,Nat.mul_one]
  omega
 |
  .rc a,to,k=>by
  obtain⟨g1,g2,_,_⟩:=nR F k
  have h1:=kA F a (to++[tN (nx F k)]) (nx F k+1)
  simp only[kV,Ty.aZ]
  have:(F.length+1)*(2+a.aZ)=(F.length+1)*2+(F.length+1)*a.aZ:=by simp only[Nat.mul_add]
  omega
theorem si(l:List Nm):(bX l).length=l.length:=by simp[bX]
theorem KH(F:List Nm)(hF:F.length<10000){e:E}(h:Wf e):∀(fr to:List Nm) (a b:AV) (k:Nat),dD a fr->dD b to->fr.length=to.length->(∀w,w∈fr->sD w)->fr.length+e.sz<10000->k+(F.length+1)*(dK e fr).aZ<99000000 ->
 ap Tryz.prog 50 [.agg [.v (.string (mk e.at)),e.sp],a,b,.ref 0 0] [.cells [.vec 1,.v (.int .i64 (k:Int))],.vec 1 (bX F)] (cP (.agg [.v (.string (mk (kV F (dK e fr) to k).1.at)),(kV F (dK e fr) to k).1.sp]) [.cells [.vec 1,.v (.int .i64 ((kV F (dK e fr) to k).2:Int))],.vec 1 (bX F)]):=by
 induction h with
 |
  @atom s hs =>
  intro fr to a b k ha hb hft hfr hl hk
  simp only[E.sz]at hl
  refine yj _ _ _ _ _ _ ((a6 _).mpr trivial) ha.1 hb.1 ?_
  have hz:∀c,(c=[48]\/c=[49])->bq c fr fr.length=none:=fun c hc=>(eC c fr).2 fun hm=>by
   obtain⟨h1,h2,h3⟩:=hfr c hm
   rcases hc with rfl|rfl
   ·exact h2 rfl
   ·exact h3 rfl
  have hq:kV F (dK (.atom s) fr) to k=(match bq s fr fr.length with|some u=>.atom (gp to u)|none=>.atom s,k):=by
   simp only[dK]
   by_cases h0:s=[48]
   ·rw[if_pos h0,hz s (.inl h0),h0];rfl
   ·rw[if_neg h0]
    by_cases h1:s=[49]
    ·rw[if_pos h1,hz s (.inr h1),h1];rfl
    ·rw[if_neg h1]
     cases bq s fr fr.length<;>rfl
  simp only[xK,dI,↓zq,zs,ae,zt]
  refine⟨fun _=>⟨ha.1,?_⟩,fun h=>absurd h hs⟩
  rw[ha.len,wrap64 _ (by omega) (by omega)]
  refine gF (FN s _ a b ((a6 _).mpr trivial) F fr to (k:Int) ha hb hft (by omega) fr.length (au _)) (fun ys o e=>?_) (fun ys o e=>?_)
  ·rw[hq]
   cases q:bq s fr fr.length<;>rw[q]at e<;>cases e
   simp only[↓zq,zs,ae,zt,ae,aN,bi,a6]
   exact⟨rfl,rfl⟩
  ·rw[hq]
   cases q:bq s fr fr.length<;>rw[q]at e<;>cases e
   simp only[↓zq,zs,ae,zt,ae,aN,bi]
   exact⟨rfl,rfl⟩
 |
  @plus x y hx hy i1 i2 =>
  intro fr to a b k ha hb hft hfr hl hk
  simp only[E.sz,E.gT]at hl
  rw[ec]at hk |-
  simp only[Ty.aZ]at hk
  have hm:(F.length+1)*(1+(dK x fr).aZ+(dK y fr).aZ)=(F.length+1)+(F.length+1)*(dK x fr).aZ+(F.length+1)*(dK y fr).aZ:=by simp only[Nat.mul_add,Nat.mul_one]
  have hc:=kA F (dK x fr) to k
  refine yj _ _ _ _ _ _ ((a6 _).mpr trivial) ha.1 hb.1 ?_
  have hP:=P3.of (.atom [43]) x y
  simp only[xK,cK,toNat_one,bf,↓zq,zs,ae,zt,hP.1,hP.2.1,hP.2.2.1,hP.2.2.2,aM]
  refine⟨fun h=>absurd rfl h,fun _=>?_⟩
  refine al (ph [43] x y) ?_
  simp only[↓zq,zs,ae,zt]
  refine⟨fun h=>by simp at h,fun _=>?_⟩
  repeat refine⟨by omega,?_⟩
  refine bx (i1 fr to a b k ha hb hft hfr (by omega) (by omega)) ?_
  simp only[↓zq,zs,ae,zt,aN,aM,bc,bm,Ob.es]
  repeat refine⟨by omega,?_⟩
  refine al (ph [43] x y) ?_
  simp only[↓zq,zs,ae,zt]
  repeat refine⟨by omega,?_⟩
  refine bx (i2 fr to a b _ ha hb hft hfr (by omega) (by omega)) ?_
  simp only[↓zq,zs,ae,zt,aN,aM,bc,bm,Ob.es]
  repeat refine⟨by omega,?_⟩
  refine al (xP _ _ _) ?_
  simp only[↓zq,zs,ae,zt,aM,cK]
  repeat refine⟨by omega,?_⟩
  exact⟨rfl,rfl⟩
 |
  @times x y hx hy i1 i2 =>
  intro fr to a b k ha hb hft hfr hl hk
  simp only[E.sz,E.gT]at hl
  rw[dE]at hk |-
  simp only[Ty.aZ]at hk
  have hm:(F.length+1)*(1+(dK x fr).aZ+(dK y fr).aZ)=(F.length+1)+(F.length+1)*(dK x fr).aZ+(F.length+1)*(dK y fr).aZ:=by simp only[Nat.mul_add,Nat.mul_one]
  have hc:=kA F (dK x fr) to k
  refine yj _ _ _ _ _ _ ((a6 _).mpr trivial) ha.1 hb.1 ?_
  have hP:=P3.of (.atom [42]) x y
  simp only[xK,cK,toNat_one,bf,↓zq,zs,ae,zt,hP.1,hP.2.1,hP.2.2.1,hP.2.2.2,aM]
  refine⟨fun h=>absurd rfl h,fun _=>?_⟩
  refine al (ph [42] x y) ?_
  simp only[↓zq,zs,ae,zt]
  refine⟨fun h=>by simp at h,fun _=>?_⟩
  repeat refine⟨by omega,?_⟩
  refine bx (i1 fr to a b k ha hb hft hfr (by omega) (by omega)) ?_
  simp only[↓zq,zs,ae,zt,aN,aM,bc,bm,Ob.es]
  repeat refine⟨by omega,?_⟩
  refine al (ph [42] x y) ?_
  simp only[↓zq,zs,ae,zt]
  repeat refine⟨by omega,?_⟩
  refine bx (i2 fr to a b _ ha hb hft hfr (by omega) (by omega)) ?_
  simp only[↓zq,zs,ae,zt,aN,aM,bc,bm,Ob.es]
  repeat refine⟨by omega,?_⟩
  refine al (xP _ _ _) ?_
  simp only[↓zq,zs,ae,zt,aM,cK]
  repeat refine⟨by omega,?_⟩
  exact⟨rfl,rfl⟩
 |
  @rc n y hn hy i =>
  intro fr to a b k ha hb hft hfr hl hk
  simp only[E.sz,E.gT]at hl
  rw[gR]at hk |-
  simp only[Ty.aZ,dI]at hk
  have hm:(F.length+1)*(2+(dK y (fr++[n])).aZ)=(F.length+1)*2+(F.length+1)*(dK y (fr++[n])).aZ:=by simp only[Nat.mul_add]
  have hc:=kA F (dK y (fr++[n])) (to++[tN (nx F k)]) (nx F k+1)
  obtain⟨g1,g2,_,_⟩:=nR F k
  refine yj _ _ _ _ _ _ ((a6 _).mpr trivial) ha.1 hb.1 ?_
  have hP:=P3.of (.atom fN) (.atom n) y
  simp only[xK,cK,toNat_one,bf,↓zq,zs,ae,zt,hP.1,hP.2.1,hP.2.2.1,hP.2.2.2,aM]
  refine⟨fun h=>absurd rfl h,fun _=>?_⟩
  refine al (ph fN (.atom n) y) ?_
  simp only[↓zq,zs,ae,zt]
  refine⟨fun _=>?_,fun h=>absurd rfl h⟩
  refine al (yU (k+1) k (by omega) (by omega)) ?_
  have hd:=mX (k+1) k (by omega)
  simp only[↓zq,zs,ae,zt,List.cons_append,bz]
  refine⟨by simp[fO];omega,?_⟩
  refine bY (Ia a b ha.1 hb.1 F (by omega) (mk []) _ ((a6 _).mpr trivial) (F.length+1) k (by show nx F k<_;omega) (by omega)) ?_
  simp only[↓zq,zs,ae,zt,ae,aN,bi,a6,ha.1,hb.1,hP.1,hP.2.1,hP.2.2.1,hP.2.2.2,toNat_one,bf,aM]
  repeat refine⟨by omega,?_⟩
  have hnx:sE F (F.length+1) k=nx F k:=rfl
  rw[hnx]
  refine al (Dh fr a ha n (by omega)) ?_
  simp only[↓zq,zs,ae,zt]
  refine al (Dh to b hb (tN (nx F k)) (by omega)) ?_
  simp only[↓zq,zs,ae,zt]
  rw[bk (nx F k) (by omega)]
  have hmk:=xP fN (.atom (tN (nx F k))) (kV F (dK y (fr++[n])) (to++[tN (nx F k)]) (nx F k+1)).1
  simp only[dI]at hmk
  refine bx (i (fr++[n]) (to++[tN (nx F k)]) _ _ (nx F k+1) (.of _) (.of _) (by simp[hft]) (fun w hw=>by
   rcases aL.1 hw with hw|hw
   ·exact hfr w hw
   ·simp only[be]at hw;rw[hw];exact hn) (by simp;omega) (by omega)) ?_
  simp only[↓zq,zs,ae,zt,aN,aM,bc,bm,Ob.es]
  repeat refine⟨by omega,?_⟩
  refine al hmk ?_
  simp only[↓zq,zs,ae,zt,aM,cK]
  repeat refine⟨by omega,?_⟩
  exact⟨rfl,rfl⟩
theorem s9(l r:List Nm):bX (l++r)=bX l++bX r:=by simp[bX]
def pi(os:List E):List Nm:=os.flatMap fun o=>j1 o [] []
theorem rE{os:List E}{i:Nat}(h:i<os.length):(E.ba os).getD i []=[.v (.string (mk (os[i]).at)),(os[i]).sp]:=by
 have:∀(os:List E) (i:Nat) (h:i<os.length),(E.ba os).getD i []=(os[i]).fP:=by
  intro os
  induction os with
  |nil=>intro i h;simp at h
  |
   cons o os ih =>
   intro i h
   cases i with
   |zero=>simp[E.ba]
   |succ i=>simpa[E.ba]using ih i (by simpa using h)
 rw[this os i h,gv]
theorem uY(os:List E){i:Nat}(h:i<os.length):pi (os.drop i)=j1 (os[i]) [] []++pi (os.drop (i+1)):=by
 unfold pi;rw[aJ h,cB]
theorem Hf(a:AV)(os:List E)(ha:LK.sl.has a/\a.aO=E.ba os)(ho:∀o,o∈os->Wf o/\o.sz<5000)(hl:os.length<100)(t:ByteArray)(p:AV)(hp:LK.sl.has p):∀(k i:Nat) (F:List Nm),i+k=os.length->F.length<=5000+5000*i ->
 Ck [a,.v (.int .i64 (i:Int))] [.cells [.v (.string t),p],zE,.vec 1 (bX F)] (fI 1 [] [.cells [.v (.string t),p],zE,.vec 1 (bX (F++pi (os.drop i)))])
 |
  0,i,F,hi,hF=>by
  refine EJ _ _ _ _ _ _ _ ?_
  have:i=os.length:=by omega
  subst this
  simp only[Ah,↓zq,zs,ae,zt,ae,hp,bi,ha.1,ha.2,dj,List.drop_length]
  exact⟨fun h=>by omega,fun _=>by simp[fI,pi]⟩
 |
  k+1,i,F,hi,hF=>by
  have hlt:i<os.length:=by omega
  obtain⟨hw,hsz⟩:=ho _ (cy hlt)
  have hfl:=fW (os[i]) [] []
  refine EJ _ _ _ _ _ _ _ ?_
  simp only[Ah,↓zq,zs,ae,zt,ae,hp,bi,ha.1,ha.2,dj,rE hlt,aM,cc]
  refine⟨fun _=>?_,fun h=>by omega⟩
  repeat refine⟨by omega,?_⟩
  have hfre:=Ft hw [] [] (.sl []) (.of []) (by simp;omega)
  refine bx hfre ?_
  simp only[↓zq,zs,ae,zt,bc,bm,Ob.es,si,<-s9]
  rw[bk i (by omega),uY os hlt,<-a7]
  simp only[aI,aP]at hfl
  refine⟨⟨ky _,by omega⟩,?_⟩
  exact Hf a os ha ho hl t p hp k (i+1) _ (by omega) (by simp;omega)
def A3(e:E)(os:List E):List Nm:=j1 e [] []++pi os
def zF(e:E)(os:List E):E:=(kV (A3 e os) (dK e []) [] 0).1
theorem yT{e:E}{os:List E}(h:e.sz<=2000)(ho:∀o,o∈os->Wf o/\o.sz<=2000)(hl:os.length<=2):(A3 e os).length<=6000:=by
 have h1:=fW e [] []
 have h2:∀(l:List E),(∀o,o∈l->o.sz<=2000)->(pi l).length<=2000*l.length:=by
  intro l
  induction l with
  |nil=>intro _;simp[pi]
  |
   cons o l ih =>
   intro hl
   have:=ih fun q hq=>hl q (aj _ hq)
   have:=hl o af
   have:=fW o [] []
   simp only[pi,cB,an,aB,aI]at *
   omega
 have:=h2 os fun o ho'=>(ho o ho').2
 simp only[A3,an,aI]at *
 omega
theorem FT{e:E}(h:Wf e)(a:AV)(os:List E)(ha:LK.sl.has a/\a.aO=E.ba os)(he:e.sz<=2000)(ho:∀o,o∈os->Wf o/\o.sz<=2000)(hl:os.length<=2) :
 ap Tryz.prog 28 [.agg [.v (.string (mk e.at)),e.sp],a] [] (bA (.agg [.v (.string (mk (zF e os).at)),(zF e os).sp])):=by
 refine JZ _ _ _ ((a6 _).mpr trivial) ha.1 ?_
 unfold HM
 have hfl:=fW e [] []
 simp only[aI,aP]at hfl
 have hap:=yT he ho hl
 have hats:(dK e []).aZ<=2000:=by
  rw[<-h.dN []]
  have:e.dN<=e.sz:=by
   clear hap hfl ha he ho hl
   induction h with
   |atom _=>simp[E.dN,E.sz]
   |plus _ _ i1 i2=>simp only[E.dN,E.eJ,E.sz,E.gT];omega
   |times _ _ i1 i2=>simp only[E.dN,E.eJ,E.sz,E.gT];omega
   |rc _ _ i=>simp only[E.dN,E.eJ,E.sz,E.gT];omega
  omega
 have hfre:=Ft h [] [] (.sl []) (.of []) (by simp;omega)
 simp only[↓zq,zs,ae,zt]
 refine bx hfre ?_
 simp only[↓zq,zs,ae,zt,bc,bm,Ob.es]
 have hlp:=Hf a os ha (fun o hq=>⟨(ho o hq).1,by have:=(ho o hq).2;omega⟩) (by omega) (mk e.at) e.sp ((a6 _).mpr trivial) os.length 0 (j1 e [] []) (by omega) (by omega)
 rw[aW]at hlp
 refine bY hlp ?_
 simp only[↓zq,zs,ae,zt,ae,aN,bi,a6,bc,bm,Ob.es]
 have hmul:((A3 e os).length+1)*(dK e []).aZ<=6001*2000:=Nat.mul_le_mul (by omega) hats
 have hren:=KH (A3 e os) (by omega) h [] [] (.sl []) (.sl []) 0 (.of []) (.of []) rfl (fun w hw=>by cases hw) (by simp;omega) (by omega)
 refine bx hren ?_
 simp only[↓zq,zs,ae,zt,aN,aM]
 repeat refine⟨by omega,?_⟩
 exact⟨rfl,rfl⟩
end Go.Proofs.Trees
namespace Go.Proofs.Trees
open Go Go.VL Go.RowKit
def oi(t:Ty):Prop:=vD t 0/\∀y,cj y t=true->sD y
theorem kY:∀(t:Ty) {i j:Nat},vD t i->i<=j->vD t j
 | .cX u,i,j,h,hj=>cE h hj
 | .plus a b,i,j,h,hj=>⟨kY a h.1 hj,kY b h.2 hj⟩
 | .times a b,i,j,h,hj=>⟨kY a h.1 hj,kY b h.2 hj⟩
 | .rc a,i,j,h,hj=>kY (i:=i+1) (j:=j+1) a h (by omega)
 | .zero,_,_,_,_=>trivial
 | .one,_,_,_,_=>trivial
 | .name _,_,_,_,_=>trivial
theorem nk{x:Nm}{u:Ty}(hu:vD u 0):∀(t:Ty) {i:Nat},vD t i->vD (sub x u t) i
 | .name s,i,_=>by simp only[sub];split;exact kY u hu (Nat.zero_le _);trivial
 | .plus a b,i,h=>⟨nk hu a h.1,nk hu b h.2⟩
 | .times a b,i,h=>⟨nk hu a h.1,nk hu b h.2⟩
 | .rc a,i,h=>nk hu (i:=i+1) a h
 | .zero,_,_=>trivial
 | .one,_,_=>trivial
 | .cX _,_,h=>h
theorem oi.tree{t:Ty}(g:oi t):∃e,Wf e/\dK e []=t:=by
 obtain⟨h1,h2,_⟩:=lp (bE t []) t [] 0 (.nil _ _) g.1 fun y hy=>⟨(fD t [] y).2 (.inr hy),g.2 y hy⟩
 exact⟨_,h1,h2⟩
theorem oi.sub{x:Nm}{u t:Ty}(hu:oi u)(ht:oi t):oi (sub x u t):=⟨nk hu.1 t ht.1,fun y hy=>by
 rcases jX t hy with h|h
 ·exact hu.2 y h
 ·exact ht.2 y h.2⟩
def C0(o:Option Ty):AV->List Ob->Prop:=fun r ob=>ob=[]/\∃(c:Nm) (d:AV),LK.sl.has d/\r=.cV [.agg [.v (.string (mk c)),d],.v (.bool o.isSome)]/\∀t,o=some t->∃e,Wf e/\dK e []=t/\c=e.at/\d=e.sp
theorem C0.ne{o:Option Ty}(h:∀t,o=some t->oi t):∃r ob,C0 o r ob:=by
 cases o with
 |none=>exact⟨_,_,rfl,[],If,(bi).mpr trivial,rfl,fun t h=>by cases h⟩
 |
  some t =>
  obtain⟨e,h1,h2⟩:=(h t rfl).tree
  exact⟨_,_,rfl,e.at,e.sp,(a6 _).mpr trivial,rfl,fun t' h'=>by cases h';exact⟨e,h1,h2,rfl,rfl⟩⟩
theorem C0.of{e:E}(h:Wf e):C0 (some (dK e [])) (.cV [.agg [.v (.string (mk e.at)),e.sp],.v (.bool true)]) [] :=
 ⟨rfl,e.at,e.sp,(a6 _).mpr trivial,rfl,fun t h'=>by cases h';exact⟨e,h,rfl,rfl,rfl⟩⟩
theorem C0.no(c:Nm)(d:AV)(hd:LK.sl.has d):C0 none (.cV [.agg [.v (.string (mk c)),d],.v (.bool false)]) [] :=
 ⟨rfl,c,d,hd,rfl,fun t h'=>by cases h'⟩
theorem xp{e:E}{os:List E}(h:Wf e):Wf (zF e os)/\dK (zF e os) []=dK e []/\qV (·∉A3 e os) (zF e os):=by
 obtain⟨h1,h2,_,_,h5⟩:=lp (A3 e os) (dK e []) [] 0 (.nil _ _) (Bt h []) fun y hy=>⟨az _ ((tD h [] [] y).2 (.inr hy)),(vk h [] y hy).1⟩
 exact⟨h1,h2,h5⟩
theorem ss{os:List E}{o:E}(ho:o∈os)(hw:Wf o){y:Nm}(hy:cj y (dK o [])=true):y∈pi os :=
 List.mem_flatMap.2 ⟨o,ho,(tD hw [] [] y).2 (.inr hy)⟩
theorem xw{s:Nm}(hs:sD s):dK (.atom s) []=.name s:=gA hs (by simp)
theorem IF{x:Nm}(hx:sD x){e u:E}(h:Wf e)(hu:Wf u)(hl:e.dN<=400)(hlu:u.dN<=400):∃g,Wf g/\dK g []=sub x (dK u []) (dK e [])/\ap Tryz.prog 76 [.agg [.v (.string (mk e.at)),e.sp],.v (.string (mk x)),.agg [.v (.string (mk u.at)),u.sp]] [] (bA (.agg [.v (.string (mk g.at)),g.sp])):=by
 obtain⟨w1,w2,w3⟩:=xp (os:=[u,.atom x]) h
 have hap:qV (fun n=>n≠x/\cj n (dK u [])=false) (zF e [u,.atom x]):=xh (fun n hn=>⟨fun e1=>hn (by
  subst e1
  exact aw _ (ss (o:=.atom n) (by simp) (.atom hx.1) (by rw[xw hx];simp[cj]))),by
  cases q:cj n (dK u [])with
  |false=>rfl
  |true=>exact absurd (aw _ (ss (o:=u) (by simp) hu q)) hn⟩) w1 w3
 obtain⟨p1,p2⟩:=y7 hx hu w1 hap [] (by simp) (fun y hy=>by cases hy)
 refine⟨_,p1,by rw[p2,w2],?_⟩
 refine Kp _ _ _ _ _ ((a6 _).mpr trivial) ((a6 _).mpr trivial) ?_
 unfold Fe
 have s1:=h.sz
 have s2:=hu.sz
 have hA:=FT h (.sl [[.v (.string (mk u.at)),u.sp],[.v (.string (mk x)),If]]) [u,.atom x] ⟨(ca _).mpr trivial,by simp only[eE,E.ba,gv];rfl⟩ (by omega) (fun o ho=>by
  simp only[aF,List.not_mem_nil,or_false]at ho
  rcases ho with rfl|rfl
  ·exact⟨hu,by omega⟩
  ·exact⟨.atom hx.1,by simp[E.sz]⟩) (by simp)
 refine al hA ?_
 simp only[↓zq,zs,ae,zt,aM]
 repeat refine⟨by omega,?_⟩
 refine al (J0 x u w1) ?_
 simp only[↓zq,zs,ae,zt,aM]
 repeat refine⟨by omega,?_⟩
 exact⟨rfl,rfl⟩
end Go.Proofs.Trees
namespace Go.Proofs.Trees
open Go Go.VL Go.RowKit
def ns(l:List UInt8):List (List AV):=l.map fun(x:UInt8)=>[.v (.int .u8 (x.toNat:Int))]
structure pA(b:AV)(l:List UInt8):Prop where
 has:LK.sl.has b
 el:b.aO=ns l
 len:l.length<=2000
theorem pA.ln{b:AV}{l:List UInt8}(h:pA b l):b.aO.length=l.length:=by rw[h.el];simp[ns]
theorem pA.get{b:AV}{l:List UInt8}(h:pA b l){i:Nat}(hi:i<l.length):b.aO.getD i []=[.v (.int .u8 ((l[i]).toNat:Int))]:=by rw[h.el];simp[ns,aa,hi]
def dO(b:AV)(p c:Nat)(X:AV->Prop):AV->List Ob->Prop:=fun r o=>∃q:Nat,p<=q/\q<=p+c/\X r/\o=[.cells [b,.v (.int .i64 (q:Int))]]
theorem dO.ne{b:AV}{p c:Nat}{X:AV->Prop}{r:AV}(h:X r):∃r o,dO b p c X r o:=⟨r,_,p,au _,Nat.le_add_right _ _,h,rfl⟩
theorem y8{a b:Int}(ha:0<=a)(hb:0<=b)(ha':a<9223372036854775808)(hb':b<9223372036854775808):∃W:Nat,v7 .i64 a b=(W:Int):=by
 obtain⟨x,rfl⟩:∃x:Nat,a=(x:Int):=⟨a.toNat,by omega⟩
 obtain⟨y,rfl⟩:∃y:Nat,b=(y:Int):=⟨b.toNat,by omega⟩
 have e1:(BitVec.ofInt 64 (x:Int)).toNat=x:=by simp;omega
 have e2:(BitVec.ofInt 64 (y:Int)).toNat=y:=by simp;omega
 have hlt:x ^^^ y<2 ^ 63:=Nat.xor_lt_two_pow (by omega) (by omega)
 refine⟨x ^^^ y,?_⟩
 unfold v7
 have e3:(BitVec.ofInt (IntKind.bits .i64) (x:Int) ^^^ BitVec.ofInt (IntKind.bits .i64) (y:Int)).toNat=x ^^^ y:=by
  show (BitVec.ofInt 64 (x:Int) ^^^ BitVec.ofInt 64 (y:Int)).toNat=_
  rw[BitVec.toNat_xor,e1,e2]
 rw[e3,VL.wrap64]<;>omega
theorem ub(a b:Nat):Int.tdiv (a:Int) (b:Int)=((a/b:Nat):Int):=(Int.ofNat_tdiv a b).symm
theorem nX(a b:Nat):cQ (a:Int) (b:Int)=((a%b:Nat):Int):=(Int.ofNat_tmod a b).symm
theorem rM(n:Nat)(h:n<9223372036854775808):IntKind.wrap .i64 (n:Int)=(n:Int):=VL.wrap64 _ (by omega) (by omega)
def zV(n:Nat):AV->Prop:=fun r=>∃k:Nat,r=.v (.int .i64 (k:Int))/\(1<=n->k<n)/\k<=n
abbrev nS:Nat:=1000000000000000
theorem tX(b:AV)(l:List UInt8)(hb:pA b l)(p n:Nat)(hp:p<2*nS)(hn:n<nS):ap Tryz.prog 13 [.ref 0 0,.v (.int .i64 (n:Int))] [.cells [b,.v (.int .i64 (p:Int))]] (dO b p 1 (zV n)):=by
 refine KJ _ _ _ hb.has ?_
 have e1:IntKind.wrap .i64 ((p:Int)+1)=((p+1:Nat):Int):=by rw[VL.wrap64]<;>simp[nS]at hp<;>omega
 have e2:IntKind.wrap .i64 (((p+1:Nat):Int)-1)=(p:Int):=by rw[VL.wrap64]<;>simp[nS]at hp<;>omega
 have fin:∀k:Nat,(1<=n->k<n)->k<=n->dO b p 1 (zV n) (.v (.int .i64 (k:Int))) [.cells [b,.v (.int .i64 ((p+1:Nat):Int))]]:=fun k h h'=>⟨p+1,by omega,au _,⟨k,rfl,h,h'⟩,rfl⟩
 simp only[HL,↓zq,zs,ae,e1,e2,hb.ln,ub,nX]
 refine⟨fun h=>fin 0 (fun h'=>by omega) (Nat.zero_le _),fun h=>⟨hb.has,fun h0=>fin 0 (fun h'=>by omega) (Nat.zero_le _),fun h0=>?_⟩⟩
 have hl:0<l.length:=by omega
 have hll:=hb.len
 refine⟨hb.has,fun hlt=>?_,fun hge=>?_⟩
 ·have hlt:p<l.length:=by omega
  have hx:=(l[p]).toNat_lt
  simp only[cc,hb.get hlt,hb.has,↓zq,zs,ae]
  rw[rM _ (by omega),nX]
  have:=fin ((l[p]).toNat%n) (fun h'=>dA _ (by omega)) (Nat.le_of_lt (dA _ (by omega)))
  repeat (first|exact this|refine⟨by omega,?_⟩)
 ·have h1:p%l.length<l.length:=dA _ hl
  have e3:IntKind.wrap .i64 ((p:Int)*7)=((p*7:Nat):Int):=by rw[VL.wrap64]<;>simp[nS]at hp<;>omega
  have e4:IntKind.wrap .i64 (((p*7:Nat):Int)+3)=((p*7+3:Nat):Int):=by rw[VL.wrap64]<;>simp[nS]at hp<;>omega
  have h2:(p*7+3)%l.length<l.length:=dA _ hl
  have hx:=(l[p%l.length]).toNat_lt
  have hy:=(l[(p*7+3)%l.length]).toNat_lt
  have hq:p/l.length<=p:=Nat.div_le_self _ _
  simp only[e3,e4,nX,cc,hb.get h1,hb.get h2,hb.has,↓zq,zs,ae]
  generalize hxx:(l[p%l.length]).toNat=x at hx |-
  generalize hyy:(l[(p*7+3)%l.length]).toNat=y at hy |-
  generalize hqq:p/l.length=q at hq |-
  have f1:IntKind.wrap .i64 ((x:Int))=(x:Int):=rM _ (by omega)
  have f2:IntKind.wrap .i64 ((y:Int))=(y:Int):=rM _ (by omega)
  have f3:IntKind.wrap .i64 ((x:Int)*131)=((x*131:Nat):Int):=by rw[VL.wrap64]<;>omega
  have f4:IntKind.wrap .i64 ((y:Int)*1117)=((y*1117:Nat):Int):=by rw[VL.wrap64]<;>omega
  have f5:IntKind.wrap .i64 (((x*131:Nat):Int)+((y*1117:Nat):Int))=((x*131+y*1117:Nat):Int):=by rw[VL.wrap64]<;>omega
  have f6:IntKind.wrap .i64 ((p:Int)*29)=((p*29:Nat):Int):=by rw[VL.wrap64]<;>simp[nS]at hp<;>omega
  have f7:IntKind.wrap .i64 (((x*131+y*1117:Nat):Int)+((p*29:Nat):Int))=((x*131+y*1117+p*29:Nat):Int):=by rw[VL.wrap64]<;>simp[nS]at hp<;>omega
  have f8:IntKind.wrap .i64 ((q:Int))=(q:Int):=rM _ (by simp[nS]at hp;omega)
  have f9:IntKind.wrap .i64 ((q:Int)*53)=((q*53:Nat):Int):=by rw[VL.wrap64]<;>simp[nS]at hp<;>omega
  have f10:IntKind.wrap .i64 (((x*131+y*1117+p*29:Nat):Int)+((q*53:Nat):Int))=((x*131+y*1117+p*29+q*53:Nat):Int):=by rw[VL.wrap64]<;>simp[nS]at hp<;>omega
  simp only[f1,f2,f3,f4,f5,f6,f7,f8,f9,f10]
  generalize hV:x*131+y*1117+p*29+q*53=V
  have hVl:V<1000000000000000000:=by simp[nS]at hp;omega
  have f11:IntKind.wrap .i64 (Int.tdiv (V:Int) 64)=((V/64:Nat):Int):=by
   have:Int.tdiv (V:Int) 64=((V/64:Nat):Int):=ub V 64
   rw[this,rM _ (by omega)]
  rw[f11]
  obtain⟨W,hW⟩:=y8 (a:=(V:Int)) (b:=((V/64:Nat):Int)) (by omega) (by omega) (by omega) (by omega)
  rw[hW,nX]
  have:=fin (W%n) (fun h'=>dA _ (by omega)) (Nat.le_of_lt (dA _ (by omega)))
  repeat (first|exact this|refine⟨by omega,?_⟩)
def jl(L:List (List UInt8)):AV->Prop:=fun r=>∃s,s∈L/\r=.v (.string (mk s))
theorem yB(b:AV)(l:List UInt8)(hb:pA b l)(p:Nat)(hp:p<2*nS)(L:List (List UInt8))(a:AV)(ha:dD a L)(hL:0<L.length)(hLl:L.length<1000000):ap Tryz.prog 23 [.ref 0 0,a] [.cells [b,.v (.int .i64 (p:Int))]] (dO b p 1 (jl L)):=by
 refine Kj _ _ _ ha.1 hb.has ?_
 unfold Fp
 simp only[↓zq,zs,ae,ha.len]
 refine⟨ha.1,?_⟩
 have hpk:=tX b l hb p L.length hp (by simp[nS];omega)
 refine aT hpk (dO.ne ⟨0,rfl,fun h=>h,Nat.zero_le _⟩) ?_
 rintro r o ⟨q,h1,h2,⟨k,rfl,h3,h4⟩,rfl⟩
 have hk:=h3 hL
 simp only[↓zq,zs,ae,zt,aN,hb.has,ha.idx hk,cc]
 refine⟨⟨ha.1,by omega⟩,?_⟩
 have:dO b p 1 (jl L) (.v (.string (mk (L.getD k [])))) [.cells [b,.v (.int .i64 (q:Int))]]:=⟨q,h1,h2,⟨_,by simp[aa,hk],rfl⟩,rfl⟩
 repeat (first|exact this|refine⟨by omega,?_⟩)
def eZ(n:Nat):AV->Prop:=fun r=>∃s:List UInt8,r=.v (.string (mk s))/\s.length<=n
theorem jl.pr{L:List (List UInt8)}{n:Nat}(h:∀s,s∈L->s.length<=n){r:AV}(hr:jl L r):eZ n r:=by
 obtain⟨s,h1,h2⟩:=hr;exact⟨s,h2,h s h1⟩
end Go.Proofs.Trees
namespace Go.Proofs.Trees
open Go Go.VL Go.RowKit
def il:AV->List Ob->Prop:=fun r o=>o=[]/\∃b:Bool,r=.v (.bool b)
theorem il.ne:∃r o,il r o:=⟨_,_,rfl,true,rfl⟩
theorem il.mk(b:Bool):il (.v (.bool b)) []:=⟨rfl,b,rfl⟩
theorem il.call{n:Nat}{f:Nat}{xs:List AV}{k:AV->List Ob->Tree}{Q:Nat->List AV->List Ob->Prop}(h:ap Tryz.prog f xs [] il)(hk:∀b:Bool,dM Tryz.prog n (k (.v (.bool b)) []) Q):dM Tryz.prog n (.call f xs [] k) Q :=
 aT h il.ne (by rintro r o ⟨rfl,b,rfl⟩;exact hk b)
theorem Ef{e:E}(h:Wf e):∀(l:List Nm) (a:AV),dD a l->l.length+e.sz<100000->ap Tryz.prog 45 [.agg [.v (.string (mk e.at)),e.sp],a] [] il:=by
 induction h with
 |
  @atom s hs =>
  intro l a ha hl
  simp only[E.sz]at hl
  refine yg _ _ _ ((a6 _).mpr trivial) ha.1 ?_
  simp only[Gi,dI,↓zq,zs,ae]
  refine al (vS s _ ((a6 (.atom s)).mpr trivial) hs) ?_
  simp only[↓zq,zs,ae,zt,ha.1]
  refine⟨fun h=>(by cases h),fun _=>⟨fun h=>(by cases h),fun _=>⟨fun h=>(by cases h),fun _=>⟨fun _=>.mk true,fun _=>?_⟩⟩⟩⟩
  refine al (C7 l a ha s (by omega)) ?_
  simp only[↓zq,zs,ae]
  exact .mk _
 |
  @plus x y hx hy i1 i2 =>
  intro l a ha hl
  simp only[E.sz,E.gT]at hl
  refine yg _ _ _ ((a6 _).mpr trivial) ha.1 ?_
  have hP:=P3.of (.atom [43]) x y
  simp only[Gi,cK,toNat_one,bf,↓zq,zs,ae,zt,hP.1,hP.2.1,hP.2.2.1,hP.2.2.2,aM]
  refine al (ph [43] x y) ?_
  simp only[↓zq,zs,ae,zt,ha.1,aM]
  refine⟨fun _=>⟨by omega,by omega,il.call (i1 l a ha (by omega)) fun b=>?_⟩,fun h=>absurd rfl h⟩
  simp only[↓zq,zs,ae]
  refine⟨fun _=>⟨by omega,by omega,il.call (i2 l a ha (by omega)) fun b=>?_⟩,fun _=>.mk _⟩
  simp only[↓zq,zs,ae]
  exact .mk _
 |
  @times x y hx hy i1 i2 =>
  intro l a ha hl
  simp only[E.sz,E.gT]at hl
  refine yg _ _ _ ((a6 _).mpr trivial) ha.1 ?_
  have hP:=P3.of (.atom [42]) x y
  simp only[Gi,cK,toNat_one,bf,↓zq,zs,ae,zt,hP.1,hP.2.1,hP.2.2.1,hP.2.2.2,aM]
  refine al (ph [42] x y) ?_
  simp only[↓zq,zs,ae,zt,ha.1,aM]
  refine⟨fun h=>(by cases h),fun _=>⟨fun _=>⟨by omega,by omega,il.call (i1 l a ha (by omega)) fun b=>?_⟩,fun h=>absurd rfl h⟩⟩
  simp only[↓zq,zs,ae]
  refine⟨fun _=>.mk _,fun _=>⟨by omega,by omega,il.call (i2 l a ha (by omega)) fun b=>?_⟩⟩
  simp only[↓zq,zs,ae]
  exact .mk _
 |
  @rc n b hn hb i =>
  intro l a ha hl
  simp only[E.sz,E.gT]at hl
  refine yg _ _ _ ((a6 _).mpr trivial) ha.1 ?_
  have hP:=P3.of (.atom fN) (.atom n) b
  simp only[Gi,cK,toNat_one,bf,↓zq,zs,ae,zt,hP.1,hP.2.1,hP.2.2.1,hP.2.2.2,aM]
  refine al (ph fN (.atom n) b) ?_
  simp only[↓zq,zs,ae,zt,ha.1,aM]
  refine⟨fun h=>(by cases h),fun _=>⟨fun h=>(by cases h),fun _=>⟨fun _=>⟨by omega,by omega,by omega,by omega,?_⟩,fun h=>absurd rfl h⟩⟩⟩
  refine al (Dh l a ha n (by omega)) ?_
  simp only[↓zq,zs,ae,zt]
  refine il.call (i (l++[n]) _ (.of _) (by simp;omega)) fun b=>?_
  simp only[↓zq,zs,ae]
  exact .mk _
def Ko:AV->List Ob->Prop:=fun r o=>o=[]/\∃(g:E) (b:Bool),r=.cV [.agg [.v (.string (mk g.at)),g.sp],.v (.bool b)]/\Wf g/\g.dN<=400
theorem K2{n:Nm}{b:E}(hn:sD n)(hb:Wf b)(hl:(E.list [.atom fN,.atom n,b]).dN<=400):ap Tryz.prog 48 [.agg [.v (.string (mk [])),(E.list [.atom fN,.atom n,b]).sp]] [] Ko:=by
 have hw:Wf (.list [.atom fN,.atom n,b]):=.rc hn hb
 refine KL _ _ ((a6 _).mpr trivial) ?_
 have hP:=P3.of (.atom fN) (.atom n) b
 have hbl:b.dN<=400:=by simp only[E.dN,E.eJ]at hl;omega
 simp only[E4,toNat_one,bf,↓zq,zs,ae,zt,hP.1,hP.2.1,hP.2.2.1,hP.2.2.2,aM]
 refine⟨by omega,by omega,by omega,by omega,?_⟩
 have hf:=Jg hn hb hw (by omega) (by omega)
 obtain⟨g,g1,g2,g3⟩:=IF hn hb hw hbl hl
 simp only[cK]at hf g3
 refine al hf ?_
 simp only[↓zq,zs,ae,zt,aM]
 refine⟨fun h=>⟨rfl,_,false,rfl,hw,hl⟩,fun h=>?_⟩
 repeat refine⟨by omega,?_⟩
 refine al g3 ?_
 simp only[↓zq,zs,ae,zt,aM]
 refine⟨rfl,g,true,rfl,g1,?_⟩
 rw[g1.dN [],g2]
 simpa using h
end Go.Proofs.Trees
namespace Go.Proofs.Trees
open Go Go.VL Go.RowKit
def ic(n:Nat):AV->Prop:=fun r=>∃e:E,r=.agg [.v (.string (mk e.at)),e.sp]/\e.ok/\(kB e).length<=n
theorem ic.u(n:Nat)(h:1<=n):ic n (.agg [.v (.string (mk [117])),.v (.slice none 0 0)]):=⟨.atom [117],rfl,by simp[E.ok],by simpa[kB]using h⟩
end Go.Proofs.Trees
