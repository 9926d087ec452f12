/-
  Part of a proof: Go functions read by values, trees of functions, their contracts.
-/
import Derived.Test.YtphdaefkjfbfoaaGreatDoorP4
import Derived.Lib.Atoi
set_option linter.unusedVariables false
set_option linter.unusedSimpArgs false
open And renaming intro→aC
open Bool renaming and_eq_true→ak,eq_iff_iff→cj,or_assoc→cx,or_eq_true→bD,true_and→cJ
open Int renaming cast_ofNat_Int→ci,ofNat_eq_natCast→bV,tmod→cr,toNat→bk,toNat_natCast→bi
open List renaming any_eq_true→bC,drop_eq_getElem_cons→a7,drop_eq_nil_of_le→bf,drop_zero→cg,getD_cons_zero→bo,getD_eq_getElem?_getD→aa,getElem?_eq_getElem→bG,getElem_mem→cH,headD_cons→ba,length_append→ap,length_cons→az,length_nil→aF,map_cons→bF,mem_append→aM,mem_append_left→aB,mem_append_right→aq,mem_cons→aG,mem_cons_of_mem→ai,mem_cons_self→af,mem_map→bL,mem_singleton→bh,nil_append→dj,tail_cons→bz,takeWhile_append_dropWhile→bu
open Nat renaming add_mul→dE,le_add_right→cI,le_refl→aw,lt_of_lt_of_le→bK,mod_lt→cX,mul_le_mul_right→aK,zero_add→aR
open Option renaming getD_some→co,isSome_iff_exists→bm,map_some→bZ
open UInt8 renaming ofNat→aW,toNat_inj→cC
namespace Go.Proofs.Trees
open Go Go.VL
theorem uY(n:Nat)(hn:n<=100):∀(e:E) (t:Ty),e.ok->bJ e []=some t->pure t=true->au Tryz.prog 88 [e.ic,.v (.int .i64 (n:Int))] [] (qE (eg n t))
 |
  .atom s,t,hok,ht,hp=>by
  refine Ct _ _ _ ((a8).mpr trivial) ?_
  have hne:s≠[]:=hok
  simp only[bJ]at ht
  simp only[AD,↓zq,zs,ag,zt]
  refine⟨fun _=>⟨fun h=>?_,fun h=>⟨fun h1=>?_,fun h1=>?_⟩⟩,fun h=>absurd h hne⟩
  ·rw[if_pos h]at ht;cases ht;exact⟨0,rfl,fun c h=>(by cases h;rfl)⟩
  ·rw[if_neg h,if_pos h1]at ht;cases ht;exact⟨1,rfl,fun c h=>(by cases h;rfl)⟩
  ·rw[if_neg h,if_neg h1]at ht
   split at ht
   ·cases ht;exact⟨(n:Int),rfl,fun c h=>(by cases h;rfl)⟩
   ·split at ht
    ·simp only[aF,bx]at ht
     cases ht;exact⟨(n:Int),rfl,fun c h=>(by cases h;rfl)⟩
    ·cases ht
 | .list [],_,_,h,_=>by cases h
 | .list [_],_,_,h,_=>by cases h
 | .list [_,_],_,_,h,_=>by cases h
 | .list (_::_::_::_::_),_,_,h,_=>by cases h
 |
  .list [x,a,b],t,hok,ht,hp=>by
  refine Ct _ _ _ ((cu _).mpr trivial) ?_
  obtain⟨ok1,ok2,ok3,_⟩:=hok
  have key:(x.at=[43]/\∃t1 t2,bJ a []=some t1/\bJ b []=some t2/\t=.plus t1 t2)\/(x.at=[42]/\∃t1 t2,bJ a []=some t1/\bJ b []=some t2/\t=.times t1 t2):=by
   by_cases h0:x.at=[43]
   ·exact .inl ⟨h0,cY h0 ht⟩
   ·by_cases h1:x.at=[42]
    ·exact .inr ⟨h1,cO h1 ht⟩
    ·by_cases h2:x.at=[114,101,99]
     ·obtain⟨t1,_,_,rfl⟩:=cP h2 ht
      cases hp
     ·rw[eD [] h0 h1 h2]at ht;cases ht
  obtain⟨t1,t2,e1,e2,p1,p2⟩:∃t1 t2,bJ a []=some t1/\bJ b []=some t2/\pure t1=true/\pure t2=true:=by
   rcases key with⟨_,t1,t2,e1,e2,rfl⟩|⟨_,t1,t2,e1,e2,rfl⟩ <;>
    (simp only[pure,ak]at hp;exact⟨t1,t2,e1,e2,hp.1,hp.2⟩)
  simp only[AD,E.aV,toNat_one,be,↓zq,zs,ag,zt,eh,dG,ej,gJ,aw]
  refine⟨fun h=>absurd rfl h,fun _=>⟨by omega,?_⟩⟩
  refine aQ (uY n hn a t1 ok2 e1 p1) (qE.ne _) ?_
  rintro r o ⟨v1,rfl,hv1⟩
  simp only[↓zq,zs,ag]
  refine⟨by omega,?_⟩
  refine aQ (uY n hn b t2 ok3 e2 p2) (qE.ne _) ?_
  rintro r o ⟨v2,rfl,hv2⟩
  simp only[↓zq,zs,ag]
  refine al (rr x [a,b]) ?_
  simp only[↓zq,zs,ag,zt]
  rcases key with⟨hx,u1,u2,f1,f2,rfl⟩|⟨hx,u1,u2,f1,f2,rfl⟩
  ·rw[e1]at f1;rw[e2]at f2;cases f1;cases f2
   refine⟨fun h=>(by rw[hx]at h;cases h),fun _=>⟨fun ha=>⟨fun hb=>?_,fun hb=>?_⟩,fun ha=>?_⟩⟩
   ·obtain⟨c1,hc1⟩:=bm.1 ha
    obtain⟨c2,hc2⟩:=bm.1 hb
    have l1:=dM n hn t1 c1 hc1
    have l2:=dM n hn t2 c2 hc2
    rw[hv1 c1 hc1,hv2 c2 hc2,wrap64 _ (by omega) (by omega)]
    simp only[eg,hc1,hc2,lB]
    refine⟨((c1+c2:Nat):Int),?_,?_⟩
    ·by_cases hc:c1+c2<=1000000000
     ·rw[if_pos hc,decide_eq_true (by omega)];simp
     ·rw[if_neg hc,decide_eq_false (by omega)];simp
    ·intro c hc;split at hc<;>cases hc;rfl
   ·have hn2:eg n t2=none:=by cases hq:eg n t2<;>simp[hq]at hb |-
    have:eg n (.plus t1 t2)=none:=by simp only[eg,hn2];cases eg n t1<;>rfl
    rw[this];exact⟨_,rfl,fun c h=>by cases h⟩
   ·have hn1:eg n t1=none:=by cases hq:eg n t1<;>simp[hq]at ha |-
    have:eg n (.plus t1 t2)=none:=by simp only[eg,hn1]
    rw[this];exact⟨_,rfl,fun c h=>by cases h⟩
  ·rw[e1]at f1;rw[e2]at f2;cases f1;cases f2
   refine⟨fun _=>⟨fun ha=>⟨fun hb=>?_,fun hb=>?_⟩,fun ha=>?_⟩,fun h=>absurd hx h⟩
   ·obtain⟨c1,hc1⟩:=bm.1 ha
    obtain⟨c2,hc2⟩:=bm.1 hb
    have l1:=dM n hn t1 c1 hc1
    have l2:=dM n hn t2 c2 hc2
    have hxy:=lp l1 l2
    have e:(c1:Int)*(c2:Int)=((c1*c2:Nat):Int):=by simp
    rw[hv1 c1 hc1,hv2 c2 hc2,e,wrap64 ((c1*c2:Nat):Int) (by omega) (by omega)]
    simp only[eg,hc1,hc2,lB]
    refine⟨((c1*c2:Nat):Int),?_,?_⟩
    ·by_cases hc:c1*c2<=1000000000
     ·rw[if_pos hc,decide_eq_true (by omega)];rfl
     ·rw[if_neg hc,decide_eq_false (by omega)];rfl
    ·intro c hc;split at hc<;>cases hc;rfl
   ·have hn2:eg n t2=none:=by cases hq:eg n t2<;>simp[hq]at hb |-
    have:eg n (.times t1 t2)=none:=by simp only[eg,hn2];cases eg n t1<;>rfl
    rw[this];exact⟨_,rfl,fun c h=>by cases h⟩
   ·have hn1:eg n t1=none:=by cases hq:eg n t1<;>simp[hq]at ha |-
    have:eg n (.times t1 t2)=none:=by simp only[eg,hn1]
    rw[this];exact⟨_,rfl,fun c h=>by cases h⟩
def lX(s:List UInt8)(n:Int):Option Nat:=if 0<=n/\n<=100 then(match tE s with|some t=>eg n.toNat t|none=>none)else none
theorem nG{s:List UInt8}{n:Int}{N:Nat}(h:lX s n=some N):∃(m:Nat) (t:Ty),n=(m:Int)/\m<=100/\tE s=some t/\eg m t=some N:=by
 unfold lX at h
 split at h
 ·rename_i hn
  split at h
  ·rename_i t ht
   exact⟨n.toNat,t,by omega,by omega,ht,h⟩
  ·cases h
 ·cases h
theorem zB(s:List UInt8)(n:Int):au Tryz.prog 11 [.v (.string (mk s)),.v (.int .i64 n)] [] (bq (ec (lX s n))):=by
 refine Fe _ _ ?_
 unfold Ep
 refine al (Dc s) ?_
 unfold lX
 cases hs:tE s with
 |none=>simp only[fw,↓zq,zs,ag,bq];simp[ec]
 |
  some t =>
  have hp:pure t=true:=by
   cases he:jA s with
   |none=>rw[kf he]at hs;cases hs
   |
    some e =>
    obtain⟨t',h1,_,h2,_⟩:=j1 he
    rw[hs]at h1;cases h1;exact h2
  simp only[fw,↓zq,zs,ag,aP,du,bq]
  refine⟨fun h=>(by cases h),fun _=>⟨fun h=>?_,fun h=>⟨fun h1=>?_,fun h1=>?_⟩⟩⟩
  ·rw[if_neg (by omega)];rfl
  ·rw[if_neg (by omega)];rfl
  ·obtain⟨m,rfl⟩:∃m:Nat,n=(m:Int):=⟨n.toNat,by omega⟩
   refine al (vw m (by omega) t hp) ?_
   rw[if_pos (by omega),bi]
   cases eg m t<;>simp[ec,↓zq,zs,ag]
theorem GY(s:List UInt8)(n:Int):au Tryz.prog 38 [.v (.string (mk s)),.v (.int .i64 n)] [] (bq (ec (lX s n))):=by
 refine G6 _ _ ?_
 unfold Bz
 refine aQ (C7 s) (jC.ne _ _ (fun h=>h)) ?_
 rintro r o ⟨c,d,hd,rfl,hh⟩
 simp only[↓zq,zs,ag,zt,cd,bq]
 refine⟨hd,fun h=>?_,fun h=>?_⟩
 ·have hn:jA s=none:=by cases hq:jA s<;>simp[hq]at h |-
  unfold lX
  rw[kf hn];simp[ec]
 ·obtain⟨e,he,hce⟩:=hh h
  obtain⟨t,h1,ht,hp,hok,_⟩:=j1 he
  refine al (vf _ _ _) ?_
  simp only[↓zq,zs,ag,xz,lX,h1]
  refine⟨fun h=>?_,fun h=>?_⟩
  ·rw[if_neg (by simpa using h)];rfl
  ·have h':0<=n/\n<=100:=by simpa using h
   obtain⟨m,rfl⟩:∃m:Nat,n=(m:Int):=⟨n.toNat,by omega⟩
   rw[if_pos h',bi,hce]
   refine aQ (uY m (by omega) e t hok ht hp) (qE.ne _) ?_
   rintro r o ⟨v,rfl,hv⟩
   simp only[↓zq,zs,ag]
   cases hc:eg m t with
   |none=>simp[ec]
   |some c=>rw[hv c hc];simp[ec]
end Go.Proofs.Trees
namespace Go.Proofs.Trees
open Go Go.VL Go.RowKit
abbrev dd(n:Nat):List UInt8:=Lib.decDigits n
theorem eS{k:Nat}(h:k<10):dd k=[aW (48+k)]:=by rw[dd,Lib.decDigits,dif_pos h]
theorem fJ{k:Nat}(h:¬k<10):dd k=dd (k/10)++[aW (48+k%10)]:=by rw[dd,Lib.decDigits,dif_neg h]
theorem kI:∀(n k:Nat),k<n->(dd k).length<=k+1
 |0,k,h=>by omega
 |
  n+1,k,h=>by
  by_cases h1:k<10
  ·rw[eS h1];simp
  ·rw[fJ h1]
   have:=kI n (k/10) (by omega)
   simp only[ap,az,aF];omega
theorem sn(d:Nat)(h:d<10):(Value.int .u8 (IntKind.wrap .u8 (IntKind.wrap .i64 (48+(d:Int)))))=.int .u8 ((aW (48+d)).toNat:Int):=by
 have:d=0\/d=1\/d=2\/d=3\/d=4\/d=5\/d=6\/d=7\/d=8\/d=9:=by omega
 rcases this with rfl|rfl|rfl|rfl|rfl|rfl|rfl|rfl|rfl|rfl<;>rfl
theorem mo(b:UInt8):bytesOf [[.v (.int .u8 (b.toNat:Int))]]=[b]:=by simp[bytesOf,tx]
theorem iI(b:UInt8):jT [[.v (.int .u8 (b.toNat:Int))]]:=⟨rfl,(sT _ _).mpr trivial,trivial⟩
theorem yd:∀(n k:Nat),k<n->k<1000000000->au Tryz.prog 54 [.v (.int .i64 (k:Int))] [] (bq (.v (.string (mk (dd k)))))
 |0,k,h,_=>by omega
 |
  n+1,k,h,hk=>by
  refine F0 _ ?_
  simp only[DU,↓zq,zs,ag,bq]
  refine⟨fun h=>by omega,fun _=>⟨fun h=>by omega,fun _=>⟨fun h1=>?_,fun h1=>⟨by omega,?_⟩⟩⟩⟩
  ·rw[sn k (by omega)]
   refine⟨iI _,?_⟩
   rw[mo,eS (by omega)];rfl
  ·have e1:IntKind.wrap .i64 (Int.tdiv (k:Int) 10)=((k/10:Nat):Int):=by
    rw[show Int.tdiv (k:Int) 10=((k/10:Nat):Int) from (Int.ofNat_tdiv k 10).symm,wrap64 _ (by omega) (by omega)]
   have e2:cr (k:Int) 10=((k%10:Nat):Int):=(Int.ofNat_tmod k 10).symm
   rw[e1,e2,sn (k%10) (by omega)]
   refine al (yd n (k/10) (by omega) (by omega)) ?_
   have hl:=kI (k+1) (k/10) (by omega)
   simp only[↓zq,zs,ag,zt,mo]
   have h9:(k:Int)<1000000000:=by omega
   refine⟨by omega,iI _,?_,?_⟩
   ·show (mk (dd (k/10))).size+(mk [aW (48+k%10)]).size<=_
    rw[db,db];simp;omega
   ·show AV.v (.string (mk (dd (k/10))++mk [aW (48+k%10)]))=_
    rw[iK,fJ (k:=k) (by omega)]
theorem FU(k:Nat)(hk:k<100):au Tryz.prog 94 [.v (.int .i64 (k:Int))] [] (bq (.v (.string (mk (dd k))))):=by
 refine au.Hb (xs:=[.int .i64 (k:Int)]) ⟨mS,by kernel_rfl,by kernel_rfl,by kernel_rfl⟩ fun w=>?_
 have:=Any.strconv_Itoa_small Tryz.xg k hk w
 refine Calls.mono this fun e w' ⟨h1,h2⟩=>⟨h1,?_⟩
 subst h2;exact Below.refl _ _
theorem xQ(s:List UInt8)(d:AV)(hd:LK.sl.has d)(h:s≠[]):au Tryz.prog 90 [.agg [.v (.string (mk s)),d]] [] (bq (.v (.string (mk [])))):=by
 refine AO _ _ hd ?_
 simp only[wO,↓zq,zs,ag,zt,bq]
 exact⟨fun _=>trivial,fun h'=>absurd h' h⟩
theorem w7(e:E):AV.agg [.v (.string ((e.ic.cs.getD 0 .any).ah)),e.ic.cs.getD 1 .any]=e.ic:=by cases e<;>rfl
mutual
def ia:E->List UInt8
 | .atom s=>s
 | .list []=>[40,41]
 | .list (e::l)=>40::(ia e++(eI l++[41]))
def eI:List E->List UInt8
 |[]=>[]
 |e::l=>32::(ia e++eI l)
end
theorem tO:∀(l:List E) (i:Nat) (h:i<l.length),eI (l.drop i)=32::(ia l[i]++eI (l.drop (i+1))):=by
 intro l i h
 rw[a7 h,eI]
theorem Es(l:List E)(hll:l.length<1000000000000)(ih:∀i (h:i<l.length),au Tryz.prog 57 [(l[i]).ic] [] (bq (.v (.string (mk (ia l[i])))))) :
 ∀(k i:Nat) (out:List UInt8),i+k=l.length->1<=i->out.length+(eI (l.drop i)).length<=1000000000000->vX [.v (.string (mk out)),.v (.int .i64 (i:Int))] [.cells [.v (.string (mk [])),.sl (E.aV l)]] (mP 1 [.v (.string (mk (out++eI (l.drop i))))] [])
 |
  0,i,out,hi,h1,hn=>by
  refine xO _ _ _ _ ?_
  simp only[wj,↓zq,zs,ag,da]
  have:l.drop i=[]:=bf (by omega)
  refine⟨fun h=>by omega,fun _=>?_⟩
  simp[mP,this,eI]
 |
  k+1,i,out,hi,h1,hn=>by
  have hlt:i<l.length:=by omega
  have hd:=tO l i hlt
  rw[hd]at hn
  simp only[az,ap]at hn
  refine xO _ _ _ _ ?_
  simp only[wj,↓zq,zs,ag,zt,da,gM l i hlt,dG,ej,eh,aw]
  refine⟨fun _=>⟨fun _=>⟨by omega,by omega,?_⟩,fun h=>by omega⟩,fun h=>by omega⟩
  refine al (ih i hlt) ?_
  simp only[↓zq,zs,ag,zt]
  refine⟨by simp;omega,?_⟩
  rw[ct i (by omega),hd]
  have:=Es l hll ih k (i+1) (out++[32]++ia l[i]) (by omega) (by omega) (by simp;omega)
  simpa using this
theorem sj:∀(l:List E) (i:Nat) (h:i<l.length),(ia l[i]).length<=(eI l).length
 |e::l,0,_=>by simp only[eI,List.getElem_cons_zero,az,ap];omega
 |e::l,i+1,h=>by have:=sj l i (by simpa using h);simp only[eI,List.getElem_cons_succ,az,ap];omega
theorem qH:∀l:List E,l.length<=(eI l).length
 |[]=>by simp[eI]
 |e::l=>by have:=qH l;simp only[eI,az,ap];omega
theorem zC:∀(n:Nat) (e:E),e.sz<n->e.ok->(ia e).length<=900000000000->au Tryz.prog 57 [e.ic] [] (bq (.v (.string (mk (ia e)))))
 |0,e,hn,_,_=>by omega
 |
  n+1,.atom s,hn,hok,hl=>by
  refine AP _ _ ((a8).mpr trivial) ?_
  have hne:s≠[]:=hok
  simp only[yk,↓zq,zs,ag,zt,bq]
  exact⟨fun _=>rfl,fun h=>absurd h hne⟩
 |
  n+1,.list [],hn,hok,hl=>by
  refine AP _ _ ((cu _).mpr trivial) ?_
  simp only[yk,↓zq,zs,ag,zt,bq]
  refine⟨fun h=>absurd rfl h,fun _=>?_⟩
  have h1:vX [.v (.string (mk [40])),.v (.int .i64 0)] [.cells [.v (.string (mk [])),.sl (E.aV [])]] (mP 1 [.v (.string (mk [40]))] []):=by
   refine xO _ _ _ _ ?_
   simp[wj,↓zq,zs,ag,E.aV,mP]
  refine dY h1 ?_
  simp only[↓zq,zs,ag,zt]
  exact⟨by simp,rfl⟩
 |
  n+1,.list (x::l),hn,hok,hl=>by
  refine AP _ _ ((cu _).mpr trivial) ?_
  simp only[E.sz,E.gD]at hn
  simp only[ia,az,ap,aF]at hl
  have h2:=qH l
  simp only[yk,↓zq,zs,ag,zt,bq]
  refine⟨fun h=>absurd rfl h,fun _=>?_⟩
  have hL:vX [.v (.string (mk [40])),.v (.int .i64 0)] [.cells [.v (.string (mk [])),.sl (E.aV (x::l))]] (mP 1 [.v (.string (mk ([40]++ia x++eI l)))] []):=by
   refine xO _ _ _ _ ?_
   simp only[wj,E.aV,Int.toNat_zero,↓zq,zs,ag,zt,da,dG,ej,eh,aw]
   refine⟨fun _=>⟨fun h=>by omega,fun _=>⟨by omega,?_⟩⟩,fun h=>by omega⟩
   refine al (zC n x (by omega) hok.1 (by omega)) ?_
   simp only[↓zq,zs,ag,zt]
   refine⟨by simp;omega,?_⟩
   have:=Es (x::l) (by simp;omega) (fun i hi=>by
    have h3:=p8 (x::l) i hi
    simp only[E.gD]at h3
    refine zC n _ (by omega) (pw _ i hi hok) ?_
    have h4:=sj (x::l) i hi
    simp only[eI,az,ap]at h4
    omega) l.length 1 ([40]++ia x) (by simp;omega) (by omega) (by simp;omega)
   rw[show IntKind.wrap .i64 (0+1)=1 from rfl]
   simpa[E.aV]using this
  refine dY hL ?_
  simp only[↓zq,zs,ag,zt]
  refine⟨by simp;omega,?_⟩
  simp[ia]
mutual
def E.nd:E->Nat
 | .atom _=>1
 | .list []=>1
 | .list (_::l)=>1+E.qf l
def E.qf:List E->Nat
 |[]=>0
 |e::l=>e.nd+E.qf l
end
mutual
theorem wH:∀e:E,e.nd<=e.sz
 | .atom s=>by simp[E.nd,E.sz]
 | .list []=>by simp[E.nd,E.sz,E.gD]
 | .list (x::l)=>by have:=sh l;simp only[E.nd,E.sz,E.gD];omega
theorem sh:∀l:List E,E.qf l<=E.gD l
 |[]=>by simp[E.qf,E.gD]
 |e::l=>by have:=wH e;have:=sh l;simp only[E.qf,E.gD];omega
end
theorem u4:∀(l:List E) (i:Nat) (h:i<l.length),E.qf (l.drop i)=(l[i]).nd+E.qf (l.drop (i+1)):=by
 intro l i h
 rw[a7 h];rfl
theorem D3(l:List E)(hl:E.qf l<1000000)(hll:l.length<1000000)(ih:∀i (h:i<l.length),au Tryz.prog 86 [(l[i]).ic] [] (bq (.v (.int .i64 ((l[i]).nd:Int))))) :
 ∀(k i n:Nat),i+k=l.length->n+E.qf (l.drop i)<=1+E.qf l->wg [.v (.int .i64 (n:Int)),.v (.int .i64 (i:Int))] [.cells [.v (.string (mk [])),.sl (E.aV l)]] (mP 1 [.v (.int .i64 ((n+E.qf (l.drop i):Nat):Int))] [])
 |
  0,i,n,hi,hn=>by
  refine xG _ _ _ _ ?_
  simp only[vE,↓zq,zs,ag,da]
  have:l.drop i=[]:=bf (by omega)
  refine⟨fun h=>by omega,fun _=>?_⟩
  simp[mP,this,E.qf]
 |
  k+1,i,n,hi,hn=>by
  have hlt:i<l.length:=by omega
  refine xG _ _ _ _ ?_
  simp only[vE,↓zq,zs,ag,zt,da,gM l i hlt,dG,ej,eh,aw]
  refine⟨fun _=>⟨by omega,?_⟩,fun h=>by omega⟩
  refine al (ih i hlt) ?_
  have h1:=u4 l i hlt
  simp only[↓zq,zs,ag]
  rw[ct i (by omega),wrap64 _ (by omega) (by omega)]
  have:=D3 l hl hll ih k (i+1) (n+(l[i]).nd) (by omega) (by omega)
  rw[h1,<-Nat.add_assoc]
  simpa using this
theorem Cn:∀(n:Nat) (e:E),e.sz<n->e.sz<900000->au Tryz.prog 86 [e.ic] [] (bq (.v (.int .i64 (e.nd:Int))))
 |0,e,hn,_=>by omega
 |
  n+1,.atom s,hn,hl=>by
  refine DZ _ _ ((a8).mpr trivial) ?_
  simp only[A0]
  have hL:wg [.v (.int .i64 1),.v (.int .i64 1)] [.cells [.v (.string (mk s)),.v (.slice none 0 0)]] (mP 1 [.v (.int .i64 1)] []):=by
   refine xG _ _ _ _ ?_
   simp[vE,↓zq,zs,ag,mP]
  refine dY hL ?_
  simp[↓zq,zs,ag,bq,E.nd]
 |
  n+1,.list l,hn,hl=>by
  refine DZ _ _ ((cu _).mpr trivial) ?_
  simp only[E.sz]at hn hl
  simp only[A0]
  match l,hn,hl with
  |
   [],hn,hl =>
   have hL:wg [.v (.int .i64 1),.v (.int .i64 1)] [.cells [.v (.string (mk [])),.sl (E.aV [])]] (mP 1 [.v (.int .i64 1)] []):=by
    refine xG _ _ _ _ ?_
    simp[vE,↓zq,zs,ag,mP,E.aV]
   refine dY hL ?_
   simp[↓zq,zs,ag,bq,E.nd]
  |
   x::l,hn,hl =>
   simp only[E.gD]at hn hl
   have h1:=sh l
   have h2:=pM l
   have h0:=wH x
   refine dY (D3 (x::l) (by simp only[E.qf];omega) (by simp;omega) (fun i hi=>?_) l.length 1 1 (by simp;omega) (by simp[E.qf])) ?_
   ·have:=p8 (x::l) i hi
    simp only[E.gD]at this
    exact Cn n _ (by omega) (by omega)
   ·simp[↓zq,zs,ag,E.nd,bq]
theorem Hi(e:E)(hl:e.sz<900000):au Tryz.prog 86 [e.ic] [] (bq (.v (.int .i64 (e.nd:Int)))):=Cn (e.sz+1) e (by omega) hl
inductive Vl where
 |u
 |el (k:Nat)
 |l (v:Vl)
 |r (v:Vl)
 |f (v:Vl)
 |p (a b:Vl)
abbrev ug(k:Nat):List UInt8:=101::dd k
abbrev n7:AV:=.v (.pointer none)
def Vl.dw:Vl->AV
 | .u=>.ptr [.v (.int .u8 117),.v (.string (mk [])),n7,n7]
 | .el k=>.ptr [.v (.int .u8 101),.v (.string (mk (ug k))),n7,n7]
 | .l v=>.ptr [.v (.int .u8 108),.v (.string (mk [])),v.dw,n7]
 | .r v=>.ptr [.v (.int .u8 114),.v (.string (mk [])),v.dw,n7]
 | .f v=>.ptr [.v (.int .u8 102),.v (.string (mk [])),v.dw,n7]
 | .p a b=>.ptr [.v (.int .u8 112),.v (.string (mk [])),a.dw,b.dw]
def Vl.gu:Vl->E
 | .u=>.atom [117]
 | .el k=>.atom (ug k)
 | .l v=>.list [.atom [108],v.gu]
 | .r v=>.list [.atom [114],v.gu]
 | .f v=>.list [.atom [102],v.gu]
 | .p a b=>.list [.atom [112],a.gu,b.gu]
def Vl.nodes:Vl->Nat
 | .l v=>1+v.nodes
 | .r v=>1+v.nodes
 | .f v=>1+v.nodes
 | .p a b=>1+a.nodes+b.nodes
 |_=>1
def Vl.oh(n:Nat):Vl->Prop
 | .el k=>k<n
 | .l v=>v.oh n
 | .r v=>v.oh n
 | .f v=>v.oh n
 | .p a b=>a.oh n/\b.oh n
 | .u=>True
abbrev Vl.iZ(v:Vl):List UInt8:=ia v.gu
theorem bj(v:Vl):LK.has .ptr v.dw=True:=by cases v<;>simp[Vl.dw,fA]
theorem ei(v:Vl):v.dw.isNil=false:=by cases v<;>rfl
theorem kF:∀v:Vl,v.gu.nd=v.nodes
 | .u=>rfl
 | .el k=>rfl
 | .l v=>by simp[Vl.gu,E.nd,E.qf,Vl.nodes,kF v]
 | .r v=>by simp[Vl.gu,E.nd,E.qf,Vl.nodes,kF v]
 | .f v=>by simp[Vl.gu,E.nd,E.qf,Vl.nodes,kF v]
 | .p a b=>by simp[Vl.gu,E.nd,E.qf,Vl.nodes,kF a,kF b,Nat.add_assoc]
theorem j7:∀v:Vl,v.oh 100->v.iZ.length<=200*v.nodes
 | .u,_=>by simp[Vl.iZ,Vl.gu,ia,Vl.nodes]
 |
  .el k,h=>by
  have h':k<100:=h
  have:=kI 1000 k (by omega)
  simp only[Vl.iZ,Vl.gu,ia,Vl.nodes,az];omega
 | .l v,h=>by have:=j7 v h;simp only[Vl.iZ,Vl.gu,ia,eI,Vl.nodes,az,ap,aF]at this |-;omega
 | .r v,h=>by have:=j7 v h;simp only[Vl.iZ,Vl.gu,ia,eI,Vl.nodes,az,ap,aF]at this |-;omega
 | .f v,h=>by have:=j7 v h;simp only[Vl.iZ,Vl.gu,ia,eI,Vl.nodes,az,ap,aF]at this |-;omega
 | .p a b,h=>by have:=j7 a h.1;have:=j7 b h.2;simp only[Vl.iZ,Vl.gu,ia,eI,Vl.nodes,az,ap,aF]at *;omega
theorem CB(a b:AV)(h:LK.ptr.has a)(h':LK.ptr.has b):au Tryz.prog 96 [a,b] [] (bq (.ptr [.v (.int .u8 112),.v (.string (mk [])),a,b])):=by
 refine Hc _ _ h h' ?_
 simp[Cv,↓zq,zs,ag,bq]
theorem ka(v:Vl):1<=v.nodes:=by cases v<;>simp[Vl.nodes]<;>omega
theorem AN:∀(v:Vl),v.nodes<1000000->au Tryz.prog 50 [v.dw] [] (bq (.v (.int .i64 (v.nodes:Int))))
 | .u,h=>by refine Bt _ ((bj _).mpr trivial) ?_;simp[zA,Vl.dw,↓zq,zs,ag,bq,Vl.nodes]
 | .el k,h=>by refine Bt _ ((bj _).mpr trivial) ?_;simp[zA,Vl.dw,↓zq,zs,ag,bq,Vl.nodes]
 |
  .l v,h=>by
  simp only[Vl.nodes]at h
  refine Bt _ ((bj _).mpr trivial) ?_
  simp only[zA,Vl.dw,↓zq,zs,ag,bj,ei]
  refine⟨by omega,fun _=>⟨by omega,?_⟩,fun h=>(by cases h)⟩
  refine al (AN v (by omega)) ?_
  simp only[↓zq,zs,ag,bq,Vl.nodes]
  rw[wrap64 _ (by omega) (by omega)]
  simp
 |
  .r v,h=>by
  simp only[Vl.nodes]at h
  refine Bt _ ((bj _).mpr trivial) ?_
  simp only[zA,Vl.dw,↓zq,zs,ag,bj,ei]
  refine⟨by omega,fun _=>⟨by omega,?_⟩,fun h=>(by cases h)⟩
  refine al (AN v (by omega)) ?_
  simp only[↓zq,zs,ag,bq,Vl.nodes]
  rw[wrap64 _ (by omega) (by omega)]
  simp
 |
  .f v,h=>by
  simp only[Vl.nodes]at h
  refine Bt _ ((bj _).mpr trivial) ?_
  simp only[zA,Vl.dw,↓zq,zs,ag,bj,ei]
  refine⟨by omega,fun _=>⟨by omega,?_⟩,fun h=>(by cases h)⟩
  refine al (AN v (by omega)) ?_
  simp only[↓zq,zs,ag,bq,Vl.nodes]
  rw[wrap64 _ (by omega) (by omega)]
  simp
 |
  .p a b,h=>by
  simp only[Vl.nodes]at h
  refine Bt _ ((bj _).mpr trivial) ?_
  simp only[zA,Vl.dw,↓zq,zs,ag,bj,ei]
  refine⟨by omega,fun _=>⟨by omega,?_⟩,fun h=>(by cases h)⟩
  refine al (AN a (by omega)) ?_
  simp only[↓zq,zs,ag,bj,ei]
  rw[wrap64 (1+(a.nodes:Int)) (by omega) (by omega)]
  refine⟨by omega,fun _=>⟨by omega,?_⟩,fun h=>(by cases h)⟩
  refine al (AN b (by omega)) ?_
  simp only[↓zq,zs,ag,bq,Vl.nodes]
  rw[wrap64 _ (by omega) (by omega)]
  congr 2
end Go.Proofs.Trees
namespace Go.Proofs.Trees
open Go Go.VL Go.RowKit
theorem Bp:∀(v:Vl),v.iZ.length<=900000->au Tryz.prog 93 [v.dw] [] (bq (.v (.string (mk v.iZ))))
 | .u,h=>by refine tA _ ((bj _).mpr trivial) ?_;simp[Am,Vl.dw,↓zq,zs,ag,bq,Vl.iZ,Vl.gu,ia]
 | .el k,h=>by refine tA _ ((bj _).mpr trivial) ?_;simp[Am,Vl.dw,↓zq,zs,ag,bq,Vl.iZ,Vl.gu,ia]
 |
  .l v,h=>by
  simp only[Vl.iZ,Vl.gu,ia,eI,az,ap,aF]at h
  refine tA _ ((bj _).mpr trivial) ?_
  have hb:(⟨(bytesOf [[.v (.int .u8 108)]]).toArray⟩:ByteArray)=mk [108]:=rfl
  have ha:jT [[.v (.int .u8 108)]]:=iI 108
  simp only[Am,Vl.dw,↓zq,zs,ag,bj,ei,hb]
  refine⟨by omega,fun h=>by omega,fun _=>⟨fun h=>by omega,fun _=>⟨fun h=>by omega,fun _=>⟨by omega,ha,by simp[db],by rw[iK,db,db];simp,by omega,?_⟩⟩⟩⟩
  refine al (Bp v (by simp only[Vl.iZ];omega)) ?_
  simp only[↓zq,zs,ag,zt,bq,Vl.iZ,Vl.gu,ia,eI]
  refine⟨by simp;omega,by simp;omega,by simp⟩
 |
  .r v,h=>by
  simp only[Vl.iZ,Vl.gu,ia,eI,az,ap,aF]at h
  refine tA _ ((bj _).mpr trivial) ?_
  have hb:(⟨(bytesOf [[.v (.int .u8 114)]]).toArray⟩:ByteArray)=mk [114]:=rfl
  have ha:jT [[.v (.int .u8 114)]]:=iI 114
  simp only[Am,Vl.dw,↓zq,zs,ag,bj,ei,hb]
  refine⟨by omega,fun h=>by omega,fun _=>⟨fun h=>by omega,fun _=>⟨fun h=>by omega,fun _=>⟨by omega,ha,by simp[db],by rw[iK,db,db];simp,by omega,?_⟩⟩⟩⟩
  refine al (Bp v (by simp only[Vl.iZ];omega)) ?_
  simp only[↓zq,zs,ag,zt,bq,Vl.iZ,Vl.gu,ia,eI]
  refine⟨by simp;omega,by simp;omega,by simp⟩
 |
  .f v,h=>by
  simp only[Vl.iZ,Vl.gu,ia,eI,az,ap,aF]at h
  refine tA _ ((bj _).mpr trivial) ?_
  have hb:(⟨(bytesOf [[.v (.int .u8 102)]]).toArray⟩:ByteArray)=mk [102]:=rfl
  have ha:jT [[.v (.int .u8 102)]]:=iI 102
  simp only[Am,Vl.dw,↓zq,zs,ag,bj,ei,hb]
  refine⟨by omega,fun h=>by omega,fun _=>⟨fun h=>by omega,fun _=>⟨fun h=>by omega,fun _=>⟨by omega,ha,by simp[db],by rw[iK,db,db];simp,by omega,?_⟩⟩⟩⟩
  refine al (Bp v (by simp only[Vl.iZ];omega)) ?_
  simp only[↓zq,zs,ag,zt,bq,Vl.iZ,Vl.gu,ia,eI]
  refine⟨by simp;omega,by simp;omega,by simp⟩
 |
  .p a b,h=>by
  simp only[Vl.iZ,Vl.gu,ia,eI,az,ap,aF]at h
  refine tA _ ((bj _).mpr trivial) ?_
  simp only[Am,Vl.dw,↓zq,zs,ag,bj,ei]
  refine⟨by omega,fun h=>by omega,fun _=>⟨fun h=>by omega,fun _=>⟨fun _=>⟨by omega,?_⟩,fun h=>absurd rfl h⟩⟩⟩
  refine al (Bp a (by simp only[Vl.iZ];omega)) ?_
  simp only[↓zq,zs,ag,zt,bj,Vl.iZ]
  refine⟨by simp;omega,by simp;omega,by omega,?_⟩
  refine al (Bp b (by simp only[Vl.iZ];omega)) ?_
  simp only[↓zq,zs,ag,zt,bq,Vl.iZ,Vl.gu,ia,eI]
  refine⟨by simp;omega,by simp;omega,by simp⟩
def tV:Option (List UInt8)->AV
 |some s=>.cm [.v (.string (mk s)),.v (.bool true)]
 |none=>.cm [.v (.string (mk [])),.v (.bool false)]
theorem Fo(v:Vl)(hb:v.oh 100)(hn:v.nodes<100000):au Tryz.prog 43 [v.dw] [] (bq (tV (if v.nodes<=200 then some v.iZ else none))):=by
 refine FG _ ((bj _).mpr trivial) ?_
 unfold ES
 refine al (AN v (by omega)) ?_
 simp only[↓zq,zs,ag,bq]
 refine⟨fun h=>?_,fun h=>?_⟩
 ·rw[if_neg (by omega)];rfl
 ·have:=j7 v hb
  refine al (Bp v (by omega)) ?_
  rw[if_pos (by omega)]
  simp only[↓zq,zs,ag,tV]
end Go.Proofs.Trees
namespace Go.Proofs.Trees
open Go Go.VL Go.RowKit
theorem Hq(b:Int)(a:AV)(h:LK.ptr.has a):au Tryz.prog 95 [.v (.int .u8 b),a] [] (bq (.ptr [.v (.int .u8 b),.v (.string (mk [])),a,n7])):=by
 refine GH _ _ h ?_
 simp[EB,↓zq,zs,ag,bq]
end Go.Proofs.Trees
namespace Go.Proofs.Trees
open Go Go.VL Go.RowKit
def back(n:Nat):Ty->Nat->Vl
 | .name _,c=>.el c
 | .plus a b,c=>match eg n a with|some x=>if c<x then .l (back n a c)else .r (back n b (c-x))|none=>.u
 | .times a b,c=>match eg n b with|some y=>.p (back n a (c/y)) (back n b (c%y))|none=>.u
 |_,_=>.u
theorem qi{n:Nat}{a b:Ty}{N:Nat}(h:eg n (.plus a b)=some N):∃x y,eg n a=some x/\eg n b=some y/\N=x+y:=by
 simp only[eg]at h
 split at h
 ·rename_i x y hx hy
  unfold lB at h;split at h<;>cases h;exact⟨x,y,hx,hy,rfl⟩
 ·cases h
theorem oU{n:Nat}{a b:Ty}{N:Nat}(h:eg n (.times a b)=some N):∃x y,eg n a=some x/\eg n b=some y/\N=x*y:=by
 simp only[eg]at h
 split at h
 ·rename_i x y hx hy
  unfold lB at h;split at h<;>cases h;exact⟨x,y,hx,hy,rfl⟩
 ·cases h
theorem jP(n:Nat):∀(t:Ty) (N c:Nat),eg n t=some N->c<N->(back n t c).oh n
 | .zero,_,_,_,_=>trivial
 | .one,_,_,_,_=>trivial
 | .ca u,_,_,_,_=>trivial
 | .rc a,_,_,_,_=>trivial
 | .name s,N,c,h,hc=>by cases h;exact hc
 |
  .plus a b,N,c,h,hc=>by
  obtain⟨x,y,hx,hy,rfl⟩:=qi h
  simp only[back,hx]
  split
  ·exact jP n a x c hx (by assumption)
  ·exact jP n b y (c-x) hy (by omega)
 |
  .times a b,N,c,h,hc=>by
  obtain⟨x,y,hx,hy,rfl⟩:=oU h
  simp only[back,hy]
  have hy0:0<y:=Nat.pos_of_ne_zero (fun e=>by subst e;simp at hc)
  exact⟨jP n a x _ hx (Nat.div_lt_of_lt_mul (by rw[Nat.mul_comm];exact hc)),jP n b y _ hy (cX _ hy0)⟩
theorem iE{m n:Nat}(h:m<=n):∀v:Vl,v.oh m->v.oh n
 | .u,_=>trivial
 | .el k,hb=>bK hb h
 | .l v,hb=>iE h v hb
 | .r v,hb=>iE h v hb
 | .f v,hb=>iE h v hb
 | .p a b,hb=>⟨iE h a hb.1,iE h b hb.2⟩
theorem hZ(n:Nat):∀(t:Ty) (c:Nat),(back n t c).nodes<=t.aS
 | .zero,c=>by simp[back,Vl.nodes,Ty.aS]
 | .one,c=>by simp[back,Vl.nodes,Ty.aS]
 | .name s,c=>by simp[back,Vl.nodes,Ty.aS]
 | .ca u,c=>by simp[back,Vl.nodes,Ty.aS]
 | .rc a,c=>by simp[back,Vl.nodes,Ty.aS];omega
 |
  .plus a b,c=>by
  simp only[back,Ty.aS]
  split
  ·rename_i x hx
   split
   ·have:=hZ n a c;simp only[Vl.nodes];omega
   ·have:=hZ n b (c-x);simp only[Vl.nodes];omega
  ·simp[Vl.nodes];omega
 |
  .times a b,c=>by
  simp only[back,Ty.aS]
  split
  ·rename_i y hy
   have:=hZ n a (c/y)
   have:=hZ n b (c%y)
   simp only[Vl.nodes];omega
  ·simp[Vl.nodes];omega
theorem uD(a b:Nat):Int.tdiv (a:Int) (b:Int)=((a/b:Nat):Int):=(Int.ofNat_tdiv a b).symm
theorem vY(a b:Nat):cr (a:Int) (b:Int)=((a%b:Nat):Int):=(Int.ofNat_tmod a b).symm
theorem uK(n:Nat)(hn:n<=100):∀(t:Ty) (N c:Nat),pure t=true->eg n t=some N->c<N->au Tryz.prog 44 [t.av,.v (.int .i64 (n:Int)),.v (.int .i64 (c:Int))] [] (bq (back n t c).dw)
 | .zero,N,c,hp,h,hc=>by cases h;omega
 |
  .one,N,c,hp,h,hc=>by
  refine xU _ _ _ ((aP _).mpr trivial) ?_
  simp[wc,Ty.av,↓zq,zs,ag,bq,back,Vl.dw]
 | .ca u,N,c,hp,h,hc=>by cases hp
 | .rc a,N,c,hp,h,hc=>by cases hp
 |
  .name s,N,c,hp,h,hc=>by
  cases h
  refine xU _ _ _ ((aP _).mpr trivial) ?_
  have hl:=kI 1000 c (by omega)
  simp only[wc,Ty.av,↓zq,zs,ag,aP]
  refine⟨by omega,fun _=>?_,fun h=>absurd rfl h⟩
  refine al (FU c (by omega)) ?_
  simp only[↓zq,zs,ag,zt,bq,back,Vl.dw]
  refine⟨by simp;omega,by simp⟩
 |
  .plus a b,N,c,hp,h,hc=>by
  obtain⟨x,y,hx,hy,rfl⟩:=qi h
  simp only[pure,ak]at hp
  have hx9:=dM n hn a x hx
  have hy9:=dM n hn b y hy
  refine xU _ _ _ ((aP _).mpr trivial) ?_
  simp only[wc,Ty.av,↓zq,zs,ag,aP]
  refine⟨by omega,fun h=>by omega,fun _=>⟨fun _=>⟨by omega,?_⟩,fun h=>absurd rfl h⟩⟩
  refine al (vw n hn a hp.1) ?_
  rw[hx]
  simp only[ec,↓zq,zs,ag,aP,back,hx,bq]
  refine⟨fun h=>⟨by omega,?_⟩,fun h=>⟨by omega,?_⟩⟩
  ·refine al (uK n hn a x c hp.1 hx (by omega)) ?_
   simp only[↓zq,zs,ag,bj]
   refine al (Hq _ _ ((bj _).mpr trivial)) ?_
   simp only[↓zq,zs,ag]
   rw[if_pos (by omega)];rfl
  ·rw[wrap64 _ (by omega) (by omega),show (c:Int)-(x:Int)=((c-x:Nat):Int) by omega]
   refine al (uK n hn b y (c-x) hp.2 hy (by omega)) ?_
   simp only[↓zq,zs,ag,bj]
   refine al (Hq _ _ ((bj _).mpr trivial)) ?_
   simp only[↓zq,zs,ag]
   rw[if_neg (by omega)];rfl
 |
  .times a b,N,c,hp,h,hc=>by
  obtain⟨x,y,hx,hy,rfl⟩:=oU h
  simp only[pure,ak]at hp
  have hx9:=dM n hn a x hx
  have hy9:=dM n hn b y hy
  have hxy:=lp hx9 hy9
  have hy0:0<y:=Nat.pos_of_ne_zero (fun e=>by subst e;simp at hc)
  have hd:c/y<=c:=Nat.div_le_self _ _
  have hd0:(0:Int)<=((c/y:Nat):Int):=Int.natCast_nonneg _
  refine xU _ _ _ ((aP _).mpr trivial) ?_
  simp only[wc,Ty.av,↓zq,zs,ag,aP]
  refine⟨by omega,fun h=>by omega,fun _=>⟨fun h=>by omega,fun _=>⟨fun _=>⟨by omega,?_⟩,fun h=>absurd rfl h⟩⟩⟩
  refine al (vw n hn b hp.2) ?_
  rw[hy]
  simp only[ec,↓zq,zs,ag,aP,back,hy,bq]
  rw[uD,vY,wrap64 _ (by omega) (by omega)]
  refine⟨by omega,by omega,?_⟩
  refine al (uK n hn a x (c/y) hp.1 hx (Nat.div_lt_of_lt_mul (by rw[Nat.mul_comm];exact hc))) ?_
  simp only[↓zq,zs,ag,aP,bj]
  refine⟨by omega,by omega,?_⟩
  refine al (uK n hn b y (c%y) hp.2 hy (cX _ hy0)) ?_
  simp only[↓zq,zs,ag,bj]
  refine al (CB _ _ ((bj _).mpr trivial) ((bj _).mpr trivial)) ?_
  simp only[↓zq,zs,ag,Vl.dw]
theorem sx:∀l:List E,di 2 (E.aV l)
 |[]=>fun c hc=>by cases hc
 |
  e::l=>fun c hc=>by
  simp only[E.aV,aG]at hc
  rcases hc with rfl|hc
  ·exact dG e
  ·exact sx l c hc
theorem Ea(w:List UInt8)(l:List E)(hl:l.length<1000000):au Tryz.prog 69 [.v (.string (mk w)),.sl (E.aV l)] [] (bq (E.ic (.list (.atom w::l)))):=by
 refine GZ _ _ ((cu _).mpr trivial) ?_
 simp only[DB,↓zq,zs,ag,da,bq,E.ic,E.fG,E.aV]
 exact⟨⟨sx l,by omega⟩,rfl⟩
def E2(s:List UInt8)(n c:Int):Option (List UInt8):=match tE s,lX s n with
 |some t,some N=>if 0<=c/\c<(N:Int)then(if(back n.toNat t c.toNat).nodes<=200 then some (back n.toNat t c.toNat).iZ else none)else none
 |_,_=>none
theorem F8(s:List UInt8)(n c:Int):au Tryz.prog 12 [.v (.string (mk s)),.v (.int .i64 n),.v (.int .i64 c)] [] (bq (tV (E2 s n c))):=by
 refine FZ _ _ _ ?_
 unfold Du
 refine al (zB s n) ?_
 unfold E2
 cases hs:lX s n with
 |none=>cases tE s<;>simp[ec,tV,↓zq,zs,ag,bq]
 |
  some N =>
  obtain⟨m,t,rfl,hm,ht,hN⟩:=nG hs
  obtain⟨e,he⟩:∃e,jA s=some e:=by
   cases he:jA s with
   |none=>rw[kf he]at ht;cases ht
   |some e=>exact⟨e,rfl⟩
  obtain⟨t',h1,h2,hp,hok,_,_,_,hat,_⟩:=j1 he
  rw[ht]at h1;cases h1
  simp only[ec,↓zq,zs,ag,ht,bq]
  refine⟨fun h=>(by cases h),fun _=>⟨fun h=>?_,fun h=>⟨fun h'=>?_,fun h'=>?_⟩⟩⟩
  ·rw[if_neg (by omega)];rfl
  ·rw[if_neg (by omega)];rfl
  ·obtain⟨k,rfl⟩:∃k:Nat,c=(k:Int):=⟨c.toNat,by omega⟩
   rw[if_pos (by omega)]
   refine al (Dc s) ?_
   rw[ht]
   simp only[fw,↓zq,zs,ag,aP,bi]
   refine al (uK m hm t N k hp hN (by omega)) ?_
   simp only[↓zq,zs,ag,bj]
   have hb:=iE hm _ (jP m t N k hN (by omega))
   have hnn:=hZ m t k
   refine al (Fo _ hb (by omega)) ?_
   split<;>simp[tV,↓zq,zs,ag]
end Go.Proofs.Trees
namespace Go.Proofs.Trees
open Go Go.VL Go.RowKit
def tY:List UInt8->Nat->Option Nat
 |[],n=>some n
 |b::r,n=>if fS b=true then tY r (10*n+(b.toNat-48))else none
def en(s:List UInt8):Option Nat :=
 if s.length=2\/s.length=3 then(if s.getD 0 0=101/\¬(s.length=3/\s.getD 1 0=48)then tY (s.drop 1) 0 else none)else none
def wh(s:List UInt8):Int:=match en s with|some k=>(k:Int)|none=>-1
theorem D7(s:List UInt8)(hs:s.length<=3):∀(k i n:Nat),i+k=s.length->1<=i->(n+1)*10 ^ k<=1000->y8 [.v (.string (mk s)),.v (.int .i64 (n:Int)),.v (.int .i64 (i:Int))] []
 (ox (match tY (s.drop i) n with|some m=>(1,[.v (.int .i64 (m:Int))],[])|none=>(2,[.v (.int .i64 (-1))],[])))
 |
  0,i,n,hi,h1,hn=>by
  refine CD _ _ _ ?_
  have hd:s.drop i=[]:=bf (by omega)
  simp only[A8,↓zq,zs,ag,zt,hd,tY]
  exact⟨fun h=>by omega,fun _=>by first|trivial|rfl⟩
 |
  k+1,i,n,hi,h1,hn=>by
  have hlt:i<s.length:=by omega
  refine CD _ _ _ ?_
  rw[drop_cons hlt,tY]
  simp only[A8,↓zq,zs,ag,zt,jv s i hlt]
  generalize s.getD i 0=b
  have hb:=b.toNat_lt
  refine⟨fun _=>⟨by omega,fun h48=>?_,fun h48=>⟨by omega,fun h57=>?_,fun h57=>⟨by omega,?_⟩⟩⟩,fun h=>by omega⟩
  ·have:fS b=false:=by simp only[fS,decide_eq_false_iff_not];omega
   rw[this];rfl
  ·have:fS b=false:=by simp only[fS,decide_eq_false_iff_not];omega
   rw[this];rfl
  ·have:fS b=true:=by simp only[fS,decide_eq_true_eq];omega
   rw[if_pos this]
   have hk:k=0\/k=1:=by omega
   have hn2:n*10<=1000:=by
    rcases hk with rfl|rfl<;>simp at hn<;>omega
   have e8:IntKind.wrap .u8 ((b.toNat:Int)-48)=((b.toNat-48:Nat):Int):=by
    have:b.toNat=48\/b.toNat=49\/b.toNat=50\/b.toNat=51\/b.toNat=52\/b.toNat=53\/b.toNat=54\/b.toNat=55\/b.toNat=56\/b.toNat=57:=by omega
    rcases this with h|h|h|h|h|h|h|h|h|h<;>rw[h]<;>rfl
   rw[e8,ct i (by omega),wrap64 ((b.toNat-48:Nat):Int) (by omega) (by omega),wrap64 (10*(n:Int)) (by omega) (by omega),wrap64 _ (by omega) (by omega)]
   have e:(10*(n:Int)+((b.toNat-48:Nat):Int))=((10*n+(b.toNat-48):Nat):Int):=by omega
   rw[e]
   exact D7 s hs k (i+1) _ (by omega) (by omega) (by rcases hk with rfl|rfl<;>simp at hn |-<;>omega)
theorem xh(s:List UInt8):au Tryz.prog 56 [.v (.string (mk s))] [] (bq (.v (.int .i64 (wh s)))):=by
 refine Gb _ ?_
 unfold Dh
 refine al (vf _ _ _) ?_
 simp only[↓zq,zs,ag,zt,xz,bq]
 have hL:∀(Q:Nat->List AV->List Ob->Prop),(s.length=2\/s.length=3)->s.getD 0 0=101->¬(s.length=3/\s.getD 1 0=48)->(Q 0 [.v (.int .i64 (wh s))] []) ->
  dK Tryz.prog 49 (.loop xZ uA [.v (.string (mk s)),.v (.int .i64 0),.v (.int .i64 1)] [] (fun y2 q2=>.an (LK.has (.int .i64) (y2.headD .any))<|.done 0 [.v (.int .i64 ((y2.headD .any).toInt))] []) (fun y2 q2=>.an (LK.has (.int .i64) (y2.headD .any))<|.done 0 [.v (.int .i64 ((y2.headD .any).toInt))] [])) Q:=by
  intro Q hl h0 h1 hQ
  have e:en s=tY (s.drop 1) 0:=by rw[en,if_pos hl,if_pos ⟨h0,h1⟩]
  refine gx (D7 s (by omega) (s.length-1) 1 0 (by omega) (by omega) (by rcases hl with h|h<;>rw[h]<;>decide)) (fun ys o e'=>?_) (fun ys o e'=>?_)
  ·cases hq:tY (s.drop 1) 0<;>rw[hq]at e'<;>cases e'
   rw[hq]at e
   simp only[wh,e]at hQ
   simp only[↓zq,zs,ag];exact hQ
  ·cases hq:tY (s.drop 1) 0<;>rw[hq]at e'<;>cases e'
   rw[hq]at e
   simp only[wh,e]at hQ
   simp only[↓zq,zs,ag];exact hQ
 have hz:∀{i:Nat},i<s.length->bt (mk s) (i:Int)=((s.getD i 0).toNat:Int):=fun h=>jv s _ h
 refine⟨fun h=>?_,fun h=>⟨?_,fun h0=>?_,fun h0=>⟨fun h3=>⟨by omega,fun h1=>?_,fun h1=>?_⟩,fun h3=>?_⟩⟩⟩
 ·have h':¬(2<=(s.length:Int)/\(s.length:Int)<=3):=by simpa using h
  rw[wh,en,if_neg (by omega)]
 ·have h':2<=(s.length:Int)/\(s.length:Int)<=3:=by simpa using h
  omega
 ·have h':2<=(s.length:Int)/\(s.length:Int)<=3:=by simpa using h
  have e0:=hz (i:=0) (by omega)
  simp only[bV,ci]at e0
  rw[e0]at h0
  rw[wh,en,if_pos (by omega),if_neg]
  rintro⟨e,_⟩
  rw[e]at h0;exact h0 rfl
 ·have h':2<=(s.length:Int)/\(s.length:Int)<=3:=by simpa using h
  have e1:=hz (i:=1) (by omega)
  simp only[bV,ci]at e1
  rw[e1]at h1
  rw[wh,en,if_pos (by omega),if_neg]
  rintro⟨_,e⟩
  refine e ⟨by omega,?_⟩
  rw[<-cC];show (s.getD 1 0).toNat=48;omega
 ·have h':2<=(s.length:Int)/\(s.length:Int)<=3:=by simpa using h
  have e0:=hz (i:=0) (by omega)
  have e1:=hz (i:=1) (by omega)
  simp only[bV,ci]at e0 e1
  rw[e0]at h0;rw[e1]at h1
  refine hL _ (by omega) ?_ ?_ ⟨rfl,rfl⟩
  ·rw[<-cC];show (s.getD 0 0).toNat=101;omega
  ·rintro⟨_,e⟩;rw[e]at h1;exact h1 rfl
 ·have h':2<=(s.length:Int)/\(s.length:Int)<=3:=by simpa using h
  have e0:=hz (i:=0) (by omega)
  simp only[bV,ci]at e0
  rw[e0]at h0
  refine hL _ (by omega) ?_ ?_ ⟨rfl,rfl⟩
  ·rw[<-cC];show (s.getD 0 0).toNat=101;omega
  ·rintro⟨e,_⟩;omega
theorem kU:∀(l:List UInt8) (n:Nat),(tY l n).isSome=l.all fS
 |[],n=>rfl
 |
  b::l,n=>by
  rw[tY]
  cases hb:fS b with
  |true=>rw[if_pos rfl,kU l];simp[hb]
  |false=>rw[if_neg (by simp)];simp[hb]
theorem CL(s:List UInt8):au Tryz.prog 148 [.v (.string (mk s))] [] (bq (.v (.bool (en s).isSome))):=by
 refine Ha _ ?_
 simp only[BC,↓zq,zs,ag,zt,bq]
 have hz:∀{i:Nat},i<s.length->bt (mk s) (i:Int)=((s.getD i 0).toNat:Int):=fun h=>jv s _ h
 refine⟨fun h=>?_,fun h=>⟨fun h3=>?_,fun h3=>?_⟩⟩
 ·rw[en,if_neg (by omega)];rfl
 ·rw[en,if_neg (by omega)];rfl
 ·have e0:=hz (i:=0) (by omega)
  have e1:=hz (i:=1) (by omega)
  simp only[bV,ci]at e0 e1
  rw[e0,e1]
  have hx:s.drop (bk 1)=s.drop 1:=rfl
  refine⟨by omega,fun h0=>?_,fun h0=>⟨by omega,?_⟩⟩
  ·rw[en,if_pos (by omega),if_neg]
   ·rfl
   ·rintro⟨e,_⟩;rw[e]at h0;exact h0 rfl
  ·rw[hx]
   refine al (Cy (s.drop 1) AC (by simp;omega) (by decide) (by decide)) ?_
   simp only[↓zq,zs,ag,zt]
   have h101:s.getD 0 0=101:=by rw[<-cC];show (s.getD 0 0).toNat=101;omega
   have hall:Lib.trimS (s.drop 1) AC=[]↔(s.drop 1).all fS=true:=by
    rw[oC]
    have:(fun x=>AC.contains x)=fS:=funext rh
    rw[this]
   refine⟨fun ht=>?_,fun ht=>⟨fun h2=>?_,fun h2=>⟨by omega,?_⟩⟩⟩
   ·have:(s.drop 1).all fS=false:=by
     cases hq:(s.drop 1).all fS with
     |false=>rfl
     |true=>exact absurd (hall.2 hq) ht
    rw[en,if_pos (by omega)]
    split
    ·rw[kU,this]
    ·rfl
   ·have hq:=hall.1 ht
    rw[en,if_pos (by omega),if_pos ⟨h101,by omega⟩,kU,hq]
   ·have hq:=hall.1 ht
    rw[en,if_pos (by omega)]
    by_cases h48:s.getD 1 0=48
    ·rw[if_neg (by rintro⟨_,e⟩;exact e ⟨by omega,h48⟩),h48];rfl
    ·rw[if_pos ⟨h101,fun e=>h48 e.2⟩,kU,hq]
     have:¬((s.getD 1 0).toNat:Int)=48:=fun e=>h48 (by rw[<-cC];show (s.getD 1 0).toNat=48;omega)
     rw[bne_iff_ne.2 this]
theorem oE{s:List UInt8}{k:Nat}(h:en s=some k):s=ug k/\k<100:=by
 have key1:∀a:Fin 256,fS (aW a.val)=true->tY [aW a.val] 0=some ((aW a.val).toNat-48)/\(aW a.val).toNat-48<10/\[aW a.val]=[aW (48+((aW a.val).toNat-48))]:=by decide +kernel
 unfold en at h
 split at h
 ·rename_i hl
  split at h
  ·rename_i hh
   obtain⟨h0,h1⟩:=hh
   rcases hl with hl|hl
   ·match s,hl with
    |
     [c,a],_ =>
     simp only[bo]at h0
     subst h0
     simp only[List.drop_succ_cons,cg,tY]at h
     split at h
     ·rename_i ha
      have:=key1 ⟨a.toNat,a.toNat_lt⟩ (by simpa using ha)
      simp only[UInt8.ofNat_toNat]at this
      cases h
      refine⟨?_,by omega⟩
      rw[ug,eS (by omega)]
      simp only[Nat.mul_zero,aR]
      rw[<-this.2.2]
     ·cases h
   ·match s,hl with
    |
     [c,a,b],_ =>
     simp only[bo,List.getD_cons_succ,az,aF,true_and]at h0 h1
     subst h0
     simp only[List.drop_succ_cons,cg,tY]at h
     split at h
     ·rename_i ha
      split at h
      ·rename_i hb
       have k1:=key1 ⟨a.toNat,a.toNat_lt⟩ (by simpa using ha)
       have k2:=key1 ⟨b.toNat,b.toNat_lt⟩ (by simpa using hb)
       simp only[UInt8.ofNat_toNat]at k1 k2
       have ha':48<=a.toNat/\a.toNat<=57:=by simpa[fS]using ha
       have hb':48<=b.toNat/\b.toNat<=57:=by simpa[fS]using hb
       have h48:a.toNat≠48:=fun e=>h1 (by rw[<-cC];simpa using e)
       cases h
       simp only[Nat.mul_zero,aR]
       refine⟨?_,by omega⟩
       rw[ug,fJ (by omega),eS (by omega)]
       have e1:(10*(a.toNat-48)+(b.toNat-48))/10=a.toNat-48:=by omega
       have e2:(10*(a.toNat-48)+(b.toNat-48))%10=b.toNat-48:=by omega
       rw[e1,e2,<-k1.2.2,<-k2.2.2];rfl
      ·cases h
     ·cases h
  ·cases h
 ·cases h
theorem vc(k:Nat)(h:k<100):en (ug k)=some k:=by
 have e:∀k,k<100->dd k=if k<10 then [aW (48+k)]else [aW (48+k/10),aW (48+k%10)]:=by
  intro k hk
  by_cases h1:k<10
  ·rw[eS h1,if_pos h1]
  ·rw[fJ h1,eS (by omega),if_neg h1];rfl
 have key:∀k:Fin 100,en (101::(if k.val<10 then [aW (48+k.val)]else [aW (48+k.val/10),aW (48+k.val%10)]))=some k.val:=by decide +kernel
 rw[ug,e k h];exact key ⟨k,h⟩
theorem Ao(k:Nat)(h:k<100):wh (ug k)=(k:Int):=by rw[wh,vc k h]
def sN:E->Bool
 | .atom s=>(s==[117])||(en s).isSome
 | .list [x,a]=>((x.at==[108])||(x.at==[114])||(x.at==[102]))&&sN a
 | .list [x,a,b]=>(x.at==[112])&&(sN a&&sN b)
 | .list _=>false
def fy:E->Option Vl
 | .atom s=>if s=[117]then some .u else match en s with|some k=>some (.el k)|none=>none
 |
  .list [x,a]=>match fy a with
  |none=>none
  |some v=>if x.at=[108]then some (.l v)else if x.at=[114]then some (.r v)else if x.at=[102]then some (.f v)else none
 | .list [x,a,b]=>if x.at=[112]then(match fy a,fy b with|some v,some w=>some (.p v w)|_,_=>none)else none
 | .list _=>none
theorem lO:∀e:E,(fy e).isSome=sN e
 |
  .atom s=>by
  simp only[fy,sN]
  by_cases h:s=[117]
  ·simp[h]
  ·rw[if_neg h];cases en s<;>simp[h]
 | .list []=>rfl
 | .list [_]=>rfl
 |
  .list [x,a]=>by
  have ha:=lO a
  rw[fy,sN,<-ha]
  cases fy a with
  |none=>simp
  |
   some v =>
   by_cases h1:x.at=[108]
   ·simp[h1]
   ·by_cases h2:x.at=[114]
    ·simp[h2]
    ·by_cases h3:x.at=[102]
     ·simp[h3]
     ·simp[h1,h2,h3]
 |
  .list [x,a,b]=>by
  have ha:=lO a
  have hb:=lO b
  rw[fy,sN,<-ha,<-hb]
  by_cases h1:x.at=[112]
  ·rw[if_pos h1,h1];cases fy a<;>cases fy b<;>rfl
  ·simp[h1]
 | .list (_::_::_::_::_)=>rfl
theorem ir{x:E}{w:List UInt8}(h:x.at=w)(hw:w≠[]):x=.atom w:=by
 cases x with
 |atom s=>exact congrArg E.atom h
 |list l=>exact absurd h.symm hw
theorem iG:∀(e:E) (v:Vl),fy e=some v->v.gu=e/\v.oh 100
 |
  .atom s,v,h=>by
  simp only[fy]at h
  split at h
  ·rename_i h1;cases h;exact⟨by rw[h1];rfl,trivial⟩
  ·split at h
   ·rename_i k hk
    cases h
    obtain⟨h1,h2⟩:=oE hk
    exact⟨by rw[h1];rfl,h2⟩
   ·cases h
 | .list [],_,h=>by cases h
 | .list [_],_,h=>by cases h
 | .list (_::_::_::_::_),_,h=>by cases h
 |
  .list [x,a],v,h=>by
  rw[fy]at h
  split at h
  ·cases h
  ·rename_i w hw
   obtain⟨h1,h2⟩:=iG a w hw
   split at h
   ·rename_i hx;cases h;rw[ir hx (by simp)];exact⟨by rw[Vl.gu,h1],h2⟩
   ·split at h
    ·rename_i hx;cases h;rw[ir hx (by simp)];exact⟨by rw[Vl.gu,h1],h2⟩
    ·split at h
     ·rename_i hx;cases h;rw[ir hx (by simp)];exact⟨by rw[Vl.gu,h1],h2⟩
     ·cases h
 |
  .list [x,a,b],v,h=>by
  rw[fy]at h
  split at h
  ·rename_i hx
   split at h
   ·rename_i w1 w2 hw1 hw2
    cases h
    obtain⟨h1,h2⟩:=iG a w1 hw1
    obtain⟨h3,h4⟩:=iG b w2 hw2
    rw[ir hx (by simp)]
    exact⟨by rw[Vl.gu,h1,h3],h2,h4⟩
   ·cases h
  ·cases h
def mD(e:E)(w:List UInt8)(k:Nat):Bool:=match e with| .list (x::l)=>decide (l.length+1=k)&&(x.at==w)|_=>false
theorem oO(e:E)(w:List UInt8)(k:Nat)(hk:1<=k):au Tryz.prog 149 [e.dw,.v (.string (mk w)),.v (.int .i64 (k:Int))] [] (bq (.v (.bool (mD e w k)))):=by
 refine D2 _ _ _ ((bW e).mpr trivial) ?_
 cases e with
 |atom s=>simp only[vW,E.dw,↓zq,zs,ag,zt,bq,mD];exact⟨by omega,fun h=>by omega,fun _=>trivial⟩
 |
  list l =>
  simp only[vW,E.dw,↓zq,zs,ag,zt,bq,nO]
  cases l with
  |nil=>exact⟨by simp,fun h=>by simp at h;omega,fun _=>rfl⟩
  |
   cons x l =>
   simp only[az]
   refine⟨by simp,fun h=>?_,fun h=>?_⟩
   ·have:decide (l.length+1=k)=true:=by rw[decide_eq_true_eq];omega
    simp only[mD,this]
    cases x<;>simp[E.jy,E.dw,fA,mh,gO,eM,pL,toList_mk,E.at]
   ·have:decide (l.length+1=k)=false:=by rw[decide_eq_false_iff_not];omega
    simp only[mD,this];rfl
def ii:Option Vl->AV
 |some v=>v.dw
 |none=>.v (.pointer none)
end Go.Proofs.Trees
namespace Go.Proofs.Trees
open Go Go.VL Go.RowKit
theorem fE(v:Option Vl):LK.has .ptr (ii v)=True:=by cases v<;>simp[ii,bj,kb]
theorem tZ:∀(e:E),e.ok->au Tryz.prog 104 [e.dw] [] (bq (ii (fy e)))
 |
  .atom s,hok=>by
  refine C0 _ ((bW _).mpr trivial) ?_
  have hd:=kS (.atom s)
  have hlen:=jf (.atom s)
  simp only[E.at]at hd
  simp only[AG,↓zq,zs,ag,zt,bq,bW,dc,hd,fy]
  refine⟨hlen,fun h=>?_,fun h=>⟨hlen,?_⟩⟩
  ·rw[if_pos h];rfl
  ·rw[if_neg h]
   refine al (CL s) ?_
   simp only[↓zq,zs,ag,zt]
   refine⟨fun he=>⟨hlen,?_⟩,fun he=>?_⟩
   ·obtain⟨k,hk⟩:=bm.1 he
    obtain⟨h1,h2⟩:=oE hk
    rw[hk,h1];rfl
   ·have hn:en s=none:=by cases hq:en s<;>simp[hq]at he |-
    rw[hn]
    refine al (oO (.atom s) [108] 2 (by omega)) ?_
    simp only[mD,↓zq,zs,ag,zf]
    refine⟨fun h=>(by cases h),fun _=>al (oO (.atom s) [114] 2 (by omega)) ?_⟩
    simp only[mD,↓zq,zs,ag,zf]
    refine⟨fun h=>(by cases h),fun _=>al (oO (.atom s) [102] 2 (by omega)) ?_⟩
    simp only[mD,↓zq,zs,ag,zf]
    refine⟨fun h=>(by cases h),fun _=>al (oO (.atom s) [112] 3 (by omega)) ?_⟩
    simp only[mD,↓zq,zs,ag,zf]
    exact⟨fun h=>(by cases h),fun _=>rfl⟩
 |
  .list l,hok=>by
  refine C0 _ ((bW _).mpr trivial) ?_
  have hd:=kS (.list l)
  have hlen:=jf (.list l)
  have hlen2:∀{l:List E},((AV.v (.string (mk [])))::[AV.sl (E.jy l)]).length=2:=rfl
  simp only[E.at]at hd
  have he:en []=none:=rfl
  simp only[AG,↓zq,zs,ag,zt,bq,bW,dc,hd]
  refine⟨hlen,fun h=>(by cases h),fun h=>⟨hlen,?_⟩⟩
  refine al (CL []) ?_
  rw[he]
  simp only[↓zq,zs,ag,zt,zf,Option.isSome_none]
  refine⟨fun h=>(by cases h),fun _=>al (oO (.list l) [108] 2 (by omega)) ?_⟩
  have hno:∀w:List UInt8,(∀x a,l≠[x,a])->mD (.list l) w 2=false:=by
   intro w h2
   match l,h2 with
   |[],_=>rfl
   |[x],_=>rfl
   |[x,a],h2=>exact absurd rfl (h2 x a)
   |x::y::z::l,_=>simp[mD]
  match l,hok,hno,hlen with
  |
   [x,a],hok,hno,hlen =>
   clear hno
   obtain⟨ok1,ok2,_⟩:=hok
   have e2:∀w:List UInt8,mD (.list [x,a]) w 2=(x.at==w):=fun w=>rfl
   have e3:mD (.list [x,a]) [112] 3=false:=rfl
   have hx:=kS x
   have hxl:=jf x
   rw[fy]
   simp only[e2,↓zq,zs,ag]
   refine⟨fun h1=>?_,fun h1=>al (oO (.list [x,a]) [114] 2 (by omega)) ?_⟩
   ·simp only[E.dw,E.jy,toNat_one,↓zq,zs,ag,zt,bW,dc]
    refine⟨by omega,by omega,by omega,al (tZ a ok2) ?_⟩
    cases hv:fy a with
    |none=>simp only[ii,↓zq,zs,ag,fE];exact⟨fun _=>trivial,fun h=>(by cases h)⟩
    |
     some v =>
     simp only[ii,↓zq,zs,ag,zt,bj,ei,hx,h1,bW,dc]
     refine⟨fun h=>(by cases h),fun _=>⟨by omega,by omega,by omega,hxl,by simp,?_⟩⟩
     rfl
   ·simp only[e2,↓zq,zs,ag]
    refine⟨fun h2=>?_,fun h2=>al (oO (.list [x,a]) [102] 2 (by omega)) ?_⟩
    ·simp only[E.dw,E.jy,toNat_one,↓zq,zs,ag,zt,bW,dc]
     refine⟨by omega,by omega,by omega,al (tZ a ok2) ?_⟩
     cases hv:fy a with
     |none=>simp only[ii,↓zq,zs,ag,fE];exact⟨fun _=>trivial,fun h=>(by cases h)⟩
     |
      some v =>
      simp only[ii,↓zq,zs,ag,zt,bj,ei,hx,h2,bW,dc]
      refine⟨fun h=>(by cases h),fun _=>⟨by omega,by omega,by omega,hxl,by simp,?_⟩⟩
      rfl
    ·simp only[e2,↓zq,zs,ag]
     refine⟨fun h3=>?_,fun h3=>al (oO (.list [x,a]) [112] 3 (by omega)) ?_⟩
     ·simp only[E.dw,E.jy,toNat_one,↓zq,zs,ag,zt,bW,dc]
      refine⟨by omega,by omega,by omega,al (tZ a ok2) ?_⟩
      cases hv:fy a with
      |none=>simp only[ii,↓zq,zs,ag,fE];exact⟨fun _=>trivial,fun h=>(by cases h)⟩
      |
       some v =>
       simp only[ii,↓zq,zs,ag,zt,bj,ei,hx,h3,bW,dc]
       refine⟨fun h=>(by cases h),fun _=>⟨by omega,by omega,by omega,hxl,by simp,?_⟩⟩
       rfl
     ·rw[e3]
      simp only[↓zq,zs,ag]
      refine⟨fun h=>(by cases h),fun _=>?_⟩
      cases fy a with
      |none=>rfl
      |some v=>simp only[if_neg h1,if_neg h2,if_neg h3];rfl
  |
   [x,a,b],hok,hno,hlen =>
   obtain⟨ok1,ok2,ok3,_⟩:=hok
   have h2:=fun w=>hno w (fun x a h=>(by cases h))
   rw[h2]
   simp only[↓zq,zs,ag]
   refine⟨fun h=>(by cases h),fun _=>al (oO (.list [x,a,b]) [114] 2 (by omega)) ?_⟩
   rw[h2]
   simp only[↓zq,zs,ag]
   refine⟨fun h=>(by cases h),fun _=>al (oO (.list [x,a,b]) [102] 2 (by omega)) ?_⟩
   rw[h2]
   simp only[↓zq,zs,ag]
   refine⟨fun h=>(by cases h),fun _=>al (oO (.list [x,a,b]) [112] 3 (by omega)) ?_⟩
   have e3:mD (.list [x,a,b]) [112] 3=(x.at==[112]):=rfl
   rw[e3,fy]
   simp only[↓zq,zs,ag]
   refine⟨fun h1=>?_,fun h1=>?_⟩
   ·rw[if_pos h1]
    simp only[E.dw,E.jy,toNat_one,be,↓zq,zs,ag,zt,bW,dc]
    refine⟨by omega,by omega,by omega,al (tZ a ok2) ?_⟩
    simp only[↓zq,zs,ag,fE,bW]
    refine⟨by omega,by omega,by omega,al (tZ b ok3) ?_⟩
    cases hv:fy a with
    |none=>cases hw:fy b<;>simp only[ii,↓zq,zs,ag,fE,bj]<;>exact⟨fun _=>trivial,fun h=>(by cases h)⟩
    |
     some v =>
     cases hw:fy b with
     |
      none =>
      simp only[ii,↓zq,zs,ag,fE,bj,ei]
      exact⟨fun h=>(by cases h),fun _=>⟨fun _=>trivial,fun h=>(by cases h)⟩⟩
     |
      some w =>
      simp only[ii,↓zq,zs,ag,bj,ei]
      refine⟨fun h=>(by cases h),fun _=>⟨fun h=>(by cases h),fun _=>?_⟩⟩
      refine al (CB _ _ ((bj _).mpr trivial) ((bj _).mpr trivial)) ?_
      simp only[↓zq,zs,ag];rfl
   ·rw[if_neg h1];rfl
  |
   [],hok,hno,hlen =>
   have h2:=fun w=>hno w (fun x a h=>(by cases h))
   have e3:mD (.list []) [112] 3=false:=rfl
   rw[h2]
   simp only[↓zq,zs,ag]
   refine⟨fun h=>(by cases h),fun _=>al (oO (.list []) [114] 2 (by omega)) ?_⟩
   rw[h2]
   simp only[↓zq,zs,ag]
   refine⟨fun h=>(by cases h),fun _=>al (oO (.list []) [102] 2 (by omega)) ?_⟩
   rw[h2]
   simp only[↓zq,zs,ag]
   refine⟨fun h=>(by cases h),fun _=>al (oO (.list []) [112] 3 (by omega)) ?_⟩
   rw[e3]
   simp only[↓zq,zs,ag]
   exact⟨fun h=>(by cases h),fun _=>rfl⟩
  |
   [x],hok,hno,hlen =>
   have h2:=fun w=>hno w (fun x a h=>(by cases h))
   have e3:mD (.list [x]) [112] 3=false:=rfl
   rw[h2]
   simp only[↓zq,zs,ag]
   refine⟨fun h=>(by cases h),fun _=>al (oO (.list [x]) [114] 2 (by omega)) ?_⟩
   rw[h2]
   simp only[↓zq,zs,ag]
   refine⟨fun h=>(by cases h),fun _=>al (oO (.list [x]) [102] 2 (by omega)) ?_⟩
   rw[h2]
   simp only[↓zq,zs,ag]
   refine⟨fun h=>(by cases h),fun _=>al (oO (.list [x]) [112] 3 (by omega)) ?_⟩
   rw[e3]
   simp only[↓zq,zs,ag]
   exact⟨fun h=>(by cases h),fun _=>rfl⟩
  |
   x::y::z::w::l,hok,hno,hlen =>
   have h2:=fun w=>hno w (fun x a h=>(by cases h))
   have e3:mD (.list (x::y::z::w::l)) [112] 3=false:=by simp[mD]
   rw[h2]
   simp only[↓zq,zs,ag]
   refine⟨fun h=>(by cases h),fun _=>al (oO (.list (x::y::z::w::l)) [114] 2 (by omega)) ?_⟩
   rw[h2]
   simp only[↓zq,zs,ag]
   refine⟨fun h=>(by cases h),fun _=>al (oO (.list (x::y::z::w::l)) [102] 2 (by omega)) ?_⟩
   rw[h2]
   simp only[↓zq,zs,ag]
   refine⟨fun h=>(by cases h),fun _=>al (oO (.list (x::y::z::w::l)) [112] 3 (by omega)) ?_⟩
   rw[e3]
   simp only[↓zq,zs,ag]
   exact⟨fun h=>(by cases h),fun _=>rfl⟩
def qK(s:List UInt8):Option Vl:=match nA s with
 |none=>none
 |
  some e=>match fy e with
  |none=>none
  |some v=>if v.nodes>200 then none else some v
theorem nQ{s:List UInt8}{v:Vl}(h:qK s=some v):nA s=some v.gu/\v.oh 100/\v.nodes<=200:=by
 unfold qK at h
 split at h
 ·cases h
 ·rename_i e he
  split at h
  ·cases h
  ·rename_i w hw
   split at h
   ·cases h
   ·cases h
    obtain⟨h1,h2⟩:=iG e _ hw
    rw[h1]
    exact⟨he,h2,by omega⟩
theorem sf{e:E}{v:Vl}(h:fy e=some v):v.nodes<=e.sz:=by
 obtain⟨h1,_⟩:=iG e v h
 rw[<-kF,h1];exact wH e
theorem F2(s:List UInt8):au Tryz.prog 48 [.v (.string (mk s))] [] (bq (ii (qK s))):=by
 refine G5 _ ?_
 unfold Em
 refine al (Dy s) ?_
 unfold qK
 cases he:nA s with
 |none=>simp only[pJ,↓zq,zs,ag,bq,ii];simp
 |
  some e =>
  obtain⟨h1,h2⟩:=jD he
  simp only[pJ,↓zq,zs,ag,bW,dc]
  refine⟨fun h=>(by cases h),fun _=>?_⟩
  refine al (tZ e h1) ?_
  cases hv:fy e with
  |none=>simp only[ii,↓zq,zs,ag,bq];simp
  |
   some v =>
   have hn:=sf hv
   simp only[ii,↓zq,zs,ag,bj,ei]
   refine⟨fun h=>(by cases h),fun _=>?_⟩
   refine al (AN v (by omega)) ?_
   simp only[↓zq,zs,ag,bq]
   refine⟨fun h=>?_,fun h=>?_⟩
   ·rw[if_pos (by omega)]
   ·rw[if_neg (by omega)]
theorem Bs:∀(e:E),e.ok->au Tryz.prog 85 [e.ic] [] (bq (.v (.bool (sN e))))
 |
  .atom s,hok=>by
  refine Bo _ _ ((a8).mpr trivial) ?_
  have hne:s≠[]:=hok
  simp only[zD,↓zq,zs,ag,zt,bq,sN]
  refine⟨fun _=>⟨fun h=>?_,fun h=>?_⟩,fun h=>absurd h hne⟩
  ·simp[h]
  ·refine al (xh s) ?_
   have h':(s==[117])=false:=by simpa using h
   simp only[↓zq,zs,ag,h',Bool.false_or]
   congr 2
   rw[wh]
   cases en s with
   |none=>rfl
   |some k=>simp
 |
  .list [],hok=>by
  refine Bo _ _ ((cu _).mpr trivial) ?_
  simp only[zD,↓zq,zs,ag,zt,bq,sN]
  refine⟨fun h=>absurd rfl h,fun _=>?_⟩
  refine al GM ?_
  simp[↓zq,zs,ag,zt]
 |
  .list [x],hok=>by
  refine Bo _ _ ((cu _).mpr trivial) ?_
  simp only[zD,↓zq,zs,ag,zt,bq,sN]
  refine⟨fun h=>absurd rfl h,fun _=>?_⟩
  refine al (rr x _) ?_
  simp[↓zq,zs,ag,zt,E.aV]
 |
  .list (x::y::z::w::l),hok=>by
  refine Bo _ _ ((cu _).mpr trivial) ?_
  simp only[zD,↓zq,zs,ag,zt,bq,sN]
  refine⟨fun h=>absurd rfl h,fun _=>?_⟩
  refine al (rr x _) ?_
  simp only[↓zq,zs,ag,zt,E.aV]
  refine⟨fun _=>⟨fun h=>by omega,fun _=>trivial⟩,fun _=>⟨fun _=>⟨fun h=>by omega,fun _=>trivial⟩,fun _=>⟨fun _=>⟨fun h=>by omega,fun _=>trivial⟩,fun _=>⟨fun _=>⟨fun h=>by omega,fun _=>trivial⟩,fun _=>trivial⟩⟩⟩⟩
 |
  .list [x,a],hok=>by
  refine Bo _ _ ((cu _).mpr trivial) ?_
  obtain⟨ok1,ok2,_⟩:=hok
  simp only[zD,↓zq,zs,ag,zt,bq,sN]
  refine⟨fun h=>absurd rfl h,fun _=>?_⟩
  refine al (rr x _) ?_
  simp only[E.aV,toNat_one,be,↓zq,zs,ag,zt,eh,dG,ej,gJ,aw]
  refine⟨fun h=>⟨fun _=>⟨by omega,?_⟩,fun h=>by omega⟩,fun h1=>⟨fun h=>⟨fun _=>⟨by omega,?_⟩,fun h=>by omega⟩,fun h2=>⟨fun h=>⟨fun _=>⟨by omega,?_⟩,fun h=>by omega⟩,fun h3=>⟨fun h=>⟨fun h=>by omega,fun _=>?_⟩,fun h=>?_⟩⟩⟩⟩
  ·refine al (Bs a ok2) ?_
   simp[↓zq,zs,ag,h]
  ·refine al (Bs a ok2) ?_
   simp[↓zq,zs,ag,h]
  ·refine al (Bs a ok2) ?_
   simp[↓zq,zs,ag,h]
  ·simp[h]
  ·simp[h1,h2,h3]
 |
  .list [x,a,b],hok=>by
  refine Bo _ _ ((cu _).mpr trivial) ?_
  obtain⟨ok1,ok2,ok3,_⟩:=hok
  simp only[zD,↓zq,zs,ag,zt,bq,sN]
  refine⟨fun h=>absurd rfl h,fun _=>?_⟩
  refine al (rr x _) ?_
  simp only[E.aV,toNat_one,be,↓zq,zs,ag,zt,eh,dG,ej,gJ,aw]
  refine⟨fun h=>⟨fun h=>by omega,fun _=>?_⟩,fun h1=>⟨fun h=>⟨fun h=>by omega,fun _=>?_⟩,fun h2=>⟨fun h=>⟨fun h=>by omega,fun _=>?_⟩,fun h3=>⟨fun h=>⟨fun _=>⟨by omega,?_⟩,fun h=>by omega⟩,fun h=>?_⟩⟩⟩⟩
  ·simp[h]
  ·simp[h]
  ·simp[h]
  ·refine al (Bs a ok2) ?_
   simp only[↓zq,zs,ag,h]
   refine⟨fun ha=>⟨by omega,al (Bs b ok3) ?_⟩,fun ha=>?_⟩
   ·simp[↓zq,zs,ag,ha]
   ·simp[ha]
  ·simp[h]
theorem EA(s:List UInt8):au Tryz.prog 37 [.v (.string (mk s))] [] (jC ((qK s).map Vl.gu) (qK s).isSome):=by
 refine Fm _ ?_
 unfold EG
 refine aQ (BI s) (jC.ne _ _ (fun h=>h)) ?_
 rintro r o ⟨c,d,hd,rfl,hh⟩
 simp only[↓zq,zs,ag,zt,cd,qK]
 refine⟨hd,fun h=>?_,fun h=>?_⟩
 ·obtain⟨e,he,hce⟩:=hh h
  obtain⟨hok,hsz⟩:=jD he
  rw[he,hce]
  refine al (Bs e hok) ?_
  simp only[↓zq,zs,ag]
  have hs:=lO e
  refine⟨fun hi=>?_,fun hi=>?_⟩
  ·rw[hi]at hs
   obtain⟨v,hv⟩:=bm.1 hs
   obtain⟨h1,h2⟩:=iG e v hv
   refine al (Hi e (by omega)) ?_
   simp only[↓zq,zs,ag,hv]
   have hnd:e.nd=v.nodes:=by rw[<-h1,kF]
   rw[hnd]
   refine⟨c,d,hd,?_,?_⟩
   ·rw[hce]
    by_cases h4:v.nodes>200
    ·rw[if_pos h4];exact congrArg (fun b=>AV.cm [e.ic,.v (.bool b)]) (decide_eq_false (show ¬((v.nodes:Nat):Int)<=200 by omega))
    ·rw[if_neg h4];exact congrArg (fun b=>AV.cm [e.ic,.v (.bool b)]) (decide_eq_true (show ((v.nodes:Nat):Int)<=200 by omega))
   ·split
    ·exact fun h=>by cases h
    ·exact fun _=>⟨e,by simp[h1],hce⟩
  ·rw[hi]at hs
   have hn:fy e=none:=by cases hq:fy e<;>simp[hq]at hs |-
   rw[hn]
   exact⟨c,d,hd,by rw[hce];rfl,fun h=>by cases h⟩
 ·have hn:nA s=none:=by cases hq:nA s<;>simp[hq]at h |-
  rw[hn]
  exact⟨c,d,hd,rfl,fun h=>by cases h⟩
end Go.Proofs.Trees
namespace Go.Proofs.Trees
open Go Go.VL Go.RowKit
inductive Fr where
 |mk (s:List UInt8) (e:E) (o:List Fr)
def Fr.nm:Fr->List UInt8| .mk s _ _=>s
def Fr.ex:Fr->E| .mk _ e _=>e
def Fr.out:Fr->List Fr| .mk _ _ o=>o
def names:List Fr->List (List UInt8)
 |[]=>[]
 |f::r=>names r++[f.nm]
def Bh(e:E)(o:List Fr):Ty:=(bJ e (names o)).getD .zero
def E.sp:E->AV
 | .atom _=>.v (.slice none 0 0)
 | .list l=>.sl (E.aV l)
theorem gj(e:E):e.fG=[.v (.string (mk e.at)),e.sp]:=by cases e<;>rfl
theorem cN(e:E):e.ic=.agg [.v (.string (mk e.at)),e.sp]:=by cases e<;>rfl
theorem bb(e:E):LK.has .sl e.sp=True:=by cases e<;>simp[E.sp,a8,cu]
mutual
def Fr.cells:Fr->List AV
 | .mk s e o=>[.v (.string (mk s)),.v (.string (mk e.at)),e.sp,.sl (ig o)]
def ig:List Fr->List (List AV)
 |[]=>[]
 |f::r=>ig r++[f.cells]
end
mutual
def Fr.dw:Fr->AV
 | .mk s e o=>.ptr [(Bh e o).av,lm o]
def lm:List Fr->AV
 |[]=>n7
 |f::r=>.ptr [f.dw,lm r]
end
inductive WF:List Fr->Prop
 |nil:WF []
 |cons {s:List UInt8} {x a b:E} {t:Ty} {r:List Fr} (hs:cF s=true) (hok:(E.list [x,a,b]).ok) (hx:x.at=[114,101,99]) (ht:bJ (.list [x,a,b]) (names r)=some t) (hf:aZ t=false) (hr:WF r):WF (.mk s (.list [x,a,b]) r::r)
theorem iT:∀env:List Fr,(ig env).length=env.length
 |[]=>rfl
 |f::r=>by simp[ig,iT r]
theorem dk(env:List Fr):LK.has .ptr (lm env)=True:=by cases env<;>simp[lm,kb,fA]
theorem vy(f:Fr):LK.has .ptr f.dw=True:=by cases f;simp[Fr.dw,fA]
def ew(s:List UInt8):List Fr->Option Fr
 |[]=>none
 |f::r=>if f.nm=s then some f else ew s r
def hd(e:E)(env:List Fr):E×List Fr:=match ew e.at env with|some f=>(f.ex,f.out)|none=>(e,env)
theorem l7{env:List Fr}(h:WF env):ew [] env=none:=by
 induction h with
 |nil=>rfl
 |
  @cons s x a b t r hs hok hx ht hf hr ih =>
  rw[ew,if_neg (show ¬(Fr.mk s (.list [x,a,b]) r).nm=[] from uB hs)];exact ih
theorem ui{env:List Fr}(h:WF env){s:List UInt8}{f:Fr}(hf:ew s env=some f):cF s=true:=by
 induction h with
 |nil=>cases hf
 |
  cons hs hok hx ht hf' hr ih =>
  rw[ew]at hf
  split at hf
  ·rename_i e;exact e ▸ hs
  ·exact ih hf
theorem rb{env:List Fr}(h:WF env){s:List UInt8}{f:Fr}(hf:ew s env=some f):∃x a b t,f.ex=.list [x,a,b]/\(E.list [x,a,b]).ok/\x.at=[114,101,99]/\bJ f.ex (names f.out)=some t/\aZ t=false/\WF f.out/\f.out.length<env.length:=by
 induction h with
 |nil=>cases hf
 |
  cons hs hok hx ht hf' hr ih =>
  rw[ew]at hf
  split at hf
  ·cases hf;exact⟨_,_,_,_,rfl,hok,hx,ht,hf',hr,by simp[Fr.out]⟩
  ·obtain⟨x,a,b,t,h1,h2,h3,h4,h5,h6,h7⟩:=ih hf
   exact⟨x,a,b,t,h1,h2,h3,h4,h5,h6,by simp;omega⟩
theorem jI(s w:List UInt8)(ar:List (List UInt8)):∀i,i<=ar.length->bx s (ar++[w]) i=(bx s ar i).map (·+1)
 |0,_=>rfl
 |
  i+1,hi=>by
  have hlt:i<ar.length:=by omega
  have e:(ar++[w]).getD i []=ar.getD i []:=by simp[aa,List.getElem?_append_left hlt]
  rw[bx,bx,e,jI s w ar i (by omega)]
  split
  ·simp only[ap,az,aF,bZ,Option.some.injEq];omega
  ·rfl
theorem qD(s:List UInt8)(f:Fr)(r:List Fr):bx s (names (f::r)) (names (f::r)).length=if f.nm=s then some 0 else(bx s (names r) (names r).length).map (·+1):=by
 have e:(names (f::r)).length=(names r).length+1:=by simp[names]
 rw[e,bx]
 have e2:(names (f::r)).getD (names r).length []=f.nm:=by simp[names,aa]
 rw[e2]
 split
 ·rw[e];simp
 ·rw[names,jI _ _ _ _ (aw _)]
theorem kY(s:List UInt8):∀env:List Fr,bx s (names env) (names env).length=none/\ew s env=none\/∃(u:Nat) (f:Fr),bx s (names env) (names env).length=some u/\ew s env=some f/\env[u]?=some f
 |[]=>.inl ⟨rfl,rfl⟩
 |
  f::r=>by
  rw[qD,ew]
  split
  ·exact .inr ⟨0,f,rfl,rfl,rfl⟩
  ·rcases kY s r with⟨h1,h2⟩|⟨u,g,h1,h2,h3⟩
   ·exact .inl ⟨by rw[h1];rfl,h2⟩
   ·exact .inr ⟨u+1,g,by rw[h1];rfl,h2,by simpa using h3⟩
def Ty.E4:Ty->Bool
 | .ca _=>true
 |_=>false
theorem re{e:E}{env:List Fr}{t:Ty}(hw:WF env)(ht:bJ e (names env)=some t) :
 (t.E4=false/\ew e.at env=none)\/∃(u:Nat) (f:Fr),t=.ca u/\ew e.at env=some f/\env[u]?=some f:=by
 cases e with
 |
  list l =>
  left
  refine⟨?_,l7 hw⟩
  match l,ht with
  |
   [x,a,b],ht =>
   by_cases h0:x.at=[43]
   ·obtain⟨t1,t2,_,_,rfl⟩:=cY h0 ht;rfl
   ·by_cases h1:x.at=[42]
    ·obtain⟨t1,t2,_,_,rfl⟩:=cO h1 ht;rfl
    ·by_cases h2:x.at=[114,101,99]
     ·obtain⟨t1,_,_,rfl⟩:=cP h2 ht;rfl
     ·rw[eD _ h0 h1 h2]at ht;cases ht
  |[],ht=>cases ht
  |[_],ht=>cases ht
  |[_,_],ht=>cases ht
  |_::_::_::_::_,ht=>cases ht
 |
  atom s =>
  simp only[bJ]at ht
  have hno:cF s=false->ew s env=none:=fun h=>by
   cases hq:ew s env with
   |none=>rfl
   |some f=>rw[ui hw hq]at h;cases h
  split at ht
  ·rename_i h;cases ht;subst h;exact .inl ⟨rfl,hno rfl⟩
  ·split at ht
   ·rename_i h;cases ht;subst h;exact .inl ⟨rfl,hno rfl⟩
   ·split at ht
    ·rename_i h
     cases ht
     refine .inl ⟨rfl,hno ?_⟩
     cases hq:cF s with
     |false=>rfl
     |
      true =>
      obtain⟨c,r,rfl,h1,h2⟩:=fb h
      obtain⟨c',r',he,h3,h4⟩:=fb hq
      cases he;omega
    ·split at ht
     ·rcases kY s env with⟨h1,h2⟩|⟨u,f,h1,h2,h3⟩
      ·rw[h1]at ht;cases ht;exact .inl ⟨rfl,h2⟩
      ·rw[h1]at ht;cases ht;exact .inr ⟨u,f,rfl,h2,h3⟩
     ·cases ht
def gh(n:Nat):Vl->E×List Fr->Bool
 | .u,p=>match hd p.1 p.2 with|(.atom s,_)=>s==[49]|_=>false
 | .el k,p=>match hd p.1 p.2 with|(.atom s,_)=>!(s==[49])&&(fW s&&decide (k<n))|_=>false
 | .l w,p=>match hd p.1 p.2 with|(.list [x,a,b],o)=>(x.at==[43])&&gh n w (a,o)|_=>false
 | .r w,p=>match hd p.1 p.2 with|(.list [x,a,b],o)=>(x.at==[43])&&gh n w (b,o)|_=>false
 | .f w,p=>match hd p.1 p.2 with|(.list [x,a,b],o)=>(x.at==[114,101,99])&&gh n w (b,.mk a.at (.list [x,a,b]) o::o)|_=>false
 | .p v w,p=>match hd p.1 p.2 with|(.list [x,a,b],o)=>(x.at==[42])&&(gh n v (a,o)&&gh n w (b,o))|_=>false
theorem nj{e:E}{env:List Fr}(h:ew e.at env=none):hd e env=(e,env):=by rw[hd,h]
theorem sD{e:E}{env:List Fr}{f:Fr}(h:ew e.at env=some f):hd e env=(f.ex,f.out):=by rw[hd,h]
theorem vq{x a b:E}{o:List Fr}(h:WF o):hd (.list [x,a,b]) o=(.list [x,a,b],o):=nj (l7 h)
theorem vA(n:Nat)(v:Vl){e e':E}{env o:List Fr}(h:hd e env=(e',o))(h':hd e' o=(e',o)):gh n v (e,env)=gh n v (e',o):=by
 cases v<;>simp only[gh,h,h']
theorem rj{x a b:E}{env:List Fr}{t:Ty}(hw:WF env)(hok:(E.list [x,a,b]).ok)(hx:x.at=[114,101,99])(ht:bJ (.list [x,a,b]) (names env)=some t)(hf:aZ t=false) :
 ∃t1,t=.rc t1/\bJ b (names (.mk a.at (.list [x,a,b]) env::env))=some t1/\aZ t1=false/\WF (.mk a.at (.list [x,a,b]) env::env):=by
 obtain⟨t1,hl,h1,rfl⟩:=cP hx ht
 exact⟨t1,rfl,h1,hf,.cons hl hok hx ht hf hw⟩
theorem Cj(a b env:AV)(n:Int)(s:ByteArray)(u:Int)(ha:LK.ptr.has a)(he:LK.ptr.has env):au Tryz.prog 105 [.agg [.ptr [.v (.int .u8 n),.v (.string s),.v (.int .i64 u),a,b],env]] [] (bq (.agg [a,env])):=by
 refine He _ _ ((fA _).mpr trivial) he ?_
 simp only[B3,↓zq,zs,ag,bq]
 exact⟨ha,by omega⟩
theorem EI(a b env:AV)(n:Int)(s:ByteArray)(u:Int)(hb:LK.ptr.has b)(he:LK.ptr.has env):au Tryz.prog 106 [.agg [.ptr [.v (.int .u8 n),.v (.string s),.v (.int .i64 u),a,b],env]] [] (bq (.agg [b,env])):=by
 refine Fa _ _ ((fA _).mpr trivial) he ?_
 simp only[Cr,↓zq,zs,ag,bq]
 exact⟨hb,by omega⟩
theorem GU(t:Ty)(env:List Fr)(s:List UInt8)(e:E)(ht:Bh e env=.rc t):au Tryz.prog 107 [.agg [(Ty.rc t).av,lm env]] [] (bq (.cm [.agg [t.av,lm (.mk s e env::env)],(Fr.mk s e env).dw])):=by
 refine Gp _ _ ((aP _).mpr trivial) ((dk _).mpr trivial) ?_
 simp only[EU,Ty.av,↓zq,zs,ag,aP,bq,lm,Fr.dw,ht]
 omega
theorem pa(env:List Fr)(i:Nat)(f:Fr)(h:env[i]?=some f):lm (env.drop i)=.ptr [f.dw,lm (env.drop (i+1))]:=by
 obtain⟨hlt,he⟩:=List.getElem?_eq_some_iff.1 h
 rw[a7 hlt,he,lm]
theorem Er(env:List Fr)(u:Nat)(hu:u<env.length)(hl:env.length<1000000):∀(k i:Nat),i+k=u->Ai [lm (env.drop i),.v (.int .i64 (u:Int)),.v (.int .i64 (i:Int))] [] (mP 1 [lm (env.drop u)] [])
 |
  0,i,hi=>by
  refine Dm _ _ _ ?_
  have:i=u:=by omega
  subst this
  simp only[AW,↓zq,zs,ag,dk]
  exact⟨fun h=>by omega,fun _=>by simp[mP]⟩
 |
  k+1,i,hi=>by
  refine Dm _ _ _ ?_
  have hlt:i<env.length:=by omega
  have hg:env[i]?=some env[i]:=bG hlt
  have hd:=pa env i _ hg
  rw[hd]
  simp only[AW,↓zq,zs,ag,dk]
  refine⟨fun _=>⟨by omega,?_⟩,fun h=>by omega⟩
  rw[ct i (by omega)]
  exact Er env u hu hl k (i+1) (by omega)
theorem G4(env:List Fr)(u:Nat)(f:Fr)(hf:env[u]?=some f)(hl:env.length<1000000):au Tryz.prog 133 [.agg [(Ty.ca u).av,lm env]] [] (bq f.dw):=by
 refine GC _ _ ((aP _).mpr trivial) ((dk _).mpr trivial) ?_
 obtain⟨hlt,he⟩:=List.getElem?_eq_some_iff.1 hf
 simp only[D0,Ty.av,↓zq,zs,ag]
 refine⟨by omega,?_⟩
 have h:=Er env u hlt hl u 0 (by omega)
 simp only[cg]at h
 refine dY h ?_
 rw[pa env u f hf]
 simp only[↓zq,zs,ag,vy,bq]
 omega
theorem wV(k:Nat)(h:k<100):Lib.atoi (dd k)=some (k:Int):=by
 have e:∀k,k<100->dd k=if k<10 then [aW (48+k)]else [aW (48+k/10),aW (48+k%10)]:=by
  intro k hk
  by_cases h1:k<10
  ·rw[eS h1,if_pos h1]
  ·rw[fJ h1,eS (by omega),if_neg h1];rfl
 have key:∀k:Fin 100,Lib.atoi (if k.val<10 then [aW (48+k.val)]else [aW (48+k.val/10),aW (48+k.val%10)])=some (k.val:Int):=by decide +kernel
 rw[e k h];exact key ⟨k,h⟩
theorem Cq(k:Nat)(hk:k<100):au Tryz.prog 81 [.v (.string (mk (dd k)))] [] (bq (.cm [.v (.int .i64 (k:Int)),.v .nilIface])):=by
 have hl:=kI 1000 k (by omega)
 have hl2:(dd k).length<=18:=by
  have e:(dd k).length<=2:=by
   by_cases h1:k<10
   ·rw[eS h1];simp
   ·rw[fJ h1,eS (by omega)];simp
  omega
 refine au.FI (xs:=[.string (mk (dd k))]) (v:=.tuple #[.int .i64 (k:Int),.nilIface]) ⟨mO,by kernel_rfl,by kernel_rfl,by kernel_rfl⟩ (fun M=>?_) fun w=>?_
 ·refine a6.cm _ _ [.int .i64 (k:Int),.nilIface] rfl fun i hi=>?_
  match i,hi with
  |0,_=>exact .v _ _
  |1,_=>exact .v _ _
 ·have:=Any.strconv_Atoi Tryz.xS (mk (dd k)) (k:Int) (by rw[db];exact hl2) (by
   have:(mk (dd k)).data.toList=dd k:=by simp[mk]
   rw[this];exact wV k hk) w
  refine Calls.mono this fun e w' ⟨h1,t,h2⟩=>⟨h1,?_⟩
  subst h2
  refine⟨rfl,rfl,rfl,?_,fun b hb=>Lib.bytesWorld_at_old _ _ _ _ hb⟩
  simp[Lib.bytesWorld,World.freeze]
end Go.Proofs.Trees
namespace Go.Proofs.Trees
open Go Go.VL Go.RowKit
theorem lu{a b:Ty}(h:aZ (.plus a b)=false):aZ a=false/\aZ b=false:=by simpa[aZ]using h
theorem kt{a b:Ty}(h:aZ (.times a b)=false):aZ a=false/\aZ b=false:=by simpa[aZ]using h
theorem fX{e:E}{ar:List (List UInt8)}{t:Ty}(ht:bJ e ar=some t)(hb:t.E4=false)(hf:aZ t=false) :
 (e=.atom [48]/\t=.zero)\/(e=.atom [49]/\t=.one)\/(∃s,e=.atom s/\t=.name s/\fW s=true/\s≠[48]/\s≠[49]) ∨
 (∃x a b t1 t2,e=.list [x,a,b]/\x.at=[43]/\t=.plus t1 t2/\bJ a ar=some t1/\bJ b ar=some t2) ∨
 (∃x a b t1 t2,e=.list [x,a,b]/\x.at=[42]/\t=.times t1 t2/\bJ a ar=some t1/\bJ b ar=some t2) ∨
 (∃x a b t1,e=.list [x,a,b]/\x.at=[114,101,99]/\t=.rc t1):=by
 cases e with
 |
  list l =>
  match l,ht with
  |
   [x,a,b],ht =>
   by_cases h0:x.at=[43]
   ·obtain⟨t1,t2,h1,h2,rfl⟩:=cY h0 ht
    exact .inr (.inr (.inr (.inl ⟨x,a,b,t1,t2,rfl,h0,rfl,h1,h2⟩)))
   ·by_cases h1:x.at=[42]
    ·obtain⟨t1,t2,h3,h2,rfl⟩:=cO h1 ht
     exact .inr (.inr (.inr (.inr (.inl ⟨x,a,b,t1,t2,rfl,h1,rfl,h3,h2⟩))))
    ·by_cases h2:x.at=[114,101,99]
     ·obtain⟨t1,_,_,rfl⟩:=cP h2 ht
      exact .inr (.inr (.inr (.inr (.inr ⟨x,a,b,t1,rfl,h2,rfl⟩))))
     ·rw[eD _ h0 h1 h2]at ht;cases ht
  |[],ht=>cases ht
  |[_],ht=>cases ht
  |[_,_],ht=>cases ht
  |_::_::_::_::_,ht=>cases ht
 |
  atom s =>
  simp only[bJ]at ht
  split at ht
  ·rename_i h;cases ht;subst h;exact .inl ⟨rfl,rfl⟩
  ·rename_i h0
   split at ht
   ·rename_i h;cases ht;subst h;exact .inr (.inl ⟨rfl,rfl⟩)
   ·rename_i h1
    split at ht
    ·rename_i h;cases ht;exact .inr (.inr (.inl ⟨s,rfl,rfl,h,h0,h1⟩))
    ·split at ht
     ·rename_i h
      split at ht
      ·cases ht;cases hb
      ·cases ht;simp only[aZ]at hf;rw[h]at hf;cases hf
     ·cases ht
def mE(n:Nat)(v:Vl)(e:E)(env:List Fr)(t:Ty):Prop:=au Tryz.prog 80 [.agg [t.av,lm env],v.dw,.v (.int .i64 (n:Int))] [] (bq (.v (.bool (gh n v (e,env)))))
structure Ask(e:E)(env:List Fr)(t:Ty):Prop where
 ok:e.ok
 wf:WF env
 ty:bJ e (names env)=some t
 cl:aZ t=false
theorem CV(n:Nat)(hn:n<=100)(v:Vl)(hv:v.oh 100)(IH:∀w:Vl,w.nodes<v.nodes->w.oh 100->∀e env t,Ask e env t->env.length+w.nodes<100000->mE n w e env t)
 (e:E) (env:List Fr) (t:Ty) (A:Ask e env t) (hl:env.length+v.nodes<100000) (hb:t.E4=false) (hh:ew e.at env=none):mE n v e env t:=by
 have hhd:hd e env=(e,env):=nj hh
 unfold mE
 refine Cg _ _ _ _ ((aP _).mpr trivial) ((dk _).mpr trivial) ((bj _).mpr trivial) ?_
 rcases fX A.ty hb A.cl with⟨rfl,rfl⟩|⟨rfl,rfl⟩|⟨s,rfl,rfl,hp,h0,h1⟩|⟨x,a,b,t1,t2,rfl,hx,rfl,ha,hbb⟩|⟨x,a,b,t1,t2,rfl,hx,rfl,ha,hbb⟩|⟨x,a,b,t1,rfl,hx,rfl⟩
 ·have hp0:fW [48]=false:=rfl
  cases v<;>simp[uy,Ty.av,↓zq,zs,ag,bq,gh,hhd,hp0]
 ·have hp0:fW [49]=false:=rfl
  cases v<;>simp[uy,Ty.av,Vl.dw,↓zq,zs,ag,bq,gh,hhd,hp0]
 ·have h1':(s==[49])=false:=by simpa using h1
  cases v with
  |
   el k =>
   have hk:k<100:=hv
   simp only[uy,Ty.av,Vl.dw,↓zq,zs,ag,zt]
   refine⟨by omega,fun h=>by omega,fun _=>⟨fun _=>⟨by omega,fun h=>absurd rfl h,fun _=>⟨by omega,by omega,?_⟩⟩,fun h=>absurd rfl h⟩⟩
   have e1:(List.take ((dd k).length+1) (ug k)).drop (bk 1)=dd k:=by simp[ug]
   rw[e1]
   refine al (Cq k hk) ?_
   simp only[↓zq,zs,ag,bq,gh,hhd,h1',hp,zf]
   refine⟨rfl,?_⟩
   congr 2
   rw[cj];simp
  |
   _ =>
   simp only[uy,Ty.av,Vl.dw,↓zq,zs,ag,zt,gh,hhd,h1',bq]
   exact⟨by omega,fun h=>by omega,fun _=>⟨fun _=>⟨by omega,fun _=>trivial,fun h=>by omega⟩,fun h=>absurd rfl h⟩⟩
 ·have hok:=A.ok
  obtain⟨ok1,ok2,ok3,_⟩:=hok
  obtain⟨f1,f2⟩:=lu A.cl
  cases v with
  |
   l w =>
   simp only[Vl.nodes]at hl
   simp only[uy,Ty.av,Vl.dw,↓zq,zs,ag]
   refine⟨by omega,fun h=>by omega,fun _=>⟨fun h=>by omega,fun _=>⟨fun h=>by omega,fun _=>⟨fun _=>⟨by omega,fun _=>?_,fun h=>absurd rfl h⟩,fun h=>absurd rfl h⟩⟩⟩⟩
   refine al (Cj _ _ _ _ _ _ ((aP _).mpr trivial) ((dk _).mpr trivial)) ?_
   simp only[↓zq,zs,ag,cd,aP,dk,bj]
   refine⟨by omega,?_⟩
   refine al (IH w (by simp only[Vl.nodes];omega) hv a env t1 ⟨ok2,A.wf,ha,f1⟩ (by omega)) ?_
   simp only[↓zq,zs,ag,bq,gh,hhd,hx]
   refine⟨fun h=>?_,fun h=>⟨by omega,fun h=>by omega,fun _=>?_⟩⟩
   ·simp[h]
   ·simp[h]
  |
   r w =>
   simp only[Vl.nodes]at hl
   simp only[uy,Ty.av,Vl.dw,↓zq,zs,ag]
   refine⟨by omega,fun h=>by omega,fun _=>⟨fun h=>by omega,fun _=>⟨fun h=>by omega,fun _=>⟨fun _=>⟨by omega,fun h=>by omega,fun _=>⟨by omega,fun _=>?_,fun h=>absurd rfl h⟩⟩,fun h=>absurd rfl h⟩⟩⟩⟩
   refine al (EI _ _ _ _ _ _ ((aP _).mpr trivial) ((dk _).mpr trivial)) ?_
   simp only[↓zq,zs,ag,cd,aP,dk,bj]
   refine⟨by omega,?_⟩
   refine al (IH w (by simp only[Vl.nodes];omega) hv b env t2 ⟨ok3,A.wf,hbb,f2⟩ (by omega)) ?_
   simp[↓zq,zs,ag,bq,gh,hhd,hx]
  |
   _ =>
   simp only[uy,Ty.av,Vl.dw,↓zq,zs,ag,gh,hhd,bq]
   exact⟨by omega,fun h=>by omega,fun _=>⟨fun h=>by omega,fun _=>⟨fun h=>by omega,fun _=>⟨fun _=>⟨by omega,fun h=>by omega,fun _=>⟨by omega,fun h=>by omega,fun _=>by simp[hx]⟩⟩,fun h=>absurd rfl h⟩⟩⟩⟩
 ·have hok:=A.ok
  obtain⟨ok1,ok2,ok3,_⟩:=hok
  obtain⟨f1,f2⟩:=kt A.cl
  cases v with
  |
   p v w =>
   simp only[Vl.nodes]at hl
   simp only[uy,Ty.av,Vl.dw,↓zq,zs,ag]
   refine⟨by omega,fun h=>by omega,fun _=>⟨fun h=>by omega,fun _=>⟨fun h=>by omega,fun _=>⟨fun h=>by omega,fun _=>⟨fun _=>⟨by omega,fun _=>?_,fun h=>absurd rfl h⟩,fun h=>absurd rfl h⟩⟩⟩⟩⟩
   refine al (Cj _ _ _ _ _ _ ((aP _).mpr trivial) ((dk _).mpr trivial)) ?_
   simp only[↓zq,zs,ag,cd,aP,dk,bj]
   refine⟨by omega,?_⟩
   refine al (IH v (by simp only[Vl.nodes];omega) hv.1 a env t1 ⟨ok2,A.wf,ha,f1⟩ (by omega)) ?_
   simp only[↓zq,zs,ag,bq,gh,hhd,hx]
   refine⟨fun h=>?_,fun h=>?_⟩
   ·refine al (EI _ _ _ _ _ _ ((aP _).mpr trivial) ((dk _).mpr trivial)) ?_
    simp only[↓zq,zs,ag,cd,aP,dk,bj]
    refine⟨by omega,?_⟩
    refine al (IH w (by simp only[Vl.nodes];omega) hv.2 b env t2 ⟨ok3,A.wf,hbb,f2⟩ (by omega)) ?_
    simp[↓zq,zs,ag,h]
   ·simp[h]
  |
   _ =>
   simp only[uy,Ty.av,Vl.dw,↓zq,zs,ag,gh,hhd,bq]
   exact⟨by omega,fun h=>by omega,fun _=>⟨fun h=>by omega,fun _=>⟨fun h=>by omega,fun _=>⟨fun h=>by omega,fun _=>⟨fun _=>⟨by omega,fun h=>by omega,fun _=>by simp[hx]⟩,fun h=>absurd rfl h⟩⟩⟩⟩⟩
 ·obtain⟨t1',he1,h1,f1,hw1⟩:=rj A.wf A.ok hx A.ty A.cl
  cases he1
  have hok:=A.ok
  obtain⟨ok1,ok2,ok3,_⟩:=hok
  have htD:Bh (.list [x,a,b]) env=.rc t1:=by rw[Bh,A.ty];rfl
  have hin:=GU t1 env a.at (.list [x,a,b]) htD
  simp only[Ty.av]at hin
  simp only[uy,Ty.av,↓zq,zs,ag]
  refine⟨by omega,fun h=>by omega,fun _=>⟨fun h=>by omega,fun _=>⟨fun h=>by omega,fun _=>⟨fun h=>by omega,fun _=>⟨fun h=>by omega,fun _=>⟨fun _=>?_,fun h=>absurd rfl h⟩⟩⟩⟩⟩⟩
  refine al hin ?_
  simp only[↓zq,zs,ag,cd,aP,dk,vy,bj,ei]
  cases v with
  |
   f w =>
   simp only[Vl.nodes]at hl
   simp only[Vl.dw,↓zq,zs,ag,bj]
   refine⟨by omega,fun _=>⟨by omega,?_⟩,fun h=>absurd rfl h⟩
   refine al (IH w (by simp only[Vl.nodes];omega) hv b (.mk a.at (.list [x,a,b]) env::env) t1 ⟨ok3,hw1,h1,f1⟩ (by simp;omega)) ?_
   simp[↓zq,zs,ag,bq,gh,hhd,hx]
  |
   _ =>
   simp only[Vl.dw,↓zq,zs,ag,gh,hhd,bq]
   exact⟨by omega,fun h=>by omega,fun _=>by simp[hx]⟩
theorem BR(n:Nat)(hn:n<=100):∀(m:Nat) (v:Vl),v.nodes<m->v.oh 100->∀e env t,Ask e env t->env.length+v.nodes<100000->mE n v e env t
 |0,v,h,_=>by omega
 |
  m+1,v,h,hv=>by
  intro e env t A hl
  have IH:∀w:Vl,w.nodes<v.nodes->w.oh 100->∀e env t,Ask e env t->env.length+w.nodes<100000->mE n w e env t:=fun w hw hb=>BR n hn m w (by omega) hb
  rcases re A.wf A.ty with⟨hb,hh⟩|⟨u,f,rfl,hh,hu⟩
  ·exact CV n hn v hv IH e env t A hl hb hh
  ·obtain⟨x,a,b,t',hfe,hok,hx,ht',hf',hwf,hlt⟩:=rb A.wf hh
   obtain⟨t1,hl1,h1,rfl⟩:=cP hx (hfe ▸ ht')
   have hvis:gh n v (e,env)=gh n v (f.ex,f.out):=vA n v (sD hh) (by rw[hfe];exact vq hwf)
   unfold mE
   refine Cg _ _ _ _ ((aP _).mpr trivial) ((dk _).mpr trivial) ((bj _).mpr trivial) ?_
   have hbd:=G4 env u f hu (by omega)
   simp only[Ty.av]at hbd
   simp only[uy,Ty.av,↓zq,zs,ag]
   refine⟨by omega,fun h=>by omega,fun _=>⟨fun h=>by omega,fun _=>⟨fun _=>?_,fun h=>absurd rfl h⟩⟩⟩
   refine al hbd ?_
   cases f with
   |
    mk s ee oo =>
    simp only[Fr.ex,Fr.out]at hfe ht' hf' hwf hvis hlt
    have htD:Bh ee oo=.rc t1:=by rw[Bh,ht'];rfl
    simp only[Fr.dw,htD,↓zq,zs,ag,cd,aP,dk]
    refine⟨by omega,?_⟩
    have hs:=CV n hn v hv IH ee oo (.rc t1) ⟨by rw[hfe];exact hok,hwf,ht',hf'⟩ (by omega) rfl (by rw[hfe];exact l7 hwf)
    unfold mE at hs
    refine al hs ?_
    simp[↓zq,zs,ag,bq,hvis]
end Go.Proofs.Trees
namespace Go.Proofs.Trees
open Go Go.VL Go.RowKit
theorem oX:∀(env:List Fr) (k:Nat) (f:Fr),env[k]?=some f->(ig env).getD (env.length-1-k) []=f.cells
 |[],k,f,h=>by cases h
 |
  g::r,0,f,h=>by
  cases h
  have:(g::r).length-1-0=(ig r).length:=by simp[iT]
  rw[this,ig];simp[aa]
 |
  g::r,k+1,f,h=>by
  have h':r[k]?=some f:=by simpa using h
  have hlt:=(List.getElem?_eq_some_iff.1 h').1
  have e:(g::r).length-1-(k+1)=r.length-1-k:=by simp;omega
  have:=oX r k f h'
  rw[e,ig,aa,List.getElem?_append_left (by rw[iT];omega),<-aa]
  exact this
theorem nB(f:Fr):f.cells=[.v (.string (mk f.nm)),.v (.string (mk f.ex.at)),f.ex.sp,.sl (ig f.out)]:=by cases f;rfl
theorem Ej(e:E)(env:List Fr)(hl:env.length<1000000):∀(j k:Nat),k+j=env.length->A1 [.sl (ig env),.v (.int .i64 ((env.length:Int)-1-(k:Int)))] [.cells [.v (.string (mk e.at)),e.sp],.cells [.v (.string (mk [])),.v (.slice none 0 0)]]
 (ox (match ew e.at (env.drop k)with|some f=>(2,[.sl (ig f.out)],[.cells [.v (.string (mk f.ex.at)),f.ex.sp]])|none=>(1,[.sl (ig env)],[.cells [.v (.string (mk e.at)),e.sp],.cells [.v (.string (mk [])),.v (.slice none 0 0)]])))
 |
  0,k,hk=>by
  refine DX _ _ _ _ _ _ ?_
  have hd:env.drop k=[]:=bf (by omega)
  simp only[zU,↓zq,zs,ag,bb,hd,ew]
  exact⟨fun h=>by omega,fun _=>by first|trivial|rfl⟩
 |
  j+1,k,hk=>by
  refine DX _ _ _ _ _ _ ?_
  have hlt:k<env.length:=by omega
  have hg:env[k]?=some env[k]:=bG hlt
  have hc:=oX env k _ hg
  have e1:((env.length:Int)-1-(k:Int))=((env.length-1-k:Nat):Int):=by omega
  have hdr:env.drop k=env[k]::env.drop (k+1):=a7 hlt
  rw[hdr,ew,e1]
  simp only[zU,bi,hc,nB,↓zq,zs,ag,zt,bb,iT,cd]
  refine⟨fun _=>⟨by omega,by omega,fun h=>⟨by omega,by omega,by omega,by omega,?_⟩,fun h=>?_⟩,fun h=>by omega⟩
  ·rw[if_pos h]
  ·rw[if_neg h]
   have e2:IntKind.wrap .i64 (((env.length-1-k:Nat):Int)-1)=(env.length:Int)-1-((k+1:Nat):Int):=by
    have:IntKind.wrap .i64 (((env.length-1-k:Nat):Int)-1)=((env.length-1-k:Nat):Int)-1:=wrap64 _ (by omega) (by omega)
    omega
   rw[e2]
   exact Ej e env hl j (k+1) (by omega)
theorem Gs(e:E)(env:List Fr)(hl:env.length<1000000):au Tryz.prog 138 [e.ic,.sl (ig env)] [] (bq (.cm [(hd e env).1.ic,.sl (ig (hd e env).2)])):=by
 rw[cN e]
 refine Hh _ _ _ ((bb _).mpr trivial) ((cu _).mpr trivial) ?_
 simp only[Bw,↓zq,zs,ag,iT,bq]
 have h:=Ej e env hl env.length 0 (by omega)
 simp only[cg]at h
 rw[wrap64 _ (by omega) (by omega)]
 rw[show (env.length:Int)-1-((0:Nat):Int)=(env.length:Int)-1 by omega]at h
 refine gx h (fun ys o e'=>?_) (fun ys o e'=>?_)
 ·unfold hd
  cases hq:ew e.at env<;>rw[hq]at e'<;>cases e'
  simp only[↓zq,zs,ag,zt,bb,cN]
 ·unfold hd
  cases hq:ew e.at env<;>rw[hq]at e'<;>cases e'
  simp only[↓zq,zs,ag,zt,bb,cN]
theorem mI:∀env:List Fr,di 4 (ig env)
 |[]=>fun c hc=>by cases hc
 |
  f::r=>fun c hc=>by
  simp only[ig,aM,bh]at hc
  rcases hc with hc|rfl
  ·exact mI r c hc
  ·rw[nB];rfl
theorem Gk(x a b:E)(env:List Fr)(hl:env.length<1000000):au Tryz.prog 139 [(E.list [x,a,b]).ic,.sl (ig env)] [] (bq (.cm [b.ic,.sl (ig (.mk a.at (.list [x,a,b]) env::env))])):=by
 refine Gm _ _ _ ((cu _).mpr trivial) ((cu _).mpr trivial) ?_
 simp only[D1,E.aV,toNat_one,be,↓zq,zs,ag,zt,eh,dG,ej,gJ,aw,iT,bq,dj]
 refine⟨by omega,⟨mI env,by omega⟩,by omega,by omega,⟨fun c hc=>(by simp at hc;rw[hc];rfl),by omega⟩,?_⟩
 simp only[ig,nB,Fr.nm,Fr.ex,Fr.out,E.at,E.sp,E.aV]
theorem xP(s:ByteArray)(e:E):cd [.str,.sl] [.v (.string s),e.sp] 0=True:=by apply eq_true;simp[cd,eM,bb]
theorem zc{e:E}{env:List Fr}{t:Ty}(A:Ask e env t):∃e' o t',hd e env=(e',o)/\Ask e' o t'/\t'.E4=false/\hd e' o=(e',o)/\o.length<=env.length:=by
 rcases re A.wf A.ty with⟨hb,hh⟩|⟨u,f,rfl,hh,hu⟩
 ·exact⟨e,env,t,nj hh,A,hb,nj hh,aw _⟩
 ·obtain⟨x,a,b,t',hfe,hok,hx,ht',hf',hwf,hlt⟩:=rb A.wf hh
  refine⟨f.ex,f.out,t',sD hh,⟨by rw[hfe];exact hok,hwf,ht',hf'⟩,?_,?_,by omega⟩
  ·obtain⟨t1,_,_,rfl⟩:=cP hx (hfe ▸ ht');rfl
  ·rw[hfe];exact vq hwf
def vh:Vl->List UInt8
 | .l _=>[108]
 | .r _=>[114]
 | .f _=>[102]
 | .p _ _=>[112]
 |_=>[]
theorem wm(v:Vl):au Tryz.prog 90 [v.gu.ic] [] (bq (.v (.string (mk (vh v))))):=by
 cases v with
 |u=>exact xQ _ _ ((a8).mpr trivial) (by simp)
 |el k=>exact xQ _ _ ((a8).mpr trivial) (by simp)
 |l v=>exact rr _ _
 |r v=>exact rr _ _
 |f v=>exact rr _ _
 |p v w=>exact rr _ _
theorem Gy(v:Vl)(hv:v.oh 100):v.gu.at=(match v with| .u=>[117]| .el k=>ug k|_=>[])/\wh v.gu.at=(match v with| .el k=>(k:Int)|_=>-1):=by
 cases v with
 |el k=>exact⟨rfl,Ao k hv⟩
 |u=>exact⟨rfl,rfl⟩
 |_=>exact⟨rfl,rfl⟩
theorem Bq(n:Nat)(hn:n<=100):∀(m:Nat) (v:Vl),v.nodes<m->v.oh 100->∀e env t,Ask e env t->env.length+v.nodes<100000->au Tryz.prog 89 [e.ic,.sl (ig env),v.gu.ic,.v (.int .i64 (n:Int))] [] (bq (.v (.bool (gh n v (e,env)))))
 |0,v,hm,hv,e,env,t,A,hl=>by omega
 |
  m+1,v,hm,hv,e,env,t,A,hl=>by
  obtain⟨e',o,t',hhd,A',hb,hh',hlen⟩:=zc A
  rw[vA n v hhd hh',cN e,cN v.gu]
  refine GS _ _ _ _ _ _ ((bb _).mpr trivial) ((cu _).mpr trivial) ((bb _).mpr trivial) ?_
  have hf:=Gs e env (by omega)
  rw[cN e,hhd]at hf
  have hvh:=wm v
  rw[cN]at hvh
  unfold EH
  refine al hf ?_
  simp only[cN e',↓zq,zs,ag,zt,bb,xP,bq]
  rcases fX A'.ty hb A'.cl with⟨rfl,rfl⟩|⟨rfl,rfl⟩|⟨s,rfl,rfl,hp,h0,h1⟩|⟨x,a,b,t1,t2,rfl,hx,rfl,ha,hbb⟩|⟨x,a,b,t1,t2,rfl,hx,rfl,ha,hbb⟩|⟨x,a,b,t1,rfl,hx,rfl⟩
  ·refine⟨fun _=>⟨fun h=>by simp[E.at]at h,fun _=>al (An _) ?_⟩,fun h=>by simp[E.at]at h⟩
   have hp0:fW (E.atom [48]).at=false:=rfl
   have hp1:fW [48]=false:=rfl
   cases v<;>simp[↓zq,zs,ag,hp0,gh,hh',hp1]
  ·refine⟨fun _=>⟨fun _=>?_,fun h=>absurd rfl h⟩,fun h=>by simp[E.at]at h⟩
   have hp1:fW [49]=false:=rfl
   cases v<;>simp[gh,hh',hp1,Vl.gu,E.at]
  ·have hne:s≠[]:=A'.ok
   have h1':(s==[49])=false:=by simpa using h1
   refine⟨fun _=>⟨fun h=>absurd h h1,fun _=>al (An _) ?_⟩,fun h=>absurd h hne⟩
   have hat:(E.atom s).at=s:=rfl
   simp only[hat,hp,↓zq,zs,ag]
   refine⟨fun _=>al (xh _) ?_,fun h=>by cases h⟩
   simp only[↓zq,zs,ag]
   rw[wrap64 _ (by omega) (by omega)]
   refine al (vf _ _ _) ?_
   simp only[↓zq,zs,ag,xz,(Gy v hv).2]
   cases v with
   |
    el k =>
    simp only[gh,hh',h1',hp,zf]
    congr 2
    rw[cj];simp;omega
   |_=>simp[gh,hh',h1']
  ·have hok:=A'.ok
   obtain⟨ok1,ok2,ok3,_⟩:=hok
   obtain⟨f1,f2⟩:=lu A'.cl
   refine⟨fun h=>absurd rfl h,fun _=>al (rr x [a,b]) ?_⟩
   simp only[↓zq,zs,ag]
   refine al hvh ?_
   rw[hx]
   cases v with
   |
    l w =>
    simp only[Vl.nodes]at hl
    simp only[vh,Vl.gu,E.sp,E.aV,toNat_one,be,↓zq,zs,ag,zt,eh,dG,ej,gJ,aw]
    refine⟨by simp,fun _=>⟨by omega,by omega,al (Bq n hn m w (by simp only[Vl.nodes]at hm;omega) hv a o t1 ⟨ok2,A'.wf,ha,f1⟩ (by omega)) ?_⟩,fun h=>absurd rfl h⟩
    simp[↓zq,zs,ag,gh,hh',hx]
   |
    r w =>
    simp only[Vl.nodes]at hl
    simp only[vh,Vl.gu,E.sp,E.aV,toNat_one,be,↓zq,zs,ag,zt,eh,dG,ej,gJ,aw]
    refine⟨by simp,fun h=>by simp at h,fun _=>⟨fun _=>⟨by omega,by omega,al (Bq n hn m w (by simp only[Vl.nodes]at hm;omega) hv b o t2 ⟨ok3,A'.wf,hbb,f2⟩ (by omega)) ?_⟩,fun h=>absurd rfl h⟩⟩
    simp[↓zq,zs,ag,gh,hh',hx]
   |_=>simp[vh,↓zq,zs,ag,zt,gh,hh',hx]
  ·have hok:=A'.ok
   obtain⟨ok1,ok2,ok3,_⟩:=hok
   obtain⟨f1,f2⟩:=kt A'.cl
   refine⟨fun h=>absurd rfl h,fun _=>al (rr x [a,b]) ?_⟩
   simp only[↓zq,zs,ag]
   refine al hvh ?_
   rw[hx]
   cases v with
   |
    p w z =>
    simp only[Vl.nodes]at hl
    simp only[vh,Vl.gu,E.sp,E.aV,toNat_one,be,↓zq,zs,ag,zt,eh,dG,ej,gJ,aw]
    refine⟨by simp,fun h=>by simp at h,fun _=>⟨fun h=>by simp at h,fun _=>⟨fun _=>⟨by omega,by omega,al (Bq n hn m w (by simp only[Vl.nodes]at hm;omega) hv.1 a o t1 ⟨ok2,A'.wf,ha,f1⟩ (by omega)) ?_⟩,fun h=>absurd rfl h⟩⟩⟩
    simp only[↓zq,zs,ag,gh,hh',hx]
    refine⟨fun h=>⟨by omega,by omega,al (Bq n hn m z (by simp only[Vl.nodes]at hm;omega) hv.2 b o t2 ⟨ok3,A'.wf,hbb,f2⟩ (by omega)) ?_⟩,fun h=>?_⟩
    ·simp[↓zq,zs,ag,h]
    ·simp[h]
   |_=>simp[vh,↓zq,zs,ag,zt,gh,hh',hx]
  ·obtain⟨t1',he1,h1,f1,hw1⟩:=rj A'.wf A'.ok hx A'.ty A'.cl
   cases he1
   have hok:=A'.ok
   obtain⟨ok1,ok2,ok3,_⟩:=hok
   refine⟨fun h=>absurd rfl h,fun _=>al (rr x [a,b]) ?_⟩
   simp only[↓zq,zs,ag]
   refine al hvh ?_
   rw[hx]
   cases v with
   |
    f w =>
    simp only[Vl.nodes]at hl
    simp only[vh,Vl.gu,E.sp,E.aV,toNat_one,be,↓zq,zs,ag,zt,eh,dG,ej,gJ,aw]
    refine⟨by simp,fun h=>by simp at h,fun _=>⟨fun h=>by simp at h,fun _=>⟨fun h=>by simp at h,fun _=>⟨fun _=>al (Gk x a b o (by omega)) ?_,fun h=>absurd rfl h⟩⟩⟩⟩
    simp only[↓zq,zs,ag,s4,w7]
    refine⟨by omega,al (Bq n hn m w (by simp only[Vl.nodes]at hm;omega) hv b (.mk a.at (.list [x,a,b]) o::o) t1 ⟨ok3,hw1,h1,f1⟩ (by simp;omega)) ?_⟩
    simp[↓zq,zs,ag,gh,hh',hx]
   |_=>simp[vh,↓zq,zs,ag,zt,gh,hh',hx]
theorem Fp(n:Nat)(hn:n<=100)(v:Vl)(hv:v.oh 100)(e:E)(env:List Fr)(t:Ty)(A:Ask e env t)(hl:env.length+v.nodes<100000):au Tryz.prog 89 [e.ic,.sl (ig env),v.gu.ic,.v (.int .i64 (n:Int))] [] (bq (.v (.bool (gh n v (e,env))))):=Bq n hn (v.nodes+1) v (by omega) hv e env t A hl
end Go.Proofs.Trees
namespace Go.Proofs.Trees
open Go Go.VL Go.RowKit
theorem Di(l:List (List UInt8))(a:AV)(ha:dD a l)(s:List UInt8)(hl:l.length<1000000):∀(k i:Nat),i+k=l.length->zP [a,.v (.string (mk s)),.v (.int .i64 (i:Int))] []
 (ox (if s∈l.drop i then(2,[.v (.bool true)],[])else(1,[],[])))
 |
  0,i,hi=>by
  refine ER _ _ _ ?_
  have hd:l.drop i=[]:=bf (by omega)
  simp only[zl,↓zq,zs,ag,hd,ha.len]
  exact⟨ha.1,ha.1,fun h=>by omega,fun _=>by simp[ox]⟩
 |
  k+1,i,hi=>by
  have hlt:i<l.length:=by omega
  have hdr:l.drop i=l.getD i []::l.drop (i+1):=by
   rw[a7 hlt];simp[aa,hlt]
  refine ER _ _ _ ?_
  simp only[zl,↓zq,zs,ag,zt,ha.len,ha.idx hlt]
  refine⟨ha.1,ha.1,fun _=>⟨⟨ha.1,by omega,by omega⟩,by omega,fun h=>?_,fun h=>?_⟩,fun h=>by omega⟩
  ·rw[hdr,h];simp[ox]
  ·rw[ct i (by omega)]
   have:=Di l a ha s hl k (i+1) (by omega)
   have e:s∈l.drop i↔s∈l.drop (i+1):=by
    rw[hdr,aG];exact⟨fun q=>q.resolve_left (fun q=>h q.symm),.inr⟩
   simp only[e];exact this
theorem Bl(l:List (List UInt8))(a:AV)(ha:dD a l)(s:List UInt8)(hl:l.length<1000000):au Tryz.prog 142 [a,.v (.string (mk s))] [] (bq (.v (.bool (decide (s∈l))))):=by
 refine Fw _ _ ha.1 ?_
 unfold DS
 refine gx (Di l a ha s hl l.length 0 (by omega)) (fun ys o e=>?_) (fun ys o e=>?_)
 ·simp only[cg]at e
  split at e<;>cases e
  rename_i h
  simp[↓zq,zs,ag,bq,h]
 ·simp only[cg]at e
  split at e<;>cases e
  rename_i h
  simp[↓zq,zs,ag,bq,h]
theorem tG(l:List (List UInt8))(a:AV)(ha:dD a l)(s:List UInt8)(hl:l.length<1000000):au Tryz.prog 143 [a,.v (.string (mk s))] [] (bq (.sl (bM (l++[s])))):=by
 refine Fl _ _ ha.1 ?_
 simp only[Da,↓zq,zs,ag,ha.2,bq,dj]
 have:(bM l).length=l.length:=by simp[bM]
 refine⟨⟨ha.1,jU l,by omega⟩,⟨fun c hc=>(by simp at hc;rw[hc];rfl),by omega⟩,?_⟩
 rw[vD]
def ju:E->List (List UInt8)->List (List UInt8)->List (List UInt8)
 | .atom s,bd,l=>if s=[48]\/s=[49]\/s∈bd\/s∈l then l else l++[s]
 | .list [x,a,b],bd,l=>if x.at=[114,101,99]then ju b (bd++[a.at]) l else ju b bd (ju a bd l)
 | .list _,_,l=>l
theorem fC:∀(e:E) (bd l:List (List UInt8)),(ju e bd l).length<=l.length+e.sz
 | .atom s,bd,l=>by rw[ju];split<;>simp[E.sz]
 | .list [],bd,l=>by simp[ju]
 | .list [_],bd,l=>by simp[ju]
 | .list [_,_],bd,l=>by simp[ju]
 | .list (_::_::_::_::_),bd,l=>by simp[ju]
 |
  .list [x,a,b],bd,l=>by
  rw[ju]
  simp only[E.sz,E.gD]
  split
  ·have:=fC b (bd++[a.at]) l;omega
  ·have:=fC a bd l
   have:=fC b bd (ju a bd l)
   omega
theorem yl:∀(e:E) (bd l:List (List UInt8)) (a:AV),e.ok->fP e=true->dD a bd->bd.length+l.length+e.sz<100000->au Tryz.prog 98 [e.ic,a,.vec 0] [.vec 1 (bM l)] (eX (.vec 1) [.dead,.vec 1 (bM (ju e bd l))])
 |
  .atom s,bd,l,a,hok,hty,ha,hl=>by
  simp only[E.sz]at hl
  refine tR _ _ _ _ ((a8).mpr trivial) ha.1 ?_
  have hne:s≠[]:=hok
  have hll:(bM l).length=l.length:=by simp[bM]
  simp only[y0,↓zq,zs,ag,zt,eX,ju]
  refine⟨fun _=>⟨fun h=>?_,fun h=>⟨fun h1=>?_,fun h1=>?_⟩⟩,fun h=>absurd h hne⟩
  ·rw[if_pos (.inl h)]
  ·rw[if_pos (.inr (.inl h1))]
  ·refine al (Bl bd a ha s (by omega)) ?_
   simp only[↓zq,zs,ag]
   refine⟨fun h2=>?_,fun h2=>al (Bl l _ (.of l) s (by omega)) ?_⟩
   ·rw[if_pos (.inr (.inr (.inl h2)))]
   ·simp only[↓zq,zs,ag]
    refine⟨fun h3=>?_,fun h3=>⟨⟨fun c hc=>(by simp at hc;rw[hc];rfl),by omega⟩,?_⟩⟩
    ·rw[if_pos (.inr (.inr (.inr h3)))]
    ·rw[vD,if_neg]
     rintro(q|q|q|q)
     ·exact h q
     ·exact h1 q
     ·exact h2 q
     ·exact h3 q
 | .list [],_,_,_,_,h,_,_=>by cases h
 | .list [_],_,_,_,_,h,_,_=>by cases h
 | .list [_,_],_,_,_,_,h,_,_=>by cases h
 | .list (_::_::_::_::_),_,_,_,_,h,_,_=>by cases h
 |
  .list [x,y,z],bd,l,a,hok,hty,ha,hl=>by
  simp only[E.sz,E.gD]at hl
  obtain⟨ok1,ok2,ok3,_⟩:=hok
  refine tR _ _ _ _ ((cu _).mpr trivial) ha.1 ?_
  simp only[y0,E.aV,toNat_one,be,↓zq,zs,ag,zt,eh,dG,ej,gJ,aw,eX]
  refine⟨fun h=>absurd rfl h,fun _=>al (rr x [y,z]) ?_⟩
  simp only[↓zq,zs,ag,zt]
  have hyl:=fC y bd l
  rw[fP]at hty
  refine⟨fun h=>⟨by omega,by omega,by omega,al (tG bd a ha y.at (by omega)) ?_⟩,fun h=>⟨by omega,by omega,?_⟩⟩
  ·have hz:fP z=true:=by
    rw[if_neg (by rw[h];decide),if_neg (by rw[h];decide),if_pos h]at hty
    simp only[ak]at hty;exact hty.2
   simp only[↓zq,zs,ag]
   refine bE (yl z (bd++[y.at]) l _ ok3 hz (.of _) (by simp;omega)) ?_
   simp only[↓zq,zs,ag]
   rw[ju,if_pos h]
  ·have hyz:fP y=true/\fP z=true:=by
    split at hty
    ·simpa using hty
    ·split at hty
     ·simpa using hty
     ·cases hty
   refine bE (yl y bd l a ok2 hyz.1 ha (by omega)) ?_
   simp only[↓zq,zs,ag]
   refine bE (yl z bd (ju y bd l) a ok3 hyz.2 ha (by omega)) ?_
   simp only[↓zq,zs,ag]
   rw[ju,if_neg h]
theorem mJ{s:List UInt8}(h:fW s=true):cF s=false:=by
 cases hq:cF s with
 |false=>rfl
 |
  true =>
  obtain⟨c,r,rfl,h1,h2⟩:=fb h
  obtain⟨c',r',he,h3,h4⟩:=fb hq
  cases he;omega
theorem jH(s:List UInt8)(ar:List (List UInt8)):∀i,i<=ar.length->(bx s ar i=none↔s∉ar.take i)
 |0,_=>by simp[bx]
 |
  i+1,hi=>by
  have hlt:i<ar.length:=by omega
  have e:ar.getD i []=ar[i]:=by simp[aa,hlt]
  have e2:s∈ar.take (i+1)↔s∈ar.take i\/s=ar[i]:=by
   rw[show ar.take (i+1)=ar.take i++[ar[i]] from (List.take_append_getElem hlt).symm]
   simp only[aM,bh]
  rw[bx,e,e2]
  by_cases h:ar[i]=s
  ·rw[if_pos h]
   exact⟨fun h=>(by cases h),fun h'=>absurd (.inr h.symm) h'⟩
  ·rw[if_neg h,jH s ar i (by omega)]
   exact⟨fun h1 h2=>h2.elim h1 (fun h3=>h h3.symm),fun h1 h2=>h1 (.inl h2)⟩
theorem jm:∀(e:E) (ar l:List (List UInt8)) (t:Ty),bJ e ar=some t->(∀w,w∈ar->cF w=true)->(ju e ar l).any cF=(l.any cF||aZ t)
 |
  .atom s,ar,l,t,h,har=>by
  simp only[bJ]at h
  rw[ju]
  split at h
  ·rename_i h0;cases h;rw[if_pos (.inl h0)];simp[aZ]
  ·rename_i h0
   split at h
   ·rename_i h1;cases h;rw[if_pos (.inr (.inl h1))];simp[aZ]
   ·rename_i h1
    split at h
    ·rename_i h2
     cases h
     have hn:=mJ h2
     simp only[aZ,hn]
     split
     ·simp
     ·simp[hn]
    ·split at h
     ·rename_i h2 h3
      have hlo:=jH s ar ar.length (aw _)
      rw[List.take_length]at hlo
      cases hq:bx s ar ar.length with
      |
       some u =>
       rw[hq]at h;cases h
       have hm:s∈ar:=Classical.byContradiction fun hm=>by rw[hlo.2 hm]at hq;cases hq
       rw[if_pos (.inr (.inr (.inl hm)))];simp[aZ]
      |
       none =>
       rw[hq]at h;cases h
       have hm:=hlo.1 hq
       simp only[aZ,h3,Bool.or_true]
       split
       ·rename_i hh
        rcases hh with q|q|q|q
        ·exact absurd q h0
        ·exact absurd q h1
        ·exact absurd q hm
        ·rw[bC];exact⟨s,q,h3⟩
       ·simp[h3]
     ·cases h
 | .list [],_,_,_,h,_=>by cases h
 | .list [_],_,_,_,h,_=>by cases h
 | .list [_,_],_,_,_,h,_=>by cases h
 | .list (_::_::_::_::_),_,_,_,h,_=>by cases h
 |
  .list [x,a,b],ar,l,t,h,har=>by
  rw[ju]
  by_cases h0:x.at=[43]
  ·obtain⟨t1,t2,e1,e2,rfl⟩:=cY h0 h
   rw[if_neg (by rw[h0];decide),jm b ar _ t2 e2 har,jm a ar l t1 e1 har,aZ,cx]
  ·by_cases h1:x.at=[42]
   ·obtain⟨t1,t2,e1,e2,rfl⟩:=cO h1 h
    rw[if_neg (by rw[h1];decide),jm b ar _ t2 e2 har,jm a ar l t1 e1 har,aZ,cx]
   ·by_cases h2:x.at=[114,101,99]
    ·obtain⟨t1,hl,e1,rfl⟩:=cP h2 h
     rw[if_pos h2,jm b _ l t1 e1 (fun w hw=>by
      simp only[aM,bh]at hw
      rcases hw with hw|rfl
      ·exact har w hw
      ·exact hl),aZ]
    ·rw[eD _ h0 h1 h2]at h;cases h
def kN(s:List UInt8):Option E:=match rp s with
 |none=>none
 |some e=>if(ju e [] []).any cF=true then none else some e
theorem vH{s:List UInt8}:uv s=match kN s with|none=>none|some e=>bJ e []:=by
 unfold uv kN
 rw[vG]
 cases he:rp s with
 |none=>rfl
 |
  some e =>
  obtain⟨h1,h2,h3⟩:=ml he
  have hs:=fp e []
  rw[h2]at hs
  obtain⟨t,ht⟩:=bm.1 hs
  have ha:=jm e [] [] t ht (fun w hw=>by cases hw)
  simp only[ht,oN,ha,List.any_nil,Bool.false_or]
  cases hf:aZ t<;>simp[ht]
theorem iQ{s:List UInt8}{e:E}(h:kN s=some e):∃t,uv s=some t/\Ask e [] t/\fP e=true/\e.sz<=8000/\t.aS<=400/\nA s=some e:=by
 have h0:=h
 unfold kN at h
 split at h
 ·cases h
 ·rename_i e' he
  split at h
  ·cases h
  ·rename_i hn
   cases h
   obtain⟨h1,h2,h3⟩:=ml he
   obtain⟨hok,hsz⟩:=jD h1
   have hs:=fp e []
   rw[h2]at hs
   obtain⟨t,ht⟩:=bm.1 hs
   have ha:=jm e [] [] t ht (fun w hw=>by cases hw)
   rw[ha]at hn
   refine⟨t,by rw[vH,h0];exact ht,⟨hok,.nil,ht,by simpa using hn⟩,h2,hsz,?_,h1⟩
   rw[<-gy e [] t ht];exact h3
theorem ua{s:List UInt8}(h:kN s=none):uv s=none:=by rw[vH,h]
theorem C6(e:E)(l:List (List UInt8))(hl:l.length<1000000):∀(k i:Nat),i+k=l.length->A5 [.v (.int .i64 (i:Int))] [.cells [.v (.string (mk [])),.v (.slice none 0 0)],.cells [.v (.string (mk e.at)),e.sp],.vec 1 (bM l)]
 (ox (if(l.drop i).any cF=true then(2,[.v (.bool false)],[.cells [.v (.string (mk e.at)),e.sp]])else(1,[],[.cells [.v (.string (mk [])),.v (.slice none 0 0)],.cells [.v (.string (mk e.at)),e.sp]])))
 |
  0,i,hi=>by
  refine EM _ _ _ _ _ _ ?_
  have hd:l.drop i=[]:=bf (by omega)
  have hll:(bM l).length=l.length:=by simp[bM]
  simp only[zN,↓zq,zs,ag,hd,hll,bb]
  exact⟨fun h=>by omega,fun _=>by simp[ox]⟩
 |
  k+1,i,hi=>by
  have hlt:i<l.length:=by omega
  have hll:(bM l).length=l.length:=by simp[bM]
  have hdr:l.drop i=l.getD i []::l.drop (i+1):=by
   rw[a7 hlt];simp[aa,hlt]
  have hg:=(dD.of l).idx hlt
  simp only[fF]at hg
  refine EM _ _ _ _ _ _ ?_
  simp only[zN,↓zq,zs,ag,zt,hll,hg,bb]
  refine⟨fun _=>⟨by omega,by omega,al (zd _) ?_⟩,fun h=>by omega⟩
  simp only[↓zq,zs,ag,hdr,List.any_cons]
  refine⟨fun h=>?_,fun h=>?_⟩
  ·rw[h];simp[ox]
  ·rw[h,ct i (by omega)]
   simp only[Bool.false_or]
   exact C6 e l hl k (i+1) (by omega)
theorem Cs(s:List UInt8):au Tryz.prog 46 [.v (.string (mk s))] [] (jC (kN s) (kN s).isSome):=by
 refine Fc _ ?_
 unfold DM
 refine aQ (DV s) (jC.ne _ _ (fun h=>h)) ?_
 rintro r o ⟨c,d,hd,rfl,hh⟩
 have hhas:cd [.str,.sl] [.v (.string (mk c)),d] 0:=by simp[cd,eM,hd]
 simp only[↓zq,zs,ag,zt]
 refine⟨hhas,fun h=>?_,fun h=>?_⟩
 ·have hn:rp s=none:=by cases hq:rp s<;>simp[hq]at h |-
  unfold kN
  rw[hn]
  exact⟨c,d,hd,rfl,fun h=>by cases h⟩
 ·obtain⟨e,he,hce⟩:=hh h
  obtain⟨h1,h2,h3⟩:=ml he
  obtain⟨hok,hsz⟩:=jD h1
  have hce':=hce
  rw[cN]at hce'
  simp only[AV.agg.injEq,List.cons.injEq,AV.v.injEq,Value.string.injEq,and_true]at hce'
  obtain⟨hc1,rfl⟩:=hce'
  have hc2:=uI hc1
  subst hc2
  rw[<-cN]
  refine bE (yl e [] [] _ hok h2 (.of []) (by simp;omega)) ?_
  have hfl:=fC e [] []
  simp only[↓zq,zs,ag]
  have hLS:=C6 e (ju e [] []) (by simp at hfl;omega) (ju e [] []).length 0 (by omega)
  simp only[cg]at hLS
  unfold kN
  rw[he]
  refine gx hLS (fun ys o e'=>?_) (fun ys o e'=>?_)
  ·split at e'<;>cases e'
   rename_i hn
   simp only[↓zq,zs,ag,bb,if_neg hn]
   exact⟨e.at,e.sp,hd,rfl,fun _=>⟨e,rfl,(cN e).symm⟩⟩
  ·split at e'<;>cases e'
   rename_i hn
   simp only[↓zq,zs,ag,bb,if_pos hn]
   exact⟨e.at,e.sp,hd,rfl,fun h=>by cases h⟩
def uw(s v:List UInt8)(n:Int):Option Vl:=match kN s,qK v with
 |some e,some w=>if(0<=n/\n<=100)/\gh n.toNat w (e,[])=true then some w else none
 |_,_=>none
theorem uO{s v:List UInt8}{n:Int}{w:Vl}(h:uw s v n=some w):∃e t m,kN s=some e/\qK v=some w/\uv s=some t/\Ask e [] t/\n=(m:Nat)/\m<=100/\gh m w (e,[])=true:=by
 unfold uw at h
 split at h
 ·rename_i e w' he hw
  split at h
  ·rename_i hh
   cases h
   obtain⟨t,h1,h2,_⟩:=iQ he
   exact⟨e,t,n.toNat,he,hw,h1,h2,by omega,by omega,hh.2⟩
  ·cases h
 ·cases h
theorem BQ(s v:List UInt8)(n:Int):au Tryz.prog 34 [.v (.string (mk s)),.v (.string (mk v)),.v (.int .i64 n)] [] (bq (.cm [fw (uv s),ii (uw s v n)])):=by
 refine Ft _ _ _ ?_
 unfold CO
 refine al (EQ s) ?_
 simp only[↓zq,zs,ag,gr]
 refine al (F2 v) ?_
 simp only[↓zq,zs,ag,fE,bq]
 unfold uw
 cases he:kN s with
 |none=>rw[ua he];cases qK v<;>simp[fw,ii,↓zq,zs,ag]
 |
  some e =>
  obtain⟨t,h1,h2,h3,h4,h5,_⟩:=iQ he
  rw[h1]
  cases hv:qK v with
  |none=>simp only[fw,ii,aP,du,↓zq,zs,ag];exact⟨fun h=>(by cases h),fun _=>⟨fun _=>trivial,fun h=>(by cases h)⟩⟩
  |
   some w =>
   obtain⟨h6,h7,h8⟩:=nQ hv
   simp only[fw,ii,aP,du,bj,ei,↓zq,zs,ag]
   refine⟨fun h=>(by cases h),fun _=>⟨fun h=>(by cases h),fun _=>⟨fun h=>?_,fun h=>⟨fun h'=>?_,fun h'=>?_⟩⟩⟩⟩
   ·rw[if_neg (by omega)]
   ·rw[if_neg (by omega)]
   ·obtain⟨m,rfl⟩:∃m:Nat,n=(m:Int):=⟨n.toNat,by omega⟩
    have hi:=BR m (by omega) (w.nodes+1) w (by omega) h7 e [] t h2 (by simp;omega)
    unfold mE at hi
    refine al hi ?_
    simp only[↓zq,zs,ag,bi]
    refine⟨fun hq=>?_,fun hq=>?_⟩
    ·rw[if_neg (by rw[hq];simp)]
    ·rw[if_pos ⟨by omega,hq⟩]
theorem Gu(s v:List UInt8)(n:Int):au Tryz.prog 39 [.v (.string (mk s)),.v (.string (mk v)),.v (.int .i64 n)] [] (bq (.v (.bool (uw s v n).isSome))):=by
 refine Gj _ _ _ ?_
 unfold B0
 refine aQ (Cs s) (jC.ne _ _ (fun h=>h)) ?_
 rintro r o ⟨c,d,hd,rfl,hh⟩
 have hhas:cd [.str,.sl] [.v (.string (mk c)),d] 0:=by simp[cd,eM,hd]
 simp only[↓zq,zs,ag,zt]
 refine⟨hhas,?_⟩
 refine aQ (EA v) (jC.ne _ _ (fun h=>by cases hq:qK v<;>simp[hq]at h |-)) ?_
 rintro r o ⟨c',d',hd',rfl,hh'⟩
 have hhas':cd [.str,.sl] [.v (.string (mk c')),d'] 0:=by simp[cd,eM,hd']
 simp only[↓zq,zs,ag,zt,bq]
 refine⟨hhas',fun h=>⟨fun h2=>?_,fun h2=>?_⟩,fun h=>?_⟩
 ·obtain⟨e,he,hce⟩:=hh h
  obtain⟨t,h1,hA,h3,h4,h5,_⟩:=iQ he
  obtain⟨w,hw⟩:=bm.1 h2
  obtain⟨e2,he2,hce2⟩:=hh' h2
  rw[hw]at he2
  cases he2
  obtain⟨h6,h7,h8⟩:=nQ hw
  refine al (vf _ _ _) ?_
  simp only[↓zq,zs,ag,xz,uw,he,hw]
  refine⟨fun hq=>?_,fun hq=>?_⟩
  ·have hq':0<=n/\n<=100:=by simpa using hq
   obtain⟨m,rfl⟩:∃m:Nat,n=(m:Int):=⟨n.toNat,by omega⟩
   rw[hce,hce2]
   have:=Fp m (by omega) w h7 e [] t hA (by simp;omega)
   rw[show ig []=[] from rfl]at this
   refine al this ?_
   simp only[↓zq,zs,ag,bi]
   by_cases hb:gh m w (e,[])=true
   ·rw[if_pos ⟨hq',hb⟩,hb];rfl
   ·rw[if_neg (fun h=>hb h.2)]
    rw[Bool.not_eq_true]at hb
    rw[hb];rfl
  ·have hq':¬(0<=n/\n<=100):=by simpa using hq
   rw[if_neg (fun h=>hq' h.1)];rfl
 ·have hn:qK v=none:=by cases hq:qK v<;>simp[hq]at h2 |-
  unfold uw
  rw[hn];cases kN s<;>rfl
 ·have hn:kN s=none:=by cases hq:kN s<;>simp[hq]at h |-
  unfold uw
  rw[hn];rfl
end Go.Proofs.Trees
namespace Go.Proofs.Trees
open Go Go.VL Go.RowKit
theorem yD{n:Nat}{a b:Ty}{N:Nat}(h:eg n (.plus a b)=some N):∃x y,eg n a=some x/\eg n b=some y/\N=x+y:=by
 simp only[eg]at h
 split at h
 ·rename_i x y hx hy
  unfold lB at h;split at h<;>cases h;exact⟨x,y,hx,hy,rfl⟩
 ·cases h
theorem xX{n:Nat}{a b:Ty}{N:Nat}(h:eg n (.times a b)=some N):∃x y,eg n a=some x/\eg n b=some y/\N=x*y:=by
 simp only[eg]at h
 split at h
 ·rename_i x y hx hy
  unfold lB at h;split at h<;>cases h;exact⟨x,y,hx,hy,rfl⟩
 ·cases h
def kj(n:Nat):Ty->Vl->Bool
 | .one,.u=>true
 | .name _,.el k=>decide (k<n)
 | .plus a _,.l v=>kj n a v
 | .plus _ b,.r v=>kj n b v
 | .times a b,.p v w=>kj n a v&&kj n b w
 |_,_=>false
def code(n:Nat):Ty->Vl->Nat
 | .name _,.el k=>k
 | .plus a _,.l v=>code n a v
 | .plus a b,.r v=>(eg n a).getD 0+code n b v
 | .times a b,.p v w=>code n a v*(eg n b).getD 0+code n b w
 |_,_=>0
theorem cR(e:E):hd e []=(e,[]):=rfl
theorem jS(n:Nat):∀(t:Ty) (e:E) (v:Vl),bJ e []=some t->pure t=true->gh n v (e,[])=true->kj n t v=true
 | .rc a,e,v,ht,hp,hv=>by cases hp
 | .ca u,e,v,ht,hp,hv=>by cases hp
 |
  .plus a b,e,v,ht,hp,hv=>by
  have hp2:=hp
  simp only[pure,ak]at hp2
  obtain⟨x,y,z,rfl,hx,h1,h2⟩:∃x y z,e=.list [x,y,z]/\x.at=[43]/\bJ y []=some a/\bJ z []=some b:=by
   cases e with
   |
    atom s =>
    simp only[bJ]at ht
    split at ht
    ·cases ht
    ·split at ht
     ·cases ht
     ·split at ht
      ·cases ht
      ·split at ht
       ·simp only[aF,bx]at ht;cases ht
       ·cases ht
   |
    list l =>
    match l,ht with
    |
     [x,y,z],ht =>
     by_cases h0:x.at=[43]
     ·obtain⟨t1,t2,h1,h2,he⟩:=cY h0 ht
      cases he;exact⟨x,y,z,rfl,h0,h1,h2⟩
     ·by_cases h1:x.at=[42]
      ·obtain⟨t1,t2,_,_,he⟩:=cO h1 ht;cases he
      ·by_cases h2:x.at=[114,101,99]
       ·obtain⟨t1,_,_,he⟩:=cP h2 ht;cases he
       ·rw[eD _ h0 h1 h2]at ht;cases ht
    |[],ht=>cases ht
    |[_],ht=>cases ht
    |[_,_],ht=>cases ht
    |_::_::_::_::_,ht=>cases ht
  cases v with
  |
   l w =>
   simp only[gh,cR,hx,beq_self_eq_true,cJ]at hv
   exact jS n a y w h1 hp2.1 hv
  |
   r w =>
   simp only[gh,cR,hx,beq_self_eq_true,cJ]at hv
   exact jS n b z w h2 hp2.2 hv
  |u=>simp[gh,cR]at hv
  |el k=>simp[gh,cR]at hv
  |f w=>simp[gh,cR,hx]at hv
  |p w w'=>simp[gh,cR,hx]at hv
 |
  .times a b,e,v,ht,hp,hv=>by
  have hp2:=hp
  simp only[pure,ak]at hp2
  obtain⟨x,y,z,rfl,hx,h1,h2⟩:∃x y z,e=.list [x,y,z]/\x.at=[42]/\bJ y []=some a/\bJ z []=some b:=by
   cases e with
   |
    atom s =>
    simp only[bJ]at ht
    split at ht
    ·cases ht
    ·split at ht
     ·cases ht
     ·split at ht
      ·cases ht
      ·split at ht
       ·simp only[aF,bx]at ht;cases ht
       ·cases ht
   |
    list l =>
    match l,ht with
    |
     [x,y,z],ht =>
     by_cases h0:x.at=[43]
     ·obtain⟨t1,t2,h1,h2,he⟩:=cY h0 ht;cases he
     ·by_cases h1:x.at=[42]
      ·obtain⟨t1,t2,h1',h2',he⟩:=cO h1 ht
       cases he;exact⟨x,y,z,rfl,h1,h1',h2'⟩
      ·by_cases h2:x.at=[114,101,99]
       ·obtain⟨t1,_,_,he⟩:=cP h2 ht;cases he
       ·rw[eD _ h0 h1 h2]at ht;cases ht
    |[],ht=>cases ht
    |[_],ht=>cases ht
    |[_,_],ht=>cases ht
    |_::_::_::_::_,ht=>cases ht
  cases v with
  |
   p w w' =>
   simp only[gh,cR,hx,beq_self_eq_true,cJ,ak]at hv
   simp only[kj,jS n a y w h1 hp2.1 hv.1,jS n b z w' h2 hp2.2 hv.2,Bool.and_self]
  |u=>simp[gh,cR]at hv
  |el k=>simp[gh,cR]at hv
  |f w=>simp[gh,cR,hx]at hv
  |l w=>simp[gh,cR,hx]at hv
  |r w=>simp[gh,cR,hx]at hv
 |
  .zero,e,v,ht,hp,hv=>by
  have he:e=.atom [48]:=by
   rcases fX ht rfl rfl with⟨h,_⟩|⟨_,h⟩|⟨s,_,h,_⟩|⟨x,a,b,t1,t2,_,_,h,_⟩|⟨x,a,b,t1,t2,_,_,h,_⟩|⟨x,a,b,t1,_,_,h⟩
   ·exact h
   all_goals cases h
  subst he
  have hp0:fW [48]=false:=rfl
  cases v<;>simp[gh,cR,hp0]at hv
 |
  .one,e,v,ht,hp,hv=>by
  have he:e=.atom [49]:=by
   rcases fX ht rfl rfl with⟨_,h⟩|⟨h,_⟩|⟨s,_,h,_⟩|⟨x,a,b,t1,t2,_,_,h,_⟩|⟨x,a,b,t1,t2,_,_,h,_⟩|⟨x,a,b,t1,_,_,h⟩
   ·cases h
   ·exact h
   all_goals cases h
  subst he
  cases v<;>simp[gh,cR]at hv
  rfl
 |
  .name s,e,v,ht,hp,hv=>by
  have hl:cF s=false:=by
   simp only[pure,bD,beq_iff_eq]at hp
   rcases hp with(rfl|rfl)|rfl<;>rfl
  obtain⟨s',rfl,h1,h0⟩:∃s',e=.atom s'/\s'≠[49]/\s'≠[48]:=by
   rcases fX ht rfl hl with⟨_,h⟩|⟨_,h⟩|⟨s',h,_,_,h0,h1⟩|⟨x,a,b,t1,t2,_,_,h,_⟩|⟨x,a,b,t1,t2,_,_,h,_⟩|⟨x,a,b,t1,_,_,h⟩
   ·cases h
   ·cases h
   ·exact⟨s',h,h1,h0⟩
   all_goals cases h
  cases v with
  |
   el k =>
   simp only[gh,cR,ak]at hv
   exact hv.2.2
  |_=>simp[gh,cR,h1]at hv
theorem eG(n:Nat)(hn:n<=100):∀(t:Ty) (v:Vl) (N:Nat),eg n t=some N->kj n t v=true->code n t v<N
 | .zero,v,N,h,hv=>by cases v<;>cases hv
 | .ca u,v,N,h,hv=>by cases h
 | .rc a,v,N,h,hv=>by cases h
 |
  .one,v,N,h,hv=>by
  cases h
  cases v<;>first|(cases hv;done)|exact Nat.zero_lt_one
 |
  .name s,v,N,h,hv=>by
  cases h
  cases v with
  |el k=>simpa[kj,code]using hv
  |_=>cases hv
 |
  .plus a b,v,N,h,hv=>by
  obtain⟨x,y,hx,hy,rfl⟩:=yD h
  cases v with
  |l w=>have:=eG n hn a w x hx hv;simp only[code];omega
  |r w=>have:=eG n hn b w y hy hv;simp only[code,hx,co];omega
  |_=>cases hv
 |
  .times a b,v,N,h,hv=>by
  obtain⟨x,y,hx,hy,rfl⟩:=xX h
  cases v with
  |
   p w z =>
   simp only[kj,ak]at hv
   have h1:=eG n hn a w x hx hv.1
   have h2:=eG n hn b z y hy hv.2
   simp only[code,hy,co]
   have h3:(code n a w+1)*y<=x*y:=aK y h1
   rw[dE,Nat.one_mul]at h3
   omega
  |_=>cases hv
theorem B4(a b:Nat):(a:Int)*(b:Int)=((a*b:Nat):Int):=by simp
theorem v7(n:Nat)(hn:n<=100):∀(t:Ty) (v:Vl) (N:Nat),v.oh 100->pure t=true->eg n t=some N->kj n t v=true->au Tryz.prog 35 [t.av,.v (.int .i64 (n:Int)),v.dw] [] (bq (.v (.int .i64 (code n t v:Int))))
 | .zero,v,N,hb,hp,h,hv=>by cases v<;>cases hv
 | .ca u,v,N,hb,hp,h,hv=>by cases h
 | .rc a,v,N,hb,hp,h,hv=>by cases h
 |
  .one,v,N,hb,hp,h,hv=>by
  refine wS _ _ _ ((aP _).mpr trivial) ((bj _).mpr trivial) ?_
  cases v<;>first|(cases hv;done)|skip
  simp[ub,Vl.dw,↓zq,zs,ag,bq,code]
 |
  .name s,v,N,hb,hp,h,hv=>by
  refine wS _ _ _ ((aP _).mpr trivial) ((bj _).mpr trivial) ?_
  cases v with
  |
   el k =>
   have hk:k<100:=hb
   have e1:(List.take ((dd k).length+1) (ug k)).drop (bk 1)=dd k:=by simp[ug]
   simp only[ub,Vl.dw,↓zq,zs,ag,zt,e1]
   refine⟨by omega,fun _=>⟨by omega,by omega,al (Cq k hk) ?_⟩,fun h=>absurd rfl h⟩
   simp only[↓zq,zs,ag,bq,code]
   rfl
  |_=>cases hv
 |
  .plus a b,v,N,hb,hp,h,hv=>by
  obtain⟨x,y,hx,hy,rfl⟩:=yD h
  simp only[pure,ak]at hp
  have hx9:=dM n hn a x hx
  have hy9:=dM n hn b y hy
  refine wS _ _ _ ((aP _).mpr trivial) ((bj _).mpr trivial) ?_
  cases v with
  |
   l w =>
   simp only[ub,Ty.av,Vl.dw,↓zq,zs,ag,aP,bj]
   refine⟨by omega,fun h=>by omega,fun _=>⟨fun _=>⟨by omega,by omega,al (v7 n hn a w x hb hp.1 hx hv) ?_⟩,fun h=>absurd rfl h⟩⟩
   simp[↓zq,zs,ag,bq,code]
  |
   r w =>
   have hlt:=eG n hn b w y hy hv
   simp only[ub,Ty.av,Vl.dw,↓zq,zs,ag,aP,bj]
   refine⟨by omega,fun h=>by omega,fun _=>⟨fun h=>by omega,fun _=>⟨fun _=>⟨by omega,al (vw n hn a hp.1) ?_⟩,fun h=>absurd rfl h⟩⟩⟩
   rw[hx]
   simp only[ec,↓zq,zs,ag,aP,bj]
   refine⟨by omega,by omega,al (v7 n hn b w y hb hp.2 hy hv) ?_⟩
   simp only[↓zq,zs,ag,bq,code,hx,co]
   rw[wrap64 _ (by omega) (by omega)]
   simp
  |_=>cases hv
 |
  .times a b,v,N,hb,hp,h,hv=>by
  obtain⟨x,y,hx,hy,rfl⟩:=xX h
  simp only[pure,ak]at hp
  have hx9:=dM n hn a x hx
  have hy9:=dM n hn b y hy
  refine wS _ _ _ ((aP _).mpr trivial) ((bj _).mpr trivial) ?_
  cases v with
  |
   p w z =>
   simp only[kj,ak]at hv
   have h1:=eG n hn a w x hx hv.1
   have h2:=eG n hn b z y hy hv.2
   have h3:=lp (Nat.le_of_lt (bK h1 hx9)) hy9
   simp only[ub,Ty.av,Vl.dw,↓zq,zs,ag,aP,bj]
   refine⟨by omega,fun h=>by omega,fun _=>⟨fun h=>by omega,fun _=>⟨fun h=>by omega,fun _=>⟨fun _=>⟨by omega,al (vw n hn b hp.2) ?_⟩,fun h=>absurd rfl h⟩⟩⟩⟩
   rw[hy]
   simp only[ec,↓zq,zs,ag,aP,bj]
   refine⟨by omega,by omega,al (v7 n hn a w x hb.1 hp.1 hx hv.1) ?_⟩
   simp only[↓zq,zs,ag,aP,bj]
   refine⟨by omega,by omega,al (v7 n hn b z y hb.2 hp.2 hy hv.2) ?_⟩
   simp only[↓zq,zs,ag,bq,code,hy,co]
   rw[B4,wrap64 ((code n a w*y:Nat):Int) (by omega) (by omega),wrap64 _ (by omega) (by omega)]
   simp
  |_=>cases hv
theorem vP(n:Nat)(hn:n<=100):∀(t:Ty) (e:E) (v:Vl) (N:Nat),e.ok->v.oh 100->bJ e []=some t->pure t=true->eg n t=some N->kj n t v=true->au Tryz.prog 40 [e.ic,.v (.int .i64 (n:Int)),v.gu.ic] [] (bq (.v (.int .i64 (code n t v:Int))))
 | .zero,e,v,N,hok,hb,ht,hp,h,hv=>by cases v<;>cases hv
 | .ca u,e,v,N,hok,hb,ht,hp,h,hv=>by cases h
 | .rc a,e,v,N,hok,hb,ht,hp,h,hv=>by cases h
 |
  .one,e,v,N,hok,hb,ht,hp,h,hv=>by
  have hvh:=wm v
  have hel:=(Gy v hb).2
  rw[cN]at hvh
  rw[cN e,cN v.gu]
  refine yh _ _ _ _ _ ((bb _).mpr trivial) ((bb _).mpr trivial) ?_
  unfold vU
  refine al hvh ?_
  cases v<;>first|(cases hv;done)|skip
  simp only[vh,↓zq,zs,ag,zt]
  refine⟨fun h=>by simp at h,fun _=>⟨fun h=>by simp at h,fun _=>⟨fun h=>by simp at h,fun _=>al (xh _) ?_⟩⟩⟩
  rw[hel]
  simp[↓zq,zs,ag,bq,code]
 |
  .name s,e,v,N,hok,hb,ht,hp,h,hv=>by
  have hvh:=wm v
  have hel:=(Gy v hb).2
  rw[cN]at hvh
  rw[cN e,cN v.gu]
  refine yh _ _ _ _ _ ((bb _).mpr trivial) ((bb _).mpr trivial) ?_
  unfold vU
  refine al hvh ?_
  cases v with
  |
   el k =>
   simp only[vh,↓zq,zs,ag,zt]
   refine⟨fun h=>by simp at h,fun _=>⟨fun h=>by simp at h,fun _=>⟨fun h=>by simp at h,fun _=>al (xh _) ?_⟩⟩⟩
   rw[hel]
   simp only[↓zq,zs,ag,bq,code]
   rcases Nat.eq_zero_or_pos k with rfl|hk0
   ·rfl
   ·exact congrArg (fun q:Int=>AV.v (.int .i64 q)) (if_pos (show ((k:Nat):Int)>0 by omega))
  |_=>cases hv
 |
  .plus a b,e,v,N,hok,hb,ht,hp,h,hv=>by
  obtain⟨x,y,hx,hy,rfl⟩:=yD h
  have hf:aZ (.plus a b)=false:=by
   have:∀t:Ty,pure t=true->aZ t=false:=by
    intro t
    induction t with
    |
     name s =>
     intro hp
     simp only[pure,bD,beq_iff_eq]at hp
     rcases hp with(rfl|rfl)|rfl<;>rfl
    |plus a b iha ihb=>intro hp;simp only[pure,ak]at hp;simp[aZ,iha hp.1,ihb hp.2]
    |times a b iha ihb=>intro hp;simp only[pure,ak]at hp;simp[aZ,iha hp.1,ihb hp.2]
    |zero=>intro _;rfl
    |one=>intro _;rfl
    |ca u=>intro h;cases h
    |rc a _=>intro h;cases h
   exact this _ hp
  simp only[pure,ak]at hp
  have hx9:=dM n hn a x hx
  have hy9:=dM n hn b y hy
  obtain⟨q,ea,eb,rfl,h1,h2⟩:∃q ea eb,e=.list [q,ea,eb]/\bJ ea []=some a/\bJ eb []=some b:=by
   rcases fX ht rfl hf with⟨_,h⟩|⟨_,h⟩|⟨s',_,h,_⟩|⟨x,a,b,t1,t2,he,_,h,h1,h2⟩|⟨x,a,b,t1,t2,_,_,h,_⟩|⟨x,a,b,t1,_,_,h⟩
   ·cases h
   ·cases h
   ·cases h
   ·cases h;exact⟨x,a,b,he,h1,h2⟩
   ·cases h
   ·cases h
  obtain⟨ok1,ok2,ok3,_⟩:=hok
  have hvh:=wm v
  rw[cN]at hvh
  rw[cN (.list _),cN v.gu]
  refine yh _ _ _ _ _ ((bb _).mpr trivial) ((bb _).mpr trivial) ?_
  unfold vU
  refine al hvh ?_
  cases v with
  |
   l w =>
   simp only[vh,Vl.gu,E.sp,E.aV,toNat_one,be,↓zq,zs,ag,zt,eh,dG,ej,gJ,aw]
   refine⟨fun _=>⟨by omega,by omega,al (vP n hn a ea w x ok2 hb h1 hp.1 hx hv) ?_⟩,fun h=>absurd rfl h⟩
   simp[↓zq,zs,ag,bq,code]
  |
   r w =>
   have hlt:=eG n hn b w y hy hv
   simp only[vh,Vl.gu,E.sp,E.aV,toNat_one,be,↓zq,zs,ag,zt,eh,dG,ej,gJ,aw]
   refine⟨fun h=>by simp at h,fun _=>⟨fun _=>⟨by omega,?_⟩,fun h=>absurd rfl h⟩⟩
   refine aQ (uY n hn ea a ok2 h1 hp.1) (qE.ne _) ?_
   rintro r o ⟨v1,rfl,hv1⟩
   rw[hv1 x hx]
   simp only[↓zq,zs,ag]
   refine⟨by omega,by omega,al (vP n hn b eb w y ok3 hb h2 hp.2 hy hv) ?_⟩
   simp only[↓zq,zs,ag,bq,code,hx,co]
   rw[wrap64 _ (by omega) (by omega)]
   simp
  |_=>cases hv
 |
  .times a b,e,v,N,hok,hb,ht,hp,h,hv=>by
  obtain⟨x,y,hx,hy,rfl⟩:=xX h
  have hf:aZ (.times a b)=false:=by
   have:∀t:Ty,pure t=true->aZ t=false:=by
    intro t
    induction t with
    |
     name s =>
     intro hp
     simp only[pure,bD,beq_iff_eq]at hp
     rcases hp with(rfl|rfl)|rfl<;>rfl
    |plus a b iha ihb=>intro hp;simp only[pure,ak]at hp;simp[aZ,iha hp.1,ihb hp.2]
    |times a b iha ihb=>intro hp;simp only[pure,ak]at hp;simp[aZ,iha hp.1,ihb hp.2]
    |zero=>intro _;rfl
    |one=>intro _;rfl
    |ca u=>intro h;cases h
    |rc a _=>intro h;cases h
   exact this _ hp
  simp only[pure,ak]at hp
  have hx9:=dM n hn a x hx
  have hy9:=dM n hn b y hy
  obtain⟨q,ea,eb,rfl,h1,h2⟩:∃q ea eb,e=.list [q,ea,eb]/\bJ ea []=some a/\bJ eb []=some b:=by
   rcases fX ht rfl hf with⟨_,h⟩|⟨_,h⟩|⟨s',_,h,_⟩|⟨x,a,b,t1,t2,_,_,h,_⟩|⟨x,a,b,t1,t2,he,_,h,h1,h2⟩|⟨x,a,b,t1,_,_,h⟩
   ·cases h
   ·cases h
   ·cases h
   ·cases h
   ·cases h;exact⟨x,a,b,he,h1,h2⟩
   ·cases h
  obtain⟨ok1,ok2,ok3,_⟩:=hok
  have hvh:=wm v
  rw[cN]at hvh
  rw[cN (.list _),cN v.gu]
  refine yh _ _ _ _ _ ((bb _).mpr trivial) ((bb _).mpr trivial) ?_
  unfold vU
  refine al hvh ?_
  cases v with
  |
   p w z =>
   simp only[kj,ak]at hv
   have g1:=eG n hn a w x hx hv.1
   have g2:=eG n hn b z y hy hv.2
   have h3:=lp (Nat.le_of_lt (bK g1 hx9)) hy9
   simp only[vh,Vl.gu,E.sp,E.aV,toNat_one,be,↓zq,zs,ag,zt,eh,dG,ej,gJ,aw]
   refine⟨fun h=>by simp at h,fun _=>⟨fun h=>by simp at h,fun _=>⟨fun _=>⟨by omega,?_⟩,fun h=>absurd rfl h⟩⟩⟩
   refine aQ (uY n hn eb b ok3 h2 hp.2) (qE.ne _) ?_
   rintro r o ⟨v1,rfl,hv1⟩
   rw[hv1 y hy]
   simp only[↓zq,zs,ag]
   refine⟨by omega,by omega,al (vP n hn a ea w x ok2 hb.1 h1 hp.1 hx hv.1) ?_⟩
   simp only[↓zq,zs,ag]
   refine⟨by omega,by omega,al (vP n hn b eb z y ok3 hb.2 h2 hp.2 hy hv.2) ?_⟩
   simp only[↓zq,zs,ag,bq,code,hy,co]
   rw[B4,wrap64 ((code n a w*y:Nat):Int) (by omega) (by omega),wrap64 _ (by omega) (by omega)]
   simp
  |_=>cases hv
def AX(s:List UInt8)(n:Int)(v:List UInt8):Option Nat:=match lX s n,uw s v n,tE s with
 |some _,some w,some t=>some (code n.toNat t w)
 |_,_,_=>none
theorem pB{s v:List UInt8}{n:Int}{N:Nat}{w:Vl}(h1:lX s n=some N)(h2:uw s v n=some w):∃m t e,n=(m:Nat)/\m<=100/\tE s=some t/\uv s=some t/\eg m t=some N/\jA s=some e/\bJ e []=some t/\pure t=true/\e.ok/\w.oh 100/\qK v=some w/\kj m t w=true:=by
 obtain⟨m,t,rfl,hm,ht,hN⟩:=nG h1
 obtain⟨e,t',m',he,hw,hc,hA,hmm,hm',hvis⟩:=uO h2
 have:m'=m:=by omega
 subst this
 obtain⟨e0,he0⟩:∃e,jA s=some e:=by
  cases hq:jA s with
  |none=>rw[kf hq]at ht;cases ht
  |some e=>exact⟨e,rfl⟩
 obtain⟨t0,g1,g2,g3,g4,g5,g6,g7,g8,g9⟩:=j1 he0
 rw[ht]at g1;cases g1
 obtain⟨_,_,_,_,_,_,g10⟩:=iQ he
 rw[g9]at g10;cases g10
 have hty:=hA.ty
 rw[show names []=[] from rfl,g2]at hty;cases hty
 exact⟨m',t,e,rfl,hm,ht,hc,hN,he0,g2,g3,g4,(nQ hw).2.1,hw,jS m' t e w g2 g3 hvis⟩
theorem GP(s:List UInt8)(n:Int)(v:List UInt8):au Tryz.prog 9 [.v (.string (mk s)),.v (.int .i64 n),.v (.string (mk v))] [] (bq (ec (AX s n v))):=by
 refine Hm _ _ _ ?_
 unfold Dq
 refine al (zB s n) ?_
 unfold AX
 cases hs:lX s n with
 |
  none =>
  simp only[ec,↓zq,zs,ag]
  refine al (BQ s v n) ?_
  simp[↓zq,zs,ag,gr,fE,bq]
 |
  some N =>
  simp only[ec,↓zq,zs,ag]
  refine al (BQ s v n) ?_
  simp only[↓zq,zs,ag,gr,fE,bq]
  refine⟨fun h=>(by cases h),fun _=>?_⟩
  cases hv:uw s v n with
  |none=>simp[ii,↓zq,zs,ag]
  |
   some w =>
   obtain⟨m,t,e,rfl,hm,ht,hc,hN,he,h2,h3,h4,h5,h6,h7⟩:=pB hs hv
   rw[hc,ht]
   simp only[ii,fw,bj,ei,↓zq,zs,ag,bi]
   refine⟨fun h=>(by cases h),fun _=>al (v7 m hm t w N h5 h3 hN h7) ?_⟩
   simp[↓zq,zs,ag]
theorem Eu(s:List UInt8)(n:Int)(v:List UInt8):au Tryz.prog 10 [.v (.string (mk s)),.v (.int .i64 n),.v (.string (mk v))] [] (bq (ec (AX s n v))):=by
 refine E9 _ _ _ ?_
 unfold Cw
 refine aQ (C7 s) (jC.ne _ _ (fun h=>h)) ?_
 rintro r o ⟨c,d,hd,rfl,hh⟩
 have hhas:cd [.str,.sl] [.v (.string (mk c)),d] 0:=by simp[cd,eM,hd]
 simp only[↓zq,zs,ag,zt]
 refine⟨hhas,?_⟩
 refine aQ (EA v) (jC.ne _ _ (fun h=>by cases hq:qK v<;>simp[hq]at h |-)) ?_
 rintro r o ⟨c',d',hd',rfl,hh'⟩
 have hhas':cd [.str,.sl] [.v (.string (mk c')),d'] 0:=by simp[cd,eM,hd']
 simp only[↓zq,zs,ag,zt,bq]
 refine⟨hhas',al (GY s n) ?_⟩
 unfold AX
 cases hs:lX s n with
 |none=>simp[ec,↓zq,zs,ag]
 |
  some N =>
  simp only[ec,↓zq,zs,ag]
  refine⟨fun h=>(by cases h),fun _=>al (Gu s v n) ?_⟩
  cases hv:uw s v n with
  |none=>simp[↓zq,zs,ag]
  |
   some w =>
   obtain⟨m,t,e,rfl,hm,ht,hc,hN,he,h2,h3,h4,h5,h6,h7⟩:=pB hs hv
   obtain⟨e1,he1,hce⟩:=hh (by rw[he];rfl)
   rw[he]at he1;cases he1
   obtain⟨e2,he2,hce2⟩:=hh' (by rw[h6];rfl)
   rw[h6]at he2;cases he2
   rw[ht,hce,hce2]
   simp only[↓zq,zs,ag,Option.isSome_some,bi]
   refine⟨fun h=>(by cases h),fun _=>al (vP m hm t e w N h4 h5 h2 h3 hN h7) ?_⟩
   simp[↓zq,zs,ag]
end Go.Proofs.Trees
namespace Go.Proofs.Trees
open Go Go.VL
mutual
def E.pr:E->Prop
 | .atom s=>s≠[]/\s.all eH=true
 | .list l=>l≠[]/\E.w9 l
def E.w9:List E->Prop
 |[]=>True
 |e::l=>e.pr/\E.w9 l
end
mutual
def E.dp:E->Nat
 | .atom _=>0
 | .list l=>1+E.ur l
def E.ur:List E->Nat
 |[]=>0
 |e::l=>max e.dp (E.ur l)
end
theorem uV(s:List UInt8):(s.takeWhile eH).all eH=true:=by
 induction s with
 |nil=>rfl
 |cons c s ih =>
  cases h:eH c
  ·simp[List.takeWhile,h]
  ·simp only[List.takeWhile,h,List.all_cons,ih];rfl
theorem wY(l r:List E):E.w9 (l++r)↔E.w9 l/\E.w9 r:=by
 induction l with
 |nil=>simp[E.w9]
 |cons e l ih=>simp[E.w9,ih,and_assoc]
theorem xu(l r:List E):E.ur (l++r)=max (E.ur l) (E.ur r):=by
 induction l with
 |nil=>simp[E.ur]
 |cons e l ih=>simp[E.ur,ih,Nat.max_assoc]
theorem sZ{k:Nat}{f:List UInt8->Option (E×List UInt8)}(hf:∀s e r,f s=some (e,r)->s=ia e++r/\e.pr/\e.dp<=k):∀(n:Nat) (s:List UInt8) (acc:List E) (e:E) (r:List UInt8),pU f n s acc=some (e,r)->E.w9 acc->E.ur acc<=k ->
 ∃l,e=.list (acc++l)/\l≠[]/\32::s=eI l++41::r/\E.w9 l/\E.ur l<=k
 |0,s,acc,e,r,h,hp,hd=>by cases h
 |
  n+1,s,acc,e,r,h,hp,hd=>by
  simp only[pU]at h
  split at h
  ·rename_i p c r' hs
   obtain⟨h1,h2,h3⟩:=hf _ _ _ hs
   split at h
   ·rename_i hc
    have hc:c=41:=cC.mp hc
    cases h
    exact⟨[p],rfl,by simp,by simp[eI,h1,hc],⟨h2,trivial⟩,by simp[E.ur];omega⟩
   ·split at h
    ·rename_i hc
     have hc:c=32:=cC.mp hc
     obtain⟨l,g1,g2,g3,g4,g5⟩:=sZ hf n _ _ _ _ h ((wY _ _).mpr ⟨hp,h2,trivial⟩) (by rw[xu];simp[E.ur];omega)
     refine⟨p::l,by simpa using g1,by simp,?_,⟨h2,g4⟩,by simp only[E.ur];omega⟩
     rw[h1,hc,g3];simp[eI]
    ·cases h
  ·cases h
theorem uN:∀(k:Nat) (s:List UInt8) (e:E) (r:List UInt8),rd k s=some (e,r)->s=ia e++r/\e.pr/\e.dp<=k
 |
  0,s,e,r,h=>by
  simp only[rd]at h
  split at h
  ·cases h
  ·rename_i hs;cases h
   exact⟨(bu).symm,⟨hs,uV s⟩,aw _⟩
 |
  k+1,s,e,r,h=>by
  simp only[rd]at h
  split at h
  ·split at h
   ·rename_i c r' _
    split at h
    ·rename_i hc
     have hc:c=40:=cC.mp hc
     obtain⟨l,g1,g2,g3,g4,g5⟩:=sZ (k:=k) (fun s e r h=>uN k s e r h) _ _ _ _ _ h trivial (Nat.zero_le _)
     simp only[dj]at g1
     subst g1;subst hc
     refine⟨?_,⟨g2,g4⟩,by simp only[E.dp];omega⟩
     cases l with
     |nil=>exact absurd rfl g2
     |
      cons x l =>
      simp only[eI,List.cons_append,List.append_assoc,List.cons.injEq,true_and]at g3
      rw[g3];simp[ia]
    ·cases h
   ·cases h
  ·rename_i hs;cases h
   exact⟨(bu).symm,⟨hs,uV s⟩,by simp[E.dp]⟩
theorem w4{s:List UInt8}{e:E}(h:nA s=some e):s=ia e/\e.pr/\e.dp<=300/\s.length<=8000:=by
 unfold nA at h
 split at h
 ·cases h
 ·rename_i hl
  split at h
  ·rename_i e' hr
   cases h
   have:=uN _ _ _ _ hr
   exact⟨by simpa using this.1,this.2.1,this.2.2,by omega⟩
  ·cases h
theorem yf{s:List UInt8}{v:Vl}(h:qK s=some v):s=v.iZ:=(w4 (nQ h).1).1
end Go.Proofs.Trees
namespace Go.Proofs.Trees
open Go Go.VL Go.RowKit
abbrev Nm:=List UInt8
def pg(u:Ty):Ty->Nat->Ty
 | .ca k,i=>if k=i then u else .ca k
 | .plus a b,i=>.plus (pg u a i) (pg u b i)
 | .times a b,i=>.times (pg u a i) (pg u b i)
 | .rc a,i=>.rc (pg u a (i+1))
 |t,_=>t
def sub(x:Nm)(u:Ty):Ty->Ty
 | .name s=>if s=x then u else .name s
 | .plus a b=>.plus (sub x u a) (sub x u b)
 | .times a b=>.times (sub x u a) (sub x u b)
 | .rc a=>.rc (sub x u a)
 |t=>t
def bS(x:Nm):Ty->Bool
 | .name s=>decide (s=x)
 | .plus a b=>bS x a||bS x b
 | .times a b=>bS x a||bS x b
 | .rc a=>bS x a
 |_=>false
def iA(f:Nm->Nm):Ty->Ty
 | .name s=>.name (f s)
 | .plus a b=>.plus (iA f a) (iA f b)
 | .times a b=>.times (iA f a) (iA f b)
 | .rc a=>.rc (iA f a)
 |t=>t
def BG(f:Nm->Nm):Prop:=∀x y,f x=f y->x=y
theorem iY(f:Nm->Nm)(x:Nm):∀(t:Ty) (i:Nat),iA f (pg (.name x) t i)=pg (.name (f x)) (iA f t) i
 | .ca k,i=>by simp only[pg,iA];split<;>rfl
 | .plus a b,i=>by simp only[pg,iA,iY f x a i,iY f x b i]
 | .times a b,i=>by simp only[pg,iA,iY f x a i,iY f x b i]
 | .rc a,i=>by simp only[pg,iA,iY f x a (i+1)]
 | .zero,i=>rfl
 | .one,i=>rfl
 | .name s,i=>rfl
theorem j4{f:Nm->Nm}(hf:BG f)(x:Nm)(u:Ty):∀t:Ty,iA f (sub x u t)=sub (f x) (iA f u) (iA f t)
 |
  .name s=>by
  simp only[sub,iA]
  by_cases h:s=x
  ·subst h;simp
  ·rw[if_neg h,if_neg fun e=>h (hf _ _ e)];rfl
 | .plus a b=>by simp only[sub,iA,j4 hf x u a,j4 hf x u b]
 | .times a b=>by simp only[sub,iA,j4 hf x u a,j4 hf x u b]
 | .rc a=>by simp only[sub,iA,j4 hf x u a]
 | .zero=>rfl
 | .one=>rfl
 | .ca k=>rfl
theorem kc{f:Nm->Nm}(hf:BG f)(x:Nm):∀t:Ty,bS (f x) (iA f t)=bS x t
 | .name s=>by simp only[bS,iA];rw[cj];simp only[decide_eq_true_eq];exact⟨fun e=>hf _ _ e,fun e=>by rw[e]⟩
 | .plus a b=>by simp only[bS,iA,kc hf x a,kc hf x b]
 | .times a b=>by simp only[bS,iA,kc hf x a,kc hf x b]
 | .rc a=>by simp only[bS,iA,kc hf x a]
 | .zero=>rfl
 | .one=>rfl
 | .ca k=>rfl
theorem fg(f:Nm->Nm):∀t:Ty,(iA f t).aS=t.aS
 | .plus a b=>by simp only[Ty.aS,iA,fg f a,fg f b]
 | .times a b=>by simp only[Ty.aS,iA,fg f a,fg f b]
 | .rc a=>by simp only[Ty.aS,iA,fg f a]
 | .name s=>rfl
 | .zero=>rfl
 | .one=>rfl
 | .ca k=>rfl
theorem me{f:Nm->Nm}:∀t:Ty,(∀x,bS x t=true->f x=x)->iA f t=t
 | .name s,h=>by simp only[iA];rw[h s (by simp[bS])]
 | .plus a b,h=>by simp only[iA];rw[me a fun x hx=>h x (by simp[bS,hx]),me b fun x hx=>h x (by simp[bS,hx])]
 | .times a b,h=>by simp only[iA];rw[me a fun x hx=>h x (by simp[bS,hx]),me b fun x hx=>h x (by simp[bS,hx])]
 | .rc a,h=>by simp only[iA];rw[me a fun x hx=>h x hx]
 | .zero,_=>rfl
 | .one,_=>rfl
 | .ca k,_=>rfl
theorem uc(t:Ty):1<=t.aS:=by cases t<;>simp only[Ty.aS]<;>omega
theorem kd{x y:Nm}:∀(t:Ty) (i:Nat),bS y (pg (.name x) t i)=true->y=x\/bS y t=true
 |
  .ca k,i,h=>by
  simp only[pg]at h
  split at h
  ·left;simp only[bS,decide_eq_true_eq]at h;exact h.symm
  ·cases h
 |
  .plus a b,i,h=>by
  simp only[pg,bS,bD]at h |-
  rcases h with h|h
  ·rcases kd a i h with h|h<;>simp[h]
  ·rcases kd b i h with h|h<;>simp[h]
 |
  .times a b,i,h=>by
  simp only[pg,bS,bD]at h |-
  rcases h with h|h
  ·rcases kd a i h with h|h<;>simp[h]
  ·rcases kd b i h with h|h<;>simp[h]
 | .rc a,i,h=>kd a (i+1) h
 | .zero,i,h=>by cases h
 | .one,i,h=>by cases h
 | .name s,i,h=>.inr h
theorem iW{x y:Nm}{u:Ty}:∀t:Ty,bS y (sub x u t)=true->bS y u=true\/(y≠x/\bS y t=true)
 |
  .name s,h=>by
  simp only[sub]at h
  split at h
  ·exact .inl h
  ·rename_i hs
   simp only[bS,decide_eq_true_eq]at h
   subst h
   exact .inr ⟨hs,by simp[bS]⟩
 |
  .plus a b,h=>by
  simp only[sub,bS,bD]at h |-
  rcases h with h|h
  ·rcases iW a h with h|h<;>simp[h]
  ·rcases iW b h with h|h<;>simp[h]
 |
  .times a b,h=>by
  simp only[sub,bS,bD]at h |-
  rcases h with h|h
  ·rcases iW a h with h|h<;>simp[h]
  ·rcases iW b h with h|h<;>simp[h]
 |
  .rc a,h=>by
  simp only[sub,bS]at h |-
  exact iW a h
 | .zero,h=>by cases h
 | .one,h=>by cases h
 | .ca k,h=>by cases h
def swp(x y:Nm):Nm->Nm:=fun s=>if s=x then y else if s=y then x else s
theorem yp(x y:Nm):BG (swp x y):=by
 intro a b h
 unfold swp at h
 by_cases h1:a=x<;>by_cases h2:a=y<;>by_cases h3:b=x<;>by_cases h4:b=y<;>simp_all
theorem Db(x y:Nm):swp x y x=y:=by simp[swp]
theorem CP{x y s:Nm}(h:s≠x)(h':s≠y):swp x y s=s:=by simp[swp,h,h']
theorem yC{x y:Nm}{t:Ty}(h:bS x t=false)(h':bS y t=false):iA (swp x y) t=t :=
 me t fun z hz=>CP (fun e=>by subst e;rw[h]at hz;cases hz) (fun e=>by subst e;rw[h']at hz;cases hz)
def Bm(a:Ty)(x:Nm)(c d:Ty):Ty:=.rc (.plus (sub x (.rc a) c) (.times (sub x (.rc a) d) (.ca 0)))
inductive Dv:Ty->Nm->Ty->Prop
 |zero (s):Dv .zero s .zero
 |one (s):Dv .one s .zero
 |ca (k s):Dv (.ca k) s .zero
 |hit (s):Dv (.name s) s .one
 |zj {n s} (h:n≠s):Dv (.name n) s .zero
 |plus {a b s a' b'} (h1:Dv a s a') (h2:Dv b s b') (hl:(Ty.plus a' b').aS<=400):Dv (.plus a b) s (.plus a' b')
 |times {a b s a' b'} (h1:Dv a s a') (h2:Dv b s b') (hl:(Ty.plus (.times a' b) (.times a b')).aS<=400):Dv (.times a b) s (.plus (.times a' b) (.times a b'))
 |rc {a s c d} (x:Nm) (hx:bS x a=false) (hs:x≠s) (h1:Dv (pg (.name x) a 0) s c) (h2:Dv (pg (.name x) a 0) x d) (hl:(Bm a x c d).aS<=400):Dv (.rc a) s (Bm a x c d)
theorem sK{f:Nm->Nm}(hf:BG f)(a:Ty)(x:Nm)(c d:Ty):iA f (Bm a x c d)=Bm (iA f a) (f x) (iA f c) (iA f d):=by
 simp only[Bm,iA,j4 hf]
theorem Dv.iA{f:Nm->Nm}(hf:BG f){t d:Ty}{s:Nm}(h:Dv t s d):Dv (iA f t) (f s) (iA f d):=by
 induction h with
 |zero s=>exact .zero _
 |one s=>exact .one _
 |ca k s=>exact .ca _ _
 |hit s=>exact .hit _
 |zj h=>exact .zj fun e=>h (hf _ _ e)
 |plus h1 h2 hl i1 i2=>exact .plus i1 i2 (by rw[<-fg f]at hl;exact hl)
 |times h1 h2 hl i1 i2=>exact .times i1 i2 (by rw[<-fg f]at hl;exact hl)
 |
  rc x hx hs h1 h2 hl i1 i2 =>
  rw[sK hf]
  rw[iY]at i1 i2
  exact .rc (f x) (by rw[kc hf];exact hx) (fun e=>hs (hf _ _ e)) i1 i2 (by rw[<-sK hf,fg];exact hl)
theorem Dv.names{t d:Ty}{s:Nm}(h:Dv t s d):∀y,bS y d=true->bS y t=true:=by
 induction h with
 |zero s=>intro y hy;cases hy
 |one s=>intro y hy;cases hy
 |ca k s=>intro y hy;cases hy
 |hit s=>intro y hy;cases hy
 |zj h=>intro y hy;cases hy
 |
  plus h1 h2 hl i1 i2 =>
  intro y hy
  simp only[bS,bD]at hy |-
  rcases hy with hy|hy
  ·exact .inl (i1 y hy)
  ·exact .inr (i2 y hy)
 |
  times h1 h2 hl i1 i2 =>
  intro y hy
  simp only[bS,bD]at hy |-
  rcases hy with(hy|hy)|(hy|hy)
  ·exact .inl (i1 y hy)
  ·exact .inr hy
  ·exact .inl hy
  ·exact .inr (i2 y hy)
 |
  rc x hx hs h1 h2 hl i1 i2 =>
  intro y hy
  simp only[Bm,bS,bD,Bool.or_false]at hy |-
  have key:∀{a c:Ty},(∀y,bS y c=true->bS y (pg (.name x) a 0)=true)->bS y (sub x (.rc a) c)=true->bS y a=true:=fun i h=>by
   rcases iW _ h with h|⟨h,h'⟩
   ·exact h
   ·rcases kd _ _ (i y h')with e|e
    ·exact absurd e h
    ·exact e
  rcases hy with hy|hy
  ·exact key i1 hy
  ·exact key i2 hy
theorem Dv.fresh{t d:Ty}{s y:Nm}(h:Dv t s d)(hy:bS y t=false):bS y d=false:=by
 cases e:bS y d with
 |false=>rfl
 |true=>rw[h.names y e]at hy;cases hy
theorem Dv.move{a c:Ty}{x y s:Nm}(hx:bS x a=false)(hy:bS y a=false)(h:Dv (pg (.name x) a 0) s c):Dv (pg (.name y) a 0) (swp x y s) (Go.Proofs.Trees.iA (swp x y) c):=by
 have:=h.iA (yp x y)
 rw[iY,Db,yC hx hy]at this
 exact this
def DO(t:Ty):Option Ty:=if t.aS<=400 then some t else none
end Go.Proofs.Trees
namespace Go.Proofs.Trees
open Go Go.VL Go.RowKit
inductive Tg where
 |nm (s:List UInt8)
 |bd (k:Nat)
 deriving DecidableEq
def Tg.up:Tg->Tg
 | .nm s=>.nm s
 | .bd k=>.bd (k+1)
def kA:Ty->Tg->Bool
 | .name s,.nm s'=>decide (s=s')
 | .ca u,.bd k=>decide (u=k)
 |_,_=>false
abbrev Hl:=Vl×Vl
def sd(g:Vl->Vl)(l:List Hl):List Hl:=l.map fun h=>(g h.1,h.2)
def ma(f:Ty->Tg->Vl->List Hl)(tg:Tg):Ty->Vl->List Hl
 | .plus a _,.l w=>sd .l (f a tg w)
 | .plus _ b,.r w=>sd .r (f b tg w)
 | .times a b,.p x y=>sd (fun c=>.l (.p c y)) (f a tg x)++sd (fun c=>.r (.p x c)) (f b tg y)
 | .rc a,.f w=>sd (fun c=>.f (.l c)) (f a tg.up w)++(f a (.bd 0) w).flatMap fun h=>sd (fun c=>.f (.r (.p h.1 c))) (f (.rc a) tg h.2)
 |_,_=>[]
def eV:Nat->Ty->Tg->Vl->List Hl
 |0,_,_,_=>[]
 |n+1,t,tg,v=>if kA t tg=true then [(.u,v)]else ma (eV n) tg t v
def stuck:Ty->Vl->Bool
 | .plus _ _,.l _=>false
 | .plus _ _,.r _=>false
 | .times _ _,.p _ _=>false
 | .rc _,.f _=>false
 |_,_=>true
def dN(t:Ty)(tg:Tg)(v:Vl):List Hl:=eV v.nodes t tg v
theorem j0{g:Vl->Vl}{l:List Hl}{h:Hl}(hm:h∈sd g l):∃k,k∈l/\h=(g k.1,k.2):=by
 obtain⟨k,h1,h2⟩:=bL.1 hm
 exact⟨k,h1,h2.symm⟩
theorem kL{f g:Hl->List Hl}:∀{l:List Hl},(∀h,h∈l->f h=g h)->l.flatMap f=l.flatMap g
 |[],_=>rfl
 |h::l,hl=>by rw[List.flatMap_cons,List.flatMap_cons,hl h af,kL (l:=l) fun k hk=>hl k (ai _ hk)]
theorem ef:∀(n:Nat) (t:Ty) (tg:Tg) (v:Vl) (h:Hl),h∈eV n t tg v->h.2.nodes<=v.nodes/\h.1.nodes+4*h.2.nodes<=4*v.nodes+1
 |0,t,tg,v,h,hm=>by simp[eV]at hm
 |
  n+1,t,tg,v,h,hm=>by
  unfold eV at hm
  split at hm
  ·simp only[bh]at hm
   subst hm
   simp only[Vl.nodes];omega
  ·unfold ma at hm
   split at hm
   ·obtain⟨k,h1,rfl⟩:=j0 hm
    have:=ef n _ _ _ k h1
    simp only[Vl.nodes];omega
   ·obtain⟨k,h1,rfl⟩:=j0 hm
    have:=ef n _ _ _ k h1
    simp only[Vl.nodes];omega
   ·rcases aM.1 hm with hm|hm
    ·obtain⟨k,h1,rfl⟩:=j0 hm
     have:=ef n _ _ _ k h1
     simp only[Vl.nodes];omega
    ·obtain⟨k,h1,rfl⟩:=j0 hm
     have:=ef n _ _ _ k h1
     simp only[Vl.nodes];omega
   ·rcases aM.1 hm with hm|hm
    ·obtain⟨k,h1,rfl⟩:=j0 hm
     have:=ef n _ _ _ k h1
     simp only[Vl.nodes];omega
    ·obtain⟨k,h1,h2⟩:=List.mem_flatMap.1 hm
     obtain⟨k2,h3,rfl⟩:=j0 h2
     have:=ef n _ _ _ k h1
     have:=ef n _ _ _ k2 h3
     simp only[Vl.nodes];omega
   ·simp at hm
theorem fj:∀(n m:Nat) (t:Ty) (tg:Tg) (v:Vl),v.nodes<=n->v.nodes<=m->eV n t tg v=eV m t tg v
 |0,m,t,tg,v,h,_=>by have:=ka v;omega
 |n+1,0,t,tg,v,_,h=>by have:=ka v;omega
 |
  n+1,m+1,t,tg,v,hn,hm=>by
  rw[eV,eV]
  split
  ·rfl
  ·unfold ma
   split
   ·simp only[Vl.nodes]at hn hm;rw[fj n m _ _ _ (by omega) (by omega)]
   ·simp only[Vl.nodes]at hn hm;rw[fj n m _ _ _ (by omega) (by omega)]
   ·simp only[Vl.nodes]at hn hm;rw[fj n m _ _ _ (by omega) (by omega),fj n m _ _ _ (by omega) (by omega)]
   ·rename_i a w
    simp only[Vl.nodes]at hn hm;rw[fj n m _ _ _ (by omega) (by omega),fj n m _ (.bd 0) _ (by omega) (by omega)]
    congr 1
    apply kL
    intro h hh
    have:=(ef _ _ _ _ _ hh).1
    rw[fj n m _ _ _ (by omega) (by omega)]
   ·rfl
theorem lr{n:Nat}(t:Ty)(tg:Tg){v:Vl}(h:v.nodes<=n):eV n t tg v=dN t tg v:=fj _ _ _ _ _ h (aw _)
theorem ww{t:Ty}{tg:Tg}(v:Vl)(h:kA t tg=true):dN t tg v=[(.u,v)]:=by
 have:=ka v
 unfold dN
 cases e:v.nodes with
 |zero=>omega
 |succ n=>rw[eV,if_pos h]
theorem wW(a b:Ty)(tg:Tg)(w:Vl):dN (.plus a b) tg (.l w)=sd .l (dN a tg w):=by
 unfold dN;rw[show (Vl.l w).nodes=w.nodes+1 by simp[Vl.nodes];omega,eV,if_neg (by simp[kA])];rfl
theorem xA(a b:Ty)(tg:Tg)(w:Vl):dN (.plus a b) tg (.r w)=sd .r (dN b tg w):=by
 unfold dN;rw[show (Vl.r w).nodes=w.nodes+1 by simp[Vl.nodes];omega,eV,if_neg (by simp[kA])];rfl
theorem xI(a b:Ty)(tg:Tg)(x y:Vl):dN (.times a b) tg (.p x y)=sd (fun c=>.l (.p c y)) (dN a tg x)++sd (fun c=>.r (.p x c)) (dN b tg y):=by
 rw[dN,show (Vl.p x y).nodes=(x.nodes+y.nodes)+1 by simp[Vl.nodes];omega,eV,if_neg (by simp[kA])]
 rw[ma,lr a tg (by omega),lr b tg (by omega)]
theorem xY(a:Ty)(tg:Tg)(w:Vl):dN (.rc a) tg (.f w)=sd (fun c=>.f (.l c)) (dN a tg.up w)++(dN a (.bd 0) w).flatMap fun h=>sd (fun c=>.f (.r (.p h.1 c))) (dN (.rc a) tg h.2):=by
 rw[dN,show (Vl.f w).nodes=w.nodes+1 by simp[Vl.nodes];omega,eV,if_neg (by simp[kA])]
 rw[ma,lr a tg.up (aw _),lr a (.bd 0) (aw _)]
 congr 1
 apply kL
 intro h hh
 have:=(ef _ _ _ _ _ hh).1
 rw[lr (.rc a) tg this]
theorem uP{t:Ty}{tg:Tg}{v:Vl}(h:kA t tg=false)(h2:stuck t v=true):dN t tg v=[]:=by
 unfold dN
 cases e:v.nodes with
 |zero=>rfl
 |
  succ n =>
  rw[eV,if_neg (by rw[h];simp)]
  unfold ma
  split<;>first|(simp[stuck]at h2;done)|rfl
theorem uE{t:Ty}{tg:Tg}{v:Vl}{h:Hl}(hm:h∈dN t tg v):h.2.nodes<=v.nodes/\h.1.nodes+4*h.2.nodes<=4*v.nodes+1:=ef _ _ _ _ _ hm
def kz(l:List Hl):Nat:=(l.map fun h=>h.2.nodes).sum
theorem nP(l r:List Hl):kz (l++r)=kz l+kz r:=by simp[kz]
theorem lE(g:Vl->Vl)(l:List Hl):kz (sd g l)=kz l:=by simp[kz,sd,Function.comp_def]
def iL(f:Tg->Nat)(T:List Tg):Nat:=(T.map f).sum
theorem kV(f g:Tg->Nat):∀T:List Tg,iL (fun x=>f x+g x) T=iL f T+iL g T
 |[]=>rfl
 |x::T=>by have:=kV f g T;simp only[iL,bF,List.sum_cons]at this |-;omega
theorem ss{f g:Tg->Nat}:∀{T:List Tg},(∀x,x∈T->f x<=g x)->iL f T<=iL g T
 |[],_=>aw _
 |
  x::T,h=>by
  have:=ss (T:=T) fun y hy=>h y (ai _ hy)
  have:=h x af
  simp only[iL,bF,List.sum_cons]at *;omega
theorem l4{f:Tg->Nat}:∀{T:List Tg},(∀x,x∈T->f x=0)->iL f T=0
 |[],_=>rfl
 |
  x::T,h=>by
  have:=l4 (T:=T) fun y hy=>h y (ai _ hy)
  have:=h x af
  simp only[iL,bF,List.sum_cons]at *;omega
theorem oz(g:Hl->Tg->Nat)(T:List Tg):∀l:List Hl,iL (fun x=>(l.map fun h=>g h x).sum) T=(l.map fun h=>iL (g h) T).sum
 |[]=>l4 fun _ _=>rfl
 |
  h::l=>by
  have:=oz g T l
  simp only[bF,List.sum_cons]
  rw[kV,this]
theorem oA(f:Hl->List Hl):∀l:List Hl,kz (l.flatMap f)=(l.map fun h=>kz (f h)).sum
 |[]=>rfl
 |h::l=>by rw[List.flatMap_cons,nP,oA f l];simp
theorem uU{f g:Hl->Nat}:∀{l:List Hl},(∀x,x∈l->f x<=g x)->(l.map f).sum<=(l.map g).sum
 |[],_=>aw _
 |
  x::l,h=>by
  have:=uU (l:=l) fun y hy=>h y (ai _ hy)
  have:=h x af
  simp only[bF,List.sum_cons]at *;omega
theorem uC{t:Ty}{x y:Tg}(h:kA t x=true)(h':kA t y=true):x=y:=by
 cases t<;>cases x<;>cases y<;>simp[kA]at h h'<;>simp_all
theorem th{t:Ty}(n:Nat):∀{T:List Tg},T.Nodup->iL (fun x=>if kA t x=true then n else 0) T<=n
 |[],_=>Nat.zero_le _
 |
  x::T,h=>by
  obtain⟨h1,h2⟩:=List.nodup_cons.1 h
  have ih:=th (t:=t) n h2
  by_cases hx:kA t x=true
  ·have:iL (fun x=>if kA t x=true then n else 0) T=0:=l4 fun y hy=>by
    rw[if_neg fun hy'=>h1 (by rw[uC hx hy'];exact hy)]
   simp only[iL,bF,List.sum_cons]at *
   rw[if_pos hx];omega
  ·simp only[iL,bF,List.sum_cons]at *
   rw[if_neg hx];omega
theorem vg{T:List Tg}(h:T.Nodup):(Tg.bd 0::T.map Tg.up).Nodup:=by
 refine List.nodup_cons.2 ⟨fun hm=>?_,?_⟩
 ·obtain⟨x,_,e⟩:=bL.1 hm
  cases x<;>simp[Tg.up]at e
 ·refine List.Pairwise.map _ (fun a b hab e=>hab ?_) h
  cases a<;>cases b<;>simp[Tg.up]at e<;>simp_all
theorem apart:∀(n:Nat) (v:Vl),v.nodes<=n->∀(t:Ty) (T:List Tg),T.Nodup->iL (fun x=>kz (dN t x v)) T<=v.nodes
 |0,v,h=>by have:=ka v;omega
 |
  n+1,v,hn=>by
  intro t T hT
  have base:∀(hno:∀x,kA t x=false->dN t x v=[]),iL (fun x=>kz (dN t x v)) T<=v.nodes:=fun hno=>by
   refine Nat.le_trans (ss fun x _=>?_) (th (t:=t) v.nodes hT)
   cases e:kA t x with
   |true=>rw[ww v e];simp[kz]
   |false=>rw[hno x e];simp[kz]
  cases hm:stuck t v with
  |true=>exact base fun x hx=>uP hx hm
  |
   false =>
   unfold stuck at hm
   split at hm
   ·rename_i a b w
    simp only[Vl.nodes]at hn |-
    simp only[wW,lE]
    have:=apart n w (by omega) a T hT
    omega
   ·rename_i a b w
    simp only[Vl.nodes]at hn |-
    simp only[xA,lE]
    have:=apart n w (by omega) b T hT
    omega
   ·rename_i a b x y
    simp only[Vl.nodes]at hn |-
    simp only[xI,nP,lE]
    rw[kV]
    have:=apart n x (by omega) a T hT
    have:=apart n y (by omega) b T hT
    omega
   ·rename_i a w
    simp only[Vl.nodes]at hn |-
    simp only[xY,nP,lE,oA]
    rw[kV,oz]
    have h1:=apart n w (by omega) a _ (vg hT)
    simp only[iL,bF,List.sum_cons,List.map_map]at h1
    have h2:((dN a (.bd 0) w).map fun h=>iL (fun x=>kz (dN (.rc a) x h.2)) T).sum<=kz (dN a (.bd 0) w):=uU fun h hh=>by
     have:=(uE hh).1
     exact apart n h.2 (by omega) (.rc a) T hT
    simp only[iL,Function.comp_def]at h1 h2 |-
    omega
   ·cases hm
end Go.Proofs.Trees
namespace Go.Proofs.Trees
open Go Go.VL Go.RowKit
def jN(ar:List (List UInt8))(k:Nat):List UInt8:=ar.getD (ar.length-1-k) []
theorem kg{s:List UInt8}{ar:List (List UInt8)}:∀(i u:Nat),i<=ar.length->bx s ar i=some u->u<ar.length/\jN ar u=s
 |0,u,_,h=>by cases h
 |
  i+1,u,hi,h=>by
  rw[bx]at h
  split at h
  ·rename_i e
   cases h
   refine⟨by omega,?_⟩
   rw[jN,show ar.length-1-(ar.length-1-i)=i by omega];exact e
  ·exact kg i u (by omega) h
theorem mA(w:List UInt8)(ar:List (List UInt8)):bx w (ar++[w]) (ar++[w]).length=some 0:=by
 have e2:(ar++[w]).length=ar.length+1:=by simp
 rw[e2,bx,if_pos (by simp[aa]),e2];simp
theorem lj{s w:List UInt8}(ar:List (List UInt8))(h:w≠s):bx s (ar++[w]) (ar++[w]).length=(bx s ar ar.length).map (·+1):=by
 have e2:(ar++[w]).length=ar.length+1:=by simp
 rw[e2,bx,if_neg (by simpa[aa]using h),jI _ _ _ _ (aw _)]
end Go.Proofs.Trees
namespace Go.Proofs.Trees
open Go Go.VL Go.RowKit
def dH:E->List Nm->Ty
 | .atom s,ar=>if s=[48]then .zero else if s=[49]then .one else match bx s ar ar.length with|some u=>.ca u|none=>.name s
 | .list [x,a,b],ar=>if x.at=[43]then .plus (dH a ar) (dH b ar)else if x.at=[42]then .times (dH a ar) (dH b ar)else .rc (dH b (ar++[a.at]))
 | .list _,_=>.zero
def ry(s:Nm):Prop:=s≠[]/\s≠[48]/\s≠[49]
inductive Wf:E->Prop
 |atom {s} (h:s≠[]):Wf (.atom s)
 |plus {a b} (ha:Wf a) (hb:Wf b):Wf (.list [.atom [43],a,b])
 |times {a b} (ha:Wf a) (hb:Wf b):Wf (.list [.atom [42],a,b])
 |rc {n b} (hn:ry n) (hb:Wf b):Wf (.list [.atom [114,101,99],.atom n,b])
theorem dX(a b:E)(ar:List Nm):dH (.list [.atom [43],a,b]) ar=.plus (dH a ar) (dH b ar):=by rw[dH,if_pos (show (E.atom [43]).at=[43] from rfl)]
theorem dy(a b:E)(ar:List Nm):dH (.list [.atom [42],a,b]) ar=.times (dH a ar) (dH b ar):=by rw[dH,if_neg (by decide),if_pos (show (E.atom [42]).at=[42] from rfl)]
theorem gC(a b:E)(ar:List Nm):dH (.list [.atom [114,101,99],a,b]) ar=.rc (dH b (ar++[a.at])):=by rw[dH,if_neg (by decide),if_neg (by decide)]
theorem Wf.ok{e:E}(h:Wf e):e.ok:=by
 induction h with
 |atom h=>exact h
 |plus ha hb i1 i2=>exact⟨by simp[E.ok],i1,i2,trivial⟩
 |times ha hb i1 i2=>exact⟨by simp[E.ok],i1,i2,trivial⟩
 |rc hn hb i=>exact⟨by simp[E.ok],hn.1,i,trivial⟩
theorem Wf.dI{e:E}(h:Wf e):∀ar,e.dI=(dH e ar).aS:=by
 induction h with
 |
  @atom s h =>
  intro ar
  simp only[E.dI,dH]
  split
  ·rfl
  ·split
   ·rfl
   ·split<;>rfl
 |plus ha hb i1 i2=>intro ar;rw[dX];simp only[E.dI,E.eE,Ty.aS,<-i1 ar,<-i2 ar];omega
 |times ha hb i1 i2=>intro ar;rw[dy];simp only[E.dI,E.eE,Ty.aS,<-i1 ar,<-i2 ar];omega
 |@rc n b hn hb i=>intro ar;rw[gC];simp only[E.dI,E.eE,Ty.aS,<-i];omega
theorem Wf.sz{e:E}(h:Wf e):e.sz<=3*e.dI:=by
 induction h with
 |atom h=>simp[E.sz,E.dI]
 |plus ha hb i1 i2=>simp only[E.sz,E.gD,E.dI,E.eE];omega
 |times ha hb i1 i2=>simp only[E.sz,E.gD,E.dI,E.eE];omega
 |rc hn hb i=>simp only[E.sz,E.gD,E.dI,E.eE];omega
theorem j8:∀(e:E) (ar:List Nm) (t:Ty),e.ok->(∀w,w∈ar->cF w=true)->bJ e ar=some t->Wf e/\dH e ar=t
 |
  .atom s,ar,t,hok,hl,ht=>by
  refine⟨.atom hok,?_⟩
  simp only[bJ,dH]at ht |-
  split at ht
  ·rename_i h;rw[if_pos h];simpa using ht
  ·rename_i h;rw[if_neg h]
   split at ht
   ·rename_i h1;rw[if_pos h1];simpa using ht
   ·rename_i h1;rw[if_neg h1]
    split at ht
    ·rename_i hp
     cases q:bx s ar ar.length with
     |none=>simpa using ht
     |
      some u =>
      obtain⟨h1,h2⟩:=kg _ _ (aw _) q
      have:=hl (jN ar u) (by
       unfold jN
       have:ar.length-1-u<ar.length:=by omega
       simp[aa,this])
      rw[h2,mJ hp]at this;cases this
    ·split at ht
     ·split at ht<;>rename_i q<;>rw[q]<;>simpa using ht
     ·cases ht
 |
  .list [x,a,b],ar,t,hok,hl,ht=>by
  obtain⟨ok1,ok2,ok3,_⟩:=hok
  by_cases h0:x.at=[43]
  ·obtain⟨t1,t2,h1,h2,rfl⟩:=cY h0 ht
   obtain rfl:=ir h0 (by simp)
   obtain⟨w1,e1⟩:=j8 a ar t1 ok2 hl h1
   obtain⟨w2,e2⟩:=j8 b ar t2 ok3 hl h2
   exact⟨.plus w1 w2,by rw[dX,e1,e2]⟩
  ·by_cases h1:x.at=[42]
   ·obtain⟨t1,t2,h2,h3,rfl⟩:=cO h1 ht
    obtain rfl:=ir h1 (by simp)
    obtain⟨w1,e1⟩:=j8 a ar t1 ok2 hl h2
    obtain⟨w2,e2⟩:=j8 b ar t2 ok3 hl h3
    exact⟨.times w1 w2,by rw[dy,e1,e2]⟩
   ·by_cases h2:x.at=[114,101,99]
    ·obtain⟨t1,hla,h3,rfl⟩:=cP h2 ht
     obtain rfl:=ir h2 (by simp)
     have hne:a.at≠[]:=by intro e;rw[e]at hla;cases hla
     have ha:a=.atom a.at:=ir rfl hne
     obtain⟨w1,e1⟩:=j8 b (ar++[a.at]) t1 ok3 (fun w hw=>by
      rcases aM.1 hw with hw|hw
      ·exact hl w hw
      ·simp only[bh]at hw;rw[hw];exact hla) h3
     have hN:ry a.at:=⟨hne,fun e=>by rw[e]at hla;revert hla;decide,fun e=>by rw[e]at hla;revert hla;decide⟩
     refine⟨?_,by rw[gC,e1]⟩
     rw[ha];exact .rc hN w1
    ·rw[eD _ h0 h1 h2]at ht;cases ht
 | .list [],ar,t,_,_,ht=>by cases ht
 | .list [_],ar,t,_,_,ht=>by cases ht
 | .list [_,_],ar,t,_,_,ht=>by cases ht
 | .list (_::_::_::_::_),ar,t,_,_,ht=>by cases ht
theorem ez(s:Nm)(ar:List Nm):bx s ar ar.length=none↔s∉ar:=by
 have:=jH s ar ar.length (aw _)
 rwa[List.take_length]at this
theorem n6(s:Nm)(ar:List Nm):∀(n:Nat) (br:List Nm),br.length=n->bx s (ar++br) (ar++br).length=match bx s br br.length with|some u=>some u|none=>(bx s ar ar.length).map (·+br.length)
 |
  0,br,h=>by
  obtain rfl:=List.eq_nil_of_length_eq_zero h
  rw[List.append_nil]
  cases h:bx s ar ar.length<;>simp[bx]
 |
  n+1,br,h=>by
  obtain⟨b2,w,rfl⟩:∃b2 w,br=b2++[w]:=⟨br.dropLast,br.getLast (by intro e;rw[e]at h;cases h),(List.dropLast_concat_getLast _).symm⟩
  rw[<-List.append_assoc]
  by_cases hw:w=s
  ·subst hw;rw[mA,mA]
  ·rw[lj _ hw,lj _ hw,n6 s ar n b2 (by simpa using h)]
   cases bx s b2 b2.length with
   |some u=>rfl
   |
    none =>
    cases bx s ar ar.length with
    |none=>rfl
    |some u=>simp only[Option.map_none,bZ,ap,az,aF];congr 1
theorem xm(ar:List Nm){e:E}(h:Wf e):∀br,(∀y,bS y (dH e br)=true->y∉ar)->dH e (ar++br)=dH e br:=by
 induction h with
 |
  @atom s h =>
  intro br hy
  simp only[dH]at hy |-
  split
  ·rfl
  ·rename_i h0
   split
   ·rfl
   ·rename_i h1
    rw[if_neg h0,if_neg h1]at hy
    rw[n6 s ar _ br rfl]
    cases q:bx s br br.length with
    |some u=>rfl
    |
     none =>
     rw[q]at hy
     have:=(ez s ar).2 (hy s (by simp[bS]))
     rw[this];rfl
 |
  plus ha hb i1 i2 =>
  intro br hy
  rw[dX]at hy |-
  rw[dX,i1 br fun y h=>hy y (by simp[bS,h]),i2 br fun y h=>hy y (by simp[bS,h])]
 |
  times ha hb i1 i2 =>
  intro br hy
  rw[dy]at hy |-
  rw[dy,i1 br fun y h=>hy y (by simp[bS,h]),i2 br fun y h=>hy y (by simp[bS,h])]
 |
  @rc n b hn hb i =>
  intro br hy
  rw[gC]at hy |-
  rw[gC,List.append_assoc,i _ hy]
theorem ue{e:E}(h:Wf e):∀ar y,bS y (dH e ar)=true->ry y/\y∉ar:=by
 induction h with
 |
  @atom s h =>
  intro ar y hy
  simp only[dH]at hy
  split at hy
  ·cases hy
  ·rename_i h0
   split at hy
   ·cases hy
   ·rename_i h1
    split at hy
    ·cases hy
    ·rename_i q
     simp only[bS,decide_eq_true_eq]at hy
     subst hy
     exact⟨⟨h,h0,h1⟩,(ez _ _).1 q⟩
 |
  plus ha hb i1 i2 =>
  intro ar y hy
  rw[dX]at hy
  simp only[bS,bD]at hy
  rcases hy with hy|hy
  ·exact i1 ar y hy
  ·exact i2 ar y hy
 |
  times ha hb i1 i2 =>
  intro ar y hy
  rw[dy]at hy
  simp only[bS,bD]at hy
  rcases hy with hy|hy
  ·exact i1 ar y hy
  ·exact i2 ar y hy
 |
  rc hn hb i =>
  intro ar y hy
  rw[gC]at hy
  obtain⟨h1,h2⟩:=i _ y hy
  exact⟨h1,fun h=>h2 (aB _ h)⟩
theorem sS{e:E}(h:Wf e):∀(bd l:List Nm) (y:Nm),y∈ju e bd l↔y∈l\/bS y (dH e bd)=true:=by
 induction h with
 |
  @atom s h =>
  intro bd l y
  simp only[ju,dH]
  by_cases h0:s=[48]
  ·simp[h0,bS]
  ·by_cases h1:s=[49]
   ·simp[h1,bS]
   ·rw[if_neg h0,if_neg h1]
    by_cases h2:s∈bd
    ·cases q:bx s bd bd.length with
     |none=>exact absurd h2 ((ez _ _).1 q)
     |some u=>simp[h2,bS]
    ·rw[(ez _ _).2 h2]
     simp only[h0,h1,h2,false_or,bS,decide_eq_true_eq]
     by_cases h3:s∈l
     ·simp only[h3,if_true]
      exact⟨fun h=>.inl h,fun h=>by rcases h with h|rfl<;>assumption⟩
     ·simp only[h3,if_false,aM,bh,eq_comm]
 |
  plus ha hb i1 i2 =>
  intro bd l y
  rw[ju,if_neg (by decide),dX,i2,i1]
  simp[bS,or_assoc]
 |
  times ha hb i1 i2 =>
  intro bd l y
  rw[ju,if_neg (by decide),dy,i2,i1]
  simp[bS,or_assoc]
 |
  rc hn hb i =>
  intro bd l y
  rw[ju,if_pos (show (E.atom [114,101,99]).at=[114,101,99] from rfl),gC,i]
  rfl
theorem fq:∀(t:Ty) (out:List Nm) (y:Nm),y∈bA t out↔y∈out\/bS y t=true
 |
  .name s,out,y=>by
  simp only[bA,mb,bS,decide_eq_true_eq]
  split
  ·rename_i h;exact⟨fun h=>.inl h,fun h'=>by rcases h' with h'|rfl<;>assumption⟩
  ·simp[eq_comm]
 | .plus a b,out,y=>by rw[bA,fq b,fq a];simp[bS,or_assoc]
 | .times a b,out,y=>by rw[bA,fq b,fq a];simp[bS,or_assoc]
 | .rc a,out,y=>by rw[bA,fq a];rfl
 | .zero,out,y=>by simp[bA,bS]
 | .one,out,y=>by simp[bA,bS]
 | .ca k,out,y=>by simp[bA,bS]
end Go.Proofs.Trees
namespace Go.Proofs.Trees
open Go Go.VL Go.RowKit
abbrev fK:Nm:=[114,101,99]
theorem dA(s:Nm):(E.atom s).at=s:=rfl
def nT(x:Nm)(u:E):E->E
 | .atom s=>if s=x then u else .atom s
 | .list [h,a,b]=>if h.at=fK then(if a.at=x then .list [h,a,b]else .list [.atom fK,a,nT x u b])else .list [.atom h.at,nT x u a,nT x u b]
 | .list l=>.list l
def j6(x:Nm):E->Nat
 | .atom s=>if s=x then 1 else 0
 | .list [h,a,b]=>if h.at=fK then(if a.at=x then 0 else j6 x b)else j6 x a+j6 x b
 | .list _=>0
def pC(p:Nm->Prop):E->Prop
 | .atom _=>True
 | .list [h,a,b]=>(if h.at=fK then p a.at else pC p a)/\pC p b
 | .list _=>True
def iw(x:Nm):Ty->Nat
 | .name s=>if s=x then 1 else 0
 | .plus a b=>iw x a+iw x b
 | .times a b=>iw x a+iw x b
 | .rc a=>iw x a
 |_=>0
theorem qX(x:Nm)(u a b:E):nT x u (.list [.atom [43],a,b])=.list [.atom [43],nT x u a,nT x u b]:=by rw[nT,if_neg (by decide)];rfl
theorem oB(x:Nm)(u a b:E):nT x u (.list [.atom [42],a,b])=.list [.atom [42],nT x u a,nT x u b]:=by rw[nT,if_neg (by decide)];rfl
theorem vK(x:Nm)(u:E)(n:Nm)(b:E):nT x u (.list [.atom fK,.atom n,b])=if n=x then .list [.atom fK,.atom n,b]else .list [.atom fK,.atom n,nT x u b]:=by rw[nT,if_pos (dA _)];rfl
theorem nU(x:Nm)(a b:E):j6 x (.list [.atom [43],a,b])=j6 x a+j6 x b:=by rw[j6,if_neg (by decide)]
theorem l8(x:Nm)(a b:E):j6 x (.list [.atom [42],a,b])=j6 x a+j6 x b:=by rw[j6,if_neg (by decide)]
theorem sb(x:Nm)(n:Nm)(b:E):j6 x (.list [.atom fK,.atom n,b])=if n=x then 0 else j6 x b:=by rw[j6,if_pos (dA _)];rfl
theorem lg(p:Nm->Prop)(a b:E):pC p (.list [.atom [43],a,b])↔pC p a/\pC p b:=by rw[pC,if_neg (by decide)]
theorem j2(p:Nm->Prop)(a b:E):pC p (.list [.atom [42],a,b])↔pC p a/\pC p b:=by rw[pC,if_neg (by decide)]
theorem pV(p:Nm->Prop)(n:Nm)(b:E):pC p (.list [.atom fK,.atom n,b])↔p n/\pC p b:=by rw[pC,if_pos (dA _)];rfl
theorem wl{p q:Nm->Prop}(h:∀n,p n->q n){e:E}(hw:Wf e):pC p e->pC q e:=by
 induction hw with
 |atom _=>exact fun _=>trivial
 |plus _ _ i1 i2=>rw[lg,lg];exact fun g=>⟨i1 g.1,i2 g.2⟩
 |times _ _ i1 i2=>rw[j2,j2];exact fun g=>⟨i1 g.1,i2 g.2⟩
 |rc _ _ i=>rw[pV,pV];exact fun g=>⟨h _ g.1,i g.2⟩
theorem gl{s:Nm}(hs:ry s){ar:List Nm}(h:s∉ar):dH (.atom s) ar=.name s:=by
 simp only[dH];rw[if_neg hs.2.1,if_neg hs.2.2,(ez s ar).2 h]
theorem xd{x:Nm}(hx:ry x){u:E}(hu:Wf u){e:E}(h:Wf e):pC (fun n=>n≠x/\bS n (dH u [])=false) e->∀ar,x∉ar->(∀y,y∈ar->bS y (dH u [])=false)->Wf (nT x u e)/\dH (nT x u e) ar=sub x (dH u []) (dH e ar):=by
 induction h with
 |
  @atom s hs =>
  intro _ ar har hy
  by_cases e:s=x
  ·subst e
   have:dH u (ar++[])=dH u []:=xm ar hu [] fun y hy' hm=>by rw[hy y hm]at hy';cases hy'
   rw[List.append_nil]at this
   rw[gl hx har]
   simp only[nT,sub,if_true]
   exact⟨hu,this⟩
  ·simp only[nT,if_neg e]
   refine⟨.atom hs,?_⟩
   simp only[dH]
   split
   ·rfl
   ·split
    ·rfl
    ·split
     ·rfl
     ·simp only[sub,if_neg e]
 |
  plus ha hb i1 i2 =>
  intro hap ar har hy
  rw[lg]at hap
  obtain⟨w1,e1⟩:=i1 hap.1 ar har hy
  obtain⟨w2,e2⟩:=i2 hap.2 ar har hy
  rw[qX,dX,dX,e1,e2]
  exact⟨.plus w1 w2,rfl⟩
 |
  times ha hb i1 i2 =>
  intro hap ar har hy
  rw[j2]at hap
  obtain⟨w1,e1⟩:=i1 hap.1 ar har hy
  obtain⟨w2,e2⟩:=i2 hap.2 ar har hy
  rw[oB,dy,dy,e1,e2]
  exact⟨.times w1 w2,rfl⟩
 |
  @rc n b hn hb i =>
  intro hap ar har hy
  rw[pV]at hap
  obtain⟨w1,e1⟩:=i hap.2 (ar++[n]) (by
   simp only[aM,bh]
   rintro(h|h)
   ·exact har h
   ·exact hap.1.1 h.symm) (fun y hm=>by
   simp only[aM,bh]at hm
   rcases hm with hm|rfl
   ·exact hy y hm
   ·exact hap.1.2)
  rw[vK,if_neg hap.1.1,gC,gC]
  refine⟨.rc hn w1,?_⟩
  show Ty.rc (dH (nT x u b) (ar++[n]))=_
  rw[e1];rfl
theorem wP{x:Nm}(hx:ry x){e:E}(h:Wf e):∀ar,iw x (dH e ar)=if x∈ar then 0 else j6 x e:=by
 induction h with
 |
  @atom s hs =>
  intro ar
  by_cases e:s=x
  ·subst e
   by_cases hm:s∈ar
   ·rw[if_pos hm]
    simp only[dH];rw[if_neg hx.2.1,if_neg hx.2.2]
    cases q:bx s ar ar.length with
    |none=>exact absurd hm ((ez _ _).1 q)
    |some u=>rfl
   ·rw[if_neg hm,gl hx hm];simp[iw,j6]
  ·have:iw x (dH (.atom s) ar)=0:=by
    simp only[dH]
    split
    ·rfl
    ·split
     ·rfl
     ·split
      ·rfl
      ·simp[iw,e]
   rw[this];simp[j6,e]
 |plus ha hb i1 i2=>intro ar;rw[dX,nU,iw,i1,i2];split<;>simp
 |times ha hb i1 i2=>intro ar;rw[dy,l8,iw,i1,i2];split<;>simp
 |
  @rc n b hn hb i =>
  intro ar
  rw[gC,sb,iw,i]
  simp only[dA,aM,bh]
  by_cases h1:x∈ar
  ·simp[h1]
  ·by_cases h2:x=n
   ·simp[h2]
   ·simp[h1,h2,Ne.symm h2]
theorem eK(x:Nm)(u:Ty):∀t:Ty,(sub x u t).aS+iw x t=t.aS+iw x t*u.aS
 | .name s=>by simp only[sub,iw];split<;>simp[Ty.aS];omega
 | .plus a b=>by have:=eK x u a;have:=eK x u b;simp only[sub,Ty.aS,iw,dE];omega
 | .times a b=>by have:=eK x u a;have:=eK x u b;simp only[sub,Ty.aS,iw,dE];omega
 | .rc a=>by have:=eK x u a;simp only[sub,Ty.aS,iw];omega
 | .zero=>by simp[sub,iw]
 | .one=>by simp[sub,iw]
 | .ca k=>by simp[sub,iw]
abbrev tN(m:Nat):Nm:=116::dd m
theorem yI(m:Nat):dd m≠[]:=by
 by_cases h:m<10
 ·rw[eS h];simp
 ·rw[fJ h];simp
theorem vi:∀(n m k:Nat),m<n->dd m=dd k->m=k
 |0,m,k,h,_=>by omega
 |
  n+1,m,k,h,e=>by
  have d10:∀{a b:Nat},a<10->b<10->aW (48+a)=aW (48+b)->a=b:=fun {a b} ha hb h=>by
   have:=congrArg UInt8.toNat h
   simp only[UInt8.toNat_ofNat']at this
   omega
  by_cases h1:m<10<;>by_cases h2:k<10
  ·rw[eS h1,eS h2]at e
   simp only[List.cons.injEq,and_true]at e
   exact d10 h1 h2 e
  ·rw[eS h1,fJ h2]at e
   have:=congrArg List.length e
   have:dd (k/10)=[]:=by
    apply List.eq_nil_of_length_eq_zero
    simp at this;simpa using this
   exact absurd this (yI _)
  ·rw[fJ h1,eS h2]at e
   have:=congrArg List.length e
   have:dd (m/10)=[]:=by
    apply List.eq_nil_of_length_eq_zero
    simp at this;simpa using this
   exact absurd this (yI _)
  ·rw[fJ h1,fJ h2]at e
   obtain⟨e1,e2⟩:=List.append_inj' e rfl
   have:=vi n (m/10) (k/10) (by omega) e1
   simp only[List.cons.injEq,and_true]at e2
   have:=d10 (cX _ (by omega)) (cX _ (by omega)) e2
   omega
theorem wJ{m k:Nat}(h:tN m=tN k):m=k:=vi (m+1) m k (by omega) (List.cons.inj h).2
theorem yU(m:Nat):ry (tN m):=⟨by simp,by simp,by simp⟩
theorem Hr:∀(l F:List Nm),l.Nodup->(∀x,x∈l->x∈F)->l.length<=F.length
 |[],_,_,_=>Nat.zero_le _
 |
  x::l,F,hn,hs=>by
  obtain⟨h1,h2⟩:=List.nodup_cons.1 hn
  have hx:=hs x af
  have:=Hr l (F.erase x) h2 fun y hy=>(List.mem_erase_of_ne (fun e=>h1 (by rw[<-e];exact hy))).2 (hs y (ai _ hy))
  rw[List.length_erase_of_mem hx]at this
  have:0<F.length:=List.length_pos_of_mem hx
  simp only[az];omega
def ru(F:List Nm):Nat->Nat->Nat
 |0,k=>k
 |n+1,k=>if tN k∈F then ru F n (k+1)else k
theorem qk(F:List Nm):∀(n k:Nat),k<=ru F n k/\ru F n k<=k+n/\(∀j,k<=j->j<ru F n k->tN j∈F)/\(ru F n k<k+n->tN (ru F n k)∉F)
 |0,k=>⟨aw _,aw _,fun j h1 h2=>by simp only[ru]at h2;omega,fun h=>by simp only[ru]at h;omega⟩
 |
  n+1,k=>by
  rw[ru]
  split
  ·rename_i hm
   obtain⟨h1,h2,h3,h4⟩:=qk F n (k+1)
   refine⟨by omega,by omega,fun j hj hl=>?_,fun h=>h4 (by omega)⟩
   by_cases e:j=k
   ·subst e;exact hm
   ·exact h3 j (by omega) hl
  ·rename_i hm
   exact⟨aw _,by omega,fun j h1 h2=>by omega,fun _=>hm⟩
def nx(F:List Nm)(k:Nat):Nat:=ru F (F.length+1) k
theorem mY(F:List Nm)(k:Nat):k<=nx F k/\nx F k<=k+F.length/\(∀j,k<=j->j<nx F k->tN j∈F)/\tN (nx F k)∉F:=by
 obtain⟨h1,h2,h3,h4⟩:=qk F (F.length+1) k
 have hlt:nx F k<k+(F.length+1):=by
  rcases Nat.lt_or_ge (nx F k) (k+(F.length+1))with h|h
  ·exact h
  ·exfalso
   have:=Hr ((List.range' k (F.length+1)).map tN) F (by
    refine List.Pairwise.map _ (fun a b hab e=>hab (wJ e)) List.nodup_range') (fun x hx=>by
    obtain⟨j,hj,rfl⟩:=bL.1 hx
    obtain⟨i,hi,rfl⟩:=List.mem_range'.1 hj
    exact h3 _ (by omega) (by show _<nx F k;omega))
   simp at this
   omega
 exact⟨h1,by unfold nx at hlt |-;omega,h3,h4 hlt⟩
def j5(F:List Nm):Ty->List Nm->Nat->E×Nat
 | .zero,_,k=>(.atom [48],k)
 | .one,_,k=>(.atom [49],k)
 | .name s,_,k=>(.atom s,k)
 | .ca u,to,k=>(.atom (jN to u),k)
 | .plus a b,to,k=>(.list [.atom [43],(j5 F a to k).1,(j5 F b to (j5 F a to k).2).1],(j5 F b to (j5 F a to k).2).2)
 | .times a b,to,k=>(.list [.atom [42],(j5 F a to k).1,(j5 F b to (j5 F a to k).2).1],(j5 F b to (j5 F a to k).2).2)
 | .rc a,to,k=>(.list [.atom fK,.atom (tN (nx F k)),(j5 F a (to++[tN (nx F k)]) (nx F k+1)).1],(j5 F a (to++[tN (nx F k)]) (nx F k+1)).2)
def uf:Ty->Nat->Prop
 | .ca u,i=>u<i
 | .plus a b,i=>uf a i/\uf b i
 | .times a b,i=>uf a i/\uf b i
 | .rc a,i=>uf a (i+1)
 |_,_=>True
theorem AR{e:E}(h:Wf e):∀ar,uf (dH e ar) ar.length:=by
 induction h with
 |
  @atom s hs =>
  intro ar
  simp only[dH]
  split
  ·trivial
  ·split
   ·trivial
   ·split
    ·rename_i u q;exact(kg _ _ (aw _) q).1
    ·trivial
 |plus ha hb i1 i2=>intro ar;rw[dX];exact⟨i1 ar,i2 ar⟩
 |times ha hb i1 i2=>intro ar;rw[dy];exact⟨i1 ar,i2 ar⟩
 |
  @rc n b hn hb i =>
  intro ar;rw[gC]
  have:=i (ar++[(E.atom n).at])
  rw[ap]at this
  exact this
structure Gn(F to:List Nm)(k:Nat):Prop where
 out:∀w,w∈to->w∉F
 lt:∀w,w∈to->∃j,j<k/\w=tN j
 nd:to.Nodup
theorem Gn.nil(F:List Nm)(k:Nat):Gn F [] k:=⟨fun _ h=>(by cases h),fun _ h=>(by cases h),by simp⟩
theorem Gn.mono{F to:List Nm}{k k':Nat}(h:Gn F to k)(hk:k<=k'):Gn F to k':=⟨h.out,fun w hw=>by obtain⟨j,h1,h2⟩:=h.lt w hw;exact⟨j,by omega,h2⟩,h.nd⟩
theorem Gn.push{F to:List Nm}{k:Nat}(h:Gn F to k):Gn F (to++[tN (nx F k)]) (nx F k+1):=by
 obtain⟨h1,h2,h3,h4⟩:=mY F k
 refine⟨fun w hw=>?_,fun w hw=>?_,?_⟩
 ·rcases aM.1 hw with hw|hw
  ·exact h.out w hw
  ·simp only[bh]at hw;rw[hw];exact h4
 ·rcases aM.1 hw with hw|hw
  ·obtain⟨j,g1,g2⟩:=h.lt w hw;exact⟨j,by omega,g2⟩
  ·simp only[bh]at hw;exact⟨_,by omega,hw⟩
 ·refine List.nodup_append.2 ⟨h.nd,by simp,fun a ha b hb e=>?_⟩
  simp only[bh]at hb
  obtain⟨j,g1,g2⟩:=h.lt a ha
  rw[e,hb]at g2
  have:=wJ g2
  omega
theorem pQ{to:List Nm}(hn:to.Nodup){u:Nat}(hu:u<to.length):bx (jN to u) to to.length=some u:=by
 have hm:jN to u∈to:=by
  unfold jN
  have:to.length-1-u<to.length:=by omega
  simp[aa,this]
 cases q:bx (jN to u) to to.length with
 |none=>exact absurd hm ((ez _ _).1 q)
 |
  some v =>
  obtain⟨h1,h2⟩:=kg _ _ (aw _) q
  unfold jN at h2
  have e1:to.length-1-v<to.length:=by omega
  have e2:to.length-1-u<to.length:=by omega
  rw[aa,aa,bG e1,bG e2]at h2
  have hp:=List.pairwise_iff_getElem.1 hn
  have h3:to[to.length-1-v]=to[to.length-1-u]:=by simpa using h2
  rcases Nat.lt_trichotomy (to.length-1-v) (to.length-1-u)with hl|he|hl
  ·exact absurd h3 (hp _ _ e1 e2 hl)
  ·congr 1;omega
  ·exact absurd h3.symm (hp _ _ e2 e1 hl)
theorem kM(F:List Nm):∀(t:Ty) (to:List Nm) (k:Nat),Gn F to k->uf t to.length->(∀y,bS y t=true->y∈F/\ry y) ->
 Wf (j5 F t to k).1/\dH (j5 F t to k).1 to=t/\k<=(j5 F t to k).2/\(j5 F t to k).2<=k+(F.length+1)*t.aS/\pC (·∉F) (j5 F t to k).1
 | .zero,to,k,_,_,_=>⟨.atom (by simp),rfl,aw _,cI _ _,trivial⟩
 | .one,to,k,_,_,_=>⟨.atom (by simp),rfl,aw _,cI _ _,trivial⟩
 |
  .name s,to,k,g,hl,hn=>by
  obtain⟨h1,h2⟩:=hn s (by simp[bS])
  exact⟨.atom h2.1,gl h2 (fun h=>g.out s h h1),aw _,cI _ _,trivial⟩
 |
  .ca u,to,k,g,hl,hn=>by
  have hm:jN to u∈to:=by
   unfold jN
   have:to.length-1-u<to.length:=by have:u<to.length:=hl;omega
   simp[aa,this]
  obtain⟨j,_,e⟩:=g.lt _ hm
  have hok:ry (jN to u):=by rw[e];exact yU j
  refine⟨.atom hok.1,?_,aw _,cI _ _,trivial⟩
  simp only[j5,dH]
  rw[if_neg hok.2.1,if_neg hok.2.2,pQ g.nd hl]
 |
  .plus a b,to,k,g,hl,hn=>by
  obtain⟨a1,a2,a3,a4,a5⟩:=kM F a to k g hl.1 fun y hy=>hn y (by simp[bS,hy])
  obtain⟨b1,b2,b3,b4,b5⟩:=kM F b to _ (g.mono a3) hl.2 fun y hy=>hn y (by simp[bS,hy])
  simp only[j5,dX,a2,b2,lg,Ty.aS]
  refine⟨.plus a1 b1,trivial,by omega,?_,a5,b5⟩
  have:(F.length+1)*(1+a.aS+b.aS)=(F.length+1)+(F.length+1)*a.aS+(F.length+1)*b.aS:=by simp only[Nat.mul_add,Nat.mul_one]
  omega
 |
  .times a b,to,k,g,hl,hn=>by
  obtain⟨a1,a2,a3,a4,a5⟩:=kM F a to k g hl.1 fun y hy=>hn y (by simp[bS,hy])
  obtain⟨b1,b2,b3,b4,b5⟩:=kM F b to _ (g.mono a3) hl.2 fun y hy=>hn y (by simp[bS,hy])
  simp only[j5,dy,a2,b2,j2,Ty.aS]
  refine⟨.times a1 b1,trivial,by omega,?_,a5,b5⟩
  have:(F.length+1)*(1+a.aS+b.aS)=(F.length+1)+(F.length+1)*a.aS+(F.length+1)*b.aS:=by simp only[Nat.mul_add,Nat.mul_one]
  omega
 |
  .rc a,to,k,g,hl,hn=>by
  obtain⟨h1,h2,h3,h4⟩:=mY F k
  obtain⟨a1,a2,a3,a4,a5⟩:=kM F a (to++[tN (nx F k)]) (nx F k+1) g.push (by rw[ap];exact hl) hn
  simp only[j5,gC,dA,a2,pV,Ty.aS]
  refine⟨.rc (yU _) a1,trivial,by omega,?_,h4,a5⟩
  have:(F.length+1)*(2+a.aS)=(F.length+1)*2+(F.length+1)*a.aS:=by simp only[Nat.mul_add]
  omega
end Go.Proofs.Trees
namespace Go.Proofs.Trees
open Go Go.VL Go.RowKit
inductive rK:AV->List Nat->Prop
 |nil:rK n7 []
 |cons {m:Nat} {cs:List AV} {e:AV} {ids:List Nat} (hm:m∉ids) (h:rK e ids):rK (.ptr [.pid m cs,e]) (m::ids)
theorem rK.has{a:AV}{ids:List Nat}(h:rK a ids):LK.has .ptr a:=by
 cases h
 ·exact(kb).mpr trivial
 ·exact(fA _).mpr trivial
theorem rK.nodup{a:AV}{ids:List Nat}(h:rK a ids):ids.Nodup:=by
 induction h with
 |nil=>simp
 |cons hm h ih=>exact List.nodup_cons.2 ⟨hm,ih⟩
def Ho(t:Ty)(ea:AV)(ids:List Nat):AV->List Ob->Prop:=fun r o=>(∃m,m∉ids/\r=.cm [.agg [t.av,.ptr [.pid m [(Ty.rc t).av,ea],ea]],.pid m [(Ty.rc t).av,ea]])/\o=[]
theorem Ho.ne(t:Ty)(ea:AV)(ids:List Nat):∃r o,Ho t ea ids r o:=by
 have:∃m,m∉ids:=⟨ids.foldr max 0+1,fun h=>by
  have key:∀(l:List Nat) (x:Nat),x∈l->x<=l.foldr max 0:=by
   intro l
   induction l with
   |nil=>intro x hx;cases hx
   |
    cons y l ih =>
    intro x hx
    rcases aG.1 hx with rfl|hx
    ·simp only[List.foldr_cons];omega
    ·have:=ih x hx;simp only[List.foldr_cons];omega
  have:=key _ _ h
  omega⟩
 obtain⟨m,hm⟩:=this
 exact⟨_,_,⟨m,hm,rfl⟩,rfl⟩
inductive yV:Tg->List Nat->List UInt8->AV->Prop
 |nm (s:List UInt8) (ids:List Nat):yV (.nm s) ids s n7
 |bd {k:Nat} {ids:List Nat} (hk:k<ids.length) (cs:List AV) (s:List UInt8):yV (.bd k) ids s (.pid (ids.getD k 0) cs)
theorem yV.has{tg:Tg}{ids:List Nat}{s:List UInt8}{fr:AV}(h:yV tg ids s fr):LK.has .ptr fr:=by
 cases h
 ·exact(kb).mpr trivial
 ·exact .inr (.inr ⟨_,_,rfl⟩)
theorem yV.push{tg:Tg}{ids:List Nat}{s:List UInt8}{fr:AV}(h:yV tg ids s fr)(m:Nat):yV tg.up (m::ids) s fr:=by
 cases h with
 |nm=>exact .nm _ _
 |
  @bd k _ hk cs =>
  have:=yV.bd (k:=k+1) (ids:=m::ids) (by simpa using hk) cs s
  simpa[Tg.up]using this
end Go.Proofs.Trees
namespace Go.Proofs.Trees
open Go Go.VL Go.RowKit
theorem aY(s:ByteArray)(e:E):cd [.str,.sl] [.v (.string s),e.sp] 0=True:=by simp[cd,eM,bb]
theorem FY(w:List UInt8)(e:E):au Tryz.prog 69 [.v (.string (mk w)),.sl [[.v (.string (mk e.at)),e.sp]]] [] (bq (.agg [.v (.string (mk [])),(E.list [.atom w,e]).sp])):=by
 have:=Ea w [e] (by simp)
 simpa only[E.aV,gj,cN,E.at]using this
theorem zh(w:List UInt8)(e e':E):au Tryz.prog 69 [.v (.string (mk w)),.sl [[.v (.string (mk e.at)),e.sp],[.v (.string (mk e'.at)),e'.sp]]] [] (bq (.agg [.v (.string (mk [])),(E.list [.atom w,e,e']).sp])):=by
 have:=Ea w [e,e'] (by simp)
 simpa only[E.aV,gj,cN,E.at]using this
def P3(pv:AV)(a b:E):Prop:=LK.sl.has pv/\pv.aX.length=3/\pv.aX.getD 1 []=[.v (.string (mk a.at)),a.sp]/\pv.aX.getD 2 []=[.v (.string (mk b.at)),b.sp]
theorem P3.of(x a b:E):P3 (E.list [x,a,b]).sp a b:=⟨by simp[E.sp,cu],by simp[E.sp,E.aV,fF],by simp[E.sp,E.aV,fF,gj],by simp[E.sp,E.aV,fF,gj]⟩
def P2(pv:AV)(a:E):Prop:=LK.sl.has pv/\pv.aX.length=2/\pv.aX.getD 1 []=[.v (.string (mk a.at)),a.sp]
theorem P2.of(x a:E):P2 (E.list [x,a]).sp a:=⟨by simp[E.sp,cu],by simp[E.sp,E.aV,fF],by simp[E.sp,E.aV,fF,gj]⟩
end Go.Proofs.Trees
namespace Go.Proofs.Trees
open Go Go.VL Go.RowKit
theorem cA(l:List E):(E.list l).at=[]:=rfl
def E8:Hl:=(.u,.u)
end Go.Proofs.Trees
namespace Go.Proofs.Trees
open Go Go.VL Go.RowKit
theorem oi(s:Nm)(a b:E):au Tryz.prog 90 [.agg [.v (.string (mk [])),(E.list [.atom s,a,b]).sp]] [] (bq (.v (.string (mk s)))):=rr (.atom s) [a,b]
theorem Ce{e:E}(h:Wf e):∀(bd l:List Nm) (a:AV),dD a bd->bd.length+l.length+e.sz<100000->au Tryz.prog 98 [.agg [.v (.string (mk e.at)),e.sp],a,.vec 0] [.vec 1 (bM l)] (eX (.vec 1) [.dead,.vec 1 (bM (ju e bd l))]):=by
 induction h with
 |
  @atom s hs =>
  intro bd l a ha hl
  simp only[E.sz]at hl
  refine tR _ _ _ _ ((bb _).mpr trivial) ha.1 ?_
  have hll:(bM l).length=l.length:=by simp[bM]
  simp only[y0,dA,↓zq,zs,ag,zt,eX,ju]
  refine⟨fun _=>⟨fun h=>?_,fun h=>⟨fun h1=>?_,fun h1=>?_⟩⟩,fun h=>absurd h hs⟩
  ·rw[if_pos (.inl h)]
  ·rw[if_pos (.inr (.inl h1))]
  ·refine al (Bl bd a ha s (by omega)) ?_
   simp only[↓zq,zs,ag]
   refine⟨fun h2=>?_,fun h2=>al (Bl l _ (.of l) s (by omega)) ?_⟩
   ·rw[if_pos (.inr (.inr (.inl h2)))]
   ·simp only[↓zq,zs,ag]
    refine⟨fun h3=>?_,fun h3=>⟨⟨fun c hc=>(by simp at hc;rw[hc];rfl),by omega⟩,?_⟩⟩
    ·rw[if_pos (.inr (.inr (.inr h3)))]
    ·rw[vD,if_neg]
     rintro(q|q|q|q)
     ·exact h q
     ·exact h1 q
     ·exact h2 q
     ·exact h3 q
 |
  @plus x y hx hy i1 i2 =>
  intro bd l a ha hl
  simp only[E.sz,E.gD]at hl
  have hfl:=fC x bd l
  refine tR _ _ _ _ ((bb _).mpr trivial) ha.1 ?_
  have hP:=P3.of (.atom [43]) x y
  simp only[y0,cA,toNat_one,be,↓zq,zs,ag,zt,hP.1,hP.2.1,hP.2.2.1,hP.2.2.2,aY,eX]
  refine⟨fun h=>absurd rfl h,fun _=>?_⟩
  refine al (oi [43] x y) ?_
  simp only[↓zq,zs,ag,zt]
  refine⟨fun h=>by simp at h,fun _=>?_⟩
  repeat refine⟨by omega,?_⟩
  refine bE (i1 bd l a ha (by omega)) ?_
  simp only[↓zq,zs,ag,zt,ba,bz,Ob.es]
  repeat refine⟨by omega,?_⟩
  refine bE (i2 bd (ju x bd l) a ha (by omega)) ?_
  simp only[↓zq,zs,ag,zt,ba,bz,Ob.es]
  rw[ju,if_neg (by decide)]
 |
  @times x y hx hy i1 i2 =>
  intro bd l a ha hl
  simp only[E.sz,E.gD]at hl
  have hfl:=fC x bd l
  refine tR _ _ _ _ ((bb _).mpr trivial) ha.1 ?_
  have hP:=P3.of (.atom [42]) x y
  simp only[y0,cA,toNat_one,be,↓zq,zs,ag,zt,hP.1,hP.2.1,hP.2.2.1,hP.2.2.2,aY,eX]
  refine⟨fun h=>absurd rfl h,fun _=>?_⟩
  refine al (oi [42] x y) ?_
  simp only[↓zq,zs,ag,zt]
  refine⟨fun h=>by simp at h,fun _=>?_⟩
  repeat refine⟨by omega,?_⟩
  refine bE (i1 bd l a ha (by omega)) ?_
  simp only[↓zq,zs,ag,zt,ba,bz,Ob.es]
  repeat refine⟨by omega,?_⟩
  refine bE (i2 bd (ju x bd l) a ha (by omega)) ?_
  simp only[↓zq,zs,ag,zt,ba,bz,Ob.es]
  rw[ju,if_neg (by decide)]
 |
  @rc n y hn hy i =>
  intro bd l a ha hl
  simp only[E.sz,E.gD]at hl
  refine tR _ _ _ _ ((bb _).mpr trivial) ha.1 ?_
  have hP:=P3.of (.atom fK) (.atom n) y
  simp only[y0,cA,toNat_one,be,↓zq,zs,ag,zt,hP.1,hP.2.1,hP.2.2.1,hP.2.2.2,aY,eX]
  refine⟨fun h=>absurd rfl h,fun _=>?_⟩
  refine al (oi fK (.atom n) y) ?_
  simp only[↓zq,zs,ag,zt]
  refine⟨fun _=>?_,fun h=>absurd rfl h⟩
  repeat refine⟨by omega,?_⟩
  refine al (tG bd a ha n (by omega)) ?_
  simp only[↓zq,zs,ag]
  refine bE (i (bd++[n]) l _ (.of _) (by simp;omega)) ?_
  simp only[↓zq,zs,ag,ba,bz,Ob.es]
  rw[ju,if_pos (dA _)];rfl
theorem GV(x:Nm)(u:E){e:E}(h:Wf e):au Tryz.prog 187 [.agg [.v (.string (mk e.at)),e.sp],.v (.string (mk x)),.agg [.v (.string (mk u.at)),u.sp]] [] (bq (.agg [.v (.string (mk (nT x u e).at)),(nT x u e).sp])):=by
 induction h with
 |
  @atom s hs =>
  refine yw _ _ _ _ _ ((bb _).mpr trivial) ((bb _).mpr trivial) ?_
  simp only[wi,dA,↓zq,zs,ag,zt,bq,nT]
  refine⟨fun _=>⟨fun h=>?_,fun h=>?_⟩,fun h=>absurd h hs⟩
  ·rw[if_pos h]
  ·rw[if_neg h];rfl
 |
  @plus a b ha hb i1 i2 =>
  refine yw _ _ _ _ _ ((bb _).mpr trivial) ((bb _).mpr trivial) ?_
  have hP:=P3.of (.atom [43]) a b
  simp only[wi,cA,toNat_one,be,↓zq,zs,ag,zt,hP.1,hP.2.1,hP.2.2.1,hP.2.2.2,aY]
  refine⟨fun h=>absurd rfl h,fun _=>?_⟩
  refine al (oi [43] a b) ?_
  simp only[↓zq,zs,ag,zt]
  refine⟨fun h=>by simp at h,fun _=>?_⟩
  refine al (oi [43] a b) ?_
  simp only[↓zq,zs,ag,zt]
  repeat refine⟨by omega,?_⟩
  refine al i1 ?_
  simp only[↓zq,zs,ag,zt,aY]
  repeat refine⟨by omega,?_⟩
  refine al i2 ?_
  simp only[↓zq,zs,ag,zt,aY]
  repeat refine⟨by omega,?_⟩
  refine al (zh _ _ _) ?_
  simp only[↓zq,zs,ag,zt,aY,qX,cA]
  repeat refine⟨by omega,?_⟩
  exact⟨rfl,rfl⟩
 |
  @times a b ha hb i1 i2 =>
  refine yw _ _ _ _ _ ((bb _).mpr trivial) ((bb _).mpr trivial) ?_
  have hP:=P3.of (.atom [42]) a b
  simp only[wi,cA,toNat_one,be,↓zq,zs,ag,zt,hP.1,hP.2.1,hP.2.2.1,hP.2.2.2,aY]
  refine⟨fun h=>absurd rfl h,fun _=>?_⟩
  refine al (oi [42] a b) ?_
  simp only[↓zq,zs,ag,zt]
  refine⟨fun h=>by simp at h,fun _=>?_⟩
  refine al (oi [42] a b) ?_
  simp only[↓zq,zs,ag,zt]
  repeat refine⟨by omega,?_⟩
  refine al i1 ?_
  simp only[↓zq,zs,ag,zt,aY]
  repeat refine⟨by omega,?_⟩
  refine al i2 ?_
  simp only[↓zq,zs,ag,zt,aY]
  repeat refine⟨by omega,?_⟩
  refine al (zh _ _ _) ?_
  simp only[↓zq,zs,ag,zt,aY,oB,cA]
  repeat refine⟨by omega,?_⟩
  exact⟨rfl,rfl⟩
 |
  @rc n b hn hb i =>
  refine yw _ _ _ _ _ ((bb _).mpr trivial) ((bb _).mpr trivial) ?_
  have hP:=P3.of (.atom fK) (.atom n) b
  simp only[wi,cA,toNat_one,be,↓zq,zs,ag,zt,hP.1,hP.2.1,hP.2.2.1,hP.2.2.2,aY]
  refine⟨fun h=>absurd rfl h,fun _=>?_⟩
  refine al (oi fK (.atom n) b) ?_
  simp only[↓zq,zs,ag,zt]
  refine⟨fun _=>?_,fun h=>absurd rfl h⟩
  repeat refine⟨by omega,?_⟩
  rw[vK]
  refine⟨fun h=>?_,fun h=>?_⟩
  ·have hh:n=x:=h
   rw[if_pos hh];exact⟨rfl,rfl⟩
  ·have hh:¬n=x:=h
   rw[if_neg hh]
   repeat refine⟨by omega,?_⟩
   refine al i ?_
   simp only[↓zq,zs,ag,zt,aY]
   repeat refine⟨by omega,?_⟩
   refine al (zh fK (.atom n) (nT x u b)) ?_
   simp only[↓zq,zs,ag,zt,aY,cA]
   repeat refine⟨by omega,?_⟩
   exact⟨rfl,rfl⟩
theorem nK(x:Nm){e:E}(h:Wf e):j6 x e<=e.dI:=by
 induction h with
 |atom hs=>simp only[j6,E.dI];split<;>omega
 |plus ha hb i1 i2=>rw[nU];simp only[E.dI,E.eE];omega
 |times ha hb i1 i2=>rw[l8];simp only[E.dI,E.eE];omega
 |rc hn hb i=>rw[sb];simp only[E.dI,E.eE];split<;>omega
theorem FF(x:Nm){e:E}(h:Wf e):e.dI<1000000->au Tryz.prog 186 [.agg [.v (.string (mk e.at)),e.sp],.v (.string (mk x))] [] (bq (.v (.int .i64 (j6 x e:Int)))):=by
 induction h with
 |
  @atom s hs =>
  intro hl
  refine w6 _ _ _ ((bb _).mpr trivial) ?_
  simp only[uJ,dA,↓zq,zs,ag,zt,bq,j6]
  refine⟨fun _=>⟨fun h=>?_,fun h=>?_⟩,fun h=>absurd h hs⟩
  ·rw[if_pos h];rfl
  ·rw[if_neg h];rfl
 |
  @plus a b ha hb i1 i2 =>
  intro hl
  simp only[E.dI,E.eE]at hl
  have u1:=nK x ha
  have u2:=nK x hb
  refine w6 _ _ _ ((bb _).mpr trivial) ?_
  have hP:=P3.of (.atom [43]) a b
  simp only[uJ,cA,toNat_one,be,↓zq,zs,ag,zt,hP.1,hP.2.1,hP.2.2.1,hP.2.2.2,aY]
  refine⟨fun h=>absurd rfl h,fun _=>?_⟩
  refine al (oi [43] a b) ?_
  simp only[↓zq,zs,ag,zt]
  refine⟨fun h=>by simp at h,fun _=>?_⟩
  repeat refine⟨by omega,?_⟩
  refine al (i1 (by omega)) ?_
  simp only[↓zq,zs,ag,zt]
  repeat refine⟨by omega,?_⟩
  refine al (i2 (by omega)) ?_
  simp only[↓zq,zs,ag,zt]
  rw[nU,wrap64 _ (by omega) (by omega)]
  exact⟨by simp,rfl⟩
 |
  @times a b ha hb i1 i2 =>
  intro hl
  simp only[E.dI,E.eE]at hl
  have u1:=nK x ha
  have u2:=nK x hb
  refine w6 _ _ _ ((bb _).mpr trivial) ?_
  have hP:=P3.of (.atom [42]) a b
  simp only[uJ,cA,toNat_one,be,↓zq,zs,ag,zt,hP.1,hP.2.1,hP.2.2.1,hP.2.2.2,aY]
  refine⟨fun h=>absurd rfl h,fun _=>?_⟩
  refine al (oi [42] a b) ?_
  simp only[↓zq,zs,ag,zt]
  refine⟨fun h=>by simp at h,fun _=>?_⟩
  repeat refine⟨by omega,?_⟩
  refine al (i1 (by omega)) ?_
  simp only[↓zq,zs,ag,zt]
  repeat refine⟨by omega,?_⟩
  refine al (i2 (by omega)) ?_
  simp only[↓zq,zs,ag,zt]
  rw[l8,wrap64 _ (by omega) (by omega)]
  exact⟨by simp,rfl⟩
 |
  @rc n b hn hb i =>
  intro hl
  simp only[E.dI,E.eE]at hl
  refine w6 _ _ _ ((bb _).mpr trivial) ?_
  have hP:=P3.of (.atom fK) (.atom n) b
  simp only[uJ,cA,toNat_one,be,↓zq,zs,ag,zt,hP.1,hP.2.1,hP.2.2.1,hP.2.2.2,aY]
  refine⟨fun h=>absurd rfl h,fun _=>?_⟩
  refine al (oi fK (.atom n) b) ?_
  simp only[↓zq,zs,ag,zt]
  refine⟨fun _=>?_,fun h=>absurd rfl h⟩
  repeat refine⟨by omega,?_⟩
  rw[sb]
  refine⟨fun h=>?_,fun h=>?_⟩
  ·have hh:n=x:=h
   rw[if_pos hh];exact⟨rfl,rfl⟩
  ·have hh:¬n=x:=h
   rw[if_neg hh]
   repeat refine⟨by omega,?_⟩
   refine al (i (by omega)) ?_
   simp only[↓zq,zs,ag,zt]
   exact⟨rfl,rfl⟩
theorem Fi{x:Nm}(hx:ry x){e u:E}(h:Wf e)(hu:Wf u)(hl:e.dI<=1000)(hlu:u.dI<=1000):au Tryz.prog 162 [.agg [.v (.string (mk e.at)),e.sp],.v (.string (mk x)),.agg [.v (.string (mk u.at)),u.sp]] [] (bq (.v (.bool (decide ((sub x (dH u []) (dH e [])).aS<=400))))):=by
 refine G9 _ _ _ _ _ ((bb _).mpr trivial) ((bb _).mpr trivial) ?_
 unfold BU
 have a1:=vN e h.ok (by have:=h.sz;omega)
 have a2:=vN u hu.ok (by have:=hu.sz;omega)
 rw[cN]at a1 a2
 have hle:=nK x h
 have hpos:1<=u.dI:=by rw[hu.dI []];exact uc _
 refine al a1 ?_
 simp only[↓zq,zs,ag,zt]
 refine al (FF x h (by omega)) ?_
 simp only[↓zq,zs,ag,zt]
 refine al a2 ?_
 simp only[↓zq,zs,ag,zt]
 have e1:=eK x (dH u []) (dH e [])
 have e2:=wP hx h []
 rw[if_neg (by simp)]at e2
 rw[e2,<-h.dI [],<-hu.dI []]at e1
 have hm:j6 x e*(u.dI-1)<=1000*1000:=Nat.mul_le_mul (by omega) (by omega)
 have e3:(j6 x e:Int)*((u.dI:Int)-1)=((j6 x e*(u.dI-1):Nat):Int):=by
  rw[Int.natCast_mul];congr 1;omega
 have e4:j6 x e*(u.dI-1)+j6 x e=j6 x e*u.dI:=by
  rw[Nat.mul_sub,Nat.mul_one]
  have:=Nat.le_mul_of_pos_right (j6 x e) hpos
  omega
 rw[wrap64 ((u.dI:Int)-1) (by omega) (by omega),e3,wrap64 ((j6 x e*(u.dI-1):Nat):Int) (by omega) (by omega),wrap64 _ (by omega) (by omega)]
 refine⟨?_,rfl⟩
 congr 2
 rw[cj,decide_eq_true_eq,decide_eq_true_eq]
 omega
end Go.Proofs.Trees
namespace Go.Proofs.Trees
open Go Go.VL Go.RowKit
abbrev E3:AV:=.v (.slice none 0 0)
abbrev zE:Ob:=.cells [.v (.string (mk [])),E3]
theorem Ez(s:Nm)(p a b:AV)(hp:LK.sl.has p)(F fr to:List Nm)(k:Int)(ha:dD a fr)(hb:dD b to)(hft:fr.length=to.length)(hl:fr.length<1000000):∀(i:Nat),i<=fr.length ->
 zG [a,b,.v (.int .i64 ((i:Int)-1))] [.cells [.v (.string (mk s)),p],zE,.cells [.any,.v (.int .i64 k)],.vec 1 (bM F)]
  (ox (match bx s fr i with|some u=>(2,[],[.cells [.v (.string (mk (jN to u))),E3],.cells [.any,.v (.int .i64 k)],.vec 1 (bM F)])|none=>(1,[],[.cells [.v (.string (mk s)),p],zE,.cells [.any,.v (.int .i64 k)],.vec 1 (bM F)])))
 |
  0,hi=>by
  refine ET _ _ _ _ _ _ _ _ _ ?_
  simp only[zO,↓zq,zs,ag,ag,hp,a8]
  exact⟨ha.1,hb.1,fun h=>by omega,fun _=>rfl⟩
 |
  i+1,hi=>by
  have hlt:i<fr.length:=by omega
  have hlt':i<to.length:=by omega
  have e1:((i+1:Nat):Int)-1=(i:Int):=by omega
  rw[e1]
  refine ET _ _ _ _ _ _ _ _ _ ?_
  simp only[zO,↓zq,zs,ag,zt,ag,hp,a8,ha.len,hb.len,ha.idx hlt,hb.idx hlt',bi]
  refine⟨ha.1,hb.1,fun _=>⟨⟨ha.1,by omega,by omega⟩,by omega,fun h=>?_,fun h=>?_⟩,fun h=>by omega⟩
  ·refine⟨⟨hb.1,by omega,by omega⟩,by omega,?_⟩
   have hh:fr.getD i []=s:=h
   simp only[bx,hh,if_true,ox]
   have:jN to (fr.length-1-i)=to.getD i []:=by unfold jN;congr 1;omega
   rw[this]
  ·have hh:¬fr.getD i []=s:=h
   simp only[bx,hh,if_false]
   rw[wrap64 _ (by omega) (by omega)]
   exact Ez s p a b hp F fr to k ha hb hft hl i (by omega)
theorem Ey(a b:AV)(ha:LK.sl.has a)(hb:LK.sl.has b)(F:List Nm)(hF:F.length<100000)(t:ByteArray)(p:AV)(hp:LK.sl.has p):∀(n j:Nat),ru F n j<j+n->j+n<100000000 ->
 A3 [a,b,.v (.string (mk (tN j)))] [.cells [.any,.v (.int .i64 (j:Int))],.vec 1 (bM F),.cells [.v (.string t),p],zE] (mP 1 [a,b,.v (.string (mk (tN (ru F n j))))] [.cells [.any,.v (.int .i64 (ru F n j:Int))],.vec 1 (bM F),.cells [.v (.string t),p],zE])
 |0,j,h,_=>by simp only[ru]at h;omega
 |
  n+1,j,h,hj=>by
  refine FL _ _ _ _ _ _ _ _ _ ?_
  simp only[Dz,↓zq,zs,ag,zt,ag,hp,a8]
  refine⟨ha,hb,?_⟩
  refine al (Bl F _ (.of F) (tN j) (by omega)) ?_
  simp only[↓zq,zs,ag,zt]
  rw[ru]at h |-
  refine⟨fun hm=>?_,fun hm=>?_⟩
  ·rw[if_pos hm]at h |-
   rw[ct j (by omega)]
   refine al (yd (j+2) (j+1) (by omega) (by omega)) ?_
   have hd:=kI (j+2) (j+1) (by omega)
   simp only[↓zq,zs,ag,zt,List.cons_append,dj]
   refine⟨by simp[db];omega,?_⟩
   exact Ey a b ha hb F hF t p hp n (j+1) (by omega) (by omega)
  ·rw[if_neg hm]
   exact⟨rfl,rfl,rfl⟩
theorem jO(F:List Nm):∀(t:Ty) (to:List Nm) (k:Nat),k<=(j5 F t to k).2/\(j5 F t to k).2<=k+(F.length+1)*t.aS
 | .zero,_,k=>⟨aw _,cI _ _⟩
 | .one,_,k=>⟨aw _,cI _ _⟩
 | .name _,_,k=>⟨aw _,cI _ _⟩
 | .ca _,_,k=>⟨aw _,cI _ _⟩
 |
  .plus a b,to,k=>by
  have h1:=jO F a to k
  have h2:=jO F b to (j5 F a to k).2
  simp only[j5,Ty.aS]
  have:(F.length+1)*(1+a.aS+b.aS)=(F.length+1)+(F.length+1)*a.aS+(F.length+1)*b.aS:=by simp only[Nat.mul_add,Nat.mul_one]
  omega
 |
  .times a b,to,k=>by
  have h1:=jO F a to k
  have h2:=jO F b to (j5 F a to k).2
  simp only[j5,Ty.aS]
  have:(F.length+1)*(1+a.aS+b.aS)=(F.length+1)+(F.length+1)*a.aS+(F.length+1)*b.aS:=by simp only[Nat.mul_add,Nat.mul_one]
  omega
 |
  .rc a,to,k=>by
  obtain⟨g1,g2,_,_⟩:=mY F k
  have h1:=jO F a (to++[tN (nx F k)]) (nx F k+1)
  simp only[j5,Ty.aS]
  have:(F.length+1)*(2+a.aS)=(F.length+1)*2+(F.length+1)*a.aS:=by simp only[Nat.mul_add]
  omega
theorem qy(l:List Nm):(bM l).length=l.length:=by simp[bM]
theorem GF(F:List Nm)(hF:F.length<10000){e:E}(h:Wf e):∀(fr to:List Nm) (a b:AV) (k:Nat),dD a fr->dD b to->fr.length=to.length->(∀w,w∈fr->ry w)->fr.length+e.sz<10000->k+(F.length+1)*(dH e fr).aS<99000000 ->
 au Tryz.prog 131 [.agg [.v (.string (mk e.at)),e.sp],a,b,.ref 0 0] [.cells [.vec 1,.v (.int .i64 (k:Int))],.vec 1 (bM F)] (eX (.agg [.v (.string (mk (j5 F (dH e fr) to k).1.at)),(j5 F (dH e fr) to k).1.sp]) [.cells [.vec 1,.v (.int .i64 ((j5 F (dH e fr) to k).2:Int))],.vec 1 (bM F)]):=by
 induction h with
 |
  @atom s hs =>
  intro fr to a b k ha hb hft hfr hl hk
  simp only[E.sz]at hl
  refine xw _ _ _ _ _ _ ((bb _).mpr trivial) ha.1 hb.1 ?_
  have hz:∀c,(c=[48]\/c=[49])->bx c fr fr.length=none:=fun c hc=>(ez c fr).2 fun hm=>by
   obtain⟨h1,h2,h3⟩:=hfr c hm
   rcases hc with rfl|rfl
   ·exact h2 rfl
   ·exact h3 rfl
  have hq:j5 F (dH (.atom s) fr) to k=(match bx s fr fr.length with|some u=>.atom (jN to u)|none=>.atom s,k):=by
   simp only[dH]
   by_cases h0:s=[48]
   ·rw[if_pos h0,hz s (.inl h0),h0];rfl
   ·rw[if_neg h0]
    by_cases h1:s=[49]
    ·rw[if_pos h1,hz s (.inr h1),h1];rfl
    ·rw[if_neg h1]
     cases bx s fr fr.length<;>rfl
  simp only[vJ,dA,↓zq,zs,ag,zt]
  refine⟨fun _=>⟨ha.1,?_⟩,fun h=>absurd h hs⟩
  rw[ha.len,wrap64 _ (by omega) (by omega)]
  refine gx (Ez s _ a b ((bb _).mpr trivial) F fr to (k:Int) ha hb hft (by omega) fr.length (aw _)) (fun ys o e=>?_) (fun ys o e=>?_)
  ·rw[hq]
   cases q:bx s fr fr.length<;>rw[q]at e<;>cases e
   simp only[↓zq,zs,ag,zt,ag,aO,a8,bb]
   exact⟨rfl,rfl⟩
  ·rw[hq]
   cases q:bx s fr fr.length<;>rw[q]at e<;>cases e
   simp only[↓zq,zs,ag,zt,ag,aO,a8]
   exact⟨rfl,rfl⟩
 |
  @plus x y hx hy i1 i2 =>
  intro fr to a b k ha hb hft hfr hl hk
  simp only[E.sz,E.gD]at hl
  rw[dX]at hk |-
  simp only[Ty.aS]at hk
  have hm:(F.length+1)*(1+(dH x fr).aS+(dH y fr).aS)=(F.length+1)+(F.length+1)*(dH x fr).aS+(F.length+1)*(dH y fr).aS:=by simp only[Nat.mul_add,Nat.mul_one]
  have hc:=jO F (dH x fr) to k
  refine xw _ _ _ _ _ _ ((bb _).mpr trivial) ha.1 hb.1 ?_
  have hP:=P3.of (.atom [43]) x y
  simp only[vJ,cA,toNat_one,be,↓zq,zs,ag,zt,hP.1,hP.2.1,hP.2.2.1,hP.2.2.2,aY]
  refine⟨fun h=>absurd rfl h,fun _=>?_⟩
  refine al (oi [43] x y) ?_
  simp only[↓zq,zs,ag,zt]
  refine⟨fun h=>by simp at h,fun _=>?_⟩
  repeat refine⟨by omega,?_⟩
  refine bE (i1 fr to a b k ha hb hft hfr (by omega) (by omega)) ?_
  simp only[↓zq,zs,ag,zt,aO,aY,ba,bz,Ob.es]
  repeat refine⟨by omega,?_⟩
  refine al (oi [43] x y) ?_
  simp only[↓zq,zs,ag,zt]
  repeat refine⟨by omega,?_⟩
  refine bE (i2 fr to a b _ ha hb hft hfr (by omega) (by omega)) ?_
  simp only[↓zq,zs,ag,zt,aO,aY,ba,bz,Ob.es]
  repeat refine⟨by omega,?_⟩
  refine al (zh _ _ _) ?_
  simp only[↓zq,zs,ag,zt,aY,cA]
  repeat refine⟨by omega,?_⟩
  exact⟨rfl,rfl⟩
 |
  @times x y hx hy i1 i2 =>
  intro fr to a b k ha hb hft hfr hl hk
  simp only[E.sz,E.gD]at hl
  rw[dy]at hk |-
  simp only[Ty.aS]at hk
  have hm:(F.length+1)*(1+(dH x fr).aS+(dH y fr).aS)=(F.length+1)+(F.length+1)*(dH x fr).aS+(F.length+1)*(dH y fr).aS:=by simp only[Nat.mul_add,Nat.mul_one]
  have hc:=jO F (dH x fr) to k
  refine xw _ _ _ _ _ _ ((bb _).mpr trivial) ha.1 hb.1 ?_
  have hP:=P3.of (.atom [42]) x y
  simp only[vJ,cA,toNat_one,be,↓zq,zs,ag,zt,hP.1,hP.2.1,hP.2.2.1,hP.2.2.2,aY]
  refine⟨fun h=>absurd rfl h,fun _=>?_⟩
  refine al (oi [42] x y) ?_
  simp only[↓zq,zs,ag,zt]
  refine⟨fun h=>by simp at h,fun _=>?_⟩
  repeat refine⟨by omega,?_⟩
  refine bE (i1 fr to a b k ha hb hft hfr (by omega) (by omega)) ?_
  simp only[↓zq,zs,ag,zt,aO,aY,ba,bz,Ob.es]
  repeat refine⟨by omega,?_⟩
  refine al (oi [42] x y) ?_
  simp only[↓zq,zs,ag,zt]
  repeat refine⟨by omega,?_⟩
  refine bE (i2 fr to a b _ ha hb hft hfr (by omega) (by omega)) ?_
  simp only[↓zq,zs,ag,zt,aO,aY,ba,bz,Ob.es]
  repeat refine⟨by omega,?_⟩
  refine al (zh _ _ _) ?_
  simp only[↓zq,zs,ag,zt,aY,cA]
  repeat refine⟨by omega,?_⟩
  exact⟨rfl,rfl⟩
 |
  @rc n y hn hy i =>
  intro fr to a b k ha hb hft hfr hl hk
  simp only[E.sz,E.gD]at hl
  rw[gC]at hk |-
  simp only[Ty.aS,dA]at hk
  have hm:(F.length+1)*(2+(dH y (fr++[n])).aS)=(F.length+1)*2+(F.length+1)*(dH y (fr++[n])).aS:=by simp only[Nat.mul_add]
  have hc:=jO F (dH y (fr++[n])) (to++[tN (nx F k)]) (nx F k+1)
  obtain⟨g1,g2,_,_⟩:=mY F k
  refine xw _ _ _ _ _ _ ((bb _).mpr trivial) ha.1 hb.1 ?_
  have hP:=P3.of (.atom fK) (.atom n) y
  simp only[vJ,cA,toNat_one,be,↓zq,zs,ag,zt,hP.1,hP.2.1,hP.2.2.1,hP.2.2.2,aY]
  refine⟨fun h=>absurd rfl h,fun _=>?_⟩
  refine al (oi fK (.atom n) y) ?_
  simp only[↓zq,zs,ag,zt]
  refine⟨fun _=>?_,fun h=>absurd rfl h⟩
  refine al (yd (k+1) k (by omega) (by omega)) ?_
  have hd:=kI (k+1) k (by omega)
  simp only[↓zq,zs,ag,zt,List.cons_append,dj]
  refine⟨by simp[db];omega,?_⟩
  refine dY (Ey a b ha.1 hb.1 F (by omega) (mk []) _ ((bb _).mpr trivial) (F.length+1) k (by show nx F k<_;omega) (by omega)) ?_
  simp only[↓zq,zs,ag,zt,ag,aO,a8,bb,ha.1,hb.1,hP.1,hP.2.1,hP.2.2.1,hP.2.2.2,toNat_one,be,aY]
  repeat refine⟨by omega,?_⟩
  have hnx:ru F (F.length+1) k=nx F k:=rfl
  rw[hnx]
  refine al (tG fr a ha n (by omega)) ?_
  simp only[↓zq,zs,ag,zt]
  refine al (tG to b hb (tN (nx F k)) (by omega)) ?_
  simp only[↓zq,zs,ag,zt]
  rw[ct (nx F k) (by omega)]
  have hmk:=zh fK (.atom (tN (nx F k))) (j5 F (dH y (fr++[n])) (to++[tN (nx F k)]) (nx F k+1)).1
  simp only[dA]at hmk
  refine bE (i (fr++[n]) (to++[tN (nx F k)]) _ _ (nx F k+1) (.of _) (.of _) (by simp[hft]) (fun w hw=>by
   rcases aM.1 hw with hw|hw
   ·exact hfr w hw
   ·simp only[bh]at hw;rw[hw];exact hn) (by simp;omega) (by omega)) ?_
  simp only[↓zq,zs,ag,zt,aO,aY,ba,bz,Ob.es]
  repeat refine⟨by omega,?_⟩
  refine al hmk ?_
  simp only[↓zq,zs,ag,zt,aY,cA]
  repeat refine⟨by omega,?_⟩
  exact⟨rfl,rfl⟩
theorem rZ(l r:List Nm):bM (l++r)=bM l++bM r:=by simp[bM]
def om(os:List E):List Nm:=os.flatMap fun o=>ju o [] []
theorem ri{os:List E}{i:Nat}(h:i<os.length):(E.aV os).getD i []=[.v (.string (mk (os[i]).at)),(os[i]).sp]:=by
 have:∀(os:List E) (i:Nat) (h:i<os.length),(E.aV os).getD i []=(os[i]).fG:=by
  intro os
  induction os with
  |nil=>intro i h;simp at h
  |
   cons o os ih =>
   intro i h
   cases i with
   |zero=>simp[E.aV]
   |succ i=>simpa[E.aV]using ih i (by simpa using h)
 rw[this os i h,gj]
theorem uk(os:List E){i:Nat}(h:i<os.length):om (os.drop i)=ju (os[i]) [] []++om (os.drop (i+1)):=by
 unfold om;rw[a7 h,List.flatMap_cons]
theorem CW(a:AV)(os:List E)(ha:LK.sl.has a/\a.aX=E.aV os)(ho:∀o,o∈os->Wf o/\o.sz<5000)(hl:os.length<100)(t:ByteArray)(p:AV)(hp:LK.sl.has p):∀(k i:Nat) (F:List Nm),i+k=os.length->F.length<=5000+5000*i ->
 Ak [a,.v (.int .i64 (i:Int))] [.cells [.v (.string t),p],zE,.vec 1 (bM F)] (mP 1 [] [.cells [.v (.string t),p],zE,.vec 1 (bM (F++om (os.drop i)))])
 |
  0,i,F,hi,hF=>by
  refine Ew _ _ _ _ _ _ _ ?_
  have:i=os.length:=by omega
  subst this
  simp only[zy,↓zq,zs,ag,zt,ag,hp,a8,ha.1,ha.2,da,List.drop_length]
  exact⟨fun h=>by omega,fun _=>by simp[mP,om]⟩
 |
  k+1,i,F,hi,hF=>by
  have hlt:i<os.length:=by omega
  obtain⟨hw,hsz⟩:=ho _ (cH hlt)
  have hfl:=fC (os[i]) [] []
  refine Ew _ _ _ _ _ _ _ ?_
  simp only[zy,↓zq,zs,ag,zt,ag,hp,a8,ha.1,ha.2,da,ri hlt,aY,bi]
  refine⟨fun _=>?_,fun h=>by omega⟩
  repeat refine⟨by omega,?_⟩
  have hfre:=Ce hw [] [] (.sl []) (.of []) (by simp;omega)
  refine bE hfre ?_
  simp only[↓zq,zs,ag,zt,ba,bz,Ob.es,qy,<-rZ]
  rw[ct i (by omega),uk os hlt,<-List.append_assoc]
  simp only[aF,aR]at hfl
  refine⟨⟨jU _,by omega⟩,?_⟩
  exact CW a os ha ho hl t p hp k (i+1) _ (by omega) (by simp;omega)
def AL(e:E)(os:List E):List Nm:=ju e [] []++om os
def yN(e:E)(os:List E):E:=(j5 (AL e os) (dH e []) [] 0).1
theorem xD{e:E}{os:List E}(h:e.sz<=2000)(ho:∀o,o∈os->Wf o/\o.sz<=2000)(hl:os.length<=2):(AL e os).length<=6000:=by
 have h1:=fC e [] []
 have h2:∀(l:List E),(∀o,o∈l->o.sz<=2000)->(om l).length<=2000*l.length:=by
  intro l
  induction l with
  |nil=>intro _;simp[om]
  |
   cons o l ih =>
   intro hl
   have:=ih fun q hq=>hl q (ai _ hq)
   have:=hl o af
   have:=fC o [] []
   simp only[om,List.flatMap_cons,ap,az,aF]at *
   omega
 have:=h2 os fun o ho'=>(ho o ho').2
 simp only[AL,ap,aF]at *
 omega
theorem En{e:E}(h:Wf e)(a:AV)(os:List E)(ha:LK.sl.has a/\a.aX=E.aV os)(he:e.sz<=2000)(ho:∀o,o∈os->Wf o/\o.sz<=2000)(hl:os.length<=2) :
 au Tryz.prog 78 [.agg [.v (.string (mk e.at)),e.sp],a] [] (bq (.agg [.v (.string (mk (yN e os).at)),(yN e os).sp])):=by
 refine Fk _ _ _ ((bb _).mpr trivial) ha.1 ?_
 unfold B7
 have hfl:=fC e [] []
 simp only[aF,aR]at hfl
 have hap:=xD he ho hl
 have hats:(dH e []).aS<=2000:=by
  rw[<-h.dI []]
  have:e.dI<=e.sz:=by
   clear hap hfl ha he ho hl
   induction h with
   |atom _=>simp[E.dI,E.sz]
   |plus _ _ i1 i2=>simp only[E.dI,E.eE,E.sz,E.gD];omega
   |times _ _ i1 i2=>simp only[E.dI,E.eE,E.sz,E.gD];omega
   |rc _ _ i=>simp only[E.dI,E.eE,E.sz,E.gD];omega
  omega
 have hfre:=Ce h [] [] (.sl []) (.of []) (by simp;omega)
 simp only[↓zq,zs,ag,zt]
 refine bE hfre ?_
 simp only[↓zq,zs,ag,zt,ba,bz,Ob.es]
 have hlp:=CW a os ha (fun o hq=>⟨(ho o hq).1,by have:=(ho o hq).2;omega⟩) (by omega) (mk e.at) e.sp ((bb _).mpr trivial) os.length 0 (ju e [] []) (by omega) (by omega)
 rw[cg]at hlp
 refine dY hlp ?_
 simp only[↓zq,zs,ag,zt,ag,aO,a8,bb,ba,bz,Ob.es]
 have hmul:((AL e os).length+1)*(dH e []).aS<=6001*2000:=Nat.mul_le_mul (by omega) hats
 have hren:=GF (AL e os) (by omega) h [] [] (.sl []) (.sl []) 0 (.of []) (.of []) rfl (fun w hw=>by cases hw) (by simp;omega) (by omega)
 refine bE hren ?_
 simp only[↓zq,zs,ag,zt,aO,aY]
 repeat refine⟨by omega,?_⟩
 exact⟨rfl,rfl⟩
end Go.Proofs.Trees
namespace Go.Proofs.Trees
open Go Go.VL Go.RowKit
def nL(t:Ty):Prop:=uf t 0/\∀y,bS y t=true->ry y
theorem j3:∀(t:Ty) {i j:Nat},uf t i->i<=j->uf t j
 | .ca u,i,j,h,hj=>bK h hj
 | .plus a b,i,j,h,hj=>⟨j3 a h.1 hj,j3 b h.2 hj⟩
 | .times a b,i,j,h,hj=>⟨j3 a h.1 hj,j3 b h.2 hj⟩
 | .rc a,i,j,h,hj=>j3 (i:=i+1) (j:=j+1) a h (by omega)
 | .zero,_,_,_,_=>trivial
 | .one,_,_,_,_=>trivial
 | .name _,_,_,_,_=>trivial
theorem l6{x:Nm}{u:Ty}(hu:uf u 0):∀(t:Ty) {i:Nat},uf t i->uf (sub x u t) i
 | .name s,i,_=>by simp only[sub];split;exact j3 u hu (Nat.zero_le _);trivial
 | .plus a b,i,h=>⟨l6 hu a h.1,l6 hu b h.2⟩
 | .times a b,i,h=>⟨l6 hu a h.1,l6 hu b h.2⟩
 | .rc a,i,h=>l6 hu (i:=i+1) a h
 | .zero,_,_=>trivial
 | .one,_,_=>trivial
 | .ca _,_,h=>h
theorem nL.tree{t:Ty}(g:nL t):∃e,Wf e/\dH e []=t:=by
 obtain⟨h1,h2,_⟩:=kM (bA t []) t [] 0 (.nil _ _) g.1 fun y hy=>⟨(fq t [] y).2 (.inr hy),g.2 y hy⟩
 exact⟨_,h1,h2⟩
theorem nL.sub{x:Nm}{u t:Ty}(hu:nL u)(ht:nL t):nL (sub x u t):=⟨l6 hu.1 t ht.1,fun y hy=>by
 rcases iW t hy with h|h
 ·exact hu.2 y h
 ·exact ht.2 y h.2⟩
def Bi(o:Option Ty):AV->List Ob->Prop:=fun r ob=>ob=[]/\∃(c:Nm) (d:AV),LK.sl.has d/\r=.cm [.agg [.v (.string (mk c)),d],.v (.bool o.isSome)]/\∀t,o=some t->∃e,Wf e/\dH e []=t/\c=e.at/\d=e.sp
theorem Bi.ne{o:Option Ty}(h:∀t,o=some t->nL t):∃r ob,Bi o r ob:=by
 cases o with
 |none=>exact⟨_,_,rfl,[],E3,(a8).mpr trivial,rfl,fun t h=>by cases h⟩
 |
  some t =>
  obtain⟨e,h1,h2⟩:=(h t rfl).tree
  exact⟨_,_,rfl,e.at,e.sp,(bb _).mpr trivial,rfl,fun t' h'=>by cases h';exact⟨e,h1,h2,rfl,rfl⟩⟩
theorem Bi.of{e:E}(h:Wf e):Bi (some (dH e [])) (.cm [.agg [.v (.string (mk e.at)),e.sp],.v (.bool true)]) [] :=
 ⟨rfl,e.at,e.sp,(bb _).mpr trivial,rfl,fun t h'=>by cases h';exact⟨e,h,rfl,rfl,rfl⟩⟩
theorem Bi.no(c:Nm)(d:AV)(hd:LK.sl.has d):Bi none (.cm [.agg [.v (.string (mk c)),d],.v (.bool false)]) [] :=
 ⟨rfl,c,d,hd,rfl,fun t h'=>by cases h'⟩
theorem uS{e:E}{os:List E}(h:Wf e):Wf (yN e os)/\dH (yN e os) []=dH e []/\pC (·∉AL e os) (yN e os):=by
 obtain⟨h1,h2,_,_,h5⟩:=kM (AL e os) (dH e []) [] 0 (.nil _ _) (AR h []) fun y hy=>⟨aB _ ((sS h [] [] y).2 (.inr hy)),(ue h [] y hy).1⟩
 exact⟨h1,h2,h5⟩
theorem qZ{os:List E}{o:E}(ho:o∈os)(hw:Wf o){y:Nm}(hy:bS y (dH o [])=true):y∈om os :=
 List.mem_flatMap.2 ⟨o,ho,(sS hw [] [] y).2 (.inr hy)⟩
theorem uR{s:Nm}(hs:ry s):dH (.atom s) []=.name s:=gl hs (by simp)
theorem GX{x:Nm}(hx:ry x){e u:E}(h:Wf e)(hu:Wf u)(hl:e.dI<=400)(hlu:u.dI<=400):∃g,Wf g/\dH g []=sub x (dH u []) (dH e [])/\au Tryz.prog 163 [.agg [.v (.string (mk e.at)),e.sp],.v (.string (mk x)),.agg [.v (.string (mk u.at)),u.sp]] [] (bq (.agg [.v (.string (mk g.at)),g.sp])):=by
 obtain⟨w1,w2,w3⟩:=uS (os:=[u,.atom x]) h
 have hap:pC (fun n=>n≠x/\bS n (dH u [])=false) (yN e [u,.atom x]):=wl (fun n hn=>⟨fun e1=>hn (by
  subst e1
  exact aq _ (qZ (o:=.atom n) (by simp) (.atom hx.1) (by rw[uR hx];simp[bS]))),by
  cases q:bS n (dH u [])with
  |false=>rfl
  |true=>exact absurd (aq _ (qZ (o:=u) (by simp) hu q)) hn⟩) w1 w3
 obtain⟨p1,p2⟩:=xd hx hu w1 hap [] (by simp) (fun y hy=>by cases hy)
 refine⟨_,p1,by rw[p2,w2],?_⟩
 refine FD _ _ _ _ _ ((bb _).mpr trivial) ((bb _).mpr trivial) ?_
 unfold C3
 have s1:=h.sz
 have s2:=hu.sz
 have hA:=En h (.sl [[.v (.string (mk u.at)),u.sp],[.v (.string (mk x)),E3]]) [u,.atom x] ⟨(cu _).mpr trivial,by simp only[fF,E.aV,gj];rfl⟩ (by omega) (fun o ho=>by
  simp only[aG,List.not_mem_nil,or_false]at ho
  rcases ho with rfl|rfl
  ·exact⟨hu,by omega⟩
  ·exact⟨.atom hx.1,by simp[E.sz]⟩) (by simp)
 refine al hA ?_
 simp only[↓zq,zs,ag,zt,aY]
 repeat refine⟨by omega,?_⟩
 refine al (GV x u w1) ?_
 simp only[↓zq,zs,ag,zt,aY]
 repeat refine⟨by omega,?_⟩
 exact⟨rfl,rfl⟩
end Go.Proofs.Trees
namespace Go.Proofs.Trees
open Go Go.VL Go.RowKit
def mF(l:List UInt8):List (List AV):=l.map fun(x:UInt8)=>[.v (.int .u8 (x.toNat:Int))]
structure qe(b:AV)(l:List UInt8):Prop where
 has:LK.sl.has b
 el:b.aX=mF l
 len:l.length<=2000
theorem qe.ln{b:AV}{l:List UInt8}(h:qe b l):b.aX.length=l.length:=by rw[h.el];simp[mF]
theorem qe.get{b:AV}{l:List UInt8}(h:qe b l){i:Nat}(hi:i<l.length):b.aX.getD i []=[.v (.int .u8 ((l[i]).toNat:Int))]:=by rw[h.el];simp[mF,aa,hi]
def dP(b:AV)(p c:Nat)(X:AV->Prop):AV->List Ob->Prop:=fun r o=>∃q:Nat,p<=q/\q<=p+c/\X r/\o=[.cells [b,.v (.int .i64 (q:Int))]]
theorem dP.ne{b:AV}{p c:Nat}{X:AV->Prop}{r:AV}(h:X r):∃r o,dP b p c X r o:=⟨r,_,p,aw _,cI _ _,h,rfl⟩
theorem xx{a b:Int}(ha:0<=a)(hb:0<=b)(ha':a<9223372036854775808)(hb':b<9223372036854775808):∃W:Nat,vL .i64 a b=(W:Int):=by
 obtain⟨x,rfl⟩:∃x:Nat,a=(x:Int):=⟨a.toNat,by omega⟩
 obtain⟨y,rfl⟩:∃y:Nat,b=(y:Int):=⟨b.toNat,by omega⟩
 have e1:(BitVec.ofInt 64 (x:Int)).toNat=x:=by simp;omega
 have e2:(BitVec.ofInt 64 (y:Int)).toNat=y:=by simp;omega
 have hlt:x ^^^ y<2 ^ 63:=Nat.xor_lt_two_pow (by omega) (by omega)
 refine⟨x ^^^ y,?_⟩
 unfold vL
 have e3:(BitVec.ofInt (IntKind.bits .i64) (x:Int) ^^^ BitVec.ofInt (IntKind.bits .i64) (y:Int)).toNat=x ^^^ y:=by
  show (BitVec.ofInt 64 (x:Int) ^^^ BitVec.ofInt 64 (y:Int)).toNat=_
  rw[BitVec.toNat_xor,e1,e2]
 rw[e3,VL.wrap64]<;>omega
theorem tq(a b:Nat):Int.tdiv (a:Int) (b:Int)=((a/b:Nat):Int):=(Int.ofNat_tdiv a b).symm
theorem nn(a b:Nat):cr (a:Int) (b:Int)=((a%b:Nat):Int):=(Int.ofNat_tmod a b).symm
theorem qS(n:Nat)(h:n<9223372036854775808):IntKind.wrap .i64 (n:Int)=(n:Int):=VL.wrap64 _ (by omega) (by omega)
def yX(n:Nat):AV->Prop:=fun r=>∃k:Nat,r=.v (.int .i64 (k:Int))/\(1<=n->k<n)/\k<=n
abbrev mW:Nat:=1000000000000000
theorem rN(b:AV)(l:List UInt8)(hb:qe b l)(p n:Nat)(hp:p<2*mW)(hn:n<mW):au Tryz.prog 32 [.ref 0 0,.v (.int .i64 (n:Int))] [.cells [b,.v (.int .i64 (p:Int))]] (dP b p 1 (yX n)):=by
 refine G1 _ _ _ hb.has ?_
 have e1:IntKind.wrap .i64 ((p:Int)+1)=((p+1:Nat):Int):=by rw[VL.wrap64]<;>simp[mW]at hp<;>omega
 have e2:IntKind.wrap .i64 (((p+1:Nat):Int)-1)=(p:Int):=by rw[VL.wrap64]<;>simp[mW]at hp<;>omega
 have fin:∀k:Nat,(1<=n->k<n)->k<=n->dP b p 1 (yX n) (.v (.int .i64 (k:Int))) [.cells [b,.v (.int .i64 ((p+1:Nat):Int))]]:=fun k h h'=>⟨p+1,by omega,aw _,⟨k,rfl,h,h'⟩,rfl⟩
 simp only[BO,↓zq,zs,ag,e1,e2,hb.ln,tq,nn]
 refine⟨fun h=>fin 0 (fun h'=>by omega) (Nat.zero_le _),fun h=>⟨hb.has,fun h0=>fin 0 (fun h'=>by omega) (Nat.zero_le _),fun h0=>?_⟩⟩
 have hl:0<l.length:=by omega
 have hll:=hb.len
 refine⟨hb.has,fun hlt=>?_,fun hge=>?_⟩
 ·have hlt:p<l.length:=by omega
  have hx:=(l[p]).toNat_lt
  simp only[bi,hb.get hlt,hb.has,↓zq,zs,ag]
  rw[qS _ (by omega),nn]
  have:=fin ((l[p]).toNat%n) (fun h'=>cX _ (by omega)) (Nat.le_of_lt (cX _ (by omega)))
  repeat (first|exact this|refine⟨by omega,?_⟩)
 ·have h1:p%l.length<l.length:=cX _ hl
  have e3:IntKind.wrap .i64 ((p:Int)*7)=((p*7:Nat):Int):=by rw[VL.wrap64]<;>simp[mW]at hp<;>omega
  have e4:IntKind.wrap .i64 (((p*7:Nat):Int)+3)=((p*7+3:Nat):Int):=by rw[VL.wrap64]<;>simp[mW]at hp<;>omega
  have h2:(p*7+3)%l.length<l.length:=cX _ hl
  have hx:=(l[p%l.length]).toNat_lt
  have hy:=(l[(p*7+3)%l.length]).toNat_lt
  have hq:p/l.length<=p:=Nat.div_le_self _ _
  simp only[e3,e4,nn,bi,hb.get h1,hb.get h2,hb.has,↓zq,zs,ag]
  generalize hxx:(l[p%l.length]).toNat=x at hx |-
  generalize hyy:(l[(p*7+3)%l.length]).toNat=y at hy |-
  generalize hqq:p/l.length=q at hq |-
  have f1:IntKind.wrap .i64 ((x:Int))=(x:Int):=qS _ (by omega)
  have f2:IntKind.wrap .i64 ((y:Int))=(y:Int):=qS _ (by omega)
  have f3:IntKind.wrap .i64 ((x:Int)*131)=((x*131:Nat):Int):=by rw[VL.wrap64]<;>omega
  have f4:IntKind.wrap .i64 ((y:Int)*1117)=((y*1117:Nat):Int):=by rw[VL.wrap64]<;>omega
  have f5:IntKind.wrap .i64 (((x*131:Nat):Int)+((y*1117:Nat):Int))=((x*131+y*1117:Nat):Int):=by rw[VL.wrap64]<;>omega
  have f6:IntKind.wrap .i64 ((p:Int)*29)=((p*29:Nat):Int):=by rw[VL.wrap64]<;>simp[mW]at hp<;>omega
  have f7:IntKind.wrap .i64 (((x*131+y*1117:Nat):Int)+((p*29:Nat):Int))=((x*131+y*1117+p*29:Nat):Int):=by rw[VL.wrap64]<;>simp[mW]at hp<;>omega
  have f8:IntKind.wrap .i64 ((q:Int))=(q:Int):=qS _ (by simp[mW]at hp;omega)
  have f9:IntKind.wrap .i64 ((q:Int)*53)=((q*53:Nat):Int):=by rw[VL.wrap64]<;>simp[mW]at hp<;>omega
  have f10:IntKind.wrap .i64 (((x*131+y*1117+p*29:Nat):Int)+((q*53:Nat):Int))=((x*131+y*1117+p*29+q*53:Nat):Int):=by rw[VL.wrap64]<;>simp[mW]at hp<;>omega
  simp only[f1,f2,f3,f4,f5,f6,f7,f8,f9,f10]
  generalize hV:x*131+y*1117+p*29+q*53=V
  have hVl:V<1000000000000000000:=by simp[mW]at hp;omega
  have f11:IntKind.wrap .i64 (Int.tdiv (V:Int) 64)=((V/64:Nat):Int):=by
   have:Int.tdiv (V:Int) 64=((V/64:Nat):Int):=tq V 64
   rw[this,qS _ (by omega)]
  rw[f11]
  obtain⟨W,hW⟩:=xx (a:=(V:Int)) (b:=((V/64:Nat):Int)) (by omega) (by omega) (by omega) (by omega)
  rw[hW,nn]
  have:=fin (W%n) (fun h'=>cX _ (by omega)) (Nat.le_of_lt (cX _ (by omega)))
  repeat (first|exact this|refine⟨by omega,?_⟩)
def gI(L:List (List UInt8)):AV->Prop:=fun r=>∃s,s∈L/\r=.v (.string (mk s))
theorem uu(b:AV)(l:List UInt8)(hb:qe b l)(p:Nat)(hp:p<2*mW)(L:List (List UInt8))(a:AV)(ha:dD a L)(hL:0<L.length)(hLl:L.length<1000000):au Tryz.prog 55 [.ref 0 0,a] [.cells [b,.v (.int .i64 (p:Int))]] (dP b p 1 (gI L)):=by
 refine Fx _ _ _ ha.1 hb.has ?_
 unfold Ch
 simp only[↓zq,zs,ag,ha.len]
 refine⟨ha.1,?_⟩
 have hpk:=rN b l hb p L.length hp (by simp[mW];omega)
 refine aQ hpk (dP.ne ⟨0,rfl,fun h=>h,Nat.zero_le _⟩) ?_
 rintro r o ⟨q,h1,h2,⟨k,rfl,h3,h4⟩,rfl⟩
 have hk:=h3 hL
 simp only[↓zq,zs,ag,zt,aO,hb.has,ha.idx hk,bi]
 refine⟨⟨ha.1,by omega⟩,?_⟩
 have:dP b p 1 (gI L) (.v (.string (mk (L.getD k [])))) [.cells [b,.v (.int .i64 (q:Int))]]:=⟨q,h1,h2,⟨_,by simp[aa,hk],rfl⟩,rfl⟩
 repeat (first|exact this|refine⟨by omega,?_⟩)
def eZ(n:Nat):AV->Prop:=fun r=>∃s:List UInt8,r=.v (.string (mk s))/\s.length<=n
theorem gI.iZ{L:List (List UInt8)}{n:Nat}(h:∀s,s∈L->s.length<=n){r:AV}(hr:gI L r):eZ n r:=by
 obtain⟨s,h1,h2⟩:=hr;exact⟨s,h2,h s h1⟩
end Go.Proofs.Trees
namespace Go.Proofs.Trees
open Go Go.VL Go.RowKit
def gP:AV->List Ob->Prop:=fun r o=>o=[]/\∃b:Bool,r=.v (.bool b)
theorem gP.ne:∃r o,gP r o:=⟨_,_,rfl,true,rfl⟩
theorem gP.mk(b:Bool):gP (.v (.bool b)) []:=⟨rfl,b,rfl⟩
theorem gP.call{n:Nat}{f:Nat}{xs:List AV}{k:AV->List Ob->Tree}{Q:Nat->List AV->List Ob->Prop}(h:au Tryz.prog f xs [] gP)(hk:∀b:Bool,dK Tryz.prog n (k (.v (.bool b)) []) Q):dK Tryz.prog n (.call f xs [] k) Q :=
 aQ h gP.ne (by rintro r o ⟨rfl,b,rfl⟩;exact hk b)
theorem Dr{e:E}(h:Wf e):∀(l:List Nm) (a:AV),dD a l->l.length+e.sz<100000->au Tryz.prog 128 [.agg [.v (.string (mk e.at)),e.sp],a] [] gP:=by
 induction h with
 |
  @atom s hs =>
  intro l a ha hl
  simp only[E.sz]at hl
  refine xC _ _ _ ((bb _).mpr trivial) ha.1 ?_
  simp only[vt,dA,↓zq,zs,ag]
  refine al (xQ s _ ((bb (.atom s)).mpr trivial) hs) ?_
  simp only[↓zq,zs,ag,zt,ha.1]
  refine⟨fun h=>(by cases h),fun _=>⟨fun h=>(by cases h),fun _=>⟨fun h=>(by cases h),fun _=>⟨fun _=>.mk true,fun _=>?_⟩⟩⟩⟩
  refine al (Bl l a ha s (by omega)) ?_
  simp only[↓zq,zs,ag]
  exact .mk _
 |
  @plus x y hx hy i1 i2 =>
  intro l a ha hl
  simp only[E.sz,E.gD]at hl
  refine xC _ _ _ ((bb _).mpr trivial) ha.1 ?_
  have hP:=P3.of (.atom [43]) x y
  simp only[vt,cA,toNat_one,be,↓zq,zs,ag,zt,hP.1,hP.2.1,hP.2.2.1,hP.2.2.2,aY]
  refine al (oi [43] x y) ?_
  simp only[↓zq,zs,ag,zt,ha.1,aY]
  refine⟨fun _=>⟨by omega,by omega,gP.call (i1 l a ha (by omega)) fun b=>?_⟩,fun h=>absurd rfl h⟩
  simp only[↓zq,zs,ag]
  refine⟨fun _=>⟨by omega,by omega,gP.call (i2 l a ha (by omega)) fun b=>?_⟩,fun _=>.mk _⟩
  simp only[↓zq,zs,ag]
  exact .mk _
 |
  @times x y hx hy i1 i2 =>
  intro l a ha hl
  simp only[E.sz,E.gD]at hl
  refine xC _ _ _ ((bb _).mpr trivial) ha.1 ?_
  have hP:=P3.of (.atom [42]) x y
  simp only[vt,cA,toNat_one,be,↓zq,zs,ag,zt,hP.1,hP.2.1,hP.2.2.1,hP.2.2.2,aY]
  refine al (oi [42] x y) ?_
  simp only[↓zq,zs,ag,zt,ha.1,aY]
  refine⟨fun h=>(by cases h),fun _=>⟨fun _=>⟨by omega,by omega,gP.call (i1 l a ha (by omega)) fun b=>?_⟩,fun h=>absurd rfl h⟩⟩
  simp only[↓zq,zs,ag]
  refine⟨fun _=>.mk _,fun _=>⟨by omega,by omega,gP.call (i2 l a ha (by omega)) fun b=>?_⟩⟩
  simp only[↓zq,zs,ag]
  exact .mk _
 |
  @rc n b hn hb i =>
  intro l a ha hl
  simp only[E.sz,E.gD]at hl
  refine xC _ _ _ ((bb _).mpr trivial) ha.1 ?_
  have hP:=P3.of (.atom fK) (.atom n) b
  simp only[vt,cA,toNat_one,be,↓zq,zs,ag,zt,hP.1,hP.2.1,hP.2.2.1,hP.2.2.2,aY]
  refine al (oi fK (.atom n) b) ?_
  simp only[↓zq,zs,ag,zt,ha.1,aY]
  refine⟨fun h=>(by cases h),fun _=>⟨fun h=>(by cases h),fun _=>⟨fun _=>⟨by omega,by omega,by omega,by omega,?_⟩,fun h=>absurd rfl h⟩⟩⟩
  refine al (tG l a ha n (by omega)) ?_
  simp only[↓zq,zs,ag,zt]
  refine gP.call (i (l++[n]) _ (.of _) (by simp;omega)) fun b=>?_
  simp only[↓zq,zs,ag]
  exact .mk _
def F1:AV->List Ob->Prop:=fun r o=>o=[]/\∃(g:E) (b:Bool),r=.cm [.agg [.v (.string (mk g.at)),g.sp],.v (.bool b)]/\Wf g/\g.dI<=400
theorem Fh{n:Nm}{b:E}(hn:ry n)(hb:Wf b)(hl:(E.list [.atom fK,.atom n,b]).dI<=400):au Tryz.prog 130 [.agg [.v (.string (mk [])),(E.list [.atom fK,.atom n,b]).sp]] [] F1:=by
 have hw:Wf (.list [.atom fK,.atom n,b]):=.rc hn hb
 refine FE _ _ ((bb _).mpr trivial) ?_
 have hP:=P3.of (.atom fK) (.atom n) b
 have hbl:b.dI<=400:=by simp only[E.dI,E.eE]at hl;omega
 simp only[DI,toNat_one,be,↓zq,zs,ag,zt,hP.1,hP.2.1,hP.2.2.1,hP.2.2.2,aY]
 refine⟨by omega,by omega,by omega,by omega,?_⟩
 have hf:=Fi hn hb hw (by omega) (by omega)
 obtain⟨g,g1,g2,g3⟩:=GX hn hb hw hbl hl
 simp only[cA]at hf g3
 refine al hf ?_
 simp only[↓zq,zs,ag,zt,aY]
 refine⟨fun h=>⟨rfl,_,false,rfl,hw,hl⟩,fun h=>?_⟩
 repeat refine⟨by omega,?_⟩
 refine al g3 ?_
 simp only[↓zq,zs,ag,zt,aY]
 refine⟨rfl,g,true,rfl,g1,?_⟩
 rw[g1.dI [],g2]
 simpa using h
end Go.Proofs.Trees
namespace Go.Proofs.Trees
open Go Go.VL Go.RowKit
def gV(n:Nat):AV->Prop:=fun r=>∃e:E,r=.agg [.v (.string (mk e.at)),e.sp]/\e.ok/\(ia e).length<=n
theorem gV.u(n:Nat)(h:1<=n):gV n (.agg [.v (.string (mk [117])),.v (.slice none 0 0)]):=⟨.atom [117],rfl,by simp[E.ok],by simpa[ia]using h⟩
def gR(b:AV)(d:Int)(e:E)(B C:Nat):Prop:=∀p:Nat,p+C<mW->au Tryz.prog 77 [.ref 0 0,.agg [.v (.string (mk e.at)),e.sp],.v (.int .i64 d)] [.cells [b,.v (.int .i64 (p:Int))]] (dP b p C (gV B))
theorem gR.mono{b:AV}{d:Int}{e:E}{B C B' C':Nat}(h:gR b d e B C)(hB:B<=B')(hC:C<=C'):gR b d e B' C':=fun p hp=>au.mono (h p (by omega)) fun r o ⟨q,h1,h2,⟨g,h3,h4,h5⟩,h6⟩=>⟨q,h1,by omega,⟨g,h3,h4,by omega⟩,h6⟩
theorem lW(b:AV)(p C B:Nat)(h:1<=B):∃r o,dP b p C (gV B) r o:=dP.ne (gV.u B h)
theorem Hs(w:Nm)(e:E)(h:w.length=1):(ia (.list [.atom w,e])).length=(ia e).length+4:=by
 simp[ia,eI];omega
theorem Ht(w:Nm)(e f:E)(h:w.length=1):(ia (.list [.atom w,e,f])).length=(ia e).length+(ia f).length+5:=by
 simp[ia,eI];omega
theorem BA{b:AV}{p q q' C B:Nat}{w:Nm}{e:E}(hw:w.length=1)(h1:p<=q)(h2:q<=p+1)(h3:q<=q')(h4:q'<=q+C)(ho:e.ok)(hl:(ia e).length<=B) :
 dP b p (C+1) (gV (B+5)) (.agg [.v (.string (mk [])),(E.list [.atom w,e]).sp]) [.cells [b,.v (.int .i64 (q':Int))]] :=
 ⟨q',by omega,by omega,⟨.list [.atom w,e],rfl,⟨by intro h;rw[h]at hw;simp at hw,ho,trivial⟩,by rw[Hs w e hw];omega⟩,rfl⟩
theorem DJ(b:AV)(l:List UInt8)(hb:qe b l)(d:Int){s:Nm}(hs:s≠[]):gR b d (.atom s) 5 1:=by
 intro p hp
 refine xL _ _ _ _ _ ((bb (.atom s)).mpr trivial) hb.has ?_
 simp only[wM,dA,↓zq,zs,ag]
 refine al (xQ s _ ((bb (.atom s)).mpr trivial) hs) ?_
 simp only[↓zq,zs,ag,zt]
 refine⟨fun h=>(by cases h),fun _=>⟨fun h=>(by cases h),fun _=>⟨fun h=>(by cases h),fun _=>⟨fun _=>?_,fun _=>?_⟩⟩⟩⟩
 ·exact⟨p,aw _,by omega,gV.u 5 (by omega),rfl⟩
 ·refine aQ (rN b l hb p 3 (by omega) (by decide)) (dP.ne ⟨0,rfl,fun h=>by omega,by omega⟩) ?_
  rintro r o ⟨q,h1,h2,⟨k,rfl,h3,h4⟩,rfl⟩
  have hk:k<3:=h3 (by omega)
  simp only[↓zq,zs,ag,aO,hb.has]
  refine al (yd (k+1) k (by omega) (by omega)) ?_
  have hd:dd k=[aW (48+k)]:=eS (by omega)
  simp only[↓zq,zs,ag,zt,hd]
  refine⟨by simp,q,h1,h2,⟨.atom ([101]++[aW (48+k)]),rfl,by simp[E.ok],by simp[ia]⟩,rfl⟩
theorem Dd(b:AV)(l:List UInt8)(hb:qe b l)(d:Int)(hd:-100000<=d/\d<=100000){n:Nm}{e:E}(hn:ry n)(he:Wf e)(hl:(E.list [.atom fK,.atom n,e]).dI<=400)(B C:Nat)(ih:-12<=d->∀g,Wf g->g.dI<=400->gR b (d-1) g B C)(hB:1<=B):gR b d (.list [.atom fK,.atom n,e]) (B+5) (C+1):=by
 intro p hp
 refine xL _ _ _ _ _ ((bb _).mpr trivial) hb.has ?_
 have ed:IntKind.wrap .i64 (d-1)=d-1:=VL.wrap64 _ (by omega) (by omega)
 simp only[wM,cA,↓zq,zs,ag,ed]
 refine al (oi fK (.atom n) e) ?_
 simp only[↓zq,zs,ag,zt]
 have hu:=Fh hn he hl
 refine⟨fun h=>(by cases h),fun _=>⟨fun h=>(by cases h),fun _=>⟨fun _=>?_,fun h=>absurd rfl h⟩⟩⟩
 refine aQ hu ⟨_,_,rfl,.atom [117],true,rfl,.atom (by simp),by simp[E.dI]⟩ ?_
 rintro r o ⟨rfl,g,c,rfl,g1,g2⟩
 have u:dP b p (C+1) (gV (B+5)) (.agg [.v (.string (mk [117])),.v (.slice none 0 0)]) [.cells [b,.v (.int .i64 (p:Int))]]:=⟨p,aw _,by omega,gV.u _ (by omega),rfl⟩
 simp only[↓zq,zs,ag,zt,aY]
 refine⟨fun _=>u,fun _=>⟨fun _=>u,fun hd2=>?_⟩⟩
 refine aQ (ih (by omega) g g1 g2 p (by omega)) (lW b p C B hB) ?_
 rintro r o ⟨q,h1,h2,⟨f,rfl,h4,h5⟩,rfl⟩
 simp only[↓zq,zs,ag,zt,aO,hb.has,aY]
 repeat refine⟨by omega,?_⟩
 refine al (FY [102] f) ?_
 simp only[↓zq,zs,ag,zt,aO,hb.has,aY]
 have fin:=BA (b:=b) (w:=[102]) rfl (aw p) (by omega) h1 h2 h4 h5
 first|exact fin|exact⟨by omega,fin⟩
theorem C5(b:AV)(l:List UInt8)(hb:qe b l)(d:Int)(hd:-100000<=d/\d<=100000){x y:E}(hx:Wf x)(hy:Wf y)(B1 C1 B2 C2:Nat)(ix:gR b (d-1) x B1 C1)(iy:gR b (d-1) y B2 C2)(hB:1<=B1)(hB2:1<=B2):gR b d (.list [.atom [42],x,y]) (B1+B2+5) (C1+C2+1):=by
 intro p hp
 refine xL _ _ _ _ _ ((bb _).mpr trivial) hb.has ?_
 have ed:IntKind.wrap .i64 (d-1)=d-1:=VL.wrap64 _ (by omega) (by omega)
 have hP:=P3.of (.atom [42]) x y
 simp only[wM,cA,toNat_one,be,↓zq,zs,ag,zt,hP.1,hP.2.1,hP.2.2.1,hP.2.2.2,aY,ed]
 refine al (oi [42] x y) ?_
 simp only[↓zq,zs,ag,zt]
 refine⟨fun h=>(by cases h),fun _=>⟨fun _=>?_,fun h=>absurd rfl h⟩⟩
 refine⟨by omega,by omega,aQ (ix p (by omega)) (lW b p C1 B1 hB) ?_⟩
 rintro r o ⟨q,h1,h2,⟨f,rfl,h4,h5⟩,rfl⟩
 simp only[↓zq,zs,ag,zt,aO,hb.has,aY]
 repeat refine⟨by omega,?_⟩
 refine aQ (iy q (by omega)) (lW b q C2 B2 hB2) ?_
 rintro r o ⟨q',g1,g2,⟨g,rfl,g4,g5⟩,rfl⟩
 simp only[↓zq,zs,ag,zt,aO,hb.has,aY]
 repeat refine⟨by omega,?_⟩
 refine al (zh [112] f g) ?_
 simp only[↓zq,zs,ag,zt,aO,hb.has,aY]
 have fin:dP b p (C1+C2+1) (gV (B1+B2+5)) (.agg [.v (.string (mk [])),(E.list [.atom [112],f,g]).sp]) [.cells [b,.v (.int .i64 (q':Int))]]:=⟨q',by omega,by omega,⟨.list [.atom [112],f,g],rfl,⟨by simp[E.ok],h4,g4,trivial⟩,by rw[Ht [112] f g rfl];omega⟩,rfl⟩
 first|exact fin|exact⟨by omega,fin⟩
theorem BK(b:AV)(l:List UInt8)(hb:qe b l)(d:Int)(hd:-100000<=d/\d<=100000){x y:E}(hx:Wf x)(hy:Wf y)(hl:(E.list [.atom [43],x,y]).dI<=400)(B C:Nat)(ix:gR b (d-1) x B C)(iy:gR b (d-1) y B C)(hB:1<=B):gR b d (.list [.atom [43],x,y]) (B+5) (C+1):=by
 intro p hp
 refine xL _ _ _ _ _ ((bb _).mpr trivial) hb.has ?_
 have ed:IntKind.wrap .i64 (d-1)=d-1:=VL.wrap64 _ (by omega) (by omega)
 have hP:=P3.of (.atom [43]) x y
 simp only[E.dI,E.eE]at hl
 have s1:=hx.sz
 have s2:=hy.sz
 simp only[wM,cA,toNat_one,be,↓zq,zs,ag,zt,hP.1,hP.2.1,hP.2.2.1,hP.2.2.2,aY,ed]
 refine al (oi [43] x y) ?_
 simp only[↓zq,zs,ag,zt]
 refine⟨fun _=>?_,fun h=>absurd rfl h⟩
 refine aQ (rN b l hb p 2 (by omega) (by decide)) (dP.ne ⟨0,rfl,fun h=>by omega,by omega⟩) ?_
 rintro r o ⟨q,h1,h2,⟨k,rfl,_,_⟩,rfl⟩
 simp only[↓zq,zs,ag,zt,aO,hb.has,aY]
 have ex:=Dr hx [] (.sl []) (.of []) (by simp;omega)
 have ey:=Dr hy [] (.sl []) (.of []) (by simp;omega)
 have ax:=vN x hx.ok (by omega)
 have ay:=vN y hy.ok (by omega)
 rw[cN]at ax ay
 have lx:=ix q (by omega)
 have ly:=iy q (by omega)
 have t:=lW b q C B hB
 have leaf:∀(w:Nm) (q':Nat) (f:E),w.length=1->q<=q'->q'<=q+C->f.ok->(ia f).length<=B->dP b p (C+1) (gV (B+5)) (.agg [.v (.string (mk [])),(E.list [.atom w,f]).sp]) [.cells [b,.v (.int .i64 (q':Int))]]:=fun w q' f hw g1 g2 h4 h5=>BA hw h1 h2 g1 g2 h4 h5
 repeat' first
  |intro _
  |refine⟨by omega,?_⟩
  |(
   with_reducible refine aQ lx t ?_
   rintro r o ⟨q',g1,g2,⟨f,rfl,h4,h5⟩,rfl⟩
   simp only[↓zq,zs,ag,zt,aO,hb.has,aY]
   repeat refine⟨by omega,?_⟩
   refine al (FY _ f) ?_
   simp only[↓zq,zs,ag,zt,aO,hb.has,aY]
   have fin:=leaf [108] q' f rfl g1 g2 h4 h5
   first|exact fin|exact⟨by omega,fin⟩)
  |(
   with_reducible refine aQ ly t ?_
   rintro r o ⟨q',g1,g2,⟨f,rfl,h4,h5⟩,rfl⟩
   simp only[↓zq,zs,ag,zt,aO,hb.has,aY]
   repeat refine⟨by omega,?_⟩
   refine al (FY _ f) ?_
   simp only[↓zq,zs,ag,zt,aO,hb.has,aY]
   have fin:=leaf [114] q' f rfl g1 g2 h4 h5
   first|exact fin|exact⟨by omega,fin⟩)
  |(with_reducible refine gP.call ex fun _=>?_;simp only[↓zq,zs,ag,zt,aY])
  |(with_reducible refine gP.call ey fun _=>?_;simp only[↓zq,zs,ag,zt,aY])
  |(with_reducible refine al ax ?_;simp only[↓zq,zs,ag,zt,aY])
  |(with_reducible refine al ay ?_;simp only[↓zq,zs,ag,zt,aY])
  |with_reducible refine aC ?_ ?_
  |(exfalso;omega)
end Go.Proofs.Trees
namespace Go.Proofs.Trees
open Go Go.VL Go.RowKit
def kT:Nat->Nat
 |0=>2
 |d+1=>2*kT d+15
def lY:Nat->Nat
 |0=>3
 |d+1=>2*lY d+8
theorem Ga(d:Nat):2<=kT d:=by cases d<;>simp only[kT]<;>omega
theorem Gl(d:Nat):3<=lY d:=by cases d<;>simp only[lY]<;>omega
theorem zv:∀d:Nat,d<=10->kT d<=100000000
 |0,_=>by decide
 |1,_=>by decide
 |2,_=>by decide
 |3,_=>by decide
 |4,_=>by decide
 |5,_=>by decide
 |6,_=>by decide
 |7,_=>by decide
 |8,_=>by decide
 |9,_=>by decide
 |10,_=>by decide
 |d+11,h=>by omega
theorem A7(b:AV)(l:List UInt8)(hb:qe b l)(p:Nat)(hp:p<2*mW):au Tryz.prog 119 [.ref 0 0] [.cells [b,.v (.int .i64 (p:Int))]] (dP b p 1 (eZ 60)):=by
 refine FN _ _ hb.has ?_
 unfold B5
 refine aQ (uu b l hb p hp _ _ (.of [_,_,_,_,_,_,_]) (by simp) (by simp)) (dP.ne ⟨_,af,rfl⟩) ?_
 rintro r o ⟨q,h1,h2,hr,rfl⟩
 obtain⟨s,rfl,hs⟩:=gI.iZ (n:=60) (by decide) hr
 simp only[↓zq,zs,ag,aO,hb.has]
 exact⟨q,h1,h2,⟨s,rfl,hs⟩,rfl⟩
theorem DK(b:AV)(l:List UInt8)(hb:qe b l):∀(d:Nat),d<=10->∀(p:Nat) (ls:List (List UInt8)) (a:AV),dD a ls->(∀s,s∈ls->s.length<=2)->ls.length+d<=100->p+lY d<2*mW ->
 au Tryz.prog 127 [.ref 0 0,a,.v (.int .i64 (d:Int))] [.cells [b,.v (.int .i64 (p:Int))]] (dP b p (lY d) (eZ (kT d))):=by
 intro d
 induction d with
 |
  zero =>
  intro hd p ls a ha hls hll hp
  simp only[lY]at hp
  refine CH _ _ _ _ ha.1 hb.has ?_
  simp only[zV,↓zq,zs,ag,ha.len]
  refine⟨fun _=>⟨ha.1,fun hpos=>?_,fun _=>?_⟩,fun h=>by omega⟩
  ·refine aQ (rN b l hb p 3 (by omega) (by decide)) (dP.ne ⟨0,rfl,fun h=>by omega,by omega⟩) ?_
   rintro r o ⟨q1,h1,h2,⟨k,rfl,h3,h4⟩,rfl⟩
   simp only[↓zq,zs,ag,aO,hb.has]
   refine⟨fun _=>⟨ha.1,?_⟩,fun _=>?_⟩
   ·refine aQ (rN b l hb q1 ls.length (by omega) (by simp[mW];omega)) (dP.ne ⟨0,rfl,fun h=>by omega,by omega⟩) ?_
    rintro r o ⟨q2,g1,g2,⟨k2,rfl,g3,g4⟩,rfl⟩
    have hk:=g3 (by omega)
    simp only[↓zq,zs,ag,aO,hb.has,bi,ha.idx hk]
    have:dP b p (lY 0) (eZ (kT 0)) (.v (.string (mk (ls.getD k2 [])))) [.cells [b,.v (.int .i64 (q2:Int))]]:=⟨q2,by omega,by simp only[lY];omega,⟨_,rfl,by
     have:=hls (ls.getD k2 []) (by simp[aa,hk]);simp only[kT];omega⟩,rfl⟩
    refine⟨⟨ha.1,by omega⟩,?_⟩
    repeat (first|exact this|refine⟨by omega,?_⟩)
   ·refine aQ (uu b l hb q1 (by omega) _ _ (.of [_,_,_,_,_,_]) (by simp) (by simp)) (dP.ne ⟨_,af,rfl⟩) ?_
    rintro r o ⟨q2,g1,g2,hr,rfl⟩
    obtain⟨s,rfl,hs⟩:=gI.iZ (n:=2) (by decide) hr
    simp only[↓zq,zs,ag,aO,hb.has]
    exact⟨q2,by omega,by simp only[lY];omega,⟨s,rfl,by simp only[kT];omega⟩,rfl⟩
  ·refine aQ (uu b l hb p (by omega) _ _ (.of [_,_,_,_,_,_]) (by simp) (by simp)) (dP.ne ⟨_,af,rfl⟩) ?_
   rintro r o ⟨q2,g1,g2,hr,rfl⟩
   obtain⟨s,rfl,hs⟩:=gI.iZ (n:=2) (by decide) hr
   simp only[↓zq,zs,ag,aO,hb.has]
   exact⟨q2,by omega,by simp only[lY];omega,⟨s,rfl,by simp only[kT];omega⟩,rfl⟩
 |
  succ d ih =>
  intro hd p ls a ha hls hll hp
  simp only[lY]at hp
  have hL:=Ga d
  have hC:=Gl d
  have ih:=ih (by omega)
  have hL8:=zv d (by omega)
  have ed:IntKind.wrap .i64 (((d+1:Nat):Int)-1)=(d:Int):=by rw[VL.wrap64]<;>omega
  refine CH _ _ _ _ ha.1 hb.has ?_
  simp only[zV,↓zq,zs,ag,ha.len,ed]
  refine⟨fun h=>by omega,fun _=>?_⟩
  refine aQ (rN b l hb p 4 (by omega) (by decide)) (dP.ne ⟨0,rfl,fun h=>by omega,by omega⟩) ?_
  rintro r o ⟨q0,a1,a2,⟨k0,rfl,_,_⟩,rfl⟩
  simp only[↓zq,zs,ag,aO,hb.has]
  refine⟨fun _=>⟨ha.1,fun hpos=>?_,fun _=>?_⟩,fun _=>?_⟩
  ·refine aQ (rN b l hb q0 3 (by omega) (by decide)) (dP.ne ⟨0,rfl,fun h=>by omega,by omega⟩) ?_
   rintro r o ⟨q1,h1,h2,⟨k,rfl,h3,h4⟩,rfl⟩
   simp only[↓zq,zs,ag,aO,hb.has]
   refine⟨fun _=>⟨ha.1,?_⟩,fun _=>?_⟩
   ·refine aQ (rN b l hb q1 ls.length (by omega) (by simp[mW];omega)) (dP.ne ⟨0,rfl,fun h=>by omega,by omega⟩) ?_
    rintro r o ⟨q2,g1,g2,⟨k2,rfl,g3,g4⟩,rfl⟩
    have hk:=g3 (by omega)
    simp only[↓zq,zs,ag,aO,hb.has,bi,ha.idx hk]
    have:dP b p (lY (d+1)) (eZ (kT (d+1))) (.v (.string (mk (ls.getD k2 [])))) [.cells [b,.v (.int .i64 (q2:Int))]]:=⟨q2,by omega,by simp only[lY];omega,⟨_,rfl,by
     have:=hls (ls.getD k2 []) (by simp[aa,hk]);simp only[kT];omega⟩,rfl⟩
    refine⟨⟨ha.1,by omega⟩,?_⟩
    repeat (first|exact this|refine⟨by omega,?_⟩)
   ·refine aQ (uu b l hb q1 (by omega) _ _ (.of [_,_,_,_,_,_]) (by simp) (by simp)) (dP.ne ⟨_,af,rfl⟩) ?_
    rintro r o ⟨q2,g1,g2,hr,rfl⟩
    obtain⟨s,rfl,hs⟩:=gI.iZ (n:=2) (by decide) hr
    simp only[↓zq,zs,ag,aO,hb.has]
    exact⟨q2,by omega,by simp only[lY];omega,⟨s,rfl,by simp only[kT];omega⟩,rfl⟩
  ·refine aQ (uu b l hb q0 (by omega) _ _ (.of [_,_,_,_,_,_]) (by simp) (by simp)) (dP.ne ⟨_,af,rfl⟩) ?_
   rintro r o ⟨q2,g1,g2,hr,rfl⟩
   obtain⟨s,rfl,hs⟩:=gI.iZ (n:=2) (by decide) hr
   simp only[↓zq,zs,ag,aO,hb.has]
   exact⟨q2,by omega,by simp only[lY];omega,⟨s,rfl,by simp only[kT];omega⟩,rfl⟩
  ·refine aQ (rN b l hb q0 5 (by omega) (by decide)) (dP.ne ⟨0,rfl,fun h=>by omega,by omega⟩) ?_
   rintro r o ⟨q1,b1,b2,⟨k1,rfl,c3,_⟩,rfl⟩
   have hk1:=c3 (by omega)
   obtain rfl|rfl|rfl|rfl|rfl:k1=0\/k1=1\/k1=2\/k1=3\/k1=4:=by omega
   ·simp only[↓zq,zs,ag,aO,hb.has]
    refine⟨fun _=>?_,fun h=>absurd rfl h⟩
    refine aQ (ih q1 ls a ha hls (by omega) (by omega)) (dP.ne ⟨[],rfl,by simp⟩) ?_
    rintro r o ⟨q2,d1,d2,⟨s1,rfl,d3⟩,rfl⟩
    simp only[↓zq,zs,ag,zt,aO,hb.has,ap]
    repeat refine⟨by first|omega|(simp only[ap,az,aF];omega),?_⟩
    refine aQ (ih q2 ls a ha hls (by omega) (by omega)) (dP.ne ⟨[],rfl,by simp⟩) ?_
    rintro r o ⟨q3,e1,e2,⟨s2,rfl,e3⟩,rfl⟩
    simp only[↓zq,zs,ag,zt,aO,hb.has,ap]
    have fin:∀s:List UInt8,s.length<=kT (d+1)->dP b p (lY (d+1)) (eZ (kT (d+1))) (.v (.string (mk s))) [.cells [b,.v (.int .i64 (q3:Int))]]:=fun s hs=>⟨q3,by omega,by simp only[lY];omega,⟨s,rfl,hs⟩,rfl⟩
    repeat (first|exact fin _ (by simp only[ap,az,aF,kT];omega)|refine⟨by first|omega|(simp only[ap,az,aF];omega),?_⟩)
   ·simp only[↓zq,zs,ag,aO,hb.has]
    refine⟨fun h=>by omega,fun _=>⟨fun _=>?_,fun h=>absurd rfl h⟩⟩
    refine aQ (ih q1 ls a ha hls (by omega) (by omega)) (dP.ne ⟨[],rfl,by simp⟩) ?_
    rintro r o ⟨q2,d1,d2,⟨s1,rfl,d3⟩,rfl⟩
    simp only[↓zq,zs,ag,zt,aO,hb.has,ap]
    repeat refine⟨by first|omega|(simp only[ap,az,aF];omega),?_⟩
    refine aQ (ih q2 ls a ha hls (by omega) (by omega)) (dP.ne ⟨[],rfl,by simp⟩) ?_
    rintro r o ⟨q3,e1,e2,⟨s2,rfl,e3⟩,rfl⟩
    simp only[↓zq,zs,ag,zt,aO,hb.has,ap]
    have fin:∀s:List UInt8,s.length<=kT (d+1)->dP b p (lY (d+1)) (eZ (kT (d+1))) (.v (.string (mk s))) [.cells [b,.v (.int .i64 (q3:Int))]]:=fun s hs=>⟨q3,by omega,by simp only[lY];omega,⟨s,rfl,hs⟩,rfl⟩
    repeat (first|exact fin _ (by simp only[ap,az,aF,kT];omega)|refine⟨by first|omega|(simp only[ap,az,aF];omega),?_⟩)
   ·simp only[↓zq,zs,ag,aO,hb.has]
    refine⟨fun h=>by omega,fun _=>⟨fun h=>by omega,fun _=>⟨fun _=>?_,fun h=>absurd rfl h⟩⟩⟩
    refine aQ (ih q1 ls a ha hls (by omega) (by omega)) (dP.ne ⟨[],rfl,by simp⟩) ?_
    rintro r o ⟨q2,d1,d2,⟨s1,rfl,d3⟩,rfl⟩
    simp only[↓zq,zs,ag,zt,aO,hb.has,ap]
    repeat refine⟨by first|omega|(simp only[ap,az,aF];omega),?_⟩
    refine aQ (ih q2 ls a ha hls (by omega) (by omega)) (dP.ne ⟨[],rfl,by simp⟩) ?_
    rintro r o ⟨q3,e1,e2,⟨s2,rfl,e3⟩,rfl⟩
    simp only[↓zq,zs,ag,zt,aO,hb.has,ap]
    have fin:∀s:List UInt8,s.length<=kT (d+1)->dP b p (lY (d+1)) (eZ (kT (d+1))) (.v (.string (mk s))) [.cells [b,.v (.int .i64 (q3:Int))]]:=fun s hs=>⟨q3,by omega,by simp only[lY];omega,⟨s,rfl,hs⟩,rfl⟩
    repeat (first|exact fin _ (by simp only[ap,az,aF,kT];omega)|refine⟨by first|omega|(simp only[ap,az,aF];omega),?_⟩)
   ·simp only[↓zq,zs,ag,aO,hb.has]
    refine⟨fun h=>by omega,fun _=>⟨fun h=>by omega,fun _=>⟨fun h=>by omega,fun _=>⟨fun _=>?_,fun h=>absurd rfl h⟩⟩⟩⟩
    refine aQ (ih q1 ls a ha hls (by omega) (by omega)) (dP.ne ⟨[],rfl,by simp⟩) ?_
    rintro r o ⟨q2,d1,d2,⟨s1,rfl,d3⟩,rfl⟩
    simp only[↓zq,zs,ag,zt,aO,hb.has,ap]
    repeat refine⟨by first|omega|(simp only[ap,az,aF];omega),?_⟩
    refine aQ (ih q2 ls a ha hls (by omega) (by omega)) (dP.ne ⟨[],rfl,by simp⟩) ?_
    rintro r o ⟨q3,e1,e2,⟨s2,rfl,e3⟩,rfl⟩
    simp only[↓zq,zs,ag,zt,aO,hb.has,ap]
    have fin:∀s:List UInt8,s.length<=kT (d+1)->dP b p (lY (d+1)) (eZ (kT (d+1))) (.v (.string (mk s))) [.cells [b,.v (.int .i64 (q3:Int))]]:=fun s hs=>⟨q3,by omega,by simp only[lY];omega,⟨s,rfl,hs⟩,rfl⟩
    repeat (first|exact fin _ (by simp only[ap,az,aF,kT];omega)|refine⟨by first|omega|(simp only[ap,az,aF];omega),?_⟩)
   ·simp only[↓zq,zs,ag,aO,hb.has]
    refine⟨fun h=>by omega,fun _=>⟨fun h=>by omega,fun _=>⟨fun h=>by omega,fun _=>⟨fun h=>by omega,fun _=>?_⟩⟩⟩⟩
    refine aQ (uu b l hb q1 (by omega) _ _ (.of [_,_,_]) (by simp) (by simp)) (dP.ne ⟨_,af,rfl⟩) ?_
    rintro r o ⟨q2,g1,g2,hr,rfl⟩
    obtain⟨s,rfl,hs⟩:=gI.iZ (n:=2) (by decide) hr
    simp only[↓zq,zs,ag,zt,aO,hb.has]
    repeat refine⟨by first|omega|(simp only[ap,az,aF];omega),?_⟩
    refine al (tG ls a ha s (by omega)) ?_
    simp only[↓zq,zs,ag]
    refine aQ (ih q2 (ls++[s]) _ (.of _) (fun w hw=>by
     rcases aM.1 hw with hw|hw
     ·exact hls w hw
     ·simp at hw;rw[hw];exact hs) (by simp;omega) (by omega)) (dP.ne ⟨[],rfl,by simp⟩) ?_
    rintro r o ⟨q3,e1,e2,⟨s2,rfl,e3⟩,rfl⟩
    simp only[↓zq,zs,ag,zt,aO,hb.has,ap]
    have fin:∀s:List UInt8,s.length<=kT (d+1)->dP b p (lY (d+1)) (eZ (kT (d+1))) (.v (.string (mk s))) [.cells [b,.v (.int .i64 (q3:Int))]]:=fun s hs=>⟨q3,by omega,by simp only[lY];omega,⟨s,rfl,hs⟩,rfl⟩
    repeat (first|exact fin _ (by simp only[ap,az,aF,kT];omega)|refine⟨by first|omega|(simp only[ap,az,aF];omega),?_⟩)
end Go.Proofs.Trees
namespace Go.Proofs.Trees
open Go Go.VL Go.RowKit
theorem dP.mono{b:AV}{p c c':Nat}{X Y:AV->Prop}(hc:c<=c')(h:∀r,X r->Y r){r:AV}{o:List Ob}(hr:dP b p c X r o):dP b p c' Y r o:=by
 obtain⟨q,h1,h2,h3,h4⟩:=hr;exact⟨q,h1,by omega,h r h3,h4⟩
theorem eZ.le{n m:Nat}(h:n<=m){r:AV}(hr:eZ n r):eZ m r:=by obtain⟨s,h1,h2⟩:=hr;exact⟨s,h1,by omega⟩
theorem FH(b:AV)(l:List UInt8)(hb:qe b l)(p:Nat)(hp:p<mW):au Tryz.prog 76 [.ref 0 0] [.cells [b,.v (.int .i64 (p:Int))]] (dP b p 100 (eZ 200)):=by
 refine G3 _ _ hb.has ?_
 unfold CX
 have hfar:mW=1000000000000000:=rfl
 refine aQ (rN b l hb p 12 (by omega) (by decide)) (dP.ne ⟨0,rfl,fun h=>by omega,by omega⟩) ?_
 rintro r o ⟨q,h1,h2,⟨k,rfl,_,_⟩,rfl⟩
 have kn:∀(c m:Nat) (r:AV) (o:List Ob),c<=90->m<=200->dP b q c (eZ m) r o->∃q':Nat,∃s:List UInt8,r=.v (.string (mk s))/\o=[.cells [b,.v (.int .i64 (q':Int))]]/\dP b p 100 (eZ 200) (.v (.string (mk s))) [.cells [b,.v (.int .i64 (q':Int))]]:=by
  rintro c m r o hc hm ⟨q',g1,g2,⟨s,rfl,hs⟩,rfl⟩
  exact⟨q',s,rfl,rfl,q',by omega,by omega,⟨s,rfl,by omega⟩,rfl⟩
 simp only[↓zq,zs,ag,aO,hb.has]
 refine⟨fun _=>?_,fun _=>⟨fun _=>?_,fun _=>⟨fun _=>?_,fun _=>⟨fun _=>?_,fun _=>⟨fun _=>?_,fun _=>?_⟩⟩⟩⟩⟩
 ·refine aQ (uu b l hb q (by omega) _ _ (.of [_,_,_,_,_,_,_,_,_]) (by simp) (by simp)) (dP.ne ⟨_,af,rfl⟩) ?_
  intro r o hr
  obtain⟨q',s,rfl,rfl,hd⟩:=kn 1 20 r o (by omega) (by omega) (hr.mono (aw _) fun r h=>gI.iZ (n:=20) (by decide) h)
  simp only[↓zq,zs,ag,aO,hb.has];exact hd
 ·refine aQ (A7 b l hb q (by omega)) (dP.ne ⟨[],rfl,by simp⟩) ?_
  intro r o hr
  obtain⟨q',s,rfl,rfl,hd⟩:=kn _ _ r o (by omega) (by omega) hr
  simp only[↓zq,zs,ag,aO,hb.has];exact hd
 ·refine aQ (A7 b l hb q (by omega)) (dP.ne ⟨[],rfl,by simp⟩) ?_
  intro r o hr
  obtain⟨q',s,rfl,rfl,hd⟩:=kn _ _ r o (by omega) (by omega) hr
  simp only[↓zq,zs,ag,aO,hb.has];exact hd
 ·refine aQ (A7 b l hb q (by omega)) (dP.ne ⟨[],rfl,by simp⟩) ?_
  intro r o hr
  obtain⟨q',s,rfl,rfl,hd⟩:=kn _ _ r o (by omega) (by omega) hr
  simp only[↓zq,zs,ag,aO,hb.has];exact hd
 ·refine aQ (DK b l hb 2 (by omega) q [[116],[116,49]] _ (dD.of [[116],[116,49]]) (by decide) (by simp) (by simp[lY];omega)) (dP.ne ⟨[],rfl,by simp⟩) ?_
  intro r o hr
  obtain⟨q',s,rfl,rfl,hd⟩:=kn _ _ r o (by simp[lY]) (by simp[kT]) hr
  simp only[↓zq,zs,ag,aO,hb.has];exact hd
 ·refine aQ (DK b l hb 3 (by omega) q [] _ (dD.of []) (by simp) (by simp) (by simp[lY];omega)) (dP.ne ⟨[],rfl,by simp⟩) ?_
  intro r o hr
  obtain⟨q',s,rfl,rfl,hd⟩:=kn _ _ r o (by simp[lY]) (by simp[kT]) hr
  simp only[↓zq,zs,ag,aO,hb.has];exact hd
def uM:Nat->Nat
 |0=>200
 |d+1=>2*uM d+10
def um:Nat->Nat
 |0=>102
 |d+1=>2*um d+110
theorem Fv(d:Nat):200<=uM d:=by induction d<;>simp only[uM]<;>omega
theorem FK(d:Nat):102<=um d:=by induction d<;>simp only[um]<;>omega
theorem vB:∀d:Nat,d<=5->uM d<=100000/\um d<=100000
 |0,_=>by decide
 |1,_=>by decide
 |2,_=>by decide
 |3,_=>by decide
 |4,_=>by decide
 |5,_=>by decide
 |d+6,h=>by omega
theorem Gz(b:AV)(l:List UInt8)(hb:qe b l):∀(d:Nat),d<=5->∀(p:Nat),p+um d<mW ->
 au Tryz.prog 31 [.ref 0 0,.v (.int .i64 (d:Int))] [.cells [b,.v (.int .i64 (p:Int))]] (dP b p (um d) (eZ (uM d))):=by
 intro d
 have hfar:mW=1000000000000000:=rfl
 have one:∀(p:Nat) (L C:Nat) (q:Nat),2<=L->p<=q->q+1<=p+C->∀(r:AV) (o:List Ob) (ls:List (List UInt8)),(∀s,s∈ls->s.length<=2)->dP b q 1 (gI ls) r o->∃q':Nat,∃s:List UInt8,r=.v (.string (mk s))/\o=[.cells [b,.v (.int .i64 (q':Int))]]/\dP b p C (eZ L) (.v (.string (mk s))) [.cells [b,.v (.int .i64 (q':Int))]]:=by
  rintro p L C q hL hpq hC r o ls hls ⟨q',g1,g2,hr,rfl⟩
  obtain⟨s,rfl,hs⟩:=gI.iZ hls hr
  exact⟨q',s,rfl,rfl,q',by omega,by omega,⟨s,rfl,by omega⟩,rfl⟩
 induction d with
 |
  zero =>
  intro hd p hp
  simp only[um]at hp
  refine CA _ _ _ hb.has ?_
  simp only[Ad,↓zq,zs,ag]
  refine⟨fun _=>?_,fun h=>by omega⟩
  refine aQ (uu b l hb p (by omega) _ _ (.of [_,_,_,_,_,_,_]) (by simp) (by simp)) (dP.ne ⟨_,af,rfl⟩) ?_
  intro r o hr
  obtain⟨q',s,rfl,rfl,hd⟩:=one p (uM 0) (um 0) p (by decide) (by omega) (by simp[um]) r o _ (by decide) hr
  simp only[↓zq,zs,ag,aO,hb.has];exact hd
 |
  succ d ih =>
  intro hd p hp
  have hL:=Fv d
  have hC:=FK d
  obtain⟨hL8,hC8⟩:=vB d (by omega)
  have eL:uM (d+1)=2*uM d+10:=rfl
  have eC:um (d+1)=2*um d+110:=rfl
  have ih:=ih (by omega)
  have ed:IntKind.wrap .i64 (((d+1:Nat):Int)-1)=(d:Int):=by rw[VL.wrap64]<;>omega
  refine CA _ _ _ hb.has ?_
  simp only[Ad,↓zq,zs,ag,ed]
  refine⟨fun h=>by omega,fun _=>?_⟩
  refine aQ (rN b l hb p 4 (by omega) (by decide)) (dP.ne ⟨0,rfl,fun h=>by omega,by omega⟩) ?_
  rintro r o ⟨q0,a1,a2,⟨k0,rfl,_,_⟩,rfl⟩
  simp only[↓zq,zs,ag,aO,hb.has]
  refine⟨fun _=>?_,fun _=>?_⟩
  ·refine aQ (uu b l hb q0 (by omega) _ _ (.of [_,_,_,_,_,_,_]) (by simp) (by simp)) (dP.ne ⟨_,af,rfl⟩) ?_
   intro r o hr
   obtain⟨q',s,rfl,rfl,hd⟩:=one p (uM (d+1)) (um (d+1)) q0 (by omega) (by omega) (by omega) r o _ (by decide) hr
   simp only[↓zq,zs,ag,aO,hb.has];exact hd
  ·refine aQ (rN b l hb q0 24 (by omega) (by decide)) (dP.ne ⟨0,rfl,fun h=>by omega,by omega⟩) ?_
   rintro r o ⟨q1,b1,b2,⟨k1,rfl,_,_⟩,rfl⟩
   simp only[↓zq,zs,ag,aO,hb.has]
   refine⟨fun _=>?_,fun _=>?_⟩
   ·refine aQ (FH b l hb q1 (by omega)) (dP.ne ⟨[],rfl,by simp⟩) ?_
    rintro r o ⟨q2,d1,d2,⟨s1,rfl,d3⟩,rfl⟩
    simp only[↓zq,zs,ag,aO,hb.has]
    exact⟨q2,by omega,by omega,⟨s1,rfl,by omega⟩,rfl⟩
   ·refine aQ (uu b l hb q1 (by omega) _ _ (.of [_,_]) (by simp) (by simp)) (dP.ne ⟨_,af,rfl⟩) ?_
    rintro r o ⟨q2,d1,d2,hr,rfl⟩
    obtain⟨s,rfl,hs⟩:=gI.iZ (n:=3) (by decide) hr
    simp only[↓zq,zs,ag,aO,hb.has]
    refine aQ (ih q2 (by omega)) (dP.ne ⟨[],rfl,by simp⟩) ?_
    rintro r o ⟨q3,e1,e2,⟨s1,rfl,e3⟩,rfl⟩
    simp only[↓zq,zs,ag,zt,aO,hb.has]
    repeat refine⟨by first|omega|(simp only[ap,az,aF];omega),?_⟩
    refine aQ (ih q3 (by omega)) (dP.ne ⟨[],rfl,by simp⟩) ?_
    rintro r o ⟨q4,f1,f2,⟨s2,rfl,f3⟩,rfl⟩
    simp only[↓zq,zs,ag,zt,aO,hb.has]
    have fin:∀s:List UInt8,s.length<=uM (d+1)->dP b p (um (d+1)) (eZ (uM (d+1))) (.v (.string (mk s))) [.cells [b,.v (.int .i64 (q4:Int))]]:=fun s hs=>⟨q4,by omega,by omega,⟨s,rfl,hs⟩,rfl⟩
    repeat (first|exact fin _ (by simp only[ap,az,aF];omega)|refine⟨by first|omega|(simp only[ap,az,aF];omega),?_⟩)
def sH(a:AV):Prop:=LK.sl.has a/\∃l:List UInt8,a.aX=mF l
def EZ(r:AV)(o:List Ob):Prop:=∃(b:AV) (l:List UInt8),qe b l/\r=.ref 0 0/\o=[.cells [b,.v (.int .i64 0)]]
theorem EZ.ne:∃r o,EZ r o:=⟨_,_,.v (.slice none 0 0),[],⟨(a8).mpr trivial,rfl,by simp⟩,rfl,rfl⟩
theorem FV(a:AV)(ha:sH a):au Tryz.prog 30 [a] [] EZ:=by
 obtain⟨hs,l,hl⟩:=ha
 have hln:a.aX.length=l.length:=by rw[hl];simp[mF]
 refine GW _ hs ?_
 simp only[DL,↓zq,zs,ag,hln]
 refine⟨hs,fun h=>⟨⟨hs,by omega⟩,?_⟩,fun h=>?_⟩
 ·refine⟨_,l.take 2000,⟨(cu _).mpr trivial,?_,?_⟩,rfl,rfl⟩
  ·rw[fF,hl];simp[mF]
  ·simp;omega
 ·exact⟨a,l,⟨hs,hl,by omega⟩,rfl,rfl⟩
end Go.Proofs.Trees
namespace Go.Proofs.Trees
open Go Go.VL Go.RowKit
theorem wv(b:AV)(l:List UInt8)(hb:qe b l){e:E}(h:Wf e):∀d:Int,d<=-13->-50000+(e.sz:Int)<=d->e.dI<=400->gR b d e (5*e.sz) e.sz:=by
 induction h with
 |
  @atom s hs =>
  intro d h1 h2 h3
  exact(DJ b l hb d hs).mono (by simp[E.sz]) (by simp[E.sz])
 |
  @plus x y hx hy i1 i2 =>
  intro d h1 h2 h3
  have h4:=h3
  simp only[E.sz,E.gD,E.dI,E.eE]at h2 h4 |-
  exact(BK b l hb d (by omega) hx hy h3 (5*(x.sz+y.sz)+1) (x.sz+y.sz) ((i1 (d-1) (by omega) (by omega) (by omega)).mono (by omega) (by omega)) ((i2 (d-1) (by omega) (by omega) (by omega)).mono (by omega) (by omega)) (by omega)).mono (by omega) (by omega)
 |
  @times x y hx hy i1 i2 =>
  intro d h1 h2 h3
  have h4:=h3
  simp only[E.sz,E.gD,E.dI,E.eE]at h2 h4 |-
  exact(C5 b l hb d (by omega) hx hy (5*x.sz+1) x.sz (5*y.sz+1) y.sz ((i1 (d-1) (by omega) (by omega) (by omega)).mono (by omega) (by omega)) ((i2 (d-1) (by omega) (by omega) (by omega)).mono (by omega) (by omega)) (by omega) (by omega)).mono (by omega) (by omega)
 |
  @rc n x hn hx i =>
  intro d h1 h2 h3
  simp only[E.sz,E.gD]at h2 |-
  exact(Dd b l hb d (by omega) hn hx h3 1 0 (fun h=>absurd h (by omega)) (by omega)).mono (by omega) (by omega)
def l3:Nat->Nat
 |0=>6100
 |n+1=>2*l3 n+5
theorem zL:∀n,6100<=l3 n
 |0=>aw _
 |n+1=>by have:=zL n;simp only[l3];omega
theorem rX:∀n k:Nat,l3 (n+k)+5=2 ^ k*(l3 n+5)
 |n,0=>by simp
 |
  n,k+1=>by
  have:=rX n k
  rw[show n+(k+1)=n+k+1 from rfl,l3,Nat.pow_succ,Nat.mul_comm (2 ^ k) 2,Nat.mul_assoc,<-this];omega
theorem vd{n m:Nat}(h:n<=m):l3 n<=l3 m:=by
 obtain⟨k,rfl⟩:=Nat.exists_eq_add_of_le h
 have:=rX n k
 have h2:1*(l3 n+5)<=2 ^ k*(l3 n+5):=aK _ Nat.one_le_two_pow
 omega
theorem Cb:l3 22<=30000000000:=by
 have:=rX 0 22
 simp only[aR]at this
 have h0:l3 0=6100:=rfl
 rw[h0]at this
 omega
theorem sX(b:AV)(l:List UInt8)(hb:qe b l):∀n:Nat,n<=40->∀e,Wf e->e.dI<=400->gR b ((n:Int)-13) e (l3 n) (l3 n)
 |
  0,hn,e,h,hl=>by
  have:=h.sz
  exact(wv b l hb h _ (by simp) (by simp;omega) hl).mono (by simp only[l3];omega) (by simp only[l3];omega)
 |
  n+1,hn,e,h,hl=>by
  have hb1:=zL n
  have ih:∀g,Wf g->g.dI<=400->gR b (((n+1:Nat):Int)-13-1) g (l3 n) (l3 n):=by
   rw[show ((n+1:Nat):Int)-13-1=(n:Int)-13 by omega];exact sX b l hb n (by omega)
  cases h with
  |@atom s hs=>exact(DJ b l hb _ hs).mono (by simp only[l3];omega) (by simp only[l3];omega)
  |
   @plus x y hx hy =>
   have h4:=hl
   simp only[E.dI,E.eE]at h4
   exact(BK b l hb _ (by omega) hx hy hl _ _ (ih x hx (by omega)) (ih y hy (by omega)) (by omega)).mono (by simp only[l3];omega) (by simp only[l3];omega)
  |
   @times x y hx hy =>
   simp only[E.dI,E.eE]at hl
   exact(C5 b l hb _ (by omega) hx hy _ _ _ _ (ih x hx (by omega)) (ih y hy (by omega)) (by omega) (by omega)).mono (by simp only[l3];omega) (by simp only[l3];omega)
  |@rc m x hm hx=>exact(Dd b l hb _ (by omega) hm hx hl _ _ (fun _=>ih) (by omega)).mono (by simp only[l3];omega) (by simp only[l3];omega)
theorem Gw(b:AV)(l:List UInt8)(hb:qe b l)(p:Nat)(hp:p<100000000000000)(s:Nm):au Tryz.prog 33 [.ref 0 0,.v (.string (mk s))] [.cells [b,.v (.int .i64 (p:Int))]] (dP b p 40000000000 (eZ 40000000000)):=by
 refine Gr _ _ _ hb.has ?_
 have hfar:mW=1000000000000000:=rfl
 have oneL:∀(q:Nat) (r:AV) (o:List Ob),p<=q->q<=p+1->dP b q 1 (gI [[],[117],[101,48],[101,48,48],[101,49,48,48],[40,108,32,117,41],[40,112,32,117,41],[40,102,32,40,108,32,117,41,41],[40,120,32,117,41],[40,108,32,32,117,41]]) r o->∃q':Nat,∃t:List UInt8,r=.v (.string (mk t))/\o=[.cells [b,.v (.int .i64 (q':Int))]]/\dP b p 40000000000 (eZ 40000000000) (.v (.string (mk t))) [.cells [b,.v (.int .i64 (q':Int))]]:=by
  rintro q r o h1 h2 ⟨q',g1,g2,hr,rfl⟩
  obtain⟨t,rfl,ht⟩:=gI.iZ (n:=20) (by decide) hr
  exact⟨q',t,rfl,rfl,q',by omega,by omega,⟨t,rfl,by omega⟩,rfl⟩
 unfold CI
 refine aQ (Cs s) (jC.ne _ _ (fun h=>h)) ?_
 rintro r o ⟨c,d,hd,rfl,hh⟩
 have hhas:cd [.str,.sl] [.v (.string (mk c)),d] 0:=by simp[cd,eM,hd]
 simp only[↓zq,zs,ag,zt]
 refine⟨hhas,fun h=>?_,fun h=>?_⟩
 ·refine aQ (uu b l hb p (by omega) _ _ (.of [_,_,_,_,_,_,_,_,_,_]) (by simp) (by simp)) (dP.ne ⟨_,af,rfl⟩) ?_
  intro r o hr
  obtain⟨q',t,rfl,rfl,hd⟩:=oneL p r o (aw _) (by omega) hr
  simp only[↓zq,zs,ag,aO,hb.has];exact hd
 ·obtain⟨e,he,hce⟩:=hh (by simpa using h)
  obtain⟨t,h1,hA,h3,h4,h5,_⟩:=iQ he
  rw[cN]at hce
  simp only[AV.agg.injEq,List.cons.injEq,AV.v.injEq,Value.string.injEq,and_true]at hce
  obtain⟨hc1,rfl⟩:=hce
  have hc2:=uI hc1
  subst hc2
  obtain⟨hw,hwt⟩:=j8 e [] t hA.ok (by simp) hA.ty
  have hats:e.dI<=400:=by rw[hw.dI [],hwt];exact h5
  have hsz:=hw.sz
  refine aQ (rN b l hb p 16 (by omega) (by decide)) (dP.ne ⟨0,rfl,fun h=>by omega,by omega⟩) ?_
  rintro r o ⟨q,h1,h2,⟨k,rfl,_,_⟩,rfl⟩
  simp only[↓zq,zs,ag,aO,hb.has]
  refine⟨fun _=>?_,fun _=>?_⟩
  ·refine aQ (uu b l hb q (by omega) _ _ (.of [_,_,_,_,_,_,_,_,_,_]) (by simp) (by simp)) (dP.ne ⟨_,af,rfl⟩) ?_
   intro r o hr
   obtain⟨q',t,rfl,rfl,hd⟩:=oneL q r o h1 h2 hr
   simp only[↓zq,zs,ag,aO,hb.has];exact hd
  ·obtain⟨w1,w2,_⟩:=uS (os:=[]) hw
   have hap:=En hw (.v (.slice none 0 0)) [] ⟨(a8).mpr trivial,rfl⟩ (by omega) (by simp) (by simp)
   refine al hap ?_
   simp only[↓zq,zs,ag,zt,aY]
   repeat refine⟨by omega,?_⟩
   have hats2:(yN e []).dI<=400:=by rw[w1.dI [],w2,<-hw.dI []];exact hats
   refine aQ (rN b l hb q 5 (by omega) (by decide)) (dP.ne ⟨0,rfl,fun h=>by omega,by omega⟩) ?_
   rintro r o ⟨q1,g1,g2,⟨k1,rfl,c3,_⟩,rfl⟩
   have hk1:=c3 (by omega)
   simp only[↓zq,zs,ag,zt,aO,hb.has,aY]
   have ed:IntKind.wrap .i64 (5+(k1:Int))=((18+k1:Nat):Int)-13:=by rw[VL.wrap64 _ (by omega) (by omega)];omega
   have hB:=Cb
   have hB2:l3 (18+k1)<=l3 22:=vd (by omega)
   have hB3:=zL (18+k1)
   rw[ed]
   refine aQ (sX b l hb (18+k1) (by omega) (yN e []) w1 hats2 q1 (by omega)) (lW b q1 _ _ (by omega)) ?_
   rintro r o ⟨q2,d1,d2,⟨f,rfl,f1,f2⟩,rfl⟩
   simp only[↓zq,zs,ag,zt,aO,hb.has,aY]
   repeat refine⟨by omega,?_⟩
   have ht:=zC (f.sz+1) f (by omega) f1 (by omega)
   rw[cN]at ht
   refine al ht ?_
   simp only[↓zq,zs,ag,zt,aO,hb.has,aY]
   exact⟨q2,by omega,by omega,⟨ia f,rfl,by omega⟩,rfl⟩
end Go.Proofs.Trees
namespace Go.Proofs.Trees
open Go Go.VL Go.RowKit
theorem iC(n:Nat)(hn:n<=100):∀(t:Ty) (v:Vl) (N:Nat),eg n t=some N->kj n t v=true->back n t (code n t v)=v
 | .zero,v,N,h,hv=>by cases v<;>cases hv
 | .ca u,v,N,h,hv=>by cases h
 | .rc a,v,N,h,hv=>by cases h
 |
  .one,v,N,h,hv=>by
  cases v<;>first|(cases hv;done)|rfl
 |
  .name s,v,N,h,hv=>by
  cases v with
  |el k=>rfl
  |_=>cases hv
 |
  .plus a b,v,N,h,hv=>by
  obtain⟨x,y,hx,hy,rfl⟩:=yD h
  cases v with
  |
   l w =>
   have h1:=eG n hn a w x hx hv
   have h2:=iC n hn a w x hx hv
   simp only[code,back,hx,if_pos h1,h2]
  |
   r w =>
   have h2:=iC n hn b w y hy hv
   simp only[code,back,hx,co]
   rw[if_neg (by omega),show x+code n b w-x=code n b w by omega,h2]
  |_=>cases hv
 |
  .times a b,v,N,h,hv=>by
  obtain⟨x,y,hx,hy,rfl⟩:=xX h
  cases v with
  |
   p w z =>
   simp only[kj,ak]at hv
   have h2:=eG n hn b z y hy hv.2
   have e1:=iC n hn a w x hx hv.1
   have e2:=iC n hn b z y hy hv.2
   have d1:(code n a w*y+code n b z)/y=code n a w:=by
    rw[Nat.add_comm,Nat.add_mul_div_right _ _ (by omega),Nat.div_eq_of_lt h2,aR]
   have d2:(code n a w*y+code n b z)%y=code n b z:=by
    rw[Nat.add_comm,Nat.add_mul_mod_self_right,Nat.mod_eq_of_lt h2]
   simp only[code,back,hy,co,d1,d2,e1,e2]
  |_=>cases hv
theorem vz{s v:List UInt8}{n:Int}{k:Nat}(h:AX s n v=some k):∃N:Nat,lX s n=some N/\k<N/\E2 s n (k:Int)=some v:=by
 unfold AX at h
 split at h
 ·rename_i N w t h1 h2 h3
  cases h
  obtain⟨m,t',e,rfl,hm,ht,hC,hN,he,hte,hp,hok,hb,hw,hvt⟩:=pB h1 h2
  rw[h3]at ht;cases ht
  have hlt:=eG m hm t w N hN hvt
  have hbk:=iC m hm t w N hN hvt
  refine⟨N,h1,by simpa using hlt,?_⟩
  obtain⟨hvn,_,hvx⟩:=nQ hw
  simp only[E2,h3,h1,bi,hbk]
  rw[if_pos ⟨by omega,by omega⟩,if_pos (by omega)]
  rw[<-yf hw]
 ·cases h
def Fj(r:AV)(o:List Ob):Prop:=o=[]/\∃(s:List UInt8) (n:Int) (v:List UInt8),r=.cm [.v (.string (mk s)),.v (.int .i64 n),.v (.string (mk v))]
theorem Hk(a:AV)(ha:sH a):au Tryz.prog 8 [a] [] Fj:=by
 refine GD _ ha.1 ?_
 unfold BY
 refine aQ (FV a ha) EZ.ne ?_
 rintro r o ⟨b,l,hb,rfl,rfl⟩
 have hfar:mW=1000000000000000:=rfl
 have hL:=vB 3 (by omega)
 simp only[↓zq,zs,ag,aO,cd,hb.has]
 refine aQ (Gz b l hb 3 (by omega) 0 (by omega)) (dP.ne ⟨[],rfl,by simp⟩) ?_
 rintro r o ⟨q1,a1,a2,⟨s,rfl,hs⟩,rfl⟩
 simp only[↓zq,zs,ag,aO,hb.has]
 refine aQ (rN b l hb q1 3 (by omega) (by decide)) (dP.ne ⟨0,rfl,fun h=>by omega,by omega⟩) ?_
 rintro r o ⟨q2,b1,b2,⟨k,rfl,_,_⟩,rfl⟩
 simp only[↓zq,zs,ag,zt,aO,hb.has]
 refine aQ (Gw b l hb q2 (by omega) s) (dP.ne ⟨[],rfl,by simp⟩) ?_
 rintro r o ⟨q3,c1,c2,⟨v,rfl,_⟩,rfl⟩
 simp only[↓zq,zs,ag,zt,aO,hb.has]
 exact⟨rfl,s,_,v,rfl⟩
theorem G8(a:AV)(ha:sH a):au Tryz.prog 3 [a] [] (bq (.v (.bool true))):=by
 refine FJ _ ha.1 ?_
 simp only[DF,↓zq,zs,ag,zt,bq]
 refine⟨ha.1,fun _=>trivial,fun _=>?_⟩
 refine aQ (Hk a ha) ⟨_,_,rfl,[],0,[],rfl⟩ ?_
 rintro r o ⟨rfl,s,n,v,rfl⟩
 simp only[↓zq,zs,ag,zt]
 refine al (GP s n v) ?_
 cases hc:AX s n v with
 |
  none =>
  simp only[ec,↓zq,zs,ag]
  refine al (Eu s n v) ?_
  simp[hc,ec,↓zq,zs,ag,zt]
 |
  some k =>
  obtain⟨N,h1,h2,h3⟩:=vz hc
  simp only[ec,↓zq,zs,ag]
  refine al (Eu s n v) ?_
  simp only[hc,ec,↓zq,zs,ag,zt]
  refine⟨fun h=>by simp at h,fun _=>⟨fun h=>by simp at h,fun _=>⟨fun h=>by simp at h,fun _=>?_⟩⟩⟩
  refine al (zB s n) ?_
  simp only[h1,ec,↓zq,zs,ag,zt]
  refine al (F8 s n (k:Int)) ?_
  simp only[h3,tV,↓zq,zs,ag,zt]
  simp
  omega
end Go.Proofs.Trees
