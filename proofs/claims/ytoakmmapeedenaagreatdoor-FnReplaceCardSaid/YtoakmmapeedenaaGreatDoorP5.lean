/-
  Part of a proof: Go functions read by values, trees of functions, their contracts.
-/
import Derived.Test.YtoakmmapeedenaaGreatDoorP4
import Derived.Lib.Atoi
set_option linter.unusedVariables false
set_option linter.unusedSimpArgs false
open Bool renaming and_eq_true→au,eq_iff_iff→cL,or_eq_true→bn,true_and→bZ
open Int renaming cast_ofNat_Int→cY,ofNat_eq_natCast→cH,tdiv→eE,tmod→dr,toNat→bQ,toNat_natCast→cj
open List renaming all_cons→cO,any_eq_true→bT,append_assoc→bq,cons_append→bC,drop_eq_getElem_cons→aP,drop_eq_nil_of_le→bx,drop_zero→bz,flatMap_cons→aZ,getD_cons_zero→bh,getD_eq_getElem?_getD→aa,getElem?_eq_getElem→aV,getElem?_eq_some_iff→cq,getElem_mem→bY,headD_cons→aM,length→dX,length_append→ak,length_cons→aw,length_drop→bI,length_map→cg,length_nil→aE,map_append→bV,map_cons→a6,mem_append→aH,mem_append_left→aA,mem_append_right→az,mem_cons→aI,mem_cons_of_mem→ai,mem_cons_self→ag,mem_flatMap→cu,mem_map→bD,mem_singleton→aQ,nil_append→bg,sum_cons→cw,tail_cons→a8,takeWhile_append_dropWhile→bP
open Nat renaming beq→aF,le_add_right→da,le_refl→aq,lt_of_lt_of_le→cX,mod_lt→dR,mul_add→du,mul_le_mul_right→aS,zero_add→aR,zero_le→cG
open Option renaming bind_eq_some_iff→cn,isSome_iff_exists→a7,map_some→cy
open UInt8 renaming ofNat→bb,toNat_inj→dE
namespace Go.Proofs.Trees
open Go Go.VL
theorem L9(s:List UInt8)(hs:s.length<=8000):∀(k:Nat),k<=300->∀i,i<=s.length->aB Tryz.prog 59 [.v (.string (mk s)),.v (.int .i64 (i:Int)),.v (.int .i64 ((300-k:Nat):Int))] [] (Dn s (rd k (s.drop i))):=by
 intro k
 have hnil:∀k,rd k []=none:=fun k=>by cases k<;>simp[rd]
 have ha40:∀b:UInt8,b.toNat=40->eK b=false:=fun b hb=>by simp[eK,hb]
 induction k with
 |
  zero =>
  intro hk i hi
  refine pX s hs 300 i (by omega) hi (fun _=>none) (fun _ _ _ h=>by cases h) (fun j _=>MV s j) _ (fun h=>?_) (fun hlt h=>?_) (fun hlt h h40=>?_) (fun hlt h40=>?_)
  ·rw[bx (by omega)];exact hnil 0
  ·simp only[rd,if_neg h]
  ·simp only[rd,if_pos h]
  ·rw[AG]
   have:(s.drop i).takeWhile eK=[]:=qk hlt (ha40 _ h40)
   simp only[rd,if_pos this]
 |
  succ k ih =>
  intro hk i hi
  have hd:300-(k+1)+1=300-k:=by omega
  refine pX s hs (300-(k+1)) i (by omega) hi (rd k) (Cf k) (fun j hj=>by rw[hd];exact ih (by omega) j hj) _ (fun h=>?_) (fun hlt h=>?_) (fun hlt h h40=>?_) (fun hlt h40=>?_)
  ·rw[bx (by omega)];exact hnil _
  ·simp only[rd,if_neg h]
  ·rw[drop_cons hlt]at h |-
   simp only[rd,if_pos h,if_neg h40]
  ·have h:=qk hlt (ha40 _ h40)
   rw[drop_cons hlt]at h |-
   simp only[rd,if_pos h,if_pos h40,bI]
end Go.Proofs.Trees
namespace Go.Proofs.Trees
open Go Go.VL
theorem iF(e:E):AV.agg [.v (.string ((e.gU.getD 0 .any).toStr)),e.gU.getD 1 .any]=e.kh:=by cases e<;>rfl
theorem fU(e:E):e.gU.length=2:=by cases e<;>rfl
theorem iB(e:E):cc [.str,.sl] e.gU 0=True:=by
 apply eq_true
 cases e<;>simp[E.gU,cc,dU,bp,cE]
theorem l5(e:E):e.gU.headD .any=.v (.string (mk e.at)):=by cases e<;>rfl
theorem uy(x:E)(l:List E):aB Tryz.prog 29 [.agg [.v (.string (mk [])),.sl (E.bj (x::l))]] [] (bU (.v (.string (mk x.at)))):=by
 refine Fm _ _ ((cE _).mpr trivial) ?_
 simp only[C4,E.bj,↓zq,zs,ah,zt,bU,fU,l5,aq]
 refine⟨fun h=>absurd rfl h,fun _=>⟨fun h=>by omega,fun _=>⟨by omega,by omega⟩⟩⟩
theorem Nv:aB Tryz.prog 29 [.agg [.v (.string (mk [])),.sl (E.bj [])]] [] (bU (.v (.string (mk [])))):=by
 refine Fm _ _ ((cE _).mpr trivial) ?_
 simp only[C4,E.bj,↓zq,zs,ah,zt,bU,fU,l5,aq]
 simp
def jT:E->Bool
 | .atom s=>(s==[48])||(s==[49])||gJ s||cU s
 | .list [x,a,b]=>if x.at=[43]then jT a&&jT b else if x.at=[42]then jT a&&jT b else if x.at=[114,101,99]then cU a.at&&jT b else false
 | .list _=>false
theorem za:∀(e:E),e.ok->aB Tryz.prog 73 [e.kh] [] (bU (.v (.bool (jT e))))
 |
  .atom s,hok=>by
  refine KJ _ _ ((bp).mpr trivial) ?_
  have hne:s≠[]:=hok
  simp only[EL,↓zq,zs,ah,zt,bU,jT]
  refine⟨fun _=>⟨fun h=>?_,fun h=>⟨fun h1=>?_,fun h1=>?_⟩⟩,fun h=>absurd h hne⟩
  ·simp[h]
  ·simp[h1]
  ·refine an (FA s) ?_
   simp only[↓zq,zs,ah]
   refine⟨fun hp=>?_,fun hp=>?_⟩
   ·simp[hp]
   ·refine an (FT s) ?_
    simp[↓zq,zs,ah,hp,h,h1]
 |
  .list l,hok=>by
  refine KJ _ _ ((cE _).mpr trivial) ?_
  match l,hok with
  |[],hok=>simp[EL,E.bj,↓zq,zs,ah,zt,bU,jT]
  |[x],hok=>simp[EL,E.bj,↓zq,zs,ah,zt,bU,jT]
  |[x,y],hok=>simp[EL,E.bj,↓zq,zs,ah,zt,bU,jT]
  |
   x::y::z::w::l,hok =>
   simp only[EL,E.bj,↓zq,zs,ah,zt,bU,jT]
   exact⟨fun h=>absurd rfl h,fun _=>⟨fun _=>trivial,fun h=>by omega⟩⟩
  |
   [x,y,z],hok =>
   obtain⟨ok1,ok2,ok3,_⟩:=hok
   simp only[EL,↓zq,zs,ah,zt,bU]
   refine⟨fun h=>absurd rfl h,fun _=>⟨fun h=>absurd rfl h,fun _=>?_⟩⟩
   refine an (uy x _) ?_
   simp only[E.bj,toNat_one,bf,↓zq,zs,ah,zt,iF,fU,iB,l5,aq,jT]
   refine⟨fun h=>?_,fun h=>⟨fun h1=>?_,fun h1=>⟨fun h2=>?_,fun h2=>?_⟩⟩⟩
   ·rw[if_pos h]
    refine⟨by omega,an (za y ok2) ?_⟩
    simp only[↓zq,zs,ah]
    refine⟨fun hy=>⟨by omega,an (za z ok3) ?_⟩,fun hy=>?_⟩
    ·simp only[↓zq,zs,ah,hy,bZ]
    ·rw[hy];rfl
   ·rw[if_neg h,if_pos h1]
    refine⟨by omega,an (za y ok2) ?_⟩
    simp only[↓zq,zs,ah]
    refine⟨fun hy=>⟨by omega,an (za z ok3) ?_⟩,fun hy=>?_⟩
    ·simp only[↓zq,zs,ah,hy,bZ]
    ·rw[hy];rfl
   ·rw[if_neg h,if_neg h1,if_pos h2]
    refine⟨by omega,by omega,an (FT _) ?_⟩
    simp only[↓zq,zs,ah]
    refine⟨fun hy=>⟨by omega,an (za z ok3) ?_⟩,fun hy=>?_⟩
    ·simp only[↓zq,zs,ah,hy,bZ]
    ·rw[hy];rfl
   ·rw[if_neg h,if_neg h1,if_neg h2]
theorem jv:∀(e:E) (ar:List (List UInt8)),(cF e ar).isSome=jT e
 |
  .atom s,ar=>by
  simp only[cF,jT]
  by_cases h:s=[48]
  ·simp[h]
  ·by_cases h1:s=[49]
   ·simp[h1]
   ·rw[if_neg h,if_neg h1]
    by_cases h2:gJ s=true
    ·simp[h2]
    ·rw[if_neg h2]
     by_cases h3:cU s=true
     ·rw[if_pos h3];cases bG s ar ar.length<;>simp[h3]
     ·rw[if_neg h3];simp[h,h1,h2,h3]
 | .list [],_=>rfl
 | .list [_],_=>rfl
 | .list [_,_],_=>rfl
 | .list (_::_::_::_::_),_=>rfl
 |
  .list [x,a,b],ar=>by
  have ha:=jv a ar
  have hb:=jv b ar
  have hb2:=jv b (ar++[a.at])
  rw[jT]
  by_cases h:x.at=[43]
  ·rw[ku ar h,if_pos h,<-ha,<-hb];cases cF a ar<;>cases cF b ar<;>rfl
  ·by_cases h1:x.at=[42]
   ·rw[jU ar h1,if_neg h,if_pos h1,<-ha,<-hb];cases cF a ar<;>cases cF b ar<;>rfl
   ·by_cases h2:x.at=[114,101,99]
    ·rw[mh ar h2,if_neg h,if_neg h1,if_pos h2,<-hb2]
     cases cU a.at<;>cases cF b (ar++[a.at])<;>rfl
    ·rw[iQ ar h h1 h2,if_neg h,if_neg h1,if_neg h2];rfl
mutual
def E.ej:E->Nat
 | .atom _=>1
 | .list l=>E.fo l
def E.fo:List E->Nat
 |[]=>0
 |e::l=>e.ej+E.fo l
end
mutual
theorem AN:∀e:E,e.ej<=e.sz
 | .atom s=>by simp[E.ej,E.sz]
 | .list l=>by have:=ur l;simp only[E.ej,E.sz];omega
theorem ur:∀l:List E,E.fo l<=E.iD l
 |[]=>by simp[E.fo,E.iD]
 |e::l=>by have:=AN e;have:=ur l;simp only[E.fo,E.iD];omega
end
theorem jl:∀(l:List E) (i:Nat) (h:i<l.length),(E.bj l).getD i []=(l[i]).gU
 |e::l,0,_=>rfl
 |
  e::l,i+1,h=>by
  have:=jl l i (by simpa using h)
  simp only[E.bj,List.getD_cons_succ,List.getElem_cons_succ];exact this
theorem zD:∀(l:List E) (i:Nat) (h:i<l.length),E.fo (l.drop i)=(l[i]).ej+E.fo (l.drop (i+1)):=by
 intro l i h
 rw[aP h];rfl
theorem tU:∀(l:List E) (i:Nat) (h:i<l.length),E.C7 l->(l[i]).ok
 |e::l,0,_,h=>h.1
 |e::l,i+1,hi,h=>tU l i (by simpa using hi) h.2
theorem KB(l:List E)(hl:E.fo l<1000000)(hll:l.length<1000000)(ih:∀i (h:i<l.length),aB Tryz.prog 63 [(l[i]).kh] [] (bU (.v (.int .i64 ((l[i]).ej:Int))))) :
 ∀(k i n:Nat),i+k=l.length->n+E.fo (l.drop i)<=E.fo l->FJ [.v (.int .i64 (n:Int)),.v (.int .i64 (i:Int))] [.cells [.v (.string (mk [])),.sl (E.bj l)]] (kl 1 [.v (.int .i64 ((n+E.fo (l.drop i):Nat):Int))] [])
 |
  0,i,n,hi,hn=>by
  refine Lt _ _ _ _ ?_
  simp only[Hc,↓zq,zs,ah,dM]
  have:l.drop i=[]:=bx (by omega)
  refine⟨fun h=>by omega,fun _=>?_⟩
  simp[kl,this,E.fo]
 |
  k+1,i,n,hi,hn=>by
  have hlt:i<l.length:=by omega
  refine Lt _ _ _ _ ?_
  simp only[Hc,↓zq,zs,ah,zt,dM,jl l i hlt,fU,iB,iF,aq]
  refine⟨fun _=>⟨by omega,?_⟩,fun h=>by omega⟩
  refine an (ih i hlt) ?_
  have h1:=zD l i hlt
  simp only[↓zq,zs,ah]
  rw[bX i (by omega),wrap64 _ (by omega) (by omega)]
  have:=KB l hl hll ih k (i+1) (n+(l[i]).ej) (by omega) (by omega)
  rw[h1,<-Nat.add_assoc]
  simpa using this
theorem tC:∀l:List E,l.length<=E.iD l
 |[]=>by simp[E.iD]
 |
  e::l=>by
  have:=tC l
  have:1<=e.sz:=by cases e<;>simp[E.sz]
  simp only[E.iD,aw];omega
theorem ui:∀(l:List E) (i:Nat) (h:i<l.length),(l[i]).sz<=E.iD l
 |e::l,0,_=>by simp[E.iD]
 |e::l,i+1,h=>by have:=ui l i (by simpa using h);simp only[E.iD,List.getElem_cons_succ];omega
theorem Ip:∀(n:Nat) (e:E),e.sz<n->e.ok->e.sz<1000000->aB Tryz.prog 63 [e.kh] [] (bU (.v (.int .i64 (e.ej:Int))))
 |0,e,hn,_,_=>by omega
 |
  n+1,.atom s,hn,hok,hl=>by
  refine HQ _ _ ((bp).mpr trivial) ?_
  have hne:s≠[]:=hok
  simp only[E0,↓zq,zs,ah,zt,bU]
  exact⟨fun _=>rfl,fun h=>absurd h hne⟩
 |
  n+1,.list l,hn,hok,hl=>by
  refine HQ _ _ ((cE _).mpr trivial) ?_
  simp only[E.sz]at hn hl
  have h1:=ur l
  have h2:=tC l
  simp only[E0,↓zq,zs,ah,zt,bU]
  refine⟨fun h=>absurd rfl h,fun _=>?_⟩
  refine db (KB l (by omega) (by omega) (fun i hi=>?_) l.length 0 0 (by omega) (by simp)) ?_
  ·have:=ui l i hi
   exact Ip n (l[i]) (by omega) (tU l i hi hok) (by omega)
  ·simp[↓zq,zs,ah,E.ej]
theorem BI(e:E)(h:e.ok)(hl:e.sz<1000000):aB Tryz.prog 63 [e.kh] [] (bU (.v (.int .i64 (e.ej:Int)))):=Ip (e.sz+1) e (by omega) h hl
theorem tL{x:E}(h:x.at≠[]):x.ej=1:=by cases x<;>simp[E.at,E.ej]at h |-
theorem Ap{s:List UInt8}(h:cU s=true):s≠[]:=by rintro rfl;cases h
theorem jC:∀(e:E) (ar:List (List UInt8)) (t:Ty),cF e ar=some t->e.ej=t.atoms
 |
  .atom s,ar,t,h=>by
  simp only[cF]at h
  simp only[E.ej]
  split at h
  ·cases h;rfl
  ·split at h
   ·cases h;rfl
   ·split at h
    ·cases h;rfl
    ·split at h
     ·split at h<;>cases h<;>rfl
     ·cases h
 | .list [],_,_,h=>by cases h
 | .list [_],_,_,h=>by cases h
 | .list [_,_],_,_,h=>by cases h
 | .list (_::_::_::_::_),_,_,h=>by cases h
 |
  .list [x,a,b],ar,t,h=>by
  simp only[E.ej,E.fo]
  by_cases h0:x.at=[43]
  ·rw[ku ar h0]at h
   have:=tL (x:=x) (by rw[h0];simp)
   split at h
   ·rename_i t1 t2 e1 e2
    cases h
    have:=jC a ar _ e1
    have:=jC b ar _ e2
    simp only[Ty.atoms];omega
   ·cases h
  ·by_cases h1:x.at=[42]
   ·rw[jU ar h1]at h
    have:=tL (x:=x) (by rw[h1];simp)
    split at h
    ·rename_i t1 t2 e1 e2
     cases h
     have:=jC a ar _ e1
     have:=jC b ar _ e2
     simp only[Ty.atoms];omega
    ·cases h
   ·by_cases h2:x.at=[114,101,99]
    ·rw[mh ar h2]at h
     have:=tL (x:=x) (by rw[h2];simp)
     split at h
     ·rename_i hl
      have:=tL (Ap hl)
      split at h
      ·rename_i t1 e1
       cases h
       have:=jC b _ _ e1
       simp only[Ty.atoms];omega
      ·cases h
     ·cases h
    ·rw[iQ ar h0 h1 h2]at h;cases h
def kt(x:Option E)(b:Bool):AV->List Ob->Prop:=fun r o=>∃c:List UInt8,∃d:AV,LK.sl.has d/\r=.cP [.agg [.v (.string (mk c)),d],.v (.bool b)]/\(b=true->∃e,x=some e/\AV.agg [.v (.string (mk c)),d]=e.kh)
theorem AM(e:E):∃c:List UInt8,∃d:AV,LK.sl.has d/\e.kh=AV.agg [.v (.string (mk c)),d]:=by
 cases e with
 |atom s=>exact⟨s,_,(bp).mpr trivial,rfl⟩
 |list l=>exact⟨[],_,(cE _).mpr trivial,rfl⟩
theorem kt.ne(x:Option E)(b:Bool)(h:b=true->x.isSome=true):∃r o,kt x b r o:=by
 cases b with
 |false=>exact⟨_,[],[],.v (.slice none 0 0),(bp).mpr trivial,rfl,fun h=>by cases h⟩
 |
  true =>
  cases x with
  |none=>cases h rfl
  |
   some e =>
   obtain⟨c,d,hd,he⟩:=AM e
   exact⟨_,[],c,d,hd,rfl,fun _=>⟨e,rfl,he.symm⟩⟩
theorem Lc(s:List UInt8):aB Tryz.prog 32 [.v (.string (mk s))] [] (kt (qv s) (qv s).isSome):=by
 refine LW _ ?_
 simp only[KG,↓zq,zs,ah,zt,qv]
 refine⟨fun h=>?_,fun h=>?_⟩
 ·rw[if_pos (by omega)]
  exact⟨[],_,(bp).mpr trivial,rfl,fun h=>by cases h⟩
 ·rw[if_neg (by omega)]
  refine aU (L9 s (by omega) 300 (by omega) 0 (by omega)) (Dn.ne _ _) ?_
  rintro r o ⟨rfl,hr⟩
  rw[bz]at hr
  cases hq:rd 300 s with
  |
   none =>
   rw[hq]at hr
   obtain⟨c,d,hd,rfl⟩:=hr
   simp only[↓zq,zs,ah,zt,cc]
   refine⟨hd,c,d,hd,?_,fun h=>by cases h⟩
   have:((-1:Int)==(s.length:Int))=false:=by
    rw[beq_eq_false_iff_ne];omega
   rw[this];rfl
  |
   some q =>
   obtain⟨e,u⟩:=q
   rw[hq]at hr
   subst hr
   have hlt:=xF _ _ _ _ hq
   obtain⟨c,d,hd,he⟩:=AM e
   simp only[he,↓zq,zs,ah,zt,cc]
   cases u with
   |
    nil =>
    refine⟨hd,c,d,hd,?_,fun _=>⟨e,rfl,he.symm⟩⟩
    simp
   |
    cons b u =>
    simp only[aw]at hlt |-
    refine⟨hd,c,d,hd,?_,fun h=>by cases h⟩
    have:(((s.length-(u.length+1):Nat):Int)==(s.length:Int))=false:=by simp;omega
    rw[this];rfl
def xj(s:List UInt8):Option E:=match qv s with
 |none=>none
 |some e=>if jT e=true/\e.ej<=400 then some e else none
theorem Nd(s:List UInt8):aB Tryz.prog 52 [.v (.string (mk s))] [] (kt (xj s) (xj s).isSome):=by
 refine MD _ ?_
 unfold Lg
 refine aU (Lc s) (kt.ne _ _ (fun h=>h)) ?_
 rintro r o ⟨c,d,hd,rfl,hh⟩
 simp only[↓zq,zs,ah,zt,cc,xj]
 refine⟨hd,fun h=>?_,fun h=>?_⟩
 ·obtain⟨e,he,hce⟩:=hh h
  obtain⟨hok,hsz⟩:=ny he
  rw[he,hce]
  refine an (za e hok) ?_
  simp only[↓zq,zs,ah]
  refine⟨fun hi=>?_,fun hi=>?_⟩
  ·refine an (BI e hok (by omega)) ?_
   simp only[↓zq,zs,ah,hi]
   refine⟨c,d,hd,?_,?_⟩
   ·rw[hce]
    by_cases h4:e.ej<=400
    ·rw[if_pos h4];exact congrArg (fun b=>AV.cP [e.kh,.v (.bool b)]) (decide_eq_true (show ((e.ej:Nat):Int)<=400 by omega))
    ·rw[if_neg h4];exact congrArg (fun b=>AV.cP [e.kh,.v (.bool b)]) (decide_eq_false (show ¬((e.ej:Nat):Int)<=400 by omega))
   ·split
    ·exact fun _=>⟨e,rfl,hce⟩
    ·exact fun h=>by cases h
  ·refine⟨c,d,hd,?_,?_⟩
   ·rw[hce,if_neg (by rw[hi];simp)];rfl
   ·rw[if_neg (by rw[hi];simp)];exact fun h=>by cases h
 ·have hn:qv s=none:=by cases hq:qv s<;>simp[hq]at h |-
  rw[hn]
  exact⟨c,d,hd,rfl,fun h=>by cases h⟩
theorem rn{s:List UInt8}{e:E}(h:xj s=some e):qv s=some e/\jT e=true/\e.ej<=400:=by
 unfold xj at h
 split at h
 ·cases h
 ·split at h
  ·rename_i e' h1 h2;cases h;exact⟨h1,h2⟩
  ·cases h
end Go.Proofs.Trees
namespace Go.Proofs.Trees
open Go Go.VL
def bL:Ty->Bool
 | .name s=>cU s
 | .plus a b=>bL a||bL b
 | .times a b=>bL a||bL b
 | .rc a=>bL a
 |_=>false
theorem gH:∀(t:Ty) (out:List (List UInt8)),(bK t out).any cU=(out.any cU||bL t)
 |
  .name s,out=>by
  simp only[bK,pk,bL]
  split
  ·rename_i h
   cases hs:cU s with
   |false=>simp
   |true=>rw[Bool.or_true,bT];exact⟨s,h,hs⟩
  ·simp
 | .plus a b,out=>by simp only[bK,bL,gH a,gH b,Bool.or_assoc]
 | .times a b,out=>by simp only[bK,bL,gH a,gH b,Bool.or_assoc]
 | .rc a,out=>by simp only[bK,bL,gH a]
 | .zero,out=>by simp[bK,bL]
 | .one,out=>by simp[bK,bL]
 | .bound u,out=>by simp[bK,bL]
theorem sY(t:Ty):t.closed = !bL t:=by simp[Ty.closed,gH]
def pl:Ty->Bool
 | .name s=>decide (s.length<=1)
 | .plus a b=>pl a&&pl b
 | .times a b=>pl a&&pl b
 | .rc a=>false
 |_=>true
theorem k9{lo hi:Nat}{s:List UInt8}(h:named lo hi s=true):∃c r,s=c::r/\lo<=c.toNat/\c.toNat<=hi:=by
 cases s with
 |nil=>cases h
 |cons c r=>simp only[named,au,decide_eq_true_eq]at h;exact⟨c,r,rfl,by omega,by omega⟩
theorem fm{x a b:E}{ar:List (List UInt8)}{t:Ty}(hx:x.at=[43])(h:cF (.list [x,a,b]) ar=some t):∃t1 t2,cF a ar=some t1/\cF b ar=some t2/\t=.plus t1 t2:=by
 rw[ku ar hx]at h
 split at h
 ·rename_i t1 t2 e1 e2;cases h;exact⟨t1,t2,e1,e2,rfl⟩
 ·cases h
theorem eT{x a b:E}{ar:List (List UInt8)}{t:Ty}(hx:x.at=[42])(h:cF (.list [x,a,b]) ar=some t):∃t1 t2,cF a ar=some t1/\cF b ar=some t2/\t=.times t1 t2:=by
 rw[jU ar hx]at h
 split at h
 ·rename_i t1 t2 e1 e2;cases h;exact⟨t1,t2,e1,e2,rfl⟩
 ·cases h
theorem di{x a b:E}{ar:List (List UInt8)}{t:Ty}(hx:x.at=[114,101,99])(h:cF (.list [x,a,b]) ar=some t):∃t1,cU a.at=true/\cF b (ar++[a.at])=some t1/\t=.rc t1:=by
 rw[mh ar hx]at h
 split at h
 ·rename_i hl
  split at h
  ·rename_i t1 e1;cases h;exact⟨t1,hl,e1,rfl⟩
  ·cases h
 ·cases h
theorem wM{s:List UInt8}:vz s=match xj s with|none=>none|some e=>cF e []:=by
 unfold vz xj
 cases he:qv s with
 |none=>rfl
 |
  some e =>
  have hs:=jv e []
  simp only
  cases ht:cF e []with
  |
   none =>
   rw[ht]at hs
   rw[if_neg (by rw[<-hs];simp)]
  |
   some t =>
   rw[ht]at hs
   have ha:=jC e [] t ht
   by_cases h4:e.ej<=400
   ·rw[if_pos ⟨hs.symm,h4⟩];dsimp only;rw[if_neg (by omega)];exact ht.symm
   ·rw[if_neg (fun h=>h4 h.2)];dsimp only;rw[if_pos (by omega)]
end Go.Proofs.Trees
namespace Go.Proofs.Trees
open Go Go.VL
def pure:Ty->Bool
 | .zero=>true
 | .one=>true
 | .name s=>(s==[120])||(s==[121])||(s==[122])
 | .plus a b=>pure a&&pure b
 | .times a b=>pure a&&pure b
 |_=>false
def H9(v:Nat):Option Nat:=if v<=1000000000 then some v else none
def Hg(n:Nat):Ty->Option Nat
 | .zero=>some 0
 | .one=>some 1
 | .name _=>some n
 | .plus a b=>match Hg n a,Hg n b with|some x,some y=>H9 (x+y)|_,_=>none
 | .times a b=>match Hg n a,Hg n b with|some x,some y=>H9 (x*y)|_,_=>none
 |_=>none
def Lb(x:Option Nat):AV->List Ob->Prop:=fun r o=>∃v:Int,r=.cP [.v (.int .i64 v),.v (.bool x.isSome)]/\∀c,x=some c->v=(c:Int)
theorem Lb.ne(x:Option Nat):∃r o,Lb x r o:=by
 cases x with
 |none=>exact⟨_,[],0,rfl,fun c h=>by cases h⟩
 |some c=>exact⟨_,[],(c:Int),rfl,fun c' h=>by cases h;rfl⟩
end Go.Proofs.Trees
namespace Go.Proofs.Trees
open Go Go.VL Go.RowKit
abbrev dd(n:Nat):List UInt8:=Lib.decDigits n
theorem fa{k:Nat}(h:k<10):dd k=[bb (48+k)]:=by rw[dd,Lib.decDigits,dif_pos h]
theorem fL{k:Nat}(h:¬k<10):dd k=dd (k/10)++[bb (48+k%10)]:=by rw[dd,Lib.decDigits,dif_neg h]
theorem pj:∀(n k:Nat),k<n->(dd k).length<=k+1
 |0,k,h=>by omega
 |
  n+1,k,h=>by
  by_cases h1:k<10
  ·rw[fa h1];simp
  ·rw[fL h1]
   have:=pj n (k/10) (by omega)
   simp only[ak,aw,aE];omega
theorem yy(d:Nat)(h:d<10):(Value.int .u8 (IntKind.wrap .u8 (IntKind.wrap .i64 (48+(d:Int)))))=.int .u8 ((bb (48+d)).toNat:Int):=by
 have:d=0\/d=1\/d=2\/d=3\/d=4\/d=5\/d=6\/d=7\/d=8\/d=9:=by omega
 rcases this with rfl|rfl|rfl|rfl|rfl|rfl|rfl|rfl|rfl|rfl<;>rfl
theorem pP(b:UInt8):bytesOf [[.v (.int .u8 (b.toNat:Int))]]=[b]:=by simp[bytesOf,yf]
theorem kK(b:UInt8):mB [[.v (.int .u8 (b.toNat:Int))]]:=⟨rfl,(ug _ _).mpr trivial,trivial⟩
theorem CU:∀(n k:Nat),k<n->k<1000000000->aB Tryz.prog 65 [.v (.int .i64 (k:Int))] [] (bU (.v (.string (mk (dd k)))))
 |0,k,h,_=>by omega
 |
  n+1,k,h,hk=>by
  refine NV _ ?_
  simp only[Ia,↓zq,zs,ah,bU]
  refine⟨fun h=>by omega,fun _=>⟨fun h=>by omega,fun _=>⟨fun h1=>?_,fun h1=>⟨by omega,?_⟩⟩⟩⟩
  ·rw[yy k (by omega)]
   refine⟨kK _,?_⟩
   rw[pP,fa (by omega)];rfl
  ·have e1:IntKind.wrap .i64 (eE (k:Int) 10)=((k/10:Nat):Int):=by
    rw[show eE (k:Int) 10=((k/10:Nat):Int) from (Int.ofNat_tdiv k 10).symm,wrap64 _ (by omega) (by omega)]
   have e2:dr (k:Int) 10=((k%10:Nat):Int):=(Int.ofNat_tmod k 10).symm
   rw[e1,e2,yy (k%10) (by omega)]
   refine an (CU n (k/10) (by omega) (by omega)) ?_
   have hl:=pj (k+1) (k/10) (by omega)
   simp only[↓zq,zs,ah,zt,pP]
   have h9:(k:Int)<1000000000:=by omega
   refine⟨by omega,kK _,?_,?_⟩
   ·show (mk (dd (k/10))).size+(mk [bb (48+k%10)]).size<=_
    rw[dc,dc];simp;omega
   ·show AV.v (.string (mk (dd (k/10))++mk [bb (48+k%10)]))=_
    rw[kA,fL (k:=k) (by omega)]
theorem zU(s:List UInt8)(d:AV)(hd:LK.sl.has d)(h:s≠[]):aB Tryz.prog 29 [.agg [.v (.string (mk s)),d]] [] (bU (.v (.string (mk [])))):=by
 refine Fm _ _ hd ?_
 simp only[C4,↓zq,zs,ah,zt,bU]
 exact⟨fun _=>trivial,fun h'=>absurd h' h⟩
theorem B5(e:E):AV.agg [.v (.string ((e.kh.cs.getD 0 .any).toStr)),e.kh.cs.getD 1 .any]=e.kh:=by cases e<;>rfl
mutual
def fy:E->List UInt8
 | .atom s=>s
 | .list []=>[40,41]
 | .list (e::l)=>40::(fy e++(dY l++[41]))
def dY:List E->List UInt8
 |[]=>[]
 |e::l=>32::(fy e++dY l)
end
theorem zi:∀(l:List E) (i:Nat) (h:i<l.length),dY (l.drop i)=32::(fy l[i]++dY (l.drop (i+1))):=by
 intro l i h
 rw[aP h,dY]
theorem Ja(l:List E)(hll:l.length<1000000000000)(ih:∀i (h:i<l.length),aB Tryz.prog 14 [(l[i]).kh] [] (bU (.v (.string (mk (fy l[i])))))) :
 ∀(k i:Nat) (out:List UInt8),i+k=l.length->1<=i->out.length+(dY (l.drop i)).length<=1000000000000->A7 [.v (.string (mk out)),.v (.int .i64 (i:Int))] [.cells [.v (.string (mk [])),.sl (E.bj l)]] (kl 1 [.v (.string (mk (out++dY (l.drop i))))] [])
 |
  0,i,out,hi,h1,hn=>by
  refine Dz _ _ _ _ ?_
  simp only[A9,↓zq,zs,ah,dM]
  have:l.drop i=[]:=bx (by omega)
  refine⟨fun h=>by omega,fun _=>?_⟩
  simp[kl,this,dY]
 |
  k+1,i,out,hi,h1,hn=>by
  have hlt:i<l.length:=by omega
  have hd:=zi l i hlt
  rw[hd]at hn
  simp only[aw,ak]at hn
  refine Dz _ _ _ _ ?_
  simp only[A9,↓zq,zs,ah,zt,dM,jl l i hlt,fU,iB,iF,aq]
  refine⟨fun _=>⟨fun _=>⟨by omega,by omega,?_⟩,fun h=>by omega⟩,fun h=>by omega⟩
  refine an (ih i hlt) ?_
  simp only[↓zq,zs,ah,zt]
  refine⟨by simp;omega,?_⟩
  rw[bX i (by omega),hd]
  have:=Ja l hll ih k (i+1) (out++[32]++fy l[i]) (by omega) (by omega) (by simp;omega)
  simpa using this
theorem xK:∀(l:List E) (i:Nat) (h:i<l.length),(fy l[i]).length<=(dY l).length
 |e::l,0,_=>by simp only[dY,List.getElem_cons_zero,aw,ak];omega
 |e::l,i+1,h=>by have:=xK l i (by simpa using h);simp only[dY,List.getElem_cons_succ,aw,ak];omega
theorem rN:∀l:List E,l.length<=(dY l).length
 |[]=>by simp[dY]
 |e::l=>by have:=rN l;simp only[dY,aw,ak];omega
theorem Dq:∀(n:Nat) (e:E),e.sz<n->e.ok->(fy e).length<=900000000000->aB Tryz.prog 14 [e.kh] [] (bU (.v (.string (mk (fy e)))))
 |0,e,hn,_,_=>by omega
 |
  n+1,.atom s,hn,hok,hl=>by
  refine Gf _ _ ((bp).mpr trivial) ?_
  have hne:s≠[]:=hok
  simp only[CP,↓zq,zs,ah,zt,bU]
  exact⟨fun _=>rfl,fun h=>absurd h hne⟩
 |
  n+1,.list [],hn,hok,hl=>by
  refine Gf _ _ ((cE _).mpr trivial) ?_
  simp only[CP,↓zq,zs,ah,zt,bU]
  refine⟨fun h=>absurd rfl h,fun _=>?_⟩
  have h1:A7 [.v (.string (mk [40])),.v (.int .i64 0)] [.cells [.v (.string (mk [])),.sl (E.bj [])]] (kl 1 [.v (.string (mk [40]))] []):=by
   refine Dz _ _ _ _ ?_
   simp[A9,↓zq,zs,ah,E.bj,kl]
  refine db h1 ?_
  simp only[↓zq,zs,ah,zt]
  exact⟨by simp,rfl⟩
 |
  n+1,.list (x::l),hn,hok,hl=>by
  refine Gf _ _ ((cE _).mpr trivial) ?_
  simp only[E.sz,E.iD]at hn
  simp only[fy,aw,ak,aE]at hl
  have h2:=rN l
  simp only[CP,↓zq,zs,ah,zt,bU]
  refine⟨fun h=>absurd rfl h,fun _=>?_⟩
  have hL:A7 [.v (.string (mk [40])),.v (.int .i64 0)] [.cells [.v (.string (mk [])),.sl (E.bj (x::l))]] (kl 1 [.v (.string (mk ([40]++fy x++dY l)))] []):=by
   refine Dz _ _ _ _ ?_
   simp only[A9,E.bj,Int.toNat_zero,↓zq,zs,ah,zt,dM,fU,iB,iF,aq]
   refine⟨fun _=>⟨fun h=>by omega,fun _=>⟨by omega,?_⟩⟩,fun h=>by omega⟩
   refine an (Dq n x (by omega) hok.1 (by omega)) ?_
   simp only[↓zq,zs,ah,zt]
   refine⟨by simp;omega,?_⟩
   have:=Ja (x::l) (by simp;omega) (fun i hi=>by
    have h3:=ui (x::l) i hi
    simp only[E.iD]at h3
    refine Dq n _ (by omega) (tU _ i hi hok) ?_
    have h4:=xK (x::l) i hi
    simp only[dY,aw,ak]at h4
    omega) l.length 1 ([40]++fy x) (by simp;omega) (by omega) (by simp;omega)
   rw[show IntKind.wrap .i64 (0+1)=1 from rfl]
   simpa[E.bj]using this
  refine db hL ?_
  simp only[↓zq,zs,ah,zt]
  refine⟨by simp;omega,?_⟩
  simp[fy]
theorem Eo(e:E)(h:e.ok)(hl:(fy e).length<=900000):aB Tryz.prog 14 [e.kh] [] (bU (.v (.string (mk (fy e))))):=Dq (e.sz+1) e (by omega) h (by omega)
mutual
def E.nd:E->Nat
 | .atom _=>1
 | .list []=>1
 | .list (_::l)=>1+E.uB l
def E.uB:List E->Nat
 |[]=>0
 |e::l=>e.nd+E.uB l
end
mutual
theorem BO:∀e:E,e.nd<=e.sz
 | .atom s=>by simp[E.nd,E.sz]
 | .list []=>by simp[E.nd,E.sz,E.iD]
 | .list (x::l)=>by have:=wb l;simp only[E.nd,E.sz,E.iD];omega
theorem wb:∀l:List E,E.uB l<=E.iD l
 |[]=>by simp[E.uB,E.iD]
 |e::l=>by have:=BO e;have:=wb l;simp only[E.uB,E.iD];omega
end
theorem BW:∀(l:List E) (i:Nat) (h:i<l.length),E.uB (l.drop i)=(l[i]).nd+E.uB (l.drop (i+1)):=by
 intro l i h
 rw[aP h];rfl
theorem JY(l:List E)(hl:E.uB l<1000000)(hll:l.length<1000000)(ih:∀i (h:i<l.length),aB Tryz.prog 13 [(l[i]).kh] [] (bU (.v (.int .i64 ((l[i]).nd:Int))))) :
 ∀(k i n:Nat),i+k=l.length->n+E.uB (l.drop i)<=1+E.uB l->At [.v (.int .i64 (n:Int)),.v (.int .i64 (i:Int))] [.cells [.v (.string (mk [])),.sl (E.bj l)]] (kl 1 [.v (.int .i64 ((n+E.uB (l.drop i):Nat):Int))] [])
 |
  0,i,n,hi,hn=>by
  refine CG _ _ _ _ ?_
  simp only[zN,↓zq,zs,ah,dM]
  have:l.drop i=[]:=bx (by omega)
  refine⟨fun h=>by omega,fun _=>?_⟩
  simp[kl,this,E.uB]
 |
  k+1,i,n,hi,hn=>by
  have hlt:i<l.length:=by omega
  refine CG _ _ _ _ ?_
  simp only[zN,↓zq,zs,ah,zt,dM,jl l i hlt,fU,iB,iF,aq]
  refine⟨fun _=>⟨by omega,?_⟩,fun h=>by omega⟩
  refine an (ih i hlt) ?_
  have h1:=BW l i hlt
  simp only[↓zq,zs,ah]
  rw[bX i (by omega),wrap64 _ (by omega) (by omega)]
  have:=JY l hl hll ih k (i+1) (n+(l[i]).nd) (by omega) (by omega)
  rw[h1,<-Nat.add_assoc]
  simpa using this
theorem Jk:∀(n:Nat) (e:E),e.sz<n->e.sz<900000->aB Tryz.prog 13 [e.kh] [] (bU (.v (.int .i64 (e.nd:Int))))
 |0,e,hn,_=>by omega
 |
  n+1,.atom s,hn,hl=>by
  refine JT _ _ ((bp).mpr trivial) ?_
  simp only[Fq]
  have hL:At [.v (.int .i64 1),.v (.int .i64 1)] [.cells [.v (.string (mk s)),.v (.slice none 0 0)]] (kl 1 [.v (.int .i64 1)] []):=by
   refine CG _ _ _ _ ?_
   simp[zN,↓zq,zs,ah,kl]
  refine db hL ?_
  simp[↓zq,zs,ah,bU,E.nd]
 |
  n+1,.list l,hn,hl=>by
  refine JT _ _ ((cE _).mpr trivial) ?_
  simp only[E.sz]at hn hl
  simp only[Fq]
  match l,hn,hl with
  |
   [],hn,hl =>
   have hL:At [.v (.int .i64 1),.v (.int .i64 1)] [.cells [.v (.string (mk [])),.sl (E.bj [])]] (kl 1 [.v (.int .i64 1)] []):=by
    refine CG _ _ _ _ ?_
    simp[zN,↓zq,zs,ah,kl,E.bj]
   refine db hL ?_
   simp[↓zq,zs,ah,bU,E.nd]
  |
   x::l,hn,hl =>
   simp only[E.iD]at hn hl
   have h1:=wb l
   have h2:=tC l
   have h0:=BO x
   refine db (JY (x::l) (by simp only[E.uB];omega) (by simp;omega) (fun i hi=>?_) l.length 1 1 (by simp;omega) (by simp[E.uB])) ?_
   ·have:=ui (x::l) i hi
    simp only[E.iD]at this
    exact Jk n _ (by omega) (by omega)
   ·simp[↓zq,zs,ah,E.nd,bU]
theorem J4(e:E)(hl:e.sz<900000):aB Tryz.prog 13 [e.kh] [] (bU (.v (.int .i64 (e.nd:Int)))):=Jk (e.sz+1) e (by omega) hl
inductive Vl where
 |u
 |el (k:Nat)
 |l (v:Vl)
 |r (v:Vl)
 |f (v:Vl)
 |p (a b:Vl)
abbrev wE(k:Nat):List UInt8:=101::dd k
abbrev jZ:AV:=.v (.pointer none)
def Vl.ei:Vl->AV
 | .u=>.ptr [.v (.int .u8 117),.v (.string (mk [])),jZ,jZ]
 | .el k=>.ptr [.v (.int .u8 101),.v (.string (mk (wE k))),jZ,jZ]
 | .l v=>.ptr [.v (.int .u8 108),.v (.string (mk [])),v.ei,jZ]
 | .r v=>.ptr [.v (.int .u8 114),.v (.string (mk [])),v.ei,jZ]
 | .f v=>.ptr [.v (.int .u8 102),.v (.string (mk [])),v.ei,jZ]
 | .p a b=>.ptr [.v (.int .u8 112),.v (.string (mk [])),a.ei,b.ei]
def Vl.cb:Vl->E
 | .u=>.atom [117]
 | .el k=>.atom (wE k)
 | .l v=>.list [.atom [108],v.cb]
 | .r v=>.list [.atom [114],v.cb]
 | .f v=>.list [.atom [102],v.cb]
 | .p a b=>.list [.atom [112],a.cb,b.cb]
def Vl.nodes:Vl->Nat
 | .l v=>1+v.nodes
 | .r v=>1+v.nodes
 | .f v=>1+v.nodes
 | .p a b=>1+a.nodes+b.nodes
 |_=>1
def Vl.dW(n:Nat):Vl->Prop
 | .el k=>k<n
 | .l v=>v.dW n
 | .r v=>v.dW n
 | .f v=>v.dW n
 | .p a b=>a.dW n/\b.dW n
 | .u=>True
abbrev Vl.dw(v:Vl):List UInt8:=fy v.cb
theorem bu(v:Vl):LK.has .ptr v.ei=True:=by cases v<;>simp[Vl.ei,gY]
theorem eI(v:Vl):v.ei.isNil=false:=by cases v<;>rfl
theorem mb:∀v:Vl,v.cb.ok
 | .u=>by simp[Vl.cb,E.ok]
 | .el k=>by simp[Vl.cb,E.ok]
 | .l v=>⟨by simp[E.ok],mb v,trivial⟩
 | .r v=>⟨by simp[E.ok],mb v,trivial⟩
 | .f v=>⟨by simp[E.ok],mb v,trivial⟩
 | .p a b=>⟨by simp[E.ok],mb a,mb b,trivial⟩
theorem l7:∀v:Vl,v.cb.nd=v.nodes
 | .u=>rfl
 | .el k=>rfl
 | .l v=>by simp[Vl.cb,E.nd,E.uB,Vl.nodes,l7 v]
 | .r v=>by simp[Vl.cb,E.nd,E.uB,Vl.nodes,l7 v]
 | .f v=>by simp[Vl.cb,E.nd,E.uB,Vl.nodes,l7 v]
 | .p a b=>by simp[Vl.cb,E.nd,E.uB,Vl.nodes,l7 a,l7 b,Nat.add_assoc]
theorem pq:∀v:Vl,v.cb.sz<=3*v.nodes
 | .u=>by simp[Vl.cb,E.sz,Vl.nodes]
 | .el k=>by simp[Vl.cb,E.sz,Vl.nodes]
 | .l v=>by have:=pq v;simp only[Vl.cb,E.sz,E.iD,Vl.nodes];omega
 | .r v=>by have:=pq v;simp only[Vl.cb,E.sz,E.iD,Vl.nodes];omega
 | .f v=>by have:=pq v;simp only[Vl.cb,E.sz,E.iD,Vl.nodes];omega
 | .p a b=>by have:=pq a;have:=pq b;simp only[Vl.cb,E.sz,E.iD,Vl.nodes];omega
theorem fq:∀v:Vl,v.dW 100->v.dw.length<=200*v.nodes
 | .u,_=>by simp[Vl.dw,Vl.cb,fy,Vl.nodes]
 |
  .el k,h=>by
  have h':k<100:=h
  have:=pj 1000 k (by omega)
  simp only[Vl.dw,Vl.cb,fy,Vl.nodes,aw];omega
 | .l v,h=>by have:=fq v h;simp only[Vl.dw,Vl.cb,fy,dY,Vl.nodes,aw,ak,aE]at this |-;omega
 | .r v,h=>by have:=fq v h;simp only[Vl.dw,Vl.cb,fy,dY,Vl.nodes,aw,ak,aE]at this |-;omega
 | .f v,h=>by have:=fq v h;simp only[Vl.dw,Vl.cb,fy,dY,Vl.nodes,aw,ak,aE]at this |-;omega
 | .p a b,h=>by have:=fq a h.1;have:=fq b h.2;simp only[Vl.dw,Vl.cb,fy,dY,Vl.nodes,aw,ak,aE]at *;omega
theorem Ji(a b:AV)(h:LK.ptr.has a)(h':LK.ptr.has b):aB Tryz.prog 41 [a,b] [] (bU (.ptr [.v (.int .u8 112),.v (.string (mk [])),a,b])):=by
 refine Mx _ _ h h' ?_
 simp[IP,↓zq,zs,ah,bU]
theorem ba(v:Vl):1<=v.nodes:=by cases v<;>simp[Vl.nodes]<;>omega
theorem Gv:∀(v:Vl),v.nodes<1000000->aB Tryz.prog 42 [v.ei] [] (bU (.v (.int .i64 (v.nodes:Int))))
 | .u,h=>by refine yU _ ((bu _).mpr trivial) ?_;simp[E1,Vl.ei,↓zq,zs,ah,bU,Vl.nodes]
 | .el k,h=>by refine yU _ ((bu _).mpr trivial) ?_;simp[E1,Vl.ei,↓zq,zs,ah,bU,Vl.nodes]
 |
  .l v,h=>by
  simp only[Vl.nodes]at h
  refine yU _ ((bu _).mpr trivial) ?_
  simp only[E1,Vl.ei,↓zq,zs,ah,bu,eI]
  refine⟨by omega,fun _=>⟨by omega,?_⟩,fun h=>(by cases h)⟩
  refine an (Gv v (by omega)) ?_
  simp only[↓zq,zs,ah,bU,Vl.nodes]
  rw[wrap64 _ (by omega) (by omega)]
  simp
 |
  .r v,h=>by
  simp only[Vl.nodes]at h
  refine yU _ ((bu _).mpr trivial) ?_
  simp only[E1,Vl.ei,↓zq,zs,ah,bu,eI]
  refine⟨by omega,fun _=>⟨by omega,?_⟩,fun h=>(by cases h)⟩
  refine an (Gv v (by omega)) ?_
  simp only[↓zq,zs,ah,bU,Vl.nodes]
  rw[wrap64 _ (by omega) (by omega)]
  simp
 |
  .f v,h=>by
  simp only[Vl.nodes]at h
  refine yU _ ((bu _).mpr trivial) ?_
  simp only[E1,Vl.ei,↓zq,zs,ah,bu,eI]
  refine⟨by omega,fun _=>⟨by omega,?_⟩,fun h=>(by cases h)⟩
  refine an (Gv v (by omega)) ?_
  simp only[↓zq,zs,ah,bU,Vl.nodes]
  rw[wrap64 _ (by omega) (by omega)]
  simp
 |
  .p a b,h=>by
  simp only[Vl.nodes]at h
  refine yU _ ((bu _).mpr trivial) ?_
  simp only[E1,Vl.ei,↓zq,zs,ah,bu,eI]
  refine⟨by omega,fun _=>⟨by omega,?_⟩,fun h=>(by cases h)⟩
  refine an (Gv a (by omega)) ?_
  simp only[↓zq,zs,ah,bu,eI]
  rw[wrap64 (1+(a.nodes:Int)) (by omega) (by omega)]
  refine⟨by omega,fun _=>⟨by omega,?_⟩,fun h=>(by cases h)⟩
  refine an (Gv b (by omega)) ?_
  simp only[↓zq,zs,ah,bU,Vl.nodes]
  rw[wrap64 _ (by omega) (by omega)]
  congr 2
end Go.Proofs.Trees
namespace Go.Proofs.Trees
open Go Go.VL Go.RowKit
inductive Tg where
 |nm (s:List UInt8)
 |bd (k:Nat)
 deriving DecidableEq
def Tg.up:Tg->Tg
 | .nm s=>.nm s
 | .bd k=>.bd (k+1)
def dO:Ty->Tg->Bool
 | .name s,.nm s'=>decide (s=s')
 | .bound u,.bd k=>decide (u=k)
 |_,_=>false
abbrev Hl:=Vl×Vl
def fS(g:Vl->Vl)(l:List Hl):List Hl:=l.map fun h=>(g h.1,h.2)
def jz(f:Ty->Tg->Vl->List Hl)(tg:Tg):Ty->Vl->List Hl
 | .plus a _,.l w=>fS .l (f a tg w)
 | .plus _ b,.r w=>fS .r (f b tg w)
 | .times a b,.p x y=>fS (fun c=>.l (.p c y)) (f a tg x)++fS (fun c=>.r (.p x c)) (f b tg y)
 | .rc a,.f w=>fS (fun c=>.f (.l c)) (f a tg.up w)++(f a (.bd 0) w).flatMap fun h=>fS (fun c=>.f (.r (.p h.1 c))) (f (.rc a) tg h.2)
 |_,_=>[]
def dJ:Nat->Ty->Tg->Vl->List Hl
 |0,_,_,_=>[]
 |n+1,t,tg,v=>if dO t tg=true then [(.u,v)]else jz (dJ n) tg t v
def stuck:Ty->Vl->Bool
 | .plus _ _,.l _=>false
 | .plus _ _,.r _=>false
 | .times _ _,.p _ _=>false
 | .rc _,.f _=>false
 |_,_=>true
def bF(t:Ty)(tg:Tg)(v:Vl):List Hl:=dJ v.nodes t tg v
theorem bW{g:Vl->Vl}{l:List Hl}{h:Hl}(hm:h∈fS g l):∃k,k∈l/\h=(g k.1,k.2):=by
 obtain⟨k,h1,h2⟩:=bD.1 hm
 exact⟨k,h1,h2.symm⟩
theorem jE{f g:Hl->List Hl}:∀{l:List Hl},(∀h,h∈l->f h=g h)->l.flatMap f=l.flatMap g
 |[],_=>rfl
 |h::l,hl=>by rw[aZ,aZ,hl h ag,jE (l:=l) fun k hk=>hl k (ai _ hk)]
theorem fk:∀(n:Nat) (t:Ty) (tg:Tg) (v:Vl) (h:Hl),h∈dJ n t tg v->h.2.nodes<=v.nodes/\h.1.nodes+4*h.2.nodes<=4*v.nodes+1
 |0,t,tg,v,h,hm=>by simp[dJ]at hm
 |
  n+1,t,tg,v,h,hm=>by
  unfold dJ at hm
  split at hm
  ·simp only[aQ]at hm
   subst hm
   simp only[Vl.nodes];omega
  ·unfold jz at hm
   split at hm
   ·obtain⟨k,h1,rfl⟩:=bW hm
    have:=fk n _ _ _ k h1
    simp only[Vl.nodes];omega
   ·obtain⟨k,h1,rfl⟩:=bW hm
    have:=fk n _ _ _ k h1
    simp only[Vl.nodes];omega
   ·rcases aH.1 hm with hm|hm
    ·obtain⟨k,h1,rfl⟩:=bW hm
     have:=fk n _ _ _ k h1
     simp only[Vl.nodes];omega
    ·obtain⟨k,h1,rfl⟩:=bW hm
     have:=fk n _ _ _ k h1
     simp only[Vl.nodes];omega
   ·rcases aH.1 hm with hm|hm
    ·obtain⟨k,h1,rfl⟩:=bW hm
     have:=fk n _ _ _ k h1
     simp only[Vl.nodes];omega
    ·obtain⟨k,h1,h2⟩:=cu.1 hm
     obtain⟨k2,h3,rfl⟩:=bW h2
     have:=fk n _ _ _ k h1
     have:=fk n _ _ _ k2 h3
     simp only[Vl.nodes];omega
   ·simp at hm
theorem gI:∀(n m:Nat) (t:Ty) (tg:Tg) (v:Vl),v.nodes<=n->v.nodes<=m->dJ n t tg v=dJ m t tg v
 |0,m,t,tg,v,h,_=>by have:=ba v;omega
 |n+1,0,t,tg,v,_,h=>by have:=ba v;omega
 |
  n+1,m+1,t,tg,v,hn,hm=>by
  rw[dJ,dJ]
  split
  ·rfl
  ·unfold jz
   split
   ·simp only[Vl.nodes]at hn hm;rw[gI n m _ _ _ (by omega) (by omega)]
   ·simp only[Vl.nodes]at hn hm;rw[gI n m _ _ _ (by omega) (by omega)]
   ·simp only[Vl.nodes]at hn hm;rw[gI n m _ _ _ (by omega) (by omega),gI n m _ _ _ (by omega) (by omega)]
   ·rename_i a w
    simp only[Vl.nodes]at hn hm;rw[gI n m _ _ _ (by omega) (by omega),gI n m _ (.bd 0) _ (by omega) (by omega)]
    congr 1
    apply jE
    intro h hh
    have:=(fk _ _ _ _ _ hh).1
    rw[gI n m _ _ _ (by omega) (by omega)]
   ·rfl
theorem n9{n:Nat}(t:Ty)(tg:Tg){v:Vl}(h:v.nodes<=n):dJ n t tg v=bF t tg v:=gI _ _ _ _ _ h (aq _)
theorem iW{t:Ty}{tg:Tg}(v:Vl)(h:dO t tg=true):bF t tg v=[(.u,v)]:=by
 have:=ba v
 unfold bF
 cases e:v.nodes with
 |zero=>omega
 |succ n=>rw[dJ,if_pos h]
theorem gk(a b:Ty)(tg:Tg)(w:Vl):bF (.plus a b) tg (.l w)=fS .l (bF a tg w):=by
 unfold bF;rw[show (Vl.l w).nodes=w.nodes+1 by simp[Vl.nodes];omega,dJ,if_neg (by simp[dO])];rfl
theorem gj(a b:Ty)(tg:Tg)(w:Vl):bF (.plus a b) tg (.r w)=fS .r (bF b tg w):=by
 unfold bF;rw[show (Vl.r w).nodes=w.nodes+1 by simp[Vl.nodes];omega,dJ,if_neg (by simp[dO])];rfl
theorem eY(a b:Ty)(tg:Tg)(x y:Vl):bF (.times a b) tg (.p x y)=fS (fun c=>.l (.p c y)) (bF a tg x)++fS (fun c=>.r (.p x c)) (bF b tg y):=by
 rw[bF,show (Vl.p x y).nodes=(x.nodes+y.nodes)+1 by simp[Vl.nodes];omega,dJ,if_neg (by simp[dO])]
 rw[jz,n9 a tg (by omega),n9 b tg (by omega)]
theorem eZ(a:Ty)(tg:Tg)(w:Vl):bF (.rc a) tg (.f w)=fS (fun c=>.f (.l c)) (bF a tg.up w)++(bF a (.bd 0) w).flatMap fun h=>fS (fun c=>.f (.r (.p h.1 c))) (bF (.rc a) tg h.2):=by
 rw[bF,show (Vl.f w).nodes=w.nodes+1 by simp[Vl.nodes];omega,dJ,if_neg (by simp[dO])]
 rw[jz,n9 a tg.up (aq _),n9 a (.bd 0) (aq _)]
 congr 1
 apply jE
 intro h hh
 have:=(fk _ _ _ _ _ hh).1
 rw[n9 (.rc a) tg this]
theorem cQ{t:Ty}{tg:Tg}{v:Vl}(h:dO t tg=false)(h2:stuck t v=true):bF t tg v=[]:=by
 unfold bF
 cases e:v.nodes with
 |zero=>rfl
 |
  succ n =>
  rw[dJ,if_neg (by rw[h];simp)]
  unfold jz
  split<;>first|(simp[stuck]at h2;done)|rfl
theorem gd{t:Ty}{tg:Tg}{v:Vl}{h:Hl}(hm:h∈bF t tg v):h.2.nodes<=v.nodes/\h.1.nodes+4*h.2.nodes<=4*v.nodes+1:=fk _ _ _ _ _ hm
theorem fP(n:Nat):∀(m:Nat) (t:Ty) (tg:Tg) (v:Vl) (h:Hl),v.dW n->h∈dJ m t tg v->h.1.dW n/\h.2.dW n
 |0,t,tg,v,h,hv,hm=>by simp[dJ]at hm
 |
  m+1,t,tg,v,h,hv,hm=>by
  unfold dJ at hm
  split at hm
  ·simp only[aQ]at hm
   subst hm
   exact⟨trivial,hv⟩
  ·unfold jz at hm
   split at hm
   ·obtain⟨k,h1,rfl⟩:=bW hm
    exact(fun q=>fP n m _ _ _ k q h1) hv
   ·obtain⟨k,h1,rfl⟩:=bW hm
    exact(fun q=>fP n m _ _ _ k q h1) hv
   ·rcases aH.1 hm with hm|hm
    ·obtain⟨k,h1,rfl⟩:=bW hm
     obtain⟨q1,q2⟩:=fP n m _ _ _ k hv.1 h1
     exact⟨⟨q1,hv.2⟩,q2⟩
    ·obtain⟨k,h1,rfl⟩:=bW hm
     obtain⟨q1,q2⟩:=fP n m _ _ _ k hv.2 h1
     exact⟨⟨hv.1,q1⟩,q2⟩
   ·rcases aH.1 hm with hm|hm
    ·obtain⟨k,h1,rfl⟩:=bW hm
     exact(fun q=>fP n m _ _ _ k q h1) hv
    ·obtain⟨k,h1,h2⟩:=cu.1 hm
     obtain⟨k2,h3,rfl⟩:=bW h2
     obtain⟨q1,q2⟩:=(fun q=>fP n m _ _ _ k q h1) hv
     obtain⟨q3,q4⟩:=fP n m _ _ _ k2 q2 h3
     exact⟨⟨q1,q3⟩,q4⟩
   ·simp at hm
def ia(l:List Hl):Nat:=(l.map fun h=>h.2.nodes).sum
theorem rE(l r:List Hl):ia (l++r)=ia l+ia r:=by simp[ia]
theorem nZ(g:Vl->Vl)(l:List Hl):ia (fS g l)=ia l:=by simp[ia,fS,Function.comp_def]
def kf(f:Tg->Nat)(T:List Tg):Nat:=(T.map f).sum
theorem oj(f g:Tg->Nat):∀T:List Tg,kf (fun x=>f x+g x) T=kf f T+kf g T
 |[]=>rfl
 |x::T=>by have:=oj f g T;simp only[kf,a6,cw]at this |-;omega
theorem xB{f g:Tg->Nat}:∀{T:List Tg},(∀x,x∈T->f x<=g x)->kf f T<=kf g T
 |[],_=>aq _
 |
  x::T,h=>by
  have:=xB (T:=T) fun y hy=>h y (ai _ hy)
  have:=h x ag
  simp only[kf,a6,cw]at *;omega
theorem pf{f:Tg->Nat}:∀{T:List Tg},(∀x,x∈T->f x=0)->kf f T=0
 |[],_=>rfl
 |
  x::T,h=>by
  have:=pf (T:=T) fun y hy=>h y (ai _ hy)
  have:=h x ag
  simp only[kf,a6,cw]at *;omega
theorem sD(g:Hl->Tg->Nat)(T:List Tg):∀l:List Hl,kf (fun x=>(l.map fun h=>g h x).sum) T=(l.map fun h=>kf (g h) T).sum
 |[]=>pf fun _ _=>rfl
 |
  h::l=>by
  have:=sD g T l
  simp only[a6,cw]
  rw[oj,this]
theorem sI(f:Hl->List Hl):∀l:List Hl,ia (l.flatMap f)=(l.map fun h=>ia (f h)).sum
 |[]=>rfl
 |h::l=>by rw[aZ,rE,sI f l];simp
theorem An{f g:Hl->Nat}:∀{l:List Hl},(∀x,x∈l->f x<=g x)->(l.map f).sum<=(l.map g).sum
 |[],_=>aq _
 |
  x::l,h=>by
  have:=An (l:=l) fun y hy=>h y (ai _ hy)
  have:=h x ag
  simp only[a6,cw]at *;omega
theorem zK{t:Ty}{x y:Tg}(h:dO t x=true)(h':dO t y=true):x=y:=by
 cases t<;>cases x<;>cases y<;>simp[dO]at h h'<;>simp_all
theorem xm{t:Ty}(n:Nat):∀{T:List Tg},T.Nodup->kf (fun x=>if dO t x=true then n else 0) T<=n
 |[],_=>cG _
 |
  x::T,h=>by
  obtain⟨h1,h2⟩:=List.nodup_cons.1 h
  have ih:=xm (t:=t) n h2
  by_cases hx:dO t x=true
  ·have:kf (fun x=>if dO t x=true then n else 0) T=0:=pf fun y hy=>by
    rw[if_neg fun hy'=>h1 (by rw[zK hx hy'];exact hy)]
   simp only[kf,a6,cw]at *
   rw[if_pos hx];omega
  ·simp only[kf,a6,cw]at *
   rw[if_neg hx];omega
theorem Ah{T:List Tg}(h:T.Nodup):(Tg.bd 0::T.map Tg.up).Nodup:=by
 refine List.nodup_cons.2 ⟨fun hm=>?_,?_⟩
 ·obtain⟨x,_,e⟩:=bD.1 hm
  cases x<;>simp[Tg.up]at e
 ·refine List.Pairwise.map _ (fun a b hab e=>hab ?_) h
  cases a<;>cases b<;>simp[Tg.up]at e<;>simp_all
theorem apart:∀(n:Nat) (v:Vl),v.nodes<=n->∀(t:Ty) (T:List Tg),T.Nodup->kf (fun x=>ia (bF t x v)) T<=v.nodes
 |0,v,h=>by have:=ba v;omega
 |
  n+1,v,hn=>by
  intro t T hT
  have base:∀(hno:∀x,dO t x=false->bF t x v=[]),kf (fun x=>ia (bF t x v)) T<=v.nodes:=fun hno=>by
   refine Nat.le_trans (xB fun x _=>?_) (xm (t:=t) v.nodes hT)
   cases e:dO t x with
   |true=>rw[iW v e];simp[ia]
   |false=>rw[hno x e];simp[ia]
  cases hm:stuck t v with
  |true=>exact base fun x hx=>cQ hx hm
  |
   false =>
   unfold stuck at hm
   split at hm
   ·rename_i a b w
    simp only[Vl.nodes]at hn |-
    simp only[gk,nZ]
    have:=apart n w (by omega) a T hT
    omega
   ·rename_i a b w
    simp only[Vl.nodes]at hn |-
    simp only[gj,nZ]
    have:=apart n w (by omega) b T hT
    omega
   ·rename_i a b x y
    simp only[Vl.nodes]at hn |-
    simp only[eY,rE,nZ]
    rw[oj]
    have:=apart n x (by omega) a T hT
    have:=apart n y (by omega) b T hT
    omega
   ·rename_i a w
    simp only[Vl.nodes]at hn |-
    simp only[eZ,rE,nZ,sI]
    rw[oj,sD]
    have h1:=apart n w (by omega) a _ (Ah hT)
    simp only[kf,a6,cw,List.map_map]at h1
    have h2:((bF a (.bd 0) w).map fun h=>kf (fun x=>ia (bF (.rc a) x h.2)) T).sum<=ia (bF a (.bd 0) w):=An fun h hh=>by
     have:=(gd hh).1
     exact apart n h.2 (by omega) (.rc a) T hT
    simp only[kf,Function.comp_def]at h1 h2 |-
    omega
   ·cases hm
theorem nE(t:Ty)(tg:Tg)(v:Vl):ia (bF t tg v)<=v.nodes:=by
 have:=apart v.nodes v (aq _) t [tg] (by simp)
 simpa[kf]using this
theorem qZ:∀l:List Hl,l.length<=ia l
 |[]=>cG _
 |
  h::l=>by
  have:=qZ l
  have:=ba h.2
  simp only[ia,a6,cw,aw]at *;omega
theorem sP(t:Ty)(tg:Tg)(v:Vl):(bF t tg v).length<=v.nodes:=Nat.le_trans (qZ _) (nE t tg v)
end Go.Proofs.Trees
namespace Go.Proofs.Trees
open Go Go.VL Go.RowKit
def kids(a:Ty):Vl->List Hl
 | .f w=>bF a (.bd 0) w
 |_=>[]
theorem sW(a:Ty)(v:Vl):ia (kids a v)+1<=v.nodes:=by
 cases v with
 |f w=>have:=nE a (.bd 0) w;simp only[kids,Vl.nodes];omega
 |_=>simp only[kids,ia,Vl.nodes,List.map_nil,List.sum_nil];omega
theorem ot{a:Ty}{v:Vl}{h:Hl}(hh:h∈kids a v):h.2.nodes<v.nodes:=by
 cases v with
 |f w=>have:=(gd hh).1;simp only[Vl.nodes];omega
 |_=>cases hh
theorem mJ{n:Nat}{a:Ty}{v:Vl}{h:Hl}(hv:v.dW n)(hh:h∈kids a v):h.1.dW n/\h.2.dW n:=by
 cases v with
 |f w=>exact fP n _ _ _ w h hv hh
 |_=>cases hh
abbrev Pt:=Vl×List Nat
def lT(pl:List Nat):List Hl->Nat->List Pt
 |[],_=>[]
 |h::l,i=>(h.2,pl++[i])::lT pl l (i+1)
theorem mz{pl:List Nat}{q:Pt}:∀{l:List Hl} {i:Nat},q∈lT pl l i->∃h,h∈l/\q.1=h.2
 |[],_,hq=>by cases hq
 |
  h::l,i,hq=>by
  rcases aI.1 hq with rfl|hq
  ·exact⟨h,ag,rfl⟩
  ·obtain⟨k,h1,h2⟩:=mz hq
   exact⟨k,ai _ h1,h2⟩
theorem yK(pl:List Nat)(l:List Hl){i:Nat}(hi:i<l.length):lT pl (l.drop i) i=((l[i]).2,pl++[i])::lT pl (l.drop (i+1)) (i+1):=by
 rw[aP hi,lT]
def jb:Nat->Ty->Pt->List Pt
 |0,_,_=>[]
 |n+1,a,p=>p::(lT p.2 (kids a p.1) 0).flatMap (jb n a)
theorem uY{f:Pt->List Pt}(hf:∀q,(f q).length<=q.1.nodes)(pl:List Nat):∀(l:List Hl) (i:Nat),((lT pl l i).flatMap f).length<=ia l
 |[],i=>by simp[lT]
 |
  h::l,i=>by
  have:=uY hf pl l (i+1)
  have:=hf (h.2,pl++[i])
  simp only[lT,aZ,ak,ia,a6,cw]at *;omega
theorem nr:∀(n:Nat) (a:Ty) (p:Pt),(jb n a p).length<=p.1.nodes
 |0,a,p=>cG _
 |
  n+1,a,p=>by
  have:=uY (f:=jb n a) (fun q=>nr n a q) p.2 (kids a p.1) 0
  have:=sW a p.1
  simp only[jb,aw];omega
def Fe(f:List Pt->List Pt)(ps:List Pt):Prop:=∀out,(out.length+ps.length<=100->f out=out++ps)/\(100<out.length+ps.length->100<(f out).length)/\out.length<=(f out).length/\(f out).length<=out.length+ps.length
theorem sO{g:List Pt->Pt->List Pt}{ps:Pt->List Pt}:∀(qs:List Pt),(∀q,q∈qs->Fe (fun o=>g o q) (ps q))->Fe (fun o=>qs.foldl g o) (qs.flatMap ps)
 |[],_=>fun out=>by simp
 |
  q::qs,h=>fun out=>by
  have ih:=sO qs fun q hq=>h q (ai _ hq)
  obtain⟨a1,a2,a3,a4⟩:=h q ag out
  obtain⟨b1,b2,b3,b4⟩:=ih (g out q)
  simp only[List.foldl_cons,aZ,ak]at *
  refine⟨fun hle=>?_,fun hlt=>?_,by omega,by omega⟩
  ·rw[a1 (by omega)]at b1 |-
   rw[b1 (by rw[ak];omega),bq]
  ·by_cases hq:out.length+(ps q).length<=100
   ·rw[a1 hq]at b2 |-
    exact b2 (by rw[ak];omega)
   ·have:=a2 (by omega);omega
def lM:Nat->Ty->List Pt->Pt->List Pt
 |0,_,out,_=>out
 |n+1,a,out,p=>(lT p.2 (kids a p.1) 0).foldl (fun o q=>if o.length<=100 then lM n a o q else o) (out++[p])
theorem qN:∀(n:Nat) (a:Ty) (p:Pt),p.1.nodes<=n->Fe (fun o=>lM n a o p) (jb n a p)
 |0,a,p,h=>by have:=ba p.1;omega
 |
  n+1,a,p,h=>fun out=>by
  have hk:=sO (g:=fun o q=>if o.length<=100 then lM n a o q else o) (ps:=jb n a) (lT p.2 (kids a p.1) 0) fun q hq=>fun o=>by
   obtain⟨k,h1,h2⟩:=mz hq
   have:=ot h1
   have hw:=qN n a q (by rw[h2];omega) o
   have hpos:0<(jb n a q).length:=by
    cases n with
    |zero=>have:=ba k.2;omega
    |succ n=>simp[jb]
   simp only at hw |-
   split
   ·exact hw
   ·exact⟨fun hle=>by omega,fun _=>by omega,aq _,by omega⟩
  obtain⟨b1,b2,b3,b4⟩:=hk (out++[p])
  simp only[lM,jb,aw,ak,aE]at *
  refine⟨fun hle=>?_,fun hlt=>b2 (by omega),by omega,by omega⟩
  rw[b1 (by omega),bq];rfl
def parts(a:Ty)(v:Vl):List Pt:=jb v.nodes a (v,[])
theorem wx(a:Ty)(v:Vl):((parts a v).length<=100->lM v.nodes a [] (v,[])=parts a v)/\(100<(parts a v).length->100<(lM v.nodes a [] (v,[])).length)/\(lM v.nodes a [] (v,[])).length<=v.nodes:=by
 obtain⟨h1,h2,_,h4⟩:=qN v.nodes a (v,[]) (aq _) []
 have:=nr v.nodes a (v,[])
 simp only[aE,aR,bg]at h1 h2 h4 this
 exact⟨h1,h2,Nat.le_trans h4 this⟩
end Go.Proofs.Trees
namespace Go.Proofs.Trees
open Go Go.VL Go.RowKit
def yN:List UInt8->Nat->Option Nat
 |[],n=>some n
 |b::r,n=>if gN b=true then yN r (10*n+(b.toNat-48))else none
def fu(s:List UInt8):Option Nat :=
 if s.length=2\/s.length=3 then(if s.getD 0 0=101/\¬(s.length=3/\s.getD 1 0=48)then yN (s.drop 1) 0 else none)else none
def Bu(s:List UInt8):Int:=match fu s with|some k=>(k:Int)|none=>-1
theorem KO(s:List UInt8)(hs:s.length<=3):∀(k i n:Nat),i+k=s.length->1<=i->(n+1)*10 ^ k<=1000->GX [.v (.string (mk s)),.v (.int .i64 (n:Int)),.v (.int .i64 (i:Int))] []
 (se (match yN (s.drop i) n with|some m=>(1,[.v (.int .i64 (m:Int))],[])|none=>(2,[.v (.int .i64 (-1))],[])))
 |
  0,i,n,hi,h1,hn=>by
  refine IQ _ _ _ ?_
  have hd:s.drop i=[]:=bx (by omega)
  simp only[FL,↓zq,zs,ah,zt,hd,yN]
  exact⟨fun h=>by omega,fun _=>by first|trivial|rfl⟩
 |
  k+1,i,n,hi,h1,hn=>by
  have hlt:i<s.length:=by omega
  refine IQ _ _ _ ?_
  rw[drop_cons hlt,yN]
  simp only[FL,↓zq,zs,ah,zt,lO s i hlt]
  generalize s.getD i 0=b
  have hb:=b.toNat_lt
  refine⟨fun _=>⟨by omega,fun h48=>?_,fun h48=>⟨by omega,fun h57=>?_,fun h57=>⟨by omega,?_⟩⟩⟩,fun h=>by omega⟩
  ·have:gN b=false:=by simp only[gN,decide_eq_false_iff_not];omega
   rw[this];rfl
  ·have:gN b=false:=by simp only[gN,decide_eq_false_iff_not];omega
   rw[this];rfl
  ·have:gN b=true:=by simp only[gN,decide_eq_true_eq];omega
   rw[if_pos this]
   have hk:k=0\/k=1:=by omega
   have hn2:n*10<=1000:=by
    rcases hk with rfl|rfl<;>simp at hn<;>omega
   have e8:IntKind.wrap .u8 ((b.toNat:Int)-48)=((b.toNat-48:Nat):Int):=by
    have:b.toNat=48\/b.toNat=49\/b.toNat=50\/b.toNat=51\/b.toNat=52\/b.toNat=53\/b.toNat=54\/b.toNat=55\/b.toNat=56\/b.toNat=57:=by omega
    rcases this with h|h|h|h|h|h|h|h|h|h<;>rw[h]<;>rfl
   rw[e8,bX i (by omega),wrap64 ((b.toNat-48:Nat):Int) (by omega) (by omega),wrap64 (10*(n:Int)) (by omega) (by omega),wrap64 _ (by omega) (by omega)]
   have e:(10*(n:Int)+((b.toNat-48:Nat):Int))=((10*n+(b.toNat-48):Nat):Int):=by omega
   rw[e]
   exact KO s hs k (i+1) _ (by omega) (by omega) (by rcases hk with rfl|rfl<;>simp at hn |-<;>omega)
theorem KT(s:List UInt8):aB Tryz.prog 57 [.v (.string (mk s))] [] (bU (.v (.int .i64 (Bu s)))):=by
 refine NR _ ?_
 unfold KE
 refine an (Ct _ _ _) ?_
 simp only[↓zq,zs,ah,zt,D0,bU]
 have hL:∀(Q:Nat->List AV->List Ob->Prop),(s.length=2\/s.length=3)->s.getD 0 0=101->¬(s.length=3/\s.getD 1 0=48)->(Q 0 [.v (.int .i64 (Bu s))] []) ->
  eH Tryz.prog 49 (.loop C0 BH [.v (.string (mk s)),.v (.int .i64 0),.v (.int .i64 1)] [] (fun y2 q2=>.al (LK.has (.int .i64) (y2.headD .any))<|.done 0 [.v (.int .i64 ((y2.headD .any).toInt))] []) (fun y2 q2=>.al (LK.has (.int .i64) (y2.headD .any))<|.done 0 [.v (.int .i64 ((y2.headD .any).toInt))] [])) Q:=by
  intro Q hl h0 h1 hQ
  have e:fu s=yN (s.drop 1) 0:=by rw[fu,if_pos hl,if_pos ⟨h0,h1⟩]
  refine i4 (KO s (by omega) (s.length-1) 1 0 (by omega) (by omega) (by rcases hl with h|h<;>rw[h]<;>decide)) (fun ys o e'=>?_) (fun ys o e'=>?_)
  ·cases hq:yN (s.drop 1) 0<;>rw[hq]at e'<;>cases e'
   rw[hq]at e
   simp only[Bu,e]at hQ
   simp only[↓zq,zs,ah];exact hQ
  ·cases hq:yN (s.drop 1) 0<;>rw[hq]at e'<;>cases e'
   rw[hq]at e
   simp only[Bu,e]at hQ
   simp only[↓zq,zs,ah];exact hQ
 have hz:∀{i:Nat},i<s.length->bt (mk s) (i:Int)=((s.getD i 0).toNat:Int):=fun h=>lO s _ h
 refine⟨fun h=>?_,fun h=>⟨?_,fun h0=>?_,fun h0=>⟨fun h3=>⟨by omega,fun h1=>?_,fun h1=>?_⟩,fun h3=>?_⟩⟩⟩
 ·have h':¬(2<=(s.length:Int)/\(s.length:Int)<=3):=by simpa using h
  rw[Bu,fu,if_neg (by omega)]
 ·have h':2<=(s.length:Int)/\(s.length:Int)<=3:=by simpa using h
  omega
 ·have h':2<=(s.length:Int)/\(s.length:Int)<=3:=by simpa using h
  have e0:=hz (i:=0) (by omega)
  simp only[cH,cY]at e0
  rw[e0]at h0
  rw[Bu,fu,if_pos (by omega),if_neg]
  rintro⟨e,_⟩
  rw[e]at h0;exact h0 rfl
 ·have h':2<=(s.length:Int)/\(s.length:Int)<=3:=by simpa using h
  have e1:=hz (i:=1) (by omega)
  simp only[cH,cY]at e1
  rw[e1]at h1
  rw[Bu,fu,if_pos (by omega),if_neg]
  rintro⟨_,e⟩
  refine e ⟨by omega,?_⟩
  rw[<-dE];show (s.getD 1 0).toNat=48;omega
 ·have h':2<=(s.length:Int)/\(s.length:Int)<=3:=by simpa using h
  have e0:=hz (i:=0) (by omega)
  have e1:=hz (i:=1) (by omega)
  simp only[cH,cY]at e0 e1
  rw[e0]at h0;rw[e1]at h1
  refine hL _ (by omega) ?_ ?_ ⟨rfl,rfl⟩
  ·rw[<-dE];show (s.getD 0 0).toNat=101;omega
  ·rintro⟨_,e⟩;rw[e]at h1;exact h1 rfl
 ·have h':2<=(s.length:Int)/\(s.length:Int)<=3:=by simpa using h
  have e0:=hz (i:=0) (by omega)
  simp only[cH,cY]at e0
  rw[e0]at h0
  refine hL _ (by omega) ?_ ?_ ⟨rfl,rfl⟩
  ·rw[<-dE];show (s.getD 0 0).toNat=101;omega
  ·rintro⟨e,_⟩;omega
theorem oE:∀(l:List UInt8) (n:Nat),(yN l n).isSome=l.all gN
 |[],n=>rfl
 |
  b::l,n=>by
  rw[yN]
  cases hb:gN b with
  |true=>rw[if_pos rfl,oE l];simp[hb]
  |false=>rw[if_neg (by simp)];simp[hb]
theorem IM(s:List UInt8):aB Tryz.prog 88 [.v (.string (mk s))] [] (bU (.v (.bool (fu s).isSome))):=by
 refine MQ _ ?_
 simp only[Jf,↓zq,zs,ah,zt,bU]
 have hz:∀{i:Nat},i<s.length->bt (mk s) (i:Int)=((s.getD i 0).toNat:Int):=fun h=>lO s _ h
 refine⟨fun h=>?_,fun h=>⟨fun h3=>?_,fun h3=>?_⟩⟩
 ·rw[fu,if_neg (by omega)];rfl
 ·rw[fu,if_neg (by omega)];rfl
 ·have e0:=hz (i:=0) (by omega)
  have e1:=hz (i:=1) (by omega)
  simp only[cH,cY]at e0 e1
  rw[e0,e1]
  have hx:s.drop (bQ 1)=s.drop 1:=rfl
  refine⟨by omega,fun h0=>?_,fun h0=>⟨by omega,?_⟩⟩
  ·rw[fu,if_pos (by omega),if_neg]
   ·rfl
   ·rintro⟨e,_⟩;rw[e]at h0;exact h0 rfl
  ·rw[hx]
   refine an (Ih (s.drop 1) Gy (by simp;omega) (by decide) (by decide)) ?_
   simp only[↓zq,zs,ah,zt]
   have h101:s.getD 0 0=101:=by rw[<-dE];show (s.getD 0 0).toNat=101;omega
   have hall:Lib.trimS (s.drop 1) Gy=[]↔(s.drop 1).all gN=true:=by
    rw[tb]
    have:(fun x=>Gy.contains x)=gN:=funext vq
    rw[this]
   refine⟨fun ht=>?_,fun ht=>⟨fun h2=>?_,fun h2=>⟨by omega,?_⟩⟩⟩
   ·have:(s.drop 1).all gN=false:=by
     cases hq:(s.drop 1).all gN with
     |false=>rfl
     |true=>exact absurd (hall.2 hq) ht
    rw[fu,if_pos (by omega)]
    split
    ·rw[oE,this]
    ·rfl
   ·have hq:=hall.1 ht
    rw[fu,if_pos (by omega),if_pos ⟨h101,by omega⟩,oE,hq]
   ·have hq:=hall.1 ht
    rw[fu,if_pos (by omega)]
    by_cases h48:s.getD 1 0=48
    ·rw[if_neg (by rintro⟨_,e⟩;exact e ⟨by omega,h48⟩),h48];rfl
    ·rw[if_pos ⟨h101,fun e=>h48 e.2⟩,oE,hq]
     have:¬((s.getD 1 0).toNat:Int)=48:=fun e=>h48 (by rw[<-dE];show (s.getD 1 0).toNat=48;omega)
     rw[bne_iff_ne.2 this]
theorem s7{s:List UInt8}{k:Nat}(h:fu s=some k):s=wE k/\k<100:=by
 have key1:∀a:Fin 256,gN (bb a.val)=true->yN [bb a.val] 0=some ((bb a.val).toNat-48)/\(bb a.val).toNat-48<10/\[bb a.val]=[bb (48+((bb a.val).toNat-48))]:=by decide +kernel
 unfold fu at h
 split at h
 ·rename_i hl
  split at h
  ·rename_i hh
   obtain⟨h0,h1⟩:=hh
   rcases hl with hl|hl
   ·match s,hl with
    |
     [c,a],_ =>
     simp only[bh]at h0
     subst h0
     simp only[List.drop_succ_cons,bz,yN]at h
     split at h
     ·rename_i ha
      have:=key1 ⟨a.toNat,a.toNat_lt⟩ (by simpa using ha)
      simp only[UInt8.ofNat_toNat]at this
      cases h
      refine⟨?_,by omega⟩
      rw[wE,fa (by omega)]
      simp only[Nat.mul_zero,aR]
      rw[<-this.2.2]
     ·cases h
   ·match s,hl with
    |
     [c,a,b],_ =>
     simp only[bh,List.getD_cons_succ,aw,aE,true_and]at h0 h1
     subst h0
     simp only[List.drop_succ_cons,bz,yN]at h
     split at h
     ·rename_i ha
      split at h
      ·rename_i hb
       have k1:=key1 ⟨a.toNat,a.toNat_lt⟩ (by simpa using ha)
       have k2:=key1 ⟨b.toNat,b.toNat_lt⟩ (by simpa using hb)
       simp only[UInt8.ofNat_toNat]at k1 k2
       have ha':48<=a.toNat/\a.toNat<=57:=by simpa[gN]using ha
       have hb':48<=b.toNat/\b.toNat<=57:=by simpa[gN]using hb
       have h48:a.toNat≠48:=fun e=>h1 (by rw[<-dE];simpa using e)
       cases h
       simp only[Nat.mul_zero,aR]
       refine⟨?_,by omega⟩
       rw[wE,fL (by omega),fa (by omega)]
       have e1:(10*(a.toNat-48)+(b.toNat-48))/10=a.toNat-48:=by omega
       have e2:(10*(a.toNat-48)+(b.toNat-48))%10=b.toNat-48:=by omega
       rw[e1,e2,<-k1.2.2,<-k2.2.2];rfl
      ·cases h
     ·cases h
  ·cases h
 ·cases h
theorem uC(k:Nat)(h:k<100):fu (wE k)=some k:=by
 have e:∀k,k<100->dd k=if k<10 then [bb (48+k)]else [bb (48+k/10),bb (48+k%10)]:=by
  intro k hk
  by_cases h1:k<10
  ·rw[fa h1,if_pos h1]
  ·rw[fL h1,fa (by omega),if_neg h1];rfl
 have key:∀k:Fin 100,fu (101::(if k.val<10 then [bb (48+k.val)]else [bb (48+k.val/10),bb (48+k.val%10)]))=some k.val:=by decide +kernel
 rw[wE,e k h];exact key ⟨k,h⟩
theorem GD(k:Nat)(h:k<100):Bu (wE k)=(k:Int):=by rw[Bu,uC k h]
def xV:E->Bool
 | .atom s=>(s==[117])||(fu s).isSome
 | .list [x,a]=>((x.at==[108])||(x.at==[114])||(x.at==[102]))&&xV a
 | .list [x,a,b]=>(x.at==[112])&&(xV a&&xV b)
 | .list _=>false
def fp:E->Option Vl
 | .atom s=>if s=[117]then some .u else match fu s with|some k=>some (.el k)|none=>none
 |
  .list [x,a]=>match fp a with
  |none=>none
  |some v=>if x.at=[108]then some (.l v)else if x.at=[114]then some (.r v)else if x.at=[102]then some (.f v)else none
 | .list [x,a,b]=>if x.at=[112]then(match fp a,fp b with|some v,some w=>some (.p v w)|_,_=>none)else none
 | .list _=>none
theorem nT:∀e:E,(fp e).isSome=xV e
 |
  .atom s=>by
  simp only[fp,xV]
  by_cases h:s=[117]
  ·simp[h]
  ·rw[if_neg h];cases fu s<;>simp[h]
 | .list []=>rfl
 | .list [_]=>rfl
 |
  .list [x,a]=>by
  have ha:=nT a
  rw[fp,xV,<-ha]
  cases fp a with
  |none=>simp
  |
   some v =>
   by_cases h1:x.at=[108]
   ·simp[h1]
   ·by_cases h2:x.at=[114]
    ·simp[h2]
    ·by_cases h3:x.at=[102]
     ·simp[h3]
     ·simp[h1,h2,h3]
 |
  .list [x,a,b]=>by
  have ha:=nT a
  have hb:=nT b
  rw[fp,xV,<-ha,<-hb]
  by_cases h1:x.at=[112]
  ·rw[if_pos h1,h1];cases fp a<;>cases fp b<;>rfl
  ·simp[h1]
 | .list (_::_::_::_::_)=>rfl
theorem j2{x:E}{w:List UInt8}(h:x.at=w)(hw:w≠[]):x=.atom w:=by
 cases x with
 |atom s=>exact congrArg E.atom h
 |list l=>exact absurd h.symm hw
theorem kE:∀(e:E) (v:Vl),fp e=some v->v.cb=e/\v.dW 100
 |
  .atom s,v,h=>by
  simp only[fp]at h
  split at h
  ·rename_i h1;cases h;exact⟨by rw[h1];rfl,trivial⟩
  ·split at h
   ·rename_i k hk
    cases h
    obtain⟨h1,h2⟩:=s7 hk
    exact⟨by rw[h1];rfl,h2⟩
   ·cases h
 | .list [],_,h=>by cases h
 | .list [_],_,h=>by cases h
 | .list (_::_::_::_::_),_,h=>by cases h
 |
  .list [x,a],v,h=>by
  rw[fp]at h
  split at h
  ·cases h
  ·rename_i w hw
   obtain⟨h1,h2⟩:=kE a w hw
   split at h
   ·rename_i hx;cases h;rw[j2 hx (by simp)];exact⟨by rw[Vl.cb,h1],h2⟩
   ·split at h
    ·rename_i hx;cases h;rw[j2 hx (by simp)];exact⟨by rw[Vl.cb,h1],h2⟩
    ·split at h
     ·rename_i hx;cases h;rw[j2 hx (by simp)];exact⟨by rw[Vl.cb,h1],h2⟩
     ·cases h
 |
  .list [x,a,b],v,h=>by
  rw[fp]at h
  split at h
  ·rename_i hx
   split at h
   ·rename_i w1 w2 hw1 hw2
    cases h
    obtain⟨h1,h2⟩:=kE a w1 hw1
    obtain⟨h3,h4⟩:=kE b w2 hw2
    rw[j2 hx (by simp)]
    exact⟨by rw[Vl.cb,h1,h3],h2,h4⟩
   ·cases h
  ·cases h
def pS(e:E)(w:List UInt8)(k:Nat):Bool:=match e with| .list (x::l)=>decide (l.length+1=k)&&(x.at==w)|_=>false
theorem s4(e:E)(w:List UInt8)(k:Nat)(hk:1<=k):aB Tryz.prog 89 [e.ei,.v (.string (mk w)),.v (.int .i64 (k:Int))] [] (bU (.v (.bool (pS e w k)))):=by
 refine Hu _ _ _ ((cJ e).mpr trivial) ?_
 cases e with
 |atom s=>simp only[Af,E.ei,↓zq,zs,ah,zt,bU,pS];exact⟨by omega,fun h=>by omega,fun _=>trivial⟩
 |
  list l =>
  simp only[Af,E.ei,↓zq,zs,ah,zt,bU,rT]
  cases l with
  |nil=>exact⟨by simp,fun h=>by simp at h;omega,fun _=>rfl⟩
  |
   cons x l =>
   simp only[aw]
   refine⟨by simp,fun h=>?_,fun h=>?_⟩
   ·have:decide (l.length+1=k)=true:=by rw[decide_eq_true_eq];omega
    simp only[pS,this]
    cases x<;>simp[E.lR,E.ei,gY,pg,jt,dU,tP,toList_mk,E.at]
   ·have:decide (l.length+1=k)=false:=by rw[decide_eq_false_iff_not];omega
    simp only[pS,this];rfl
def iH:Option Vl->AV
 |some v=>v.ei
 |none=>.v (.pointer none)
end Go.Proofs.Trees
namespace Go.Proofs.Trees
open Go Go.VL Go.RowKit
theorem fb(v:Option Vl):LK.has .ptr (iH v)=True:=by cases v<;>simp[iH,bu,j3]
theorem Hk:∀(e:E),e.ok->aB Tryz.prog 71 [e.ei] [] (bU (iH (fp e)))
 |
  .atom s,hok=>by
  refine Je _ ((cJ _).mpr trivial) ?_
  have hd:=nC (.atom s)
  have hlen:=lC (.atom s)
  simp only[E.at]at hd
  simp only[E2,↓zq,zs,ah,zt,bU,cJ,dP,hd,fp]
  refine⟨hlen,fun h=>?_,fun h=>⟨hlen,?_⟩⟩
  ·rw[if_pos h];rfl
  ·rw[if_neg h]
   refine an (IM s) ?_
   simp only[↓zq,zs,ah,zt]
   refine⟨fun he=>⟨hlen,?_⟩,fun he=>?_⟩
   ·obtain⟨k,hk⟩:=a7.1 he
    obtain⟨h1,h2⟩:=s7 hk
    rw[hk,h1];rfl
   ·have hn:fu s=none:=by cases hq:fu s<;>simp[hq]at he |-
    rw[hn]
    refine an (s4 (.atom s) [108] 2 (by omega)) ?_
    simp only[pS,↓zq,zs,ah,zf]
    refine⟨fun h=>(by cases h),fun _=>an (s4 (.atom s) [114] 2 (by omega)) ?_⟩
    simp only[pS,↓zq,zs,ah,zf]
    refine⟨fun h=>(by cases h),fun _=>an (s4 (.atom s) [102] 2 (by omega)) ?_⟩
    simp only[pS,↓zq,zs,ah,zf]
    refine⟨fun h=>(by cases h),fun _=>an (s4 (.atom s) [112] 3 (by omega)) ?_⟩
    simp only[pS,↓zq,zs,ah,zf]
    exact⟨fun h=>(by cases h),fun _=>rfl⟩
 |
  .list l,hok=>by
  refine Je _ ((cJ _).mpr trivial) ?_
  have hd:=nC (.list l)
  have hlen:=lC (.list l)
  have hlen2:∀{l:List E},((AV.v (.string (mk [])))::[AV.sl (E.lR l)]).length=2:=rfl
  simp only[E.at]at hd
  have he:fu []=none:=rfl
  simp only[E2,↓zq,zs,ah,zt,bU,cJ,dP,hd]
  refine⟨hlen,fun h=>(by cases h),fun h=>⟨hlen,?_⟩⟩
  refine an (IM []) ?_
  rw[he]
  simp only[↓zq,zs,ah,zt,zf,Option.isSome_none]
  refine⟨fun h=>(by cases h),fun _=>an (s4 (.list l) [108] 2 (by omega)) ?_⟩
  have hno:∀w:List UInt8,(∀x a,l≠[x,a])->pS (.list l) w 2=false:=by
   intro w h2
   match l,h2 with
   |[],_=>rfl
   |[x],_=>rfl
   |[x,a],h2=>exact absurd rfl (h2 x a)
   |x::y::z::l,_=>simp[pS]
  match l,hok,hno,hlen with
  |
   [x,a],hok,hno,hlen =>
   clear hno
   obtain⟨ok1,ok2,_⟩:=hok
   have e2:∀w:List UInt8,pS (.list [x,a]) w 2=(x.at==w):=fun w=>rfl
   have e3:pS (.list [x,a]) [112] 3=false:=rfl
   have hx:=nC x
   have hxl:=lC x
   rw[fp]
   simp only[e2,↓zq,zs,ah]
   refine⟨fun h1=>?_,fun h1=>an (s4 (.list [x,a]) [114] 2 (by omega)) ?_⟩
   ·simp only[E.ei,E.lR,toNat_one,↓zq,zs,ah,zt,cJ,dP]
    refine⟨by omega,by omega,by omega,an (Hk a ok2) ?_⟩
    cases hv:fp a with
    |none=>simp only[iH,↓zq,zs,ah,fb];exact⟨fun _=>trivial,fun h=>(by cases h)⟩
    |
     some v =>
     simp only[iH,↓zq,zs,ah,zt,bu,eI,hx,h1,cJ,dP]
     refine⟨fun h=>(by cases h),fun _=>⟨by omega,by omega,by omega,hxl,by simp,?_⟩⟩
     rfl
   ·simp only[e2,↓zq,zs,ah]
    refine⟨fun h2=>?_,fun h2=>an (s4 (.list [x,a]) [102] 2 (by omega)) ?_⟩
    ·simp only[E.ei,E.lR,toNat_one,↓zq,zs,ah,zt,cJ,dP]
     refine⟨by omega,by omega,by omega,an (Hk a ok2) ?_⟩
     cases hv:fp a with
     |none=>simp only[iH,↓zq,zs,ah,fb];exact⟨fun _=>trivial,fun h=>(by cases h)⟩
     |
      some v =>
      simp only[iH,↓zq,zs,ah,zt,bu,eI,hx,h2,cJ,dP]
      refine⟨fun h=>(by cases h),fun _=>⟨by omega,by omega,by omega,hxl,by simp,?_⟩⟩
      rfl
    ·simp only[e2,↓zq,zs,ah]
     refine⟨fun h3=>?_,fun h3=>an (s4 (.list [x,a]) [112] 3 (by omega)) ?_⟩
     ·simp only[E.ei,E.lR,toNat_one,↓zq,zs,ah,zt,cJ,dP]
      refine⟨by omega,by omega,by omega,an (Hk a ok2) ?_⟩
      cases hv:fp a with
      |none=>simp only[iH,↓zq,zs,ah,fb];exact⟨fun _=>trivial,fun h=>(by cases h)⟩
      |
       some v =>
       simp only[iH,↓zq,zs,ah,zt,bu,eI,hx,h3,cJ,dP]
       refine⟨fun h=>(by cases h),fun _=>⟨by omega,by omega,by omega,hxl,by simp,?_⟩⟩
       rfl
     ·rw[e3]
      simp only[↓zq,zs,ah]
      refine⟨fun h=>(by cases h),fun _=>?_⟩
      cases fp a with
      |none=>rfl
      |some v=>simp only[if_neg h1,if_neg h2,if_neg h3];rfl
  |
   [x,a,b],hok,hno,hlen =>
   obtain⟨ok1,ok2,ok3,_⟩:=hok
   have h2:=fun w=>hno w (fun x a h=>(by cases h))
   rw[h2]
   simp only[↓zq,zs,ah]
   refine⟨fun h=>(by cases h),fun _=>an (s4 (.list [x,a,b]) [114] 2 (by omega)) ?_⟩
   rw[h2]
   simp only[↓zq,zs,ah]
   refine⟨fun h=>(by cases h),fun _=>an (s4 (.list [x,a,b]) [102] 2 (by omega)) ?_⟩
   rw[h2]
   simp only[↓zq,zs,ah]
   refine⟨fun h=>(by cases h),fun _=>an (s4 (.list [x,a,b]) [112] 3 (by omega)) ?_⟩
   have e3:pS (.list [x,a,b]) [112] 3=(x.at==[112]):=rfl
   rw[e3,fp]
   simp only[↓zq,zs,ah]
   refine⟨fun h1=>?_,fun h1=>?_⟩
   ·rw[if_pos h1]
    simp only[E.ei,E.lR,toNat_one,bf,↓zq,zs,ah,zt,cJ,dP]
    refine⟨by omega,by omega,by omega,an (Hk a ok2) ?_⟩
    simp only[↓zq,zs,ah,fb,cJ]
    refine⟨by omega,by omega,by omega,an (Hk b ok3) ?_⟩
    cases hv:fp a with
    |none=>cases hw:fp b<;>simp only[iH,↓zq,zs,ah,fb,bu]<;>exact⟨fun _=>trivial,fun h=>(by cases h)⟩
    |
     some v =>
     cases hw:fp b with
     |
      none =>
      simp only[iH,↓zq,zs,ah,fb,bu,eI]
      exact⟨fun h=>(by cases h),fun _=>⟨fun _=>trivial,fun h=>(by cases h)⟩⟩
     |
      some w =>
      simp only[iH,↓zq,zs,ah,bu,eI]
      refine⟨fun h=>(by cases h),fun _=>⟨fun h=>(by cases h),fun _=>?_⟩⟩
      refine an (Ji _ _ ((bu _).mpr trivial) ((bu _).mpr trivial)) ?_
      simp only[↓zq,zs,ah];rfl
   ·rw[if_neg h1];rfl
  |
   [],hok,hno,hlen =>
   have h2:=fun w=>hno w (fun x a h=>(by cases h))
   have e3:pS (.list []) [112] 3=false:=rfl
   rw[h2]
   simp only[↓zq,zs,ah]
   refine⟨fun h=>(by cases h),fun _=>an (s4 (.list []) [114] 2 (by omega)) ?_⟩
   rw[h2]
   simp only[↓zq,zs,ah]
   refine⟨fun h=>(by cases h),fun _=>an (s4 (.list []) [102] 2 (by omega)) ?_⟩
   rw[h2]
   simp only[↓zq,zs,ah]
   refine⟨fun h=>(by cases h),fun _=>an (s4 (.list []) [112] 3 (by omega)) ?_⟩
   rw[e3]
   simp only[↓zq,zs,ah]
   exact⟨fun h=>(by cases h),fun _=>rfl⟩
  |
   [x],hok,hno,hlen =>
   have h2:=fun w=>hno w (fun x a h=>(by cases h))
   have e3:pS (.list [x]) [112] 3=false:=rfl
   rw[h2]
   simp only[↓zq,zs,ah]
   refine⟨fun h=>(by cases h),fun _=>an (s4 (.list [x]) [114] 2 (by omega)) ?_⟩
   rw[h2]
   simp only[↓zq,zs,ah]
   refine⟨fun h=>(by cases h),fun _=>an (s4 (.list [x]) [102] 2 (by omega)) ?_⟩
   rw[h2]
   simp only[↓zq,zs,ah]
   refine⟨fun h=>(by cases h),fun _=>an (s4 (.list [x]) [112] 3 (by omega)) ?_⟩
   rw[e3]
   simp only[↓zq,zs,ah]
   exact⟨fun h=>(by cases h),fun _=>rfl⟩
  |
   x::y::z::w::l,hok,hno,hlen =>
   have h2:=fun w=>hno w (fun x a h=>(by cases h))
   have e3:pS (.list (x::y::z::w::l)) [112] 3=false:=by simp[pS]
   rw[h2]
   simp only[↓zq,zs,ah]
   refine⟨fun h=>(by cases h),fun _=>an (s4 (.list (x::y::z::w::l)) [114] 2 (by omega)) ?_⟩
   rw[h2]
   simp only[↓zq,zs,ah]
   refine⟨fun h=>(by cases h),fun _=>an (s4 (.list (x::y::z::w::l)) [102] 2 (by omega)) ?_⟩
   rw[h2]
   simp only[↓zq,zs,ah]
   refine⟨fun h=>(by cases h),fun _=>an (s4 (.list (x::y::z::w::l)) [112] 3 (by omega)) ?_⟩
   rw[e3]
   simp only[↓zq,zs,ah]
   exact⟨fun h=>(by cases h),fun _=>rfl⟩
def qy(s:List UInt8):Option Vl:=match qv s with
 |none=>none
 |
  some e=>match fp e with
  |none=>none
  |some v=>if v.nodes>200 then none else some v
theorem kX{s:List UInt8}{v:Vl}(h:qy s=some v):qv s=some v.cb/\v.dW 100/\v.nodes<=200:=by
 unfold qy at h
 split at h
 ·cases h
 ·rename_i e he
  split at h
  ·cases h
  ·rename_i w hw
   split at h
   ·cases h
   ·cases h
    obtain⟨h1,h2⟩:=kE e _ hw
    rw[h1]
    exact⟨he,h2,by omega⟩
theorem wW{e:E}{v:Vl}(h:fp e=some v):v.nodes<=e.sz:=by
 obtain⟨h1,_⟩:=kE e v h
 rw[<-l7,h1];exact BO e
theorem M4(s:List UInt8):aB Tryz.prog 50 [.v (.string (mk s))] [] (bU (iH (qy s))):=by
 refine NY _ ?_
 unfold H6
 refine an (IK s) ?_
 unfold qy
 cases he:qv s with
 |none=>simp only[ub,↓zq,zs,ah,bU,iH];simp
 |
  some e =>
  obtain⟨h1,h2⟩:=ny he
  simp only[ub,↓zq,zs,ah,cJ,dP]
  refine⟨fun h=>(by cases h),fun _=>?_⟩
  refine an (Hk e h1) ?_
  cases hv:fp e with
  |none=>simp only[iH,↓zq,zs,ah,bU];simp
  |
   some v =>
   have hn:=wW hv
   simp only[iH,↓zq,zs,ah,bu,eI]
   refine⟨fun h=>(by cases h),fun _=>?_⟩
   refine an (Gv v (by omega)) ?_
   simp only[↓zq,zs,ah,bU]
   refine⟨fun h=>?_,fun h=>?_⟩
   ·rw[if_pos (by omega)]
   ·rw[if_neg (by omega)]
theorem y8:∀(e:E),e.ok->aB Tryz.prog 33 [e.kh] [] (bU (.v (.bool (xV e))))
 |
  .atom s,hok=>by
  refine Ho _ _ ((bp).mpr trivial) ?_
  have hne:s≠[]:=hok
  simp only[GG,↓zq,zs,ah,zt,bU,xV]
  refine⟨fun _=>⟨fun h=>?_,fun h=>?_⟩,fun h=>absurd h hne⟩
  ·simp[h]
  ·refine an (KT s) ?_
   have h':(s==[117])=false:=by simpa using h
   simp only[↓zq,zs,ah,h',Bool.false_or]
   congr 2
   rw[Bu]
   cases fu s with
   |none=>rfl
   |some k=>simp
 |
  .list [],hok=>by
  refine Ho _ _ ((cE _).mpr trivial) ?_
  simp only[GG,↓zq,zs,ah,zt,bU,xV]
  refine⟨fun h=>absurd rfl h,fun _=>?_⟩
  refine an Nv ?_
  simp[↓zq,zs,ah,zt]
 |
  .list [x],hok=>by
  refine Ho _ _ ((cE _).mpr trivial) ?_
  simp only[GG,↓zq,zs,ah,zt,bU,xV]
  refine⟨fun h=>absurd rfl h,fun _=>?_⟩
  refine an (uy x _) ?_
  simp[↓zq,zs,ah,zt,E.bj]
 |
  .list (x::y::z::w::l),hok=>by
  refine Ho _ _ ((cE _).mpr trivial) ?_
  simp only[GG,↓zq,zs,ah,zt,bU,xV]
  refine⟨fun h=>absurd rfl h,fun _=>?_⟩
  refine an (uy x _) ?_
  simp only[↓zq,zs,ah,zt,E.bj]
  refine⟨fun _=>⟨fun h=>by omega,fun _=>trivial⟩,fun _=>⟨fun _=>⟨fun h=>by omega,fun _=>trivial⟩,fun _=>⟨fun _=>⟨fun h=>by omega,fun _=>trivial⟩,fun _=>⟨fun _=>⟨fun h=>by omega,fun _=>trivial⟩,fun _=>trivial⟩⟩⟩⟩
 |
  .list [x,a],hok=>by
  refine Ho _ _ ((cE _).mpr trivial) ?_
  obtain⟨ok1,ok2,_⟩:=hok
  simp only[GG,↓zq,zs,ah,zt,bU,xV]
  refine⟨fun h=>absurd rfl h,fun _=>?_⟩
  refine an (uy x _) ?_
  simp only[E.bj,toNat_one,bf,↓zq,zs,ah,zt,iF,fU,iB,l5,aq]
  refine⟨fun h=>⟨fun _=>⟨by omega,?_⟩,fun h=>by omega⟩,fun h1=>⟨fun h=>⟨fun _=>⟨by omega,?_⟩,fun h=>by omega⟩,fun h2=>⟨fun h=>⟨fun _=>⟨by omega,?_⟩,fun h=>by omega⟩,fun h3=>⟨fun h=>⟨fun h=>by omega,fun _=>?_⟩,fun h=>?_⟩⟩⟩⟩
  ·refine an (y8 a ok2) ?_
   simp[↓zq,zs,ah,h]
  ·refine an (y8 a ok2) ?_
   simp[↓zq,zs,ah,h]
  ·refine an (y8 a ok2) ?_
   simp[↓zq,zs,ah,h]
  ·simp[h]
  ·simp[h1,h2,h3]
 |
  .list [x,a,b],hok=>by
  refine Ho _ _ ((cE _).mpr trivial) ?_
  obtain⟨ok1,ok2,ok3,_⟩:=hok
  simp only[GG,↓zq,zs,ah,zt,bU,xV]
  refine⟨fun h=>absurd rfl h,fun _=>?_⟩
  refine an (uy x _) ?_
  simp only[E.bj,toNat_one,bf,↓zq,zs,ah,zt,iF,fU,iB,l5,aq]
  refine⟨fun h=>⟨fun h=>by omega,fun _=>?_⟩,fun h1=>⟨fun h=>⟨fun h=>by omega,fun _=>?_⟩,fun h2=>⟨fun h=>⟨fun h=>by omega,fun _=>?_⟩,fun h3=>⟨fun h=>⟨fun _=>⟨by omega,?_⟩,fun h=>by omega⟩,fun h=>?_⟩⟩⟩⟩
  ·simp[h]
  ·simp[h]
  ·simp[h]
  ·refine an (y8 a ok2) ?_
   simp only[↓zq,zs,ah,h]
   refine⟨fun ha=>⟨by omega,an (y8 b ok3) ?_⟩,fun ha=>?_⟩
   ·simp[↓zq,zs,ah,ha]
   ·simp[ha]
  ·simp[h]
theorem Da(s:List UInt8):aB Tryz.prog 11 [.v (.string (mk s))] [] (kt ((qy s).map Vl.cb) (qy s).isSome):=by
 refine LY _ ?_
 unfold Jx
 refine aU (Lc s) (kt.ne _ _ (fun h=>h)) ?_
 rintro r o ⟨c,d,hd,rfl,hh⟩
 simp only[↓zq,zs,ah,zt,cc,qy]
 refine⟨hd,fun h=>?_,fun h=>?_⟩
 ·obtain⟨e,he,hce⟩:=hh h
  obtain⟨hok,hsz⟩:=ny he
  rw[he,hce]
  refine an (y8 e hok) ?_
  simp only[↓zq,zs,ah]
  have hs:=nT e
  refine⟨fun hi=>?_,fun hi=>?_⟩
  ·rw[hi]at hs
   obtain⟨v,hv⟩:=a7.1 hs
   obtain⟨h1,h2⟩:=kE e v hv
   refine an (J4 e (by omega)) ?_
   simp only[↓zq,zs,ah,hv]
   have hnd:e.nd=v.nodes:=by rw[<-h1,l7]
   rw[hnd]
   refine⟨c,d,hd,?_,?_⟩
   ·rw[hce]
    by_cases h4:v.nodes>200
    ·rw[if_pos h4];exact congrArg (fun b=>AV.cP [e.kh,.v (.bool b)]) (decide_eq_false (show ¬((v.nodes:Nat):Int)<=200 by omega))
    ·rw[if_neg h4];exact congrArg (fun b=>AV.cP [e.kh,.v (.bool b)]) (decide_eq_true (show ((v.nodes:Nat):Int)<=200 by omega))
   ·split
    ·exact fun h=>by cases h
    ·exact fun _=>⟨e,by simp[h1],hce⟩
  ·rw[hi]at hs
   have hn:fp e=none:=by cases hq:fp e<;>simp[hq]at hs |-
   rw[hn]
   exact⟨c,d,hd,by rw[hce];rfl,fun h=>by cases h⟩
 ·have hn:qv s=none:=by cases hq:qv s<;>simp[hq]at h |-
  rw[hn]
  exact⟨c,d,hd,rfl,fun h=>by cases h⟩
end Go.Proofs.Trees
namespace Go.Proofs.Trees
open Go Go.VL
mutual
def E.pr:E->Prop
 | .atom s=>s≠[]/\s.all eK=true
 | .list l=>l≠[]/\E.BF l
def E.BF:List E->Prop
 |[]=>True
 |e::l=>e.pr/\E.BF l
end
mutual
def E.dp:E->Nat
 | .atom _=>0
 | .list l=>1+E.uz l
def E.uz:List E->Nat
 |[]=>0
 |e::l=>max e.dp (E.uz l)
end
def Kq(r:List UInt8):Prop:=∀c t,r=c::t->eK c=false
theorem tO:Kq []:=by intro c t h;cases h
theorem AI{s r:List UInt8}(hs:s.all eK=true)(hr:Kq r):(s++r).takeWhile eK=s/\(s++r).dropWhile eK=r:=by
 induction s with
 |
  nil =>
  cases r with
  |nil=>exact⟨rfl,rfl⟩
  |cons c t=>have:=hr c t rfl;simp[List.takeWhile,List.dropWhile,this]
 |
  cons c s ih =>
  simp only[cO,au]at hs
  have:=ih hs.2
  simp[List.takeWhile,List.dropWhile,hs.1,this.1,this.2]
theorem vG(l:List E)(r:List UInt8):Kq (dY l++41::r):=by
 intro c t h
 cases l with
 |nil=>simp only[dY,bg,List.cons.injEq]at h;rw[<-h.1];decide
 |cons e l=>simp only[dY,bC,List.cons.injEq]at h;rw[<-h.1];decide
theorem AE{f:List UInt8->Option (E×List UInt8)}(r:List UInt8):∀(l:List E) (e:E) (acc:List E) (n:Nat),l.length<n->(∀x,x=e\/x∈l->∀r,Kq r->f (fy x++r)=some (x,r)) ->
 rU f n (fy e++(dY l++41::r)) acc=some (.list (acc++e::l),r)
 |l,e,acc,0,hn,hf=>by omega
 |
  [],e,acc,n+1,hn,hf=>by
  simp only[rU]
  rw[hf e (.inl rfl) _ (vG [] r)]
  simp[dY]
 |
  x::l,e,acc,n+1,hn,hf=>by
  simp only[rU]
  rw[hf e (.inl rfl) _ (vG (x::l) r)]
  simp only[aw]at hn
  have ih:=AE r l x (acc++[e]) n (by omega) (fun y hy=>hf y (.inr (by cases hy with|inl h=>rw[h];exact ag|inr h=>exact ai _ h)))
  simp only[bq,bC,bg]at ih
  simp only[dY,bC,bq]
  simp[ih]
theorem CS{l:List E}{k:Nat}:E.BF l->E.uz l<=k->∀x,x∈l->x.pr/\x.dp<=k:=by
 induction l with
 |nil=>intro _ _ x h;cases h
 |
  cons e l ih =>
  intro h hd x hx
  simp only[E.BF,E.uz]at h hd
  cases hx with
  |head=>exact⟨h.1,by omega⟩
  |tail _ hx=>exact ih h.2 (by omega) x hx
theorem ym:∀(k:Nat) (e:E) (r:List UInt8),e.pr->e.dp<=k->Kq r->rd k (fy e++r)=some (e,r)
 |
  0,.atom s,r,hp,hd,hr=>by
  have h:=AI hp.2 hr
  simp only[fy,rd,h.1,h.2,hp.1,if_false]
 |
  k+1,.atom s,r,hp,hd,hr=>by
  have h:=AI hp.2 hr
  simp only[fy,rd,h.1,h.2,hp.1,if_false]
 |0,.list l,r,hp,hd,hr=>by simp only[E.dp]at hd;omega
 |k+1,.list [],r,hp,hd,hr=>by exact absurd rfl hp.1
 |
  k+1,.list (e::l),r,hp,hd,hr=>by
  have hs:eK 40=false:=by decide
  simp only[E.dp,E.pr]at hd hp
  have hm:=CS (k:=k) hp.2 (by omega)
  have:=AE (f:=rd k) r l e [] ((fy e++(dY l++41::r)).length+1) (by have:=rN l;simp only[ak,aw];omega)
   (fun x hx r hr=>ym k x r (hm x (by cases hx with|inl h=>rw[h];exact ag|inr h=>exact ai _ h)).1 (hm x (by cases hx with|inl h=>rw[h];exact ag|inr h=>exact ai _ h)).2 hr)
  simp only[fy,bC,bq,bg]at *
  simp only[rd,List.takeWhile,hs,if_true]
  simpa using this
theorem A8{e e':E}(h:e.pr)(h':e'.pr)(ht:fy e=fy e'):e=e':=by
 have a:=ym (max e.dp e'.dp) e [] h (by omega) tO
 have b:=ym (max e.dp e'.dp) e' [] h' (by omega) tO
 rw[ht,b]at a;cases a;rfl
theorem GM{e:E}(h:e.pr)(hd:e.dp<=300)(hl:(fy e).length<=8000):qv (fy e)=some e:=by
 have:=ym 300 e [] h hd tO
 rw[List.append_nil]at this
 rw[qv,this];simp;omega
theorem zX(s:List UInt8):(s.takeWhile eK).all eK=true:=by
 induction s with
 |nil=>rfl
 |cons c s ih =>
  cases h:eK c
  ·simp[List.takeWhile,h]
  ·simp only[List.takeWhile,h,cO,ih];rfl
theorem CC(l r:List E):E.BF (l++r)↔E.BF l/\E.BF r:=by
 induction l with
 |nil=>simp[E.BF]
 |cons e l ih=>simp[E.BF,ih,and_assoc]
theorem Cc(l r:List E):E.uz (l++r)=max (E.uz l) (E.uz r):=by
 induction l with
 |nil=>simp[E.uz]
 |cons e l ih=>simp[E.uz,ih,Nat.max_assoc]
theorem xk{k:Nat}{f:List UInt8->Option (E×List UInt8)}(hf:∀s e r,f s=some (e,r)->s=fy e++r/\e.pr/\e.dp<=k):∀(n:Nat) (s:List UInt8) (acc:List E) (e:E) (r:List UInt8),rU f n s acc=some (e,r)->E.BF acc->E.uz acc<=k ->
 ∃l,e=.list (acc++l)/\l≠[]/\32::s=dY l++41::r/\E.BF l/\E.uz l<=k
 |0,s,acc,e,r,h,hp,hd=>by cases h
 |
  n+1,s,acc,e,r,h,hp,hd=>by
  simp only[rU]at h
  split at h
  ·rename_i p c r' hs
   obtain⟨h1,h2,h3⟩:=hf _ _ _ hs
   split at h
   ·rename_i hc
    have hc:c=41:=dE.mp hc
    cases h
    exact⟨[p],rfl,by simp,by simp[dY,h1,hc],⟨h2,trivial⟩,by simp[E.uz];omega⟩
   ·split at h
    ·rename_i hc
     have hc:c=32:=dE.mp hc
     obtain⟨l,g1,g2,g3,g4,g5⟩:=xk hf n _ _ _ _ h ((CC _ _).mpr ⟨hp,h2,trivial⟩) (by rw[Cc];simp[E.uz];omega)
     refine⟨p::l,by simpa using g1,by simp,?_,⟨h2,g4⟩,by simp only[E.uz];omega⟩
     rw[h1,hc,g3];simp[dY]
    ·cases h
  ·cases h
theorem BP:∀(k:Nat) (s:List UInt8) (e:E) (r:List UInt8),rd k s=some (e,r)->s=fy e++r/\e.pr/\e.dp<=k
 |
  0,s,e,r,h=>by
  simp only[rd]at h
  split at h
  ·cases h
  ·rename_i hs;cases h
   exact⟨(bP).symm,⟨hs,zX s⟩,aq _⟩
 |
  k+1,s,e,r,h=>by
  simp only[rd]at h
  split at h
  ·split at h
   ·rename_i c r' _
    split at h
    ·rename_i hc
     have hc:c=40:=dE.mp hc
     obtain⟨l,g1,g2,g3,g4,g5⟩:=xk (k:=k) (fun s e r h=>BP k s e r h) _ _ _ _ _ h trivial (cG _)
     simp only[bg]at g1
     subst g1;subst hc
     refine⟨?_,⟨g2,g4⟩,by simp only[E.dp];omega⟩
     cases l with
     |nil=>exact absurd rfl g2
     |
      cons x l =>
      simp only[dY,bC,bq,List.cons.injEq,true_and]at g3
      rw[g3];simp[fy]
    ·cases h
   ·cases h
  ·rename_i hs;cases h
   exact⟨(bP).symm,⟨hs,zX s⟩,by simp[E.dp]⟩
theorem xr{s:List UInt8}{e:E}(h:qv s=some e):s=fy e/\e.pr/\e.dp<=300/\s.length<=8000:=by
 unfold qv at h
 split at h
 ·cases h
 ·rename_i hl
  split at h
  ·rename_i e' hr
   cases h
   have:=BP _ _ _ _ hr
   exact⟨by simpa using this.1,this.2.1,this.2.2,by omega⟩
  ·cases h
theorem Bl{k:Nat}(h:k<10):eK (bb (48+k))=true:=by
 have:∀k:Fin 10,eK (bb (48+k.val))=true:=by decide
 exact this ⟨k,h⟩
theorem wH:∀(n k:Nat),k<n->(dd k).all eK=true
 |0,k,h=>by omega
 |
  n+1,k,h=>by
  by_cases hk:k<10
  ·rw[fa hk,cO,Bl hk];rfl
  ·rw[fL hk]
   have:=wH n (k/10) (by omega)
   rw[List.all_append,this,cO,Bl (dR k (by omega:0<10))];rfl
theorem GS(k:Nat):(E.atom (wE k)).pr:=⟨by simp,by have:=wH (k+1) k (by omega);simp only[wE,cO,this];decide⟩
theorem l9:∀v:Vl,v.cb.pr
 | .u=>⟨by simp,by decide⟩
 | .el k=>GS k
 | .l v=>⟨by simp,⟨by simp,by decide⟩,l9 v,trivial⟩
 | .r v=>⟨by simp,⟨by simp,by decide⟩,l9 v,trivial⟩
 | .f v=>⟨by simp,⟨by simp,by decide⟩,l9 v,trivial⟩
 | .p a b=>⟨by simp,⟨by simp,by decide⟩,l9 a,l9 b,trivial⟩
theorem pz:∀v:Vl,v.cb.dp<v.nodes+1
 | .u=>by simp[Vl.cb,E.dp,Vl.nodes]
 | .el k=>by simp[Vl.cb,E.dp,Vl.nodes]
 | .l v=>by have:=pz v;simp only[Vl.cb,E.dp,E.uz,Vl.nodes]at *;omega
 | .r v=>by have:=pz v;simp only[Vl.cb,E.dp,E.uz,Vl.nodes]at *;omega
 | .f v=>by have:=pz v;simp only[Vl.cb,E.dp,E.uz,Vl.nodes]at *;omega
 | .p a b=>by have:=pz a;have:=pz b;simp only[Vl.cb,E.dp,E.uz,Vl.nodes]at *;omega
theorem CX(k:Nat)(h:k<100):(dd k).length<=2:=by
 by_cases hk:k<10
 ·rw[fa hk];simp
 ·rw[fL hk,fa (by omega:k/10<10)];simp
theorem kq:∀v:Vl,v.dW 100->v.dw.length<=5*v.nodes
 | .u,_=>by simp[Vl.dw,Vl.cb,fy,Vl.nodes]
 |
  .el k,h=>by
  have:=CX k h
  simp only[Vl.dw,Vl.cb,fy,Vl.nodes,aw];omega
 | .l v,h=>by have:=kq v h;simp only[Vl.dw,Vl.cb,fy,dY,Vl.nodes,aw,ak,aE]at this |-;omega
 | .r v,h=>by have:=kq v h;simp only[Vl.dw,Vl.cb,fy,dY,Vl.nodes,aw,ak,aE]at this |-;omega
 | .f v,h=>by have:=kq v h;simp only[Vl.dw,Vl.cb,fy,dY,Vl.nodes,aw,ak,aE]at this |-;omega
 | .p a b,h=>by have:=kq a h.1;have:=kq b h.2;simp only[Vl.dw,Vl.cb,fy,dY,Vl.nodes,aw,ak,aE]at *;omega
theorem Ey(k:Nat):wE k≠[117]:=by simp[wE]
theorem j9:∀v:Vl,v.dW 100->fp v.cb=some v
 | .u,_=>by simp[Vl.cb,fp]
 | .el k,h=>by simp only[Vl.cb,fp,Ey,if_false,uC k h]
 | .l v,h=>by simp only[Vl.cb,fp,j9 v h,E.at];simp
 | .r v,h=>by simp only[Vl.cb,fp,j9 v h,E.at];simp
 | .f v,h=>by simp only[Vl.cb,fp,j9 v h,E.at];simp
 | .p a b,h=>by simp only[Vl.cb,fp,j9 a h.1,j9 b h.2,E.at];simp
theorem tV{v:Vl}(h:v.dW 100)(hn:v.nodes<=200):qy v.dw=some v:=by
 have hd:=pz v
 have hl:=kq v h
 rw[qy,GM (l9 v) (by omega) (by show v.dw.length<=8000;omega)]
 simp only[j9 v h]
 rw[if_neg (by omega)]
theorem tD{v w:Vl}(h:v.dW 100)(h':w.dW 100)(ht:v.dw=w.dw):v=w:=by
 have:=A8 (l9 v) (l9 w) ht
 have a:=j9 v h
 rw[this,j9 w h']at a;cases a;rfl
theorem kZ{s:List UInt8}{v:Vl}(h:qy s=some v):s=v.dw:=(xr (kX h).1).1
end Go.Proofs.Trees
namespace Go.Proofs.Trees
open Go Go.VL Go.RowKit
theorem ca(l:List E):(E.list l).at=[]:=rfl
def ct:Ty->Vl->Vl->Vl
 | .plus a _,.l c,v=>.l (ct a c v)
 | .plus _ b,.r c,v=>.r (ct b c v)
 | .times a _,.l (.p x y),v=>.p (ct a x v) y
 | .times _ b,.r (.p x y),v=>.p x (ct b y v)
 | .rc a,.f (.l x),v=>.f (ct a x v)
 | .rc a,.f (.r (.p x y)),v=>.f (ct a x (ct (.rc a) y v))
 |_,_,v=>v
def dq:Ty->Vl->Bool
 | .plus a _,.l c=>dq a c
 | .plus _ b,.r c=>dq b c
 | .times a _,.l (.p x _)=>dq a x
 | .times _ b,.r (.p _ y)=>dq b y
 | .rc a,.f (.l x)=>dq a x
 | .rc a,.f (.r (.p x y))=>dq a x&&dq (.rc a) y
 | .plus _ _,_=>false
 | .times _ _,_=>false
 | .rc _,_=>false
 |_,_=>true
theorem yF(c v:Vl):ct .zero c v=v:=by cases c<;>rfl
theorem BX(c v:Vl):ct .one c v=v:=by cases c<;>rfl
theorem mO(s:List UInt8)(c v:Vl):ct (.name s) c v=v:=by cases c<;>rfl
theorem rQ(u:Nat)(c v:Vl):ct (.bound u) c v=v:=by cases c<;>rfl
theorem AK{a b:Ty}{c:Vl}(h:dq (.plus a b) c=true):(∃x,c=.l x/\dq a x=true)\/∃x,c=.r x/\dq b x=true:=by
 cases c<;>simp[dq]at h<;>simp[h]
theorem zj{a b:Ty}{c:Vl}(h:dq (.times a b) c=true):(∃x y,c=.l (.p x y)/\dq a x=true)\/∃x y,c=.r (.p x y)/\dq b y=true:=by
 cases c with
 |l c=>cases c<;>simp[dq]at h<;>simp[h]
 |r c=>cases c<;>simp[dq]at h<;>exact .inr ⟨_,_,rfl,h⟩
 |_=>simp[dq]at h
theorem GR{a:Ty}{c:Vl}(h:dq (.rc a) c=true):(∃x,c=.f (.l x)/\dq a x=true)\/∃x y,c=.f (.r (.p x y))/\dq a x=true/\dq (.rc a) y=true:=by
 cases c with
 |
  f c =>
  cases c with
  |l c=>simp[dq]at h;simp[h]
  |r c=>cases c<;>simp[dq]at h<;>exact .inr ⟨_,_,rfl,h⟩
  |_=>simp[dq]at h
 |_=>simp[dq]at h
theorem FX{t:Ty}{tg:Tg}(c:Vl)(h:dO t tg=true):dq t c=true:=by
 cases t<;>first|(simp[dO]at h;done)|(cases c<;>rfl)
theorem i0:∀(n:Nat) (t:Ty) (tg:Tg) (v:Vl) (h:Hl),h∈dJ n t tg v->dq t h.1=true
 |0,t,tg,v,h,hm=>by simp[dJ]at hm
 |
  n+1,t,tg,v,h,hm=>by
  unfold dJ at hm
  split at hm
  ·rename_i e
   exact FX _ e
  ·unfold jz at hm
   split at hm
   ·obtain⟨k,h1,rfl⟩:=bW hm
    exact i0 n _ _ _ k h1
   ·obtain⟨k,h1,rfl⟩:=bW hm
    exact i0 n _ _ _ k h1
   ·rcases aH.1 hm with hm|hm
    ·obtain⟨k,h1,rfl⟩:=bW hm
     exact i0 n _ _ _ k h1
    ·obtain⟨k,h1,rfl⟩:=bW hm
     exact i0 n _ _ _ k h1
   ·rcases aH.1 hm with hm|hm
    ·obtain⟨k,h1,rfl⟩:=bW hm
     exact i0 n _ _ _ k h1
    ·obtain⟨k,h1,h2⟩:=cu.1 hm
     obtain⟨k2,h3,rfl⟩:=bW h2
     have q1:=i0 n _ _ _ k h1
     have q2:=i0 n _ _ _ k2 h3
     simp[dq,q1,q2]
   ·simp at hm
theorem Dy{a:Ty}{v:Vl}{h:Hl}(hh:h∈kids a v):dq a h.1=true:=by
 cases v with
 |f w=>exact i0 _ _ _ _ h hh
 |_=>cases hh
theorem BD(m:Nat)(t:Ty)(c v:Vl):c.dW m->v.dW m->(ct t c v).dW m:=by
 induction t,c,v using ct.induct with
 |case1 a b c v ih=>exact fun h h'=>ih h h'
 |case2 a b c v ih=>exact fun h h'=>ih h h'
 |case3 a b x y v ih=>exact fun h h'=>⟨ih h.1 h',h.2⟩
 |case4 a b x y v ih=>exact fun h h'=>⟨h.1,ih h.2 h'⟩
 |case5 a x v ih=>exact fun h h'=>ih h h'
 |case6 a x y v ih1 ih2=>exact fun h h'=>ih2 h.1 (ih1 h.2 h')
 |case7=>intro h h';simpa only[ct]using h'
def LL:Hl:=(.u,.u)
end Go.Proofs.Trees
namespace Go.Proofs.Trees
open Go Go.VL Go.RowKit
abbrev fG(l:List Hl):List Vl:=l.map (·.2)
theorem bw(g:Vl->Vl)(l:List Hl):fG (fS g l)=fG l:=by simp[fG,fS,Function.comp_def]
theorem cC(l r:List Hl):fG (l++r)=fG l++fG r:=bV
theorem ju{g:Vl->Vl}{L A B:List Hl}{c e:Vl}(h:fS g L=A++(c,e)::B):∃A0 c0 B0,L=A0++(c0,e)::B0/\A=fS g A0/\c=g c0/\B=fS g B0:=by
 unfold fS at *
 obtain⟨A0,R,rfl,rfl,h2⟩:=List.map_eq_append_iff.1 h
 obtain⟨y,B0,rfl,h3,rfl⟩:=List.map_eq_cons_iff.1 h2
 obtain⟨c0,e0⟩:=y
 cases h3
 exact⟨A0,c0,B0,rfl,rfl,rfl,rfl⟩
theorem pB{L1 L2 A B:List Hl}{y:Hl}(h:L1++L2=A++y::B):(∃B1,L1=A++y::B1/\B=B1++L2)\/∃A2,A=L1++A2/\L2=A2++y::B:=by
 rcases List.append_eq_append_iff.1 h with⟨xs,h1,h2⟩|⟨ys,h1,h2⟩
 ·exact .inr ⟨xs,h1,h2⟩
 ·cases ys with
  |nil=>exact .inr ⟨[],by simpa using h1.symm,by simpa using h2.symm⟩
  |
   cons z ys =>
   rw[bC]at h2
   cases h2
   exact .inl ⟨ys,h1,rfl⟩
theorem rI{f:Hl->List Hl}:∀{L A B:List Hl} {y:Hl},L.flatMap f=A++y::B->∃L1 h L2 A1 B1,L=L1++h::L2/\f h=A1++y::B1/\A=L1.flatMap f++A1/\B=B1++L2.flatMap f
 |[],A,B,y,h=>by simp at h
 |
  h::L,A,B,y,hh=>by
  rw[aZ]at hh
  rcases pB hh with⟨B1,h1,h2⟩|⟨A2,h1,h2⟩
  ·exact⟨[],h,L,A,B1,rfl,h1,rfl,h2⟩
  ·obtain⟨L1,h',L2,A1,B1,e1,e2,e3,e4⟩:=rI h2
   exact⟨h::L1,h',L2,A1,B1,by rw[e1];rfl,e2,by rw[h1,e3,aZ,bq],e4⟩
theorem jK(a:Ty)(tg:Tg)(g:Vl->Vl->Vl):∀{l r:List Hl},fG l=fG r->fG (l.flatMap fun h=>fS (g h.1) (bF (.rc a) tg h.2))=fG (r.flatMap fun h=>fS (g h.1) (bF (.rc a) tg h.2))
 |[],[],_=>rfl
 |[],_::_,h=>by simp[fG]at h
 |_::_,[],h=>by simp[fG]at h
 |
  x::l,y::r,h=>by
  simp only[fG,a6,List.cons.injEq]at h
  rw[aZ,aZ,cC,cC,bw,bw,h.1,jK a tg g h.2]
theorem JG{a b:Tg}(h:a≠b):a.up≠b.up:=by
 intro e
 cases a<;>cases b<;>simp[Tg.up]at e<;>subst e<;>exact h rfl
theorem ye(a:Tg):a.up≠.bd 0:=by cases a<;>simp[Tg.up]
theorem xd{t:Ty}{a b:Tg}(h:dO t a=true)(hn:b≠a):dO t b=false:=by
 cases t<;>cases a<;>simp[dO]at h
 ·subst h
  cases b with
  |nm s=>simp only[dO];exact decide_eq_false fun e=>hn (by rw[e])
  |bd k=>rfl
 ·subst h
  cases b with
  |nm s=>rfl
  |bd k=>simp only[dO];exact decide_eq_false fun e=>hn (by rw[e])
theorem uW{t:Ty}{a:Tg}(h:dO t a=true)(v:Vl):stuck t v=true:=by
 cases t<;>simp[dO]at h<;>(cases v<;>rfl)
theorem tv{t:Ty}{a:Tg}(h:dO t a=true)(c x:Vl):ct t c x=x:=by
 cases t<;>simp[dO]at h
 ·exact mO _ c x
 ·exact rQ _ c x
theorem fY:∀(n:Nat) (v:Vl),v.nodes<=n->∀(t:Ty) (tg:Tg) (A B:List Hl) (c e:Vl),bF t tg v=A++(c,e)::B->∀x:Vl,
 (∃A' B',bF t tg (ct t c x)=A'++(c,x)::B'/\fG A'=fG A/\fG B'=fG B)/\∀tg',tg'≠tg->fG (bF t tg' (ct t c x))=fG (bF t tg' v)
 |0,v,hn=>by have:=ba v;omega
 |
  n+1,v,hn=>by
  intro t tg A B c e hh x
  cases hat:dO t tg with
  |
   true =>
   rw[iW v hat]at hh
   have h1:A=[]:=by cases A with
    |nil=>rfl
    |cons y A=>simp at hh
   subst h1
   simp only[bg,List.cons.injEq,Prod.mk.injEq]at hh
   obtain⟨⟨rfl,rfl⟩,rfl⟩:=hh
   rw[tv hat]
   refine⟨⟨[],[],iW x hat,rfl,rfl⟩,fun tg' hne=>?_⟩
   rw[cQ (xd hat hne) (uW hat x),cQ (xd hat hne) (uW hat v)]
  |
   false =>
   have hst:stuck t v=false:=by
    cases q:stuck t v with
    |false=>rfl
    |true=>rw[cQ hat q]at hh;simp at hh
   unfold stuck at hst
   split at hst
   ·rename_i a b w
    simp only[Vl.nodes]at hn
    rw[gk]at hh
    obtain⟨A0,c0,B0,h0,rfl,rfl,rfl⟩:=ju hh
    obtain⟨⟨A',B',e1,e2,e3⟩,e4⟩:=fY n w (by omega) a tg A0 B0 c0 e h0 x
    refine⟨⟨fS .l A',fS .l B',?_,by rw[bw,bw,e2],by rw[bw,bw,e3]⟩,fun tg' hne=>?_⟩
    ·rw[ct,gk,e1];simp[fS]
    ·rw[ct,gk,gk,bw,bw,e4 tg' hne]
   ·rename_i a b w
    simp only[Vl.nodes]at hn
    rw[gj]at hh
    obtain⟨A0,c0,B0,h0,rfl,rfl,rfl⟩:=ju hh
    obtain⟨⟨A',B',e1,e2,e3⟩,e4⟩:=fY n w (by omega) b tg A0 B0 c0 e h0 x
    refine⟨⟨fS .r A',fS .r B',?_,by rw[bw,bw,e2],by rw[bw,bw,e3]⟩,fun tg' hne=>?_⟩
    ·rw[ct,gj,e1];simp[fS]
    ·rw[ct,gj,gj,bw,bw,e4 tg' hne]
   ·rename_i a b y z
    simp only[Vl.nodes]at hn
    rw[eY]at hh
    rcases pB hh with⟨B1,h1,rfl⟩|⟨A2,rfl,h2⟩
    ·obtain⟨A0,c0,B0,h0,rfl,rfl,rfl⟩:=ju h1
     obtain⟨⟨A',B',e1,e2,e3⟩,e4⟩:=fY n y (by omega) a tg A0 B0 c0 e h0 x
     refine⟨⟨fS (fun c=>.l (.p c z)) A',fS (fun c=>.l (.p c z)) B'++fS (fun c=>.r (.p (ct a c0 x) c)) (bF b tg z),?_,by rw[bw,bw,e2],by rw[cC,cC,bw,bw,bw,bw,e3]⟩,fun tg' hne=>?_⟩
     ·rw[ct,eY,e1];simp[fS]
     ·rw[ct,eY,eY,cC,cC,bw,bw,bw,bw,e4 tg' hne]
    ·obtain⟨A0,c0,B0,h0,rfl,rfl,rfl⟩:=ju h2
     obtain⟨⟨A',B',e1,e2,e3⟩,e4⟩:=fY n z (by omega) b tg A0 B0 c0 e h0 x
     refine⟨⟨fS (fun c=>.l (.p c (ct b c0 x))) (bF a tg y)++fS (fun c=>.r (.p y c)) A',fS (fun c=>.r (.p y c)) B',?_,by rw[cC,cC,bw,bw,bw,bw,e2],by rw[bw,bw,e3]⟩,fun tg' hne=>?_⟩
     ·rw[ct,eY,e1];simp[fS]
     ·rw[ct,eY,eY,cC,cC,bw,bw,bw,bw,e4 tg' hne]
   ·rename_i a w
    simp only[Vl.nodes]at hn
    rw[eZ]at hh
    rcases pB hh with⟨B1,h1,rfl⟩|⟨A2,rfl,h2⟩
    ·obtain⟨A0,c0,B0,h0,rfl,rfl,rfl⟩:=ju h1
     obtain⟨⟨A',B',e1,e2,e3⟩,e4⟩:=fY n w (by omega) a tg.up A0 B0 c0 e h0 x
     have hb:=e4 (.bd 0) (Ne.symm (ye tg))
     refine⟨⟨fS (fun c=>.f (.l c)) A',fS (fun c=>.f (.l c)) B'++(bF a (.bd 0) (ct a c0 x)).flatMap fun h=>fS (fun c=>.f (.r (.p h.1 c))) (bF (.rc a) tg h.2),?_,by rw[bw,bw,e2],?_⟩,fun tg' hne=>?_⟩
     ·rw[ct,eZ,e1];simp[fS]
     ·rw[cC,cC,bw,bw,e3,jK a tg (fun p c=>.f (.r (.p p c))) hb]
     ·rw[ct,eZ,eZ,cC,cC,bw,bw,e4 _ (JG hne),jK a tg' (fun p c=>.f (.r (.p p c))) hb]
    ·obtain⟨L1,h,L2,A1,B1,g1,g2,rfl,rfl⟩:=rI h2
     obtain⟨A0,c0,B0,h0,rfl,rfl,rfl⟩:=ju g2
     obtain⟨hc,he⟩:=h
     have hsz:=(gd (t:=a) (tg:=.bd 0) (v:=w) (h:=(hc,he)) (by rw[g1];simp)).1
     simp only at hsz h0
     obtain⟨⟨A',B',e1,e2,e3⟩,e4⟩:=fY n he (by omega) (.rc a) tg A0 B0 c0 e h0 x
     obtain⟨⟨M1,M2,d1,d2,d3⟩,d4⟩:=fY n w (by omega) a (.bd 0) L1 L2 hc he g1 (ct (.rc a) c0 x)
     refine⟨⟨fS (fun c=>.f (.l c)) (bF a tg.up (ct a hc (ct (.rc a) c0 x)))++(M1.flatMap (fun h=>fS (fun c=>.f (.r (.p h.1 c))) (bF (.rc a) tg h.2))++fS (fun c=>.f (.r (.p hc c))) A'),fS (fun c=>.f (.r (.p hc c))) B'++M2.flatMap (fun h=>fS (fun c=>.f (.r (.p h.1 c))) (bF (.rc a) tg h.2)),?_,?_,?_⟩,fun tg' hne=>?_⟩
     ·rw[ct,eZ,d1,List.flatMap_append,aZ]
      simp only[e1]
      simp[fS]
     ·rw[cC,cC,cC,cC,bw,bw,bw,bw,d4 _ (ye tg),e2,jK a tg (fun p c=>.f (.r (.p p c))) d2]
     ·rw[cC,cC,bw,bw,e3,jK a tg (fun p c=>.f (.r (.p p c))) d3]
     ·have hk:=e4 tg' hne
      rw[ct,eZ,eZ,cC,cC,bw,bw,d4 _ (ye tg'),d1,g1,List.flatMap_append,List.flatMap_append,aZ,aZ,cC,cC,cC,cC,bw,bw,hk,jK a tg' (fun p c=>.f (.r (.p p c))) d2,jK a tg' (fun p c=>.f (.r (.p p c))) d3]
   ·cases hst
end Go.Proofs.Trees
namespace Go.Proofs.Trees
open Go Go.VL Go.RowKit
abbrev Nm:=List UInt8
def eB(u:Ty):Ty->Nat->Ty
 | .bound k,i=>if k=i then u else .bound k
 | .plus a b,i=>.plus (eB u a i) (eB u b i)
 | .times a b,i=>.times (eB u a i) (eB u b i)
 | .rc a,i=>.rc (eB u a (i+1))
 |t,_=>t
def sub(x:Nm)(u:Ty):Ty->Ty
 | .name s=>if s=x then u else .name s
 | .plus a b=>.plus (sub x u a) (sub x u b)
 | .times a b=>.times (sub x u a) (sub x u b)
 | .rc a=>.rc (sub x u a)
 |t=>t
def bA(x:Nm):Ty->Bool
 | .name s=>decide (s=x)
 | .plus a b=>bA x a||bA x b
 | .times a b=>bA x a||bA x b
 | .rc a=>bA x a
 |_=>false
def j7(f:Nm->Nm):Ty->Ty
 | .name s=>.name (f s)
 | .plus a b=>.plus (j7 f a) (j7 f b)
 | .times a b=>.times (j7 f a) (j7 f b)
 | .rc a=>.rc (j7 f a)
 |t=>t
def I0(f:Nm->Nm):Prop:=∀x y,f x=f y->x=y
theorem lB(f:Nm->Nm)(x:Nm):∀(t:Ty) (i:Nat),j7 f (eB (.name x) t i)=eB (.name (f x)) (j7 f t) i
 | .bound k,i=>by simp only[eB,j7];split<;>rfl
 | .plus a b,i=>by simp only[eB,j7,lB f x a i,lB f x b i]
 | .times a b,i=>by simp only[eB,j7,lB f x a i,lB f x b i]
 | .rc a,i=>by simp only[eB,j7,lB f x a (i+1)]
 | .zero,i=>rfl
 | .one,i=>rfl
 | .name s,i=>rfl
theorem lh{f:Nm->Nm}(hf:I0 f)(x:Nm)(u:Ty):∀t:Ty,j7 f (sub x u t)=sub (f x) (j7 f u) (j7 f t)
 |
  .name s=>by
  simp only[sub,j7]
  by_cases h:s=x
  ·subst h;simp
  ·rw[if_neg h,if_neg fun e=>h (hf _ _ e)];rfl
 | .plus a b=>by simp only[sub,j7,lh hf x u a,lh hf x u b]
 | .times a b=>by simp only[sub,j7,lh hf x u a,lh hf x u b]
 | .rc a=>by simp only[sub,j7,lh hf x u a]
 | .zero=>rfl
 | .one=>rfl
 | .bound k=>rfl
theorem mK{f:Nm->Nm}(hf:I0 f)(x:Nm):∀t:Ty,bA (f x) (j7 f t)=bA x t
 | .name s=>by simp only[bA,j7];rw[cL];simp only[decide_eq_true_eq];exact⟨fun e=>hf _ _ e,fun e=>by rw[e]⟩
 | .plus a b=>by simp only[bA,j7,mK hf x a,mK hf x b]
 | .times a b=>by simp only[bA,j7,mK hf x a,mK hf x b]
 | .rc a=>by simp only[bA,j7,mK hf x a]
 | .zero=>rfl
 | .one=>rfl
 | .bound k=>rfl
theorem gz(f:Nm->Nm):∀t:Ty,(j7 f t).atoms=t.atoms
 | .plus a b=>by simp only[Ty.atoms,j7,gz f a,gz f b]
 | .times a b=>by simp only[Ty.atoms,j7,gz f a,gz f b]
 | .rc a=>by simp only[Ty.atoms,j7,gz f a]
 | .name s=>rfl
 | .zero=>rfl
 | .one=>rfl
 | .bound k=>rfl
theorem pb{f:Nm->Nm}:∀t:Ty,(∀x,bA x t=true->f x=x)->j7 f t=t
 | .name s,h=>by simp only[j7];rw[h s (by simp[bA])]
 | .plus a b,h=>by simp only[j7];rw[pb a fun x hx=>h x (by simp[bA,hx]),pb b fun x hx=>h x (by simp[bA,hx])]
 | .times a b,h=>by simp only[j7];rw[pb a fun x hx=>h x (by simp[bA,hx]),pb b fun x hx=>h x (by simp[bA,hx])]
 | .rc a,h=>by simp only[j7];rw[pb a fun x hx=>h x hx]
 | .zero,_=>rfl
 | .one,_=>rfl
 | .bound k,_=>rfl
theorem iv(x:Nm):∀(t:Ty) (i:Nat),(eB (.name x) t i).atoms=t.atoms
 | .bound k,i=>by simp only[eB];split<;>rfl
 | .plus a b,i=>by simp only[eB,Ty.atoms,iv x a i,iv x b i]
 | .times a b,i=>by simp only[eB,Ty.atoms,iv x a i,iv x b i]
 | .rc a,i=>by simp only[eB,Ty.atoms,iv x a (i+1)]
 | .zero,i=>rfl
 | .one,i=>rfl
 | .name s,i=>rfl
theorem sM(t:Ty):1<=t.atoms:=by cases t<;>simp only[Ty.atoms]<;>omega
theorem iU{x y:Nm}:∀(t:Ty) (i:Nat),bA y (eB (.name x) t i)=true->y=x\/bA y t=true
 |
  .bound k,i,h=>by
  simp only[eB]at h
  split at h
  ·left;simp only[bA,decide_eq_true_eq]at h;exact h.symm
  ·cases h
 |
  .plus a b,i,h=>by
  simp only[eB,bA,bn]at h |-
  rcases h with h|h
  ·rcases iU a i h with h|h<;>simp[h]
  ·rcases iU b i h with h|h<;>simp[h]
 |
  .times a b,i,h=>by
  simp only[eB,bA,bn]at h |-
  rcases h with h|h
  ·rcases iU a i h with h|h<;>simp[h]
  ·rcases iU b i h with h|h<;>simp[h]
 | .rc a,i,h=>iU a (i+1) h
 | .zero,i,h=>by cases h
 | .one,i,h=>by cases h
 | .name s,i,h=>.inr h
theorem iN{x y:Nm}{u:Ty}:∀t:Ty,bA y (sub x u t)=true->bA y u=true\/(y≠x/\bA y t=true)
 |
  .name s,h=>by
  simp only[sub]at h
  split at h
  ·exact .inl h
  ·rename_i hs
   simp only[bA,decide_eq_true_eq]at h
   subst h
   exact .inr ⟨hs,by simp[bA]⟩
 |
  .plus a b,h=>by
  simp only[sub,bA,bn]at h |-
  rcases h with h|h
  ·rcases iN a h with h|h<;>simp[h]
  ·rcases iN b h with h|h<;>simp[h]
 |
  .times a b,h=>by
  simp only[sub,bA,bn]at h |-
  rcases h with h|h
  ·rcases iN a h with h|h<;>simp[h]
  ·rcases iN b h with h|h<;>simp[h]
 |
  .rc a,h=>by
  simp only[sub,bA]at h |-
  exact iN a h
 | .zero,h=>by cases h
 | .one,h=>by cases h
 | .bound k,h=>by cases h
def swp(x y:Nm):Nm->Nm:=fun s=>if s=x then y else if s=y then x else s
theorem xL(x y:Nm):I0 (swp x y):=by
 intro a b h
 unfold swp at h
 by_cases h1:a=x<;>by_cases h2:a=y<;>by_cases h3:b=x<;>by_cases h4:b=y<;>simp_all
theorem Bf(x y:Nm):swp x y x=y:=by simp[swp]
theorem Ea{x y s:Nm}(h:s≠x)(h':s≠y):swp x y s=s:=by simp[swp,h,h']
theorem tT{x y:Nm}{t:Ty}(h:bA x t=false)(h':bA y t=false):j7 (swp x y) t=t :=
 pb t fun z hz=>Ea (fun e=>by subst e;rw[h]at hz;cases hz) (fun e=>by subst e;rw[h']at hz;cases hz)
def zJ(a:Ty)(x:Nm)(c d:Ty):Ty:=.rc (.plus (sub x (.rc a) c) (.times (sub x (.rc a) d) (.bound 0)))
inductive Dv:Ty->Nm->Ty->Prop
 |zero (s):Dv .zero s .zero
 |one (s):Dv .one s .zero
 |bound (k s):Dv (.bound k) s .zero
 |hit (s):Dv (.name s) s .one
 |sf {n s} (h:n≠s):Dv (.name n) s .zero
 |plus {a b s a' b'} (h1:Dv a s a') (h2:Dv b s b') (hl:(Ty.plus a' b').atoms<=400):Dv (.plus a b) s (.plus a' b')
 |times {a b s a' b'} (h1:Dv a s a') (h2:Dv b s b') (hl:(Ty.plus (.times a' b) (.times a b')).atoms<=400):Dv (.times a b) s (.plus (.times a' b) (.times a b'))
 |rc {a s c d} (x:Nm) (hx:bA x a=false) (hs:x≠s) (h1:Dv (eB (.name x) a 0) s c) (h2:Dv (eB (.name x) a 0) x d) (hl:(zJ a x c d).atoms<=400):Dv (.rc a) s (zJ a x c d)
theorem xc{f:Nm->Nm}(hf:I0 f)(a:Ty)(x:Nm)(c d:Ty):j7 f (zJ a x c d)=zJ (j7 f a) (f x) (j7 f c) (j7 f d):=by
 simp only[zJ,j7,lh hf]
theorem Dv.j7{f:Nm->Nm}(hf:I0 f){t d:Ty}{s:Nm}(h:Dv t s d):Dv (j7 f t) (f s) (j7 f d):=by
 induction h with
 |zero s=>exact .zero _
 |one s=>exact .one _
 |bound k s=>exact .bound _ _
 |hit s=>exact .hit _
 |sf h=>exact .sf fun e=>h (hf _ _ e)
 |plus h1 h2 hl i1 i2=>exact .plus i1 i2 (by rw[<-gz f]at hl;exact hl)
 |times h1 h2 hl i1 i2=>exact .times i1 i2 (by rw[<-gz f]at hl;exact hl)
 |
  rc x hx hs h1 h2 hl i1 i2 =>
  rw[xc hf]
  rw[lB]at i1 i2
  exact .rc (f x) (by rw[mK hf];exact hx) (fun e=>hs (hf _ _ e)) i1 i2 (by rw[<-xc hf,gz];exact hl)
theorem Dv.names{t d:Ty}{s:Nm}(h:Dv t s d):∀y,bA y d=true->bA y t=true:=by
 induction h with
 |zero s=>intro y hy;cases hy
 |one s=>intro y hy;cases hy
 |bound k s=>intro y hy;cases hy
 |hit s=>intro y hy;cases hy
 |sf h=>intro y hy;cases hy
 |
  plus h1 h2 hl i1 i2 =>
  intro y hy
  simp only[bA,bn]at hy |-
  rcases hy with hy|hy
  ·exact .inl (i1 y hy)
  ·exact .inr (i2 y hy)
 |
  times h1 h2 hl i1 i2 =>
  intro y hy
  simp only[bA,bn]at hy |-
  rcases hy with(hy|hy)|(hy|hy)
  ·exact .inl (i1 y hy)
  ·exact .inr hy
  ·exact .inl hy
  ·exact .inr (i2 y hy)
 |
  rc x hx hs h1 h2 hl i1 i2 =>
  intro y hy
  simp only[zJ,bA,bn,Bool.or_false]at hy |-
  have key:∀{a c:Ty},(∀y,bA y c=true->bA y (eB (.name x) a 0)=true)->bA y (sub x (.rc a) c)=true->bA y a=true:=fun i h=>by
   rcases iN _ h with h|⟨h,h'⟩
   ·exact h
   ·rcases iU _ _ (i y h')with e|e
    ·exact absurd e h
    ·exact e
  rcases hy with hy|hy
  ·exact key i1 hy
  ·exact key i2 hy
theorem Dv.fresh{t d:Ty}{s y:Nm}(h:Dv t s d)(hy:bA y t=false):bA y d=false:=by
 cases e:bA y d with
 |false=>rfl
 |true=>rw[h.names y e]at hy;cases hy
theorem Dv.move{a c:Ty}{x y s:Nm}(hx:bA x a=false)(hy:bA y a=false)(h:Dv (eB (.name x) a 0) s c):Dv (eB (.name y) a 0) (swp x y s) (Go.Proofs.Trees.j7 (swp x y) c):=by
 have:=h.j7 (xL x y)
 rw[lB,Bf,tT hx hy]at this
 exact this
theorem uS{a c:Ty}{x y s:Nm}(hx:bA x a=false)(hy:bA y a=false)(h:Dv (eB (.name x) a 0) s c):sub y (.rc a) (j7 (swp x y) c)=sub x (.rc a) c:=by
 have e:=lh (xL x y) x (.rc a) c
 rw[Bf,tT (t:=.rc a) hx hy]at e
 rw[<-e]
 have key:∀z,(z=x\/z=y)->bA z (sub x (.rc a) c)=false:=fun z hz=>by
  cases q:bA z (sub x (.rc a) c)with
  |false=>rfl
  |
   true =>
   exfalso
   have hz':bA z a=false:=by rcases hz with rfl|rfl<;>assumption
   rcases iN _ q with h1|⟨h1,h2⟩
   ·rw[show bA z (.rc a)=bA z a from rfl,hz']at h1;cases h1
   ·rcases iU _ _ (h.names z h2)with e|e
    ·exact h1 e
    ·rw[hz']at e;cases e
 exact tT (key x (.inl rfl)) (key y (.inr rfl))
theorem Dv.uniq:∀(n:Nat) (t:Ty),t.atoms<=n->∀{s:Nm} {d d':Ty},Dv t s d->Dv t s d'->d=d'
 |0,t,h,_,_,_,_,_=>by have:=sM t;omega
 |
  n+1,t,hn,s,d,d',h,h'=>by
  cases h with
  |zero=>cases h';rfl
  |one=>cases h';rfl
  |bound=>cases h';rfl
  |
   hit =>
   cases h' with
   |hit=>rfl
   |sf h=>exact absurd rfl h
  |
   sf h =>
   cases h' with
   |hit=>exact absurd rfl h
   |sf _=>rfl
  |
   plus h1 h2 =>
   simp only[Ty.atoms]at hn
   cases h' with
   |plus g1 g2=>rw[Dv.uniq n _ (by omega) h1 g1,Dv.uniq n _ (by omega) h2 g2]
  |
   times h1 h2 =>
   simp only[Ty.atoms]at hn
   cases h' with
   |times g1 g2=>rw[Dv.uniq n _ (by omega) h1 g1,Dv.uniq n _ (by omega) h2 g2]
  |
   rc x hx hs h1 h2 =>
   simp only[Ty.atoms]at hn
   cases h' with
   |
    rc y hy hs' g1 g2 =>
    rename_i a _ _ _ _ _ _
    have m1:=h1.move hx hy
    have m2:=h2.move hx hy
    rw[Ea (Ne.symm hs) (Ne.symm hs')]at m1
    rw[Bf]at m2
    have e1:=Dv.uniq n _ (by rw[iv];omega) m1 g1
    have e2:=Dv.uniq n _ (by rw[iv];omega) m2 g2
    rw[zJ,zJ,<-e1,<-e2,uS hx hy h1,uS hx hy h2]
open Classical in
noncomputable def MM (t:Ty) (s:Nm):Option Ty:=if h:∃d,Dv t s d then some (Classical.choose h)else none
theorem qj{t:Ty}{s:Nm}{d:Ty}:MM t s=some d↔Dv t s d:=by
 unfold MM
 by_cases h:∃d,Dv t s d
 ·rw[dif_pos h]
  have:=Classical.choose_spec h
  constructor
  ·intro e;cases e;exact this
  ·intro g;rw[Dv.uniq _ t (aq _) this g]
 ·rw[dif_neg h]
  exact⟨fun e=>(by cases e),fun g=>absurd ⟨d,g⟩ h⟩
def D9(t:Ty):Option Ty:=if t.atoms<=400 then some t else none
theorem ou{t d:Ty}:D9 t=some d↔t.atoms<=400/\t=d:=by
 unfold D9
 split
 ·rename_i h;simp[h]
 ·rename_i h;simp[h]
noncomputable def B4 (a:Ty) (x:Nm):Option Ty:=(MM (eB (.name x) a 0) x).bind fun d=>D9 (sub x (.rc a) d)
end Go.Proofs.Trees
namespace Go.Proofs.Trees
open Go Go.VL Go.RowKit
inductive Fr where
 |mk (s:List UInt8) (e:E) (o:List Fr)
def Fr.nm:Fr->List UInt8| .mk s _ _=>s
def Fr.ex:Fr->E| .mk _ e _=>e
def Fr.out:Fr->List Fr| .mk _ _ o=>o
def names:List Fr->List (List UInt8)
 |[]=>[]
 |f::r=>names r++[f.nm]
def xx(e:E)(o:List Fr):Ty:=(cF e (names o)).getD .zero
def E.sp:E->AV
 | .atom _=>.v (.slice none 0 0)
 | .list l=>.sl (E.bj l)
theorem iq(e:E):e.gU=[.v (.string (mk e.at)),e.sp]:=by cases e<;>rfl
theorem dy(e:E):e.kh=.agg [.v (.string (mk e.at)),e.sp]:=by cases e<;>rfl
theorem aX(e:E):LK.has .sl e.sp=True:=by cases e<;>simp[E.sp,bp,cE]
mutual
def Fr.cells:Fr->List AV
 | .mk s e o=>[.v (.string (mk s)),.v (.string (mk e.at)),e.sp,.sl (jY o)]
def jY:List Fr->List (List AV)
 |[]=>[]
 |f::r=>jY r++[f.cells]
end
mutual
def Fr.ei:Fr->AV
 | .mk s e o=>.ptr [(xx e o).av,nV o]
def nV:List Fr->AV
 |[]=>jZ
 |f::r=>.ptr [f.ei,nV r]
end
inductive WF:List Fr->Prop
 |nil:WF []
 |cons {s:List UInt8} {x a b:E} {t:Ty} {r:List Fr} (hs:cU s=true) (hok:(E.list [x,a,b]).ok) (hx:x.at=[114,101,99]) (ht:cF (.list [x,a,b]) (names r)=some t) (hf:bL t=false) (hr:WF r):WF (.mk s (.list [x,a,b]) r::r)
theorem kI:∀env:List Fr,(jY env).length=env.length
 |[]=>rfl
 |f::r=>by simp[jY,kI r]
theorem dS(env:List Fr):LK.has .ptr (nV env)=True:=by cases env<;>simp[nV,j3,gY]
theorem Az(f:Fr):LK.has .ptr f.ei=True:=by cases f;simp[Fr.ei,gY]
def findF(s:List UInt8):List Fr->Option Fr
 |[]=>none
 |f::r=>if f.nm=s then some f else findF s r
def hd(e:E)(env:List Fr):E×List Fr:=match findF e.at env with|some f=>(f.ex,f.out)|none=>(e,env)
theorem ky{env:List Fr}(h:WF env):findF [] env=none:=by
 induction h with
 |nil=>rfl
 |
  @cons s x a b t r hs hok hx ht hf hr ih =>
  rw[findF,if_neg (show ¬(Fr.mk s (.list [x,a,b]) r).nm=[] from Ap hs)];exact ih
theorem yT{env:List Fr}(h:WF env){s:List UInt8}{f:Fr}(hf:findF s env=some f):cU s=true:=by
 induction h with
 |nil=>cases hf
 |
  cons hs hok hx ht hf' hr ih =>
  rw[findF]at hf
  split at hf
  ·rename_i e;exact e ▸ hs
  ·exact ih hf
theorem oN{env:List Fr}(h:WF env){s:List UInt8}{f:Fr}(hf:findF s env=some f):∃x a b t,f.ex=.list [x,a,b]/\(E.list [x,a,b]).ok/\x.at=[114,101,99]/\cF f.ex (names f.out)=some t/\bL t=false/\WF f.out/\f.out.length<env.length:=by
 induction h with
 |nil=>cases hf
 |
  cons hs hok hx ht hf' hr ih =>
  rw[findF]at hf
  split at hf
  ·cases hf;exact⟨_,_,_,_,rfl,hok,hx,ht,hf',hr,by simp[Fr.out]⟩
  ·obtain⟨x,a,b,t,h1,h2,h3,h4,h5,h6,h7⟩:=ih hf
   exact⟨x,a,b,t,h1,h2,h3,h4,h5,h6,by simp;omega⟩
theorem j4(s w:List UInt8)(ar:List (List UInt8)):∀i,i<=ar.length->bG s (ar++[w]) i=(bG s ar i).map (·+1)
 |0,_=>rfl
 |
  i+1,hi=>by
  have hlt:i<ar.length:=by omega
  have e:(ar++[w]).getD i []=ar.getD i []:=by simp[aa,List.getElem?_append_left hlt]
  rw[bG,bG,e,j4 s w ar i (by omega)]
  split
  ·simp only[ak,aw,aE,cy,Option.some.injEq];omega
  ·rfl
theorem uP(s:List UInt8)(f:Fr)(r:List Fr):bG s (names (f::r)) (names (f::r)).length=if f.nm=s then some 0 else(bG s (names r) (names r).length).map (·+1):=by
 have e:(names (f::r)).length=(names r).length+1:=by simp[names]
 rw[e,bG]
 have e2:(names (f::r)).getD (names r).length []=f.nm:=by simp[names,aa]
 rw[e2]
 split
 ·rw[e];simp
 ·rw[names,j4 _ _ _ _ (aq _)]
theorem oH(s:List UInt8):∀env:List Fr,bG s (names env) (names env).length=none/\findF s env=none\/∃(u:Nat) (f:Fr),bG s (names env) (names env).length=some u/\findF s env=some f/\env[u]?=some f
 |[]=>.inl ⟨rfl,rfl⟩
 |
  f::r=>by
  rw[uP,findF]
  split
  ·exact .inr ⟨0,f,rfl,rfl,rfl⟩
  ·rcases oH s r with⟨h1,h2⟩|⟨u,g,h1,h2,h3⟩
   ·exact .inl ⟨by rw[h1];rfl,h2⟩
   ·exact .inr ⟨u+1,g,by rw[h1];rfl,h2,by simpa using h3⟩
def Ty.LB:Ty->Bool
 | .bound _=>true
 |_=>false
theorem i7{e:E}{env:List Fr}{t:Ty}(hw:WF env)(ht:cF e (names env)=some t) :
 (t.LB=false/\findF e.at env=none)\/∃(u:Nat) (f:Fr),t=.bound u/\findF e.at env=some f/\env[u]?=some f:=by
 cases e with
 |
  list l =>
  left
  refine⟨?_,ky hw⟩
  match l,ht with
  |
   [x,a,b],ht =>
   by_cases h0:x.at=[43]
   ·obtain⟨t1,t2,_,_,rfl⟩:=fm h0 ht;rfl
   ·by_cases h1:x.at=[42]
    ·obtain⟨t1,t2,_,_,rfl⟩:=eT h1 ht;rfl
    ·by_cases h2:x.at=[114,101,99]
     ·obtain⟨t1,_,_,rfl⟩:=di h2 ht;rfl
     ·rw[iQ _ h0 h1 h2]at ht;cases ht
  |[],ht=>cases ht
  |[_],ht=>cases ht
  |[_,_],ht=>cases ht
  |_::_::_::_::_,ht=>cases ht
 |
  atom s =>
  simp only[cF]at ht
  have hno:cU s=false->findF s env=none:=fun h=>by
   cases hq:findF s env with
   |none=>rfl
   |some f=>rw[yT hw hq]at h;cases h
  split at ht
  ·rename_i h;cases ht;subst h;exact .inl ⟨rfl,hno rfl⟩
  ·split at ht
   ·rename_i h;cases ht;subst h;exact .inl ⟨rfl,hno rfl⟩
   ·split at ht
    ·rename_i h
     cases ht
     refine .inl ⟨rfl,hno ?_⟩
     cases hq:cU s with
     |false=>rfl
     |
      true =>
      obtain⟨c,r,rfl,h1,h2⟩:=k9 h
      obtain⟨c',r',he,h3,h4⟩:=k9 hq
      cases he;omega
    ·split at ht
     ·rcases oH s env with⟨h1,h2⟩|⟨u,f,h1,h2,h3⟩
      ·rw[h1]at ht;cases ht;exact .inl ⟨rfl,h2⟩
      ·rw[h1]at ht;cases ht;exact .inr ⟨u,f,rfl,h2,h3⟩
     ·cases ht
def eU(n:Nat):Vl->E×List Fr->Bool
 | .u,p=>match hd p.1 p.2 with|(.atom s,_)=>s==[49]|_=>false
 | .el k,p=>match hd p.1 p.2 with|(.atom s,_)=>!(s==[49])&&(gJ s&&decide (k<n))|_=>false
 | .l w,p=>match hd p.1 p.2 with|(.list [x,a,b],o)=>(x.at==[43])&&eU n w (a,o)|_=>false
 | .r w,p=>match hd p.1 p.2 with|(.list [x,a,b],o)=>(x.at==[43])&&eU n w (b,o)|_=>false
 | .f w,p=>match hd p.1 p.2 with|(.list [x,a,b],o)=>(x.at==[114,101,99])&&eU n w (b,.mk a.at (.list [x,a,b]) o::o)|_=>false
 | .p v w,p=>match hd p.1 p.2 with|(.list [x,a,b],o)=>(x.at==[42])&&(eU n v (a,o)&&eU n w (b,o))|_=>false
theorem lA{e:E}{env:List Fr}(h:findF e.at env=none):hd e env=(e,env):=by rw[hd,h]
theorem qf{e:E}{env:List Fr}{f:Fr}(h:findF e.at env=some f):hd e env=(f.ex,f.out):=by rw[hd,h]
theorem pe{x a b:E}{o:List Fr}(h:WF o):hd (.list [x,a,b]) o=(.list [x,a,b],o):=lA (ky h)
theorem tS(n:Nat)(v:Vl){e e':E}{env o:List Fr}(h:hd e env=(e',o))(h':hd e' o=(e',o)):eU n v (e,env)=eU n v (e',o):=by
 cases v<;>simp only[eU,h,h']
theorem jH{x a b:E}{env:List Fr}{t:Ty}(hw:WF env)(hok:(E.list [x,a,b]).ok)(hx:x.at=[114,101,99])(ht:cF (.list [x,a,b]) (names env)=some t)(hf:bL t=false) :
 ∃t1,t=.rc t1/\cF b (names (.mk a.at (.list [x,a,b]) env::env))=some t1/\bL t1=false/\WF (.mk a.at (.list [x,a,b]) env::env):=by
 obtain⟨t1,hl,h1,rfl⟩:=di hx ht
 exact⟨t1,rfl,h1,hf,.cons hl hok hx ht hf hw⟩
theorem Cz(a b env:AV)(n:Int)(s:ByteArray)(u:Int)(ha:LK.ptr.has a)(he:LK.ptr.has env):aB Tryz.prog 39 [.agg [.ptr [.v (.int .u8 n),.v (.string s),.v (.int .i64 u),a,b],env]] [] (bU (.agg [a,env])):=by
 refine Oc _ _ ((gY _).mpr trivial) he ?_
 simp only[Jy,↓zq,zs,ah,bU]
 exact⟨ha,by omega⟩
theorem CY(a b env:AV)(n:Int)(s:ByteArray)(u:Int)(hb:LK.ptr.has b)(he:LK.ptr.has env):aB Tryz.prog 40 [.agg [.ptr [.v (.int .u8 n),.v (.string s),.v (.int .i64 u),a,b],env]] [] (bU (.agg [b,env])):=by
 refine Nk _ _ ((gY _).mpr trivial) he ?_
 simp only[Iv,↓zq,zs,ah,bU]
 exact⟨hb,by omega⟩
theorem N0(t:Ty)(env:List Fr)(s:List UInt8)(e:E)(ht:xx e env=.rc t):aB Tryz.prog 18 [.agg [(Ty.rc t).av,nV env]] [] (bU (.cP [.agg [t.av,nV (.mk s e env::env)],(Fr.mk s e env).ei])):=by
 refine M6 _ _ ((bm _).mpr trivial) ((dS _).mpr trivial) ?_
 simp only[Hy,Ty.av,↓zq,zs,ah,bm,bU,nV,Fr.ei,ht]
 omega
theorem sG(env:List Fr)(i:Nat)(f:Fr)(h:env[i]?=some f):nV (env.drop i)=.ptr [f.ei,nV (env.drop (i+1))]:=by
 obtain⟨hlt,he⟩:=cq.1 h
 rw[aP hlt,he,nV]
theorem Kk(env:List Fr)(u:Nat)(hu:u<env.length)(hl:env.length<1000000):∀(k i:Nat),i+k=u->Co [nV (env.drop i),.v (.int .i64 (u:Int)),.v (.int .i64 (i:Int))] [] (kl 1 [nV (env.drop u)] [])
 |
  0,i,hi=>by
  refine Du _ _ _ ?_
  have:i=u:=by omega
  subst this
  simp only[IV,↓zq,zs,ah,dS]
  exact⟨fun h=>by omega,fun _=>by simp[kl]⟩
 |
  k+1,i,hi=>by
  refine Du _ _ _ ?_
  have hlt:i<env.length:=by omega
  have hg:env[i]?=some env[i]:=aV hlt
  have hd:=sG env i _ hg
  rw[hd]
  simp only[IV,↓zq,zs,ah,dS]
  refine⟨fun _=>⟨by omega,?_⟩,fun h=>by omega⟩
  rw[bX i (by omega)]
  exact Kk env u hu hl k (i+1) (by omega)
theorem Mh(env:List Fr)(u:Nat)(f:Fr)(hf:env[u]?=some f)(hl:env.length<1000000):aB Tryz.prog 38 [.agg [(Ty.bound u).av,nV env]] [] (bU f.ei):=by
 refine La _ _ ((bm _).mpr trivial) ((dS _).mpr trivial) ?_
 obtain⟨hlt,he⟩:=cq.1 hf
 simp only[Fb,Ty.av,↓zq,zs,ah]
 refine⟨by omega,?_⟩
 have h:=Kk env u hlt hl u 0 (by omega)
 simp only[bz]at h
 refine db h ?_
 rw[sG env u f hf]
 simp only[↓zq,zs,ah,Az,bU]
 omega
theorem C9(k:Nat)(h:k<100):Lib.atoi (dd k)=some (k:Int):=by
 have e:∀k,k<100->dd k=if k<10 then [bb (48+k)]else [bb (48+k/10),bb (48+k%10)]:=by
  intro k hk
  by_cases h1:k<10
  ·rw[fa h1,if_pos h1]
  ·rw[fL h1,fa (by omega),if_neg h1];rfl
 have key:∀k:Fin 100,Lib.atoi (if k.val<10 then [bb (48+k.val)]else [bb (48+k.val/10),bb (48+k.val%10)])=some (k.val:Int):=by decide +kernel
 rw[e k h];exact key ⟨k,h⟩
theorem N2(k:Nat)(hk:k<100):aB Tryz.prog 72 [.v (.string (mk (dd k)))] [] (bU (.cP [.v (.int .i64 (k:Int)),.v .nilIface])):=by
 have hl:=pj 1000 k (by omega)
 have hl2:(dd k).length<=18:=by
  have e:(dd k).length<=2:=by
   by_cases h1:k<10
   ·rw[fa h1];simp
   ·rw[fL h1,fa (by omega)];simp
  omega
 refine aB.ML (xs:=[.string (mk (dd k))]) (v:=.tuple #[.int .i64 (k:Int),.nilIface]) ⟨p8,by kernel_rfl,by kernel_rfl,by kernel_rfl⟩ (fun M=>?_) fun w=>?_
 ·refine bo.cP _ _ [.int .i64 (k:Int),.nilIface] rfl fun i hi=>?_
  match i,hi with
  |0,_=>exact .v _ _
  |1,_=>exact .v _ _
 ·have:=Any.strconv_Atoi Tryz.DB (mk (dd k)) (k:Int) (by rw[dc];exact hl2) (by
   have:(mk (dd k)).data.toList=dd k:=by simp[mk]
   rw[this];exact C9 k hk) w
  refine Calls.mono this fun e w' ⟨h1,t,h2⟩=>⟨h1,?_⟩
  subst h2
  refine⟨rfl,rfl,rfl,?_,fun b hb=>Lib.bytesWorld_at_old _ _ _ _ hb⟩
  simp[Lib.bytesWorld,World.freeze]
end Go.Proofs.Trees
namespace Go.Proofs.Trees
open Go Go.VL Go.RowKit
theorem fQ{a b:Ty}(h:bL (.plus a b)=false):bL a=false/\bL b=false:=by simpa[bL]using h
theorem fj{a b:Ty}(h:bL (.times a b)=false):bL a=false/\bL b=false:=by simpa[bL]using h
theorem fK{e:E}{ar:List (List UInt8)}{t:Ty}(ht:cF e ar=some t)(hb:t.LB=false)(hf:bL t=false) :
 (e=.atom [48]/\t=.zero)\/(e=.atom [49]/\t=.one)\/(∃s,e=.atom s/\t=.name s/\gJ s=true/\s≠[48]/\s≠[49]) ∨
 (∃x a b t1 t2,e=.list [x,a,b]/\x.at=[43]/\t=.plus t1 t2/\cF a ar=some t1/\cF b ar=some t2) ∨
 (∃x a b t1 t2,e=.list [x,a,b]/\x.at=[42]/\t=.times t1 t2/\cF a ar=some t1/\cF b ar=some t2) ∨
 (∃x a b t1,e=.list [x,a,b]/\x.at=[114,101,99]/\t=.rc t1):=by
 cases e with
 |
  list l =>
  match l,ht with
  |
   [x,a,b],ht =>
   by_cases h0:x.at=[43]
   ·obtain⟨t1,t2,h1,h2,rfl⟩:=fm h0 ht
    exact .inr (.inr (.inr (.inl ⟨x,a,b,t1,t2,rfl,h0,rfl,h1,h2⟩)))
   ·by_cases h1:x.at=[42]
    ·obtain⟨t1,t2,h3,h2,rfl⟩:=eT h1 ht
     exact .inr (.inr (.inr (.inr (.inl ⟨x,a,b,t1,t2,rfl,h1,rfl,h3,h2⟩))))
    ·by_cases h2:x.at=[114,101,99]
     ·obtain⟨t1,_,_,rfl⟩:=di h2 ht
      exact .inr (.inr (.inr (.inr (.inr ⟨x,a,b,t1,rfl,h2,rfl⟩))))
     ·rw[iQ _ h0 h1 h2]at ht;cases ht
  |[],ht=>cases ht
  |[_],ht=>cases ht
  |[_,_],ht=>cases ht
  |_::_::_::_::_,ht=>cases ht
 |
  atom s =>
  simp only[cF]at ht
  split at ht
  ·rename_i h;cases ht;subst h;exact .inl ⟨rfl,rfl⟩
  ·rename_i h0
   split at ht
   ·rename_i h;cases ht;subst h;exact .inr (.inl ⟨rfl,rfl⟩)
   ·rename_i h1
    split at ht
    ·rename_i h;cases ht;exact .inr (.inr (.inl ⟨s,rfl,rfl,h,h0,h1⟩))
    ·split at ht
     ·rename_i h
      split at ht
      ·cases ht;cases hb
      ·cases ht;simp only[bL]at hf;rw[h]at hf;cases hf
     ·cases ht
def pL(n:Nat)(v:Vl)(e:E)(env:List Fr)(t:Ty):Prop:=aB Tryz.prog 51 [.agg [t.av,nV env],v.ei,.v (.int .i64 (n:Int))] [] (bU (.v (.bool (eU n v (e,env)))))
structure Ask(e:E)(env:List Fr)(t:Ty):Prop where
 ok:e.ok
 wf:WF env
 ty:cF e (names env)=some t
 cl:bL t=false
theorem IJ(n:Nat)(hn:n<=100)(v:Vl)(hv:v.dW 100)(IH:∀w:Vl,w.nodes<v.nodes->w.dW 100->∀e env t,Ask e env t->env.length+w.nodes<100000->pL n w e env t)
 (e:E) (env:List Fr) (t:Ty) (A:Ask e env t) (hl:env.length+v.nodes<100000) (hb:t.LB=false) (hh:findF e.at env=none):pL n v e env t:=by
 have hhd:hd e env=(e,env):=lA hh
 unfold pL
 refine HN _ _ _ _ ((bm _).mpr trivial) ((dS _).mpr trivial) ((bu _).mpr trivial) ?_
 rcases fK A.ty hb A.cl with⟨rfl,rfl⟩|⟨rfl,rfl⟩|⟨s,rfl,rfl,hp,h0,h1⟩|⟨x,a,b,t1,t2,rfl,hx,rfl,ha,hbb⟩|⟨x,a,b,t1,t2,rfl,hx,rfl,ha,hbb⟩|⟨x,a,b,t1,rfl,hx,rfl⟩
 ·have hp0:gJ [48]=false:=rfl
  cases v<;>simp[zI,Ty.av,↓zq,zs,ah,bU,eU,hhd,hp0]
 ·have hp0:gJ [49]=false:=rfl
  cases v<;>simp[zI,Ty.av,Vl.ei,↓zq,zs,ah,bU,eU,hhd,hp0]
 ·have h1':(s==[49])=false:=by simpa using h1
  cases v with
  |
   el k =>
   have hk:k<100:=hv
   simp only[zI,Ty.av,Vl.ei,↓zq,zs,ah,zt]
   refine⟨by omega,fun h=>by omega,fun _=>⟨fun _=>⟨by omega,fun h=>absurd rfl h,fun _=>⟨by omega,by omega,?_⟩⟩,fun h=>absurd rfl h⟩⟩
   have e1:(List.take ((dd k).length+1) (wE k)).drop (bQ 1)=dd k:=by simp[wE]
   rw[e1]
   refine an (N2 k hk) ?_
   simp only[↓zq,zs,ah,bU,eU,hhd,h1',hp,zf]
   refine⟨rfl,?_⟩
   congr 2
   rw[cL];simp
  |
   _ =>
   simp only[zI,Ty.av,Vl.ei,↓zq,zs,ah,zt,eU,hhd,h1',bU]
   exact⟨by omega,fun h=>by omega,fun _=>⟨fun _=>⟨by omega,fun _=>trivial,fun h=>by omega⟩,fun h=>absurd rfl h⟩⟩
 ·have hok:=A.ok
  obtain⟨ok1,ok2,ok3,_⟩:=hok
  obtain⟨f1,f2⟩:=fQ A.cl
  cases v with
  |
   l w =>
   simp only[Vl.nodes]at hl
   simp only[zI,Ty.av,Vl.ei,↓zq,zs,ah]
   refine⟨by omega,fun h=>by omega,fun _=>⟨fun h=>by omega,fun _=>⟨fun h=>by omega,fun _=>⟨fun _=>⟨by omega,fun _=>?_,fun h=>absurd rfl h⟩,fun h=>absurd rfl h⟩⟩⟩⟩
   refine an (Cz _ _ _ _ _ _ ((bm _).mpr trivial) ((dS _).mpr trivial)) ?_
   simp only[↓zq,zs,ah,cc,bm,dS,bu]
   refine⟨by omega,?_⟩
   refine an (IH w (by simp only[Vl.nodes];omega) hv a env t1 ⟨ok2,A.wf,ha,f1⟩ (by omega)) ?_
   simp only[↓zq,zs,ah,bU,eU,hhd,hx]
   refine⟨fun h=>?_,fun h=>⟨by omega,fun h=>by omega,fun _=>?_⟩⟩
   ·simp[h]
   ·simp[h]
  |
   r w =>
   simp only[Vl.nodes]at hl
   simp only[zI,Ty.av,Vl.ei,↓zq,zs,ah]
   refine⟨by omega,fun h=>by omega,fun _=>⟨fun h=>by omega,fun _=>⟨fun h=>by omega,fun _=>⟨fun _=>⟨by omega,fun h=>by omega,fun _=>⟨by omega,fun _=>?_,fun h=>absurd rfl h⟩⟩,fun h=>absurd rfl h⟩⟩⟩⟩
   refine an (CY _ _ _ _ _ _ ((bm _).mpr trivial) ((dS _).mpr trivial)) ?_
   simp only[↓zq,zs,ah,cc,bm,dS,bu]
   refine⟨by omega,?_⟩
   refine an (IH w (by simp only[Vl.nodes];omega) hv b env t2 ⟨ok3,A.wf,hbb,f2⟩ (by omega)) ?_
   simp[↓zq,zs,ah,bU,eU,hhd,hx]
  |
   _ =>
   simp only[zI,Ty.av,Vl.ei,↓zq,zs,ah,eU,hhd,bU]
   exact⟨by omega,fun h=>by omega,fun _=>⟨fun h=>by omega,fun _=>⟨fun h=>by omega,fun _=>⟨fun _=>⟨by omega,fun h=>by omega,fun _=>⟨by omega,fun h=>by omega,fun _=>by simp[hx]⟩⟩,fun h=>absurd rfl h⟩⟩⟩⟩
 ·have hok:=A.ok
  obtain⟨ok1,ok2,ok3,_⟩:=hok
  obtain⟨f1,f2⟩:=fj A.cl
  cases v with
  |
   p v w =>
   simp only[Vl.nodes]at hl
   simp only[zI,Ty.av,Vl.ei,↓zq,zs,ah]
   refine⟨by omega,fun h=>by omega,fun _=>⟨fun h=>by omega,fun _=>⟨fun h=>by omega,fun _=>⟨fun h=>by omega,fun _=>⟨fun _=>⟨by omega,fun _=>?_,fun h=>absurd rfl h⟩,fun h=>absurd rfl h⟩⟩⟩⟩⟩
   refine an (Cz _ _ _ _ _ _ ((bm _).mpr trivial) ((dS _).mpr trivial)) ?_
   simp only[↓zq,zs,ah,cc,bm,dS,bu]
   refine⟨by omega,?_⟩
   refine an (IH v (by simp only[Vl.nodes];omega) hv.1 a env t1 ⟨ok2,A.wf,ha,f1⟩ (by omega)) ?_
   simp only[↓zq,zs,ah,bU,eU,hhd,hx]
   refine⟨fun h=>?_,fun h=>?_⟩
   ·refine an (CY _ _ _ _ _ _ ((bm _).mpr trivial) ((dS _).mpr trivial)) ?_
    simp only[↓zq,zs,ah,cc,bm,dS,bu]
    refine⟨by omega,?_⟩
    refine an (IH w (by simp only[Vl.nodes];omega) hv.2 b env t2 ⟨ok3,A.wf,hbb,f2⟩ (by omega)) ?_
    simp[↓zq,zs,ah,h]
   ·simp[h]
  |
   _ =>
   simp only[zI,Ty.av,Vl.ei,↓zq,zs,ah,eU,hhd,bU]
   exact⟨by omega,fun h=>by omega,fun _=>⟨fun h=>by omega,fun _=>⟨fun h=>by omega,fun _=>⟨fun h=>by omega,fun _=>⟨fun _=>⟨by omega,fun h=>by omega,fun _=>by simp[hx]⟩,fun h=>absurd rfl h⟩⟩⟩⟩⟩
 ·obtain⟨t1',he1,h1,f1,hw1⟩:=jH A.wf A.ok hx A.ty A.cl
  cases he1
  have hok:=A.ok
  obtain⟨ok1,ok2,ok3,_⟩:=hok
  have htD:xx (.list [x,a,b]) env=.rc t1:=by rw[xx,A.ty];rfl
  have hin:=N0 t1 env a.at (.list [x,a,b]) htD
  simp only[Ty.av]at hin
  simp only[zI,Ty.av,↓zq,zs,ah]
  refine⟨by omega,fun h=>by omega,fun _=>⟨fun h=>by omega,fun _=>⟨fun h=>by omega,fun _=>⟨fun h=>by omega,fun _=>⟨fun h=>by omega,fun _=>⟨fun _=>?_,fun h=>absurd rfl h⟩⟩⟩⟩⟩⟩
  refine an hin ?_
  simp only[↓zq,zs,ah,cc,bm,dS,Az,bu,eI]
  cases v with
  |
   f w =>
   simp only[Vl.nodes]at hl
   simp only[Vl.ei,↓zq,zs,ah,bu]
   refine⟨by omega,fun _=>⟨by omega,?_⟩,fun h=>absurd rfl h⟩
   refine an (IH w (by simp only[Vl.nodes];omega) hv b (.mk a.at (.list [x,a,b]) env::env) t1 ⟨ok3,hw1,h1,f1⟩ (by simp;omega)) ?_
   simp[↓zq,zs,ah,bU,eU,hhd,hx]
  |
   _ =>
   simp only[Vl.ei,↓zq,zs,ah,eU,hhd,bU]
   exact⟨by omega,fun h=>by omega,fun _=>by simp[hx]⟩
theorem J2(n:Nat)(hn:n<=100):∀(m:Nat) (v:Vl),v.nodes<m->v.dW 100->∀e env t,Ask e env t->env.length+v.nodes<100000->pL n v e env t
 |0,v,h,_=>by omega
 |
  m+1,v,h,hv=>by
  intro e env t A hl
  have IH:∀w:Vl,w.nodes<v.nodes->w.dW 100->∀e env t,Ask e env t->env.length+w.nodes<100000->pL n w e env t:=fun w hw hb=>J2 n hn m w (by omega) hb
  rcases i7 A.wf A.ty with⟨hb,hh⟩|⟨u,f,rfl,hh,hu⟩
  ·exact IJ n hn v hv IH e env t A hl hb hh
  ·obtain⟨x,a,b,t',hfe,hok,hx,ht',hf',hwf,hlt⟩:=oN A.wf hh
   obtain⟨t1,hl1,h1,rfl⟩:=di hx (hfe ▸ ht')
   have hvis:eU n v (e,env)=eU n v (f.ex,f.out):=tS n v (qf hh) (by rw[hfe];exact pe hwf)
   unfold pL
   refine HN _ _ _ _ ((bm _).mpr trivial) ((dS _).mpr trivial) ((bu _).mpr trivial) ?_
   have hbd:=Mh env u f hu (by omega)
   simp only[Ty.av]at hbd
   simp only[zI,Ty.av,↓zq,zs,ah]
   refine⟨by omega,fun h=>by omega,fun _=>⟨fun h=>by omega,fun _=>⟨fun _=>?_,fun h=>absurd rfl h⟩⟩⟩
   refine an hbd ?_
   cases f with
   |
    mk s ee oo =>
    simp only[Fr.ex,Fr.out]at hfe ht' hf' hwf hvis hlt
    have htD:xx ee oo=.rc t1:=by rw[xx,ht'];rfl
    simp only[Fr.ei,htD,↓zq,zs,ah,cc,bm,dS]
    refine⟨by omega,?_⟩
    have hs:=IJ n hn v hv IH ee oo (.rc t1) ⟨by rw[hfe];exact hok,hwf,ht',hf'⟩ (by omega) rfl (by rw[hfe];exact ky hwf)
    unfold pL at hs
    refine an hs ?_
    simp[↓zq,zs,ah,bU,hvis]
end Go.Proofs.Trees
namespace Go.Proofs.Trees
open Go Go.VL Go.RowKit
theorem s5:∀(env:List Fr) (k:Nat) (f:Fr),env[k]?=some f->(jY env).getD (env.length-1-k) []=f.cells
 |[],k,f,h=>by cases h
 |
  g::r,0,f,h=>by
  cases h
  have:(g::r).length-1-0=(jY r).length:=by simp[kI]
  rw[this,jY];simp[aa]
 |
  g::r,k+1,f,h=>by
  have h':r[k]?=some f:=by simpa using h
  have hlt:=(cq.1 h').1
  have e:(g::r).length-1-(k+1)=r.length-1-k:=by simp;omega
  have:=s5 r k f h'
  rw[e,jY,aa,List.getElem?_append_left (by rw[kI];omega),<-aa]
  exact this
theorem qT(f:Fr):f.cells=[.v (.string (mk f.nm)),.v (.string (mk f.ex.at)),f.ex.sp,.sl (jY f.out)]:=by cases f;rfl
theorem I5(e:E)(env:List Fr)(hl:env.length<1000000):∀(j k:Nat),k+j=env.length->E6 [.sl (jY env),.v (.int .i64 ((env.length:Int)-1-(k:Int)))] [.cells [.v (.string (mk e.at)),e.sp],.cells [.v (.string (mk [])),.v (.slice none 0 0)]]
 (se (match findF e.at (env.drop k)with|some f=>(2,[.sl (jY f.out)],[.cells [.v (.string (mk f.ex.at)),f.ex.sp]])|none=>(1,[.sl (jY env)],[.cells [.v (.string (mk e.at)),e.sp],.cells [.v (.string (mk [])),.v (.slice none 0 0)]])))
 |
  0,k,hk=>by
  refine HV _ _ _ _ _ _ ?_
  have hd:env.drop k=[]:=bx (by omega)
  simp only[EH,↓zq,zs,ah,aX,hd,findF]
  exact⟨fun h=>by omega,fun _=>by first|trivial|rfl⟩
 |
  j+1,k,hk=>by
  refine HV _ _ _ _ _ _ ?_
  have hlt:k<env.length:=by omega
  have hg:env[k]?=some env[k]:=aV hlt
  have hc:=s5 env k _ hg
  have e1:((env.length:Int)-1-(k:Int))=((env.length-1-k:Nat):Int):=by omega
  have hdr:env.drop k=env[k]::env.drop (k+1):=aP hlt
  rw[hdr,findF,e1]
  simp only[EH,cj,hc,qT,↓zq,zs,ah,zt,aX,kI,cc]
  refine⟨fun _=>⟨by omega,by omega,fun h=>⟨by omega,by omega,by omega,by omega,?_⟩,fun h=>?_⟩,fun h=>by omega⟩
  ·rw[if_pos h]
  ·rw[if_neg h]
   have e2:IntKind.wrap .i64 (((env.length-1-k:Nat):Int)-1)=(env.length:Int)-1-((k+1:Nat):Int):=by
    have:IntKind.wrap .i64 (((env.length-1-k:Nat):Int)-1)=((env.length-1-k:Nat):Int)-1:=wrap64 _ (by omega) (by omega)
    omega
   rw[e2]
   exact I5 e env hl j (k+1) (by omega)
theorem Nz(e:E)(env:List Fr)(hl:env.length<1000000):aB Tryz.prog 55 [e.kh,.sl (jY env)] [] (bU (.cP [(hd e env).1.kh,.sl (jY (hd e env).2)])):=by
 rw[dy e]
 refine Nu _ _ _ ((aX _).mpr trivial) ((cE _).mpr trivial) ?_
 simp only[HM,↓zq,zs,ah,kI,bU]
 have h:=I5 e env hl env.length 0 (by omega)
 simp only[bz]at h
 rw[wrap64 _ (by omega) (by omega)]
 rw[show (env.length:Int)-1-((0:Nat):Int)=(env.length:Int)-1 by omega]at h
 refine i4 h (fun ys o e'=>?_) (fun ys o e'=>?_)
 ·unfold hd
  cases hq:findF e.at env<;>rw[hq]at e'<;>cases e'
  simp only[↓zq,zs,ah,zt,aX,dy]
 ·unfold hd
  cases hq:findF e.at env<;>rw[hq]at e'<;>cases e'
  simp only[↓zq,zs,ah,zt,aX,dy]
theorem pM:∀env:List Fr,cI 4 (jY env)
 |[]=>fun c hc=>by cases hc
 |
  f::r=>fun c hc=>by
  simp only[jY,aH,aQ]at hc
  rcases hc with hc|rfl
  ·exact pM r c hc
  ·rw[qT];rfl
theorem N9(x a b:E)(env:List Fr)(hl:env.length<1000000):aB Tryz.prog 58 [(E.list [x,a,b]).kh,.sl (jY env)] [] (bU (.cP [b.kh,.sl (jY (.mk a.at (.list [x,a,b]) env::env))])):=by
 refine NJ _ _ _ ((cE _).mpr trivial) ((cE _).mpr trivial) ?_
 simp only[Ic,E.bj,toNat_one,bf,↓zq,zs,ah,zt,iF,fU,iB,l5,aq,kI,bU,bg]
 refine⟨by omega,⟨pM env,by omega⟩,by omega,by omega,⟨fun c hc=>(by simp at hc;rw[hc];rfl),by omega⟩,?_⟩
 simp only[jY,qT,Fr.nm,Fr.ex,Fr.out,E.at,E.sp,E.bj]
theorem Cu(s:ByteArray)(e:E):cc [.str,.sl] [.v (.string s),e.sp] 0=True:=by apply eq_true;simp[cc,dU,aX]
theorem Fa{e:E}{env:List Fr}{t:Ty}(A:Ask e env t):∃e' o t',hd e env=(e',o)/\Ask e' o t'/\t'.LB=false/\hd e' o=(e',o)/\o.length<=env.length:=by
 rcases i7 A.wf A.ty with⟨hb,hh⟩|⟨u,f,rfl,hh,hu⟩
 ·exact⟨e,env,t,lA hh,A,hb,lA hh,aq _⟩
 ·obtain⟨x,a,b,t',hfe,hok,hx,ht',hf',hwf,hlt⟩:=oN A.wf hh
  refine⟨f.ex,f.out,t',qf hh,⟨by rw[hfe];exact hok,hwf,ht',hf'⟩,?_,?_,by omega⟩
  ·obtain⟨t1,_,_,rfl⟩:=di hx (hfe ▸ ht');rfl
  ·rw[hfe];exact pe hwf
def vh:Vl->List UInt8
 | .l _=>[108]
 | .r _=>[114]
 | .f _=>[102]
 | .p _ _=>[112]
 |_=>[]
theorem BA(v:Vl):aB Tryz.prog 29 [v.cb.kh] [] (bU (.v (.string (mk (vh v))))):=by
 cases v with
 |u=>exact zU _ _ ((bp).mpr trivial) (by simp)
 |el k=>exact zU _ _ ((bp).mpr trivial) (by simp)
 |l v=>exact uy _ _
 |r v=>exact uy _ _
 |f v=>exact uy _ _
 |p v w=>exact uy _ _
theorem OW(v:Vl)(hv:v.dW 100):v.cb.at=(match v with| .u=>[117]| .el k=>wE k|_=>[])/\Bu v.cb.at=(match v with| .el k=>(k:Int)|_=>-1):=by
 cases v with
 |el k=>exact⟨rfl,GD k hv⟩
 |u=>exact⟨rfl,rfl⟩
 |_=>exact⟨rfl,rfl⟩
theorem yD(n:Nat)(hn:n<=100):∀(m:Nat) (v:Vl),v.nodes<m->v.dW 100->∀e env t,Ask e env t->env.length+v.nodes<100000->aB Tryz.prog 31 [e.kh,.sl (jY env),v.cb.kh,.v (.int .i64 (n:Int))] [] (bU (.v (.bool (eU n v (e,env)))))
 |0,v,hm,hv,e,env,t,A,hl=>by omega
 |
  m+1,v,hm,hv,e,env,t,A,hl=>by
  obtain⟨e',o,t',hhd,A',hb,hh',hlen⟩:=Fa A
  rw[tS n v hhd hh',dy e,dy v.cb]
  refine Mf _ _ _ _ _ _ ((aX _).mpr trivial) ((cE _).mpr trivial) ((aX _).mpr trivial) ?_
  have hf:=Nz e env (by omega)
  rw[dy e,hhd]at hf
  have hvh:=BA v
  rw[dy]at hvh
  unfold IS
  refine an hf ?_
  simp only[dy e',↓zq,zs,ah,zt,aX,Cu,bU]
  rcases fK A'.ty hb A'.cl with⟨rfl,rfl⟩|⟨rfl,rfl⟩|⟨s,rfl,rfl,hp,h0,h1⟩|⟨x,a,b,t1,t2,rfl,hx,rfl,ha,hbb⟩|⟨x,a,b,t1,t2,rfl,hx,rfl,ha,hbb⟩|⟨x,a,b,t1,rfl,hx,rfl⟩
  ·refine⟨fun _=>⟨fun h=>by simp[E.at]at h,fun _=>an (FA _) ?_⟩,fun h=>by simp[E.at]at h⟩
   have hp0:gJ (E.atom [48]).at=false:=rfl
   have hp1:gJ [48]=false:=rfl
   cases v<;>simp[↓zq,zs,ah,hp0,eU,hh',hp1]
  ·refine⟨fun _=>⟨fun _=>?_,fun h=>absurd rfl h⟩,fun h=>by simp[E.at]at h⟩
   have hp1:gJ [49]=false:=rfl
   cases v<;>simp[eU,hh',hp1,Vl.cb,E.at]
  ·have hne:s≠[]:=A'.ok
   have h1':(s==[49])=false:=by simpa using h1
   refine⟨fun _=>⟨fun h=>absurd h h1,fun _=>an (FA _) ?_⟩,fun h=>absurd h hne⟩
   have hat:(E.atom s).at=s:=rfl
   simp only[hat,hp,↓zq,zs,ah]
   refine⟨fun _=>an (KT _) ?_,fun h=>by cases h⟩
   simp only[↓zq,zs,ah]
   rw[wrap64 _ (by omega) (by omega)]
   refine an (Ct _ _ _) ?_
   simp only[↓zq,zs,ah,D0,(OW v hv).2]
   cases v with
   |
    el k =>
    simp only[eU,hh',h1',hp,zf]
    congr 2
    rw[cL];simp;omega
   |_=>simp[eU,hh',h1']
  ·have hok:=A'.ok
   obtain⟨ok1,ok2,ok3,_⟩:=hok
   obtain⟨f1,f2⟩:=fQ A'.cl
   refine⟨fun h=>absurd rfl h,fun _=>an (uy x [a,b]) ?_⟩
   simp only[↓zq,zs,ah]
   refine an hvh ?_
   rw[hx]
   cases v with
   |
    l w =>
    simp only[Vl.nodes]at hl
    simp only[vh,Vl.cb,E.sp,E.bj,toNat_one,bf,↓zq,zs,ah,zt,iF,fU,iB,l5,aq]
    refine⟨by simp,fun _=>⟨by omega,by omega,an (yD n hn m w (by simp only[Vl.nodes]at hm;omega) hv a o t1 ⟨ok2,A'.wf,ha,f1⟩ (by omega)) ?_⟩,fun h=>absurd rfl h⟩
    simp[↓zq,zs,ah,eU,hh',hx]
   |
    r w =>
    simp only[Vl.nodes]at hl
    simp only[vh,Vl.cb,E.sp,E.bj,toNat_one,bf,↓zq,zs,ah,zt,iF,fU,iB,l5,aq]
    refine⟨by simp,fun h=>by simp at h,fun _=>⟨fun _=>⟨by omega,by omega,an (yD n hn m w (by simp only[Vl.nodes]at hm;omega) hv b o t2 ⟨ok3,A'.wf,hbb,f2⟩ (by omega)) ?_⟩,fun h=>absurd rfl h⟩⟩
    simp[↓zq,zs,ah,eU,hh',hx]
   |_=>simp[vh,↓zq,zs,ah,zt,eU,hh',hx]
  ·have hok:=A'.ok
   obtain⟨ok1,ok2,ok3,_⟩:=hok
   obtain⟨f1,f2⟩:=fj A'.cl
   refine⟨fun h=>absurd rfl h,fun _=>an (uy x [a,b]) ?_⟩
   simp only[↓zq,zs,ah]
   refine an hvh ?_
   rw[hx]
   cases v with
   |
    p w z =>
    simp only[Vl.nodes]at hl
    simp only[vh,Vl.cb,E.sp,E.bj,toNat_one,bf,↓zq,zs,ah,zt,iF,fU,iB,l5,aq]
    refine⟨by simp,fun h=>by simp at h,fun _=>⟨fun h=>by simp at h,fun _=>⟨fun _=>⟨by omega,by omega,an (yD n hn m w (by simp only[Vl.nodes]at hm;omega) hv.1 a o t1 ⟨ok2,A'.wf,ha,f1⟩ (by omega)) ?_⟩,fun h=>absurd rfl h⟩⟩⟩
    simp only[↓zq,zs,ah,eU,hh',hx]
    refine⟨fun h=>⟨by omega,by omega,an (yD n hn m z (by simp only[Vl.nodes]at hm;omega) hv.2 b o t2 ⟨ok3,A'.wf,hbb,f2⟩ (by omega)) ?_⟩,fun h=>?_⟩
    ·simp[↓zq,zs,ah,h]
    ·simp[h]
   |_=>simp[vh,↓zq,zs,ah,zt,eU,hh',hx]
  ·obtain⟨t1',he1,h1,f1,hw1⟩:=jH A'.wf A'.ok hx A'.ty A'.cl
   cases he1
   have hok:=A'.ok
   obtain⟨ok1,ok2,ok3,_⟩:=hok
   refine⟨fun h=>absurd rfl h,fun _=>an (uy x [a,b]) ?_⟩
   simp only[↓zq,zs,ah]
   refine an hvh ?_
   rw[hx]
   cases v with
   |
    f w =>
    simp only[Vl.nodes]at hl
    simp only[vh,Vl.cb,E.sp,E.bj,toNat_one,bf,↓zq,zs,ah,zt,iF,fU,iB,l5,aq]
    refine⟨by simp,fun h=>by simp at h,fun _=>⟨fun h=>by simp at h,fun _=>⟨fun h=>by simp at h,fun _=>⟨fun _=>an (N9 x a b o (by omega)) ?_,fun h=>absurd rfl h⟩⟩⟩⟩
    simp only[↓zq,zs,ah,yq,B5]
    refine⟨by omega,an (yD n hn m w (by simp only[Vl.nodes]at hm;omega) hv b (.mk a.at (.list [x,a,b]) o::o) t1 ⟨ok3,hw1,h1,f1⟩ (by simp;omega)) ?_⟩
    simp[↓zq,zs,ah,eU,hh',hx]
   |_=>simp[vh,↓zq,zs,ah,zt,eU,hh',hx]
theorem MZ(n:Nat)(hn:n<=100)(v:Vl)(hv:v.dW 100)(e:E)(env:List Fr)(t:Ty)(A:Ask e env t)(hl:env.length+v.nodes<100000):aB Tryz.prog 31 [e.kh,.sl (jY env),v.cb.kh,.v (.int .i64 (n:Int))] [] (bU (.v (.bool (eU n v (e,env))))):=yD n hn (v.nodes+1) v (by omega) hv e env t A hl
end Go.Proofs.Trees
namespace Go.Proofs.Trees
open Go Go.VL Go.RowKit
theorem JE(l:List (List UInt8))(a:AV)(ha:dT a l)(s:List UInt8)(hl:l.length<1000000):∀(k i:Nat),i+k=l.length->Fi [a,.v (.string (mk s)),.v (.int .i64 (i:Int))] []
 (se (if s∈l.drop i then(2,[.v (.bool true)],[])else(1,[],[])))
 |
  0,i,hi=>by
  refine Kx _ _ _ ?_
  have hd:l.drop i=[]:=bx (by omega)
  simp only[Es,↓zq,zs,ah,hd,ha.len]
  exact⟨ha.1,ha.1,fun h=>by omega,fun _=>by simp[se]⟩
 |
  k+1,i,hi=>by
  have hlt:i<l.length:=by omega
  have hdr:l.drop i=l.getD i []::l.drop (i+1):=by
   rw[aP hlt];simp[aa,hlt]
  refine Kx _ _ _ ?_
  simp only[Es,↓zq,zs,ah,zt,ha.len,ha.idx hlt]
  refine⟨ha.1,ha.1,fun _=>⟨⟨ha.1,by omega,by omega⟩,by omega,fun h=>?_,fun h=>?_⟩,fun h=>by omega⟩
  ·rw[hdr,h];simp[se]
  ·rw[bX i (by omega)]
   have:=JE l a ha s hl k (i+1) (by omega)
   have e:s∈l.drop i↔s∈l.drop (i+1):=by
    rw[hdr,aI];exact⟨fun q=>q.resolve_left (fun q=>h q.symm),.inr⟩
   simp only[e];exact this
theorem Hh(l:List (List UInt8))(a:AV)(ha:dT a l)(s:List UInt8)(hl:l.length<1000000):aB Tryz.prog 74 [a,.v (.string (mk s))] [] (bU (.v (.bool (decide (s∈l))))):=by
 refine MR _ _ ha.1 ?_
 unfold Im
 refine i4 (JE l a ha s hl l.length 0 (by omega)) (fun ys o e=>?_) (fun ys o e=>?_)
 ·simp only[bz]at e
  split at e<;>cases e
  rename_i h
  simp[↓zq,zs,ah,bU,h]
 ·simp only[bz]at e
  split at e<;>cases e
  rename_i h
  simp[↓zq,zs,ah,bU,h]
theorem He(l:List (List UInt8))(a:AV)(ha:dT a l)(s:List UInt8)(hl:l.length<1000000):aB Tryz.prog 75 [a,.v (.string (mk s))] [] (fZ (.vec 0) [.vec 1 (bO (l++[s]))]):=by
 refine Nl _ _ ha.1 ?_
 simp only[Iz,↓zq,zs,ah,ha.2,fZ,bg]
 have:(bO l).length=l.length:=by simp[bO]
 refine⟨⟨ha.1,mo l,by omega⟩,⟨fun c hc=>(by simp at hc;rw[hc];rfl),by omega⟩,?_⟩
 first|exact⟨rfl,by rw[Gk]⟩|rw[Gk]
def lK:E->List (List UInt8)->List (List UInt8)->List (List UInt8)
 | .atom s,bd,l=>if s=[48]\/s=[49]\/s∈bd\/s∈l then l else l++[s]
 | .list [x,a,b],bd,l=>if x.at=[114,101,99]then lK b (bd++[a.at]) l else lK b bd (lK a bd l)
 | .list _,_,l=>l
theorem gT:∀(e:E) (bd l:List (List UInt8)),(lK e bd l).length<=l.length+e.sz
 | .atom s,bd,l=>by rw[lK];split<;>simp[E.sz]
 | .list [],bd,l=>by simp[lK]
 | .list [_],bd,l=>by simp[lK]
 | .list [_,_],bd,l=>by simp[lK]
 | .list (_::_::_::_::_),bd,l=>by simp[lK]
 |
  .list [x,a,b],bd,l=>by
  rw[lK]
  simp only[E.sz,E.iD]
  split
  ·have:=gT b (bd++[a.at]) l;omega
  ·have:=gT a bd l
   have:=gT b bd (lK a bd l)
   omega
theorem Cq:∀(e:E) (bd l:List (List UInt8)) (a:AV),e.ok->jT e=true->dT a bd->bd.length+l.length+e.sz<100000->aB Tryz.prog 53 [e.kh,a,.vec 0] [.vec 1 (bO l)] (fZ (.vec 1) [.dead,.vec 1 (bO (lK e bd l))])
 |
  .atom s,bd,l,a,hok,hty,ha,hl=>by
  simp only[E.sz]at hl
  refine zx _ _ _ _ ((bp).mpr trivial) ha.1 ?_
  have hne:s≠[]:=hok
  have hll:(bO l).length=l.length:=by simp[bO]
  simp only[Fx,↓zq,zs,ah,zt,fZ,lK]
  refine⟨fun _=>⟨fun h=>?_,fun h=>⟨fun h1=>?_,fun h1=>?_⟩⟩,fun h=>absurd h hne⟩
  ·rw[if_pos (.inl h)]
  ·rw[if_pos (.inr (.inl h1))]
  ·refine an (Hh bd a ha s (by omega)) ?_
   simp only[↓zq,zs,ah]
   refine⟨fun h2=>?_,fun h2=>an (Hh l _ (.of l) s (by omega)) ?_⟩
   ·rw[if_pos (.inr (.inr (.inl h2)))]
   ·simp only[↓zq,zs,ah]
    refine⟨fun h3=>?_,fun h3=>⟨⟨fun c hc=>(by simp at hc;rw[hc];rfl),by omega⟩,?_⟩⟩
    ·rw[if_pos (.inr (.inr (.inr h3)))]
    ·rw[Gk,if_neg]
     rintro(q|q|q|q)
     ·exact h q
     ·exact h1 q
     ·exact h2 q
     ·exact h3 q
 | .list [],_,_,_,_,h,_,_=>by cases h
 | .list [_],_,_,_,_,h,_,_=>by cases h
 | .list [_,_],_,_,_,_,h,_,_=>by cases h
 | .list (_::_::_::_::_),_,_,_,_,h,_,_=>by cases h
 |
  .list [x,y,z],bd,l,a,hok,hty,ha,hl=>by
  simp only[E.sz,E.iD]at hl
  obtain⟨ok1,ok2,ok3,_⟩:=hok
  refine zx _ _ _ _ ((cE _).mpr trivial) ha.1 ?_
  simp only[Fx,E.bj,toNat_one,bf,↓zq,zs,ah,zt,iF,fU,iB,l5,aq,fZ]
  refine⟨fun h=>absurd rfl h,fun _=>an (uy x [y,z]) ?_⟩
  simp only[↓zq,zs,ah,zt]
  have hyl:=gT y bd l
  rw[jT]at hty
  refine⟨fun h=>⟨by omega,by omega,by omega,bJ (He bd a ha y.at (by omega)) ?_⟩,fun h=>⟨by omega,by omega,?_⟩⟩
  ·have hz:jT z=true:=by
    rw[if_neg (by rw[h];decide),if_neg (by rw[h];decide),if_pos h]at hty
    simp only[au]at hty;exact hty.2
   simp only[↓zq,zs,ah,Ob.es,aM]
   refine⟨iu _,?_⟩
   refine bJ (Cq z (bd++[y.at]) l _ ok3 hz (.of _) (by simp;omega)) ?_
   simp only[↓zq,zs,ah]
   rw[lK,if_pos h]
  ·have hyz:jT y=true/\jT z=true:=by
    split at hty
    ·simpa using hty
    ·split at hty
     ·simpa using hty
     ·cases hty
   refine bJ (Cq y bd l a ok2 hyz.1 ha (by omega)) ?_
   simp only[↓zq,zs,ah]
   refine bJ (Cq z bd (lK y bd l) a ok3 hyz.2 ha (by omega)) ?_
   simp only[↓zq,zs,ah]
   rw[lK,if_neg h]
theorem j5{s:List UInt8}(h:gJ s=true):cU s=false:=by
 cases hq:cU s with
 |false=>rfl
 |
  true =>
  obtain⟨c,r,rfl,h1,h2⟩:=k9 h
  obtain⟨c',r',he,h3,h4⟩:=k9 hq
  cases he;omega
theorem mf(s:List UInt8)(ar:List (List UInt8)):∀i,i<=ar.length->(bG s ar i=none↔s∉ar.take i)
 |0,_=>by simp[bG]
 |
  i+1,hi=>by
  have hlt:i<ar.length:=by omega
  have e:ar.getD i []=ar[i]:=by simp[aa,hlt]
  have e2:s∈ar.take (i+1)↔s∈ar.take i\/s=ar[i]:=by
   rw[show ar.take (i+1)=ar.take i++[ar[i]] from (List.take_append_getElem hlt).symm]
   simp only[aH,aQ]
  rw[bG,e,e2]
  by_cases h:ar[i]=s
  ·rw[if_pos h]
   exact⟨fun h=>(by cases h),fun h'=>absurd (.inr h.symm) h'⟩
  ·rw[if_neg h,mf s ar i (by omega)]
   exact⟨fun h1 h2=>h2.elim h1 (fun h3=>h h3.symm),fun h1 h2=>h1 (.inl h2)⟩
theorem lr:∀(e:E) (ar l:List (List UInt8)) (t:Ty),cF e ar=some t->(∀w,w∈ar->cU w=true)->(lK e ar l).any cU=(l.any cU||bL t)
 |
  .atom s,ar,l,t,h,har=>by
  simp only[cF]at h
  rw[lK]
  split at h
  ·rename_i h0;cases h;rw[if_pos (.inl h0)];simp[bL]
  ·rename_i h0
   split at h
   ·rename_i h1;cases h;rw[if_pos (.inr (.inl h1))];simp[bL]
   ·rename_i h1
    split at h
    ·rename_i h2
     cases h
     have hn:=j5 h2
     simp only[bL,hn]
     split
     ·simp
     ·simp[hn]
    ·split at h
     ·rename_i h2 h3
      have hlo:=mf s ar ar.length (aq _)
      rw[List.take_length]at hlo
      cases hq:bG s ar ar.length with
      |
       some u =>
       rw[hq]at h;cases h
       have hm:s∈ar:=Classical.byContradiction fun hm=>by rw[hlo.2 hm]at hq;cases hq
       rw[if_pos (.inr (.inr (.inl hm)))];simp[bL]
      |
       none =>
       rw[hq]at h;cases h
       have hm:=hlo.1 hq
       simp only[bL,h3,Bool.or_true]
       split
       ·rename_i hh
        rcases hh with q|q|q|q
        ·exact absurd q h0
        ·exact absurd q h1
        ·exact absurd q hm
        ·rw[bT];exact⟨s,q,h3⟩
       ·simp[h3]
     ·cases h
 | .list [],_,_,_,h,_=>by cases h
 | .list [_],_,_,_,h,_=>by cases h
 | .list [_,_],_,_,_,h,_=>by cases h
 | .list (_::_::_::_::_),_,_,_,h,_=>by cases h
 |
  .list [x,a,b],ar,l,t,h,har=>by
  rw[lK]
  by_cases h0:x.at=[43]
  ·obtain⟨t1,t2,e1,e2,rfl⟩:=fm h0 h
   rw[if_neg (by rw[h0];decide),lr b ar _ t2 e2 har,lr a ar l t1 e1 har,bL,Bool.or_assoc]
  ·by_cases h1:x.at=[42]
   ·obtain⟨t1,t2,e1,e2,rfl⟩:=eT h1 h
    rw[if_neg (by rw[h1];decide),lr b ar _ t2 e2 har,lr a ar l t1 e1 har,bL,Bool.or_assoc]
   ·by_cases h2:x.at=[114,101,99]
    ·obtain⟨t1,hl,e1,rfl⟩:=di h2 h
     rw[if_pos h2,lr b _ l t1 e1 (fun w hw=>by
      simp only[aH,aQ]at hw
      rcases hw with hw|rfl
      ·exact har w hw
      ·exact hl),bL]
    ·rw[iQ _ h0 h1 h2]at h;cases h
def jk(s:List UInt8):Option E:=match xj s with
 |none=>none
 |some e=>if(lK e [] []).any cU=true then none else some e
theorem BK{s:List UInt8}:wJ s=match jk s with|none=>none|some e=>cF e []:=by
 unfold wJ jk
 rw[wM]
 cases he:xj s with
 |none=>rfl
 |
  some e =>
  obtain⟨h1,h2,h3⟩:=rn he
  have hs:=jv e []
  rw[h2]at hs
  obtain⟨t,ht⟩:=a7.1 hs
  have ha:=lr e [] [] t ht (fun w hw=>by cases hw)
  simp only[ht,sY,ha,List.any_nil,Bool.false_or]
  cases hf:bL t<;>simp[ht]
theorem gC{s:List UInt8}{e:E}(h:jk s=some e):∃t,wJ s=some t/\Ask e [] t/\jT e=true/\e.sz<=8000/\t.atoms<=400/\qv s=some e:=by
 have h0:=h
 unfold jk at h
 split at h
 ·cases h
 ·rename_i e' he
  split at h
  ·cases h
  ·rename_i hn
   cases h
   obtain⟨h1,h2,h3⟩:=rn he
   obtain⟨hok,hsz⟩:=ny h1
   have hs:=jv e []
   rw[h2]at hs
   obtain⟨t,ht⟩:=a7.1 hs
   have ha:=lr e [] [] t ht (fun w hw=>by cases hw)
   rw[ha]at hn
   refine⟨t,by rw[BK,h0];exact ht,⟨hok,.nil,ht,by simpa using hn⟩,h2,hsz,?_,h1⟩
   rw[<-jC e [] t ht];exact h3
theorem mM{s:List UInt8}(h:jk s=none):wJ s=none:=by rw[BK,h]
theorem JX(e:E)(l:List (List UInt8))(hl:l.length<1000000):∀(k i:Nat),i+k=l.length->FF [.v (.int .i64 (i:Int))] [.cells [.v (.string (mk [])),.v (.slice none 0 0)],.cells [.v (.string (mk e.at)),e.sp],.vec 1 (bO l)]
 (se (if(l.drop i).any cU=true then(2,[.v (.bool false)],[.cells [.v (.string (mk e.at)),e.sp]])else(1,[],[.cells [.v (.string (mk [])),.v (.slice none 0 0)],.cells [.v (.string (mk e.at)),e.sp]])))
 |
  0,i,hi=>by
  refine Kg _ _ _ _ _ _ ?_
  have hd:l.drop i=[]:=bx (by omega)
  have hll:(bO l).length=l.length:=by simp[bO]
  simp only[GO,↓zq,zs,ah,hd,hll,aX]
  exact⟨fun h=>by omega,fun _=>by simp[se]⟩
 |
  k+1,i,hi=>by
  have hlt:i<l.length:=by omega
  have hll:(bO l).length=l.length:=by simp[bO]
  have hdr:l.drop i=l.getD i []::l.drop (i+1):=by
   rw[aP hlt];simp[aa,hlt]
  have hg:=(dT.of l).idx hlt
  simp only[fE]at hg
  refine Kg _ _ _ _ _ _ ?_
  simp only[GO,↓zq,zs,ah,zt,hll,hg,aX]
  refine⟨fun _=>⟨by omega,by omega,an (FT _) ?_⟩,fun h=>by omega⟩
  simp only[↓zq,zs,ah,hdr,List.any_cons]
  refine⟨fun h=>?_,fun h=>?_⟩
  ·rw[h];simp[se]
  ·rw[h,bX i (by omega)]
   simp only[Bool.false_or]
   exact JX e l hl k (i+1) (by omega)
theorem GW(s:List UInt8):aB Tryz.prog 28 [.v (.string (mk s))] [] (kt (jk s) (jk s).isSome):=by
 refine Nb _ ?_
 unfold J0
 refine aU (Nd s) (kt.ne _ _ (fun h=>h)) ?_
 rintro r o ⟨c,d,hd,rfl,hh⟩
 have hhas:cc [.str,.sl] [.v (.string (mk c)),d] 0:=by simp[cc,dU,hd]
 simp only[↓zq,zs,ah,zt]
 refine⟨hhas,fun h=>?_,fun h=>?_⟩
 ·have hn:xj s=none:=by cases hq:xj s<;>simp[hq]at h |-
  unfold jk
  rw[hn]
  exact⟨c,d,hd,rfl,fun h=>by cases h⟩
 ·obtain⟨e,he,hce⟩:=hh h
  obtain⟨h1,h2,h3⟩:=rn he
  obtain⟨hok,hsz⟩:=ny h1
  have hce':=hce
  rw[dy]at hce'
  simp only[AV.agg.injEq,List.cons.injEq,AV.v.injEq,Value.string.injEq,and_true]at hce'
  obtain⟨hc1,rfl⟩:=hce'
  have hc2:=mk_inj hc1
  subst hc2
  rw[<-dy]
  refine bJ (Cq e [] [] _ hok h2 (.of []) (by simp;omega)) ?_
  have hfl:=gT e [] []
  simp only[↓zq,zs,ah]
  have hLS:=JX e (lK e [] []) (by simp at hfl;omega) (lK e [] []).length 0 (by omega)
  simp only[bz]at hLS
  unfold jk
  rw[he]
  refine i4 hLS (fun ys o e'=>?_) (fun ys o e'=>?_)
  ·split at e'<;>cases e'
   rename_i hn
   simp only[↓zq,zs,ah,aX,if_neg hn]
   exact⟨e.at,e.sp,hd,rfl,fun _=>⟨e,rfl,(dy e).symm⟩⟩
  ·split at e'<;>cases e'
   rename_i hn
   simp only[↓zq,zs,ah,aX,if_pos hn]
   exact⟨e.at,e.sp,hd,rfl,fun h=>by cases h⟩
def ng(s v:List UInt8)(n:Int):Option Vl:=match jk s,qy v with
 |some e,some w=>if(0<=n/\n<=100)/\eU n.toNat w (e,[])=true then some w else none
 |_,_=>none
theorem rH{s v:List UInt8}{n:Int}{w:Vl}(h:ng s v n=some w):∃e t m,jk s=some e/\qy v=some w/\wJ s=some t/\Ask e [] t/\n=(m:Nat)/\m<=100/\eU m w (e,[])=true:=by
 unfold ng at h
 split at h
 ·rename_i e w' he hw
  split at h
  ·rename_i hh
   cases h
   obtain⟨t,h1,h2,_⟩:=gC he
   exact⟨e,t,n.toNat,he,hw,h1,h2,by omega,by omega,hh.2⟩
  ·cases h
 ·cases h
theorem JN(s v:List UInt8)(n:Int):aB Tryz.prog 27 [.v (.string (mk s)),.v (.string (mk v)),.v (.int .i64 n)] [] (bU (.cP [iX (wJ s),iH (ng s v n)])):=by
 refine Nh _ _ _ ?_
 unfold Ix
 refine an (HI s) ?_
 simp only[↓zq,zs,ah,jQ]
 refine an (M4 v) ?_
 simp only[↓zq,zs,ah,fb,bU]
 unfold ng
 cases he:jk s with
 |none=>rw[mM he];cases qy v<;>simp[iX,iH,↓zq,zs,ah]
 |
  some e =>
  obtain⟨t,h1,h2,h3,h4,h5,_⟩:=gC he
  rw[h1]
  cases hv:qy v with
  |none=>simp only[iX,iH,bm,fW,↓zq,zs,ah];exact⟨fun h=>(by cases h),fun _=>⟨fun _=>trivial,fun h=>(by cases h)⟩⟩
  |
   some w =>
   obtain⟨h6,h7,h8⟩:=kX hv
   simp only[iX,iH,bm,fW,bu,eI,↓zq,zs,ah]
   refine⟨fun h=>(by cases h),fun _=>⟨fun h=>(by cases h),fun _=>⟨fun h=>?_,fun h=>⟨fun h'=>?_,fun h'=>?_⟩⟩⟩⟩
   ·rw[if_neg (by omega)]
   ·rw[if_neg (by omega)]
   ·obtain⟨m,rfl⟩:∃m:Nat,n=(m:Int):=⟨n.toNat,by omega⟩
    have hi:=J2 m (by omega) (w.nodes+1) w (by omega) h7 e [] t h2 (by simp;omega)
    unfold pL at hi
    refine an hi ?_
    simp only[↓zq,zs,ah,cj]
    refine⟨fun hq=>?_,fun hq=>?_⟩
    ·rw[if_neg (by rw[hq];simp)]
    ·rw[if_pos ⟨by omega,hq⟩]
theorem Mo(s v:List UInt8)(n:Int):aB Tryz.prog 8 [.v (.string (mk s)),.v (.string (mk v)),.v (.int .i64 n)] [] (bU (.v (.bool (ng s v n).isSome))):=by
 refine Nx _ _ _ ?_
 unfold Kl
 refine an (JN s v n) ?_
 simp only[↓zq,zs,ah,jQ,fb,bU]
 cases hv:ng s v n<;>simp[iH,iE,eI]
theorem Ca(s v:List UInt8)(n:Int):aB Tryz.prog 10 [.v (.string (mk s)),.v (.string (mk v)),.v (.int .i64 n)] [] (bU (.v (.bool (ng s v n).isSome))):=by
 refine M8 _ _ _ ?_
 unfold Jn
 refine aU (GW s) (kt.ne _ _ (fun h=>h)) ?_
 rintro r o ⟨c,d,hd,rfl,hh⟩
 have hhas:cc [.str,.sl] [.v (.string (mk c)),d] 0:=by simp[cc,dU,hd]
 simp only[↓zq,zs,ah,zt]
 refine⟨hhas,?_⟩
 refine aU (Da v) (kt.ne _ _ (fun h=>by cases hq:qy v<;>simp[hq]at h |-)) ?_
 rintro r o ⟨c',d',hd',rfl,hh'⟩
 have hhas':cc [.str,.sl] [.v (.string (mk c')),d'] 0:=by simp[cc,dU,hd']
 simp only[↓zq,zs,ah,zt,bU]
 refine⟨hhas',fun h=>⟨fun h2=>?_,fun h2=>?_⟩,fun h=>?_⟩
 ·obtain⟨e,he,hce⟩:=hh h
  obtain⟨t,h1,hA,h3,h4,h5,_⟩:=gC he
  obtain⟨w,hw⟩:=a7.1 h2
  obtain⟨e2,he2,hce2⟩:=hh' h2
  rw[hw]at he2
  cases he2
  obtain⟨h6,h7,h8⟩:=kX hw
  refine an (Ct _ _ _) ?_
  simp only[↓zq,zs,ah,D0,ng,he,hw]
  refine⟨fun hq=>?_,fun hq=>?_⟩
  ·have hq':0<=n/\n<=100:=by simpa using hq
   obtain⟨m,rfl⟩:∃m:Nat,n=(m:Int):=⟨n.toNat,by omega⟩
   rw[hce,hce2]
   have:=MZ m (by omega) w h7 e [] t hA (by simp;omega)
   rw[show jY []=[] from rfl]at this
   refine an this ?_
   simp only[↓zq,zs,ah,cj]
   by_cases hb:eU m w (e,[])=true
   ·rw[if_pos ⟨hq',hb⟩,hb];rfl
   ·rw[if_neg (fun h=>hb h.2)]
    rw[Bool.not_eq_true]at hb
    rw[hb];rfl
  ·have hq':¬(0<=n/\n<=100):=by simpa using hq
   rw[if_neg (fun h=>hq' h.1)];rfl
 ·have hn:qy v=none:=by cases hq:qy v<;>simp[hq]at h2 |-
  unfold ng
  rw[hn];cases jk s<;>rfl
 ·have hn:jk s=none:=by cases hq:jk s<;>simp[hq]at h |-
  unfold ng
  rw[hn];rfl
end Go.Proofs.Trees
namespace Go.Proofs.Trees
open Go Go.VL Go.RowKit
def hD(ar:List (List UInt8))(k:Nat):List UInt8:=ar.getD (ar.length-1-k) []
theorem fH{s:List UInt8}{ar:List (List UInt8)}:∀(i u:Nat),i<=ar.length->bG s ar i=some u->u<ar.length/\hD ar u=s
 |0,u,_,h=>by cases h
 |
  i+1,u,hi,h=>by
  rw[bG]at h
  split at h
  ·rename_i e
   cases h
   refine⟨by omega,?_⟩
   rw[hD,show ar.length-1-(ar.length-1-i)=i by omega];exact e
  ·exact fH i u (by omega) h
def ux:Ty->Tg->Bool
 | .plus a b,tg=>ux a tg||ux b tg
 | .times a b,tg=>ux a tg||ux b tg
 | .rc a,tg=>ux a tg.up
 |t,tg=>dO t tg
theorem ir:∀(n:Nat) (v:Vl),v.nodes<=n->∀(t:Ty) (tg:Tg),ux t tg=false->bF t tg v=[]
 |0,v,h=>by have:=ba v;omega
 |
  n+1,v,hn=>by
  intro t tg ho
  cases hm:stuck t v with
  |
   true =>
   refine cQ ?_ hm
   cases t<;>first|exact ho|rfl
  |
   false =>
   unfold stuck at hm
   split at hm
   ·simp only[Vl.nodes]at hn
    simp only[ux,Bool.or_eq_false_iff]at ho
    rw[gk,ir n _ (by omega) _ _ ho.1];rfl
   ·simp only[Vl.nodes]at hn
    simp only[ux,Bool.or_eq_false_iff]at ho
    rw[gj,ir n _ (by omega) _ _ ho.2];rfl
   ·simp only[Vl.nodes]at hn
    simp only[ux,Bool.or_eq_false_iff]at ho
    rw[eY,ir n _ (by omega) _ _ ho.1,ir n _ (by omega) _ _ ho.2];rfl
   ·rename_i a w
    simp only[Vl.nodes]at hn
    have ho':ux a tg.up=false:=ho
    rw[eZ,ir n _ (by omega) _ _ ho']
    have:(bF a (.bd 0) w).flatMap (fun h=>fS (fun c=>.f (.r (.p h.1 c))) (bF (.rc a) tg h.2))=(bF a (.bd 0) w).flatMap (fun _=>[]):=jE fun h hh=>by
     have:=(gd hh).1
     rw[ir n h.2 (by omega) (.rc a) tg ho];rfl
    rw[this]
    induction bF a (.bd 0) w<;>simp_all[fS]
   ·cases hm
theorem kG:∀(e:E) (ar:List (List UInt8)) (t:Ty) (k:Nat),cF e ar=some t->ux t (.bd k)=true->k<ar.length/\bG (hD ar k) ar ar.length=some k
 |
  .atom s,ar,t,k,ht,ho=>by
  simp only[cF]at ht
  split at ht
  ·cases ht;cases ho
  ·split at ht
   ·cases ht;cases ho
   ·split at ht
    ·cases ht;cases ho
    ·split at ht
     ·split at ht
      ·rename_i u hu
       cases ht
       have:u=k:=by simpa[ux,dO]using ho
       subst this
       obtain⟨h1,h2⟩:=fH _ _ (aq _) hu
       exact⟨h1,by rw[h2];exact hu⟩
      ·cases ht;cases ho
     ·cases ht
 |
  .list [x,a,b],ar,t,k,ht,ho=>by
  by_cases h0:x.at=[43]
  ·obtain⟨t1,t2,h1,h2,rfl⟩:=fm h0 ht
   simp only[ux,bn]at ho
   rcases ho with ho|ho
   ·exact kG a ar t1 k h1 ho
   ·exact kG b ar t2 k h2 ho
  ·by_cases h1:x.at=[42]
   ·obtain⟨t1,t2,h1,h2,rfl⟩:=eT h1 ht
    simp only[ux,bn]at ho
    rcases ho with ho|ho
    ·exact kG a ar t1 k h1 ho
    ·exact kG b ar t2 k h2 ho
   ·by_cases h2:x.at=[114,101,99]
    ·obtain⟨t1,_,h3,rfl⟩:=di h2 ht
     obtain⟨q1,q2⟩:=kG b (ar++[a.at]) t1 (k+1) h3 ho
     simp only[ak,aw,aE]at q1
     have hk:k<ar.length:=by omega
     have e:hD (ar++[a.at]) (k+1)=hD ar k:=by
      unfold hD
      rw[ak,show ar.length+[a.at].length-1-(k+1)=ar.length-1-k by simp;omega]
      simp[aa,List.getElem?_append_left (show ar.length-1-k<ar.length by omega)]
     rw[e]at q2
     refine⟨hk,?_⟩
     have e2:(ar++[a.at]).length=ar.length+1:=by simp
     rw[e2,bG]at q2
     split at q2
     ·rw[e2]at q2;simp at q2
     ·rw[j4 _ _ _ _ (aq _)]at q2
      cases hq:bG (hD ar k) ar ar.length with
      |none=>rw[hq]at q2;cases q2
      |some u=>rw[hq]at q2;simpa using q2
    ·rw[iQ _ h0 h1 h2]at ht;cases ht
 | .list [],ar,t,k,ht,ho=>by cases ht
 | .list [_],ar,t,k,ht,ho=>by cases ht
 | .list [_,_],ar,t,k,ht,ho=>by cases ht
 | .list (_::_::_::_::_),ar,t,k,ht,ho=>by cases ht
theorem gF(w:List UInt8)(ar:List (List UInt8)):bG w (ar++[w]) (ar++[w]).length=some 0:=by
 have e2:(ar++[w]).length=ar.length+1:=by simp
 rw[e2,bG,if_pos (by simp[aa]),e2];simp
theorem jr{s w:List UInt8}(ar:List (List UInt8))(h:w≠s):bG s (ar++[w]) (ar++[w]).length=(bG s ar ar.length).map (·+1):=by
 have e2:(ar++[w]).length=ar.length+1:=by simp
 rw[e2,bG,if_neg (by simpa[aa]using h),j4 _ _ _ _ (aq _)]
theorem Gg{b:E}{ar:List (List UInt8)}{w:List UInt8}{t:Ty}{k:Nat}(hb:cF b (ar++[w])=some t)(hk:bG w ar ar.length=some k):ux t (.bd (k+1))=false:=by
 cases h:ux t (.bd (k+1))with
 |false=>rfl
 |
  true =>
  obtain⟨_,q2⟩:=kG _ _ _ _ hb h
  obtain⟨h1,h2⟩:=fH _ _ (aq _) hk
  have e:hD (ar++[w]) (k+1)=hD ar k:=by
   unfold hD
   rw[ak,show ar.length+[w].length-1-(k+1)=ar.length-1-k by simp;omega]
   simp[aa,List.getElem?_append_left (show ar.length-1-k<ar.length by omega)]
  rw[e,h2,gF]at q2
  cases q2
def oc(s:List UInt8)(ar:List (List UInt8)):Tg:=match bG s ar ar.length with|some u=>.bd u|none=>.nm s
theorem vB(w:List UInt8)(ar:List (List UInt8)):oc w (ar++[w])=.bd 0:=by rw[oc,gF]
theorem yE{s w:List UInt8}(ar:List (List UInt8))(h:w≠s):oc s (ar++[w])=(oc s ar).up:=by
 rw[oc,oc,jr ar h]
 cases bG s ar ar.length<;>rfl
theorem gW(n:Nat):∀(m:Nat) (v:Vl),v.nodes<=m->∀(e:E) (env:List Fr) (t:Ty),Ask e env t->eU n v (e,env)=true->∀(k:Nat) (f:Fr),env[k]?=some f->∀h,h∈bF t (.bd k) v->eU n h.2 (f.ex,f.out)=true
 |0,v,hm=>by have:=ba v;omega
 |
  m+1,v,hm=>by
  intro e env t A hv k f hf h hh
  rcases i7 A.wf A.ty with⟨hb,hq⟩|⟨u,g,rfl,hq,hu⟩
  ·have hhd:hd e env=(e,env):=lA hq
   rcases fK A.ty hb A.cl with⟨rfl,rfl⟩|⟨rfl,rfl⟩|⟨s,rfl,rfl,hp,h0,h1⟩|⟨x,a,b,t1,t2,rfl,hx,rfl,ha,hbb⟩|⟨x,a,b,t1,t2,rfl,hx,rfl,ha,hbb⟩|⟨x,a,b,t1,rfl,hx,rfl⟩
   ·rw[cQ rfl (by cases v<;>rfl)]at hh;cases hh
   ·rw[cQ rfl (by cases v<;>rfl)]at hh;cases hh
   ·rw[cQ rfl (by cases v<;>rfl)]at hh;cases hh
   ·obtain⟨ok1,ok2,ok3,_⟩:=A.ok
    obtain⟨f1,f2⟩:=fQ A.cl
    cases v with
    |
     l w =>
     simp only[eU,hhd,hx,beq_self_eq_true,bZ]at hv
     simp only[Vl.nodes]at hm
     rw[gk]at hh
     obtain⟨h2,h3,rfl⟩:=bW hh
     exact gW n m w (by omega) a env t1 ⟨ok2,A.wf,ha,f1⟩ hv k f hf h2 h3
    |
     r w =>
     simp only[eU,hhd,hx,beq_self_eq_true,bZ]at hv
     simp only[Vl.nodes]at hm
     rw[gj]at hh
     obtain⟨h2,h3,rfl⟩:=bW hh
     exact gW n m w (by omega) b env t2 ⟨ok3,A.wf,hbb,f2⟩ hv k f hf h2 h3
    |_=>rw[cQ rfl rfl]at hh;cases hh
   ·obtain⟨ok1,ok2,ok3,_⟩:=A.ok
    obtain⟨f1,f2⟩:=fj A.cl
    cases v with
    |
     p w w' =>
     simp only[eU,hhd,hx,beq_self_eq_true,bZ,au]at hv
     simp only[Vl.nodes]at hm
     rw[eY]at hh
     rcases aH.1 hh with hh|hh
     ·obtain⟨h2,h3,rfl⟩:=bW hh
      exact gW n m w (by omega) a env t1 ⟨ok2,A.wf,ha,f1⟩ hv.1 k f hf h2 h3
     ·obtain⟨h2,h3,rfl⟩:=bW hh
      exact gW n m w' (by omega) b env t2 ⟨ok3,A.wf,hbb,f2⟩ hv.2 k f hf h2 h3
    |_=>rw[cQ rfl rfl]at hh;cases hh
   ·obtain⟨t1',he1,h1,f1,hw1⟩:=jH A.wf A.ok hx A.ty A.cl
    cases he1
    obtain⟨ok1,ok2,ok3,_⟩:=A.ok
    cases v with
    |
     f w =>
     simp only[eU,hhd,hx,beq_self_eq_true,bZ]at hv
     simp only[Vl.nodes]at hm
     rw[eZ]at hh
     have A':Ask b (.mk a.at (.list [x,a,b]) env::env) t1:=⟨ok3,hw1,h1,f1⟩
     rcases aH.1 hh with hh|hh
     ·obtain⟨h2,h3,rfl⟩:=bW hh
      exact gW n m w (by omega) b _ t1 A' hv (k+1) f (by simpa using hf) h2 h3
     ·obtain⟨kd,h2,h3⟩:=cu.1 hh
      obtain⟨h4,h5,rfl⟩:=bW h3
      have hkd:=gW n m w (by omega) b _ t1 A' hv 0 _ rfl kd h2
      have:=(gd h2).1
      exact gW n m kd.2 (by omega) (.list [x,a,b]) env _ A hkd k f hf h4 h5
    |_=>rw[cQ rfl rfl]at hh;cases hh
  ·by_cases huk:u=k
   ·subst huk
    rw[hu]at hf;cases hf
    rw[iW v (by simp[dO])]at hh
    simp only[aQ]at hh
    subst hh
    obtain⟨x,a,b,t',hfe,hok,hx,ht',hf',hwf,hlt⟩:=oN A.wf hq
    rw[<-tS n v (qf hq) (by rw[hfe];exact pe hwf)];exact hv
   ·rw[cQ (by simpa[dO]using huk) (by cases v<;>rfl)]at hh;cases hh
end Go.Proofs.Trees
namespace Go.Proofs.Trees
open Go Go.VL Go.RowKit
def ek:E->List Nm->Ty
 | .atom s,ar=>if s=[48]then .zero else if s=[49]then .one else match bG s ar ar.length with|some u=>.bound u|none=>.name s
 | .list [x,a,b],ar=>if x.at=[43]then .plus (ek a ar) (ek b ar)else if x.at=[42]then .times (ek a ar) (ek b ar)else .rc (ek b (ar++[a.at]))
 | .list _,_=>.zero
def vV(s:Nm):Prop:=s≠[]/\s≠[48]/\s≠[49]
inductive Wf:E->Prop
 |atom {s} (h:s≠[]):Wf (.atom s)
 |plus {a b} (ha:Wf a) (hb:Wf b):Wf (.list [.atom [43],a,b])
 |times {a b} (ha:Wf a) (hb:Wf b):Wf (.list [.atom [42],a,b])
 |rc {n b} (hn:vV n) (hb:Wf b):Wf (.list [.atom [114,101,99],.atom n,b])
theorem ff(a b:E)(ar:List Nm):ek (.list [.atom [43],a,b]) ar=.plus (ek a ar) (ek b ar):=by rw[ek,if_pos (show (E.atom [43]).at=[43] from rfl)]
theorem eu(a b:E)(ar:List Nm):ek (.list [.atom [42],a,b]) ar=.times (ek a ar) (ek b ar):=by rw[ek,if_neg (by decide),if_pos (show (E.atom [42]).at=[42] from rfl)]
theorem jd(a b:E)(ar:List Nm):ek (.list [.atom [114,101,99],a,b]) ar=.rc (ek b (ar++[a.at])):=by rw[ek,if_neg (by decide),if_neg (by decide)]
theorem Wf.ok{e:E}(h:Wf e):e.ok:=by
 induction h with
 |atom h=>exact h
 |plus ha hb i1 i2=>exact⟨by simp[E.ok],i1,i2,trivial⟩
 |times ha hb i1 i2=>exact⟨by simp[E.ok],i1,i2,trivial⟩
 |rc hn hb i=>exact⟨by simp[E.ok],hn.1,i,trivial⟩
theorem Wf.ej{e:E}(h:Wf e):∀ar,e.ej=(ek e ar).atoms:=by
 induction h with
 |
  @atom s h =>
  intro ar
  simp only[E.ej,ek]
  split
  ·rfl
  ·split
   ·rfl
   ·split<;>rfl
 |plus ha hb i1 i2=>intro ar;rw[ff];simp only[E.ej,E.fo,Ty.atoms,<-i1 ar,<-i2 ar];omega
 |times ha hb i1 i2=>intro ar;rw[eu];simp only[E.ej,E.fo,Ty.atoms,<-i1 ar,<-i2 ar];omega
 |@rc n b hn hb i=>intro ar;rw[jd];simp only[E.ej,E.fo,Ty.atoms,<-i];omega
theorem Wf.sz{e:E}(h:Wf e):e.sz<=3*e.ej:=by
 induction h with
 |atom h=>simp[E.sz,E.ej]
 |plus ha hb i1 i2=>simp only[E.sz,E.iD,E.ej,E.fo];omega
 |times ha hb i1 i2=>simp only[E.sz,E.iD,E.ej,E.fo];omega
 |rc hn hb i=>simp only[E.sz,E.iD,E.ej,E.fo];omega
theorem j8:∀(e:E) (ar:List Nm) (t:Ty),e.ok->(∀w,w∈ar->cU w=true)->cF e ar=some t->Wf e/\ek e ar=t
 |
  .atom s,ar,t,hok,hl,ht=>by
  refine⟨.atom hok,?_⟩
  simp only[cF,ek]at ht |-
  split at ht
  ·rename_i h;rw[if_pos h];simpa using ht
  ·rename_i h;rw[if_neg h]
   split at ht
   ·rename_i h1;rw[if_pos h1];simpa using ht
   ·rename_i h1;rw[if_neg h1]
    split at ht
    ·rename_i hp
     cases q:bG s ar ar.length with
     |none=>simpa using ht
     |
      some u =>
      obtain⟨h1,h2⟩:=fH _ _ (aq _) q
      have:=hl (hD ar u) (by
       unfold hD
       have:ar.length-1-u<ar.length:=by omega
       simp[aa,this])
      rw[h2,j5 hp]at this;cases this
    ·split at ht
     ·split at ht<;>rename_i q<;>rw[q]<;>simpa using ht
     ·cases ht
 |
  .list [x,a,b],ar,t,hok,hl,ht=>by
  obtain⟨ok1,ok2,ok3,_⟩:=hok
  by_cases h0:x.at=[43]
  ·obtain⟨t1,t2,h1,h2,rfl⟩:=fm h0 ht
   obtain rfl:=j2 h0 (by simp)
   obtain⟨w1,e1⟩:=j8 a ar t1 ok2 hl h1
   obtain⟨w2,e2⟩:=j8 b ar t2 ok3 hl h2
   exact⟨.plus w1 w2,by rw[ff,e1,e2]⟩
  ·by_cases h1:x.at=[42]
   ·obtain⟨t1,t2,h2,h3,rfl⟩:=eT h1 ht
    obtain rfl:=j2 h1 (by simp)
    obtain⟨w1,e1⟩:=j8 a ar t1 ok2 hl h2
    obtain⟨w2,e2⟩:=j8 b ar t2 ok3 hl h3
    exact⟨.times w1 w2,by rw[eu,e1,e2]⟩
   ·by_cases h2:x.at=[114,101,99]
    ·obtain⟨t1,hla,h3,rfl⟩:=di h2 ht
     obtain rfl:=j2 h2 (by simp)
     have hne:a.at≠[]:=by intro e;rw[e]at hla;cases hla
     have ha:a=.atom a.at:=j2 rfl hne
     obtain⟨w1,e1⟩:=j8 b (ar++[a.at]) t1 ok3 (fun w hw=>by
      rcases aH.1 hw with hw|hw
      ·exact hl w hw
      ·simp only[aQ]at hw;rw[hw];exact hla) h3
     have hN:vV a.at:=⟨hne,fun e=>by rw[e]at hla;revert hla;decide,fun e=>by rw[e]at hla;revert hla;decide⟩
     refine⟨?_,by rw[jd,e1]⟩
     rw[ha];exact .rc hN w1
    ·rw[iQ _ h0 h1 h2]at ht;cases ht
 | .list [],ar,t,_,_,ht=>by cases ht
 | .list [_],ar,t,_,_,ht=>by cases ht
 | .list [_,_],ar,t,_,_,ht=>by cases ht
 | .list (_::_::_::_::_),ar,t,_,_,ht=>by cases ht
theorem fB(s:Nm)(ar:List Nm):bG s ar ar.length=none↔s∉ar:=by
 have:=mf s ar ar.length (aq _)
 rwa[List.take_length]at this
theorem rr(s:Nm)(ar:List Nm):∀(n:Nat) (br:List Nm),br.length=n->bG s (ar++br) (ar++br).length=match bG s br br.length with|some u=>some u|none=>(bG s ar ar.length).map (·+br.length)
 |
  0,br,h=>by
  obtain rfl:=List.eq_nil_of_length_eq_zero h
  rw[List.append_nil]
  cases h:bG s ar ar.length<;>simp[bG]
 |
  n+1,br,h=>by
  obtain⟨b2,w,rfl⟩:∃b2 w,br=b2++[w]:=⟨br.dropLast,br.getLast (by intro e;rw[e]at h;cases h),(List.dropLast_concat_getLast _).symm⟩
  rw[<-bq]
  by_cases hw:w=s
  ·subst hw;rw[gF,gF]
  ·rw[jr _ hw,jr _ hw,rr s ar n b2 (by simpa using h)]
   cases bG s b2 b2.length with
   |some u=>rfl
   |
    none =>
    cases bG s ar ar.length with
    |none=>rfl
    |some u=>simp only[Option.map_none,cy,ak,aw,aE];congr 1
theorem Ds(ar:List Nm){e:E}(h:Wf e):∀br,(∀y,bA y (ek e br)=true->y∉ar)->ek e (ar++br)=ek e br:=by
 induction h with
 |
  @atom s h =>
  intro br hy
  simp only[ek]at hy |-
  split
  ·rfl
  ·rename_i h0
   split
   ·rfl
   ·rename_i h1
    rw[if_neg h0,if_neg h1]at hy
    rw[rr s ar _ br rfl]
    cases q:bG s br br.length with
    |some u=>rfl
    |
     none =>
     rw[q]at hy
     have:=(fB s ar).2 (hy s (by simp[bA]))
     rw[this];rfl
 |
  plus ha hb i1 i2 =>
  intro br hy
  rw[ff]at hy |-
  rw[ff,i1 br fun y h=>hy y (by simp[bA,h]),i2 br fun y h=>hy y (by simp[bA,h])]
 |
  times ha hb i1 i2 =>
  intro br hy
  rw[eu]at hy |-
  rw[eu,i1 br fun y h=>hy y (by simp[bA,h]),i2 br fun y h=>hy y (by simp[bA,h])]
 |
  @rc n b hn hb i =>
  intro br hy
  rw[jd]at hy |-
  rw[jd,bq,i _ hy]
theorem sN{e:E}(h:Wf e):∀ar y,bA y (ek e ar)=true->vV y/\y∉ar:=by
 induction h with
 |
  @atom s h =>
  intro ar y hy
  simp only[ek]at hy
  split at hy
  ·cases hy
  ·rename_i h0
   split at hy
   ·cases hy
   ·rename_i h1
    split at hy
    ·cases hy
    ·rename_i q
     simp only[bA,decide_eq_true_eq]at hy
     subst hy
     exact⟨⟨h,h0,h1⟩,(fB _ _).1 q⟩
 |
  plus ha hb i1 i2 =>
  intro ar y hy
  rw[ff]at hy
  simp only[bA,bn]at hy
  rcases hy with hy|hy
  ·exact i1 ar y hy
  ·exact i2 ar y hy
 |
  times ha hb i1 i2 =>
  intro ar y hy
  rw[eu]at hy
  simp only[bA,bn]at hy
  rcases hy with hy|hy
  ·exact i1 ar y hy
  ·exact i2 ar y hy
 |
  rc hn hb i =>
  intro ar y hy
  rw[jd]at hy
  obtain⟨h1,h2⟩:=i _ y hy
  exact⟨h1,fun h=>h2 (aA _ h)⟩
theorem yb{e:E}(h:Wf e):∀(bd l:List Nm) (y:Nm),y∈lK e bd l↔y∈l\/bA y (ek e bd)=true:=by
 induction h with
 |
  @atom s h =>
  intro bd l y
  simp only[lK,ek]
  by_cases h0:s=[48]
  ·simp[h0,bA]
  ·by_cases h1:s=[49]
   ·simp[h1,bA]
   ·rw[if_neg h0,if_neg h1]
    by_cases h2:s∈bd
    ·cases q:bG s bd bd.length with
     |none=>exact absurd h2 ((fB _ _).1 q)
     |some u=>simp[h2,bA]
    ·rw[(fB _ _).2 h2]
     simp only[h0,h1,h2,false_or,bA,decide_eq_true_eq]
     by_cases h3:s∈l
     ·simp only[h3,if_true]
      exact⟨fun h=>.inl h,fun h=>by rcases h with h|rfl<;>assumption⟩
     ·simp only[h3,if_false,aH,aQ,eq_comm]
 |
  plus ha hb i1 i2 =>
  intro bd l y
  rw[lK,if_neg (by decide),ff,i2,i1]
  simp[bA,or_assoc]
 |
  times ha hb i1 i2 =>
  intro bd l y
  rw[lK,if_neg (by decide),eu,i2,i1]
  simp[bA,or_assoc]
 |
  rc hn hb i =>
  intro bd l y
  rw[lK,if_pos (show (E.atom [114,101,99]).at=[114,101,99] from rfl),jd,i]
  rfl
theorem fD:∀(t:Ty) (out:List Nm) (y:Nm),y∈bK t out↔y∈out\/bA y t=true
 |
  .name s,out,y=>by
  simp only[bK,pk,bA,decide_eq_true_eq]
  split
  ·rename_i h;exact⟨fun h=>.inl h,fun h'=>by rcases h' with h'|rfl<;>assumption⟩
  ·simp[eq_comm]
 | .plus a b,out,y=>by rw[bK,fD b,fD a];simp[bA,or_assoc]
 | .times a b,out,y=>by rw[bK,fD b,fD a];simp[bA,or_assoc]
 | .rc a,out,y=>by rw[bK,fD a];rfl
 | .zero,out,y=>by simp[bK,bA]
 | .one,out,y=>by simp[bK,bA]
 | .bound k,out,y=>by simp[bK,bA]
end Go.Proofs.Trees
namespace Go.Proofs.Trees
open Go Go.VL Go.RowKit
abbrev gS:Nm:=[114,101,99]
theorem eD(s:Nm):(E.atom s).at=s:=rfl
def rb(x:Nm)(u:E):E->E
 | .atom s=>if s=x then u else .atom s
 | .list [h,a,b]=>if h.at=gS then(if a.at=x then .list [h,a,b]else .list [.atom gS,a,rb x u b])else .list [.atom h.at,rb x u a,rb x u b]
 | .list l=>.list l
def mN(x:Nm):E->Nat
 | .atom s=>if s=x then 1 else 0
 | .list [h,a,b]=>if h.at=gS then(if a.at=x then 0 else mN x b)else mN x a+mN x b
 | .list _=>0
def tI(p:Nm->Prop):E->Prop
 | .atom _=>True
 | .list [h,a,b]=>(if h.at=gS then p a.at else tI p a)/\tI p b
 | .list _=>True
def ki(x:Nm):Ty->Nat
 | .name s=>if s=x then 1 else 0
 | .plus a b=>ki x a+ki x b
 | .times a b=>ki x a+ki x b
 | .rc a=>ki x a
 |_=>0
theorem vK(x:Nm)(u a b:E):rb x u (.list [.atom [43],a,b])=.list [.atom [43],rb x u a,rb x u b]:=by rw[rb,if_neg (by decide)];rfl
theorem sC(x:Nm)(u a b:E):rb x u (.list [.atom [42],a,b])=.list [.atom [42],rb x u a,rb x u b]:=by rw[rb,if_neg (by decide)];rfl
theorem Ad(x:Nm)(u:E)(n:Nm)(b:E):rb x u (.list [.atom gS,.atom n,b])=if n=x then .list [.atom gS,.atom n,b]else .list [.atom gS,.atom n,rb x u b]:=by rw[rb,if_pos (eD _)];rfl
theorem rM(x:Nm)(a b:E):mN x (.list [.atom [43],a,b])=mN x a+mN x b:=by rw[mN,if_neg (by decide)]
theorem pA(x:Nm)(a b:E):mN x (.list [.atom [42],a,b])=mN x a+mN x b:=by rw[mN,if_neg (by decide)]
theorem wo(x:Nm)(n:Nm)(b:E):mN x (.list [.atom gS,.atom n,b])=if n=x then 0 else mN x b:=by rw[mN,if_pos (eD _)];rfl
theorem oA(p:Nm->Prop)(a b:E):tI p (.list [.atom [43],a,b])↔tI p a/\tI p b:=by rw[tI,if_neg (by decide)]
theorem mS(p:Nm->Prop)(a b:E):tI p (.list [.atom [42],a,b])↔tI p a/\tI p b:=by rw[tI,if_neg (by decide)]
theorem tK(p:Nm->Prop)(n:Nm)(b:E):tI p (.list [.atom gS,.atom n,b])↔p n/\tI p b:=by rw[tI,if_pos (eD _)];rfl
theorem A4{p q:Nm->Prop}(h:∀n,p n->q n){e:E}(hw:Wf e):tI p e->tI q e:=by
 induction hw with
 |atom _=>exact fun _=>trivial
 |plus _ _ i1 i2=>rw[oA,oA];exact fun g=>⟨i1 g.1,i2 g.2⟩
 |times _ _ i1 i2=>rw[mS,mS];exact fun g=>⟨i1 g.1,i2 g.2⟩
 |rc _ _ i=>rw[tK,tK];exact fun g=>⟨h _ g.1,i g.2⟩
theorem iO{s:Nm}(hs:vV s){ar:List Nm}(h:s∉ar):ek (.atom s) ar=.name s:=by
 simp only[ek];rw[if_neg hs.2.1,if_neg hs.2.2,(fB s ar).2 h]
theorem DN{x:Nm}(hx:vV x){u:E}(hu:Wf u){e:E}(h:Wf e):tI (fun n=>n≠x/\bA n (ek u [])=false) e->∀ar,x∉ar->(∀y,y∈ar->bA y (ek u [])=false)->Wf (rb x u e)/\ek (rb x u e) ar=sub x (ek u []) (ek e ar):=by
 induction h with
 |
  @atom s hs =>
  intro _ ar har hy
  by_cases e:s=x
  ·subst e
   have:ek u (ar++[])=ek u []:=Ds ar hu [] fun y hy' hm=>by rw[hy y hm]at hy';cases hy'
   rw[List.append_nil]at this
   rw[iO hx har]
   simp only[rb,sub,if_true]
   exact⟨hu,this⟩
  ·simp only[rb,if_neg e]
   refine⟨.atom hs,?_⟩
   simp only[ek]
   split
   ·rfl
   ·split
    ·rfl
    ·split
     ·rfl
     ·simp only[sub,if_neg e]
 |
  plus ha hb i1 i2 =>
  intro hap ar har hy
  rw[oA]at hap
  obtain⟨w1,e1⟩:=i1 hap.1 ar har hy
  obtain⟨w2,e2⟩:=i2 hap.2 ar har hy
  rw[vK,ff,ff,e1,e2]
  exact⟨.plus w1 w2,rfl⟩
 |
  times ha hb i1 i2 =>
  intro hap ar har hy
  rw[mS]at hap
  obtain⟨w1,e1⟩:=i1 hap.1 ar har hy
  obtain⟨w2,e2⟩:=i2 hap.2 ar har hy
  rw[sC,eu,eu,e1,e2]
  exact⟨.times w1 w2,rfl⟩
 |
  @rc n b hn hb i =>
  intro hap ar har hy
  rw[tK]at hap
  obtain⟨w1,e1⟩:=i hap.2 (ar++[n]) (by
   simp only[aH,aQ]
   rintro(h|h)
   ·exact har h
   ·exact hap.1.1 h.symm) (fun y hm=>by
   simp only[aH,aQ]at hm
   rcases hm with hm|rfl
   ·exact hy y hm
   ·exact hap.1.2)
  rw[Ad,if_neg hap.1.1,jd,jd]
  refine⟨.rc hn w1,?_⟩
  show Ty.rc (ek (rb x u b) (ar++[n]))=_
  rw[e1];rfl
theorem DG{x:Nm}(hx:vV x){e:E}(h:Wf e):∀ar,ki x (ek e ar)=if x∈ar then 0 else mN x e:=by
 induction h with
 |
  @atom s hs =>
  intro ar
  by_cases e:s=x
  ·subst e
   by_cases hm:s∈ar
   ·rw[if_pos hm]
    simp only[ek];rw[if_neg hx.2.1,if_neg hx.2.2]
    cases q:bG s ar ar.length with
    |none=>exact absurd hm ((fB _ _).1 q)
    |some u=>rfl
   ·rw[if_neg hm,iO hx hm];simp[ki,mN]
  ·have:ki x (ek (.atom s) ar)=0:=by
    simp only[ek]
    split
    ·rfl
    ·split
     ·rfl
     ·split
      ·rfl
      ·simp[ki,e]
   rw[this];simp[mN,e]
 |plus ha hb i1 i2=>intro ar;rw[ff,rM,ki,i1,i2];split<;>simp
 |times ha hb i1 i2=>intro ar;rw[eu,pA,ki,i1,i2];split<;>simp
 |
  @rc n b hn hb i =>
  intro ar
  rw[jd,wo,ki,i]
  simp only[eD,aH,aQ]
  by_cases h1:x∈ar
  ·simp[h1]
  ·by_cases h2:x=n
   ·simp[h2]
   ·simp[h1,h2,Ne.symm h2]
theorem fO(x:Nm)(u:Ty):∀t:Ty,(sub x u t).atoms+ki x t=t.atoms+ki x t*u.atoms
 | .name s=>by simp only[sub,ki];split<;>simp[Ty.atoms];omega
 | .plus a b=>by have:=fO x u a;have:=fO x u b;simp only[sub,Ty.atoms,ki,Nat.add_mul];omega
 | .times a b=>by have:=fO x u a;have:=fO x u b;simp only[sub,Ty.atoms,ki,Nat.add_mul];omega
 | .rc a=>by have:=fO x u a;simp only[sub,Ty.atoms,ki];omega
 | .zero=>by simp[sub,ki]
 | .one=>by simp[sub,ki]
 | .bound k=>by simp[sub,ki]
abbrev tN(m:Nat):Nm:=116::dd m
theorem D5(m:Nat):dd m≠[]:=by
 by_cases h:m<10
 ·rw[fa h];simp
 ·rw[fL h];simp
theorem AU:∀(n m k:Nat),m<n->dd m=dd k->m=k
 |0,m,k,h,_=>by omega
 |
  n+1,m,k,h,e=>by
  have d10:∀{a b:Nat},a<10->b<10->bb (48+a)=bb (48+b)->a=b:=fun {a b} ha hb h=>by
   have:=congrArg UInt8.toNat h
   simp only[UInt8.toNat_ofNat']at this
   omega
  by_cases h1:m<10<;>by_cases h2:k<10
  ·rw[fa h1,fa h2]at e
   simp only[List.cons.injEq,and_true]at e
   exact d10 h1 h2 e
  ·rw[fa h1,fL h2]at e
   have:=congrArg dX e
   have:dd (k/10)=[]:=by
    apply List.eq_nil_of_length_eq_zero
    simp at this;simpa using this
   exact absurd this (D5 _)
  ·rw[fL h1,fa h2]at e
   have:=congrArg dX e
   have:dd (m/10)=[]:=by
    apply List.eq_nil_of_length_eq_zero
    simp at this;simpa using this
   exact absurd this (D5 _)
  ·rw[fL h1,fL h2]at e
   obtain⟨e1,e2⟩:=List.append_inj' e rfl
   have:=AU n (m/10) (k/10) (by omega) e1
   simp only[List.cons.injEq,and_true]at e2
   have:=d10 (dR _ (by omega)) (dR _ (by omega)) e2
   omega
theorem BQ{m k:Nat}(h:tN m=tN k):m=k:=AU (m+1) m k (by omega) (List.cons.inj h).2
theorem DU(m:Nat):vV (tN m):=⟨by simp,by simp,by simp⟩
theorem On:∀(l F:List Nm),l.Nodup->(∀x,x∈l->x∈F)->l.length<=F.length
 |[],_,_,_=>cG _
 |
  x::l,F,hn,hs=>by
  obtain⟨h1,h2⟩:=List.nodup_cons.1 hn
  have hx:=hs x ag
  have:=On l (F.erase x) h2 fun y hy=>(List.mem_erase_of_ne (fun e=>h1 (by rw[<-e];exact hy))).2 (hs y (ai _ hy))
  rw[List.length_erase_of_mem hx]at this
  have:0<F.length:=List.length_pos_of_mem hx
  simp only[aw];omega
def vY(F:List Nm):Nat->Nat->Nat
 |0,k=>k
 |n+1,k=>if tN k∈F then vY F n (k+1)else k
theorem vw(F:List Nm):∀(n k:Nat),k<=vY F n k/\vY F n k<=k+n/\(∀j,k<=j->j<vY F n k->tN j∈F)/\(vY F n k<k+n->tN (vY F n k)∉F)
 |0,k=>⟨aq _,aq _,fun j h1 h2=>by simp only[vY]at h2;omega,fun h=>by simp only[vY]at h;omega⟩
 |
  n+1,k=>by
  rw[vY]
  split
  ·rename_i hm
   obtain⟨h1,h2,h3,h4⟩:=vw F n (k+1)
   refine⟨by omega,by omega,fun j hj hl=>?_,fun h=>h4 (by omega)⟩
   by_cases e:j=k
   ·subst e;exact hm
   ·exact h3 j (by omega) hl
  ·rename_i hm
   exact⟨aq _,by omega,fun j h1 h2=>by omega,fun _=>hm⟩
def nx(F:List Nm)(k:Nat):Nat:=vY F (F.length+1) k
theorem qn(F:List Nm)(k:Nat):k<=nx F k/\nx F k<=k+F.length/\(∀j,k<=j->j<nx F k->tN j∈F)/\tN (nx F k)∉F:=by
 obtain⟨h1,h2,h3,h4⟩:=vw F (F.length+1) k
 have hlt:nx F k<k+(F.length+1):=by
  rcases Nat.lt_or_ge (nx F k) (k+(F.length+1))with h|h
  ·exact h
  ·exfalso
   have:=On ((List.range' k (F.length+1)).map tN) F (by
    refine List.Pairwise.map _ (fun a b hab e=>hab (BQ e)) List.nodup_range') (fun x hx=>by
    obtain⟨j,hj,rfl⟩:=bD.1 hx
    obtain⟨i,hi,rfl⟩:=List.mem_range'.1 hj
    exact h3 _ (by omega) (by show _<nx F k;omega))
   simp at this
   omega
 exact⟨h1,by unfold nx at hlt |-;omega,h3,h4 hlt⟩
def lW(F:List Nm):Ty->List Nm->Nat->E×Nat
 | .zero,_,k=>(.atom [48],k)
 | .one,_,k=>(.atom [49],k)
 | .name s,_,k=>(.atom s,k)
 | .bound u,to,k=>(.atom (hD to u),k)
 | .plus a b,to,k=>(.list [.atom [43],(lW F a to k).1,(lW F b to (lW F a to k).2).1],(lW F b to (lW F a to k).2).2)
 | .times a b,to,k=>(.list [.atom [42],(lW F a to k).1,(lW F b to (lW F a to k).2).1],(lW F b to (lW F a to k).2).2)
 | .rc a,to,k=>(.list [.atom gS,.atom (tN (nx F k)),(lW F a (to++[tN (nx F k)]) (nx F k+1)).1],(lW F a (to++[tN (nx F k)]) (nx F k+1)).2)
def fh:Ty->Nat->Prop
 | .bound u,i=>u<i
 | .plus a b,i=>fh a i/\fh b i
 | .times a b,i=>fh a i/\fh b i
 | .rc a,i=>fh a (i+1)
 |_,_=>True
theorem wK{e:E}(h:Wf e):∀ar,fh (ek e ar) ar.length:=by
 induction h with
 |
  @atom s hs =>
  intro ar
  simp only[ek]
  split
  ·trivial
  ·split
   ·trivial
   ·split
    ·rename_i u q;exact(fH _ _ (aq _) q).1
    ·trivial
 |plus ha hb i1 i2=>intro ar;rw[ff];exact⟨i1 ar,i2 ar⟩
 |times ha hb i1 i2=>intro ar;rw[eu];exact⟨i1 ar,i2 ar⟩
 |
  @rc n b hn hb i =>
  intro ar;rw[jd]
  have:=i (ar++[(E.atom n).at])
  rw[ak]at this
  exact this
structure Gn(F to:List Nm)(k:Nat):Prop where
 out:∀w,w∈to->w∉F
 lt:∀w,w∈to->∃j,j<k/\w=tN j
 nd:to.Nodup
theorem Gn.nil(F:List Nm)(k:Nat):Gn F [] k:=⟨fun _ h=>(by cases h),fun _ h=>(by cases h),by simp⟩
theorem Gn.mono{F to:List Nm}{k k':Nat}(h:Gn F to k)(hk:k<=k'):Gn F to k':=⟨h.out,fun w hw=>by obtain⟨j,h1,h2⟩:=h.lt w hw;exact⟨j,by omega,h2⟩,h.nd⟩
theorem Gn.push{F to:List Nm}{k:Nat}(h:Gn F to k):Gn F (to++[tN (nx F k)]) (nx F k+1):=by
 obtain⟨h1,h2,h3,h4⟩:=qn F k
 refine⟨fun w hw=>?_,fun w hw=>?_,?_⟩
 ·rcases aH.1 hw with hw|hw
  ·exact h.out w hw
  ·simp only[aQ]at hw;rw[hw];exact h4
 ·rcases aH.1 hw with hw|hw
  ·obtain⟨j,g1,g2⟩:=h.lt w hw;exact⟨j,by omega,g2⟩
  ·simp only[aQ]at hw;exact⟨_,by omega,hw⟩
 ·refine List.nodup_append.2 ⟨h.nd,by simp,fun a ha b hb e=>?_⟩
  simp only[aQ]at hb
  obtain⟨j,g1,g2⟩:=h.lt a ha
  rw[e,hb]at g2
  have:=BQ g2
  omega
theorem um{to:List Nm}(hn:to.Nodup){u:Nat}(hu:u<to.length):bG (hD to u) to to.length=some u:=by
 have hm:hD to u∈to:=by
  unfold hD
  have:to.length-1-u<to.length:=by omega
  simp[aa,this]
 cases q:bG (hD to u) to to.length with
 |none=>exact absurd hm ((fB _ _).1 q)
 |
  some v =>
  obtain⟨h1,h2⟩:=fH _ _ (aq _) q
  unfold hD at h2
  have e1:to.length-1-v<to.length:=by omega
  have e2:to.length-1-u<to.length:=by omega
  rw[aa,aa,aV e1,aV e2]at h2
  have hp:=List.pairwise_iff_getElem.1 hn
  have h3:to[to.length-1-v]=to[to.length-1-u]:=by simpa using h2
  rcases Nat.lt_trichotomy (to.length-1-v) (to.length-1-u)with hl|he|hl
  ·exact absurd h3 (hp _ _ e1 e2 hl)
  ·congr 1;omega
  ·exact absurd h3.symm (hp _ _ e2 e1 hl)
theorem mI(F:List Nm):∀(t:Ty) (to:List Nm) (k:Nat),Gn F to k->fh t to.length->(∀y,bA y t=true->y∈F/\vV y) ->
 Wf (lW F t to k).1/\ek (lW F t to k).1 to=t/\k<=(lW F t to k).2/\(lW F t to k).2<=k+(F.length+1)*t.atoms/\tI (·∉F) (lW F t to k).1
 | .zero,to,k,_,_,_=>⟨.atom (by simp),rfl,aq _,da _ _,trivial⟩
 | .one,to,k,_,_,_=>⟨.atom (by simp),rfl,aq _,da _ _,trivial⟩
 |
  .name s,to,k,g,hl,hn=>by
  obtain⟨h1,h2⟩:=hn s (by simp[bA])
  exact⟨.atom h2.1,iO h2 (fun h=>g.out s h h1),aq _,da _ _,trivial⟩
 |
  .bound u,to,k,g,hl,hn=>by
  have hm:hD to u∈to:=by
   unfold hD
   have:to.length-1-u<to.length:=by have:u<to.length:=hl;omega
   simp[aa,this]
  obtain⟨j,_,e⟩:=g.lt _ hm
  have hok:vV (hD to u):=by rw[e];exact DU j
  refine⟨.atom hok.1,?_,aq _,da _ _,trivial⟩
  simp only[lW,ek]
  rw[if_neg hok.2.1,if_neg hok.2.2,um g.nd hl]
 |
  .plus a b,to,k,g,hl,hn=>by
  obtain⟨a1,a2,a3,a4,a5⟩:=mI F a to k g hl.1 fun y hy=>hn y (by simp[bA,hy])
  obtain⟨b1,b2,b3,b4,b5⟩:=mI F b to _ (g.mono a3) hl.2 fun y hy=>hn y (by simp[bA,hy])
  simp only[lW,ff,a2,b2,oA,Ty.atoms]
  refine⟨.plus a1 b1,trivial,by omega,?_,a5,b5⟩
  have:(F.length+1)*(1+a.atoms+b.atoms)=(F.length+1)+(F.length+1)*a.atoms+(F.length+1)*b.atoms:=by simp only[du,Nat.mul_one]
  omega
 |
  .times a b,to,k,g,hl,hn=>by
  obtain⟨a1,a2,a3,a4,a5⟩:=mI F a to k g hl.1 fun y hy=>hn y (by simp[bA,hy])
  obtain⟨b1,b2,b3,b4,b5⟩:=mI F b to _ (g.mono a3) hl.2 fun y hy=>hn y (by simp[bA,hy])
  simp only[lW,eu,a2,b2,mS,Ty.atoms]
  refine⟨.times a1 b1,trivial,by omega,?_,a5,b5⟩
  have:(F.length+1)*(1+a.atoms+b.atoms)=(F.length+1)+(F.length+1)*a.atoms+(F.length+1)*b.atoms:=by simp only[du,Nat.mul_one]
  omega
 |
  .rc a,to,k,g,hl,hn=>by
  obtain⟨h1,h2,h3,h4⟩:=qn F k
  obtain⟨a1,a2,a3,a4,a5⟩:=mI F a (to++[tN (nx F k)]) (nx F k+1) g.push (by rw[ak];exact hl) hn
  simp only[lW,jd,eD,a2,tK,Ty.atoms]
  refine⟨.rc (DU _) a1,trivial,by omega,?_,h4,a5⟩
  have:(F.length+1)*(2+a.atoms)=(F.length+1)*2+(F.length+1)*a.atoms:=by simp only[du]
  omega
end Go.Proofs.Trees
namespace Go.Proofs.Trees
open Go Go.VL Go.RowKit
def cS(t:Ty)(u:Nat)(v:Vl):List Vl:=fG (bF t (.bd u) v)
theorem mr(a b:Ty)(u:Nat)(w:Vl):cS (.plus a b) u (.l w)=cS a u w:=by rw[cS,gk,bw];rfl
theorem mD(a b:Ty)(u:Nat)(w:Vl):cS (.plus a b) u (.r w)=cS b u w:=by rw[cS,gj,bw];rfl
theorem kM(a b:Ty)(u:Nat)(x y:Vl):cS (.times a b) u (.p x y)=cS a u x++cS b u y:=by rw[cS,eY,cC,bw,bw];rfl
theorem vt(a:Ty)(u:Nat)(g:Vl->Vl->Vl):∀l:List Hl,fG (l.flatMap fun h=>fS (g h.1) (bF (.rc a) (.bd u) h.2))=(fG l).flatMap (cS (.rc a) u)
 |[]=>rfl
 |
  x::l=>by
  rw[aZ,cC,bw,vt a u g l]
  simp only[fG,a6,aZ];rfl
theorem kN(a:Ty)(u:Nat)(w:Vl):cS (.rc a) u (.f w)=cS a (u+1) w++(cS a 0 w).flatMap (cS (.rc a) u):=by
 rw[cS,eZ,cC,bw,vt a u (fun p c=>.f (.r (.p p c)))];rfl
theorem ka(u:Nat)(v:Vl):cS (.bound u) u v=[v]:=by rw[cS,iW v (by simp[dO])];rfl
theorem pG{u k:Nat}(h:u≠k)(v:Vl):cS (.bound u) k v=[]:=by rw[cS,cQ (by simp[dO,h]) (by cases v<;>rfl)];rfl
theorem px{t:Ty}{u:Nat}{v e:Vl}(h:e∈cS t u v):e.nodes<=v.nodes:=by
 obtain⟨q,hq,rfl⟩:=bD.1 h
 exact(gd hq).1
theorem kk:∀(n:Nat) (v:Vl),v.nodes<=n->∀(t:Ty) (k u:Nat),fh t k->k<=u->cS t u v=[]
 |0,v,hn=>by have:=ba v;omega
 |
  n+1,v,hn=>by
  intro t k u hl hk
  cases hat:dO t (.bd u)with
  |
   true =>
   cases t<;>simp[dO]at hat
   subst hat
   exact absurd hl (by simp[fh];omega)
  |
   false =>
   cases hst:stuck t v with
   |true=>rw[cS,cQ hat hst];rfl
   |
    false =>
    unfold stuck at hst
    split at hst
    ·rename_i a b w
     simp only[Vl.nodes]at hn
     rw[mr,kk n w (by omega) a k u hl.1 hk]
    ·rename_i a b w
     simp only[Vl.nodes]at hn
     rw[mD,kk n w (by omega) b k u hl.2 hk]
    ·rename_i a b x y
     simp only[Vl.nodes]at hn
     rw[kM,kk n x (by omega) a k u hl.1 hk,kk n y (by omega) b k u hl.2 hk];rfl
    ·rename_i a w
     simp only[Vl.nodes]at hn
     rw[kN,kk n w (by omega) a (k+1) (u+1) hl (by omega),bg]
     rw[List.flatMap_eq_nil_iff]
     intro e he
     have:=px he
     exact kk n e (by omega) (.rc a) k u hl hk
    ·cases hst
inductive Sk:Ty->Vl->Vl->Prop
 |id (t:Ty) (v:Vl):Sk t v v
 |bd (u:Nat) (v v':Vl):Sk (.bound u) v v'
 |l {a b:Ty} {w w':Vl}:Sk a w w'->Sk (.plus a b) (.l w) (.l w')
 |r {a b:Ty} {w w':Vl}:Sk b w w'->Sk (.plus a b) (.r w) (.r w')
 |p {a b:Ty} {x x' y y':Vl}:Sk a x x'->Sk b y y'->Sk (.times a b) (.p x y) (.p x' y')
 |f {a:Ty} {w w':Vl}:Sk a w w'->(cS a 0 w).length=(cS a 0 w').length->(∀(i:Nat) (e e':Vl),(cS a 0 w)[i]?=some e->(cS a 0 w')[i]?=some e'->Sk (.rc a) e e')->Sk (.rc a) (.f w) (.f w')
theorem uU{f g:Vl->List Vl}:∀{l r:List Vl},l.length=r.length->(∀(i:Nat) (e e':Vl),l[i]?=some e->r[i]?=some e'->(f e).length=(g e').length)->(l.flatMap f).length=(r.flatMap g).length
 |[],[],_,_=>rfl
 |[],_::_,h,_=>by simp at h
 |_::_,[],h,_=>by simp at h
 |
  x::l,y::r,h,hf=>by
  rw[aZ,aZ,ak,ak,hf 0 x y rfl rfl,uU (by simpa using h) fun i e e' h1 h2=>hf (i+1) e e' (by simpa using h1) (by simpa using h2)]
theorem xW{f g:Vl->List Vl}:∀{l r:List Vl},l.length=r.length->(∀(i:Nat) (e e':Vl),l[i]?=some e->r[i]?=some e'->(f e).length=(g e').length)->l.flatMap f=r.flatMap g->∀(i:Nat) (e e':Vl),l[i]?=some e->r[i]?=some e'->f e=g e'
 |[],[],_,_,_,i,e,e',h1,_=>by simp at h1
 |[],_::_,h,_,_,_,_,_,_,_=>by simp at h
 |_::_,[],h,_,_,_,_,_,_,_=>by simp at h
 |
  x::l,y::r,h,hf,he,i,e,e',h1,h2=>by
  rw[aZ,aZ]at he
  obtain⟨q1,q2⟩:=List.append_inj he (hf 0 x y rfl rfl)
  cases i with
  |zero=>simp at h1 h2;subst h1;subst h2;exact q1
  |succ i=>exact xW (by simpa using h) (fun i e e' h1 h2=>hf (i+1) e e' (by simpa using h1) (by simpa using h2)) q2 i e e' (by simpa using h1) (by simpa using h2)
theorem Sk.len{t:Ty}{v v':Vl}(h:Sk t v v'):∀u,(cS t u v).length=(cS t u v').length:=by
 induction h with
 |id t v=>exact fun u=>rfl
 |
  bd u v v' =>
  intro k
  by_cases e:u=k
  ·subst e;rw[ka,ka];rfl
  ·rw[pG e,pG e]
 |l _ ih=>intro u;rw[mr,mr];exact ih u
 |r _ ih=>intro u;rw[mD,mD];exact ih u
 |p _ _ ih1 ih2=>intro u;rw[kM,kM,ak,ak,ih1 u,ih2 u]
 |
  f _ hl _ ih1 ih2 =>
  intro u
  rw[kN,kN,ak,ak,ih1 (u+1),uU hl fun i e e' h1 h2=>ih2 i e e' h1 h2 u]
theorem CI{l r:List Vl}(hl:l.length=r.length)(h:∀(i:Nat) (e e':Vl),l[i]?=some e->r[i]?=some e'->e=e'):l=r:=by
 apply List.ext_getElem hl
 intro i h1 h2
 exact h i _ _ (aV h1) (aV h2)
theorem Sk.OT{t:Ty}{v v':Vl}(h:Sk t v v'):(∀u,cS t u v=cS t u v')->v=v':=by
 induction h with
 |id t v=>exact fun _=>rfl
 |bd u v v'=>intro h;have:=h u;rw[ka,ka]at this;exact List.singleton_inj.1 this
 |l _ ih=>intro h;rw[ih fun u=>by have:=h u;rwa[mr,mr]at this]
 |r _ ih=>intro h;rw[ih fun u=>by have:=h u;rwa[mD,mD]at this]
 |
  @p a b x x' y y' h1 h2 ih1 ih2 =>
  intro h
  have hu:=fun u=>by
   have:=h u
   rw[kM,kM]at this
   exact List.append_inj this (h1.len u)
  rw[ih1 fun u=>(hu u).1,ih2 fun u=>(hu u).2]
 |
  @f a w w' h1 hl h2 ih1 ih2 =>
  intro h
  have hu:=fun u=>by
   have:=h u
   rw[kN,kN]at this
   exact List.append_inj this (h1.len (u+1))
  have he:cS a 0 w=cS a 0 w':=CI hl fun i e e' g1 g2=>ih2 i e e' g1 g2 fun u=>xW hl (fun i e e' g1 g2=>(h2 i e e' g1 g2).len u) (hu u).2 i e e' g1 g2
  rw[ih1 fun u=>by cases u with
   |zero=>exact he
   |succ u=>exact(hu u).1]
theorem wR{l r:List Vl}(hl:l.length=r.length){i:Nat}{e:Vl}(h:l[i]?=some e):∃e',r[i]?=some e':=by
 obtain⟨hlt,_⟩:=cq.1 h
 exact⟨_,aV (by omega)⟩
theorem Sk.trans{t:Ty}{v v':Vl}(h:Sk t v v'):∀{v'':Vl},Sk t v' v''->Sk t v v'':=by
 induction h with
 |id t v=>exact fun h=>h
 |bd u v v'=>exact fun _=>.bd u v _
 |
  l h1 ih=>intro v'' h;cases h with
  |id=>exact .l h1
  |l h2=>exact .l (ih h2)
 |
  r h1 ih=>intro v'' h;cases h with
  |id=>exact .r h1
  |r h2=>exact .r (ih h2)
 |
  p h1 h2 ih1 ih2=>intro v'' h;cases h with
  |id=>exact .p h1 h2
  |p g1 g2=>exact .p (ih1 g1) (ih2 g2)
 |
  f h1 hl h2 ih1 ih2=>intro v'' h;cases h with
  |id=>exact .f h1 hl h2
  |
   f g1 gl g2 =>
   refine .f (ih1 g1) (hl.trans gl) fun i e e' q1 q2=>?_
   obtain⟨e1,q3⟩:=wR hl q1
   exact ih2 i e e1 q1 q3 (g2 i e1 e' q3 q2)
theorem Cd{A A' B B':List Vl}{e x:Vl}(hA:A'=A)(hB:B'=B){i:Nat}{y z:Vl}(h1:(A++e::B)[i]?=some y)(h2:(A'++x::B')[i]?=some z):(y=z)\/(y=e/\z=x):=by
 subst hA;subst hB
 by_cases hi:i<A'.length
 ·rw[List.getElem?_append_left hi]at h1 h2
  rw[h1]at h2;cases h2;exact .inl rfl
 ·rw[List.getElem?_append_right (by omega)]at h1 h2
  cases hq:i-A'.length with
  |zero=>rw[hq]at h1 h2;simp at h1 h2;exact .inr ⟨h1.symm,h2.symm⟩
  |succ q=>rw[hq]at h1 h2;simp at h1 h2;rw[h1]at h2;cases h2;exact .inl rfl
theorem Sk.ct:∀(n:Nat) (v:Vl),v.nodes<=n->∀(t:Ty) (u:Nat) (c e:Vl),(c,e)∈bF t (.bd u) v->∀x:Vl,Sk t v (Trees.ct t c x)
 |0,v,hn=>by have:=ba v;omega
 |
  n+1,v,hn=>by
  intro t u c e hh x
  cases hat:dO t (.bd u)with
  |
   true =>
   rw[tv hat]
   cases t<;>simp[dO]at hat
   exact .bd _ _ _
  |
   false =>
   have hst:stuck t v=false:=by
    cases q:stuck t v with
    |false=>rfl
    |true=>rw[cQ hat q]at hh;simp at hh
   unfold stuck at hst
   split at hst
   ·rename_i a b w
    simp only[Vl.nodes]at hn
    rw[gk]at hh
    obtain⟨⟨c0,e0⟩,h0,he⟩:=bW hh
    cases he
    exact .l (Sk.ct n w (by omega) a u c0 e0 h0 x)
   ·rename_i a b w
    simp only[Vl.nodes]at hn
    rw[gj]at hh
    obtain⟨⟨c0,e0⟩,h0,he⟩:=bW hh
    cases he
    exact .r (Sk.ct n w (by omega) b u c0 e0 h0 x)
   ·rename_i a b y z
    simp only[Vl.nodes]at hn
    rw[eY]at hh
    rcases aH.1 hh with hh|hh
    ·obtain⟨⟨c0,e0⟩,h0,he⟩:=bW hh
     cases he
     exact .p (Sk.ct n y (by omega) a u c0 e0 h0 x) (.id _ _)
    ·obtain⟨⟨c0,e0⟩,h0,he⟩:=bW hh
     cases he
     exact .p (.id _ _) (Sk.ct n z (by omega) b u c0 e0 h0 x)
   ·rename_i a w
    simp only[Vl.nodes]at hn
    rw[eZ]at hh
    rcases aH.1 hh with hh|hh
    ·obtain⟨⟨c0,e0⟩,h0,he⟩:=bW hh
     cases he
     obtain⟨A,B,hs⟩:=List.append_of_mem h0
     have ho:=(fY w.nodes w (aq _) a (Tg.bd u).up A B c0 e0 hs x).2 (.bd 0) (Ne.symm (ye _))
     have hk:=Sk.ct n w (by omega) a (u+1) c0 e0 h0 x
     refine .f hk (hk.len 0) fun i y z h1 h2=>?_
     rw[cS,<-ho]at h1
     have:cS a 0 (Trees.ct a c0 x)=fG (bF a (.bd 0) (Trees.ct a c0 x)):=rfl
     rw[this,h1]at h2
     cases h2;exact .id _ _
    ·obtain⟨⟨hc,he⟩,h1,h2⟩:=cu.1 hh
     obtain⟨⟨c0,e0⟩,h0,heq⟩:=bW h2
     cases heq
     have hsz:=(gd h1).1
     simp only at hsz h0
     obtain⟨A,B,hs⟩:=List.append_of_mem h1
     have hk1:=Sk.ct n he (by omega) (.rc a) u c0 e0 h0 x
     have hk:=Sk.ct n w (by omega) a 0 hc he h1 (Trees.ct (.rc a) c0 x)
     obtain⟨⟨A',B',d1,d2,d3⟩,_⟩:=fY w.nodes w (aq _) a (.bd 0) A B hc he hs (Trees.ct (.rc a) c0 x)
     refine .f hk (hk.len 0) fun i y z q1 q2=>?_
     rw[cS,hs,cC]at q1
     rw[cS,d1,cC]at q2
     simp only[fG,a6]at q1 q2 d2 d3
     rcases Cd d2 d3 q1 q2 with rfl|⟨rfl,rfl⟩
     ·exact .id _ _
     ·exact hk1
   ·cases hst
end Go.Proofs.Trees
namespace Go.Proofs.Trees
open Go Go.VL Go.RowKit
section
variable (R:Vl->Vl×Nat)
def zH(f:List Ty->Ty->Vl->Vl×Nat)(G:List Ty):Ty->Vl->Vl×Nat
 |
  .bound u,v=>if u=G.length then R v else match G[u]? with
  |some b=>f (G.drop (u+1)) (.rc b) v
  |none=>(v,0)
 | .plus a _,.l w=>(.l (f G a w).1,(f G a w).2)
 | .plus _ b,.r w=>(.r (f G b w).1,(f G b w).2)
 | .times a b,.p x y=>(.p (f G a x).1 (f G b y).1,(f G a x).2+(f G b y).2)
 | .rc b,.f w=>(.f (f (b::G) b w).1,(f (b::G) b w).2)
 |_,v=>(v,0)
def uX:Nat->List Ty->Ty->Vl->Vl×Nat
 |0=>fun _ _ v=>(v,0)
 |n+1=>zH R (uX n)
def rP:Ty->Nat
 | .bound _=>1
 |_=>0
theorem cA(t:Ty):rP t<=1:=by cases t<;>simp[rP]
theorem nv:∀(n m:Nat) (G:List Ty) (t:Ty) (v:Vl),2*v.nodes+rP t<=n->2*v.nodes+rP t<=m->uX R n G t v=uX R m G t v
 |0,m,G,t,v,hn,_=>by have:=ba v;omega
 |n+1,0,G,t,v,_,hm=>by have:=ba v;omega
 |
  n+1,m+1,G,t,v,hn,hm=>by
  rw[uX,uX]
  unfold zH
  split
  ·rename_i v u
   split
   ·rfl
   ·split
    ·simp only[rP]at hn hm
     exact nv n m _ _ _ (by simp only[rP];omega) (by simp only[rP];omega)
    ·rfl
  ·rename_i a b w
   simp only[Vl.nodes]at hn hm
   have:=cA a
   rw[nv n m G a w (by omega) (by omega)]
  ·rename_i a b w
   simp only[Vl.nodes]at hn hm
   have:=cA b
   rw[nv n m G b w (by omega) (by omega)]
  ·rename_i a b x y
   simp only[Vl.nodes]at hn hm
   have:=cA a
   have:=cA b
   have:=ba x
   have:=ba y
   rw[nv n m G a x (by omega) (by omega),nv n m G b y (by omega) (by omega)]
  ·rename_i b w
   simp only[Vl.nodes]at hn hm
   have:=cA b
   rw[nv n m (b::G) b w (by omega) (by omega)]
  ·rfl
def mm(G:List Ty)(t:Ty)(v:Vl):Vl×Nat:=uX R (2*v.nodes+1) G t v
theorem zn{n:Nat}{G:List Ty}{t:Ty}{v:Vl}(h:2*v.nodes+rP t<=n):uX R n G t v=mm R G t v:=nv R _ _ _ _ _ h (by have:=cA t;omega)
theorem po(G:List Ty)(v:Vl):mm R G (.bound G.length) v=R v:=by simp[mm,uX,zH]
theorem sS{G:List Ty}{u:Nat}{b:Ty}(h:G[u]?=some b)(v:Vl):mm R G (.bound u) v=mm R (G.drop (u+1)) (.rc b) v:=by
 have hu:u≠G.length:=by rintro rfl;simp at h
 conv=>lhs;unfold mm
 rw[uX,zH,if_neg hu,h]
 exact zn R (by simp only[rP];omega)
theorem Ar(G:List Ty)(a b:Ty)(w:Vl):mm R G (.plus a b) (.l w)=(.l (mm R G a w).1,(mm R G a w).2):=by
 have:=cA a
 conv=>lhs;unfold mm
 rw[uX,zH,zn R (by simp only[Vl.nodes];omega)]
theorem AB(G:List Ty)(a b:Ty)(w:Vl):mm R G (.plus a b) (.r w)=(.r (mm R G b w).1,(mm R G b w).2):=by
 have:=cA b
 conv=>lhs;unfold mm
 rw[uX,zH,zn R (by simp only[Vl.nodes];omega)]
theorem Bc(G:List Ty)(a b:Ty)(x y:Vl):mm R G (.times a b) (.p x y)=(.p (mm R G a x).1 (mm R G b y).1,(mm R G a x).2+(mm R G b y).2):=by
 have:=cA a
 have:=cA b
 conv=>lhs;unfold mm
 rw[uX,zH,zn R (by simp only[Vl.nodes];omega),zn R (by simp only[Vl.nodes];omega)]
theorem As(G:List Ty)(b:Ty)(w:Vl):mm R G (.rc b) (.f w)=(.f (mm R (b::G) b w).1,(mm R (b::G) b w).2):=by
 have:=cA b
 conv=>lhs;unfold mm
 rw[uX,zH,zn R (by simp only[Vl.nodes];omega)]
theorem sB{G:List Ty}{t:Ty}{v:Vl}(hb:∀u,t≠.bound u)(h:stuck t v=true):mm R G t v=(v,0):=by
 unfold mm
 rw[uX]
 unfold zH
 split<;>first|rfl|exact absurd rfl (hb _)|simp[stuck]at h
theorem tY{t:Ty}(h:∀u,t≠.bound u)(u:Nat):dO t (.bd u)=false:=by cases t<;>first|rfl|exact absurd rfl (h _)
def gM(G:List Ty)(u:Nat)(e:Vl):Vl×Nat:=mm R G (.bound u) e
theorem xC(b:Ty)(G:List Ty)(u:Nat)(e:Vl):gM R (b::G) (u+1) e=gM R G u e:=by
 unfold gM
 by_cases h:u=G.length
 ·subst h
  rw[po,show G.length+1=(b::G).length from rfl,po]
 ·cases hq:G[u]? with
  |some c=>rw[sS R (G:=b::G) (u:=u+1) (b:=c) (by simpa using hq),sS R hq];rfl
  |
   none =>
   have hlt:G.length<=u:=by simpa using hq
   simp[mm,uX,zH,h,hq]
theorem w6(b:Ty)(G:List Ty)(e:Vl):gM R (b::G) 0 e=mm R G (.rc b) e:=by
 unfold gM;rw[sS R (b:=b) (by rfl)];rfl
theorem qY:∀(n:Nat) (G:List Ty) (t:Ty) (v:Vl),2*v.nodes+rP t<=n->Sk t v (mm R G t v).1/\∀u,cS t u (mm R G t v).1=(cS t u v).map fun e=>(gM R G u e).1
 |0,G,t,v,hn=>by have:=ba v;omega
 |
  n+1,G,t,v,hn=>by
  by_cases hb:∃u,t=.bound u
  ·obtain⟨u,rfl⟩:=hb
   refine⟨.bd _ _ _,fun k=>?_⟩
   by_cases e:u=k
   ·subst e;rw[ka,ka];rfl
   ·rw[pG e,pG e];rfl
  ·have hb':∀u,t≠.bound u:=fun u h=>hb ⟨u,h⟩
   cases hst:stuck t v with
   |
    true =>
    rw[sB R hb' hst]
    have hz:∀u,cS t u v=[]:=fun u=>by rw[cS,cQ (tY hb' u) hst];rfl
    exact⟨.id _ _,fun u=>by rw[hz];rfl⟩
   |
    false =>
    unfold stuck at hst
    split at hst
    ·rename_i a b w
     simp only[Vl.nodes]at hn
     have:=cA a
     obtain⟨h1,h2⟩:=qY n G a w (by omega)
     rw[Ar]
     exact⟨.l h1,fun u=>by rw[mr,mr];exact h2 u⟩
    ·rename_i a b w
     simp only[Vl.nodes]at hn
     have:=cA b
     obtain⟨h1,h2⟩:=qY n G b w (by omega)
     rw[AB]
     exact⟨.r h1,fun u=>by rw[mD,mD];exact h2 u⟩
    ·rename_i a b x y
     simp only[Vl.nodes]at hn
     have:=cA a
     have:=cA b
     have:=ba x
     have:=ba y
     obtain⟨h1,h2⟩:=qY n G a x (by omega)
     obtain⟨h3,h4⟩:=qY n G b y (by omega)
     rw[Bc]
     exact⟨.p h1 h3,fun u=>by rw[kM,kM,bV,h2 u,h4 u]⟩
    ·rename_i b w
     simp only[Vl.nodes]at hn
     have:=cA b
     obtain⟨h1,h2⟩:=qY n (b::G) b w (by omega)
     have h0:cS b 0 (mm R (b::G) b w).1=(cS b 0 w).map fun e=>(mm R G (.rc b) e).1:=by
      rw[h2 0];exact List.map_congr_left fun e _=>by rw[w6]
     have hin:∀e,e∈cS b 0 w->Sk (.rc b) e (mm R G (.rc b) e).1/\∀u,cS (.rc b) u (mm R G (.rc b) e).1=(cS (.rc b) u e).map fun e=>(gM R G u e).1:=fun e he=>by
      have:=px he
      exact qY n G (.rc b) e (by simp only[rP];omega)
     rw[As]
     refine⟨.f h1 (by rw[h0,cg]) fun i e e' q1 q2=>?_,fun u=>?_⟩
     ·rw[h0,List.getElem?_map,q1]at q2
      cases q2
      exact(hin e (List.mem_of_getElem? q1)).1
     ·rw[kN,kN,bV,h2 (u+1),h0,List.map_congr_left fun e _=>by rw[xC]]
      congr 1
      rw[List.flatMap_map,List.map_flatMap]
      have key:∀l:List Vl,(∀e,e∈l->e∈cS b 0 w)->(l.flatMap fun e=>cS (.rc b) u (mm R G (.rc b) e).1)=l.flatMap fun e=>(cS (.rc b) u e).map fun e=>(gM R G u e).1:=by
       intro l
       induction l with
       |nil=>intro _;rfl
       |cons x l ih=>intro h;rw[aZ,aZ,(hin x (h x ag)).2 u,ih fun e he=>h e (ai _ he)]
      exact key _ fun e he=>he
    ·cases hst
def pw(G:List Ty)(t:Ty)(v:Vl)(u:Nat):Nat:=((cS t u v).map fun e=>(gM R G u e).2).sum
def oV(G:List Ty)(t:Ty)(v:Vl):Nat->Nat
 |0=>0
 |k+1=>oV G t v k+pw R G t v k
theorem xu{G:List Ty}{t a b:Ty}{v x y:Vl}(h:∀u,pw R G t v u=pw R G a x u+pw R G b y u):∀k,oV R G t v k=oV R G a x k+oV R G b y k
 |0=>rfl
 |k+1=>by rw[oV,oV,oV,xu h k,h k];omega
theorem we{G:List Ty}{t a:Ty}{v x:Vl}(h:∀u,pw R G t v u=pw R G a x u):∀k,oV R G t v k=oV R G a x k
 |0=>rfl
 |k+1=>by rw[oV,oV,we h k,h k]
theorem qC{G:List Ty}{t:Ty}{v:Vl}:∀k,(∀u,u<k->pw R G t v u=0)->oV R G t v k=0
 |0,_=>rfl
 |k+1,h=>by rw[oV,qC k fun u hu=>h u (by omega),h k (by omega)]
theorem xw{G:List Ty}{t:Ty}{v:Vl}{c:Nat}:∀k,c<k->(∀u,u≠c->pw R G t v u=0)->oV R G t v k=pw R G t v c
 |0,h,_=>by omega
 |
  k+1,h,hz=>by
  rw[oV]
  by_cases e:c=k
  ·subst e;rw[qC R c fun u hu=>hz u (by omega)];omega
  ·rw[xw k (by omega) hz,hz k (Ne.symm e)];omega
theorem vn(f:Vl->List Vl)(g:Vl->Nat):∀l:List Vl,((l.flatMap f).map g).sum=(l.map fun e=>((f e).map g).sum).sum
 |[]=>rfl
 |x::l=>by rw[aZ,bV,List.sum_append,vn f g l,a6,cw]
theorem sum_add(f g:Vl->Nat):∀l:List Vl,(l.map fun e=>f e+g e).sum=(l.map f).sum+(l.map g).sum
 |[]=>rfl
 |x::l=>by simp only[a6,cw,sum_add f g l];omega
theorem nt:∀(n:Nat) (G:List Ty) (t:Ty) (v:Vl),2*v.nodes+rP t<=n->fh t (G.length+1)->(mm R G t v).2=oV R G t v (G.length+1)
 |0,G,t,v,hn,hl=>by have:=ba v;omega
 |
  n+1,G,t,v,hn,hl=>by
  by_cases hb:∃u,t=.bound u
  ·obtain⟨u,rfl⟩:=hb
   rw[xw R (c:=u) _ hl fun k hk=>by rw[pw,pG (Ne.symm hk)];rfl,pw,ka]
   simp[gM]
  ·have hb':∀u,t≠.bound u:=fun u h=>hb ⟨u,h⟩
   cases hst:stuck t v with
   |
    true =>
    have hz:∀u,cS t u v=[]:=fun u=>by rw[cS,cQ (tY hb' u) hst];rfl
    rw[sB R hb' hst,qC R _ fun u _=>by rw[pw,hz];rfl]
   |
    false =>
    unfold stuck at hst
    split at hst
    ·rename_i a b w
     simp only[Vl.nodes]at hn
     have:=cA a
     rw[Ar,we R (a:=a) (x:=w) fun u=>by rw[pw,mr];rfl]
     exact nt n G a w (by omega) hl.1
    ·rename_i a b w
     simp only[Vl.nodes]at hn
     have:=cA b
     rw[AB,we R (a:=b) (x:=w) fun u=>by rw[pw,mD];rfl]
     exact nt n G b w (by omega) hl.2
    ·rename_i a b x y
     simp only[Vl.nodes]at hn
     have:=cA a
     have:=cA b
     have:=ba x
     have:=ba y
     rw[Bc,xu R (a:=a) (b:=b) (x:=x) (y:=y) fun u=>by rw[pw,kM,bV,List.sum_append];rfl]
     simp only
     rw[nt n G a x (by omega) hl.1,nt n G b y (by omega) hl.2]
    ·rename_i b w
     simp only[Vl.nodes]at hn
     have:=cA b
     rw[As]
     simp only
     rw[nt n (b::G) b w (by omega) hl]
     have hin:∀e,e∈cS b 0 w->(mm R G (.rc b) e).2=oV R G (.rc b) e (G.length+1):=fun e he=>by
      have:=px he
      exact nt n G (.rc b) e (by simp only[rP];omega) hl
     have h0:pw R (b::G) b w 0=((cS b 0 w).map fun e=>oV R G (.rc b) e (G.length+1)).sum:=by
      rw[pw]
      congr 1
      exact List.map_congr_left fun e he=>by rw[w6,hin e he]
     have hs:∀k,pw R G (.rc b) (.f w) k=pw R (b::G) b w (k+1)+((cS b 0 w).map fun e=>pw R G (.rc b) e k).sum:=fun k=>by
      rw[pw,kN,bV,List.sum_append,vn,pw]
      congr 2
      exact List.map_congr_left fun e _=>by rw[xC]
     have key:∀k,oV R (b::G) b w (k+1)+((cS b 0 w).map fun e=>oV R G (.rc b) e k).sum=pw R (b::G) b w 0+oV R G (.rc b) (.f w) k:=by
      intro k
      induction k with
      |
       zero =>
       have z:∀l:List Vl,(l.map fun _=>0).sum=0:=fun l=>by induction l with
        |nil=>rfl
        |cons x l ih=>simpa using ih
       simp only[oV,z];omega
      |
       succ k ih =>
       rw[oV,show oV R G (.rc b) (.f w) (k+1)=oV R G (.rc b) (.f w) k+pw R G (.rc b) (.f w) k from rfl,hs k]
       have:((cS b 0 w).map fun e=>oV R G (.rc b) e (k+1)).sum=((cS b 0 w).map fun e=>oV R G (.rc b) e k).sum+((cS b 0 w).map fun e=>pw R G (.rc b) e k).sum:=sum_add _ _ _
       omega
     have:=key (G.length+1)
     rw[<-h0]at this
     show oV R (b::G) b w (G.length+1+1)=_
     omega
    ·cases hst
end
end Go.Proofs.Trees
namespace Go.Proofs.Trees
open Go Go.VL Go.RowKit
inductive qL:AV->List Nat->Prop
 |nil:qL jZ []
 |cons {m:Nat} {cs:List AV} {e:AV} {ids:List Nat} (hm:m∉ids) (h:qL e ids):qL (.ptr [.pid m cs,e]) (m::ids)
theorem qL.has{a:AV}{ids:List Nat}(h:qL a ids):LK.has .ptr a:=by
 cases h
 ·exact(j3).mpr trivial
 ·exact(gY _).mpr trivial
theorem qL.OF{M:Mem}{a:AV}{ids:List Nat}(h:qL a ids):∀{v:Value},bo M dk a v->∀b,b∈ids->M.p b:=by
 induction h with
 |nil=>intro v _ b hb;cases hb
 |
  @cons m cs e ids hm h ih =>
  intro v hr b hb
  cases hr with
  |
   ptr _ _ _ off us hc hr =>
   have h0:=hr 0 (by simp)
   have h1:=hr 1 (by simp)
   simp only[bh,List.getD_cons_succ]at h0 h1
   rcases aI.1 hb with rfl|hb
   ·generalize us 0=u0 at h0
    cases h0 with
    |pid _ _ _ us hp _ _=>exact hp
   ·exact ih h1 b hb
theorem qL.nodup{a:AV}{ids:List Nat}(h:qL a ids):ids.Nodup:=by
 induction h with
 |nil=>simp
 |cons hm h ih=>exact List.nodup_cons.2 ⟨hm,ih⟩
theorem yJ(a b:AV)(S:Nat->Prop)(R:AV->Prop):AP JS cfg dV (dx dV) [.agg [.x a,.x b]] S (fun o=>aF o 7) R =
 .al (LK.has .ptr a/\a.isNil=false) (.al (LK.has .ptr a/\a.isNil=false) (.al (LK.has .ptr ((a.deref.drop 3).headD .any)/\1<=(a.deref.drop 3).length)
  (.al (∀ids:Nat->Nat,(∀o,¬S (ids o))->(True/\R (.cP [.agg [(a.deref.drop 3).headD .any,.ptr [.pid (ids 7) [a,b],b]],.pid (ids 7) [a,b]]))) (.done 0 [] [])))):=by kernel_rfl
def JQ(t:Ty)(ea:AV)(ids:List Nat):AV->List Ob->Prop:=fun r o=>(∃m,m∉ids/\r=.cP [.agg [t.av,.ptr [.pid m [(Ty.rc t).av,ea],ea]],.pid m [(Ty.rc t).av,ea]])/\o=[]
theorem JQ.ne(t:Ty)(ea:AV)(ids:List Nat):∃r o,JQ t ea ids r o:=by
 have:∃m,m∉ids:=⟨ids.foldr max 0+1,fun h=>by
  have key:∀(l:List Nat) (x:Nat),x∈l->x<=l.foldr max 0:=by
   intro l
   induction l with
   |nil=>intro x hx;cases hx
   |
    cons y l ih =>
    intro x hx
    rcases aI.1 hx with rfl|hx
    ·simp only[List.foldr_cons];omega
    ·have:=ih x hx;simp only[List.foldr_cons];omega
  have:=key _ _ h
  omega⟩
 obtain⟨m,hm⟩:=this
 exact⟨_,_,⟨m,hm,rfl⟩,rfl⟩
theorem Hq(t:Ty)(ea:AV)(ids:List Nat)(he:qL ea ids):aB Tryz.prog 18 [.agg [(Ty.rc t).av,ea]] [] (JQ t ea ids):=by
 have hup:wB [.agg [(Ty.rc t).av,ea]] [.agg [.x (Ty.rc t).av,.x ea]]:=aj (cD (aj (cK ((bm _).mpr trivial)) (aj (cK he.has) aJ))) aJ
 refine aB.up hup ?_
 refine aB.OQ (cfg:=cfg) (F:=dV) (S:=fun b=>b∈ids) (sel:=fun o=>aF o 7) tx mixed (by kernel_rfl) (by kernel_rfl) (c:=dx dV) (by kernel_rfl) (by kernel_rfl) (fun M β vs hr b hb=>?_) ?_
 ·have h0:=hr 0 (by simp)
  simp only[bh]at h0
  obtain⟨us,_,hl,hq,_⟩:=fJ h0
  have h1:=hq 1 (by simp at hl |-)
  simp only[List.getD_cons_succ,bh]at h1
  cases h1 with
  |x _ _ _ _ h=>exact he.OF h b hb
 ·rw[yJ]
  simp only[Ty.av,↓zq,zs,ah,bm]
  exact⟨by omega,fun ids' hf=>⟨ids' 7,hf 7,rfl⟩⟩
inductive DV:Tg->List Nat->List UInt8->AV->Prop
 |nm (s:List UInt8) (ids:List Nat):DV (.nm s) ids s jZ
 |bd {k:Nat} {ids:List Nat} (hk:k<ids.length) (cs:List AV) (s:List UInt8):DV (.bd k) ids s (.pid (ids.getD k 0) cs)
theorem DV.has{tg:Tg}{ids:List Nat}{s:List UInt8}{fr:AV}(h:DV tg ids s fr):LK.has .ptr fr:=by
 cases h
 ·exact(j3).mpr trivial
 ·exact .inr (.inr ⟨_,_,rfl⟩)
theorem DV.push{tg:Tg}{ids:List Nat}{s:List UInt8}{fr:AV}(h:DV tg ids s fr)(m:Nat):DV tg.up (m::ids) s fr:=by
 cases h with
 |nm=>exact .nm _ _
 |
  @bd k _ hk cs =>
  have:=DV.bd (k:=k+1) (ids:=m::ids) (by simpa using hk) cs s
  simpa[Tg.up]using this
theorem yH{ids:List Nat}(h:ids.Nodup){i j:Nat}(hi:i<ids.length)(hj:j<ids.length)(he:ids.getD i 0=ids.getD j 0):i=j:=by
 have e1:ids.getD i 0=ids[i]:=by simp[aa,hi]
 have e2:ids.getD j 0=ids[j]:=by simp[aa,hj]
 rw[e1,e2]at he
 have hp:=List.pairwise_iff_getElem.1 h
 rcases Nat.lt_trichotomy i j with hlt|rfl|hlt
 ·exact absurd he (hp i j hi hj hlt)
 ·rfl
 ·exact absurd he.symm (hp j i hj hi hlt)
end Go.Proofs.Trees
namespace Go.Proofs.Trees
open Go Go.VL Go.RowKit
theorem Cy(b:Int)(a:AV)(h:LK.ptr.has a):aB Tryz.prog 19 [.v (.int .u8 b),a] [] (bU (.ptr [.v (.int .u8 b),.v (.string (mk [])),a,jZ])):=by
 refine Ol _ _ h ?_
 simp[Kc,↓zq,zs,ah,bU]
end Go.Proofs.Trees
namespace Go.Proofs.Trees
open Go Go.VL Go.RowKit
theorem me(g:Vl->Vl)(l:List Hl){i:Nat}(hi:i<l.length):fS g (l.drop i)=(g (l[i]).1,(l[i]).2)::fS g (l.drop (i+1)):=by
 rw[aP hi];rfl
theorem lz(g:Vl->Vl)(l:List Hl):(fS g l).length=l.length:=by simp[fS]
end Go.Proofs.Trees
namespace Go.Proofs.Trees
open Go Go.VL Go.RowKit
abbrev Hn(a:Ty)(tg:Tg):Hl->List Hl:=fun h=>fS (fun c=>.f (.r (.p h.1 c))) (bF (.rc a) tg h.2)
theorem EM(l:List Hl){i:Nat}(hi:i<l.length):l[i]∈l:=bY _
end Go.Proofs.Trees
namespace Go.Proofs.Trees
open Go Go.VL Go.RowKit
theorem DW:∀(v:Vl),v.dw.length<=900000->aB Tryz.prog 17 [v.ei] [] (bU (.v (.string (mk v.dw))))
 | .u,h=>by refine zz _ ((bu _).mpr trivial) ?_;simp[Ez,Vl.ei,↓zq,zs,ah,bU,Vl.dw,Vl.cb,fy]
 | .el k,h=>by refine zz _ ((bu _).mpr trivial) ?_;simp[Ez,Vl.ei,↓zq,zs,ah,bU,Vl.dw,Vl.cb,fy]
 |
  .l v,h=>by
  simp only[Vl.dw,Vl.cb,fy,dY,aw,ak,aE]at h
  refine zz _ ((bu _).mpr trivial) ?_
  have hb:(⟨(bytesOf [[.v (.int .u8 108)]]).toArray⟩:ByteArray)=mk [108]:=rfl
  have ha:mB [[.v (.int .u8 108)]]:=kK 108
  simp only[Ez,Vl.ei,↓zq,zs,ah,bu,eI,hb]
  refine⟨by omega,fun h=>by omega,fun _=>⟨fun h=>by omega,fun _=>⟨fun h=>by omega,fun _=>⟨by omega,ha,by simp[dc],by rw[kA,dc,dc];simp,by omega,?_⟩⟩⟩⟩
  refine an (DW v (by simp only[Vl.dw];omega)) ?_
  simp only[↓zq,zs,ah,zt,bU,Vl.dw,Vl.cb,fy,dY]
  refine⟨by simp;omega,by simp;omega,by simp⟩
 |
  .r v,h=>by
  simp only[Vl.dw,Vl.cb,fy,dY,aw,ak,aE]at h
  refine zz _ ((bu _).mpr trivial) ?_
  have hb:(⟨(bytesOf [[.v (.int .u8 114)]]).toArray⟩:ByteArray)=mk [114]:=rfl
  have ha:mB [[.v (.int .u8 114)]]:=kK 114
  simp only[Ez,Vl.ei,↓zq,zs,ah,bu,eI,hb]
  refine⟨by omega,fun h=>by omega,fun _=>⟨fun h=>by omega,fun _=>⟨fun h=>by omega,fun _=>⟨by omega,ha,by simp[dc],by rw[kA,dc,dc];simp,by omega,?_⟩⟩⟩⟩
  refine an (DW v (by simp only[Vl.dw];omega)) ?_
  simp only[↓zq,zs,ah,zt,bU,Vl.dw,Vl.cb,fy,dY]
  refine⟨by simp;omega,by simp;omega,by simp⟩
 |
  .f v,h=>by
  simp only[Vl.dw,Vl.cb,fy,dY,aw,ak,aE]at h
  refine zz _ ((bu _).mpr trivial) ?_
  have hb:(⟨(bytesOf [[.v (.int .u8 102)]]).toArray⟩:ByteArray)=mk [102]:=rfl
  have ha:mB [[.v (.int .u8 102)]]:=kK 102
  simp only[Ez,Vl.ei,↓zq,zs,ah,bu,eI,hb]
  refine⟨by omega,fun h=>by omega,fun _=>⟨fun h=>by omega,fun _=>⟨fun h=>by omega,fun _=>⟨by omega,ha,by simp[dc],by rw[kA,dc,dc];simp,by omega,?_⟩⟩⟩⟩
  refine an (DW v (by simp only[Vl.dw];omega)) ?_
  simp only[↓zq,zs,ah,zt,bU,Vl.dw,Vl.cb,fy,dY]
  refine⟨by simp;omega,by simp;omega,by simp⟩
 |
  .p a b,h=>by
  simp only[Vl.dw,Vl.cb,fy,dY,aw,ak,aE]at h
  refine zz _ ((bu _).mpr trivial) ?_
  simp only[Ez,Vl.ei,↓zq,zs,ah,bu,eI]
  refine⟨by omega,fun h=>by omega,fun _=>⟨fun h=>by omega,fun _=>⟨fun _=>⟨by omega,?_⟩,fun h=>absurd rfl h⟩⟩⟩
  refine an (DW a (by simp only[Vl.dw];omega)) ?_
  simp only[↓zq,zs,ah,zt,bu,Vl.dw]
  refine⟨by simp;omega,by simp;omega,by omega,?_⟩
  refine an (DW b (by simp only[Vl.dw];omega)) ?_
  simp only[↓zq,zs,ah,zt,bU,Vl.dw,Vl.cb,fy,dY]
  refine⟨by simp;omega,by simp;omega,by simp⟩
def Dl:Option (List UInt8)->AV
 |some s=>.cP [.v (.string (mk s)),.v (.bool true)]
 |none=>.cP [.v (.string (mk [])),.v (.bool false)]
theorem MH(v:Vl)(hb:v.dW 100)(hn:v.nodes<100000):aB Tryz.prog 21 [v.ei] [] (bU (Dl (if v.nodes<=200 then some v.dw else none))):=by
 refine NK _ ((bu _).mpr trivial) ?_
 unfold K4
 refine an (Gv v (by omega)) ?_
 simp only[↓zq,zs,ah,bU]
 refine⟨fun h=>?_,fun h=>?_⟩
 ·rw[if_neg (by omega)];rfl
 ·have:=fq v hb
  refine an (DW v (by omega)) ?_
  rw[if_pos (by omega)]
  simp only[↓zq,zs,ah,Dl]
end Go.Proofs.Trees
namespace Go.Proofs.Trees
open Go Go.VL Go.RowKit
def back(n:Nat):Ty->Nat->Vl
 | .name _,c=>.el c
 | .plus a b,c=>match Hg n a with|some x=>if c<x then .l (back n a c)else .r (back n b (c-x))|none=>.u
 | .times a b,c=>match Hg n b with|some y=>.p (back n a (c/y)) (back n b (c%y))|none=>.u
 |_,_=>.u
theorem xH:∀l:List E,cI 2 (E.bj l)
 |[]=>fun c hc=>by cases hc
 |
  e::l=>fun c hc=>by
  simp only[E.bj,aI]at hc
  rcases hc with rfl|hc
  ·exact fU e
  ·exact xH l c hc
theorem HJ(w:List UInt8)(l:List E)(hl:l.length<1000000):aB Tryz.prog 35 [.v (.string (mk w)),.sl (E.bj l)] [] (bU (E.kh (.list (.atom w::l)))):=by
 refine LN _ _ ((cE _).mpr trivial) ?_
 simp only[IZ,↓zq,zs,ah,dM,bU,E.kh,E.gU,E.bj]
 exact⟨⟨xH l,by omega⟩,rfl⟩
end Go.Proofs.Trees
namespace Go.Proofs.Trees
open Go Go.VL Go.RowKit
def kR(l:List Hl):List (List AV):=l.map fun h=>[.v (.string (mk h.1.cb.at)),h.1.cb.sp,.v (.string (mk h.2.cb.at)),h.2.cb.sp]
theorem eA(l:List Hl):(kR l).length=l.length:=by simp[kR]
theorem fM{l:List Hl}{i:Nat}(hi:i<l.length):(kR l).getD i []=[.v (.string (mk (l[i]).1.cb.at)),(l[i]).1.cb.sp,.v (.string (mk (l[i]).2.cb.at)),(l[i]).2.cb.sp]:=by simp[kR,aa,hi]
theorem nX(out:List Hl)(a b:Vl):kR out++[[.v (.string (mk a.cb.at)),a.cb.sp,.v (.string (mk b.cb.at)),b.cb.sp]]=kR (out++[(a,b)]):=by simp[kR]
theorem zB(a b c d:AV):cI 4 [[a,b,c,d]]:=fun x hx=>by simp at hx;rw[hx];rfl
theorem aK(s:ByteArray)(e:E):cc [.str,.sl] [.v (.string s),e.sp] 0=True:=by simp[cc,dU,aX]
theorem jV(s:ByteArray)(e:E)(x y:AV):cc [.str,.sl] [.v (.string s),e.sp,x,y] 0=True:=by simp[cc,dU,aX]
theorem wu(w:List UInt8)(e:E):aB Tryz.prog 35 [.v (.string (mk w)),.sl [[.v (.string (mk e.at)),e.sp]]] [] (bU (.agg [.v (.string (mk [])),(E.list [.atom w,e]).sp])):=by
 have:=HJ w [e] (by simp)
 simpa only[E.bj,iq,dy,E.at]using this
theorem zF(w:List UInt8)(e e':E):aB Tryz.prog 35 [.v (.string (mk w)),.sl [[.v (.string (mk e.at)),e.sp],[.v (.string (mk e'.at)),e'.sp]]] [] (bU (.agg [.v (.string (mk [])),(E.list [.atom w,e,e']).sp])):=by
 have:=HJ w [e,e'] (by simp)
 simpa only[E.bj,iq,dy,E.at]using this
def P3(pv:AV)(a b:E):Prop:=LK.sl.has pv/\pv.elems.length=3/\pv.elems.getD 1 []=[.v (.string (mk a.at)),a.sp]/\pv.elems.getD 2 []=[.v (.string (mk b.at)),b.sp]
theorem P3.of(x a b:E):P3 (E.list [x,a,b]).sp a b:=⟨by simp[E.sp,cE],by simp[E.sp,E.bj,fE],by simp[E.sp,E.bj,fE,iq],by simp[E.sp,E.bj,fE,iq]⟩
def P2(pv:AV)(a:E):Prop:=LK.sl.has pv/\pv.elems.length=2/\pv.elems.getD 1 []=[.v (.string (mk a.at)),a.sp]
theorem P2.of(x a:E):P2 (E.list [x,a]).sp a:=⟨by simp[E.sp,cE],by simp[E.sp,E.bj,fE],by simp[E.sp,E.bj,fE,iq]⟩
theorem KC(w:List UInt8)(g:Vl->Vl)(hg:∀c,(g c).cb=.list [.atom w,c.cb])(l:List Hl)(hl:l.length<=1000000):∀(k i:Nat) (out:List Hl),i+k=l.length->out.length+k<=1000000 ->
 F6 [.sl (kR l),.v (.string (mk w)),.v (.int .i64 (i:Int))] [.vec 4 (kR out)] (kl 1 [] [.vec 4 (kR (out++fS g (l.drop i)))])
 |
  0,i,out,hi,ho=>by
  refine Jb _ _ _ _ ?_
  have:i=l.length:=by omega
  subst this
  simp only[Ew,↓zq,zs,ah,eA]
  exact⟨fun h=>by omega,fun _=>by simp[kl,fS]⟩
 |
  k+1,i,out,hi,ho=>by
  have hlt:i<l.length:=by omega
  refine Jb _ _ _ _ ?_
  simp only[Ew,↓zq,zs,ah,zt,eA,fM hlt,jV,aK]
  refine⟨fun _=>?_,fun h=>by omega⟩
  repeat refine⟨by omega,?_⟩
  refine an (wu _ _) ?_
  simp only[↓zq,zs,ah,aK]
  repeat refine⟨by omega,?_⟩
  refine⟨⟨zB _ _ _ _,by omega⟩,?_⟩
  rw[bX i (by omega)]
  have:=KC w g hg l hl k (i+1) (out++[(g (l[i]).1,(l[i]).2)]) (by omega) (by simp;omega)
  rw[bq,<-nX,hg]at this
  rw[me g l hlt]
  exact this
theorem JV(w:List UInt8)(g:Vl->Vl)(hg:∀c,(g c).cb=.list [.atom w,c.cb])(l out:List Hl)(hl:out.length+l.length<=1000000) :
 aB Tryz.prog 60 [.sl (kR l),.v (.string (mk w)),.vec 0] [.vec 4 (kR out)] (fZ (.vec 1) [.dead,.vec 4 (kR (out++fS g l))]):=by
 refine ME _ _ _ ((cE _).mpr trivial) ?_
 simp only[Iw,↓zq,zs,ah]
 have h:=KC w g hg l (by omega) l.length 0 out (by omega) (by omega)
 rw[bz]at h
 refine db h ?_
 simp[↓zq,zs,ah,fZ]
theorem Ki(s:List UInt8)(ta:ByteArray)(tp:AV)(ht:LK.sl.has tp)(va:ByteArray)(vp:AV)(x y:Vl)(hp:P3 vp x.cb y.cb)(l:List Hl)(hl:l.length<=1000000):∀(k i:Nat) (out:List Hl),i+k=l.length->out.length+k<=1000000 ->
 GV [.v (.string (mk s)),.sl (kR l),.v (.int .i64 (i:Int))] [.cells [.v (.string ta),tp],.cells [.v (.string va),vp],.vec 4 (kR out)] (kl 1 [.v (.string (mk s))] [.cells [.v (.string ta),tp],.cells [.v (.string va),vp],.vec 4 (kR (out++fS (fun c=>Vl.l (.p c y)) (l.drop i)))])
 |
  0,i,out,hi,ho=>by
  refine Ht _ _ _ _ _ _ _ _ ?_
  have:i=l.length:=by omega
  subst this
  simp only[Fg,↓zq,zs,ah,eA,ht,aX,ah,hp.1]
  exact⟨fun h=>by omega,fun _=>by simp[kl,fS]⟩
 |
  k+1,i,out,hi,ho=>by
  have hlt:i<l.length:=by omega
  refine Ht _ _ _ _ _ _ _ _ ?_
  simp only[Fg,↓zq,zs,ah,zt,eA,fM hlt,jV,aK,fM,ht,aX,ah,hp.1,toNat_one,bf,hp.1,hp.2.1,hp.2.2.1,hp.2.2.2]
  refine⟨fun _=>?_,fun h=>by omega⟩
  repeat refine⟨by omega,?_⟩
  refine an (zF _ _ _) ?_
  simp only[↓zq,zs,ah,aK]
  repeat refine⟨by omega,?_⟩
  refine an (wu [108] (E.list [.atom [112],(l[i]).1.cb,y.cb])) ?_
  simp only[↓zq,zs,ah,aK]
  repeat refine⟨by omega,?_⟩
  refine⟨⟨zB _ _ _ _,by omega⟩,?_⟩
  rw[bX i (by omega)]
  have:=Ki s ta tp ht va vp x y hp l hl k (i+1) (out++[((fun c=>Vl.l (.p c y)) (l[i]).1,(l[i]).2)]) (by omega) (by simp;omega)
  rw[bq,<-nX]at this
  rw[me (fun c=>Vl.l (.p c y)) l hlt]
  exact this
theorem KI(va:ByteArray)(vp:AV)(x y:Vl)(hp:P3 vp x.cb y.cb)(l:List Hl)(hl:l.length<=1000000):∀(k i:Nat) (out:List Hl),i+k=l.length->out.length+k<=1000000 ->
 Ep [.sl (kR l),.v (.int .i64 (i:Int))] [.cells [.v (.string va),vp],.vec 4 (kR out)] (kl 1 [] [.vec 4 (kR (out++fS (fun c=>Vl.r (.p x c)) (l.drop i)))])
 |
  0,i,out,hi,ho=>by
  refine K9 _ _ _ _ _ ?_
  have:i=l.length:=by omega
  subst this
  simp only[Fk,↓zq,zs,ah,eA,aX,ah,hp.1]
  exact⟨fun h=>by omega,fun _=>by simp[kl,fS]⟩
 |
  k+1,i,out,hi,ho=>by
  have hlt:i<l.length:=by omega
  refine K9 _ _ _ _ _ ?_
  simp only[Fk,↓zq,zs,ah,zt,eA,fM hlt,jV,aK,fM,aX,ah,hp.1,toNat_one,bf,hp.1,hp.2.1,hp.2.2.1,hp.2.2.2]
  refine⟨fun _=>?_,fun h=>by omega⟩
  repeat refine⟨by omega,?_⟩
  refine an (zF _ _ _) ?_
  simp only[↓zq,zs,ah,aK]
  repeat refine⟨by omega,?_⟩
  refine an (wu [114] (E.list [.atom [112],x.cb,(l[i]).1.cb])) ?_
  simp only[↓zq,zs,ah,aK]
  repeat refine⟨by omega,?_⟩
  refine⟨⟨zB _ _ _ _,by omega⟩,?_⟩
  rw[bX i (by omega)]
  have:=KI va vp x y hp l hl k (i+1) (out++[((fun c=>Vl.r (.p x c)) (l[i]).1,(l[i]).2)]) (by omega) (by simp;omega)
  rw[bq,<-nX]at this
  rw[me (fun c=>Vl.r (.p x c)) l hlt]
  exact this
theorem Li(s s2:List UInt8)(ta:ByteArray)(tp:AV)(ht:LK.sl.has tp)(va:ByteArray)(vp:AV)(hp:LK.sl.has vp)(l:List Hl)(hl:l.length<=1000000):∀(k i:Nat) (out:List Hl),i+k=l.length->out.length+k<=1000000 ->
 G6 [.v (.string (mk s)),.v (.string (mk s2)),.sl (kR l),.v (.int .i64 (i:Int))] [.cells [.v (.string ta),tp],.cells [.v (.string va),vp],.vec 4 (kR out)] (kl 1 [.v (.string (mk s)),.v (.string (mk s2))] [.cells [.v (.string ta),tp],.cells [.v (.string va),vp],.vec 4 (kR (out++fS (fun c=>Vl.f (.l c)) (l.drop i)))])
 |
  0,i,out,hi,ho=>by
  refine H0 _ _ _ _ _ _ _ _ _ ?_
  have:i=l.length:=by omega
  subst this
  simp only[Gi,↓zq,zs,ah,eA,ht,aX,ah,hp]
  exact⟨fun h=>by omega,fun _=>by simp[kl,fS]⟩
 |
  k+1,i,out,hi,ho=>by
  have hlt:i<l.length:=by omega
  refine H0 _ _ _ _ _ _ _ _ _ ?_
  simp only[Gi,↓zq,zs,ah,zt,eA,fM hlt,jV,aK,fM,ht,aX,ah,hp]
  refine⟨fun _=>?_,fun h=>by omega⟩
  repeat refine⟨by omega,?_⟩
  refine an (wu _ _) ?_
  simp only[↓zq,zs,ah,aK]
  repeat refine⟨by omega,?_⟩
  refine an (wu [102] (E.list [.atom [108],(l[i]).1.cb])) ?_
  simp only[↓zq,zs,ah,aK]
  repeat refine⟨by omega,?_⟩
  refine⟨⟨zB _ _ _ _,by omega⟩,?_⟩
  rw[bX i (by omega)]
  have:=Li s s2 ta tp ht va vp hp l hl k (i+1) (out++[((fun c=>Vl.f (.l c)) (l[i]).1,(l[i]).2)]) (by omega) (by simp;omega)
  rw[bq,<-nX]at this
  rw[me (fun c=>Vl.f (.l c)) l hlt]
  exact this
theorem Il(s:List UInt8)(L:AV)(q:Nat)(kc:Vl)(kv:Vl)(hL:LK.sl.has L)(hq:q<L.elems.length)(hg:L.elems.getD q []=[.v (.string (mk kc.cb.at)),kc.cb.sp,.v (.string (mk kv.cb.at)),kv.cb.sp])(ta:ByteArray)(tp:AV)(ht:LK.sl.has tp)(l:List Hl)(hl:l.length<=1000000):∀(k i:Nat) (out:List Hl),i+k=l.length->out.length+k<=1000000 ->
 E8 [.v (.string (mk s)),L,.v (.int .i64 (q:Int)),.sl (kR l),.v (.int .i64 (i:Int))] [.cells [.v (.string ta),tp],.vec 4 (kR out)] (kl 1 [.v (.string (mk s)),L,.v (.int .i64 (q:Int))] [.cells [.v (.string ta),tp],.vec 4 (kR (out++fS (fun c=>Vl.f (.r (.p kc c))) (l.drop i)))])
 |
  0,i,out,hi,ho=>by
  refine Jd _ _ _ _ _ _ _ _ ?_
  have:i=l.length:=by omega
  subst this
  simp only[G7,↓zq,zs,ah,eA,ht,aX,ah,hL]
  exact⟨fun h=>by omega,fun _=>by simp[kl,fS]⟩
 |
  k+1,i,out,hi,ho=>by
  have hlt:i<l.length:=by omega
  refine Jd _ _ _ _ _ _ _ _ ?_
  simp only[G7,↓zq,zs,ah,zt,eA,fM hlt,jV,aK,fM,ht,aX,ah,hL,hg]
  refine⟨fun _=>?_,fun h=>by omega⟩
  repeat refine⟨by omega,?_⟩
  refine an (zF _ _ _) ?_
  simp only[↓zq,zs,ah,aK]
  repeat refine⟨by omega,?_⟩
  refine an (wu [114] (E.list [.atom [112],kc.cb,(l[i]).1.cb])) ?_
  simp only[↓zq,zs,ah,aK]
  repeat refine⟨by omega,?_⟩
  refine an (wu [102] (E.list [.atom [114],E.list [.atom [112],kc.cb,(l[i]).1.cb]])) ?_
  simp only[↓zq,zs,ah,aK]
  repeat refine⟨by omega,?_⟩
  refine⟨⟨zB _ _ _ _,by omega⟩,?_⟩
  rw[bX i (by omega)]
  have:=Il s L q kc kv hL hq hg ta tp ht l hl k (i+1) (out++[((fun c=>Vl.f (.r (.p kc c))) (l[i]).1,(l[i]).2)]) (by omega) (by simp;omega)
  rw[bq,<-nX]at this
  rw[me (fun c=>Vl.f (.r (.p kc c))) l hlt]
  exact this
theorem Kh(s:List UInt8)(te:E)(a:Ty)(tg:Tg)(l:List Hl)(hl:l.length<=1000000)(ih:∀h,h∈l->aB Tryz.prog 34 [.agg [.v (.string (mk te.at)),te.sp],.v (.string (mk s)),.agg [.v (.string (mk h.2.cb.at)),h.2.cb.sp]] [] (bU (.sl (kR (bF (.rc a) tg h.2))))) :
 ∀(k i:Nat) (out:List Hl),i+k=l.length->(out++(l.drop i).flatMap (Hn a tg)).length<=1000000 ->
 GN [.v (.string (mk s)),.sl (kR l),.v (.int .i64 (i:Int))] [.cells [.v (.string (mk te.at)),te.sp],.vec 4 (kR out)] (kl 1 [] [.vec 4 (kR (out++(l.drop i).flatMap (Hn a tg)))])
 |
  0,i,out,hi,ho=>by
  refine IA _ _ _ _ _ _ ?_
  have:i=l.length:=by omega
  subst this
  simp only[Fl,↓zq,zs,ah,eA,aX,ah]
  exact⟨fun h=>by omega,fun _=>by simp[kl]⟩
 |
  k+1,i,out,hi,ho=>by
  have hlt:i<l.length:=by omega
  have hd:(l.drop i).flatMap (Hn a tg)=Hn a tg (l[i])++(l.drop (i+1)).flatMap (Hn a tg):=by rw[aP hlt,aZ]
  rw[hd]at ho |-
  refine IA _ _ _ _ _ _ ?_
  simp only[Fl,↓zq,zs,ah,zt,eA,fM hlt,jV,aK,aX,ah]
  refine⟨fun _=>?_,fun h=>by omega⟩
  repeat refine⟨by omega,?_⟩
  refine an (ih _ (EM l hlt)) ?_
  simp only[↓zq,zs,ah]
  have hb:out.length+(bF (.rc a) tg (l[i]).2).length<=1000000:=by
   simp only[ak,lz]at ho;omega
  have h5:=Il s (.sl (kR l)) i (l[i]).1 (l[i]).2 ((cE _).mpr trivial) (by rw[fE,eA];omega) (by rw[fE,fM hlt]) (mk te.at) te.sp ((aX _).mpr trivial) (bF (.rc a) tg (l[i]).2) (by omega) (bF (.rc a) tg (l[i]).2).length 0 out (by omega) (by omega)
  rw[bz]at h5
  refine db h5 ?_
  simp only[↓zq,zs,ah,aX,ah]
  repeat refine⟨by omega,?_⟩
  rw[bX i (by omega),<-bq]
  exact Kh s te a tg l hl ih k (i+1) _ (by omega) (by rw[bq];exact ho)
end Go.Proofs.Trees
namespace Go.Proofs.Trees
open Go Go.VL Go.RowKit
theorem rV(s:Nm)(a b:E):aB Tryz.prog 29 [.agg [.v (.string (mk [])),(E.list [.atom s,a,b]).sp]] [] (bU (.v (.string (mk s)))):=uy (.atom s) [a,b]
theorem Ka{e:E}(h:Wf e):∀(bd l:List Nm) (a:AV),dT a bd->bd.length+l.length+e.sz<100000->aB Tryz.prog 53 [.agg [.v (.string (mk e.at)),e.sp],a,.vec 0] [.vec 1 (bO l)] (fZ (.vec 1) [.dead,.vec 1 (bO (lK e bd l))]):=by
 induction h with
 |
  @atom s hs =>
  intro bd l a ha hl
  simp only[E.sz]at hl
  refine zx _ _ _ _ ((aX _).mpr trivial) ha.1 ?_
  have hll:(bO l).length=l.length:=by simp[bO]
  simp only[Fx,eD,↓zq,zs,ah,zt,fZ,lK]
  refine⟨fun _=>⟨fun h=>?_,fun h=>⟨fun h1=>?_,fun h1=>?_⟩⟩,fun h=>absurd h hs⟩
  ·rw[if_pos (.inl h)]
  ·rw[if_pos (.inr (.inl h1))]
  ·refine an (Hh bd a ha s (by omega)) ?_
   simp only[↓zq,zs,ah]
   refine⟨fun h2=>?_,fun h2=>an (Hh l _ (.of l) s (by omega)) ?_⟩
   ·rw[if_pos (.inr (.inr (.inl h2)))]
   ·simp only[↓zq,zs,ah]
    refine⟨fun h3=>?_,fun h3=>⟨⟨fun c hc=>(by simp at hc;rw[hc];rfl),by omega⟩,?_⟩⟩
    ·rw[if_pos (.inr (.inr (.inr h3)))]
    ·rw[Gk,if_neg]
     rintro(q|q|q|q)
     ·exact h q
     ·exact h1 q
     ·exact h2 q
     ·exact h3 q
 |
  @plus x y hx hy i1 i2 =>
  intro bd l a ha hl
  simp only[E.sz,E.iD]at hl
  have hfl:=gT x bd l
  refine zx _ _ _ _ ((aX _).mpr trivial) ha.1 ?_
  have hP:=P3.of (.atom [43]) x y
  simp only[Fx,ca,toNat_one,bf,↓zq,zs,ah,zt,hP.1,hP.2.1,hP.2.2.1,hP.2.2.2,aK,fZ]
  refine⟨fun h=>absurd rfl h,fun _=>?_⟩
  refine an (rV [43] x y) ?_
  simp only[↓zq,zs,ah,zt]
  refine⟨fun h=>by simp at h,fun _=>?_⟩
  repeat refine⟨by omega,?_⟩
  refine bJ (i1 bd l a ha (by omega)) ?_
  simp only[↓zq,zs,ah,zt,aM,a8,Ob.es]
  repeat refine⟨by omega,?_⟩
  refine bJ (i2 bd (lK x bd l) a ha (by omega)) ?_
  simp only[↓zq,zs,ah,zt,aM,a8,Ob.es]
  rw[lK,if_neg (by decide)]
 |
  @times x y hx hy i1 i2 =>
  intro bd l a ha hl
  simp only[E.sz,E.iD]at hl
  have hfl:=gT x bd l
  refine zx _ _ _ _ ((aX _).mpr trivial) ha.1 ?_
  have hP:=P3.of (.atom [42]) x y
  simp only[Fx,ca,toNat_one,bf,↓zq,zs,ah,zt,hP.1,hP.2.1,hP.2.2.1,hP.2.2.2,aK,fZ]
  refine⟨fun h=>absurd rfl h,fun _=>?_⟩
  refine an (rV [42] x y) ?_
  simp only[↓zq,zs,ah,zt]
  refine⟨fun h=>by simp at h,fun _=>?_⟩
  repeat refine⟨by omega,?_⟩
  refine bJ (i1 bd l a ha (by omega)) ?_
  simp only[↓zq,zs,ah,zt,aM,a8,Ob.es]
  repeat refine⟨by omega,?_⟩
  refine bJ (i2 bd (lK x bd l) a ha (by omega)) ?_
  simp only[↓zq,zs,ah,zt,aM,a8,Ob.es]
  rw[lK,if_neg (by decide)]
 |
  @rc n y hn hy i =>
  intro bd l a ha hl
  simp only[E.sz,E.iD]at hl
  refine zx _ _ _ _ ((aX _).mpr trivial) ha.1 ?_
  have hP:=P3.of (.atom gS) (.atom n) y
  simp only[Fx,ca,toNat_one,bf,↓zq,zs,ah,zt,hP.1,hP.2.1,hP.2.2.1,hP.2.2.2,aK,fZ]
  refine⟨fun h=>absurd rfl h,fun _=>?_⟩
  refine an (rV gS (.atom n) y) ?_
  simp only[↓zq,zs,ah,zt]
  refine⟨fun _=>?_,fun h=>absurd rfl h⟩
  repeat refine⟨by omega,?_⟩
  refine bJ (He bd a ha n (by omega)) ?_
  simp only[↓zq,zs,ah,Ob.es,aM]
  refine⟨iu _,?_⟩
  refine bJ (i (bd++[n]) l _ (.of _) (by simp;omega)) ?_
  simp only[↓zq,zs,ah,aM,a8,Ob.es]
  rw[lK,if_pos (eD _)];rfl
theorem MO(x:Nm)(u:E){e:E}(h:Wf e):aB Tryz.prog 93 [.agg [.v (.string (mk e.at)),e.sp],.v (.string (mk x)),.agg [.v (.string (mk u.at)),u.sp]] [] (bU (.agg [.v (.string (mk (rb x u e).at)),(rb x u e).sp])):=by
 induction h with
 |
  @atom s hs =>
  refine Dd _ _ _ _ _ ((aX _).mpr trivial) ((aX _).mpr trivial) ?_
  simp only[Bn,eD,↓zq,zs,ah,zt,bU,rb]
  refine⟨fun _=>⟨fun h=>?_,fun h=>?_⟩,fun h=>absurd h hs⟩
  ·rw[if_pos h]
  ·rw[if_neg h];rfl
 |
  @plus a b ha hb i1 i2 =>
  refine Dd _ _ _ _ _ ((aX _).mpr trivial) ((aX _).mpr trivial) ?_
  have hP:=P3.of (.atom [43]) a b
  simp only[Bn,ca,toNat_one,bf,↓zq,zs,ah,zt,hP.1,hP.2.1,hP.2.2.1,hP.2.2.2,aK]
  refine⟨fun h=>absurd rfl h,fun _=>?_⟩
  refine an (rV [43] a b) ?_
  simp only[↓zq,zs,ah,zt]
  refine⟨fun h=>by simp at h,fun _=>?_⟩
  refine an (rV [43] a b) ?_
  simp only[↓zq,zs,ah,zt]
  repeat refine⟨by omega,?_⟩
  refine an i1 ?_
  simp only[↓zq,zs,ah,zt,aK]
  repeat refine⟨by omega,?_⟩
  refine an i2 ?_
  simp only[↓zq,zs,ah,zt,aK]
  repeat refine⟨by omega,?_⟩
  refine an (zF _ _ _) ?_
  simp only[↓zq,zs,ah,zt,aK,vK,ca]
  repeat refine⟨by omega,?_⟩
  exact⟨rfl,rfl⟩
 |
  @times a b ha hb i1 i2 =>
  refine Dd _ _ _ _ _ ((aX _).mpr trivial) ((aX _).mpr trivial) ?_
  have hP:=P3.of (.atom [42]) a b
  simp only[Bn,ca,toNat_one,bf,↓zq,zs,ah,zt,hP.1,hP.2.1,hP.2.2.1,hP.2.2.2,aK]
  refine⟨fun h=>absurd rfl h,fun _=>?_⟩
  refine an (rV [42] a b) ?_
  simp only[↓zq,zs,ah,zt]
  refine⟨fun h=>by simp at h,fun _=>?_⟩
  refine an (rV [42] a b) ?_
  simp only[↓zq,zs,ah,zt]
  repeat refine⟨by omega,?_⟩
  refine an i1 ?_
  simp only[↓zq,zs,ah,zt,aK]
  repeat refine⟨by omega,?_⟩
  refine an i2 ?_
  simp only[↓zq,zs,ah,zt,aK]
  repeat refine⟨by omega,?_⟩
  refine an (zF _ _ _) ?_
  simp only[↓zq,zs,ah,zt,aK,sC,ca]
  repeat refine⟨by omega,?_⟩
  exact⟨rfl,rfl⟩
 |
  @rc n b hn hb i =>
  refine Dd _ _ _ _ _ ((aX _).mpr trivial) ((aX _).mpr trivial) ?_
  have hP:=P3.of (.atom gS) (.atom n) b
  simp only[Bn,ca,toNat_one,bf,↓zq,zs,ah,zt,hP.1,hP.2.1,hP.2.2.1,hP.2.2.2,aK]
  refine⟨fun h=>absurd rfl h,fun _=>?_⟩
  refine an (rV gS (.atom n) b) ?_
  simp only[↓zq,zs,ah,zt]
  refine⟨fun _=>?_,fun h=>absurd rfl h⟩
  repeat refine⟨by omega,?_⟩
  rw[Ad]
  refine⟨fun h=>?_,fun h=>?_⟩
  ·have hh:n=x:=h
   rw[if_pos hh];exact⟨rfl,rfl⟩
  ·have hh:¬n=x:=h
   rw[if_neg hh]
   repeat refine⟨by omega,?_⟩
   refine an i ?_
   simp only[↓zq,zs,ah,zt,aK]
   repeat refine⟨by omega,?_⟩
   refine an (zF gS (.atom n) (rb x u b)) ?_
   simp only[↓zq,zs,ah,zt,aK,ca]
   repeat refine⟨by omega,?_⟩
   exact⟨rfl,rfl⟩
theorem qV(x:Nm){e:E}(h:Wf e):mN x e<=e.ej:=by
 induction h with
 |atom hs=>simp only[mN,E.ej];split<;>omega
 |plus ha hb i1 i2=>rw[rM];simp only[E.ej,E.fo];omega
 |times ha hb i1 i2=>rw[pA];simp only[E.ej,E.fo];omega
 |rc hn hb i=>rw[wo];simp only[E.ej,E.fo];split<;>omega
theorem Oi(x:Nm){e:E}(h:Wf e):e.ej<1000000->aB Tryz.prog 92 [.agg [.v (.string (mk e.at)),e.sp],.v (.string (mk x))] [] (bU (.v (.int .i64 (mN x e:Int)))):=by
 induction h with
 |
  @atom s hs =>
  intro hl
  refine Cn _ _ _ ((aX _).mpr trivial) ?_
  simp only[AQ,eD,↓zq,zs,ah,zt,bU,mN]
  refine⟨fun _=>⟨fun h=>?_,fun h=>?_⟩,fun h=>absurd h hs⟩
  ·rw[if_pos h];rfl
  ·rw[if_neg h];rfl
 |
  @plus a b ha hb i1 i2 =>
  intro hl
  simp only[E.ej,E.fo]at hl
  have u1:=qV x ha
  have u2:=qV x hb
  refine Cn _ _ _ ((aX _).mpr trivial) ?_
  have hP:=P3.of (.atom [43]) a b
  simp only[AQ,ca,toNat_one,bf,↓zq,zs,ah,zt,hP.1,hP.2.1,hP.2.2.1,hP.2.2.2,aK]
  refine⟨fun h=>absurd rfl h,fun _=>?_⟩
  refine an (rV [43] a b) ?_
  simp only[↓zq,zs,ah,zt]
  refine⟨fun h=>by simp at h,fun _=>?_⟩
  repeat refine⟨by omega,?_⟩
  refine an (i1 (by omega)) ?_
  simp only[↓zq,zs,ah,zt]
  repeat refine⟨by omega,?_⟩
  refine an (i2 (by omega)) ?_
  simp only[↓zq,zs,ah,zt]
  rw[rM,wrap64 _ (by omega) (by omega)]
  exact⟨by simp,rfl⟩
 |
  @times a b ha hb i1 i2 =>
  intro hl
  simp only[E.ej,E.fo]at hl
  have u1:=qV x ha
  have u2:=qV x hb
  refine Cn _ _ _ ((aX _).mpr trivial) ?_
  have hP:=P3.of (.atom [42]) a b
  simp only[AQ,ca,toNat_one,bf,↓zq,zs,ah,zt,hP.1,hP.2.1,hP.2.2.1,hP.2.2.2,aK]
  refine⟨fun h=>absurd rfl h,fun _=>?_⟩
  refine an (rV [42] a b) ?_
  simp only[↓zq,zs,ah,zt]
  refine⟨fun h=>by simp at h,fun _=>?_⟩
  repeat refine⟨by omega,?_⟩
  refine an (i1 (by omega)) ?_
  simp only[↓zq,zs,ah,zt]
  repeat refine⟨by omega,?_⟩
  refine an (i2 (by omega)) ?_
  simp only[↓zq,zs,ah,zt]
  rw[pA,wrap64 _ (by omega) (by omega)]
  exact⟨by simp,rfl⟩
 |
  @rc n b hn hb i =>
  intro hl
  simp only[E.ej,E.fo]at hl
  refine Cn _ _ _ ((aX _).mpr trivial) ?_
  have hP:=P3.of (.atom gS) (.atom n) b
  simp only[AQ,ca,toNat_one,bf,↓zq,zs,ah,zt,hP.1,hP.2.1,hP.2.2.1,hP.2.2.2,aK]
  refine⟨fun h=>absurd rfl h,fun _=>?_⟩
  refine an (rV gS (.atom n) b) ?_
  simp only[↓zq,zs,ah,zt]
  refine⟨fun _=>?_,fun h=>absurd rfl h⟩
  repeat refine⟨by omega,?_⟩
  rw[wo]
  refine⟨fun h=>?_,fun h=>?_⟩
  ·have hh:n=x:=h
   rw[if_pos hh];exact⟨rfl,rfl⟩
  ·have hh:¬n=x:=h
   rw[if_neg hh]
   repeat refine⟨by omega,?_⟩
   refine an (i (by omega)) ?_
   simp only[↓zq,zs,ah,zt]
   exact⟨rfl,rfl⟩
theorem N5{x:Nm}(hx:vV x){e u:E}(h:Wf e)(hu:Wf u)(hl:e.ej<=1000)(hlu:u.ej<=1000):aB Tryz.prog 80 [.agg [.v (.string (mk e.at)),e.sp],.v (.string (mk x)),.agg [.v (.string (mk u.at)),u.sp]] [] (bU (.v (.bool (decide ((sub x (ek u []) (ek e [])).atoms<=400))))):=by
 refine MJ _ _ _ _ _ ((aX _).mpr trivial) ((aX _).mpr trivial) ?_
 unfold HK
 have a1:=BI e h.ok (by have:=h.sz;omega)
 have a2:=BI u hu.ok (by have:=hu.sz;omega)
 rw[dy]at a1 a2
 have hle:=qV x h
 have hpos:1<=u.ej:=by rw[hu.ej []];exact sM _
 refine an a1 ?_
 simp only[↓zq,zs,ah,zt]
 refine an (Oi x h (by omega)) ?_
 simp only[↓zq,zs,ah,zt]
 refine an a2 ?_
 simp only[↓zq,zs,ah,zt]
 have e1:=fO x (ek u []) (ek e [])
 have e2:=DG hx h []
 rw[if_neg (by simp)]at e2
 rw[e2,<-h.ej [],<-hu.ej []]at e1
 have hm:mN x e*(u.ej-1)<=1000*1000:=Nat.mul_le_mul (by omega) (by omega)
 have e3:(mN x e:Int)*((u.ej:Int)-1)=((mN x e*(u.ej-1):Nat):Int):=by
  rw[Int.natCast_mul];congr 1;omega
 have e4:mN x e*(u.ej-1)+mN x e=mN x e*u.ej:=by
  rw[Nat.mul_sub,Nat.mul_one]
  have:=Nat.le_mul_of_pos_right (mN x e) hpos
  omega
 rw[wrap64 ((u.ej:Int)-1) (by omega) (by omega),e3,wrap64 ((mN x e*(u.ej-1):Nat):Int) (by omega) (by omega),wrap64 _ (by omega) (by omega)]
 refine⟨?_,rfl⟩
 congr 2
 rw[cL,decide_eq_true_eq,decide_eq_true_eq]
 omega
end Go.Proofs.Trees
namespace Go.Proofs.Trees
open Go Go.VL Go.RowKit
abbrev LJ:AV:=.v (.slice none 0 0)
abbrev zE:Ob:=.cells [.v (.string (mk [])),LJ]
theorem I6(s:Nm)(p a b:AV)(hp:LK.sl.has p)(F fr to:List Nm)(k:Int)(ha:dT a fr)(hb:dT b to)(hft:fr.length=to.length)(hl:fr.length<1000000):∀(i:Nat),i<=fr.length ->
 E3 [a,b,.v (.int .i64 ((i:Int)-1))] [.cells [.v (.string (mk s)),p],zE,.cells [.any,.v (.int .i64 k)],.vec 1 (bO F)]
  (se (match bG s fr i with|some u=>(2,[],[.cells [.v (.string (mk (hD to u))),LJ],.cells [.any,.v (.int .i64 k)],.vec 1 (bO F)])|none=>(1,[],[.cells [.v (.string (mk s)),p],zE,.cells [.any,.v (.int .i64 k)],.vec 1 (bO F)])))
 |
  0,hi=>by
  refine Lm _ _ _ _ _ _ _ _ _ ?_
  simp only[GF,↓zq,zs,ah,ah,hp,bp]
  exact⟨ha.1,hb.1,fun h=>by omega,fun _=>rfl⟩
 |
  i+1,hi=>by
  have hlt:i<fr.length:=by omega
  have hlt':i<to.length:=by omega
  have e1:((i+1:Nat):Int)-1=(i:Int):=by omega
  rw[e1]
  refine Lm _ _ _ _ _ _ _ _ _ ?_
  simp only[GF,↓zq,zs,ah,zt,ah,hp,bp,ha.len,hb.len,ha.idx hlt,hb.idx hlt',cj]
  refine⟨ha.1,hb.1,fun _=>⟨⟨ha.1,by omega,by omega⟩,by omega,fun h=>?_,fun h=>?_⟩,fun h=>by omega⟩
  ·refine⟨⟨hb.1,by omega,by omega⟩,by omega,?_⟩
   have hh:fr.getD i []=s:=h
   simp only[bG,hh,if_true,se]
   have:hD to (fr.length-1-i)=to.getD i []:=by unfold hD;congr 1;omega
   rw[this]
  ·have hh:¬fr.getD i []=s:=h
   simp only[bG,hh,if_false]
   rw[wrap64 _ (by omega) (by omega)]
   exact I6 s p a b hp F fr to k ha hb hft hl i (by omega)
theorem Ko(a b:AV)(ha:LK.sl.has a)(hb:LK.sl.has b)(F:List Nm)(hF:F.length<100000)(t:ByteArray)(p:AV)(hp:LK.sl.has p):∀(n j:Nat),vY F n j<j+n->j+n<100000000 ->
 Gw [a,b,.v (.string (mk (tN j)))] [.cells [.any,.v (.int .i64 (j:Int))],.vec 1 (bO F),.cells [.v (.string t),p],zE] (kl 1 [a,b,.v (.string (mk (tN (vY F n j))))] [.cells [.any,.v (.int .i64 (vY F n j:Int))],.vec 1 (bO F),.cells [.v (.string t),p],zE])
 |0,j,h,_=>by simp only[vY]at h;omega
 |
  n+1,j,h,hj=>by
  refine Ok _ _ _ _ _ _ _ _ _ ?_
  simp only[Jp,↓zq,zs,ah,zt,ah,hp,bp]
  refine⟨ha,hb,?_⟩
  refine an (Hh F _ (.of F) (tN j) (by omega)) ?_
  simp only[↓zq,zs,ah,zt]
  rw[vY]at h |-
  refine⟨fun hm=>?_,fun hm=>?_⟩
  ·rw[if_pos hm]at h |-
   rw[bX j (by omega)]
   refine an (CU (j+2) (j+1) (by omega) (by omega)) ?_
   have hd:=pj (j+2) (j+1) (by omega)
   simp only[↓zq,zs,ah,zt,bC,bg]
   refine⟨by simp[dc];omega,?_⟩
   exact Ko a b ha hb F hF t p hp n (j+1) (by omega) (by omega)
  ·rw[if_neg hm]
   exact⟨rfl,rfl,rfl⟩
theorem my(F:List Nm):∀(t:Ty) (to:List Nm) (k:Nat),k<=(lW F t to k).2/\(lW F t to k).2<=k+(F.length+1)*t.atoms
 | .zero,_,k=>⟨aq _,da _ _⟩
 | .one,_,k=>⟨aq _,da _ _⟩
 | .name _,_,k=>⟨aq _,da _ _⟩
 | .bound _,_,k=>⟨aq _,da _ _⟩
 |
  .plus a b,to,k=>by
  have h1:=my F a to k
  have h2:=my F b to (lW F a to k).2
  simp only[lW,Ty.atoms]
  have:(F.length+1)*(1+a.atoms+b.atoms)=(F.length+1)+(F.length+1)*a.atoms+(F.length+1)*b.atoms:=by simp only[du,Nat.mul_one]
  omega
 |
  .times a b,to,k=>by
  have h1:=my F a to k
  have h2:=my F b to (lW F a to k).2
  simp only[lW,Ty.atoms]
  have:(F.length+1)*(1+a.atoms+b.atoms)=(F.length+1)+(F.length+1)*a.atoms+(F.length+1)*b.atoms:=by simp only[du,Nat.mul_one]
  omega
 |
  .rc a,to,k=>by
  obtain⟨g1,g2,_,_⟩:=qn F k
  have h1:=my F a (to++[tN (nx F k)]) (nx F k+1)
  simp only[lW,Ty.atoms]
  have:(F.length+1)*(2+a.atoms)=(F.length+1)*2+(F.length+1)*a.atoms:=by simp only[du]
  omega
theorem vc(l:List Nm):(bO l).length=l.length:=by simp[bO]
theorem MC(F:List Nm)(hF:F.length<10000){e:E}(h:Wf e):∀(fr to:List Nm) (a b:AV) (k:Nat),dT a fr->dT b to->fr.length=to.length->(∀w,w∈fr->vV w)->fr.length+e.sz<10000->k+(F.length+1)*(ek e fr).atoms<99000000 ->
 aB Tryz.prog 66 [.agg [.v (.string (mk e.at)),e.sp],a,b,.ref 0 0] [.cells [.vec 1,.v (.int .i64 (k:Int))],.vec 1 (bO F)] (fZ (.agg [.v (.string (mk (lW F (ek e fr) to k).1.at)),(lW F (ek e fr) to k).1.sp]) [.cells [.vec 1,.v (.int .i64 ((lW F (ek e fr) to k).2:Int))],.vec 1 (bO F)]):=by
 induction h with
 |
  @atom s hs =>
  intro fr to a b k ha hb hft hfr hl hk
  simp only[E.sz]at hl
  refine C3 _ _ _ _ _ _ ((aX _).mpr trivial) ha.1 hb.1 ?_
  have hz:∀c,(c=[48]\/c=[49])->bG c fr fr.length=none:=fun c hc=>(fB c fr).2 fun hm=>by
   obtain⟨h1,h2,h3⟩:=hfr c hm
   rcases hc with rfl|rfl
   ·exact h2 rfl
   ·exact h3 rfl
  have hq:lW F (ek (.atom s) fr) to k=(match bG s fr fr.length with|some u=>.atom (hD to u)|none=>.atom s,k):=by
   simp only[ek]
   by_cases h0:s=[48]
   ·rw[if_pos h0,hz s (.inl h0),h0];rfl
   ·rw[if_neg h0]
    by_cases h1:s=[49]
    ·rw[if_pos h1,hz s (.inr h1),h1];rfl
    ·rw[if_neg h1]
     cases bG s fr fr.length<;>rfl
  simp only[zR,eD,↓zq,zs,ah,zt]
  refine⟨fun _=>⟨ha.1,?_⟩,fun h=>absurd h hs⟩
  rw[ha.len,wrap64 _ (by omega) (by omega)]
  refine i4 (I6 s _ a b ((aX _).mpr trivial) F fr to (k:Int) ha hb hft (by omega) fr.length (aq _)) (fun ys o e=>?_) (fun ys o e=>?_)
  ·rw[hq]
   cases q:bG s fr fr.length<;>rw[q]at e<;>cases e
   simp only[↓zq,zs,ah,zt,ah,aO,bp,aX]
   exact⟨rfl,rfl⟩
  ·rw[hq]
   cases q:bG s fr fr.length<;>rw[q]at e<;>cases e
   simp only[↓zq,zs,ah,zt,ah,aO,bp]
   exact⟨rfl,rfl⟩
 |
  @plus x y hx hy i1 i2 =>
  intro fr to a b k ha hb hft hfr hl hk
  simp only[E.sz,E.iD]at hl
  rw[ff]at hk |-
  simp only[Ty.atoms]at hk
  have hm:(F.length+1)*(1+(ek x fr).atoms+(ek y fr).atoms)=(F.length+1)+(F.length+1)*(ek x fr).atoms+(F.length+1)*(ek y fr).atoms:=by simp only[du,Nat.mul_one]
  have hc:=my F (ek x fr) to k
  refine C3 _ _ _ _ _ _ ((aX _).mpr trivial) ha.1 hb.1 ?_
  have hP:=P3.of (.atom [43]) x y
  simp only[zR,ca,toNat_one,bf,↓zq,zs,ah,zt,hP.1,hP.2.1,hP.2.2.1,hP.2.2.2,aK]
  refine⟨fun h=>absurd rfl h,fun _=>?_⟩
  refine an (rV [43] x y) ?_
  simp only[↓zq,zs,ah,zt]
  refine⟨fun h=>by simp at h,fun _=>?_⟩
  repeat refine⟨by omega,?_⟩
  refine bJ (i1 fr to a b k ha hb hft hfr (by omega) (by omega)) ?_
  simp only[↓zq,zs,ah,zt,aO,aK,aM,a8,Ob.es]
  repeat refine⟨by omega,?_⟩
  refine an (rV [43] x y) ?_
  simp only[↓zq,zs,ah,zt]
  repeat refine⟨by omega,?_⟩
  refine bJ (i2 fr to a b _ ha hb hft hfr (by omega) (by omega)) ?_
  simp only[↓zq,zs,ah,zt,aO,aK,aM,a8,Ob.es]
  repeat refine⟨by omega,?_⟩
  refine an (zF _ _ _) ?_
  simp only[↓zq,zs,ah,zt,aK,ca]
  repeat refine⟨by omega,?_⟩
  exact⟨rfl,rfl⟩
 |
  @times x y hx hy i1 i2 =>
  intro fr to a b k ha hb hft hfr hl hk
  simp only[E.sz,E.iD]at hl
  rw[eu]at hk |-
  simp only[Ty.atoms]at hk
  have hm:(F.length+1)*(1+(ek x fr).atoms+(ek y fr).atoms)=(F.length+1)+(F.length+1)*(ek x fr).atoms+(F.length+1)*(ek y fr).atoms:=by simp only[du,Nat.mul_one]
  have hc:=my F (ek x fr) to k
  refine C3 _ _ _ _ _ _ ((aX _).mpr trivial) ha.1 hb.1 ?_
  have hP:=P3.of (.atom [42]) x y
  simp only[zR,ca,toNat_one,bf,↓zq,zs,ah,zt,hP.1,hP.2.1,hP.2.2.1,hP.2.2.2,aK]
  refine⟨fun h=>absurd rfl h,fun _=>?_⟩
  refine an (rV [42] x y) ?_
  simp only[↓zq,zs,ah,zt]
  refine⟨fun h=>by simp at h,fun _=>?_⟩
  repeat refine⟨by omega,?_⟩
  refine bJ (i1 fr to a b k ha hb hft hfr (by omega) (by omega)) ?_
  simp only[↓zq,zs,ah,zt,aO,aK,aM,a8,Ob.es]
  repeat refine⟨by omega,?_⟩
  refine an (rV [42] x y) ?_
  simp only[↓zq,zs,ah,zt]
  repeat refine⟨by omega,?_⟩
  refine bJ (i2 fr to a b _ ha hb hft hfr (by omega) (by omega)) ?_
  simp only[↓zq,zs,ah,zt,aO,aK,aM,a8,Ob.es]
  repeat refine⟨by omega,?_⟩
  refine an (zF _ _ _) ?_
  simp only[↓zq,zs,ah,zt,aK,ca]
  repeat refine⟨by omega,?_⟩
  exact⟨rfl,rfl⟩
 |
  @rc n y hn hy i =>
  intro fr to a b k ha hb hft hfr hl hk
  simp only[E.sz,E.iD]at hl
  rw[jd]at hk |-
  simp only[Ty.atoms,eD]at hk
  have hm:(F.length+1)*(2+(ek y (fr++[n])).atoms)=(F.length+1)*2+(F.length+1)*(ek y (fr++[n])).atoms:=by simp only[du]
  have hc:=my F (ek y (fr++[n])) (to++[tN (nx F k)]) (nx F k+1)
  obtain⟨g1,g2,_,_⟩:=qn F k
  refine C3 _ _ _ _ _ _ ((aX _).mpr trivial) ha.1 hb.1 ?_
  have hP:=P3.of (.atom gS) (.atom n) y
  simp only[zR,ca,toNat_one,bf,↓zq,zs,ah,zt,hP.1,hP.2.1,hP.2.2.1,hP.2.2.2,aK]
  refine⟨fun h=>absurd rfl h,fun _=>?_⟩
  refine an (rV gS (.atom n) y) ?_
  simp only[↓zq,zs,ah,zt]
  refine⟨fun _=>?_,fun h=>absurd rfl h⟩
  refine an (CU (k+1) k (by omega) (by omega)) ?_
  have hd:=pj (k+1) k (by omega)
  simp only[↓zq,zs,ah,zt,bC,bg]
  refine⟨by simp[dc];omega,?_⟩
  refine db (Ko a b ha.1 hb.1 F (by omega) (mk []) _ ((aX _).mpr trivial) (F.length+1) k (by show nx F k<_;omega) (by omega)) ?_
  simp only[↓zq,zs,ah,zt,ah,aO,bp,aX,ha.1,hb.1,hP.1,hP.2.1,hP.2.2.1,hP.2.2.2,toNat_one,bf,aK]
  repeat refine⟨by omega,?_⟩
  have hnx:vY F (F.length+1) k=nx F k:=rfl
  rw[hnx]
  refine bJ (He fr a ha n (by omega)) ?_
  simp only[↓zq,zs,ah,zt,Ob.es,aM]
  refine⟨iu _,?_⟩
  refine bJ (He to b hb (tN (nx F k)) (by omega)) ?_
  simp only[↓zq,zs,ah,zt,Ob.es,aM]
  refine⟨iu _,?_⟩
  rw[bX (nx F k) (by omega)]
  have hmk:=zF gS (.atom (tN (nx F k))) (lW F (ek y (fr++[n])) (to++[tN (nx F k)]) (nx F k+1)).1
  simp only[eD]at hmk
  refine bJ (i (fr++[n]) (to++[tN (nx F k)]) _ _ (nx F k+1) (.of _) (.of _) (by simp[hft]) (fun w hw=>by
   rcases aH.1 hw with hw|hw
   ·exact hfr w hw
   ·simp only[aQ]at hw;rw[hw];exact hn) (by simp;omega) (by omega)) ?_
  simp only[↓zq,zs,ah,zt,aO,aK,aM,a8,Ob.es]
  repeat refine⟨by omega,?_⟩
  refine an hmk ?_
  simp only[↓zq,zs,ah,zt,aK,ca]
  repeat refine⟨by omega,?_⟩
  exact⟨rfl,rfl⟩
theorem wI(l r:List Nm):bO (l++r)=bO l++bO r:=by simp[bO]
def sd(os:List E):List Nm:=os.flatMap fun o=>lK o [] []
theorem u7{os:List E}{i:Nat}(h:i<os.length):(E.bj os).getD i []=[.v (.string (mk (os[i]).at)),(os[i]).sp]:=by
 have:∀(os:List E) (i:Nat) (h:i<os.length),(E.bj os).getD i []=(os[i]).gU:=by
  intro os
  induction os with
  |nil=>intro i h;simp at h
  |
   cons o os ih =>
   intro i h
   cases i with
   |zero=>simp[E.bj]
   |succ i=>simpa[E.bj]using ih i (by simpa using h)
 rw[this os i h,iq]
theorem yC(os:List E){i:Nat}(h:i<os.length):sd (os.drop i)=lK (os[i]) [] []++sd (os.drop (i+1)):=by
 unfold sd;rw[aP h,aZ]
theorem HG(a:AV)(os:List E)(ha:LK.sl.has a/\a.elems=E.bj os)(ho:∀o,o∈os->Wf o/\o.sz<5000)(hl:os.length<100)(t:ByteArray)(p:AV)(hp:LK.sl.has p):∀(k i:Nat) (F:List Nm),i+k=os.length->F.length<=5000+5000*i ->
 GA [a,.v (.int .i64 (i:Int))] [.cells [.v (.string t),p],zE,.vec 1 (bO F)] (kl 1 [] [.cells [.v (.string t),p],zE,.vec 1 (bO (F++sd (os.drop i)))])
 |
  0,i,F,hi,hF=>by
  refine K0 _ _ _ _ _ _ _ ?_
  have:i=os.length:=by omega
  subst this
  simp only[FR,↓zq,zs,ah,zt,ah,hp,bp,ha.1,ha.2,dM,List.drop_length]
  exact⟨fun h=>by omega,fun _=>by simp[kl,sd]⟩
 |
  k+1,i,F,hi,hF=>by
  have hlt:i<os.length:=by omega
  obtain⟨hw,hsz⟩:=ho _ (bY hlt)
  have hfl:=gT (os[i]) [] []
  refine K0 _ _ _ _ _ _ _ ?_
  simp only[FR,↓zq,zs,ah,zt,ah,hp,bp,ha.1,ha.2,dM,u7 hlt,aK,cj]
  refine⟨fun _=>?_,fun h=>by omega⟩
  repeat refine⟨by omega,?_⟩
  have hfre:=Ka hw [] [] (.sl []) (.of []) (by simp;omega)
  refine bJ hfre ?_
  simp only[↓zq,zs,ah,zt,aM,a8,Ob.es,vc,<-wI]
  rw[bX i (by omega),yC os hlt,<-bq]
  simp only[aE,aR]at hfl
  refine⟨⟨mo _,by omega⟩,?_⟩
  exact HG a os ha ho hl t p hp k (i+1) _ (by omega) (by simp;omega)
def Fc(e:E)(os:List E):List Nm:=lK e [] []++sd os
def D2(e:E)(os:List E):E:=(lW (Fc e os) (ek e []) [] 0).1
theorem Cs{e:E}{os:List E}(h:e.sz<=2000)(ho:∀o,o∈os->Wf o/\o.sz<=2000)(hl:os.length<=2):(Fc e os).length<=6000:=by
 have h1:=gT e [] []
 have h2:∀(l:List E),(∀o,o∈l->o.sz<=2000)->(sd l).length<=2000*l.length:=by
  intro l
  induction l with
  |nil=>intro _;simp[sd]
  |
   cons o l ih =>
   intro hl
   have:=ih fun q hq=>hl q (ai _ hq)
   have:=hl o ag
   have:=gT o [] []
   simp only[sd,aZ,ak,aw,aE]at *
   omega
 have:=h2 os fun o ho'=>(ho o ho').2
 simp only[Fc,ak,aE]at *
 omega
theorem J8{e:E}(h:Wf e)(a:AV)(os:List E)(ha:LK.sl.has a/\a.elems=E.bj os)(he:e.sz<=2000)(ho:∀o,o∈os->Wf o/\o.sz<=2000)(hl:os.length<=2) :
 aB Tryz.prog 47 [.agg [.v (.string (mk e.at)),e.sp],a] [] (bU (.agg [.v (.string (mk (D2 e os).at)),(D2 e os).sp])):=by
 refine N3 _ _ _ ((aX _).mpr trivial) ha.1 ?_
 unfold KX
 have hfl:=gT e [] []
 simp only[aE,aR]at hfl
 have hap:=Cs he ho hl
 have hats:(ek e []).atoms<=2000:=by
  rw[<-h.ej []]
  have:e.ej<=e.sz:=by
   clear hap hfl ha he ho hl
   induction h with
   |atom _=>simp[E.ej,E.sz]
   |plus _ _ i1 i2=>simp only[E.ej,E.fo,E.sz,E.iD];omega
   |times _ _ i1 i2=>simp only[E.ej,E.fo,E.sz,E.iD];omega
   |rc _ _ i=>simp only[E.ej,E.fo,E.sz,E.iD];omega
  omega
 have hfre:=Ka h [] [] (.sl []) (.of []) (by simp;omega)
 simp only[↓zq,zs,ah,zt]
 refine bJ hfre ?_
 simp only[↓zq,zs,ah,zt,aM,a8,Ob.es]
 have hlp:=HG a os ha (fun o hq=>⟨(ho o hq).1,by have:=(ho o hq).2;omega⟩) (by omega) (mk e.at) e.sp ((aX _).mpr trivial) os.length 0 (lK e [] []) (by omega) (by omega)
 rw[bz]at hlp
 refine db hlp ?_
 simp only[↓zq,zs,ah,zt,ah,aO,bp,aX,aM,a8,Ob.es]
 have hmul:((Fc e os).length+1)*(ek e []).atoms<=6001*2000:=Nat.mul_le_mul (by omega) hats
 have hren:=MC (Fc e os) (by omega) h [] [] (.sl []) (.sl []) 0 (.of []) (.of []) rfl (fun w hw=>by cases hw) (by simp;omega) (by omega)
 refine bJ hren ?_
 simp only[↓zq,zs,ah,zt,aO,aK]
 repeat refine⟨by omega,?_⟩
 exact⟨rfl,rfl⟩
end Go.Proofs.Trees
namespace Go.Proofs.Trees
open Go Go.VL Go.RowKit
def jL(t:Ty):Prop:=fh t 0/\∀y,bA y t=true->vV y
theorem gf:∀(t:Ty) {i j:Nat},fh t i->i<=j->fh t j
 | .bound u,i,j,h,hj=>cX h hj
 | .plus a b,i,j,h,hj=>⟨gf a h.1 hj,gf b h.2 hj⟩
 | .times a b,i,j,h,hj=>⟨gf a h.1 hj,gf b h.2 hj⟩
 | .rc a,i,j,h,hj=>gf (i:=i+1) (j:=j+1) a h (by omega)
 | .zero,_,_,_,_=>trivial
 | .one,_,_,_,_=>trivial
 | .name _,_,_,_,_=>trivial
theorem iK(x:Nm):∀(t:Ty) {i:Nat},fh t (i+1)->fh (eB (.name x) t i) i
 |
  .bound u,i,h=>by
  simp only[eB]
  split
  ·trivial
  ·have:u<i+1:=h
   show u<i;omega
 | .plus a b,i,h=>⟨iK x a h.1,iK x b h.2⟩
 | .times a b,i,h=>⟨iK x a h.1,iK x b h.2⟩
 | .rc a,i,h=>iK x (i:=i+1) a h
 | .zero,_,_=>trivial
 | .one,_,_=>trivial
 | .name _,_,_=>trivial
theorem kj{x:Nm}{u:Ty}(hu:fh u 0):∀(t:Ty) {i:Nat},fh t i->fh (sub x u t) i
 | .name s,i,_=>by simp only[sub];split;exact gf u hu (cG _);trivial
 | .plus a b,i,h=>⟨kj hu a h.1,kj hu b h.2⟩
 | .times a b,i,h=>⟨kj hu a h.1,kj hu b h.2⟩
 | .rc a,i,h=>kj hu (i:=i+1) a h
 | .zero,_,_=>trivial
 | .one,_,_=>trivial
 | .bound _,_,h=>h
theorem Dv.lc{t d:Ty}{s:Nm}(h:Dv t s d):fh t 0->fh d 0:=by
 induction h with
 |zero s=>exact fun _=>trivial
 |one s=>exact fun _=>trivial
 |bound k s=>exact fun _=>trivial
 |hit s=>exact fun _=>trivial
 |sf h=>exact fun _=>trivial
 |plus h1 h2 hl i1 i2=>exact fun h=>⟨i1 h.1,i2 h.2⟩
 |times h1 h2 hl i1 i2=>exact fun h=>⟨⟨i1 h.1,h.2⟩,h.1,i2 h.2⟩
 |
  rc x hx hs h1 h2 hl i1 i2 =>
  intro h
  have g1:=kj (x:=x) h _ (i1 (iK x _ h))
  have g2:=kj (x:=x) h _ (i2 (iK x _ h))
  exact⟨gf _ g1 (by omega),gf _ g2 (by omega),Nat.zero_lt_one⟩
theorem Wf.CD{e:E}(h:Wf e):jL (ek e []):=⟨wK h [],fun y hy=>(sN h [] y hy).1⟩
theorem jL.dv{t d:Ty}{s:Nm}(g:jL t)(h:Dv t s d):jL d:=⟨h.lc g.1,fun y hy=>g.2 y (h.names y hy)⟩
theorem jL.tree{t:Ty}(g:jL t):∃e,Wf e/\ek e []=t:=by
 obtain⟨h1,h2,_⟩:=mI (bK t []) t [] 0 (.nil _ _) g.1 fun y hy=>⟨(fD t [] y).2 (.inr hy),g.2 y hy⟩
 exact⟨_,h1,h2⟩
theorem jL.sub{x:Nm}{u t:Ty}(hu:jL u)(ht:jL t):jL (sub x u t):=⟨kj hu.1 t ht.1,fun y hy=>by
 rcases iN t hy with h|h
 ·exact hu.2 y h
 ·exact ht.2 y h.2⟩
def Hi(o:Option Ty):AV->List Ob->Prop:=fun r ob=>ob=[]/\∃(c:Nm) (d:AV),LK.sl.has d/\r=.cP [.agg [.v (.string (mk c)),d],.v (.bool o.isSome)]/\∀t,o=some t->∃e,Wf e/\ek e []=t/\c=e.at/\d=e.sp
theorem Hi.ne{o:Option Ty}(h:∀t,o=some t->jL t):∃r ob,Hi o r ob:=by
 cases o with
 |none=>exact⟨_,_,rfl,[],LJ,(bp).mpr trivial,rfl,fun t h=>by cases h⟩
 |
  some t =>
  obtain⟨e,h1,h2⟩:=(h t rfl).tree
  exact⟨_,_,rfl,e.at,e.sp,(aX _).mpr trivial,rfl,fun t' h'=>by cases h';exact⟨e,h1,h2,rfl,rfl⟩⟩
theorem Hi.of{e:E}(h:Wf e):Hi (some (ek e [])) (.cP [.agg [.v (.string (mk e.at)),e.sp],.v (.bool true)]) [] :=
 ⟨rfl,e.at,e.sp,(aX _).mpr trivial,rfl,fun t h'=>by cases h';exact⟨e,h,rfl,rfl,rfl⟩⟩
theorem Hi.no(c:Nm)(d:AV)(hd:LK.sl.has d):Hi none (.cP [.agg [.v (.string (mk c)),d],.v (.bool false)]) [] :=
 ⟨rfl,c,d,hd,rfl,fun t h'=>by cases h'⟩
theorem Bz{e:E}{os:List E}(h:Wf e):Wf (D2 e os)/\ek (D2 e os) []=ek e []/\tI (·∉Fc e os) (D2 e os):=by
 obtain⟨h1,h2,_,_,h5⟩:=mI (Fc e os) (ek e []) [] 0 (.nil _ _) (wK h []) fun y hy=>⟨aA _ ((yb h [] [] y).2 (.inr hy)),(sN h [] y hy).1⟩
 exact⟨h1,h2,h5⟩
theorem vF{os:List E}{o:E}(ho:o∈os)(hw:Wf o){y:Nm}(hy:bA y (ek o [])=true):y∈sd os :=
 cu.2 ⟨o,ho,(yb hw [] [] y).2 (.inr hy)⟩
theorem Am{s:Nm}(hs:vV s):ek (.atom s) []=.name s:=iO hs (by simp)
theorem LO{x:Nm}(hx:vV x){e u:E}(h:Wf e)(hu:Wf u)(hl:e.ej<=400)(hlu:u.ej<=400):∃g,Wf g/\ek g []=sub x (ek u []) (ek e [])/\aB Tryz.prog 81 [.agg [.v (.string (mk e.at)),e.sp],.v (.string (mk x)),.agg [.v (.string (mk u.at)),u.sp]] [] (bU (.agg [.v (.string (mk g.at)),g.sp])):=by
 obtain⟨w1,w2,w3⟩:=Bz (os:=[u,.atom x]) h
 have hap:tI (fun n=>n≠x/\bA n (ek u [])=false) (D2 e [u,.atom x]):=A4 (fun n hn=>⟨fun e1=>hn (by
  subst e1
  exact az _ (vF (o:=.atom n) (by simp) (.atom hx.1) (by rw[Am hx];simp[bA]))),by
  cases q:bA n (ek u [])with
  |false=>rfl
  |true=>exact absurd (az _ (vF (o:=u) (by simp) hu q)) hn⟩) w1 w3
 obtain⟨p1,p2⟩:=DN hx hu w1 hap [] (by simp) (fun y hy=>by cases hy)
 refine⟨_,p1,by rw[p2,w2],?_⟩
 refine NH _ _ _ _ _ ((aX _).mpr trivial) ((aX _).mpr trivial) ?_
 unfold J3
 have s1:=h.sz
 have s2:=hu.sz
 have hA:=J8 h (.sl [[.v (.string (mk u.at)),u.sp],[.v (.string (mk x)),LJ]]) [u,.atom x] ⟨(cE _).mpr trivial,by simp only[fE,E.bj,iq];rfl⟩ (by omega) (fun o ho=>by
  simp only[aI,List.not_mem_nil,or_false]at ho
  rcases ho with rfl|rfl
  ·exact⟨hu,by omega⟩
  ·exact⟨.atom hx.1,by simp[E.sz]⟩) (by simp)
 refine an hA ?_
 simp only[↓zq,zs,ah,zt,aK]
 repeat refine⟨by omega,?_⟩
 refine an (MO x u w1) ?_
 simp only[↓zq,zs,ah,zt,aK]
 repeat refine⟨by omega,?_⟩
 exact⟨rfl,rfl⟩
end Go.Proofs.Trees
namespace Go.Proofs.Trees
open Go Go.VL Go.RowKit
theorem Wf.AN{e:E}(h:Wf e){t:Ty}(ht:ek e []=t)(hl:t.atoms<=400):e.ej<=400:=by rw[h.ej [],ht];exact hl
end Go.Proofs.Trees
namespace Go.Proofs.Trees
open Go Go.VL Go.RowKit
inductive Sh:E->Prop
 |atom {s:Nm} (h:s.length<=20):Sh (.atom s)
 |l3 {h:Nm} {a b:E} (hh:h.length<=20) (ha:Sh a) (hb:Sh b):Sh (.list [.atom h,a,b])
theorem Sh.dw{e:E}(hw:Wf e)(h:Sh e):(fy e).length<=50*e.ej:=by
 induction hw with
 |atom _=>cases h with|atom h=>simp only[fy,E.ej];omega
 |
  plus _ _ i1 i2 =>
  cases h with|l3 hh ha hb =>
  have:=i1 ha
  have:=i2 hb
  simp only[fy,dY,aw,ak,aE,E.ej,E.fo];omega
 |
  times _ _ i1 i2 =>
  cases h with|l3 hh ha hb =>
  have:=i1 ha
  have:=i2 hb
  simp only[fy,dY,aw,ak,aE,E.ej,E.fo];omega
 |
  rc _ _ i =>
  cases h with|l3 hh ha hb =>
  cases ha with|atom ha =>
  have:=i hb
  simp only[fy,dY,aw,ak,aE,E.ej,E.fo];omega
def Om(t:Ty):Prop:=∀y,bA y t=true->y.length<=20
def Ox(t:Ty):Nm:=fy (lW (bK t []) t [] 0).1
def told(t:Ty):Option Nm:=if t.atoms<=400/\(vz (Ox t)).isSome=true then some (Ox t)else none
abbrev sn:Nm:=[35,49]
noncomputable def iP (s:Nm):Option Nm:=match vz s with
 |some (.rc a)=>(B4 a sn).bind told
 |_=>none
theorem rC{s:Nm}{t:Ty}(h:vz s=some t):∃e,xj s=some e/\Wf e/\ek e []=t/\e.ej<=400/\e.ok:=by
 rw[wM]at h
 cases he:xj s with
 |none=>rw[he]at h;cases h
 |
  some e =>
  rw[he]at h
  obtain⟨h1,h2,h3⟩:=rn he
  obtain⟨hok,_⟩:=ny h1
  obtain⟨w1,w2⟩:=j8 e [] t hok (fun w hw=>by cases hw) h
  exact⟨e,rfl,w1,w2,h3,hok⟩
theorem Ac{e:E}{x:Nm}{a d:Ty}(hw:Wf e)(ht:ek e []=.rc a)(hx:vV x)(hd:B4 a x=some d):jL d/\(Om (.rc a)->Om d):=by
 simp only[B4,cn,qj,ou]at hd
 obtain⟨d',h1,_,rfl⟩:=hd
 have g:jL (.rc a):=ht ▸ hw.CD
 have go:jL (eB (.name x) a 0):=⟨iK x a g.1,fun y hy=>by
  rcases iU a 0 hy with rfl|h
  ·exact hx
  ·exact g.2 y h⟩
 refine⟨g.sub (go.dv h1),fun hs y hy=>?_⟩
 rcases iN _ hy with h|⟨h,h'⟩
 ·exact hs y h
 ·rcases iU a 0 (h1.names y h')with e|e
  ·exact absurd e h
  ·exact hs y e
def JC(y:Nm):Prop:=gJ y=true\/cU y=true
theorem iG:∀(e:E) (ar:List Nm) (t:Ty),cF e ar=some t->∀y,bA y t=true->JC y
 |
  .atom s,ar,t,ht,y,hy=>by
  simp only[cF]at ht
  split at ht
  ·cases ht;cases hy
  ·split at ht
   ·cases ht;cases hy
   ·split at ht
    ·rename_i hp
     cases ht
     simp only[bA,decide_eq_true_eq]at hy
     subst hy;exact .inl hp
    ·split at ht
     ·rename_i hq
      split at ht
      ·cases ht;cases hy
      ·cases ht
       simp only[bA,decide_eq_true_eq]at hy
       subst hy;exact .inr hq
     ·cases ht
 |
  .list [x,a,b],ar,t,ht,y,hy=>by
  by_cases h0:x.at=[43]
  ·obtain⟨t1,t2,h1,h2,rfl⟩:=fm h0 ht
   simp only[bA,bn]at hy
   rcases hy with hy|hy
   ·exact iG a ar t1 h1 y hy
   ·exact iG b ar t2 h2 y hy
  ·by_cases h1:x.at=[42]
   ·obtain⟨t1,t2,h2,h3,rfl⟩:=eT h1 ht
    simp only[bA,bn]at hy
    rcases hy with hy|hy
    ·exact iG a ar t1 h2 y hy
    ·exact iG b ar t2 h3 y hy
   ·by_cases h2:x.at=[114,101,99]
    ·obtain⟨t1,hla,h3,rfl⟩:=di h2 ht
     exact iG b _ t1 h3 y hy
    ·rw[iQ _ h0 h1 h2]at ht;cases ht
 | .list [],ar,t,ht,_,_=>by cases ht
 | .list [_],ar,t,ht,_,_=>by cases ht
 | .list [_,_],ar,t,ht,_,_=>by cases ht
 | .list (_::_::_::_::_),ar,t,ht,_,_=>by cases ht
theorem EA{y:Nm}(h:JC y):y.length<=3/\∀r,y≠35::r:=by
 have key:∀lo hi,116<=lo->named lo hi y=true->y.length<=3/\∀r,y≠35::r:=fun lo hi hlo h=>by
  cases y with
  |nil=>cases h
  |
   cons c r =>
   simp only[named,au,decide_eq_true_eq]at h
   refine⟨by simp;omega,fun r' e=>?_⟩
   have:c=35:=by injection e
   subst this
   have:=h.1.2.1
   have e35:(35:UInt8).toNat=35:=rfl
   omega
 rcases h with h|h
 ·exact key 120 122 (by omega) h
 ·exact key 116 116 (by omega) h
theorem sr{s:Nm}{t:Ty}(h:vz s=some t):∀y,bA y t=true->JC y:=by
 rw[wM]at h
 cases he:xj s with
 |none=>rw[he]at h;cases h
 |some e=>rw[he]at h;exact iG e [] t h
theorem Ao{s:Nm}{a:Ty}(h:vz s=some (.rc a)):bA sn a=false:=by
 cases q:bA sn a with
 |false=>rfl
 |true=>exact absurd rfl ((EA (sr h sn q)).2 [49])
end Go.Proofs.Trees
namespace Go.Proofs.Trees
open Go Go.VL Go.RowKit
def vT(n:Nat):Vl->Ty->Bool
 | .u,.one=>true
 | .el k,.name _=>decide (k<n)
 | .l w,.plus a _=>vT n w a
 | .r w,.plus _ b=>vT n w b
 | .p x y,.times a b=>vT n x a&&vT n y b
 | .f w,.rc a=>vT n w (eB (.rc a) a 0)
 |_,_=>false
def cls(us:List Ty):Ty->Nat->Ty
 | .bound k,i=>if k<i then .bound k else us.getD (k-i) .zero
 | .plus a b,i=>.plus (cls us a i) (cls us b i)
 | .times a b,i=>.times (cls us a i) (cls us b i)
 | .rc a,i=>.rc (cls us a (i+1))
 |t,_=>t
def xf:List Fr->List Ty
 |[]=>[]
 |f::r=>cls (xf r) (xx f.ex r) 0::xf r
theorem lJ(u:Ty):∀(t:Ty) {i:Nat},fh t i->eB u t i=t
 | .bound k,i,h=>by simp only[eB];rw[if_neg (by have:k<i:=h;omega)]
 | .plus a b,i,h=>by simp only[eB];rw[lJ u a h.1,lJ u b h.2]
 | .times a b,i,h=>by simp only[eB];rw[lJ u a h.1,lJ u b h.2]
 | .rc a,i,h=>by simp only[eB];rw[lJ u a (i:=i+1) h]
 | .zero,_,_=>rfl
 | .one,_,_=>rfl
 | .name _,_,_=>rfl
theorem nG(us:List Ty):∀(t:Ty) {i:Nat},fh t i->cls us t i=t
 | .bound k,i,h=>by simp only[cls];rw[if_pos (by have:k<i:=h;omega)]
 | .plus a b,i,h=>by simp only[cls];rw[nG us a h.1,nG us b h.2]
 | .times a b,i,h=>by simp only[cls];rw[nG us a h.1,nG us b h.2]
 | .rc a,i,h=>by simp only[cls];rw[nG us a (i:=i+1) h]
 | .zero,_,_=>rfl
 | .one,_,_=>rfl
 | .name _,_,_=>rfl
theorem xO{us:List Ty}(hu:∀u,u∈us->fh u 0)(k:Nat):fh (us.getD k .zero) 0:=by
 by_cases h:k<us.length
 ·rw[aa,aV h];exact hu _ (bY h)
 ·rw[aa,List.getElem?_eq_none (by omega)];trivial
theorem nq{us:List Ty}(hu:∀u,u∈us->fh u 0):∀(t:Ty) (i:Nat),fh (cls us t i) i
 |
  .bound k,i=>by
  simp only[cls]
  split
  ·rename_i h;exact h
  ·exact gf _ (xO hu _) (cG _)
 | .plus a b,i=>⟨nq hu a i,nq hu b i⟩
 | .times a b,i=>⟨nq hu a i,nq hu b i⟩
 | .rc a,i=>nq hu a (i+1)
 | .zero,_=>trivial
 | .one,_=>trivial
 | .name _,_=>trivial
theorem lj{us:List Ty}(hu:∀u,u∈us->fh u 0)(U:Ty):∀(t:Ty) (i:Nat),eB U (cls us t (i+1)) i=cls (U::us) t i
 |
  .bound k,i=>by
  simp only[cls]
  by_cases h1:k<i
  ·rw[if_pos (by omega),if_pos h1];simp only[eB];rw[if_neg (by omega)]
  ·rw[if_neg h1]
   by_cases h2:k=i
   ·subst h2;rw[if_pos (by omega)];simp[eB]
   ·rw[if_neg (by omega),lJ U _ (gf _ (xO hu _) (cG _)),show k-i=(k-(i+1))+1 by omega,List.getD_cons_succ]
 | .plus a b,i=>by simp only[cls,eB];rw[lj hu U a i,lj hu U b i]
 | .times a b,i=>by simp only[cls,eB];rw[lj hu U a i,lj hu U b i]
 | .rc a,i=>by simp only[cls,eB];rw[lj hu U a (i+1)]
 | .zero,_=>rfl
 | .one,_=>rfl
 | .name _,_=>rfl
theorem wC:∀env:List Fr,∀u,u∈xf env->fh u 0
 |[],u,h=>by cases h
 |
  f::r,u,h=>by
  rcases aI.1 h with rfl|h
  ·exact nq (wC r) _ 0
  ·exact wC r u h
theorem DO{env:List Fr}(h:WF env):∀{u:Nat} {g:Fr},env[u]?=some g->(xf env).getD u .zero=cls (xf g.out) (xx g.ex g.out) 0:=by
 induction h with
 |nil=>intro u g hg;simp at hg
 |
  cons hs hok hx ht hf hr ih =>
  intro u g hg
  cases u with
  |zero=>simp at hg;subst hg;rfl
  |
   succ u =>
   have:=ih (u:=u) (g:=g) (by simpa using hg)
   simpa[xf]using this
theorem pH(n:Nat):∀(m:Nat) (v:Vl),v.nodes<=m->∀(e:E) (env:List Fr) (t:Ty),Ask e env t->eU n v (e,env)=vT n v (cls (xf env) t 0)
 |0,v,hm=>by have:=ba v;omega
 |
  m+1,v,hm=>by
  intro e env t A
  have recCase:∀(x a b:E) (env:List Fr) (t1:Ty),Ask (.list [x,a,b]) env (.rc t1)->x.at=[114,101,99]->eU n v (.list [x,a,b],env)=vT n v (cls (xf env) (.rc t1) 0):=by
   intro x a b env t1 A hx
   have hhd:hd (.list [x,a,b]) env=(.list [x,a,b],env):=pe A.wf
   obtain⟨t1',he1,h1,f1,hw1⟩:=jH A.wf A.ok hx A.ty A.cl
   cases he1
   obtain⟨ok1,ok2,ok3,_⟩:=A.ok
   have A':Ask b (.mk a.at (.list [x,a,b]) env::env) t1:=⟨ok3,hw1,h1,f1⟩
   cases v with
   |
    f w =>
    simp only[Vl.nodes]at hm
    simp only[eU,hhd,hx,beq_self_eq_true,bZ]
    rw[pH n m w (by omega) b _ t1 A']
    have hty:xx (.list [x,a,b]) env=.rc t1:=by unfold xx;rw[A.ty];rfl
    show vT n w (cls (cls (xf env) (xx (.list [x,a,b]) env) 0::xf env) t1 0)=vT n w (eB (.rc (cls (xf env) t1 1)) (cls (xf env) t1 1) 0)
    rw[hty,lj (wC env)]
    rfl
   |_=>simp[eU,hhd,hx,cls,vT]
  rcases i7 A.wf A.ty with⟨hb,hq⟩|⟨u,g,rfl,hq,hu⟩
  ·have hhd:hd e env=(e,env):=lA hq
   rcases fK A.ty hb A.cl with⟨rfl,rfl⟩|⟨rfl,rfl⟩|⟨s,rfl,rfl,hp,h0,h1⟩|⟨x,a,b,t1,t2,rfl,hx,rfl,ha,hbb⟩|⟨x,a,b,t1,t2,rfl,hx,rfl,ha,hbb⟩|⟨x,a,b,t1,rfl,hx,rfl⟩
   ·have hp0:gJ [48]=false:=rfl
    cases v<;>simp[eU,hhd,cls,vT,hp0]
   ·cases v<;>simp[eU,hhd,cls,vT]
   ·cases v<;>simp[eU,hhd,cls,vT,hp,h1]
   ·obtain⟨ok1,ok2,ok3,_⟩:=A.ok
    obtain⟨f1,f2⟩:=fQ A.cl
    cases v with
    |
     l w =>
     simp only[Vl.nodes]at hm
     simp only[eU,hhd,hx,beq_self_eq_true,bZ,cls,vT]
     exact pH n m w (by omega) a env t1 ⟨ok2,A.wf,ha,f1⟩
    |
     r w =>
     simp only[Vl.nodes]at hm
     simp only[eU,hhd,hx,beq_self_eq_true,bZ,cls,vT]
     exact pH n m w (by omega) b env t2 ⟨ok3,A.wf,hbb,f2⟩
    |_=>simp[eU,hhd,hx,cls,vT]
   ·obtain⟨ok1,ok2,ok3,_⟩:=A.ok
    obtain⟨f1,f2⟩:=fj A.cl
    cases v with
    |
     p w w' =>
     simp only[Vl.nodes]at hm
     simp only[eU,hhd,hx,beq_self_eq_true,bZ,cls,vT]
     rw[pH n m w (by omega) a env t1 ⟨ok2,A.wf,ha,f1⟩,pH n m w' (by omega) b env t2 ⟨ok3,A.wf,hbb,f2⟩]
    |_=>simp[eU,hhd,hx,cls,vT]
   ·exact recCase x a b env t1 A hx
  ·obtain⟨x,a,b,t',hfe,hok,hx,ht',hf',hwf,hlt⟩:=oN A.wf hq
   have hrec:hd g.ex g.out=(g.ex,g.out):=by rw[hfe];exact pe hwf
   rw[tS n v (qf hq) hrec]
   have hcl:cls (xf env) (.bound u) 0=cls (xf g.out) (xx g.ex g.out) 0:=by
    simp only[cls];rw[if_neg (by omega),Nat.sub_zero];exact DO A.wf hu
   rw[hcl]
   have hty:xx g.ex g.out=t':=by unfold xx;rw[ht'];rfl
   rw[hty,hfe]
   rw[hfe]at ht'
   obtain⟨t1,_,_,rfl⟩:=di hx ht'
   exact recCase x a b g.out t1 ⟨hok,hwf,ht',hf'⟩ hx
theorem jn{n:Nat}{v:Vl}{e:E}{t:Ty}(A:Ask e [] t):eU n v (e,[])=vT n v t:=by
 have:=pH n v.nodes v (aq _) e [] t A
 rw[this]
 obtain⟨w,ht⟩:=j8 e [] t A.ok (fun w hw=>by cases hw) A.ty
 have hl:=wK w []
 rw[ht]at hl
 exact congrArg (vT n v) (nG _ t hl)
def eN(σ:Nm->Option Ty):Ty->Ty
 | .name s=>(σ s).getD (.name s)
 | .plus a b=>.plus (eN σ a) (eN σ b)
 | .times a b=>.times (eN σ a) (eN σ b)
 | .rc a=>.rc (eN σ a)
 |t=>t
def i5(σ:Nm->Option Ty)(x:Nm)(u:Ty):Nm->Option Ty:=fun s=>if s=x then some u else σ s
theorem iT(σ:Nm->Option Ty)(x:Nm)(u:Ty):∀t:Ty,eN σ (sub x u t)=eN (i5 σ x (eN σ u)) t
 |
  .name s=>by
  by_cases h:s=x
  ·simp[sub,eN,i5,h]
  ·simp[sub,eN,i5,h]
 | .plus a b=>by simp only[sub,eN,iT σ x u a,iT σ x u b]
 | .times a b=>by simp only[sub,eN,iT σ x u a,iT σ x u b]
 | .rc a=>by simp only[sub,eN,iT σ x u a]
 | .zero=>rfl
 | .one=>rfl
 | .bound k=>rfl
def Dx(σ:Nm->Option Ty):Prop:=∀s u,σ s=some u->fh u 0
theorem kg{σ:Nm->Option Ty}(hσ:Dx σ):∀(t:Ty) {i:Nat},fh t i->fh (eN σ t) i
 |
  .name s,i,_=>by
  simp only[eN]
  cases q:σ s with
  |none=>trivial
  |some u=>exact gf u (hσ s u q) (cG _)
 | .plus a b,i,h=>⟨kg hσ a h.1,kg hσ b h.2⟩
 | .times a b,i,h=>⟨kg hσ a h.1,kg hσ b h.2⟩
 | .rc a,i,h=>kg hσ a (i:=i+1) h
 | .zero,_,_=>trivial
 | .one,_,_=>trivial
 | .bound k,_,h=>h
theorem ji{σ:Nm->Option Ty}(hσ:Dx σ)(x:Nm)(U:Ty):∀(t:Ty) (i:Nat),bA x t=false->eN (i5 σ x U) (eB (.name x) t i)=eB U (eN σ t) i
 |
  .name s,i,h=>by
  have hs:s≠x:=by simpa[bA]using h
  simp only[eB,eN,i5,if_neg hs]
  cases q:σ s with
  |none=>rfl
  |some u=>exact(lJ U u (gf u (hσ s u q) (cG _))).symm
 |
  .bound k,i,h=>by
  simp only[eB,eN]
  split
  ·simp[eN,i5]
  ·rfl
 |
  .plus a b,i,h=>by
  simp only[bA,Bool.or_eq_false_iff]at h
  simp only[eB,eN,ji hσ x U a i h.1,ji hσ x U b i h.2]
 |
  .times a b,i,h=>by
  simp only[bA,Bool.or_eq_false_iff]at h
  simp only[eB,eN,ji hσ x U a i h.1,ji hσ x U b i h.2]
 | .rc a,i,h=>by simp only[eB,eN,ji hσ x U a (i+1) h]
 | .zero,_,_=>rfl
 | .one,_,_=>rfl
theorem oR{σ:Nm->Option Ty}(hσ:Dx σ)(x:Nm){u:Ty}(hu:fh u 0):Dx (i5 σ x u):=fun s v h=>by
 unfold i5 at h
 split at h
 ·cases h;exact hu
 ·exact hσ s v h
theorem iM(x:Nm):∀(n:Nat) (c:Vl) (t:Ty) (i:Nat),c.nodes<=n->dq (eB (.name x) t i) c=dq t c
 |0,c,_,_,h=>by have:=ba c;omega
 |
  n+1,c,t,i,hn=>by
  cases t with
  |bound k=>simp only[eB];split<;>(cases c<;>rfl)
  |
   plus a b =>
   cases c with
   |l c=>simp only[Vl.nodes]at hn;exact iM x n c a i (by omega)
   |r c=>simp only[Vl.nodes]at hn;exact iM x n c b i (by omega)
   |_=>rfl
  |
   times a b =>
   cases c with
   |
    l c =>
    cases c with
    |p y z=>simp only[Vl.nodes]at hn;exact iM x n y a i (by omega)
    |_=>rfl
   |
    r c =>
    cases c with
    |p y z=>simp only[Vl.nodes]at hn;exact iM x n z b i (by omega)
    |_=>rfl
   |_=>rfl
  |
   rc a =>
   cases c with
   |
    f c =>
    cases c with
    |l y=>simp only[Vl.nodes]at hn;exact iM x n y a (i+1) (by omega)
    |
     r c =>
     cases c with
     |
      p y z =>
      simp only[Vl.nodes]at hn
      have h1:=iM x n y a (i+1) (by omega)
      have h2:=iM x n z (.rc a) i (by omega)
      show (dq (eB (.name x) a (i+1)) y&&dq (.rc (eB (.name x) a (i+1))) z)=(dq a y&&dq (.rc a) z)
      rw[h1]
      exact congrArg _ h2
     |_=>rfl
    |_=>rfl
   |_=>rfl
  |_=>rfl
end Go.Proofs.Trees
namespace Go.Proofs.Trees
open Go Go.VL Go.RowKit
theorem Sk.symm{t:Ty}{v v':Vl}(h:Sk t v v'):Sk t v' v:=by
 induction h with
 |id t v=>exact .id t v
 |bd u v v'=>exact .bd u v' v
 |l _ ih=>exact .l ih
 |r _ ih=>exact .r ih
 |p _ _ ih1 ih2=>exact .p ih1 ih2
 |f _ hl _ ih1 ih2=>exact .f ih1 hl.symm fun i e e' h1 h2=>ih2 i e' e h2 h1
theorem xZ{us:List Ty}(hu:∀u,u∈us->fh u 0)(n:Nat)(b:Ty)(w:Vl):vT n (.f w) (cls us (.rc b) 0)=vT n w (cls (cls us (.rc b) 0::us) b 0):=by
 show vT n w (eB (.rc (cls us b 1)) (cls us b 1) 0)=_
 rw[lj hu];rfl
theorem nP{us:List Ty}(hu:∀u,u∈us->fh u 0)(b:Ty):∀u,u∈cls us (.rc b) 0::us->fh u 0:=fun u h=>by
 rcases aI.1 h with rfl|h
 ·exact nq hu _ 0
 ·exact hu u h
theorem y0{t:Ty}{v:Vl}(hb:∀u,t≠.bound u)(hst:stuck t v=true)(u:Nat):cS t u v=[]:=by rw[cS,cQ (tY hb u) hst];rfl
theorem kT(n:Nat):∀(m:Nat) (v:Vl),v.nodes<=m->∀(t:Ty) (us:List Ty),(∀u,u∈us->fh u 0)->vT n v (cls us t 0)=true->∀(u:Nat) (e:Vl),e∈cS t u v->vT n e (us.getD u .zero)=true
 |0,v,hm=>by have:=ba v;omega
 |
  m+1,v,hm=>by
  intro t us hu hv u e he
  by_cases hb:∃k,t=.bound k
  ·obtain⟨k,rfl⟩:=hb
   by_cases h:k=u
   ·subst h
    rw[ka]at he
    simp only[aQ]at he
    subst he
    simpa[cls]using hv
   ·rw[pG h]at he;cases he
  ·have hb':∀k,t≠.bound k:=fun k h=>hb ⟨k,h⟩
   cases hst:stuck t v with
   |true=>rw[y0 hb' hst]at he;cases he
   |
    false =>
    unfold stuck at hst
    split at hst
    ·rename_i a b w
     simp only[Vl.nodes]at hm
     rw[mr]at he
     exact kT n m w (by omega) a us hu hv u e he
    ·rename_i a b w
     simp only[Vl.nodes]at hm
     rw[mD]at he
     exact kT n m w (by omega) b us hu hv u e he
    ·rename_i a b x y
     simp only[Vl.nodes]at hm
     simp only[cls,vT,au]at hv
     rw[kM]at he
     rcases aH.1 he with he|he
     ·exact kT n m x (by omega) a us hu hv.1 u e he
     ·exact kT n m y (by omega) b us hu hv.2 u e he
    ·rename_i b w
     simp only[Vl.nodes]at hm
     rw[xZ hu]at hv
     rw[kN]at he
     rcases aH.1 he with he|he
     ·have:=kT n m w (by omega) b _ (nP hu b) hv (u+1) e he
      simpa using this
     ·obtain⟨x,hx,he⟩:=cu.1 he
      have h0:=kT n m w (by omega) b _ (nP hu b) hv 0 x hx
      simp only[bh]at h0
      have:=px hx
      exact kT n m x (by omega) (.rc b) us hu h0 u e he
    ·cases hst
theorem Sk.ty(n:Nat){t:Ty}{v v':Vl}(h:Sk t v v'):∀(us:List Ty),(∀u,u∈us->fh u 0)->vT n v (cls us t 0)=true->(∀(u:Nat) (e:Vl),e∈cS t u v'->vT n e (us.getD u .zero)=true)->vT n v' (cls us t 0)=true:=by
 induction h with
 |id t v=>exact fun _ _ h _=>h
 |
  bd u v v' =>
  intro us hu _ h
  have:=h u v' (by rw[ka];exact ag)
  simpa[cls]using this
 |l _ ih=>intro us hu hv h;exact ih us hu hv fun u e he=>h u e (by rw[mr];exact he)
 |r _ ih=>intro us hu hv h;exact ih us hu hv fun u e he=>h u e (by rw[mD];exact he)
 |
  p _ _ ih1 ih2 =>
  intro us hu hv h
  simp only[cls,vT,au]at hv |-
  exact⟨ih1 us hu hv.1 fun u e he=>h u e (by rw[kM];exact aA _ he),ih2 us hu hv.2 fun u e he=>h u e (by rw[kM];exact az _ he)⟩
 |
  @f b w w' h1 hl h2 ih1 ih2 =>
  intro us hu hv h
  rw[xZ hu]at hv |-
  refine ih1 _ (nP hu b) hv fun u e he=>?_
  cases u with
  |
   zero =>
   obtain⟨i,hi⟩:=List.getElem?_of_mem he
   obtain⟨e0,h0⟩:=wR hl.symm hi
   have ht:=kT n w.nodes w (aq _) b _ (nP hu b) hv 0 e0 (List.mem_of_getElem? h0)
   simp only[bh]at ht |-
   exact ih2 i e0 e h0 hi us hu ht fun u x hx=>h u x (by rw[kN];exact az _ (cu.2 ⟨e,he,hx⟩))
  |
   succ u =>
   simp only[List.getD_cons_succ]
   exact h u e (by rw[kN];exact aA _ he)
theorem mP{n:Nat}{t:Ty}{u:Nat}{v e:Vl}(hv:v.dW n)(h:e∈cS t u v):e.dW n:=by
 obtain⟨q,hq,rfl⟩:=bD.1 h
 exact(fP n _ _ _ _ _ hv hq).2
theorem Sk.dW(n:Nat){t:Ty}{v v':Vl}(h:Sk t v v'):v.dW n->(∀(u:Nat) (e:Vl),e∈cS t u v'->e.dW n)->v'.dW n:=by
 induction h with
 |id t v=>exact fun h _=>h
 |bd u v v'=>intro _ h;exact h u v' (by rw[ka];exact ag)
 |l _ ih=>intro hv h;exact ih hv fun u e he=>h u e (by rw[mr];exact he)
 |r _ ih=>intro hv h;exact ih hv fun u e he=>h u e (by rw[mD];exact he)
 |p _ _ ih1 ih2=>intro hv h;exact⟨ih1 hv.1 fun u e he=>h u e (by rw[kM];exact aA _ he),ih2 hv.2 fun u e he=>h u e (by rw[kM];exact az _ he)⟩
 |
  @f b w w' h1 hl h2 ih1 ih2 =>
  intro hv h
  refine ih1 hv fun u e he=>?_
  cases u with
  |
   zero =>
   obtain⟨i,hi⟩:=List.getElem?_of_mem he
   obtain⟨e0,h0⟩:=wR hl.symm hi
   exact ih2 i e0 e h0 hi (mP (show w.dW n from hv) (List.mem_of_getElem? h0)) fun u x hx=>h u x (by rw[kN];exact az _ (cu.2 ⟨e,he,hx⟩))
  |succ u=>exact h u e (by rw[kN];exact aA _ he)
theorem i6:∀(n:Nat) (v:Vl),v.nodes<=n->∀(t:Ty) (u:Nat) (c e:Vl),(c,e)∈bF t (.bd u) v->∀x:Vl,(ct t c x).nodes+e.nodes=v.nodes+x.nodes
 |0,v,hn=>by have:=ba v;omega
 |
  n+1,v,hn=>by
  intro t u c e hh x
  cases hat:dO t (.bd u)with
  |
   true =>
   rw[iW v hat]at hh
   simp only[aQ,Prod.mk.injEq]at hh
   obtain⟨rfl,rfl⟩:=hh
   rw[tv hat];omega
  |
   false =>
   have hst:stuck t v=false:=by
    cases q:stuck t v with
    |false=>rfl
    |true=>rw[cQ hat q]at hh;simp at hh
   unfold stuck at hst
   split at hst
   ·rename_i a b w
    simp only[Vl.nodes]at hn |-
    rw[gk]at hh
    obtain⟨⟨c0,e0⟩,h0,he⟩:=bW hh
    cases he
    have:=i6 n w (by omega) a u c0 e0 h0 x
    simp only[ct,Vl.nodes];omega
   ·rename_i a b w
    simp only[Vl.nodes]at hn |-
    rw[gj]at hh
    obtain⟨⟨c0,e0⟩,h0,he⟩:=bW hh
    cases he
    have:=i6 n w (by omega) b u c0 e0 h0 x
    simp only[ct,Vl.nodes];omega
   ·rename_i a b y z
    simp only[Vl.nodes]at hn |-
    rw[eY]at hh
    rcases aH.1 hh with hh|hh
    ·obtain⟨⟨c0,e0⟩,h0,he⟩:=bW hh
     cases he
     have:=i6 n y (by omega) a u c0 e0 h0 x
     simp only[ct,Vl.nodes];omega
    ·obtain⟨⟨c0,e0⟩,h0,he⟩:=bW hh
     cases he
     have:=i6 n z (by omega) b u c0 e0 h0 x
     simp only[ct,Vl.nodes];omega
   ·rename_i a w
    simp only[Vl.nodes]at hn |-
    rw[eZ]at hh
    rcases aH.1 hh with hh|hh
    ·obtain⟨⟨c0,e0⟩,h0,he⟩:=bW hh
     cases he
     have:=i6 n w (by omega) a (u+1) c0 e0 h0 x
     simp only[ct,Vl.nodes];omega
    ·obtain⟨⟨hc,he⟩,h1,h2⟩:=cu.1 hh
     obtain⟨⟨c0,e0⟩,h0,heq⟩:=bW h2
     cases heq
     have hsz:=(gd h1).1
     simp only at hsz h0
     have q1:=i6 n he (by omega) (.rc a) u c0 e0 h0 x
     have q2:=i6 n w (by omega) a 0 hc he h1 (ct (.rc a) c0 x)
     simp only[ct,Vl.nodes];omega
   ·cases hst
theorem mg{R:Vl->Vl×Nat}{C:Nat}(hC:1<=C):∀(n:Nat) (G:List Ty) (t:Ty) (v:Vl),2*v.nodes+rP t<=n->(∀e,e.nodes<=v.nodes->(R e).1.nodes<=C*e.nodes)->(mm R G t v).1.nodes<=C*v.nodes
 |0,G,t,v,hn,h=>by have:=ba v;omega
 |
  n+1,G,t,v,hn,h=>by
  have hself:v.nodes<=C*v.nodes:=by have:=aS v.nodes hC;omega
  by_cases hb:∃u,t=.bound u
  ·obtain⟨u,rfl⟩:=hb
   by_cases hu:u=G.length
   ·subst hu;rw[po];exact h v (aq _)
   ·cases hq:G[u]? with
    |some b=>rw[sS R hq];simp only[rP]at hn;exact mg hC n _ (.rc b) v (by simp only[rP];omega) h
    |
     none =>
     have:mm R G (.bound u) v=(v,0):=by simp[mm,uX,zH,hu,hq]
     rw[this];exact hself
  ·have hb':∀u,t≠.bound u:=fun u h=>hb ⟨u,h⟩
   cases hst:stuck t v with
   |true=>rw[sB R hb' hst];exact hself
   |
    false =>
    unfold stuck at hst
    split at hst
    ·rename_i a b w
     simp only[Vl.nodes]at hn h |-
     have:=cA a
     have:=mg hC n G a w (by omega) fun e he=>h e (by omega)
     rw[Ar];simp only[Vl.nodes];rw[du];omega
    ·rename_i a b w
     simp only[Vl.nodes]at hn h |-
     have:=cA b
     have:=mg hC n G b w (by omega) fun e he=>h e (by omega)
     rw[AB];simp only[Vl.nodes];rw[du];omega
    ·rename_i a b x y
     simp only[Vl.nodes]at hn h |-
     have:=cA a
     have:=cA b
     have:=ba x
     have:=ba y
     have:=mg hC n G a x (by omega) fun e he=>h e (by omega)
     have:=mg hC n G b y (by omega) fun e he=>h e (by omega)
     rw[Bc];simp only[Vl.nodes];rw[du,du];omega
    ·rename_i b w
     simp only[Vl.nodes]at hn h |-
     have:=cA b
     have:=mg hC n (b::G) b w (by omega) fun e he=>h e (by omega)
     rw[As];simp only[Vl.nodes];rw[du];omega
    ·cases hst
end Go.Proofs.Trees
namespace Go.Proofs.Trees
open Go Go.VL Go.RowKit
theorem eS(x:Nm):∀(n:Nat) (c:Vl) (t:Ty) (i:Nat) (v:Vl),c.nodes<=n->ct (eB (.name x) t i) c v=ct t c v
 |0,c,_,_,_,h=>by have:=ba c;omega
 |
  n+1,c,t,i,v,hn=>by
  cases t with
  |bound k=>simp only[eB];split<;>(cases c<;>rfl)
  |
   plus a b =>
   cases c with
   |l c=>simp only[Vl.nodes]at hn;exact congrArg Vl.l (eS x n c a i v (by omega))
   |r c=>simp only[Vl.nodes]at hn;exact congrArg Vl.r (eS x n c b i v (by omega))
   |_=>rfl
  |
   times a b =>
   cases c with
   |
    l c =>
    cases c with
    |p y z=>simp only[Vl.nodes]at hn;exact congrArg (fun q=>Vl.p q z) (eS x n y a i v (by omega))
    |_=>rfl
   |
    r c =>
    cases c with
    |p y z=>simp only[Vl.nodes]at hn;exact congrArg (Vl.p y) (eS x n z b i v (by omega))
    |_=>rfl
   |_=>rfl
  |
   rc a =>
   cases c with
   |
    f c =>
    cases c with
    |l y=>simp only[Vl.nodes]at hn;exact congrArg Vl.f (eS x n y a (i+1) v (by omega))
    |
     r c =>
     cases c with
     |
      p y z =>
      simp only[Vl.nodes]at hn
      have h2:=eS x n z (.rc a) i v (by omega)
      have h1:=eS x n y a (i+1) (ct (.rc a) z v) (by omega)
      show Vl.f (ct (eB (.name x) a (i+1)) y (ct (.rc (eB (.name x) a (i+1))) z v))=Vl.f (ct a y (ct (.rc a) z v))
      have h3:ct (.rc (eB (.name x) a (i+1))) z v=ct (.rc a) z v:=h2
      rw[h3,h1]
     |_=>rfl
    |_=>rfl
   |_=>rfl
  |_=>rfl
theorem DD{n:Nat}{c:Vl}{a:Ty}(h:vT n c (.rc a)=true):∃w,c=.f w/\vT n w (eB (.rc a) a 0)=true:=by
 cases c with
 |f w=>exact⟨w,rfl,h⟩
 |_=>simp[vT]at h
theorem lb{n:Nat}{c:Vl}{a b:Ty}(h:vT n c (.plus a b)=true):(∃w,c=.l w/\vT n w a=true)\/∃w,c=.r w/\vT n w b=true:=by
 cases c with
 |l w=>exact .inl ⟨w,rfl,h⟩
 |r w=>exact .inr ⟨w,rfl,h⟩
 |_=>simp[vT]at h
theorem jy{n:Nat}{c:Vl}{a b:Ty}(h:vT n c (.times a b)=true):∃x y,c=.p x y/\vT n x a=true/\vT n y b=true:=by
 cases c with
 |p x y=>simp only[vT,au]at h;exact⟨x,y,rfl,h.1,h.2⟩
 |_=>simp[vT]at h
theorem rk{σ:Nm->Option Ty}(hσ:Dx σ){a c d:Ty}{x:Nm}(ha:fh (.rc a) 0)(hc:fh c 0)(hd:fh d 0):∃X,eN σ (zJ a x c d)=.rc X/\eB (.rc X) X 0=.plus (eN (i5 σ x (eN σ (.rc a))) c) (.times (eN (i5 σ x (eN σ (.rc a))) d) (eN σ (zJ a x c d))):=by
 refine⟨.plus (eN σ (sub x (.rc a) c)) (.times (eN σ (sub x (.rc a) d)) (.bound 0)),rfl,?_⟩
 have h1:=kg hσ (sub x (.rc a) c) (kj ha c hc)
 have h2:=kg hσ (sub x (.rc a) d) (kj ha d hd)
 simp only[eB,lJ _ _ h1,lJ _ _ h2,if_true]
 rw[iT,iT]
 simp only[zJ,eN,iT]
end Go.Proofs.Trees
