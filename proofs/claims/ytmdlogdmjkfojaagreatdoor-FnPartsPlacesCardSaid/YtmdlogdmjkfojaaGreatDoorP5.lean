/-
  Part of a proof: Go functions read by values, trees of functions, their contracts.
-/
import Derived.Test.YtmdlogdmjkfojaaGreatDoorP4
import Derived.Lib.Atoi
set_option linter.unusedVariables false
set_option linter.unusedSimpArgs false
open Bool renaming and_eq_true→aq,eq_iff_iff→cj,or_eq_true→bf,true_and→bA
open Int renaming cast_ofNat_Int→cO,ofNat_eq_natCast→cA,tmod→dc,toNat→bE,toNat_natCast→bS
open List renaming all_cons→cH,any_eq_true→bJ,append_assoc→aQ,cons_append→cx,drop_eq_getElem_cons→aL,drop_eq_nil_of_le→bx,drop_zero→aV,flatMap_cons→cy,getD_cons_zero→bb,getD_eq_getElem?_getD→aa,getElem?_eq_getElem→bo,getElem_mem→bD,headD_cons→ba,length_append→al,length_cons→aw,length_drop→bV,length_nil→aG,map_cons→bi,mem_append→aI,mem_append_left→aA,mem_append_right→az,mem_cons→aE,mem_cons_of_mem→ai,mem_cons_self→af,mem_map→bP,mem_singleton→aY,nil_append→bh,sum_cons→dD,tail_cons→bw,takeWhile_append_dropWhile→bN
open Nat renaming beq→aH,le_add_right→cR,le_refl→ap,lt_of_lt_of_le→cN,mod_lt→dK,zero_add→aP,zero_le→db
open Option renaming bind_eq_some_iff→cf,isSome_iff_exists→bF,map_some→ct
open UInt8 renaming ofNat→aZ,toNat_inj→du
namespace Go.Proofs.Trees
open Go Go.VL
theorem BP(k:Nat)(u:List UInt8)(e:E)(r:List UInt8)(h:rd k u=some (e,r)):∃j,r=u.drop j/\0<j/\j<=u.length:=by
 have suf:∀(k:Nat) (u:List UInt8) (e:E) (r:List UInt8),rd k u=some (e,r)->r <:+ u:=by
  intro k
  have tw:∀u:List UInt8,u.dropWhile en <:+ u:=fun u=>List.dropWhile_suffix _
  have ll:∀(f:List UInt8->Option (E×List UInt8)),(∀u e r,f u=some (e,r)->r <:+ u)->∀(n:Nat) (u:List UInt8) (acc:List E) (e:E) (r:List UInt8),qW f n u acc=some (e,r)->r <:+ u:=by
   intro f hf n
   induction n with
   |zero=>intro u acc e r h;cases h
   |
    succ n ih =>
    intro u acc e r h
    simp only[qW]at h
    split at h
    ·rename_i p c r' hs
     have h1:r' <:+ u:=(List.suffix_cons c r').trans (hf _ _ _ hs)
     split at h
     ·cases h;exact h1
     ·split at h
      ·exact(ih _ _ _ _ h).trans h1
      ·cases h
    ·cases h
  induction k with
  |
   zero =>
   intro u e r h
   simp only[rd]at h
   split at h
   ·cases h
   ·cases h;exact tw u
  |
   succ k ih =>
   intro u e r h
   simp only[rd]at h
   split at h
   ·split at h
    ·split at h
     ·exact(ll _ ih _ _ _ _ _ h).trans (List.suffix_cons _ _)
     ·cases h
    ·cases h
   ·cases h;exact tw u
 obtain⟨p,hp⟩:=suf k u e r h
 have hlt:=wN k u e r h
 have:=congrArg List.length hp
 simp only[al]at this
 exact⟨p.length,by rw[<-hp];simp,by omega,by omega⟩
theorem yA(n:Nat)(u:List UInt8)(acc:List E):qW (fun _=>none) n u acc=none:=by
 cases n<;>rfl
theorem Lr(s:List UInt8)(j:Nat):au Tryz.prog 104 [.v (.string (mk s)),.v (.int .i64 (j:Int)),.v (.int .i64 ((300+1:Nat):Int))] [] (AK s none):=by
 refine ID _ _ _ ?_
 simp only[C9,↓zq,zs,ae]
 exact⟨fun _=>⟨rfl,[],_,(bg).mpr trivial,rfl⟩,fun h=>by omega⟩
theorem pf(s:List UInt8)(hs:s.length<=8000)(d i:Nat)(hd:d<=300)(hi:i<=s.length)(f:List UInt8->Option (E×List UInt8))(hf:∀u e r,f u=some (e,r)->∃j,r=u.drop j/\0<j/\j<=u.length)
 (ih:∀j,j<=s.length->au Tryz.prog 104 [.v (.string (mk s)),.v (.int .i64 (j:Int)),.v (.int .i64 ((d+1:Nat):Int))] [] (AK s (f (s.drop j)))) (x:Option (E×List UInt8))
 (h0:i=s.length->x=none)
 (h1:i<s.length->(s.drop i).takeWhile en≠[]->x=some (.atom ((s.drop i).takeWhile en),(s.drop i).dropWhile en))
 (h2:i<s.length->(s.drop i).takeWhile en=[]->¬(s.getD i 0).toNat=40->x=none)
 (h3:i<s.length->(s.getD i 0).toNat=40->x=qW f (s.length-(i+1)+1) (s.drop (i+1)) []) :
 au Tryz.prog 104 [.v (.string (mk s)),.v (.int .i64 (i:Int)),.v (.int .i64 (d:Int))] [] (AK s x):=by
 refine ID _ _ _ ?_
 simp only[C9,↓zq,zs,ae,zt]
 refine⟨fun h=>by omega,fun _=>⟨fun h=>?_,fun h=>⟨by omega,?_⟩⟩⟩
 ·rw[h0 (by omega)]
  exact⟨rfl,[],_,(bg).mpr trivial,rfl⟩
 ·have hlt:i<s.length:=by omega
  rw[k9 s i hlt]
  refine⟨fun h40=>?_,fun h40=>?_⟩
  ·have h40':¬(s.getD i 0).toNat=40:=by omega
   refine bZ (GO s hs _ [] [] _ _ ((bg).mpr trivial) ((bg).mpr trivial) (s.length-i) i (by omega)) ?_
   have hex:(List.take (i+((s.drop i).takeWhile en).length) s).drop i=(s.drop i).takeWhile en:=by
    rw[List.drop_take,Nat.add_sub_cancel_left];exact sw _
   have hle:i+((s.drop i).takeWhile en).length<=s.length:=by
    have:=sW (s.drop i);simp only[bV]at this;omega
   simp only[jc,↓zq,zs,ae,zt,hex]
   refine⟨by omega,fun hnil=>?_,fun hnil=>?_⟩
   ·rw[h2 hlt hnil h40',hnil]
    exact⟨rfl,[],_,(bg).mpr trivial,rfl⟩
   ·rw[h1 hlt hnil]
    refine⟨rfl,?_⟩
    have:=sW (s.drop i)
    simp only[bV]at this
    show _=AV.da [E.jX (.atom _),_]
    have e:s.length-((s.drop i).dropWhile en).length=i+((s.drop i).takeWhile en).length:=by omega
    rw[e];rfl
  ·have h40':(s.getD i 0).toNat=40:=by omega
   rw[h3 hlt h40']
   refine nW (KY s hs d hd f hf ih (s.length-(i+1)+1) i [] [] _ ((bg).mpr trivial) (by omega) hlt (by simp;omega)) ?_ ?_
   ·rintro ys o ⟨h,_⟩;cases h
   ·rintro ys o ⟨_,hr⟩
    cases hq:qW f (s.length-(i+1)+1) (s.drop (i+1)) []with
    |
     none =>
     rw[hq]at hr
     obtain⟨es,rfl,rfl⟩:=hr
     simp only[jc,↓zq,zs,ae]
     exact⟨rfl,[],_,(bU _).mpr trivial,rfl⟩
    |
     some q =>
     obtain⟨e,u⟩:=q
     rw[hq]at hr
     obtain⟨l,rfl,rfl,rfl⟩:=hr
     simp only[jc,↓zq,zs,ae]
     exact⟨rfl,rfl⟩
theorem N0(s:List UInt8)(hs:s.length<=8000):∀(k:Nat),k<=300->∀i,i<=s.length->au Tryz.prog 104 [.v (.string (mk s)),.v (.int .i64 (i:Int)),.v (.int .i64 ((300-k:Nat):Int))] [] (AK s (rd k (s.drop i))):=by
 intro k
 have hnil:∀k,rd k []=none:=fun k=>by cases k<;>simp[rd]
 have ha40:∀b:UInt8,b.toNat=40->en b=false:=fun b hb=>by simp[en,hb]
 induction k with
 |
  zero =>
  intro hk i hi
  refine pf s hs 300 i (by omega) hi (fun _=>none) (fun _ _ _ h=>by cases h) (fun j _=>Lr s j) _ (fun h=>?_) (fun hlt h=>?_) (fun hlt h h40=>?_) (fun hlt h40=>?_)
  ·rw[bx (by omega)];exact hnil 0
  ·simp only[rd,if_neg h]
  ·simp only[rd,if_pos h]
  ·rw[yA]
   have:(s.drop i).takeWhile en=[]:=pC hlt (ha40 _ h40)
   simp only[rd,if_pos this]
 |
  succ k ih =>
  intro hk i hi
  have hd:300-(k+1)+1=300-k:=by omega
  refine pf s hs (300-(k+1)) i (by omega) hi (rd k) (BP k) (fun j hj=>by rw[hd];exact ih (by omega) j hj) _ (fun h=>?_) (fun hlt h=>?_) (fun hlt h h40=>?_) (fun hlt h40=>?_)
  ·rw[bx (by omega)];exact hnil _
  ·simp only[rd,if_neg h]
  ·rw[drop_cons hlt]at h |-
   simp only[rd,if_pos h,if_neg h40]
  ·have h:=pC hlt (ha40 _ h40)
   rw[drop_cons hlt]at h |-
   simp only[rd,if_pos h,if_pos h40,bV]
end Go.Proofs.Trees
namespace Go.Proofs.Trees
open Go Go.VL
theorem ii(e:E):AV.agg [.v (.string ((e.gF.getD 0 .any).aj)),e.gF.getD 1 .any]=e.jX:=by cases e<;>rfl
theorem fE(e:E):e.gF.length=2:=by cases e<;>rfl
theorem hD(e:E):bY [.str,.sl] e.gF 0=True:=by
 apply eq_true
 cases e<;>simp[E.gF,bY,eI,bg,bU]
theorem lG(e:E):e.gF.headD .any=.v (.string (mk e.at)):=by cases e<;>rfl
theorem uT(x:E)(l:List E):au Tryz.prog 71 [.agg [.v (.string (mk [])),.sl (E.bc (x::l))]] [] (bK (.v (.string (mk x.at)))):=by
 refine DS _ _ ((bU _).mpr trivial) ?_
 simp only[AJ,E.bc,↓zq,zs,ae,zt,bK,fE,lG,ap]
 refine⟨fun h=>absurd rfl h,fun _=>⟨fun h=>by omega,fun _=>⟨by omega,by omega⟩⟩⟩
theorem Lk:au Tryz.prog 71 [.agg [.v (.string (mk [])),.sl (E.bc [])]] [] (bK (.v (.string (mk [])))):=by
 refine DS _ _ ((bU _).mpr trivial) ?_
 simp only[AJ,E.bc,↓zq,zs,ae,zt,bK,fE,lG,ap]
 simp
def jA:E->Bool
 | .atom s=>(s==[48])||(s==[49])||gj s||cK s
 | .list [x,a,b]=>if x.at=[43]then jA a&&jA b else if x.at=[42]then jA a&&jA b else if x.at=[114,101,99]then cK a.at&&jA b else false
 | .list _=>false
theorem xw:∀(e:E),e.ok->au Tryz.prog 138 [e.jX] [] (bK (.v (.bool (jA e))))
 |
  .atom s,hok=>by
  refine Jb _ _ ((bg).mpr trivial) ?_
  have hne:s≠[]:=hok
  simp only[FT,↓zq,zs,ae,zt,bK,jA]
  refine⟨fun _=>⟨fun h=>?_,fun h=>⟨fun h1=>?_,fun h1=>?_⟩⟩,fun h=>absurd h hne⟩
  ·simp[h]
  ·simp[h1]
  ·refine an (C8 s) ?_
   simp only[↓zq,zs,ae]
   refine⟨fun hp=>?_,fun hp=>?_⟩
   ·simp[hp]
   ·refine an (DE s) ?_
    simp[↓zq,zs,ae,hp,h,h1]
 |
  .list l,hok=>by
  refine Jb _ _ ((bU _).mpr trivial) ?_
  match l,hok with
  |[],hok=>simp[FT,E.bc,↓zq,zs,ae,zt,bK,jA]
  |[x],hok=>simp[FT,E.bc,↓zq,zs,ae,zt,bK,jA]
  |[x,y],hok=>simp[FT,E.bc,↓zq,zs,ae,zt,bK,jA]
  |
   x::y::z::w::l,hok =>
   simp only[FT,E.bc,↓zq,zs,ae,zt,bK,jA]
   exact⟨fun h=>absurd rfl h,fun _=>⟨fun _=>trivial,fun h=>by omega⟩⟩
  |
   [x,y,z],hok =>
   obtain⟨ok1,ok2,ok3,_⟩:=hok
   simp only[FT,↓zq,zs,ae,zt,bK]
   refine⟨fun h=>absurd rfl h,fun _=>⟨fun h=>absurd rfl h,fun _=>?_⟩⟩
   refine an (uT x _) ?_
   simp only[E.bc,toNat_one,bj,↓zq,zs,ae,zt,ii,fE,hD,lG,ap,jA]
   refine⟨fun h=>?_,fun h=>⟨fun h1=>?_,fun h1=>⟨fun h2=>?_,fun h2=>?_⟩⟩⟩
   ·rw[if_pos h]
    refine⟨by omega,an (xw y ok2) ?_⟩
    simp only[↓zq,zs,ae]
    refine⟨fun hy=>⟨by omega,an (xw z ok3) ?_⟩,fun hy=>?_⟩
    ·simp only[↓zq,zs,ae,hy,bA]
    ·rw[hy];rfl
   ·rw[if_neg h,if_pos h1]
    refine⟨by omega,an (xw y ok2) ?_⟩
    simp only[↓zq,zs,ae]
    refine⟨fun hy=>⟨by omega,an (xw z ok3) ?_⟩,fun hy=>?_⟩
    ·simp only[↓zq,zs,ae,hy,bA]
    ·rw[hy];rfl
   ·rw[if_neg h,if_neg h1,if_pos h2]
    refine⟨by omega,by omega,an (DE _) ?_⟩
    simp only[↓zq,zs,ae]
    refine⟨fun hy=>⟨by omega,an (xw z ok3) ?_⟩,fun hy=>?_⟩
    ·simp only[↓zq,zs,ae,hy,bA]
    ·rw[hy];rfl
   ·rw[if_neg h,if_neg h1,if_neg h2]
theorem i6:∀(e:E) (ar:List (List UInt8)),(cz e ar).isSome=jA e
 |
  .atom s,ar=>by
  simp only[cz,jA]
  by_cases h:s=[48]
  ·simp[h]
  ·by_cases h1:s=[49]
   ·simp[h1]
   ·rw[if_neg h,if_neg h1]
    by_cases h2:gj s=true
    ·simp[h2]
    ·rw[if_neg h2]
     by_cases h3:cK s=true
     ·rw[if_pos h3];cases bB s ar ar.length<;>simp[h3]
     ·rw[if_neg h3];simp[h,h1,h2,h3]
 | .list [],_=>rfl
 | .list [_],_=>rfl
 | .list [_,_],_=>rfl
 | .list (_::_::_::_::_),_=>rfl
 |
  .list [x,a,b],ar=>by
  have ha:=i6 a ar
  have hb:=i6 b ar
  have hb2:=i6 b (ar++[a.at])
  rw[jA]
  by_cases h:x.at=[43]
  ·rw[j9 ar h,if_pos h,<-ha,<-hb];cases cz a ar<;>cases cz b ar<;>rfl
  ·by_cases h1:x.at=[42]
   ·rw[jk ar h1,if_neg h,if_pos h1,<-ha,<-hb];cases cz a ar<;>cases cz b ar<;>rfl
   ·by_cases h2:x.at=[114,101,99]
    ·rw[lZ ar h2,if_neg h,if_neg h1,if_pos h2,<-hb2]
     cases cK a.at<;>cases cz b (ar++[a.at])<;>rfl
    ·rw[iu ar h h1 h2,if_neg h,if_neg h1,if_neg h2];rfl
mutual
def E.dW:E->Nat
 | .atom _=>1
 | .list l=>E.eY l
def E.eY:List E->Nat
 |[]=>0
 |e::l=>e.dW+E.eY l
end
mutual
theorem z8:∀e:E,e.dW<=e.sz
 | .atom s=>by simp[E.dW,E.sz]
 | .list l=>by have:=sH l;simp only[E.dW,E.sz];omega
theorem sH:∀l:List E,E.eY l<=E.iM l
 |[]=>by simp[E.eY,E.iM]
 |e::l=>by have:=z8 e;have:=sH l;simp only[E.eY,E.iM];omega
end
theorem iT:∀(l:List E) (i:Nat) (h:i<l.length),(E.bc l).getD i []=(l[i]).gF
 |e::l,0,_=>rfl
 |
  e::l,i+1,h=>by
  have:=iT l i (by simpa using h)
  simp only[E.bc,List.getD_cons_succ,List.getElem_cons_succ];exact this
theorem xt:∀(l:List E) (i:Nat) (h:i<l.length),E.eY (l.drop i)=(l[i]).dW+E.eY (l.drop (i+1)):=by
 intro l i h
 rw[aL h];rfl
theorem s7:∀(l:List E) (i:Nat) (h:i<l.length),E.AX l->(l[i]).ok
 |e::l,0,_,h=>h.1
 |e::l,i+1,hi,h=>s7 l i (by simpa using hi) h.2
theorem J1(l:List E)(hl:E.eY l<1000000)(hll:l.length<1000000)(ih:∀i (h:i<l.length),au Tryz.prog 109 [(l[i]).jX] [] (bK (.v (.int .i64 ((l[i]).dW:Int))))) :
 ∀(k i n:Nat),i+k=l.length->n+E.eY (l.drop i)<=E.eY l->Dz [.v (.int .i64 (n:Int)),.v (.int .i64 (i:Int))] [.cells [.v (.string (mk [])),.sl (E.bc l)]] (gk 1 [.v (.int .i64 ((n+E.eY (l.drop i):Nat):Int))] [])
 |
  0,i,n,hi,hn=>by
  refine HM _ _ _ _ ?_
  simp only[D3,↓zq,zs,ae,dE]
  have:l.drop i=[]:=bx (by omega)
  refine⟨fun h=>by omega,fun _=>?_⟩
  simp[gk,this,E.eY]
 |
  k+1,i,n,hi,hn=>by
  have hlt:i<l.length:=by omega
  refine HM _ _ _ _ ?_
  simp only[D3,↓zq,zs,ae,zt,dE,iT l i hlt,fE,hD,ii,ap]
  refine⟨fun _=>⟨by omega,?_⟩,fun h=>by omega⟩
  refine an (ih i hlt) ?_
  have h1:=xt l i hlt
  simp only[↓zq,zs,ae]
  rw[bp i (by omega),wrap64 _ (by omega) (by omega)]
  have:=J1 l hl hll ih k (i+1) (n+(l[i]).dW) (by omega) (by omega)
  rw[h1,<-Nat.add_assoc]
  simpa using this
theorem sx:∀l:List E,l.length<=E.iM l
 |[]=>by simp[E.iM]
 |
  e::l=>by
  have:=sx l
  have:1<=e.sz:=by cases e<;>simp[E.sz]
  simp only[E.iM,aw];omega
theorem sD:∀(l:List E) (i:Nat) (h:i<l.length),(l[i]).sz<=E.iM l
 |e::l,0,_=>by simp[E.iM]
 |e::l,i+1,h=>by have:=sD l i (by simpa using h);simp only[E.iM,List.getElem_cons_succ];omega
theorem Hv:∀(n:Nat) (e:E),e.sz<n->e.ok->e.sz<1000000->au Tryz.prog 109 [e.jX] [] (bK (.v (.int .i64 (e.dW:Int))))
 |0,e,hn,_,_=>by omega
 |
  n+1,.atom s,hn,hok,hl=>by
  refine H6 _ _ ((bg).mpr trivial) ?_
  have hne:s≠[]:=hok
  simp only[Fc,↓zq,zs,ae,zt,bK]
  exact⟨fun _=>rfl,fun h=>absurd h hne⟩
 |
  n+1,.list l,hn,hok,hl=>by
  refine H6 _ _ ((bU _).mpr trivial) ?_
  simp only[E.sz]at hn hl
  have h1:=sH l
  have h2:=sx l
  simp only[Fc,↓zq,zs,ae,zt,bK]
  refine⟨fun h=>absurd rfl h,fun _=>?_⟩
  refine bZ (J1 l (by omega) (by omega) (fun i hi=>?_) l.length 0 0 (by omega) (by simp)) ?_
  ·have:=sD l i hi
   exact Hv n (l[i]) (by omega) (s7 l i hi hok) (by omega)
  ·simp[↓zq,zs,ae,E.dW]
theorem Ja(e:E)(h:e.ok)(hl:e.sz<1000000):au Tryz.prog 109 [e.jX] [] (bK (.v (.int .i64 (e.dW:Int)))):=Hv (e.sz+1) e (by omega) h hl
theorem sK{x:E}(h:x.at≠[]):x.dW=1:=by cases x<;>simp[E.at,E.dW]at h |-
theorem zV{s:List UInt8}(h:cK s=true):s≠[]:=by rintro rfl;cases h
theorem jz:∀(e:E) (ar:List (List UInt8)) (t:Ty),cz e ar=some t->e.dW=t.aX
 |
  .atom s,ar,t,h=>by
  simp only[cz]at h
  simp only[E.dW]
  split at h
  ·cases h;rfl
  ·split at h
   ·cases h;rfl
   ·split at h
    ·cases h;rfl
    ·split at h
     ·split at h<;>cases h<;>rfl
     ·cases h
 | .list [],_,_,h=>by cases h
 | .list [_],_,_,h=>by cases h
 | .list [_,_],_,_,h=>by cases h
 | .list (_::_::_::_::_),_,_,h=>by cases h
 |
  .list [x,a,b],ar,t,h=>by
  simp only[E.dW,E.eY]
  by_cases h0:x.at=[43]
  ·rw[j9 ar h0]at h
   have:=sK (x:=x) (by rw[h0];simp)
   split at h
   ·rename_i t1 t2 e1 e2
    cases h
    have:=jz a ar _ e1
    have:=jz b ar _ e2
    simp only[Ty.aX];omega
   ·cases h
  ·by_cases h1:x.at=[42]
   ·rw[jk ar h1]at h
    have:=sK (x:=x) (by rw[h1];simp)
    split at h
    ·rename_i t1 t2 e1 e2
     cases h
     have:=jz a ar _ e1
     have:=jz b ar _ e2
     simp only[Ty.aX];omega
    ·cases h
   ·by_cases h2:x.at=[114,101,99]
    ·rw[lZ ar h2]at h
     have:=sK (x:=x) (by rw[h2];simp)
     split at h
     ·rename_i hl
      have:=sK (zV hl)
      split at h
      ·rename_i t1 e1
       cases h
       have:=jz b _ _ e1
       simp only[Ty.aX];omega
      ·cases h
     ·cases h
    ·rw[iu ar h0 h1 h2]at h;cases h
def l4(x:Option E)(b:Bool):AV->List Ob->Prop:=fun r o=>∃c:List UInt8,∃d:AV,LK.sl.has d/\r=.da [.agg [.v (.string (mk c)),d],.v (.bool b)]/\(b=true->∃e,x=some e/\AV.agg [.v (.string (mk c)),d]=e.jX)
theorem zB(e:E):∃c:List UInt8,∃d:AV,LK.sl.has d/\e.jX=AV.agg [.v (.string (mk c)),d]:=by
 cases e with
 |atom s=>exact⟨s,_,(bg).mpr trivial,rfl⟩
 |list l=>exact⟨[],_,(bU _).mpr trivial,rfl⟩
theorem l4.ne(x:Option E)(b:Bool)(h:b=true->x.isSome=true):∃r o,l4 x b r o:=by
 cases b with
 |false=>exact⟨_,[],[],.v (.slice none 0 0),(bg).mpr trivial,rfl,fun h=>by cases h⟩
 |
  true =>
  cases x with
  |none=>cases h rfl
  |
   some e =>
   obtain⟨c,d,hd,he⟩:=zB e
   exact⟨_,[],c,d,hd,rfl,fun _=>⟨e,rfl,he.symm⟩⟩
theorem HG(s:List UInt8):au Tryz.prog 73 [.v (.string (mk s))] [] (l4 (pP s) (pP s).isSome):=by
 refine N7 _ ?_
 simp only[Jn,↓zq,zs,ae,zt,pP]
 refine⟨fun h=>?_,fun h=>?_⟩
 ·rw[if_pos (by omega)]
  exact⟨[],_,(bg).mpr trivial,rfl,fun h=>by cases h⟩
 ·rw[if_neg (by omega)]
  refine aU (N0 s (by omega) 300 (by omega) 0 (by omega)) (AK.ne _ _) ?_
  rintro r o ⟨rfl,hr⟩
  rw[aV]at hr
  cases hq:rd 300 s with
  |
   none =>
   rw[hq]at hr
   obtain⟨c,d,hd,rfl⟩:=hr
   simp only[↓zq,zs,ae,zt,bY]
   refine⟨hd,c,d,hd,?_,fun h=>by cases h⟩
   have:((-1:Int)==(s.length:Int))=false:=by
    rw[beq_eq_false_iff_ne];omega
   rw[this];rfl
  |
   some q =>
   obtain⟨e,u⟩:=q
   rw[hq]at hr
   subst hr
   have hlt:=wN _ _ _ _ hq
   obtain⟨c,d,hd,he⟩:=zB e
   simp only[he,↓zq,zs,ae,zt,bY]
   cases u with
   |
    nil =>
    refine⟨hd,c,d,hd,?_,fun _=>⟨e,rfl,he.symm⟩⟩
    simp
   |
    cons b u =>
    simp only[aw]at hlt |-
    refine⟨hd,c,d,hd,?_,fun h=>by cases h⟩
    have:(((s.length-(u.length+1):Nat):Int)==(s.length:Int))=false:=by simp;omega
    rw[this];rfl
def wB(s:List UInt8):Option E:=match pP s with
 |none=>none
 |some e=>if jA e=true/\e.dW<=400 then some e else none
theorem LJ(s:List UInt8):au Tryz.prog 97 [.v (.string (mk s))] [] (l4 (wB s) (wB s).isSome):=by
 refine LA _ ?_
 unfold Gm
 refine aU (HG s) (l4.ne _ _ (fun h=>h)) ?_
 rintro r o ⟨c,d,hd,rfl,hh⟩
 simp only[↓zq,zs,ae,zt,bY,wB]
 refine⟨hd,fun h=>?_,fun h=>?_⟩
 ·obtain⟨e,he,hce⟩:=hh h
  obtain⟨hok,hsz⟩:=mT he
  rw[he,hce]
  refine an (xw e hok) ?_
  simp only[↓zq,zs,ae]
  refine⟨fun hi=>?_,fun hi=>?_⟩
  ·refine an (Ja e hok (by omega)) ?_
   simp only[↓zq,zs,ae,hi]
   refine⟨c,d,hd,?_,?_⟩
   ·rw[hce]
    by_cases h4:e.dW<=400
    ·rw[if_pos h4];exact congrArg (fun b=>AV.da [e.jX,.v (.bool b)]) (decide_eq_true (show ((e.dW:Nat):Int)<=400 by omega))
    ·rw[if_neg h4];exact congrArg (fun b=>AV.da [e.jX,.v (.bool b)]) (decide_eq_false (show ¬((e.dW:Nat):Int)<=400 by omega))
   ·split
    ·exact fun _=>⟨e,rfl,hce⟩
    ·exact fun h=>by cases h
  ·refine⟨c,d,hd,?_,?_⟩
   ·rw[hce,if_neg (by rw[hi];simp)];rfl
   ·rw[if_neg (by rw[hi];simp)];exact fun h=>by cases h
 ·have hn:pP s=none:=by cases hq:pP s<;>simp[hq]at h |-
  rw[hn]
  exact⟨c,d,hd,rfl,fun h=>by cases h⟩
theorem p6{s:List UInt8}{e:E}(h:wB s=some e):pP s=some e/\jA e=true/\e.dW<=400:=by
 unfold wB at h
 split at h
 ·cases h
 ·split at h
  ·rename_i e' h1 h2;cases h;exact⟨h1,h2⟩
  ·cases h
end Go.Proofs.Trees
namespace Go.Proofs.Trees
open Go Go.VL
def bG:Ty->Bool
 | .name s=>cK s
 | .plus a b=>bG a||bG b
 | .times a b=>bG a||bG b
 | .rc a=>bG a
 |_=>false
theorem fX:∀(t:Ty) (out:List (List UInt8)),(bH t out).any cK=(out.any cK||bG t)
 |
  .name s,out=>by
  simp only[bH,oh,bG]
  split
  ·rename_i h
   cases hs:cK s with
   |false=>simp
   |true=>rw[Bool.or_true,bJ];exact⟨s,h,hs⟩
  ·simp
 | .plus a b,out=>by simp only[bH,bG,fX a,fX b,Bool.or_assoc]
 | .times a b,out=>by simp only[bH,bG,fX a,fX b,Bool.or_assoc]
 | .rc a,out=>by simp only[bH,bG,fX a]
 | .zero,out=>by simp[bH,bG]
 | .one,out=>by simp[bH,bG]
 | .cc u,out=>by simp[bH,bG]
theorem sk(t:Ty):t.closed = !bG t:=by simp[Ty.closed,fX]
def pl:Ty->Bool
 | .name s=>decide (s.length<=1)
 | .plus a b=>pl a&&pl b
 | .times a b=>pl a&&pl b
 | .rc a=>false
 |_=>true
theorem kI{lo hi:Nat}{s:List UInt8}(h:named lo hi s=true):∃c r,s=c::r/\lo<=c.toNat/\c.toNat<=hi:=by
 cases s with
 |nil=>cases h
 |cons c r=>simp only[named,aq,decide_eq_true_eq]at h;exact⟨c,r,rfl,by omega,by omega⟩
theorem eW{x a b:E}{ar:List (List UInt8)}{t:Ty}(hx:x.at=[43])(h:cz (.list [x,a,b]) ar=some t):∃t1 t2,cz a ar=some t1/\cz b ar=some t2/\t=.plus t1 t2:=by
 rw[j9 ar hx]at h
 split at h
 ·rename_i t1 t2 e1 e2;cases h;exact⟨t1,t2,e1,e2,rfl⟩
 ·cases h
theorem ew{x a b:E}{ar:List (List UInt8)}{t:Ty}(hx:x.at=[42])(h:cz (.list [x,a,b]) ar=some t):∃t1 t2,cz a ar=some t1/\cz b ar=some t2/\t=.times t1 t2:=by
 rw[jk ar hx]at h
 split at h
 ·rename_i t1 t2 e1 e2;cases h;exact⟨t1,t2,e1,e2,rfl⟩
 ·cases h
theorem cW{x a b:E}{ar:List (List UInt8)}{t:Ty}(hx:x.at=[114,101,99])(h:cz (.list [x,a,b]) ar=some t):∃t1,cK a.at=true/\cz b (ar++[a.at])=some t1/\t=.rc t1:=by
 rw[lZ ar hx]at h
 split at h
 ·rename_i hl
  split at h
  ·rename_i t1 e1;cases h;exact⟨t1,hl,e1,rfl⟩
  ·cases h
 ·cases h
theorem uZ{s:List UInt8}:tO s=match wB s with|none=>none|some e=>cz e []:=by
 unfold tO wB
 cases he:pP s with
 |none=>rfl
 |
  some e =>
  have hs:=i6 e []
  simp only
  cases ht:cz e []with
  |
   none =>
   rw[ht]at hs
   rw[if_neg (by rw[<-hs];simp)]
  |
   some t =>
   rw[ht]at hs
   have ha:=jz e [] t ht
   by_cases h4:e.dW<=400
   ·rw[if_pos ⟨hs.symm,h4⟩];dsimp only;rw[if_neg (by omega)];exact ht.symm
   ·rw[if_neg (fun h=>h4 h.2)];dsimp only;rw[if_pos (by omega)]
end Go.Proofs.Trees
namespace Go.Proofs.Trees
open Go Go.VL
def pure:Ty->Bool
 | .zero=>true
 | .one=>true
 | .name s=>(s==[120])||(s==[121])||(s==[122])
 | .plus a b=>pure a&&pure b
 | .times a b=>pure a&&pure b
 |_=>false
def Iz(v:Nat):Option Nat:=if v<=1000000000 then some v else none
def F1(n:Nat):Ty->Option Nat
 | .zero=>some 0
 | .one=>some 1
 | .name _=>some n
 | .plus a b=>match F1 n a,F1 n b with|some x,some y=>Iz (x+y)|_,_=>none
 | .times a b=>match F1 n a,F1 n b with|some x,some y=>Iz (x*y)|_,_=>none
 |_=>none
def JZ(x:Option Nat):AV->List Ob->Prop:=fun r o=>∃v:Int,r=.da [.v (.int .i64 v),.v (.bool x.isSome)]/\∀c,x=some c->v=(c:Int)
theorem JZ.ne(x:Option Nat):∃r o,JZ x r o:=by
 cases x with
 |none=>exact⟨_,[],0,rfl,fun c h=>by cases h⟩
 |some c=>exact⟨_,[],(c:Int),rfl,fun c' h=>by cases h;rfl⟩
end Go.Proofs.Trees
namespace Go.Proofs.Trees
open Go Go.VL Go.RowKit
abbrev dd(n:Nat):List UInt8:=Lib.decDigits n
theorem eH{k:Nat}(h:k<10):dd k=[aZ (48+k)]:=by rw[dd,Lib.decDigits,dif_pos h]
theorem fu{k:Nat}(h:¬k<10):dd k=dd (k/10)++[aZ (48+k%10)]:=by rw[dd,Lib.decDigits,dif_neg h]
theorem ot:∀(n k:Nat),k<n->(dd k).length<=k+1
 |0,k,h=>by omega
 |
  n+1,k,h=>by
  by_cases h1:k<10
  ·rw[eH h1];simp
  ·rw[fu h1]
   have:=ot n (k/10) (by omega)
   simp only[al,aw,aG];omega
theorem vQ(d:Nat)(h:d<10):(Value.int .u8 (IntKind.wrap .u8 (IntKind.wrap .i64 (48+(d:Int)))))=.int .u8 ((aZ (48+d)).toNat:Int):=by
 have:d=0\/d=1\/d=2\/d=3\/d=4\/d=5\/d=6\/d=7\/d=8\/d=9:=by omega
 rcases this with rfl|rfl|rfl|rfl|rfl|rfl|rfl|rfl|rfl|rfl<;>rfl
theorem oP(b:UInt8):bytesOf [[.v (.int .u8 (b.toNat:Int))]]=[b]:=by simp[bytesOf,wg]
theorem rG(b:UInt8):qF [[.v (.int .u8 (b.toNat:Int))]]:=⟨rfl,(sE _ _).mpr trivial,trivial⟩
theorem A5:∀(n k:Nat),k<n->k<1000000000->au Tryz.prog 111 [.v (.int .i64 (k:Int))] [] (bK (.v (.string (mk (dd k)))))
 |0,k,h,_=>by omega
 |
  n+1,k,h,hk=>by
  refine Nt _ ?_
  simp only[Is,↓zq,zs,ae,bK]
  refine⟨fun h=>by omega,fun _=>⟨fun h=>by omega,fun _=>⟨fun h1=>?_,fun h1=>⟨by omega,?_⟩⟩⟩⟩
  ·rw[vQ k (by omega)]
   refine⟨rG _,?_⟩
   rw[oP,eH (by omega)];rfl
  ·have e1:IntKind.wrap .i64 (Int.tdiv (k:Int) 10)=((k/10:Nat):Int):=by
    rw[show Int.tdiv (k:Int) 10=((k/10:Nat):Int) from (Int.ofNat_tdiv k 10).symm,wrap64 _ (by omega) (by omega)]
   have e2:dc (k:Int) 10=((k%10:Nat):Int):=(Int.ofNat_tmod k 10).symm
   rw[e1,e2,vQ (k%10) (by omega)]
   refine an (A5 n (k/10) (by omega) (by omega)) ?_
   have hl:=ot (k+1) (k/10) (by omega)
   simp only[↓zq,zs,ae,zt,oP]
   have h9:(k:Int)<1000000000:=by omega
   refine⟨by omega,rG _,?_,?_⟩
   ·show (mk (dd (k/10))).size+(mk [aZ (48+k%10)]).size<=_
    rw[gC,gC];simp;omega
   ·show AV.v (.string (mk (dd (k/10))++mk [aZ (48+k%10)]))=_
    rw[rO,fu (k:=k) (by omega)]
theorem zi(s:List UInt8)(d:AV)(hd:LK.sl.has d)(h:s≠[]):au Tryz.prog 71 [.agg [.v (.string (mk s)),d]] [] (bK (.v (.string (mk [])))):=by
 refine DS _ _ hd ?_
 simp only[AJ,↓zq,zs,ae,zt,bK]
 exact⟨fun _=>trivial,fun h'=>absurd h' h⟩
theorem AH(e:E):AV.agg [.v (.string ((e.jX.cs.getD 0 .any).aj)),e.jX.cs.getD 1 .any]=e.jX:=by cases e<;>rfl
mutual
def gh:E->List UInt8
 | .atom s=>s
 | .list []=>[40,41]
 | .list (e::l)=>40::(gh e++(eE l++[41]))
def eE:List E->List UInt8
 |[]=>[]
 |e::l=>32::(gh e++eE l)
end
theorem xq:∀(l:List E) (i:Nat) (h:i<l.length),eE (l.drop i)=32::(gh l[i]++eE (l.drop (i+1))):=by
 intro l i h
 rw[aL h,eE]
theorem IL(l:List E)(hll:l.length<1000000000000)(ih:∀i (h:i<l.length),au Tryz.prog 76 [(l[i]).jX] [] (bK (.v (.string (mk (gh l[i])))))) :
 ∀(k i:Nat) (out:List UInt8),i+k=l.length->1<=i->out.length+(eE (l.drop i)).length<=1000000000000->Ab [.v (.string (mk out)),.v (.int .i64 (i:Int))] [.cells [.v (.string (mk [])),.sl (E.bc l)]] (gk 1 [.v (.string (mk (out++eE (l.drop i))))] [])
 |
  0,i,out,hi,h1,hn=>by
  refine BB _ _ _ _ ?_
  simp only[Au,↓zq,zs,ae,dE]
  have:l.drop i=[]:=bx (by omega)
  refine⟨fun h=>by omega,fun _=>?_⟩
  simp[gk,this,eE]
 |
  k+1,i,out,hi,h1,hn=>by
  have hlt:i<l.length:=by omega
  have hd:=xq l i hlt
  rw[hd]at hn
  simp only[aw,al]at hn
  refine BB _ _ _ _ ?_
  simp only[Au,↓zq,zs,ae,zt,dE,iT l i hlt,fE,hD,ii,ap]
  refine⟨fun _=>⟨fun _=>⟨by omega,by omega,?_⟩,fun h=>by omega⟩,fun h=>by omega⟩
  refine an (ih i hlt) ?_
  simp only[↓zq,zs,ae,zt]
  refine⟨by simp;omega,?_⟩
  rw[bp i (by omega),hd]
  have:=IL l hll ih k (i+1) (out++[32]++gh l[i]) (by omega) (by omega) (by simp;omega)
  simpa using this
theorem vL:∀(l:List E) (i:Nat) (h:i<l.length),(gh l[i]).length<=(eE l).length
 |e::l,0,_=>by simp only[eE,List.getElem_cons_zero,aw,al];omega
 |e::l,i+1,h=>by have:=vL l i (by simpa using h);simp only[eE,List.getElem_cons_succ,aw,al];omega
theorem qi:∀l:List E,l.length<=(eE l).length
 |[]=>by simp[eE]
 |e::l=>by have:=qi l;simp only[eE,aw,al];omega
theorem Bk:∀(n:Nat) (e:E),e.sz<n->e.ok->(gh e).length<=900000000000->au Tryz.prog 76 [e.jX] [] (bK (.v (.string (mk (gh e)))))
 |0,e,hn,_,_=>by omega
 |
  n+1,.atom s,hn,hok,hl=>by
  refine DD _ _ ((bg).mpr trivial) ?_
  have hne:s≠[]:=hok
  simp only[BO,↓zq,zs,ae,zt,bK]
  exact⟨fun _=>rfl,fun h=>absurd h hne⟩
 |
  n+1,.list [],hn,hok,hl=>by
  refine DD _ _ ((bU _).mpr trivial) ?_
  simp only[BO,↓zq,zs,ae,zt,bK]
  refine⟨fun h=>absurd rfl h,fun _=>?_⟩
  have h1:Ab [.v (.string (mk [40])),.v (.int .i64 0)] [.cells [.v (.string (mk [])),.sl (E.bc [])]] (gk 1 [.v (.string (mk [40]))] []):=by
   refine BB _ _ _ _ ?_
   simp[Au,↓zq,zs,ae,E.bc,gk]
  refine bZ h1 ?_
  simp only[↓zq,zs,ae,zt]
  exact⟨by simp,rfl⟩
 |
  n+1,.list (x::l),hn,hok,hl=>by
  refine DD _ _ ((bU _).mpr trivial) ?_
  simp only[E.sz,E.iM]at hn
  simp only[gh,aw,al,aG]at hl
  have h2:=qi l
  simp only[BO,↓zq,zs,ae,zt,bK]
  refine⟨fun h=>absurd rfl h,fun _=>?_⟩
  have hL:Ab [.v (.string (mk [40])),.v (.int .i64 0)] [.cells [.v (.string (mk [])),.sl (E.bc (x::l))]] (gk 1 [.v (.string (mk ([40]++gh x++eE l)))] []):=by
   refine BB _ _ _ _ ?_
   simp only[Au,E.bc,Int.toNat_zero,↓zq,zs,ae,zt,dE,fE,hD,ii,ap]
   refine⟨fun _=>⟨fun h=>by omega,fun _=>⟨by omega,?_⟩⟩,fun h=>by omega⟩
   refine an (Bk n x (by omega) hok.1 (by omega)) ?_
   simp only[↓zq,zs,ae,zt]
   refine⟨by simp;omega,?_⟩
   have:=IL (x::l) (by simp;omega) (fun i hi=>by
    have h3:=sD (x::l) i hi
    simp only[E.iM]at h3
    refine Bk n _ (by omega) (s7 _ i hi hok) ?_
    have h4:=vL (x::l) i hi
    simp only[eE,aw,al]at h4
    omega) l.length 1 ([40]++gh x) (by simp;omega) (by omega) (by simp;omega)
   rw[show IntKind.wrap .i64 (0+1)=1 from rfl]
   simpa[E.bc]using this
  refine bZ hL ?_
  simp only[↓zq,zs,ae,zt]
  refine⟨by simp;omega,?_⟩
  simp[gh]
theorem MZ(e:E)(h:e.ok)(hl:(gh e).length<=900000):au Tryz.prog 76 [e.jX] [] (bK (.v (.string (mk (gh e))))):=Bk (e.sz+1) e (by omega) h (by omega)
mutual
def E.nd:E->Nat
 | .atom _=>1
 | .list []=>1
 | .list (_::l)=>1+E.tu l
def E.tu:List E->Nat
 |[]=>0
 |e::l=>e.nd+E.tu l
end
mutual
theorem zH:∀e:E,e.nd<=e.sz
 | .atom s=>by simp[E.nd,E.sz]
 | .list []=>by simp[E.nd,E.sz,E.iM]
 | .list (x::l)=>by have:=vD l;simp only[E.nd,E.sz,E.iM];omega
theorem vD:∀l:List E,E.tu l<=E.iM l
 |[]=>by simp[E.tu,E.iM]
 |e::l=>by have:=zH e;have:=vD l;simp only[E.tu,E.iM];omega
end
theorem Aa:∀(l:List E) (i:Nat) (h:i<l.length),E.tu (l.drop i)=(l[i]).nd+E.tu (l.drop (i+1)):=by
 intro l i h
 rw[aL h];rfl
theorem H7(l:List E)(hl:E.tu l<1000000)(hll:l.length<1000000)(ih:∀i (h:i<l.length),au Tryz.prog 75 [(l[i]).jX] [] (bK (.v (.int .i64 ((l[i]).nd:Int))))) :
 ∀(k i n:Nat),i+k=l.length->n+E.tu (l.drop i)<=1+E.tu l->yV [.v (.int .i64 (n:Int)),.v (.int .i64 (i:Int))] [.cells [.v (.string (mk [])),.sl (E.bc l)]] (gk 1 [.v (.int .i64 ((n+E.tu (l.drop i):Nat):Int))] [])
 |
  0,i,n,hi,hn=>by
  refine Bv _ _ _ _ ?_
  simp only[yO,↓zq,zs,ae,dE]
  have:l.drop i=[]:=bx (by omega)
  refine⟨fun h=>by omega,fun _=>?_⟩
  simp[gk,this,E.tu]
 |
  k+1,i,n,hi,hn=>by
  have hlt:i<l.length:=by omega
  refine Bv _ _ _ _ ?_
  simp only[yO,↓zq,zs,ae,zt,dE,iT l i hlt,fE,hD,ii,ap]
  refine⟨fun _=>⟨by omega,?_⟩,fun h=>by omega⟩
  refine an (ih i hlt) ?_
  have h1:=Aa l i hlt
  simp only[↓zq,zs,ae]
  rw[bp i (by omega),wrap64 _ (by omega) (by omega)]
  have:=H7 l hl hll ih k (i+1) (n+(l[i]).nd) (by omega) (by omega)
  rw[h1,<-Nat.add_assoc]
  simpa using this
theorem KK:∀(n:Nat) (e:E),e.sz<n->e.sz<900000->au Tryz.prog 75 [e.jX] [] (bK (.v (.int .i64 (e.nd:Int))))
 |0,e,hn,_=>by omega
 |
  n+1,.atom s,hn,hl=>by
  refine GQ _ _ ((bg).mpr trivial) ?_
  simp only[Em]
  have hL:yV [.v (.int .i64 1),.v (.int .i64 1)] [.cells [.v (.string (mk s)),.v (.slice none 0 0)]] (gk 1 [.v (.int .i64 1)] []):=by
   refine Bv _ _ _ _ ?_
   simp[yO,↓zq,zs,ae,gk]
  refine bZ hL ?_
  simp[↓zq,zs,ae,bK,E.nd]
 |
  n+1,.list l,hn,hl=>by
  refine GQ _ _ ((bU _).mpr trivial) ?_
  simp only[E.sz]at hn hl
  simp only[Em]
  match l,hn,hl with
  |
   [],hn,hl =>
   have hL:yV [.v (.int .i64 1),.v (.int .i64 1)] [.cells [.v (.string (mk [])),.sl (E.bc [])]] (gk 1 [.v (.int .i64 1)] []):=by
    refine Bv _ _ _ _ ?_
    simp[yO,↓zq,zs,ae,gk,E.bc]
   refine bZ hL ?_
   simp[↓zq,zs,ae,bK,E.nd]
  |
   x::l,hn,hl =>
   simp only[E.iM]at hn hl
   have h1:=vD l
   have h2:=sx l
   have h0:=zH x
   refine bZ (H7 (x::l) (by simp only[E.tu];omega) (by simp;omega) (fun i hi=>?_) l.length 1 1 (by simp;omega) (by simp[E.tu])) ?_
   ·have:=sD (x::l) i hi
    simp only[E.iM]at this
    exact KK n _ (by omega) (by omega)
   ·simp[↓zq,zs,ae,E.nd,bK]
theorem LB(e:E)(hl:e.sz<900000):au Tryz.prog 75 [e.jX] [] (bK (.v (.int .i64 (e.nd:Int)))):=KK (e.sz+1) e (by omega) hl
inductive Vl where
 |u
 |el (k:Nat)
 |l (v:Vl)
 |r (v:Vl)
 |f (v:Vl)
 |p (a b:Vl)
abbrev vG(k:Nat):List UInt8:=101::dd k
abbrev j6:AV:=.v (.pointer none)
def Vl.cF:Vl->AV
 | .u=>.ptr [.v (.int .u8 117),.v (.string (mk [])),j6,j6]
 | .el k=>.ptr [.v (.int .u8 101),.v (.string (mk (vG k))),j6,j6]
 | .l v=>.ptr [.v (.int .u8 108),.v (.string (mk [])),v.cF,j6]
 | .r v=>.ptr [.v (.int .u8 114),.v (.string (mk [])),v.cF,j6]
 | .f v=>.ptr [.v (.int .u8 102),.v (.string (mk [])),v.cF,j6]
 | .p a b=>.ptr [.v (.int .u8 112),.v (.string (mk [])),a.cF,b.cF]
def Vl.dh:Vl->E
 | .u=>.atom [117]
 | .el k=>.atom (vG k)
 | .l v=>.list [.atom [108],v.dh]
 | .r v=>.list [.atom [114],v.dh]
 | .f v=>.list [.atom [102],v.dh]
 | .p a b=>.list [.atom [112],a.dh,b.dh]
def Vl.nodes:Vl->Nat
 | .l v=>1+v.nodes
 | .r v=>1+v.nodes
 | .f v=>1+v.nodes
 | .p a b=>1+a.nodes+b.nodes
 |_=>1
def Vl.iK(n:Nat):Vl->Prop
 | .el k=>k<n
 | .l v=>v.iK n
 | .r v=>v.iK n
 | .f v=>v.iK n
 | .p a b=>a.iK n/\b.iK n
 | .u=>True
abbrev Vl.fa(v:Vl):List UInt8:=gh v.dh
theorem aW(v:Vl):LK.has .ptr v.cF=True:=by cases v<;>simp[Vl.cF,dO]
theorem gG(v:Vl):v.cF.isNil=false:=by cases v<;>rfl
theorem oE:∀v:Vl,v.dh.ok
 | .u=>by simp[Vl.dh,E.ok]
 | .el k=>by simp[Vl.dh,E.ok]
 | .l v=>⟨by simp[E.ok],oE v,trivial⟩
 | .r v=>⟨by simp[E.ok],oE v,trivial⟩
 | .f v=>⟨by simp[E.ok],oE v,trivial⟩
 | .p a b=>⟨by simp[E.ok],oE a,oE b,trivial⟩
theorem mR:∀v:Vl,v.dh.nd=v.nodes
 | .u=>rfl
 | .el k=>rfl
 | .l v=>by simp[Vl.dh,E.nd,E.tu,Vl.nodes,mR v]
 | .r v=>by simp[Vl.dh,E.nd,E.tu,Vl.nodes,mR v]
 | .f v=>by simp[Vl.dh,E.nd,E.tu,Vl.nodes,mR v]
 | .p a b=>by simp[Vl.dh,E.nd,E.tu,Vl.nodes,mR a,mR b,Nat.add_assoc]
theorem iR:∀v:Vl,v.iK 100->v.fa.length<=200*v.nodes
 | .u,_=>by simp[Vl.fa,Vl.dh,gh,Vl.nodes]
 |
  .el k,h=>by
  have h':k<100:=h
  have:=ot 1000 k (by omega)
  simp only[Vl.fa,Vl.dh,gh,Vl.nodes,aw];omega
 | .l v,h=>by have:=iR v h;simp only[Vl.fa,Vl.dh,gh,eE,Vl.nodes,aw,al,aG]at this |-;omega
 | .r v,h=>by have:=iR v h;simp only[Vl.fa,Vl.dh,gh,eE,Vl.nodes,aw,al,aG]at this |-;omega
 | .f v,h=>by have:=iR v h;simp only[Vl.fa,Vl.dh,gh,eE,Vl.nodes,aw,al,aG]at this |-;omega
 | .p a b,h=>by have:=iR a h.1;have:=iR b h.2;simp only[Vl.fa,Vl.dh,gh,eE,Vl.nodes,aw,al,aG]at *;omega
theorem Be(a b:AV)(h:LK.ptr.has a)(h':LK.ptr.has b):au Tryz.prog 132 [a,b] [] (bK (.ptr [.v (.int .u8 112),.v (.string (mk [])),a,b])):=by
 refine Nq _ _ h h' ?_
 simp[KS,↓zq,zs,ae,bK]
theorem cB(v:Vl):1<=v.nodes:=by cases v<;>simp[Vl.nodes]<;>omega
theorem F2:∀(v:Vl),v.nodes<1000000->au Tryz.prog 56 [v.cF] [] (bK (.v (.int .i64 (v.nodes:Int))))
 | .u,h=>by refine xF _ ((aW _).mpr trivial) ?_;simp[Fg,Vl.cF,↓zq,zs,ae,bK,Vl.nodes]
 | .el k,h=>by refine xF _ ((aW _).mpr trivial) ?_;simp[Fg,Vl.cF,↓zq,zs,ae,bK,Vl.nodes]
 |
  .l v,h=>by
  simp only[Vl.nodes]at h
  refine xF _ ((aW _).mpr trivial) ?_
  simp only[Fg,Vl.cF,↓zq,zs,ae,aW,gG]
  refine⟨by omega,fun _=>⟨by omega,?_⟩,fun h=>(by cases h)⟩
  refine an (F2 v (by omega)) ?_
  simp only[↓zq,zs,ae,bK,Vl.nodes]
  rw[wrap64 _ (by omega) (by omega)]
  simp
 |
  .r v,h=>by
  simp only[Vl.nodes]at h
  refine xF _ ((aW _).mpr trivial) ?_
  simp only[Fg,Vl.cF,↓zq,zs,ae,aW,gG]
  refine⟨by omega,fun _=>⟨by omega,?_⟩,fun h=>(by cases h)⟩
  refine an (F2 v (by omega)) ?_
  simp only[↓zq,zs,ae,bK,Vl.nodes]
  rw[wrap64 _ (by omega) (by omega)]
  simp
 |
  .f v,h=>by
  simp only[Vl.nodes]at h
  refine xF _ ((aW _).mpr trivial) ?_
  simp only[Fg,Vl.cF,↓zq,zs,ae,aW,gG]
  refine⟨by omega,fun _=>⟨by omega,?_⟩,fun h=>(by cases h)⟩
  refine an (F2 v (by omega)) ?_
  simp only[↓zq,zs,ae,bK,Vl.nodes]
  rw[wrap64 _ (by omega) (by omega)]
  simp
 |
  .p a b,h=>by
  simp only[Vl.nodes]at h
  refine xF _ ((aW _).mpr trivial) ?_
  simp only[Fg,Vl.cF,↓zq,zs,ae,aW,gG]
  refine⟨by omega,fun _=>⟨by omega,?_⟩,fun h=>(by cases h)⟩
  refine an (F2 a (by omega)) ?_
  simp only[↓zq,zs,ae,aW,gG]
  rw[wrap64 (1+(a.nodes:Int)) (by omega) (by omega)]
  refine⟨by omega,fun _=>⟨by omega,?_⟩,fun h=>(by cases h)⟩
  refine an (F2 b (by omega)) ?_
  simp only[↓zq,zs,ae,bK,Vl.nodes]
  rw[wrap64 _ (by omega) (by omega)]
  congr 2
end Go.Proofs.Trees
namespace Go.Proofs.Trees
open Go Go.VL Go.RowKit
def xJ:List UInt8->Nat->Option Nat
 |[],n=>some n
 |b::r,n=>if gv b=true then xJ r (10*n+(b.toNat-48))else none
def e9(s:List UInt8):Option Nat :=
 if s.length=2\/s.length=3 then(if s.getD 0 0=101/\¬(s.length=3/\s.getD 1 0=48)then xJ (s.drop 1) 0 else none)else none
def zI(s:List UInt8):Int:=match e9 s with|some k=>(k:Int)|none=>-1
theorem JC(s:List UInt8)(hs:s.length<=3):∀(k i n:Nat),i+k=s.length->1<=i->(n+1)*10 ^ k<=1000->Fx [.v (.string (mk s)),.v (.int .i64 (n:Int)),.v (.int .i64 (i:Int))] []
 (pI (match xJ (s.drop i) n with|some m=>(1,[.v (.int .i64 (m:Int))],[])|none=>(2,[.v (.int .i64 (-1))],[])))
 |
  0,i,n,hi,h1,hn=>by
  refine Jr _ _ _ ?_
  have hd:s.drop i=[]:=bx (by omega)
  simp only[EB,↓zq,zs,ae,zt,hd,xJ]
  exact⟨fun h=>by omega,fun _=>by first|trivial|rfl⟩
 |
  k+1,i,n,hi,h1,hn=>by
  have hlt:i<s.length:=by omega
  refine Jr _ _ _ ?_
  rw[drop_cons hlt,xJ]
  simp only[EB,↓zq,zs,ae,zt,k9 s i hlt]
  generalize s.getD i 0=b
  have hb:=b.toNat_lt
  refine⟨fun _=>⟨by omega,fun h48=>?_,fun h48=>⟨by omega,fun h57=>?_,fun h57=>⟨by omega,?_⟩⟩⟩,fun h=>by omega⟩
  ·have:gv b=false:=by simp only[gv,decide_eq_false_iff_not];omega
   rw[this];rfl
  ·have:gv b=false:=by simp only[gv,decide_eq_false_iff_not];omega
   rw[this];rfl
  ·have:gv b=true:=by simp only[gv,decide_eq_true_eq];omega
   rw[if_pos this]
   have hk:k=0\/k=1:=by omega
   have hn2:n*10<=1000:=by
    rcases hk with rfl|rfl<;>simp at hn<;>omega
   have e8:IntKind.wrap .u8 ((b.toNat:Int)-48)=((b.toNat-48:Nat):Int):=by
    have:b.toNat=48\/b.toNat=49\/b.toNat=50\/b.toNat=51\/b.toNat=52\/b.toNat=53\/b.toNat=54\/b.toNat=55\/b.toNat=56\/b.toNat=57:=by omega
    rcases this with h|h|h|h|h|h|h|h|h|h<;>rw[h]<;>rfl
   rw[e8,bp i (by omega),wrap64 ((b.toNat-48:Nat):Int) (by omega) (by omega),wrap64 (10*(n:Int)) (by omega) (by omega),wrap64 _ (by omega) (by omega)]
   have e:(10*(n:Int)+((b.toNat-48:Nat):Int))=((10*n+(b.toNat-48):Nat):Int):=by omega
   rw[e]
   exact JC s hs k (i+1) _ (by omega) (by omega) (by rcases hk with rfl|rfl<;>simp at hn |-<;>omega)
theorem Gw(s:List UInt8):au Tryz.prog 102 [.v (.string (mk s))] [] (bK (.v (.int .i64 (zI s)))):=by
 refine Mk _ ?_
 unfold GX
 refine an (Bj _ _ _) ?_
 simp only[↓zq,zs,ae,zt,Ci,bK]
 have hL:∀(Q:Nat->List AV->List Ob->Prop),(s.length=2\/s.length=3)->s.getD 0 0=101->¬(s.length=3/\s.getD 1 0=48)->(Q 0 [.v (.int .i64 (zI s))] []) ->
  ek Tryz.prog 49 (.loop B8 zW [.v (.string (mk s)),.v (.int .i64 0),.v (.int .i64 1)] [] (fun y2 q2=>.ak (LK.has (.int .i64) (y2.headD .any))<|.done 0 [.v (.int .i64 ((y2.headD .any).toInt))] []) (fun y2 q2=>.ak (LK.has (.int .i64) (y2.headD .any))<|.done 0 [.v (.int .i64 ((y2.headD .any).toInt))] [])) Q:=by
  intro Q hl h0 h1 hQ
  have e:e9 s=xJ (s.drop 1) 0:=by rw[e9,if_pos hl,if_pos ⟨h0,h1⟩]
  refine gK (JC s (by omega) (s.length-1) 1 0 (by omega) (by omega) (by rcases hl with h|h<;>rw[h]<;>decide)) (fun ys o e'=>?_) (fun ys o e'=>?_)
  ·cases hq:xJ (s.drop 1) 0<;>rw[hq]at e'<;>cases e'
   rw[hq]at e
   simp only[zI,e]at hQ
   simp only[↓zq,zs,ae];exact hQ
  ·cases hq:xJ (s.drop 1) 0<;>rw[hq]at e'<;>cases e'
   rw[hq]at e
   simp only[zI,e]at hQ
   simp only[↓zq,zs,ae];exact hQ
 have hz:∀{i:Nat},i<s.length->bt (mk s) (i:Int)=((s.getD i 0).toNat:Int):=fun h=>k9 s _ h
 refine⟨fun h=>?_,fun h=>⟨?_,fun h0=>?_,fun h0=>⟨fun h3=>⟨by omega,fun h1=>?_,fun h1=>?_⟩,fun h3=>?_⟩⟩⟩
 ·have h':¬(2<=(s.length:Int)/\(s.length:Int)<=3):=by simpa using h
  rw[zI,e9,if_neg (by omega)]
 ·have h':2<=(s.length:Int)/\(s.length:Int)<=3:=by simpa using h
  omega
 ·have h':2<=(s.length:Int)/\(s.length:Int)<=3:=by simpa using h
  have e0:=hz (i:=0) (by omega)
  simp only[cA,cO]at e0
  rw[e0]at h0
  rw[zI,e9,if_pos (by omega),if_neg]
  rintro⟨e,_⟩
  rw[e]at h0;exact h0 rfl
 ·have h':2<=(s.length:Int)/\(s.length:Int)<=3:=by simpa using h
  have e1:=hz (i:=1) (by omega)
  simp only[cA,cO]at e1
  rw[e1]at h1
  rw[zI,e9,if_pos (by omega),if_neg]
  rintro⟨_,e⟩
  refine e ⟨by omega,?_⟩
  rw[<-du];show (s.getD 1 0).toNat=48;omega
 ·have h':2<=(s.length:Int)/\(s.length:Int)<=3:=by simpa using h
  have e0:=hz (i:=0) (by omega)
  have e1:=hz (i:=1) (by omega)
  simp only[cA,cO]at e0 e1
  rw[e0]at h0;rw[e1]at h1
  refine hL _ (by omega) ?_ ?_ ⟨rfl,rfl⟩
  ·rw[<-du];show (s.getD 0 0).toNat=101;omega
  ·rintro⟨_,e⟩;rw[e]at h1;exact h1 rfl
 ·have h':2<=(s.length:Int)/\(s.length:Int)<=3:=by simpa using h
  have e0:=hz (i:=0) (by omega)
  simp only[cA,cO]at e0
  rw[e0]at h0
  refine hL _ (by omega) ?_ ?_ ⟨rfl,rfl⟩
  ·rw[<-du];show (s.getD 0 0).toNat=101;omega
  ·rintro⟨e,_⟩;omega
theorem nh:∀(l:List UInt8) (n:Nat),(xJ l n).isSome=l.all gv
 |[],n=>rfl
 |
  b::l,n=>by
  rw[xJ]
  cases hb:gv b with
  |true=>rw[if_pos rfl,nh l];simp[hb]
  |false=>rw[if_neg (by simp)];simp[hb]
theorem HQ(s:List UInt8):au Tryz.prog 154 [.v (.string (mk s))] [] (bK (.v (.bool (e9 s).isSome))):=by
 refine MO _ ?_
 simp only[Hs,↓zq,zs,ae,zt,bK]
 have hz:∀{i:Nat},i<s.length->bt (mk s) (i:Int)=((s.getD i 0).toNat:Int):=fun h=>k9 s _ h
 refine⟨fun h=>?_,fun h=>⟨fun h3=>?_,fun h3=>?_⟩⟩
 ·rw[e9,if_neg (by omega)];rfl
 ·rw[e9,if_neg (by omega)];rfl
 ·have e0:=hz (i:=0) (by omega)
  have e1:=hz (i:=1) (by omega)
  simp only[cA,cO]at e0 e1
  rw[e0,e1]
  have hx:s.drop (bE 1)=s.drop 1:=rfl
  refine⟨by omega,fun h0=>?_,fun h0=>⟨by omega,?_⟩⟩
  ·rw[e9,if_pos (by omega),if_neg]
   ·rfl
   ·rintro⟨e,_⟩;rw[e]at h0;exact h0 rfl
  ·rw[hx]
   refine an (Ib (s.drop 1) Dm (by simp;omega) (by decide) (by decide)) ?_
   simp only[↓zq,zs,ae,zt]
   have h101:s.getD 0 0=101:=by rw[<-du];show (s.getD 0 0).toNat=101;omega
   have hall:Lib.trimS (s.drop 1) Dm=[]↔(s.drop 1).all gv=true:=by
    rw[rI]
    have:(fun x=>Dm.contains x)=gv:=funext uu
    rw[this]
   refine⟨fun ht=>?_,fun ht=>⟨fun h2=>?_,fun h2=>⟨by omega,?_⟩⟩⟩
   ·have:(s.drop 1).all gv=false:=by
     cases hq:(s.drop 1).all gv with
     |false=>rfl
     |true=>exact absurd (hall.2 hq) ht
    rw[e9,if_pos (by omega)]
    split
    ·rw[nh,this]
    ·rfl
   ·have hq:=hall.1 ht
    rw[e9,if_pos (by omega),if_pos ⟨h101,by omega⟩,nh,hq]
   ·have hq:=hall.1 ht
    rw[e9,if_pos (by omega)]
    by_cases h48:s.getD 1 0=48
    ·rw[if_neg (by rintro⟨_,e⟩;exact e ⟨by omega,h48⟩),h48];rfl
    ·rw[if_pos ⟨h101,fun e=>h48 e.2⟩,nh,hq]
     have:¬((s.getD 1 0).toNat:Int)=48:=fun e=>h48 (by rw[<-du];show (s.getD 1 0).toNat=48;omega)
     rw[bne_iff_ne.2 this]
theorem sr{s:List UInt8}{k:Nat}(h:e9 s=some k):s=vG k/\k<100:=by
 have key1:∀a:Fin 256,gv (aZ a.val)=true->xJ [aZ a.val] 0=some ((aZ a.val).toNat-48)/\(aZ a.val).toNat-48<10/\[aZ a.val]=[aZ (48+((aZ a.val).toNat-48))]:=by decide +kernel
 unfold e9 at h
 split at h
 ·rename_i hl
  split at h
  ·rename_i hh
   obtain⟨h0,h1⟩:=hh
   rcases hl with hl|hl
   ·match s,hl with
    |
     [c,a],_ =>
     simp only[bb]at h0
     subst h0
     simp only[List.drop_succ_cons,aV,xJ]at h
     split at h
     ·rename_i ha
      have:=key1 ⟨a.toNat,a.toNat_lt⟩ (by simpa using ha)
      simp only[UInt8.ofNat_toNat]at this
      cases h
      refine⟨?_,by omega⟩
      rw[vG,eH (by omega)]
      simp only[Nat.mul_zero,aP]
      rw[<-this.2.2]
     ·cases h
   ·match s,hl with
    |
     [c,a,b],_ =>
     simp only[bb,List.getD_cons_succ,aw,aG,true_and]at h0 h1
     subst h0
     simp only[List.drop_succ_cons,aV,xJ]at h
     split at h
     ·rename_i ha
      split at h
      ·rename_i hb
       have k1:=key1 ⟨a.toNat,a.toNat_lt⟩ (by simpa using ha)
       have k2:=key1 ⟨b.toNat,b.toNat_lt⟩ (by simpa using hb)
       simp only[UInt8.ofNat_toNat]at k1 k2
       have ha':48<=a.toNat/\a.toNat<=57:=by simpa[gv]using ha
       have hb':48<=b.toNat/\b.toNat<=57:=by simpa[gv]using hb
       have h48:a.toNat≠48:=fun e=>h1 (by rw[<-du];simpa using e)
       cases h
       simp only[Nat.mul_zero,aP]
       refine⟨?_,by omega⟩
       rw[vG,fu (by omega),eH (by omega)]
       have e1:(10*(a.toNat-48)+(b.toNat-48))/10=a.toNat-48:=by omega
       have e2:(10*(a.toNat-48)+(b.toNat-48))%10=b.toNat-48:=by omega
       rw[e1,e2,<-k1.2.2,<-k2.2.2];rfl
      ·cases h
     ·cases h
  ·cases h
 ·cases h
theorem tF(k:Nat)(h:k<100):e9 (vG k)=some k:=by
 have e:∀k,k<100->dd k=if k<10 then [aZ (48+k)]else [aZ (48+k/10),aZ (48+k%10)]:=by
  intro k hk
  by_cases h1:k<10
  ·rw[eH h1,if_pos h1]
  ·rw[fu h1,eH (by omega),if_neg h1];rfl
 have key:∀k:Fin 100,e9 (101::(if k.val<10 then [aZ (48+k.val)]else [aZ (48+k.val/10),aZ (48+k.val%10)]))=some k.val:=by decide +kernel
 rw[vG,e k h];exact key ⟨k,h⟩
theorem EX(k:Nat)(h:k<100):zI (vG k)=(k:Int):=by rw[zI,tF k h]
def we:E->Bool
 | .atom s=>(s==[117])||(e9 s).isSome
 | .list [x,a]=>((x.at==[108])||(x.at==[114])||(x.at==[102]))&&we a
 | .list [x,a,b]=>(x.at==[112])&&(we a&&we b)
 | .list _=>false
def eZ:E->Option Vl
 | .atom s=>if s=[117]then some .u else match e9 s with|some k=>some (.el k)|none=>none
 |
  .list [x,a]=>match eZ a with
  |none=>none
  |some v=>if x.at=[108]then some (.l v)else if x.at=[114]then some (.r v)else if x.at=[102]then some (.f v)else none
 | .list [x,a,b]=>if x.at=[112]then(match eZ a,eZ b with|some v,some w=>some (.p v w)|_,_=>none)else none
 | .list _=>none
theorem nU:∀e:E,(eZ e).isSome=we e
 |
  .atom s=>by
  simp only[eZ,we]
  by_cases h:s=[117]
  ·simp[h]
  ·rw[if_neg h];cases e9 s<;>simp[h]
 | .list []=>rfl
 | .list [_]=>rfl
 |
  .list [x,a]=>by
  have ha:=nU a
  rw[eZ,we,<-ha]
  cases eZ a with
  |none=>simp
  |
   some v =>
   by_cases h1:x.at=[108]
   ·simp[h1]
   ·by_cases h2:x.at=[114]
    ·simp[h2]
    ·by_cases h3:x.at=[102]
     ·simp[h3]
     ·simp[h1,h2,h3]
 |
  .list [x,a,b]=>by
  have ha:=nU a
  have hb:=nU b
  rw[eZ,we,<-ha,<-hb]
  by_cases h1:x.at=[112]
  ·rw[if_pos h1,h1];cases eZ a<;>cases eZ b<;>rfl
  ·simp[h1]
 | .list (_::_::_::_::_)=>rfl
theorem jP{x:E}{w:List UInt8}(h:x.at=w)(hw:w≠[]):x=.atom w:=by
 cases x with
 |atom s=>exact congrArg E.atom h
 |list l=>exact absurd h.symm hw
theorem ko:∀(e:E) (v:Vl),eZ e=some v->v.dh=e/\v.iK 100
 |
  .atom s,v,h=>by
  simp only[eZ]at h
  split at h
  ·rename_i h1;cases h;exact⟨by rw[h1];rfl,trivial⟩
  ·split at h
   ·rename_i k hk
    cases h
    obtain⟨h1,h2⟩:=sr hk
    exact⟨by rw[h1];rfl,h2⟩
   ·cases h
 | .list [],_,h=>by cases h
 | .list [_],_,h=>by cases h
 | .list (_::_::_::_::_),_,h=>by cases h
 |
  .list [x,a],v,h=>by
  rw[eZ]at h
  split at h
  ·cases h
  ·rename_i w hw
   obtain⟨h1,h2⟩:=ko a w hw
   split at h
   ·rename_i hx;cases h;rw[jP hx (by simp)];exact⟨by rw[Vl.dh,h1],h2⟩
   ·split at h
    ·rename_i hx;cases h;rw[jP hx (by simp)];exact⟨by rw[Vl.dh,h1],h2⟩
    ·split at h
     ·rename_i hx;cases h;rw[jP hx (by simp)];exact⟨by rw[Vl.dh,h1],h2⟩
     ·cases h
 |
  .list [x,a,b],v,h=>by
  rw[eZ]at h
  split at h
  ·rename_i hx
   split at h
   ·rename_i w1 w2 hw1 hw2
    cases h
    obtain⟨h1,h2⟩:=ko a w1 hw1
    obtain⟨h3,h4⟩:=ko b w2 hw2
    rw[jP hx (by simp)]
    exact⟨by rw[Vl.dh,h1,h3],h2,h4⟩
   ·cases h
  ·cases h
def oY(e:E)(w:List UInt8)(k:Nat):Bool:=match e with| .list (x::l)=>decide (l.length+1=k)&&(x.at==w)|_=>false
theorem rD(e:E)(w:List UInt8)(k:Nat)(hk:1<=k):au Tryz.prog 147 [e.cF,.v (.string (mk w)),.v (.int .i64 (k:Int))] [] (bK (.v (.bool (oY e w k)))):=by
 refine H0 _ _ _ ((cD e).mpr trivial) ?_
 cases e with
 |atom s=>simp only[yu,E.cF,↓zq,zs,ae,zt,bK,oY];exact⟨by omega,fun h=>by omega,fun _=>trivial⟩
 |
  list l =>
  simp only[yu,E.cF,↓zq,zs,ae,zt,bK,qw]
  cases l with
  |nil=>exact⟨by simp,fun h=>by simp at h;omega,fun _=>rfl⟩
  |
   cons x l =>
   simp only[aw]
   refine⟨by simp,fun h=>?_,fun h=>?_⟩
   ·have:decide (l.length+1=k)=true:=by rw[decide_eq_true_eq];omega
    simp only[oY,this]
    cases x<;>simp[E.lg,E.cF,dO,oj,ja,eI,tb,toList_mk,E.at]
   ·have:decide (l.length+1=k)=false:=by rw[decide_eq_false_iff_not];omega
    simp only[oY,this];rfl
def iZ:Option Vl->AV
 |some v=>v.cF
 |none=>.v (.pointer none)
end Go.Proofs.Trees
namespace Go.Proofs.Trees
open Go Go.VL Go.RowKit
theorem iH(v:Option Vl):LK.has .ptr (iZ v)=True:=by cases v<;>simp[iZ,aW,jO]
theorem xK:∀(e:E),e.ok->au Tryz.prog 123 [e.cF] [] (bK (iZ (eZ e)))
 |
  .atom s,hok=>by
  refine Hf _ ((cD _).mpr trivial) ?_
  have hd:=mK (.atom s)
  have hlen:=kz (.atom s)
  simp only[E.at]at hd
  simp only[Eu,↓zq,zs,ae,zt,bK,cD,dI,hd,eZ]
  refine⟨hlen,fun h=>?_,fun h=>⟨hlen,?_⟩⟩
  ·rw[if_pos h];rfl
  ·rw[if_neg h]
   refine an (HQ s) ?_
   simp only[↓zq,zs,ae,zt]
   refine⟨fun he=>⟨hlen,?_⟩,fun he=>?_⟩
   ·obtain⟨k,hk⟩:=bF.1 he
    obtain⟨h1,h2⟩:=sr hk
    rw[hk,h1];rfl
   ·have hn:e9 s=none:=by cases hq:e9 s<;>simp[hq]at he |-
    rw[hn]
    refine an (rD (.atom s) [108] 2 (by omega)) ?_
    simp only[oY,↓zq,zs,ae,zf]
    refine⟨fun h=>(by cases h),fun _=>an (rD (.atom s) [114] 2 (by omega)) ?_⟩
    simp only[oY,↓zq,zs,ae,zf]
    refine⟨fun h=>(by cases h),fun _=>an (rD (.atom s) [102] 2 (by omega)) ?_⟩
    simp only[oY,↓zq,zs,ae,zf]
    refine⟨fun h=>(by cases h),fun _=>an (rD (.atom s) [112] 3 (by omega)) ?_⟩
    simp only[oY,↓zq,zs,ae,zf]
    exact⟨fun h=>(by cases h),fun _=>rfl⟩
 |
  .list l,hok=>by
  refine Hf _ ((cD _).mpr trivial) ?_
  have hd:=mK (.list l)
  have hlen:=kz (.list l)
  have hlen2:∀{l:List E},((AV.v (.string (mk [])))::[AV.sl (E.lg l)]).length=2:=rfl
  simp only[E.at]at hd
  have he:e9 []=none:=rfl
  simp only[Eu,↓zq,zs,ae,zt,bK,cD,dI,hd]
  refine⟨hlen,fun h=>(by cases h),fun h=>⟨hlen,?_⟩⟩
  refine an (HQ []) ?_
  rw[he]
  simp only[↓zq,zs,ae,zt,zf,Option.isSome_none]
  refine⟨fun h=>(by cases h),fun _=>an (rD (.list l) [108] 2 (by omega)) ?_⟩
  have hno:∀w:List UInt8,(∀x a,l≠[x,a])->oY (.list l) w 2=false:=by
   intro w h2
   match l,h2 with
   |[],_=>rfl
   |[x],_=>rfl
   |[x,a],h2=>exact absurd rfl (h2 x a)
   |x::y::z::l,_=>simp[oY]
  match l,hok,hno,hlen with
  |
   [x,a],hok,hno,hlen =>
   clear hno
   obtain⟨ok1,ok2,_⟩:=hok
   have e2:∀w:List UInt8,oY (.list [x,a]) w 2=(x.at==w):=fun w=>rfl
   have e3:oY (.list [x,a]) [112] 3=false:=rfl
   have hx:=mK x
   have hxl:=kz x
   rw[eZ]
   simp only[e2,↓zq,zs,ae]
   refine⟨fun h1=>?_,fun h1=>an (rD (.list [x,a]) [114] 2 (by omega)) ?_⟩
   ·simp only[E.cF,E.lg,toNat_one,↓zq,zs,ae,zt,cD,dI]
    refine⟨by omega,by omega,by omega,an (xK a ok2) ?_⟩
    cases hv:eZ a with
    |none=>simp only[iZ,↓zq,zs,ae,iH];exact⟨fun _=>trivial,fun h=>(by cases h)⟩
    |
     some v =>
     simp only[iZ,↓zq,zs,ae,zt,aW,gG,hx,h1,cD,dI]
     refine⟨fun h=>(by cases h),fun _=>⟨by omega,by omega,by omega,hxl,by simp,?_⟩⟩
     rfl
   ·simp only[e2,↓zq,zs,ae]
    refine⟨fun h2=>?_,fun h2=>an (rD (.list [x,a]) [102] 2 (by omega)) ?_⟩
    ·simp only[E.cF,E.lg,toNat_one,↓zq,zs,ae,zt,cD,dI]
     refine⟨by omega,by omega,by omega,an (xK a ok2) ?_⟩
     cases hv:eZ a with
     |none=>simp only[iZ,↓zq,zs,ae,iH];exact⟨fun _=>trivial,fun h=>(by cases h)⟩
     |
      some v =>
      simp only[iZ,↓zq,zs,ae,zt,aW,gG,hx,h2,cD,dI]
      refine⟨fun h=>(by cases h),fun _=>⟨by omega,by omega,by omega,hxl,by simp,?_⟩⟩
      rfl
    ·simp only[e2,↓zq,zs,ae]
     refine⟨fun h3=>?_,fun h3=>an (rD (.list [x,a]) [112] 3 (by omega)) ?_⟩
     ·simp only[E.cF,E.lg,toNat_one,↓zq,zs,ae,zt,cD,dI]
      refine⟨by omega,by omega,by omega,an (xK a ok2) ?_⟩
      cases hv:eZ a with
      |none=>simp only[iZ,↓zq,zs,ae,iH];exact⟨fun _=>trivial,fun h=>(by cases h)⟩
      |
       some v =>
       simp only[iZ,↓zq,zs,ae,zt,aW,gG,hx,h3,cD,dI]
       refine⟨fun h=>(by cases h),fun _=>⟨by omega,by omega,by omega,hxl,by simp,?_⟩⟩
       rfl
     ·rw[e3]
      simp only[↓zq,zs,ae]
      refine⟨fun h=>(by cases h),fun _=>?_⟩
      cases eZ a with
      |none=>rfl
      |some v=>simp only[if_neg h1,if_neg h2,if_neg h3];rfl
  |
   [x,a,b],hok,hno,hlen =>
   obtain⟨ok1,ok2,ok3,_⟩:=hok
   have h2:=fun w=>hno w (fun x a h=>(by cases h))
   rw[h2]
   simp only[↓zq,zs,ae]
   refine⟨fun h=>(by cases h),fun _=>an (rD (.list [x,a,b]) [114] 2 (by omega)) ?_⟩
   rw[h2]
   simp only[↓zq,zs,ae]
   refine⟨fun h=>(by cases h),fun _=>an (rD (.list [x,a,b]) [102] 2 (by omega)) ?_⟩
   rw[h2]
   simp only[↓zq,zs,ae]
   refine⟨fun h=>(by cases h),fun _=>an (rD (.list [x,a,b]) [112] 3 (by omega)) ?_⟩
   have e3:oY (.list [x,a,b]) [112] 3=(x.at==[112]):=rfl
   rw[e3,eZ]
   simp only[↓zq,zs,ae]
   refine⟨fun h1=>?_,fun h1=>?_⟩
   ·rw[if_pos h1]
    simp only[E.cF,E.lg,toNat_one,bj,↓zq,zs,ae,zt,cD,dI]
    refine⟨by omega,by omega,by omega,an (xK a ok2) ?_⟩
    simp only[↓zq,zs,ae,iH,cD]
    refine⟨by omega,by omega,by omega,an (xK b ok3) ?_⟩
    cases hv:eZ a with
    |none=>cases hw:eZ b<;>simp only[iZ,↓zq,zs,ae,iH,aW]<;>exact⟨fun _=>trivial,fun h=>(by cases h)⟩
    |
     some v =>
     cases hw:eZ b with
     |
      none =>
      simp only[iZ,↓zq,zs,ae,iH,aW,gG]
      exact⟨fun h=>(by cases h),fun _=>⟨fun _=>trivial,fun h=>(by cases h)⟩⟩
     |
      some w =>
      simp only[iZ,↓zq,zs,ae,aW,gG]
      refine⟨fun h=>(by cases h),fun _=>⟨fun h=>(by cases h),fun _=>?_⟩⟩
      refine an (Be _ _ ((aW _).mpr trivial) ((aW _).mpr trivial)) ?_
      simp only[↓zq,zs,ae];rfl
   ·rw[if_neg h1];rfl
  |
   [],hok,hno,hlen =>
   have h2:=fun w=>hno w (fun x a h=>(by cases h))
   have e3:oY (.list []) [112] 3=false:=rfl
   rw[h2]
   simp only[↓zq,zs,ae]
   refine⟨fun h=>(by cases h),fun _=>an (rD (.list []) [114] 2 (by omega)) ?_⟩
   rw[h2]
   simp only[↓zq,zs,ae]
   refine⟨fun h=>(by cases h),fun _=>an (rD (.list []) [102] 2 (by omega)) ?_⟩
   rw[h2]
   simp only[↓zq,zs,ae]
   refine⟨fun h=>(by cases h),fun _=>an (rD (.list []) [112] 3 (by omega)) ?_⟩
   rw[e3]
   simp only[↓zq,zs,ae]
   exact⟨fun h=>(by cases h),fun _=>rfl⟩
  |
   [x],hok,hno,hlen =>
   have h2:=fun w=>hno w (fun x a h=>(by cases h))
   have e3:oY (.list [x]) [112] 3=false:=rfl
   rw[h2]
   simp only[↓zq,zs,ae]
   refine⟨fun h=>(by cases h),fun _=>an (rD (.list [x]) [114] 2 (by omega)) ?_⟩
   rw[h2]
   simp only[↓zq,zs,ae]
   refine⟨fun h=>(by cases h),fun _=>an (rD (.list [x]) [102] 2 (by omega)) ?_⟩
   rw[h2]
   simp only[↓zq,zs,ae]
   refine⟨fun h=>(by cases h),fun _=>an (rD (.list [x]) [112] 3 (by omega)) ?_⟩
   rw[e3]
   simp only[↓zq,zs,ae]
   exact⟨fun h=>(by cases h),fun _=>rfl⟩
  |
   x::y::z::w::l,hok,hno,hlen =>
   have h2:=fun w=>hno w (fun x a h=>(by cases h))
   have e3:oY (.list (x::y::z::w::l)) [112] 3=false:=by simp[oY]
   rw[h2]
   simp only[↓zq,zs,ae]
   refine⟨fun h=>(by cases h),fun _=>an (rD (.list (x::y::z::w::l)) [114] 2 (by omega)) ?_⟩
   rw[h2]
   simp only[↓zq,zs,ae]
   refine⟨fun h=>(by cases h),fun _=>an (rD (.list (x::y::z::w::l)) [102] 2 (by omega)) ?_⟩
   rw[h2]
   simp only[↓zq,zs,ae]
   refine⟨fun h=>(by cases h),fun _=>an (rD (.list (x::y::z::w::l)) [112] 3 (by omega)) ?_⟩
   rw[e3]
   simp only[↓zq,zs,ae]
   exact⟨fun h=>(by cases h),fun _=>rfl⟩
def rb(s:List UInt8):Option Vl:=match pP s with
 |none=>none
 |
  some e=>match eZ e with
  |none=>none
  |some v=>if v.nodes>200 then none else some v
theorem kD{s:List UInt8}{v:Vl}(h:rb s=some v):pP s=some v.dh/\v.iK 100/\v.nodes<=200:=by
 unfold rb at h
 split at h
 ·cases h
 ·rename_i e he
  split at h
  ·cases h
  ·rename_i w hw
   split at h
   ·cases h
   ·cases h
    obtain⟨h1,h2⟩:=ko e _ hw
    rw[h1]
    exact⟨he,h2,by omega⟩
theorem ve{e:E}{v:Vl}(h:eZ e=some v):v.nodes<=e.sz:=by
 obtain⟨h1,_⟩:=ko e v h
 rw[<-mR,h1];exact zH e
theorem LU(s:List UInt8):au Tryz.prog 88 [.v (.string (mk s))] [] (bK (iZ (rb s))):=by
 refine Oc _ ?_
 unfold HT
 refine an (Hw s) ?_
 unfold rb
 cases he:pP s with
 |none=>simp only[s4,↓zq,zs,ae,bK,iZ];simp
 |
  some e =>
  obtain⟨h1,h2⟩:=mT he
  simp only[s4,↓zq,zs,ae,cD,dI]
  refine⟨fun h=>(by cases h),fun _=>?_⟩
  refine an (xK e h1) ?_
  cases hv:eZ e with
  |none=>simp only[iZ,↓zq,zs,ae,bK];simp
  |
   some v =>
   have hn:=ve hv
   simp only[iZ,↓zq,zs,ae,aW,gG]
   refine⟨fun h=>(by cases h),fun _=>?_⟩
   refine an (F2 v (by omega)) ?_
   simp only[↓zq,zs,ae,bK]
   refine⟨fun h=>?_,fun h=>?_⟩
   ·rw[if_pos (by omega)]
   ·rw[if_neg (by omega)]
theorem xQ:∀(e:E),e.ok->au Tryz.prog 74 [e.jX] [] (bK (.v (.bool (we e))))
 |
  .atom s,hok=>by
  refine xy _ _ ((bg).mpr trivial) ?_
  have hne:s≠[]:=hok
  simp only[C6,↓zq,zs,ae,zt,bK,we]
  refine⟨fun _=>⟨fun h=>?_,fun h=>?_⟩,fun h=>absurd h hne⟩
  ·simp[h]
  ·refine an (Gw s) ?_
   have h':(s==[117])=false:=by simpa using h
   simp only[↓zq,zs,ae,h',Bool.false_or]
   congr 2
   rw[zI]
   cases e9 s with
   |none=>rfl
   |some k=>simp
 |
  .list [],hok=>by
  refine xy _ _ ((bU _).mpr trivial) ?_
  simp only[C6,↓zq,zs,ae,zt,bK,we]
  refine⟨fun h=>absurd rfl h,fun _=>?_⟩
  refine an Lk ?_
  simp[↓zq,zs,ae,zt]
 |
  .list [x],hok=>by
  refine xy _ _ ((bU _).mpr trivial) ?_
  simp only[C6,↓zq,zs,ae,zt,bK,we]
  refine⟨fun h=>absurd rfl h,fun _=>?_⟩
  refine an (uT x _) ?_
  simp[↓zq,zs,ae,zt,E.bc]
 |
  .list (x::y::z::w::l),hok=>by
  refine xy _ _ ((bU _).mpr trivial) ?_
  simp only[C6,↓zq,zs,ae,zt,bK,we]
  refine⟨fun h=>absurd rfl h,fun _=>?_⟩
  refine an (uT x _) ?_
  simp only[↓zq,zs,ae,zt,E.bc]
  refine⟨fun _=>⟨fun h=>by omega,fun _=>trivial⟩,fun _=>⟨fun _=>⟨fun h=>by omega,fun _=>trivial⟩,fun _=>⟨fun _=>⟨fun h=>by omega,fun _=>trivial⟩,fun _=>⟨fun _=>⟨fun h=>by omega,fun _=>trivial⟩,fun _=>trivial⟩⟩⟩⟩
 |
  .list [x,a],hok=>by
  refine xy _ _ ((bU _).mpr trivial) ?_
  obtain⟨ok1,ok2,_⟩:=hok
  simp only[C6,↓zq,zs,ae,zt,bK,we]
  refine⟨fun h=>absurd rfl h,fun _=>?_⟩
  refine an (uT x _) ?_
  simp only[E.bc,toNat_one,bj,↓zq,zs,ae,zt,ii,fE,hD,lG,ap]
  refine⟨fun h=>⟨fun _=>⟨by omega,?_⟩,fun h=>by omega⟩,fun h1=>⟨fun h=>⟨fun _=>⟨by omega,?_⟩,fun h=>by omega⟩,fun h2=>⟨fun h=>⟨fun _=>⟨by omega,?_⟩,fun h=>by omega⟩,fun h3=>⟨fun h=>⟨fun h=>by omega,fun _=>?_⟩,fun h=>?_⟩⟩⟩⟩
  ·refine an (xQ a ok2) ?_
   simp[↓zq,zs,ae,h]
  ·refine an (xQ a ok2) ?_
   simp[↓zq,zs,ae,h]
  ·refine an (xQ a ok2) ?_
   simp[↓zq,zs,ae,h]
  ·simp[h]
  ·simp[h1,h2,h3]
 |
  .list [x,a,b],hok=>by
  refine xy _ _ ((bU _).mpr trivial) ?_
  obtain⟨ok1,ok2,ok3,_⟩:=hok
  simp only[C6,↓zq,zs,ae,zt,bK,we]
  refine⟨fun h=>absurd rfl h,fun _=>?_⟩
  refine an (uT x _) ?_
  simp only[E.bc,toNat_one,bj,↓zq,zs,ae,zt,ii,fE,hD,lG,ap]
  refine⟨fun h=>⟨fun h=>by omega,fun _=>?_⟩,fun h1=>⟨fun h=>⟨fun h=>by omega,fun _=>?_⟩,fun h2=>⟨fun h=>⟨fun h=>by omega,fun _=>?_⟩,fun h3=>⟨fun h=>⟨fun _=>⟨by omega,?_⟩,fun h=>by omega⟩,fun h=>?_⟩⟩⟩⟩
  ·simp[h]
  ·simp[h]
  ·simp[h]
  ·refine an (xQ a ok2) ?_
   simp only[↓zq,zs,ae,h]
   refine⟨fun ha=>⟨by omega,an (xQ b ok3) ?_⟩,fun ha=>?_⟩
   ·simp[↓zq,zs,ae,ha]
   ·simp[ha]
  ·simp[h]
theorem Il(s:List UInt8):au Tryz.prog 47 [.v (.string (mk s))] [] (l4 ((rb s).map Vl.dh) (rb s).isSome):=by
 refine NO _ ?_
 unfold IQ
 refine aU (HG s) (l4.ne _ _ (fun h=>h)) ?_
 rintro r o ⟨c,d,hd,rfl,hh⟩
 simp only[↓zq,zs,ae,zt,bY,rb]
 refine⟨hd,fun h=>?_,fun h=>?_⟩
 ·obtain⟨e,he,hce⟩:=hh h
  obtain⟨hok,hsz⟩:=mT he
  rw[he,hce]
  refine an (xQ e hok) ?_
  simp only[↓zq,zs,ae]
  have hs:=nU e
  refine⟨fun hi=>?_,fun hi=>?_⟩
  ·rw[hi]at hs
   obtain⟨v,hv⟩:=bF.1 hs
   obtain⟨h1,h2⟩:=ko e v hv
   refine an (LB e (by omega)) ?_
   simp only[↓zq,zs,ae,hv]
   have hnd:e.nd=v.nodes:=by rw[<-h1,mR]
   rw[hnd]
   refine⟨c,d,hd,?_,?_⟩
   ·rw[hce]
    by_cases h4:v.nodes>200
    ·rw[if_pos h4];exact congrArg (fun b=>AV.da [e.jX,.v (.bool b)]) (decide_eq_false (show ¬((v.nodes:Nat):Int)<=200 by omega))
    ·rw[if_neg h4];exact congrArg (fun b=>AV.da [e.jX,.v (.bool b)]) (decide_eq_true (show ((v.nodes:Nat):Int)<=200 by omega))
   ·split
    ·exact fun h=>by cases h
    ·exact fun _=>⟨e,by simp[h1],hce⟩
  ·rw[hi]at hs
   have hn:eZ e=none:=by cases hq:eZ e<;>simp[hq]at hs |-
   rw[hn]
   exact⟨c,d,hd,by rw[hce];rfl,fun h=>by cases h⟩
 ·have hn:pP s=none:=by cases hq:pP s<;>simp[hq]at h |-
  rw[hn]
  exact⟨c,d,hd,rfl,fun h=>by cases h⟩
end Go.Proofs.Trees
namespace Go.Proofs.Trees
open Go Go.VL Go.RowKit
def Oj(n:Nat):AV->List Ob->Prop:=fun r o=>∃x:Int,r=.v (.int .i64 x)/\(0<=x->n<=1048576)
theorem Oj.ne(n:Nat):∃r o,Oj n r o:=⟨_,[],-1,rfl,fun h=>by omega⟩
end Go.Proofs.Trees
namespace Go.Proofs.Trees
open Go Go.VL Go.RowKit
inductive Fr where
 |mk (s:List UInt8) (e:E) (o:List Fr)
def Fr.nm:Fr->List UInt8| .mk s _ _=>s
def Fr.ex:Fr->E| .mk _ e _=>e
def Fr.out:Fr->List Fr| .mk _ _ o=>o
def names:List Fr->List (List UInt8)
 |[]=>[]
 |f::r=>names r++[f.nm]
def wt(e:E)(o:List Fr):Ty:=(cz e (names o)).getD .zero
def E.sp:E->AV
 | .atom _=>.v (.slice none 0 0)
 | .list l=>.sl (E.bc l)
theorem ic(e:E):e.gF=[.v (.string (mk e.at)),e.sp]:=by cases e<;>rfl
theorem dU(e:E):e.jX=.agg [.v (.string (mk e.at)),e.sp]:=by cases e<;>rfl
theorem a8(e:E):LK.has .sl e.sp=True:=by cases e<;>simp[E.sp,bg,bU]
mutual
def Fr.cells:Fr->List AV
 | .mk s e o=>[.v (.string (mk s)),.v (.string (mk e.at)),e.sp,.sl (jE o)]
def jE:List Fr->List (List AV)
 |[]=>[]
 |f::r=>jE r++[f.cells]
end
mutual
def Fr.cF:Fr->AV
 | .mk s e o=>.ptr [(wt e o).av,na o]
def na:List Fr->AV
 |[]=>j6
 |f::r=>.ptr [f.cF,na r]
end
inductive WF:List Fr->Prop
 |nil:WF []
 |cons {s:List UInt8} {x a b:E} {t:Ty} {r:List Fr} (hs:cK s=true) (hok:(E.list [x,a,b]).ok) (hx:x.at=[114,101,99]) (ht:cz (.list [x,a,b]) (names r)=some t) (hf:bG t=false) (hr:WF r):WF (.mk s (.list [x,a,b]) r::r)
theorem kb:∀env:List Fr,(jE env).length=env.length
 |[]=>rfl
 |f::r=>by simp[jE,kb r]
theorem dM(env:List Fr):LK.has .ptr (na env)=True:=by cases env<;>simp[na,jO,dO]
theorem yH(f:Fr):LK.has .ptr f.cF=True:=by cases f;simp[Fr.cF,dO]
def fo(s:List UInt8):List Fr->Option Fr
 |[]=>none
 |f::r=>if f.nm=s then some f else fo s r
def hd(e:E)(env:List Fr):E×List Fr:=match fo e.at env with|some f=>(f.ex,f.out)|none=>(e,env)
theorem ma{env:List Fr}(h:WF env):fo [] env=none:=by
 induction h with
 |nil=>rfl
 |
  @cons s x a b t r hs hok hx ht hf hr ih =>
  rw[fo,if_neg (show ¬(Fr.mk s (.list [x,a,b]) r).nm=[] from zV hs)];exact ih
theorem xZ{env:List Fr}(h:WF env){s:List UInt8}{f:Fr}(hf:fo s env=some f):cK s=true:=by
 induction h with
 |nil=>cases hf
 |
  cons hs hok hx ht hf' hr ih =>
  rw[fo]at hf
  split at hf
  ·rename_i e;exact e ▸ hs
  ·exact ih hf
theorem nw{env:List Fr}(h:WF env){s:List UInt8}{f:Fr}(hf:fo s env=some f):∃x a b t,f.ex=.list [x,a,b]/\(E.list [x,a,b]).ok/\x.at=[114,101,99]/\cz f.ex (names f.out)=some t/\bG t=false/\WF f.out/\f.out.length<env.length:=by
 induction h with
 |nil=>cases hf
 |
  cons hs hok hx ht hf' hr ih =>
  rw[fo]at hf
  split at hf
  ·cases hf;exact⟨_,_,_,_,rfl,hok,hx,ht,hf',hr,by simp[Fr.out]⟩
  ·obtain⟨x,a,b,t,h1,h2,h3,h4,h5,h6,h7⟩:=ih hf
   exact⟨x,a,b,t,h1,h2,h3,h4,h5,h6,by simp;omega⟩
theorem jR(s w:List UInt8)(ar:List (List UInt8)):∀i,i<=ar.length->bB s (ar++[w]) i=(bB s ar i).map (·+1)
 |0,_=>rfl
 |
  i+1,hi=>by
  have hlt:i<ar.length:=by omega
  have e:(ar++[w]).getD i []=ar.getD i []:=by simp[aa,List.getElem?_append_left hlt]
  rw[bB,bB,e,jR s w ar i (by omega)]
  split
  ·simp only[al,aw,aG,ct,Option.some.injEq];omega
  ·rfl
theorem uL(s:List UInt8)(f:Fr)(r:List Fr):bB s (names (f::r)) (names (f::r)).length=if f.nm=s then some 0 else(bB s (names r) (names r).length).map (·+1):=by
 have e:(names (f::r)).length=(names r).length+1:=by simp[names]
 rw[e,bB]
 have e2:(names (f::r)).getD (names r).length []=f.nm:=by simp[names,aa]
 rw[e2]
 split
 ·rw[e];simp
 ·rw[names,jR _ _ _ _ (ap _)]
theorem nE(s:List UInt8):∀env:List Fr,bB s (names env) (names env).length=none/\fo s env=none\/∃(u:Nat) (f:Fr),bB s (names env) (names env).length=some u/\fo s env=some f/\env[u]?=some f
 |[]=>.inl ⟨rfl,rfl⟩
 |
  f::r=>by
  rw[uL,fo]
  split
  ·exact .inr ⟨0,f,rfl,rfl,rfl⟩
  ·rcases nE s r with⟨h1,h2⟩|⟨u,g,h1,h2,h3⟩
   ·exact .inl ⟨by rw[h1];rfl,h2⟩
   ·exact .inr ⟨u+1,g,by rw[h1];rfl,h2,by simpa using h3⟩
def Ty.K6:Ty->Bool
 | .cc _=>true
 |_=>false
theorem gx{e:E}{env:List Fr}{t:Ty}(hw:WF env)(ht:cz e (names env)=some t) :
 (t.K6=false/\fo e.at env=none)\/∃(u:Nat) (f:Fr),t=.cc u/\fo e.at env=some f/\env[u]?=some f:=by
 cases e with
 |
  list l =>
  left
  refine⟨?_,ma hw⟩
  match l,ht with
  |
   [x,a,b],ht =>
   by_cases h0:x.at=[43]
   ·obtain⟨t1,t2,_,_,rfl⟩:=eW h0 ht;rfl
   ·by_cases h1:x.at=[42]
    ·obtain⟨t1,t2,_,_,rfl⟩:=ew h1 ht;rfl
    ·by_cases h2:x.at=[114,101,99]
     ·obtain⟨t1,_,_,rfl⟩:=cW h2 ht;rfl
     ·rw[iu _ h0 h1 h2]at ht;cases ht
  |[],ht=>cases ht
  |[_],ht=>cases ht
  |[_,_],ht=>cases ht
  |_::_::_::_::_,ht=>cases ht
 |
  atom s =>
  simp only[cz]at ht
  have hno:cK s=false->fo s env=none:=fun h=>by
   cases hq:fo s env with
   |none=>rfl
   |some f=>rw[xZ hw hq]at h;cases h
  split at ht
  ·rename_i h;cases ht;subst h;exact .inl ⟨rfl,hno rfl⟩
  ·split at ht
   ·rename_i h;cases ht;subst h;exact .inl ⟨rfl,hno rfl⟩
   ·split at ht
    ·rename_i h
     cases ht
     refine .inl ⟨rfl,hno ?_⟩
     cases hq:cK s with
     |false=>rfl
     |
      true =>
      obtain⟨c,r,rfl,h1,h2⟩:=kI h
      obtain⟨c',r',he,h3,h4⟩:=kI hq
      cases he;omega
    ·split at ht
     ·rcases nE s env with⟨h1,h2⟩|⟨u,f,h1,h2,h3⟩
      ·rw[h1]at ht;cases ht;exact .inl ⟨rfl,h2⟩
      ·rw[h1]at ht;cases ht;exact .inr ⟨u,f,rfl,h2,h3⟩
     ·cases ht
def ei(n:Nat):Vl->E×List Fr->Bool
 | .u,p=>match hd p.1 p.2 with|(.atom s,_)=>s==[49]|_=>false
 | .el k,p=>match hd p.1 p.2 with|(.atom s,_)=>!(s==[49])&&(gj s&&decide (k<n))|_=>false
 | .l w,p=>match hd p.1 p.2 with|(.list [x,a,b],o)=>(x.at==[43])&&ei n w (a,o)|_=>false
 | .r w,p=>match hd p.1 p.2 with|(.list [x,a,b],o)=>(x.at==[43])&&ei n w (b,o)|_=>false
 | .f w,p=>match hd p.1 p.2 with|(.list [x,a,b],o)=>(x.at==[114,101,99])&&ei n w (b,.mk a.at (.list [x,a,b]) o::o)|_=>false
 | .p v w,p=>match hd p.1 p.2 with|(.list [x,a,b],o)=>(x.at==[42])&&(ei n v (a,o)&&ei n w (b,o))|_=>false
theorem jG{e:E}{env:List Fr}(h:fo e.at env=none):hd e env=(e,env):=by rw[hd,h]
theorem pE{e:E}{env:List Fr}{f:Fr}(h:fo e.at env=some f):hd e env=(f.ex,f.out):=by rw[hd,h]
theorem oL{x a b:E}{o:List Fr}(h:WF o):hd (.list [x,a,b]) o=(.list [x,a,b],o):=jG (ma h)
theorem s6(n:Nat)(v:Vl){e e':E}{env o:List Fr}(h:hd e env=(e',o))(h':hd e' o=(e',o)):ei n v (e,env)=ei n v (e',o):=by
 cases v<;>simp only[ei,h,h']
theorem jp{x a b:E}{env:List Fr}{t:Ty}(hw:WF env)(hok:(E.list [x,a,b]).ok)(hx:x.at=[114,101,99])(ht:cz (.list [x,a,b]) (names env)=some t)(hf:bG t=false) :
 ∃t1,t=.rc t1/\cz b (names (.mk a.at (.list [x,a,b]) env::env))=some t1/\bG t1=false/\WF (.mk a.at (.list [x,a,b]) env::env):=by
 obtain⟨t1,hl,h1,rfl⟩:=cW hx ht
 exact⟨t1,rfl,h1,hf,.cons hl hok hx ht hf hw⟩
theorem Bh(a b env:AV)(n:Int)(s:ByteArray)(u:Int)(ha:LK.ptr.has a)(he:LK.ptr.has env):au Tryz.prog 126 [.agg [.ptr [.v (.int .u8 n),.v (.string s),.v (.int .i64 u),a,b],env]] [] (bK (.agg [a,env])):=by
 refine M5 _ _ ((dO _).mpr trivial) he ?_
 simp only[Gf,↓zq,zs,ae,bK]
 exact⟨ha,by omega⟩
theorem A2(a b env:AV)(n:Int)(s:ByteArray)(u:Int)(hb:LK.ptr.has b)(he:LK.ptr.has env):au Tryz.prog 127 [.agg [.ptr [.v (.int .u8 n),.v (.string s),.v (.int .i64 u),a,b],env]] [] (bK (.agg [b,env])):=by
 refine LQ _ _ ((dO _).mpr trivial) he ?_
 simp only[Gq,↓zq,zs,ae,bK]
 exact⟨hb,by omega⟩
theorem N4(t:Ty)(env:List Fr)(s:List UInt8)(e:E)(ht:wt e env=.rc t):au Tryz.prog 90 [.agg [(Ty.rc t).av,na env]] [] (bK (.da [.agg [t.av,na (.mk s e env::env)],(Fr.mk s e env).cF])):=by
 refine LP _ _ ((be _).mpr trivial) ((dM _).mpr trivial) ?_
 simp only[Jz,Ty.av,↓zq,zs,ae,be,bK,na,Fr.cF,ht]
 omega
theorem rQ(env:List Fr)(i:Nat)(f:Fr)(h:env[i]?=some f):na (env.drop i)=.ptr [f.cF,na (env.drop (i+1))]:=by
 obtain⟨hlt,he⟩:=List.getElem?_eq_some_iff.1 h
 rw[aL hlt,he,na]
theorem H2(env:List Fr)(u:Nat)(hu:u<env.length)(hl:env.length<1000000):∀(k i:Nat),i+k=u->Bp [na (env.drop i),.v (.int .i64 (u:Int)),.v (.int .i64 (i:Int))] [] (gk 1 [na (env.drop u)] [])
 |
  0,i,hi=>by
  refine A6 _ _ _ ?_
  have:i=u:=by omega
  subst this
  simp only[zN,↓zq,zs,ae,dM]
  exact⟨fun h=>by omega,fun _=>by simp[gk]⟩
 |
  k+1,i,hi=>by
  refine A6 _ _ _ ?_
  have hlt:i<env.length:=by omega
  have hg:env[i]?=some env[i]:=bo hlt
  have hd:=rQ env i _ hg
  rw[hd]
  simp only[zN,↓zq,zs,ae,dM]
  refine⟨fun _=>⟨by omega,?_⟩,fun h=>by omega⟩
  rw[bp i (by omega)]
  exact H2 env u hu hl k (i+1) (by omega)
theorem Od(env:List Fr)(u:Nat)(f:Fr)(hf:env[u]?=some f)(hl:env.length<1000000):au Tryz.prog 125 [.agg [(Ty.cc u).av,na env]] [] (bK f.cF):=by
 refine JH _ _ ((be _).mpr trivial) ((dM _).mpr trivial) ?_
 obtain⟨hlt,he⟩:=List.getElem?_eq_some_iff.1 hf
 simp only[Ed,Ty.av,↓zq,zs,ae]
 refine⟨by omega,?_⟩
 have h:=H2 env u hlt hl u 0 (by omega)
 simp only[aV]at h
 refine bZ h ?_
 rw[rQ env u f hf]
 simp only[↓zq,zs,ae,yH,bK]
 omega
theorem B3(k:Nat)(h:k<100):Lib.atoi (dd k)=some (k:Int):=by
 have e:∀k,k<100->dd k=if k<10 then [aZ (48+k)]else [aZ (48+k/10),aZ (48+k%10)]:=by
  intro k hk
  by_cases h1:k<10
  ·rw[eH h1,if_pos h1]
  ·rw[fu h1,eH (by omega),if_neg h1];rfl
 have key:∀k:Fin 100,Lib.atoi (if k.val<10 then [aZ (48+k.val)]else [aZ (48+k.val/10),aZ (48+k.val%10)])=some (k.val:Int):=by decide +kernel
 rw[e k h];exact key ⟨k,h⟩
theorem Ni(k:Nat)(hk:k<100):au Tryz.prog 124 [.v (.string (mk (dd k)))] [] (bK (.da [.v (.int .i64 (k:Int)),.v .nilIface])):=by
 have hl:=ot 1000 k (by omega)
 have hl2:(dd k).length<=18:=by
  have e:(dd k).length<=2:=by
   by_cases h1:k<10
   ·rw[eH h1];simp
   ·rw[fu h1,eH (by omega)];simp
  omega
 refine au.NC (xs:=[.string (mk (dd k))]) (v:=.tuple #[.int .i64 (k:Int),.nilIface]) ⟨pA,by kernel_rfl,by kernel_rfl,by kernel_rfl⟩ (fun M=>?_) fun w=>?_
 ·refine bm.da _ _ [.int .i64 (k:Int),.nilIface] rfl fun i hi=>?_
  match i,hi with
  |0,_=>exact .v _ _
  |1,_=>exact .v _ _
 ·have:=Any.strconv_Atoi Tryz.AM (mk (dd k)) (k:Int) (by rw[gC];exact hl2) (by
   have:(mk (dd k)).data.toList=dd k:=by simp[mk]
   rw[this];exact B3 k hk) w
  refine Calls.mono this fun e w' ⟨h1,t,h2⟩=>⟨h1,?_⟩
  subst h2
  refine⟨rfl,rfl,rfl,?_,fun b hb=>Lib.bytesWorld_at_old _ _ _ _ hb⟩
  simp[Lib.bytesWorld,World.freeze]
end Go.Proofs.Trees
namespace Go.Proofs.Trees
open Go Go.VL Go.RowKit
theorem fy{a b:Ty}(h:bG (.plus a b)=false):bG a=false/\bG b=false:=by simpa[bG]using h
theorem eV{a b:Ty}(h:bG (.times a b)=false):bG a=false/\bG b=false:=by simpa[bG]using h
theorem fB{e:E}{ar:List (List UInt8)}{t:Ty}(ht:cz e ar=some t)(hb:t.K6=false)(hf:bG t=false) :
 (e=.atom [48]/\t=.zero)\/(e=.atom [49]/\t=.one)\/(∃s,e=.atom s/\t=.name s/\gj s=true/\s≠[48]/\s≠[49]) ∨
 (∃x a b t1 t2,e=.list [x,a,b]/\x.at=[43]/\t=.plus t1 t2/\cz a ar=some t1/\cz b ar=some t2) ∨
 (∃x a b t1 t2,e=.list [x,a,b]/\x.at=[42]/\t=.times t1 t2/\cz a ar=some t1/\cz b ar=some t2) ∨
 (∃x a b t1,e=.list [x,a,b]/\x.at=[114,101,99]/\t=.rc t1):=by
 cases e with
 |
  list l =>
  match l,ht with
  |
   [x,a,b],ht =>
   by_cases h0:x.at=[43]
   ·obtain⟨t1,t2,h1,h2,rfl⟩:=eW h0 ht
    exact .inr (.inr (.inr (.inl ⟨x,a,b,t1,t2,rfl,h0,rfl,h1,h2⟩)))
   ·by_cases h1:x.at=[42]
    ·obtain⟨t1,t2,h3,h2,rfl⟩:=ew h1 ht
     exact .inr (.inr (.inr (.inr (.inl ⟨x,a,b,t1,t2,rfl,h1,rfl,h3,h2⟩))))
    ·by_cases h2:x.at=[114,101,99]
     ·obtain⟨t1,_,_,rfl⟩:=cW h2 ht
      exact .inr (.inr (.inr (.inr (.inr ⟨x,a,b,t1,rfl,h2,rfl⟩))))
     ·rw[iu _ h0 h1 h2]at ht;cases ht
  |[],ht=>cases ht
  |[_],ht=>cases ht
  |[_,_],ht=>cases ht
  |_::_::_::_::_,ht=>cases ht
 |
  atom s =>
  simp only[cz]at ht
  split at ht
  ·rename_i h;cases ht;subst h;exact .inl ⟨rfl,rfl⟩
  ·rename_i h0
   split at ht
   ·rename_i h;cases ht;subst h;exact .inr (.inl ⟨rfl,rfl⟩)
   ·rename_i h1
    split at ht
    ·rename_i h;cases ht;exact .inr (.inr (.inl ⟨s,rfl,rfl,h,h0,h1⟩))
    ·split at ht
     ·rename_i h
      split at ht
      ·cases ht;cases hb
      ·cases ht;simp only[bG]at hf;rw[h]at hf;cases hf
     ·cases ht
def o0(n:Nat)(v:Vl)(e:E)(env:List Fr)(t:Ty):Prop:=au Tryz.prog 89 [.agg [t.av,na env],v.cF,.v (.int .i64 (n:Int))] [] (bK (.v (.bool (ei n v (e,env)))))
structure Ask(e:E)(env:List Fr)(t:Ty):Prop where
 ok:e.ok
 wf:WF env
 ty:cz e (names env)=some t
 cl:bG t=false
theorem Hr(n:Nat)(hn:n<=100)(v:Vl)(hv:v.iK 100)(IH:∀w:Vl,w.nodes<v.nodes->w.iK 100->∀e env t,Ask e env t->env.length+w.nodes<100000->o0 n w e env t)
 (e:E) (env:List Fr) (t:Ty) (A:Ask e env t) (hl:env.length+v.nodes<100000) (hb:t.K6=false) (hh:fo e.at env=none):o0 n v e env t:=by
 have hhd:hd e env=(e,env):=jG hh
 unfold o0
 refine IZ _ _ _ _ ((be _).mpr trivial) ((dM _).mpr trivial) ((aW _).mpr trivial) ?_
 rcases fB A.ty hb A.cl with⟨rfl,rfl⟩|⟨rfl,rfl⟩|⟨s,rfl,rfl,hp,h0,h1⟩|⟨x,a,b,t1,t2,rfl,hx,rfl,ha,hbb⟩|⟨x,a,b,t1,t2,rfl,hx,rfl,ha,hbb⟩|⟨x,a,b,t1,rfl,hx,rfl⟩
 ·have hp0:gj [48]=false:=rfl
  cases v<;>simp[yc,Ty.av,↓zq,zs,ae,bK,ei,hhd,hp0]
 ·have hp0:gj [49]=false:=rfl
  cases v<;>simp[yc,Ty.av,Vl.cF,↓zq,zs,ae,bK,ei,hhd,hp0]
 ·have h1':(s==[49])=false:=by simpa using h1
  cases v with
  |
   el k =>
   have hk:k<100:=hv
   simp only[yc,Ty.av,Vl.cF,↓zq,zs,ae,zt]
   refine⟨by omega,fun h=>by omega,fun _=>⟨fun _=>⟨by omega,fun h=>absurd rfl h,fun _=>⟨by omega,by omega,?_⟩⟩,fun h=>absurd rfl h⟩⟩
   have e1:(List.take ((dd k).length+1) (vG k)).drop (bE 1)=dd k:=by simp[vG]
   rw[e1]
   refine an (Ni k hk) ?_
   simp only[↓zq,zs,ae,bK,ei,hhd,h1',hp,zf]
   refine⟨rfl,?_⟩
   congr 2
   rw[cj];simp
  |
   _ =>
   simp only[yc,Ty.av,Vl.cF,↓zq,zs,ae,zt,ei,hhd,h1',bK]
   exact⟨by omega,fun h=>by omega,fun _=>⟨fun _=>⟨by omega,fun _=>trivial,fun h=>by omega⟩,fun h=>absurd rfl h⟩⟩
 ·have hok:=A.ok
  obtain⟨ok1,ok2,ok3,_⟩:=hok
  obtain⟨f1,f2⟩:=fy A.cl
  cases v with
  |
   l w =>
   simp only[Vl.nodes]at hl
   simp only[yc,Ty.av,Vl.cF,↓zq,zs,ae]
   refine⟨by omega,fun h=>by omega,fun _=>⟨fun h=>by omega,fun _=>⟨fun h=>by omega,fun _=>⟨fun _=>⟨by omega,fun _=>?_,fun h=>absurd rfl h⟩,fun h=>absurd rfl h⟩⟩⟩⟩
   refine an (Bh _ _ _ _ _ _ ((be _).mpr trivial) ((dM _).mpr trivial)) ?_
   simp only[↓zq,zs,ae,bY,be,dM,aW]
   refine⟨by omega,?_⟩
   refine an (IH w (by simp only[Vl.nodes];omega) hv a env t1 ⟨ok2,A.wf,ha,f1⟩ (by omega)) ?_
   simp only[↓zq,zs,ae,bK,ei,hhd,hx]
   refine⟨fun h=>?_,fun h=>⟨by omega,fun h=>by omega,fun _=>?_⟩⟩
   ·simp[h]
   ·simp[h]
  |
   r w =>
   simp only[Vl.nodes]at hl
   simp only[yc,Ty.av,Vl.cF,↓zq,zs,ae]
   refine⟨by omega,fun h=>by omega,fun _=>⟨fun h=>by omega,fun _=>⟨fun h=>by omega,fun _=>⟨fun _=>⟨by omega,fun h=>by omega,fun _=>⟨by omega,fun _=>?_,fun h=>absurd rfl h⟩⟩,fun h=>absurd rfl h⟩⟩⟩⟩
   refine an (A2 _ _ _ _ _ _ ((be _).mpr trivial) ((dM _).mpr trivial)) ?_
   simp only[↓zq,zs,ae,bY,be,dM,aW]
   refine⟨by omega,?_⟩
   refine an (IH w (by simp only[Vl.nodes];omega) hv b env t2 ⟨ok3,A.wf,hbb,f2⟩ (by omega)) ?_
   simp[↓zq,zs,ae,bK,ei,hhd,hx]
  |
   _ =>
   simp only[yc,Ty.av,Vl.cF,↓zq,zs,ae,ei,hhd,bK]
   exact⟨by omega,fun h=>by omega,fun _=>⟨fun h=>by omega,fun _=>⟨fun h=>by omega,fun _=>⟨fun _=>⟨by omega,fun h=>by omega,fun _=>⟨by omega,fun h=>by omega,fun _=>by simp[hx]⟩⟩,fun h=>absurd rfl h⟩⟩⟩⟩
 ·have hok:=A.ok
  obtain⟨ok1,ok2,ok3,_⟩:=hok
  obtain⟨f1,f2⟩:=eV A.cl
  cases v with
  |
   p v w =>
   simp only[Vl.nodes]at hl
   simp only[yc,Ty.av,Vl.cF,↓zq,zs,ae]
   refine⟨by omega,fun h=>by omega,fun _=>⟨fun h=>by omega,fun _=>⟨fun h=>by omega,fun _=>⟨fun h=>by omega,fun _=>⟨fun _=>⟨by omega,fun _=>?_,fun h=>absurd rfl h⟩,fun h=>absurd rfl h⟩⟩⟩⟩⟩
   refine an (Bh _ _ _ _ _ _ ((be _).mpr trivial) ((dM _).mpr trivial)) ?_
   simp only[↓zq,zs,ae,bY,be,dM,aW]
   refine⟨by omega,?_⟩
   refine an (IH v (by simp only[Vl.nodes];omega) hv.1 a env t1 ⟨ok2,A.wf,ha,f1⟩ (by omega)) ?_
   simp only[↓zq,zs,ae,bK,ei,hhd,hx]
   refine⟨fun h=>?_,fun h=>?_⟩
   ·refine an (A2 _ _ _ _ _ _ ((be _).mpr trivial) ((dM _).mpr trivial)) ?_
    simp only[↓zq,zs,ae,bY,be,dM,aW]
    refine⟨by omega,?_⟩
    refine an (IH w (by simp only[Vl.nodes];omega) hv.2 b env t2 ⟨ok3,A.wf,hbb,f2⟩ (by omega)) ?_
    simp[↓zq,zs,ae,h]
   ·simp[h]
  |
   _ =>
   simp only[yc,Ty.av,Vl.cF,↓zq,zs,ae,ei,hhd,bK]
   exact⟨by omega,fun h=>by omega,fun _=>⟨fun h=>by omega,fun _=>⟨fun h=>by omega,fun _=>⟨fun h=>by omega,fun _=>⟨fun _=>⟨by omega,fun h=>by omega,fun _=>by simp[hx]⟩,fun h=>absurd rfl h⟩⟩⟩⟩⟩
 ·obtain⟨t1',he1,h1,f1,hw1⟩:=jp A.wf A.ok hx A.ty A.cl
  cases he1
  have hok:=A.ok
  obtain⟨ok1,ok2,ok3,_⟩:=hok
  have htD:wt (.list [x,a,b]) env=.rc t1:=by rw[wt,A.ty];rfl
  have hin:=N4 t1 env a.at (.list [x,a,b]) htD
  simp only[Ty.av]at hin
  simp only[yc,Ty.av,↓zq,zs,ae]
  refine⟨by omega,fun h=>by omega,fun _=>⟨fun h=>by omega,fun _=>⟨fun h=>by omega,fun _=>⟨fun h=>by omega,fun _=>⟨fun h=>by omega,fun _=>⟨fun _=>?_,fun h=>absurd rfl h⟩⟩⟩⟩⟩⟩
  refine an hin ?_
  simp only[↓zq,zs,ae,bY,be,dM,yH,aW,gG]
  cases v with
  |
   f w =>
   simp only[Vl.nodes]at hl
   simp only[Vl.cF,↓zq,zs,ae,aW]
   refine⟨by omega,fun _=>⟨by omega,?_⟩,fun h=>absurd rfl h⟩
   refine an (IH w (by simp only[Vl.nodes];omega) hv b (.mk a.at (.list [x,a,b]) env::env) t1 ⟨ok3,hw1,h1,f1⟩ (by simp;omega)) ?_
   simp[↓zq,zs,ae,bK,ei,hhd,hx]
  |
   _ =>
   simp only[Vl.cF,↓zq,zs,ae,ei,hhd,bK]
   exact⟨by omega,fun h=>by omega,fun _=>by simp[hx]⟩
theorem GS(n:Nat)(hn:n<=100):∀(m:Nat) (v:Vl),v.nodes<m->v.iK 100->∀e env t,Ask e env t->env.length+v.nodes<100000->o0 n v e env t
 |0,v,h,_=>by omega
 |
  m+1,v,h,hv=>by
  intro e env t A hl
  have IH:∀w:Vl,w.nodes<v.nodes->w.iK 100->∀e env t,Ask e env t->env.length+w.nodes<100000->o0 n w e env t:=fun w hw hb=>GS n hn m w (by omega) hb
  rcases gx A.wf A.ty with⟨hb,hh⟩|⟨u,f,rfl,hh,hu⟩
  ·exact Hr n hn v hv IH e env t A hl hb hh
  ·obtain⟨x,a,b,t',hfe,hok,hx,ht',hf',hwf,hlt⟩:=nw A.wf hh
   obtain⟨t1,hl1,h1,rfl⟩:=cW hx (hfe ▸ ht')
   have hvis:ei n v (e,env)=ei n v (f.ex,f.out):=s6 n v (pE hh) (by rw[hfe];exact oL hwf)
   unfold o0
   refine IZ _ _ _ _ ((be _).mpr trivial) ((dM _).mpr trivial) ((aW _).mpr trivial) ?_
   have hbd:=Od env u f hu (by omega)
   simp only[Ty.av]at hbd
   simp only[yc,Ty.av,↓zq,zs,ae]
   refine⟨by omega,fun h=>by omega,fun _=>⟨fun h=>by omega,fun _=>⟨fun _=>?_,fun h=>absurd rfl h⟩⟩⟩
   refine an hbd ?_
   cases f with
   |
    mk s ee oo =>
    simp only[Fr.ex,Fr.out]at hfe ht' hf' hwf hvis hlt
    have htD:wt ee oo=.rc t1:=by rw[wt,ht'];rfl
    simp only[Fr.cF,htD,↓zq,zs,ae,bY,be,dM]
    refine⟨by omega,?_⟩
    have hs:=Hr n hn v hv IH ee oo (.rc t1) ⟨by rw[hfe];exact hok,hwf,ht',hf'⟩ (by omega) rfl (by rw[hfe];exact ma hwf)
    unfold o0 at hs
    refine an hs ?_
    simp[↓zq,zs,ae,bK,hvis]
end Go.Proofs.Trees
namespace Go.Proofs.Trees
open Go Go.VL Go.RowKit
theorem rm:∀(env:List Fr) (k:Nat) (f:Fr),env[k]?=some f->(jE env).getD (env.length-1-k) []=f.cells
 |[],k,f,h=>by cases h
 |
  g::r,0,f,h=>by
  cases h
  have:(g::r).length-1-0=(jE r).length:=by simp[kb]
  rw[this,jE];simp[aa]
 |
  g::r,k+1,f,h=>by
  have h':r[k]?=some f:=by simpa using h
  have hlt:=(List.getElem?_eq_some_iff.1 h').1
  have e:(g::r).length-1-(k+1)=r.length-1-k:=by simp;omega
  have:=rm r k f h'
  rw[e,jE,aa,List.getElem?_append_left (by rw[kb];omega),<-aa]
  exact this
theorem qx(f:Fr):f.cells=[.v (.string (mk f.nm)),.v (.string (mk f.ex.at)),f.ex.sp,.sl (jE f.out)]:=by cases f;rfl
theorem Iv(e:E)(env:List Fr)(hl:env.length<1000000):∀(j k:Nat),k+j=env.length->CJ [.sl (jE env),.v (.int .i64 ((env.length:Int)-1-(k:Int)))] [.cells [.v (.string (mk e.at)),e.sp],.cells [.v (.string (mk [])),.v (.slice none 0 0)]]
 (pI (match fo e.at (env.drop k)with|some f=>(2,[.sl (jE f.out)],[.cells [.v (.string (mk f.ex.at)),f.ex.sp]])|none=>(1,[.sl (jE env)],[.cells [.v (.string (mk e.at)),e.sp],.cells [.v (.string (mk [])),.v (.slice none 0 0)]])))
 |
  0,k,hk=>by
  refine H5 _ _ _ _ _ _ ?_
  have hd:env.drop k=[]:=bx (by omega)
  simp only[CV,↓zq,zs,ae,a8,hd,fo]
  exact⟨fun h=>by omega,fun _=>by first|trivial|rfl⟩
 |
  j+1,k,hk=>by
  refine H5 _ _ _ _ _ _ ?_
  have hlt:k<env.length:=by omega
  have hg:env[k]?=some env[k]:=bo hlt
  have hc:=rm env k _ hg
  have e1:((env.length:Int)-1-(k:Int))=((env.length-1-k:Nat):Int):=by omega
  have hdr:env.drop k=env[k]::env.drop (k+1):=aL hlt
  rw[hdr,fo,e1]
  simp only[CV,bS,hc,qx,↓zq,zs,ae,zt,a8,kb,bY]
  refine⟨fun _=>⟨by omega,by omega,fun h=>⟨by omega,by omega,by omega,by omega,?_⟩,fun h=>?_⟩,fun h=>by omega⟩
  ·rw[if_pos h]
  ·rw[if_neg h]
   have e2:IntKind.wrap .i64 (((env.length-1-k:Nat):Int)-1)=(env.length:Int)-1-((k+1:Nat):Int):=by
    have:IntKind.wrap .i64 (((env.length-1-k:Nat):Int)-1)=((env.length-1-k:Nat):Int)-1:=wrap64 _ (by omega) (by omega)
    omega
   rw[e2]
   exact Iv e env hl j (k+1) (by omega)
theorem Lj(e:E)(env:List Fr)(hl:env.length<1000000):au Tryz.prog 100 [e.jX,.sl (jE env)] [] (bK (.da [(hd e env).1.jX,.sl (jE (hd e env).2)])):=by
 rw[dU e]
 refine LL _ _ _ ((a8 _).mpr trivial) ((bU _).mpr trivial) ?_
 simp only[GD,↓zq,zs,ae,kb,bK]
 have h:=Iv e env hl env.length 0 (by omega)
 simp only[aV]at h
 rw[wrap64 _ (by omega) (by omega)]
 rw[show (env.length:Int)-1-((0:Nat):Int)=(env.length:Int)-1 by omega]at h
 refine gK h (fun ys o e'=>?_) (fun ys o e'=>?_)
 ·unfold hd
  cases hq:fo e.at env<;>rw[hq]at e'<;>cases e'
  simp only[↓zq,zs,ae,zt,a8,dU]
 ·unfold hd
  cases hq:fo e.at env<;>rw[hq]at e'<;>cases e'
  simp only[↓zq,zs,ae,zt,a8,dU]
theorem ph:∀env:List Fr,cb 4 (jE env)
 |[]=>fun c hc=>by cases hc
 |
  f::r=>fun c hc=>by
  simp only[jE,aI,aY]at hc
  rcases hc with hc|rfl
  ·exact ph r c hc
  ·rw[qx];rfl
theorem Lg(x a b:E)(env:List Fr)(hl:env.length<1000000):au Tryz.prog 103 [(E.list [x,a,b]).jX,.sl (jE env)] [] (bK (.da [b.jX,.sl (jE (.mk a.at (.list [x,a,b]) env::env))])):=by
 refine Og _ _ _ ((bU _).mpr trivial) ((bU _).mpr trivial) ?_
 simp only[H4,E.bc,toNat_one,bj,↓zq,zs,ae,zt,ii,fE,hD,lG,ap,kb,bK,bh]
 refine⟨by omega,⟨ph env,by omega⟩,by omega,by omega,⟨fun c hc=>(by simp at hc;rw[hc];rfl),by omega⟩,?_⟩
 simp only[jE,qx,Fr.nm,Fr.ex,Fr.out,E.at,E.sp,E.bc]
theorem Bu(s:ByteArray)(e:E):bY [.str,.sl] [.v (.string s),e.sp] 0=True:=by apply eq_true;simp[bY,eI,a8]
theorem Di{e:E}{env:List Fr}{t:Ty}(A:Ask e env t):∃e' o t',hd e env=(e',o)/\Ask e' o t'/\t'.K6=false/\hd e' o=(e',o)/\o.length<=env.length:=by
 rcases gx A.wf A.ty with⟨hb,hh⟩|⟨u,f,rfl,hh,hu⟩
 ·exact⟨e,env,t,jG hh,A,hb,jG hh,ap _⟩
 ·obtain⟨x,a,b,t',hfe,hok,hx,ht',hf',hwf,hlt⟩:=nw A.wf hh
  refine⟨f.ex,f.out,t',pE hh,⟨by rw[hfe];exact hok,hwf,ht',hf'⟩,?_,?_,by omega⟩
  ·obtain⟨t1,_,_,rfl⟩:=cW hx (hfe ▸ ht');rfl
  ·rw[hfe];exact oL hwf
def vh:Vl->List UInt8
 | .l _=>[108]
 | .r _=>[114]
 | .f _=>[102]
 | .p _ _=>[112]
 |_=>[]
theorem IS(v:Vl):au Tryz.prog 71 [v.dh.jX] [] (bK (.v (.string (mk (vh v))))):=by
 cases v with
 |u=>exact zi _ _ ((bg).mpr trivial) (by simp)
 |el k=>exact zi _ _ ((bg).mpr trivial) (by simp)
 |l v=>exact uT _ _
 |r v=>exact uT _ _
 |f v=>exact uT _ _
 |p v w=>exact uT _ _
theorem Ow(v:Vl)(hv:v.iK 100):v.dh.at=(match v with| .u=>[117]| .el k=>vG k|_=>[])/\zI v.dh.at=(match v with| .el k=>(k:Int)|_=>-1):=by
 cases v with
 |el k=>exact⟨rfl,EX k hv⟩
 |u=>exact⟨rfl,rfl⟩
 |_=>exact⟨rfl,rfl⟩
theorem xm(n:Nat)(hn:n<=100):∀(m:Nat) (v:Vl),v.nodes<m->v.iK 100->∀e env t,Ask e env t->env.length+v.nodes<100000->au Tryz.prog 72 [e.jX,.sl (jE env),v.dh.jX,.v (.int .i64 (n:Int))] [] (bK (.v (.bool (ei n v (e,env)))))
 |0,v,hm,hv,e,env,t,A,hl=>by omega
 |
  m+1,v,hm,hv,e,env,t,A,hl=>by
  obtain⟨e',o,t',hhd,A',hb,hh',hlen⟩:=Di A
  rw[s6 n v hhd hh',dU e,dU v.dh]
  refine Lp _ _ _ _ _ _ ((a8 _).mpr trivial) ((bU _).mpr trivial) ((a8 _).mpr trivial) ?_
  have hf:=Lj e env (by omega)
  rw[dU e,hhd]at hf
  have hvh:=IS v
  rw[dU]at hvh
  unfold IB
  refine an hf ?_
  simp only[dU e',↓zq,zs,ae,zt,a8,Bu,bK]
  rcases fB A'.ty hb A'.cl with⟨rfl,rfl⟩|⟨rfl,rfl⟩|⟨s,rfl,rfl,hp,h0,h1⟩|⟨x,a,b,t1,t2,rfl,hx,rfl,ha,hbb⟩|⟨x,a,b,t1,t2,rfl,hx,rfl,ha,hbb⟩|⟨x,a,b,t1,rfl,hx,rfl⟩
  ·refine⟨fun _=>⟨fun h=>by simp[E.at]at h,fun _=>an (C8 _) ?_⟩,fun h=>by simp[E.at]at h⟩
   have hp0:gj (E.atom [48]).at=false:=rfl
   have hp1:gj [48]=false:=rfl
   cases v<;>simp[↓zq,zs,ae,hp0,ei,hh',hp1]
  ·refine⟨fun _=>⟨fun _=>?_,fun h=>absurd rfl h⟩,fun h=>by simp[E.at]at h⟩
   have hp1:gj [49]=false:=rfl
   cases v<;>simp[ei,hh',hp1,Vl.dh,E.at]
  ·have hne:s≠[]:=A'.ok
   have h1':(s==[49])=false:=by simpa using h1
   refine⟨fun _=>⟨fun h=>absurd h h1,fun _=>an (C8 _) ?_⟩,fun h=>absurd h hne⟩
   have hat:(E.atom s).at=s:=rfl
   simp only[hat,hp,↓zq,zs,ae]
   refine⟨fun _=>an (Gw _) ?_,fun h=>by cases h⟩
   simp only[↓zq,zs,ae]
   rw[wrap64 _ (by omega) (by omega)]
   refine an (Bj _ _ _) ?_
   simp only[↓zq,zs,ae,Ci,(Ow v hv).2]
   cases v with
   |
    el k =>
    simp only[ei,hh',h1',hp,zf]
    congr 2
    rw[cj];simp;omega
   |_=>simp[ei,hh',h1']
  ·have hok:=A'.ok
   obtain⟨ok1,ok2,ok3,_⟩:=hok
   obtain⟨f1,f2⟩:=fy A'.cl
   refine⟨fun h=>absurd rfl h,fun _=>an (uT x [a,b]) ?_⟩
   simp only[↓zq,zs,ae]
   refine an hvh ?_
   rw[hx]
   cases v with
   |
    l w =>
    simp only[Vl.nodes]at hl
    simp only[vh,Vl.dh,E.sp,E.bc,toNat_one,bj,↓zq,zs,ae,zt,ii,fE,hD,lG,ap]
    refine⟨by simp,fun _=>⟨by omega,by omega,an (xm n hn m w (by simp only[Vl.nodes]at hm;omega) hv a o t1 ⟨ok2,A'.wf,ha,f1⟩ (by omega)) ?_⟩,fun h=>absurd rfl h⟩
    simp[↓zq,zs,ae,ei,hh',hx]
   |
    r w =>
    simp only[Vl.nodes]at hl
    simp only[vh,Vl.dh,E.sp,E.bc,toNat_one,bj,↓zq,zs,ae,zt,ii,fE,hD,lG,ap]
    refine⟨by simp,fun h=>by simp at h,fun _=>⟨fun _=>⟨by omega,by omega,an (xm n hn m w (by simp only[Vl.nodes]at hm;omega) hv b o t2 ⟨ok3,A'.wf,hbb,f2⟩ (by omega)) ?_⟩,fun h=>absurd rfl h⟩⟩
    simp[↓zq,zs,ae,ei,hh',hx]
   |_=>simp[vh,↓zq,zs,ae,zt,ei,hh',hx]
  ·have hok:=A'.ok
   obtain⟨ok1,ok2,ok3,_⟩:=hok
   obtain⟨f1,f2⟩:=eV A'.cl
   refine⟨fun h=>absurd rfl h,fun _=>an (uT x [a,b]) ?_⟩
   simp only[↓zq,zs,ae]
   refine an hvh ?_
   rw[hx]
   cases v with
   |
    p w z =>
    simp only[Vl.nodes]at hl
    simp only[vh,Vl.dh,E.sp,E.bc,toNat_one,bj,↓zq,zs,ae,zt,ii,fE,hD,lG,ap]
    refine⟨by simp,fun h=>by simp at h,fun _=>⟨fun h=>by simp at h,fun _=>⟨fun _=>⟨by omega,by omega,an (xm n hn m w (by simp only[Vl.nodes]at hm;omega) hv.1 a o t1 ⟨ok2,A'.wf,ha,f1⟩ (by omega)) ?_⟩,fun h=>absurd rfl h⟩⟩⟩
    simp only[↓zq,zs,ae,ei,hh',hx]
    refine⟨fun h=>⟨by omega,by omega,an (xm n hn m z (by simp only[Vl.nodes]at hm;omega) hv.2 b o t2 ⟨ok3,A'.wf,hbb,f2⟩ (by omega)) ?_⟩,fun h=>?_⟩
    ·simp[↓zq,zs,ae,h]
    ·simp[h]
   |_=>simp[vh,↓zq,zs,ae,zt,ei,hh',hx]
  ·obtain⟨t1',he1,h1,f1,hw1⟩:=jp A'.wf A'.ok hx A'.ty A'.cl
   cases he1
   have hok:=A'.ok
   obtain⟨ok1,ok2,ok3,_⟩:=hok
   refine⟨fun h=>absurd rfl h,fun _=>an (uT x [a,b]) ?_⟩
   simp only[↓zq,zs,ae]
   refine an hvh ?_
   rw[hx]
   cases v with
   |
    f w =>
    simp only[Vl.nodes]at hl
    simp only[vh,Vl.dh,E.sp,E.bc,toNat_one,bj,↓zq,zs,ae,zt,ii,fE,hD,lG,ap]
    refine⟨by simp,fun h=>by simp at h,fun _=>⟨fun h=>by simp at h,fun _=>⟨fun h=>by simp at h,fun _=>⟨fun _=>an (Lg x a b o (by omega)) ?_,fun h=>absurd rfl h⟩⟩⟩⟩
    simp only[↓zq,zs,ae,wc,AH]
    refine⟨by omega,an (xm n hn m w (by simp only[Vl.nodes]at hm;omega) hv b (.mk a.at (.list [x,a,b]) o::o) t1 ⟨ok3,hw1,h1,f1⟩ (by simp;omega)) ?_⟩
    simp[↓zq,zs,ae,ei,hh',hx]
   |_=>simp[vh,↓zq,zs,ae,zt,ei,hh',hx]
theorem Nr(n:Nat)(hn:n<=100)(v:Vl)(hv:v.iK 100)(e:E)(env:List Fr)(t:Ty)(A:Ask e env t)(hl:env.length+v.nodes<100000):au Tryz.prog 72 [e.jX,.sl (jE env),v.dh.jX,.v (.int .i64 (n:Int))] [] (bK (.v (.bool (ei n v (e,env))))):=xm n hn (v.nodes+1) v (by omega) hv e env t A hl
end Go.Proofs.Trees
namespace Go.Proofs.Trees
open Go Go.VL Go.RowKit
theorem Kg(l:List (List UInt8))(a:AV)(ha:dL a l)(s:List UInt8)(hl:l.length<1000000):∀(k i:Nat),i+k=l.length->EH [a,.v (.string (mk s)),.v (.int .i64 (i:Int))] []
 (pI (if s∈l.drop i then(2,[.v (.bool true)],[])else(1,[],[])))
 |
  0,i,hi=>by
  refine HK _ _ _ ?_
  have hd:l.drop i=[]:=bx (by omega)
  simp only[CS,↓zq,zs,ae,hd,ha.len]
  exact⟨ha.1,ha.1,fun h=>by omega,fun _=>by simp[pI]⟩
 |
  k+1,i,hi=>by
  have hlt:i<l.length:=by omega
  have hdr:l.drop i=l.getD i []::l.drop (i+1):=by
   rw[aL hlt];simp[aa,hlt]
  refine HK _ _ _ ?_
  simp only[CS,↓zq,zs,ae,zt,ha.len,ha.idx hlt]
  refine⟨ha.1,ha.1,fun _=>⟨⟨ha.1,by omega,by omega⟩,by omega,fun h=>?_,fun h=>?_⟩,fun h=>by omega⟩
  ·rw[hdr,h];simp[pI]
  ·rw[bp i (by omega)]
   have:=Kg l a ha s hl k (i+1) (by omega)
   have e:s∈l.drop i↔s∈l.drop (i+1):=by
    rw[hdr,aE];exact⟨fun q=>q.resolve_left (fun q=>h q.symm),.inr⟩
   simp only[e];exact this
theorem F4(l:List (List UInt8))(a:AV)(ha:dL a l)(s:List UInt8)(hl:l.length<1000000):au Tryz.prog 139 [a,.v (.string (mk s))] [] (bK (.v (.bool (decide (s∈l))))):=by
 refine Nz _ _ ha.1 ?_
 unfold IG
 refine gK (Kg l a ha s hl l.length 0 (by omega)) (fun ys o e=>?_) (fun ys o e=>?_)
 ·simp only[aV]at e
  split at e<;>cases e
  rename_i h
  simp[↓zq,zs,ae,bK,h]
 ·simp only[aV]at e
  split at e<;>cases e
  rename_i h
  simp[↓zq,zs,ae,bK,h]
theorem xA(l:List (List UInt8))(a:AV)(ha:dL a l)(s:List UInt8)(hl:l.length<1000000):au Tryz.prog 61 [a,.v (.string (mk s))] [] (bK (.sl (cg (l++[s])))):=by
 refine MP _ _ ha.1 ?_
 simp only[GN,↓zq,zs,ae,ha.2,bK,bh]
 have:(cg l).length=l.length:=by simp[cg]
 refine⟨⟨ha.1,lP l,by omega⟩,⟨fun c hc=>(by simp at hc;rw[hc];rfl),by omega⟩,?_⟩
 rw[Ga]
def kZ:E->List (List UInt8)->List (List UInt8)->List (List UInt8)
 | .atom s,bd,l=>if s=[48]\/s=[49]\/s∈bd\/s∈l then l else l++[s]
 | .list [x,a,b],bd,l=>if x.at=[114,101,99]then kZ b (bd++[a.at]) l else kZ b bd (kZ a bd l)
 | .list _,_,l=>l
theorem gH:∀(e:E) (bd l:List (List UInt8)),(kZ e bd l).length<=l.length+e.sz
 | .atom s,bd,l=>by rw[kZ];split<;>simp[E.sz]
 | .list [],bd,l=>by simp[kZ]
 | .list [_],bd,l=>by simp[kZ]
 | .list [_,_],bd,l=>by simp[kZ]
 | .list (_::_::_::_::_),bd,l=>by simp[kZ]
 |
  .list [x,a,b],bd,l=>by
  rw[kZ]
  simp only[E.sz,E.iM]
  split
  ·have:=gH b (bd++[a.at]) l;omega
  ·have:=gH a bd l
   have:=gH b bd (kZ a bd l)
   omega
theorem Cb:∀(e:E) (bd l:List (List UInt8)) (a:AV),e.ok->jA e=true->dL a bd->bd.length+l.length+e.sz<100000->au Tryz.prog 98 [e.jX,a,.vec 0] [.vec 1 (cg l)] (cZ (.vec 1) [.dead,.vec 1 (cg (kZ e bd l))])
 |
  .atom s,bd,l,a,hok,hty,ha,hl=>by
  simp only[E.sz]at hl
  refine xH _ _ _ _ ((bg).mpr trivial) ha.1 ?_
  have hne:s≠[]:=hok
  have hll:(cg l).length=l.length:=by simp[cg]
  simp only[ES,↓zq,zs,ae,zt,cZ,kZ]
  refine⟨fun _=>⟨fun h=>?_,fun h=>⟨fun h1=>?_,fun h1=>?_⟩⟩,fun h=>absurd h hne⟩
  ·rw[if_pos (.inl h)]
  ·rw[if_pos (.inr (.inl h1))]
  ·refine an (F4 bd a ha s (by omega)) ?_
   simp only[↓zq,zs,ae]
   refine⟨fun h2=>?_,fun h2=>an (F4 l _ (.of l) s (by omega)) ?_⟩
   ·rw[if_pos (.inr (.inr (.inl h2)))]
   ·simp only[↓zq,zs,ae]
    refine⟨fun h3=>?_,fun h3=>⟨⟨fun c hc=>(by simp at hc;rw[hc];rfl),by omega⟩,?_⟩⟩
    ·rw[if_pos (.inr (.inr (.inr h3)))]
    ·rw[Ga,if_neg]
     rintro(q|q|q|q)
     ·exact h q
     ·exact h1 q
     ·exact h2 q
     ·exact h3 q
 | .list [],_,_,_,_,h,_,_=>by cases h
 | .list [_],_,_,_,_,h,_,_=>by cases h
 | .list [_,_],_,_,_,_,h,_,_=>by cases h
 | .list (_::_::_::_::_),_,_,_,_,h,_,_=>by cases h
 |
  .list [x,y,z],bd,l,a,hok,hty,ha,hl=>by
  simp only[E.sz,E.iM]at hl
  obtain⟨ok1,ok2,ok3,_⟩:=hok
  refine xH _ _ _ _ ((bU _).mpr trivial) ha.1 ?_
  simp only[ES,E.bc,toNat_one,bj,↓zq,zs,ae,zt,ii,fE,hD,lG,ap,cZ]
  refine⟨fun h=>absurd rfl h,fun _=>an (uT x [y,z]) ?_⟩
  simp only[↓zq,zs,ae,zt]
  have hyl:=gH y bd l
  rw[jA]at hty
  refine⟨fun h=>⟨by omega,by omega,by omega,an (xA bd a ha y.at (by omega)) ?_⟩,fun h=>⟨by omega,by omega,?_⟩⟩
  ·have hz:jA z=true:=by
    rw[if_neg (by rw[h];decide),if_neg (by rw[h];decide),if_pos h]at hty
    simp only[aq]at hty;exact hty.2
   simp only[↓zq,zs,ae]
   refine bM (Cb z (bd++[y.at]) l _ ok3 hz (.of _) (by simp;omega)) ?_
   simp only[↓zq,zs,ae]
   rw[kZ,if_pos h]
  ·have hyz:jA y=true/\jA z=true:=by
    split at hty
    ·simpa using hty
    ·split at hty
     ·simpa using hty
     ·cases hty
   refine bM (Cb y bd l a ok2 hyz.1 ha (by omega)) ?_
   simp only[↓zq,zs,ae]
   refine bM (Cb z bd (kZ y bd l) a ok3 hyz.2 ha (by omega)) ?_
   simp only[↓zq,zs,ae]
   rw[kZ,if_neg h]
theorem jJ{s:List UInt8}(h:gj s=true):cK s=false:=by
 cases hq:cK s with
 |false=>rfl
 |
  true =>
  obtain⟨c,r,rfl,h1,h2⟩:=kI h
  obtain⟨c',r',he,h3,h4⟩:=kI hq
  cases he;omega
theorem lJ(s:List UInt8)(ar:List (List UInt8)):∀i,i<=ar.length->(bB s ar i=none↔s∉ar.take i)
 |0,_=>by simp[bB]
 |
  i+1,hi=>by
  have hlt:i<ar.length:=by omega
  have e:ar.getD i []=ar[i]:=by simp[aa,hlt]
  have e2:s∈ar.take (i+1)↔s∈ar.take i\/s=ar[i]:=by
   rw[show ar.take (i+1)=ar.take i++[ar[i]] from (List.take_append_getElem hlt).symm]
   simp only[aI,aY]
  rw[bB,e,e2]
  by_cases h:ar[i]=s
  ·rw[if_pos h]
   exact⟨fun h=>(by cases h),fun h'=>absurd (.inr h.symm) h'⟩
  ·rw[if_neg h,lJ s ar i (by omega)]
   exact⟨fun h1 h2=>h2.elim h1 (fun h3=>h h3.symm),fun h1 h2=>h1 (.inl h2)⟩
theorem ky:∀(e:E) (ar l:List (List UInt8)) (t:Ty),cz e ar=some t->(∀w,w∈ar->cK w=true)->(kZ e ar l).any cK=(l.any cK||bG t)
 |
  .atom s,ar,l,t,h,har=>by
  simp only[cz]at h
  rw[kZ]
  split at h
  ·rename_i h0;cases h;rw[if_pos (.inl h0)];simp[bG]
  ·rename_i h0
   split at h
   ·rename_i h1;cases h;rw[if_pos (.inr (.inl h1))];simp[bG]
   ·rename_i h1
    split at h
    ·rename_i h2
     cases h
     have hn:=jJ h2
     simp only[bG,hn]
     split
     ·simp
     ·simp[hn]
    ·split at h
     ·rename_i h2 h3
      have hlo:=lJ s ar ar.length (ap _)
      rw[List.take_length]at hlo
      cases hq:bB s ar ar.length with
      |
       some u =>
       rw[hq]at h;cases h
       have hm:s∈ar:=Classical.byContradiction fun hm=>by rw[hlo.2 hm]at hq;cases hq
       rw[if_pos (.inr (.inr (.inl hm)))];simp[bG]
      |
       none =>
       rw[hq]at h;cases h
       have hm:=hlo.1 hq
       simp only[bG,h3,Bool.or_true]
       split
       ·rename_i hh
        rcases hh with q|q|q|q
        ·exact absurd q h0
        ·exact absurd q h1
        ·exact absurd q hm
        ·rw[bJ];exact⟨s,q,h3⟩
       ·simp[h3]
     ·cases h
 | .list [],_,_,_,h,_=>by cases h
 | .list [_],_,_,_,h,_=>by cases h
 | .list [_,_],_,_,_,h,_=>by cases h
 | .list (_::_::_::_::_),_,_,_,h,_=>by cases h
 |
  .list [x,a,b],ar,l,t,h,har=>by
  rw[kZ]
  by_cases h0:x.at=[43]
  ·obtain⟨t1,t2,e1,e2,rfl⟩:=eW h0 h
   rw[if_neg (by rw[h0];decide),ky b ar _ t2 e2 har,ky a ar l t1 e1 har,bG,Bool.or_assoc]
  ·by_cases h1:x.at=[42]
   ·obtain⟨t1,t2,e1,e2,rfl⟩:=ew h1 h
    rw[if_neg (by rw[h1];decide),ky b ar _ t2 e2 har,ky a ar l t1 e1 har,bG,Bool.or_assoc]
   ·by_cases h2:x.at=[114,101,99]
    ·obtain⟨t1,hl,e1,rfl⟩:=cW h2 h
     rw[if_pos h2,ky b _ l t1 e1 (fun w hw=>by
      simp only[aI,aY]at hw
      rcases hw with hw|rfl
      ·exact har w hw
      ·exact hl),bG]
    ·rw[iu _ h0 h1 h2]at h;cases h
def iV(s:List UInt8):Option E:=match wB s with
 |none=>none
 |some e=>if(kZ e [] []).any cK=true then none else some e
theorem yR{s:List UInt8}:uP s=match iV s with|none=>none|some e=>cz e []:=by
 unfold uP iV
 rw[uZ]
 cases he:wB s with
 |none=>rfl
 |
  some e =>
  obtain⟨h1,h2,h3⟩:=p6 he
  have hs:=i6 e []
  rw[h2]at hs
  obtain⟨t,ht⟩:=bF.1 hs
  have ha:=ky e [] [] t ht (fun w hw=>by cases hw)
  simp only[ht,sk,ha,List.any_nil,Bool.false_or]
  cases hf:bG t<;>simp[ht]
theorem gf{s:List UInt8}{e:E}(h:iV s=some e):∃t,uP s=some t/\Ask e [] t/\jA e=true/\e.sz<=8000/\t.aX<=400/\pP s=some e:=by
 have h0:=h
 unfold iV at h
 split at h
 ·cases h
 ·rename_i e' he
  split at h
  ·cases h
  ·rename_i hn
   cases h
   obtain⟨h1,h2,h3⟩:=p6 he
   obtain⟨hok,hsz⟩:=mT h1
   have hs:=i6 e []
   rw[h2]at hs
   obtain⟨t,ht⟩:=bF.1 hs
   have ha:=ky e [] [] t ht (fun w hw=>by cases hw)
   rw[ha]at hn
   refine⟨t,by rw[yR,h0];exact ht,⟨hok,.nil,ht,by simpa using hn⟩,h2,hsz,?_,h1⟩
   rw[<-jz e [] t ht];exact h3
theorem mo{s:List UInt8}(h:iV s=none):uP s=none:=by rw[yR,h]
theorem KR(e:E)(l:List (List UInt8))(hl:l.length<1000000):∀(k i:Nat),i+k=l.length->D9 [.v (.int .i64 (i:Int))] [.cells [.v (.string (mk [])),.v (.slice none 0 0)],.cells [.v (.string (mk e.at)),e.sp],.vec 1 (cg l)]
 (pI (if(l.drop i).any cK=true then(2,[.v (.bool false)],[.cells [.v (.string (mk e.at)),e.sp]])else(1,[],[.cells [.v (.string (mk [])),.v (.slice none 0 0)],.cells [.v (.string (mk e.at)),e.sp]])))
 |
  0,i,hi=>by
  refine Jc _ _ _ _ _ _ ?_
  have hd:l.drop i=[]:=bx (by omega)
  have hll:(cg l).length=l.length:=by simp[cg]
  simp only[DC,↓zq,zs,ae,hd,hll,a8]
  exact⟨fun h=>by omega,fun _=>by simp[pI]⟩
 |
  k+1,i,hi=>by
  have hlt:i<l.length:=by omega
  have hll:(cg l).length=l.length:=by simp[cg]
  have hdr:l.drop i=l.getD i []::l.drop (i+1):=by
   rw[aL hlt];simp[aa,hlt]
  have hg:=(dL.of l).idx hlt
  simp only[eD]at hg
  refine Jc _ _ _ _ _ _ ?_
  simp only[DC,↓zq,zs,ae,zt,hll,hg,a8]
  refine⟨fun _=>⟨by omega,by omega,an (DE _) ?_⟩,fun h=>by omega⟩
  simp only[↓zq,zs,ae,hdr,List.any_cons]
  refine⟨fun h=>?_,fun h=>?_⟩
  ·rw[h];simp[pI]
  ·rw[h,bp i (by omega)]
   simp only[Bool.false_or]
   exact KR e l hl k (i+1) (by omega)
theorem Fw(s:List UInt8):au Tryz.prog 70 [.v (.string (mk s))] [] (l4 (iV s) (iV s).isSome):=by
 refine M9 _ ?_
 unfold KX
 refine aU (LJ s) (l4.ne _ _ (fun h=>h)) ?_
 rintro r o ⟨c,d,hd,rfl,hh⟩
 have hhas:bY [.str,.sl] [.v (.string (mk c)),d] 0:=by simp[bY,eI,hd]
 simp only[↓zq,zs,ae,zt]
 refine⟨hhas,fun h=>?_,fun h=>?_⟩
 ·have hn:wB s=none:=by cases hq:wB s<;>simp[hq]at h |-
  unfold iV
  rw[hn]
  exact⟨c,d,hd,rfl,fun h=>by cases h⟩
 ·obtain⟨e,he,hce⟩:=hh h
  obtain⟨h1,h2,h3⟩:=p6 he
  obtain⟨hok,hsz⟩:=mT h1
  have hce':=hce
  rw[dU]at hce'
  simp only[AV.agg.injEq,List.cons.injEq,AV.v.injEq,Value.string.injEq,and_true]at hce'
  obtain⟨hc1,rfl⟩:=hce'
  have hc2:=vE hc1
  subst hc2
  rw[<-dU]
  refine bM (Cb e [] [] _ hok h2 (.of []) (by simp;omega)) ?_
  have hfl:=gH e [] []
  simp only[↓zq,zs,ae]
  have hLS:=KR e (kZ e [] []) (by simp at hfl;omega) (kZ e [] []).length 0 (by omega)
  simp only[aV]at hLS
  unfold iV
  rw[he]
  refine gK hLS (fun ys o e'=>?_) (fun ys o e'=>?_)
  ·split at e'<;>cases e'
   rename_i hn
   simp only[↓zq,zs,ae,a8,if_neg hn]
   exact⟨e.at,e.sp,hd,rfl,fun _=>⟨e,rfl,(dU e).symm⟩⟩
  ·split at e'<;>cases e'
   rename_i hn
   simp only[↓zq,zs,ae,a8,if_pos hn]
   exact⟨e.at,e.sp,hd,rfl,fun h=>by cases h⟩
def pu(s v:List UInt8)(n:Int):Option Vl:=match iV s,rb v with
 |some e,some w=>if(0<=n/\n<=100)/\ei n.toNat w (e,[])=true then some w else none
 |_,_=>none
theorem qM{s v:List UInt8}{n:Int}{w:Vl}(h:pu s v n=some w):∃e t m,iV s=some e/\rb v=some w/\uP s=some t/\Ask e [] t/\n=(m:Nat)/\m<=100/\ei m w (e,[])=true:=by
 unfold pu at h
 split at h
 ·rename_i e w' he hw
  split at h
  ·rename_i hh
   cases h
   obtain⟨t,h1,h2,_⟩:=gf he
   exact⟨e,t,n.toNat,he,hw,h1,h2,by omega,by omega,hh.2⟩
  ·cases h
 ·cases h
theorem LC(s v:List UInt8)(n:Int):au Tryz.prog 54 [.v (.string (mk s)),.v (.string (mk v)),.v (.int .i64 n)] [] (bK (.da [iB (uP s),iZ (pu s v n)])):=by
 refine Nf _ _ _ ?_
 unfold Gg
 refine an (KP s) ?_
 simp only[↓zq,zs,ae,kj]
 refine an (LU v) ?_
 simp only[↓zq,zs,ae,iH,bK]
 unfold pu
 cases he:iV s with
 |none=>rw[mo he];cases rb v<;>simp[iB,iZ,↓zq,zs,ae]
 |
  some e =>
  obtain⟨t,h1,h2,h3,h4,h5,_⟩:=gf he
  rw[h1]
  cases hv:rb v with
  |none=>simp only[iB,iZ,be,fH,↓zq,zs,ae];exact⟨fun h=>(by cases h),fun _=>⟨fun _=>trivial,fun h=>(by cases h)⟩⟩
  |
   some w =>
   obtain⟨h6,h7,h8⟩:=kD hv
   simp only[iB,iZ,be,fH,aW,gG,↓zq,zs,ae]
   refine⟨fun h=>(by cases h),fun _=>⟨fun h=>(by cases h),fun _=>⟨fun h=>?_,fun h=>⟨fun h'=>?_,fun h'=>?_⟩⟩⟩⟩
   ·rw[if_neg (by omega)]
   ·rw[if_neg (by omega)]
   ·obtain⟨m,rfl⟩:∃m:Nat,n=(m:Int):=⟨n.toNat,by omega⟩
    have hi:=GS m (by omega) (w.nodes+1) w (by omega) h7 e [] t h2 (by simp;omega)
    unfold o0 at hi
    refine an hi ?_
    simp only[↓zq,zs,ae,bS]
    refine⟨fun hq=>?_,fun hq=>?_⟩
    ·rw[if_neg (by rw[hq];simp)]
    ·rw[if_pos ⟨by omega,hq⟩]
theorem Ou(s v:List UInt8)(n:Int):au Tryz.prog 46 [.v (.string (mk s)),.v (.string (mk v)),.v (.int .i64 n)] [] (bK (.v (.bool (pu s v n).isSome))):=by
 refine Ld _ _ _ ?_
 unfold KD
 refine aU (Fw s) (l4.ne _ _ (fun h=>h)) ?_
 rintro r o ⟨c,d,hd,rfl,hh⟩
 have hhas:bY [.str,.sl] [.v (.string (mk c)),d] 0:=by simp[bY,eI,hd]
 simp only[↓zq,zs,ae,zt]
 refine⟨hhas,?_⟩
 refine aU (Il v) (l4.ne _ _ (fun h=>by cases hq:rb v<;>simp[hq]at h |-)) ?_
 rintro r o ⟨c',d',hd',rfl,hh'⟩
 have hhas':bY [.str,.sl] [.v (.string (mk c')),d'] 0:=by simp[bY,eI,hd']
 simp only[↓zq,zs,ae,zt,bK]
 refine⟨hhas',fun h=>⟨fun h2=>?_,fun h2=>?_⟩,fun h=>?_⟩
 ·obtain⟨e,he,hce⟩:=hh h
  obtain⟨t,h1,hA,h3,h4,h5,_⟩:=gf he
  obtain⟨w,hw⟩:=bF.1 h2
  obtain⟨e2,he2,hce2⟩:=hh' h2
  rw[hw]at he2
  cases he2
  obtain⟨h6,h7,h8⟩:=kD hw
  refine an (Bj _ _ _) ?_
  simp only[↓zq,zs,ae,Ci,pu,he,hw]
  refine⟨fun hq=>?_,fun hq=>?_⟩
  ·have hq':0<=n/\n<=100:=by simpa using hq
   obtain⟨m,rfl⟩:∃m:Nat,n=(m:Int):=⟨n.toNat,by omega⟩
   rw[hce,hce2]
   have:=Nr m (by omega) w h7 e [] t hA (by simp;omega)
   rw[show jE []=[] from rfl]at this
   refine an this ?_
   simp only[↓zq,zs,ae,bS]
   by_cases hb:ei m w (e,[])=true
   ·rw[if_pos ⟨hq',hb⟩,hb];rfl
   ·rw[if_neg (fun h=>hb h.2)]
    rw[Bool.not_eq_true]at hb
    rw[hb];rfl
  ·have hq':¬(0<=n/\n<=100):=by simpa using hq
   rw[if_neg (fun h=>hq' h.1)];rfl
 ·have hn:rb v=none:=by cases hq:rb v<;>simp[hq]at h2 |-
  unfold pu
  rw[hn];cases iV s<;>rfl
 ·have hn:iV s=none:=by cases hq:iV s<;>simp[hq]at h |-
  unfold pu
  rw[hn];rfl
end Go.Proofs.Trees
namespace Go.Proofs.Trees
open Go Go.VL Go.RowKit
inductive Tg where
 |nm (s:List UInt8)
 |bd (k:Nat)
 deriving DecidableEq
def Tg.up:Tg->Tg
 | .nm s=>.nm s
 | .bd k=>.bd (k+1)
def eX:Ty->Tg->Bool
 | .name s,.nm s'=>decide (s=s')
 | .cc u,.bd k=>decide (u=k)
 |_,_=>false
abbrev Hl:=Vl×Vl
def iL(g:Vl->Vl)(l:List Hl):List Hl:=l.map fun h=>(g h.1,h.2)
def jY(f:Ty->Tg->Vl->List Hl)(tg:Tg):Ty->Vl->List Hl
 | .plus a _,.l w=>iL .l (f a tg w)
 | .plus _ b,.r w=>iL .r (f b tg w)
 | .times a b,.p x y=>iL (fun c=>.l (.p c y)) (f a tg x)++iL (fun c=>.r (.p x c)) (f b tg y)
 | .rc a,.f w=>iL (fun c=>.f (.l c)) (f a tg.up w)++(f a (.bd 0) w).flatMap fun h=>iL (fun c=>.f (.r (.p h.1 c))) (f (.rc a) tg h.2)
 |_,_=>[]
def dT:Nat->Ty->Tg->Vl->List Hl
 |0,_,_,_=>[]
 |n+1,t,tg,v=>if eX t tg=true then [(.u,v)]else jY (dT n) tg t v
def stuck:Ty->Vl->Bool
 | .plus _ _,.l _=>false
 | .plus _ _,.r _=>false
 | .times _ _,.p _ _=>false
 | .rc _,.f _=>false
 |_,_=>true
def bQ(t:Ty)(tg:Tg)(v:Vl):List Hl:=dT v.nodes t tg v
theorem df{g:Vl->Vl}{l:List Hl}{h:Hl}(hm:h∈iL g l):∃k,k∈l/\h=(g k.1,k.2):=by
 obtain⟨k,h1,h2⟩:=bP.1 hm
 exact⟨k,h1,h2.symm⟩
theorem ji{f g:Hl->List Hl}:∀{l:List Hl},(∀h,h∈l->f h=g h)->l.flatMap f=l.flatMap g
 |[],_=>rfl
 |h::l,hl=>by rw[cy,cy,hl h af,ji (l:=l) fun k hk=>hl k (ai _ hk)]
theorem eU:∀(n:Nat) (t:Ty) (tg:Tg) (v:Vl) (h:Hl),h∈dT n t tg v->h.2.nodes<=v.nodes/\h.1.nodes+4*h.2.nodes<=4*v.nodes+1
 |0,t,tg,v,h,hm=>by simp[dT]at hm
 |
  n+1,t,tg,v,h,hm=>by
  unfold dT at hm
  split at hm
  ·simp only[aY]at hm
   subst hm
   simp only[Vl.nodes];omega
  ·unfold jY at hm
   split at hm
   ·obtain⟨k,h1,rfl⟩:=df hm
    have:=eU n _ _ _ k h1
    simp only[Vl.nodes];omega
   ·obtain⟨k,h1,rfl⟩:=df hm
    have:=eU n _ _ _ k h1
    simp only[Vl.nodes];omega
   ·rcases aI.1 hm with hm|hm
    ·obtain⟨k,h1,rfl⟩:=df hm
     have:=eU n _ _ _ k h1
     simp only[Vl.nodes];omega
    ·obtain⟨k,h1,rfl⟩:=df hm
     have:=eU n _ _ _ k h1
     simp only[Vl.nodes];omega
   ·rcases aI.1 hm with hm|hm
    ·obtain⟨k,h1,rfl⟩:=df hm
     have:=eU n _ _ _ k h1
     simp only[Vl.nodes];omega
    ·obtain⟨k,h1,h2⟩:=List.mem_flatMap.1 hm
     obtain⟨k2,h3,rfl⟩:=df h2
     have:=eU n _ _ _ k h1
     have:=eU n _ _ _ k2 h3
     simp only[Vl.nodes];omega
   ·simp at hm
theorem gm:∀(n m:Nat) (t:Ty) (tg:Tg) (v:Vl),v.nodes<=n->v.nodes<=m->dT n t tg v=dT m t tg v
 |0,m,t,tg,v,h,_=>by have:=cB v;omega
 |n+1,0,t,tg,v,_,h=>by have:=cB v;omega
 |
  n+1,m+1,t,tg,v,hn,hm=>by
  rw[dT,dT]
  split
  ·rfl
  ·unfold jY
   split
   ·simp only[Vl.nodes]at hn hm;rw[gm n m _ _ _ (by omega) (by omega)]
   ·simp only[Vl.nodes]at hn hm;rw[gm n m _ _ _ (by omega) (by omega)]
   ·simp only[Vl.nodes]at hn hm;rw[gm n m _ _ _ (by omega) (by omega),gm n m _ _ _ (by omega) (by omega)]
   ·rename_i a w
    simp only[Vl.nodes]at hn hm;rw[gm n m _ _ _ (by omega) (by omega),gm n m _ (.bd 0) _ (by omega) (by omega)]
    congr 1
    apply ji
    intro h hh
    have:=(eU _ _ _ _ _ hh).1
    rw[gm n m _ _ _ (by omega) (by omega)]
   ·rfl
theorem mZ{n:Nat}(t:Ty)(tg:Tg){v:Vl}(h:v.nodes<=n):dT n t tg v=bQ t tg v:=gm _ _ _ _ _ h (ap _)
theorem lL{t:Ty}{tg:Tg}(v:Vl)(h:eX t tg=true):bQ t tg v=[(.u,v)]:=by
 have:=cB v
 unfold bQ
 cases e:v.nodes with
 |zero=>omega
 |succ n=>rw[dT,if_pos h]
theorem mn(a b:Ty)(tg:Tg)(w:Vl):bQ (.plus a b) tg (.l w)=iL .l (bQ a tg w):=by
 unfold bQ;rw[show (Vl.l w).nodes=w.nodes+1 by simp[Vl.nodes];omega,dT,if_neg (by simp[eX])];rfl
theorem mh(a b:Ty)(tg:Tg)(w:Vl):bQ (.plus a b) tg (.r w)=iL .r (bQ b tg w):=by
 unfold bQ;rw[show (Vl.r w).nodes=w.nodes+1 by simp[Vl.nodes];omega,dT,if_neg (by simp[eX])];rfl
theorem l9(a b:Ty)(tg:Tg)(x y:Vl):bQ (.times a b) tg (.p x y)=iL (fun c=>.l (.p c y)) (bQ a tg x)++iL (fun c=>.r (.p x c)) (bQ b tg y):=by
 rw[bQ,show (Vl.p x y).nodes=(x.nodes+y.nodes)+1 by simp[Vl.nodes];omega,dT,if_neg (by simp[eX])]
 rw[jY,mZ a tg (by omega),mZ b tg (by omega)]
theorem ml(a:Ty)(tg:Tg)(w:Vl):bQ (.rc a) tg (.f w)=iL (fun c=>.f (.l c)) (bQ a tg.up w)++(bQ a (.bd 0) w).flatMap fun h=>iL (fun c=>.f (.r (.p h.1 c))) (bQ (.rc a) tg h.2):=by
 rw[bQ,show (Vl.f w).nodes=w.nodes+1 by simp[Vl.nodes];omega,dT,if_neg (by simp[eX])]
 rw[jY,mZ a tg.up (ap _),mZ a (.bd 0) (ap _)]
 congr 1
 apply ji
 intro h hh
 have:=(eU _ _ _ _ _ hh).1
 rw[mZ (.rc a) tg this]
theorem dy{t:Ty}{tg:Tg}{v:Vl}(h:eX t tg=false)(h2:stuck t v=true):bQ t tg v=[]:=by
 unfold bQ
 cases e:v.nodes with
 |zero=>rfl
 |
  succ n =>
  rw[dT,if_neg (by rw[h];simp)]
  unfold jY
  split<;>first|(simp[stuck]at h2;done)|rfl
theorem jv{t:Ty}{tg:Tg}{v:Vl}{h:Hl}(hm:h∈bQ t tg v):h.2.nodes<=v.nodes/\h.1.nodes+4*h.2.nodes<=4*v.nodes+1:=eU _ _ _ _ _ hm
theorem gl(n:Nat):∀(m:Nat) (t:Ty) (tg:Tg) (v:Vl) (h:Hl),v.iK n->h∈dT m t tg v->h.1.iK n/\h.2.iK n
 |0,t,tg,v,h,hv,hm=>by simp[dT]at hm
 |
  m+1,t,tg,v,h,hv,hm=>by
  unfold dT at hm
  split at hm
  ·simp only[aY]at hm
   subst hm
   exact⟨trivial,hv⟩
  ·unfold jY at hm
   split at hm
   ·obtain⟨k,h1,rfl⟩:=df hm
    exact(fun q=>gl n m _ _ _ k q h1) hv
   ·obtain⟨k,h1,rfl⟩:=df hm
    exact(fun q=>gl n m _ _ _ k q h1) hv
   ·rcases aI.1 hm with hm|hm
    ·obtain⟨k,h1,rfl⟩:=df hm
     obtain⟨q1,q2⟩:=gl n m _ _ _ k hv.1 h1
     exact⟨⟨q1,hv.2⟩,q2⟩
    ·obtain⟨k,h1,rfl⟩:=df hm
     obtain⟨q1,q2⟩:=gl n m _ _ _ k hv.2 h1
     exact⟨⟨hv.1,q1⟩,q2⟩
   ·rcases aI.1 hm with hm|hm
    ·obtain⟨k,h1,rfl⟩:=df hm
     exact(fun q=>gl n m _ _ _ k q h1) hv
    ·obtain⟨k,h1,h2⟩:=List.mem_flatMap.1 hm
     obtain⟨k2,h3,rfl⟩:=df h2
     obtain⟨q1,q2⟩:=(fun q=>gl n m _ _ _ k q h1) hv
     obtain⟨q3,q4⟩:=gl n m _ _ _ k2 q2 h3
     exact⟨⟨q1,q3⟩,q4⟩
   ·simp at hm
def fS(l:List Hl):Nat:=(l.map fun h=>h.2.nodes).sum
theorem qu(l r:List Hl):fS (l++r)=fS l+fS r:=by simp[fS]
theorem nL(g:Vl->Vl)(l:List Hl):fS (iL g l)=fS l:=by simp[fS,iL,Function.comp_def]
def j2(f:Tg->Nat)(T:List Tg):Nat:=(T.map f).sum
theorem nq(f g:Tg->Nat):∀T:List Tg,j2 (fun x=>f x+g x) T=j2 f T+j2 g T
 |[]=>rfl
 |x::T=>by have:=nq f g T;simp only[j2,bi,dD]at this |-;omega
theorem wC{f g:Tg->Nat}:∀{T:List Tg},(∀x,x∈T->f x<=g x)->j2 f T<=j2 g T
 |[],_=>ap _
 |
  x::T,h=>by
  have:=wC (T:=T) fun y hy=>h y (ai _ hy)
  have:=h x af
  simp only[j2,bi,dD]at *;omega
theorem oA{f:Tg->Nat}:∀{T:List Tg},(∀x,x∈T->f x=0)->j2 f T=0
 |[],_=>rfl
 |
  x::T,h=>by
  have:=oA (T:=T) fun y hy=>h y (ai _ hy)
  have:=h x af
  simp only[j2,bi,dD]at *;omega
theorem sd(g:Hl->Tg->Nat)(T:List Tg):∀l:List Hl,j2 (fun x=>(l.map fun h=>g h x).sum) T=(l.map fun h=>j2 (g h) T).sum
 |[]=>oA fun _ _=>rfl
 |
  h::l=>by
  have:=sd g T l
  simp only[bi,dD]
  rw[nq,this]
theorem rp(f:Hl->List Hl):∀l:List Hl,fS (l.flatMap f)=(l.map fun h=>fS (f h)).sum
 |[]=>rfl
 |h::l=>by rw[cy,qu,rp f l];simp
theorem y7{f g:Hl->Nat}:∀{l:List Hl},(∀x,x∈l->f x<=g x)->(l.map f).sum<=(l.map g).sum
 |[],_=>ap _
 |
  x::l,h=>by
  have:=y7 (l:=l) fun y hy=>h y (ai _ hy)
  have:=h x af
  simp only[bi,dD]at *;omega
theorem zv{t:Ty}{x y:Tg}(h:eX t x=true)(h':eX t y=true):x=y:=by
 cases t<;>cases x<;>cases y<;>simp[eX]at h h'<;>simp_all
theorem vS{t:Ty}(n:Nat):∀{T:List Tg},T.Nodup->j2 (fun x=>if eX t x=true then n else 0) T<=n
 |[],_=>db _
 |
  x::T,h=>by
  obtain⟨h1,h2⟩:=List.nodup_cons.1 h
  have ih:=vS (t:=t) n h2
  by_cases hx:eX t x=true
  ·have:j2 (fun x=>if eX t x=true then n else 0) T=0:=oA fun y hy=>by
    rw[if_neg fun hy'=>h1 (by rw[zv hx hy'];exact hy)]
   simp only[j2,bi,dD]at *
   rw[if_pos hx];omega
  ·simp only[j2,bi,dD]at *
   rw[if_neg hx];omega
theorem zJ{T:List Tg}(h:T.Nodup):(Tg.bd 0::T.map Tg.up).Nodup:=by
 refine List.nodup_cons.2 ⟨fun hm=>?_,?_⟩
 ·obtain⟨x,_,e⟩:=bP.1 hm
  cases x<;>simp[Tg.up]at e
 ·refine List.Pairwise.map _ (fun a b hab e=>hab ?_) h
  cases a<;>cases b<;>simp[Tg.up]at e<;>simp_all
theorem apart:∀(n:Nat) (v:Vl),v.nodes<=n->∀(t:Ty) (T:List Tg),T.Nodup->j2 (fun x=>fS (bQ t x v)) T<=v.nodes
 |0,v,h=>by have:=cB v;omega
 |
  n+1,v,hn=>by
  intro t T hT
  have base:∀(hno:∀x,eX t x=false->bQ t x v=[]),j2 (fun x=>fS (bQ t x v)) T<=v.nodes:=fun hno=>by
   refine Nat.le_trans (wC fun x _=>?_) (vS (t:=t) v.nodes hT)
   cases e:eX t x with
   |true=>rw[lL v e];simp[fS]
   |false=>rw[hno x e];simp[fS]
  cases hm:stuck t v with
  |true=>exact base fun x hx=>dy hx hm
  |
   false =>
   unfold stuck at hm
   split at hm
   ·rename_i a b w
    simp only[Vl.nodes]at hn |-
    simp only[mn,nL]
    have:=apart n w (by omega) a T hT
    omega
   ·rename_i a b w
    simp only[Vl.nodes]at hn |-
    simp only[mh,nL]
    have:=apart n w (by omega) b T hT
    omega
   ·rename_i a b x y
    simp only[Vl.nodes]at hn |-
    simp only[l9,qu,nL]
    rw[nq]
    have:=apart n x (by omega) a T hT
    have:=apart n y (by omega) b T hT
    omega
   ·rename_i a w
    simp only[Vl.nodes]at hn |-
    simp only[ml,qu,nL,rp]
    rw[nq,sd]
    have h1:=apart n w (by omega) a _ (zJ hT)
    simp only[j2,bi,dD,List.map_map]at h1
    have h2:((bQ a (.bd 0) w).map fun h=>j2 (fun x=>fS (bQ (.rc a) x h.2)) T).sum<=fS (bQ a (.bd 0) w):=y7 fun h hh=>by
     have:=(jv hh).1
     exact apart n h.2 (by omega) (.rc a) T hT
    simp only[j2,Function.comp_def]at h1 h2 |-
    omega
   ·cases hm
theorem qK(t:Ty)(tg:Tg)(v:Vl):fS (bQ t tg v)<=v.nodes:=by
 have:=apart v.nodes v (ap _) t [tg] (by simp)
 simpa[j2]using this
theorem nA:∀l:List Hl,l.length<=fS l
 |[]=>db _
 |
  h::l=>by
  have:=nA l
  have:=cB h.2
  simp only[fS,bi,dD,aw]at *;omega
theorem mc(t:Ty)(tg:Tg)(v:Vl):(bQ t tg v).length<=v.nodes:=Nat.le_trans (nA _) (qK t tg v)
end Go.Proofs.Trees
namespace Go.Proofs.Trees
open Go Go.VL Go.RowKit
def gL(ar:List (List UInt8))(k:Nat):List UInt8:=ar.getD (ar.length-1-k) []
theorem fv{s:List UInt8}{ar:List (List UInt8)}:∀(i u:Nat),i<=ar.length->bB s ar i=some u->u<ar.length/\gL ar u=s
 |0,u,_,h=>by cases h
 |
  i+1,u,hi,h=>by
  rw[bB]at h
  split at h
  ·rename_i e
   cases h
   refine⟨by omega,?_⟩
   rw[gL,show ar.length-1-(ar.length-1-i)=i by omega];exact e
  ·exact fv i u (by omega) h
def tv:Ty->Tg->Bool
 | .plus a b,tg=>tv a tg||tv b tg
 | .times a b,tg=>tv a tg||tv b tg
 | .rc a,tg=>tv a tg.up
 |t,tg=>eX t tg
theorem hJ:∀(n:Nat) (v:Vl),v.nodes<=n->∀(t:Ty) (tg:Tg),tv t tg=false->bQ t tg v=[]
 |0,v,h=>by have:=cB v;omega
 |
  n+1,v,hn=>by
  intro t tg ho
  cases hm:stuck t v with
  |
   true =>
   refine dy ?_ hm
   cases t<;>first|exact ho|rfl
  |
   false =>
   unfold stuck at hm
   split at hm
   ·simp only[Vl.nodes]at hn
    simp only[tv,Bool.or_eq_false_iff]at ho
    rw[mn,hJ n _ (by omega) _ _ ho.1];rfl
   ·simp only[Vl.nodes]at hn
    simp only[tv,Bool.or_eq_false_iff]at ho
    rw[mh,hJ n _ (by omega) _ _ ho.2];rfl
   ·simp only[Vl.nodes]at hn
    simp only[tv,Bool.or_eq_false_iff]at ho
    rw[l9,hJ n _ (by omega) _ _ ho.1,hJ n _ (by omega) _ _ ho.2];rfl
   ·rename_i a w
    simp only[Vl.nodes]at hn
    have ho':tv a tg.up=false:=ho
    rw[ml,hJ n _ (by omega) _ _ ho']
    have:(bQ a (.bd 0) w).flatMap (fun h=>iL (fun c=>.f (.r (.p h.1 c))) (bQ (.rc a) tg h.2))=(bQ a (.bd 0) w).flatMap (fun _=>[]):=ji fun h hh=>by
     have:=(jv hh).1
     rw[hJ n h.2 (by omega) (.rc a) tg ho];rfl
    rw[this]
    induction bQ a (.bd 0) w<;>simp_all[iL]
   ·cases hm
theorem kg:∀(e:E) (ar:List (List UInt8)) (t:Ty) (k:Nat),cz e ar=some t->tv t (.bd k)=true->k<ar.length/\bB (gL ar k) ar ar.length=some k
 |
  .atom s,ar,t,k,ht,ho=>by
  simp only[cz]at ht
  split at ht
  ·cases ht;cases ho
  ·split at ht
   ·cases ht;cases ho
   ·split at ht
    ·cases ht;cases ho
    ·split at ht
     ·split at ht
      ·rename_i u hu
       cases ht
       have:u=k:=by simpa[tv,eX]using ho
       subst this
       obtain⟨h1,h2⟩:=fv _ _ (ap _) hu
       exact⟨h1,by rw[h2];exact hu⟩
      ·cases ht;cases ho
     ·cases ht
 |
  .list [x,a,b],ar,t,k,ht,ho=>by
  by_cases h0:x.at=[43]
  ·obtain⟨t1,t2,h1,h2,rfl⟩:=eW h0 ht
   simp only[tv,bf]at ho
   rcases ho with ho|ho
   ·exact kg a ar t1 k h1 ho
   ·exact kg b ar t2 k h2 ho
  ·by_cases h1:x.at=[42]
   ·obtain⟨t1,t2,h1,h2,rfl⟩:=ew h1 ht
    simp only[tv,bf]at ho
    rcases ho with ho|ho
    ·exact kg a ar t1 k h1 ho
    ·exact kg b ar t2 k h2 ho
   ·by_cases h2:x.at=[114,101,99]
    ·obtain⟨t1,_,h3,rfl⟩:=cW h2 ht
     obtain⟨q1,q2⟩:=kg b (ar++[a.at]) t1 (k+1) h3 ho
     simp only[al,aw,aG]at q1
     have hk:k<ar.length:=by omega
     have e:gL (ar++[a.at]) (k+1)=gL ar k:=by
      unfold gL
      rw[al,show ar.length+[a.at].length-1-(k+1)=ar.length-1-k by simp;omega]
      simp[aa,List.getElem?_append_left (show ar.length-1-k<ar.length by omega)]
     rw[e]at q2
     refine⟨hk,?_⟩
     have e2:(ar++[a.at]).length=ar.length+1:=by simp
     rw[e2,bB]at q2
     split at q2
     ·rw[e2]at q2;simp at q2
     ·rw[jR _ _ _ _ (ap _)]at q2
      cases hq:bB (gL ar k) ar ar.length with
      |none=>rw[hq]at q2;cases q2
      |some u=>rw[hq]at q2;simpa using q2
    ·rw[iu _ h0 h1 h2]at ht;cases ht
 | .list [],ar,t,k,ht,ho=>by cases ht
 | .list [_],ar,t,k,ht,ho=>by cases ht
 | .list [_,_],ar,t,k,ht,ho=>by cases ht
 | .list (_::_::_::_::_),ar,t,k,ht,ho=>by cases ht
theorem gb(w:List UInt8)(ar:List (List UInt8)):bB w (ar++[w]) (ar++[w]).length=some 0:=by
 have e2:(ar++[w]).length=ar.length+1:=by simp
 rw[e2,bB,if_pos (by simp[aa]),e2];simp
theorem iU{s w:List UInt8}(ar:List (List UInt8))(h:w≠s):bB s (ar++[w]) (ar++[w]).length=(bB s ar ar.length).map (·+1):=by
 have e2:(ar++[w]).length=ar.length+1:=by simp
 rw[e2,bB,if_neg (by simpa[aa]using h),jR _ _ _ _ (ap _)]
theorem EI{b:E}{ar:List (List UInt8)}{w:List UInt8}{t:Ty}{k:Nat}(hb:cz b (ar++[w])=some t)(hk:bB w ar ar.length=some k):tv t (.bd (k+1))=false:=by
 cases h:tv t (.bd (k+1))with
 |false=>rfl
 |
  true =>
  obtain⟨_,q2⟩:=kg _ _ _ _ hb h
  obtain⟨h1,h2⟩:=fv _ _ (ap _) hk
  have e:gL (ar++[w]) (k+1)=gL ar k:=by
   unfold gL
   rw[al,show ar.length+[w].length-1-(k+1)=ar.length-1-k by simp;omega]
   simp[aa,List.getElem?_append_left (show ar.length-1-k<ar.length by omega)]
  rw[e,h2,gb]at q2
  cases q2
def nj(s:List UInt8)(ar:List (List UInt8)):Tg:=match bB s ar ar.length with|some u=>.bd u|none=>.nm s
theorem tH(w:List UInt8)(ar:List (List UInt8)):nj w (ar++[w])=.bd 0:=by rw[nj,gb]
theorem xD{s w:List UInt8}(ar:List (List UInt8))(h:w≠s):nj s (ar++[w])=(nj s ar).up:=by
 rw[nj,nj,iU ar h]
 cases bB s ar ar.length<;>rfl
theorem fK(n:Nat):∀(m:Nat) (v:Vl),v.nodes<=m->∀(e:E) (env:List Fr) (t:Ty),Ask e env t->ei n v (e,env)=true->∀(k:Nat) (f:Fr),env[k]?=some f->∀h,h∈bQ t (.bd k) v->ei n h.2 (f.ex,f.out)=true
 |0,v,hm=>by have:=cB v;omega
 |
  m+1,v,hm=>by
  intro e env t A hv k f hf h hh
  rcases gx A.wf A.ty with⟨hb,hq⟩|⟨u,g,rfl,hq,hu⟩
  ·have hhd:hd e env=(e,env):=jG hq
   rcases fB A.ty hb A.cl with⟨rfl,rfl⟩|⟨rfl,rfl⟩|⟨s,rfl,rfl,hp,h0,h1⟩|⟨x,a,b,t1,t2,rfl,hx,rfl,ha,hbb⟩|⟨x,a,b,t1,t2,rfl,hx,rfl,ha,hbb⟩|⟨x,a,b,t1,rfl,hx,rfl⟩
   ·rw[dy rfl (by cases v<;>rfl)]at hh;cases hh
   ·rw[dy rfl (by cases v<;>rfl)]at hh;cases hh
   ·rw[dy rfl (by cases v<;>rfl)]at hh;cases hh
   ·obtain⟨ok1,ok2,ok3,_⟩:=A.ok
    obtain⟨f1,f2⟩:=fy A.cl
    cases v with
    |
     l w =>
     simp only[ei,hhd,hx,beq_self_eq_true,bA]at hv
     simp only[Vl.nodes]at hm
     rw[mn]at hh
     obtain⟨h2,h3,rfl⟩:=df hh
     exact fK n m w (by omega) a env t1 ⟨ok2,A.wf,ha,f1⟩ hv k f hf h2 h3
    |
     r w =>
     simp only[ei,hhd,hx,beq_self_eq_true,bA]at hv
     simp only[Vl.nodes]at hm
     rw[mh]at hh
     obtain⟨h2,h3,rfl⟩:=df hh
     exact fK n m w (by omega) b env t2 ⟨ok3,A.wf,hbb,f2⟩ hv k f hf h2 h3
    |_=>rw[dy rfl rfl]at hh;cases hh
   ·obtain⟨ok1,ok2,ok3,_⟩:=A.ok
    obtain⟨f1,f2⟩:=eV A.cl
    cases v with
    |
     p w w' =>
     simp only[ei,hhd,hx,beq_self_eq_true,bA,aq]at hv
     simp only[Vl.nodes]at hm
     rw[l9]at hh
     rcases aI.1 hh with hh|hh
     ·obtain⟨h2,h3,rfl⟩:=df hh
      exact fK n m w (by omega) a env t1 ⟨ok2,A.wf,ha,f1⟩ hv.1 k f hf h2 h3
     ·obtain⟨h2,h3,rfl⟩:=df hh
      exact fK n m w' (by omega) b env t2 ⟨ok3,A.wf,hbb,f2⟩ hv.2 k f hf h2 h3
    |_=>rw[dy rfl rfl]at hh;cases hh
   ·obtain⟨t1',he1,h1,f1,hw1⟩:=jp A.wf A.ok hx A.ty A.cl
    cases he1
    obtain⟨ok1,ok2,ok3,_⟩:=A.ok
    cases v with
    |
     f w =>
     simp only[ei,hhd,hx,beq_self_eq_true,bA]at hv
     simp only[Vl.nodes]at hm
     rw[ml]at hh
     have A':Ask b (.mk a.at (.list [x,a,b]) env::env) t1:=⟨ok3,hw1,h1,f1⟩
     rcases aI.1 hh with hh|hh
     ·obtain⟨h2,h3,rfl⟩:=df hh
      exact fK n m w (by omega) b _ t1 A' hv (k+1) f (by simpa using hf) h2 h3
     ·obtain⟨kd,h2,h3⟩:=List.mem_flatMap.1 hh
      obtain⟨h4,h5,rfl⟩:=df h3
      have hkd:=fK n m w (by omega) b _ t1 A' hv 0 _ rfl kd h2
      have:=(jv h2).1
      exact fK n m kd.2 (by omega) (.list [x,a,b]) env _ A hkd k f hf h4 h5
    |_=>rw[dy rfl rfl]at hh;cases hh
  ·by_cases huk:u=k
   ·subst huk
    rw[hu]at hf;cases hf
    rw[lL v (by simp[eX])]at hh
    simp only[aY]at hh
    subst hh
    obtain⟨x,a,b,t',hfe,hok,hx,ht',hf',hwf,hlt⟩:=nw A.wf hq
    rw[<-s6 n v (pE hq) (by rw[hfe];exact oL hwf)];exact hv
   ·rw[dy (by simpa[eX]using huk) (by cases v<;>rfl)]at hh;cases hh
end Go.Proofs.Trees
namespace Go.Proofs.Trees
open Go Go.VL Go.RowKit
inductive lT:AV->List Nat->Prop
 |nil:lT j6 []
 |cons {m:Nat} {cs:List AV} {e:AV} {ids:List Nat} (hm:m∉ids) (h:lT e ids):lT (.ptr [.pid m cs,e]) (m::ids)
theorem lT.has{a:AV}{ids:List Nat}(h:lT a ids):LK.has .ptr a:=by
 cases h
 ·exact(jO).mpr trivial
 ·exact(dO _).mpr trivial
theorem lT.OH{M:Mem}{a:AV}{ids:List Nat}(h:lT a ids):∀{v:Value},bm M cX a v->∀b,b∈ids->M.p b:=by
 induction h with
 |nil=>intro v _ b hb;cases hb
 |
  @cons m cs e ids hm h ih =>
  intro v hr b hb
  cases hr with
  |
   ptr _ _ _ off us hc hr =>
   have h0:=hr 0 (by simp)
   have h1:=hr 1 (by simp)
   simp only[bb,List.getD_cons_succ]at h0 h1
   rcases aE.1 hb with rfl|hb
   ·generalize us 0=u0 at h0
    cases h0 with
    |pid _ _ _ us hp _ _=>exact hp
   ·exact ih h1 b hb
theorem lT.nodup{a:AV}{ids:List Nat}(h:lT a ids):ids.Nodup:=by
 induction h with
 |nil=>simp
 |cons hm h ih=>exact List.nodup_cons.2 ⟨hm,ih⟩
theorem xi(a b:AV)(S:Nat->Prop)(R:AV->Prop):zh Kd cn dP (cw dP) [.agg [.x a,.x b]] S (fun o=>aH o 7) R =
 .ak (LK.has .ptr a/\a.isNil=false) (.ak (LK.has .ptr a/\a.isNil=false) (.ak (LK.has .ptr ((a.deref.drop 3).headD .any)/\1<=(a.deref.drop 3).length)
  (.ak (∀ids:Nat->Nat,(∀o,¬S (ids o))->(True/\R (.da [.agg [(a.deref.drop 3).headD .any,.ptr [.pid (ids 7) [a,b],b]],.pid (ids 7) [a,b]]))) (.done 0 [] [])))):=by kernel_rfl
def F0(t:Ty)(ea:AV)(ids:List Nat):AV->List Ob->Prop:=fun r o=>(∃m,m∉ids/\r=.da [.agg [t.av,.ptr [.pid m [(Ty.rc t).av,ea],ea]],.pid m [(Ty.rc t).av,ea]])/\o=[]
theorem F0.ne(t:Ty)(ea:AV)(ids:List Nat):∃r o,F0 t ea ids r o:=by
 have:∃m,m∉ids:=⟨ids.foldr max 0+1,fun h=>by
  have key:∀(l:List Nat) (x:Nat),x∈l->x<=l.foldr max 0:=by
   intro l
   induction l with
   |nil=>intro x hx;cases hx
   |
    cons y l ih =>
    intro x hx
    rcases aE.1 hx with rfl|hx
    ·simp only[List.foldr_cons];omega
    ·have:=ih x hx;simp only[List.foldr_cons];omega
  have:=key _ _ h
  omega⟩
 obtain⟨m,hm⟩:=this
 exact⟨_,_,⟨m,hm,rfl⟩,rfl⟩
theorem Kb(t:Ty)(ea:AV)(ids:List Nat)(he:lT ea ids):au Tryz.prog 90 [.agg [(Ty.rc t).av,ea]] [] (F0 t ea ids):=by
 have hup:u5 [.agg [(Ty.rc t).av,ea]] [.agg [.x (Ty.rc t).av,.x ea]]:=ah (cG (ah (bX ((be _).mpr trivial)) (ah (bX he.has) aD))) aD
 refine au.up hup ?_
 refine au.OT (cn:=cn) (F:=dP) (S:=fun b=>b∈ids) (sel:=fun o=>aH o 7) sZ mixed (by kernel_rfl) (by kernel_rfl) (c:=cw dP) (by kernel_rfl) (by kernel_rfl) (fun M β vs hr b hb=>?_) ?_
 ·have h0:=hr 0 (by simp)
  simp only[bb]at h0
  obtain⟨us,_,hl,hq,_⟩:=fO h0
  have h1:=hq 1 (by simp at hl |-)
  simp only[List.getD_cons_succ,bb]at h1
  cases h1 with
  |x _ _ _ _ h=>exact he.OH h b hb
 ·rw[xi]
  simp only[Ty.av,↓zq,zs,ae,be]
  exact⟨by omega,fun ids' hf=>⟨ids' 7,hf 7,rfl⟩⟩
theorem J2(u:Nat)(hu:u<1000000):∀(k i:Nat) (ea:AV) (ids:List Nat),i+k=u->lT ea ids->k<=ids.length->Bp [ea,.v (.int .i64 (u:Int)),.v (.int .i64 (i:Int))] [] (fun t ys o=>t=1/\∃e',lT e' (ids.drop k)/\ys=[e']/\o=[])
 |
  0,i,ea,ids,hi,he,hk=>by
  refine A6 _ _ _ ?_
  have:i=u:=by omega
  subst this
  simp only[zN,↓zq,zs,ae]
  exact⟨he.has,fun h=>by omega,fun _=>⟨ea,he,rfl⟩⟩
 |
  k+1,i,ea,ids,hi,he,hk=>by
  refine A6 _ _ _ ?_
  cases he with
  |nil=>simp at hk
  |
   @cons m cs e ids' hm h =>
   simp only[zN,↓zq,zs,ae,h.has]
   refine⟨fun _=>⟨by omega,?_⟩,fun h=>by omega⟩
   rw[bp i (by omega)]
   exact J2 u hu k (i+1) e ids' (by omega) h (by simpa using hk)
theorem Lv(u:Nat)(ea:AV)(ids:List Nat)(he:lT ea ids)(hu:u<ids.length)(hl:ids.length<1000000):au Tryz.prog 125 [.agg [(Ty.cc u).av,ea]] [] (fun r o=>(∃cs,r=.pid (ids.getD u 0) cs)/\o=[]):=by
 refine JH _ _ ((be _).mpr trivial) he.has ?_
 simp only[Ed,Ty.av,↓zq,zs,ae,he.has]
 refine⟨by omega,nW (J2 u (by omega) u 0 ea ids (by omega) he (by omega)) ?_ (fun ys o h=>by cases h.1)⟩
 rintro ys o ⟨_,e',he',rfl,rfl⟩
 have hd:ids.drop u=ids.getD u 0::ids.drop (u+1):=by
  rw[aL hu];simp[aa,hu]
 rw[hd]at he'
 cases he' with
 |
  @cons m cs e ids' hm h =>
  have hp:LK.has .ptr (AV.pid (ids.getD u 0) cs):=.inr (.inr ⟨_,_,rfl⟩)
  simp only[↓zq,zs,ae,hp]
  exact⟨by omega,cs,rfl⟩
inductive yd:Tg->List Nat->List UInt8->AV->Prop
 |nm (s:List UInt8) (ids:List Nat):yd (.nm s) ids s j6
 |bd {k:Nat} {ids:List Nat} (hk:k<ids.length) (cs:List AV) (s:List UInt8):yd (.bd k) ids s (.pid (ids.getD k 0) cs)
theorem yd.has{tg:Tg}{ids:List Nat}{s:List UInt8}{fr:AV}(h:yd tg ids s fr):LK.has .ptr fr:=by
 cases h
 ·exact(jO).mpr trivial
 ·exact .inr (.inr ⟨_,_,rfl⟩)
theorem yd.push{tg:Tg}{ids:List Nat}{s:List UInt8}{fr:AV}(h:yd tg ids s fr)(m:Nat):yd tg.up (m::ids) s fr:=by
 cases h with
 |nm=>exact .nm _ _
 |
  @bd k _ hk cs =>
  have:=yd.bd (k:=k+1) (ids:=m::ids) (by simpa using hk) cs s
  simpa[Tg.up]using this
theorem xn{ids:List Nat}(h:ids.Nodup){i j:Nat}(hi:i<ids.length)(hj:j<ids.length)(he:ids.getD i 0=ids.getD j 0):i=j:=by
 have e1:ids.getD i 0=ids[i]:=by simp[aa,hi]
 have e2:ids.getD j 0=ids[j]:=by simp[aa,hj]
 rw[e1,e2]at he
 have hp:=List.pairwise_iff_getElem.1 h
 rcases Nat.lt_trichotomy i j with hlt|rfl|hlt
 ·exact absurd he (hp i j hi hj hlt)
 ·rfl
 ·exact absurd he.symm (hp j i hj hi hlt)
theorem Mg(t:Ty)(tg:Tg)(ea:AV)(ids:List Nat)(s:List UInt8)(fr:AV)(he:lT ea ids)(ht:yd tg ids s fr)(hu:∀u,t=.cc u->u<ids.length)(hl:ids.length<1000000) :
 au Tryz.prog 128 [.agg [.v (.string (mk s)),fr],.agg [t.av,ea]] [] (bK (.v (.bool (eX t tg)))):=by
 refine MR _ _ _ _ ht.has ((be _).mpr trivial) he.has ?_
 cases ht with
 |
  nm s =>
  cases t<;>simp[AF,Ty.av,↓zq,zs,ae,zt,bK,eX]
  rw[cj];simp
 |
  @bd k _ hk cs s =>
  generalize hm0:ids.getD k 0=m0
  have hp:LK.has .ptr (AV.pid m0 cs):=.inr (.inr ⟨_,_,rfl⟩)
  have hn:(AV.pid m0 cs).isNil=false:=rfl
  cases t with
  |
   cc u =>
   have hu:=hu u rfl
   simp only[AF,Ty.av,↓zq,zs,ae,hp,hn]
   refine⟨fun _=>⟨by omega,fun _=>?_,fun h=>absurd rfl h⟩,fun h=>by cases h⟩
   have hb:=Lv u ea ids he hu hl
   simp only[Ty.av]at hb
   refine aU hb ⟨_,_,⟨[],rfl⟩,rfl⟩ ?_
   rintro r o ⟨⟨cs',rfl⟩,rfl⟩
   have hp':LK.has .ptr (AV.pid (ids.getD u 0) cs'):=.inr (.inr ⟨_,_,rfl⟩)
   simp only[↓zq,zs,ae,hp',AV.pY,AV.yG,bK,eX]
   congr 2
   rw[cj,Nat.beq_eq,decide_eq_true_eq,<-hm0]
   exact⟨fun h=>xn he.nodup hu hk h,fun h=>by rw[h]⟩
  |_=>simp[AF,Ty.av,↓zq,zs,ae,hp,hn,bK,eX]
end Go.Proofs.Trees
namespace Go.Proofs.Trees
open Go Go.VL Go.RowKit
theorem Cr(b:Int)(a:AV)(h:LK.ptr.has a):au Tryz.prog 95 [.v (.int .u8 b),a] [] (bK (.ptr [.v (.int .u8 b),.v (.string (mk [])),a,j6])):=by
 refine No _ _ h ?_
 simp[Iu,↓zq,zs,ae,bK]
end Go.Proofs.Trees
namespace Go.Proofs.Trees
open Go Go.VL Go.RowKit
def gO(l:List Hl):List (List AV):=l.map fun h=>[h.1.cF,h.2.cF]
theorem dC(l:List Hl):(gO l).length=l.length:=by simp[gO]
theorem kA{l:List Hl}{i:Nat}(hi:i<l.length):(gO l).getD i []=[(l[i]).1.cF,(l[i]).2.cF]:=by simp[gO,aa,hi]
theorem nJ(out:List Hl)(a b:Vl):gO out++[[a.cF,b.cF]]=gO (out++[(a,b)]):=by simp[gO]
theorem fL(g:Vl->Vl)(l:List Hl){i:Nat}(hi:i<l.length):iL g (l.drop i)=(g (l[i]).1,(l[i]).2)::iL g (l.drop (i+1)):=by
 rw[aL hi];rfl
theorem fe(g:Vl->Vl)(l:List Hl):(iL g l).length=l.length:=by simp[iL]
theorem xd(a b:AV):cb 2 [[a,b]]:=fun c hc=>by simp at hc;rw[hc];rfl
theorem Ku(x0:AV)(hx0:LK.ptr.has x0)(g:Vl->Vl)(hg:∀c:Vl,au Tryz.prog 130 [c.cF,.ref 0 0] [.cells [x0]] (cZ (g c).cF [.cells [x0]]))(l:List Hl):∀(k i:Nat) (out:List Hl),i+k=l.length->out.length+k<=1000000->l.length<=1000000 ->
 Ej [.sl (gO l),.v (.int .i64 (l.length:Int)),.v (.int .i64 (i:Int))] [.cells [x0],.cells [.any],.vec 2 (gO out)] (gk 1 [] [.cells [x0],.cells [.any],.vec 2 (gO (out++iL g (l.drop i)))])
 |
  0,i,out,hi,ho,hl=>by
  refine KQ _ _ _ _ _ ?_
  have:i=l.length:=by omega
  subst this
  simp only[D4,↓zq,zs,ae,dC,hx0]
  exact⟨fun h=>by omega,fun _=>by simp[gk,iL]⟩
 |
  k+1,i,out,hi,ho,hl=>by
  have hlt:i<l.length:=by omega
  refine KQ _ _ _ _ _ ?_
  simp only[D4,↓zq,zs,ae,zt,dC,kA hlt,aW,bY,hx0]
  refine⟨fun _=>⟨by omega,by omega,?_⟩,fun h=>by omega⟩
  refine bM (hg _) ?_
  simp only[↓zq,zs,ae,aW,aO,bK,cZ,hx0]
  refine⟨⟨xd _ _,by omega⟩,?_⟩
  rw[bp i (by omega)]
  have:=Ku x0 hx0 g hg l k (i+1) (out++[(g (l[i]).1,(l[i]).2)]) (by omega) (by simp;omega) hl
  rw[aQ]at this
  rw[fL g l hlt,nJ]
  exact this
theorem KW(x0:AV)(hx0:LK.ptr.has x0)(g:Vl->Vl)(hg:∀c:Vl,au Tryz.prog 130 [c.cF,.ref 0 0] [.cells [x0]] (cZ (g c).cF [.cells [x0]]))(l out:List Hl)(hl:out.length+l.length<=1000000) :
 au Tryz.prog 129 [.sl (gO l),.fn 130 [.ref 0 0],.ref 1 0] [.cells [x0],.cells [.vec 2],.vec 2 (gO out)] (cZ .any [.cells [x0],.cells [.vec 2],.vec 2 (gO (out++iL g l))]):=by
 refine MQ _ _ _ ((bU _).mpr trivial) hx0 ?_
 simp only[HS,↓zq,zs,ae,dC]
 have h:=Ku x0 hx0 g hg l l.length 0 out (by omega) (by omega) (by omega)
 rw[aV]at h
 refine bZ h ?_
 simp[↓zq,zs,ae,cZ,aO,hx0]
theorem Kv(x0:AV)(hx0:LK.ptr.has x0)(g:Vl->Vl)(hg:∀c:Vl,au Tryz.prog 131 [c.cF,.ref 0 0] [.cells [x0]] (cZ (g c).cF [.cells [x0]]))(l:List Hl):∀(k i:Nat) (out:List Hl),i+k=l.length->out.length+k<=1000000->l.length<=1000000 ->
 DX [.sl (gO l),.v (.int .i64 (l.length:Int)),.v (.int .i64 (i:Int))] [.cells [x0],.cells [.any],.vec 2 (gO out)] (gk 1 [] [.cells [x0],.cells [.any],.vec 2 (gO (out++iL g (l.drop i)))])
 |
  0,i,out,hi,ho,hl=>by
  refine HD _ _ _ _ _ ?_
  have:i=l.length:=by omega
  subst this
  simp only[FI,↓zq,zs,ae,dC,hx0]
  exact⟨fun h=>by omega,fun _=>by simp[gk,iL]⟩
 |
  k+1,i,out,hi,ho,hl=>by
  have hlt:i<l.length:=by omega
  refine HD _ _ _ _ _ ?_
  simp only[FI,↓zq,zs,ae,zt,dC,kA hlt,aW,bY,hx0]
  refine⟨fun _=>⟨by omega,by omega,?_⟩,fun h=>by omega⟩
  refine bM (hg _) ?_
  simp only[↓zq,zs,ae,aW,aO,bK,cZ,hx0]
  refine⟨⟨xd _ _,by omega⟩,?_⟩
  rw[bp i (by omega)]
  have:=Kv x0 hx0 g hg l k (i+1) (out++[(g (l[i]).1,(l[i]).2)]) (by omega) (by simp;omega) hl
  rw[aQ]at this
  rw[fL g l hlt,nJ]
  exact this
theorem LH(x0:AV)(hx0:LK.ptr.has x0)(g:Vl->Vl)(hg:∀c:Vl,au Tryz.prog 131 [c.cF,.ref 0 0] [.cells [x0]] (cZ (g c).cF [.cells [x0]]))(l out:List Hl)(hl:out.length+l.length<=1000000) :
 au Tryz.prog 129 [.sl (gO l),.fn 131 [.ref 0 0],.ref 1 0] [.cells [x0],.cells [.vec 2],.vec 2 (gO out)] (cZ .any [.cells [x0],.cells [.vec 2],.vec 2 (gO (out++iL g l))]):=by
 refine LO _ _ _ ((bU _).mpr trivial) hx0 ?_
 simp only[Ie,↓zq,zs,ae,dC]
 have h:=Kv x0 hx0 g hg l l.length 0 out (by omega) (by omega) (by omega)
 rw[aV]at h
 refine bZ h ?_
 simp[↓zq,zs,ae,cZ,aO,hx0]
theorem HL(x0:AV)(hx0:LK.ptr.has x0)(g:Vl->Vl)(hg:∀c:Vl,au Tryz.prog 133 [c.cF,.ref 0 0] [.cells [x0]] (cZ (g c).cF [.cells [x0]]))(l:List Hl):∀(k i:Nat) (out:List Hl),i+k=l.length->out.length+k<=1000000->l.length<=1000000 ->
 FV [.sl (gO l),.v (.int .i64 (l.length:Int)),.v (.int .i64 (i:Int))] [.cells [x0],.cells [.any],.vec 2 (gO out)] (gk 1 [] [.cells [x0],.cells [.any],.vec 2 (gO (out++iL g (l.drop i)))])
 |
  0,i,out,hi,ho,hl=>by
  refine I2 _ _ _ _ _ ?_
  have:i=l.length:=by omega
  subst this
  simp only[Dy,↓zq,zs,ae,dC,hx0]
  exact⟨fun h=>by omega,fun _=>by simp[gk,iL]⟩
 |
  k+1,i,out,hi,ho,hl=>by
  have hlt:i<l.length:=by omega
  refine I2 _ _ _ _ _ ?_
  simp only[Dy,↓zq,zs,ae,zt,dC,kA hlt,aW,bY,hx0]
  refine⟨fun _=>⟨by omega,by omega,?_⟩,fun h=>by omega⟩
  refine bM (hg _) ?_
  simp only[↓zq,zs,ae,aW,aO,bK,cZ,hx0]
  refine⟨⟨xd _ _,by omega⟩,?_⟩
  rw[bp i (by omega)]
  have:=HL x0 hx0 g hg l k (i+1) (out++[(g (l[i]).1,(l[i]).2)]) (by omega) (by simp;omega) hl
  rw[aQ]at this
  rw[fL g l hlt,nJ]
  exact this
theorem MG(x0:AV)(hx0:LK.ptr.has x0)(g:Vl->Vl)(hg:∀c:Vl,au Tryz.prog 133 [c.cF,.ref 0 0] [.cells [x0]] (cZ (g c).cF [.cells [x0]]))(l out:List Hl)(hl:out.length+l.length<=1000000) :
 au Tryz.prog 129 [.sl (gO l),.fn 133 [.ref 0 0],.ref 1 0] [.cells [x0],.cells [.vec 2],.vec 2 (gO out)] (cZ .any [.cells [x0],.cells [.vec 2],.vec 2 (gO (out++iL g l))]):=by
 refine N1 _ _ _ ((bU _).mpr trivial) hx0 ?_
 simp only[KB,↓zq,zs,ae,dC]
 have h:=HL x0 hx0 g hg l l.length 0 out (by omega) (by omega) (by omega)
 rw[aV]at h
 refine bZ h ?_
 simp[↓zq,zs,ae,cZ,aO,hx0]
theorem JK(g:Vl->Vl)(hg:∀c:Vl,au Tryz.prog 134 [c.cF] [] (bK (g c).cF))(l:List Hl):∀(k i:Nat) (out:List Hl),i+k=l.length->out.length+k<=1000000->l.length<=1000000 ->
 D0 [.v (.func (.func 134) #[] #[]),.sl (gO l),.v (.int .i64 (l.length:Int)),.v (.int .i64 (i:Int))] [.cells [.any],.vec 2 (gO out)] (gk 1 [] [.cells [.any],.vec 2 (gO (out++iL g (l.drop i)))])
 |
  0,i,out,hi,ho,hl=>by
  refine Gk _ _ _ _ ?_
  have:i=l.length:=by omega
  subst this
  simp only[Eo,↓zq,zs,ae,dC]
  exact⟨fun h=>by omega,fun _=>by simp[gk,iL]⟩
 |
  k+1,i,out,hi,ho,hl=>by
  have hlt:i<l.length:=by omega
  refine Gk _ _ _ _ ?_
  simp only[Eo,↓zq,zs,ae,zt,dC,kA hlt,aW,bY]
  refine⟨fun _=>⟨by omega,by omega,?_⟩,fun h=>by omega⟩
  refine an (hg _) ?_
  simp only[↓zq,zs,ae,aW,aO,bK,cZ]
  refine⟨⟨xd _ _,by omega⟩,?_⟩
  rw[bp i (by omega)]
  have:=JK g hg l k (i+1) (out++[(g (l[i]).1,(l[i]).2)]) (by omega) (by simp;omega) hl
  rw[aQ]at this
  rw[fL g l hlt,nJ]
  exact this
theorem Oe(g:Vl->Vl)(hg:∀c:Vl,au Tryz.prog 134 [c.cF] [] (bK (g c).cF))(l out:List Hl)(hl:out.length+l.length<=1000000) :
 au Tryz.prog 129 [.sl (gO l),.v (.func (.func 134) #[] #[]),.ref 0 0] [.cells [.vec 1],.vec 2 (gO out)] (cZ .any [.cells [.vec 1],.vec 2 (gO (out++iL g l))]):=by
 refine MW _ _ ((bU _).mpr trivial) ?_
 simp only[GA,↓zq,zs,ae,dC]
 have h:=JK g hg l l.length 0 out (by omega) (by omega) (by omega)
 rw[aV]at h
 refine bZ h ?_
 simp[↓zq,zs,ae,cZ,aO]
theorem Ji(x0:AV)(x1:AV)(hx0:LK.ptr.has x0)(hx1:LK.ptr.has x1)(g:Vl->Vl)(hg:∀c:Vl,au Tryz.prog 135 [c.cF,.ref 0 0] [.cells [x0,x1]] (cZ (g c).cF [.cells [x0,x1]]))(l:List Hl):∀(k i:Nat) (out:List Hl),i+k=l.length->out.length+k<=1000000->l.length<=1000000 ->
 Fj [.sl (gO l),.v (.int .i64 (l.length:Int)),.v (.int .i64 (i:Int))] [.cells [x0,x1],.cells [.any],.vec 2 (gO out)] (gk 1 [] [.cells [x0,x1],.cells [.any],.vec 2 (gO (out++iL g (l.drop i)))])
 |
  0,i,out,hi,ho,hl=>by
  refine IV _ _ _ _ _ _ ?_
  have:i=l.length:=by omega
  subst this
  simp only[Ew,↓zq,zs,ae,dC,hx0,hx1]
  exact⟨fun h=>by omega,fun _=>by simp[gk,iL]⟩
 |
  k+1,i,out,hi,ho,hl=>by
  have hlt:i<l.length:=by omega
  refine IV _ _ _ _ _ _ ?_
  simp only[Ew,↓zq,zs,ae,zt,dC,kA hlt,aW,bY,hx0,hx1]
  refine⟨fun _=>⟨by omega,by omega,?_⟩,fun h=>by omega⟩
  refine bM (hg _) ?_
  simp only[↓zq,zs,ae,aW,aO,bK,cZ,hx0,hx1]
  refine⟨⟨xd _ _,by omega⟩,?_⟩
  rw[bp i (by omega)]
  have:=Ji x0 x1 hx0 hx1 g hg l k (i+1) (out++[(g (l[i]).1,(l[i]).2)]) (by omega) (by simp;omega) hl
  rw[aQ]at this
  rw[fL g l hlt,nJ]
  exact this
theorem Mq(x0:AV)(x1:AV)(hx0:LK.ptr.has x0)(hx1:LK.ptr.has x1)(g:Vl->Vl)(hg:∀c:Vl,au Tryz.prog 135 [c.cF,.ref 0 0] [.cells [x0,x1]] (cZ (g c).cF [.cells [x0,x1]]))(l out:List Hl)(hl:out.length+l.length<=1000000) :
 au Tryz.prog 129 [.sl (gO l),.fn 135 [.ref 0 0],.ref 1 0] [.cells [x0,x1],.cells [.vec 2],.vec 2 (gO out)] (cZ .any [.cells [x0,x1],.cells [.vec 2],.vec 2 (gO (out++iL g l))]):=by
 refine Lm _ _ _ _ ((bU _).mpr trivial) hx0 hx1 ?_
 simp only[Ke,↓zq,zs,ae,dC]
 have h:=Ji x0 x1 hx0 hx1 g hg l l.length 0 out (by omega) (by omega) (by omega)
 rw[aV]at h
 refine bZ h ?_
 simp[↓zq,zs,ae,cZ,aO,hx0,hx1]
theorem NX(w c:Vl):au Tryz.prog 130 [c.cF,.ref 0 0] [.cells [(Vl.l w).cF]] (cZ (Vl.l c).cF [.cells [(Vl.l w).cF]]):=by
 refine Ip _ _ ((aW _).mpr trivial) ((aW _).mpr trivial) ?_
 simp only[CQ,Vl.cF,↓zq,zs,ae,aW]
 refine⟨by omega,?_⟩
 refine an (Cr _ _ ((aW _).mpr trivial)) ?_
 simp[↓zq,zs,ae,cZ,Vl.cF]
theorem NN(w c:Vl):au Tryz.prog 130 [c.cF,.ref 0 0] [.cells [(Vl.r w).cF]] (cZ (Vl.r c).cF [.cells [(Vl.r w).cF]]):=by
 refine Ip _ _ ((aW _).mpr trivial) ((aW _).mpr trivial) ?_
 simp only[CQ,Vl.cF,↓zq,zs,ae,aW]
 refine⟨by omega,?_⟩
 refine an (Cr _ _ ((aW _).mpr trivial)) ?_
 simp[↓zq,zs,ae,cZ,Vl.cF]
theorem Mj(x y c:Vl):au Tryz.prog 131 [c.cF,.ref 0 0] [.cells [(Vl.p x y).cF]] (cZ (Vl.l (.p c y)).cF [.cells [(Vl.p x y).cF]]):=by
 refine Nu _ _ ((aW _).mpr trivial) ((aW _).mpr trivial) ?_
 simp only[Iq,Vl.cF,↓zq,zs,ae,aW]
 refine⟨by omega,?_⟩
 refine an (Be _ _ ((aW _).mpr trivial) ((aW _).mpr trivial)) ?_
 simp only[↓zq,zs,ae]
 refine an (Cr _ _ ((dO _).mpr trivial)) ?_
 simp[↓zq,zs,ae,cZ,Vl.cF]
theorem Ng(x y c:Vl):au Tryz.prog 133 [c.cF,.ref 0 0] [.cells [(Vl.p x y).cF]] (cZ (Vl.r (.p x c)).cF [.cells [(Vl.p x y).cF]]):=by
 refine Ls _ _ ((aW _).mpr trivial) ((aW _).mpr trivial) ?_
 simp only[KI,Vl.cF,↓zq,zs,ae,aW]
 refine⟨by omega,?_⟩
 refine an (Be _ _ ((aW _).mpr trivial) ((aW _).mpr trivial)) ?_
 simp only[↓zq,zs,ae]
 refine an (Cr _ _ ((dO _).mpr trivial)) ?_
 simp[↓zq,zs,ae,cZ,Vl.cF]
theorem NU(kc kv c:Vl):au Tryz.prog 135 [c.cF,.ref 0 0] [.cells [kc.cF,kv.cF]] (cZ (Vl.f (.r (.p kc c))).cF [.cells [kc.cF,kv.cF]]):=by
 refine Of _ _ _ ((aW _).mpr trivial) ((aW _).mpr trivial) ((aW _).mpr trivial) ?_
 simp only[GH,Vl.cF,↓zq,zs,ae,aW]
 refine an (Be _ _ ((aW _).mpr trivial) ((aW _).mpr trivial)) ?_
 simp only[↓zq,zs,ae]
 refine an (Cr _ _ ((dO _).mpr trivial)) ?_
 simp only[↓zq,zs,ae]
 refine an (Cr _ _ ((dO _).mpr trivial)) ?_
 simp[↓zq,zs,ae,cZ,Vl.cF,aW]
theorem NY(c:Vl):au Tryz.prog 134 [c.cF] [] (bK (Vl.f (.l c)).cF):=by
 refine M3 _ ((aW _).mpr trivial) ?_
 simp only[Gc,↓zq,zs,ae]
 refine an (Cr _ _ ((aW _).mpr trivial)) ?_
 simp only[↓zq,zs,ae]
 refine an (Cr _ _ ((dO _).mpr trivial)) ?_
 simp[↓zq,zs,ae,bK,Vl.cF]
end Go.Proofs.Trees
namespace Go.Proofs.Trees
open Go Go.VL Go.RowKit
abbrev yg(a:Ty)(tg:Tg):Hl->List Hl:=fun h=>iL (fun c=>.f (.r (.p h.1 c))) (bQ (.rc a) tg h.2)
theorem yD(l:List Hl){i:Nat}(hi:i<l.length):l[i]∈l:=bD _
def Fm(t:Ty)(ea:AV)(s:List UInt8)(fr:AV)(tg:Tg)(v:Vl):Prop:=au Tryz.prog 91 [.agg [t.av,ea],v.cF,.agg [.v (.string (mk s)),fr]] [] (bK (.sl (gO (bQ t tg v))))
theorem K2(a:Ty)(ea:AV)(s:List UInt8)(fr:AV)(tg:Tg)(he:LK.ptr.has ea)(hf:LK.ptr.has fr)(l:List Hl)(hl:l.length<=1000000)(ih:∀h,h∈l->Fm (.rc a) ea s fr tg h.2) :
 ∀(k i:Nat) (out:List Hl),i+k=l.length->(out++(l.drop i).flatMap (yg a tg)).length<=1000000 ->
 CY [.sl (gO l),.v (.int .i64 (l.length:Int)),.v (.int .i64 (i:Int))] [.cells [(Ty.rc a).av,ea],.cells [.v (.string (mk s)),fr],.cells [.any],.vec 2 (gO out)] (gk 1 [] [.cells [.any],.vec 2 (gO (out++(l.drop i).flatMap (yg a tg)))])
 |
  0,i,out,hi,ho=>by
  refine J5 _ _ _ _ _ _ _ _ ?_
  have:i=l.length:=by omega
  subst this
  simp only[Ep,↓zq,zs,ae,dC,be,he,hf]
  exact⟨fun h=>by omega,fun _=>by simp[gk]⟩
 |
  k+1,i,out,hi,ho=>by
  have hlt:i<l.length:=by omega
  have hd:(l.drop i).flatMap (yg a tg)=yg a tg (l[i])++(l.drop (i+1)).flatMap (yg a tg):=by rw[aL hlt,cy]
  rw[hd]at ho |-
  refine J5 _ _ _ _ _ _ _ _ ?_
  simp only[Ep,↓zq,zs,ae,zt,dC,kA hlt,be,aW,bY,he,hf]
  refine⟨fun _=>⟨by omega,by omega,?_⟩,fun h=>by omega⟩
  refine an (ih _ (yD l hlt)) ?_
  simp only[↓zq,zs,ae]
  have hb:out.length+(bQ (.rc a) tg (l[i]).2).length<=1000000:=by
   simp only[al,fe]at ho;omega
  refine bM (Mq _ _ ((aW _).mpr trivial) ((aW _).mpr trivial) (fun c=>.f (.r (.p (l[i]).1 c))) (fun c=>NU (l[i]).1 (l[i]).2 c) (bQ (.rc a) tg (l[i]).2) out hb) ?_
  simp only[↓zq,zs,ae,aO,aW]
  rw[bp i (by omega),<-aQ]
  exact K2 a ea s fr tg he hf l hl ih k (i+1) _ (by omega) (by rw[aQ];exact ho)
theorem Cn(n:Nat):∀(m:Nat) (v:Vl),v.nodes<=m->∀(e:E) (env:List Fr) (t:Ty),Ask e env t->ei n v (e,env)=true->env.length+v.nodes<100000->∀(ea:AV) (ids:List Nat),lT ea ids->ids.length=env.length->∀(tg:Tg) (s:List UInt8) (fr:AV),yd tg ids s fr->Fm t ea s fr tg v
 |0,v,hm=>by have:=cB v;omega
 |
  m+1,v,hm=>by
  intro e env t A hv hl ea ids he hids tg s fr ht
  unfold Fm
  refine Md _ _ _ _ _ ((be _).mpr trivial) he.has ((aW _).mpr trivial) ht.has ?_
  unfold Hb
  refine an (Mg t tg ea ids s fr he ht (fun u hu=>by
   rcases gx A.wf A.ty with⟨hb,_⟩|⟨u',g,rfl,_,hg⟩
   ·rw[hu]at hb;cases hb
   ·cases hu;rw[hids];exact(List.getElem?_eq_some_iff.1 hg).1) (by omega)) ?_
  have hlen:=mc t tg v
  cases hat:eX t tg with
  |
   true =>
   rw[lL v hat]
   simp only[↓zq,zs,ae,bK,gO,bi,List.map_nil,Vl.cF]
   exact⟨fun _=>trivial,fun h=>(by cases h)⟩
  |false =>
  simp only[↓zq,zs,ae]
  refine⟨fun h=>(by cases h),fun _=>?_⟩
  rcases gx A.wf A.ty with⟨hb,hq⟩|⟨u,g,rfl,hq,hu⟩
  ·have hhd:hd e env=(e,env):=jG hq
   rcases fB A.ty hb A.cl with⟨rfl,rfl⟩|⟨rfl,rfl⟩|⟨s,rfl,rfl,hp,h0,h1⟩|⟨x,a,b,t1,t2,rfl,hx,rfl,ha,hbb⟩|⟨x,a,b,t1,t2,rfl,hx,rfl,ha,hbb⟩|⟨x,a,b,t1,rfl,hx,rfl⟩
   ·rw[dy hat (by cases v<;>rfl)]
    simp[Ty.av,↓zq,zs,ae,bK,gO]
   ·rw[dy hat (by cases v<;>rfl)]
    simp[Ty.av,↓zq,zs,ae,bK,gO]
   ·rw[dy hat (by cases v<;>rfl)]
    simp[Ty.av,↓zq,zs,ae,bK,gO]
   ·obtain⟨ok1,ok2,ok3,_⟩:=A.ok
    obtain⟨f1,f2⟩:=fy A.cl
    have hL:=Bh t1.av t2.av ea 43 (mk []) 0 ((be _).mpr trivial) he.has
    have hR:=A2 t1.av t2.av ea 43 (mk []) 0 ((be _).mpr trivial) he.has
    cases v with
    |
     l w =>
     simp only[ei,hhd,hx,beq_self_eq_true,bA]at hv
     simp only[Vl.nodes]at hm hl hlen
     rw[mn]at hlen |-
     rw[fe]at hlen
     simp only[Ty.av,↓zq,zs,ae]
     refine⟨by omega,fun _=>?_,fun h=>absurd rfl h⟩
     refine an hL ?_
     simp only[↓zq,zs,ae,bY,be,he.has,Vl.cF,aW]
     refine⟨by omega,fun h=>by omega,fun _=>⟨by omega,?_⟩⟩
     refine an (Cn n m w (by omega) a env t1 ⟨ok2,A.wf,ha,f1⟩ hv (by omega) ea ids he hids tg s fr ht) ?_
     simp only[↓zq,zs,ae]
     have hadd:=KW (Vl.l w).cF ((aW _).mpr trivial) Vl.l (fun c=>NX w c) (bQ t1 tg w) [] (by simp;omega)
     simp only[Vl.cF,gO,List.map_nil,bh]at hadd
     refine bM hadd ?_
     simp[↓zq,zs,ae,aO,bK,aW,gO,dO]
    |
     r w =>
     simp only[ei,hhd,hx,beq_self_eq_true,bA]at hv
     simp only[Vl.nodes]at hm hl hlen
     rw[mh]at hlen |-
     rw[fe]at hlen
     simp only[Ty.av,↓zq,zs,ae]
     refine⟨by omega,fun _=>?_,fun h=>absurd rfl h⟩
     refine an hL ?_
     simp only[↓zq,zs,ae,bY,be,he.has,Vl.cF,aW]
     refine⟨by omega,fun _=>?_,fun h=>absurd rfl h⟩
     refine an hR ?_
     simp only[↓zq,zs,ae,bY,be,he.has,aW]
     refine⟨by omega,?_⟩
     refine an (Cn n m w (by omega) b env t2 ⟨ok3,A.wf,hbb,f2⟩ hv (by omega) ea ids he hids tg s fr ht) ?_
     simp only[↓zq,zs,ae]
     have hadd:=KW (Vl.r w).cF ((aW _).mpr trivial) Vl.r (fun c=>NN w c) (bQ t2 tg w) [] (by simp;omega)
     simp only[Vl.cF,gO,List.map_nil,bh]at hadd
     refine bM hadd ?_
     simp[↓zq,zs,ae,aO,bK,aW,gO,dO]
    |_=>simp[ei,hhd,hx]at hv
   ·obtain⟨ok1,ok2,ok3,_⟩:=A.ok
    obtain⟨f1,f2⟩:=eV A.cl
    have hL:=Bh t1.av t2.av ea 42 (mk []) 0 ((be _).mpr trivial) he.has
    have hR:=A2 t1.av t2.av ea 42 (mk []) 0 ((be _).mpr trivial) he.has
    cases v with
    |
     p w w' =>
     simp only[ei,hhd,hx,beq_self_eq_true,bA,aq]at hv
     simp only[Vl.nodes]at hm hl hlen
     rw[l9]at hlen |-
     simp only[al,fe]at hlen
     simp only[Ty.av,↓zq,zs,ae]
     refine⟨by omega,fun h=>by omega,fun _=>⟨fun _=>?_,fun h=>absurd rfl h⟩⟩
     refine an hL ?_
     simp only[↓zq,zs,ae,bY,be,he.has,Vl.cF,aW]
     refine⟨by omega,?_⟩
     refine an (Cn n m w (by omega) a env t1 ⟨ok2,A.wf,ha,f1⟩ hv.1 (by omega) ea ids he hids tg s fr ht) ?_
     simp only[↓zq,zs,ae]
     have hadd:=LH (Vl.p w w').cF ((aW _).mpr trivial) (fun c=>.l (.p c w')) (fun c=>Mj w w' c) (bQ t1 tg w) [] (by simp;omega)
     simp only[Vl.cF,gO,List.map_nil,bh]at hadd
     refine bM hadd ?_
     simp only[↓zq,zs,ae,aO,aW]
     refine an hR ?_
     simp only[↓zq,zs,ae,bY,be,he.has,aW]
     refine⟨by omega,?_⟩
     refine an (Cn n m w' (by omega) b env t2 ⟨ok3,A.wf,hbb,f2⟩ hv.2 (by omega) ea ids he hids tg s fr ht) ?_
     simp only[↓zq,zs,ae]
     have hadd2:=MG (Vl.p w w').cF ((aW _).mpr trivial) (fun c=>.r (.p w c)) (fun c=>Ng w w' c) (bQ t2 tg w') (iL (fun c=>.l (.p c w')) (bQ t1 tg w)) (by rw[fe];omega)
     simp only[Vl.cF,gO]at hadd2
     refine bM hadd2 ?_
     simp[↓zq,zs,ae,aO,bK,aW,gO,dO]
    |_=>simp[ei,hhd,hx]at hv
   ·obtain⟨t1',he1,h1,f1,hw1⟩:=jp A.wf A.ok hx A.ty A.cl
    cases he1
    obtain⟨ok1,ok2,ok3,_⟩:=A.ok
    have A':Ask b (.mk a.at (.list [x,a,b]) env::env) t1:=⟨ok3,hw1,h1,f1⟩
    cases v with
    |
     f w =>
     simp only[ei,hhd,hx,beq_self_eq_true,bA]at hv
     simp only[Vl.nodes]at hm hl hlen
     rw[ml]at hlen |-
     simp only[al,fe]at hlen
     have hin:=Kb t1 ea ids he
     simp only[Ty.av]at hin
     simp only[Ty.av,↓zq,zs,ae]
     refine⟨by omega,fun h=>by omega,fun _=>⟨fun h=>by omega,fun _=>⟨fun _=>?_,fun h=>absurd rfl h⟩⟩⟩
     refine aU hin (by have:=F0.ne t1 ea ids;simpa only[F0,Ty.av]using this) ?_
     intro r o hr
     obtain⟨⟨mm,hmm,rfl⟩,rfl⟩:=hr
     have he2:lT (.ptr [.pid mm [(Ty.rc t1).av,ea],ea]) (mm::ids):=.cons hmm he
     have hfr:LK.ptr.has (.pid mm [(Ty.rc t1).av,ea]):=.inr (.inr ⟨_,_,rfl⟩)
     simp only[Ty.av]at he2 hfr
     simp only[↓zq,zs,ae,bY,be,he2.has,hfr,Vl.cF,aW,Ty.av]
     refine⟨by omega,?_⟩
     have i1:=Cn n m w (by omega) b _ t1 A' hv (by simp;omega) _ _ he2 (by simp[hids]) tg.up s fr (ht.push mm)
     unfold Fm at i1
     refine an i1 ?_
     simp only[↓zq,zs,ae]
     have hadd:=Oe (fun c=>.f (.l c)) (fun c=>NY c) (bQ t1 tg.up w) [] (by simp;omega)
     simp only[Vl.cF,gO,List.map_nil,bh]at hadd
     refine bM hadd ?_
     simp only[↓zq,zs,ae,aO,aW]
     have i2:=Cn n m w (by omega) b _ t1 A' hv (by simp;omega) _ _ he2 (by simp[hids]) (.bd 0) [] _ (by have:=yd.bd (k:=0) (ids:=mm::ids) (by simp) [(Ty.rc t1).av,ea] [];simpa only[bb,Ty.av]using this)
     unfold Fm at i2
     refine⟨by omega,?_⟩
     refine an i2 ?_
     simp only[↓zq,zs,ae,dC]
     have hl2:=mc t1 (.bd 0) w
     have ih3:∀h,h∈bQ t1 (.bd 0) w->Fm (.rc t1) ea s fr tg h.2:=fun h hh=>by
      have h3:=(jv hh).1
      have h4:=fK n m w (by omega) b _ t1 A' hv 0 _ rfl h hh
      exact Cn n m h.2 (by omega) (.list [x,a,b]) env (.rc t1) A h4 (by omega) ea ids he hids tg s fr ht
     have hloop:=K2 t1 ea s fr tg he.has ht.has (bQ t1 (.bd 0) w) (by omega) ih3 (bQ t1 (.bd 0) w).length 0 (iL (fun c=>.f (.l c)) (bQ t1 tg.up w)) (by omega) (by
      simp only[aV,al,fe]
      have hlen2:(bQ t1 tg.up w).length+((bQ t1 (.bd 0) w).flatMap (yg t1 tg)).length<=1+w.nodes:=hlen
      omega)
     simp only[Ty.av,gO,aV]at hloop
     refine bZ hloop ?_
     simp[↓zq,zs,ae,ae,bK,gO]
    |_=>simp[ei,hhd,hx]at hv
  ·rw[dy hat (by cases v<;>rfl)]
   simp[Ty.av,↓zq,zs,ae,bK,gO]
end Go.Proofs.Trees
namespace Go.Proofs.Trees
open Go Go.VL Go.RowKit
def back(n:Nat):Ty->Nat->Vl
 | .name _,c=>.el c
 | .plus a b,c=>match F1 n a with|some x=>if c<x then .l (back n a c)else .r (back n b (c-x))|none=>.u
 | .times a b,c=>match F1 n b with|some y=>.p (back n a (c/y)) (back n b (c%y))|none=>.u
 |_,_=>.u
theorem vY:∀l:List E,cb 2 (E.bc l)
 |[]=>fun c hc=>by cases hc
 |
  e::l=>fun c hc=>by
  simp only[E.bc,aE]at hc
  rcases hc with rfl|hc
  ·exact fE e
  ·exact vY l c hc
theorem GK(w:List UInt8)(l:List E)(hl:l.length<1000000):au Tryz.prog 78 [.v (.string (mk w)),.sl (E.bc l)] [] (bK (E.jX (.list (.atom w::l)))):=by
 refine MY _ _ ((bU _).mpr trivial) ?_
 simp only[HI,↓zq,zs,ae,dE,bK,E.jX,E.gF,E.bc]
 exact⟨⟨vY l,by omega⟩,rfl⟩
end Go.Proofs.Trees
namespace Go.Proofs.Trees
open Go Go.VL Go.RowKit
def lu(l:List Hl):List (List AV):=l.map fun h=>[.v (.string (mk h.1.dh.at)),h.1.dh.sp,.v (.string (mk h.2.dh.at)),h.2.dh.sp]
theorem eJ(l:List Hl):(lu l).length=l.length:=by simp[lu]
theorem fQ{l:List Hl}{i:Nat}(hi:i<l.length):(lu l).getD i []=[.v (.string (mk (l[i]).1.dh.at)),(l[i]).1.dh.sp,.v (.string (mk (l[i]).2.dh.at)),(l[i]).2.dh.sp]:=by simp[lu,aa,hi]
theorem nG(out:List Hl)(a b:Vl):lu out++[[.v (.string (mk a.dh.at)),a.dh.sp,.v (.string (mk b.dh.at)),b.dh.sp]]=lu (out++[(a,b)]):=by simp[lu]
theorem xl(a b c d:AV):cb 4 [[a,b,c,d]]:=fun x hx=>by simp at hx;rw[hx];rfl
theorem aN(s:ByteArray)(e:E):bY [.str,.sl] [.v (.string s),e.sp] 0=True:=by simp[bY,eI,a8]
theorem kk(s:ByteArray)(e:E)(x y:AV):bY [.str,.sl] [.v (.string s),e.sp,x,y] 0=True:=by simp[bY,eI,a8]
theorem Az(w:List UInt8)(e:E):au Tryz.prog 78 [.v (.string (mk w)),.sl [[.v (.string (mk e.at)),e.sp]]] [] (bK (.agg [.v (.string (mk [])),(E.list [.atom w,e]).sp])):=by
 have:=GK w [e] (by simp)
 simpa only[E.bc,ic,dU,E.at]using this
theorem AC(w:List UInt8)(e e':E):au Tryz.prog 78 [.v (.string (mk w)),.sl [[.v (.string (mk e.at)),e.sp],[.v (.string (mk e'.at)),e'.sp]]] [] (bK (.agg [.v (.string (mk [])),(E.list [.atom w,e,e']).sp])):=by
 have:=GK w [e,e'] (by simp)
 simpa only[E.bc,ic,dU,E.at]using this
def P3(pv:AV)(a b:E):Prop:=LK.sl.has pv/\pv.aM.length=3/\pv.aM.getD 1 []=[.v (.string (mk a.at)),a.sp]/\pv.aM.getD 2 []=[.v (.string (mk b.at)),b.sp]
theorem P3.of(x a b:E):P3 (E.list [x,a,b]).sp a b:=⟨by simp[E.sp,bU],by simp[E.sp,E.bc,eD],by simp[E.sp,E.bc,eD,ic],by simp[E.sp,E.bc,eD,ic]⟩
def P2(pv:AV)(a:E):Prop:=LK.sl.has pv/\pv.aM.length=2/\pv.aM.getD 1 []=[.v (.string (mk a.at)),a.sp]
theorem P2.of(x a:E):P2 (E.list [x,a]).sp a:=⟨by simp[E.sp,bU],by simp[E.sp,E.bc,eD],by simp[E.sp,E.bc,eD,ic]⟩
theorem Gr(w:List UInt8)(g:Vl->Vl)(hg:∀c,(g c).dh=.list [.atom w,c.dh])(l:List Hl)(hl:l.length<=1000000):∀(k i:Nat) (out:List Hl),i+k=l.length->out.length+k<=1000000 ->
 FK [.sl (lu l),.v (.string (mk w)),.v (.int .i64 (i:Int))] [.vec 4 (lu out)] (gk 1 [] [.vec 4 (lu (out++iL g (l.drop i)))])
 |
  0,i,out,hi,ho=>by
  refine G7 _ _ _ _ ?_
  have:i=l.length:=by omega
  subst this
  simp only[C5,↓zq,zs,ae,eJ]
  exact⟨fun h=>by omega,fun _=>by simp[gk,iL]⟩
 |
  k+1,i,out,hi,ho=>by
  have hlt:i<l.length:=by omega
  refine G7 _ _ _ _ ?_
  simp only[C5,↓zq,zs,ae,zt,eJ,fQ hlt,kk,aN]
  refine⟨fun _=>?_,fun h=>by omega⟩
  repeat refine⟨by omega,?_⟩
  refine an (Az _ _) ?_
  simp only[↓zq,zs,ae,aN]
  repeat refine⟨by omega,?_⟩
  refine⟨⟨xl _ _ _ _,by omega⟩,?_⟩
  rw[bp i (by omega)]
  have:=Gr w g hg l hl k (i+1) (out++[(g (l[i]).1,(l[i]).2)]) (by omega) (by simp;omega)
  rw[aQ,<-nG,hg]at this
  rw[fL g l hlt]
  exact this
theorem G0(w:List UInt8)(g:Vl->Vl)(hg:∀c,(g c).dh=.list [.atom w,c.dh])(l out:List Hl)(hl:out.length+l.length<=1000000) :
 au Tryz.prog 105 [.sl (lu l),.v (.string (mk w)),.vec 0] [.vec 4 (lu out)] (cZ (.vec 1) [.dead,.vec 4 (lu (out++iL g l))]):=by
 refine Ll _ _ _ ((bU _).mpr trivial) ?_
 simp only[HJ,↓zq,zs,ae]
 have h:=Gr w g hg l (by omega) l.length 0 out (by omega) (by omega)
 rw[aV]at h
 refine bZ h ?_
 simp[↓zq,zs,ae,cZ]
theorem KV(s:List UInt8)(ta:ByteArray)(tp:AV)(ht:LK.sl.has tp)(va:ByteArray)(vp:AV)(x y:Vl)(hp:P3 vp x.dh y.dh)(l:List Hl)(hl:l.length<=1000000):∀(k i:Nat) (out:List Hl),i+k=l.length->out.length+k<=1000000 ->
 FN [.v (.string (mk s)),.sl (lu l),.v (.int .i64 (i:Int))] [.cells [.v (.string ta),tp],.cells [.v (.string va),vp],.vec 4 (lu out)] (gk 1 [.v (.string (mk s))] [.cells [.v (.string ta),tp],.cells [.v (.string va),vp],.vec 4 (lu (out++iL (fun c=>Vl.l (.p c y)) (l.drop i)))])
 |
  0,i,out,hi,ho=>by
  refine Ii _ _ _ _ _ _ _ _ ?_
  have:i=l.length:=by omega
  subst this
  simp only[EL,↓zq,zs,ae,eJ,ht,a8,ae,hp.1]
  exact⟨fun h=>by omega,fun _=>by simp[gk,iL]⟩
 |
  k+1,i,out,hi,ho=>by
  have hlt:i<l.length:=by omega
  refine Ii _ _ _ _ _ _ _ _ ?_
  simp only[EL,↓zq,zs,ae,zt,eJ,fQ hlt,kk,aN,fQ,ht,a8,ae,hp.1,toNat_one,bj,hp.1,hp.2.1,hp.2.2.1,hp.2.2.2]
  refine⟨fun _=>?_,fun h=>by omega⟩
  repeat refine⟨by omega,?_⟩
  refine an (AC _ _ _) ?_
  simp only[↓zq,zs,ae,aN]
  repeat refine⟨by omega,?_⟩
  refine an (Az [108] (E.list [.atom [112],(l[i]).1.dh,y.dh])) ?_
  simp only[↓zq,zs,ae,aN]
  repeat refine⟨by omega,?_⟩
  refine⟨⟨xl _ _ _ _,by omega⟩,?_⟩
  rw[bp i (by omega)]
  have:=KV s ta tp ht va vp x y hp l hl k (i+1) (out++[((fun c=>Vl.l (.p c y)) (l[i]).1,(l[i]).2)]) (by omega) (by simp;omega)
  rw[aQ,<-nG]at this
  rw[fL (fun c=>Vl.l (.p c y)) l hlt]
  exact this
theorem KL(va:ByteArray)(vp:AV)(x y:Vl)(hp:P3 vp x.dh y.dh)(l:List Hl)(hl:l.length<=1000000):∀(k i:Nat) (out:List Hl),i+k=l.length->out.length+k<=1000000 ->
 Ft [.sl (lu l),.v (.int .i64 (i:Int))] [.cells [.v (.string va),vp],.vec 4 (lu out)] (gk 1 [] [.vec 4 (lu (out++iL (fun c=>Vl.r (.p x c)) (l.drop i)))])
 |
  0,i,out,hi,ho=>by
  refine Kk _ _ _ _ _ ?_
  have:i=l.length:=by omega
  subst this
  simp only[Dd,↓zq,zs,ae,eJ,a8,ae,hp.1]
  exact⟨fun h=>by omega,fun _=>by simp[gk,iL]⟩
 |
  k+1,i,out,hi,ho=>by
  have hlt:i<l.length:=by omega
  refine Kk _ _ _ _ _ ?_
  simp only[Dd,↓zq,zs,ae,zt,eJ,fQ hlt,kk,aN,fQ,a8,ae,hp.1,toNat_one,bj,hp.1,hp.2.1,hp.2.2.1,hp.2.2.2]
  refine⟨fun _=>?_,fun h=>by omega⟩
  repeat refine⟨by omega,?_⟩
  refine an (AC _ _ _) ?_
  simp only[↓zq,zs,ae,aN]
  repeat refine⟨by omega,?_⟩
  refine an (Az [114] (E.list [.atom [112],x.dh,(l[i]).1.dh])) ?_
  simp only[↓zq,zs,ae,aN]
  repeat refine⟨by omega,?_⟩
  refine⟨⟨xl _ _ _ _,by omega⟩,?_⟩
  rw[bp i (by omega)]
  have:=KL va vp x y hp l hl k (i+1) (out++[((fun c=>Vl.r (.p x c)) (l[i]).1,(l[i]).2)]) (by omega) (by simp;omega)
  rw[aQ,<-nG]at this
  rw[fL (fun c=>Vl.r (.p x c)) l hlt]
  exact this
theorem I7(s s2:List UInt8)(ta:ByteArray)(tp:AV)(ht:LK.sl.has tp)(va:ByteArray)(vp:AV)(hp:LK.sl.has vp)(l:List Hl)(hl:l.length<=1000000):∀(k i:Nat) (out:List Hl),i+k=l.length->out.length+k<=1000000 ->
 FX [.v (.string (mk s)),.v (.string (mk s2)),.sl (lu l),.v (.int .i64 (i:Int))] [.cells [.v (.string ta),tp],.cells [.v (.string va),vp],.vec 4 (lu out)] (gk 1 [.v (.string (mk s)),.v (.string (mk s2))] [.cells [.v (.string ta),tp],.cells [.v (.string va),vp],.vec 4 (lu (out++iL (fun c=>Vl.f (.l c)) (l.drop i)))])
 |
  0,i,out,hi,ho=>by
  refine JU _ _ _ _ _ _ _ _ _ ?_
  have:i=l.length:=by omega
  subst this
  simp only[DI,↓zq,zs,ae,eJ,ht,a8,ae,hp]
  exact⟨fun h=>by omega,fun _=>by simp[gk,iL]⟩
 |
  k+1,i,out,hi,ho=>by
  have hlt:i<l.length:=by omega
  refine JU _ _ _ _ _ _ _ _ _ ?_
  simp only[DI,↓zq,zs,ae,zt,eJ,fQ hlt,kk,aN,fQ,ht,a8,ae,hp]
  refine⟨fun _=>?_,fun h=>by omega⟩
  repeat refine⟨by omega,?_⟩
  refine an (Az _ _) ?_
  simp only[↓zq,zs,ae,aN]
  repeat refine⟨by omega,?_⟩
  refine an (Az [102] (E.list [.atom [108],(l[i]).1.dh])) ?_
  simp only[↓zq,zs,ae,aN]
  repeat refine⟨by omega,?_⟩
  refine⟨⟨xl _ _ _ _,by omega⟩,?_⟩
  rw[bp i (by omega)]
  have:=I7 s s2 ta tp ht va vp hp l hl k (i+1) (out++[((fun c=>Vl.f (.l c)) (l[i]).1,(l[i]).2)]) (by omega) (by simp;omega)
  rw[aQ,<-nG]at this
  rw[fL (fun c=>Vl.f (.l c)) l hlt]
  exact this
theorem JM(s:List UInt8)(L:AV)(q:Nat)(kc:Vl)(kv:Vl)(hL:LK.sl.has L)(hq:q<L.aM.length)(hg:L.aM.getD q []=[.v (.string (mk kc.dh.at)),kc.dh.sp,.v (.string (mk kv.dh.at)),kv.dh.sp])(ta:ByteArray)(tp:AV)(ht:LK.sl.has tp)(l:List Hl)(hl:l.length<=1000000):∀(k i:Nat) (out:List Hl),i+k=l.length->out.length+k<=1000000 ->
 Fh [.v (.string (mk s)),L,.v (.int .i64 (q:Int)),.sl (lu l),.v (.int .i64 (i:Int))] [.cells [.v (.string ta),tp],.vec 4 (lu out)] (gk 1 [.v (.string (mk s)),L,.v (.int .i64 (q:Int))] [.cells [.v (.string ta),tp],.vec 4 (lu (out++iL (fun c=>Vl.f (.r (.p kc c))) (l.drop i)))])
 |
  0,i,out,hi,ho=>by
  refine GB _ _ _ _ _ _ _ _ ?_
  have:i=l.length:=by omega
  subst this
  simp only[EG,↓zq,zs,ae,eJ,ht,a8,ae,hL]
  exact⟨fun h=>by omega,fun _=>by simp[gk,iL]⟩
 |
  k+1,i,out,hi,ho=>by
  have hlt:i<l.length:=by omega
  refine GB _ _ _ _ _ _ _ _ ?_
  simp only[EG,↓zq,zs,ae,zt,eJ,fQ hlt,kk,aN,fQ,ht,a8,ae,hL,hg]
  refine⟨fun _=>?_,fun h=>by omega⟩
  repeat refine⟨by omega,?_⟩
  refine an (AC _ _ _) ?_
  simp only[↓zq,zs,ae,aN]
  repeat refine⟨by omega,?_⟩
  refine an (Az [114] (E.list [.atom [112],kc.dh,(l[i]).1.dh])) ?_
  simp only[↓zq,zs,ae,aN]
  repeat refine⟨by omega,?_⟩
  refine an (Az [102] (E.list [.atom [114],E.list [.atom [112],kc.dh,(l[i]).1.dh]])) ?_
  simp only[↓zq,zs,ae,aN]
  repeat refine⟨by omega,?_⟩
  refine⟨⟨xl _ _ _ _,by omega⟩,?_⟩
  rw[bp i (by omega)]
  have:=JM s L q kc kv hL hq hg ta tp ht l hl k (i+1) (out++[((fun c=>Vl.f (.r (.p kc c))) (l[i]).1,(l[i]).2)]) (by omega) (by simp;omega)
  rw[aQ,<-nG]at this
  rw[fL (fun c=>Vl.f (.r (.p kc c))) l hlt]
  exact this
theorem Gp(s:List UInt8)(te:E)(a:Ty)(tg:Tg)(l:List Hl)(hl:l.length<=1000000)(ih:∀h,h∈l->au Tryz.prog 77 [.agg [.v (.string (mk te.at)),te.sp],.v (.string (mk s)),.agg [.v (.string (mk h.2.dh.at)),h.2.dh.sp]] [] (bK (.sl (lu (bQ (.rc a) tg h.2))))) :
 ∀(k i:Nat) (out:List Hl),i+k=l.length->(out++(l.drop i).flatMap (yg a tg)).length<=1000000 ->
 EP [.v (.string (mk s)),.sl (lu l),.v (.int .i64 (i:Int))] [.cells [.v (.string (mk te.at)),te.sp],.vec 4 (lu out)] (gk 1 [] [.vec 4 (lu (out++(l.drop i).flatMap (yg a tg)))])
 |
  0,i,out,hi,ho=>by
  refine IK _ _ _ _ _ _ ?_
  have:i=l.length:=by omega
  subst this
  simp only[Fe,↓zq,zs,ae,eJ,a8,ae]
  exact⟨fun h=>by omega,fun _=>by simp[gk]⟩
 |
  k+1,i,out,hi,ho=>by
  have hlt:i<l.length:=by omega
  have hd:(l.drop i).flatMap (yg a tg)=yg a tg (l[i])++(l.drop (i+1)).flatMap (yg a tg):=by rw[aL hlt,cy]
  rw[hd]at ho |-
  refine IK _ _ _ _ _ _ ?_
  simp only[Fe,↓zq,zs,ae,zt,eJ,fQ hlt,kk,aN,a8,ae]
  refine⟨fun _=>?_,fun h=>by omega⟩
  repeat refine⟨by omega,?_⟩
  refine an (ih _ (yD l hlt)) ?_
  simp only[↓zq,zs,ae]
  have hb:out.length+(bQ (.rc a) tg (l[i]).2).length<=1000000:=by
   simp only[al,fe]at ho;omega
  have h5:=JM s (.sl (lu l)) i (l[i]).1 (l[i]).2 ((bU _).mpr trivial) (by rw[eD,eJ];omega) (by rw[eD,fQ hlt]) (mk te.at) te.sp ((a8 _).mpr trivial) (bQ (.rc a) tg (l[i]).2) (by omega) (bQ (.rc a) tg (l[i]).2).length 0 out (by omega) (by omega)
  rw[aV]at h5
  refine bZ h5 ?_
  simp only[↓zq,zs,ae,a8,ae]
  repeat refine⟨by omega,?_⟩
  rw[bp i (by omega),<-aQ]
  exact Gp s te a tg l hl ih k (i+1) _ (by omega) (by rw[aQ];exact ho)
end Go.Proofs.Trees
namespace Go.Proofs.Trees
open Go Go.VL Go.RowKit
theorem xp{env:List Fr}(h:WF env):∀w,w∈names env->cK w=true:=by
 induction h with
 |nil=>intro w hw;cases hw
 |
  cons hs _ _ _ _ _ ih =>
  intro w hw
  simp only[names,aI,aY]at hw
  rcases hw with hw|rfl
  ·exact ih w hw
  ·exact hs
theorem Ah{ar:List (List UInt8)}{k:Nat}(h:k<ar.length):gL ar k∈ar:=by
 unfold gL
 have:ar.length-1-k<ar.length:=by omega
 simp[aa,this]
def zc(s:List UInt8)(ar:List (List UInt8)):Prop:=gj s=true\/(bB s ar ar.length).isSome=true
theorem uw{s:List UInt8}{ar:List (List UInt8)}{u:Nat}(hl:∀w,w∈ar->cK w=true)(h:bB s ar ar.length=some u):cK s=true:=by
 obtain⟨h1,h2⟩:=fv _ _ (ap _) h
 rw[<-h2];exact hl _ (Ah h1)
theorem D1{s0 s:List UInt8}{ar:List (List UInt8)}{t:Ty}(ht:cz (.atom s0) ar=some t)(hl:∀w,w∈ar->cK w=true)(hs:zc s ar):eX t (nj s ar)=decide (s0=s):=by
 have h48:∀b:UInt8,gj [b]=false->cK [b]=false->s≠[b]:=fun b h1 h2 e=>by
  subst e
  rcases hs with h|h
  ·rw[h1]at h;cases h
  ·obtain⟨u,hu⟩:=bF.1 h
   rw[uw hl hu]at h2;cases h2
 simp only[cz]at ht
 split at ht
 ·rename_i e;cases ht;subst e
  have:=h48 48 rfl rfl
  rw[decide_eq_false (fun h=>this h.symm)];cases nj s ar<;>rfl
 ·split at ht
  ·rename_i e;cases ht;subst e
   have:=h48 49 rfl rfl
   rw[decide_eq_false (fun h=>this h.symm)];cases nj s ar<;>rfl
  ·split at ht
   ·rename_i hp
    cases ht
    unfold nj
    cases e:bB s ar ar.length with
    |none=>rfl
    |
     some u =>
     have hloo:=uw hl e
     show false=_
     rw[decide_eq_false]
     rintro rfl
     rw[jJ hp]at hloo;cases hloo
   ·rename_i hnp
    split at ht
    ·split at ht
     ·rename_i u hu
      cases ht
      unfold nj
      cases e:bB s ar ar.length with
      |
       none =>
       show false=_
       rw[decide_eq_false]
       rintro rfl
       rw[hu]at e;cases e
      |
       some u' =>
       show decide (u=u')=_
       rw[cj,decide_eq_true_eq,decide_eq_true_eq]
       constructor
       ·rintro rfl
        rw[<-(fv _ _ (ap _) hu).2,<-(fv _ _ (ap _) e).2]
       ·rintro rfl
        rw[hu]at e;cases e;rfl
     ·rename_i hn
      cases ht
      unfold nj
      cases e:bB s ar ar.length with
      |none=>rfl
      |
       some u =>
       show false=_
       rw[decide_eq_false]
       rintro rfl
       rw[hn]at e;cases e
    ·cases ht
theorem Bn{b:E}{ar:List (List UInt8)}{w:List UInt8}{t:Ty}(hb:cz b (ar++[w])=some t)(hw:cK w=true)(hs:zc w ar):tv t (nj w ar).up=false:=by
 rcases hs with h|h
 ·rw[jJ h]at hw;cases hw
 ·obtain⟨u,hu⟩:=bF.1 h
  rw[nj,hu];exact EI hb hu
theorem xk{s w:List UInt8}{ar:List (List UInt8)}(h:w≠s)(hs:zc s ar):zc s (ar++[w]):=by
 rcases hs with h1|h1
 ·exact .inl h1
 ·right;rw[iU ar h];obtain⟨u,hu⟩:=bF.1 h1;rw[hu];rfl
def Mb(e:E)(s:List UInt8)(t:Ty)(tg:Tg)(v:Vl):Prop:=au Tryz.prog 77 [.agg [.v (.string (mk e.at)),e.sp],.v (.string (mk s)),.agg [.v (.string (mk v.dh.at)),v.dh.sp]] [] (bK (.sl (lu (bQ t tg v))))
theorem Cu(n:Nat):∀(m:Nat) (v:Vl),v.nodes<=m->∀(e:E) (env:List Fr) (t:Ty),Ask e env t->ei n v (e,env)=true->env.length+v.nodes<100000->∀(s:List UInt8),zc s (names env)->Mb e s t (nj s (names env)) v
 |0,v,hm=>by have:=cB v;omega
 |
  m+1,v,hm=>by
  intro e env t A hv hl s hs
  have hloo:=xp A.wf
  unfold Mb
  refine My _ _ _ _ _ ((a8 _).mpr trivial) ((a8 _).mpr trivial) ?_
  have hlen:=mc t (nj s (names env)) v
  have atomCase:∀s0,e=.atom s0->stuck t v=true->ek Tryz.prog 244 (Er (mk e.at) e.sp (mk s) (mk v.dh.at) v.dh.sp) fun _ xs obs=>bK (.sl (lu (bQ t (nj s (names env)) v))) (xs.headD .any) obs:=by
   rintro s0 rfl hst
   have hat:=D1 A.ty hloo hs
   have hne:s0≠[]:=A.ok
   simp only[Er,E.at,↓zq,zs,ae,zt]
   refine⟨fun _=>⟨fun h=>?_,fun h=>?_⟩,fun h=>absurd h hne⟩
   ·rw[decide_eq_true h]at hat
    rw[lL v hat]
    refine⟨⟨xl _ _ _ _,by omega⟩,?_⟩
    simp[bK,lu,Vl.dh,E.at,E.sp]
   ·rw[decide_eq_false h]at hat
    rw[dy hat hst]
    simp[bK,lu]
  have hvh:=IS v
  rw[dU]at hvh
  rcases gx A.wf A.ty with⟨hb,hq⟩|⟨u,g,rfl,hq,hu⟩
  ·have hhd:hd e env=(e,env):=jG hq
   rcases fB A.ty hb A.cl with⟨rfl,rfl⟩|⟨rfl,rfl⟩|⟨s0,rfl,rfl,hp,h0,h1⟩|⟨x,a,b,t1,t2,rfl,hx,rfl,ha,hbb⟩|⟨x,a,b,t1,t2,rfl,hx,rfl,ha,hbb⟩|⟨x,a,b,t1,rfl,hx,rfl⟩
   ·exact atomCase _ rfl (by cases v<;>rfl)
   ·exact atomCase _ rfl (by cases v<;>rfl)
   ·exact atomCase _ rfl (by cases v<;>rfl)
   ·obtain⟨ok1,ok2,ok3,_⟩:=A.ok
    obtain⟨f1,f2⟩:=fy A.cl
    have hP:=P3.of x a b
    cases v with
    |
     l w =>
     simp only[ei,hhd,hx,beq_self_eq_true,bA]at hv
     simp only[Vl.nodes]at hm hl hlen
     rw[mn]at hlen |-
     rw[fe]at hlen
     have hW:=P2.of (.atom [108]) w.dh
     simp only[Er,E.at,↓zq,zs,ae,zt]
     refine⟨fun h=>absurd rfl h,fun _=>an hvh ?_⟩
     simp only[vh,Vl.dh,toNat_one,bj,↓zq,zs,ae,zt,hP.1,hP.2.1,hP.2.2.1,hP.2.2.2,hW.1,hW.2.1,hW.2.2,aN]
     refine⟨fun _=>?_,fun h=>absurd rfl h⟩
     repeat refine⟨by omega,?_⟩
     refine an (Cu n m w (by omega) a env t1 ⟨ok2,A.wf,ha,f1⟩ hv (by omega) s hs) ?_
     simp only[↓zq,zs,ae]
     refine bM (G0 [108] Vl.l (fun c=>rfl) (bQ t1 (nj s (names env)) w) [] (by simp;omega)) ?_
     simp[↓zq,zs,ae,bK,ba,bw]
    |
     r w =>
     simp only[ei,hhd,hx,beq_self_eq_true,bA]at hv
     simp only[Vl.nodes]at hm hl hlen
     rw[mh]at hlen |-
     rw[fe]at hlen
     have hW:=P2.of (.atom [114]) w.dh
     simp only[Er,E.at,↓zq,zs,ae,zt]
     refine⟨fun h=>absurd rfl h,fun _=>an hvh ?_⟩
     simp only[vh,Vl.dh,toNat_one,bj,↓zq,zs,ae,zt,hP.1,hP.2.1,hP.2.2.1,hP.2.2.2,hW.1,hW.2.1,hW.2.2,aN]
     refine⟨fun h=>by simp at h,fun _=>⟨fun _=>?_,fun h=>absurd rfl h⟩⟩
     repeat refine⟨by omega,?_⟩
     refine an (Cu n m w (by omega) b env t2 ⟨ok3,A.wf,hbb,f2⟩ hv (by omega) s hs) ?_
     simp only[↓zq,zs,ae]
     refine bM (G0 [114] Vl.r (fun c=>rfl) (bQ t2 (nj s (names env)) w) [] (by simp;omega)) ?_
     simp[↓zq,zs,ae,bK,ba,bw]
    |_=>simp[ei,hhd,hx]at hv
   ·obtain⟨ok1,ok2,ok3,_⟩:=A.ok
    obtain⟨f1,f2⟩:=eV A.cl
    have hP:=P3.of x a b
    cases v with
    |
     p w w' =>
     simp only[ei,hhd,hx,beq_self_eq_true,bA,aq]at hv
     simp only[Vl.nodes]at hm hl hlen
     rw[l9]at hlen |-
     simp only[al,fe]at hlen
     have hW:=P3.of (.atom [112]) w.dh w'.dh
     simp only[Er,E.at,↓zq,zs,ae,zt]
     refine⟨fun h=>absurd rfl h,fun _=>an hvh ?_⟩
     simp only[vh,Vl.dh,toNat_one,bj,↓zq,zs,ae,zt,hP.1,hP.2.1,hP.2.2.1,hP.2.2.2,hW.1,hW.2.1,hW.2.2.1,hW.2.2.2,aN]
     refine⟨fun h=>by simp at h,fun _=>⟨fun h=>by simp at h,fun _=>⟨fun _=>?_,fun h=>absurd rfl h⟩⟩⟩
     repeat refine⟨by omega,?_⟩
     refine an (Cu n m w (by omega) a env t1 ⟨ok2,A.wf,ha,f1⟩ hv.1 (by omega) s hs) ?_
     simp only[↓zq,zs,ae]
     have h1:=KV s (mk []) (E.list [x,a,b]).sp ((a8 _).mpr trivial) (mk []) (E.list [.atom [112],w.dh,w'.dh]).sp w w' (P3.of _ _ _) (bQ t1 (nj s (names env)) w) (by omega) _ 0 [] (aP _) (by simp;omega)
     rw[aV,bh]at h1
     refine bZ h1 ?_
     simp only[↓zq,zs,ae,a8,ae,bj,hP.1,hP.2.1,hP.2.2.2,hW.1,hW.2.1,hW.2.2.2,aN]
     repeat refine⟨by omega,?_⟩
     refine an (Cu n m w' (by omega) b env t2 ⟨ok3,A.wf,hbb,f2⟩ hv.2 (by omega) s hs) ?_
     simp only[↓zq,zs,ae]
     have h2:=KL (mk []) (E.list [.atom [112],w.dh,w'.dh]).sp w w' (P3.of _ _ _) (bQ t2 (nj s (names env)) w') (by omega) _ 0 (iL (fun c=>Vl.l (.p c w')) (bQ t1 (nj s (names env)) w)) (aP _) (by rw[fe];omega)
     rw[aV]at h2
     refine bZ h2 ?_
     simp[↓zq,zs,ae,bK]
    |_=>simp[ei,hhd,hx]at hv
   ·obtain⟨t1',he1,h1,f1,hw1⟩:=jp A.wf A.ok hx A.ty A.cl
    cases he1
    obtain⟨ok1,ok2,ok3,_⟩:=A.ok
    obtain⟨_,hla,_,_⟩:=cW hx A.ty
    have A':Ask b (.mk a.at (.list [x,a,b]) env::env) t1:=⟨ok3,hw1,h1,f1⟩
    have hnm:names (.mk a.at (.list [x,a,b]) env::env)=names env++[a.at]:=rfl
    have hP:=P3.of x a b
    cases v with
    |
     f w =>
     simp only[ei,hhd,hx,beq_self_eq_true,bA]at hv
     simp only[Vl.nodes]at hm hl hlen
     have hW:=P2.of (.atom [102]) w.dh
     simp only[Er,E.at,↓zq,zs,ae,zt]
     refine⟨fun h=>absurd rfl h,fun _=>an hvh ?_⟩
     simp only[vh,Vl.dh,toNat_one,bj,↓zq,zs,ae,zt,hP.1,hP.2.1,hP.2.2.1,hP.2.2.2,hW.1,hW.2.1,hW.2.2,aN]
     refine⟨fun h=>by simp at h,fun _=>⟨fun h=>by simp at h,fun _=>⟨fun h=>by simp at h,fun _=>?_⟩⟩⟩
     repeat refine⟨by omega,?_⟩
     refine⟨fun h=>?_,fun h=>?_⟩
     ·
      have hh:a.at=s:=h
      subst hh
      have:tv (.rc t1) (nj a.at (names env))=false:=Bn h1 hla hs
      rw[hJ _ _ (ap _) _ _ this]
      simp[bK,lu]
     ·have hh:a.at≠s:=h
      rw[ml]at hlen |-
      simp only[al,fe]at hlen
      repeat refine⟨by omega,?_⟩
      have i1:=Cu n m w (by omega) b _ t1 A' hv (by simp;omega) s (by rw[hnm];exact xk hh hs)
      rw[hnm,xD _ hh]at i1
      refine an i1 ?_
      simp only[↓zq,zs,ae]
      have h3:=I7 s a.at (mk []) (E.list [x,a,b]).sp ((a8 _).mpr trivial) (mk []) (E.list [.atom [102],w.dh]).sp ((a8 _).mpr trivial) (bQ t1 (nj s (names env)).up w) (by omega) _ 0 [] (aP _) (by simp;omega)
      rw[aV,bh]at h3
      refine bZ h3 ?_
      simp only[↓zq,zs,ae,a8,ae,toNat_one,bj,hP.1,hP.2.1,hP.2.2.2,hW.1,hW.2.1,hW.2.2,aN]
      repeat refine⟨by omega,?_⟩
      have i2:=Cu n m w (by omega) b _ t1 A' hv (by simp;omega) a.at (by rw[hnm];right;rw[gb];rfl)
      rw[hnm,tH]at i2
      refine an i2 ?_
      simp only[↓zq,zs,ae]
      have hl2:=mc t1 (.bd 0) w
      have ih3:∀h,h∈bQ t1 (.bd 0) w->Mb (.list [x,a,b]) s (.rc t1) (nj s (names env)) h.2:=fun h hh=>by
       have h3:=(jv hh).1
       have h4:=fK n m w (by omega) b _ t1 A' hv 0 _ rfl h hh
       exact Cu n m h.2 (by omega) (.list [x,a,b]) env (.rc t1) A h4 (by omega) s hs
      have h4:=Gp s (.list [x,a,b]) t1 (nj s (names env)) (bQ t1 (.bd 0) w) (by omega) ih3 _ 0 (iL (fun c=>.f (.l c)) (bQ t1 (nj s (names env)).up w)) (aP _) (by
       simp only[aV,al,fe]
       have hlen2:(bQ t1 (nj s (names env)).up w).length+((bQ t1 (.bd 0) w).flatMap (yg t1 (nj s (names env)))).length<=1+w.nodes:=hlen
       omega)
      rw[aV]at h4
      simp only[E.at]at h4
      refine bZ h4 ?_
      simp[↓zq,zs,ae,bK]
    |_=>simp[ei,hhd,hx]at hv
  ·cases e with
   |atom s0=>exact atomCase _ rfl (by cases v<;>rfl)
   |list l=>exact absurd hq (by rw[show (E.list l).at=[] from rfl,ma A.wf];simp)
end Go.Proofs.Trees
namespace Go.Proofs.Trees
open Go Go.VL Go.RowKit
def kids(a:Ty):Vl->List Hl
 | .f w=>bQ a (.bd 0) w
 |_=>[]
theorem ov(a:Ty)(v:Vl):fS (kids a v)+1<=v.nodes:=by
 cases v with
 |f w=>have:=qK a (.bd 0) w;simp only[kids,Vl.nodes];omega
 |_=>simp only[kids,fS,Vl.nodes,List.map_nil,List.sum_nil];omega
theorem iS{a:Ty}{v:Vl}{h:Hl}(hh:h∈kids a v):h.2.nodes<v.nodes:=by
 cases v with
 |f w=>have:=(jv hh).1;simp only[Vl.nodes];omega
 |_=>cases hh
theorem lO{n:Nat}{a:Ty}{v:Vl}{h:Hl}(hv:v.iK n)(hh:h∈kids a v):h.1.iK n/\h.2.iK n:=by
 cases v with
 |f w=>exact gl n _ _ _ w h hv hh
 |_=>cases hh
abbrev Pt:=Vl×List Nat
def fJ(pl:List Nat):List Hl->Nat->List Pt
 |[],_=>[]
 |h::l,i=>(h.2,pl++[i])::fJ pl l (i+1)
theorem iC{pl:List Nat}{q:Pt}:∀{l:List Hl} {i:Nat},q∈fJ pl l i->∃h,h∈l/\q.1=h.2
 |[],_,hq=>by cases hq
 |
  h::l,i,hq=>by
  rcases aE.1 hq with rfl|hq
  ·exact⟨h,af,rfl⟩
  ·obtain⟨k,h1,h2⟩:=iC hq
   exact⟨k,ai _ h1,h2⟩
theorem si(pl:List Nat)(l:List Hl){i:Nat}(hi:i<l.length):fJ pl (l.drop i) i=((l[i]).2,pl++[i])::fJ pl (l.drop (i+1)) (i+1):=by
 rw[aL hi,fJ]
def eu:Nat->Ty->Pt->List Pt
 |0,_,_=>[]
 |n+1,a,p=>p::(fJ p.2 (kids a p.1) 0).flatMap (eu n a)
theorem tC{f:Pt->List Pt}(hf:∀q,(f q).length<=q.1.nodes)(pl:List Nat):∀(l:List Hl) (i:Nat),((fJ pl l i).flatMap f).length<=fS l
 |[],i=>by simp[fJ]
 |
  h::l,i=>by
  have:=tC hf pl l (i+1)
  have:=hf (h.2,pl++[i])
  simp only[fJ,cy,al,fS,bi,dD]at *;omega
theorem jy:∀(n:Nat) (a:Ty) (p:Pt),(eu n a p).length<=p.1.nodes
 |0,a,p=>db _
 |
  n+1,a,p=>by
  have:=tC (f:=eu n a) (fun q=>jy n a q) p.2 (kids a p.1) 0
  have:=ov a p.1
  simp only[eu,aw];omega
def BQ(f:List Pt->List Pt)(ps:List Pt):Prop:=∀out,(out.length+ps.length<=100->f out=out++ps)/\(100<out.length+ps.length->100<(f out).length)/\out.length<=(f out).length/\(f out).length<=out.length+ps.length
theorem oy{g:List Pt->Pt->List Pt}{ps:Pt->List Pt}:∀(qs:List Pt),(∀q,q∈qs->BQ (fun o=>g o q) (ps q))->BQ (fun o=>qs.foldl g o) (qs.flatMap ps)
 |[],_=>fun out=>by simp
 |
  q::qs,h=>fun out=>by
  have ih:=oy qs fun q hq=>h q (ai _ hq)
  obtain⟨a1,a2,a3,a4⟩:=h q af out
  obtain⟨b1,b2,b3,b4⟩:=ih (g out q)
  simp only[List.foldl_cons,cy,al]at *
  refine⟨fun hle=>?_,fun hlt=>?_,by omega,by omega⟩
  ·rw[a1 (by omega)]at b1 |-
   rw[b1 (by rw[al];omega),aQ]
  ·by_cases hq:out.length+(ps q).length<=100
   ·rw[a1 hq]at b2 |-
    exact b2 (by rw[al];omega)
   ·have:=a2 (by omega);omega
def ld:Nat->Ty->List Pt->Pt->List Pt
 |0,_,out,_=>out
 |n+1,a,out,p=>if 100<(out++[p]).length then out++[p]else(fJ p.2 (kids a p.1) 0).foldl (ld n a) (out++[p])
theorem p5:∀(n:Nat) (a:Ty) (p:Pt),p.1.nodes<=n->BQ (fun o=>ld n a o p) (eu n a p)
 |0,a,p,h=>by have:=cB p.1;omega
 |
  n+1,a,p,h=>fun out=>by
  have hk:=oy (g:=ld n a) (ps:=eu n a) (fJ p.2 (kids a p.1) 0) fun q hq=>p5 n a q (by
   obtain⟨k,h1,h2⟩:=iC hq
   have:=iS h1
   rw[h2];omega)
  obtain⟨b1,b2,b3,b4⟩:=hk (out++[p])
  simp only[ld,eu,aw,al,aG]at *
  split
  ·refine⟨fun hle=>by omega,fun _=>by simp;omega,by simp,by simp⟩
  ·refine⟨fun hle=>?_,fun hlt=>b2 (by omega),by omega,by omega⟩
   rw[b1 (by omega),aQ];rfl
def la:Nat->Ty->List Pt->Pt->List Pt
 |0,_,out,_=>out
 |n+1,a,out,p=>(fJ p.2 (kids a p.1) 0).foldl (fun o q=>if o.length<=100 then la n a o q else o) (out++[p])
theorem qy:∀(n:Nat) (a:Ty) (p:Pt),p.1.nodes<=n->BQ (fun o=>la n a o p) (eu n a p)
 |0,a,p,h=>by have:=cB p.1;omega
 |
  n+1,a,p,h=>fun out=>by
  have hk:=oy (g:=fun o q=>if o.length<=100 then la n a o q else o) (ps:=eu n a) (fJ p.2 (kids a p.1) 0) fun q hq=>fun o=>by
   obtain⟨k,h1,h2⟩:=iC hq
   have:=iS h1
   have hw:=qy n a q (by rw[h2];omega) o
   have hpos:0<(eu n a q).length:=by
    cases n with
    |zero=>have:=cB k.2;omega
    |succ n=>simp[eu]
   simp only at hw |-
   split
   ·exact hw
   ·exact⟨fun hle=>by omega,fun _=>by omega,ap _,by omega⟩
  obtain⟨b1,b2,b3,b4⟩:=hk (out++[p])
  simp only[la,eu,aw,al,aG]at *
  refine⟨fun hle=>?_,fun hlt=>b2 (by omega),by omega,by omega⟩
  rw[b1 (by omega),aQ];rfl
def parts(a:Ty)(v:Vl):List Pt:=eu v.nodes a (v,[])
theorem uW(a:Ty)(v:Vl):((parts a v).length<=100->ld v.nodes a [] (v,[])=parts a v)/\(100<(parts a v).length->100<(ld v.nodes a [] (v,[])).length)/\(ld v.nodes a [] (v,[])).length<=v.nodes:=by
 obtain⟨h1,h2,_,h4⟩:=p5 v.nodes a (v,[]) (ap _) []
 have:=jy v.nodes a (v,[])
 simp only[aG,aP,bh]at h1 h2 h4 this
 exact⟨h1,h2,Nat.le_trans h4 this⟩
theorem u4(a:Ty)(v:Vl):((parts a v).length<=100->la v.nodes a [] (v,[])=parts a v)/\(100<(parts a v).length->100<(la v.nodes a [] (v,[])).length)/\(la v.nodes a [] (v,[])).length<=v.nodes:=by
 obtain⟨h1,h2,_,h4⟩:=qy v.nodes a (v,[]) (ap _) []
 have:=jy v.nodes a (v,[])
 simp only[aG,aP,bh]at h1 h2 h4 this
 exact⟨h1,h2,Nat.le_trans h4 this⟩
end Go.Proofs.Trees
namespace Go.Proofs.Trees
open Go Go.VL Go.RowKit
def jm(s:List UInt8):Option Ty:=match uP s with
 |some (.rc a)=>some a
 |_=>none
def Af:Option Ty->AV
 |some a=>(Ty.rc a).av
 |none=>j6
theorem M7(s:List UInt8):au Tryz.prog 69 [.v (.string (mk s))] [] (bK (Af (jm s))):=by
 refine Mp _ ?_
 unfold Ko
 refine an (KP s) ?_
 cases h:uP s with
 |none=>simp[↓zq,zs,ae,iB,Af,jm,h,bK]
 |some t=>cases t<;>simp[↓zq,zs,ae,iB,Af,jm,h,bK,Ty.av]
def lh(s v:List UInt8):Option Vl:=match jm s with
 |some _=>pu s v 100
 |none=>none
def EV(s:List UInt8):AV:=match jm s with
 |some a=>(Ty.rc a).av
 |none=>j6
theorem th{s:List UInt8}{a:Ty}(h:jm s=some a):uP s=some (.rc a):=by
 unfold jm at h
 split at h
 ·rename_i e;cases h;exact e
 ·cases h
theorem Mn(s v:List UInt8):au Tryz.prog 43 [.v (.string (mk s)),.v (.string (mk v))] [] (bK (.da [EV s,iZ (lh s v)])):=by
 refine Oa _ _ ?_
 unfold Kz
 refine an (M7 s) ?_
 cases h:jm s with
 |none=>simp[↓zq,zs,ae,Af,EV,lh,h,bK,iZ]
 |
  some a =>
  simp only[↓zq,zs,ae,Af,be,fH]
  refine⟨fun h=>(by cases h),fun _=>?_⟩
  refine an (LC s v 100) ?_
  rw[th h]
  simp[↓zq,zs,ae,iB,iH,EV,lh,h,bK,be]
structure LV(s v:List UInt8)(w:Vl)(a:Ty)(x A B:E):Prop where
 l:jm s=some a
 ce:iV s=some (.list [x,A,B])
 v:rb v=some w
 ask:Ask (.list [x,A,B]) [] (.rc a)
 hx:x.at=[114,101,99]
 OV:cK A.at=true
 body:Ask B [.mk A.at (.list [x,A,B]) []] a
 ei:ei 100 w (.list [x,A,B],[])=true
theorem rE{e:E}{env:List Fr}{a:Ty}(A:Ask e env (.rc a)):∃x y z,e=.list [x,y,z]/\x.at=[114,101,99]/\cK y.at=true/\Ask z (.mk y.at (.list [x,y,z]) env::env) a:=by
 rcases fB A.ty rfl A.cl with⟨_,h⟩|⟨_,h⟩|⟨s,_,h,_⟩|⟨x,y,z,t1,t2,_,_,h,_⟩|⟨x,y,z,t1,t2,_,_,h,_⟩|⟨x,y,z,t1,rfl,hx,h⟩
 ·cases h
 ·cases h
 ·cases h
 ·cases h
 ·cases h
 ·cases h
  obtain⟨t1',he1,h1,f1,hw1⟩:=jp A.wf A.ok hx A.ty A.cl
  cases he1
  obtain⟨_,_,ok3,_⟩:=A.ok
  obtain⟨_,hla,_,_⟩:=cW hx A.ty
  exact⟨x,y,z,rfl,hx,hla,ok3,hw1,h1,f1⟩
theorem jb{s v:List UInt8}{w:Vl}(h:lh s v=some w):∃a x A B,LV s v w a x A B:=by
 unfold lh at h
 split at h
 ·rename_i a hl
  obtain⟨e,t,m,h1,h2,h3,h4,h5,h6,h7⟩:=qM h
  rw[th hl]at h3
  cases h3
  obtain⟨x,A,B,rfl,hx,hA,hB⟩:=rE h4
  have:m=100:=by omega
  subst this
  exact⟨a,x,A,B,hl,h1,h2,h4,hx,hA,hB,h7⟩
 ·cases h
theorem LV.iK{s v:List UInt8}{w:Vl}{a:Ty}{x A B:E}(h:LV s v w a x A B):w.iK 100:=(kD h.v).2.1
theorem LV.nodes{s v:List UInt8}{w:Vl}{a:Ty}{x A B:E}(h:LV s v w a x A B):w.nodes<=200:=(kD h.v).2.2
theorem pN{n:Nat}{v:Vl}{x A B:E}{env:List Fr}(hw:WF env)(hx:x.at=[114,101,99])(h:ei n v (.list [x,A,B],env)=true):∃w,v=.f w/\ei n w (B,.mk A.at (.list [x,A,B]) env::env)=true:=by
 have hd:=oL (x:=x) (a:=A) (b:=B) hw
 cases v<;>simp[ei,hd,hx]at h |-
 exact h
theorem ux{n:Nat}{v:Vl}{x A B:E}{env:List Fr}{a:Ty}(hA:Ask B (.mk A.at (.list [x,A,B]) env::env) a)(hw:WF env)(hx:x.at=[114,101,99])(h:ei n v (.list [x,A,B],env)=true){k:Hl}(hk:k∈kids a v):ei n k.2 (.list [x,A,B],env)=true:=by
 obtain⟨w,rfl,hv⟩:=pN hw hx h
 exact fK n w.nodes w (ap _) B _ a hA hv 0 _ rfl k hk
theorem MM(n:Nat)(v:Vl)(x A B:E)(a:Ty)(hA:Ask B [.mk A.at (.list [x,A,B]) []] a)(hx:x.at=[114,101,99])(hv:ei n v (.list [x,A,B],[])=true)(hl:v.nodes<90000):au Tryz.prog 55 [(Ty.rc a).av,v.cF] [] (bK (.sl (gO (kids a v)))):=by
 obtain⟨w,rfl,hw⟩:=pN .nil hx hv
 refine Nc _ _ ((be _).mpr trivial) ((aW _).mpr trivial) ?_
 unfold G2
 refine aU (Kb a j6 [] .nil) (F0.ne a j6 []) ?_
 rintro r o ⟨⟨m,hm,rfl⟩,rfl⟩
 have he2:lT (.ptr [.pid m [(Ty.rc a).av,j6],j6]) [m]:=.cons hm .nil
 have hfr:LK.ptr.has (.pid m [(Ty.rc a).av,j6]):=.inr (.inr ⟨_,_,rfl⟩)
 simp only[Ty.av]at he2 hfr
 simp only[↓zq,zs,ae,bY,be,he2.has,hfr,Vl.cF,aW,Ty.av]
 repeat refine⟨by omega,?_⟩
 simp only[Vl.nodes]at hl
 have i2:=Cn n w.nodes w (ap _) B _ a hA hw (by simp;omega) _ _ he2 (by simp) (.bd 0) [] _ (by have:=yd.bd (k:=0) (ids:=[m]) (by simp) [(Ty.rc a).av,j6] [];simpa only[bb,Ty.av]using this)
 unfold Fm at i2
 refine an i2 ?_
 simp[↓zq,zs,ae,bK,kids]
def dQ(l:List Nat):List (List AV):=l.map fun(k:Nat)=>[.v (.int .i64 (k:Int))]
theorem jr(l:List Nat):(dQ l).length=l.length:=by simp[dQ]
theorem qk(l:List Nat)(k:Nat):dQ l++[[.v (.int .i64 (k:Int))]]=dQ (l++[k]):=by simp[dQ]
theorem oX(l:List Nat):cb 1 (dQ l):=fun c hc=>by
 obtain⟨k,_,rfl⟩:=bP.1 hc;rfl
def lj:List Nat->AV
 |[]=>.v (.slice none 0 0)
 |k::l=>.sl (dQ (k::l))
theorem lV(l:List Nat):LK.has .sl (lj l)=True:=by cases l<;>simp[lj,bg,bU]
theorem nQ(l:List Nat):(lj l).aM=dQ l:=by cases l<;>rfl
theorem xX(l:List Nat)(k:Nat):lj (l++[k])=.sl (dQ (l++[k])):=by cases l<;>rfl
def wW(l:List Pt):List (List AV):=l.map fun p=>[p.1.cF,lj p.2]
theorem pG(l:List Pt):(wW l).length=l.length:=by simp[wW]
theorem BN(out:List Pt)(p:Pt):wW out++[[p.1.cF,lj p.2]]=wW (out++[p]):=by simp[wW]
theorem pL(x:AV):cb 1 [[x]]:=fun c hc=>by simp at hc;rw[hc];rfl
def Cz(a:Ty)(n:Nat)(q:Pt):Prop:=∀out:List Pt,out.length+q.1.nodes<=600->au Tryz.prog 65 [.agg [q.1.cF,lj q.2],.ref 0 0,.ref 2 0,.gZ 65 [some 0,some 2,none]] [.cells [.vec 1],.vec 2 (wW out),.cells [(Ty.rc a).av]] (cZ .any [.cells [.vec 1],.vec 2 (wW (ld n a out q)),.cells [(Ty.rc a).av]])
theorem GV(a:Ty)(n:Nat)(pl:List Nat)(hpl:pl.length<=1000)(v:Vl)(l:List Hl)(hl:l.length<=1000)(ih:∀q,q∈fJ pl l 0->Cz a n q)(hn:∀q,q∈fJ pl l 0->q.1.nodes<=n)(hs:fS l<=200):∀(k i:Nat) (out:List Pt),i+k=l.length->out.length+fS (l.drop i)<=600->(∀q,q∈fJ pl (l.drop i) i->q∈fJ pl l 0) ->
 Ev [.sl (gO l),.v (.int .i64 (l.length:Int)),.v (.int .i64 (i:Int))] [.cells [v.cF,lj pl],.cells [.any],.vec 2 (wW out),.cells [(Ty.rc a).av]] (gk 1 [] [.cells [.any],.vec 2 (wW ((fJ pl (l.drop i) i).foldl (ld n a) out)),.cells [(Ty.rc a).av]])
 |
  0,i,out,hi,ho,hm=>by
  refine G4 _ _ _ _ _ _ _ ?_
  have:i=l.length:=by omega
  subst this
  simp only[DQ,↓zq,zs,ae,dC,be,aW,lV]
  exact⟨fun h=>by omega,fun _=>by simp[gk,fJ]⟩
 |
  k+1,i,out,hi,ho,hm=>by
  have hlt:i<l.length:=by omega
  have hd:=si pl l hlt
  rw[hd]at hm |-
  have hq:=hm _ af
  have hsum:fS (l.drop i)=(l[i]).2.nodes+fS (l.drop (i+1)):=by rw[aL hlt];rfl
  have hw:=(p5 n a ((l[i]).2,pl++[i]) (hn _ hq) out).2.2.2
  have hp:=jy n a ((l[i]).2,pl++[i])
  simp only at hw hp
  refine G4 _ _ _ _ _ _ _ ?_
  simp only[DQ,↓zq,zs,ae,zt,dC,kA hlt,aW,bY,be,lV,nQ,bh,jr,qk]
  refine⟨fun _=>?_,fun h=>by omega⟩
  repeat refine⟨by omega,?_⟩
  refine⟨⟨oX _,by omega⟩,⟨pL _,by omega⟩,?_⟩
  have hcall:=ih _ hq out (by show out.length+(l[i]).2.nodes<=600;omega)
  rw[xX]at hcall
  refine bM hcall ?_
  simp only[↓zq,zs,ae,aO,be]
  rw[bp i (by omega),List.foldl_cons]
  exact GV a n pl hpl v l hl ih hn hs k (i+1) _ (by omega) (by omega) (fun q hq=>hm q (ai _ hq))
theorem rM(l:List Hl):fS (l.drop 0)=fS l:=by rw[aV]
theorem Jp(c:Nat)(x A B:E)(a:Ty)(hA:Ask B [.mk A.at (.list [x,A,B]) []] a)(hx:x.at=[114,101,99]):∀(n:Nat) (q:Pt),q.1.nodes<=n->n<=200->q.2.length+n<=200->ei c q.1 (.list [x,A,B],[])=true->Cz a n q
 |0,q,h,_,_,_=>by have:=cB q.1;omega
 |
  n+1,q,h,hn,hpl,hv=>by
  intro out ho
  have hk:=ov a q.1
  have hkl:=nA (kids a q.1)
  refine Nd _ _ _ _ ((aW _).mpr trivial) ((lV _).mpr trivial) ((be _).mpr trivial) ?_
  simp only[GG,↓zq,zs,ae,pG,BN]
  have ol:(out++[q]).length=out.length+1:=by simp
  refine⟨⟨xd _ _,by omega⟩,fun hgt=>?_,fun hle=>?_⟩
  ·have hg:100<(out++[q]).length:=by omega
   rw[ld,if_pos hg];simp[cZ]
  ·have hg:¬100<(out++[q]).length:=by omega
   refine an (MM c q.1 x A B a hA hx hv (by omega)) ?_
   simp only[↓zq,zs,ae,dC]
   have hl:=GV a n q.2 (by omega) q.1 (kids a q.1) (by omega) (fun r hr=>by
    obtain⟨k,h1,h2⟩:=iC hr
    have:=iS h1
    have hlen:r.2.length=q.2.length+1:=by
     have:∀(l:List Hl) (i:Nat),r∈fJ q.2 l i->r.2.length=q.2.length+1:=by
      intro l
      induction l with
      |nil=>intro i hh;cases hh
      |
       cons k l ih =>
       intro i hh
       rcases aE.1 hh with rfl|hh
       ·simp
       ·exact ih _ hh
     exact this _ _ hr
    exact Jp c x A B a hA hx n r (by rw[h2];omega) (by omega) (by omega) (by rw[h2];exact ux hA .nil hx hv h1)) (fun r hr=>by
    obtain⟨k,h1,h2⟩:=iC hr
    have:=iS h1
    rw[h2];omega) (by omega) (kids a q.1).length 0 (out++[q]) (by omega) (by rw[rM,ol];omega) (fun r hr=>hr)
   rw[aV]at hl
   refine bZ hl ?_
   rw[ld,if_neg hg];simp[↓zq,zs,ae,ae,be,cZ]
end Go.Proofs.Trees
namespace Go.Proofs.Trees
open Go Go.VL Go.RowKit
def pj(a:AV)(l:List Nat):Prop:=LK.sl.has a/\a.aM=dQ l
theorem pj.of(l:List Nat):pj (.sl (dQ l)) l:=⟨(bU _).mpr trivial,rfl⟩
theorem pj.nil:pj (.v (.slice none 0 0)) []:=⟨(bg).mpr trivial,rfl⟩
theorem pj.len{a:AV}{l:List Nat}(h:pj a l):a.aM.length=l.length:=by rw[h.2,jr]
theorem pj.idx{a:AV}{l:List Nat}(h:pj a l){i:Nat}(hi:i<l.length):a.aM.getD i []=[.v (.int .i64 (l.getD i 0:Nat))]:=by
 rw[h.2];simp[dQ,aa,hi]
end Go.Proofs.Trees
namespace Go.Proofs.Trees
open Go Go.VL Go.RowKit
def qR(l:List Int):List (List AV):=l.map fun k=>[.v (.int .i64 k)]
def gJ(a:AV)(l:List Int):Prop:=LK.sl.has a/\a.aM=qR l
theorem xO(l:List Int):(qR l).length=l.length:=by simp[qR]
theorem gJ.of(l:List Int):gJ (.sl (qR l)) l:=⟨(bU _).mpr trivial,rfl⟩
theorem gJ.nil:gJ (.v (.slice none 0 0)) []:=⟨(bg).mpr trivial,rfl⟩
theorem gJ.len{a:AV}{l:List Int}(h:gJ a l):a.aM.length=l.length:=by rw[h.2,xO]
theorem gJ.idx{a:AV}{l:List Int}(h:gJ a l){i:Nat}(hi:i<l.length):a.aM.getD i []=[.v (.int .i64 (l.getD i 0))]:=by
 rw[h.2];simp[qR,aa,hi]
theorem mO(l:List Nat):dQ l=qR (l.map Int.ofNat):=by simp[dQ,qR,Function.comp_def]
end Go.Proofs.Trees
namespace Go.Proofs.Trees
open Go Go.VL Go.RowKit
def dw(s v:List UInt8):Option (List Pt):=match jm s,lh s v with
 |some a,some w=>if(parts a w).length<=100 then some (parts a w)else none
 |_,_=>none
theorem qD:∀(n:Nat) (a:Ty) (p q:Pt),q∈eu n a p->q.1.nodes<=p.1.nodes/\(∀m,p.1.iK m->q.1.iK m)
 |0,a,p,q,h=>by cases h
 |
  n+1,a,p,q,h=>by
  rcases aE.1 h with rfl|h
  ·exact⟨ap _,fun m h=>h⟩
  ·obtain⟨r,h1,h2⟩:=List.mem_flatMap.1 h
   obtain⟨k,h3,h4⟩:=iC h1
   obtain⟨q1,q2⟩:=qD n a r q h2
   have:=iS h3
   rw[h4]at q1 q2
   exact⟨by omega,fun m hm=>q2 m (lO hm h3).2⟩
theorem mG{s v:List UInt8}{l:List Pt}(h:dw s v=some l):l.length<=100/\∀q,q∈l->q.1.nodes<=200/\q.1.iK 100/\q.1.fa.length<=40000:=by
 unfold dw at h
 split at h
 ·rename_i a w ha hw
  obtain⟨a',x,A,B,L⟩:=jb hw
  split at h
  ·rename_i hl
   cases h
   refine⟨hl,fun q hq=>?_⟩
   obtain⟨h1,h2⟩:=qD _ _ _ _ hq
   have hb:=h2 100 L.iK
   have hn:=L.nodes
   have:=iR q.1 hb
   simp only at h1
   exact⟨by omega,hb,by omega⟩
  ·cases h
 ·cases h
theorem pe:∀(n:Nat) (a:Ty) (p q:Pt),q∈eu n a p->q.2.length<=p.2.length+n
 |0,a,p,q,h=>by cases h
 |
  n+1,a,p,q,h=>by
  rcases aE.1 h with rfl|h
  ·omega
  ·obtain⟨r,h1,h2⟩:=List.mem_flatMap.1 h
   have:=pe n a r q h2
   have hlen:∀(l:List Hl) (i:Nat),r∈fJ p.2 l i->r.2.length=p.2.length+1:=by
    intro l
    induction l with
    |nil=>intro i hh;cases hh
    |
     cons k l ih =>
     intro i hh
     rcases aE.1 hh with rfl|hh
     ·simp
     ·exact ih _ hh
   have:=hlen _ _ h1
   omega
theorem sy{s v:List UInt8}{l:List Pt}(h:dw s v=some l):∀q,q∈l->q.2.length<=200:=by
 unfold dw at h
 split at h
 ·rename_i a w ha hw
  obtain⟨a',x,A,B,L⟩:=jb hw
  split at h
  ·cases h
   intro q hq
   have:=pe _ _ _ _ hq
   have hn:=L.nodes
   simp at this;omega
  ·cases h
 ·cases h
def Eb(f:List Pt->List (List AV))(s v:List UInt8):AV->List Ob->Prop:=fun r o=>o=[]/\∃x,LK.sl.has x/\r=.da [x,.v (.bool (dw s v).isSome)]/\∀l,dw s v=some l->x=.sl (f l)
theorem Eb.ne(f:List Pt->List (List AV))(s v:List UInt8):∃r o,Eb f s v r o:=by
 cases h:dw s v with
 |none=>exact⟨_,_,rfl,.sl [],(bU _).mpr trivial,rfl,fun l hl=>by rw[h]at hl;cases hl⟩
 |some l=>exact⟨_,_,rfl,.sl (f l),(bU _).mpr trivial,rfl,fun l' hl=>by rw[h]at hl;cases hl;rfl⟩
theorem LM(s v:List UInt8):au Tryz.prog 40 [.v (.string (mk s)),.v (.string (mk v))] [] (Eb wW s v):=by
 refine Lx _ _ ?_
 unfold Hq
 refine an (Mn s v) ?_
 have hT:LK.has .ptr (EV s)=True:=by unfold EV;cases jm s<;>simp[be,jO]
 cases h:lh s v with
 |
  none =>
  have hn:dw s v=none:=by unfold dw;rw[h];cases jm s<;>rfl
  simp only[↓zq,zs,ae,iZ,hT]
  exact⟨fun _=>⟨rfl,.v (.slice none 0 0),(bg).mpr trivial,by simp[hn],fun l hl=>by rw[hn]at hl;cases hl⟩,fun h=>(by cases h)⟩
 |
  some w =>
  obtain⟨a,x,A,B,L⟩:=jb h
  have hnd:=L.nodes
  have hTa:EV s=(Ty.rc a).av:=by unfold EV;rw[L.l]
  obtain⟨p1,p2,p3⟩:=uW a w
  have htell:=Jp 100 x A B a L.body L.hx w.nodes (w,[]) (ap _) hnd (by simp;omega) L.ei [] (by simp;omega)
  simp only[↓zq,zs,ae,iZ,hTa,be,aW,gG]
  refine⟨fun h=>(by cases h),fun _=>?_⟩
  refine bM htell ?_
  simp only[↓zq,zs,ae,aO,be,pG]
  refine⟨rfl,.sl (wW (ld w.nodes a [] (w,[]))),(bU _).mpr trivial,?_,fun l hl=>?_⟩
  ·congr 4
   have:dw s v=if(parts a w).length<=100 then some (parts a w)else none:=by unfold dw;rw[L.l,h]
   rw[this]
   by_cases hc:(parts a w).length<=100
   ·rw[if_pos hc,p1 hc];simp;omega
   ·rw[if_neg hc];have:=p2 (by omega);simp;omega
  ·unfold dw at hl
   rw[L.l,h]at hl
   simp only at hl
   split at hl
   ·rename_i hc
    cases hl
    rw[p1 hc]
   ·cases hl
theorem Bz{l:List Pt}{i:Nat}(hi:i<l.length):(wW l).getD i []=[(l[i]).1.cF,lj (l[i]).2]:=by simp[wW,aa,hi]
def zG(f:List Pt->List (List AV))(e:AV):Option (List Pt)->AV
 |some l=>.da [.sl (f l),.v (.bool true)]
 |none=>.da [e,.v (.bool false)]
def cM(f:List Nat->AV)(l:List Pt):List (List AV):=l.map fun p=>[f p.2]
theorem dA(f:List Nat->AV)(l:List Pt):(cM f l).length=l.length:=by simp[cM]
theorem nX(f:List Nat->AV)(out:List Pt)(p:Pt):cM f out++[[f p.2]]=cM f (out++[p]):=by simp[cM]
theorem Kh(l:List Pt)(hl:l.length<=1000):∀(k i:Nat) (out:List Pt),i+k=l.length->out.length+k<=1000 ->
 FL [.sl (wW l),.v (.int .i64 (l.length:Int)),.v (.int .i64 (i:Int))] [.vec 1 (cM lj out)] (gk 1 [] [.vec 1 (cM lj (out++l.drop i))])
 |
  0,i,out,hi,ho=>by
  refine Ju _ _ _ _ ?_
  have:i=l.length:=by omega
  subst this
  simp only[ET,↓zq,zs,ae]
  exact⟨fun h=>by omega,fun _=>by simp[gk]⟩
 |
  k+1,i,out,hi,ho=>by
  have hlt:i<l.length:=by omega
  refine Ju _ _ _ _ ?_
  simp only[ET,↓zq,zs,ae,zt,pG,Bz hlt,aW,lV,bY,dA,nX]
  refine⟨fun _=>?_,fun h=>by omega⟩
  repeat refine⟨by omega,?_⟩
  refine⟨⟨pL _,by omega⟩,?_⟩
  have:=Kh l hl k (i+1) (out++[l[i]]) (by omega) (by simp;omega)
  rw[bp i (by omega),aL hlt]
  rw[aQ]at this
  exact this
theorem NK(s v:List UInt8):au Tryz.prog 18 [.v (.string (mk s)),.v (.string (mk v))] [] (bK (zG (cM lj) (.v (.slice none 0 0)) (dw s v))):=by
 refine Lz _ _ ?_
 unfold IJ
 refine aU (LM s v) (Eb.ne _ s v) ?_
 rintro r o ⟨rfl,x,hx,rfl,hl⟩
 cases h:dw s v with
 |none=>simp[↓zq,zs,ae,hx,zG,h,bK]
 |
  some l =>
  rw[hl l h]
  obtain⟨h1,h2⟩:=mG h
  simp only[↓zq,zs,ae,Option.isSome_some,pG]
  refine⟨fun h=>(by cases h),fun _=>?_⟩
  have:=Kh l (by omega) l.length 0 [] (by omega) (by simp;omega)
  rw[aV,bh]at this
  refine bZ this ?_
  simp[↓zq,zs,ae,zG,bK]
end Go.Proofs.Trees
namespace Go.Proofs.Trees
open Go Go.VL Go.RowKit
abbrev Nm:=List UInt8
def ej(u:Ty):Ty->Nat->Ty
 | .cc k,i=>if k=i then u else .cc k
 | .plus a b,i=>.plus (ej u a i) (ej u b i)
 | .times a b,i=>.times (ej u a i) (ej u b i)
 | .rc a,i=>.rc (ej u a (i+1))
 |t,_=>t
def sub(x:Nm)(u:Ty):Ty->Ty
 | .name s=>if s=x then u else .name s
 | .plus a b=>.plus (sub x u a) (sub x u b)
 | .times a b=>.times (sub x u a) (sub x u b)
 | .rc a=>.rc (sub x u a)
 |t=>t
def bq(x:Nm):Ty->Bool
 | .name s=>decide (s=x)
 | .plus a b=>bq x a||bq x b
 | .times a b=>bq x a||bq x b
 | .rc a=>bq x a
 |_=>false
def jU(f:Nm->Nm):Ty->Ty
 | .name s=>.name (f s)
 | .plus a b=>.plus (jU f a) (jU f b)
 | .times a b=>.times (jU f a) (jU f b)
 | .rc a=>.rc (jU f a)
 |t=>t
def GY(f:Nm->Nm):Prop:=∀x y,f x=f y->x=y
theorem kM(f:Nm->Nm)(x:Nm):∀(t:Ty) (i:Nat),jU f (ej (.name x) t i)=ej (.name (f x)) (jU f t) i
 | .cc k,i=>by simp only[ej,jU];split<;>rfl
 | .plus a b,i=>by simp only[ej,jU,kM f x a i,kM f x b i]
 | .times a b,i=>by simp only[ej,jU,kM f x a i,kM f x b i]
 | .rc a,i=>by simp only[ej,jU,kM f x a (i+1)]
 | .zero,i=>rfl
 | .one,i=>rfl
 | .name s,i=>rfl
theorem kK{f:Nm->Nm}(hf:GY f)(x:Nm)(u:Ty):∀t:Ty,jU f (sub x u t)=sub (f x) (jU f u) (jU f t)
 |
  .name s=>by
  simp only[sub,jU]
  by_cases h:s=x
  ·subst h;simp
  ·rw[if_neg h,if_neg fun e=>h (hf _ _ e)];rfl
 | .plus a b=>by simp only[sub,jU,kK hf x u a,kK hf x u b]
 | .times a b=>by simp only[sub,jU,kK hf x u a,kK hf x u b]
 | .rc a=>by simp only[sub,jU,kK hf x u a]
 | .zero=>rfl
 | .one=>rfl
 | .cc k=>rfl
theorem me{f:Nm->Nm}(hf:GY f)(x:Nm):∀t:Ty,bq (f x) (jU f t)=bq x t
 | .name s=>by simp only[bq,jU];rw[cj];simp only[decide_eq_true_eq];exact⟨fun e=>hf _ _ e,fun e=>by rw[e]⟩
 | .plus a b=>by simp only[bq,jU,me hf x a,me hf x b]
 | .times a b=>by simp only[bq,jU,me hf x a,me hf x b]
 | .rc a=>by simp only[bq,jU,me hf x a]
 | .zero=>rfl
 | .one=>rfl
 | .cc k=>rfl
theorem ga(f:Nm->Nm):∀t:Ty,(jU f t).aX=t.aX
 | .plus a b=>by simp only[Ty.aX,jU,ga f a,ga f b]
 | .times a b=>by simp only[Ty.aX,jU,ga f a,ga f b]
 | .rc a=>by simp only[Ty.aX,jU,ga f a]
 | .name s=>rfl
 | .zero=>rfl
 | .one=>rfl
 | .cc k=>rfl
theorem oO{f:Nm->Nm}:∀t:Ty,(∀x,bq x t=true->f x=x)->jU f t=t
 | .name s,h=>by simp only[jU];rw[h s (by simp[bq])]
 | .plus a b,h=>by simp only[jU];rw[oO a fun x hx=>h x (by simp[bq,hx]),oO b fun x hx=>h x (by simp[bq,hx])]
 | .times a b,h=>by simp only[jU];rw[oO a fun x hx=>h x (by simp[bq,hx]),oO b fun x hx=>h x (by simp[bq,hx])]
 | .rc a,h=>by simp only[jU];rw[oO a fun x hx=>h x hx]
 | .zero,_=>rfl
 | .one,_=>rfl
 | .cc k,_=>rfl
theorem gX(x:Nm):∀(t:Ty) (i:Nat),(ej (.name x) t i).aX=t.aX
 | .cc k,i=>by simp only[ej];split<;>rfl
 | .plus a b,i=>by simp only[ej,Ty.aX,gX x a i,gX x b i]
 | .times a b,i=>by simp only[ej,Ty.aX,gX x a i,gX x b i]
 | .rc a,i=>by simp only[ej,Ty.aX,gX x a (i+1)]
 | .zero,i=>rfl
 | .one,i=>rfl
 | .name s,i=>rfl
theorem rA(t:Ty):1<=t.aX:=by cases t<;>simp only[Ty.aX]<;>omega
theorem il{x y:Nm}:∀(t:Ty) (i:Nat),bq y (ej (.name x) t i)=true->y=x\/bq y t=true
 |
  .cc k,i,h=>by
  simp only[ej]at h
  split at h
  ·left;simp only[bq,decide_eq_true_eq]at h;exact h.symm
  ·cases h
 |
  .plus a b,i,h=>by
  simp only[ej,bq,bf]at h |-
  rcases h with h|h
  ·rcases il a i h with h|h<;>simp[h]
  ·rcases il b i h with h|h<;>simp[h]
 |
  .times a b,i,h=>by
  simp only[ej,bq,bf]at h |-
  rcases h with h|h
  ·rcases il a i h with h|h<;>simp[h]
  ·rcases il b i h with h|h<;>simp[h]
 | .rc a,i,h=>il a (i+1) h
 | .zero,i,h=>by cases h
 | .one,i,h=>by cases h
 | .name s,i,h=>.inr h
theorem ir{x y:Nm}{u:Ty}:∀t:Ty,bq y (sub x u t)=true->bq y u=true\/(y≠x/\bq y t=true)
 |
  .name s,h=>by
  simp only[sub]at h
  split at h
  ·exact .inl h
  ·rename_i hs
   simp only[bq,decide_eq_true_eq]at h
   subst h
   exact .inr ⟨hs,by simp[bq]⟩
 |
  .plus a b,h=>by
  simp only[sub,bq,bf]at h |-
  rcases h with h|h
  ·rcases ir a h with h|h<;>simp[h]
  ·rcases ir b h with h|h<;>simp[h]
 |
  .times a b,h=>by
  simp only[sub,bq,bf]at h |-
  rcases h with h|h
  ·rcases ir a h with h|h<;>simp[h]
  ·rcases ir b h with h|h<;>simp[h]
 |
  .rc a,h=>by
  simp only[sub,bq]at h |-
  exact ir a h
 | .zero,h=>by cases h
 | .one,h=>by cases h
 | .cc k,h=>by cases h
def swp(x y:Nm):Nm->Nm:=fun s=>if s=x then y else if s=y then x else s
theorem w9(x y:Nm):GY (swp x y):=by
 intro a b h
 unfold swp at h
 by_cases h1:a=x<;>by_cases h2:a=y<;>by_cases h3:b=x<;>by_cases h4:b=y<;>simp_all
theorem yk(x y:Nm):swp x y x=y:=by simp[swp]
theorem CF{x y s:Nm}(h:s≠x)(h':s≠y):swp x y s=s:=by simp[swp,h,h']
theorem sV{x y:Nm}{t:Ty}(h:bq x t=false)(h':bq y t=false):jU (swp x y) t=t :=
 oO t fun z hz=>CF (fun e=>by subst e;rw[h]at hz;cases hz) (fun e=>by subst e;rw[h']at hz;cases hz)
def ye(a:Ty)(x:Nm)(c d:Ty):Ty:=.rc (.plus (sub x (.rc a) c) (.times (sub x (.rc a) d) (.cc 0)))
inductive Dv:Ty->Nm->Ty->Prop
 |zero (s):Dv .zero s .zero
 |one (s):Dv .one s .zero
 |cc (k s):Dv (.cc k) s .zero
 |hit (s):Dv (.name s) s .one
 |qX {n s} (h:n≠s):Dv (.name n) s .zero
 |plus {a b s a' b'} (h1:Dv a s a') (h2:Dv b s b') (hl:(Ty.plus a' b').aX<=400):Dv (.plus a b) s (.plus a' b')
 |times {a b s a' b'} (h1:Dv a s a') (h2:Dv b s b') (hl:(Ty.plus (.times a' b) (.times a b')).aX<=400):Dv (.times a b) s (.plus (.times a' b) (.times a b'))
 |rc {a s c d} (x:Nm) (hx:bq x a=false) (hs:x≠s) (h1:Dv (ej (.name x) a 0) s c) (h2:Dv (ej (.name x) a 0) x d) (hl:(ye a x c d).aX<=400):Dv (.rc a) s (ye a x c d)
theorem vX{f:Nm->Nm}(hf:GY f)(a:Ty)(x:Nm)(c d:Ty):jU f (ye a x c d)=ye (jU f a) (f x) (jU f c) (jU f d):=by
 simp only[ye,jU,kK hf]
theorem Dv.jU{f:Nm->Nm}(hf:GY f){t d:Ty}{s:Nm}(h:Dv t s d):Dv (jU f t) (f s) (jU f d):=by
 induction h with
 |zero s=>exact .zero _
 |one s=>exact .one _
 |cc k s=>exact .cc _ _
 |hit s=>exact .hit _
 |qX h=>exact .qX fun e=>h (hf _ _ e)
 |plus h1 h2 hl i1 i2=>exact .plus i1 i2 (by rw[<-ga f]at hl;exact hl)
 |times h1 h2 hl i1 i2=>exact .times i1 i2 (by rw[<-ga f]at hl;exact hl)
 |
  rc x hx hs h1 h2 hl i1 i2 =>
  rw[vX hf]
  rw[kM]at i1 i2
  exact .rc (f x) (by rw[me hf];exact hx) (fun e=>hs (hf _ _ e)) i1 i2 (by rw[<-vX hf,ga];exact hl)
theorem Dv.names{t d:Ty}{s:Nm}(h:Dv t s d):∀y,bq y d=true->bq y t=true:=by
 induction h with
 |zero s=>intro y hy;cases hy
 |one s=>intro y hy;cases hy
 |cc k s=>intro y hy;cases hy
 |hit s=>intro y hy;cases hy
 |qX h=>intro y hy;cases hy
 |
  plus h1 h2 hl i1 i2 =>
  intro y hy
  simp only[bq,bf]at hy |-
  rcases hy with hy|hy
  ·exact .inl (i1 y hy)
  ·exact .inr (i2 y hy)
 |
  times h1 h2 hl i1 i2 =>
  intro y hy
  simp only[bq,bf]at hy |-
  rcases hy with(hy|hy)|(hy|hy)
  ·exact .inl (i1 y hy)
  ·exact .inr hy
  ·exact .inl hy
  ·exact .inr (i2 y hy)
 |
  rc x hx hs h1 h2 hl i1 i2 =>
  intro y hy
  simp only[ye,bq,bf,Bool.or_false]at hy |-
  have key:∀{a c:Ty},(∀y,bq y c=true->bq y (ej (.name x) a 0)=true)->bq y (sub x (.rc a) c)=true->bq y a=true:=fun i h=>by
   rcases ir _ h with h|⟨h,h'⟩
   ·exact h
   ·rcases il _ _ (i y h')with e|e
    ·exact absurd e h
    ·exact e
  rcases hy with hy|hy
  ·exact key i1 hy
  ·exact key i2 hy
theorem Dv.fresh{t d:Ty}{s y:Nm}(h:Dv t s d)(hy:bq y t=false):bq y d=false:=by
 cases e:bq y d with
 |false=>rfl
 |true=>rw[h.names y e]at hy;cases hy
theorem Dv.move{a c:Ty}{x y s:Nm}(hx:bq x a=false)(hy:bq y a=false)(h:Dv (ej (.name x) a 0) s c):Dv (ej (.name y) a 0) (swp x y s) (Go.Proofs.Trees.jU (swp x y) c):=by
 have:=h.jU (w9 x y)
 rw[kM,yk,sV hx hy]at this
 exact this
theorem uc{a c:Ty}{x y s:Nm}(hx:bq x a=false)(hy:bq y a=false)(h:Dv (ej (.name x) a 0) s c):sub y (.rc a) (jU (swp x y) c)=sub x (.rc a) c:=by
 have e:=kK (w9 x y) x (.rc a) c
 rw[yk,sV (t:=.rc a) hx hy]at e
 rw[<-e]
 have key:∀z,(z=x\/z=y)->bq z (sub x (.rc a) c)=false:=fun z hz=>by
  cases q:bq z (sub x (.rc a) c)with
  |false=>rfl
  |
   true =>
   exfalso
   have hz':bq z a=false:=by rcases hz with rfl|rfl<;>assumption
   rcases ir _ q with h1|⟨h1,h2⟩
   ·rw[show bq z (.rc a)=bq z a from rfl,hz']at h1;cases h1
   ·rcases il _ _ (h.names z h2)with e|e
    ·exact h1 e
    ·rw[hz']at e;cases e
 exact sV (key x (.inl rfl)) (key y (.inr rfl))
theorem Dv.vB:∀(n:Nat) (t:Ty),t.aX<=n->∀{s:Nm} {d d':Ty},Dv t s d->Dv t s d'->d=d'
 |0,t,h,_,_,_,_,_=>by have:=rA t;omega
 |
  n+1,t,hn,s,d,d',h,h'=>by
  cases h with
  |zero=>cases h';rfl
  |one=>cases h';rfl
  |cc=>cases h';rfl
  |
   hit =>
   cases h' with
   |hit=>rfl
   |qX h=>exact absurd rfl h
  |
   qX h =>
   cases h' with
   |hit=>exact absurd rfl h
   |qX _=>rfl
  |
   plus h1 h2 =>
   simp only[Ty.aX]at hn
   cases h' with
   |plus g1 g2=>rw[Dv.vB n _ (by omega) h1 g1,Dv.vB n _ (by omega) h2 g2]
  |
   times h1 h2 =>
   simp only[Ty.aX]at hn
   cases h' with
   |times g1 g2=>rw[Dv.vB n _ (by omega) h1 g1,Dv.vB n _ (by omega) h2 g2]
  |
   rc x hx hs h1 h2 =>
   simp only[Ty.aX]at hn
   cases h' with
   |
    rc y hy hs' g1 g2 =>
    rename_i a _ _ _ _ _ _
    have m1:=h1.move hx hy
    have m2:=h2.move hx hy
    rw[CF (Ne.symm hs) (Ne.symm hs')]at m1
    rw[yk]at m2
    have e1:=Dv.vB n _ (by rw[gX];omega) m1 g1
    have e2:=Dv.vB n _ (by rw[gX];omega) m2 g2
    rw[ye,ye,<-e1,<-e2,uc hx hy h1,uc hx hy h2]
open Classical in
noncomputable def L5 (t:Ty) (s:Nm):Option Ty:=if h:∃d,Dv t s d then some (Classical.choose h)else none
theorem pF{t:Ty}{s:Nm}{d:Ty}:L5 t s=some d↔Dv t s d:=by
 unfold L5
 by_cases h:∃d,Dv t s d
 ·rw[dif_pos h]
  have:=Classical.choose_spec h
  constructor
  ·intro e;cases e;exact this
  ·intro g;rw[Dv.vB _ t (ap _) this g]
 ·rw[dif_neg h]
  exact⟨fun e=>(by cases e),fun g=>absurd ⟨d,g⟩ h⟩
def Ct(t:Ty):Option Ty:=if t.aX<=400 then some t else none
theorem nP{t d:Ty}:Ct t=some d↔t.aX<=400/\t=d:=by
 unfold Ct
 split
 ·rename_i h;simp[h]
 ·rename_i h;simp[h]
noncomputable def AB (a:Ty) (x:Nm):Option Ty:=(L5 (ej (.name x) a 0) x).bind fun d=>Ct (sub x (.rc a) d)
end Go.Proofs.Trees
namespace Go.Proofs.Trees
open Go Go.VL Go.RowKit
def dX:E->List Nm->Ty
 | .atom s,ar=>if s=[48]then .zero else if s=[49]then .one else match bB s ar ar.length with|some u=>.cc u|none=>.name s
 | .list [x,a,b],ar=>if x.at=[43]then .plus (dX a ar) (dX b ar)else if x.at=[42]then .times (dX a ar) (dX b ar)else .rc (dX b (ar++[a.at]))
 | .list _,_=>.zero
def tD(s:Nm):Prop:=s≠[]/\s≠[48]/\s≠[49]
inductive Wf:E->Prop
 |atom {s} (h:s≠[]):Wf (.atom s)
 |plus {a b} (ha:Wf a) (hb:Wf b):Wf (.list [.atom [43],a,b])
 |times {a b} (ha:Wf a) (hb:Wf b):Wf (.list [.atom [42],a,b])
 |rc {n b} (hn:tD n) (hb:Wf b):Wf (.list [.atom [114,101,99],.atom n,b])
theorem eQ(a b:E)(ar:List Nm):dX (.list [.atom [43],a,b]) ar=.plus (dX a ar) (dX b ar):=by rw[dX,if_pos (show (E.atom [43]).at=[43] from rfl)]
theorem dZ(a b:E)(ar:List Nm):dX (.list [.atom [42],a,b]) ar=.times (dX a ar) (dX b ar):=by rw[dX,if_neg (by decide),if_pos (show (E.atom [42]).at=[42] from rfl)]
theorem iN(a b:E)(ar:List Nm):dX (.list [.atom [114,101,99],a,b]) ar=.rc (dX b (ar++[a.at])):=by rw[dX,if_neg (by decide),if_neg (by decide)]
theorem Wf.ok{e:E}(h:Wf e):e.ok:=by
 induction h with
 |atom h=>exact h
 |plus ha hb i1 i2=>exact⟨by simp[E.ok],i1,i2,trivial⟩
 |times ha hb i1 i2=>exact⟨by simp[E.ok],i1,i2,trivial⟩
 |rc hn hb i=>exact⟨by simp[E.ok],hn.1,i,trivial⟩
theorem Wf.dW{e:E}(h:Wf e):∀ar,e.dW=(dX e ar).aX:=by
 induction h with
 |
  @atom s h =>
  intro ar
  simp only[E.dW,dX]
  split
  ·rfl
  ·split
   ·rfl
   ·split<;>rfl
 |plus ha hb i1 i2=>intro ar;rw[eQ];simp only[E.dW,E.eY,Ty.aX,<-i1 ar,<-i2 ar];omega
 |times ha hb i1 i2=>intro ar;rw[dZ];simp only[E.dW,E.eY,Ty.aX,<-i1 ar,<-i2 ar];omega
 |@rc n b hn hb i=>intro ar;rw[iN];simp only[E.dW,E.eY,Ty.aX,<-i];omega
theorem Wf.sz{e:E}(h:Wf e):e.sz<=3*e.dW:=by
 induction h with
 |atom h=>simp[E.sz,E.dW]
 |plus ha hb i1 i2=>simp only[E.sz,E.iM,E.dW,E.eY];omega
 |times ha hb i1 i2=>simp only[E.sz,E.iM,E.dW,E.eY];omega
 |rc hn hb i=>simp only[E.sz,E.iM,E.dW,E.eY];omega
theorem jI:∀(e:E) (ar:List Nm) (t:Ty),e.ok->(∀w,w∈ar->cK w=true)->cz e ar=some t->Wf e/\dX e ar=t
 |
  .atom s,ar,t,hok,hl,ht=>by
  refine⟨.atom hok,?_⟩
  simp only[cz,dX]at ht |-
  split at ht
  ·rename_i h;rw[if_pos h];simpa using ht
  ·rename_i h;rw[if_neg h]
   split at ht
   ·rename_i h1;rw[if_pos h1];simpa using ht
   ·rename_i h1;rw[if_neg h1]
    split at ht
    ·rename_i hp
     cases q:bB s ar ar.length with
     |none=>simpa using ht
     |
      some u =>
      obtain⟨h1,h2⟩:=fv _ _ (ap _) q
      have:=hl (gL ar u) (by
       unfold gL
       have:ar.length-1-u<ar.length:=by omega
       simp[aa,this])
      rw[h2,jJ hp]at this;cases this
    ·split at ht
     ·split at ht<;>rename_i q<;>rw[q]<;>simpa using ht
     ·cases ht
 |
  .list [x,a,b],ar,t,hok,hl,ht=>by
  obtain⟨ok1,ok2,ok3,_⟩:=hok
  by_cases h0:x.at=[43]
  ·obtain⟨t1,t2,h1,h2,rfl⟩:=eW h0 ht
   obtain rfl:=jP h0 (by simp)
   obtain⟨w1,e1⟩:=jI a ar t1 ok2 hl h1
   obtain⟨w2,e2⟩:=jI b ar t2 ok3 hl h2
   exact⟨.plus w1 w2,by rw[eQ,e1,e2]⟩
  ·by_cases h1:x.at=[42]
   ·obtain⟨t1,t2,h2,h3,rfl⟩:=ew h1 ht
    obtain rfl:=jP h1 (by simp)
    obtain⟨w1,e1⟩:=jI a ar t1 ok2 hl h2
    obtain⟨w2,e2⟩:=jI b ar t2 ok3 hl h3
    exact⟨.times w1 w2,by rw[dZ,e1,e2]⟩
   ·by_cases h2:x.at=[114,101,99]
    ·obtain⟨t1,hla,h3,rfl⟩:=cW h2 ht
     obtain rfl:=jP h2 (by simp)
     have hne:a.at≠[]:=by intro e;rw[e]at hla;cases hla
     have ha:a=.atom a.at:=jP rfl hne
     obtain⟨w1,e1⟩:=jI b (ar++[a.at]) t1 ok3 (fun w hw=>by
      rcases aI.1 hw with hw|hw
      ·exact hl w hw
      ·simp only[aY]at hw;rw[hw];exact hla) h3
     have hN:tD a.at:=⟨hne,fun e=>by rw[e]at hla;revert hla;decide,fun e=>by rw[e]at hla;revert hla;decide⟩
     refine⟨?_,by rw[iN,e1]⟩
     rw[ha];exact .rc hN w1
    ·rw[iu _ h0 h1 h2]at ht;cases ht
 | .list [],ar,t,_,_,ht=>by cases ht
 | .list [_],ar,t,_,_,ht=>by cases ht
 | .list [_,_],ar,t,_,_,ht=>by cases ht
 | .list (_::_::_::_::_),ar,t,_,_,ht=>by cases ht
theorem fk(s:Nm)(ar:List Nm):bB s ar ar.length=none↔s∉ar:=by
 have:=lJ s ar ar.length (ap _)
 rwa[List.take_length]at this
theorem qg(s:Nm)(ar:List Nm):∀(n:Nat) (br:List Nm),br.length=n->bB s (ar++br) (ar++br).length=match bB s br br.length with|some u=>some u|none=>(bB s ar ar.length).map (·+br.length)
 |
  0,br,h=>by
  obtain rfl:=List.eq_nil_of_length_eq_zero h
  rw[List.append_nil]
  cases h:bB s ar ar.length<;>simp[bB]
 |
  n+1,br,h=>by
  obtain⟨b2,w,rfl⟩:∃b2 w,br=b2++[w]:=⟨br.dropLast,br.getLast (by intro e;rw[e]at h;cases h),(List.dropLast_concat_getLast _).symm⟩
  rw[<-aQ]
  by_cases hw:w=s
  ·subst hw;rw[gb,gb]
  ·rw[iU _ hw,iU _ hw,qg s ar n b2 (by simpa using h)]
   cases bB s b2 b2.length with
   |some u=>rfl
   |
    none =>
    cases bB s ar ar.length with
    |none=>rfl
    |some u=>simp only[Option.map_none,ct,al,aw,aG];congr 1
theorem B0(ar:List Nm){e:E}(h:Wf e):∀br,(∀y,bq y (dX e br)=true->y∉ar)->dX e (ar++br)=dX e br:=by
 induction h with
 |
  @atom s h =>
  intro br hy
  simp only[dX]at hy |-
  split
  ·rfl
  ·rename_i h0
   split
   ·rfl
   ·rename_i h1
    rw[if_neg h0,if_neg h1]at hy
    rw[qg s ar _ br rfl]
    cases q:bB s br br.length with
    |some u=>rfl
    |
     none =>
     rw[q]at hy
     have:=(fk s ar).2 (hy s (by simp[bq]))
     rw[this];rfl
 |
  plus ha hb i1 i2 =>
  intro br hy
  rw[eQ]at hy |-
  rw[eQ,i1 br fun y h=>hy y (by simp[bq,h]),i2 br fun y h=>hy y (by simp[bq,h])]
 |
  times ha hb i1 i2 =>
  intro br hy
  rw[dZ]at hy |-
  rw[dZ,i1 br fun y h=>hy y (by simp[bq,h]),i2 br fun y h=>hy y (by simp[bq,h])]
 |
  @rc n b hn hb i =>
  intro br hy
  rw[iN]at hy |-
  rw[iN,aQ,i _ hy]
theorem rr{e:E}(h:Wf e):∀ar y,bq y (dX e ar)=true->tD y/\y∉ar:=by
 induction h with
 |
  @atom s h =>
  intro ar y hy
  simp only[dX]at hy
  split at hy
  ·cases hy
  ·rename_i h0
   split at hy
   ·cases hy
   ·rename_i h1
    split at hy
    ·cases hy
    ·rename_i q
     simp only[bq,decide_eq_true_eq]at hy
     subst hy
     exact⟨⟨h,h0,h1⟩,(fk _ _).1 q⟩
 |
  plus ha hb i1 i2 =>
  intro ar y hy
  rw[eQ]at hy
  simp only[bq,bf]at hy
  rcases hy with hy|hy
  ·exact i1 ar y hy
  ·exact i2 ar y hy
 |
  times ha hb i1 i2 =>
  intro ar y hy
  rw[dZ]at hy
  simp only[bq,bf]at hy
  rcases hy with hy|hy
  ·exact i1 ar y hy
  ·exact i2 ar y hy
 |
  rc hn hb i =>
  intro ar y hy
  rw[iN]at hy
  obtain⟨h1,h2⟩:=i _ y hy
  exact⟨h1,fun h=>h2 (aA _ h)⟩
theorem w8{e:E}(h:Wf e):∀(bd l:List Nm) (y:Nm),y∈kZ e bd l↔y∈l\/bq y (dX e bd)=true:=by
 induction h with
 |
  @atom s h =>
  intro bd l y
  simp only[kZ,dX]
  by_cases h0:s=[48]
  ·simp[h0,bq]
  ·by_cases h1:s=[49]
   ·simp[h1,bq]
   ·rw[if_neg h0,if_neg h1]
    by_cases h2:s∈bd
    ·cases q:bB s bd bd.length with
     |none=>exact absurd h2 ((fk _ _).1 q)
     |some u=>simp[h2,bq]
    ·rw[(fk _ _).2 h2]
     simp only[h0,h1,h2,false_or,bq,decide_eq_true_eq]
     by_cases h3:s∈l
     ·simp only[h3,if_true]
      exact⟨fun h=>.inl h,fun h=>by rcases h with h|rfl<;>assumption⟩
     ·simp only[h3,if_false,aI,aY,eq_comm]
 |
  plus ha hb i1 i2 =>
  intro bd l y
  rw[kZ,if_neg (by decide),eQ,i2,i1]
  simp[bq,or_assoc]
 |
  times ha hb i1 i2 =>
  intro bd l y
  rw[kZ,if_neg (by decide),dZ,i2,i1]
  simp[bq,or_assoc]
 |
  rc hn hb i =>
  intro bd l y
  rw[kZ,if_pos (show (E.atom [114,101,99]).at=[114,101,99] from rfl),iN,i]
  rfl
theorem fj:∀(t:Ty) (out:List Nm) (y:Nm),y∈bH t out↔y∈out\/bq y t=true
 |
  .name s,out,y=>by
  simp only[bH,oh,bq,decide_eq_true_eq]
  split
  ·rename_i h;exact⟨fun h=>.inl h,fun h'=>by rcases h' with h'|rfl<;>assumption⟩
  ·simp[eq_comm]
 | .plus a b,out,y=>by rw[bH,fj b,fj a];simp[bq,or_assoc]
 | .times a b,out,y=>by rw[bH,fj b,fj a];simp[bq,or_assoc]
 | .rc a,out,y=>by rw[bH,fj a];rfl
 | .zero,out,y=>by simp[bH,bq]
 | .one,out,y=>by simp[bH,bq]
 | .cc k,out,y=>by simp[bH,bq]
end Go.Proofs.Trees
namespace Go.Proofs.Trees
open Go Go.VL Go.RowKit
abbrev gN:Nm:=[114,101,99]
theorem eh(s:Nm):(E.atom s).at=s:=rfl
def qH(x:Nm)(u:E):E->E
 | .atom s=>if s=x then u else .atom s
 | .list [h,a,b]=>if h.at=gN then(if a.at=x then .list [h,a,b]else .list [.atom gN,a,qH x u b])else .list [.atom h.at,qH x u a,qH x u b]
 | .list l=>.list l
def mf(x:Nm):E->Nat
 | .atom s=>if s=x then 1 else 0
 | .list [h,a,b]=>if h.at=gN then(if a.at=x then 0 else mf x b)else mf x a+mf x b
 | .list _=>0
def tc(p:Nm->Prop):E->Prop
 | .atom _=>True
 | .list [h,a,b]=>(if h.at=gN then p a.at else tc p a)/\tc p b
 | .list _=>True
def j1(x:Nm):Ty->Nat
 | .name s=>if s=x then 1 else 0
 | .plus a b=>j1 x a+j1 x b
 | .times a b=>j1 x a+j1 x b
 | .rc a=>j1 x a
 |_=>0
theorem tG(x:Nm)(u a b:E):qH x u (.list [.atom [43],a,b])=.list [.atom [43],qH x u a,qH x u b]:=by rw[qH,if_neg (by decide)];rfl
theorem rN(x:Nm)(u a b:E):qH x u (.list [.atom [42],a,b])=.list [.atom [42],qH x u a,qH x u b]:=by rw[qH,if_neg (by decide)];rfl
theorem At(x:Nm)(u:E)(n:Nm)(b:E):qH x u (.list [.atom gN,.atom n,b])=if n=x then .list [.atom gN,.atom n,b]else .list [.atom gN,.atom n,qH x u b]:=by rw[qH,if_pos (eh _)];rfl
theorem p8(x:Nm)(a b:E):mf x (.list [.atom [43],a,b])=mf x a+mf x b:=by rw[mf,if_neg (by decide)]
theorem oC(x:Nm)(a b:E):mf x (.list [.atom [42],a,b])=mf x a+mf x b:=by rw[mf,if_neg (by decide)]
theorem vH(x:Nm)(n:Nm)(b:E):mf x (.list [.atom gN,.atom n,b])=if n=x then 0 else mf x b:=by rw[mf,if_pos (eh _)];rfl
theorem nZ(p:Nm->Prop)(a b:E):tc p (.list [.atom [43],a,b])↔tc p a/\tc p b:=by rw[tc,if_neg (by decide)]
theorem mj(p:Nm->Prop)(a b:E):tc p (.list [.atom [42],a,b])↔tc p a/\tc p b:=by rw[tc,if_neg (by decide)]
theorem s3(p:Nm->Prop)(n:Nm)(b:E):tc p (.list [.atom gN,.atom n,b])↔p n/\tc p b:=by rw[tc,if_pos (eh _)];rfl
theorem zl{p q:Nm->Prop}(h:∀n,p n->q n){e:E}(hw:Wf e):tc p e->tc q e:=by
 induction hw with
 |atom _=>exact fun _=>trivial
 |plus _ _ i1 i2=>rw[nZ,nZ];exact fun g=>⟨i1 g.1,i2 g.2⟩
 |times _ _ i1 i2=>rw[mj,mj];exact fun g=>⟨i1 g.1,i2 g.2⟩
 |rc _ _ i=>rw[s3,s3];exact fun g=>⟨h _ g.1,i g.2⟩
theorem iw{s:Nm}(hs:tD s){ar:List Nm}(h:s∉ar):dX (.atom s) ar=.name s:=by
 simp only[dX];rw[if_neg hs.2.1,if_neg hs.2.2,(fk s ar).2 h]
theorem A0{x:Nm}(hx:tD x){u:E}(hu:Wf u){e:E}(h:Wf e):tc (fun n=>n≠x/\bq n (dX u [])=false) e->∀ar,x∉ar->(∀y,y∈ar->bq y (dX u [])=false)->Wf (qH x u e)/\dX (qH x u e) ar=sub x (dX u []) (dX e ar):=by
 induction h with
 |
  @atom s hs =>
  intro _ ar har hy
  by_cases e:s=x
  ·subst e
   have:dX u (ar++[])=dX u []:=B0 ar hu [] fun y hy' hm=>by rw[hy y hm]at hy';cases hy'
   rw[List.append_nil]at this
   rw[iw hx har]
   simp only[qH,sub,if_true]
   exact⟨hu,this⟩
  ·simp only[qH,if_neg e]
   refine⟨.atom hs,?_⟩
   simp only[dX]
   split
   ·rfl
   ·split
    ·rfl
    ·split
     ·rfl
     ·simp only[sub,if_neg e]
 |
  plus ha hb i1 i2 =>
  intro hap ar har hy
  rw[nZ]at hap
  obtain⟨w1,e1⟩:=i1 hap.1 ar har hy
  obtain⟨w2,e2⟩:=i2 hap.2 ar har hy
  rw[tG,eQ,eQ,e1,e2]
  exact⟨.plus w1 w2,rfl⟩
 |
  times ha hb i1 i2 =>
  intro hap ar har hy
  rw[mj]at hap
  obtain⟨w1,e1⟩:=i1 hap.1 ar har hy
  obtain⟨w2,e2⟩:=i2 hap.2 ar har hy
  rw[rN,dZ,dZ,e1,e2]
  exact⟨.times w1 w2,rfl⟩
 |
  @rc n b hn hb i =>
  intro hap ar har hy
  rw[s3]at hap
  obtain⟨w1,e1⟩:=i hap.2 (ar++[n]) (by
   simp only[aI,aY]
   rintro(h|h)
   ·exact har h
   ·exact hap.1.1 h.symm) (fun y hm=>by
   simp only[aI,aY]at hm
   rcases hm with hm|rfl
   ·exact hy y hm
   ·exact hap.1.2)
  rw[At,if_neg hap.1.1,iN,iN]
  refine⟨.rc hn w1,?_⟩
  show Ty.rc (dX (qH x u b) (ar++[n]))=_
  rw[e1];rfl
theorem Br{x:Nm}(hx:tD x){e:E}(h:Wf e):∀ar,j1 x (dX e ar)=if x∈ar then 0 else mf x e:=by
 induction h with
 |
  @atom s hs =>
  intro ar
  by_cases e:s=x
  ·subst e
   by_cases hm:s∈ar
   ·rw[if_pos hm]
    simp only[dX];rw[if_neg hx.2.1,if_neg hx.2.2]
    cases q:bB s ar ar.length with
    |none=>exact absurd hm ((fk _ _).1 q)
    |some u=>rfl
   ·rw[if_neg hm,iw hx hm];simp[j1,mf]
  ·have:j1 x (dX (.atom s) ar)=0:=by
    simp only[dX]
    split
    ·rfl
    ·split
     ·rfl
     ·split
      ·rfl
      ·simp[j1,e]
   rw[this];simp[mf,e]
 |plus ha hb i1 i2=>intro ar;rw[eQ,p8,j1,i1,i2];split<;>simp
 |times ha hb i1 i2=>intro ar;rw[dZ,oC,j1,i1,i2];split<;>simp
 |
  @rc n b hn hb i =>
  intro ar
  rw[iN,vH,j1,i]
  simp only[eh,aI,aY]
  by_cases h1:x∈ar
  ·simp[h1]
  ·by_cases h2:x=n
   ·simp[h2]
   ·simp[h1,h2,Ne.symm h2]
theorem fq(x:Nm)(u:Ty):∀t:Ty,(sub x u t).aX+j1 x t=t.aX+j1 x t*u.aX
 | .name s=>by simp only[sub,j1];split<;>simp[Ty.aX];omega
 | .plus a b=>by have:=fq x u a;have:=fq x u b;simp only[sub,Ty.aX,j1,Nat.add_mul];omega
 | .times a b=>by have:=fq x u a;have:=fq x u b;simp only[sub,Ty.aX,j1,Nat.add_mul];omega
 | .rc a=>by have:=fq x u a;simp only[sub,Ty.aX,j1];omega
 | .zero=>by simp[sub,j1]
 | .one=>by simp[sub,j1]
 | .cc k=>by simp[sub,j1]
abbrev tN(m:Nat):Nm:=116::dd m
theorem CG(m:Nat):dd m≠[]:=by
 by_cases h:m<10
 ·rw[eH h];simp
 ·rw[fu h];simp
theorem yp:∀(n m k:Nat),m<n->dd m=dd k->m=k
 |0,m,k,h,_=>by omega
 |
  n+1,m,k,h,e=>by
  have d10:∀{a b:Nat},a<10->b<10->aZ (48+a)=aZ (48+b)->a=b:=fun {a b} ha hb h=>by
   have:=congrArg UInt8.toNat h
   simp only[UInt8.toNat_ofNat']at this
   omega
  by_cases h1:m<10<;>by_cases h2:k<10
  ·rw[eH h1,eH h2]at e
   simp only[List.cons.injEq,and_true]at e
   exact d10 h1 h2 e
  ·rw[eH h1,fu h2]at e
   have:=congrArg List.length e
   have:dd (k/10)=[]:=by
    apply List.eq_nil_of_length_eq_zero
    simp at this;simpa using this
   exact absurd this (CG _)
  ·rw[fu h1,eH h2]at e
   have:=congrArg List.length e
   have:dd (m/10)=[]:=by
    apply List.eq_nil_of_length_eq_zero
    simp at this;simpa using this
   exact absurd this (CG _)
  ·rw[fu h1,fu h2]at e
   obtain⟨e1,e2⟩:=List.append_inj' e rfl
   have:=yp n (m/10) (k/10) (by omega) e1
   simp only[List.cons.injEq,and_true]at e2
   have:=d10 (dK _ (by omega)) (dK _ (by omega)) e2
   omega
theorem zn{m k:Nat}(h:tN m=tN k):m=k:=yp (m+1) m k (by omega) (List.cons.inj h).2
theorem Cg(m:Nat):tD (tN m):=⟨by simp,by simp,by simp⟩
theorem Ok:∀(l F:List Nm),l.Nodup->(∀x,x∈l->x∈F)->l.length<=F.length
 |[],_,_,_=>db _
 |
  x::l,F,hn,hs=>by
  obtain⟨h1,h2⟩:=List.nodup_cons.1 hn
  have hx:=hs x af
  have:=Ok l (F.erase x) h2 fun y hy=>(List.mem_erase_of_ne (fun e=>h1 (by rw[<-e];exact hy))).2 (hs y (ai _ hy))
  rw[List.length_erase_of_mem hx]at this
  have:0<F.length:=List.length_pos_of_mem hx
  simp only[aw];omega
def uN(F:List Nm):Nat->Nat->Nat
 |0,k=>k
 |n+1,k=>if tN k∈F then uN F n (k+1)else k
theorem ue(F:List Nm):∀(n k:Nat),k<=uN F n k/\uN F n k<=k+n/\(∀j,k<=j->j<uN F n k->tN j∈F)/\(uN F n k<k+n->tN (uN F n k)∉F)
 |0,k=>⟨ap _,ap _,fun j h1 h2=>by simp only[uN]at h2;omega,fun h=>by simp only[uN]at h;omega⟩
 |
  n+1,k=>by
  rw[uN]
  split
  ·rename_i hm
   obtain⟨h1,h2,h3,h4⟩:=ue F n (k+1)
   refine⟨by omega,by omega,fun j hj hl=>?_,fun h=>h4 (by omega)⟩
   by_cases e:j=k
   ·subst e;exact hm
   ·exact h3 j (by omega) hl
  ·rename_i hm
   exact⟨ap _,by omega,fun j h1 h2=>by omega,fun _=>hm⟩
def nx(F:List Nm)(k:Nat):Nat:=uN F (F.length+1) k
theorem pV(F:List Nm)(k:Nat):k<=nx F k/\nx F k<=k+F.length/\(∀j,k<=j->j<nx F k->tN j∈F)/\tN (nx F k)∉F:=by
 obtain⟨h1,h2,h3,h4⟩:=ue F (F.length+1) k
 have hlt:nx F k<k+(F.length+1):=by
  rcases Nat.lt_or_ge (nx F k) (k+(F.length+1))with h|h
  ·exact h
  ·exfalso
   have:=Ok ((List.range' k (F.length+1)).map tN) F (by
    refine List.Pairwise.map _ (fun a b hab e=>hab (zn e)) List.nodup_range') (fun x hx=>by
    obtain⟨j,hj,rfl⟩:=bP.1 hx
    obtain⟨i,hi,rfl⟩:=List.mem_range'.1 hj
    exact h3 _ (by omega) (by show _<nx F k;omega))
   simp at this
   omega
 exact⟨h1,by unfold nx at hlt |-;omega,h3,h4 hlt⟩
def lz(F:List Nm):Ty->List Nm->Nat->E×Nat
 | .zero,_,k=>(.atom [48],k)
 | .one,_,k=>(.atom [49],k)
 | .name s,_,k=>(.atom s,k)
 | .cc u,to,k=>(.atom (gL to u),k)
 | .plus a b,to,k=>(.list [.atom [43],(lz F a to k).1,(lz F b to (lz F a to k).2).1],(lz F b to (lz F a to k).2).2)
 | .times a b,to,k=>(.list [.atom [42],(lz F a to k).1,(lz F b to (lz F a to k).2).1],(lz F b to (lz F a to k).2).2)
 | .rc a,to,k=>(.list [.atom gN,.atom (tN (nx F k)),(lz F a (to++[tN (nx F k)]) (nx F k+1)).1],(lz F a (to++[tN (nx F k)]) (nx F k+1)).2)
def jF:Ty->Nat->Prop
 | .cc u,i=>u<i
 | .plus a b,i=>jF a i/\jF b i
 | .times a b,i=>jF a i/\jF b i
 | .rc a,i=>jF a (i+1)
 |_,_=>True
theorem u6{e:E}(h:Wf e):∀ar,jF (dX e ar) ar.length:=by
 induction h with
 |
  @atom s hs =>
  intro ar
  simp only[dX]
  split
  ·trivial
  ·split
   ·trivial
   ·split
    ·rename_i u q;exact(fv _ _ (ap _) q).1
    ·trivial
 |plus ha hb i1 i2=>intro ar;rw[eQ];exact⟨i1 ar,i2 ar⟩
 |times ha hb i1 i2=>intro ar;rw[dZ];exact⟨i1 ar,i2 ar⟩
 |
  @rc n b hn hb i =>
  intro ar;rw[iN]
  have:=i (ar++[(E.atom n).at])
  rw[al]at this
  exact this
structure Gn(F to:List Nm)(k:Nat):Prop where
 out:∀w,w∈to->w∉F
 lt:∀w,w∈to->∃j,j<k/\w=tN j
 nd:to.Nodup
theorem Gn.nil(F:List Nm)(k:Nat):Gn F [] k:=⟨fun _ h=>(by cases h),fun _ h=>(by cases h),by simp⟩
theorem Gn.mono{F to:List Nm}{k k':Nat}(h:Gn F to k)(hk:k<=k'):Gn F to k':=⟨h.out,fun w hw=>by obtain⟨j,h1,h2⟩:=h.lt w hw;exact⟨j,by omega,h2⟩,h.nd⟩
theorem Gn.push{F to:List Nm}{k:Nat}(h:Gn F to k):Gn F (to++[tN (nx F k)]) (nx F k+1):=by
 obtain⟨h1,h2,h3,h4⟩:=pV F k
 refine⟨fun w hw=>?_,fun w hw=>?_,?_⟩
 ·rcases aI.1 hw with hw|hw
  ·exact h.out w hw
  ·simp only[aY]at hw;rw[hw];exact h4
 ·rcases aI.1 hw with hw|hw
  ·obtain⟨j,g1,g2⟩:=h.lt w hw;exact⟨j,by omega,g2⟩
  ·simp only[aY]at hw;exact⟨_,by omega,hw⟩
 ·refine List.nodup_append.2 ⟨h.nd,by simp,fun a ha b hb e=>?_⟩
  simp only[aY]at hb
  obtain⟨j,g1,g2⟩:=h.lt a ha
  rw[e,hb]at g2
  have:=zn g2
  omega
theorem sJ{to:List Nm}(hn:to.Nodup){u:Nat}(hu:u<to.length):bB (gL to u) to to.length=some u:=by
 have hm:gL to u∈to:=by
  unfold gL
  have:to.length-1-u<to.length:=by omega
  simp[aa,this]
 cases q:bB (gL to u) to to.length with
 |none=>exact absurd hm ((fk _ _).1 q)
 |
  some v =>
  obtain⟨h1,h2⟩:=fv _ _ (ap _) q
  unfold gL at h2
  have e1:to.length-1-v<to.length:=by omega
  have e2:to.length-1-u<to.length:=by omega
  rw[aa,aa,bo e1,bo e2]at h2
  have hp:=List.pairwise_iff_getElem.1 hn
  have h3:to[to.length-1-v]=to[to.length-1-u]:=by simpa using h2
  rcases Nat.lt_trichotomy (to.length-1-v) (to.length-1-u)with hl|he|hl
  ·exact absurd h3 (hp _ _ e1 e2 hl)
  ·congr 1;omega
  ·exact absurd h3.symm (hp _ _ e2 e1 hl)
theorem lA(F:List Nm):∀(t:Ty) (to:List Nm) (k:Nat),Gn F to k->jF t to.length->(∀y,bq y t=true->y∈F/\tD y) ->
 Wf (lz F t to k).1/\dX (lz F t to k).1 to=t/\k<=(lz F t to k).2/\(lz F t to k).2<=k+(F.length+1)*t.aX/\tc (·∉F) (lz F t to k).1
 | .zero,to,k,_,_,_=>⟨.atom (by simp),rfl,ap _,cR _ _,trivial⟩
 | .one,to,k,_,_,_=>⟨.atom (by simp),rfl,ap _,cR _ _,trivial⟩
 |
  .name s,to,k,g,hl,hn=>by
  obtain⟨h1,h2⟩:=hn s (by simp[bq])
  exact⟨.atom h2.1,iw h2 (fun h=>g.out s h h1),ap _,cR _ _,trivial⟩
 |
  .cc u,to,k,g,hl,hn=>by
  have hm:gL to u∈to:=by
   unfold gL
   have:to.length-1-u<to.length:=by have:u<to.length:=hl;omega
   simp[aa,this]
  obtain⟨j,_,e⟩:=g.lt _ hm
  have hok:tD (gL to u):=by rw[e];exact Cg j
  refine⟨.atom hok.1,?_,ap _,cR _ _,trivial⟩
  simp only[lz,dX]
  rw[if_neg hok.2.1,if_neg hok.2.2,sJ g.nd hl]
 |
  .plus a b,to,k,g,hl,hn=>by
  obtain⟨a1,a2,a3,a4,a5⟩:=lA F a to k g hl.1 fun y hy=>hn y (by simp[bq,hy])
  obtain⟨b1,b2,b3,b4,b5⟩:=lA F b to _ (g.mono a3) hl.2 fun y hy=>hn y (by simp[bq,hy])
  simp only[lz,eQ,a2,b2,nZ,Ty.aX]
  refine⟨.plus a1 b1,trivial,by omega,?_,a5,b5⟩
  have:(F.length+1)*(1+a.aX+b.aX)=(F.length+1)+(F.length+1)*a.aX+(F.length+1)*b.aX:=by simp only[Nat.mul_add,Nat.mul_one]
  omega
 |
  .times a b,to,k,g,hl,hn=>by
  obtain⟨a1,a2,a3,a4,a5⟩:=lA F a to k g hl.1 fun y hy=>hn y (by simp[bq,hy])
  obtain⟨b1,b2,b3,b4,b5⟩:=lA F b to _ (g.mono a3) hl.2 fun y hy=>hn y (by simp[bq,hy])
  simp only[lz,dZ,a2,b2,mj,Ty.aX]
  refine⟨.times a1 b1,trivial,by omega,?_,a5,b5⟩
  have:(F.length+1)*(1+a.aX+b.aX)=(F.length+1)+(F.length+1)*a.aX+(F.length+1)*b.aX:=by simp only[Nat.mul_add,Nat.mul_one]
  omega
 |
  .rc a,to,k,g,hl,hn=>by
  obtain⟨h1,h2,h3,h4⟩:=pV F k
  obtain⟨a1,a2,a3,a4,a5⟩:=lA F a (to++[tN (nx F k)]) (nx F k+1) g.push (by rw[al];exact hl) hn
  simp only[lz,iN,eh,a2,s3,Ty.aX]
  refine⟨.rc (Cg _) a1,trivial,by omega,?_,h4,a5⟩
  have:(F.length+1)*(2+a.aX)=(F.length+1)*2+(F.length+1)*a.aX:=by simp only[Nat.mul_add]
  omega
end Go.Proofs.Trees
namespace Go.Proofs.Trees
open Go Go.VL
mutual
def E.pr:E->Prop
 | .atom s=>s≠[]/\s.all en=true
 | .list l=>l≠[]/\E.yT l
def E.yT:List E->Prop
 |[]=>True
 |e::l=>e.pr/\E.yT l
end
mutual
def E.dp:E->Nat
 | .atom _=>0
 | .list l=>1+E.tz l
def E.tz:List E->Nat
 |[]=>0
 |e::l=>max e.dp (E.tz l)
end
def Ih(r:List UInt8):Prop:=∀c t,r=c::t->en c=false
theorem sS:Ih []:=by intro c t h;cases h
theorem yP{s r:List UInt8}(hs:s.all en=true)(hr:Ih r):(s++r).takeWhile en=s/\(s++r).dropWhile en=r:=by
 induction s with
 |
  nil =>
  cases r with
  |nil=>exact⟨rfl,rfl⟩
  |cons c t=>have:=hr c t rfl;simp[List.takeWhile,List.dropWhile,this]
 |
  cons c s ih =>
  simp only[cH,aq]at hs
  have:=ih hs.2
  simp[List.takeWhile,List.dropWhile,hs.1,this.1,this.2]
theorem uD(l:List E)(r:List UInt8):Ih (eE l++41::r):=by
 intro c t h
 cases l with
 |nil=>simp only[eE,bh,List.cons.injEq]at h;rw[<-h.1];decide
 |cons e l=>simp only[eE,cx,List.cons.injEq]at h;rw[<-h.1];decide
theorem yW{f:List UInt8->Option (E×List UInt8)}(r:List UInt8):∀(l:List E) (e:E) (acc:List E) (n:Nat),l.length<n->(∀x,x=e\/x∈l->∀r,Ih r->f (gh x++r)=some (x,r)) ->
 qW f n (gh e++(eE l++41::r)) acc=some (.list (acc++e::l),r)
 |l,e,acc,0,hn,hf=>by omega
 |
  [],e,acc,n+1,hn,hf=>by
  simp only[qW]
  rw[hf e (.inl rfl) _ (uD [] r)]
  simp[eE]
 |
  x::l,e,acc,n+1,hn,hf=>by
  simp only[qW]
  rw[hf e (.inl rfl) _ (uD (x::l) r)]
  simp only[aw]at hn
  have ih:=yW r l x (acc++[e]) n (by omega) (fun y hy=>hf y (.inr (by cases hy with|inl h=>rw[h];exact af|inr h=>exact ai _ h)))
  simp only[aQ,cx,bh]at ih
  simp only[eE,cx,aQ]
  simp[ih]
theorem AD{l:List E}{k:Nat}:E.yT l->E.tz l<=k->∀x,x∈l->x.pr/\x.dp<=k:=by
 induction l with
 |nil=>intro _ _ x h;cases h
 |
  cons e l ih =>
  intro h hd x hx
  simp only[E.yT,E.tz]at h hd
  cases hx with
  |head=>exact⟨h.1,by omega⟩
  |tail _ hx=>exact ih h.2 (by omega) x hx
theorem wA:∀(k:Nat) (e:E) (r:List UInt8),e.pr->e.dp<=k->Ih r->rd k (gh e++r)=some (e,r)
 |
  0,.atom s,r,hp,hd,hr=>by
  have h:=yP hp.2 hr
  simp only[gh,rd,h.1,h.2,hp.1,if_false]
 |
  k+1,.atom s,r,hp,hd,hr=>by
  have h:=yP hp.2 hr
  simp only[gh,rd,h.1,h.2,hp.1,if_false]
 |0,.list l,r,hp,hd,hr=>by simp only[E.dp]at hd;omega
 |k+1,.list [],r,hp,hd,hr=>by exact absurd rfl hp.1
 |
  k+1,.list (e::l),r,hp,hd,hr=>by
  have hs:en 40=false:=by decide
  simp only[E.dp,E.pr]at hd hp
  have hm:=AD (k:=k) hp.2 (by omega)
  have:=yW (f:=rd k) r l e [] ((gh e++(eE l++41::r)).length+1) (by have:=qi l;simp only[al,aw];omega)
   (fun x hx r hr=>wA k x r (hm x (by cases hx with|inl h=>rw[h];exact af|inr h=>exact ai _ h)).1 (hm x (by cases hx with|inl h=>rw[h];exact af|inr h=>exact ai _ h)).2 hr)
  simp only[gh,cx,aQ,bh]at *
  simp only[rd,List.takeWhile,hs,if_true]
  simpa using this
theorem yX{e e':E}(h:e.pr)(h':e'.pr)(ht:gh e=gh e'):e=e':=by
 have a:=wA (max e.dp e'.dp) e [] h (by omega) sS
 have b:=wA (max e.dp e'.dp) e' [] h' (by omega) sS
 rw[ht,b]at a;cases a;rfl
theorem Fi{e:E}(h:e.pr)(hd:e.dp<=300)(hl:(gh e).length<=8000):pP (gh e)=some e:=by
 have:=wA 300 e [] h hd sS
 rw[List.append_nil]at this
 rw[pP,this];simp;omega
theorem Aq(s:List UInt8):(s.takeWhile en).all en=true:=by
 induction s with
 |nil=>rfl
 |cons c s ih =>
  cases h:en c
  ·simp[List.takeWhile,h]
  ·simp only[List.takeWhile,h,cH,ih];rfl
theorem B6(l r:List E):E.yT (l++r)↔E.yT l/\E.yT r:=by
 induction l with
 |nil=>simp[E.yT]
 |cons e l ih=>simp[E.yT,ih,and_assoc]
theorem Bo(l r:List E):E.tz (l++r)=max (E.tz l) (E.tz r):=by
 induction l with
 |nil=>simp[E.tz]
 |cons e l ih=>simp[E.tz,ih,Nat.max_assoc]
theorem wa{k:Nat}{f:List UInt8->Option (E×List UInt8)}(hf:∀s e r,f s=some (e,r)->s=gh e++r/\e.pr/\e.dp<=k):∀(n:Nat) (s:List UInt8) (acc:List E) (e:E) (r:List UInt8),qW f n s acc=some (e,r)->E.yT acc->E.tz acc<=k ->
 ∃l,e=.list (acc++l)/\l≠[]/\32::s=eE l++41::r/\E.yT l/\E.tz l<=k
 |0,s,acc,e,r,h,hp,hd=>by cases h
 |
  n+1,s,acc,e,r,h,hp,hd=>by
  simp only[qW]at h
  split at h
  ·rename_i p c r' hs
   obtain⟨h1,h2,h3⟩:=hf _ _ _ hs
   split at h
   ·rename_i hc
    have hc:c=41:=du.mp hc
    cases h
    exact⟨[p],rfl,by simp,by simp[eE,h1,hc],⟨h2,trivial⟩,by simp[E.tz];omega⟩
   ·split at h
    ·rename_i hc
     have hc:c=32:=du.mp hc
     obtain⟨l,g1,g2,g3,g4,g5⟩:=wa hf n _ _ _ _ h ((B6 _ _).mpr ⟨hp,h2,trivial⟩) (by rw[Bo];simp[E.tz];omega)
     refine⟨p::l,by simpa using g1,by simp,?_,⟨h2,g4⟩,by simp only[E.tz];omega⟩
     rw[h1,hc,g3];simp[eE]
    ·cases h
  ·cases h
theorem zD:∀(k:Nat) (s:List UInt8) (e:E) (r:List UInt8),rd k s=some (e,r)->s=gh e++r/\e.pr/\e.dp<=k
 |
  0,s,e,r,h=>by
  simp only[rd]at h
  split at h
  ·cases h
  ·rename_i hs;cases h
   exact⟨(bN).symm,⟨hs,Aq s⟩,ap _⟩
 |
  k+1,s,e,r,h=>by
  simp only[rd]at h
  split at h
  ·split at h
   ·rename_i c r' _
    split at h
    ·rename_i hc
     have hc:c=40:=du.mp hc
     obtain⟨l,g1,g2,g3,g4,g5⟩:=wa (k:=k) (fun s e r h=>zD k s e r h) _ _ _ _ _ h trivial (db _)
     simp only[bh]at g1
     subst g1;subst hc
     refine⟨?_,⟨g2,g4⟩,by simp only[E.dp];omega⟩
     cases l with
     |nil=>exact absurd rfl g2
     |
      cons x l =>
      simp only[eE,cx,aQ,List.cons.injEq,true_and]at g3
      rw[g3];simp[gh]
    ·cases h
   ·cases h
  ·rename_i hs;cases h
   exact⟨(bN).symm,⟨hs,Aq s⟩,by simp[E.dp]⟩
theorem wJ{s:List UInt8}{e:E}(h:pP s=some e):s=gh e/\e.pr/\e.dp<=300/\s.length<=8000:=by
 unfold pP at h
 split at h
 ·cases h
 ·rename_i hl
  split at h
  ·rename_i e' hr
   cases h
   have:=zD _ _ _ _ hr
   exact⟨by simpa using this.1,this.2.1,this.2.2,by omega⟩
  ·cases h
theorem za{k:Nat}(h:k<10):en (aZ (48+k))=true:=by
 have:∀k:Fin 10,en (aZ (48+k.val))=true:=by decide
 exact this ⟨k,h⟩
theorem uO:∀(n k:Nat),k<n->(dd k).all en=true
 |0,k,h=>by omega
 |
  n+1,k,h=>by
  by_cases hk:k<10
  ·rw[eH hk,cH,za hk];rfl
  ·rw[fu hk]
   have:=uO n (k/10) (by omega)
   rw[List.all_append,this,cH,za (dK k (by omega:0<10))];rfl
theorem ER(k:Nat):(E.atom (vG k)).pr:=⟨by simp,by have:=uO (k+1) k (by omega);simp only[vG,cH,this];decide⟩
theorem l5:∀v:Vl,v.dh.pr
 | .u=>⟨by simp,by decide⟩
 | .el k=>ER k
 | .l v=>⟨by simp,⟨by simp,by decide⟩,l5 v,trivial⟩
 | .r v=>⟨by simp,⟨by simp,by decide⟩,l5 v,trivial⟩
 | .f v=>⟨by simp,⟨by simp,by decide⟩,l5 v,trivial⟩
 | .p a b=>⟨by simp,⟨by simp,by decide⟩,l5 a,l5 b,trivial⟩
theorem oH:∀v:Vl,v.dh.dp<v.nodes+1
 | .u=>by simp[Vl.dh,E.dp,Vl.nodes]
 | .el k=>by simp[Vl.dh,E.dp,Vl.nodes]
 | .l v=>by have:=oH v;simp only[Vl.dh,E.dp,E.tz,Vl.nodes]at *;omega
 | .r v=>by have:=oH v;simp only[Vl.dh,E.dp,E.tz,Vl.nodes]at *;omega
 | .f v=>by have:=oH v;simp only[Vl.dh,E.dp,E.tz,Vl.nodes]at *;omega
 | .p a b=>by have:=oH a;have:=oH b;simp only[Vl.dh,E.dp,E.tz,Vl.nodes]at *;omega
theorem Bb(k:Nat)(h:k<100):(dd k).length<=2:=by
 by_cases hk:k<10
 ·rw[eH hk];simp
 ·rw[fu hk,eH (by omega:k/10<10)];simp
theorem j8:∀v:Vl,v.iK 100->v.fa.length<=5*v.nodes
 | .u,_=>by simp[Vl.fa,Vl.dh,gh,Vl.nodes]
 |
  .el k,h=>by
  have:=Bb k h
  simp only[Vl.fa,Vl.dh,gh,Vl.nodes,aw];omega
 | .l v,h=>by have:=j8 v h;simp only[Vl.fa,Vl.dh,gh,eE,Vl.nodes,aw,al,aG]at this |-;omega
 | .r v,h=>by have:=j8 v h;simp only[Vl.fa,Vl.dh,gh,eE,Vl.nodes,aw,al,aG]at this |-;omega
 | .f v,h=>by have:=j8 v h;simp only[Vl.fa,Vl.dh,gh,eE,Vl.nodes,aw,al,aG]at this |-;omega
 | .p a b,h=>by have:=j8 a h.1;have:=j8 b h.2;simp only[Vl.fa,Vl.dh,gh,eE,Vl.nodes,aw,al,aG]at *;omega
theorem Fy(k:Nat):vG k≠[117]:=by simp[vG]
theorem jT:∀v:Vl,v.iK 100->eZ v.dh=some v
 | .u,_=>by simp[Vl.dh,eZ]
 | .el k,h=>by simp only[Vl.dh,eZ,Fy,if_false,tF k h]
 | .l v,h=>by simp only[Vl.dh,eZ,jT v h,E.at];simp
 | .r v,h=>by simp only[Vl.dh,eZ,jT v h,E.at];simp
 | .f v,h=>by simp only[Vl.dh,eZ,jT v h,E.at];simp
 | .p a b,h=>by simp only[Vl.dh,eZ,jT a h.1,jT b h.2,E.at];simp
theorem vV{v:Vl}(h:v.iK 100)(hn:v.nodes<=200):rb v.fa=some v:=by
 have hd:=oH v
 have hl:=j8 v h
 rw[rb,Fi (l5 v) (by omega) (by show v.fa.length<=8000;omega)]
 simp only[jT v h]
 rw[if_neg (by omega)]
theorem wU{v w:Vl}(h:v.iK 100)(h':w.iK 100)(ht:v.fa=w.fa):v=w:=by
 have:=yX (l5 v) (l5 w) ht
 have a:=jT v h
 rw[this,jT w h']at a;cases a;rfl
theorem pR{s:List UInt8}{v:Vl}(h:rb s=some v):s=v.fa:=(wJ (kD h).1).1
end Go.Proofs.Trees
namespace Go.Proofs.Trees
open Go Go.VL Go.RowKit
theorem cT(l:List E):(E.list l).at=[]:=rfl
def fD:Ty->Vl->Vl->Vl
 | .plus a _,.l c,v=>.l (fD a c v)
 | .plus _ b,.r c,v=>.r (fD b c v)
 | .times a _,.l (.p x y),v=>.p (fD a x v) y
 | .times _ b,.r (.p x y),v=>.p x (fD b y v)
 | .rc a,.f (.l x),v=>.f (fD a x v)
 | .rc a,.f (.r (.p x y)),v=>.f (fD a x (fD (.rc a) y v))
 |_,_,v=>v
def gW:Ty->Vl->Bool
 | .plus a _,.l c=>gW a c
 | .plus _ b,.r c=>gW b c
 | .times a _,.l (.p x _)=>gW a x
 | .times _ b,.r (.p _ y)=>gW b y
 | .rc a,.f (.l x)=>gW a x
 | .rc a,.f (.r (.p x y))=>gW a x&&gW (.rc a) y
 | .plus _ _,_=>false
 | .times _ _,_=>false
 | .rc _,_=>false
 |_,_=>true
theorem sq(s:List UInt8)(c v:Vl):fD (.name s) c v=v:=by cases c<;>rfl
theorem yz(m:Nat)(t:Ty)(c v:Vl):c.iK m->v.iK m->(fD t c v).iK m:=by
 induction t,c,v using fD.induct with
 |case1 a b c v ih=>exact fun h h'=>ih h h'
 |case2 a b c v ih=>exact fun h h'=>ih h h'
 |case3 a b x y v ih=>exact fun h h'=>⟨ih h.1 h',h.2⟩
 |case4 a b x y v ih=>exact fun h h'=>⟨h.1,ih h.2 h'⟩
 |case5 a x v ih=>exact fun h h'=>ih h h'
 |case6 a x y v ih1 ih2=>exact fun h h'=>ih2 h.1 (ih1 h.2 h')
 |case7=>intro h h';simpa only[fD]using h'
def K9:Hl:=(.u,.u)
end Go.Proofs.Trees
namespace Go.Proofs.Trees
open Go Go.VL Go.RowKit
theorem qV(s:Nm)(a b:E):au Tryz.prog 71 [.agg [.v (.string (mk [])),(E.list [.atom s,a,b]).sp]] [] (bK (.v (.string (mk s)))):=uT (.atom s) [a,b]
theorem HO{e:E}(h:Wf e):∀(bd l:List Nm) (a:AV),dL a bd->bd.length+l.length+e.sz<100000->au Tryz.prog 98 [.agg [.v (.string (mk e.at)),e.sp],a,.vec 0] [.vec 1 (cg l)] (cZ (.vec 1) [.dead,.vec 1 (cg (kZ e bd l))]):=by
 induction h with
 |
  @atom s hs =>
  intro bd l a ha hl
  simp only[E.sz]at hl
  refine xH _ _ _ _ ((a8 _).mpr trivial) ha.1 ?_
  have hll:(cg l).length=l.length:=by simp[cg]
  simp only[ES,eh,↓zq,zs,ae,zt,cZ,kZ]
  refine⟨fun _=>⟨fun h=>?_,fun h=>⟨fun h1=>?_,fun h1=>?_⟩⟩,fun h=>absurd h hs⟩
  ·rw[if_pos (.inl h)]
  ·rw[if_pos (.inr (.inl h1))]
  ·refine an (F4 bd a ha s (by omega)) ?_
   simp only[↓zq,zs,ae]
   refine⟨fun h2=>?_,fun h2=>an (F4 l _ (.of l) s (by omega)) ?_⟩
   ·rw[if_pos (.inr (.inr (.inl h2)))]
   ·simp only[↓zq,zs,ae]
    refine⟨fun h3=>?_,fun h3=>⟨⟨fun c hc=>(by simp at hc;rw[hc];rfl),by omega⟩,?_⟩⟩
    ·rw[if_pos (.inr (.inr (.inr h3)))]
    ·rw[Ga,if_neg]
     rintro(q|q|q|q)
     ·exact h q
     ·exact h1 q
     ·exact h2 q
     ·exact h3 q
 |
  @plus x y hx hy i1 i2 =>
  intro bd l a ha hl
  simp only[E.sz,E.iM]at hl
  have hfl:=gH x bd l
  refine xH _ _ _ _ ((a8 _).mpr trivial) ha.1 ?_
  have hP:=P3.of (.atom [43]) x y
  simp only[ES,cT,toNat_one,bj,↓zq,zs,ae,zt,hP.1,hP.2.1,hP.2.2.1,hP.2.2.2,aN,cZ]
  refine⟨fun h=>absurd rfl h,fun _=>?_⟩
  refine an (qV [43] x y) ?_
  simp only[↓zq,zs,ae,zt]
  refine⟨fun h=>by simp at h,fun _=>?_⟩
  repeat refine⟨by omega,?_⟩
  refine bM (i1 bd l a ha (by omega)) ?_
  simp only[↓zq,zs,ae,zt,ba,bw,Ob.es]
  repeat refine⟨by omega,?_⟩
  refine bM (i2 bd (kZ x bd l) a ha (by omega)) ?_
  simp only[↓zq,zs,ae,zt,ba,bw,Ob.es]
  rw[kZ,if_neg (by decide)]
 |
  @times x y hx hy i1 i2 =>
  intro bd l a ha hl
  simp only[E.sz,E.iM]at hl
  have hfl:=gH x bd l
  refine xH _ _ _ _ ((a8 _).mpr trivial) ha.1 ?_
  have hP:=P3.of (.atom [42]) x y
  simp only[ES,cT,toNat_one,bj,↓zq,zs,ae,zt,hP.1,hP.2.1,hP.2.2.1,hP.2.2.2,aN,cZ]
  refine⟨fun h=>absurd rfl h,fun _=>?_⟩
  refine an (qV [42] x y) ?_
  simp only[↓zq,zs,ae,zt]
  refine⟨fun h=>by simp at h,fun _=>?_⟩
  repeat refine⟨by omega,?_⟩
  refine bM (i1 bd l a ha (by omega)) ?_
  simp only[↓zq,zs,ae,zt,ba,bw,Ob.es]
  repeat refine⟨by omega,?_⟩
  refine bM (i2 bd (kZ x bd l) a ha (by omega)) ?_
  simp only[↓zq,zs,ae,zt,ba,bw,Ob.es]
  rw[kZ,if_neg (by decide)]
 |
  @rc n y hn hy i =>
  intro bd l a ha hl
  simp only[E.sz,E.iM]at hl
  refine xH _ _ _ _ ((a8 _).mpr trivial) ha.1 ?_
  have hP:=P3.of (.atom gN) (.atom n) y
  simp only[ES,cT,toNat_one,bj,↓zq,zs,ae,zt,hP.1,hP.2.1,hP.2.2.1,hP.2.2.2,aN,cZ]
  refine⟨fun h=>absurd rfl h,fun _=>?_⟩
  refine an (qV gN (.atom n) y) ?_
  simp only[↓zq,zs,ae,zt]
  refine⟨fun _=>?_,fun h=>absurd rfl h⟩
  repeat refine⟨by omega,?_⟩
  refine an (xA bd a ha n (by omega)) ?_
  simp only[↓zq,zs,ae]
  refine bM (i (bd++[n]) l _ (.of _) (by simp;omega)) ?_
  simp only[↓zq,zs,ae,ba,bw,Ob.es]
  rw[kZ,if_pos (eh _)];rfl
theorem Le(x:Nm)(u:E){e:E}(h:Wf e):au Tryz.prog 161 [.agg [.v (.string (mk e.at)),e.sp],.v (.string (mk x)),.agg [.v (.string (mk u.at)),u.sp]] [] (bK (.agg [.v (.string (mk (qH x u e).at)),(qH x u e).sp])):=by
 induction h with
 |
  @atom s hs =>
  refine BD _ _ _ _ _ ((a8 _).mpr trivial) ((a8 _).mpr trivial) ?_
  simp only[As,eh,↓zq,zs,ae,zt,bK,qH]
  refine⟨fun _=>⟨fun h=>?_,fun h=>?_⟩,fun h=>absurd h hs⟩
  ·rw[if_pos h]
  ·rw[if_neg h];rfl
 |
  @plus a b ha hb i1 i2 =>
  refine BD _ _ _ _ _ ((a8 _).mpr trivial) ((a8 _).mpr trivial) ?_
  have hP:=P3.of (.atom [43]) a b
  simp only[As,cT,toNat_one,bj,↓zq,zs,ae,zt,hP.1,hP.2.1,hP.2.2.1,hP.2.2.2,aN]
  refine⟨fun h=>absurd rfl h,fun _=>?_⟩
  refine an (qV [43] a b) ?_
  simp only[↓zq,zs,ae,zt]
  refine⟨fun h=>by simp at h,fun _=>?_⟩
  refine an (qV [43] a b) ?_
  simp only[↓zq,zs,ae,zt]
  repeat refine⟨by omega,?_⟩
  refine an i1 ?_
  simp only[↓zq,zs,ae,zt,aN]
  repeat refine⟨by omega,?_⟩
  refine an i2 ?_
  simp only[↓zq,zs,ae,zt,aN]
  repeat refine⟨by omega,?_⟩
  refine an (AC _ _ _) ?_
  simp only[↓zq,zs,ae,zt,aN,tG,cT]
  repeat refine⟨by omega,?_⟩
  exact⟨rfl,rfl⟩
 |
  @times a b ha hb i1 i2 =>
  refine BD _ _ _ _ _ ((a8 _).mpr trivial) ((a8 _).mpr trivial) ?_
  have hP:=P3.of (.atom [42]) a b
  simp only[As,cT,toNat_one,bj,↓zq,zs,ae,zt,hP.1,hP.2.1,hP.2.2.1,hP.2.2.2,aN]
  refine⟨fun h=>absurd rfl h,fun _=>?_⟩
  refine an (qV [42] a b) ?_
  simp only[↓zq,zs,ae,zt]
  refine⟨fun h=>by simp at h,fun _=>?_⟩
  refine an (qV [42] a b) ?_
  simp only[↓zq,zs,ae,zt]
  repeat refine⟨by omega,?_⟩
  refine an i1 ?_
  simp only[↓zq,zs,ae,zt,aN]
  repeat refine⟨by omega,?_⟩
  refine an i2 ?_
  simp only[↓zq,zs,ae,zt,aN]
  repeat refine⟨by omega,?_⟩
  refine an (AC _ _ _) ?_
  simp only[↓zq,zs,ae,zt,aN,rN,cT]
  repeat refine⟨by omega,?_⟩
  exact⟨rfl,rfl⟩
 |
  @rc n b hn hb i =>
  refine BD _ _ _ _ _ ((a8 _).mpr trivial) ((a8 _).mpr trivial) ?_
  have hP:=P3.of (.atom gN) (.atom n) b
  simp only[As,cT,toNat_one,bj,↓zq,zs,ae,zt,hP.1,hP.2.1,hP.2.2.1,hP.2.2.2,aN]
  refine⟨fun h=>absurd rfl h,fun _=>?_⟩
  refine an (qV gN (.atom n) b) ?_
  simp only[↓zq,zs,ae,zt]
  refine⟨fun _=>?_,fun h=>absurd rfl h⟩
  repeat refine⟨by omega,?_⟩
  rw[At]
  refine⟨fun h=>?_,fun h=>?_⟩
  ·have hh:n=x:=h
   rw[if_pos hh];exact⟨rfl,rfl⟩
  ·have hh:¬n=x:=h
   rw[if_neg hh]
   repeat refine⟨by omega,?_⟩
   refine an i ?_
   simp only[↓zq,zs,ae,zt,aN]
   repeat refine⟨by omega,?_⟩
   refine an (AC gN (.atom n) (qH x u b)) ?_
   simp only[↓zq,zs,ae,zt,aN,cT]
   repeat refine⟨by omega,?_⟩
   exact⟨rfl,rfl⟩
theorem qT(x:Nm){e:E}(h:Wf e):mf x e<=e.dW:=by
 induction h with
 |atom hs=>simp only[mf,E.dW];split<;>omega
 |plus ha hb i1 i2=>rw[p8];simp only[E.dW,E.eY];omega
 |times ha hb i1 i2=>rw[oC];simp only[E.dW,E.eY];omega
 |rc hn hb i=>rw[vH];simp only[E.dW,E.eY];split<;>omega
theorem L4(x:Nm){e:E}(h:Wf e):e.dW<1000000->au Tryz.prog 160 [.agg [.v (.string (mk e.at)),e.sp],.v (.string (mk x))] [] (bK (.v (.int .i64 (mf x e:Int)))):=by
 induction h with
 |
  @atom s hs =>
  intro hl
  refine BM _ _ _ ((a8 _).mpr trivial) ?_
  simp only[zb,eh,↓zq,zs,ae,zt,bK,mf]
  refine⟨fun _=>⟨fun h=>?_,fun h=>?_⟩,fun h=>absurd h hs⟩
  ·rw[if_pos h];rfl
  ·rw[if_neg h];rfl
 |
  @plus a b ha hb i1 i2 =>
  intro hl
  simp only[E.dW,E.eY]at hl
  have u1:=qT x ha
  have u2:=qT x hb
  refine BM _ _ _ ((a8 _).mpr trivial) ?_
  have hP:=P3.of (.atom [43]) a b
  simp only[zb,cT,toNat_one,bj,↓zq,zs,ae,zt,hP.1,hP.2.1,hP.2.2.1,hP.2.2.2,aN]
  refine⟨fun h=>absurd rfl h,fun _=>?_⟩
  refine an (qV [43] a b) ?_
  simp only[↓zq,zs,ae,zt]
  refine⟨fun h=>by simp at h,fun _=>?_⟩
  repeat refine⟨by omega,?_⟩
  refine an (i1 (by omega)) ?_
  simp only[↓zq,zs,ae,zt]
  repeat refine⟨by omega,?_⟩
  refine an (i2 (by omega)) ?_
  simp only[↓zq,zs,ae,zt]
  rw[p8,wrap64 _ (by omega) (by omega)]
  exact⟨by simp,rfl⟩
 |
  @times a b ha hb i1 i2 =>
  intro hl
  simp only[E.dW,E.eY]at hl
  have u1:=qT x ha
  have u2:=qT x hb
  refine BM _ _ _ ((a8 _).mpr trivial) ?_
  have hP:=P3.of (.atom [42]) a b
  simp only[zb,cT,toNat_one,bj,↓zq,zs,ae,zt,hP.1,hP.2.1,hP.2.2.1,hP.2.2.2,aN]
  refine⟨fun h=>absurd rfl h,fun _=>?_⟩
  refine an (qV [42] a b) ?_
  simp only[↓zq,zs,ae,zt]
  refine⟨fun h=>by simp at h,fun _=>?_⟩
  repeat refine⟨by omega,?_⟩
  refine an (i1 (by omega)) ?_
  simp only[↓zq,zs,ae,zt]
  repeat refine⟨by omega,?_⟩
  refine an (i2 (by omega)) ?_
  simp only[↓zq,zs,ae,zt]
  rw[oC,wrap64 _ (by omega) (by omega)]
  exact⟨by simp,rfl⟩
 |
  @rc n b hn hb i =>
  intro hl
  simp only[E.dW,E.eY]at hl
  refine BM _ _ _ ((a8 _).mpr trivial) ?_
  have hP:=P3.of (.atom gN) (.atom n) b
  simp only[zb,cT,toNat_one,bj,↓zq,zs,ae,zt,hP.1,hP.2.1,hP.2.2.1,hP.2.2.2,aN]
  refine⟨fun h=>absurd rfl h,fun _=>?_⟩
  refine an (qV gN (.atom n) b) ?_
  simp only[↓zq,zs,ae,zt]
  refine⟨fun _=>?_,fun h=>absurd rfl h⟩
  repeat refine⟨by omega,?_⟩
  rw[vH]
  refine⟨fun h=>?_,fun h=>?_⟩
  ·have hh:n=x:=h
   rw[if_pos hh];exact⟨rfl,rfl⟩
  ·have hh:¬n=x:=h
   rw[if_neg hh]
   repeat refine⟨by omega,?_⟩
   refine an (i (by omega)) ?_
   simp only[↓zq,zs,ae,zt]
   exact⟨rfl,rfl⟩
theorem Nw{x:Nm}(hx:tD x){e u:E}(h:Wf e)(hu:Wf u)(hl:e.dW<=1000)(hlu:u.dW<=1000):au Tryz.prog 142 [.agg [.v (.string (mk e.at)),e.sp],.v (.string (mk x)),.agg [.v (.string (mk u.at)),u.sp]] [] (bK (.v (.bool (decide ((sub x (dX u []) (dX e [])).aX<=400))))):=by
 refine Mi _ _ _ _ _ ((a8 _).mpr trivial) ((a8 _).mpr trivial) ?_
 unfold IM
 have a1:=Ja e h.ok (by have:=h.sz;omega)
 have a2:=Ja u hu.ok (by have:=hu.sz;omega)
 rw[dU]at a1 a2
 have hle:=qT x h
 have hpos:1<=u.dW:=by rw[hu.dW []];exact rA _
 refine an a1 ?_
 simp only[↓zq,zs,ae,zt]
 refine an (L4 x h (by omega)) ?_
 simp only[↓zq,zs,ae,zt]
 refine an a2 ?_
 simp only[↓zq,zs,ae,zt]
 have e1:=fq x (dX u []) (dX e [])
 have e2:=Br hx h []
 rw[if_neg (by simp)]at e2
 rw[e2,<-h.dW [],<-hu.dW []]at e1
 have hm:mf x e*(u.dW-1)<=1000*1000:=Nat.mul_le_mul (by omega) (by omega)
 have e3:(mf x e:Int)*((u.dW:Int)-1)=((mf x e*(u.dW-1):Nat):Int):=by
  rw[Int.natCast_mul];congr 1;omega
 have e4:mf x e*(u.dW-1)+mf x e=mf x e*u.dW:=by
  rw[Nat.mul_sub,Nat.mul_one]
  have:=Nat.le_mul_of_pos_right (mf x e) hpos
  omega
 rw[wrap64 ((u.dW:Int)-1) (by omega) (by omega),e3,wrap64 ((mf x e*(u.dW-1):Nat):Int) (by omega) (by omega),wrap64 _ (by omega) (by omega)]
 refine⟨?_,rfl⟩
 congr 2
 rw[cj,decide_eq_true_eq,decide_eq_true_eq]
 omega
end Go.Proofs.Trees
namespace Go.Proofs.Trees
open Go Go.VL Go.RowKit
abbrev Lb:AV:=.v (.slice none 0 0)
abbrev zE:Ob:=.cells [.v (.string (mk [])),Lb]
theorem Kc(s:Nm)(p a b:AV)(hp:LK.sl.has p)(F fr to:List Nm)(k:Int)(ha:dL a fr)(hb:dL b to)(hft:fr.length=to.length)(hl:fr.length<1000000):∀(i:Nat),i<=fr.length ->
 Dn [a,b,.v (.int .i64 ((i:Int)-1))] [.cells [.v (.string (mk s)),p],zE,.cells [.any,.v (.int .i64 k)],.vec 1 (cg F)]
  (pI (match bB s fr i with|some u=>(2,[],[.cells [.v (.string (mk (gL to u))),Lb],.cells [.any,.v (.int .i64 k)],.vec 1 (cg F)])|none=>(1,[],[.cells [.v (.string (mk s)),p],zE,.cells [.any,.v (.int .i64 k)],.vec 1 (cg F)])))
 |
  0,hi=>by
  refine HV _ _ _ _ _ _ _ _ _ ?_
  simp only[EY,↓zq,zs,ae,ae,hp,bg]
  exact⟨ha.1,hb.1,fun h=>by omega,fun _=>rfl⟩
 |
  i+1,hi=>by
  have hlt:i<fr.length:=by omega
  have hlt':i<to.length:=by omega
  have e1:((i+1:Nat):Int)-1=(i:Int):=by omega
  rw[e1]
  refine HV _ _ _ _ _ _ _ _ _ ?_
  simp only[EY,↓zq,zs,ae,zt,ae,hp,bg,ha.len,hb.len,ha.idx hlt,hb.idx hlt',bS]
  refine⟨ha.1,hb.1,fun _=>⟨⟨ha.1,by omega,by omega⟩,by omega,fun h=>?_,fun h=>?_⟩,fun h=>by omega⟩
  ·refine⟨⟨hb.1,by omega,by omega⟩,by omega,?_⟩
   have hh:fr.getD i []=s:=h
   simp only[bB,hh,if_true,pI]
   have:gL to (fr.length-1-i)=to.getD i []:=by unfold gL;congr 1;omega
   rw[this]
  ·have hh:¬fr.getD i []=s:=h
   simp only[bB,hh,if_false]
   rw[wrap64 _ (by omega) (by omega)]
   exact Kc s p a b hp F fr to k ha hb hft hl i (by omega)
theorem Hd(a b:AV)(ha:LK.sl.has a)(hb:LK.sl.has b)(F:List Nm)(hF:F.length<100000)(t:ByteArray)(p:AV)(hp:LK.sl.has p):∀(n j:Nat),uN F n j<j+n->j+n<100000000 ->
 EN [a,b,.v (.string (mk (tN j)))] [.cells [.any,.v (.int .i64 (j:Int))],.vec 1 (cg F),.cells [.v (.string t),p],zE] (gk 1 [a,b,.v (.string (mk (tN (uN F n j))))] [.cells [.any,.v (.int .i64 (uN F n j:Int))],.vec 1 (cg F),.cells [.v (.string t),p],zE])
 |0,j,h,_=>by simp only[uN]at h;omega
 |
  n+1,j,h,hj=>by
  refine MA _ _ _ _ _ _ _ _ _ ?_
  simp only[HA,↓zq,zs,ae,zt,ae,hp,bg]
  refine⟨ha,hb,?_⟩
  refine an (F4 F _ (.of F) (tN j) (by omega)) ?_
  simp only[↓zq,zs,ae,zt]
  rw[uN]at h |-
  refine⟨fun hm=>?_,fun hm=>?_⟩
  ·rw[if_pos hm]at h |-
   rw[bp j (by omega)]
   refine an (A5 (j+2) (j+1) (by omega) (by omega)) ?_
   have hd:=ot (j+2) (j+1) (by omega)
   simp only[↓zq,zs,ae,zt,cx,bh]
   refine⟨by simp[gC];omega,?_⟩
   exact Hd a b ha hb F hF t p hp n (j+1) (by omega) (by omega)
  ·rw[if_neg hm]
   exact⟨rfl,rfl,rfl⟩
theorem lW(F:List Nm):∀(t:Ty) (to:List Nm) (k:Nat),k<=(lz F t to k).2/\(lz F t to k).2<=k+(F.length+1)*t.aX
 | .zero,_,k=>⟨ap _,cR _ _⟩
 | .one,_,k=>⟨ap _,cR _ _⟩
 | .name _,_,k=>⟨ap _,cR _ _⟩
 | .cc _,_,k=>⟨ap _,cR _ _⟩
 |
  .plus a b,to,k=>by
  have h1:=lW F a to k
  have h2:=lW F b to (lz F a to k).2
  simp only[lz,Ty.aX]
  have:(F.length+1)*(1+a.aX+b.aX)=(F.length+1)+(F.length+1)*a.aX+(F.length+1)*b.aX:=by simp only[Nat.mul_add,Nat.mul_one]
  omega
 |
  .times a b,to,k=>by
  have h1:=lW F a to k
  have h2:=lW F b to (lz F a to k).2
  simp only[lz,Ty.aX]
  have:(F.length+1)*(1+a.aX+b.aX)=(F.length+1)+(F.length+1)*a.aX+(F.length+1)*b.aX:=by simp only[Nat.mul_add,Nat.mul_one]
  omega
 |
  .rc a,to,k=>by
  obtain⟨g1,g2,_,_⟩:=pV F k
  have h1:=lW F a (to++[tN (nx F k)]) (nx F k+1)
  simp only[lz,Ty.aX]
  have:(F.length+1)*(2+a.aX)=(F.length+1)*2+(F.length+1)*a.aX:=by simp only[Nat.mul_add]
  omega
theorem uy(l:List Nm):(cg l).length=l.length:=by simp[cg]
theorem NM(F:List Nm)(hF:F.length<10000){e:E}(h:Wf e):∀(fr to:List Nm) (a b:AV) (k:Nat),dL a fr->dL b to->fr.length=to.length->(∀w,w∈fr->tD w)->fr.length+e.sz<10000->k+(F.length+1)*(dX e fr).aX<99000000 ->
 au Tryz.prog 112 [.agg [.v (.string (mk e.at)),e.sp],a,b,.ref 0 0] [.cells [.vec 1,.v (.int .i64 (k:Int))],.vec 1 (cg F)] (cZ (.agg [.v (.string (mk (lz F (dX e fr) to k).1.at)),(lz F (dX e fr) to k).1.sp]) [.cells [.vec 1,.v (.int .i64 ((lz F (dX e fr) to k).2:Int))],.vec 1 (cg F)]):=by
 induction h with
 |
  @atom s hs =>
  intro fr to a b k ha hb hft hfr hl hk
  simp only[E.sz]at hl
  refine B4 _ _ _ _ _ _ ((a8 _).mpr trivial) ha.1 hb.1 ?_
  have hz:∀c,(c=[48]\/c=[49])->bB c fr fr.length=none:=fun c hc=>(fk c fr).2 fun hm=>by
   obtain⟨h1,h2,h3⟩:=hfr c hm
   rcases hc with rfl|rfl
   ·exact h2 rfl
   ·exact h3 rfl
  have hq:lz F (dX (.atom s) fr) to k=(match bB s fr fr.length with|some u=>.atom (gL to u)|none=>.atom s,k):=by
   simp only[dX]
   by_cases h0:s=[48]
   ·rw[if_pos h0,hz s (.inl h0),h0];rfl
   ·rw[if_neg h0]
    by_cases h1:s=[49]
    ·rw[if_pos h1,hz s (.inr h1),h1];rfl
    ·rw[if_neg h1]
     cases bB s fr fr.length<;>rfl
  simp only[Ac,eh,↓zq,zs,ae,zt]
  refine⟨fun _=>⟨ha.1,?_⟩,fun h=>absurd h hs⟩
  rw[ha.len,wrap64 _ (by omega) (by omega)]
  refine gK (Kc s _ a b ((a8 _).mpr trivial) F fr to (k:Int) ha hb hft (by omega) fr.length (ap _)) (fun ys o e=>?_) (fun ys o e=>?_)
  ·rw[hq]
   cases q:bB s fr fr.length<;>rw[q]at e<;>cases e
   simp only[↓zq,zs,ae,zt,ae,aO,bg,a8]
   exact⟨rfl,rfl⟩
  ·rw[hq]
   cases q:bB s fr fr.length<;>rw[q]at e<;>cases e
   simp only[↓zq,zs,ae,zt,ae,aO,bg]
   exact⟨rfl,rfl⟩
 |
  @plus x y hx hy i1 i2 =>
  intro fr to a b k ha hb hft hfr hl hk
  simp only[E.sz,E.iM]at hl
  rw[eQ]at hk |-
  simp only[Ty.aX]at hk
  have hm:(F.length+1)*(1+(dX x fr).aX+(dX y fr).aX)=(F.length+1)+(F.length+1)*(dX x fr).aX+(F.length+1)*(dX y fr).aX:=by simp only[Nat.mul_add,Nat.mul_one]
  have hc:=lW F (dX x fr) to k
  refine B4 _ _ _ _ _ _ ((a8 _).mpr trivial) ha.1 hb.1 ?_
  have hP:=P3.of (.atom [43]) x y
  simp only[Ac,cT,toNat_one,bj,↓zq,zs,ae,zt,hP.1,hP.2.1,hP.2.2.1,hP.2.2.2,aN]
  refine⟨fun h=>absurd rfl h,fun _=>?_⟩
  refine an (qV [43] x y) ?_
  simp only[↓zq,zs,ae,zt]
  refine⟨fun h=>by simp at h,fun _=>?_⟩
  repeat refine⟨by omega,?_⟩
  refine bM (i1 fr to a b k ha hb hft hfr (by omega) (by omega)) ?_
  simp only[↓zq,zs,ae,zt,aO,aN,ba,bw,Ob.es]
  repeat refine⟨by omega,?_⟩
  refine an (qV [43] x y) ?_
  simp only[↓zq,zs,ae,zt]
  repeat refine⟨by omega,?_⟩
  refine bM (i2 fr to a b _ ha hb hft hfr (by omega) (by omega)) ?_
  simp only[↓zq,zs,ae,zt,aO,aN,ba,bw,Ob.es]
  repeat refine⟨by omega,?_⟩
  refine an (AC _ _ _) ?_
  simp only[↓zq,zs,ae,zt,aN,cT]
  repeat refine⟨by omega,?_⟩
  exact⟨rfl,rfl⟩
 |
  @times x y hx hy i1 i2 =>
  intro fr to a b k ha hb hft hfr hl hk
  simp only[E.sz,E.iM]at hl
  rw[dZ]at hk |-
  simp only[Ty.aX]at hk
  have hm:(F.length+1)*(1+(dX x fr).aX+(dX y fr).aX)=(F.length+1)+(F.length+1)*(dX x fr).aX+(F.length+1)*(dX y fr).aX:=by simp only[Nat.mul_add,Nat.mul_one]
  have hc:=lW F (dX x fr) to k
  refine B4 _ _ _ _ _ _ ((a8 _).mpr trivial) ha.1 hb.1 ?_
  have hP:=P3.of (.atom [42]) x y
  simp only[Ac,cT,toNat_one,bj,↓zq,zs,ae,zt,hP.1,hP.2.1,hP.2.2.1,hP.2.2.2,aN]
  refine⟨fun h=>absurd rfl h,fun _=>?_⟩
  refine an (qV [42] x y) ?_
  simp only[↓zq,zs,ae,zt]
  refine⟨fun h=>by simp at h,fun _=>?_⟩
  repeat refine⟨by omega,?_⟩
  refine bM (i1 fr to a b k ha hb hft hfr (by omega) (by omega)) ?_
  simp only[↓zq,zs,ae,zt,aO,aN,ba,bw,Ob.es]
  repeat refine⟨by omega,?_⟩
  refine an (qV [42] x y) ?_
  simp only[↓zq,zs,ae,zt]
  repeat refine⟨by omega,?_⟩
  refine bM (i2 fr to a b _ ha hb hft hfr (by omega) (by omega)) ?_
  simp only[↓zq,zs,ae,zt,aO,aN,ba,bw,Ob.es]
  repeat refine⟨by omega,?_⟩
  refine an (AC _ _ _) ?_
  simp only[↓zq,zs,ae,zt,aN,cT]
  repeat refine⟨by omega,?_⟩
  exact⟨rfl,rfl⟩
 |
  @rc n y hn hy i =>
  intro fr to a b k ha hb hft hfr hl hk
  simp only[E.sz,E.iM]at hl
  rw[iN]at hk |-
  simp only[Ty.aX,eh]at hk
  have hm:(F.length+1)*(2+(dX y (fr++[n])).aX)=(F.length+1)*2+(F.length+1)*(dX y (fr++[n])).aX:=by simp only[Nat.mul_add]
  have hc:=lW F (dX y (fr++[n])) (to++[tN (nx F k)]) (nx F k+1)
  obtain⟨g1,g2,_,_⟩:=pV F k
  refine B4 _ _ _ _ _ _ ((a8 _).mpr trivial) ha.1 hb.1 ?_
  have hP:=P3.of (.atom gN) (.atom n) y
  simp only[Ac,cT,toNat_one,bj,↓zq,zs,ae,zt,hP.1,hP.2.1,hP.2.2.1,hP.2.2.2,aN]
  refine⟨fun h=>absurd rfl h,fun _=>?_⟩
  refine an (qV gN (.atom n) y) ?_
  simp only[↓zq,zs,ae,zt]
  refine⟨fun _=>?_,fun h=>absurd rfl h⟩
  refine an (A5 (k+1) k (by omega) (by omega)) ?_
  have hd:=ot (k+1) k (by omega)
  simp only[↓zq,zs,ae,zt,cx,bh]
  refine⟨by simp[gC];omega,?_⟩
  refine bZ (Hd a b ha.1 hb.1 F (by omega) (mk []) _ ((a8 _).mpr trivial) (F.length+1) k (by show nx F k<_;omega) (by omega)) ?_
  simp only[↓zq,zs,ae,zt,ae,aO,bg,a8,ha.1,hb.1,hP.1,hP.2.1,hP.2.2.1,hP.2.2.2,toNat_one,bj,aN]
  repeat refine⟨by omega,?_⟩
  have hnx:uN F (F.length+1) k=nx F k:=rfl
  rw[hnx]
  refine an (xA fr a ha n (by omega)) ?_
  simp only[↓zq,zs,ae,zt]
  refine an (xA to b hb (tN (nx F k)) (by omega)) ?_
  simp only[↓zq,zs,ae,zt]
  rw[bp (nx F k) (by omega)]
  have hmk:=AC gN (.atom (tN (nx F k))) (lz F (dX y (fr++[n])) (to++[tN (nx F k)]) (nx F k+1)).1
  simp only[eh]at hmk
  refine bM (i (fr++[n]) (to++[tN (nx F k)]) _ _ (nx F k+1) (.of _) (.of _) (by simp[hft]) (fun w hw=>by
   rcases aI.1 hw with hw|hw
   ·exact hfr w hw
   ·simp only[aY]at hw;rw[hw];exact hn) (by simp;omega) (by omega)) ?_
  simp only[↓zq,zs,ae,zt,aO,aN,ba,bw,Ob.es]
  repeat refine⟨by omega,?_⟩
  refine an hmk ?_
  simp only[↓zq,zs,ae,zt,aN,cT]
  repeat refine⟨by omega,?_⟩
  exact⟨rfl,rfl⟩
theorem vd(l r:List Nm):cg (l++r)=cg l++cg r:=by simp[cg]
def re(os:List E):List Nm:=os.flatMap fun o=>kZ o [] []
theorem tY{os:List E}{i:Nat}(h:i<os.length):(E.bc os).getD i []=[.v (.string (mk (os[i]).at)),(os[i]).sp]:=by
 have:∀(os:List E) (i:Nat) (h:i<os.length),(E.bc os).getD i []=(os[i]).gF:=by
  intro os
  induction os with
  |nil=>intro i h;simp at h
  |
   cons o os ih =>
   intro i h
   cases i with
   |zero=>simp[E.bc]
   |succ i=>simpa[E.bc]using ih i (by simpa using h)
 rw[this os i h,ic]
theorem xu(os:List E){i:Nat}(h:i<os.length):re (os.drop i)=kZ (os[i]) [] []++re (os.drop (i+1)):=by
 unfold re;rw[aL h,cy]
theorem Gt(a:AV)(os:List E)(ha:LK.sl.has a/\a.aM=E.bc os)(ho:∀o,o∈os->Wf o/\o.sz<5000)(hl:os.length<100)(t:ByteArray)(p:AV)(hp:LK.sl.has p):∀(k i:Nat) (F:List Nm),i+k=os.length->F.length<=5000+5000*i ->
 Du [a,.v (.int .i64 (i:Int))] [.cells [.v (.string t),p],zE,.vec 1 (cg F)] (gk 1 [] [.cells [.v (.string t),p],zE,.vec 1 (cg (F++re (os.drop i)))])
 |
  0,i,F,hi,hF=>by
  refine He _ _ _ _ _ _ _ ?_
  have:i=os.length:=by omega
  subst this
  simp only[DH,↓zq,zs,ae,zt,ae,hp,bg,ha.1,ha.2,dE,List.drop_length]
  exact⟨fun h=>by omega,fun _=>by simp[gk,re]⟩
 |
  k+1,i,F,hi,hF=>by
  have hlt:i<os.length:=by omega
  obtain⟨hw,hsz⟩:=ho _ (bD hlt)
  have hfl:=gH (os[i]) [] []
  refine He _ _ _ _ _ _ _ ?_
  simp only[DH,↓zq,zs,ae,zt,ae,hp,bg,ha.1,ha.2,dE,tY hlt,aN,bS]
  refine⟨fun _=>?_,fun h=>by omega⟩
  repeat refine⟨by omega,?_⟩
  have hfre:=HO hw [] [] (.sl []) (.of []) (by simp;omega)
  refine bM hfre ?_
  simp only[↓zq,zs,ae,zt,ba,bw,Ob.es,uy,<-vd]
  rw[bp i (by omega),xu os hlt,<-aQ]
  simp only[aG,aP]at hfl
  refine⟨⟨lP _,by omega⟩,?_⟩
  exact Gt a os ha ho hl t p hp k (i+1) _ (by omega) (by simp;omega)
def DF(e:E)(os:List E):List Nm:=kZ e [] []++re os
def CD(e:E)(os:List E):E:=(lz (DF e os) (dX e []) [] 0).1
theorem B9{e:E}{os:List E}(h:e.sz<=2000)(ho:∀o,o∈os->Wf o/\o.sz<=2000)(hl:os.length<=2):(DF e os).length<=6000:=by
 have h1:=gH e [] []
 have h2:∀(l:List E),(∀o,o∈l->o.sz<=2000)->(re l).length<=2000*l.length:=by
  intro l
  induction l with
  |nil=>intro _;simp[re]
  |
   cons o l ih =>
   intro hl
   have:=ih fun q hq=>hl q (ai _ hq)
   have:=hl o af
   have:=gH o [] []
   simp only[re,cy,al,aw,aG]at *
   omega
 have:=h2 os fun o ho'=>(ho o ho').2
 simp only[DF,al,aG]at *
 omega
theorem GJ{e:E}(h:Wf e)(a:AV)(os:List E)(ha:LK.sl.has a/\a.aM=E.bc os)(he:e.sz<=2000)(ho:∀o,o∈os->Wf o/\o.sz<=2000)(hl:os.length<=2) :
 au Tryz.prog 83 [.agg [.v (.string (mk e.at)),e.sp],a] [] (bK (.agg [.v (.string (mk (CD e os).at)),(CD e os).sp])):=by
 refine M4 _ _ _ ((a8 _).mpr trivial) ha.1 ?_
 unfold Hi
 have hfl:=gH e [] []
 simp only[aG,aP]at hfl
 have hap:=B9 he ho hl
 have hats:(dX e []).aX<=2000:=by
  rw[<-h.dW []]
  have:e.dW<=e.sz:=by
   clear hap hfl ha he ho hl
   induction h with
   |atom _=>simp[E.dW,E.sz]
   |plus _ _ i1 i2=>simp only[E.dW,E.eY,E.sz,E.iM];omega
   |times _ _ i1 i2=>simp only[E.dW,E.eY,E.sz,E.iM];omega
   |rc _ _ i=>simp only[E.dW,E.eY,E.sz,E.iM];omega
  omega
 have hfre:=HO h [] [] (.sl []) (.of []) (by simp;omega)
 simp only[↓zq,zs,ae,zt]
 refine bM hfre ?_
 simp only[↓zq,zs,ae,zt,ba,bw,Ob.es]
 have hlp:=Gt a os ha (fun o hq=>⟨(ho o hq).1,by have:=(ho o hq).2;omega⟩) (by omega) (mk e.at) e.sp ((a8 _).mpr trivial) os.length 0 (kZ e [] []) (by omega) (by omega)
 rw[aV]at hlp
 refine bZ hlp ?_
 simp only[↓zq,zs,ae,zt,ae,aO,bg,a8,ba,bw,Ob.es]
 have hmul:((DF e os).length+1)*(dX e []).aX<=6001*2000:=Nat.mul_le_mul (by omega) hats
 have hren:=NM (DF e os) (by omega) h [] [] (.sl []) (.sl []) 0 (.of []) (.of []) rfl (fun w hw=>by cases hw) (by simp;omega) (by omega)
 refine bM hren ?_
 simp only[↓zq,zs,ae,zt,aO,aN]
 repeat refine⟨by omega,?_⟩
 exact⟨rfl,rfl⟩
end Go.Proofs.Trees
namespace Go.Proofs.Trees
open Go Go.VL Go.RowKit
def jC(t:Ty):Prop:=jF t 0/\∀y,bq y t=true->tD y
theorem fR:∀(t:Ty) {i j:Nat},jF t i->i<=j->jF t j
 | .cc u,i,j,h,hj=>cN h hj
 | .plus a b,i,j,h,hj=>⟨fR a h.1 hj,fR b h.2 hj⟩
 | .times a b,i,j,h,hj=>⟨fR a h.1 hj,fR b h.2 hj⟩
 | .rc a,i,j,h,hj=>fR (i:=i+1) (j:=j+1) a h (by omega)
 | .zero,_,_,_,_=>trivial
 | .one,_,_,_,_=>trivial
 | .name _,_,_,_,_=>trivial
theorem ig(x:Nm):∀(t:Ty) {i:Nat},jF t (i+1)->jF (ej (.name x) t i) i
 |
  .cc u,i,h=>by
  simp only[ej]
  split
  ·trivial
  ·have:u<i+1:=h
   show u<i;omega
 | .plus a b,i,h=>⟨ig x a h.1,ig x b h.2⟩
 | .times a b,i,h=>⟨ig x a h.1,ig x b h.2⟩
 | .rc a,i,h=>ig x (i:=i+1) a h
 | .zero,_,_=>trivial
 | .one,_,_=>trivial
 | .name _,_,_=>trivial
theorem j0{x:Nm}{u:Ty}(hu:jF u 0):∀(t:Ty) {i:Nat},jF t i->jF (sub x u t) i
 | .name s,i,_=>by simp only[sub];split;exact fR u hu (db _);trivial
 | .plus a b,i,h=>⟨j0 hu a h.1,j0 hu b h.2⟩
 | .times a b,i,h=>⟨j0 hu a h.1,j0 hu b h.2⟩
 | .rc a,i,h=>j0 hu (i:=i+1) a h
 | .zero,_,_=>trivial
 | .one,_,_=>trivial
 | .cc _,_,h=>h
theorem Dv.lc{t d:Ty}{s:Nm}(h:Dv t s d):jF t 0->jF d 0:=by
 induction h with
 |zero s=>exact fun _=>trivial
 |one s=>exact fun _=>trivial
 |cc k s=>exact fun _=>trivial
 |hit s=>exact fun _=>trivial
 |qX h=>exact fun _=>trivial
 |plus h1 h2 hl i1 i2=>exact fun h=>⟨i1 h.1,i2 h.2⟩
 |times h1 h2 hl i1 i2=>exact fun h=>⟨⟨i1 h.1,h.2⟩,h.1,i2 h.2⟩
 |
  rc x hx hs h1 h2 hl i1 i2 =>
  intro h
  have g1:=j0 (x:=x) h _ (i1 (ig x _ h))
  have g2:=j0 (x:=x) h _ (i2 (ig x _ h))
  exact⟨fR _ g1 (by omega),fR _ g2 (by omega),Nat.zero_lt_one⟩
theorem Wf.FB{e:E}(h:Wf e):jC (dX e []):=⟨u6 h [],fun y hy=>(rr h [] y hy).1⟩
theorem jC.dv{t d:Ty}{s:Nm}(g:jC t)(h:Dv t s d):jC d:=⟨h.lc g.1,fun y hy=>g.2 y (h.names y hy)⟩
theorem jC.tree{t:Ty}(g:jC t):∃e,Wf e/\dX e []=t:=by
 obtain⟨h1,h2,_⟩:=lA (bH t []) t [] 0 (.nil _ _) g.1 fun y hy=>⟨(fj t [] y).2 (.inr hy),g.2 y hy⟩
 exact⟨_,h1,h2⟩
theorem jC.sub{x:Nm}{u t:Ty}(hu:jC u)(ht:jC t):jC (sub x u t):=⟨j0 hu.1 t ht.1,fun y hy=>by
 rcases ir t hy with h|h
 ·exact hu.2 y h
 ·exact ht.2 y h.2⟩
def F9(o:Option Ty):AV->List Ob->Prop:=fun r ob=>ob=[]/\∃(c:Nm) (d:AV),LK.sl.has d/\r=.da [.agg [.v (.string (mk c)),d],.v (.bool o.isSome)]/\∀t,o=some t->∃e,Wf e/\dX e []=t/\c=e.at/\d=e.sp
theorem F9.ne{o:Option Ty}(h:∀t,o=some t->jC t):∃r ob,F9 o r ob:=by
 cases o with
 |none=>exact⟨_,_,rfl,[],Lb,(bg).mpr trivial,rfl,fun t h=>by cases h⟩
 |
  some t =>
  obtain⟨e,h1,h2⟩:=(h t rfl).tree
  exact⟨_,_,rfl,e.at,e.sp,(a8 _).mpr trivial,rfl,fun t' h'=>by cases h';exact⟨e,h1,h2,rfl,rfl⟩⟩
theorem F9.of{e:E}(h:Wf e):F9 (some (dX e [])) (.da [.agg [.v (.string (mk e.at)),e.sp],.v (.bool true)]) [] :=
 ⟨rfl,e.at,e.sp,(a8 _).mpr trivial,rfl,fun t h'=>by cases h';exact⟨e,h,rfl,rfl,rfl⟩⟩
theorem F9.no(c:Nm)(d:AV)(hd:LK.sl.has d):F9 none (.da [.agg [.v (.string (mk c)),d],.v (.bool false)]) [] :=
 ⟨rfl,c,d,hd,rfl,fun t h'=>by cases h'⟩
theorem yy{e:E}{os:List E}(h:Wf e):Wf (CD e os)/\dX (CD e os) []=dX e []/\tc (·∉DF e os) (CD e os):=by
 obtain⟨h1,h2,_,_,h5⟩:=lA (DF e os) (dX e []) [] 0 (.nil _ _) (u6 h []) fun y hy=>⟨aA _ ((w8 h [] [] y).2 (.inr hy)),(rr h [] y hy).1⟩
 exact⟨h1,h2,h5⟩
theorem uG{os:List E}{o:E}(ho:o∈os)(hw:Wf o){y:Nm}(hy:bq y (dX o [])=true):y∈re os :=
 List.mem_flatMap.2 ⟨o,ho,(w8 hw [] [] y).2 (.inr hy)⟩
theorem yB{s:Nm}(hs:tD s):dX (.atom s) []=.name s:=iw hs (by simp)
theorem Lu{x:Nm}(hx:tD x){e u:E}(h:Wf e)(hu:Wf u)(hl:e.dW<=400)(hlu:u.dW<=400):∃g,Wf g/\dX g []=sub x (dX u []) (dX e [])/\au Tryz.prog 143 [.agg [.v (.string (mk e.at)),e.sp],.v (.string (mk x)),.agg [.v (.string (mk u.at)),u.sp]] [] (bK (.agg [.v (.string (mk g.at)),g.sp])):=by
 obtain⟨w1,w2,w3⟩:=yy (os:=[u,.atom x]) h
 have hap:tc (fun n=>n≠x/\bq n (dX u [])=false) (CD e [u,.atom x]):=zl (fun n hn=>⟨fun e1=>hn (by
  subst e1
  exact az _ (uG (o:=.atom n) (by simp) (.atom hx.1) (by rw[yB hx];simp[bq]))),by
  cases q:bq n (dX u [])with
  |false=>rfl
  |true=>exact absurd (az _ (uG (o:=u) (by simp) hu q)) hn⟩) w1 w3
 obtain⟨p1,p2⟩:=A0 hx hu w1 hap [] (by simp) (fun y hy=>by cases hy)
 refine⟨_,p1,by rw[p2,w2],?_⟩
 refine MD _ _ _ _ _ ((a8 _).mpr trivial) ((a8 _).mpr trivial) ?_
 unfold KZ
 have s1:=h.sz
 have s2:=hu.sz
 have hA:=GJ h (.sl [[.v (.string (mk u.at)),u.sp],[.v (.string (mk x)),Lb]]) [u,.atom x] ⟨(bU _).mpr trivial,by simp only[eD,E.bc,ic];rfl⟩ (by omega) (fun o ho=>by
  simp only[aE,List.not_mem_nil,or_false]at ho
  rcases ho with rfl|rfl
  ·exact⟨hu,by omega⟩
  ·exact⟨.atom hx.1,by simp[E.sz]⟩) (by simp)
 refine an hA ?_
 simp only[↓zq,zs,ae,zt,aN]
 repeat refine⟨by omega,?_⟩
 refine an (Le x u w1) ?_
 simp only[↓zq,zs,ae,zt,aN]
 repeat refine⟨by omega,?_⟩
 exact⟨rfl,rfl⟩
end Go.Proofs.Trees
namespace Go.Proofs.Trees
open Go Go.VL Go.RowKit
theorem Wf.z8{e:E}(h:Wf e){t:Ty}(ht:dX e []=t)(hl:t.aX<=400):e.dW<=400:=by rw[h.dW [],ht];exact hl
end Go.Proofs.Trees
namespace Go.Proofs.Trees
open Go Go.VL Go.RowKit
inductive Sh:E->Prop
 |atom {s:Nm} (h:s.length<=20):Sh (.atom s)
 |l3 {h:Nm} {a b:E} (hh:h.length<=20) (ha:Sh a) (hb:Sh b):Sh (.list [.atom h,a,b])
theorem Sh.fa{e:E}(hw:Wf e)(h:Sh e):(gh e).length<=50*e.dW:=by
 induction hw with
 |atom _=>cases h with|atom h=>simp only[gh,E.dW];omega
 |
  plus _ _ i1 i2 =>
  cases h with|l3 hh ha hb =>
  have:=i1 ha
  have:=i2 hb
  simp only[gh,eE,aw,al,aG,E.dW,E.eY];omega
 |
  times _ _ i1 i2 =>
  cases h with|l3 hh ha hb =>
  have:=i1 ha
  have:=i2 hb
  simp only[gh,eE,aw,al,aG,E.dW,E.eY];omega
 |
  rc _ _ i =>
  cases h with|l3 hh ha hb =>
  cases ha with|atom ha =>
  have:=i hb
  simp only[gh,eE,aw,al,aG,E.dW,E.eY];omega
def On(t:Ty):Prop:=∀y,bq y t=true->y.length<=20
def Oh(t:Ty):Nm:=gh (lz (bH t []) t [] 0).1
def told(t:Ty):Option Nm:=if t.aX<=400/\(tO (Oh t)).isSome=true then some (Oh t)else none
abbrev rL:Nm:=[35,49]
noncomputable def io (s:Nm):Option Nm:=match tO s with
 |some (.rc a)=>(AB a rL).bind told
 |_=>none
theorem sT{s:Nm}{t:Ty}(h:tO s=some t):∃e,wB s=some e/\Wf e/\dX e []=t/\e.dW<=400/\e.ok:=by
 rw[uZ]at h
 cases he:wB s with
 |none=>rw[he]at h;cases h
 |
  some e =>
  rw[he]at h
  obtain⟨h1,h2,h3⟩:=p6 he
  obtain⟨hok,_⟩:=mT h1
  obtain⟨w1,w2⟩:=jI e [] t hok (fun w hw=>by cases hw) h
  exact⟨e,rfl,w1,w2,h3,hok⟩
theorem yJ{e:E}{x:Nm}{a d:Ty}(hw:Wf e)(ht:dX e []=.rc a)(hx:tD x)(hd:AB a x=some d):jC d/\(On (.rc a)->On d):=by
 simp only[AB,cf,pF,nP]at hd
 obtain⟨d',h1,_,rfl⟩:=hd
 have g:jC (.rc a):=ht ▸ hw.FB
 have go:jC (ej (.name x) a 0):=⟨ig x a g.1,fun y hy=>by
  rcases il a 0 hy with rfl|h
  ·exact hx
  ·exact g.2 y h⟩
 refine⟨g.sub (go.dv h1),fun hs y hy=>?_⟩
 rcases ir _ hy with h|⟨h,h'⟩
 ·exact hs y h
 ·rcases il a 0 (h1.names y h')with e|e
  ·exact absurd e h
  ·exact hs y e
def KT(y:Nm):Prop:=gj y=true\/cK y=true
end Go.Proofs.Trees
