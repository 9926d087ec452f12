/-
  Part of a proof: Go functions read by values, trees of functions, their contracts.
-/
import Derived.Test.YthcjhageibaepabGreatDoorP4
import Derived.Lib.Atoi
set_option linter.unusedVariables false
set_option linter.unusedSimpArgs false
open And renaming intro→aH
open Bool renaming and_eq_true→au,eq_iff_iff→cr,or_eq_false_iff→cf,or_eq_true→bh,true_and→bG
open Int renaming cast_ofNat_Int→cS,ofNat_eq_natCast→cC,tmod→dj,toNat→bR,toNat_natCast→bW
open List renaming all_cons→cI,any_eq_true→bY,append_assoc→a7,cons_append→bC,drop_eq_getElem_cons→aV,drop_eq_nil_of_le→bE,drop_zero→bj,getD_cons_zero→bc,getD_eq_getElem?_getD→aa,getElem?_eq_getElem→bm,getElem_mem→bJ,headD_cons→aX,length_append→an,length_cons→aw,length_drop→ca,length_nil→aG,map_cons→bD,mem_append→aK,mem_append_left→aB,mem_append_right→aA,mem_cons→aJ,mem_cons_of_mem→al,mem_cons_self→ai,mem_map→cd,mem_singleton→aR,nil_append→ba,tail_cons→bK,takeWhile_append_dropWhile→bQ
open Nat renaming beq→aI,le_add_right→cJ,le_refl→az,lt_of_lt_of_le→cR,mod_lt→dW,mul_add→cX,mul_one→dQ,zero_add→aS,zero_le→dA
open Option renaming bind_eq_some_iff→bx,isSome_iff_exists→bM,map_some→ct
open UInt8 renaming ofNat→aZ,toNat_inj→dB
namespace Go.Proofs.Trees
open Go Go.VL
theorem jS{x a b:E}(ar:List (List UInt8))(hx:x.at=[42]):cB (.list [x,a,b]) ar=match cB a ar,cB b ar with|some t,some u=>some (.times t u)|_,_=>none:=by rw[cB,if_neg (by rw[hx];decide),if_pos hx]<;>cases cB a ar<;>cases cB b ar<;>rfl
theorem l9{x a b:E}(ar:List (List UInt8))(hx:x.at=[114,101,99]):cB (.list [x,a,b]) ar=if cP a.at=true then(match cB b (ar++[a.at])with|some t=>some (.rc t)|none=>none)else none:=by rw[cB,if_neg (by rw[hx];decide),if_neg (by rw[hx];decide),if_pos hx]<;>cases cB b (ar++[a.at])<;>rfl
theorem iO{x a b:E}(ar:List (List UInt8))(h1:x.at≠[43])(h2:x.at≠[42])(h3:x.at≠[114,101,99]):cB (.list [x,a,b]) ar=none:=by rw[cB,if_neg h1,if_neg h2,if_neg h3]
theorem CY:∀(e:E) (ar:List (List UInt8)) (a:AV),e.ok->dG a ar->ar.length+e.sz<100000->aq Tryz.prog 74 [e.cn,a] [] (bz (gK (cB e ar)))
 |
  .atom s,ar,a,hok,ha,hl=>by
  simp only[E.sz]at hl
  refine K0 _ _ ((cD _).mpr trivial) ha.1 ?_
  have hd:=nh (.atom s)
  have hlen:=lf (.atom s)
  simp only[E.at]at hd
  simp only[EJ,↓zq,zs,af,zt,bz,cD,dU,hd,cB]
  refine⟨hlen,fun h=>⟨hlen,?_,?_⟩,fun h=>⟨hlen,fun h1=>⟨hlen,?_,?_⟩,fun h1=>⟨hlen,?_⟩⟩⟩
  ·rw[h];decide
  ·rw[if_pos h,h];rfl
  ·rw[h1];decide
  ·rw[if_neg h,if_pos h1,h1];rfl
  ·rw[if_neg h,if_neg h1]
   refine ak (HB s) ?_
   simp only[↓zq,zs,af]
   refine⟨fun hp=>⟨hlen,?_⟩,fun hp=>⟨hlen,?_⟩⟩
   ·rw[if_pos hp];rfl
   ·rw[if_neg (by rw[hp];simp)]
    refine ak (BE s) ?_
    simp only[↓zq,zs,af,ha.len]
    refine⟨fun hq=>⟨ha.1,?_⟩,fun hq=>?_⟩
    ·rw[if_pos hq,wrap64 _ (by omega) (by omega)]
     refine iX (JN (.atom s) a ar ha (by omega) ar.length (by omega)) (fun ys o e=>?_) (fun ys o e=>?_)
     ·simp only[E.at]at e
      cases hq2:bH s ar ar.length<;>rw[hq2]at e<;>cases e
      simp only[↓zq,zs,af,zt,cD,dU,hd]
      exact⟨hlen,rfl⟩
     ·simp only[E.at]at e
      cases hq2:bH s ar ar.length<;>rw[hq2]at e<;>cases e
      simp only[↓zq,zs,af,zt,LK.has]
      simp[gK,Ty.av,af,LK.has]
    ·rw[if_neg (by rw[hq];simp)]
     refine ak (wo (.atom s) [43]) ?_
     simp only[↓zq,zs,af]
     refine⟨fun h=>(by simp at h),fun _=>?_⟩
     refine ak (wo (.atom s) [42]) ?_
     simp only[↓zq,zs,af]
     refine⟨fun h=>(by simp at h),fun _=>?_⟩
     refine ak (wo (.atom s) [114,101,99]) ?_
     simp only[↓zq,zs,af]
     refine⟨fun h=>(by simp at h),fun _=>?_⟩
     trivial
 |
  .list l,ar,a,hok,ha,hl=>by
  simp only[E.sz]at hl
  refine K0 _ _ ((cD _).mpr trivial) ha.1 ?_
  have hd:=nh (.list l)
  have hlen:=lf (.list l)
  simp only[E.at]at hd
  have hp:gC []=false:=rfl
  have hq:cP []=false:=rfl
  simp only[EJ,↓zq,zs,af,zt,bz,cD,dU,hd]
  refine⟨hlen,fun h=>(by simp at h),fun h=>⟨hlen,fun h1=>(by simp at h1),fun h1=>⟨hlen,?_⟩⟩⟩
  refine ak (HB []) ?_
  simp only[↓zq,zs,af,hp]
  refine⟨fun h=>(by simp at h),fun _=>⟨hlen,?_⟩⟩
  refine ak (BE []) ?_
  simp only[↓zq,zs,af,hq]
  refine⟨fun h=>(by simp at h),fun _=>?_⟩
  refine ak (wo (.list l) [43]) ?_
  match l,hok,hl with
  |
   [x,y,z],hok,hl =>
   simp only[E.je]at hl
   obtain⟨ok1,ok2,ok3,_⟩:=hok
   have iy:=CY y ar a ok2 ha (by omega)
   have iz:=CY z ar a ok3 ha (by omega)
   have hds:((E.list [x,y,z]).cn.deref.drop 1).headD .any=.sl [[x.cn],[y.cn],[z.cn]]:=rfl
   have hdl:1<=((E.list [x,y,z]).cn.deref.drop 1).length:=by simp[E.cn,ju]
   have hxd:=nh x
   have hxl:=lf x
   have hyd:=nh y
   have hyl:=lf y
   have bin:∀(c:UInt8) (mkT:Ty->Ty->Ty),(∀t u:Ty,(mkT t u).av=.ptr [.v (.int .u8 (c.toNat:Int)),.v (.string (mk [])),.v (.int .i64 0),t.av,u.av])->x.at=[c]->bt (mk x.at) 0=(c.toNat:Int):=fun c _ _ hx=>by
    have:=lH x.at 0 (by rw[hx];simp)
    simp only[cC,cS]at this
    rw[this,hx];rfl
   simp only[↓zq,zs,af,zt,hds,hdl,cD,dU,toNat_one,bq,hxd,hyd,qc]
   refine⟨fun hx=>?_,fun hx=>?_⟩
   ·refine⟨by omega,by omega,?_⟩
    refine ak iy ?_
    simp only[↓zq,zs,af,fH]
    refine⟨by omega,by omega,?_⟩
    refine ak iz ?_
    have hb:=bin 43 Ty.plus (fun _ _=>rfl) hx
    rw[kq ar hx]
    simp only[↓zq,zs,af,zt,fH]
    cases h1:cB y ar with
    |none=>simp[gK,iC]
    |
     some t =>
     cases h2:cB z ar with
     |none=>simp[gK,iC,fk]
     |
      some u =>
      simp only[gK,fk,hb]
      refine⟨fun h=>(by cases h),fun _=>⟨fun h=>(by cases h),fun _=>⟨by omega,by omega,hxl,⟨by omega,by rw[hx];simp⟩,rfl⟩⟩⟩
   ·refine ak (wo (.list [x,y,z]) [42]) ?_
    simp only[↓zq,zs,af,hds,hdl,cD,dU,toNat_one,bq,hxd,hyd,qc]
    refine⟨fun hx2=>?_,fun hx2=>?_⟩
    ·refine⟨by omega,by omega,?_⟩
     refine ak iy ?_
     simp only[↓zq,zs,af,fH]
     refine⟨by omega,by omega,?_⟩
     refine ak iz ?_
     have hb:=bin 42 Ty.times (fun _ _=>rfl) hx2
     rw[jS ar hx2]
     simp only[↓zq,zs,af,zt,fH]
     cases h1:cB y ar with
     |none=>simp[gK,iC]
     |
      some t =>
      cases h2:cB z ar with
      |none=>simp[gK,iC,fk]
      |
       some u =>
       simp only[gK,fk,hb]
       refine⟨fun h=>(by cases h),fun _=>⟨fun h=>(by cases h),fun _=>⟨by omega,by omega,hxl,⟨by omega,by rw[hx2];simp⟩,rfl⟩⟩⟩
    ·refine ak (wo (.list [x,y,z]) [114,101,99]) ?_
     simp only[↓zq,zs,af,zt,hds,hdl,cD,dU,toNat_one,bq,hxd,hyd,qc]
     refine⟨fun hx3=>⟨by omega,by omega,hyl,?_⟩,fun hx3=>?_⟩
     ·refine ak (BE y.at) ?_
      rw[l9 ar hx3]
      simp only[↓zq,zs,af]
      have hal:cx 1 a.elems:=by rw[ha.2];exact j2 ar
      have hal1:cx 1 [[AV.v (.string (mk y.at))]]:=fun c hc=>by simp at hc;rw[hc];rfl
      refine⟨fun hlo=>⟨by omega,by omega,⟨ha.1,hal,by rw[ha.len];omega⟩,by omega,by omega,hyl,⟨hal1,by rw[ba,ha.len];omega⟩,?_⟩,fun hlo=>?_⟩
      ·rw[ba,ha.2,DO,if_pos hlo]
       refine ak (CY z (ar++[y.at]) _ ok3 (.of _) (by simp;omega)) ?_
       simp only[↓zq,zs,af,fH]
       cases h2:cB z (ar++[y.at])with
       |none=>simp[gK,iC]
       |
        some u =>
        simp only[gK,fk]
        refine⟨fun h=>(by cases h),fun _=>rfl⟩
      ·rw[if_neg (by rw[hlo];simp)];rfl
     ·rw[iO ar hx hx2 hx3];rfl
  |
   [],_,_ =>
   simp only[↓zq,zs,af]
   refine⟨fun h=>(by cases h),fun _=>?_⟩
   refine ak (wo (.list []) [42]) ?_
   simp only[↓zq,zs,af]
   refine⟨fun h=>(by cases h),fun _=>?_⟩
   refine ak (wo (.list []) [114,101,99]) ?_
   simp only[↓zq,zs,af]
   refine⟨fun h=>(by cases h),fun _=>?_⟩
   rfl
  |
   [x1],_,_ =>
   simp only[↓zq,zs,af]
   refine⟨fun h=>(by cases h),fun _=>?_⟩
   refine ak (wo (.list [x1]) [42]) ?_
   simp only[↓zq,zs,af]
   refine⟨fun h=>(by cases h),fun _=>?_⟩
   refine ak (wo (.list [x1]) [114,101,99]) ?_
   simp only[↓zq,zs,af]
   refine⟨fun h=>(by cases h),fun _=>?_⟩
   rfl
  |
   [x1,x2],_,_ =>
   simp only[↓zq,zs,af]
   refine⟨fun h=>(by cases h),fun _=>?_⟩
   refine ak (wo (.list [x1,x2]) [42]) ?_
   simp only[↓zq,zs,af]
   refine⟨fun h=>(by cases h),fun _=>?_⟩
   refine ak (wo (.list [x1,x2]) [114,101,99]) ?_
   simp only[↓zq,zs,af]
   refine⟨fun h=>(by cases h),fun _=>?_⟩
   rfl
  |
   x1::x2::x3::x4::l,_,_ =>
   simp only[↓zq,zs,af]
   refine⟨fun h=>(by cases h),fun _=>?_⟩
   refine ak (wo (.list (x1::x2::x3::x4::l)) [42]) ?_
   simp only[↓zq,zs,af]
   refine⟨fun h=>(by cases h),fun _=>?_⟩
   refine ak (wo (.list (x1::x2::x3::x4::l)) [114,101,99]) ?_
   simp only[↓zq,zs,af]
   refine⟨fun h=>(by cases h),fun _=>?_⟩
   rfl
end Go.Proofs.Trees
namespace Go.Proofs.Trees
open Go Go.VL
def cY(v:AV)(obs:List Ob):AV->List Ob->Prop:=fun r o=>r=v/\o=obs
theorem aY{P:Program}{n:Nat}{Q:Nat->List AV->List Ob->Prop}{f:Nat}{xs:List AV}{ins:List Ob}{k:AV->List Ob->Tree}{v:AV}{obs:List Ob}(h:aq P f xs ins (cY v obs))(hk:eK P n (k v obs) Q):eK P n (.call f xs ins k) Q :=
 ⟨cY v obs,h,⟨v,obs,rfl,rfl⟩,fun r o ⟨h1,h2⟩=>by rw[h1,h2];exact hk⟩
def Ty.atoms:Ty->Nat
 | .plus a b=>1+a.atoms+b.atoms
 | .times a b=>1+a.atoms+b.atoms
 | .rc a=>2+a.atoms
 |_=>1
theorem Dl:∀(t:Ty),t.atoms<1000000->aq Tryz.prog 75 [t.av] [] (bz (.v (.int .i64 (t.atoms:Int))))
 | .zero,h=>by refine vn _ ((aE _).mpr trivial) ?_;simp[Db,Ty.av,↓zq,zs,af,bz,Ty.atoms]
 | .one,h=>by refine vn _ ((aE _).mpr trivial) ?_;simp[Db,Ty.av,↓zq,zs,af,bz,Ty.atoms]
 | .name s,h=>by refine vn _ ((aE _).mpr trivial) ?_;simp[Db,Ty.av,↓zq,zs,af,bz,Ty.atoms]
 | .bound u,h=>by refine vn _ ((aE _).mpr trivial) ?_;simp[Db,Ty.av,↓zq,zs,af,bz,Ty.atoms]
 |
  .plus a b,h=>by
  simp only[Ty.atoms]at h
  refine vn _ ((aE _).mpr trivial) ?_
  simp only[Db,Ty.av,↓zq,zs,af,aE]
  refine⟨by omega,fun _=>⟨by omega,?_⟩,fun h=>absurd rfl h⟩
  refine ak (Dl a (by omega)) ?_
  simp only[↓zq,zs,af,aE]
  refine⟨by omega,?_⟩
  refine ak (Dl b (by omega)) ?_
  simp only[↓zq,zs,af,bz,Ty.atoms]
  rw[wrap64 (1+(a.atoms:Int)) (by omega) (by omega),wrap64 _ (by omega) (by omega)]
  congr 2
 |
  .times a b,h=>by
  simp only[Ty.atoms]at h
  refine vn _ ((aE _).mpr trivial) ?_
  simp only[Db,Ty.av,↓zq,zs,af,aE]
  refine⟨by omega,fun h=>by omega,fun _=>⟨fun _=>⟨by omega,?_⟩,fun h=>absurd rfl h⟩⟩
  refine ak (Dl a (by omega)) ?_
  simp only[↓zq,zs,af,aE]
  refine⟨by omega,?_⟩
  refine ak (Dl b (by omega)) ?_
  simp only[↓zq,zs,af,bz,Ty.atoms]
  rw[wrap64 (1+(a.atoms:Int)) (by omega) (by omega),wrap64 _ (by omega) (by omega)]
  congr 2
 |
  .rc a,h=>by
  simp only[Ty.atoms]at h
  refine vn _ ((aE _).mpr trivial) ?_
  simp only[Db,Ty.av,↓zq,zs,af,aE]
  refine⟨by omega,fun h=>by omega,fun _=>⟨fun h=>by omega,fun _=>⟨fun _=>⟨by omega,?_⟩,fun h=>absurd rfl h⟩⟩⟩
  refine ak (Dl a (by omega)) ?_
  simp only[↓zq,zs,af,bz,Ty.atoms]
  rw[wrap64 _ (by omega) (by omega)]
  congr 2
theorem im:∀(e:E) (ar:List (List UInt8)) (t:Ty),cB e ar=some t->t.atoms<=e.sz
 |
  .atom s,ar,t,h=>by
  simp only[cB]at h
  simp only[E.sz]
  split at h
  ·cases h;simp[Ty.atoms]
  ·split at h
   ·cases h;simp[Ty.atoms]
   ·split at h
    ·cases h;simp[Ty.atoms]
    ·split at h
     ·split at h<;>cases h<;>simp[Ty.atoms]
     ·cases h
 |
  .list [x,a,b],ar,t,h=>by
  have hs:∀e:E,1<=e.sz:=fun e=>by cases e<;>simp[E.sz];try omega
  have hx:=hs x
  have ha:=hs a
  simp only[E.sz,E.je]
  by_cases h1:x.at=[43]
  ·rw[kq ar h1]at h
   split at h
   ·rename_i t1 t2 e1 e2
    cases h
    have:=im a ar t1 e1
    have:=im b ar t2 e2
    simp only[Ty.atoms];omega
   ·cases h
  ·by_cases h2:x.at=[42]
   ·rw[jS ar h2]at h
    split at h
    ·rename_i t1 t2 e1 e2
     cases h
     have:=im a ar t1 e1
     have:=im b ar t2 e2
     simp only[Ty.atoms];omega
    ·cases h
   ·by_cases h3:x.at=[114,101,99]
    ·rw[l9 ar h3]at h
     split at h
     ·split at h
      ·rename_i t1 e1
       cases h
       have:=im b _ t1 e1
       simp only[Ty.atoms];omega
      ·cases h
     ·cases h
    ·rw[iO ar h1 h2 h3]at h;cases h
 | .list [],_,_,h=>by cases h
 | .list [_],_,_,h=>by cases h
 | .list [_,_],_,_,h=>by cases h
 | .list (_::_::_::_::_),_,_,h=>by cases h
def so(s:List UInt8):Option Ty:=match pZ s with
 |none=>none
 |
  some e=>match cB e []with
  |none=>none
  |some t=>if t.atoms>400 then none else some t
theorem FG(s:List UInt8):aq Tryz.prog 38 [.v (.string (mk s))] [] (bz (gK (so s))):=by
 refine OZ _ ?_
 unfold J6
 refine ak (Ip s) ?_
 unfold so
 cases he:pZ s with
 |none=>simp only[sQ,↓zq,zs,af,bz,gK];simp
 |
  some e =>
  obtain⟨h1,h2⟩:=nj he
  simp only[sQ,↓zq,zs,af,cD,dU]
  refine⟨fun h=>(by cases h),fun _=>?_⟩
  refine ak (CY e [] _ h1 .nil (by simp;omega)) ?_
  cases ht:cB e []with
  |none=>simp only[gK,↓zq,zs,af,bz];simp
  |
   some t =>
   have:=im e [] t ht
   simp only[gK,↓zq,zs,af,aE,fk]
   refine⟨fun h=>(by cases h),fun _=>?_⟩
   refine ak (Dl t (by omega)) ?_
   simp only[↓zq,zs,af,bz]
   refine⟨fun h=>?_,fun h=>?_⟩
   ·rw[if_pos (by omega)]
   ·rw[if_neg (by omega)]
end Go.Proofs.Trees
namespace Go.Proofs.Trees
open Go Go.VL
def zi(p:Prop):Nat->List AV->List Ob->Prop:=fun t ys o=>(t=1/\¬p/\ys=[]/\o=[])\/(t=2/\p/\∃j:Nat,ys=[.v (.int .i64 (j:Int))]/\o=[])
theorem IP(l:List (List UInt8))(a:AV)(ha:dG a l)(s:List UInt8)(hl:l.length<1000000):∀(k i:Nat),i+k=l.length->s∉l.take i->FA [a,.v (.string (mk s)),.v (.int .i64 (l.length:Int)),.v (.int .i64 (i:Int))] []
 (zi (s∈l))
 |
  0,i,hi,hn=>by
  refine JY _ _ _ _ ?_
  simp only[FD,↓zq,zs,af]
  have:l.take i=l:=List.take_of_length_le (by omega)
  rw[this]at hn
  exact⟨ha.1,fun h=>by omega,fun _=>.inl ⟨rfl,hn,rfl,rfl⟩⟩
 |
  k+1,i,hi,hn=>by
  have hlt:i<l.length:=by omega
  refine JY _ _ _ _ ?_
  simp only[FD,↓zq,zs,af,zt,ha.len,ha.idx hlt]
  have hm:l.getD i []∈l:=by simp[aa,hlt]
  refine⟨ha.1,fun _=>⟨⟨ha.1,by omega,by omega⟩,by omega,fun h=>?_,fun h=>?_⟩,fun h=>by omega⟩
  ·exact .inr ⟨rfl,by rw[h];exact hm,i,rfl,rfl⟩
  ·rw[bw i (by omega)]
   refine IP l a ha s hl k (i+1) (by omega) ?_
   rw[List.take_add_one]
   simp only[aK,not_or]
   refine⟨hn,?_⟩
   have:l[i]?=some (l.getD i []):=by simp[aa,hlt]
   rw[this];simpa using h
theorem Kj(l:List (List UInt8))(a:AV)(ha:dG a l)(s:List UInt8)(hl:l.length<1000000):aq Tryz.prog 124 [a,.v (.string (mk s))] [] (bz (.v (.bool (decide (s∈l))))):=by
 have hI:aq Tryz.prog 149 [a,.v (.string (mk s))] [] (fun r o=>∃n:Int,r=.v (.int .i64 n)/\(0<=n↔s∈l)/\o=[]):=by
  refine MV _ _ ha.1 ?_
  simp only[JX,↓zq,zs,af,ha.len]
  refine⟨ha.1,nF (IP l a ha s hl l.length 0 (by omega) (by simp)) ?_ ?_⟩
  ·rintro ys o (⟨_,h1,rfl,rfl⟩|⟨h,_⟩)
   ·simp only[↓zq,zs,af]
    exact⟨-1,rfl,⟨fun h=>(by omega),fun h=>absurd h h1⟩⟩
   ·cases h
  ·rintro ys o (⟨h,_⟩|⟨_,h1,j,rfl,rfl⟩)
   ·cases h
   ·simp only[↓zq,zs,af]
    exact⟨j,rfl,⟨fun _=>h1,fun _=>(by omega)⟩⟩
 refine Mh _ _ ha.1 ?_
 unfold JK
 refine aQ hI ⟨.v (.int .i64 (if s∈l then 0 else -1)),[],_,rfl,by split<;>simp_all,rfl⟩ ?_
 rintro r o ⟨n,rfl,hn,rfl⟩
 simp only[↓zq,zs,af,bz]
 congr 2
 rw[cr];simp[hn]
def oI(out:List (List UInt8)):Ty->List (List UInt8)
 | .name s=>if s∈out then out else out++[s]
 |_=>out
theorem vt(t:Ty)(out:List (List UInt8))(hl:out.length<100000):aq Tryz.prog 148 [t.av,.ref 0 0] [.cells [.vec 1],.vec 1 (cg out)] (cY .any [.cells [.vec 1],.vec 1 (cg (oI out t))]):=by
 refine N0 _ _ ((aE _).mpr trivial) ?_
 have hlen:(cg out).length=out.length:=by simp[cg]
 cases t with
 |
  name s =>
  simp only[DS,Ty.av,↓zq,zs,af,cY,hlen]
  refine⟨by omega,fun _=>⟨by omega,?_⟩,fun h=>absurd rfl h⟩
  refine ak (Kj out _ (.of out) s (by omega)) ?_
  simp only[↓zq,zs,af,oI]
  refine⟨fun h=>⟨by omega,⟨fun c hc=>(by simp at hc;rw[hc];rfl),by omega⟩,?_⟩,fun h=>?_⟩
  ·rw[DO,if_neg h]
  ·rw[if_pos h]
 |_=>simp[DS,Ty.av,↓zq,zs,af,cY,oI]
def bL:Ty->List (List UInt8)->List (List UInt8)
 | .name s,out=>oI out (.name s)
 | .plus a b,out=>bL b (bL a out)
 | .times a b,out=>bL b (bL a out)
 | .rc a,out=>bL a out
 |_,out=>out
theorem eF:∀(t:Ty) (out:List (List UInt8)),(bL t out).length<=out.length+t.atoms
 | .name s,out=>by simp only[bL,oI,Ty.atoms];split<;>simp
 |
  .plus a b,out=>by
  have:=eF a out
  have:=eF b (bL a out)
  simp only[bL,Ty.atoms];omega
 |
  .times a b,out=>by
  have:=eF a out
  have:=eF b (bL a out)
  simp only[bL,Ty.atoms];omega
 |
  .rc a,out=>by
  have:=eF a out
  simp only[bL,Ty.atoms];omega
 | .zero,out=>by simp[bL]
 | .one,out=>by simp[bL]
 | .bound u,out=>by simp[bL]
theorem yD:∀(t:Ty) (out:List (List UInt8)),out.length+t.atoms<100000->aq Tryz.prog 147 [t.av,.fn 148 [.ref 0 0]] [.cells [.vec 1],.vec 1 (cg out)] (cY .any [.cells [.vec 1],.vec 1 (cg (bL t out))])
 |
  .plus a b,out,hl=>by
  simp only[Ty.atoms]at hl
  have:=eF a out
  refine vj _ _ ((aE _).mpr trivial) ?_
  unfold Dx
  refine aY (vt (.plus a b) out (by omega)) ?_
  simp only[Ty.av,↓zq,zs,af,aE,fk,oI,aM,cY]
  refine⟨by omega,fun _=>⟨by omega,?_⟩,fun h=>(by cases h)⟩
  refine aY (yD a out (by omega)) ?_
  simp only[↓zq,zs,af,aE,fk,aM]
  refine⟨by omega,fun _=>⟨by omega,?_⟩,fun h=>(by cases h)⟩
  refine aY (yD b (bL a out) (by omega)) ?_
  simp only[↓zq,zs,af,aM,bL]
 |
  .times a b,out,hl=>by
  simp only[Ty.atoms]at hl
  have:=eF a out
  refine vj _ _ ((aE _).mpr trivial) ?_
  unfold Dx
  refine aY (vt (.times a b) out (by omega)) ?_
  simp only[Ty.av,↓zq,zs,af,aE,fk,oI,aM,cY]
  refine⟨by omega,fun _=>⟨by omega,?_⟩,fun h=>(by cases h)⟩
  refine aY (yD a out (by omega)) ?_
  simp only[↓zq,zs,af,aE,fk,aM]
  refine⟨by omega,fun _=>⟨by omega,?_⟩,fun h=>(by cases h)⟩
  refine aY (yD b (bL a out) (by omega)) ?_
  simp only[↓zq,zs,af,aM,bL]
 |
  .rc a,out,hl=>by
  simp only[Ty.atoms]at hl
  refine vj _ _ ((aE _).mpr trivial) ?_
  unfold Dx
  refine aY (vt (.rc a) out (by omega)) ?_
  simp only[Ty.av,↓zq,zs,af,aE,fk,oI,aM,cY]
  refine⟨by omega,fun _=>⟨by omega,?_⟩,fun h=>(by cases h)⟩
  refine aY (yD a out (by omega)) ?_
  simp[↓zq,zs,af,aE,fk,aM,bL]
 |
  .name s,out,hl=>by
  refine vj _ _ ((aE _).mpr trivial) ?_
  unfold Dx
  refine aY (vt (.name s) out (by omega)) ?_
  simp[Ty.av,↓zq,zs,af,aM,cY,bL]
 |
  .zero,out,hl=>by
  refine vj _ _ ((aE _).mpr trivial) ?_
  unfold Dx
  refine aY (vt .zero out (by omega)) ?_
  simp[Ty.av,↓zq,zs,af,aM,cY,bL,oI]
 |
  .one,out,hl=>by
  refine vj _ _ ((aE _).mpr trivial) ?_
  unfold Dx
  refine aY (vt .one out (by omega)) ?_
  simp[Ty.av,↓zq,zs,af,aM,cY,bL,oI]
 |
  .bound u,out,hl=>by
  refine vj _ _ ((aE _).mpr trivial) ?_
  unfold Dx
  refine aY (vt (.bound u) out (by omega)) ?_
  simp[Ty.av,↓zq,zs,af,aM,cY,bL,oI]
theorem Je(t:Ty)(hl:t.atoms<100000):aq Tryz.prog 122 [t.av] [] (bz (.sl (cg (bL t [])))):=by
 refine MG _ ((aE _).mpr trivial) ?_
 unfold KT
 refine aY (yD t [] (by simpa using hl)) ?_
 simp[↓zq,zs,af,aM,bz]
theorem Lm(l:List (List UInt8))(a:AV)(ha:dG a l)(hl:l.length<1000000):∀(k i:Nat),i+k=l.length->(∀s,s∈l.take i->cP s=false)->FT [a,.v (.func (.func 118) #[] #[]),.v (.int .i64 (l.length:Int)),.v (.int .i64 (i:Int))] []
 (zi (l.any cP=true))
 |
  0,i,hi,hn=>by
  refine H7 _ _ _ ?_
  simp only[Gx,↓zq,zs,af]
  have:l.take i=l:=List.take_of_length_le (by omega)
  rw[this]at hn
  exact⟨ha.1,fun h=>by omega,fun _=>.inl ⟨rfl,fun hh=>(by obtain⟨x,hx,hy⟩:=bY.1 hh;rw[hn x hx]at hy;cases hy),rfl,rfl⟩⟩
 |
  k+1,i,hi,hn=>by
  have hlt:i<l.length:=by omega
  refine H7 _ _ _ ?_
  simp only[Gx,↓zq,zs,af,zt,ha.len,ha.idx hlt]
  have hm:l.getD i []∈l:=by simp[aa,hlt]
  refine⟨ha.1,fun _=>⟨⟨ha.1,by omega,by omega⟩,by omega,?_⟩,fun h=>by omega⟩
  refine ak (BE _) ?_
  simp only[↓zq,zs,af]
  refine⟨fun h=>?_,fun h=>?_⟩
  ·exact .inr ⟨rfl,bY.2 ⟨_,hm,h⟩,i,rfl,rfl⟩
  ·rw[bw i (by omega)]
   refine Lm l a ha hl k (i+1) (by omega) ?_
   intro s hs
   rw[List.take_add_one]at hs
   have:l[i]?=some (l.getD i []):=by simp[aa,hlt]
   rw[this]at hs
   rcases aK.1 hs with hs|hs
   ·exact hn s hs
   ·simp at hs;rw[hs];simpa using h
theorem Mk(l:List (List UInt8))(a:AV)(ha:dG a l)(hl:l.length<1000000):aq Tryz.prog 150 [a,.v (.func (.func 118) #[] #[])] [] (bz (.v (.bool (l.any cP)))):=by
 have hI:aq Tryz.prog 160 [a,.v (.func (.func 118) #[] #[])] [] (fun r o=>∃n:Int,r=.v (.int .i64 n)/\(0<=n↔l.any cP=true)/\o=[]):=by
  refine Oi _ ha.1 ?_
  simp only[K4,↓zq,zs,af,ha.len]
  refine⟨ha.1,nF (Lm l a ha hl l.length 0 (by omega) (by simp)) ?_ ?_⟩
  ·rintro ys o (⟨_,h1,rfl,rfl⟩|⟨h,_⟩)
   ·simp only[↓zq,zs,af]
    exact⟨-1,rfl,⟨fun h=>(by omega),fun h=>absurd h h1⟩⟩
   ·cases h
  ·rintro ys o (⟨h,_⟩|⟨_,h1,j,rfl,rfl⟩)
   ·cases h
   ·simp only[↓zq,zs,af]
    exact⟨j,rfl,⟨fun _=>h1,fun _=>(by omega)⟩⟩
 refine O0 _ ha.1 ?_
 unfold Hb
 refine aQ hI ⟨.v (.int .i64 (if l.any cP=true then 0 else -1)),[],_,rfl,by split<;>simp_all,rfl⟩ ?_
 rintro r o ⟨n,rfl,hn,rfl⟩
 simp only[↓zq,zs,af,bz]
 congr 2
 rw[cr];simp only[decide_eq_true_eq,ge_iff_le,hn]
def Ty.closed(t:Ty):Bool:=!((bL t []).any cP)
theorem O1(t:Ty)(hl:t.atoms<100000):aq Tryz.prog 125 [t.av] [] (bz (.v (.bool t.closed))):=by
 refine OM _ ((aE _).mpr trivial) ?_
 unfold G7
 refine ak (Je t hl) ?_
 simp only[↓zq,zs,af]
 have:=eF t []
 refine ak (Mk _ _ (.of _) (by simp at this;omega)) ?_
 simp only[↓zq,zs,af,bz,Ty.closed]
def vP(s:List UInt8):Option Ty:=match so s with
 |none=>none
 |some t=>if t.closed=true then some t else none
theorem rV{s:List UInt8}{t:Ty}(h:so s=some t):t.atoms<=400:=by
 unfold so at h
 split at h
 ·cases h
 ·split at h
  ·cases h
  ·split at h<;>cases h
   omega
theorem Hm(s:List UInt8):aq Tryz.prog 82 [.v (.string (mk s))] [] (bz (gK (vP s))):=by
 refine Nd _ ?_
 unfold Ho
 refine ak (FG s) ?_
 unfold vP
 cases ht:so s with
 |none=>simp[gK,↓zq,zs,af,bz]
 |
  some t =>
  have:=rV ht
  simp only[gK,↓zq,zs,af,aE,fk]
  refine⟨fun h=>(by cases h),fun _=>?_⟩
  refine ak (O1 t (by omega)) ?_
  simp only[↓zq,zs,af,bz]
  refine⟨fun h=>?_,fun h=>?_⟩
  ·rw[if_neg (by rw[h];simp)]
  ·rw[if_pos h]
theorem ir(l:List (List UInt8)):∀x,x∈[Ob.vec 1 (cg l)]->jn x:=by
 intro x hx
 simp only[aR]at hx
 subst hx
 intro e he c hc
 simp only[cg,cd]at he
 obtain⟨k,_,rfl⟩:=he
 simp only[aR]at hc
 exact⟨_,hc⟩
end Go.Proofs.Trees
namespace Go.Proofs.Trees
open Go Go.VL Go.RowKit
abbrev Nm:=List UInt8
def dM(u:Ty):Ty->Nat->Ty
 | .bound k,i=>if k=i then u else .bound k
 | .plus a b,i=>.plus (dM u a i) (dM u b i)
 | .times a b,i=>.times (dM u a i) (dM u b i)
 | .rc a,i=>.rc (dM u a (i+1))
 |t,_=>t
def sub(x:Nm)(u:Ty):Ty->Ty
 | .name s=>if s=x then u else .name s
 | .plus a b=>.plus (sub x u a) (sub x u b)
 | .times a b=>.times (sub x u a) (sub x u b)
 | .rc a=>.rc (sub x u a)
 |t=>t
def bg(x:Nm):Ty->Bool
 | .name s=>decide (s=x)
 | .plus a b=>bg x a||bg x b
 | .times a b=>bg x a||bg x b
 | .rc a=>bg x a
 |_=>false
def jt(f:Nm->Nm):Ty->Ty
 | .name s=>.name (f s)
 | .plus a b=>.plus (jt f a) (jt f b)
 | .times a b=>.times (jt f a) (jt f b)
 | .rc a=>.rc (jt f a)
 |t=>t
def Ie(f:Nm->Nm):Prop:=∀x y,f x=f y->x=y
theorem lj(f:Nm->Nm)(x:Nm):∀(t:Ty) (i:Nat),jt f (dM (.name x) t i)=dM (.name (f x)) (jt f t) i
 | .bound k,i=>by simp only[dM,jt];split<;>rfl
 | .plus a b,i=>by simp only[dM,jt,lj f x a i,lj f x b i]
 | .times a b,i=>by simp only[dM,jt,lj f x a i,lj f x b i]
 | .rc a,i=>by simp only[dM,jt,lj f x a (i+1)]
 | .zero,i=>rfl
 | .one,i=>rfl
 | .name s,i=>rfl
theorem kS{f:Nm->Nm}(hf:Ie f)(x:Nm)(u:Ty):∀t:Ty,jt f (sub x u t)=sub (f x) (jt f u) (jt f t)
 |
  .name s=>by
  simp only[sub,jt]
  by_cases h:s=x
  ·subst h;simp
  ·rw[if_neg h,if_neg fun e=>h (hf _ _ e)];rfl
 | .plus a b=>by simp only[sub,jt,kS hf x u a,kS hf x u b]
 | .times a b=>by simp only[sub,jt,kS hf x u a,kS hf x u b]
 | .rc a=>by simp only[sub,jt,kS hf x u a]
 | .zero=>rfl
 | .one=>rfl
 | .bound k=>rfl
theorem mw{f:Nm->Nm}(hf:Ie f)(x:Nm):∀t:Ty,bg (f x) (jt f t)=bg x t
 | .name s=>by simp only[bg,jt];rw[cr];simp only[decide_eq_true_eq];exact⟨fun e=>hf _ _ e,fun e=>by rw[e]⟩
 | .plus a b=>by simp only[bg,jt,mw hf x a,mw hf x b]
 | .times a b=>by simp only[bg,jt,mw hf x a,mw hf x b]
 | .rc a=>by simp only[bg,jt,mw hf x a]
 | .zero=>rfl
 | .one=>rfl
 | .bound k=>rfl
theorem gz(f:Nm->Nm):∀t:Ty,(jt f t).atoms=t.atoms
 | .plus a b=>by simp only[Ty.atoms,jt,gz f a,gz f b]
 | .times a b=>by simp only[Ty.atoms,jt,gz f a,gz f b]
 | .rc a=>by simp only[Ty.atoms,jt,gz f a]
 | .name s=>rfl
 | .zero=>rfl
 | .one=>rfl
 | .bound k=>rfl
theorem oS{f:Nm->Nm}:∀t:Ty,(∀x,bg x t=true->f x=x)->jt f t=t
 | .name s,h=>by simp only[jt];rw[h s (by simp[bg])]
 | .plus a b,h=>by simp only[jt];rw[oS a fun x hx=>h x (by simp[bg,hx]),oS b fun x hx=>h x (by simp[bg,hx])]
 | .times a b,h=>by simp only[jt];rw[oS a fun x hx=>h x (by simp[bg,hx]),oS b fun x hx=>h x (by simp[bg,hx])]
 | .rc a,h=>by simp only[jt];rw[oS a fun x hx=>h x hx]
 | .zero,_=>rfl
 | .one,_=>rfl
 | .bound k,_=>rfl
theorem fK(x:Nm):∀(t:Ty) (i:Nat),(dM (.name x) t i).atoms=t.atoms
 | .bound k,i=>by simp only[dM];split<;>rfl
 | .plus a b,i=>by simp only[dM,Ty.atoms,fK x a i,fK x b i]
 | .times a b,i=>by simp only[dM,Ty.atoms,fK x a i,fK x b i]
 | .rc a,i=>by simp only[dM,Ty.atoms,fK x a (i+1)]
 | .zero,i=>rfl
 | .one,i=>rfl
 | .name s,i=>rfl
theorem fQ(t:Ty):1<=t.atoms:=by cases t<;>simp only[Ty.atoms]<;>omega
theorem gv(x:Nm)(u:Ty):∀t:Ty,t.atoms<=(sub x u t).atoms
 | .name s=>by simp only[sub];split<;>simp only[Ty.atoms];exact fQ u;omega
 | .plus a b=>by have:=gv x u a;have:=gv x u b;simp only[sub,Ty.atoms];omega
 | .times a b=>by have:=gv x u a;have:=gv x u b;simp only[sub,Ty.atoms];omega
 | .rc a=>by have:=gv x u a;simp only[sub,Ty.atoms];omega
 | .zero=>az _
 | .one=>az _
 | .bound k=>az _
theorem gb{x y:Nm}:∀(t:Ty) (i:Nat),bg y (dM (.name x) t i)=true->y=x\/bg y t=true
 |
  .bound k,i,h=>by
  simp only[dM]at h
  split at h
  ·left;simp only[bg,decide_eq_true_eq]at h;exact h.symm
  ·cases h
 |
  .plus a b,i,h=>by
  simp only[dM,bg,bh]at h |-
  rcases h with h|h
  ·rcases gb a i h with h|h<;>simp[h]
  ·rcases gb b i h with h|h<;>simp[h]
 |
  .times a b,i,h=>by
  simp only[dM,bg,bh]at h |-
  rcases h with h|h
  ·rcases gb a i h with h|h<;>simp[h]
  ·rcases gb b i h with h|h<;>simp[h]
 | .rc a,i,h=>gb a (i+1) h
 | .zero,i,h=>by cases h
 | .one,i,h=>by cases h
 | .name s,i,h=>.inr h
theorem iL{x y:Nm}{u:Ty}:∀t:Ty,bg y (sub x u t)=true->bg y u=true\/(y≠x/\bg y t=true)
 |
  .name s,h=>by
  simp only[sub]at h
  split at h
  ·exact .inl h
  ·rename_i hs
   simp only[bg,decide_eq_true_eq]at h
   subst h
   exact .inr ⟨hs,by simp[bg]⟩
 |
  .plus a b,h=>by
  simp only[sub,bg,bh]at h |-
  rcases h with h|h
  ·rcases iL a h with h|h<;>simp[h]
  ·rcases iL b h with h|h<;>simp[h]
 |
  .times a b,h=>by
  simp only[sub,bg,bh]at h |-
  rcases h with h|h
  ·rcases iL a h with h|h<;>simp[h]
  ·rcases iL b h with h|h<;>simp[h]
 |
  .rc a,h=>by
  simp only[sub,bg]at h |-
  exact iL a h
 | .zero,h=>by cases h
 | .one,h=>by cases h
 | .bound k,h=>by cases h
def swp(x y:Nm):Nm->Nm:=fun s=>if s=x then y else if s=y then x else s
theorem w9(x y:Nm):Ie (swp x y):=by
 intro a b h
 unfold swp at h
 by_cases h1:a=x<;>by_cases h2:a=y<;>by_cases h3:b=x<;>by_cases h4:b=y<;>simp_all
theorem wS(x y:Nm):swp x y x=y:=by simp[swp]
theorem Aw{x y s:Nm}(h:s≠x)(h':s≠y):swp x y s=s:=by simp[swp,h,h']
theorem sH{x y:Nm}{t:Ty}(h:bg x t=false)(h':bg y t=false):jt (swp x y) t=t :=
 oS t fun z hz=>Aw (fun e=>by subst e;rw[h]at hz;cases hz) (fun e=>by subst e;rw[h']at hz;cases hz)
def si(a:Ty)(x:Nm)(c d:Ty):Ty:=.rc (.plus (sub x (.rc a) c) (.times (sub x (.rc a) d) (.bound 0)))
inductive Dv:Ty->Nm->Ty->Prop
 |zero (s):Dv .zero s .zero
 |one (s):Dv .one s .zero
 |bound (k s):Dv (.bound k) s .zero
 |hit (s):Dv (.name s) s .one
 |ql {n s} (h:n≠s):Dv (.name n) s .zero
 |plus {a b s a' b'} (h1:Dv a s a') (h2:Dv b s b') (hl:(Ty.plus a' b').atoms<=400):Dv (.plus a b) s (.plus a' b')
 |times {a b s a' b'} (h1:Dv a s a') (h2:Dv b s b') (hl:(Ty.plus (.times a' b) (.times a b')).atoms<=400):Dv (.times a b) s (.plus (.times a' b) (.times a b'))
 |rc {a s c d} (x:Nm) (hx:bg x a=false) (hs:x≠s) (h1:Dv (dM (.name x) a 0) s c) (h2:Dv (dM (.name x) a 0) x d) (hl:(si a x c d).atoms<=400):Dv (.rc a) s (si a x c d)
theorem wm{f:Nm->Nm}(hf:Ie f)(a:Ty)(x:Nm)(c d:Ty):jt f (si a x c d)=si (jt f a) (f x) (jt f c) (jt f d):=by
 simp only[si,jt,kS hf]
theorem Dv.jt{f:Nm->Nm}(hf:Ie f){t d:Ty}{s:Nm}(h:Dv t s d):Dv (jt f t) (f s) (jt f d):=by
 induction h with
 |zero s=>exact .zero _
 |one s=>exact .one _
 |bound k s=>exact .bound _ _
 |hit s=>exact .hit _
 |ql h=>exact .ql fun e=>h (hf _ _ e)
 |plus h1 h2 hl i1 i2=>exact .plus i1 i2 (by rw[<-gz f]at hl;exact hl)
 |times h1 h2 hl i1 i2=>exact .times i1 i2 (by rw[<-gz f]at hl;exact hl)
 |
  rc x hx hs h1 h2 hl i1 i2 =>
  rw[wm hf]
  rw[lj]at i1 i2
  exact .rc (f x) (by rw[mw hf];exact hx) (fun e=>hs (hf _ _ e)) i1 i2 (by rw[<-wm hf,gz];exact hl)
theorem Dv.names{t d:Ty}{s:Nm}(h:Dv t s d):∀y,bg y d=true->bg y t=true:=by
 induction h with
 |zero s=>intro y hy;cases hy
 |one s=>intro y hy;cases hy
 |bound k s=>intro y hy;cases hy
 |hit s=>intro y hy;cases hy
 |ql h=>intro y hy;cases hy
 |
  plus h1 h2 hl i1 i2 =>
  intro y hy
  simp only[bg,bh]at hy |-
  rcases hy with hy|hy
  ·exact .inl (i1 y hy)
  ·exact .inr (i2 y hy)
 |
  times h1 h2 hl i1 i2 =>
  intro y hy
  simp only[bg,bh]at hy |-
  rcases hy with(hy|hy)|(hy|hy)
  ·exact .inl (i1 y hy)
  ·exact .inr hy
  ·exact .inl hy
  ·exact .inr (i2 y hy)
 |
  rc x hx hs h1 h2 hl i1 i2 =>
  intro y hy
  simp only[si,bg,bh,Bool.or_false]at hy |-
  have key:∀{a c:Ty},(∀y,bg y c=true->bg y (dM (.name x) a 0)=true)->bg y (sub x (.rc a) c)=true->bg y a=true:=fun i h=>by
   rcases iL _ h with h|⟨h,h'⟩
   ·exact h
   ·rcases gb _ _ (i y h')with e|e
    ·exact absurd e h
    ·exact e
  rcases hy with hy|hy
  ·exact key i1 hy
  ·exact key i2 hy
theorem Dv.fresh{t d:Ty}{s y:Nm}(h:Dv t s d)(hy:bg y t=false):bg y d=false:=by
 cases e:bg y d with
 |false=>rfl
 |true=>rw[h.names y e]at hy;cases hy
theorem Dv.move{a c:Ty}{x y s:Nm}(hx:bg x a=false)(hy:bg y a=false)(h:Dv (dM (.name x) a 0) s c):Dv (dM (.name y) a 0) (swp x y s) (Go.Proofs.Trees.jt (swp x y) c):=by
 have:=h.jt (w9 x y)
 rw[lj,wS,sH hx hy]at this
 exact this
theorem nu{a c:Ty}{x y s:Nm}(hx:bg x a=false)(hy:bg y a=false)(h:Dv (dM (.name x) a 0) s c):sub y (.rc a) (jt (swp x y) c)=sub x (.rc a) c:=by
 have e:=kS (w9 x y) x (.rc a) c
 rw[wS,sH (t:=.rc a) hx hy]at e
 rw[<-e]
 have key:∀z,(z=x\/z=y)->bg z (sub x (.rc a) c)=false:=fun z hz=>by
  cases q:bg z (sub x (.rc a) c)with
  |false=>rfl
  |
   true =>
   exfalso
   have hz':bg z a=false:=by rcases hz with rfl|rfl<;>assumption
   rcases iL _ q with h1|⟨h1,h2⟩
   ·rw[show bg z (.rc a)=bg z a from rfl,hz']at h1;cases h1
   ·rcases gb _ _ (h.names z h2)with e|e
    ·exact h1 e
    ·rw[hz']at e;cases e
 exact sH (key x (.inl rfl)) (key y (.inr rfl))
theorem Dv.uniq:∀(n:Nat) (t:Ty),t.atoms<=n->∀{s:Nm} {d d':Ty},Dv t s d->Dv t s d'->d=d'
 |0,t,h,_,_,_,_,_=>by have:=fQ t;omega
 |
  n+1,t,hn,s,d,d',h,h'=>by
  cases h with
  |zero=>cases h';rfl
  |one=>cases h';rfl
  |bound=>cases h';rfl
  |
   hit =>
   cases h' with
   |hit=>rfl
   |ql h=>exact absurd rfl h
  |
   ql h =>
   cases h' with
   |hit=>exact absurd rfl h
   |ql _=>rfl
  |
   plus h1 h2 =>
   simp only[Ty.atoms]at hn
   cases h' with
   |plus g1 g2=>rw[Dv.uniq n _ (by omega) h1 g1,Dv.uniq n _ (by omega) h2 g2]
  |
   times h1 h2 =>
   simp only[Ty.atoms]at hn
   cases h' with
   |times g1 g2=>rw[Dv.uniq n _ (by omega) h1 g1,Dv.uniq n _ (by omega) h2 g2]
  |
   rc x hx hs h1 h2 =>
   simp only[Ty.atoms]at hn
   cases h' with
   |
    rc y hy hs' g1 g2 =>
    rename_i a _ _ _ _ _ _
    have m1:=h1.move hx hy
    have m2:=h2.move hx hy
    rw[Aw (Ne.symm hs) (Ne.symm hs')]at m1
    rw[wS]at m2
    have e1:=Dv.uniq n _ (by rw[fK];omega) m1 g1
    have e2:=Dv.uniq n _ (by rw[fK];omega) m2 g2
    rw[si,si,<-e1,<-e2,nu hx hy h1,nu hx hy h2]
theorem Dv.small{t d:Ty}{s:Nm}(h:Dv t s d):d.atoms<=400:=by
 cases h<;>first|assumption|simp[Ty.atoms]
open Classical in
noncomputable def oA (t:Ty) (s:Nm):Option Ty:=if h:∃d,Dv t s d then some (Classical.choose h)else none
theorem dC{t:Ty}{s:Nm}{d:Ty}:oA t s=some d↔Dv t s d:=by
 unfold oA
 by_cases h:∃d,Dv t s d
 ·rw[dif_pos h]
  have:=Classical.choose_spec h
  constructor
  ·intro e;cases e;exact this
  ·intro g;rw[Dv.uniq _ t (az _) this g]
 ·rw[dif_neg h]
  exact⟨fun e=>(by cases e),fun g=>absurd ⟨d,g⟩ h⟩
def vm(t:Ty):Option Ty:=if t.atoms<=400 then some t else none
theorem iV{t d:Ty}:vm t=some d↔t.atoms<=400/\t=d:=by
 unfold vm
 split
 ·rename_i h;simp[h]
 ·rename_i h;simp[h]
theorem s5{α:Type}{a b:Option α}(h:∀d,a=some d↔b=some d):a=b:=by
 cases a with
 |
  none=>cases b with
  |none=>rfl
  |some x=>have:=(h x).2 rfl;cases this
 |some x=>exact((h x).1 rfl).symm
theorem zG(s:Nm):oA .zero s=some .zero:=dC.2 (.zero _)
theorem Bv(s:Nm):oA .one s=some .zero:=dC.2 (.one _)
theorem yM(k:Nat)(s:Nm):oA (.bound k) s=some .zero:=dC.2 (.bound _ _)
theorem uj(n s:Nm):oA (.name n) s=some (if n=s then .one else .zero):=by
 split
 ·rename_i h;subst h;exact dC.2 (.hit _)
 ·rename_i h;exact dC.2 (.ql h)
theorem AL(a b:Ty)(s:Nm):oA (.plus a b) s=(oA a s).bind fun a'=>(oA b s).bind fun b'=>vm (.plus a' b'):=by
 refine s5 fun d=>?_
 rw[dC]
 simp only[bx,dC,iV]
 constructor
 ·intro h;cases h with|plus h1 h2 hl=>exact⟨_,h1,_,h2,hl,rfl⟩
 ·rintro⟨a',h1,b',h2,hl,rfl⟩;exact .plus h1 h2 hl
theorem xX(a b:Ty)(s:Nm):oA (.times a b) s=(oA a s).bind fun a'=>(oA b s).bind fun b'=>vm (.plus (.times a' b) (.times a b')):=by
 refine s5 fun d=>?_
 rw[dC]
 simp only[bx,dC,iV]
 constructor
 ·intro h;cases h with|times h1 h2 hl=>exact⟨_,h1,_,h2,hl,rfl⟩
 ·rintro⟨a',h1,b',h2,hl,rfl⟩;exact .times h1 h2 hl
theorem GD{a:Ty}{s x:Nm}(hx:bg x a=false)(hs:x≠s):oA (.rc a) s=(oA (dM (.name x) a 0) s).bind fun c=>(oA (dM (.name x) a 0) x).bind fun d=>vm (si a x c d):=by
 refine s5 fun d=>?_
 rw[dC]
 simp only[bx,dC,iV]
 constructor
 ·intro h
  cases h with
  |
   rc y hy hs' h1 h2 hl =>
   have m1:=h1.move hy hx
   have m2:=h2.move hy hx
   rw[Aw (Ne.symm hs') (Ne.symm hs)]at m1
   rw[wS]at m2
   refine⟨_,m1,_,m2,?_⟩
   have e:∀c d,sub x (.rc a) (jt (swp y x) c)=sub y (.rc a) c->sub x (.rc a) (jt (swp y x) d)=sub y (.rc a) d->si a x (jt (swp y x) c) (jt (swp y x) d)=si a y c d:=fun c d e1 e2=>by rw[si,si,e1,e2]
   rw[e _ _ (nu hy hx h1) (nu hy hx h2)]
   exact⟨hl,rfl⟩
 ·rintro⟨c,h1,d',h2,hl,rfl⟩;exact .rc x hx hs h1 h2 hl
noncomputable def u4 (a:Ty) (x:Nm):Option Ty:=(oA (dM (.name x) a 0) x).bind fun d=>vm (sub x (.rc a) d)
end Go.Proofs.Trees
namespace Go.Proofs.Trees
open Go Go.VL
theorem O2(b:UInt8):aq Tryz.prog 141 [.v (.int .u8 (b.toNat:Int))] [] (bz (.v (.bool (eJ b)))):=by
 refine NV _ ?_
 simp only[I7,↓zq,zs,af,bz,eJ]
 repeat' (apply aH<;>intro _)
 all_goals first|(congr 2;rw[cr];simp;omega)|(congr 2;simp;omega)
def CB(s:List UInt8)(x:Option (E×List UInt8)):AV->List Ob->Prop:=fun r o=>o=[] /\
 match x with
 |some (e,u)=>r=.cW [e.kb,.v (.int .i64 ((s.length-u.length:Nat):Int))]
 |none=>∃(c:List UInt8) (d:AV),LK.sl.has d/\r=.cW [.agg [.v (.string (mk c)),d],.v (.int .i64 (-1))]
theorem CB.ne(s:List UInt8)(x:Option (E×List UInt8)):∃r o,CB s x r o:=by
 cases x with
 |some q=>exact⟨_,_,rfl,rfl⟩
 |none=>exact⟨_,_,rfl,[],.v (.slice none 0 0),(bp).mpr trivial,rfl⟩
def jc(c:List UInt8)(d:AV):Ob:=.cells [.v (.string (mk c)),d]
theorem KF(s:List UInt8)(hs:s.length<=8000)(from_:Int)(c1 c2:List UInt8)(d1 d2:AV)(h1:LK.sl.has d1)(h2:LK.sl.has d2):∀(k i:Nat),i+k=s.length->EM [.v (.string (mk s)),.v (.int .i64 (i:Int)),.v (.int .i64 from_)] [jc c1 d1,jc c2 d2]
 (hZ 1 [.v (.string (mk s)),.v (.int .i64 ((i+((s.drop i).takeWhile eJ).length:Nat):Int)),.v (.int .i64 from_)] [jc c1 d1,jc c2 d2])
 |
  0,i,hi=>by
  refine Jq _ _ _ _ _ _ _ ?_
  have hd:s.drop i=[]:=bE (by omega)
  simp only[Gs,↓zq,zs,af,zt]
  exact⟨h1,h2,fun h=>by omega,fun _=>by simp[hZ,hd,jc]⟩
 |
  k+1,i,hi=>by
  have hlt:i<s.length:=by omega
  refine Jq _ _ _ _ _ _ _ ?_
  simp only[Gs,↓zq,zs,af,zt,lH s i hlt]
  refine⟨h1,h2,fun _=>⟨by omega,?_⟩,fun h=>by omega⟩
  refine ak (O2 _) ?_
  simp only[↓zq,zs,af]
  refine⟨fun hb=>?_,fun hb=>?_⟩
  ·rw[bw i (by omega)]
   have:=KF s hs from_ c1 c2 d1 d2 h1 h2 k (i+1) (by omega)
   rw[wJ hlt hb,show i+(((s.drop (i+1)).takeWhile eJ).length+1)=i+1+((s.drop (i+1)).takeWhile eJ).length by omega]
   exact this
  ·simp[hZ,pY hlt hb,jc]
def PB(s:List UInt8)(x:Option (E×List UInt8)):Nat->List AV->List Ob->Prop:=fun t ys o=>t=2 /\
 match x with
 |some (e,u)=>∃l,e=.list l/\ys=[.v (.int .i64 ((s.length-u.length:Nat):Int))]/\o=[jc [] .any,.vec 2 (E.bf l)]
 |none=>∃es,ys=[.v (.int .i64 (-1))]/\o=[jc [] .any,.vec 2 es]
theorem wT(e:E):(e.kb=.agg e.kb.cs/\e.kb.cs.length=2/\bO [.str,.sl] e.kb.cs 0)=True:=by
 apply eq_true
 cases e<;>simp[E.kb,E.gR,Ba,bO,eX,bp,ck]
theorem vz(e:E):[AV.v (.string ((e.kb.cs.getD 0 .any).toStr)),e.kb.cs.getD 1 .any]=e.gR:=by
 cases e<;>rfl
theorem drop_cons{s:List UInt8}{j:Nat}(hj:j<s.length):s.drop j=s.getD j 0::s.drop (j+1):=by
 rw[aV hj];simp[aa,hj]
theorem Ij(s:List UInt8)(hs:s.length<=8000)(d:Nat)(hd:d<=300)(f:List UInt8->Option (E×List UInt8))(hf:∀u e r,f u=some (e,r)->∃j,r=u.drop j/\0<j/\j<=u.length)
 (ih:∀j,j<=s.length->aq Tryz.prog 104 [.v (.string (mk s)),.v (.int .i64 (j:Int)),.v (.int .i64 ((d+1:Nat):Int))] [] (CB s (f (s.drop j)))) :
 ∀(n i:Nat) (acc:List E) (c1:List UInt8) (d1:AV),LK.sl.has d1->s.length-(i+1)<n->i<s.length->s.length-i+acc.length<=8001->FQ [.v (.string (mk s)),.v (.int .i64 (i:Int)),.v (.int .i64 (d:Int))] [jc c1 d1,jc [] .any,.vec 2 (E.bf acc)]
  (PB s (qZ f n (s.drop (i+1)) acc))
 |0,i,acc,c1,d1,h1,hn,_,_=>by omega
 |
  n+1,i,acc,c1,d1,h1,hn,hi,hl=>by
  refine MW _ _ _ _ _ _ _ ?_
  simp only[Lv,↓zq,zs,af,jc]
  refine⟨h1,?_⟩
  rw[bw i (by omega),bw d (by omega)]
  refine aQ (ih (i+1) (by omega)) (CB.ne _ _) ?_
  rintro r o ⟨rfl,hr⟩
  have hff:=hf (s.drop (i+1))
  unfold qZ
  cases hq:f (s.drop (i+1))with
  |
   none =>
   rw[hq]at hr
   obtain⟨c,d',hd',rfl⟩:=hr
   simp only[↓zq,zs,af,zt,bO]
   refine⟨hd',fun _=>⟨rfl,_,rfl,rfl⟩,fun h=>by omega⟩
  |
   some q =>
   obtain⟨e,u⟩:=q
   rw[hq]at hr
   subst hr
   obtain⟨j,hu,hj0,hj⟩:=hff e u hq
   rw[List.drop_drop]at hu
   simp only[ca]at hj
   have hul:u.length=s.length-(i+1+j):=by rw[hu,ca]
   have hpos:s.length-u.length=i+1+j:=by omega
   simp only[↓zq,zs,af,zt,wT,hpos,vz,dN]
   refine⟨fun h=>by omega,fun _=>⟨fun h=>?_,fun h=>⟨⟨fun c hc=>(by simp at hc;rw[hc];cases e<;>rfl),by omega⟩,?_⟩⟩⟩
   ·have:u=[]:=by rw[hu];exact bE (by omega)
    subst this
    exact⟨rfl,_,rfl,rfl⟩
   ·have hlt:i+1+j<s.length:=by omega
    rw[drop_cons hlt]at hu
    subst hu
    rw[lH s _ hlt]
    generalize hb:s.getD (i+1+j) 0=b
    refine⟨by omega,fun h41=>?_,fun h41=>⟨by omega,fun h32=>?_,fun h32=>?_⟩⟩
    ·have h41':b.toNat=41:=by omega
     dsimp only
     rw[if_pos h41',bw _ (by omega)]
     refine⟨rfl,acc++[e],rfl,?_,?_⟩
     ·rw[ca];congr 3;omega
     ·simp[jc,pF,E.bf]
    ·have h41':¬b.toNat=41:=by omega
     have h32':¬b.toNat=32:=by omega
     dsimp only
     rw[if_neg h41',if_neg h32']
     exact⟨rfl,_,rfl,rfl⟩
    ·have h41':¬b.toNat=41:=by omega
     have h32':b.toNat=32:=by omega
     dsimp only
     rw[if_neg h41',if_pos h32']
     have:=Ij s hs d hd f hf ih n (i+1+j) (acc++[e]) c1 d1 h1 (by omega) hlt (by simp;omega)
     simpa[jc,pF,E.bf]using this
theorem CG(k:Nat)(u:List UInt8)(e:E)(r:List UInt8)(h:rd k u=some (e,r)):∃j,r=u.drop j/\0<j/\j<=u.length:=by
 have suf:∀(k:Nat) (u:List UInt8) (e:E) (r:List UInt8),rd k u=some (e,r)->r <:+ u:=by
  intro k
  have tw:∀u:List UInt8,u.dropWhile eJ <:+ u:=fun u=>List.dropWhile_suffix _
  have ll:∀(f:List UInt8->Option (E×List UInt8)),(∀u e r,f u=some (e,r)->r <:+ u)->∀(n:Nat) (u:List UInt8) (acc:List E) (e:E) (r:List UInt8),qZ f n u acc=some (e,r)->r <:+ u:=by
   intro f hf n
   induction n with
   |zero=>intro u acc e r h;cases h
   |
    succ n ih =>
    intro u acc e r h
    simp only[qZ]at h
    split at h
    ·rename_i p c r' hs
     have h1:r' <:+ u:=(List.suffix_cons c r').trans (hf _ _ _ hs)
     split at h
     ·cases h;exact h1
     ·split at h
      ·exact(ih _ _ _ _ h).trans h1
      ·cases h
    ·cases h
  induction k with
  |
   zero =>
   intro u e r h
   simp only[rd]at h
   split at h
   ·cases h
   ·cases h;exact tw u
  |
   succ k ih =>
   intro u e r h
   simp only[rd]at h
   split at h
   ·split at h
    ·split at h
     ·exact(ll _ ih _ _ _ _ _ h).trans (List.suffix_cons _ _)
     ·cases h
    ·cases h
   ·cases h;exact tw u
 obtain⟨p,hp⟩:=suf k u e r h
 have hlt:=wM k u e r h
 have:=congrArg List.length hp
 simp only[an]at this
 exact⟨p.length,by rw[<-hp];simp,by omega,by omega⟩
theorem zy(n:Nat)(u:List UInt8)(acc:List E):qZ (fun _=>none) n u acc=none:=by
 cases n<;>rfl
theorem Oe(s:List UInt8)(j:Nat):aq Tryz.prog 104 [.v (.string (mk s)),.v (.int .i64 (j:Int)),.v (.int .i64 ((300+1:Nat):Int))] [] (CB s none):=by
 refine Km _ _ _ ?_
 simp only[Fm,↓zq,zs,af]
 exact⟨fun _=>⟨rfl,[],_,(bp).mpr trivial,rfl⟩,fun h=>by omega⟩
theorem ph(s:List UInt8)(hs:s.length<=8000)(d i:Nat)(hd:d<=300)(hi:i<=s.length)(f:List UInt8->Option (E×List UInt8))(hf:∀u e r,f u=some (e,r)->∃j,r=u.drop j/\0<j/\j<=u.length)
 (ih:∀j,j<=s.length->aq Tryz.prog 104 [.v (.string (mk s)),.v (.int .i64 (j:Int)),.v (.int .i64 ((d+1:Nat):Int))] [] (CB s (f (s.drop j)))) (x:Option (E×List UInt8))
 (h0:i=s.length->x=none)
 (h1:i<s.length->(s.drop i).takeWhile eJ≠[]->x=some (.atom ((s.drop i).takeWhile eJ),(s.drop i).dropWhile eJ))
 (h2:i<s.length->(s.drop i).takeWhile eJ=[]->¬(s.getD i 0).toNat=40->x=none)
 (h3:i<s.length->(s.getD i 0).toNat=40->x=qZ f (s.length-(i+1)+1) (s.drop (i+1)) []) :
 aq Tryz.prog 104 [.v (.string (mk s)),.v (.int .i64 (i:Int)),.v (.int .i64 (d:Int))] [] (CB s x):=by
 refine Km _ _ _ ?_
 simp only[Fm,↓zq,zs,af,zt]
 refine⟨fun h=>by omega,fun _=>⟨fun h=>?_,fun h=>⟨by omega,?_⟩⟩⟩
 ·rw[h0 (by omega)]
  exact⟨rfl,[],_,(bp).mpr trivial,rfl⟩
 ·have hlt:i<s.length:=by omega
  rw[lH s i hlt]
  refine⟨fun h40=>?_,fun h40=>?_⟩
  ·have h40':¬(s.getD i 0).toNat=40:=by omega
   refine cm (KF s hs _ [] [] _ _ ((bp).mpr trivial) ((bp).mpr trivial) (s.length-i) i (by omega)) ?_
   have hex:(List.take (i+((s.drop i).takeWhile eJ).length) s).drop i=(s.drop i).takeWhile eJ:=by
    rw[List.drop_take,Nat.add_sub_cancel_left];exact tj _
   have hle:i+((s.drop i).takeWhile eJ).length<=s.length:=by
    have:=sP (s.drop i);simp only[ca]at this;omega
   simp only[jc,↓zq,zs,af,zt,hex]
   refine⟨by omega,fun hnil=>?_,fun hnil=>?_⟩
   ·rw[h2 hlt hnil h40',hnil]
    exact⟨rfl,[],_,(bp).mpr trivial,rfl⟩
   ·rw[h1 hlt hnil]
    refine⟨rfl,?_⟩
    have:=sP (s.drop i)
    simp only[ca]at this
    show _=AV.cW [E.kb (.atom _),_]
    have e:s.length-((s.drop i).dropWhile eJ).length=i+((s.drop i).takeWhile eJ).length:=by omega
    rw[e];rfl
  ·have h40':(s.getD i 0).toNat=40:=by omega
   rw[h3 hlt h40']
   refine nF (Ij s hs d hd f hf ih (s.length-(i+1)+1) i [] [] _ ((bp).mpr trivial) (by omega) hlt (by simp;omega)) ?_ ?_
   ·rintro ys o ⟨h,_⟩;cases h
   ·rintro ys o ⟨_,hr⟩
    cases hq:qZ f (s.length-(i+1)+1) (s.drop (i+1)) []with
    |
     none =>
     rw[hq]at hr
     obtain⟨es,rfl,rfl⟩:=hr
     simp only[jc,↓zq,zs,af]
     exact⟨rfl,[],_,(ck _).mpr trivial,rfl⟩
    |
     some q =>
     obtain⟨e,u⟩:=q
     rw[hq]at hr
     obtain⟨l,rfl,rfl,rfl⟩:=hr
     simp only[jc,↓zq,zs,af]
     exact⟨rfl,rfl⟩
theorem OC(s:List UInt8)(hs:s.length<=8000):∀(k:Nat),k<=300->∀i,i<=s.length->aq Tryz.prog 104 [.v (.string (mk s)),.v (.int .i64 (i:Int)),.v (.int .i64 ((300-k:Nat):Int))] [] (CB s (rd k (s.drop i))):=by
 intro k
 have hnil:∀k,rd k []=none:=fun k=>by cases k<;>simp[rd]
 have ha40:∀b:UInt8,b.toNat=40->eJ b=false:=fun b hb=>by simp[eJ,hb]
 induction k with
 |
  zero =>
  intro hk i hi
  refine ph s hs 300 i (by omega) hi (fun _=>none) (fun _ _ _ h=>by cases h) (fun j _=>Oe s j) _ (fun h=>?_) (fun hlt h=>?_) (fun hlt h h40=>?_) (fun hlt h40=>?_)
  ·rw[bE (by omega)];exact hnil 0
  ·simp only[rd,if_neg h]
  ·simp only[rd,if_pos h]
  ·rw[zy]
   have:(s.drop i).takeWhile eJ=[]:=pY hlt (ha40 _ h40)
   simp only[rd,if_pos this]
 |
  succ k ih =>
  intro hk i hi
  have hd:300-(k+1)+1=300-k:=by omega
  refine ph s hs (300-(k+1)) i (by omega) hi (rd k) (CG k) (fun j hj=>by rw[hd];exact ih (by omega) j hj) _ (fun h=>?_) (fun hlt h=>?_) (fun hlt h h40=>?_) (fun hlt h40=>?_)
  ·rw[bE (by omega)];exact hnil _
  ·simp only[rd,if_neg h]
  ·rw[drop_cons hlt]at h |-
   simp only[rd,if_pos h,if_neg h40]
  ·have h:=pY hlt (ha40 _ h40)
   rw[drop_cons hlt]at h |-
   simp only[rd,if_pos h,if_pos h40,ca]
end Go.Proofs.Trees
namespace Go.Proofs.Trees
open Go Go.VL
theorem il(e:E):AV.agg [.v (.string ((e.gR.getD 0 .any).toStr)),e.gR.getD 1 .any]=e.kb:=by cases e<;>rfl
theorem fU(e:E):e.gR.length=2:=by cases e<;>rfl
theorem iw(e:E):bO [.str,.sl] e.gR 0=True:=by
 apply eq_true
 cases e<;>simp[E.gR,bO,eX,bp,ck]
theorem lX(e:E):e.gR.headD .any=.v (.string (mk e.at)):=by cases e<;>rfl
theorem vf(x:E)(l:List E):aq Tryz.prog 54 [.agg [.v (.string (mk [])),.sl (E.bf (x::l))]] [] (bz (.v (.string (mk x.at)))):=by
 refine Fl _ _ ((ck _).mpr trivial) ?_
 simp only[CF,E.bf,↓zq,zs,af,zt,bz,fU,lX,az]
 refine⟨fun h=>absurd rfl h,fun _=>⟨fun h=>by omega,fun _=>⟨by omega,by omega⟩⟩⟩
theorem Mf:aq Tryz.prog 54 [.agg [.v (.string (mk [])),.sl (E.bf [])]] [] (bz (.v (.string (mk [])))):=by
 refine Fl _ _ ((ck _).mpr trivial) ?_
 simp only[CF,E.bf,↓zq,zs,af,zt,bz,fU,lX,az]
 simp
def jJ:E->Bool
 | .atom s=>(s==[48])||(s==[49])||gC s||cP s
 | .list [x,a,b]=>if x.at=[43]then jJ a&&jJ b else if x.at=[42]then jJ a&&jJ b else if x.at=[114,101,99]then cP a.at&&jJ b else false
 | .list _=>false
theorem xN:∀(e:E),e.ok->aq Tryz.prog 138 [e.kb] [] (bz (.v (.bool (jJ e))))
 |
  .atom s,hok=>by
  refine Iy _ _ ((bp).mpr trivial) ?_
  have hne:s≠[]:=hok
  simp only[DF,↓zq,zs,af,zt,bz,jJ]
  refine⟨fun _=>⟨fun h=>?_,fun h=>⟨fun h1=>?_,fun h1=>?_⟩⟩,fun h=>absurd h hne⟩
  ·simp[h]
  ·simp[h1]
  ·refine ak (D3 s) ?_
   simp only[↓zq,zs,af]
   refine⟨fun hp=>?_,fun hp=>?_⟩
   ·simp[hp]
   ·refine ak (F3 s) ?_
    simp[↓zq,zs,af,hp,h,h1]
 |
  .list l,hok=>by
  refine Iy _ _ ((ck _).mpr trivial) ?_
  match l,hok with
  |[],hok=>simp[DF,E.bf,↓zq,zs,af,zt,bz,jJ]
  |[x],hok=>simp[DF,E.bf,↓zq,zs,af,zt,bz,jJ]
  |[x,y],hok=>simp[DF,E.bf,↓zq,zs,af,zt,bz,jJ]
  |
   x::y::z::w::l,hok =>
   simp only[DF,E.bf,↓zq,zs,af,zt,bz,jJ]
   exact⟨fun h=>absurd rfl h,fun _=>⟨fun _=>trivial,fun h=>by omega⟩⟩
  |
   [x,y,z],hok =>
   obtain⟨ok1,ok2,ok3,_⟩:=hok
   simp only[DF,↓zq,zs,af,zt,bz]
   refine⟨fun h=>absurd rfl h,fun _=>⟨fun h=>absurd rfl h,fun _=>?_⟩⟩
   refine ak (vf x _) ?_
   simp only[E.bf,toNat_one,bq,↓zq,zs,af,zt,il,fU,iw,lX,az,jJ]
   refine⟨fun h=>?_,fun h=>⟨fun h1=>?_,fun h1=>⟨fun h2=>?_,fun h2=>?_⟩⟩⟩
   ·rw[if_pos h]
    refine⟨by omega,ak (xN y ok2) ?_⟩
    simp only[↓zq,zs,af]
    refine⟨fun hy=>⟨by omega,ak (xN z ok3) ?_⟩,fun hy=>?_⟩
    ·simp only[↓zq,zs,af,hy,bG]
    ·rw[hy];rfl
   ·rw[if_neg h,if_pos h1]
    refine⟨by omega,ak (xN y ok2) ?_⟩
    simp only[↓zq,zs,af]
    refine⟨fun hy=>⟨by omega,ak (xN z ok3) ?_⟩,fun hy=>?_⟩
    ·simp only[↓zq,zs,af,hy,bG]
    ·rw[hy];rfl
   ·rw[if_neg h,if_neg h1,if_pos h2]
    refine⟨by omega,by omega,ak (F3 _) ?_⟩
    simp only[↓zq,zs,af]
    refine⟨fun hy=>⟨by omega,ak (xN z ok3) ?_⟩,fun hy=>?_⟩
    ·simp only[↓zq,zs,af,hy,bG]
    ·rw[hy];rfl
   ·rw[if_neg h,if_neg h1,if_neg h2]
theorem jv:∀(e:E) (ar:List (List UInt8)),(cB e ar).isSome=jJ e
 |
  .atom s,ar=>by
  simp only[cB,jJ]
  by_cases h:s=[48]
  ·simp[h]
  ·by_cases h1:s=[49]
   ·simp[h1]
   ·rw[if_neg h,if_neg h1]
    by_cases h2:gC s=true
    ·simp[h2]
    ·rw[if_neg h2]
     by_cases h3:cP s=true
     ·rw[if_pos h3];cases bH s ar ar.length<;>simp[h3]
     ·rw[if_neg h3];simp[h,h1,h2,h3]
 | .list [],_=>rfl
 | .list [_],_=>rfl
 | .list [_,_],_=>rfl
 | .list (_::_::_::_::_),_=>rfl
 |
  .list [x,a,b],ar=>by
  have ha:=jv a ar
  have hb:=jv b ar
  have hb2:=jv b (ar++[a.at])
  rw[jJ]
  by_cases h:x.at=[43]
  ·rw[kq ar h,if_pos h,<-ha,<-hb];cases cB a ar<;>cases cB b ar<;>rfl
  ·by_cases h1:x.at=[42]
   ·rw[jS ar h1,if_neg h,if_pos h1,<-ha,<-hb];cases cB a ar<;>cases cB b ar<;>rfl
   ·by_cases h2:x.at=[114,101,99]
    ·rw[l9 ar h2,if_neg h,if_neg h1,if_pos h2,<-hb2]
     cases cP a.at<;>cases cB b (ar++[a.at])<;>rfl
    ·rw[iO ar h h1 h2,if_neg h,if_neg h1,if_neg h2];rfl
mutual
def E.en:E->Nat
 | .atom _=>1
 | .list l=>E.fp l
def E.fp:List E->Nat
 |[]=>0
 |e::l=>e.en+E.fp l
end
mutual
theorem zx:∀e:E,e.en<=e.sz
 | .atom s=>by simp[E.en,E.sz]
 | .list l=>by have:=s7 l;simp only[E.en,E.sz];omega
theorem s7:∀l:List E,E.fp l<=E.je l
 |[]=>by simp[E.fp,E.je]
 |e::l=>by have:=zx e;have:=s7 l;simp only[E.fp,E.je];omega
end
theorem jm:∀(l:List E) (i:Nat) (h:i<l.length),(E.bf l).getD i []=(l[i]).gR
 |e::l,0,_=>rfl
 |
  e::l,i+1,h=>by
  have:=jm l i (by simpa using h)
  simp only[E.bf,List.getD_cons_succ,List.getElem_cons_succ];exact this
theorem yg:∀(l:List E) (i:Nat) (h:i<l.length),E.fp (l.drop i)=(l[i]).en+E.fp (l.drop (i+1)):=by
 intro l i h
 rw[aV h];rfl
theorem tz:∀(l:List E) (i:Nat) (h:i<l.length),E.Cf l->(l[i]).ok
 |e::l,0,_,h=>h.1
 |e::l,i+1,hi,h=>tz l i (by simpa using hi) h.2
theorem HW(l:List E)(hl:E.fp l<1000000)(hll:l.length<1000000)(ih:∀i (h:i<l.length),aq Tryz.prog 134 [(l[i]).kb] [] (bz (.v (.int .i64 ((l[i]).en:Int))))) :
 ∀(k i n:Nat),i+k=l.length->n+E.fp (l.drop i)<=E.fp l->Ea [.v (.int .i64 (n:Int)),.v (.int .i64 (i:Int))] [.cells [.v (.string (mk [])),.sl (E.bf l)]] (hZ 1 [.v (.int .i64 ((n+E.fp (l.drop i):Nat):Int))] [])
 |
  0,i,n,hi,hn=>by
  refine Kf _ _ _ _ ?_
  simp only[DM,↓zq,zs,af,dN]
  have:l.drop i=[]:=bE (by omega)
  refine⟨fun h=>by omega,fun _=>?_⟩
  simp[hZ,this,E.fp]
 |
  k+1,i,n,hi,hn=>by
  have hlt:i<l.length:=by omega
  refine Kf _ _ _ _ ?_
  simp only[DM,↓zq,zs,af,zt,dN,jm l i hlt,fU,iw,il,az]
  refine⟨fun _=>⟨by omega,?_⟩,fun h=>by omega⟩
  refine ak (ih i hlt) ?_
  have h1:=yg l i hlt
  simp only[↓zq,zs,af]
  rw[bw i (by omega),wrap64 _ (by omega) (by omega)]
  have:=HW l hl hll ih k (i+1) (n+(l[i]).en) (by omega) (by omega)
  rw[h1,<-Nat.add_assoc]
  simpa using this
theorem tc:∀l:List E,l.length<=E.je l
 |[]=>by simp[E.je]
 |
  e::l=>by
  have:=tc l
  have:1<=e.sz:=by cases e<;>simp[E.sz]
  simp only[E.je,aw];omega
theorem tF:∀(l:List E) (i:Nat) (h:i<l.length),(l[i]).sz<=E.je l
 |e::l,0,_=>by simp[E.je]
 |e::l,i+1,h=>by have:=tF l i (by simpa using h);simp only[E.je,List.getElem_cons_succ];omega
theorem Lp:∀(n:Nat) (e:E),e.sz<n->e.ok->e.sz<1000000->aq Tryz.prog 134 [e.kb] [] (bz (.v (.int .i64 (e.en:Int))))
 |0,e,hn,_,_=>by omega
 |
  n+1,.atom s,hn,hok,hl=>by
  refine KK _ _ ((bp).mpr trivial) ?_
  have hne:s≠[]:=hok
  simp only[FL,↓zq,zs,af,zt,bz]
  exact⟨fun _=>rfl,fun h=>absurd h hne⟩
 |
  n+1,.list l,hn,hok,hl=>by
  refine KK _ _ ((ck _).mpr trivial) ?_
  simp only[E.sz]at hn hl
  have h1:=s7 l
  have h2:=tc l
  simp only[FL,↓zq,zs,af,zt,bz]
  refine⟨fun h=>absurd rfl h,fun _=>?_⟩
  refine cm (HW l (by omega) (by omega) (fun i hi=>?_) l.length 0 0 (by omega) (by simp)) ?_
  ·have:=tF l i hi
   exact Lp n (l[i]) (by omega) (tz l i hi hok) (by omega)
  ·simp[↓zq,zs,af,E.en]
theorem Lg(e:E)(h:e.ok)(hl:e.sz<1000000):aq Tryz.prog 134 [e.kb] [] (bz (.v (.int .i64 (e.en:Int)))):=Lp (e.sz+1) e (by omega) h hl
theorem sY{x:E}(h:x.at≠[]):x.en=1:=by cases x<;>simp[E.at,E.en]at h |-
theorem Be{s:List UInt8}(h:cP s=true):s≠[]:=by rintro rfl;cases h
theorem jK:∀(e:E) (ar:List (List UInt8)) (t:Ty),cB e ar=some t->e.en=t.atoms
 |
  .atom s,ar,t,h=>by
  simp only[cB]at h
  simp only[E.en]
  split at h
  ·cases h;rfl
  ·split at h
   ·cases h;rfl
   ·split at h
    ·cases h;rfl
    ·split at h
     ·split at h<;>cases h<;>rfl
     ·cases h
 | .list [],_,_,h=>by cases h
 | .list [_],_,_,h=>by cases h
 | .list [_,_],_,_,h=>by cases h
 | .list (_::_::_::_::_),_,_,h=>by cases h
 |
  .list [x,a,b],ar,t,h=>by
  simp only[E.en,E.fp]
  by_cases h0:x.at=[43]
  ·rw[kq ar h0]at h
   have:=sY (x:=x) (by rw[h0];simp)
   split at h
   ·rename_i t1 t2 e1 e2
    cases h
    have:=jK a ar _ e1
    have:=jK b ar _ e2
    simp only[Ty.atoms];omega
   ·cases h
  ·by_cases h1:x.at=[42]
   ·rw[jS ar h1]at h
    have:=sY (x:=x) (by rw[h1];simp)
    split at h
    ·rename_i t1 t2 e1 e2
     cases h
     have:=jK a ar _ e1
     have:=jK b ar _ e2
     simp only[Ty.atoms];omega
    ·cases h
   ·by_cases h2:x.at=[114,101,99]
    ·rw[l9 ar h2]at h
     have:=sY (x:=x) (by rw[h2];simp)
     split at h
     ·rename_i hl
      have:=sY (Be hl)
      split at h
      ·rename_i t1 e1
       cases h
       have:=jK b _ _ e1
       simp only[Ty.atoms];omega
      ·cases h
     ·cases h
    ·rw[iO ar h0 h1 h2]at h;cases h
def kT(x:Option E)(b:Bool):AV->List Ob->Prop:=fun r o=>∃c:List UInt8,∃d:AV,LK.sl.has d/\r=.cW [.agg [.v (.string (mk c)),d],.v (.bool b)]/\(b=true->∃e,x=some e/\AV.agg [.v (.string (mk c)),d]=e.kb)
theorem zh(e:E):∃c:List UInt8,∃d:AV,LK.sl.has d/\e.kb=AV.agg [.v (.string (mk c)),d]:=by
 cases e with
 |atom s=>exact⟨s,_,(bp).mpr trivial,rfl⟩
 |list l=>exact⟨[],_,(ck _).mpr trivial,rfl⟩
theorem kT.ne(x:Option E)(b:Bool)(h:b=true->x.isSome=true):∃r o,kT x b r o:=by
 cases b with
 |false=>exact⟨_,[],[],.v (.slice none 0 0),(bp).mpr trivial,rfl,fun h=>by cases h⟩
 |
  true =>
  cases x with
  |none=>cases h rfl
  |
   some e =>
   obtain⟨c,d,hd,he⟩:=zh e
   exact⟨_,[],c,d,hd,rfl,fun _=>⟨e,rfl,he.symm⟩⟩
theorem I1(s:List UInt8):aq Tryz.prog 57 [.v (.string (mk s))] [] (kT (pZ s) (pZ s).isSome):=by
 refine Mc _ ?_
 simp only[G0,↓zq,zs,af,zt,pZ]
 refine⟨fun h=>?_,fun h=>?_⟩
 ·rw[if_pos (by omega)]
  exact⟨[],_,(bp).mpr trivial,rfl,fun h=>by cases h⟩
 ·rw[if_neg (by omega)]
  refine aQ (OC s (by omega) 300 (by omega) 0 (by omega)) (CB.ne _ _) ?_
  rintro r o ⟨rfl,hr⟩
  rw[bj]at hr
  cases hq:rd 300 s with
  |
   none =>
   rw[hq]at hr
   obtain⟨c,d,hd,rfl⟩:=hr
   simp only[↓zq,zs,af,zt,bO]
   refine⟨hd,c,d,hd,?_,fun h=>by cases h⟩
   have:((-1:Int)==(s.length:Int))=false:=by
    rw[beq_eq_false_iff_ne];omega
   rw[this];rfl
  |
   some q =>
   obtain⟨e,u⟩:=q
   rw[hq]at hr
   subst hr
   have hlt:=wM _ _ _ _ hq
   obtain⟨c,d,hd,he⟩:=zh e
   simp only[he,↓zq,zs,af,zt,bO]
   cases u with
   |
    nil =>
    refine⟨hd,c,d,hd,?_,fun _=>⟨e,rfl,he.symm⟩⟩
    simp
   |
    cons b u =>
    simp only[aw]at hlt |-
    refine⟨hd,c,d,hd,?_,fun h=>by cases h⟩
    have:(((s.length-(u.length+1):Nat):Int)==(s.length:Int))=false:=by simp;omega
    rw[this];rfl
def xi(s:List UInt8):Option E:=match pZ s with
 |none=>none
 |some e=>if jJ e=true/\e.en<=400 then some e else none
theorem Ok(s:List UInt8):aq Tryz.prog 97 [.v (.string (mk s))] [] (kT (xi s) (xi s).isSome):=by
 refine NW _ ?_
 unfold Jo
 refine aQ (I1 s) (kT.ne _ _ (fun h=>h)) ?_
 rintro r o ⟨c,d,hd,rfl,hh⟩
 simp only[↓zq,zs,af,zt,bO,xi]
 refine⟨hd,fun h=>?_,fun h=>?_⟩
 ·obtain⟨e,he,hce⟩:=hh h
  obtain⟨hok,hsz⟩:=nj he
  rw[he,hce]
  refine ak (xN e hok) ?_
  simp only[↓zq,zs,af]
  refine⟨fun hi=>?_,fun hi=>?_⟩
  ·refine ak (Lg e hok (by omega)) ?_
   simp only[↓zq,zs,af,hi]
   refine⟨c,d,hd,?_,?_⟩
   ·rw[hce]
    by_cases h4:e.en<=400
    ·rw[if_pos h4];exact congrArg (fun b=>AV.cW [e.kb,.v (.bool b)]) (decide_eq_true (show ((e.en:Nat):Int)<=400 by omega))
    ·rw[if_neg h4];exact congrArg (fun b=>AV.cW [e.kb,.v (.bool b)]) (decide_eq_false (show ¬((e.en:Nat):Int)<=400 by omega))
   ·split
    ·exact fun _=>⟨e,rfl,hce⟩
    ·exact fun h=>by cases h
  ·refine⟨c,d,hd,?_,?_⟩
   ·rw[hce,if_neg (by rw[hi];simp)];rfl
   ·rw[if_neg (by rw[hi];simp)];exact fun h=>by cases h
 ·have hn:pZ s=none:=by cases hq:pZ s<;>simp[hq]at h |-
  rw[hn]
  exact⟨c,d,hd,rfl,fun h=>by cases h⟩
theorem qW{s:List UInt8}{e:E}(h:xi s=some e):pZ s=some e/\jJ e=true/\e.en<=400:=by
 unfold xi at h
 split at h
 ·cases h
 ·split at h
  ·rename_i e' h1 h2;cases h;exact⟨h1,h2⟩
  ·cases h
end Go.Proofs.Trees
namespace Go.Proofs.Trees
open Go Go.VL
def bN:Ty->Bool
 | .name s=>cP s
 | .plus a b=>bN a||bN b
 | .times a b=>bN a||bN b
 | .rc a=>bN a
 |_=>false
theorem gy:∀(t:Ty) (out:List (List UInt8)),(bL t out).any cP=(out.any cP||bN t)
 |
  .name s,out=>by
  simp only[bL,oI,bN]
  split
  ·rename_i h
   cases hs:cP s with
   |false=>simp
   |true=>rw[Bool.or_true,bY];exact⟨s,h,hs⟩
  ·simp
 | .plus a b,out=>by simp only[bL,bN,gy a,gy b,Bool.or_assoc]
 | .times a b,out=>by simp only[bL,bN,gy a,gy b,Bool.or_assoc]
 | .rc a,out=>by simp only[bL,bN,gy a]
 | .zero,out=>by simp[bL,bN]
 | .one,out=>by simp[bL,bN]
 | .bound u,out=>by simp[bL,bN]
theorem rM(t:Ty):t.closed = !bN t:=by simp[Ty.closed,gy]
def pl:Ty->Bool
 | .name s=>decide (s.length<=1)
 | .plus a b=>pl a&&pl b
 | .times a b=>pl a&&pl b
 | .rc a=>false
 |_=>true
theorem kY{lo hi:Nat}{s:List UInt8}(h:named lo hi s=true):∃c r,s=c::r/\lo<=c.toNat/\c.toNat<=hi:=by
 cases s with
 |nil=>cases h
 |cons c r=>simp only[named,au,decide_eq_true_eq]at h;exact⟨c,r,rfl,by omega,by omega⟩
theorem fh{x a b:E}{ar:List (List UInt8)}{t:Ty}(hx:x.at=[43])(h:cB (.list [x,a,b]) ar=some t):∃t1 t2,cB a ar=some t1/\cB b ar=some t2/\t=.plus t1 t2:=by
 rw[kq ar hx]at h
 split at h
 ·rename_i t1 t2 e1 e2;cases h;exact⟨t1,t2,e1,e2,rfl⟩
 ·cases h
theorem eN{x a b:E}{ar:List (List UInt8)}{t:Ty}(hx:x.at=[42])(h:cB (.list [x,a,b]) ar=some t):∃t1 t2,cB a ar=some t1/\cB b ar=some t2/\t=.times t1 t2:=by
 rw[jS ar hx]at h
 split at h
 ·rename_i t1 t2 e1 e2;cases h;exact⟨t1,t2,e1,e2,rfl⟩
 ·cases h
theorem df{x a b:E}{ar:List (List UInt8)}{t:Ty}(hx:x.at=[114,101,99])(h:cB (.list [x,a,b]) ar=some t):∃t1,cP a.at=true/\cB b (ar++[a.at])=some t1/\t=.rc t1:=by
 rw[l9 ar hx]at h
 split at h
 ·rename_i hl
  split at h
  ·rename_i t1 e1;cases h;exact⟨t1,hl,e1,rfl⟩
  ·cases h
 ·cases h
theorem vL{s:List UInt8}:so s=match xi s with|none=>none|some e=>cB e []:=by
 unfold so xi
 cases he:pZ s with
 |none=>rfl
 |
  some e =>
  have hs:=jv e []
  simp only
  cases ht:cB e []with
  |
   none =>
   rw[ht]at hs
   rw[if_neg (by rw[<-hs];simp)]
  |
   some t =>
   rw[ht]at hs
   have ha:=jK e [] t ht
   by_cases h4:e.en<=400
   ·rw[if_pos ⟨hs.symm,h4⟩];dsimp only;rw[if_neg (by omega)];exact ht.symm
   ·rw[if_neg (fun h=>h4 h.2)];dsimp only;rw[if_pos (by omega)]
end Go.Proofs.Trees
namespace Go.Proofs.Trees
open Go Go.VL
def pure:Ty->Bool
 | .zero=>true
 | .one=>true
 | .name s=>(s==[120])||(s==[121])||(s==[122])
 | .plus a b=>pure a&&pure b
 | .times a b=>pure a&&pure b
 |_=>false
def KY(v:Nat):Option Nat:=if v<=1000000000 then some v else none
def GL(n:Nat):Ty->Option Nat
 | .zero=>some 0
 | .one=>some 1
 | .name _=>some n
 | .plus a b=>match GL n a,GL n b with|some x,some y=>KY (x+y)|_,_=>none
 | .times a b=>match GL n a,GL n b with|some x,some y=>KY (x*y)|_,_=>none
 |_=>none
def IA(x:Option Nat):AV->List Ob->Prop:=fun r o=>∃v:Int,r=.cW [.v (.int .i64 v),.v (.bool x.isSome)]/\∀c,x=some c->v=(c:Int)
theorem IA.ne(x:Option Nat):∃r o,IA x r o:=by
 cases x with
 |none=>exact⟨_,[],0,rfl,fun c h=>by cases h⟩
 |some c=>exact⟨_,[],(c:Int),rfl,fun c' h=>by cases h;rfl⟩
end Go.Proofs.Trees
namespace Go.Proofs.Trees
open Go Go.VL Go.RowKit
abbrev dd(n:Nat):List UInt8:=Lib.decDigits n
theorem ep{k:Nat}(h:k<10):dd k=[aZ (48+k)]:=by rw[dd,Lib.decDigits,dif_pos h]
theorem fw{k:Nat}(h:¬k<10):dd k=dd (k/10)++[aZ (48+k%10)]:=by rw[dd,Lib.decDigits,dif_neg h]
theorem oE:∀(n k:Nat),k<n->(dd k).length<=k+1
 |0,k,h=>by omega
 |
  n+1,k,h=>by
  by_cases h1:k<10
  ·rw[ep h1];simp
  ·rw[fw h1]
   have:=oE n (k/10) (by omega)
   simp only[an,aw,aG];omega
theorem xg(d:Nat)(h:d<10):(Value.int .u8 (IntKind.wrap .u8 (IntKind.wrap .i64 (48+(d:Int)))))=.int .u8 ((aZ (48+d)).toNat:Int):=by
 have:d=0\/d=1\/d=2\/d=3\/d=4\/d=5\/d=6\/d=7\/d=8\/d=9:=by omega
 rcases this with rfl|rfl|rfl|rfl|rfl|rfl|rfl|rfl|rfl|rfl<;>rfl
theorem pe(b:UInt8):bytesOf [[.v (.int .u8 (b.toNat:Int))]]=[b]:=by simp[bytesOf,xz]
theorem kI(b:UInt8):jh [[.v (.int .u8 (b.toNat:Int))]]:=⟨rfl,(lz _ _).mpr trivial,trivial⟩
theorem BJ:∀(n k:Nat),k<n->k<1000000000->aq Tryz.prog 136 [.v (.int .i64 (k:Int))] [] (bz (.v (.string (mk (dd k)))))
 |0,k,h,_=>by omega
 |
  n+1,k,h,hk=>by
  refine M3 _ ?_
  simp only[Jm,↓zq,zs,af,bz]
  refine⟨fun h=>by omega,fun _=>⟨fun h=>by omega,fun _=>⟨fun h1=>?_,fun h1=>⟨by omega,?_⟩⟩⟩⟩
  ·rw[xg k (by omega)]
   refine⟨kI _,?_⟩
   rw[pe,ep (by omega)];rfl
  ·have e1:IntKind.wrap .i64 (Int.tdiv (k:Int) 10)=((k/10:Nat):Int):=by
    rw[show Int.tdiv (k:Int) 10=((k/10:Nat):Int) from (Int.ofNat_tdiv k 10).symm,wrap64 _ (by omega) (by omega)]
   have e2:dj (k:Int) 10=((k%10:Nat):Int):=(Int.ofNat_tmod k 10).symm
   rw[e1,e2,xg (k%10) (by omega)]
   refine ak (BJ n (k/10) (by omega) (by omega)) ?_
   have hl:=oE (k+1) (k/10) (by omega)
   simp only[↓zq,zs,af,zt,pe]
   have h9:(k:Int)<1000000000:=by omega
   refine⟨by omega,kI _,?_,?_⟩
   ·show (mk (dd (k/10))).size+(mk [aZ (48+k%10)]).size<=_
    rw[cU,cU];simp;omega
   ·show AV.v (.string (mk (dd (k/10))++mk [aZ (48+k%10)]))=_
    rw[ko,fw (k:=k) (by omega)]
theorem AR(s:List UInt8)(d:AV)(hd:LK.sl.has d)(h:s≠[]):aq Tryz.prog 54 [.agg [.v (.string (mk s)),d]] [] (bz (.v (.string (mk [])))):=by
 refine Fl _ _ hd ?_
 simp only[CF,↓zq,zs,af,zt,bz]
 exact⟨fun _=>trivial,fun h'=>absurd h' h⟩
theorem BP(e:E):AV.agg [.v (.string ((e.kb.cs.getD 0 .any).toStr)),e.kb.cs.getD 1 .any]=e.kb:=by cases e<;>rfl
mutual
def eI:E->List UInt8
 | .atom s=>s
 | .list []=>[40,41]
 | .list (e::l)=>40::(eI e++(dT l++[41]))
def dT:List E->List UInt8
 |[]=>[]
 |e::l=>32::(eI e++dT l)
end
theorem yz:∀(l:List E) (i:Nat) (h:i<l.length),dT (l.drop i)=32::(eI l[i]++dT (l.drop (i+1))):=by
 intro l i h
 rw[aV h,dT]
theorem Hq(l:List E)(hll:l.length<1000000000000)(ih:∀i (h:i<l.length),aq Tryz.prog 60 [(l[i]).kb] [] (bz (.v (.string (mk (eI l[i])))))) :
 ∀(k i:Nat) (out:List UInt8),i+k=l.length->1<=i->out.length+(dT (l.drop i)).length<=1000000000000->zF [.v (.string (mk out)),.v (.int .i64 (i:Int))] [.cells [.v (.string (mk [])),.sl (E.bf l)]] (hZ 1 [.v (.string (mk (out++dT (l.drop i))))] [])
 |
  0,i,out,hi,h1,hn=>by
  refine Cj _ _ _ _ ?_
  simp only[yU,↓zq,zs,af,dN]
  have:l.drop i=[]:=bE (by omega)
  refine⟨fun h=>by omega,fun _=>?_⟩
  simp[hZ,this,dT]
 |
  k+1,i,out,hi,h1,hn=>by
  have hlt:i<l.length:=by omega
  have hd:=yz l i hlt
  rw[hd]at hn
  simp only[aw,an]at hn
  refine Cj _ _ _ _ ?_
  simp only[yU,↓zq,zs,af,zt,dN,jm l i hlt,fU,iw,il,az]
  refine⟨fun _=>⟨fun _=>⟨by omega,by omega,?_⟩,fun h=>by omega⟩,fun h=>by omega⟩
  refine ak (ih i hlt) ?_
  simp only[↓zq,zs,af,zt]
  refine⟨by simp;omega,?_⟩
  rw[bw i (by omega),hd]
  have:=Hq l hll ih k (i+1) (out++[32]++eI l[i]) (by omega) (by omega) (by simp;omega)
  simpa using this
theorem w8:∀(l:List E) (i:Nat) (h:i<l.length),(eI l[i]).length<=(dT l).length
 |e::l,0,_=>by simp only[dT,List.getElem_cons_zero,aw,an];omega
 |e::l,i+1,h=>by have:=w8 l i (by simpa using h);simp only[dT,List.getElem_cons_succ,aw,an];omega
theorem qB:∀l:List E,l.length<=(dT l).length
 |[]=>by simp[dT]
 |e::l=>by have:=qB l;simp only[dT,aw,an];omega
theorem Bs:∀(n:Nat) (e:E),e.sz<n->e.ok->(eI e).length<=900000000000->aq Tryz.prog 60 [e.kb] [] (bz (.v (.string (mk (eI e)))))
 |0,e,hn,_,_=>by omega
 |
  n+1,.atom s,hn,hok,hl=>by
  refine DD _ _ ((bp).mpr trivial) ?_
  have hne:s≠[]:=hok
  simp only[BX,↓zq,zs,af,zt,bz]
  exact⟨fun _=>rfl,fun h=>absurd h hne⟩
 |
  n+1,.list [],hn,hok,hl=>by
  refine DD _ _ ((ck _).mpr trivial) ?_
  simp only[BX,↓zq,zs,af,zt,bz]
  refine⟨fun h=>absurd rfl h,fun _=>?_⟩
  have h1:zF [.v (.string (mk [40])),.v (.int .i64 0)] [.cells [.v (.string (mk [])),.sl (E.bf [])]] (hZ 1 [.v (.string (mk [40]))] []):=by
   refine Cj _ _ _ _ ?_
   simp[yU,↓zq,zs,af,E.bf,hZ]
  refine cm h1 ?_
  simp only[↓zq,zs,af,zt]
  exact⟨by simp,rfl⟩
 |
  n+1,.list (x::l),hn,hok,hl=>by
  refine DD _ _ ((ck _).mpr trivial) ?_
  simp only[E.sz,E.je]at hn
  simp only[eI,aw,an,aG]at hl
  have h2:=qB l
  simp only[BX,↓zq,zs,af,zt,bz]
  refine⟨fun h=>absurd rfl h,fun _=>?_⟩
  have hL:zF [.v (.string (mk [40])),.v (.int .i64 0)] [.cells [.v (.string (mk [])),.sl (E.bf (x::l))]] (hZ 1 [.v (.string (mk ([40]++eI x++dT l)))] []):=by
   refine Cj _ _ _ _ ?_
   simp only[yU,E.bf,Int.toNat_zero,↓zq,zs,af,zt,dN,fU,iw,il,az]
   refine⟨fun _=>⟨fun h=>by omega,fun _=>⟨by omega,?_⟩⟩,fun h=>by omega⟩
   refine ak (Bs n x (by omega) hok.1 (by omega)) ?_
   simp only[↓zq,zs,af,zt]
   refine⟨by simp;omega,?_⟩
   have:=Hq (x::l) (by simp;omega) (fun i hi=>by
    have h3:=tF (x::l) i hi
    simp only[E.je]at h3
    refine Bs n _ (by omega) (tz _ i hi hok) ?_
    have h4:=w8 (x::l) i hi
    simp only[dT,aw,an]at h4
    omega) l.length 1 ([40]++eI x) (by simp;omega) (by omega) (by simp;omega)
   rw[show IntKind.wrap .i64 (0+1)=1 from rfl]
   simpa[E.bf]using this
  refine cm hL ?_
  simp only[↓zq,zs,af,zt]
  refine⟨by simp;omega,?_⟩
  simp[eI]
theorem Jz(e:E)(h:e.ok)(hl:(eI e).length<=900000):aq Tryz.prog 60 [e.kb] [] (bz (.v (.string (mk (eI e))))):=Bs (e.sz+1) e (by omega) h (by omega)
mutual
def E.nd:E->Nat
 | .atom _=>1
 | .list []=>1
 | .list (_::l)=>1+E.tI l
def E.tI:List E->Nat
 |[]=>0
 |e::l=>e.nd+E.tI l
end
mutual
theorem A3:∀e:E,e.nd<=e.sz
 | .atom s=>by simp[E.nd,E.sz]
 | .list []=>by simp[E.nd,E.sz,E.je]
 | .list (x::l)=>by have:=wg l;simp only[E.nd,E.sz,E.je];omega
theorem wg:∀l:List E,E.tI l<=E.je l
 |[]=>by simp[E.tI,E.je]
 |e::l=>by have:=A3 e;have:=wg l;simp only[E.tI,E.je];omega
end
theorem z6:∀(l:List E) (i:Nat) (h:i<l.length),E.tI (l.drop i)=(l[i]).nd+E.tI (l.drop (i+1)):=by
 intro l i h
 rw[aV h];rfl
theorem IG(l:List E)(hl:E.tI l<1000000)(hll:l.length<1000000)(ih:∀i (h:i<l.length),aq Tryz.prog 59 [(l[i]).kb] [] (bz (.v (.int .i64 ((l[i]).nd:Int))))) :
 ∀(k i n:Nat),i+k=l.length->n+E.tI (l.drop i)<=1+E.tI l->AA [.v (.int .i64 (n:Int)),.v (.int .i64 (i:Int))] [.cells [.v (.string (mk [])),.sl (E.bf l)]] (hZ 1 [.v (.int .i64 ((n+E.tI (l.drop i):Nat):Int))] [])
 |
  0,i,n,hi,hn=>by
  refine B5 _ _ _ _ ?_
  simp only[zU,↓zq,zs,af,dN]
  have:l.drop i=[]:=bE (by omega)
  refine⟨fun h=>by omega,fun _=>?_⟩
  simp[hZ,this,E.tI]
 |
  k+1,i,n,hi,hn=>by
  have hlt:i<l.length:=by omega
  refine B5 _ _ _ _ ?_
  simp only[zU,↓zq,zs,af,zt,dN,jm l i hlt,fU,iw,il,az]
  refine⟨fun _=>⟨by omega,?_⟩,fun h=>by omega⟩
  refine ak (ih i hlt) ?_
  have h1:=z6 l i hlt
  simp only[↓zq,zs,af]
  rw[bw i (by omega),wrap64 _ (by omega) (by omega)]
  have:=IG l hl hll ih k (i+1) (n+(l[i]).nd) (by omega) (by omega)
  rw[h1,<-Nat.add_assoc]
  simpa using this
theorem KM:∀(n:Nat) (e:E),e.sz<n->e.sz<900000->aq Tryz.prog 59 [e.kb] [] (bz (.v (.int .i64 (e.nd:Int))))
 |0,e,hn,_=>by omega
 |
  n+1,.atom s,hn,hl=>by
  refine Jd _ _ ((bp).mpr trivial) ?_
  simp only[Eo]
  have hL:AA [.v (.int .i64 1),.v (.int .i64 1)] [.cells [.v (.string (mk s)),.v (.slice none 0 0)]] (hZ 1 [.v (.int .i64 1)] []):=by
   refine B5 _ _ _ _ ?_
   simp[zU,↓zq,zs,af,hZ]
  refine cm hL ?_
  simp[↓zq,zs,af,bz,E.nd]
 |
  n+1,.list l,hn,hl=>by
  refine Jd _ _ ((ck _).mpr trivial) ?_
  simp only[E.sz]at hn hl
  simp only[Eo]
  match l,hn,hl with
  |
   [],hn,hl =>
   have hL:AA [.v (.int .i64 1),.v (.int .i64 1)] [.cells [.v (.string (mk [])),.sl (E.bf [])]] (hZ 1 [.v (.int .i64 1)] []):=by
    refine B5 _ _ _ _ ?_
    simp[zU,↓zq,zs,af,hZ,E.bf]
   refine cm hL ?_
   simp[↓zq,zs,af,bz,E.nd]
  |
   x::l,hn,hl =>
   simp only[E.je]at hn hl
   have h1:=wg l
   have h2:=tc l
   have h0:=A3 x
   refine cm (IG (x::l) (by simp only[E.tI];omega) (by simp;omega) (fun i hi=>?_) l.length 1 1 (by simp;omega) (by simp[E.tI])) ?_
   ·have:=tF (x::l) i hi
    simp only[E.je]at this
    exact KM n _ (by omega) (by omega)
   ·simp[↓zq,zs,af,E.nd,bz]
theorem OD(e:E)(hl:e.sz<900000):aq Tryz.prog 59 [e.kb] [] (bz (.v (.int .i64 (e.nd:Int)))):=KM (e.sz+1) e (by omega) hl
inductive Vl where
 |u
 |el (k:Nat)
 |l (v:Vl)
 |r (v:Vl)
 |f (v:Vl)
 |p (a b:Vl)
abbrev vZ(k:Nat):List UInt8:=101::dd k
abbrev iR:AV:=.v (.pointer none)
def Vl.cn:Vl->AV
 | .u=>.ptr [.v (.int .u8 117),.v (.string (mk [])),iR,iR]
 | .el k=>.ptr [.v (.int .u8 101),.v (.string (mk (vZ k))),iR,iR]
 | .l v=>.ptr [.v (.int .u8 108),.v (.string (mk [])),v.cn,iR]
 | .r v=>.ptr [.v (.int .u8 114),.v (.string (mk [])),v.cn,iR]
 | .f v=>.ptr [.v (.int .u8 102),.v (.string (mk [])),v.cn,iR]
 | .p a b=>.ptr [.v (.int .u8 112),.v (.string (mk [])),a.cn,b.cn]
def Vl.dc:Vl->E
 | .u=>.atom [117]
 | .el k=>.atom (vZ k)
 | .l v=>.list [.atom [108],v.dc]
 | .r v=>.list [.atom [114],v.dc]
 | .f v=>.list [.atom [102],v.dc]
 | .p a b=>.list [.atom [112],a.dc,b.dc]
def Vl.nodes:Vl->Nat
 | .l v=>1+v.nodes
 | .r v=>1+v.nodes
 | .f v=>1+v.nodes
 | .p a b=>1+a.nodes+b.nodes
 |_=>1
def Vl.iq(n:Nat):Vl->Prop
 | .el k=>k<n
 | .l v=>v.iq n
 | .r v=>v.iq n
 | .f v=>v.iq n
 | .p a b=>a.iq n/\b.iq n
 | .u=>True
abbrev Vl.dm(v:Vl):List UInt8:=eI v.dc
theorem aL(v:Vl):LK.has .ptr v.cn=True:=by cases v<;>simp[Vl.cn,cc]
theorem er(v:Vl):v.cn.isNil=false:=by cases v<;>rfl
theorem m9:∀v:Vl,v.dc.ok
 | .u=>by simp[Vl.dc,E.ok]
 | .el k=>by simp[Vl.dc,E.ok]
 | .l v=>⟨by simp[E.ok],m9 v,trivial⟩
 | .r v=>⟨by simp[E.ok],m9 v,trivial⟩
 | .f v=>⟨by simp[E.ok],m9 v,trivial⟩
 | .p a b=>⟨by simp[E.ok],m9 a,m9 b,trivial⟩
theorem ni:∀v:Vl,v.dc.nd=v.nodes
 | .u=>rfl
 | .el k=>rfl
 | .l v=>by simp[Vl.dc,E.nd,E.tI,Vl.nodes,ni v]
 | .r v=>by simp[Vl.dc,E.nd,E.tI,Vl.nodes,ni v]
 | .f v=>by simp[Vl.dc,E.nd,E.tI,Vl.nodes,ni v]
 | .p a b=>by simp[Vl.dc,E.nd,E.tI,Vl.nodes,ni a,ni b,Nat.add_assoc]
theorem iM:∀v:Vl,v.iq 100->v.dm.length<=200*v.nodes
 | .u,_=>by simp[Vl.dm,Vl.dc,eI,Vl.nodes]
 |
  .el k,h=>by
  have h':k<100:=h
  have:=oE 1000 k (by omega)
  simp only[Vl.dm,Vl.dc,eI,Vl.nodes,aw];omega
 | .l v,h=>by have:=iM v h;simp only[Vl.dm,Vl.dc,eI,dT,Vl.nodes,aw,an,aG]at this |-;omega
 | .r v,h=>by have:=iM v h;simp only[Vl.dm,Vl.dc,eI,dT,Vl.nodes,aw,an,aG]at this |-;omega
 | .f v,h=>by have:=iM v h;simp only[Vl.dm,Vl.dc,eI,dT,Vl.nodes,aw,an,aG]at this |-;omega
 | .p a b,h=>by have:=iM a h.1;have:=iM b h.2;simp only[Vl.dm,Vl.dc,eI,dT,Vl.nodes,aw,an,aG]at *;omega
theorem yw(a b:AV)(h:LK.ptr.has a)(h':LK.ptr.has b):aq Tryz.prog 112 [a,b] [] (bz (.ptr [.v (.int .u8 112),.v (.string (mk [])),a,b])):=by
 refine N5 _ _ h h' ?_
 simp[Hs,↓zq,zs,af,bz]
theorem dx(v:Vl):1<=v.nodes:=by cases v<;>simp[Vl.nodes]<;>omega
theorem DZ:∀(v:Vl),v.nodes<1000000->aq Tryz.prog 84 [v.cn] [] (bz (.v (.int .i64 (v.nodes:Int))))
 | .u,h=>by refine yp _ ((aL _).mpr trivial) ?_;simp[vd,Vl.cn,↓zq,zs,af,bz,Vl.nodes]
 | .el k,h=>by refine yp _ ((aL _).mpr trivial) ?_;simp[vd,Vl.cn,↓zq,zs,af,bz,Vl.nodes]
 |
  .l v,h=>by
  simp only[Vl.nodes]at h
  refine yp _ ((aL _).mpr trivial) ?_
  simp only[vd,Vl.cn,↓zq,zs,af,aL,er]
  refine⟨by omega,fun _=>⟨by omega,?_⟩,fun h=>(by cases h)⟩
  refine ak (DZ v (by omega)) ?_
  simp only[↓zq,zs,af,bz,Vl.nodes]
  rw[wrap64 _ (by omega) (by omega)]
  simp
 |
  .r v,h=>by
  simp only[Vl.nodes]at h
  refine yp _ ((aL _).mpr trivial) ?_
  simp only[vd,Vl.cn,↓zq,zs,af,aL,er]
  refine⟨by omega,fun _=>⟨by omega,?_⟩,fun h=>(by cases h)⟩
  refine ak (DZ v (by omega)) ?_
  simp only[↓zq,zs,af,bz,Vl.nodes]
  rw[wrap64 _ (by omega) (by omega)]
  simp
 |
  .f v,h=>by
  simp only[Vl.nodes]at h
  refine yp _ ((aL _).mpr trivial) ?_
  simp only[vd,Vl.cn,↓zq,zs,af,aL,er]
  refine⟨by omega,fun _=>⟨by omega,?_⟩,fun h=>(by cases h)⟩
  refine ak (DZ v (by omega)) ?_
  simp only[↓zq,zs,af,bz,Vl.nodes]
  rw[wrap64 _ (by omega) (by omega)]
  simp
 |
  .p a b,h=>by
  simp only[Vl.nodes]at h
  refine yp _ ((aL _).mpr trivial) ?_
  simp only[vd,Vl.cn,↓zq,zs,af,aL,er]
  refine⟨by omega,fun _=>⟨by omega,?_⟩,fun h=>(by cases h)⟩
  refine ak (DZ a (by omega)) ?_
  simp only[↓zq,zs,af,aL,er]
  rw[wrap64 (1+(a.nodes:Int)) (by omega) (by omega)]
  refine⟨by omega,fun _=>⟨by omega,?_⟩,fun h=>(by cases h)⟩
  refine ak (DZ b (by omega)) ?_
  simp only[↓zq,zs,af,bz,Vl.nodes]
  rw[wrap64 _ (by omega) (by omega)]
  congr 2
end Go.Proofs.Trees
namespace Go.Proofs.Trees
open Go Go.VL Go.RowKit
def yi:List UInt8->Nat->Option Nat
 |[],n=>some n
 |b::r,n=>if gL b=true then yi r (10*n+(b.toNat-48))else none
def fu(s:List UInt8):Option Nat :=
 if s.length=2\/s.length=3 then(if s.getD 0 0=101/\¬(s.length=3/\s.getD 1 0=48)then yi (s.drop 1) 0 else none)else none
def zI(s:List UInt8):Int:=match fu s with|some k=>(k:Int)|none=>-1
theorem I3(s:List UInt8)(hs:s.length<=3):∀(k i n:Nat),i+k=s.length->1<=i->(n+1)*10 ^ k<=1000->ET [.v (.string (mk s)),.v (.int .i64 (n:Int)),.v (.int .i64 (i:Int))] []
 (rm (match yi (s.drop i) n with|some m=>(1,[.v (.int .i64 (m:Int))],[])|none=>(2,[.v (.int .i64 (-1))],[])))
 |
  0,i,n,hi,h1,hn=>by
  refine Kl _ _ _ ?_
  have hd:s.drop i=[]:=bE (by omega)
  simp only[Fq,↓zq,zs,af,zt,hd,yi]
  exact⟨fun h=>by omega,fun _=>by first|trivial|rfl⟩
 |
  k+1,i,n,hi,h1,hn=>by
  have hlt:i<s.length:=by omega
  refine Kl _ _ _ ?_
  rw[drop_cons hlt,yi]
  simp only[Fq,↓zq,zs,af,zt,lH s i hlt]
  generalize s.getD i 0=b
  have hb:=b.toNat_lt
  refine⟨fun _=>⟨by omega,fun h48=>?_,fun h48=>⟨by omega,fun h57=>?_,fun h57=>⟨by omega,?_⟩⟩⟩,fun h=>by omega⟩
  ·have:gL b=false:=by simp only[gL,decide_eq_false_iff_not];omega
   rw[this];rfl
  ·have:gL b=false:=by simp only[gL,decide_eq_false_iff_not];omega
   rw[this];rfl
  ·have:gL b=true:=by simp only[gL,decide_eq_true_eq];omega
   rw[if_pos this]
   have hk:k=0\/k=1:=by omega
   have hn2:n*10<=1000:=by
    rcases hk with rfl|rfl<;>simp at hn<;>omega
   have e8:IntKind.wrap .u8 ((b.toNat:Int)-48)=((b.toNat-48:Nat):Int):=by
    have:b.toNat=48\/b.toNat=49\/b.toNat=50\/b.toNat=51\/b.toNat=52\/b.toNat=53\/b.toNat=54\/b.toNat=55\/b.toNat=56\/b.toNat=57:=by omega
    rcases this with h|h|h|h|h|h|h|h|h|h<;>rw[h]<;>rfl
   rw[e8,bw i (by omega),wrap64 ((b.toNat-48:Nat):Int) (by omega) (by omega),wrap64 (10*(n:Int)) (by omega) (by omega),wrap64 _ (by omega) (by omega)]
   have e:(10*(n:Int)+((b.toNat-48:Nat):Int))=((10*n+(b.toNat-48):Nat):Int):=by omega
   rw[e]
   exact I3 s hs k (i+1) _ (by omega) (by omega) (by rcases hk with rfl|rfl<;>simp at hn |-<;>omega)
theorem KN(s:List UInt8):aq Tryz.prog 102 [.v (.string (mk s))] [] (bz (.v (.int .i64 (zI s)))):=by
 refine Nt _ ?_
 unfold HL
 refine ak (BH _ _ _) ?_
 simp only[↓zq,zs,af,zt,Dn,bz]
 have hL:∀(Q:Nat->List AV->List Ob->Prop),(s.length=2\/s.length=3)->s.getD 0 0=101->¬(s.length=3/\s.getD 1 0=48)->(Q 0 [.v (.int .i64 (zI s))] []) ->
  eK Tryz.prog 49 (.loop Cg y0 [.v (.string (mk s)),.v (.int .i64 0),.v (.int .i64 1)] [] (fun y2 q2=>.aj (LK.has (.int .i64) (y2.headD .any))<|.done 0 [.v (.int .i64 ((y2.headD .any).toInt))] []) (fun y2 q2=>.aj (LK.has (.int .i64) (y2.headD .any))<|.done 0 [.v (.int .i64 ((y2.headD .any).toInt))] [])) Q:=by
  intro Q hl h0 h1 hQ
  have e:fu s=yi (s.drop 1) 0:=by rw[fu,if_pos hl,if_pos ⟨h0,h1⟩]
  refine iX (I3 s (by omega) (s.length-1) 1 0 (by omega) (by omega) (by rcases hl with h|h<;>rw[h]<;>decide)) (fun ys o e'=>?_) (fun ys o e'=>?_)
  ·cases hq:yi (s.drop 1) 0<;>rw[hq]at e'<;>cases e'
   rw[hq]at e
   simp only[zI,e]at hQ
   simp only[↓zq,zs,af];exact hQ
  ·cases hq:yi (s.drop 1) 0<;>rw[hq]at e'<;>cases e'
   rw[hq]at e
   simp only[zI,e]at hQ
   simp only[↓zq,zs,af];exact hQ
 have hz:∀{i:Nat},i<s.length->bt (mk s) (i:Int)=((s.getD i 0).toNat:Int):=fun h=>lH s _ h
 refine⟨fun h=>?_,fun h=>⟨?_,fun h0=>?_,fun h0=>⟨fun h3=>⟨by omega,fun h1=>?_,fun h1=>?_⟩,fun h3=>?_⟩⟩⟩
 ·have h':¬(2<=(s.length:Int)/\(s.length:Int)<=3):=by simpa using h
  rw[zI,fu,if_neg (by omega)]
 ·have h':2<=(s.length:Int)/\(s.length:Int)<=3:=by simpa using h
  omega
 ·have h':2<=(s.length:Int)/\(s.length:Int)<=3:=by simpa using h
  have e0:=hz (i:=0) (by omega)
  simp only[cC,cS]at e0
  rw[e0]at h0
  rw[zI,fu,if_pos (by omega),if_neg]
  rintro⟨e,_⟩
  rw[e]at h0;exact h0 rfl
 ·have h':2<=(s.length:Int)/\(s.length:Int)<=3:=by simpa using h
  have e1:=hz (i:=1) (by omega)
  simp only[cC,cS]at e1
  rw[e1]at h1
  rw[zI,fu,if_pos (by omega),if_neg]
  rintro⟨_,e⟩
  refine e ⟨by omega,?_⟩
  rw[<-dB];show (s.getD 1 0).toNat=48;omega
 ·have h':2<=(s.length:Int)/\(s.length:Int)<=3:=by simpa using h
  have e0:=hz (i:=0) (by omega)
  have e1:=hz (i:=1) (by omega)
  simp only[cC,cS]at e0 e1
  rw[e0]at h0;rw[e1]at h1
  refine hL _ (by omega) ?_ ?_ ⟨rfl,rfl⟩
  ·rw[<-dB];show (s.getD 0 0).toNat=101;omega
  ·rintro⟨_,e⟩;rw[e]at h1;exact h1 rfl
 ·have h':2<=(s.length:Int)/\(s.length:Int)<=3:=by simpa using h
  have e0:=hz (i:=0) (by omega)
  simp only[cC,cS]at e0
  rw[e0]at h0
  refine hL _ (by omega) ?_ ?_ ⟨rfl,rfl⟩
  ·rw[<-dB];show (s.getD 0 0).toNat=101;omega
  ·rintro⟨e,_⟩;omega
theorem nR:∀(l:List UInt8) (n:Nat),(yi l n).isSome=l.all gL
 |[],n=>rfl
 |
  b::l,n=>by
  rw[yi]
  cases hb:gL b with
  |true=>rw[if_pos rfl,nR l];simp[hb]
  |false=>rw[if_neg (by simp)];simp[hb]
theorem IN(s:List UInt8):aq Tryz.prog 128 [.v (.string (mk s))] [] (bz (.v (.bool (fu s).isSome))):=by
 refine L9 _ ?_
 simp only[JE,↓zq,zs,af,zt,bz]
 have hz:∀{i:Nat},i<s.length->bt (mk s) (i:Int)=((s.getD i 0).toNat:Int):=fun h=>lH s _ h
 refine⟨fun h=>?_,fun h=>⟨fun h3=>?_,fun h3=>?_⟩⟩
 ·rw[fu,if_neg (by omega)];rfl
 ·rw[fu,if_neg (by omega)];rfl
 ·have e0:=hz (i:=0) (by omega)
  have e1:=hz (i:=1) (by omega)
  simp only[cC,cS]at e0 e1
  rw[e0,e1]
  have hx:s.drop (bR 1)=s.drop 1:=rfl
  refine⟨by omega,fun h0=>?_,fun h0=>⟨by omega,?_⟩⟩
  ·rw[fu,if_pos (by omega),if_neg]
   ·rfl
   ·rintro⟨e,_⟩;rw[e]at h0;exact h0 rfl
  ·rw[hx]
   refine ak (Js (s.drop 1) DT (by simp;omega) (by decide) (by decide)) ?_
   simp only[↓zq,zs,af,zt]
   have h101:s.getD 0 0=101:=by rw[<-dB];show (s.getD 0 0).toNat=101;omega
   have hall:Lib.trimS (s.drop 1) DT=[]↔(s.drop 1).all gL=true:=by
    rw[rD]
    have:(fun x=>DT.contains x)=gL:=funext tX
    rw[this]
   refine⟨fun ht=>?_,fun ht=>⟨fun h2=>?_,fun h2=>⟨by omega,?_⟩⟩⟩
   ·have:(s.drop 1).all gL=false:=by
     cases hq:(s.drop 1).all gL with
     |false=>rfl
     |true=>exact absurd (hall.2 hq) ht
    rw[fu,if_pos (by omega)]
    split
    ·rw[nR,this]
    ·rfl
   ·have hq:=hall.1 ht
    rw[fu,if_pos (by omega),if_pos ⟨h101,by omega⟩,nR,hq]
   ·have hq:=hall.1 ht
    rw[fu,if_pos (by omega)]
    by_cases h48:s.getD 1 0=48
    ·rw[if_neg (by rintro⟨_,e⟩;exact e ⟨by omega,h48⟩),h48];rfl
    ·rw[if_pos ⟨h101,fun e=>h48 e.2⟩,nR,hq]
     have:¬((s.getD 1 0).toNat:Int)=48:=fun e=>h48 (by rw[<-dB];show (s.getD 1 0).toNat=48;omega)
     rw[bne_iff_ne.2 this]
theorem sk{s:List UInt8}{k:Nat}(h:fu s=some k):s=vZ k/\k<100:=by
 have key1:∀a:Fin 256,gL (aZ a.val)=true->yi [aZ a.val] 0=some ((aZ a.val).toNat-48)/\(aZ a.val).toNat-48<10/\[aZ a.val]=[aZ (48+((aZ a.val).toNat-48))]:=by decide +kernel
 unfold fu at h
 split at h
 ·rename_i hl
  split at h
  ·rename_i hh
   obtain⟨h0,h1⟩:=hh
   rcases hl with hl|hl
   ·match s,hl with
    |
     [c,a],_ =>
     simp only[bc]at h0
     subst h0
     simp only[List.drop_succ_cons,bj,yi]at h
     split at h
     ·rename_i ha
      have:=key1 ⟨a.toNat,a.toNat_lt⟩ (by simpa using ha)
      simp only[UInt8.ofNat_toNat]at this
      cases h
      refine⟨?_,by omega⟩
      rw[vZ,ep (by omega)]
      simp only[Nat.mul_zero,aS]
      rw[<-this.2.2]
     ·cases h
   ·match s,hl with
    |
     [c,a,b],_ =>
     simp only[bc,List.getD_cons_succ,aw,aG,true_and]at h0 h1
     subst h0
     simp only[List.drop_succ_cons,bj,yi]at h
     split at h
     ·rename_i ha
      split at h
      ·rename_i hb
       have k1:=key1 ⟨a.toNat,a.toNat_lt⟩ (by simpa using ha)
       have k2:=key1 ⟨b.toNat,b.toNat_lt⟩ (by simpa using hb)
       simp only[UInt8.ofNat_toNat]at k1 k2
       have ha':48<=a.toNat/\a.toNat<=57:=by simpa[gL]using ha
       have hb':48<=b.toNat/\b.toNat<=57:=by simpa[gL]using hb
       have h48:a.toNat≠48:=fun e=>h1 (by rw[<-dB];simpa using e)
       cases h
       simp only[Nat.mul_zero,aS]
       refine⟨?_,by omega⟩
       rw[vZ,fw (by omega),ep (by omega)]
       have e1:(10*(a.toNat-48)+(b.toNat-48))/10=a.toNat-48:=by omega
       have e2:(10*(a.toNat-48)+(b.toNat-48))%10=b.toNat-48:=by omega
       rw[e1,e2,<-k1.2.2,<-k2.2.2];rfl
      ·cases h
     ·cases h
  ·cases h
 ·cases h
theorem uE(k:Nat)(h:k<100):fu (vZ k)=some k:=by
 have e:∀k,k<100->dd k=if k<10 then [aZ (48+k)]else [aZ (48+k/10),aZ (48+k%10)]:=by
  intro k hk
  by_cases h1:k<10
  ·rw[ep h1,if_pos h1]
  ·rw[fw h1,ep (by omega),if_neg h1];rfl
 have key:∀k:Fin 100,fu (101::(if k.val<10 then [aZ (48+k.val)]else [aZ (48+k.val/10),aZ (48+k.val%10)]))=some k.val:=by decide +kernel
 rw[vZ,e k h];exact key ⟨k,h⟩
theorem Ez(k:Nat)(h:k<100):zI (vZ k)=(k:Int):=by rw[zI,uE k h]
def xn:E->Bool
 | .atom s=>(s==[117])||(fu s).isSome
 | .list [x,a]=>((x.at==[108])||(x.at==[114])||(x.at==[102]))&&xn a
 | .list [x,a,b]=>(x.at==[112])&&(xn a&&xn b)
 | .list _=>false
def fq:E->Option Vl
 | .atom s=>if s=[117]then some .u else match fu s with|some k=>some (.el k)|none=>none
 |
  .list [x,a]=>match fq a with
  |none=>none
  |some v=>if x.at=[108]then some (.l v)else if x.at=[114]then some (.r v)else if x.at=[102]then some (.f v)else none
 | .list [x,a,b]=>if x.at=[112]then(match fq a,fq b with|some v,some w=>some (.p v w)|_,_=>none)else none
 | .list _=>none
theorem oq:∀e:E,(fq e).isSome=xn e
 |
  .atom s=>by
  simp only[fq,xn]
  by_cases h:s=[117]
  ·simp[h]
  ·rw[if_neg h];cases fu s<;>simp[h]
 | .list []=>rfl
 | .list [_]=>rfl
 |
  .list [x,a]=>by
  have ha:=oq a
  rw[fq,xn,<-ha]
  cases fq a with
  |none=>simp
  |
   some v =>
   by_cases h1:x.at=[108]
   ·simp[h1]
   ·by_cases h2:x.at=[114]
    ·simp[h2]
    ·by_cases h3:x.at=[102]
     ·simp[h3]
     ·simp[h1,h2,h3]
 |
  .list [x,a,b]=>by
  have ha:=oq a
  have hb:=oq b
  rw[fq,xn,<-ha,<-hb]
  by_cases h1:x.at=[112]
  ·rw[if_pos h1,h1];cases fq a<;>cases fq b<;>rfl
  ·simp[h1]
 | .list (_::_::_::_::_)=>rfl
theorem j7{x:E}{w:List UInt8}(h:x.at=w)(hw:w≠[]):x=.atom w:=by
 cases x with
 |atom s=>exact congrArg E.atom h
 |list l=>exact absurd h.symm hw
theorem ku:∀(e:E) (v:Vl),fq e=some v->v.dc=e/\v.iq 100
 |
  .atom s,v,h=>by
  simp only[fq]at h
  split at h
  ·rename_i h1;cases h;exact⟨by rw[h1];rfl,trivial⟩
  ·split at h
   ·rename_i k hk
    cases h
    obtain⟨h1,h2⟩:=sk hk
    exact⟨by rw[h1];rfl,h2⟩
   ·cases h
 | .list [],_,h=>by cases h
 | .list [_],_,h=>by cases h
 | .list (_::_::_::_::_),_,h=>by cases h
 |
  .list [x,a],v,h=>by
  rw[fq]at h
  split at h
  ·cases h
  ·rename_i w hw
   obtain⟨h1,h2⟩:=ku a w hw
   split at h
   ·rename_i hx;cases h;rw[j7 hx (by simp)];exact⟨by rw[Vl.dc,h1],h2⟩
   ·split at h
    ·rename_i hx;cases h;rw[j7 hx (by simp)];exact⟨by rw[Vl.dc,h1],h2⟩
    ·split at h
     ·rename_i hx;cases h;rw[j7 hx (by simp)];exact⟨by rw[Vl.dc,h1],h2⟩
     ·cases h
 |
  .list [x,a,b],v,h=>by
  rw[fq]at h
  split at h
  ·rename_i hx
   split at h
   ·rename_i w1 w2 hw1 hw2
    cases h
    obtain⟨h1,h2⟩:=ku a w1 hw1
    obtain⟨h3,h4⟩:=ku b w2 hw2
    rw[j7 hx (by simp)]
    exact⟨by rw[Vl.dc,h1,h3],h2,h4⟩
   ·cases h
  ·cases h
def pB(e:E)(w:List UInt8)(k:Nat):Bool:=match e with| .list (x::l)=>decide (l.length+1=k)&&(x.at==w)|_=>false
theorem sb(e:E)(w:List UInt8)(k:Nat)(hk:1<=k):aq Tryz.prog 119 [e.cn,.v (.string (mk w)),.v (.int .i64 (k:Int))] [] (bz (.v (.bool (pB e w k)))):=by
 refine JM _ _ _ ((cD e).mpr trivial) ?_
 cases e with
 |atom s=>simp only[At,E.cn,↓zq,zs,af,zt,bz,pB];exact⟨by omega,fun h=>by omega,fun _=>trivial⟩
 |
  list l =>
  simp only[At,E.cn,↓zq,zs,af,zt,bz,p8]
  cases l with
  |nil=>exact⟨by simp,fun h=>by simp at h;omega,fun _=>rfl⟩
  |
   cons x l =>
   simp only[aw]
   refine⟨by simp,fun h=>?_,fun h=>?_⟩
   ·have:decide (l.length+1=k)=true:=by rw[decide_eq_true_eq];omega
    simp only[pB,this]
    cases x<;>simp[E.lK,E.cn,cc,oV,ju,eX,s4,toList_mk,E.at]
   ·have:decide (l.length+1=k)=false:=by rw[decide_eq_false_iff_not];omega
    simp only[pB,this];rfl
def gm:Option Vl->AV
 |some v=>v.cn
 |none=>.v (.pointer none)
end Go.Proofs.Trees
namespace Go.Proofs.Trees
open Go Go.VL Go.RowKit
theorem gM(v:Option Vl):LK.has .ptr (gm v)=True:=by cases v<;>simp[gm,aL,iG]
theorem ye:∀(e:E),e.ok->aq Tryz.prog 87 [e.cn] [] (bz (gm (fq e)))
 |
  .atom s,hok=>by
  refine Ix _ ((cD _).mpr trivial) ?_
  have hd:=nh (.atom s)
  have hlen:=lf (.atom s)
  simp only[E.at]at hd
  simp only[DL,↓zq,zs,af,zt,bz,cD,dU,hd,fq]
  refine⟨hlen,fun h=>?_,fun h=>⟨hlen,?_⟩⟩
  ·rw[if_pos h];rfl
  ·rw[if_neg h]
   refine ak (IN s) ?_
   simp only[↓zq,zs,af,zt]
   refine⟨fun he=>⟨hlen,?_⟩,fun he=>?_⟩
   ·obtain⟨k,hk⟩:=bM.1 he
    obtain⟨h1,h2⟩:=sk hk
    rw[hk,h1];rfl
   ·have hn:fu s=none:=by cases hq:fu s<;>simp[hq]at he |-
    rw[hn]
    refine ak (sb (.atom s) [108] 2 (by omega)) ?_
    simp only[pB,↓zq,zs,af,zf]
    refine⟨fun h=>(by cases h),fun _=>ak (sb (.atom s) [114] 2 (by omega)) ?_⟩
    simp only[pB,↓zq,zs,af,zf]
    refine⟨fun h=>(by cases h),fun _=>ak (sb (.atom s) [102] 2 (by omega)) ?_⟩
    simp only[pB,↓zq,zs,af,zf]
    refine⟨fun h=>(by cases h),fun _=>ak (sb (.atom s) [112] 3 (by omega)) ?_⟩
    simp only[pB,↓zq,zs,af,zf]
    exact⟨fun h=>(by cases h),fun _=>rfl⟩
 |
  .list l,hok=>by
  refine Ix _ ((cD _).mpr trivial) ?_
  have hd:=nh (.list l)
  have hlen:=lf (.list l)
  have hlen2:∀{l:List E},((AV.v (.string (mk [])))::[AV.sl (E.lK l)]).length=2:=rfl
  simp only[E.at]at hd
  have he:fu []=none:=rfl
  simp only[DL,↓zq,zs,af,zt,bz,cD,dU,hd]
  refine⟨hlen,fun h=>(by cases h),fun h=>⟨hlen,?_⟩⟩
  refine ak (IN []) ?_
  rw[he]
  simp only[↓zq,zs,af,zt,zf,Option.isSome_none]
  refine⟨fun h=>(by cases h),fun _=>ak (sb (.list l) [108] 2 (by omega)) ?_⟩
  have hno:∀w:List UInt8,(∀x a,l≠[x,a])->pB (.list l) w 2=false:=by
   intro w h2
   match l,h2 with
   |[],_=>rfl
   |[x],_=>rfl
   |[x,a],h2=>exact absurd rfl (h2 x a)
   |x::y::z::l,_=>simp[pB]
  match l,hok,hno,hlen with
  |
   [x,a],hok,hno,hlen =>
   clear hno
   obtain⟨ok1,ok2,_⟩:=hok
   have e2:∀w:List UInt8,pB (.list [x,a]) w 2=(x.at==w):=fun w=>rfl
   have e3:pB (.list [x,a]) [112] 3=false:=rfl
   have hx:=nh x
   have hxl:=lf x
   rw[fq]
   simp only[e2,↓zq,zs,af]
   refine⟨fun h1=>?_,fun h1=>ak (sb (.list [x,a]) [114] 2 (by omega)) ?_⟩
   ·simp only[E.cn,E.lK,toNat_one,↓zq,zs,af,zt,cD,dU]
    refine⟨by omega,by omega,by omega,ak (ye a ok2) ?_⟩
    cases hv:fq a with
    |none=>simp only[gm,↓zq,zs,af,gM];exact⟨fun _=>trivial,fun h=>(by cases h)⟩
    |
     some v =>
     simp only[gm,↓zq,zs,af,zt,aL,er,hx,h1,cD,dU]
     refine⟨fun h=>(by cases h),fun _=>⟨by omega,by omega,by omega,hxl,by simp,?_⟩⟩
     rfl
   ·simp only[e2,↓zq,zs,af]
    refine⟨fun h2=>?_,fun h2=>ak (sb (.list [x,a]) [102] 2 (by omega)) ?_⟩
    ·simp only[E.cn,E.lK,toNat_one,↓zq,zs,af,zt,cD,dU]
     refine⟨by omega,by omega,by omega,ak (ye a ok2) ?_⟩
     cases hv:fq a with
     |none=>simp only[gm,↓zq,zs,af,gM];exact⟨fun _=>trivial,fun h=>(by cases h)⟩
     |
      some v =>
      simp only[gm,↓zq,zs,af,zt,aL,er,hx,h2,cD,dU]
      refine⟨fun h=>(by cases h),fun _=>⟨by omega,by omega,by omega,hxl,by simp,?_⟩⟩
      rfl
    ·simp only[e2,↓zq,zs,af]
     refine⟨fun h3=>?_,fun h3=>ak (sb (.list [x,a]) [112] 3 (by omega)) ?_⟩
     ·simp only[E.cn,E.lK,toNat_one,↓zq,zs,af,zt,cD,dU]
      refine⟨by omega,by omega,by omega,ak (ye a ok2) ?_⟩
      cases hv:fq a with
      |none=>simp only[gm,↓zq,zs,af,gM];exact⟨fun _=>trivial,fun h=>(by cases h)⟩
      |
       some v =>
       simp only[gm,↓zq,zs,af,zt,aL,er,hx,h3,cD,dU]
       refine⟨fun h=>(by cases h),fun _=>⟨by omega,by omega,by omega,hxl,by simp,?_⟩⟩
       rfl
     ·rw[e3]
      simp only[↓zq,zs,af]
      refine⟨fun h=>(by cases h),fun _=>?_⟩
      cases fq a with
      |none=>rfl
      |some v=>simp only[if_neg h1,if_neg h2,if_neg h3];rfl
  |
   [x,a,b],hok,hno,hlen =>
   obtain⟨ok1,ok2,ok3,_⟩:=hok
   have h2:=fun w=>hno w (fun x a h=>(by cases h))
   rw[h2]
   simp only[↓zq,zs,af]
   refine⟨fun h=>(by cases h),fun _=>ak (sb (.list [x,a,b]) [114] 2 (by omega)) ?_⟩
   rw[h2]
   simp only[↓zq,zs,af]
   refine⟨fun h=>(by cases h),fun _=>ak (sb (.list [x,a,b]) [102] 2 (by omega)) ?_⟩
   rw[h2]
   simp only[↓zq,zs,af]
   refine⟨fun h=>(by cases h),fun _=>ak (sb (.list [x,a,b]) [112] 3 (by omega)) ?_⟩
   have e3:pB (.list [x,a,b]) [112] 3=(x.at==[112]):=rfl
   rw[e3,fq]
   simp only[↓zq,zs,af]
   refine⟨fun h1=>?_,fun h1=>?_⟩
   ·rw[if_pos h1]
    simp only[E.cn,E.lK,toNat_one,bq,↓zq,zs,af,zt,cD,dU]
    refine⟨by omega,by omega,by omega,ak (ye a ok2) ?_⟩
    simp only[↓zq,zs,af,gM,cD]
    refine⟨by omega,by omega,by omega,ak (ye b ok3) ?_⟩
    cases hv:fq a with
    |none=>cases hw:fq b<;>simp only[gm,↓zq,zs,af,gM,aL]<;>exact⟨fun _=>trivial,fun h=>(by cases h)⟩
    |
     some v =>
     cases hw:fq b with
     |
      none =>
      simp only[gm,↓zq,zs,af,gM,aL,er]
      exact⟨fun h=>(by cases h),fun _=>⟨fun _=>trivial,fun h=>(by cases h)⟩⟩
     |
      some w =>
      simp only[gm,↓zq,zs,af,aL,er]
      refine⟨fun h=>(by cases h),fun _=>⟨fun h=>(by cases h),fun _=>?_⟩⟩
      refine ak (yw _ _ ((aL _).mpr trivial) ((aL _).mpr trivial)) ?_
      simp only[↓zq,zs,af];rfl
   ·rw[if_neg h1];rfl
  |
   [],hok,hno,hlen =>
   have h2:=fun w=>hno w (fun x a h=>(by cases h))
   have e3:pB (.list []) [112] 3=false:=rfl
   rw[h2]
   simp only[↓zq,zs,af]
   refine⟨fun h=>(by cases h),fun _=>ak (sb (.list []) [114] 2 (by omega)) ?_⟩
   rw[h2]
   simp only[↓zq,zs,af]
   refine⟨fun h=>(by cases h),fun _=>ak (sb (.list []) [102] 2 (by omega)) ?_⟩
   rw[h2]
   simp only[↓zq,zs,af]
   refine⟨fun h=>(by cases h),fun _=>ak (sb (.list []) [112] 3 (by omega)) ?_⟩
   rw[e3]
   simp only[↓zq,zs,af]
   exact⟨fun h=>(by cases h),fun _=>rfl⟩
  |
   [x],hok,hno,hlen =>
   have h2:=fun w=>hno w (fun x a h=>(by cases h))
   have e3:pB (.list [x]) [112] 3=false:=rfl
   rw[h2]
   simp only[↓zq,zs,af]
   refine⟨fun h=>(by cases h),fun _=>ak (sb (.list [x]) [114] 2 (by omega)) ?_⟩
   rw[h2]
   simp only[↓zq,zs,af]
   refine⟨fun h=>(by cases h),fun _=>ak (sb (.list [x]) [102] 2 (by omega)) ?_⟩
   rw[h2]
   simp only[↓zq,zs,af]
   refine⟨fun h=>(by cases h),fun _=>ak (sb (.list [x]) [112] 3 (by omega)) ?_⟩
   rw[e3]
   simp only[↓zq,zs,af]
   exact⟨fun h=>(by cases h),fun _=>rfl⟩
  |
   x::y::z::w::l,hok,hno,hlen =>
   have h2:=fun w=>hno w (fun x a h=>(by cases h))
   have e3:pB (.list (x::y::z::w::l)) [112] 3=false:=by simp[pB]
   rw[h2]
   simp only[↓zq,zs,af]
   refine⟨fun h=>(by cases h),fun _=>ak (sb (.list (x::y::z::w::l)) [114] 2 (by omega)) ?_⟩
   rw[h2]
   simp only[↓zq,zs,af]
   refine⟨fun h=>(by cases h),fun _=>ak (sb (.list (x::y::z::w::l)) [102] 2 (by omega)) ?_⟩
   rw[h2]
   simp only[↓zq,zs,af]
   refine⟨fun h=>(by cases h),fun _=>ak (sb (.list (x::y::z::w::l)) [112] 3 (by omega)) ?_⟩
   rw[e3]
   simp only[↓zq,zs,af]
   exact⟨fun h=>(by cases h),fun _=>rfl⟩
def qy(s:List UInt8):Option Vl:=match pZ s with
 |none=>none
 |
  some e=>match fq e with
  |none=>none
  |some v=>if v.nodes>200 then none else some v
theorem jQ{s:List UInt8}{v:Vl}(h:qy s=some v):pZ s=some v.dc/\v.iq 100/\v.nodes<=200:=by
 unfold qy at h
 split at h
 ·cases h
 ·rename_i e he
  split at h
  ·cases h
  ·rename_i w hw
   split at h
   ·cases h
   ·cases h
    obtain⟨h1,h2⟩:=ku e _ hw
    rw[h1]
    exact⟨he,h2,by omega⟩
theorem wa{e:E}{v:Vl}(h:fq e=some v):v.nodes<=e.sz:=by
 obtain⟨h1,_⟩:=ku e v h
 rw[<-ni,h1];exact A3 e
theorem GY(s:List UInt8):aq Tryz.prog 44 [.v (.string (mk s))] [] (bz (gm (qy s))):=by
 refine Og _ ?_
 unfold Im
 refine ak (Ip s) ?_
 unfold qy
 cases he:pZ s with
 |none=>simp only[sQ,↓zq,zs,af,bz,gm];simp
 |
  some e =>
  obtain⟨h1,h2⟩:=nj he
  simp only[sQ,↓zq,zs,af,cD,dU]
  refine⟨fun h=>(by cases h),fun _=>?_⟩
  refine ak (ye e h1) ?_
  cases hv:fq e with
  |none=>simp only[gm,↓zq,zs,af,bz];simp
  |
   some v =>
   have hn:=wa hv
   simp only[gm,↓zq,zs,af,aL,er]
   refine⟨fun h=>(by cases h),fun _=>?_⟩
   refine ak (DZ v (by omega)) ?_
   simp only[↓zq,zs,af,bz]
   refine⟨fun h=>?_,fun h=>?_⟩
   ·rw[if_pos (by omega)]
   ·rw[if_neg (by omega)]
theorem xR:∀(e:E),e.ok->aq Tryz.prog 58 [e.kb] [] (bz (.v (.bool (xn e))))
 |
  .atom s,hok=>by
  refine yJ _ _ ((bp).mpr trivial) ?_
  have hne:s≠[]:=hok
  simp only[vI,↓zq,zs,af,zt,bz,xn]
  refine⟨fun _=>⟨fun h=>?_,fun h=>?_⟩,fun h=>absurd h hne⟩
  ·simp[h]
  ·refine ak (KN s) ?_
   have h':(s==[117])=false:=by simpa using h
   simp only[↓zq,zs,af,h',Bool.false_or]
   congr 2
   rw[zI]
   cases fu s with
   |none=>rfl
   |some k=>simp
 |
  .list [],hok=>by
  refine yJ _ _ ((ck _).mpr trivial) ?_
  simp only[vI,↓zq,zs,af,zt,bz,xn]
  refine⟨fun h=>absurd rfl h,fun _=>?_⟩
  refine ak Mf ?_
  simp[↓zq,zs,af,zt]
 |
  .list [x],hok=>by
  refine yJ _ _ ((ck _).mpr trivial) ?_
  simp only[vI,↓zq,zs,af,zt,bz,xn]
  refine⟨fun h=>absurd rfl h,fun _=>?_⟩
  refine ak (vf x _) ?_
  simp[↓zq,zs,af,zt,E.bf]
 |
  .list (x::y::z::w::l),hok=>by
  refine yJ _ _ ((ck _).mpr trivial) ?_
  simp only[vI,↓zq,zs,af,zt,bz,xn]
  refine⟨fun h=>absurd rfl h,fun _=>?_⟩
  refine ak (vf x _) ?_
  simp only[↓zq,zs,af,zt,E.bf]
  refine⟨fun _=>⟨fun h=>by omega,fun _=>trivial⟩,fun _=>⟨fun _=>⟨fun h=>by omega,fun _=>trivial⟩,fun _=>⟨fun _=>⟨fun h=>by omega,fun _=>trivial⟩,fun _=>⟨fun _=>⟨fun h=>by omega,fun _=>trivial⟩,fun _=>trivial⟩⟩⟩⟩
 |
  .list [x,a],hok=>by
  refine yJ _ _ ((ck _).mpr trivial) ?_
  obtain⟨ok1,ok2,_⟩:=hok
  simp only[vI,↓zq,zs,af,zt,bz,xn]
  refine⟨fun h=>absurd rfl h,fun _=>?_⟩
  refine ak (vf x _) ?_
  simp only[E.bf,toNat_one,bq,↓zq,zs,af,zt,il,fU,iw,lX,az]
  refine⟨fun h=>⟨fun _=>⟨by omega,?_⟩,fun h=>by omega⟩,fun h1=>⟨fun h=>⟨fun _=>⟨by omega,?_⟩,fun h=>by omega⟩,fun h2=>⟨fun h=>⟨fun _=>⟨by omega,?_⟩,fun h=>by omega⟩,fun h3=>⟨fun h=>⟨fun h=>by omega,fun _=>?_⟩,fun h=>?_⟩⟩⟩⟩
  ·refine ak (xR a ok2) ?_
   simp[↓zq,zs,af,h]
  ·refine ak (xR a ok2) ?_
   simp[↓zq,zs,af,h]
  ·refine ak (xR a ok2) ?_
   simp[↓zq,zs,af,h]
  ·simp[h]
  ·simp[h1,h2,h3]
 |
  .list [x,a,b],hok=>by
  refine yJ _ _ ((ck _).mpr trivial) ?_
  obtain⟨ok1,ok2,ok3,_⟩:=hok
  simp only[vI,↓zq,zs,af,zt,bz,xn]
  refine⟨fun h=>absurd rfl h,fun _=>?_⟩
  refine ak (vf x _) ?_
  simp only[E.bf,toNat_one,bq,↓zq,zs,af,zt,il,fU,iw,lX,az]
  refine⟨fun h=>⟨fun h=>by omega,fun _=>?_⟩,fun h1=>⟨fun h=>⟨fun h=>by omega,fun _=>?_⟩,fun h2=>⟨fun h=>⟨fun h=>by omega,fun _=>?_⟩,fun h3=>⟨fun h=>⟨fun _=>⟨by omega,?_⟩,fun h=>by omega⟩,fun h=>?_⟩⟩⟩⟩
  ·simp[h]
  ·simp[h]
  ·simp[h]
  ·refine ak (xR a ok2) ?_
   simp only[↓zq,zs,af,h]
   refine⟨fun ha=>⟨by omega,ak (xR b ok3) ?_⟩,fun ha=>?_⟩
   ·simp[↓zq,zs,af,ha]
   ·simp[ha]
  ·simp[h]
theorem N4(s:List UInt8):aq Tryz.prog 28 [.v (.string (mk s))] [] (kT ((qy s).map Vl.dc) (qy s).isSome):=by
 refine OH _ ?_
 unfold HM
 refine aQ (I1 s) (kT.ne _ _ (fun h=>h)) ?_
 rintro r o ⟨c,d,hd,rfl,hh⟩
 simp only[↓zq,zs,af,zt,bO,qy]
 refine⟨hd,fun h=>?_,fun h=>?_⟩
 ·obtain⟨e,he,hce⟩:=hh h
  obtain⟨hok,hsz⟩:=nj he
  rw[he,hce]
  refine ak (xR e hok) ?_
  simp only[↓zq,zs,af]
  have hs:=oq e
  refine⟨fun hi=>?_,fun hi=>?_⟩
  ·rw[hi]at hs
   obtain⟨v,hv⟩:=bM.1 hs
   obtain⟨h1,h2⟩:=ku e v hv
   refine ak (OD e (by omega)) ?_
   simp only[↓zq,zs,af,hv]
   have hnd:e.nd=v.nodes:=by rw[<-h1,ni]
   rw[hnd]
   refine⟨c,d,hd,?_,?_⟩
   ·rw[hce]
    by_cases h4:v.nodes>200
    ·rw[if_pos h4];exact congrArg (fun b=>AV.cW [e.kb,.v (.bool b)]) (decide_eq_false (show ¬((v.nodes:Nat):Int)<=200 by omega))
    ·rw[if_neg h4];exact congrArg (fun b=>AV.cW [e.kb,.v (.bool b)]) (decide_eq_true (show ((v.nodes:Nat):Int)<=200 by omega))
   ·split
    ·exact fun h=>by cases h
    ·exact fun _=>⟨e,by simp[h1],hce⟩
  ·rw[hi]at hs
   have hn:fq e=none:=by cases hq:fq e<;>simp[hq]at hs |-
   rw[hn]
   exact⟨c,d,hd,by rw[hce];rfl,fun h=>by cases h⟩
 ·have hn:pZ s=none:=by cases hq:pZ s<;>simp[hq]at h |-
  rw[hn]
  exact⟨c,d,hd,rfl,fun h=>by cases h⟩
end Go.Proofs.Trees
namespace Go.Proofs.Trees
open Go Go.VL Go.RowKit
inductive Fr where
 |mk (s:List UInt8) (e:E) (o:List Fr)
def Fr.nm:Fr->List UInt8| .mk s _ _=>s
def Fr.ex:Fr->E| .mk _ e _=>e
def Fr.out:Fr->List Fr| .mk _ _ o=>o
def names:List Fr->List (List UInt8)
 |[]=>[]
 |f::r=>names r++[f.nm]
def wU(e:E)(o:List Fr):Ty:=(cB e (names o)).getD .zero
def E.sp:E->AV
 | .atom _=>.v (.slice none 0 0)
 | .list l=>.sl (E.bf l)
theorem iD(e:E):e.gR=[.v (.string (mk e.at)),e.sp]:=by cases e<;>rfl
theorem ei(e:E):e.kb=.agg [.v (.string (mk e.at)),e.sp]:=by cases e<;>rfl
theorem bb(e:E):LK.has .sl e.sp=True:=by cases e<;>simp[E.sp,bp,ck]
mutual
def Fr.cells:Fr->List AV
 | .mk s e o=>[.v (.string (mk s)),.v (.string (mk e.at)),e.sp,.sl (jV o)]
def jV:List Fr->List (List AV)
 |[]=>[]
 |f::r=>jV r++[f.cells]
end
mutual
def Fr.cn:Fr->AV
 | .mk s e o=>.ptr [(wU e o).av,nP o]
def nP:List Fr->AV
 |[]=>iR
 |f::r=>.ptr [f.cn,nP r]
end
inductive WF:List Fr->Prop
 |nil:WF []
 |cons {s:List UInt8} {x a b:E} {t:Ty} {r:List Fr} (hs:cP s=true) (hok:(E.list [x,a,b]).ok) (hx:x.at=[114,101,99]) (ht:cB (.list [x,a,b]) (names r)=some t) (hf:bN t=false) (hr:WF r):WF (.mk s (.list [x,a,b]) r::r)
theorem kA:∀env:List Fr,(jV env).length=env.length
 |[]=>rfl
 |f::r=>by simp[jV,kA r]
theorem dX(env:List Fr):LK.has .ptr (nP env)=True:=by cases env<;>simp[nP,iG,cc]
theorem AB(f:Fr):LK.has .ptr f.cn=True:=by cases f;simp[Fr.cn,cc]
def findF(s:List UInt8):List Fr->Option Fr
 |[]=>none
 |f::r=>if f.nm=s then some f else findF s r
def hd(e:E)(env:List Fr):E×List Fr:=match findF e.at env with|some f=>(f.ex,f.out)|none=>(e,env)
theorem mr{env:List Fr}(h:WF env):findF [] env=none:=by
 induction h with
 |nil=>rfl
 |
  @cons s x a b t r hs hok hx ht hf hr ih =>
  rw[findF,if_neg (show ¬(Fr.mk s (.list [x,a,b]) r).nm=[] from Be hs)];exact ih
theorem xS{env:List Fr}(h:WF env){s:List UInt8}{f:Fr}(hf:findF s env=some f):cP s=true:=by
 induction h with
 |nil=>cases hf
 |
  cons hs hok hx ht hf' hr ih =>
  rw[findF]at hf
  split at hf
  ·rename_i e;exact e ▸ hs
  ·exact ih hf
theorem nO{env:List Fr}(h:WF env){s:List UInt8}{f:Fr}(hf:findF s env=some f):∃x a b t,f.ex=.list [x,a,b]/\(E.list [x,a,b]).ok/\x.at=[114,101,99]/\cB f.ex (names f.out)=some t/\bN t=false/\WF f.out/\f.out.length<env.length:=by
 induction h with
 |nil=>cases hf
 |
  cons hs hok hx ht hf' hr ih =>
  rw[findF]at hf
  split at hf
  ·cases hf;exact⟨_,_,_,_,rfl,hok,hx,ht,hf',hr,by simp[Fr.out]⟩
  ·obtain⟨x,a,b,t,h1,h2,h3,h4,h5,h6,h7⟩:=ih hf
   exact⟨x,a,b,t,h1,h2,h3,h4,h5,h6,by simp;omega⟩
theorem jX(s w:List UInt8)(ar:List (List UInt8)):∀i,i<=ar.length->bH s (ar++[w]) i=(bH s ar i).map (·+1)
 |0,_=>rfl
 |
  i+1,hi=>by
  have hlt:i<ar.length:=by omega
  have e:(ar++[w]).getD i []=ar.getD i []:=by simp[aa,List.getElem?_append_left hlt]
  rw[bH,bH,e,jX s w ar i (by omega)]
  split
  ·simp only[an,aw,aG,ct,Option.some.injEq];omega
  ·rfl
theorem um(s:List UInt8)(f:Fr)(r:List Fr):bH s (names (f::r)) (names (f::r)).length=if f.nm=s then some 0 else(bH s (names r) (names r).length).map (·+1):=by
 have e:(names (f::r)).length=(names r).length+1:=by simp[names]
 rw[e,bH]
 have e2:(names (f::r)).getD (names r).length []=f.nm:=by simp[names,aa]
 rw[e2]
 split
 ·rw[e];simp
 ·rw[names,jX _ _ _ _ (az _)]
theorem ou(s:List UInt8):∀env:List Fr,bH s (names env) (names env).length=none/\findF s env=none\/∃(u:Nat) (f:Fr),bH s (names env) (names env).length=some u/\findF s env=some f/\env[u]?=some f
 |[]=>.inl ⟨rfl,rfl⟩
 |
  f::r=>by
  rw[um,findF]
  split
  ·exact .inr ⟨0,f,rfl,rfl,rfl⟩
  ·rcases ou s r with⟨h1,h2⟩|⟨u,g,h1,h2,h3⟩
   ·exact .inl ⟨by rw[h1];rfl,h2⟩
   ·exact .inr ⟨u+1,g,by rw[h1];rfl,h2,by simpa using h3⟩
def Ty.LQ:Ty->Bool
 | .bound _=>true
 |_=>false
theorem gT{e:E}{env:List Fr}{t:Ty}(hw:WF env)(ht:cB e (names env)=some t) :
 (t.LQ=false/\findF e.at env=none)\/∃(u:Nat) (f:Fr),t=.bound u/\findF e.at env=some f/\env[u]?=some f:=by
 cases e with
 |
  list l =>
  left
  refine⟨?_,mr hw⟩
  match l,ht with
  |
   [x,a,b],ht =>
   by_cases h0:x.at=[43]
   ·obtain⟨t1,t2,_,_,rfl⟩:=fh h0 ht;rfl
   ·by_cases h1:x.at=[42]
    ·obtain⟨t1,t2,_,_,rfl⟩:=eN h1 ht;rfl
    ·by_cases h2:x.at=[114,101,99]
     ·obtain⟨t1,_,_,rfl⟩:=df h2 ht;rfl
     ·rw[iO _ h0 h1 h2]at ht;cases ht
  |[],ht=>cases ht
  |[_],ht=>cases ht
  |[_,_],ht=>cases ht
  |_::_::_::_::_,ht=>cases ht
 |
  atom s =>
  simp only[cB]at ht
  have hno:cP s=false->findF s env=none:=fun h=>by
   cases hq:findF s env with
   |none=>rfl
   |some f=>rw[xS hw hq]at h;cases h
  split at ht
  ·rename_i h;cases ht;subst h;exact .inl ⟨rfl,hno rfl⟩
  ·split at ht
   ·rename_i h;cases ht;subst h;exact .inl ⟨rfl,hno rfl⟩
   ·split at ht
    ·rename_i h
     cases ht
     refine .inl ⟨rfl,hno ?_⟩
     cases hq:cP s with
     |false=>rfl
     |
      true =>
      obtain⟨c,r,rfl,h1,h2⟩:=kY h
      obtain⟨c',r',he,h3,h4⟩:=kY hq
      cases he;omega
    ·split at ht
     ·rcases ou s env with⟨h1,h2⟩|⟨u,f,h1,h2,h3⟩
      ·rw[h1]at ht;cases ht;exact .inl ⟨rfl,h2⟩
      ·rw[h1]at ht;cases ht;exact .inr ⟨u,f,rfl,h2,h3⟩
     ·cases ht
def eG(n:Nat):Vl->E×List Fr->Bool
 | .u,p=>match hd p.1 p.2 with|(.atom s,_)=>s==[49]|_=>false
 | .el k,p=>match hd p.1 p.2 with|(.atom s,_)=>!(s==[49])&&(gC s&&decide (k<n))|_=>false
 | .l w,p=>match hd p.1 p.2 with|(.list [x,a,b],o)=>(x.at==[43])&&eG n w (a,o)|_=>false
 | .r w,p=>match hd p.1 p.2 with|(.list [x,a,b],o)=>(x.at==[43])&&eG n w (b,o)|_=>false
 | .f w,p=>match hd p.1 p.2 with|(.list [x,a,b],o)=>(x.at==[114,101,99])&&eG n w (b,.mk a.at (.list [x,a,b]) o::o)|_=>false
 | .p v w,p=>match hd p.1 p.2 with|(.list [x,a,b],o)=>(x.at==[42])&&(eG n v (a,o)&&eG n w (b,o))|_=>false
theorem j4{e:E}{env:List Fr}(h:findF e.at env=none):hd e env=(e,env):=by rw[hd,h]
theorem pT{e:E}{env:List Fr}{f:Fr}(h:findF e.at env=some f):hd e env=(f.ex,f.out):=by rw[hd,h]
theorem o0{x a b:E}{o:List Fr}(h:WF o):hd (.list [x,a,b]) o=(.list [x,a,b],o):=j4 (mr h)
theorem sS(n:Nat)(v:Vl){e e':E}{env o:List Fr}(h:hd e env=(e',o))(h':hd e' o=(e',o)):eG n v (e,env)=eG n v (e',o):=by
 cases v<;>simp only[eG,h,h']
theorem jI{x a b:E}{env:List Fr}{t:Ty}(hw:WF env)(hok:(E.list [x,a,b]).ok)(hx:x.at=[114,101,99])(ht:cB (.list [x,a,b]) (names env)=some t)(hf:bN t=false) :
 ∃t1,t=.rc t1/\cB b (names (.mk a.at (.list [x,a,b]) env::env))=some t1/\bN t1=false/\WF (.mk a.at (.list [x,a,b]) env::env):=by
 obtain⟨t1,hl,h1,rfl⟩:=df hx ht
 exact⟨t1,rfl,h1,hf,.cons hl hok hx ht hf hw⟩
theorem yh(a b env:AV)(n:Int)(s:ByteArray)(u:Int)(ha:LK.ptr.has a)(he:LK.ptr.has env):aq Tryz.prog 108 [.agg [.ptr [.v (.int .u8 n),.v (.string s),.v (.int .i64 u),a,b],env]] [] (bz (.agg [a,env])):=by
 refine Ow _ _ ((cc _).mpr trivial) he ?_
 simp only[Ko,↓zq,zs,af,bz]
 exact⟨ha,by omega⟩
theorem yy(a b env:AV)(n:Int)(s:ByteArray)(u:Int)(hb:LK.ptr.has b)(he:LK.ptr.has env):aq Tryz.prog 109 [.agg [.ptr [.v (.int .u8 n),.v (.string s),.v (.int .i64 u),a,b],env]] [] (bz (.agg [b,env])):=by
 refine Mv _ _ ((cc _).mpr trivial) he ?_
 simp only[Ka,↓zq,zs,af,bz]
 exact⟨hb,by omega⟩
theorem Mo(t:Ty)(env:List Fr)(s:List UInt8)(e:E)(ht:wU e env=.rc t):aq Tryz.prog 70 [.agg [(Ty.rc t).av,nP env]] [] (bz (.cW [.agg [t.av,nP (.mk s e env::env)],(Fr.mk s e env).cn])):=by
 refine L5 _ _ ((aE _).mpr trivial) ((dX _).mpr trivial) ?_
 simp only[LG,Ty.av,↓zq,zs,af,aE,bz,nP,Fr.cn,ht]
 omega
theorem rz(env:List Fr)(i:Nat)(f:Fr)(h:env[i]?=some f):nP (env.drop i)=.ptr [f.cn,nP (env.drop (i+1))]:=by
 obtain⟨hlt,he⟩:=List.getElem?_eq_some_iff.1 h
 rw[aV hlt,he,nP]
theorem Jv(env:List Fr)(u:Nat)(hu:u<env.length)(hl:env.length<1000000):∀(k i:Nat),i+k=u->BG [nP (env.drop i),.v (.int .i64 (u:Int)),.v (.int .i64 (i:Int))] [] (hZ 1 [nP (env.drop u)] [])
 |
  0,i,hi=>by
  refine CQ _ _ _ ?_
  have:i=u:=by omega
  subst this
  simp only[A1,↓zq,zs,af,dX]
  exact⟨fun h=>by omega,fun _=>by simp[hZ]⟩
 |
  k+1,i,hi=>by
  refine CQ _ _ _ ?_
  have hlt:i<env.length:=by omega
  have hg:env[i]?=some env[i]:=bm hlt
  have hd:=rz env i _ hg
  rw[hd]
  simp only[A1,↓zq,zs,af,dX]
  refine⟨fun _=>⟨by omega,?_⟩,fun h=>by omega⟩
  rw[bw i (by omega)]
  exact Jv env u hu hl k (i+1) (by omega)
theorem Na(env:List Fr)(u:Nat)(f:Fr)(hf:env[u]?=some f)(hl:env.length<1000000):aq Tryz.prog 127 [.agg [(Ty.bound u).av,nP env]] [] (bz f.cn):=by
 refine KL _ _ ((aE _).mpr trivial) ((dX _).mpr trivial) ?_
 obtain⟨hlt,he⟩:=List.getElem?_eq_some_iff.1 hf
 simp only[Gv,Ty.av,↓zq,zs,af]
 refine⟨by omega,?_⟩
 have h:=Jv env u hlt hl u 0 (by omega)
 simp only[bj]at h
 refine cm h ?_
 rw[rz env u f hf]
 simp only[↓zq,zs,af,AB,bz]
 omega
theorem BW(k:Nat)(h:k<100):Lib.atoi (dd k)=some (k:Int):=by
 have e:∀k,k<100->dd k=if k<10 then [aZ (48+k)]else [aZ (48+k/10),aZ (48+k%10)]:=by
  intro k hk
  by_cases h1:k<10
  ·rw[ep h1,if_pos h1]
  ·rw[fw h1,ep (by omega),if_neg h1];rfl
 have key:∀k:Fin 100,Lib.atoi (if k.val<10 then [aZ (48+k.val)]else [aZ (48+k.val/10),aZ (48+k.val%10)])=some (k.val:Int):=by decide +kernel
 rw[e k h];exact key ⟨k,h⟩
theorem Mj(k:Nat)(hk:k<100):aq Tryz.prog 126 [.v (.string (mk (dd k)))] [] (bz (.cW [.v (.int .i64 (k:Int)),.v .nilIface])):=by
 have hl:=oE 1000 k (by omega)
 have hl2:(dd k).length<=18:=by
  have e:(dd k).length<=2:=by
   by_cases h1:k<10
   ·rw[ep h1];simp
   ·rw[fw h1,ep (by omega)];simp
  omega
 refine aq.Ns (xs:=[.string (mk (dd k))]) (v:=.tuple #[.int .i64 (k:Int),.nilIface]) ⟨pJ,by kernel_rfl,by kernel_rfl,by kernel_rfl⟩ (fun M=>?_) fun w=>?_
 ·refine bn.cW _ _ [.int .i64 (k:Int),.nilIface] rfl fun i hi=>?_
  match i,hi with
  |0,_=>exact .v _ _
  |1,_=>exact .v _ _
 ·have:=Any.strconv_Atoi Tryz.Cs (mk (dd k)) (k:Int) (by rw[cU];exact hl2) (by
   have:(mk (dd k)).data.toList=dd k:=by simp[mk]
   rw[this];exact BW k hk) w
  refine Calls.mono this fun e w' ⟨h1,t,h2⟩=>⟨h1,?_⟩
  subst h2
  refine⟨rfl,rfl,rfl,?_,fun b hb=>Lib.bytesWorld_at_old _ _ _ _ hb⟩
  simp[Lib.bytesWorld,World.freeze]
end Go.Proofs.Trees
namespace Go.Proofs.Trees
open Go Go.VL Go.RowKit
theorem fP{a b:Ty}(h:bN (.plus a b)=false):bN a=false/\bN b=false:=by simpa[bN]using h
theorem fj{a b:Ty}(h:bN (.times a b)=false):bN a=false/\bN b=false:=by simpa[bN]using h
theorem fM{e:E}{ar:List (List UInt8)}{t:Ty}(ht:cB e ar=some t)(hb:t.LQ=false)(hf:bN t=false) :
 (e=.atom [48]/\t=.zero)\/(e=.atom [49]/\t=.one)\/(∃s,e=.atom s/\t=.name s/\gC s=true/\s≠[48]/\s≠[49]) ∨
 (∃x a b t1 t2,e=.list [x,a,b]/\x.at=[43]/\t=.plus t1 t2/\cB a ar=some t1/\cB b ar=some t2) ∨
 (∃x a b t1 t2,e=.list [x,a,b]/\x.at=[42]/\t=.times t1 t2/\cB a ar=some t1/\cB b ar=some t2) ∨
 (∃x a b t1,e=.list [x,a,b]/\x.at=[114,101,99]/\t=.rc t1):=by
 cases e with
 |
  list l =>
  match l,ht with
  |
   [x,a,b],ht =>
   by_cases h0:x.at=[43]
   ·obtain⟨t1,t2,h1,h2,rfl⟩:=fh h0 ht
    exact .inr (.inr (.inr (.inl ⟨x,a,b,t1,t2,rfl,h0,rfl,h1,h2⟩)))
   ·by_cases h1:x.at=[42]
    ·obtain⟨t1,t2,h3,h2,rfl⟩:=eN h1 ht
     exact .inr (.inr (.inr (.inr (.inl ⟨x,a,b,t1,t2,rfl,h1,rfl,h3,h2⟩))))
    ·by_cases h2:x.at=[114,101,99]
     ·obtain⟨t1,_,_,rfl⟩:=df h2 ht
      exact .inr (.inr (.inr (.inr (.inr ⟨x,a,b,t1,rfl,h2,rfl⟩))))
     ·rw[iO _ h0 h1 h2]at ht;cases ht
  |[],ht=>cases ht
  |[_],ht=>cases ht
  |[_,_],ht=>cases ht
  |_::_::_::_::_,ht=>cases ht
 |
  atom s =>
  simp only[cB]at ht
  split at ht
  ·rename_i h;cases ht;subst h;exact .inl ⟨rfl,rfl⟩
  ·rename_i h0
   split at ht
   ·rename_i h;cases ht;subst h;exact .inr (.inl ⟨rfl,rfl⟩)
   ·rename_i h1
    split at ht
    ·rename_i h;cases ht;exact .inr (.inr (.inl ⟨s,rfl,rfl,h,h0,h1⟩))
    ·split at ht
     ·rename_i h
      split at ht
      ·cases ht;cases hb
      ·cases ht;simp only[bN]at hf;rw[h]at hf;cases hf
     ·cases ht
def pf(n:Nat)(v:Vl)(e:E)(env:List Fr)(t:Ty):Prop:=aq Tryz.prog 83 [.agg [t.av,nP env],v.cn,.v (.int .i64 (n:Int))] [] (bz (.v (.bool (eG n v (e,env)))))
structure Ask(e:E)(env:List Fr)(t:Ty):Prop where
 ok:e.ok
 wf:WF env
 ty:cB e (names env)=some t
 cl:bN t=false
theorem Hh(n:Nat)(hn:n<=100)(v:Vl)(hv:v.iq 100)(IH:∀w:Vl,w.nodes<v.nodes->w.iq 100->∀e env t,Ask e env t->env.length+w.nodes<100000->pf n w e env t)
 (e:E) (env:List Fr) (t:Ty) (A:Ask e env t) (hl:env.length+v.nodes<100000) (hb:t.LQ=false) (hh:findF e.at env=none):pf n v e env t:=by
 have hhd:hd e env=(e,env):=j4 hh
 unfold pf
 refine Iq _ _ _ _ ((aE _).mpr trivial) ((dX _).mpr trivial) ((aL _).mpr trivial) ?_
 rcases fM A.ty hb A.cl with⟨rfl,rfl⟩|⟨rfl,rfl⟩|⟨s,rfl,rfl,hp,h0,h1⟩|⟨x,a,b,t1,t2,rfl,hx,rfl,ha,hbb⟩|⟨x,a,b,t1,t2,rfl,hx,rfl,ha,hbb⟩|⟨x,a,b,t1,rfl,hx,rfl⟩
 ·have hp0:gC [48]=false:=rfl
  cases v<;>simp[yN,Ty.av,↓zq,zs,af,bz,eG,hhd,hp0]
 ·have hp0:gC [49]=false:=rfl
  cases v<;>simp[yN,Ty.av,Vl.cn,↓zq,zs,af,bz,eG,hhd,hp0]
 ·have h1':(s==[49])=false:=by simpa using h1
  cases v with
  |
   el k =>
   have hk:k<100:=hv
   simp only[yN,Ty.av,Vl.cn,↓zq,zs,af,zt]
   refine⟨by omega,fun h=>by omega,fun _=>⟨fun _=>⟨by omega,fun h=>absurd rfl h,fun _=>⟨by omega,by omega,?_⟩⟩,fun h=>absurd rfl h⟩⟩
   have e1:(List.take ((dd k).length+1) (vZ k)).drop (bR 1)=dd k:=by simp[vZ]
   rw[e1]
   refine ak (Mj k hk) ?_
   simp only[↓zq,zs,af,bz,eG,hhd,h1',hp,zf]
   refine⟨rfl,?_⟩
   congr 2
   rw[cr];simp
  |
   _ =>
   simp only[yN,Ty.av,Vl.cn,↓zq,zs,af,zt,eG,hhd,h1',bz]
   exact⟨by omega,fun h=>by omega,fun _=>⟨fun _=>⟨by omega,fun _=>trivial,fun h=>by omega⟩,fun h=>absurd rfl h⟩⟩
 ·have hok:=A.ok
  obtain⟨ok1,ok2,ok3,_⟩:=hok
  obtain⟨f1,f2⟩:=fP A.cl
  cases v with
  |
   l w =>
   simp only[Vl.nodes]at hl
   simp only[yN,Ty.av,Vl.cn,↓zq,zs,af]
   refine⟨by omega,fun h=>by omega,fun _=>⟨fun h=>by omega,fun _=>⟨fun h=>by omega,fun _=>⟨fun _=>⟨by omega,fun _=>?_,fun h=>absurd rfl h⟩,fun h=>absurd rfl h⟩⟩⟩⟩
   refine ak (yh _ _ _ _ _ _ ((aE _).mpr trivial) ((dX _).mpr trivial)) ?_
   simp only[↓zq,zs,af,bO,aE,dX,aL]
   refine⟨by omega,?_⟩
   refine ak (IH w (by simp only[Vl.nodes];omega) hv a env t1 ⟨ok2,A.wf,ha,f1⟩ (by omega)) ?_
   simp only[↓zq,zs,af,bz,eG,hhd,hx]
   refine⟨fun h=>?_,fun h=>⟨by omega,fun h=>by omega,fun _=>?_⟩⟩
   ·simp[h]
   ·simp[h]
  |
   r w =>
   simp only[Vl.nodes]at hl
   simp only[yN,Ty.av,Vl.cn,↓zq,zs,af]
   refine⟨by omega,fun h=>by omega,fun _=>⟨fun h=>by omega,fun _=>⟨fun h=>by omega,fun _=>⟨fun _=>⟨by omega,fun h=>by omega,fun _=>⟨by omega,fun _=>?_,fun h=>absurd rfl h⟩⟩,fun h=>absurd rfl h⟩⟩⟩⟩
   refine ak (yy _ _ _ _ _ _ ((aE _).mpr trivial) ((dX _).mpr trivial)) ?_
   simp only[↓zq,zs,af,bO,aE,dX,aL]
   refine⟨by omega,?_⟩
   refine ak (IH w (by simp only[Vl.nodes];omega) hv b env t2 ⟨ok3,A.wf,hbb,f2⟩ (by omega)) ?_
   simp[↓zq,zs,af,bz,eG,hhd,hx]
  |
   _ =>
   simp only[yN,Ty.av,Vl.cn,↓zq,zs,af,eG,hhd,bz]
   exact⟨by omega,fun h=>by omega,fun _=>⟨fun h=>by omega,fun _=>⟨fun h=>by omega,fun _=>⟨fun _=>⟨by omega,fun h=>by omega,fun _=>⟨by omega,fun h=>by omega,fun _=>by simp[hx]⟩⟩,fun h=>absurd rfl h⟩⟩⟩⟩
 ·have hok:=A.ok
  obtain⟨ok1,ok2,ok3,_⟩:=hok
  obtain⟨f1,f2⟩:=fj A.cl
  cases v with
  |
   p v w =>
   simp only[Vl.nodes]at hl
   simp only[yN,Ty.av,Vl.cn,↓zq,zs,af]
   refine⟨by omega,fun h=>by omega,fun _=>⟨fun h=>by omega,fun _=>⟨fun h=>by omega,fun _=>⟨fun h=>by omega,fun _=>⟨fun _=>⟨by omega,fun _=>?_,fun h=>absurd rfl h⟩,fun h=>absurd rfl h⟩⟩⟩⟩⟩
   refine ak (yh _ _ _ _ _ _ ((aE _).mpr trivial) ((dX _).mpr trivial)) ?_
   simp only[↓zq,zs,af,bO,aE,dX,aL]
   refine⟨by omega,?_⟩
   refine ak (IH v (by simp only[Vl.nodes];omega) hv.1 a env t1 ⟨ok2,A.wf,ha,f1⟩ (by omega)) ?_
   simp only[↓zq,zs,af,bz,eG,hhd,hx]
   refine⟨fun h=>?_,fun h=>?_⟩
   ·refine ak (yy _ _ _ _ _ _ ((aE _).mpr trivial) ((dX _).mpr trivial)) ?_
    simp only[↓zq,zs,af,bO,aE,dX,aL]
    refine⟨by omega,?_⟩
    refine ak (IH w (by simp only[Vl.nodes];omega) hv.2 b env t2 ⟨ok3,A.wf,hbb,f2⟩ (by omega)) ?_
    simp[↓zq,zs,af,h]
   ·simp[h]
  |
   _ =>
   simp only[yN,Ty.av,Vl.cn,↓zq,zs,af,eG,hhd,bz]
   exact⟨by omega,fun h=>by omega,fun _=>⟨fun h=>by omega,fun _=>⟨fun h=>by omega,fun _=>⟨fun h=>by omega,fun _=>⟨fun _=>⟨by omega,fun h=>by omega,fun _=>by simp[hx]⟩,fun h=>absurd rfl h⟩⟩⟩⟩⟩
 ·obtain⟨t1',he1,h1,f1,hw1⟩:=jI A.wf A.ok hx A.ty A.cl
  cases he1
  have hok:=A.ok
  obtain⟨ok1,ok2,ok3,_⟩:=hok
  have htD:wU (.list [x,a,b]) env=.rc t1:=by rw[wU,A.ty];rfl
  have hin:=Mo t1 env a.at (.list [x,a,b]) htD
  simp only[Ty.av]at hin
  simp only[yN,Ty.av,↓zq,zs,af]
  refine⟨by omega,fun h=>by omega,fun _=>⟨fun h=>by omega,fun _=>⟨fun h=>by omega,fun _=>⟨fun h=>by omega,fun _=>⟨fun h=>by omega,fun _=>⟨fun _=>?_,fun h=>absurd rfl h⟩⟩⟩⟩⟩⟩
  refine ak hin ?_
  simp only[↓zq,zs,af,bO,aE,dX,AB,aL,er]
  cases v with
  |
   f w =>
   simp only[Vl.nodes]at hl
   simp only[Vl.cn,↓zq,zs,af,aL]
   refine⟨by omega,fun _=>⟨by omega,?_⟩,fun h=>absurd rfl h⟩
   refine ak (IH w (by simp only[Vl.nodes];omega) hv b (.mk a.at (.list [x,a,b]) env::env) t1 ⟨ok3,hw1,h1,f1⟩ (by simp;omega)) ?_
   simp[↓zq,zs,af,bz,eG,hhd,hx]
  |
   _ =>
   simp only[Vl.cn,↓zq,zs,af,eG,hhd,bz]
   exact⟨by omega,fun h=>by omega,fun _=>by simp[hx]⟩
theorem IW(n:Nat)(hn:n<=100):∀(m:Nat) (v:Vl),v.nodes<m->v.iq 100->∀e env t,Ask e env t->env.length+v.nodes<100000->pf n v e env t
 |0,v,h,_=>by omega
 |
  m+1,v,h,hv=>by
  intro e env t A hl
  have IH:∀w:Vl,w.nodes<v.nodes->w.iq 100->∀e env t,Ask e env t->env.length+w.nodes<100000->pf n w e env t:=fun w hw hb=>IW n hn m w (by omega) hb
  rcases gT A.wf A.ty with⟨hb,hh⟩|⟨u,f,rfl,hh,hu⟩
  ·exact Hh n hn v hv IH e env t A hl hb hh
  ·obtain⟨x,a,b,t',hfe,hok,hx,ht',hf',hwf,hlt⟩:=nO A.wf hh
   obtain⟨t1,hl1,h1,rfl⟩:=df hx (hfe ▸ ht')
   have hvis:eG n v (e,env)=eG n v (f.ex,f.out):=sS n v (pT hh) (by rw[hfe];exact o0 hwf)
   unfold pf
   refine Iq _ _ _ _ ((aE _).mpr trivial) ((dX _).mpr trivial) ((aL _).mpr trivial) ?_
   have hbd:=Na env u f hu (by omega)
   simp only[Ty.av]at hbd
   simp only[yN,Ty.av,↓zq,zs,af]
   refine⟨by omega,fun h=>by omega,fun _=>⟨fun h=>by omega,fun _=>⟨fun _=>?_,fun h=>absurd rfl h⟩⟩⟩
   refine ak hbd ?_
   cases f with
   |
    mk s ee oo =>
    simp only[Fr.ex,Fr.out]at hfe ht' hf' hwf hvis hlt
    have htD:wU ee oo=.rc t1:=by rw[wU,ht'];rfl
    simp only[Fr.cn,htD,↓zq,zs,af,bO,aE,dX]
    refine⟨by omega,?_⟩
    have hs:=Hh n hn v hv IH ee oo (.rc t1) ⟨by rw[hfe];exact hok,hwf,ht',hf'⟩ (by omega) rfl (by rw[hfe];exact mr hwf)
    unfold pf at hs
    refine ak hs ?_
    simp[↓zq,zs,af,bz,hvis]
end Go.Proofs.Trees
namespace Go.Proofs.Trees
open Go Go.VL Go.RowKit
theorem rB:∀(env:List Fr) (k:Nat) (f:Fr),env[k]?=some f->(jV env).getD (env.length-1-k) []=f.cells
 |[],k,f,h=>by cases h
 |
  g::r,0,f,h=>by
  cases h
  have:(g::r).length-1-0=(jV r).length:=by simp[kA]
  rw[this,jV];simp[aa]
 |
  g::r,k+1,f,h=>by
  have h':r[k]?=some f:=by simpa using h
  have hlt:=(List.getElem?_eq_some_iff.1 h').1
  have e:(g::r).length-1-(k+1)=r.length-1-k:=by simp;omega
  have:=rB r k f h'
  rw[e,jV,aa,List.getElem?_append_left (by rw[kA];omega),<-aa]
  exact this
theorem qE(f:Fr):f.cells=[.v (.string (mk f.nm)),.v (.string (mk f.ex.at)),f.ex.sp,.sl (jV f.out)]:=by cases f;rfl
theorem I5(e:E)(env:List Fr)(hl:env.length<1000000):∀(j k:Nat),k+j=env.length->Ed [.sl (jV env),.v (.int .i64 ((env.length:Int)-1-(k:Int)))] [.cells [.v (.string (mk e.at)),e.sp],.cells [.v (.string (mk [])),.v (.slice none 0 0)]]
 (rm (match findF e.at (env.drop k)with|some f=>(2,[.sl (jV f.out)],[.cells [.v (.string (mk f.ex.at)),f.ex.sp]])|none=>(1,[.sl (jV env)],[.cells [.v (.string (mk e.at)),e.sp],.cells [.v (.string (mk [])),.v (.slice none 0 0)]])))
 |
  0,k,hk=>by
  refine I4 _ _ _ _ _ _ ?_
  have hd:env.drop k=[]:=bE (by omega)
  simp only[Gq,↓zq,zs,af,bb,hd,findF]
  exact⟨fun h=>by omega,fun _=>by first|trivial|rfl⟩
 |
  j+1,k,hk=>by
  refine I4 _ _ _ _ _ _ ?_
  have hlt:k<env.length:=by omega
  have hg:env[k]?=some env[k]:=bm hlt
  have hc:=rB env k _ hg
  have e1:((env.length:Int)-1-(k:Int))=((env.length-1-k:Nat):Int):=by omega
  have hdr:env.drop k=env[k]::env.drop (k+1):=aV hlt
  rw[hdr,findF,e1]
  simp only[Gq,bW,hc,qE,↓zq,zs,af,zt,bb,kA,bO]
  refine⟨fun _=>⟨by omega,by omega,fun h=>⟨by omega,by omega,by omega,by omega,?_⟩,fun h=>?_⟩,fun h=>by omega⟩
  ·rw[if_pos h]
  ·rw[if_neg h]
   have e2:IntKind.wrap .i64 (((env.length-1-k:Nat):Int)-1)=(env.length:Int)-1-((k+1:Nat):Int):=by
    have:IntKind.wrap .i64 (((env.length-1-k:Nat):Int)-1)=((env.length-1-k:Nat):Int)-1:=wrap64 _ (by omega) (by omega)
    omega
   rw[e2]
   exact I5 e env hl j (k+1) (by omega)
theorem OT(e:E)(env:List Fr)(hl:env.length<1000000):aq Tryz.prog 100 [e.kb,.sl (jV env)] [] (bz (.cW [(hd e env).1.kb,.sl (jV (hd e env).2)])):=by
 rw[ei e]
 refine Pb _ _ _ ((bb _).mpr trivial) ((ck _).mpr trivial) ?_
 simp only[J4,↓zq,zs,af,kA,bz]
 have h:=I5 e env hl env.length 0 (by omega)
 simp only[bj]at h
 rw[wrap64 _ (by omega) (by omega)]
 rw[show (env.length:Int)-1-((0:Nat):Int)=(env.length:Int)-1 by omega]at h
 refine iX h (fun ys o e'=>?_) (fun ys o e'=>?_)
 ·unfold hd
  cases hq:findF e.at env<;>rw[hq]at e'<;>cases e'
  simp only[↓zq,zs,af,zt,bb,ei]
 ·unfold hd
  cases hq:findF e.at env<;>rw[hq]at e'<;>cases e'
  simp only[↓zq,zs,af,zt,bb,ei]
theorem py:∀env:List Fr,cx 4 (jV env)
 |[]=>fun c hc=>by cases hc
 |
  f::r=>fun c hc=>by
  simp only[jV,aK,aR]at hc
  rcases hc with hc|rfl
  ·exact py r c hc
  ·rw[qE];rfl
theorem Ov(x a b:E)(env:List Fr)(hl:env.length<1000000):aq Tryz.prog 103 [(E.list [x,a,b]).kb,.sl (jV env)] [] (bz (.cW [b.kb,.sl (jV (.mk a.at (.list [x,a,b]) env::env))])):=by
 refine OR _ _ _ ((ck _).mpr trivial) ((ck _).mpr trivial) ?_
 simp only[I0,E.bf,toNat_one,bq,↓zq,zs,af,zt,il,fU,iw,lX,az,kA,bz,ba]
 refine⟨by omega,⟨py env,by omega⟩,by omega,by omega,⟨fun c hc=>(by simp at hc;rw[hc];rfl),by omega⟩,?_⟩
 simp only[jV,qE,Fr.nm,Fr.ex,Fr.out,E.at,E.sp,E.bf]
theorem Ch(s:ByteArray)(e:E):bO [.str,.sl] [.v (.string s),e.sp] 0=True:=by apply eq_true;simp[bO,eX,bb]
theorem E5{e:E}{env:List Fr}{t:Ty}(A:Ask e env t):∃e' o t',hd e env=(e',o)/\Ask e' o t'/\t'.LQ=false/\hd e' o=(e',o)/\o.length<=env.length:=by
 rcases gT A.wf A.ty with⟨hb,hh⟩|⟨u,f,rfl,hh,hu⟩
 ·exact⟨e,env,t,j4 hh,A,hb,j4 hh,az _⟩
 ·obtain⟨x,a,b,t',hfe,hok,hx,ht',hf',hwf,hlt⟩:=nO A.wf hh
  refine⟨f.ex,f.out,t',pT hh,⟨by rw[hfe];exact hok,hwf,ht',hf'⟩,?_,?_,by omega⟩
  ·obtain⟨t1,_,_,rfl⟩:=df hx (hfe ▸ ht');rfl
  ·rw[hfe];exact o0 hwf
def vh:Vl->List UInt8
 | .l _=>[108]
 | .r _=>[114]
 | .f _=>[102]
 | .p _ _=>[112]
 |_=>[]
theorem Jy(v:Vl):aq Tryz.prog 54 [v.dc.kb] [] (bz (.v (.string (mk (vh v))))):=by
 cases v with
 |u=>exact AR _ _ ((bp).mpr trivial) (by simp)
 |el k=>exact AR _ _ ((bp).mpr trivial) (by simp)
 |l v=>exact vf _ _
 |r v=>exact vf _ _
 |f v=>exact vf _ _
 |p v w=>exact vf _ _
theorem Pj(v:Vl)(hv:v.iq 100):v.dc.at=(match v with| .u=>[117]| .el k=>vZ k|_=>[])/\zI v.dc.at=(match v with| .el k=>(k:Int)|_=>-1):=by
 cases v with
 |el k=>exact⟨rfl,Ez k hv⟩
 |u=>exact⟨rfl,rfl⟩
 |_=>exact⟨rfl,rfl⟩
theorem yf(n:Nat)(hn:n<=100):∀(m:Nat) (v:Vl),v.nodes<m->v.iq 100->∀e env t,Ask e env t->env.length+v.nodes<100000->aq Tryz.prog 56 [e.kb,.sl (jV env),v.dc.kb,.v (.int .i64 (n:Int))] [] (bz (.v (.bool (eG n v (e,env)))))
 |0,v,hm,hv,e,env,t,A,hl=>by omega
 |
  m+1,v,hm,hv,e,env,t,A,hl=>by
  obtain⟨e',o,t',hhd,A',hb,hh',hlen⟩:=E5 A
  rw[sS n v hhd hh',ei e,ei v.dc]
  refine O4 _ _ _ _ _ _ ((bb _).mpr trivial) ((ck _).mpr trivial) ((bb _).mpr trivial) ?_
  have hf:=OT e env (by omega)
  rw[ei e,hhd]at hf
  have hvh:=Jy v
  rw[ei]at hvh
  unfold LB
  refine ak hf ?_
  simp only[ei e',↓zq,zs,af,zt,bb,Ch,bz]
  rcases fM A'.ty hb A'.cl with⟨rfl,rfl⟩|⟨rfl,rfl⟩|⟨s,rfl,rfl,hp,h0,h1⟩|⟨x,a,b,t1,t2,rfl,hx,rfl,ha,hbb⟩|⟨x,a,b,t1,t2,rfl,hx,rfl,ha,hbb⟩|⟨x,a,b,t1,rfl,hx,rfl⟩
  ·refine⟨fun _=>⟨fun h=>by simp[E.at]at h,fun _=>ak (D3 _) ?_⟩,fun h=>by simp[E.at]at h⟩
   have hp0:gC (E.atom [48]).at=false:=rfl
   have hp1:gC [48]=false:=rfl
   cases v<;>simp[↓zq,zs,af,hp0,eG,hh',hp1]
  ·refine⟨fun _=>⟨fun _=>?_,fun h=>absurd rfl h⟩,fun h=>by simp[E.at]at h⟩
   have hp1:gC [49]=false:=rfl
   cases v<;>simp[eG,hh',hp1,Vl.dc,E.at]
  ·have hne:s≠[]:=A'.ok
   have h1':(s==[49])=false:=by simpa using h1
   refine⟨fun _=>⟨fun h=>absurd h h1,fun _=>ak (D3 _) ?_⟩,fun h=>absurd h hne⟩
   have hat:(E.atom s).at=s:=rfl
   simp only[hat,hp,↓zq,zs,af]
   refine⟨fun _=>ak (KN _) ?_,fun h=>by cases h⟩
   simp only[↓zq,zs,af]
   rw[wrap64 _ (by omega) (by omega)]
   refine ak (BH _ _ _) ?_
   simp only[↓zq,zs,af,Dn,(Pj v hv).2]
   cases v with
   |
    el k =>
    simp only[eG,hh',h1',hp,zf]
    congr 2
    rw[cr];simp;omega
   |_=>simp[eG,hh',h1']
  ·have hok:=A'.ok
   obtain⟨ok1,ok2,ok3,_⟩:=hok
   obtain⟨f1,f2⟩:=fP A'.cl
   refine⟨fun h=>absurd rfl h,fun _=>ak (vf x [a,b]) ?_⟩
   simp only[↓zq,zs,af]
   refine ak hvh ?_
   rw[hx]
   cases v with
   |
    l w =>
    simp only[Vl.nodes]at hl
    simp only[vh,Vl.dc,E.sp,E.bf,toNat_one,bq,↓zq,zs,af,zt,il,fU,iw,lX,az]
    refine⟨by simp,fun _=>⟨by omega,by omega,ak (yf n hn m w (by simp only[Vl.nodes]at hm;omega) hv a o t1 ⟨ok2,A'.wf,ha,f1⟩ (by omega)) ?_⟩,fun h=>absurd rfl h⟩
    simp[↓zq,zs,af,eG,hh',hx]
   |
    r w =>
    simp only[Vl.nodes]at hl
    simp only[vh,Vl.dc,E.sp,E.bf,toNat_one,bq,↓zq,zs,af,zt,il,fU,iw,lX,az]
    refine⟨by simp,fun h=>by simp at h,fun _=>⟨fun _=>⟨by omega,by omega,ak (yf n hn m w (by simp only[Vl.nodes]at hm;omega) hv b o t2 ⟨ok3,A'.wf,hbb,f2⟩ (by omega)) ?_⟩,fun h=>absurd rfl h⟩⟩
    simp[↓zq,zs,af,eG,hh',hx]
   |_=>simp[vh,↓zq,zs,af,zt,eG,hh',hx]
  ·have hok:=A'.ok
   obtain⟨ok1,ok2,ok3,_⟩:=hok
   obtain⟨f1,f2⟩:=fj A'.cl
   refine⟨fun h=>absurd rfl h,fun _=>ak (vf x [a,b]) ?_⟩
   simp only[↓zq,zs,af]
   refine ak hvh ?_
   rw[hx]
   cases v with
   |
    p w z =>
    simp only[Vl.nodes]at hl
    simp only[vh,Vl.dc,E.sp,E.bf,toNat_one,bq,↓zq,zs,af,zt,il,fU,iw,lX,az]
    refine⟨by simp,fun h=>by simp at h,fun _=>⟨fun h=>by simp at h,fun _=>⟨fun _=>⟨by omega,by omega,ak (yf n hn m w (by simp only[Vl.nodes]at hm;omega) hv.1 a o t1 ⟨ok2,A'.wf,ha,f1⟩ (by omega)) ?_⟩,fun h=>absurd rfl h⟩⟩⟩
    simp only[↓zq,zs,af,eG,hh',hx]
    refine⟨fun h=>⟨by omega,by omega,ak (yf n hn m z (by simp only[Vl.nodes]at hm;omega) hv.2 b o t2 ⟨ok3,A'.wf,hbb,f2⟩ (by omega)) ?_⟩,fun h=>?_⟩
    ·simp[↓zq,zs,af,h]
    ·simp[h]
   |_=>simp[vh,↓zq,zs,af,zt,eG,hh',hx]
  ·obtain⟨t1',he1,h1,f1,hw1⟩:=jI A'.wf A'.ok hx A'.ty A'.cl
   cases he1
   have hok:=A'.ok
   obtain⟨ok1,ok2,ok3,_⟩:=hok
   refine⟨fun h=>absurd rfl h,fun _=>ak (vf x [a,b]) ?_⟩
   simp only[↓zq,zs,af]
   refine ak hvh ?_
   rw[hx]
   cases v with
   |
    f w =>
    simp only[Vl.nodes]at hl
    simp only[vh,Vl.dc,E.sp,E.bf,toNat_one,bq,↓zq,zs,af,zt,il,fU,iw,lX,az]
    refine⟨by simp,fun h=>by simp at h,fun _=>⟨fun h=>by simp at h,fun _=>⟨fun h=>by simp at h,fun _=>⟨fun _=>ak (Ov x a b o (by omega)) ?_,fun h=>absurd rfl h⟩⟩⟩⟩
    simp only[↓zq,zs,af,wT,BP]
    refine⟨by omega,ak (yf n hn m w (by simp only[Vl.nodes]at hm;omega) hv b (.mk a.at (.list [x,a,b]) o::o) t1 ⟨ok3,hw1,h1,f1⟩ (by simp;omega)) ?_⟩
    simp[↓zq,zs,af,eG,hh',hx]
   |_=>simp[vh,↓zq,zs,af,zt,eG,hh',hx]
theorem No(n:Nat)(hn:n<=100)(v:Vl)(hv:v.iq 100)(e:E)(env:List Fr)(t:Ty)(A:Ask e env t)(hl:env.length+v.nodes<100000):aq Tryz.prog 56 [e.kb,.sl (jV env),v.dc.kb,.v (.int .i64 (n:Int))] [] (bz (.v (.bool (eG n v (e,env))))):=yf n hn (v.nodes+1) v (by omega) hv e env t A hl
end Go.Proofs.Trees
namespace Go.Proofs.Trees
open Go Go.VL Go.RowKit
theorem IV(l:List (List UInt8))(a:AV)(ha:dG a l)(s:List UInt8)(hl:l.length<1000000):∀(k i:Nat),i+k=l.length->Ep [a,.v (.string (mk s)),.v (.int .i64 (i:Int))] []
 (rm (if s∈l.drop i then(2,[.v (.bool true)],[])else(1,[],[])))
 |
  0,i,hi=>by
  refine IX _ _ _ ?_
  have hd:l.drop i=[]:=bE (by omega)
  simp only[D6,↓zq,zs,af,hd,ha.len]
  exact⟨ha.1,ha.1,fun h=>by omega,fun _=>by simp[rm]⟩
 |
  k+1,i,hi=>by
  have hlt:i<l.length:=by omega
  have hdr:l.drop i=l.getD i []::l.drop (i+1):=by
   rw[aV hlt];simp[aa,hlt]
  refine IX _ _ _ ?_
  simp only[D6,↓zq,zs,af,zt,ha.len,ha.idx hlt]
  refine⟨ha.1,ha.1,fun _=>⟨⟨ha.1,by omega,by omega⟩,by omega,fun h=>?_,fun h=>?_⟩,fun h=>by omega⟩
  ·rw[hdr,h];simp[rm]
  ·rw[bw i (by omega)]
   have:=IV l a ha s hl k (i+1) (by omega)
   have e:s∈l.drop i↔s∈l.drop (i+1):=by
    rw[hdr,aJ];exact⟨fun q=>q.resolve_left (fun q=>h q.symm),.inr⟩
   simp only[e];exact this
theorem GI(l:List (List UInt8))(a:AV)(ha:dG a l)(s:List UInt8)(hl:l.length<1000000):aq Tryz.prog 139 [a,.v (.string (mk s))] [] (bz (.v (.bool (decide (s∈l))))):=by
 refine M4 _ _ ha.1 ?_
 unfold KR
 refine iX (IV l a ha s hl l.length 0 (by omega)) (fun ys o e=>?_) (fun ys o e=>?_)
 ·simp only[bj]at e
  split at e<;>cases e
  rename_i h
  simp[↓zq,zs,af,bz,h]
 ·simp only[bj]at e
  split at e<;>cases e
  rename_i h
  simp[↓zq,zs,af,bz,h]
theorem GH(l:List (List UInt8))(a:AV)(ha:dG a l)(s:List UInt8)(hl:l.length<1000000):aq Tryz.prog 129 [a,.v (.string (mk s))] [] (cY (.vec 0) [.vec 1 (cg (l++[s]))]):=by
 refine Nu _ _ ha.1 ?_
 simp only[LF,↓zq,zs,af,ha.2,cY,ba]
 have:(cg l).length=l.length:=by simp[cg]
 refine⟨⟨ha.1,j2 l,by omega⟩,⟨fun c hc=>(by simp at hc;rw[hc];rfl),by omega⟩,?_⟩
 first|exact⟨rfl,by rw[DO]⟩|rw[DO]
def lD:E->List (List UInt8)->List (List UInt8)->List (List UInt8)
 | .atom s,bd,l=>if s=[48]\/s=[49]\/s∈bd\/s∈l then l else l++[s]
 | .list [x,a,b],bd,l=>if x.at=[114,101,99]then lD b (bd++[a.at]) l else lD b bd (lD a bd l)
 | .list _,_,l=>l
theorem gW:∀(e:E) (bd l:List (List UInt8)),(lD e bd l).length<=l.length+e.sz
 | .atom s,bd,l=>by rw[lD];split<;>simp[E.sz]
 | .list [],bd,l=>by simp[lD]
 | .list [_],bd,l=>by simp[lD]
 | .list [_,_],bd,l=>by simp[lD]
 | .list (_::_::_::_::_),bd,l=>by simp[lD]
 |
  .list [x,a,b],bd,l=>by
  rw[lD]
  simp only[E.sz,E.je]
  split
  ·have:=gW b (bd++[a.at]) l;omega
  ·have:=gW a bd l
   have:=gW b bd (lD a bd l)
   omega
theorem Cv:∀(e:E) (bd l:List (List UInt8)) (a:AV),e.ok->jJ e=true->dG a bd->bd.length+l.length+e.sz<100000->aq Tryz.prog 98 [e.kb,a,.vec 0] [.vec 1 (cg l)] (cY (.vec 1) [.dead,.vec 1 (cg (lD e bd l))])
 |
  .atom s,bd,l,a,hok,hty,ha,hl=>by
  simp only[E.sz]at hl
  refine ym _ _ _ _ ((bp).mpr trivial) ha.1 ?_
  have hne:s≠[]:=hok
  have hll:(cg l).length=l.length:=by simp[cg]
  simp only[vW,↓zq,zs,af,zt,cY,lD]
  refine⟨fun _=>⟨fun h=>?_,fun h=>⟨fun h1=>?_,fun h1=>?_⟩⟩,fun h=>absurd h hne⟩
  ·rw[if_pos (.inl h)]
  ·rw[if_pos (.inr (.inl h1))]
  ·refine ak (GI bd a ha s (by omega)) ?_
   simp only[↓zq,zs,af]
   refine⟨fun h2=>?_,fun h2=>ak (GI l _ (.of l) s (by omega)) ?_⟩
   ·rw[if_pos (.inr (.inr (.inl h2)))]
   ·simp only[↓zq,zs,af]
    refine⟨fun h3=>?_,fun h3=>⟨⟨fun c hc=>(by simp at hc;rw[hc];rfl),by omega⟩,?_⟩⟩
    ·rw[if_pos (.inr (.inr (.inr h3)))]
    ·rw[DO,if_neg]
     rintro(q|q|q|q)
     ·exact h q
     ·exact h1 q
     ·exact h2 q
     ·exact h3 q
 | .list [],_,_,_,_,h,_,_=>by cases h
 | .list [_],_,_,_,_,h,_,_=>by cases h
 | .list [_,_],_,_,_,_,h,_,_=>by cases h
 | .list (_::_::_::_::_),_,_,_,_,h,_,_=>by cases h
 |
  .list [x,y,z],bd,l,a,hok,hty,ha,hl=>by
  simp only[E.sz,E.je]at hl
  obtain⟨ok1,ok2,ok3,_⟩:=hok
  refine ym _ _ _ _ ((ck _).mpr trivial) ha.1 ?_
  simp only[vW,E.bf,toNat_one,bq,↓zq,zs,af,zt,il,fU,iw,lX,az,cY]
  refine⟨fun h=>absurd rfl h,fun _=>ak (vf x [y,z]) ?_⟩
  simp only[↓zq,zs,af,zt]
  have hyl:=gW y bd l
  rw[jJ]at hty
  refine⟨fun h=>⟨by omega,by omega,by omega,aY (GH bd a ha y.at (by omega)) ?_⟩,fun h=>⟨by omega,by omega,?_⟩⟩
  ·have hz:jJ z=true:=by
    rw[if_neg (by rw[h];decide),if_neg (by rw[h];decide),if_pos h]at hty
    simp only[au]at hty;exact hty.2
   simp only[↓zq,zs,af,Ob.es,aX]
   refine⟨ir _,?_⟩
   refine aY (Cv z (bd++[y.at]) l _ ok3 hz (.of _) (by simp;omega)) ?_
   simp only[↓zq,zs,af]
   rw[lD,if_pos h]
  ·have hyz:jJ y=true/\jJ z=true:=by
    split at hty
    ·simpa using hty
    ·split at hty
     ·simpa using hty
     ·cases hty
   refine aY (Cv y bd l a ok2 hyz.1 ha (by omega)) ?_
   simp only[↓zq,zs,af]
   refine aY (Cv z bd (lD y bd l) a ok3 hyz.2 ha (by omega)) ?_
   simp only[↓zq,zs,af]
   rw[lD,if_neg h]
theorem jY{s:List UInt8}(h:gC s=true):cP s=false:=by
 cases hq:cP s with
 |false=>rfl
 |
  true =>
  obtain⟨c,r,rfl,h1,h2⟩:=kY h
  obtain⟨c',r',he,h3,h4⟩:=kY hq
  cases he;omega
theorem l5(s:List UInt8)(ar:List (List UInt8)):∀i,i<=ar.length->(bH s ar i=none↔s∉ar.take i)
 |0,_=>by simp[bH]
 |
  i+1,hi=>by
  have hlt:i<ar.length:=by omega
  have e:ar.getD i []=ar[i]:=by simp[aa,hlt]
  have e2:s∈ar.take (i+1)↔s∈ar.take i\/s=ar[i]:=by
   rw[show ar.take (i+1)=ar.take i++[ar[i]] from (List.take_append_getElem hlt).symm]
   simp only[aK,aR]
  rw[bH,e,e2]
  by_cases h:ar[i]=s
  ·rw[if_pos h]
   exact⟨fun h=>(by cases h),fun h'=>absurd (.inr h.symm) h'⟩
  ·rw[if_neg h,l5 s ar i (by omega)]
   exact⟨fun h1 h2=>h2.elim h1 (fun h3=>h h3.symm),fun h1 h2=>h1 (.inl h2)⟩
theorem kV:∀(e:E) (ar l:List (List UInt8)) (t:Ty),cB e ar=some t->(∀w,w∈ar->cP w=true)->(lD e ar l).any cP=(l.any cP||bN t)
 |
  .atom s,ar,l,t,h,har=>by
  simp only[cB]at h
  rw[lD]
  split at h
  ·rename_i h0;cases h;rw[if_pos (.inl h0)];simp[bN]
  ·rename_i h0
   split at h
   ·rename_i h1;cases h;rw[if_pos (.inr (.inl h1))];simp[bN]
   ·rename_i h1
    split at h
    ·rename_i h2
     cases h
     have hn:=jY h2
     simp only[bN,hn]
     split
     ·simp
     ·simp[hn]
    ·split at h
     ·rename_i h2 h3
      have hlo:=l5 s ar ar.length (az _)
      rw[List.take_length]at hlo
      cases hq:bH s ar ar.length with
      |
       some u =>
       rw[hq]at h;cases h
       have hm:s∈ar:=Classical.byContradiction fun hm=>by rw[hlo.2 hm]at hq;cases hq
       rw[if_pos (.inr (.inr (.inl hm)))];simp[bN]
      |
       none =>
       rw[hq]at h;cases h
       have hm:=hlo.1 hq
       simp only[bN,h3,Bool.or_true]
       split
       ·rename_i hh
        rcases hh with q|q|q|q
        ·exact absurd q h0
        ·exact absurd q h1
        ·exact absurd q hm
        ·rw[bY];exact⟨s,q,h3⟩
       ·simp[h3]
     ·cases h
 | .list [],_,_,_,h,_=>by cases h
 | .list [_],_,_,_,h,_=>by cases h
 | .list [_,_],_,_,_,h,_=>by cases h
 | .list (_::_::_::_::_),_,_,_,h,_=>by cases h
 |
  .list [x,a,b],ar,l,t,h,har=>by
  rw[lD]
  by_cases h0:x.at=[43]
  ·obtain⟨t1,t2,e1,e2,rfl⟩:=fh h0 h
   rw[if_neg (by rw[h0];decide),kV b ar _ t2 e2 har,kV a ar l t1 e1 har,bN,Bool.or_assoc]
  ·by_cases h1:x.at=[42]
   ·obtain⟨t1,t2,e1,e2,rfl⟩:=eN h1 h
    rw[if_neg (by rw[h1];decide),kV b ar _ t2 e2 har,kV a ar l t1 e1 har,bN,Bool.or_assoc]
   ·by_cases h2:x.at=[114,101,99]
    ·obtain⟨t1,hl,e1,rfl⟩:=df h2 h
     rw[if_pos h2,kV b _ l t1 e1 (fun w hw=>by
      simp only[aK,aR]at hw
      rcases hw with hw|rfl
      ·exact har w hw
      ·exact hl),bN]
    ·rw[iO _ h0 h1 h2]at h;cases h
def jo(s:List UInt8):Option E:=match xi s with
 |none=>none
 |some e=>if(lD e [] []).any cP=true then none else some e
theorem zm{s:List UInt8}:vP s=match jo s with|none=>none|some e=>cB e []:=by
 unfold vP jo
 rw[vL]
 cases he:xi s with
 |none=>rfl
 |
  some e =>
  obtain⟨h1,h2,h3⟩:=qW he
  have hs:=jv e []
  rw[h2]at hs
  obtain⟨t,ht⟩:=bM.1 hs
  have ha:=kV e [] [] t ht (fun w hw=>by cases hw)
  simp only[ht,rM,ha,List.any_nil,Bool.false_or]
  cases hf:bN t<;>simp[ht]
theorem gu{s:List UInt8}{e:E}(h:jo s=some e):∃t,vP s=some t/\Ask e [] t/\jJ e=true/\e.sz<=8000/\t.atoms<=400/\pZ s=some e:=by
 have h0:=h
 unfold jo at h
 split at h
 ·cases h
 ·rename_i e' he
  split at h
  ·cases h
  ·rename_i hn
   cases h
   obtain⟨h1,h2,h3⟩:=qW he
   obtain⟨hok,hsz⟩:=nj h1
   have hs:=jv e []
   rw[h2]at hs
   obtain⟨t,ht⟩:=bM.1 hs
   have ha:=kV e [] [] t ht (fun w hw=>by cases hw)
   rw[ha]at hn
   refine⟨t,by rw[zm,h0];exact ht,⟨hok,.nil,ht,by simpa using hn⟩,h2,hsz,?_,h1⟩
   rw[<-jK e [] t ht];exact h3
theorem mo{s:List UInt8}(h:jo s=none):vP s=none:=by rw[zm,h]
theorem J2(e:E)(l:List (List UInt8))(hl:l.length<1000000):∀(k i:Nat),i+k=l.length->Fj [.v (.int .i64 (i:Int))] [.cells [.v (.string (mk [])),.v (.slice none 0 0)],.cells [.v (.string (mk e.at)),e.sp],.vec 1 (cg l)]
 (rm (if(l.drop i).any cP=true then(2,[.v (.bool false)],[.cells [.v (.string (mk e.at)),e.sp]])else(1,[],[.cells [.v (.string (mk [])),.v (.slice none 0 0)],.cells [.v (.string (mk e.at)),e.sp]])))
 |
  0,i,hi=>by
  refine II _ _ _ _ _ _ ?_
  have hd:l.drop i=[]:=bE (by omega)
  have hll:(cg l).length=l.length:=by simp[cg]
  simp only[Ef,↓zq,zs,af,hd,hll,bb]
  exact⟨fun h=>by omega,fun _=>by simp[rm]⟩
 |
  k+1,i,hi=>by
  have hlt:i<l.length:=by omega
  have hll:(cg l).length=l.length:=by simp[cg]
  have hdr:l.drop i=l.getD i []::l.drop (i+1):=by
   rw[aV hlt];simp[aa,hlt]
  have hg:=(dG.of l).idx hlt
  simp only[fe]at hg
  refine II _ _ _ _ _ _ ?_
  simp only[Ef,↓zq,zs,af,zt,hll,hg,bb]
  refine⟨fun _=>⟨by omega,by omega,ak (F3 _) ?_⟩,fun h=>by omega⟩
  simp only[↓zq,zs,af,hdr,List.any_cons]
  refine⟨fun h=>?_,fun h=>?_⟩
  ·rw[h];simp[rm]
  ·rw[h,bw i (by omega)]
   simp only[Bool.false_or]
   exact J2 e l hl k (i+1) (by omega)
theorem EU(s:List UInt8):aq Tryz.prog 53 [.v (.string (mk s))] [] (kT (jo s) (jo s).isSome):=by
 refine Mx _ ?_
 unfold I2
 refine aQ (Ok s) (kT.ne _ _ (fun h=>h)) ?_
 rintro r o ⟨c,d,hd,rfl,hh⟩
 have hhas:bO [.str,.sl] [.v (.string (mk c)),d] 0:=by simp[bO,eX,hd]
 simp only[↓zq,zs,af,zt]
 refine⟨hhas,fun h=>?_,fun h=>?_⟩
 ·have hn:xi s=none:=by cases hq:xi s<;>simp[hq]at h |-
  unfold jo
  rw[hn]
  exact⟨c,d,hd,rfl,fun h=>by cases h⟩
 ·obtain⟨e,he,hce⟩:=hh h
  obtain⟨h1,h2,h3⟩:=qW he
  obtain⟨hok,hsz⟩:=nj h1
  have hce':=hce
  rw[ei]at hce'
  simp only[AV.agg.injEq,List.cons.injEq,AV.v.injEq,Value.string.injEq,and_true]at hce'
  obtain⟨hc1,rfl⟩:=hce'
  have hc2:=mk_inj hc1
  subst hc2
  rw[<-ei]
  refine aY (Cv e [] [] _ hok h2 (.of []) (by simp;omega)) ?_
  have hfl:=gW e [] []
  simp only[↓zq,zs,af]
  have hLS:=J2 e (lD e [] []) (by simp at hfl;omega) (lD e [] []).length 0 (by omega)
  simp only[bj]at hLS
  unfold jo
  rw[he]
  refine iX hLS (fun ys o e'=>?_) (fun ys o e'=>?_)
  ·split at e'<;>cases e'
   rename_i hn
   simp only[↓zq,zs,af,bb,if_neg hn]
   exact⟨e.at,e.sp,hd,rfl,fun _=>⟨e,rfl,(ei e).symm⟩⟩
  ·split at e'<;>cases e'
   rename_i hn
   simp only[↓zq,zs,af,bb,if_pos hn]
   exact⟨e.at,e.sp,hd,rfl,fun h=>by cases h⟩
def mI(s v:List UInt8)(n:Int):Option Vl:=match jo s,qy v with
 |some e,some w=>if(0<=n/\n<=100)/\eG n.toNat w (e,[])=true then some w else none
 |_,_=>none
theorem qg{s v:List UInt8}{n:Int}{w:Vl}(h:mI s v n=some w):∃e t m,jo s=some e/\qy v=some w/\vP s=some t/\Ask e [] t/\n=(m:Nat)/\m<=100/\eG m w (e,[])=true:=by
 unfold mI at h
 split at h
 ·rename_i e w' he hw
  split at h
  ·rename_i hh
   cases h
   obtain⟨t,h1,h2,_⟩:=gu he
   exact⟨e,t,n.toNat,he,hw,h1,h2,by omega,by omega,hh.2⟩
  ·cases h
 ·cases h
theorem DC(s v:List UInt8)(n:Int):aq Tryz.prog 41 [.v (.string (mk s)),.v (.string (mk v)),.v (.int .i64 n)] [] (bz (.cW [gK (vP s),gm (mI s v n)])):=by
 refine Nk _ _ _ ?_
 unfold IM
 refine ak (Hm s) ?_
 simp only[↓zq,zs,af,fH]
 refine ak (GY v) ?_
 simp only[↓zq,zs,af,gM,bz]
 unfold mI
 cases he:jo s with
 |none=>rw[mo he];cases qy v<;>simp[gK,gm,↓zq,zs,af]
 |
  some e =>
  obtain⟨t,h1,h2,h3,h4,h5,_⟩:=gu he
  rw[h1]
  cases hv:qy v with
  |none=>simp only[gK,gm,aE,fk,↓zq,zs,af];exact⟨fun h=>(by cases h),fun _=>⟨fun _=>trivial,fun h=>(by cases h)⟩⟩
  |
   some w =>
   obtain⟨h6,h7,h8⟩:=jQ hv
   simp only[gK,gm,aE,fk,aL,er,↓zq,zs,af]
   refine⟨fun h=>(by cases h),fun _=>⟨fun h=>(by cases h),fun _=>⟨fun h=>?_,fun h=>⟨fun h'=>?_,fun h'=>?_⟩⟩⟩⟩
   ·rw[if_neg (by omega)]
   ·rw[if_neg (by omega)]
   ·obtain⟨m,rfl⟩:∃m:Nat,n=(m:Int):=⟨n.toNat,by omega⟩
    have hi:=IW m (by omega) (w.nodes+1) w (by omega) h7 e [] t h2 (by simp;omega)
    unfold pf at hi
    refine ak hi ?_
    simp only[↓zq,zs,af,bW]
    refine⟨fun hq=>?_,fun hq=>?_⟩
    ·rw[if_neg (by rw[hq];simp)]
    ·rw[if_pos ⟨by omega,hq⟩]
theorem Oj(s v:List UInt8)(n:Int):aq Tryz.prog 16 [.v (.string (mk s)),.v (.string (mk v)),.v (.int .i64 n)] [] (bz (.v (.bool (mI s v n).isSome))):=by
 refine MD _ _ _ ?_
 unfold Ic
 refine ak (DC s v n) ?_
 simp only[↓zq,zs,af,fH,gM,bz]
 cases hv:mI s v n<;>simp[gm,iC,er]
theorem Ph(s v:List UInt8)(n:Int):aq Tryz.prog 27 [.v (.string (mk s)),.v (.string (mk v)),.v (.int .i64 n)] [] (bz (.v (.bool (mI s v n).isSome))):=by
 refine NH _ _ _ ?_
 unfold HF
 refine aQ (EU s) (kT.ne _ _ (fun h=>h)) ?_
 rintro r o ⟨c,d,hd,rfl,hh⟩
 have hhas:bO [.str,.sl] [.v (.string (mk c)),d] 0:=by simp[bO,eX,hd]
 simp only[↓zq,zs,af,zt]
 refine⟨hhas,?_⟩
 refine aQ (N4 v) (kT.ne _ _ (fun h=>by cases hq:qy v<;>simp[hq]at h |-)) ?_
 rintro r o ⟨c',d',hd',rfl,hh'⟩
 have hhas':bO [.str,.sl] [.v (.string (mk c')),d'] 0:=by simp[bO,eX,hd']
 simp only[↓zq,zs,af,zt,bz]
 refine⟨hhas',fun h=>⟨fun h2=>?_,fun h2=>?_⟩,fun h=>?_⟩
 ·obtain⟨e,he,hce⟩:=hh h
  obtain⟨t,h1,hA,h3,h4,h5,_⟩:=gu he
  obtain⟨w,hw⟩:=bM.1 h2
  obtain⟨e2,he2,hce2⟩:=hh' h2
  rw[hw]at he2
  cases he2
  obtain⟨h6,h7,h8⟩:=jQ hw
  refine ak (BH _ _ _) ?_
  simp only[↓zq,zs,af,Dn,mI,he,hw]
  refine⟨fun hq=>?_,fun hq=>?_⟩
  ·have hq':0<=n/\n<=100:=by simpa using hq
   obtain⟨m,rfl⟩:∃m:Nat,n=(m:Int):=⟨n.toNat,by omega⟩
   rw[hce,hce2]
   have:=No m (by omega) w h7 e [] t hA (by simp;omega)
   rw[show jV []=[] from rfl]at this
   refine ak this ?_
   simp only[↓zq,zs,af,bW]
   by_cases hb:eG m w (e,[])=true
   ·rw[if_pos ⟨hq',hb⟩,hb];rfl
   ·rw[if_neg (fun h=>hb h.2)]
    rw[Bool.not_eq_true]at hb
    rw[hb];rfl
  ·have hq':¬(0<=n/\n<=100):=by simpa using hq
   rw[if_neg (fun h=>hq' h.1)];rfl
 ·have hn:qy v=none:=by cases hq:qy v<;>simp[hq]at h2 |-
  unfold mI
  rw[hn];cases jo s<;>rfl
 ·have hn:jo s=none:=by cases hq:jo s<;>simp[hq]at h |-
  unfold mI
  rw[hn];rfl
end Go.Proofs.Trees
namespace Go.Proofs.Trees
open Go Go.VL Go.RowKit
inductive Tg where
 |nm (s:List UInt8)
 |bd (k:Nat)
 deriving DecidableEq
def Tg.up:Tg->Tg
 | .nm s=>.nm s
 | .bd k=>.bd (k+1)
def fm:Ty->Tg->Bool
 | .name s,.nm s'=>decide (s=s')
 | .bound u,.bd k=>decide (u=k)
 |_,_=>false
abbrev Hl:=Vl×Vl
def ja(g:Vl->Vl)(l:List Hl):List Hl:=l.map fun h=>(g h.1,h.2)
def j8(f:Ty->Tg->Vl->List Hl)(tg:Tg):Ty->Vl->List Hl
 | .plus a _,.l w=>ja .l (f a tg w)
 | .plus _ b,.r w=>ja .r (f b tg w)
 | .times a b,.p x y=>ja (fun c=>.l (.p c y)) (f a tg x)++ja (fun c=>.r (.p x c)) (f b tg y)
 | .rc a,.f w=>ja (fun c=>.f (.l c)) (f a tg.up w)++(f a (.bd 0) w).flatMap fun h=>ja (fun c=>.f (.r (.p h.1 c))) (f (.rc a) tg h.2)
 |_,_=>[]
def eg:Nat->Ty->Tg->Vl->List Hl
 |0,_,_,_=>[]
 |n+1,t,tg,v=>if fm t tg=true then [(.u,v)]else j8 (eg n) tg t v
def stuck:Ty->Vl->Bool
 | .plus _ _,.l _=>false
 | .plus _ _,.r _=>false
 | .times _ _,.p _ _=>false
 | .rc _,.f _=>false
 |_,_=>true
def bT(t:Ty)(tg:Tg)(v:Vl):List Hl:=eg v.nodes t tg v
theorem dk{g:Vl->Vl}{l:List Hl}{h:Hl}(hm:h∈ja g l):∃k,k∈l/\h=(g k.1,k.2):=by
 obtain⟨k,h1,h2⟩:=cd.1 hm
 exact⟨k,h1,h2.symm⟩
theorem jP{f g:Hl->List Hl}:∀{l:List Hl},(∀h,h∈l->f h=g h)->l.flatMap f=l.flatMap g
 |[],_=>rfl
 |h::l,hl=>by rw[List.flatMap_cons,List.flatMap_cons,hl h ai,jP (l:=l) fun k hk=>hl k (al _ hk)]
theorem fg:∀(n:Nat) (t:Ty) (tg:Tg) (v:Vl) (h:Hl),h∈eg n t tg v->h.2.nodes<=v.nodes/\h.1.nodes+4*h.2.nodes<=4*v.nodes+1
 |0,t,tg,v,h,hm=>by simp[eg]at hm
 |
  n+1,t,tg,v,h,hm=>by
  unfold eg at hm
  split at hm
  ·simp only[aR]at hm
   subst hm
   simp only[Vl.nodes];omega
  ·unfold j8 at hm
   split at hm
   ·obtain⟨k,h1,rfl⟩:=dk hm
    have:=fg n _ _ _ k h1
    simp only[Vl.nodes];omega
   ·obtain⟨k,h1,rfl⟩:=dk hm
    have:=fg n _ _ _ k h1
    simp only[Vl.nodes];omega
   ·rcases aK.1 hm with hm|hm
    ·obtain⟨k,h1,rfl⟩:=dk hm
     have:=fg n _ _ _ k h1
     simp only[Vl.nodes];omega
    ·obtain⟨k,h1,rfl⟩:=dk hm
     have:=fg n _ _ _ k h1
     simp only[Vl.nodes];omega
   ·rcases aK.1 hm with hm|hm
    ·obtain⟨k,h1,rfl⟩:=dk hm
     have:=fg n _ _ _ k h1
     simp only[Vl.nodes];omega
    ·obtain⟨k,h1,h2⟩:=List.mem_flatMap.1 hm
     obtain⟨k2,h3,rfl⟩:=dk h2
     have:=fg n _ _ _ k h1
     have:=fg n _ _ _ k2 h3
     simp only[Vl.nodes];omega
   ·simp at hm
theorem gD:∀(n m:Nat) (t:Ty) (tg:Tg) (v:Vl),v.nodes<=n->v.nodes<=m->eg n t tg v=eg m t tg v
 |0,m,t,tg,v,h,_=>by have:=dx v;omega
 |n+1,0,t,tg,v,_,h=>by have:=dx v;omega
 |
  n+1,m+1,t,tg,v,hn,hm=>by
  rw[eg,eg]
  split
  ·rfl
  ·unfold j8
   split
   ·simp only[Vl.nodes]at hn hm;rw[gD n m _ _ _ (by omega) (by omega)]
   ·simp only[Vl.nodes]at hn hm;rw[gD n m _ _ _ (by omega) (by omega)]
   ·simp only[Vl.nodes]at hn hm;rw[gD n m _ _ _ (by omega) (by omega),gD n m _ _ _ (by omega) (by omega)]
   ·rename_i a w
    simp only[Vl.nodes]at hn hm;rw[gD n m _ _ _ (by omega) (by omega),gD n m _ (.bd 0) _ (by omega) (by omega)]
    congr 1
    apply jP
    intro h hh
    have:=(fg _ _ _ _ _ hh).1
    rw[gD n m _ _ _ (by omega) (by omega)]
   ·rfl
theorem nt{n:Nat}(t:Ty)(tg:Tg){v:Vl}(h:v.nodes<=n):eg n t tg v=bT t tg v:=gD _ _ _ _ _ h (az _)
theorem l8{t:Ty}{tg:Tg}(v:Vl)(h:fm t tg=true):bT t tg v=[(.u,v)]:=by
 have:=dx v
 unfold bT
 cases e:v.nodes with
 |zero=>omega
 |succ n=>rw[eg,if_pos h]
theorem mF(a b:Ty)(tg:Tg)(w:Vl):bT (.plus a b) tg (.l w)=ja .l (bT a tg w):=by
 unfold bT;rw[show (Vl.l w).nodes=w.nodes+1 by simp[Vl.nodes];omega,eg,if_neg (by simp[fm])];rfl
theorem mC(a b:Ty)(tg:Tg)(w:Vl):bT (.plus a b) tg (.r w)=ja .r (bT b tg w):=by
 unfold bT;rw[show (Vl.r w).nodes=w.nodes+1 by simp[Vl.nodes];omega,eg,if_neg (by simp[fm])];rfl
theorem mn(a b:Ty)(tg:Tg)(x y:Vl):bT (.times a b) tg (.p x y)=ja (fun c=>.l (.p c y)) (bT a tg x)++ja (fun c=>.r (.p x c)) (bT b tg y):=by
 rw[bT,show (Vl.p x y).nodes=(x.nodes+y.nodes)+1 by simp[Vl.nodes];omega,eg,if_neg (by simp[fm])]
 rw[j8,nt a tg (by omega),nt b tg (by omega)]
theorem my(a:Ty)(tg:Tg)(w:Vl):bT (.rc a) tg (.f w)=ja (fun c=>.f (.l c)) (bT a tg.up w)++(bT a (.bd 0) w).flatMap fun h=>ja (fun c=>.f (.r (.p h.1 c))) (bT (.rc a) tg h.2):=by
 rw[bT,show (Vl.f w).nodes=w.nodes+1 by simp[Vl.nodes];omega,eg,if_neg (by simp[fm])]
 rw[j8,nt a tg.up (az _),nt a (.bd 0) (az _)]
 congr 1
 apply jP
 intro h hh
 have:=(fg _ _ _ _ _ hh).1
 rw[nt (.rc a) tg this]
theorem dF{t:Ty}{tg:Tg}{v:Vl}(h:fm t tg=false)(h2:stuck t v=true):bT t tg v=[]:=by
 unfold bT
 cases e:v.nodes with
 |zero=>rfl
 |
  succ n =>
  rw[eg,if_neg (by rw[h];simp)]
  unfold j8
  split<;>first|(simp[stuck]at h2;done)|rfl
theorem i6{t:Ty}{tg:Tg}{v:Vl}{h:Hl}(hm:h∈bT t tg v):h.2.nodes<=v.nodes/\h.1.nodes+4*h.2.nodes<=4*v.nodes+1:=fg _ _ _ _ _ hm
theorem gG(n:Nat):∀(m:Nat) (t:Ty) (tg:Tg) (v:Vl) (h:Hl),v.iq n->h∈eg m t tg v->h.1.iq n/\h.2.iq n
 |0,t,tg,v,h,hv,hm=>by simp[eg]at hm
 |
  m+1,t,tg,v,h,hv,hm=>by
  unfold eg at hm
  split at hm
  ·simp only[aR]at hm
   subst hm
   exact⟨trivial,hv⟩
  ·unfold j8 at hm
   split at hm
   ·obtain⟨k,h1,rfl⟩:=dk hm
    exact(fun q=>gG n m _ _ _ k q h1) hv
   ·obtain⟨k,h1,rfl⟩:=dk hm
    exact(fun q=>gG n m _ _ _ k q h1) hv
   ·rcases aK.1 hm with hm|hm
    ·obtain⟨k,h1,rfl⟩:=dk hm
     obtain⟨q1,q2⟩:=gG n m _ _ _ k hv.1 h1
     exact⟨⟨q1,hv.2⟩,q2⟩
    ·obtain⟨k,h1,rfl⟩:=dk hm
     obtain⟨q1,q2⟩:=gG n m _ _ _ k hv.2 h1
     exact⟨⟨hv.1,q1⟩,q2⟩
   ·rcases aK.1 hm with hm|hm
    ·obtain⟨k,h1,rfl⟩:=dk hm
     exact(fun q=>gG n m _ _ _ k q h1) hv
    ·obtain⟨k,h1,h2⟩:=List.mem_flatMap.1 hm
     obtain⟨k2,h3,rfl⟩:=dk h2
     obtain⟨q1,q2⟩:=(fun q=>gG n m _ _ _ k q h1) hv
     obtain⟨q3,q4⟩:=gG n m _ _ _ k2 q2 h3
     exact⟨⟨q1,q3⟩,q4⟩
   ·simp at hm
def kl(l:List Hl):Nat:=(l.map fun h=>h.2.nodes).sum
theorem qf(l r:List Hl):kl (l++r)=kl l+kl r:=by simp[kl]
theorem nq(g:Vl->Vl)(l:List Hl):kl (ja g l)=kl l:=by simp[kl,ja,Function.comp_def]
def j9(f:Tg->Nat)(T:List Tg):Nat:=(T.map f).sum
theorem ot(f g:Tg->Nat):∀T:List Tg,j9 (fun x=>f x+g x) T=j9 f T+j9 g T
 |[]=>rfl
 |x::T=>by have:=ot f g T;simp only[j9,bD,List.sum_cons]at this |-;omega
theorem xk{f g:Tg->Nat}:∀{T:List Tg},(∀x,x∈T->f x<=g x)->j9 f T<=j9 g T
 |[],_=>az _
 |
  x::T,h=>by
  have:=xk (T:=T) fun y hy=>h y (al _ hy)
  have:=h x ai
  simp only[j9,bD,List.sum_cons]at *;omega
theorem oU{f:Tg->Nat}:∀{T:List Tg},(∀x,x∈T->f x=0)->j9 f T=0
 |[],_=>rfl
 |
  x::T,h=>by
  have:=oU (T:=T) fun y hy=>h y (al _ hy)
  have:=h x ai
  simp only[j9,bD,List.sum_cons]at *;omega
theorem sF(g:Hl->Tg->Nat)(T:List Tg):∀l:List Hl,j9 (fun x=>(l.map fun h=>g h x).sum) T=(l.map fun h=>j9 (g h) T).sum
 |[]=>oU fun _ _=>rfl
 |
  h::l=>by
  have:=sF g T l
  simp only[bD,List.sum_cons]
  rw[ot,this]
theorem rR(f:Hl->List Hl):∀l:List Hl,kl (l.flatMap f)=(l.map fun h=>kl (f h)).sum
 |[]=>rfl
 |h::l=>by rw[List.flatMap_cons,qf,rR f l];simp
theorem zK{f g:Hl->Nat}:∀{l:List Hl},(∀x,x∈l->f x<=g x)->(l.map f).sum<=(l.map g).sum
 |[],_=>az _
 |
  x::l,h=>by
  have:=zK (l:=l) fun y hy=>h y (al _ hy)
  have:=h x ai
  simp only[bD,List.sum_cons]at *;omega
theorem Ax{t:Ty}{x y:Tg}(h:fm t x=true)(h':fm t y=true):x=y:=by
 cases t<;>cases x<;>cases y<;>simp[fm]at h h'<;>simp_all
theorem wO{t:Ty}(n:Nat):∀{T:List Tg},T.Nodup->j9 (fun x=>if fm t x=true then n else 0) T<=n
 |[],_=>dA _
 |
  x::T,h=>by
  obtain⟨h1,h2⟩:=List.nodup_cons.1 h
  have ih:=wO (t:=t) n h2
  by_cases hx:fm t x=true
  ·have:j9 (fun x=>if fm t x=true then n else 0) T=0:=oU fun y hy=>by
    rw[if_neg fun hy'=>h1 (by rw[Ax hx hy'];exact hy)]
   simp only[j9,bD,List.sum_cons]at *
   rw[if_pos hx];omega
  ·simp only[j9,bD,List.sum_cons]at *
   rw[if_neg hx];omega
theorem z8{T:List Tg}(h:T.Nodup):(Tg.bd 0::T.map Tg.up).Nodup:=by
 refine List.nodup_cons.2 ⟨fun hm=>?_,?_⟩
 ·obtain⟨x,_,e⟩:=cd.1 hm
  cases x<;>simp[Tg.up]at e
 ·refine List.Pairwise.map _ (fun a b hab e=>hab ?_) h
  cases a<;>cases b<;>simp[Tg.up]at e<;>simp_all
theorem apart:∀(n:Nat) (v:Vl),v.nodes<=n->∀(t:Ty) (T:List Tg),T.Nodup->j9 (fun x=>kl (bT t x v)) T<=v.nodes
 |0,v,h=>by have:=dx v;omega
 |
  n+1,v,hn=>by
  intro t T hT
  have base:∀(hno:∀x,fm t x=false->bT t x v=[]),j9 (fun x=>kl (bT t x v)) T<=v.nodes:=fun hno=>by
   refine Nat.le_trans (xk fun x _=>?_) (wO (t:=t) v.nodes hT)
   cases e:fm t x with
   |true=>rw[l8 v e];simp[kl]
   |false=>rw[hno x e];simp[kl]
  cases hm:stuck t v with
  |true=>exact base fun x hx=>dF hx hm
  |
   false =>
   unfold stuck at hm
   split at hm
   ·rename_i a b w
    simp only[Vl.nodes]at hn |-
    simp only[mF,nq]
    have:=apart n w (by omega) a T hT
    omega
   ·rename_i a b w
    simp only[Vl.nodes]at hn |-
    simp only[mC,nq]
    have:=apart n w (by omega) b T hT
    omega
   ·rename_i a b x y
    simp only[Vl.nodes]at hn |-
    simp only[mn,qf,nq]
    rw[ot]
    have:=apart n x (by omega) a T hT
    have:=apart n y (by omega) b T hT
    omega
   ·rename_i a w
    simp only[Vl.nodes]at hn |-
    simp only[my,qf,nq,rR]
    rw[ot,sF]
    have h1:=apart n w (by omega) a _ (z8 hT)
    simp only[j9,bD,List.sum_cons,List.map_map]at h1
    have h2:((bT a (.bd 0) w).map fun h=>j9 (fun x=>kl (bT (.rc a) x h.2)) T).sum<=kl (bT a (.bd 0) w):=zK fun h hh=>by
     have:=(i6 hh).1
     exact apart n h.2 (by omega) (.rc a) T hT
    simp only[j9,Function.comp_def]at h1 h2 |-
    omega
   ·cases hm
theorem qG(t:Ty)(tg:Tg)(v:Vl):kl (bT t tg v)<=v.nodes:=by
 have:=apart v.nodes v (az _) t [tg] (by simp)
 simpa[j9]using this
theorem oi:∀l:List Hl,l.length<=kl l
 |[]=>dA _
 |
  h::l=>by
  have:=oi l
  have:=dx h.2
  simp only[kl,bD,List.sum_cons,aw]at *;omega
theorem mD(t:Ty)(tg:Tg)(v:Vl):(bT t tg v).length<=v.nodes:=Nat.le_trans (oi _) (qG t tg v)
end Go.Proofs.Trees
namespace Go.Proofs.Trees
open Go Go.VL Go.RowKit
def gj(ar:List (List UInt8))(k:Nat):List UInt8:=ar.getD (ar.length-1-k) []
theorem fN{s:List UInt8}{ar:List (List UInt8)}:∀(i u:Nat),i<=ar.length->bH s ar i=some u->u<ar.length/\gj ar u=s
 |0,u,_,h=>by cases h
 |
  i+1,u,hi,h=>by
  rw[bH]at h
  split at h
  ·rename_i e
   cases h
   refine⟨by omega,?_⟩
   rw[gj,show ar.length-1-(ar.length-1-i)=i by omega];exact e
  ·exact fN i u (by omega) h
def tJ:Ty->Tg->Bool
 | .plus a b,tg=>tJ a tg||tJ b tg
 | .times a b,tg=>tJ a tg||tJ b tg
 | .rc a,tg=>tJ a tg.up
 |t,tg=>fm t tg
theorem iv:∀(n:Nat) (v:Vl),v.nodes<=n->∀(t:Ty) (tg:Tg),tJ t tg=false->bT t tg v=[]
 |0,v,h=>by have:=dx v;omega
 |
  n+1,v,hn=>by
  intro t tg ho
  cases hm:stuck t v with
  |
   true =>
   refine dF ?_ hm
   cases t<;>first|exact ho|rfl
  |
   false =>
   unfold stuck at hm
   split at hm
   ·simp only[Vl.nodes]at hn
    simp only[tJ,cf]at ho
    rw[mF,iv n _ (by omega) _ _ ho.1];rfl
   ·simp only[Vl.nodes]at hn
    simp only[tJ,cf]at ho
    rw[mC,iv n _ (by omega) _ _ ho.2];rfl
   ·simp only[Vl.nodes]at hn
    simp only[tJ,cf]at ho
    rw[mn,iv n _ (by omega) _ _ ho.1,iv n _ (by omega) _ _ ho.2];rfl
   ·rename_i a w
    simp only[Vl.nodes]at hn
    have ho':tJ a tg.up=false:=ho
    rw[my,iv n _ (by omega) _ _ ho']
    have:(bT a (.bd 0) w).flatMap (fun h=>ja (fun c=>.f (.r (.p h.1 c))) (bT (.rc a) tg h.2))=(bT a (.bd 0) w).flatMap (fun _=>[]):=jP fun h hh=>by
     have:=(i6 hh).1
     rw[iv n h.2 (by omega) (.rc a) tg ho];rfl
    rw[this]
    induction bT a (.bd 0) w<;>simp_all[ja]
   ·cases hm
theorem kE:∀(e:E) (ar:List (List UInt8)) (t:Ty) (k:Nat),cB e ar=some t->tJ t (.bd k)=true->k<ar.length/\bH (gj ar k) ar ar.length=some k
 |
  .atom s,ar,t,k,ht,ho=>by
  simp only[cB]at ht
  split at ht
  ·cases ht;cases ho
  ·split at ht
   ·cases ht;cases ho
   ·split at ht
    ·cases ht;cases ho
    ·split at ht
     ·split at ht
      ·rename_i u hu
       cases ht
       have:u=k:=by simpa[tJ,fm]using ho
       subst this
       obtain⟨h1,h2⟩:=fN _ _ (az _) hu
       exact⟨h1,by rw[h2];exact hu⟩
      ·cases ht;cases ho
     ·cases ht
 |
  .list [x,a,b],ar,t,k,ht,ho=>by
  by_cases h0:x.at=[43]
  ·obtain⟨t1,t2,h1,h2,rfl⟩:=fh h0 ht
   simp only[tJ,bh]at ho
   rcases ho with ho|ho
   ·exact kE a ar t1 k h1 ho
   ·exact kE b ar t2 k h2 ho
  ·by_cases h1:x.at=[42]
   ·obtain⟨t1,t2,h1,h2,rfl⟩:=eN h1 ht
    simp only[tJ,bh]at ho
    rcases ho with ho|ho
    ·exact kE a ar t1 k h1 ho
    ·exact kE b ar t2 k h2 ho
   ·by_cases h2:x.at=[114,101,99]
    ·obtain⟨t1,_,h3,rfl⟩:=df h2 ht
     obtain⟨q1,q2⟩:=kE b (ar++[a.at]) t1 (k+1) h3 ho
     simp only[an,aw,aG]at q1
     have hk:k<ar.length:=by omega
     have e:gj (ar++[a.at]) (k+1)=gj ar k:=by
      unfold gj
      rw[an,show ar.length+[a.at].length-1-(k+1)=ar.length-1-k by simp;omega]
      simp[aa,List.getElem?_append_left (show ar.length-1-k<ar.length by omega)]
     rw[e]at q2
     refine⟨hk,?_⟩
     have e2:(ar++[a.at]).length=ar.length+1:=by simp
     rw[e2,bH]at q2
     split at q2
     ·rw[e2]at q2;simp at q2
     ·rw[jX _ _ _ _ (az _)]at q2
      cases hq:bH (gj ar k) ar ar.length with
      |none=>rw[hq]at q2;cases q2
      |some u=>rw[hq]at q2;simpa using q2
    ·rw[iO _ h0 h1 h2]at ht;cases ht
 | .list [],ar,t,k,ht,ho=>by cases ht
 | .list [_],ar,t,k,ht,ho=>by cases ht
 | .list [_,_],ar,t,k,ht,ho=>by cases ht
 | .list (_::_::_::_::_),ar,t,k,ht,ho=>by cases ht
theorem gp(w:List UInt8)(ar:List (List UInt8)):bH w (ar++[w]) (ar++[w]).length=some 0:=by
 have e2:(ar++[w]).length=ar.length+1:=by simp
 rw[e2,bH,if_pos (by simp[aa]),e2];simp
theorem jk{s w:List UInt8}(ar:List (List UInt8))(h:w≠s):bH s (ar++[w]) (ar++[w]).length=(bH s ar ar.length).map (·+1):=by
 have e2:(ar++[w]).length=ar.length+1:=by simp
 rw[e2,bH,if_neg (by simpa[aa]using h),jX _ _ _ _ (az _)]
theorem Em{b:E}{ar:List (List UInt8)}{w:List UInt8}{t:Ty}{k:Nat}(hb:cB b (ar++[w])=some t)(hk:bH w ar ar.length=some k):tJ t (.bd (k+1))=false:=by
 cases h:tJ t (.bd (k+1))with
 |false=>rfl
 |
  true =>
  obtain⟨_,q2⟩:=kE _ _ _ _ hb h
  obtain⟨h1,h2⟩:=fN _ _ (az _) hk
  have e:gj (ar++[w]) (k+1)=gj ar k:=by
   unfold gj
   rw[an,show ar.length+[w].length-1-(k+1)=ar.length-1-k by simp;omega]
   simp[aa,List.getElem?_append_left (show ar.length-1-k<ar.length by omega)]
  rw[e,h2,gp]at q2
  cases q2
def oy(s:List UInt8)(ar:List (List UInt8)):Tg:=match bH s ar ar.length with|some u=>.bd u|none=>.nm s
theorem uA(w:List UInt8)(ar:List (List UInt8)):oy w (ar++[w])=.bd 0:=by rw[oy,gp]
theorem xV{s w:List UInt8}(ar:List (List UInt8))(h:w≠s):oy s (ar++[w])=(oy s ar).up:=by
 rw[oy,oy,jk ar h]
 cases bH s ar ar.length<;>rfl
theorem gP(n:Nat):∀(m:Nat) (v:Vl),v.nodes<=m->∀(e:E) (env:List Fr) (t:Ty),Ask e env t->eG n v (e,env)=true->∀(k:Nat) (f:Fr),env[k]?=some f->∀h,h∈bT t (.bd k) v->eG n h.2 (f.ex,f.out)=true
 |0,v,hm=>by have:=dx v;omega
 |
  m+1,v,hm=>by
  intro e env t A hv k f hf h hh
  rcases gT A.wf A.ty with⟨hb,hq⟩|⟨u,g,rfl,hq,hu⟩
  ·have hhd:hd e env=(e,env):=j4 hq
   rcases fM A.ty hb A.cl with⟨rfl,rfl⟩|⟨rfl,rfl⟩|⟨s,rfl,rfl,hp,h0,h1⟩|⟨x,a,b,t1,t2,rfl,hx,rfl,ha,hbb⟩|⟨x,a,b,t1,t2,rfl,hx,rfl,ha,hbb⟩|⟨x,a,b,t1,rfl,hx,rfl⟩
   ·rw[dF rfl (by cases v<;>rfl)]at hh;cases hh
   ·rw[dF rfl (by cases v<;>rfl)]at hh;cases hh
   ·rw[dF rfl (by cases v<;>rfl)]at hh;cases hh
   ·obtain⟨ok1,ok2,ok3,_⟩:=A.ok
    obtain⟨f1,f2⟩:=fP A.cl
    cases v with
    |
     l w =>
     simp only[eG,hhd,hx,beq_self_eq_true,bG]at hv
     simp only[Vl.nodes]at hm
     rw[mF]at hh
     obtain⟨h2,h3,rfl⟩:=dk hh
     exact gP n m w (by omega) a env t1 ⟨ok2,A.wf,ha,f1⟩ hv k f hf h2 h3
    |
     r w =>
     simp only[eG,hhd,hx,beq_self_eq_true,bG]at hv
     simp only[Vl.nodes]at hm
     rw[mC]at hh
     obtain⟨h2,h3,rfl⟩:=dk hh
     exact gP n m w (by omega) b env t2 ⟨ok3,A.wf,hbb,f2⟩ hv k f hf h2 h3
    |_=>rw[dF rfl rfl]at hh;cases hh
   ·obtain⟨ok1,ok2,ok3,_⟩:=A.ok
    obtain⟨f1,f2⟩:=fj A.cl
    cases v with
    |
     p w w' =>
     simp only[eG,hhd,hx,beq_self_eq_true,bG,au]at hv
     simp only[Vl.nodes]at hm
     rw[mn]at hh
     rcases aK.1 hh with hh|hh
     ·obtain⟨h2,h3,rfl⟩:=dk hh
      exact gP n m w (by omega) a env t1 ⟨ok2,A.wf,ha,f1⟩ hv.1 k f hf h2 h3
     ·obtain⟨h2,h3,rfl⟩:=dk hh
      exact gP n m w' (by omega) b env t2 ⟨ok3,A.wf,hbb,f2⟩ hv.2 k f hf h2 h3
    |_=>rw[dF rfl rfl]at hh;cases hh
   ·obtain⟨t1',he1,h1,f1,hw1⟩:=jI A.wf A.ok hx A.ty A.cl
    cases he1
    obtain⟨ok1,ok2,ok3,_⟩:=A.ok
    cases v with
    |
     f w =>
     simp only[eG,hhd,hx,beq_self_eq_true,bG]at hv
     simp only[Vl.nodes]at hm
     rw[my]at hh
     have A':Ask b (.mk a.at (.list [x,a,b]) env::env) t1:=⟨ok3,hw1,h1,f1⟩
     rcases aK.1 hh with hh|hh
     ·obtain⟨h2,h3,rfl⟩:=dk hh
      exact gP n m w (by omega) b _ t1 A' hv (k+1) f (by simpa using hf) h2 h3
     ·obtain⟨kd,h2,h3⟩:=List.mem_flatMap.1 hh
      obtain⟨h4,h5,rfl⟩:=dk h3
      have hkd:=gP n m w (by omega) b _ t1 A' hv 0 _ rfl kd h2
      have:=(i6 h2).1
      exact gP n m kd.2 (by omega) (.list [x,a,b]) env _ A hkd k f hf h4 h5
    |_=>rw[dF rfl rfl]at hh;cases hh
  ·by_cases huk:u=k
   ·subst huk
    rw[hu]at hf;cases hf
    rw[l8 v (by simp[fm])]at hh
    simp only[aR]at hh
    subst hh
    obtain⟨x,a,b,t',hfe,hok,hx,ht',hf',hwf,hlt⟩:=nO A.wf hq
    rw[<-sS n v (pT hq) (by rw[hfe];exact o0 hwf)];exact hv
   ·rw[dF (by simpa[fm]using huk) (by cases v<;>rfl)]at hh;cases hh
end Go.Proofs.Trees
namespace Go.Proofs.Trees
open Go Go.VL Go.RowKit
def ew:E->List Nm->Ty
 | .atom s,ar=>if s=[48]then .zero else if s=[49]then .one else match bH s ar ar.length with|some u=>.bound u|none=>.name s
 | .list [x,a,b],ar=>if x.at=[43]then .plus (ew a ar) (ew b ar)else if x.at=[42]then .times (ew a ar) (ew b ar)else .rc (ew b (ar++[a.at]))
 | .list _,_=>.zero
def tO(s:Nm):Prop:=s≠[]/\s≠[48]/\s≠[49]
inductive Wf:E->Prop
 |atom {s} (h:s≠[]):Wf (.atom s)
 |plus {a b} (ha:Wf a) (hb:Wf b):Wf (.list [.atom [43],a,b])
 |times {a b} (ha:Wf a) (hb:Wf b):Wf (.list [.atom [42],a,b])
 |rc {n b} (hn:tO n) (hb:Wf b):Wf (.list [.atom [114,101,99],.atom n,b])
theorem ff(a b:E)(ar:List Nm):ew (.list [.atom [43],a,b]) ar=.plus (ew a ar) (ew b ar):=by rw[ew,if_pos (show (E.atom [43]).at=[43] from rfl)]
theorem eA(a b:E)(ar:List Nm):ew (.list [.atom [42],a,b]) ar=.times (ew a ar) (ew b ar):=by rw[ew,if_neg (by decide),if_pos (show (E.atom [42]).at=[42] from rfl)]
theorem jb(a b:E)(ar:List Nm):ew (.list [.atom [114,101,99],a,b]) ar=.rc (ew b (ar++[a.at])):=by rw[ew,if_neg (by decide),if_neg (by decide)]
theorem Wf.ok{e:E}(h:Wf e):e.ok:=by
 induction h with
 |atom h=>exact h
 |plus ha hb i1 i2=>exact⟨by simp[E.ok],i1,i2,trivial⟩
 |times ha hb i1 i2=>exact⟨by simp[E.ok],i1,i2,trivial⟩
 |rc hn hb i=>exact⟨by simp[E.ok],hn.1,i,trivial⟩
theorem Wf.en{e:E}(h:Wf e):∀ar,e.en=(ew e ar).atoms:=by
 induction h with
 |
  @atom s h =>
  intro ar
  simp only[E.en,ew]
  split
  ·rfl
  ·split
   ·rfl
   ·split<;>rfl
 |plus ha hb i1 i2=>intro ar;rw[ff];simp only[E.en,E.fp,Ty.atoms,<-i1 ar,<-i2 ar];omega
 |times ha hb i1 i2=>intro ar;rw[eA];simp only[E.en,E.fp,Ty.atoms,<-i1 ar,<-i2 ar];omega
 |@rc n b hn hb i=>intro ar;rw[jb];simp only[E.en,E.fp,Ty.atoms,<-i];omega
theorem Wf.sz{e:E}(h:Wf e):e.sz<=3*e.en:=by
 induction h with
 |atom h=>simp[E.sz,E.en]
 |plus ha hb i1 i2=>simp only[E.sz,E.je,E.en,E.fp];omega
 |times ha hb i1 i2=>simp only[E.sz,E.je,E.en,E.fp];omega
 |rc hn hb i=>simp only[E.sz,E.je,E.en,E.fp];omega
theorem j5:∀(e:E) (ar:List Nm) (t:Ty),e.ok->(∀w,w∈ar->cP w=true)->cB e ar=some t->Wf e/\ew e ar=t
 |
  .atom s,ar,t,hok,hl,ht=>by
  refine⟨.atom hok,?_⟩
  simp only[cB,ew]at ht |-
  split at ht
  ·rename_i h;rw[if_pos h];simpa using ht
  ·rename_i h;rw[if_neg h]
   split at ht
   ·rename_i h1;rw[if_pos h1];simpa using ht
   ·rename_i h1;rw[if_neg h1]
    split at ht
    ·rename_i hp
     cases q:bH s ar ar.length with
     |none=>simpa using ht
     |
      some u =>
      obtain⟨h1,h2⟩:=fN _ _ (az _) q
      have:=hl (gj ar u) (by
       unfold gj
       have:ar.length-1-u<ar.length:=by omega
       simp[aa,this])
      rw[h2,jY hp]at this;cases this
    ·split at ht
     ·split at ht<;>rename_i q<;>rw[q]<;>simpa using ht
     ·cases ht
 |
  .list [x,a,b],ar,t,hok,hl,ht=>by
  obtain⟨ok1,ok2,ok3,_⟩:=hok
  by_cases h0:x.at=[43]
  ·obtain⟨t1,t2,h1,h2,rfl⟩:=fh h0 ht
   obtain rfl:=j7 h0 (by simp)
   obtain⟨w1,e1⟩:=j5 a ar t1 ok2 hl h1
   obtain⟨w2,e2⟩:=j5 b ar t2 ok3 hl h2
   exact⟨.plus w1 w2,by rw[ff,e1,e2]⟩
  ·by_cases h1:x.at=[42]
   ·obtain⟨t1,t2,h2,h3,rfl⟩:=eN h1 ht
    obtain rfl:=j7 h1 (by simp)
    obtain⟨w1,e1⟩:=j5 a ar t1 ok2 hl h2
    obtain⟨w2,e2⟩:=j5 b ar t2 ok3 hl h3
    exact⟨.times w1 w2,by rw[eA,e1,e2]⟩
   ·by_cases h2:x.at=[114,101,99]
    ·obtain⟨t1,hla,h3,rfl⟩:=df h2 ht
     obtain rfl:=j7 h2 (by simp)
     have hne:a.at≠[]:=by intro e;rw[e]at hla;cases hla
     have ha:a=.atom a.at:=j7 rfl hne
     obtain⟨w1,e1⟩:=j5 b (ar++[a.at]) t1 ok3 (fun w hw=>by
      rcases aK.1 hw with hw|hw
      ·exact hl w hw
      ·simp only[aR]at hw;rw[hw];exact hla) h3
     have hN:tO a.at:=⟨hne,fun e=>by rw[e]at hla;revert hla;decide,fun e=>by rw[e]at hla;revert hla;decide⟩
     refine⟨?_,by rw[jb,e1]⟩
     rw[ha];exact .rc hN w1
    ·rw[iO _ h0 h1 h2]at ht;cases ht
 | .list [],ar,t,_,_,ht=>by cases ht
 | .list [_],ar,t,_,_,ht=>by cases ht
 | .list [_,_],ar,t,_,_,ht=>by cases ht
 | .list (_::_::_::_::_),ar,t,_,_,ht=>by cases ht
theorem fG(s:Nm)(ar:List Nm):bH s ar ar.length=none↔s∉ar:=by
 have:=l5 s ar ar.length (az _)
 rwa[List.take_length]at this
theorem qD(s:Nm)(ar:List Nm):∀(n:Nat) (br:List Nm),br.length=n->bH s (ar++br) (ar++br).length=match bH s br br.length with|some u=>some u|none=>(bH s ar ar.length).map (·+br.length)
 |
  0,br,h=>by
  obtain rfl:=List.eq_nil_of_length_eq_zero h
  rw[List.append_nil]
  cases h:bH s ar ar.length<;>simp[bH]
 |
  n+1,br,h=>by
  obtain⟨b2,w,rfl⟩:∃b2 w,br=b2++[w]:=⟨br.dropLast,br.getLast (by intro e;rw[e]at h;cases h),(List.dropLast_concat_getLast _).symm⟩
  rw[<-a7]
  by_cases hw:w=s
  ·subst hw;rw[gp,gp]
  ·rw[jk _ hw,jk _ hw,qD s ar n b2 (by simpa using h)]
   cases bH s b2 b2.length with
   |some u=>rfl
   |
    none =>
    cases bH s ar ar.length with
    |none=>rfl
    |some u=>simp only[Option.map_none,ct,an,aw,aG];congr 1
theorem Ct(ar:List Nm){e:E}(h:Wf e):∀br,(∀y,bg y (ew e br)=true->y∉ar)->ew e (ar++br)=ew e br:=by
 induction h with
 |
  @atom s h =>
  intro br hy
  simp only[ew]at hy |-
  split
  ·rfl
  ·rename_i h0
   split
   ·rfl
   ·rename_i h1
    rw[if_neg h0,if_neg h1]at hy
    rw[qD s ar _ br rfl]
    cases q:bH s br br.length with
    |some u=>rfl
    |
     none =>
     rw[q]at hy
     have:=(fG s ar).2 (hy s (by simp[bg]))
     rw[this];rfl
 |
  plus ha hb i1 i2 =>
  intro br hy
  rw[ff]at hy |-
  rw[ff,i1 br fun y h=>hy y (by simp[bg,h]),i2 br fun y h=>hy y (by simp[bg,h])]
 |
  times ha hb i1 i2 =>
  intro br hy
  rw[eA]at hy |-
  rw[eA,i1 br fun y h=>hy y (by simp[bg,h]),i2 br fun y h=>hy y (by simp[bg,h])]
 |
  @rc n b hn hb i =>
  intro br hy
  rw[jb]at hy |-
  rw[jb,a7,i _ hy]
theorem rU{e:E}(h:Wf e):∀ar y,bg y (ew e ar)=true->tO y/\y∉ar:=by
 induction h with
 |
  @atom s h =>
  intro ar y hy
  simp only[ew]at hy
  split at hy
  ·cases hy
  ·rename_i h0
   split at hy
   ·cases hy
   ·rename_i h1
    split at hy
    ·cases hy
    ·rename_i q
     simp only[bg,decide_eq_true_eq]at hy
     subst hy
     exact⟨⟨h,h0,h1⟩,(fG _ _).1 q⟩
 |
  plus ha hb i1 i2 =>
  intro ar y hy
  rw[ff]at hy
  simp only[bg,bh]at hy
  rcases hy with hy|hy
  ·exact i1 ar y hy
  ·exact i2 ar y hy
 |
  times ha hb i1 i2 =>
  intro ar y hy
  rw[eA]at hy
  simp only[bg,bh]at hy
  rcases hy with hy|hy
  ·exact i1 ar y hy
  ·exact i2 ar y hy
 |
  rc hn hb i =>
  intro ar y hy
  rw[jb]at hy
  obtain⟨h1,h2⟩:=i _ y hy
  exact⟨h1,fun h=>h2 (aB _ h)⟩
theorem wv{e:E}(h:Wf e):∀(bd l:List Nm) (y:Nm),y∈lD e bd l↔y∈l\/bg y (ew e bd)=true:=by
 induction h with
 |
  @atom s h =>
  intro bd l y
  simp only[lD,ew]
  by_cases h0:s=[48]
  ·simp[h0,bg]
  ·by_cases h1:s=[49]
   ·simp[h1,bg]
   ·rw[if_neg h0,if_neg h1]
    by_cases h2:s∈bd
    ·cases q:bH s bd bd.length with
     |none=>exact absurd h2 ((fG _ _).1 q)
     |some u=>simp[h2,bg]
    ·rw[(fG _ _).2 h2]
     simp only[h0,h1,h2,false_or,bg,decide_eq_true_eq]
     by_cases h3:s∈l
     ·simp only[h3,if_true]
      exact⟨fun h=>.inl h,fun h=>by rcases h with h|rfl<;>assumption⟩
     ·simp only[h3,if_false,aK,aR,eq_comm]
 |
  plus ha hb i1 i2 =>
  intro bd l y
  rw[lD,if_neg (by decide),ff,i2,i1]
  simp[bg,or_assoc]
 |
  times ha hb i1 i2 =>
  intro bd l y
  rw[lD,if_neg (by decide),eA,i2,i1]
  simp[bg,or_assoc]
 |
  rc hn hb i =>
  intro bd l y
  rw[lD,if_pos (show (E.atom [114,101,99]).at=[114,101,99] from rfl),jb,i]
  rfl
theorem fF:∀(t:Ty) (out:List Nm) (y:Nm),y∈bL t out↔y∈out\/bg y t=true
 |
  .name s,out,y=>by
  simp only[bL,oI,bg,decide_eq_true_eq]
  split
  ·rename_i h;exact⟨fun h=>.inl h,fun h'=>by rcases h' with h'|rfl<;>assumption⟩
  ·simp[eq_comm]
 | .plus a b,out,y=>by rw[bL,fF b,fF a];simp[bg,or_assoc]
 | .times a b,out,y=>by rw[bL,fF b,fF a];simp[bg,or_assoc]
 | .rc a,out,y=>by rw[bL,fF a];rfl
 | .zero,out,y=>by simp[bL,bg]
 | .one,out,y=>by simp[bL,bg]
 | .bound k,out,y=>by simp[bL,bg]
end Go.Proofs.Trees
namespace Go.Proofs.Trees
open Go Go.VL Go.RowKit
abbrev gX:Nm:=[114,101,99]
theorem eD(s:Nm):(E.atom s).at=s:=rfl
def qU(x:Nm)(u:E):E->E
 | .atom s=>if s=x then u else .atom s
 | .list [h,a,b]=>if h.at=gX then(if a.at=x then .list [h,a,b]else .list [.atom gX,a,qU x u b])else .list [.atom h.at,qU x u a,qU x u b]
 | .list l=>.list l
def mA(x:Nm):E->Nat
 | .atom s=>if s=x then 1 else 0
 | .list [h,a,b]=>if h.at=gX then(if a.at=x then 0 else mA x b)else mA x a+mA x b
 | .list _=>0
def tb(p:Nm->Prop):E->Prop
 | .atom _=>True
 | .list [h,a,b]=>(if h.at=gX then p a.at else tb p a)/\tb p b
 | .list _=>True
def eY(x:Nm):Ty->Nat
 | .name s=>if s=x then 1 else 0
 | .plus a b=>eY x a+eY x b
 | .times a b=>eY x a+eY x b
 | .rc a=>eY x a
 |_=>0
theorem ua(x:Nm)(u a b:E):qU x u (.list [.atom [43],a,b])=.list [.atom [43],qU x u a,qU x u b]:=by rw[qU,if_neg (by decide)];rfl
theorem rI(x:Nm)(u a b:E):qU x u (.list [.atom [42],a,b])=.list [.atom [42],qU x u a,qU x u b]:=by rw[qU,if_neg (by decide)];rfl
theorem zS(x:Nm)(u:E)(n:Nm)(b:E):qU x u (.list [.atom gX,.atom n,b])=if n=x then .list [.atom gX,.atom n,b]else .list [.atom gX,.atom n,qU x u b]:=by rw[qU,if_pos (eD _)];rfl
theorem qL(x:Nm)(a b:E):mA x (.list [.atom [43],a,b])=mA x a+mA x b:=by rw[mA,if_neg (by decide)]
theorem oG(x:Nm)(a b:E):mA x (.list [.atom [42],a,b])=mA x a+mA x b:=by rw[mA,if_neg (by decide)]
theorem wb(x:Nm)(n:Nm)(b:E):mA x (.list [.atom gX,.atom n,b])=if n=x then 0 else mA x b:=by rw[mA,if_pos (eD _)];rfl
theorem nY(p:Nm->Prop)(a b:E):tb p (.list [.atom [43],a,b])↔tb p a/\tb p b:=by rw[tb,if_neg (by decide)]
theorem ml(p:Nm->Prop)(a b:E):tb p (.list [.atom [42],a,b])↔tb p a/\tb p b:=by rw[tb,if_neg (by decide)]
theorem sN(p:Nm->Prop)(n:Nm)(b:E):tb p (.list [.atom gX,.atom n,b])↔p n/\tb p b:=by rw[tb,if_pos (eD _)];rfl
theorem Ao{p q:Nm->Prop}(h:∀n,p n->q n){e:E}(hw:Wf e):tb p e->tb q e:=by
 induction hw with
 |atom _=>exact fun _=>trivial
 |plus _ _ i1 i2=>rw[nY,nY];exact fun g=>⟨i1 g.1,i2 g.2⟩
 |times _ _ i1 i2=>rw[ml,ml];exact fun g=>⟨i1 g.1,i2 g.2⟩
 |rc _ _ i=>rw[sN,sN];exact fun g=>⟨h _ g.1,i g.2⟩
theorem iJ{s:Nm}(hs:tO s){ar:List Nm}(h:s∉ar):ew (.atom s) ar=.name s:=by
 simp only[ew];rw[if_neg hs.2.1,if_neg hs.2.2,(fG s ar).2 h]
theorem Bo{x:Nm}(hx:tO x){u:E}(hu:Wf u){e:E}(h:Wf e):tb (fun n=>n≠x/\bg n (ew u [])=false) e->∀ar,x∉ar->(∀y,y∈ar->bg y (ew u [])=false)->Wf (qU x u e)/\ew (qU x u e) ar=sub x (ew u []) (ew e ar):=by
 induction h with
 |
  @atom s hs =>
  intro _ ar har hy
  by_cases e:s=x
  ·subst e
   have:ew u (ar++[])=ew u []:=Ct ar hu [] fun y hy' hm=>by rw[hy y hm]at hy';cases hy'
   rw[List.append_nil]at this
   rw[iJ hx har]
   simp only[qU,sub,if_true]
   exact⟨hu,this⟩
  ·simp only[qU,if_neg e]
   refine⟨.atom hs,?_⟩
   simp only[ew]
   split
   ·rfl
   ·split
    ·rfl
    ·split
     ·rfl
     ·simp only[sub,if_neg e]
 |
  plus ha hb i1 i2 =>
  intro hap ar har hy
  rw[nY]at hap
  obtain⟨w1,e1⟩:=i1 hap.1 ar har hy
  obtain⟨w2,e2⟩:=i2 hap.2 ar har hy
  rw[ua,ff,ff,e1,e2]
  exact⟨.plus w1 w2,rfl⟩
 |
  times ha hb i1 i2 =>
  intro hap ar har hy
  rw[ml]at hap
  obtain⟨w1,e1⟩:=i1 hap.1 ar har hy
  obtain⟨w2,e2⟩:=i2 hap.2 ar har hy
  rw[rI,eA,eA,e1,e2]
  exact⟨.times w1 w2,rfl⟩
 |
  @rc n b hn hb i =>
  intro hap ar har hy
  rw[sN]at hap
  obtain⟨w1,e1⟩:=i hap.2 (ar++[n]) (by
   simp only[aK,aR]
   rintro(h|h)
   ·exact har h
   ·exact hap.1.1 h.symm) (fun y hm=>by
   simp only[aK,aR]at hm
   rcases hm with hm|rfl
   ·exact hy y hm
   ·exact hap.1.2)
  rw[zS,if_neg hap.1.1,jb,jb]
  refine⟨.rc hn w1,?_⟩
  show Ty.rc (ew (qU x u b) (ar++[n]))=_
  rw[e1];rfl
theorem CI{x:Nm}(hx:tO x){e:E}(h:Wf e):∀ar,eY x (ew e ar)=if x∈ar then 0 else mA x e:=by
 induction h with
 |
  @atom s hs =>
  intro ar
  by_cases e:s=x
  ·subst e
   by_cases hm:s∈ar
   ·rw[if_pos hm]
    simp only[ew];rw[if_neg hx.2.1,if_neg hx.2.2]
    cases q:bH s ar ar.length with
    |none=>exact absurd hm ((fG _ _).1 q)
    |some u=>rfl
   ·rw[if_neg hm,iJ hx hm];simp[eY,mA]
  ·have:eY x (ew (.atom s) ar)=0:=by
    simp only[ew]
    split
    ·rfl
    ·split
     ·rfl
     ·split
      ·rfl
      ·simp[eY,e]
   rw[this];simp[mA,e]
 |plus ha hb i1 i2=>intro ar;rw[ff,qL,eY,i1,i2];split<;>simp
 |times ha hb i1 i2=>intro ar;rw[eA,oG,eY,i1,i2];split<;>simp
 |
  @rc n b hn hb i =>
  intro ar
  rw[jb,wb,eY,i]
  simp only[eD,aK,aR]
  by_cases h1:x∈ar
  ·simp[h1]
  ·by_cases h2:x=n
   ·simp[h2]
   ·simp[h1,h2,Ne.symm h2]
theorem dJ(x:Nm)(u:Ty):∀t:Ty,(sub x u t).atoms+eY x t=t.atoms+eY x t*u.atoms
 | .name s=>by simp only[sub,eY];split<;>simp[Ty.atoms];omega
 | .plus a b=>by have:=dJ x u a;have:=dJ x u b;simp only[sub,Ty.atoms,eY,Nat.add_mul];omega
 | .times a b=>by have:=dJ x u a;have:=dJ x u b;simp only[sub,Ty.atoms,eY,Nat.add_mul];omega
 | .rc a=>by have:=dJ x u a;simp only[sub,Ty.atoms,eY];omega
 | .zero=>by simp[sub,eY]
 | .one=>by simp[sub,eY]
 | .bound k=>by simp[sub,eY]
abbrev tN(m:Nat):Nm:=116::dd m
theorem Dd(m:Nat):dd m≠[]:=by
 by_cases h:m<10
 ·rw[ep h];simp
 ·rw[fw h];simp
theorem we:∀(n m k:Nat),m<n->dd m=dd k->m=k
 |0,m,k,h,_=>by omega
 |
  n+1,m,k,h,e=>by
  have d10:∀{a b:Nat},a<10->b<10->aZ (48+a)=aZ (48+b)->a=b:=fun {a b} ha hb h=>by
   have:=congrArg UInt8.toNat h
   simp only[UInt8.toNat_ofNat']at this
   omega
  by_cases h1:m<10<;>by_cases h2:k<10
  ·rw[ep h1,ep h2]at e
   simp only[List.cons.injEq,and_true]at e
   exact d10 h1 h2 e
  ·rw[ep h1,fw h2]at e
   have:=congrArg List.length e
   have:dd (k/10)=[]:=by
    apply List.eq_nil_of_length_eq_zero
    simp at this;simpa using this
   exact absurd this (Dd _)
  ·rw[fw h1,ep h2]at e
   have:=congrArg List.length e
   have:dd (m/10)=[]:=by
    apply List.eq_nil_of_length_eq_zero
    simp at this;simpa using this
   exact absurd this (Dd _)
  ·rw[fw h1,fw h2]at e
   obtain⟨e1,e2⟩:=List.append_inj' e rfl
   have:=we n (m/10) (k/10) (by omega) e1
   simp only[List.cons.injEq,and_true]at e2
   have:=d10 (dW _ (by omega)) (dW _ (by omega)) e2
   omega
theorem As{m k:Nat}(h:tN m=tN k):m=k:=we (m+1) m k (by omega) (List.cons.inj h).2
theorem C7(m:Nat):tO (tN m):=⟨by simp,by simp,by simp⟩
theorem Pf:∀(l F:List Nm),l.Nodup->(∀x,x∈l->x∈F)->l.length<=F.length
 |[],_,_,_=>dA _
 |
  x::l,F,hn,hs=>by
  obtain⟨h1,h2⟩:=List.nodup_cons.1 hn
  have hx:=hs x ai
  have:=Pf l (F.erase x) h2 fun y hy=>(List.mem_erase_of_ne (fun e=>h1 (by rw[<-e];exact hy))).2 (hs y (al _ hy))
  rw[List.length_erase_of_mem hx]at this
  have:0<F.length:=List.length_pos_of_mem hx
  simp only[aw];omega
def re(F:List Nm):Nat->Nat->Nat
 |0,k=>k
 |n+1,k=>if tN k∈F then re F n (k+1)else k
theorem ui(F:List Nm):∀(n k:Nat),k<=re F n k/\re F n k<=k+n/\(∀j,k<=j->j<re F n k->tN j∈F)/\(re F n k<k+n->tN (re F n k)∉F)
 |0,k=>⟨az _,az _,fun j h1 h2=>by simp only[re]at h2;omega,fun h=>by simp only[re]at h;omega⟩
 |
  n+1,k=>by
  rw[re]
  split
  ·rename_i hm
   obtain⟨h1,h2,h3,h4⟩:=ui F n (k+1)
   refine⟨by omega,by omega,fun j hj hl=>?_,fun h=>h4 (by omega)⟩
   by_cases e:j=k
   ·subst e;exact hm
   ·exact h3 j (by omega) hl
  ·rename_i hm
   exact⟨az _,by omega,fun j h1 h2=>by omega,fun _=>hm⟩
def nx(F:List Nm)(k:Nat):Nat:=re F (F.length+1) k
theorem kX(F:List Nm)(k:Nat):k<=nx F k/\nx F k<=k+F.length/\(∀j,k<=j->j<nx F k->tN j∈F)/\tN (nx F k)∉F:=by
 obtain⟨h1,h2,h3,h4⟩:=ui F (F.length+1) k
 have hlt:nx F k<k+(F.length+1):=by
  rcases Nat.lt_or_ge (nx F k) (k+(F.length+1))with h|h
  ·exact h
  ·exfalso
   have:=Pf ((List.range' k (F.length+1)).map tN) F (by
    refine List.Pairwise.map _ (fun a b hab e=>hab (As e)) List.nodup_range') (fun x hx=>by
    obtain⟨j,hj,rfl⟩:=cd.1 hx
    obtain⟨i,hi,rfl⟩:=List.mem_range'.1 hj
    exact h3 _ (by omega) (by show _<nx F k;omega))
   simp at this
   omega
 exact⟨h1,by unfold nx at hlt |-;omega,h3,h4 hlt⟩
def i7(F:List Nm):Ty->List Nm->Nat->E×Nat
 | .zero,_,k=>(.atom [48],k)
 | .one,_,k=>(.atom [49],k)
 | .name s,_,k=>(.atom s,k)
 | .bound u,to,k=>(.atom (gj to u),k)
 | .plus a b,to,k=>(.list [.atom [43],(i7 F a to k).1,(i7 F b to (i7 F a to k).2).1],(i7 F b to (i7 F a to k).2).2)
 | .times a b,to,k=>(.list [.atom [42],(i7 F a to k).1,(i7 F b to (i7 F a to k).2).1],(i7 F b to (i7 F a to k).2).2)
 | .rc a,to,k=>(.list [.atom gX,.atom (tN (nx F k)),(i7 F a (to++[tN (nx F k)]) (nx F k+1)).1],(i7 F a (to++[tN (nx F k)]) (nx F k+1)).2)
def jU:Ty->Nat->Prop
 | .bound u,i=>u<i
 | .plus a b,i=>jU a i/\jU b i
 | .times a b,i=>jU a i/\jU b i
 | .rc a,i=>jU a (i+1)
 |_,_=>True
theorem vw{e:E}(h:Wf e):∀ar,jU (ew e ar) ar.length:=by
 induction h with
 |
  @atom s hs =>
  intro ar
  simp only[ew]
  split
  ·trivial
  ·split
   ·trivial
   ·split
    ·rename_i u q;exact(fN _ _ (az _) q).1
    ·trivial
 |plus ha hb i1 i2=>intro ar;rw[ff];exact⟨i1 ar,i2 ar⟩
 |times ha hb i1 i2=>intro ar;rw[eA];exact⟨i1 ar,i2 ar⟩
 |
  @rc n b hn hb i =>
  intro ar;rw[jb]
  have:=i (ar++[(E.atom n).at])
  rw[an]at this
  exact this
structure Gn(F to:List Nm)(k:Nat):Prop where
 out:∀w,w∈to->w∉F
 lt:∀w,w∈to->∃j,j<k/\w=tN j
 nd:to.Nodup
theorem Gn.nil(F:List Nm)(k:Nat):Gn F [] k:=⟨fun _ h=>(by cases h),fun _ h=>(by cases h),by simp⟩
theorem Gn.mono{F to:List Nm}{k k':Nat}(h:Gn F to k)(hk:k<=k'):Gn F to k':=⟨h.out,fun w hw=>by obtain⟨j,h1,h2⟩:=h.lt w hw;exact⟨j,by omega,h2⟩,h.nd⟩
theorem Gn.push{F to:List Nm}{k:Nat}(h:Gn F to k):Gn F (to++[tN (nx F k)]) (nx F k+1):=by
 obtain⟨h1,h2,h3,h4⟩:=kX F k
 refine⟨fun w hw=>?_,fun w hw=>?_,?_⟩
 ·rcases aK.1 hw with hw|hw
  ·exact h.out w hw
  ·simp only[aR]at hw;rw[hw];exact h4
 ·rcases aK.1 hw with hw|hw
  ·obtain⟨j,g1,g2⟩:=h.lt w hw;exact⟨j,by omega,g2⟩
  ·simp only[aR]at hw;exact⟨_,by omega,hw⟩
 ·refine List.nodup_append.2 ⟨h.nd,by simp,fun a ha b hb e=>?_⟩
  simp only[aR]at hb
  obtain⟨j,g1,g2⟩:=h.lt a ha
  rw[e,hb]at g2
  have:=As g2
  omega
theorem s9{to:List Nm}(hn:to.Nodup){u:Nat}(hu:u<to.length):bH (gj to u) to to.length=some u:=by
 have hm:gj to u∈to:=by
  unfold gj
  have:to.length-1-u<to.length:=by omega
  simp[aa,this]
 cases q:bH (gj to u) to to.length with
 |none=>exact absurd hm ((fG _ _).1 q)
 |
  some v =>
  obtain⟨h1,h2⟩:=fN _ _ (az _) q
  unfold gj at h2
  have e1:to.length-1-v<to.length:=by omega
  have e2:to.length-1-u<to.length:=by omega
  rw[aa,aa,bm e1,bm e2]at h2
  have hp:=List.pairwise_iff_getElem.1 hn
  have h3:to[to.length-1-v]=to[to.length-1-u]:=by simpa using h2
  rcases Nat.lt_trichotomy (to.length-1-v) (to.length-1-u)with hl|he|hl
  ·exact absurd h3 (hp _ _ e1 e2 hl)
  ·congr 1;omega
  ·exact absurd h3.symm (hp _ _ e2 e1 hl)
theorem l4(F:List Nm):∀(t:Ty) (to:List Nm) (k:Nat),Gn F to k->jU t to.length->(∀y,bg y t=true->y∈F/\tO y) ->
 Wf (i7 F t to k).1/\ew (i7 F t to k).1 to=t/\k<=(i7 F t to k).2/\(i7 F t to k).2<=k+(F.length+1)*t.atoms/\tb (·∉F) (i7 F t to k).1
 | .zero,to,k,_,_,_=>⟨.atom (by simp),rfl,az _,cJ _ _,trivial⟩
 | .one,to,k,_,_,_=>⟨.atom (by simp),rfl,az _,cJ _ _,trivial⟩
 |
  .name s,to,k,g,hl,hn=>by
  obtain⟨h1,h2⟩:=hn s (by simp[bg])
  exact⟨.atom h2.1,iJ h2 (fun h=>g.out s h h1),az _,cJ _ _,trivial⟩
 |
  .bound u,to,k,g,hl,hn=>by
  have hm:gj to u∈to:=by
   unfold gj
   have:to.length-1-u<to.length:=by have:u<to.length:=hl;omega
   simp[aa,this]
  obtain⟨j,_,e⟩:=g.lt _ hm
  have hok:tO (gj to u):=by rw[e];exact C7 j
  refine⟨.atom hok.1,?_,az _,cJ _ _,trivial⟩
  simp only[i7,ew]
  rw[if_neg hok.2.1,if_neg hok.2.2,s9 g.nd hl]
 |
  .plus a b,to,k,g,hl,hn=>by
  obtain⟨a1,a2,a3,a4,a5⟩:=l4 F a to k g hl.1 fun y hy=>hn y (by simp[bg,hy])
  obtain⟨b1,b2,b3,b4,b5⟩:=l4 F b to _ (g.mono a3) hl.2 fun y hy=>hn y (by simp[bg,hy])
  simp only[i7,ff,a2,b2,nY,Ty.atoms]
  refine⟨.plus a1 b1,trivial,by omega,?_,a5,b5⟩
  have:(F.length+1)*(1+a.atoms+b.atoms)=(F.length+1)+(F.length+1)*a.atoms+(F.length+1)*b.atoms:=by simp only[cX,dQ]
  omega
 |
  .times a b,to,k,g,hl,hn=>by
  obtain⟨a1,a2,a3,a4,a5⟩:=l4 F a to k g hl.1 fun y hy=>hn y (by simp[bg,hy])
  obtain⟨b1,b2,b3,b4,b5⟩:=l4 F b to _ (g.mono a3) hl.2 fun y hy=>hn y (by simp[bg,hy])
  simp only[i7,eA,a2,b2,ml,Ty.atoms]
  refine⟨.times a1 b1,trivial,by omega,?_,a5,b5⟩
  have:(F.length+1)*(1+a.atoms+b.atoms)=(F.length+1)+(F.length+1)*a.atoms+(F.length+1)*b.atoms:=by simp only[cX,dQ]
  omega
 |
  .rc a,to,k,g,hl,hn=>by
  obtain⟨h1,h2,h3,h4⟩:=kX F k
  obtain⟨a1,a2,a3,a4,a5⟩:=l4 F a (to++[tN (nx F k)]) (nx F k+1) g.push (by rw[an];exact hl) hn
  simp only[i7,jb,eD,a2,sN,Ty.atoms]
  refine⟨.rc (C7 _) a1,trivial,by omega,?_,h4,a5⟩
  have:(F.length+1)*(2+a.atoms)=(F.length+1)*2+(F.length+1)*a.atoms:=by simp only[cX]
  omega
end Go.Proofs.Trees
namespace Go.Proofs.Trees
open Go Go.VL Go.RowKit
inductive kg:AV->List Nat->Prop
 |nil:kg iR []
 |cons {m:Nat} {cs:List AV} {e:AV} {ids:List Nat} (hm:m∉ids) (h:kg e ids):kg (.ptr [.pid m cs,e]) (m::ids)
theorem kg.has{a:AV}{ids:List Nat}(h:kg a ids):LK.has .ptr a:=by
 cases h
 ·exact(iG).mpr trivial
 ·exact(cc _).mpr trivial
theorem kg.Pu{M:Mem}{a:AV}{ids:List Nat}(h:kg a ids):∀{v:Value},bn M cZ a v->∀b,b∈ids->M.p b:=by
 induction h with
 |nil=>intro v _ b hb;cases hb
 |
  @cons m cs e ids hm h ih =>
  intro v hr b hb
  cases hr with
  |
   ptr _ _ _ off us hc hr =>
   have h0:=hr 0 (by simp)
   have h1:=hr 1 (by simp)
   simp only[bc,List.getD_cons_succ]at h0 h1
   rcases aJ.1 hb with rfl|hb
   ·generalize us 0=u0 at h0
    cases h0 with
    |pid _ _ _ us hp _ _=>exact hp
   ·exact ih h1 b hb
theorem kg.nodup{a:AV}{ids:List Nat}(h:kg a ids):ids.Nodup:=by
 induction h with
 |nil=>simp
 |cons hm h ih=>exact List.nodup_cons.2 ⟨hm,ih⟩
theorem yt(a b:AV)(S:Nat->Prop)(R:AV->Prop):AN JJ cfg dZ (cF dZ) [.agg [.x a,.x b]] S (fun o=>aI o 7) R =
 .aj (LK.has .ptr a/\a.isNil=false) (.aj (LK.has .ptr a/\a.isNil=false) (.aj (LK.has .ptr ((a.deref.drop 3).headD .any)/\1<=(a.deref.drop 3).length)
  (.aj (∀ids:Nat->Nat,(∀o,¬S (ids o))->(True/\R (.cW [.agg [(a.deref.drop 3).headD .any,.ptr [.pid (ids 7) [a,b],b]],.pid (ids 7) [a,b]]))) (.done 0 [] [])))):=by kernel_rfl
def Az(t:Ty)(ea:AV)(ids:List Nat):AV->List Ob->Prop:=fun r o=>(∃m,m∉ids/\r=.cW [.agg [t.av,.ptr [.pid m [(Ty.rc t).av,ea],ea]],.pid m [(Ty.rc t).av,ea]])/\o=[]
theorem Az.ne(t:Ty)(ea:AV)(ids:List Nat):∃r o,Az t ea ids r o:=by
 have:∃m,m∉ids:=⟨ids.foldr max 0+1,fun h=>by
  have key:∀(l:List Nat) (x:Nat),x∈l->x<=l.foldr max 0:=by
   intro l
   induction l with
   |nil=>intro x hx;cases hx
   |
    cons y l ih =>
    intro x hx
    rcases aJ.1 hx with rfl|hx
    ·simp only[List.foldr_cons];omega
    ·have:=ih x hx;simp only[List.foldr_cons];omega
  have:=key _ _ h
  omega⟩
 obtain⟨m,hm⟩:=this
 exact⟨_,_,⟨m,hm,rfl⟩,rfl⟩
theorem Bl(t:Ty)(ea:AV)(ids:List Nat)(he:kg ea ids):aq Tryz.prog 70 [.agg [(Ty.rc t).av,ea]] [] (Az t ea ids):=by
 have hup:u5 [.agg [(Ty.rc t).av,ea]] [.agg [.x (Ty.rc t).av,.x ea]]:=ah (cL (ah (bu ((aE _).mpr trivial)) (ah (bu he.has) aF))) aF
 refine aq.up hup ?_
 refine aq.Ps (cfg:=cfg) (F:=dZ) (S:=fun b=>b∈ids) (sel:=fun o=>aI o 7) sM mixed (by kernel_rfl) (by kernel_rfl) (c:=cF dZ) (by kernel_rfl) (by kernel_rfl) (fun M β vs hr b hb=>?_) ?_
 ·have h0:=hr 0 (by simp)
  simp only[bc]at h0
  obtain⟨us,_,hl,hq,_⟩:=fJ h0
  have h1:=hq 1 (by simp at hl |-)
  simp only[List.getD_cons_succ,bc]at h1
  cases h1 with
  |x _ _ _ _ h=>exact he.Pu h b hb
 ·rw[yt]
  simp only[Ty.av,↓zq,zs,af,aE]
  exact⟨by omega,fun ids' hf=>⟨ids' 7,hf 7,rfl⟩⟩
theorem G4(u:Nat)(hu:u<1000000):∀(k i:Nat) (ea:AV) (ids:List Nat),i+k=u->kg ea ids->k<=ids.length->BG [ea,.v (.int .i64 (u:Int)),.v (.int .i64 (i:Int))] [] (fun t ys o=>t=1/\∃e',kg e' (ids.drop k)/\ys=[e']/\o=[])
 |
  0,i,ea,ids,hi,he,hk=>by
  refine CQ _ _ _ ?_
  have:i=u:=by omega
  subst this
  simp only[A1,↓zq,zs,af]
  exact⟨he.has,fun h=>by omega,fun _=>⟨ea,he,rfl⟩⟩
 |
  k+1,i,ea,ids,hi,he,hk=>by
  refine CQ _ _ _ ?_
  cases he with
  |nil=>simp at hk
  |
   @cons m cs e ids' hm h =>
   simp only[A1,↓zq,zs,af,h.has]
   refine⟨fun _=>⟨by omega,?_⟩,fun h=>by omega⟩
   rw[bw i (by omega)]
   exact G4 u hu k (i+1) e ids' (by omega) h (by simpa using hk)
theorem OX(u:Nat)(ea:AV)(ids:List Nat)(he:kg ea ids)(hu:u<ids.length)(hl:ids.length<1000000):aq Tryz.prog 127 [.agg [(Ty.bound u).av,ea]] [] (fun r o=>(∃cs,r=.pid (ids.getD u 0) cs)/\o=[]):=by
 refine KL _ _ ((aE _).mpr trivial) he.has ?_
 simp only[Gv,Ty.av,↓zq,zs,af,he.has]
 refine⟨by omega,nF (G4 u (by omega) u 0 ea ids (by omega) he (by omega)) ?_ (fun ys o h=>by cases h.1)⟩
 rintro ys o ⟨_,e',he',rfl,rfl⟩
 have hd:ids.drop u=ids.getD u 0::ids.drop (u+1):=by
  rw[aV hu];simp[aa,hu]
 rw[hd]at he'
 cases he' with
 |
  @cons m cs e ids' hm h =>
  have hp:LK.has .ptr (AV.pid (ids.getD u 0) cs):=.inr (.inr ⟨_,_,rfl⟩)
  simp only[↓zq,zs,af,hp]
  exact⟨by omega,cs,rfl⟩
inductive yS:Tg->List Nat->List UInt8->AV->Prop
 |nm (s:List UInt8) (ids:List Nat):yS (.nm s) ids s iR
 |bd {k:Nat} {ids:List Nat} (hk:k<ids.length) (cs:List AV) (s:List UInt8):yS (.bd k) ids s (.pid (ids.getD k 0) cs)
theorem yS.has{tg:Tg}{ids:List Nat}{s:List UInt8}{fr:AV}(h:yS tg ids s fr):LK.has .ptr fr:=by
 cases h
 ·exact(iG).mpr trivial
 ·exact .inr (.inr ⟨_,_,rfl⟩)
theorem yS.push{tg:Tg}{ids:List Nat}{s:List UInt8}{fr:AV}(h:yS tg ids s fr)(m:Nat):yS tg.up (m::ids) s fr:=by
 cases h with
 |nm=>exact .nm _ _
 |
  @bd k _ hk cs =>
  have:=yS.bd (k:=k+1) (ids:=m::ids) (by simpa using hk) cs s
  simpa[Tg.up]using this
theorem yj{ids:List Nat}(h:ids.Nodup){i j:Nat}(hi:i<ids.length)(hj:j<ids.length)(he:ids.getD i 0=ids.getD j 0):i=j:=by
 have e1:ids.getD i 0=ids[i]:=by simp[aa,hi]
 have e2:ids.getD j 0=ids[j]:=by simp[aa,hj]
 rw[e1,e2]at he
 have hp:=List.pairwise_iff_getElem.1 h
 rcases Nat.lt_trichotomy i j with hlt|rfl|hlt
 ·exact absurd he (hp i j hi hj hlt)
 ·rfl
 ·exact absurd he.symm (hp j i hj hi hlt)
theorem L8(t:Ty)(tg:Tg)(ea:AV)(ids:List Nat)(s:List UInt8)(fr:AV)(he:kg ea ids)(ht:yS tg ids s fr)(hu:∀u,t=.bound u->u<ids.length)(hl:ids.length<1000000) :
 aq Tryz.prog 106 [.agg [.v (.string (mk s)),fr],.agg [t.av,ea]] [] (bz (.v (.bool (fm t tg)))):=by
 refine NC _ _ _ _ ht.has ((aE _).mpr trivial) he.has ?_
 cases ht with
 |
  nm s =>
  cases t<;>simp[CO,Ty.av,↓zq,zs,af,zt,bz,fm]
  rw[cr];simp
 |
  @bd k _ hk cs s =>
  generalize hm0:ids.getD k 0=m0
  have hp:LK.has .ptr (AV.pid m0 cs):=.inr (.inr ⟨_,_,rfl⟩)
  have hn:(AV.pid m0 cs).isNil=false:=rfl
  cases t with
  |
   bound u =>
   have hu:=hu u rfl
   simp only[CO,Ty.av,↓zq,zs,af,hp,hn]
   refine⟨fun _=>⟨by omega,fun _=>?_,fun h=>absurd rfl h⟩,fun h=>by cases h⟩
   have hb:=OX u ea ids he hu hl
   simp only[Ty.av]at hb
   refine aQ hb ⟨_,_,⟨[],rfl⟩,rfl⟩ ?_
   rintro r o ⟨⟨cs',rfl⟩,rfl⟩
   have hp':LK.has .ptr (AV.pid (ids.getD u 0) cs'):=.inr (.inr ⟨_,_,rfl⟩)
   simp only[↓zq,zs,af,hp',AV.qA,AV.A8,bz,fm]
   congr 2
   rw[cr,Nat.beq_eq,decide_eq_true_eq,<-hm0]
   exact⟨fun h=>yj he.nodup hu hk h,fun h=>by rw[h]⟩
  |_=>simp[CO,Ty.av,↓zq,zs,af,hp,hn,bz,fm]
end Go.Proofs.Trees
namespace Go.Proofs.Trees
open Go Go.VL Go.RowKit
theorem xK(b:Int)(a:AV)(h:LK.ptr.has a):aq Tryz.prog 85 [.v (.int .u8 b),a] [] (bz (.ptr [.v (.int .u8 b),.v (.string (mk [])),a,iR])):=by
 refine MI _ _ h ?_
 simp[HX,↓zq,zs,af,bz]
end Go.Proofs.Trees
namespace Go.Proofs.Trees
open Go Go.VL Go.RowKit
def gU(l:List Hl):List (List AV):=l.map fun h=>[h.1.cn,h.2.cn]
theorem dL(l:List Hl):(gU l).length=l.length:=by simp[gU]
theorem kM{l:List Hl}{i:Nat}(hi:i<l.length):(gU l).getD i []=[(l[i]).1.cn,(l[i]).2.cn]:=by simp[gU,aa,hi]
theorem nB(out:List Hl)(a b:Vl):gU out++[[a.cn,b.cn]]=gU (out++[(a,b)]):=by simp[gU]
theorem fX(g:Vl->Vl)(l:List Hl){i:Nat}(hi:i<l.length):ja g (l.drop i)=(g (l[i]).1,(l[i]).2)::ja g (l.drop (i+1)):=by
 rw[aV hi];rfl
theorem fA(g:Vl->Vl)(l:List Hl):(ja g l).length=l.length:=by simp[ja]
theorem yV(a b:AV):cx 2 [[a,b]]:=fun c hc=>by simp at hc;rw[hc];rfl
theorem GO(x0:AV)(hx0:LK.ptr.has x0)(g:Vl->Vl)(hg:∀c:Vl,aq Tryz.prog 110 [c.cn,.ref 0 0] [.cells [x0]] (cY (g c).cn [.cells [x0]]))(l:List Hl):∀(k i:Nat) (out:List Hl),i+k=l.length->out.length+k<=1000000->l.length<=1000000 ->
 Fg [.sl (gU l),.v (.int .i64 (l.length:Int)),.v (.int .i64 (i:Int))] [.cells [x0],.cells [.any],.vec 2 (gU out)] (hZ 1 [] [.cells [x0],.cells [.any],.vec 2 (gU (out++ja g (l.drop i)))])
 |
  0,i,out,hi,ho,hl=>by
  refine Kc _ _ _ _ _ ?_
  have:i=l.length:=by omega
  subst this
  simp only[FU,↓zq,zs,af,dL,hx0]
  exact⟨fun h=>by omega,fun _=>by simp[hZ,ja]⟩
 |
  k+1,i,out,hi,ho,hl=>by
  have hlt:i<l.length:=by omega
  refine Kc _ _ _ _ _ ?_
  simp only[FU,↓zq,zs,af,zt,dL,kM hlt,aL,bO,hx0]
  refine⟨fun _=>⟨by omega,by omega,?_⟩,fun h=>by omega⟩
  refine aY (hg _) ?_
  simp only[↓zq,zs,af,aL,aM,bz,cY,hx0]
  refine⟨⟨yV _ _,by omega⟩,?_⟩
  rw[bw i (by omega)]
  have:=GO x0 hx0 g hg l k (i+1) (out++[(g (l[i]).1,(l[i]).2)]) (by omega) (by simp;omega) hl
  rw[a7]at this
  rw[fX g l hlt,nB]
  exact this
theorem G6(x0:AV)(hx0:LK.ptr.has x0)(g:Vl->Vl)(hg:∀c:Vl,aq Tryz.prog 110 [c.cn,.ref 0 0] [.cells [x0]] (cY (g c).cn [.cells [x0]]))(l out:List Hl)(hl:out.length+l.length<=1000000) :
 aq Tryz.prog 107 [.sl (gU l),.fn 110 [.ref 0 0],.ref 1 0] [.cells [x0],.cells [.vec 2],.vec 2 (gU out)] (cY .any [.cells [x0],.cells [.vec 2],.vec 2 (gU (out++ja g l))]):=by
 refine Nr _ _ _ ((ck _).mpr trivial) hx0 ?_
 simp only[Kb,↓zq,zs,af,dL]
 have h:=GO x0 hx0 g hg l l.length 0 out (by omega) (by omega) (by omega)
 rw[bj]at h
 refine cm h ?_
 simp[↓zq,zs,af,cY,aM,hx0]
theorem Jk(x0:AV)(hx0:LK.ptr.has x0)(g:Vl->Vl)(hg:∀c:Vl,aq Tryz.prog 111 [c.cn,.ref 0 0] [.cells [x0]] (cY (g c).cn [.cells [x0]]))(l:List Hl):∀(k i:Nat) (out:List Hl),i+k=l.length->out.length+k<=1000000->l.length<=1000000 ->
 Gt [.sl (gU l),.v (.int .i64 (l.length:Int)),.v (.int .i64 (i:Int))] [.cells [x0],.cells [.any],.vec 2 (gU out)] (hZ 1 [] [.cells [x0],.cells [.any],.vec 2 (gU (out++ja g (l.drop i)))])
 |
  0,i,out,hi,ho,hl=>by
  refine Lk _ _ _ _ _ ?_
  have:i=l.length:=by omega
  subst this
  simp only[EY,↓zq,zs,af,dL,hx0]
  exact⟨fun h=>by omega,fun _=>by simp[hZ,ja]⟩
 |
  k+1,i,out,hi,ho,hl=>by
  have hlt:i<l.length:=by omega
  refine Lk _ _ _ _ _ ?_
  simp only[EY,↓zq,zs,af,zt,dL,kM hlt,aL,bO,hx0]
  refine⟨fun _=>⟨by omega,by omega,?_⟩,fun h=>by omega⟩
  refine aY (hg _) ?_
  simp only[↓zq,zs,af,aL,aM,bz,cY,hx0]
  refine⟨⟨yV _ _,by omega⟩,?_⟩
  rw[bw i (by omega)]
  have:=Jk x0 hx0 g hg l k (i+1) (out++[(g (l[i]).1,(l[i]).2)]) (by omega) (by simp;omega) hl
  rw[a7]at this
  rw[fX g l hlt,nB]
  exact this
theorem Of(x0:AV)(hx0:LK.ptr.has x0)(g:Vl->Vl)(hg:∀c:Vl,aq Tryz.prog 111 [c.cn,.ref 0 0] [.cells [x0]] (cY (g c).cn [.cells [x0]]))(l out:List Hl)(hl:out.length+l.length<=1000000) :
 aq Tryz.prog 107 [.sl (gU l),.fn 111 [.ref 0 0],.ref 1 0] [.cells [x0],.cells [.vec 2],.vec 2 (gU out)] (cY .any [.cells [x0],.cells [.vec 2],.vec 2 (gU (out++ja g l))]):=by
 refine Mq _ _ _ ((ck _).mpr trivial) hx0 ?_
 simp only[H6,↓zq,zs,af,dL]
 have h:=Jk x0 hx0 g hg l l.length 0 out (by omega) (by omega) (by omega)
 rw[bj]at h
 refine cm h ?_
 simp[↓zq,zs,af,cY,aM,hx0]
theorem HN(x0:AV)(hx0:LK.ptr.has x0)(g:Vl->Vl)(hg:∀c:Vl,aq Tryz.prog 113 [c.cn,.ref 0 0] [.cells [x0]] (cY (g c).cn [.cells [x0]]))(l:List Hl):∀(k i:Nat) (out:List Hl),i+k=l.length->out.length+k<=1000000->l.length<=1000000 ->
 FO [.sl (gU l),.v (.int .i64 (l.length:Int)),.v (.int .i64 (i:Int))] [.cells [x0],.cells [.any],.vec 2 (gU out)] (hZ 1 [] [.cells [x0],.cells [.any],.vec 2 (gU (out++ja g (l.drop i)))])
 |
  0,i,out,hi,ho,hl=>by
  refine GU _ _ _ _ _ ?_
  have:i=l.length:=by omega
  subst this
  simp only[Gh,↓zq,zs,af,dL,hx0]
  exact⟨fun h=>by omega,fun _=>by simp[hZ,ja]⟩
 |
  k+1,i,out,hi,ho,hl=>by
  have hlt:i<l.length:=by omega
  refine GU _ _ _ _ _ ?_
  simp only[Gh,↓zq,zs,af,zt,dL,kM hlt,aL,bO,hx0]
  refine⟨fun _=>⟨by omega,by omega,?_⟩,fun h=>by omega⟩
  refine aY (hg _) ?_
  simp only[↓zq,zs,af,aL,aM,bz,cY,hx0]
  refine⟨⟨yV _ _,by omega⟩,?_⟩
  rw[bw i (by omega)]
  have:=HN x0 hx0 g hg l k (i+1) (out++[(g (l[i]).1,(l[i]).2)]) (by omega) (by simp;omega) hl
  rw[a7]at this
  rw[fX g l hlt,nB]
  exact this
theorem OV(x0:AV)(hx0:LK.ptr.has x0)(g:Vl->Vl)(hg:∀c:Vl,aq Tryz.prog 113 [c.cn,.ref 0 0] [.cells [x0]] (cY (g c).cn [.cells [x0]]))(l out:List Hl)(hl:out.length+l.length<=1000000) :
 aq Tryz.prog 107 [.sl (gU l),.fn 113 [.ref 0 0],.ref 1 0] [.cells [x0],.cells [.vec 2],.vec 2 (gU out)] (cY .any [.cells [x0],.cells [.vec 2],.vec 2 (gU (out++ja g l))]):=by
 refine O8 _ _ _ ((ck _).mpr trivial) hx0 ?_
 simp only[Lr,↓zq,zs,af,dL]
 have h:=HN x0 hx0 g hg l l.length 0 out (by omega) (by omega) (by omega)
 rw[bj]at h
 refine cm h ?_
 simp[↓zq,zs,af,cY,aM,hx0]
theorem HJ(g:Vl->Vl)(hg:∀c:Vl,aq Tryz.prog 114 [c.cn] [] (bz (g c).cn))(l:List Hl):∀(k i:Nat) (out:List Hl),i+k=l.length->out.length+k<=1000000->l.length<=1000000 ->
 El [.v (.func (.func 114) #[] #[]),.sl (gU l),.v (.int .i64 (l.length:Int)),.v (.int .i64 (i:Int))] [.cells [.any],.vec 2 (gU out)] (hZ 1 [] [.cells [.any],.vec 2 (gU (out++ja g (l.drop i)))])
 |
  0,i,out,hi,ho,hl=>by
  refine KU _ _ _ _ ?_
  have:i=l.length:=by omega
  subst this
  simp only[FP,↓zq,zs,af,dL]
  exact⟨fun h=>by omega,fun _=>by simp[hZ,ja]⟩
 |
  k+1,i,out,hi,ho,hl=>by
  have hlt:i<l.length:=by omega
  refine KU _ _ _ _ ?_
  simp only[FP,↓zq,zs,af,zt,dL,kM hlt,aL,bO]
  refine⟨fun _=>⟨by omega,by omega,?_⟩,fun h=>by omega⟩
  refine ak (hg _) ?_
  simp only[↓zq,zs,af,aL,aM,bz,cY]
  refine⟨⟨yV _ _,by omega⟩,?_⟩
  rw[bw i (by omega)]
  have:=HJ g hg l k (i+1) (out++[(g (l[i]).1,(l[i]).2)]) (by omega) (by simp;omega) hl
  rw[a7]at this
  rw[fX g l hlt,nB]
  exact this
theorem Np(g:Vl->Vl)(hg:∀c:Vl,aq Tryz.prog 114 [c.cn] [] (bz (g c).cn))(l out:List Hl)(hl:out.length+l.length<=1000000) :
 aq Tryz.prog 107 [.sl (gU l),.v (.func (.func 114) #[] #[]),.ref 0 0] [.cells [.vec 1],.vec 2 (gU out)] (cY .any [.cells [.vec 1],.vec 2 (gU (out++ja g l))]):=by
 refine Om _ _ ((ck _).mpr trivial) ?_
 simp only[HC,↓zq,zs,af,dL]
 have h:=HJ g hg l l.length 0 out (by omega) (by omega) (by omega)
 rw[bj]at h
 refine cm h ?_
 simp[↓zq,zs,af,cY,aM]
theorem IT(x0:AV)(x1:AV)(hx0:LK.ptr.has x0)(hx1:LK.ptr.has x1)(g:Vl->Vl)(hg:∀c:Vl,aq Tryz.prog 115 [c.cn,.ref 0 0] [.cells [x0,x1]] (cY (g c).cn [.cells [x0,x1]]))(l:List Hl):∀(k i:Nat) (out:List Hl),i+k=l.length->out.length+k<=1000000->l.length<=1000000 ->
 Ei [.sl (gU l),.v (.int .i64 (l.length:Int)),.v (.int .i64 (i:Int))] [.cells [x0,x1],.cells [.any],.vec 2 (gU out)] (hZ 1 [] [.cells [x0,x1],.cells [.any],.vec 2 (gU (out++ja g (l.drop i)))])
 |
  0,i,out,hi,ho,hl=>by
  refine Iz _ _ _ _ _ _ ?_
  have:i=l.length:=by omega
  subst this
  simp only[EO,↓zq,zs,af,dL,hx0,hx1]
  exact⟨fun h=>by omega,fun _=>by simp[hZ,ja]⟩
 |
  k+1,i,out,hi,ho,hl=>by
  have hlt:i<l.length:=by omega
  refine Iz _ _ _ _ _ _ ?_
  simp only[EO,↓zq,zs,af,zt,dL,kM hlt,aL,bO,hx0,hx1]
  refine⟨fun _=>⟨by omega,by omega,?_⟩,fun h=>by omega⟩
  refine aY (hg _) ?_
  simp only[↓zq,zs,af,aL,aM,bz,cY,hx0,hx1]
  refine⟨⟨yV _ _,by omega⟩,?_⟩
  rw[bw i (by omega)]
  have:=IT x0 x1 hx0 hx1 g hg l k (i+1) (out++[(g (l[i]).1,(l[i]).2)]) (by omega) (by simp;omega) hl
  rw[a7]at this
  rw[fX g l hlt,nB]
  exact this
theorem Nv(x0:AV)(x1:AV)(hx0:LK.ptr.has x0)(hx1:LK.ptr.has x1)(g:Vl->Vl)(hg:∀c:Vl,aq Tryz.prog 115 [c.cn,.ref 0 0] [.cells [x0,x1]] (cY (g c).cn [.cells [x0,x1]]))(l out:List Hl)(hl:out.length+l.length<=1000000) :
 aq Tryz.prog 107 [.sl (gU l),.fn 115 [.ref 0 0],.ref 1 0] [.cells [x0,x1],.cells [.vec 2],.vec 2 (gU out)] (cY .any [.cells [x0,x1],.cells [.vec 2],.vec 2 (gU (out++ja g l))]):=by
 refine N7 _ _ _ _ ((ck _).mpr trivial) hx0 hx1 ?_
 simp only[I8,↓zq,zs,af,dL]
 have h:=IT x0 x1 hx0 hx1 g hg l l.length 0 out (by omega) (by omega) (by omega)
 rw[bj]at h
 refine cm h ?_
 simp[↓zq,zs,af,cY,aM,hx0,hx1]
theorem OL(w c:Vl):aq Tryz.prog 110 [c.cn,.ref 0 0] [.cells [(Vl.l w).cn]] (cY (Vl.l c).cn [.cells [(Vl.l w).cn]]):=by
 refine Ke _ _ ((aL _).mpr trivial) ((aL _).mpr trivial) ?_
 simp only[Gp,Vl.cn,↓zq,zs,af,aL]
 refine⟨by omega,?_⟩
 refine ak (xK _ _ ((aL _).mpr trivial)) ?_
 simp[↓zq,zs,af,cY,Vl.cn]
theorem NN(w c:Vl):aq Tryz.prog 110 [c.cn,.ref 0 0] [.cells [(Vl.r w).cn]] (cY (Vl.r c).cn [.cells [(Vl.r w).cn]]):=by
 refine Ke _ _ ((aL _).mpr trivial) ((aL _).mpr trivial) ?_
 simp only[Gp,Vl.cn,↓zq,zs,af,aL]
 refine⟨by omega,?_⟩
 refine ak (xK _ _ ((aL _).mpr trivial)) ?_
 simp[↓zq,zs,af,cY,Vl.cn]
theorem Mg(x y c:Vl):aq Tryz.prog 111 [c.cn,.ref 0 0] [.cells [(Vl.p x y).cn]] (cY (Vl.l (.p c y)).cn [.cells [(Vl.p x y).cn]]):=by
 refine OK _ _ ((aL _).mpr trivial) ((aL _).mpr trivial) ?_
 simp only[H9,Vl.cn,↓zq,zs,af,aL]
 refine⟨by omega,?_⟩
 refine ak (yw _ _ ((aL _).mpr trivial) ((aL _).mpr trivial)) ?_
 simp only[↓zq,zs,af]
 refine ak (xK _ _ ((cc _).mpr trivial)) ?_
 simp[↓zq,zs,af,cY,Vl.cn]
theorem Mu(x y c:Vl):aq Tryz.prog 113 [c.cn,.ref 0 0] [.cells [(Vl.p x y).cn]] (cY (Vl.r (.p x c)).cn [.cells [(Vl.p x y).cn]]):=by
 refine NM _ _ ((aL _).mpr trivial) ((aL _).mpr trivial) ?_
 simp only[Ik,Vl.cn,↓zq,zs,af,aL]
 refine⟨by omega,?_⟩
 refine ak (yw _ _ ((aL _).mpr trivial) ((aL _).mpr trivial)) ?_
 simp only[↓zq,zs,af]
 refine ak (xK _ _ ((cc _).mpr trivial)) ?_
 simp[↓zq,zs,af,cY,Vl.cn]
theorem Ni(kc kv c:Vl):aq Tryz.prog 115 [c.cn,.ref 0 0] [.cells [kc.cn,kv.cn]] (cY (Vl.f (.r (.p kc c))).cn [.cells [kc.cn,kv.cn]]):=by
 refine Nx _ _ _ ((aL _).mpr trivial) ((aL _).mpr trivial) ((aL _).mpr trivial) ?_
 simp only[Ji,Vl.cn,↓zq,zs,af,aL]
 refine ak (yw _ _ ((aL _).mpr trivial) ((aL _).mpr trivial)) ?_
 simp only[↓zq,zs,af]
 refine ak (xK _ _ ((cc _).mpr trivial)) ?_
 simp only[↓zq,zs,af]
 refine ak (xK _ _ ((cc _).mpr trivial)) ?_
 simp[↓zq,zs,af,cY,Vl.cn,aL]
theorem MC(c:Vl):aq Tryz.prog 114 [c.cn] [] (bz (Vl.f (.l c)).cn):=by
 refine Me _ ((aL _).mpr trivial) ?_
 simp only[KX,↓zq,zs,af]
 refine ak (xK _ _ ((aL _).mpr trivial)) ?_
 simp only[↓zq,zs,af]
 refine ak (xK _ _ ((cc _).mpr trivial)) ?_
 simp[↓zq,zs,af,bz,Vl.cn]
end Go.Proofs.Trees
namespace Go.Proofs.Trees
open Go Go.VL Go.RowKit
abbrev yR(a:Ty)(tg:Tg):Hl->List Hl:=fun h=>ja (fun c=>.f (.r (.p h.1 c))) (bT (.rc a) tg h.2)
theorem zO(l:List Hl){i:Nat}(hi:i<l.length):l[i]∈l:=bJ _
def D5(t:Ty)(ea:AV)(s:List UInt8)(fr:AV)(tg:Tg)(v:Vl):Prop:=aq Tryz.prog 71 [.agg [t.av,ea],v.cn,.agg [.v (.string (mk s)),fr]] [] (bz (.sl (gU (bT t tg v))))
theorem K8(a:Ty)(ea:AV)(s:List UInt8)(fr:AV)(tg:Tg)(he:LK.ptr.has ea)(hf:LK.ptr.has fr)(l:List Hl)(hl:l.length<=1000000)(ih:∀h,h∈l->D5 (.rc a) ea s fr tg h.2) :
 ∀(k i:Nat) (out:List Hl),i+k=l.length->(out++(l.drop i).flatMap (yR a tg)).length<=1000000 ->
 Gr [.sl (gU l),.v (.int .i64 (l.length:Int)),.v (.int .i64 (i:Int))] [.cells [(Ty.rc a).av,ea],.cells [.v (.string (mk s)),fr],.cells [.any],.vec 2 (gU out)] (hZ 1 [] [.cells [.any],.vec 2 (gU (out++(l.drop i).flatMap (yR a tg)))])
 |
  0,i,out,hi,ho=>by
  refine JZ _ _ _ _ _ _ _ _ ?_
  have:i=l.length:=by omega
  subst this
  simp only[E9,↓zq,zs,af,dL,aE,he,hf]
  exact⟨fun h=>by omega,fun _=>by simp[hZ]⟩
 |
  k+1,i,out,hi,ho=>by
  have hlt:i<l.length:=by omega
  have hd:(l.drop i).flatMap (yR a tg)=yR a tg (l[i])++(l.drop (i+1)).flatMap (yR a tg):=by rw[aV hlt,List.flatMap_cons]
  rw[hd]at ho |-
  refine JZ _ _ _ _ _ _ _ _ ?_
  simp only[E9,↓zq,zs,af,zt,dL,kM hlt,aE,aL,bO,he,hf]
  refine⟨fun _=>⟨by omega,by omega,?_⟩,fun h=>by omega⟩
  refine ak (ih _ (zO l hlt)) ?_
  simp only[↓zq,zs,af]
  have hb:out.length+(bT (.rc a) tg (l[i]).2).length<=1000000:=by
   simp only[an,fA]at ho;omega
  refine aY (Nv _ _ ((aL _).mpr trivial) ((aL _).mpr trivial) (fun c=>.f (.r (.p (l[i]).1 c))) (fun c=>Ni (l[i]).1 (l[i]).2 c) (bT (.rc a) tg (l[i]).2) out hb) ?_
  simp only[↓zq,zs,af,aM,aL]
  rw[bw i (by omega),<-a7]
  exact K8 a ea s fr tg he hf l hl ih k (i+1) _ (by omega) (by rw[a7];exact ho)
theorem Dw(n:Nat):∀(m:Nat) (v:Vl),v.nodes<=m->∀(e:E) (env:List Fr) (t:Ty),Ask e env t->eG n v (e,env)=true->env.length+v.nodes<100000->∀(ea:AV) (ids:List Nat),kg ea ids->ids.length=env.length->∀(tg:Tg) (s:List UInt8) (fr:AV),yS tg ids s fr->D5 t ea s fr tg v
 |0,v,hm=>by have:=dx v;omega
 |
  m+1,v,hm=>by
  intro e env t A hv hl ea ids he hids tg s fr ht
  unfold D5
  refine N8 _ _ _ _ _ ((aE _).mpr trivial) he.has ((aL _).mpr trivial) ht.has ?_
  unfold Ky
  refine ak (L8 t tg ea ids s fr he ht (fun u hu=>by
   rcases gT A.wf A.ty with⟨hb,_⟩|⟨u',g,rfl,_,hg⟩
   ·rw[hu]at hb;cases hb
   ·cases hu;rw[hids];exact(List.getElem?_eq_some_iff.1 hg).1) (by omega)) ?_
  have hlen:=mD t tg v
  cases hat:fm t tg with
  |
   true =>
   rw[l8 v hat]
   simp only[↓zq,zs,af,bz,gU,bD,List.map_nil,Vl.cn]
   exact⟨fun _=>trivial,fun h=>(by cases h)⟩
  |false =>
  simp only[↓zq,zs,af]
  refine⟨fun h=>(by cases h),fun _=>?_⟩
  rcases gT A.wf A.ty with⟨hb,hq⟩|⟨u,g,rfl,hq,hu⟩
  ·have hhd:hd e env=(e,env):=j4 hq
   rcases fM A.ty hb A.cl with⟨rfl,rfl⟩|⟨rfl,rfl⟩|⟨s,rfl,rfl,hp,h0,h1⟩|⟨x,a,b,t1,t2,rfl,hx,rfl,ha,hbb⟩|⟨x,a,b,t1,t2,rfl,hx,rfl,ha,hbb⟩|⟨x,a,b,t1,rfl,hx,rfl⟩
   ·rw[dF hat (by cases v<;>rfl)]
    simp[Ty.av,↓zq,zs,af,bz,gU]
   ·rw[dF hat (by cases v<;>rfl)]
    simp[Ty.av,↓zq,zs,af,bz,gU]
   ·rw[dF hat (by cases v<;>rfl)]
    simp[Ty.av,↓zq,zs,af,bz,gU]
   ·obtain⟨ok1,ok2,ok3,_⟩:=A.ok
    obtain⟨f1,f2⟩:=fP A.cl
    have hL:=yh t1.av t2.av ea 43 (mk []) 0 ((aE _).mpr trivial) he.has
    have hR:=yy t1.av t2.av ea 43 (mk []) 0 ((aE _).mpr trivial) he.has
    cases v with
    |
     l w =>
     simp only[eG,hhd,hx,beq_self_eq_true,bG]at hv
     simp only[Vl.nodes]at hm hl hlen
     rw[mF]at hlen |-
     rw[fA]at hlen
     simp only[Ty.av,↓zq,zs,af]
     refine⟨by omega,fun _=>?_,fun h=>absurd rfl h⟩
     refine ak hL ?_
     simp only[↓zq,zs,af,bO,aE,he.has,Vl.cn,aL]
     refine⟨by omega,fun h=>by omega,fun _=>⟨by omega,?_⟩⟩
     refine ak (Dw n m w (by omega) a env t1 ⟨ok2,A.wf,ha,f1⟩ hv (by omega) ea ids he hids tg s fr ht) ?_
     simp only[↓zq,zs,af]
     have hadd:=G6 (Vl.l w).cn ((aL _).mpr trivial) Vl.l (fun c=>OL w c) (bT t1 tg w) [] (by simp;omega)
     simp only[Vl.cn,gU,List.map_nil,ba]at hadd
     refine aY hadd ?_
     simp[↓zq,zs,af,aM,bz,aL,gU,cc]
    |
     r w =>
     simp only[eG,hhd,hx,beq_self_eq_true,bG]at hv
     simp only[Vl.nodes]at hm hl hlen
     rw[mC]at hlen |-
     rw[fA]at hlen
     simp only[Ty.av,↓zq,zs,af]
     refine⟨by omega,fun _=>?_,fun h=>absurd rfl h⟩
     refine ak hL ?_
     simp only[↓zq,zs,af,bO,aE,he.has,Vl.cn,aL]
     refine⟨by omega,fun _=>?_,fun h=>absurd rfl h⟩
     refine ak hR ?_
     simp only[↓zq,zs,af,bO,aE,he.has,aL]
     refine⟨by omega,?_⟩
     refine ak (Dw n m w (by omega) b env t2 ⟨ok3,A.wf,hbb,f2⟩ hv (by omega) ea ids he hids tg s fr ht) ?_
     simp only[↓zq,zs,af]
     have hadd:=G6 (Vl.r w).cn ((aL _).mpr trivial) Vl.r (fun c=>NN w c) (bT t2 tg w) [] (by simp;omega)
     simp only[Vl.cn,gU,List.map_nil,ba]at hadd
     refine aY hadd ?_
     simp[↓zq,zs,af,aM,bz,aL,gU,cc]
    |_=>simp[eG,hhd,hx]at hv
   ·obtain⟨ok1,ok2,ok3,_⟩:=A.ok
    obtain⟨f1,f2⟩:=fj A.cl
    have hL:=yh t1.av t2.av ea 42 (mk []) 0 ((aE _).mpr trivial) he.has
    have hR:=yy t1.av t2.av ea 42 (mk []) 0 ((aE _).mpr trivial) he.has
    cases v with
    |
     p w w' =>
     simp only[eG,hhd,hx,beq_self_eq_true,bG,au]at hv
     simp only[Vl.nodes]at hm hl hlen
     rw[mn]at hlen |-
     simp only[an,fA]at hlen
     simp only[Ty.av,↓zq,zs,af]
     refine⟨by omega,fun h=>by omega,fun _=>⟨fun _=>?_,fun h=>absurd rfl h⟩⟩
     refine ak hL ?_
     simp only[↓zq,zs,af,bO,aE,he.has,Vl.cn,aL]
     refine⟨by omega,?_⟩
     refine ak (Dw n m w (by omega) a env t1 ⟨ok2,A.wf,ha,f1⟩ hv.1 (by omega) ea ids he hids tg s fr ht) ?_
     simp only[↓zq,zs,af]
     have hadd:=Of (Vl.p w w').cn ((aL _).mpr trivial) (fun c=>.l (.p c w')) (fun c=>Mg w w' c) (bT t1 tg w) [] (by simp;omega)
     simp only[Vl.cn,gU,List.map_nil,ba]at hadd
     refine aY hadd ?_
     simp only[↓zq,zs,af,aM,aL]
     refine ak hR ?_
     simp only[↓zq,zs,af,bO,aE,he.has,aL]
     refine⟨by omega,?_⟩
     refine ak (Dw n m w' (by omega) b env t2 ⟨ok3,A.wf,hbb,f2⟩ hv.2 (by omega) ea ids he hids tg s fr ht) ?_
     simp only[↓zq,zs,af]
     have hadd2:=OV (Vl.p w w').cn ((aL _).mpr trivial) (fun c=>.r (.p w c)) (fun c=>Mu w w' c) (bT t2 tg w') (ja (fun c=>.l (.p c w')) (bT t1 tg w)) (by rw[fA];omega)
     simp only[Vl.cn,gU]at hadd2
     refine aY hadd2 ?_
     simp[↓zq,zs,af,aM,bz,aL,gU,cc]
    |_=>simp[eG,hhd,hx]at hv
   ·obtain⟨t1',he1,h1,f1,hw1⟩:=jI A.wf A.ok hx A.ty A.cl
    cases he1
    obtain⟨ok1,ok2,ok3,_⟩:=A.ok
    have A':Ask b (.mk a.at (.list [x,a,b]) env::env) t1:=⟨ok3,hw1,h1,f1⟩
    cases v with
    |
     f w =>
     simp only[eG,hhd,hx,beq_self_eq_true,bG]at hv
     simp only[Vl.nodes]at hm hl hlen
     rw[my]at hlen |-
     simp only[an,fA]at hlen
     have hin:=Bl t1 ea ids he
     simp only[Ty.av]at hin
     simp only[Ty.av,↓zq,zs,af]
     refine⟨by omega,fun h=>by omega,fun _=>⟨fun h=>by omega,fun _=>⟨fun _=>?_,fun h=>absurd rfl h⟩⟩⟩
     refine aQ hin (by have:=Az.ne t1 ea ids;simpa only[Az,Ty.av]using this) ?_
     intro r o hr
     obtain⟨⟨mm,hmm,rfl⟩,rfl⟩:=hr
     have he2:kg (.ptr [.pid mm [(Ty.rc t1).av,ea],ea]) (mm::ids):=.cons hmm he
     have hfr:LK.ptr.has (.pid mm [(Ty.rc t1).av,ea]):=.inr (.inr ⟨_,_,rfl⟩)
     simp only[Ty.av]at he2 hfr
     simp only[↓zq,zs,af,bO,aE,he2.has,hfr,Vl.cn,aL,Ty.av]
     refine⟨by omega,?_⟩
     have i1:=Dw n m w (by omega) b _ t1 A' hv (by simp;omega) _ _ he2 (by simp[hids]) tg.up s fr (ht.push mm)
     unfold D5 at i1
     refine ak i1 ?_
     simp only[↓zq,zs,af]
     have hadd:=Np (fun c=>.f (.l c)) (fun c=>MC c) (bT t1 tg.up w) [] (by simp;omega)
     simp only[Vl.cn,gU,List.map_nil,ba]at hadd
     refine aY hadd ?_
     simp only[↓zq,zs,af,aM,aL]
     have i2:=Dw n m w (by omega) b _ t1 A' hv (by simp;omega) _ _ he2 (by simp[hids]) (.bd 0) [] _ (by have:=yS.bd (k:=0) (ids:=mm::ids) (by simp) [(Ty.rc t1).av,ea] [];simpa only[bc,Ty.av]using this)
     unfold D5 at i2
     refine⟨by omega,?_⟩
     refine ak i2 ?_
     simp only[↓zq,zs,af,dL]
     have hl2:=mD t1 (.bd 0) w
     have ih3:∀h,h∈bT t1 (.bd 0) w->D5 (.rc t1) ea s fr tg h.2:=fun h hh=>by
      have h3:=(i6 hh).1
      have h4:=gP n m w (by omega) b _ t1 A' hv 0 _ rfl h hh
      exact Dw n m h.2 (by omega) (.list [x,a,b]) env (.rc t1) A h4 (by omega) ea ids he hids tg s fr ht
     have hloop:=K8 t1 ea s fr tg he.has ht.has (bT t1 (.bd 0) w) (by omega) ih3 (bT t1 (.bd 0) w).length 0 (ja (fun c=>.f (.l c)) (bT t1 tg.up w)) (by omega) (by
      simp only[bj,an,fA]
      have hlen2:(bT t1 tg.up w).length+((bT t1 (.bd 0) w).flatMap (yR t1 tg)).length<=1+w.nodes:=hlen
      omega)
     simp only[Ty.av,gU,bj]at hloop
     refine cm hloop ?_
     simp[↓zq,zs,af,af,bz,gU]
    |_=>simp[eG,hhd,hx]at hv
  ·rw[dF hat (by cases v<;>rfl)]
   simp[Ty.av,↓zq,zs,af,bz,gU]
end Go.Proofs.Trees
namespace Go.Proofs.Trees
open Go Go.VL Go.RowKit
theorem Dg:∀(v:Vl),v.dm.length<=900000->aq Tryz.prog 52 [v.cn] [] (bz (.v (.string (mk v.dm))))
 | .u,h=>by refine yk _ ((aL _).mpr trivial) ?_;simp[vV,Vl.cn,↓zq,zs,af,bz,Vl.dm,Vl.dc,eI]
 | .el k,h=>by refine yk _ ((aL _).mpr trivial) ?_;simp[vV,Vl.cn,↓zq,zs,af,bz,Vl.dm,Vl.dc,eI]
 |
  .l v,h=>by
  simp only[Vl.dm,Vl.dc,eI,dT,aw,an,aG]at h
  refine yk _ ((aL _).mpr trivial) ?_
  have hb:(⟨(bytesOf [[.v (.int .u8 108)]]).toArray⟩:ByteArray)=mk [108]:=rfl
  have ha:jh [[.v (.int .u8 108)]]:=kI 108
  simp only[vV,Vl.cn,↓zq,zs,af,aL,er,hb]
  refine⟨by omega,fun h=>by omega,fun _=>⟨fun h=>by omega,fun _=>⟨fun h=>by omega,fun _=>⟨by omega,ha,by simp[cU],by rw[ko,cU,cU];simp,by omega,?_⟩⟩⟩⟩
  refine ak (Dg v (by simp only[Vl.dm];omega)) ?_
  simp only[↓zq,zs,af,zt,bz,Vl.dm,Vl.dc,eI,dT]
  refine⟨by simp;omega,by simp;omega,by simp⟩
 |
  .r v,h=>by
  simp only[Vl.dm,Vl.dc,eI,dT,aw,an,aG]at h
  refine yk _ ((aL _).mpr trivial) ?_
  have hb:(⟨(bytesOf [[.v (.int .u8 114)]]).toArray⟩:ByteArray)=mk [114]:=rfl
  have ha:jh [[.v (.int .u8 114)]]:=kI 114
  simp only[vV,Vl.cn,↓zq,zs,af,aL,er,hb]
  refine⟨by omega,fun h=>by omega,fun _=>⟨fun h=>by omega,fun _=>⟨fun h=>by omega,fun _=>⟨by omega,ha,by simp[cU],by rw[ko,cU,cU];simp,by omega,?_⟩⟩⟩⟩
  refine ak (Dg v (by simp only[Vl.dm];omega)) ?_
  simp only[↓zq,zs,af,zt,bz,Vl.dm,Vl.dc,eI,dT]
  refine⟨by simp;omega,by simp;omega,by simp⟩
 |
  .f v,h=>by
  simp only[Vl.dm,Vl.dc,eI,dT,aw,an,aG]at h
  refine yk _ ((aL _).mpr trivial) ?_
  have hb:(⟨(bytesOf [[.v (.int .u8 102)]]).toArray⟩:ByteArray)=mk [102]:=rfl
  have ha:jh [[.v (.int .u8 102)]]:=kI 102
  simp only[vV,Vl.cn,↓zq,zs,af,aL,er,hb]
  refine⟨by omega,fun h=>by omega,fun _=>⟨fun h=>by omega,fun _=>⟨fun h=>by omega,fun _=>⟨by omega,ha,by simp[cU],by rw[ko,cU,cU];simp,by omega,?_⟩⟩⟩⟩
  refine ak (Dg v (by simp only[Vl.dm];omega)) ?_
  simp only[↓zq,zs,af,zt,bz,Vl.dm,Vl.dc,eI,dT]
  refine⟨by simp;omega,by simp;omega,by simp⟩
 |
  .p a b,h=>by
  simp only[Vl.dm,Vl.dc,eI,dT,aw,an,aG]at h
  refine yk _ ((aL _).mpr trivial) ?_
  simp only[vV,Vl.cn,↓zq,zs,af,aL,er]
  refine⟨by omega,fun h=>by omega,fun _=>⟨fun h=>by omega,fun _=>⟨fun _=>⟨by omega,?_⟩,fun h=>absurd rfl h⟩⟩⟩
  refine ak (Dg a (by simp only[Vl.dm];omega)) ?_
  simp only[↓zq,zs,af,zt,aL,Vl.dm]
  refine⟨by simp;omega,by simp;omega,by omega,?_⟩
  refine ak (Dg b (by simp only[Vl.dm];omega)) ?_
  simp only[↓zq,zs,af,zt,bz,Vl.dm,Vl.dc,eI,dT]
  refine⟨by simp;omega,by simp;omega,by simp⟩
def rb:Option (List UInt8)->AV
 |some s=>.cW [.v (.string (mk s)),.v (.bool true)]
 |none=>.cW [.v (.string (mk [])),.v (.bool false)]
theorem L7(v:Vl)(hb:v.iq 100)(hn:v.nodes<100000):aq Tryz.prog 42 [v.cn] [] (bz (rb (if v.nodes<=200 then some v.dm else none))):=by
 refine MP _ ((aL _).mpr trivial) ?_
 unfold JF
 refine ak (DZ v (by omega)) ?_
 simp only[↓zq,zs,af,bz]
 refine⟨fun h=>?_,fun h=>?_⟩
 ·rw[if_neg (by omega)];rfl
 ·have:=iM v hb
  refine ak (Dg v (by omega)) ?_
  rw[if_pos (by omega)]
  simp only[↓zq,zs,af,rb]
end Go.Proofs.Trees
namespace Go.Proofs.Trees
open Go Go.VL Go.RowKit
def back(n:Nat):Ty->Nat->Vl
 | .name _,c=>.el c
 | .plus a b,c=>match GL n a with|some x=>if c<x then .l (back n a c)else .r (back n b (c-x))|none=>.u
 | .times a b,c=>match GL n b with|some y=>.p (back n a (c/y)) (back n b (c%y))|none=>.u
 |_,_=>.u
theorem xC:∀l:List E,cx 2 (E.bf l)
 |[]=>fun c hc=>by cases hc
 |
  e::l=>fun c hc=>by
  simp only[E.bf,aJ]at hc
  rcases hc with rfl|hc
  ·exact fU e
  ·exact xC l c hc
theorem IC(w:List UInt8)(l:List E)(hl:l.length<1000000):aq Tryz.prog 61 [.v (.string (mk w)),.sl (E.bf l)] [] (bz (E.kb (.list (.atom w::l)))):=by
 refine Mr _ _ ((ck _).mpr trivial) ?_
 simp only[JB,↓zq,zs,af,dN,bz,E.kb,E.gR,E.bf]
 exact⟨⟨xC l,by omega⟩,rfl⟩
end Go.Proofs.Trees
namespace Go.Proofs.Trees
open Go Go.VL Go.RowKit
def lF(l:List Hl):List (List AV):=l.map fun h=>[.v (.string (mk h.1.dc.at)),h.1.dc.sp,.v (.string (mk h.2.dc.at)),h.2.dc.sp]
theorem eZ(l:List Hl):(lF l).length=l.length:=by simp[lF]
theorem ga{l:List Hl}{i:Nat}(hi:i<l.length):(lF l).getD i []=[.v (.string (mk (l[i]).1.dc.at)),(l[i]).1.dc.sp,.v (.string (mk (l[i]).2.dc.at)),(l[i]).2.dc.sp]:=by simp[lF,aa,hi]
theorem nW(out:List Hl)(a b:Vl):lF out++[[.v (.string (mk a.dc.at)),a.dc.sp,.v (.string (mk b.dc.at)),b.dc.sp]]=lF (out++[(a,b)]):=by simp[lF]
theorem xP(a b c d:AV):cx 4 [[a,b,c,d]]:=fun x hx=>by simp at hx;rw[hx];rfl
theorem aP(s:ByteArray)(e:E):bO [.str,.sl] [.v (.string s),e.sp] 0=True:=by simp[bO,eX,bb]
theorem kJ(s:ByteArray)(e:E)(x y:AV):bO [.str,.sl] [.v (.string s),e.sp,x,y] 0=True:=by simp[bO,eX,bb]
theorem Bh(w:List UInt8)(e:E):aq Tryz.prog 61 [.v (.string (mk w)),.sl [[.v (.string (mk e.at)),e.sp]]] [] (bz (.agg [.v (.string (mk [])),(E.list [.atom w,e]).sp])):=by
 have:=IC w [e] (by simp)
 simpa only[E.bf,iD,ei,E.at]using this
theorem Bj(w:List UInt8)(e e':E):aq Tryz.prog 61 [.v (.string (mk w)),.sl [[.v (.string (mk e.at)),e.sp],[.v (.string (mk e'.at)),e'.sp]]] [] (bz (.agg [.v (.string (mk [])),(E.list [.atom w,e,e']).sp])):=by
 have:=IC w [e,e'] (by simp)
 simpa only[E.bf,iD,ei,E.at]using this
def P3(pv:AV)(a b:E):Prop:=LK.sl.has pv/\pv.elems.length=3/\pv.elems.getD 1 []=[.v (.string (mk a.at)),a.sp]/\pv.elems.getD 2 []=[.v (.string (mk b.at)),b.sp]
theorem P3.of(x a b:E):P3 (E.list [x,a,b]).sp a b:=⟨by simp[E.sp,ck],by simp[E.sp,E.bf,fe],by simp[E.sp,E.bf,fe,iD],by simp[E.sp,E.bf,fe,iD]⟩
def P2(pv:AV)(a:E):Prop:=LK.sl.has pv/\pv.elems.length=2/\pv.elems.getD 1 []=[.v (.string (mk a.at)),a.sp]
theorem P2.of(x a:E):P2 (E.list [x,a]).sp a:=⟨by simp[E.sp,ck],by simp[E.sp,E.bf,fe],by simp[E.sp,E.bf,fe,iD]⟩
theorem LC(w:List UInt8)(g:Vl->Vl)(hg:∀c,(g c).dc=.list [.atom w,c.dc])(l:List Hl)(hl:l.length<=1000000):∀(k i:Nat) (out:List Hl),i+k=l.length->out.length+k<=1000000 ->
 DU [.sl (lF l),.v (.string (mk w)),.v (.int .i64 (i:Int))] [.vec 4 (lF out)] (hZ 1 [] [.vec 4 (lF (out++ja g (l.drop i)))])
 |
  0,i,out,hi,ho=>by
  refine HV _ _ _ _ ?_
  have:i=l.length:=by omega
  subst this
  simp only[FH,↓zq,zs,af,eZ]
  exact⟨fun h=>by omega,fun _=>by simp[hZ,ja]⟩
 |
  k+1,i,out,hi,ho=>by
  have hlt:i<l.length:=by omega
  refine HV _ _ _ _ ?_
  simp only[FH,↓zq,zs,af,zt,eZ,ga hlt,kJ,aP]
  refine⟨fun _=>?_,fun h=>by omega⟩
  repeat refine⟨by omega,?_⟩
  refine ak (Bh _ _) ?_
  simp only[↓zq,zs,af,aP]
  repeat refine⟨by omega,?_⟩
  refine⟨⟨xP _ _ _ _,by omega⟩,?_⟩
  rw[bw i (by omega)]
  have:=LC w g hg l hl k (i+1) (out++[(g (l[i]).1,(l[i]).2)]) (by omega) (by simp;omega)
  rw[a7,<-nW,hg]at this
  rw[fX g l hlt]
  exact this
theorem GW(w:List UInt8)(g:Vl->Vl)(hg:∀c,(g c).dc=.list [.atom w,c.dc])(l out:List Hl)(hl:out.length+l.length<=1000000) :
 aq Tryz.prog 72 [.sl (lF l),.v (.string (mk w)),.vec 0] [.vec 4 (lF out)] (cY (.vec 1) [.dead,.vec 4 (lF (out++ja g l))]):=by
 refine OA _ _ _ ((ck _).mpr trivial) ?_
 simp only[GV,↓zq,zs,af]
 have h:=LC w g hg l (by omega) l.length 0 out (by omega) (by omega)
 rw[bj]at h
 refine cm h ?_
 simp[↓zq,zs,af,cY]
theorem Hx(s:List UInt8)(ta:ByteArray)(tp:AV)(ht:LK.sl.has tp)(va:ByteArray)(vp:AV)(x y:Vl)(hp:P3 vp x.dc y.dc)(l:List Hl)(hl:l.length<=1000000):∀(k i:Nat) (out:List Hl),i+k=l.length->out.length+k<=1000000 ->
 D0 [.v (.string (mk s)),.sl (lF l),.v (.int .i64 (i:Int))] [.cells [.v (.string ta),tp],.cells [.v (.string va),vp],.vec 4 (lF out)] (hZ 1 [.v (.string (mk s))] [.cells [.v (.string ta),tp],.cells [.v (.string va),vp],.vec 4 (lF (out++ja (fun c=>Vl.l (.p c y)) (l.drop i)))])
 |
  0,i,out,hi,ho=>by
  refine Kp _ _ _ _ _ _ _ _ ?_
  have:i=l.length:=by omega
  subst this
  simp only[Gw,↓zq,zs,af,eZ,ht,bb,af,hp.1]
  exact⟨fun h=>by omega,fun _=>by simp[hZ,ja]⟩
 |
  k+1,i,out,hi,ho=>by
  have hlt:i<l.length:=by omega
  refine Kp _ _ _ _ _ _ _ _ ?_
  simp only[Gw,↓zq,zs,af,zt,eZ,ga hlt,kJ,aP,ga,ht,bb,af,hp.1,toNat_one,bq,hp.1,hp.2.1,hp.2.2.1,hp.2.2.2]
  refine⟨fun _=>?_,fun h=>by omega⟩
  repeat refine⟨by omega,?_⟩
  refine ak (Bj _ _ _) ?_
  simp only[↓zq,zs,af,aP]
  repeat refine⟨by omega,?_⟩
  refine ak (Bh [108] (E.list [.atom [112],(l[i]).1.dc,y.dc])) ?_
  simp only[↓zq,zs,af,aP]
  repeat refine⟨by omega,?_⟩
  refine⟨⟨xP _ _ _ _,by omega⟩,?_⟩
  rw[bw i (by omega)]
  have:=Hx s ta tp ht va vp x y hp l hl k (i+1) (out++[((fun c=>Vl.l (.p c y)) (l[i]).1,(l[i]).2)]) (by omega) (by simp;omega)
  rw[a7,<-nW]at this
  rw[fX (fun c=>Vl.l (.p c y)) l hlt]
  exact this
theorem Kv(va:ByteArray)(vp:AV)(x y:Vl)(hp:P3 vp x.dc y.dc)(l:List Hl)(hl:l.length<=1000000):∀(k i:Nat) (out:List Hl),i+k=l.length->out.length+k<=1000000 ->
 Gf [.sl (lF l),.v (.int .i64 (i:Int))] [.cells [.v (.string va),vp],.vec 4 (lF out)] (hZ 1 [] [.vec 4 (lF (out++ja (fun c=>Vl.r (.p x c)) (l.drop i)))])
 |
  0,i,out,hi,ho=>by
  refine He _ _ _ _ _ ?_
  have:i=l.length:=by omega
  subst this
  simp only[Eg,↓zq,zs,af,eZ,bb,af,hp.1]
  exact⟨fun h=>by omega,fun _=>by simp[hZ,ja]⟩
 |
  k+1,i,out,hi,ho=>by
  have hlt:i<l.length:=by omega
  refine He _ _ _ _ _ ?_
  simp only[Eg,↓zq,zs,af,zt,eZ,ga hlt,kJ,aP,ga,bb,af,hp.1,toNat_one,bq,hp.1,hp.2.1,hp.2.2.1,hp.2.2.2]
  refine⟨fun _=>?_,fun h=>by omega⟩
  repeat refine⟨by omega,?_⟩
  refine ak (Bj _ _ _) ?_
  simp only[↓zq,zs,af,aP]
  repeat refine⟨by omega,?_⟩
  refine ak (Bh [114] (E.list [.atom [112],x.dc,(l[i]).1.dc])) ?_
  simp only[↓zq,zs,af,aP]
  repeat refine⟨by omega,?_⟩
  refine⟨⟨xP _ _ _ _,by omega⟩,?_⟩
  rw[bw i (by omega)]
  have:=Kv va vp x y hp l hl k (i+1) (out++[((fun c=>Vl.r (.p x c)) (l[i]).1,(l[i]).2)]) (by omega) (by simp;omega)
  rw[a7,<-nW]at this
  rw[fX (fun c=>Vl.r (.p x c)) l hlt]
  exact this
theorem Hc(s s2:List UInt8)(ta:ByteArray)(tp:AV)(ht:LK.sl.has tp)(va:ByteArray)(vp:AV)(hp:LK.sl.has vp)(l:List Hl)(hl:l.length<=1000000):∀(k i:Nat) (out:List Hl),i+k=l.length->out.length+k<=1000000 ->
 E8 [.v (.string (mk s)),.v (.string (mk s2)),.sl (lF l),.v (.int .i64 (i:Int))] [.cells [.v (.string ta),tp],.cells [.v (.string va),vp],.vec 4 (lF out)] (hZ 1 [.v (.string (mk s)),.v (.string (mk s2))] [.cells [.v (.string ta),tp],.cells [.v (.string va),vp],.vec 4 (lF (out++ja (fun c=>Vl.f (.l c)) (l.drop i)))])
 |
  0,i,out,hi,ho=>by
  refine Kq _ _ _ _ _ _ _ _ _ ?_
  have:i=l.length:=by omega
  subst this
  simp only[FZ,↓zq,zs,af,eZ,ht,bb,af,hp]
  exact⟨fun h=>by omega,fun _=>by simp[hZ,ja]⟩
 |
  k+1,i,out,hi,ho=>by
  have hlt:i<l.length:=by omega
  refine Kq _ _ _ _ _ _ _ _ _ ?_
  simp only[FZ,↓zq,zs,af,zt,eZ,ga hlt,kJ,aP,ga,ht,bb,af,hp]
  refine⟨fun _=>?_,fun h=>by omega⟩
  repeat refine⟨by omega,?_⟩
  refine ak (Bh _ _) ?_
  simp only[↓zq,zs,af,aP]
  repeat refine⟨by omega,?_⟩
  refine ak (Bh [102] (E.list [.atom [108],(l[i]).1.dc])) ?_
  simp only[↓zq,zs,af,aP]
  repeat refine⟨by omega,?_⟩
  refine⟨⟨xP _ _ _ _,by omega⟩,?_⟩
  rw[bw i (by omega)]
  have:=Hc s s2 ta tp ht va vp hp l hl k (i+1) (out++[((fun c=>Vl.f (.l c)) (l[i]).1,(l[i]).2)]) (by omega) (by simp;omega)
  rw[a7,<-nW]at this
  rw[fX (fun c=>Vl.f (.l c)) l hlt]
  exact this
theorem Ku(s:List UInt8)(L:AV)(q:Nat)(kc:Vl)(kv:Vl)(hL:LK.sl.has L)(hq:q<L.elems.length)(hg:L.elems.getD q []=[.v (.string (mk kc.dc.at)),kc.dc.sp,.v (.string (mk kv.dc.at)),kv.dc.sp])(ta:ByteArray)(tp:AV)(ht:LK.sl.has tp)(l:List Hl)(hl:l.length<=1000000):∀(k i:Nat) (out:List Hl),i+k=l.length->out.length+k<=1000000 ->
 Gi [.v (.string (mk s)),L,.v (.int .i64 (q:Int)),.sl (lF l),.v (.int .i64 (i:Int))] [.cells [.v (.string ta),tp],.vec 4 (lF out)] (hZ 1 [.v (.string (mk s)),L,.v (.int .i64 (q:Int))] [.cells [.v (.string ta),tp],.vec 4 (lF (out++ja (fun c=>Vl.f (.r (.p kc c))) (l.drop i)))])
 |
  0,i,out,hi,ho=>by
  refine Ll _ _ _ _ _ _ _ _ ?_
  have:i=l.length:=by omega
  subst this
  simp only[D1,↓zq,zs,af,eZ,ht,bb,af,hL]
  exact⟨fun h=>by omega,fun _=>by simp[hZ,ja]⟩
 |
  k+1,i,out,hi,ho=>by
  have hlt:i<l.length:=by omega
  refine Ll _ _ _ _ _ _ _ _ ?_
  simp only[D1,↓zq,zs,af,zt,eZ,ga hlt,kJ,aP,ga,ht,bb,af,hL,hg]
  refine⟨fun _=>?_,fun h=>by omega⟩
  repeat refine⟨by omega,?_⟩
  refine ak (Bj _ _ _) ?_
  simp only[↓zq,zs,af,aP]
  repeat refine⟨by omega,?_⟩
  refine ak (Bh [114] (E.list [.atom [112],kc.dc,(l[i]).1.dc])) ?_
  simp only[↓zq,zs,af,aP]
  repeat refine⟨by omega,?_⟩
  refine ak (Bh [102] (E.list [.atom [114],E.list [.atom [112],kc.dc,(l[i]).1.dc]])) ?_
  simp only[↓zq,zs,af,aP]
  repeat refine⟨by omega,?_⟩
  refine⟨⟨xP _ _ _ _,by omega⟩,?_⟩
  rw[bw i (by omega)]
  have:=Ku s L q kc kv hL hq hg ta tp ht l hl k (i+1) (out++[((fun c=>Vl.f (.r (.p kc c))) (l[i]).1,(l[i]).2)]) (by omega) (by simp;omega)
  rw[a7,<-nW]at this
  rw[fX (fun c=>Vl.f (.r (.p kc c))) l hlt]
  exact this
theorem K5(s:List UInt8)(te:E)(a:Ty)(tg:Tg)(l:List Hl)(hl:l.length<=1000000)(ih:∀h,h∈l->aq Tryz.prog 37 [.agg [.v (.string (mk te.at)),te.sp],.v (.string (mk s)),.agg [.v (.string (mk h.2.dc.at)),h.2.dc.sp]] [] (bz (.sl (lF (bT (.rc a) tg h.2))))) :
 ∀(k i:Nat) (out:List Hl),i+k=l.length->(out++(l.drop i).flatMap (yR a tg)).length<=1000000 ->
 DB [.v (.string (mk s)),.sl (lF l),.v (.int .i64 (i:Int))] [.cells [.v (.string (mk te.at)),te.sp],.vec 4 (lF out)] (hZ 1 [] [.vec 4 (lF (out++(l.drop i).flatMap (yR a tg)))])
 |
  0,i,out,hi,ho=>by
  refine IY _ _ _ _ _ _ ?_
  have:i=l.length:=by omega
  subst this
  simp only[EL,↓zq,zs,af,eZ,bb,af]
  exact⟨fun h=>by omega,fun _=>by simp[hZ]⟩
 |
  k+1,i,out,hi,ho=>by
  have hlt:i<l.length:=by omega
  have hd:(l.drop i).flatMap (yR a tg)=yR a tg (l[i])++(l.drop (i+1)).flatMap (yR a tg):=by rw[aV hlt,List.flatMap_cons]
  rw[hd]at ho |-
  refine IY _ _ _ _ _ _ ?_
  simp only[EL,↓zq,zs,af,zt,eZ,ga hlt,kJ,aP,bb,af]
  refine⟨fun _=>?_,fun h=>by omega⟩
  repeat refine⟨by omega,?_⟩
  refine ak (ih _ (zO l hlt)) ?_
  simp only[↓zq,zs,af]
  have hb:out.length+(bT (.rc a) tg (l[i]).2).length<=1000000:=by
   simp only[an,fA]at ho;omega
  have h5:=Ku s (.sl (lF l)) i (l[i]).1 (l[i]).2 ((ck _).mpr trivial) (by rw[fe,eZ];omega) (by rw[fe,ga hlt]) (mk te.at) te.sp ((bb _).mpr trivial) (bT (.rc a) tg (l[i]).2) (by omega) (bT (.rc a) tg (l[i]).2).length 0 out (by omega) (by omega)
  rw[bj]at h5
  refine cm h5 ?_
  simp only[↓zq,zs,af,bb,af]
  repeat refine⟨by omega,?_⟩
  rw[bw i (by omega),<-a7]
  exact K5 s te a tg l hl ih k (i+1) _ (by omega) (by rw[a7];exact ho)
end Go.Proofs.Trees
namespace Go.Proofs.Trees
open Go Go.VL Go.RowKit
def kids(a:Ty):Vl->List Hl
 | .f w=>bT a (.bd 0) w
 |_=>[]
theorem sE(a:Ty)(v:Vl):kl (kids a v)+1<=v.nodes:=by
 cases v with
 |f w=>have:=qG a (.bd 0) w;simp only[kids,Vl.nodes];omega
 |_=>simp only[kids,kl,Vl.nodes,List.map_nil,List.sum_nil];omega
theorem xH{a:Ty}{v:Vl}{h:Hl}(hh:h∈kids a v):h.2.nodes<v.nodes:=by
 cases v with
 |f w=>have:=(i6 hh).1;simp only[Vl.nodes];omega
 |_=>cases hh
theorem lU{n:Nat}{a:Ty}{v:Vl}{h:Hl}(hv:v.iq n)(hh:h∈kids a v):h.1.iq n/\h.2.iq n:=by
 cases v with
 |f w=>exact gG n _ _ _ w h hv hh
 |_=>cases hh
end Go.Proofs.Trees
namespace Go.Proofs.Trees
open Go Go.VL
mutual
def E.pr:E->Prop
 | .atom s=>s≠[]/\s.all eJ=true
 | .list l=>l≠[]/\E.zR l
def E.zR:List E->Prop
 |[]=>True
 |e::l=>e.pr/\E.zR l
end
mutual
def E.dp:E->Nat
 | .atom _=>0
 | .list l=>1+E.tG l
def E.tG:List E->Nat
 |[]=>0
 |e::l=>max e.dp (E.tG l)
end
def J3(r:List UInt8):Prop:=∀c t,r=c::t->eJ c=false
theorem tu:J3 []:=by intro c t h;cases h
theorem zl{s r:List UInt8}(hs:s.all eJ=true)(hr:J3 r):(s++r).takeWhile eJ=s/\(s++r).dropWhile eJ=r:=by
 induction s with
 |
  nil =>
  cases r with
  |nil=>exact⟨rfl,rfl⟩
  |cons c t=>have:=hr c t rfl;simp[List.takeWhile,List.dropWhile,this]
 |
  cons c s ih =>
  simp only[cI,au]at hs
  have:=ih hs.2
  simp[List.takeWhile,List.dropWhile,hs.1,this.1,this.2]
theorem ug(l:List E)(r:List UInt8):J3 (dT l++41::r):=by
 intro c t h
 cases l with
 |nil=>simp only[dT,ba,List.cons.injEq]at h;rw[<-h.1];decide
 |cons e l=>simp only[dT,bC,List.cons.injEq]at h;rw[<-h.1];decide
theorem Ab{f:List UInt8->Option (E×List UInt8)}(r:List UInt8):∀(l:List E) (e:E) (acc:List E) (n:Nat),l.length<n->(∀x,x=e\/x∈l->∀r,J3 r->f (eI x++r)=some (x,r)) ->
 qZ f n (eI e++(dT l++41::r)) acc=some (.list (acc++e::l),r)
 |l,e,acc,0,hn,hf=>by omega
 |
  [],e,acc,n+1,hn,hf=>by
  simp only[qZ]
  rw[hf e (.inl rfl) _ (ug [] r)]
  simp[dT]
 |
  x::l,e,acc,n+1,hn,hf=>by
  simp only[qZ]
  rw[hf e (.inl rfl) _ (ug (x::l) r)]
  simp only[aw]at hn
  have ih:=Ab r l x (acc++[e]) n (by omega) (fun y hy=>hf y (.inr (by cases hy with|inl h=>rw[h];exact ai|inr h=>exact al _ h)))
  simp only[a7,bC,ba]at ih
  simp only[dT,bC,a7]
  simp[ih]
theorem Bn{l:List E}{k:Nat}:E.zR l->E.tG l<=k->∀x,x∈l->x.pr/\x.dp<=k:=by
 induction l with
 |nil=>intro _ _ x h;cases h
 |
  cons e l ih =>
  intro h hd x hx
  simp only[E.zR,E.tG]at h hd
  cases hx with
  |head=>exact⟨h.1,by omega⟩
  |tail _ hx=>exact ih h.2 (by omega) x hx
theorem wC:∀(k:Nat) (e:E) (r:List UInt8),e.pr->e.dp<=k->J3 r->rd k (eI e++r)=some (e,r)
 |
  0,.atom s,r,hp,hd,hr=>by
  have h:=zl hp.2 hr
  simp only[eI,rd,h.1,h.2,hp.1,if_false]
 |
  k+1,.atom s,r,hp,hd,hr=>by
  have h:=zl hp.2 hr
  simp only[eI,rd,h.1,h.2,hp.1,if_false]
 |0,.list l,r,hp,hd,hr=>by simp only[E.dp]at hd;omega
 |k+1,.list [],r,hp,hd,hr=>by exact absurd rfl hp.1
 |
  k+1,.list (e::l),r,hp,hd,hr=>by
  have hs:eJ 40=false:=by decide
  simp only[E.dp,E.pr]at hd hp
  have hm:=Bn (k:=k) hp.2 (by omega)
  have:=Ab (f:=rd k) r l e [] ((eI e++(dT l++41::r)).length+1) (by have:=qB l;simp only[an,aw];omega)
   (fun x hx r hr=>wC k x r (hm x (by cases hx with|inl h=>rw[h];exact ai|inr h=>exact al _ h)).1 (hm x (by cases hx with|inl h=>rw[h];exact ai|inr h=>exact al _ h)).2 hr)
  simp only[eI,bC,a7,ba]at *
  simp only[rd,List.takeWhile,hs,if_true]
  simpa using this
theorem yT{e e':E}(h:e.pr)(h':e'.pr)(ht:eI e=eI e'):e=e':=by
 have a:=wC (max e.dp e'.dp) e [] h (by omega) tu
 have b:=wC (max e.dp e'.dp) e' [] h' (by omega) tu
 rw[ht,b]at a;cases a;rfl
theorem Fa{e:E}(h:e.pr)(hd:e.dp<=300)(hl:(eI e).length<=8000):pZ (eI e)=some e:=by
 have:=wC 300 e [] h hd tu
 rw[List.append_nil]at this
 rw[pZ,this];simp;omega
theorem Ad(s:List UInt8):(s.takeWhile eJ).all eJ=true:=by
 induction s with
 |nil=>rfl
 |cons c s ih =>
  cases h:eJ c
  ·simp[List.takeWhile,h]
  ·simp only[List.takeWhile,h,cI,ih];rfl
theorem Cn(l r:List E):E.zR (l++r)↔E.zR l/\E.zR r:=by
 induction l with
 |nil=>simp[E.zR]
 |cons e l ih=>simp[E.zR,ih,and_assoc]
theorem Cr(l r:List E):E.tG (l++r)=max (E.tG l) (E.tG r):=by
 induction l with
 |nil=>simp[E.tG]
 |cons e l ih=>simp[E.tG,ih,Nat.max_assoc]
theorem wW{k:Nat}{f:List UInt8->Option (E×List UInt8)}(hf:∀s e r,f s=some (e,r)->s=eI e++r/\e.pr/\e.dp<=k):∀(n:Nat) (s:List UInt8) (acc:List E) (e:E) (r:List UInt8),qZ f n s acc=some (e,r)->E.zR acc->E.tG acc<=k ->
 ∃l,e=.list (acc++l)/\l≠[]/\32::s=dT l++41::r/\E.zR l/\E.tG l<=k
 |0,s,acc,e,r,h,hp,hd=>by cases h
 |
  n+1,s,acc,e,r,h,hp,hd=>by
  simp only[qZ]at h
  split at h
  ·rename_i p c r' hs
   obtain⟨h1,h2,h3⟩:=hf _ _ _ hs
   split at h
   ·rename_i hc
    have hc:c=41:=dB.mp hc
    cases h
    exact⟨[p],rfl,by simp,by simp[dT,h1,hc],⟨h2,trivial⟩,by simp[E.tG];omega⟩
   ·split at h
    ·rename_i hc
     have hc:c=32:=dB.mp hc
     obtain⟨l,g1,g2,g3,g4,g5⟩:=wW hf n _ _ _ _ h ((Cn _ _).mpr ⟨hp,h2,trivial⟩) (by rw[Cr];simp[E.tG];omega)
     refine⟨p::l,by simpa using g1,by simp,?_,⟨h2,g4⟩,by simp only[E.tG];omega⟩
     rw[h1,hc,g3];simp[dT]
    ·cases h
  ·cases h
theorem zD:∀(k:Nat) (s:List UInt8) (e:E) (r:List UInt8),rd k s=some (e,r)->s=eI e++r/\e.pr/\e.dp<=k
 |
  0,s,e,r,h=>by
  simp only[rd]at h
  split at h
  ·cases h
  ·rename_i hs;cases h
   exact⟨(bQ).symm,⟨hs,Ad s⟩,az _⟩
 |
  k+1,s,e,r,h=>by
  simp only[rd]at h
  split at h
  ·split at h
   ·rename_i c r' _
    split at h
    ·rename_i hc
     have hc:c=40:=dB.mp hc
     obtain⟨l,g1,g2,g3,g4,g5⟩:=wW (k:=k) (fun s e r h=>zD k s e r h) _ _ _ _ _ h trivial (dA _)
     simp only[ba]at g1
     subst g1;subst hc
     refine⟨?_,⟨g2,g4⟩,by simp only[E.dp];omega⟩
     cases l with
     |nil=>exact absurd rfl g2
     |
      cons x l =>
      simp only[dT,bC,a7,List.cons.injEq,true_and]at g3
      rw[g3];simp[eI]
    ·cases h
   ·cases h
  ·rename_i hs;cases h
   exact⟨(bQ).symm,⟨hs,Ad s⟩,by simp[E.dp]⟩
theorem xd{s:List UInt8}{e:E}(h:pZ s=some e):s=eI e/\e.pr/\e.dp<=300/\s.length<=8000:=by
 unfold pZ at h
 split at h
 ·cases h
 ·rename_i hl
  split at h
  ·rename_i e' hr
   cases h
   have:=zD _ _ _ _ hr
   exact⟨by simpa using this.1,this.2.1,this.2.2,by omega⟩
  ·cases h
theorem yW{k:Nat}(h:k<10):eJ (aZ (48+k))=true:=by
 have:∀k:Fin 10,eJ (aZ (48+k.val))=true:=by decide
 exact this ⟨k,h⟩
theorem vH:∀(n k:Nat),k<n->(dd k).all eJ=true
 |0,k,h=>by omega
 |
  n+1,k,h=>by
  by_cases hk:k<10
  ·rw[ep hk,cI,yW hk];rfl
  ·rw[fw hk]
   have:=vH n (k/10) (by omega)
   rw[List.all_append,this,cI,yW (dW k (by omega:0<10))];rfl
theorem FJ(k:Nat):(E.atom (vZ k)).pr:=⟨by simp,by have:=vH (k+1) k (by omega);simp only[vZ,cI,this];decide⟩
theorem lS:∀v:Vl,v.dc.pr
 | .u=>⟨by simp,by decide⟩
 | .el k=>FJ k
 | .l v=>⟨by simp,⟨by simp,by decide⟩,lS v,trivial⟩
 | .r v=>⟨by simp,⟨by simp,by decide⟩,lS v,trivial⟩
 | .f v=>⟨by simp,⟨by simp,by decide⟩,lS v,trivial⟩
 | .p a b=>⟨by simp,⟨by simp,by decide⟩,lS a,lS b,trivial⟩
theorem oN:∀v:Vl,v.dc.dp<v.nodes+1
 | .u=>by simp[Vl.dc,E.dp,Vl.nodes]
 | .el k=>by simp[Vl.dc,E.dp,Vl.nodes]
 | .l v=>by have:=oN v;simp only[Vl.dc,E.dp,E.tG,Vl.nodes]at *;omega
 | .r v=>by have:=oN v;simp only[Vl.dc,E.dp,E.tG,Vl.nodes]at *;omega
 | .f v=>by have:=oN v;simp only[Vl.dc,E.dp,E.tG,Vl.nodes]at *;omega
 | .p a b=>by have:=oN a;have:=oN b;simp only[Vl.dc,E.dp,E.tG,Vl.nodes]at *;omega
theorem BB(k:Nat)(h:k<100):(dd k).length<=2:=by
 by_cases hk:k<10
 ·rw[ep hk];simp
 ·rw[fw hk,ep (by omega:k/10<10)];simp
theorem km:∀v:Vl,v.iq 100->v.dm.length<=5*v.nodes
 | .u,_=>by simp[Vl.dm,Vl.dc,eI,Vl.nodes]
 |
  .el k,h=>by
  have:=BB k h
  simp only[Vl.dm,Vl.dc,eI,Vl.nodes,aw];omega
 | .l v,h=>by have:=km v h;simp only[Vl.dm,Vl.dc,eI,dT,Vl.nodes,aw,an,aG]at this |-;omega
 | .r v,h=>by have:=km v h;simp only[Vl.dm,Vl.dc,eI,dT,Vl.nodes,aw,an,aG]at this |-;omega
 | .f v,h=>by have:=km v h;simp only[Vl.dm,Vl.dc,eI,dT,Vl.nodes,aw,an,aG]at this |-;omega
 | .p a b,h=>by have:=km a h.1;have:=km b h.2;simp only[Vl.dm,Vl.dc,eI,dT,Vl.nodes,aw,an,aG]at *;omega
theorem EF(k:Nat):vZ k≠[117]:=by simp[vZ]
theorem j1:∀v:Vl,v.iq 100->fq v.dc=some v
 | .u,_=>by simp[Vl.dc,fq]
 | .el k,h=>by simp only[Vl.dc,fq,EF,if_false,uE k h]
 | .l v,h=>by simp only[Vl.dc,fq,j1 v h,E.at];simp
 | .r v,h=>by simp only[Vl.dc,fq,j1 v h,E.at];simp
 | .f v,h=>by simp only[Vl.dc,fq,j1 v h,E.at];simp
 | .p a b,h=>by simp only[Vl.dc,fq,j1 a h.1,j1 b h.2,E.at];simp
theorem tx{v:Vl}(h:v.iq 100)(hn:v.nodes<=200):qy v.dm=some v:=by
 have hd:=oN v
 have hl:=km v h
 rw[qy,Fa (lS v) (by omega) (by show v.dm.length<=8000;omega)]
 simp only[j1 v h]
 rw[if_neg (by omega)]
theorem sG{v w:Vl}(h:v.iq 100)(h':w.iq 100)(ht:v.dm=w.dm):v=w:=by
 have:=yT (lS v) (lS w) ht
 have a:=j1 v h
 rw[this,j1 w h']at a;cases a;rfl
theorem mB{s:List UInt8}{v:Vl}(h:qy s=some v):s=v.dm:=(xd (jQ h).1).1
end Go.Proofs.Trees
namespace Go.Proofs.Trees
open Go Go.VL Go.RowKit
theorem cV(l:List E):(E.list l).at=[]:=rfl
def dS:Ty->Vl->Vl->Vl
 | .plus a _,.l c,v=>.l (dS a c v)
 | .plus _ b,.r c,v=>.r (dS b c v)
 | .times a _,.l (.p x y),v=>.p (dS a x v) y
 | .times _ b,.r (.p x y),v=>.p x (dS b y v)
 | .rc a,.f (.l x),v=>.f (dS a x v)
 | .rc a,.f (.r (.p x y)),v=>.f (dS a x (dS (.rc a) y v))
 |_,_,v=>v
def dy:Ty->Vl->Bool
 | .plus a _,.l c=>dy a c
 | .plus _ b,.r c=>dy b c
 | .times a _,.l (.p x _)=>dy a x
 | .times _ b,.r (.p _ y)=>dy b y
 | .rc a,.f (.l x)=>dy a x
 | .rc a,.f (.r (.p x y))=>dy a x&&dy (.rc a) y
 | .plus _ _,_=>false
 | .times _ _,_=>false
 | .rc _,_=>false
 |_,_=>true
theorem yo(c v:Vl):dS .zero c v=v:=by cases c<;>rfl
theorem Ap(c v:Vl):dS .one c v=v:=by cases c<;>rfl
theorem oL(s:List UInt8)(c v:Vl):dS (.name s) c v=v:=by cases c<;>rfl
theorem vk(u:Nat)(c v:Vl):dS (.bound u) c v=v:=by cases c<;>rfl
theorem A7{a b:Ty}{c:Vl}(h:dy (.plus a b) c=true):(∃x,c=.l x/\dy a x=true)\/∃x,c=.r x/\dy b x=true:=by
 cases c<;>simp[dy]at h<;>simp[h]
theorem yC{a b:Ty}{c:Vl}(h:dy (.times a b) c=true):(∃x y,c=.l (.p x y)/\dy a x=true)\/∃x y,c=.r (.p x y)/\dy b y=true:=by
 cases c with
 |l c=>cases c<;>simp[dy]at h<;>simp[h]
 |r c=>cases c<;>simp[dy]at h<;>exact .inr ⟨_,_,rfl,h⟩
 |_=>simp[dy]at h
theorem EI{a:Ty}{c:Vl}(h:dy (.rc a) c=true):(∃x,c=.f (.l x)/\dy a x=true)\/∃x y,c=.f (.r (.p x y))/\dy a x=true/\dy (.rc a) y=true:=by
 cases c with
 |
  f c =>
  cases c with
  |l c=>simp[dy]at h;simp[h]
  |r c=>cases c<;>simp[dy]at h<;>exact .inr ⟨_,_,rfl,h⟩
  |_=>simp[dy]at h
 |_=>simp[dy]at h
theorem vx(t:Ty)(c v:Vl):(dS t c v).nodes<=c.nodes+v.nodes:=by
 induction t,c,v using dS.induct<;>simp only[dS,Vl.nodes]at*<;> omega
theorem tR(m:Nat)(t:Ty)(c v:Vl):c.iq m->v.iq m->(dS t c v).iq m:=by
 induction t,c,v using dS.induct with
 |case1 a b c v ih=>exact fun h h'=>ih h h'
 |case2 a b c v ih=>exact fun h h'=>ih h h'
 |case3 a b x y v ih=>exact fun h h'=>⟨ih h.1 h',h.2⟩
 |case4 a b x y v ih=>exact fun h h'=>⟨h.1,ih h.2 h'⟩
 |case5 a x v ih=>exact fun h h'=>ih h h'
 |case6 a x y v ih1 ih2=>exact fun h h'=>ih2 h.1 (ih1 h.2 h')
 |case7=>intro h h';simpa only[dS]using h'
def LO:Hl:=(.u,.u)
end Go.Proofs.Trees
namespace Go.Proofs.Trees
open Go Go.VL Go.RowKit
theorem qY(s:Nm)(a b:E):aq Tryz.prog 54 [.agg [.v (.string (mk [])),(E.list [.atom s,a,b]).sp]] [] (bz (.v (.string (mk s)))):=vf (.atom s) [a,b]
theorem Hj{e:E}(h:Wf e):∀(bd l:List Nm) (a:AV),dG a bd->bd.length+l.length+e.sz<100000->aq Tryz.prog 98 [.agg [.v (.string (mk e.at)),e.sp],a,.vec 0] [.vec 1 (cg l)] (cY (.vec 1) [.dead,.vec 1 (cg (lD e bd l))]):=by
 induction h with
 |
  @atom s hs =>
  intro bd l a ha hl
  simp only[E.sz]at hl
  refine ym _ _ _ _ ((bb _).mpr trivial) ha.1 ?_
  have hll:(cg l).length=l.length:=by simp[cg]
  simp only[vW,eD,↓zq,zs,af,zt,cY,lD]
  refine⟨fun _=>⟨fun h=>?_,fun h=>⟨fun h1=>?_,fun h1=>?_⟩⟩,fun h=>absurd h hs⟩
  ·rw[if_pos (.inl h)]
  ·rw[if_pos (.inr (.inl h1))]
  ·refine ak (GI bd a ha s (by omega)) ?_
   simp only[↓zq,zs,af]
   refine⟨fun h2=>?_,fun h2=>ak (GI l _ (.of l) s (by omega)) ?_⟩
   ·rw[if_pos (.inr (.inr (.inl h2)))]
   ·simp only[↓zq,zs,af]
    refine⟨fun h3=>?_,fun h3=>⟨⟨fun c hc=>(by simp at hc;rw[hc];rfl),by omega⟩,?_⟩⟩
    ·rw[if_pos (.inr (.inr (.inr h3)))]
    ·rw[DO,if_neg]
     rintro(q|q|q|q)
     ·exact h q
     ·exact h1 q
     ·exact h2 q
     ·exact h3 q
 |
  @plus x y hx hy i1 i2 =>
  intro bd l a ha hl
  simp only[E.sz,E.je]at hl
  have hfl:=gW x bd l
  refine ym _ _ _ _ ((bb _).mpr trivial) ha.1 ?_
  have hP:=P3.of (.atom [43]) x y
  simp only[vW,cV,toNat_one,bq,↓zq,zs,af,zt,hP.1,hP.2.1,hP.2.2.1,hP.2.2.2,aP,cY]
  refine⟨fun h=>absurd rfl h,fun _=>?_⟩
  refine ak (qY [43] x y) ?_
  simp only[↓zq,zs,af,zt]
  refine⟨fun h=>by simp at h,fun _=>?_⟩
  repeat refine⟨by omega,?_⟩
  refine aY (i1 bd l a ha (by omega)) ?_
  simp only[↓zq,zs,af,zt,aX,bK,Ob.es]
  repeat refine⟨by omega,?_⟩
  refine aY (i2 bd (lD x bd l) a ha (by omega)) ?_
  simp only[↓zq,zs,af,zt,aX,bK,Ob.es]
  rw[lD,if_neg (by decide)]
 |
  @times x y hx hy i1 i2 =>
  intro bd l a ha hl
  simp only[E.sz,E.je]at hl
  have hfl:=gW x bd l
  refine ym _ _ _ _ ((bb _).mpr trivial) ha.1 ?_
  have hP:=P3.of (.atom [42]) x y
  simp only[vW,cV,toNat_one,bq,↓zq,zs,af,zt,hP.1,hP.2.1,hP.2.2.1,hP.2.2.2,aP,cY]
  refine⟨fun h=>absurd rfl h,fun _=>?_⟩
  refine ak (qY [42] x y) ?_
  simp only[↓zq,zs,af,zt]
  refine⟨fun h=>by simp at h,fun _=>?_⟩
  repeat refine⟨by omega,?_⟩
  refine aY (i1 bd l a ha (by omega)) ?_
  simp only[↓zq,zs,af,zt,aX,bK,Ob.es]
  repeat refine⟨by omega,?_⟩
  refine aY (i2 bd (lD x bd l) a ha (by omega)) ?_
  simp only[↓zq,zs,af,zt,aX,bK,Ob.es]
  rw[lD,if_neg (by decide)]
 |
  @rc n y hn hy i =>
  intro bd l a ha hl
  simp only[E.sz,E.je]at hl
  refine ym _ _ _ _ ((bb _).mpr trivial) ha.1 ?_
  have hP:=P3.of (.atom gX) (.atom n) y
  simp only[vW,cV,toNat_one,bq,↓zq,zs,af,zt,hP.1,hP.2.1,hP.2.2.1,hP.2.2.2,aP,cY]
  refine⟨fun h=>absurd rfl h,fun _=>?_⟩
  refine ak (qY gX (.atom n) y) ?_
  simp only[↓zq,zs,af,zt]
  refine⟨fun _=>?_,fun h=>absurd rfl h⟩
  repeat refine⟨by omega,?_⟩
  refine aY (GH bd a ha n (by omega)) ?_
  simp only[↓zq,zs,af,Ob.es,aX]
  refine⟨ir _,?_⟩
  refine aY (i (bd++[n]) l _ (.of _) (by simp;omega)) ?_
  simp only[↓zq,zs,af,aX,bK,Ob.es]
  rw[lD,if_pos (eD _)];rfl
theorem Mz(x:Nm)(u:E){e:E}(h:Wf e):aq Tryz.prog 176 [.agg [.v (.string (mk e.at)),e.sp],.v (.string (mk x)),.agg [.v (.string (mk u.at)),u.sp]] [] (bz (.agg [.v (.string (mk (qU x u e).at)),(qU x u e).sp])):=by
 induction h with
 |
  @atom s hs =>
  refine Cy _ _ _ _ _ ((bb _).mpr trivial) ((bb _).mpr trivial) ?_
  simp only[A6,eD,↓zq,zs,af,zt,bz,qU]
  refine⟨fun _=>⟨fun h=>?_,fun h=>?_⟩,fun h=>absurd h hs⟩
  ·rw[if_pos h]
  ·rw[if_neg h];rfl
 |
  @plus a b ha hb i1 i2 =>
  refine Cy _ _ _ _ _ ((bb _).mpr trivial) ((bb _).mpr trivial) ?_
  have hP:=P3.of (.atom [43]) a b
  simp only[A6,cV,toNat_one,bq,↓zq,zs,af,zt,hP.1,hP.2.1,hP.2.2.1,hP.2.2.2,aP]
  refine⟨fun h=>absurd rfl h,fun _=>?_⟩
  refine ak (qY [43] a b) ?_
  simp only[↓zq,zs,af,zt]
  refine⟨fun h=>by simp at h,fun _=>?_⟩
  refine ak (qY [43] a b) ?_
  simp only[↓zq,zs,af,zt]
  repeat refine⟨by omega,?_⟩
  refine ak i1 ?_
  simp only[↓zq,zs,af,zt,aP]
  repeat refine⟨by omega,?_⟩
  refine ak i2 ?_
  simp only[↓zq,zs,af,zt,aP]
  repeat refine⟨by omega,?_⟩
  refine ak (Bj _ _ _) ?_
  simp only[↓zq,zs,af,zt,aP,ua,cV]
  repeat refine⟨by omega,?_⟩
  exact⟨rfl,rfl⟩
 |
  @times a b ha hb i1 i2 =>
  refine Cy _ _ _ _ _ ((bb _).mpr trivial) ((bb _).mpr trivial) ?_
  have hP:=P3.of (.atom [42]) a b
  simp only[A6,cV,toNat_one,bq,↓zq,zs,af,zt,hP.1,hP.2.1,hP.2.2.1,hP.2.2.2,aP]
  refine⟨fun h=>absurd rfl h,fun _=>?_⟩
  refine ak (qY [42] a b) ?_
  simp only[↓zq,zs,af,zt]
  refine⟨fun h=>by simp at h,fun _=>?_⟩
  refine ak (qY [42] a b) ?_
  simp only[↓zq,zs,af,zt]
  repeat refine⟨by omega,?_⟩
  refine ak i1 ?_
  simp only[↓zq,zs,af,zt,aP]
  repeat refine⟨by omega,?_⟩
  refine ak i2 ?_
  simp only[↓zq,zs,af,zt,aP]
  repeat refine⟨by omega,?_⟩
  refine ak (Bj _ _ _) ?_
  simp only[↓zq,zs,af,zt,aP,rI,cV]
  repeat refine⟨by omega,?_⟩
  exact⟨rfl,rfl⟩
 |
  @rc n b hn hb i =>
  refine Cy _ _ _ _ _ ((bb _).mpr trivial) ((bb _).mpr trivial) ?_
  have hP:=P3.of (.atom gX) (.atom n) b
  simp only[A6,cV,toNat_one,bq,↓zq,zs,af,zt,hP.1,hP.2.1,hP.2.2.1,hP.2.2.2,aP]
  refine⟨fun h=>absurd rfl h,fun _=>?_⟩
  refine ak (qY gX (.atom n) b) ?_
  simp only[↓zq,zs,af,zt]
  refine⟨fun _=>?_,fun h=>absurd rfl h⟩
  repeat refine⟨by omega,?_⟩
  rw[zS]
  refine⟨fun h=>?_,fun h=>?_⟩
  ·have hh:n=x:=h
   rw[if_pos hh];exact⟨rfl,rfl⟩
  ·have hh:¬n=x:=h
   rw[if_neg hh]
   repeat refine⟨by omega,?_⟩
   refine ak i ?_
   simp only[↓zq,zs,af,zt,aP]
   repeat refine⟨by omega,?_⟩
   refine ak (Bj gX (.atom n) (qU x u b)) ?_
   simp only[↓zq,zs,af,zt,aP,cV]
   repeat refine⟨by omega,?_⟩
   exact⟨rfl,rfl⟩
theorem qT(x:Nm){e:E}(h:Wf e):mA x e<=e.en:=by
 induction h with
 |atom hs=>simp only[mA,E.en];split<;>omega
 |plus ha hb i1 i2=>rw[qL];simp only[E.en,E.fp];omega
 |times ha hb i1 i2=>rw[oG];simp only[E.en,E.fp];omega
 |rc hn hb i=>rw[wb];simp only[E.en,E.fp];split<;>omega
theorem MA(x:Nm){e:E}(h:Wf e):e.en<1000000->aq Tryz.prog 175 [.agg [.v (.string (mk e.at)),e.sp],.v (.string (mk x))] [] (bz (.v (.int .i64 (mA x e:Int)))):=by
 induction h with
 |
  @atom s hs =>
  intro hl
  refine Cl _ _ _ ((bb _).mpr trivial) ?_
  simp only[zk,eD,↓zq,zs,af,zt,bz,mA]
  refine⟨fun _=>⟨fun h=>?_,fun h=>?_⟩,fun h=>absurd h hs⟩
  ·rw[if_pos h];rfl
  ·rw[if_neg h];rfl
 |
  @plus a b ha hb i1 i2 =>
  intro hl
  simp only[E.en,E.fp]at hl
  have u1:=qT x ha
  have u2:=qT x hb
  refine Cl _ _ _ ((bb _).mpr trivial) ?_
  have hP:=P3.of (.atom [43]) a b
  simp only[zk,cV,toNat_one,bq,↓zq,zs,af,zt,hP.1,hP.2.1,hP.2.2.1,hP.2.2.2,aP]
  refine⟨fun h=>absurd rfl h,fun _=>?_⟩
  refine ak (qY [43] a b) ?_
  simp only[↓zq,zs,af,zt]
  refine⟨fun h=>by simp at h,fun _=>?_⟩
  repeat refine⟨by omega,?_⟩
  refine ak (i1 (by omega)) ?_
  simp only[↓zq,zs,af,zt]
  repeat refine⟨by omega,?_⟩
  refine ak (i2 (by omega)) ?_
  simp only[↓zq,zs,af,zt]
  rw[qL,wrap64 _ (by omega) (by omega)]
  exact⟨by simp,rfl⟩
 |
  @times a b ha hb i1 i2 =>
  intro hl
  simp only[E.en,E.fp]at hl
  have u1:=qT x ha
  have u2:=qT x hb
  refine Cl _ _ _ ((bb _).mpr trivial) ?_
  have hP:=P3.of (.atom [42]) a b
  simp only[zk,cV,toNat_one,bq,↓zq,zs,af,zt,hP.1,hP.2.1,hP.2.2.1,hP.2.2.2,aP]
  refine⟨fun h=>absurd rfl h,fun _=>?_⟩
  refine ak (qY [42] a b) ?_
  simp only[↓zq,zs,af,zt]
  refine⟨fun h=>by simp at h,fun _=>?_⟩
  repeat refine⟨by omega,?_⟩
  refine ak (i1 (by omega)) ?_
  simp only[↓zq,zs,af,zt]
  repeat refine⟨by omega,?_⟩
  refine ak (i2 (by omega)) ?_
  simp only[↓zq,zs,af,zt]
  rw[oG,wrap64 _ (by omega) (by omega)]
  exact⟨by simp,rfl⟩
 |
  @rc n b hn hb i =>
  intro hl
  simp only[E.en,E.fp]at hl
  refine Cl _ _ _ ((bb _).mpr trivial) ?_
  have hP:=P3.of (.atom gX) (.atom n) b
  simp only[zk,cV,toNat_one,bq,↓zq,zs,af,zt,hP.1,hP.2.1,hP.2.2.1,hP.2.2.2,aP]
  refine⟨fun h=>absurd rfl h,fun _=>?_⟩
  refine ak (qY gX (.atom n) b) ?_
  simp only[↓zq,zs,af,zt]
  refine⟨fun _=>?_,fun h=>absurd rfl h⟩
  repeat refine⟨by omega,?_⟩
  rw[wb]
  refine⟨fun h=>?_,fun h=>?_⟩
  ·have hh:n=x:=h
   rw[if_pos hh];exact⟨rfl,rfl⟩
  ·have hh:¬n=x:=h
   rw[if_neg hh]
   repeat refine⟨by omega,?_⟩
   refine ak (i (by omega)) ?_
   simp only[↓zq,zs,af,zt]
   exact⟨rfl,rfl⟩
theorem Pa{x:Nm}(hx:tO x){e u:E}(h:Wf e)(hu:Wf u)(hl:e.en<=1000)(hlu:u.en<=1000):aq Tryz.prog 156 [.agg [.v (.string (mk e.at)),e.sp],.v (.string (mk x)),.agg [.v (.string (mk u.at)),u.sp]] [] (bz (.v (.bool (decide ((sub x (ew u []) (ew e [])).atoms<=400))))):=by
 refine Nz _ _ _ _ _ ((bb _).mpr trivial) ((bb _).mpr trivial) ?_
 unfold JS
 have a1:=Lg e h.ok (by have:=h.sz;omega)
 have a2:=Lg u hu.ok (by have:=hu.sz;omega)
 rw[ei]at a1 a2
 have hle:=qT x h
 have hpos:1<=u.en:=by rw[hu.en []];exact fQ _
 refine ak a1 ?_
 simp only[↓zq,zs,af,zt]
 refine ak (MA x h (by omega)) ?_
 simp only[↓zq,zs,af,zt]
 refine ak a2 ?_
 simp only[↓zq,zs,af,zt]
 have e1:=dJ x (ew u []) (ew e [])
 have e2:=CI hx h []
 rw[if_neg (by simp)]at e2
 rw[e2,<-h.en [],<-hu.en []]at e1
 have hm:mA x e*(u.en-1)<=1000*1000:=Nat.mul_le_mul (by omega) (by omega)
 have e3:(mA x e:Int)*((u.en:Int)-1)=((mA x e*(u.en-1):Nat):Int):=by
  rw[Int.natCast_mul];congr 1;omega
 have e4:mA x e*(u.en-1)+mA x e=mA x e*u.en:=by
  rw[Nat.mul_sub,dQ]
  have:=Nat.le_mul_of_pos_right (mA x e) hpos
  omega
 rw[wrap64 ((u.en:Int)-1) (by omega) (by omega),e3,wrap64 ((mA x e*(u.en-1):Nat):Int) (by omega) (by omega),wrap64 _ (by omega) (by omega)]
 refine⟨?_,rfl⟩
 congr 2
 rw[cr,decide_eq_true_eq,decide_eq_true_eq]
 omega
end Go.Proofs.Trees
namespace Go.Proofs.Trees
open Go Go.VL Go.RowKit
abbrev Ig:AV:=.v (.slice none 0 0)
abbrev zE:Ob:=.cells [.v (.string (mk [])),Ig]
theorem Jx(s:Nm)(p a b:AV)(hp:LK.sl.has p)(F fr to:List Nm)(k:Int)(ha:dG a fr)(hb:dG b to)(hft:fr.length=to.length)(hl:fr.length<1000000):∀(i:Nat),i<=fr.length ->
 GB [a,b,.v (.int .i64 ((i:Int)-1))] [.cells [.v (.string (mk s)),p],zE,.cells [.any,.v (.int .i64 k)],.vec 1 (cg F)]
  (rm (match bH s fr i with|some u=>(2,[],[.cells [.v (.string (mk (gj to u))),Ig],.cells [.any,.v (.int .i64 k)],.vec 1 (cg F)])|none=>(1,[],[.cells [.v (.string (mk s)),p],zE,.cells [.any,.v (.int .i64 k)],.vec 1 (cg F)])))
 |
  0,hi=>by
  refine Hi _ _ _ _ _ _ _ _ _ ?_
  simp only[FE,↓zq,zs,af,af,hp,bp]
  exact⟨ha.1,hb.1,fun h=>by omega,fun _=>rfl⟩
 |
  i+1,hi=>by
  have hlt:i<fr.length:=by omega
  have hlt':i<to.length:=by omega
  have e1:((i+1:Nat):Int)-1=(i:Int):=by omega
  rw[e1]
  refine Hi _ _ _ _ _ _ _ _ _ ?_
  simp only[FE,↓zq,zs,af,zt,af,hp,bp,ha.len,hb.len,ha.idx hlt,hb.idx hlt',bW]
  refine⟨ha.1,hb.1,fun _=>⟨⟨ha.1,by omega,by omega⟩,by omega,fun h=>?_,fun h=>?_⟩,fun h=>by omega⟩
  ·refine⟨⟨hb.1,by omega,by omega⟩,by omega,?_⟩
   have hh:fr.getD i []=s:=h
   simp only[bH,hh,if_true,rm]
   have:gj to (fr.length-1-i)=to.getD i []:=by unfold gj;congr 1;omega
   rw[this]
  ·have hh:¬fr.getD i []=s:=h
   simp only[bH,hh,if_false]
   rw[wrap64 _ (by omega) (by omega)]
   exact Jx s p a b hp F fr to k ha hb hft hl i (by omega)
theorem HR(a b:AV)(ha:LK.sl.has a)(hb:LK.sl.has b)(F:List Nm)(hF:F.length<100000)(t:ByteArray)(p:AV)(hp:LK.sl.has p):∀(n j:Nat),re F n j<j+n->j+n<100000000 ->
 DE [a,b,.v (.string (mk (tN j)))] [.cells [.any,.v (.int .i64 (j:Int))],.vec 1 (cg F),.cells [.v (.string t),p],zE] (hZ 1 [a,b,.v (.string (mk (tN (re F n j))))] [.cells [.any,.v (.int .i64 (re F n j:Int))],.vec 1 (cg F),.cells [.v (.string t),p],zE])
 |0,j,h,_=>by simp only[re]at h;omega
 |
  n+1,j,h,hj=>by
  refine MT _ _ _ _ _ _ _ _ _ ?_
  simp only[JV,↓zq,zs,af,zt,af,hp,bp]
  refine⟨ha,hb,?_⟩
  refine ak (GI F _ (.of F) (tN j) (by omega)) ?_
  simp only[↓zq,zs,af,zt]
  rw[re]at h |-
  refine⟨fun hm=>?_,fun hm=>?_⟩
  ·rw[if_pos hm]at h |-
   rw[bw j (by omega)]
   refine ak (BJ (j+2) (j+1) (by omega) (by omega)) ?_
   have hd:=oE (j+2) (j+1) (by omega)
   simp only[↓zq,zs,af,zt,bC,ba]
   refine⟨by simp[cU];omega,?_⟩
   exact HR a b ha hb F hF t p hp n (j+1) (by omega) (by omega)
  ·rw[if_neg hm]
   exact⟨rfl,rfl,rfl⟩
theorem jd(F:List Nm):∀(t:Ty) (to:List Nm) (k:Nat),k<=(i7 F t to k).2/\(i7 F t to k).2<=k+(F.length+1)*t.atoms
 | .zero,_,k=>⟨az _,cJ _ _⟩
 | .one,_,k=>⟨az _,cJ _ _⟩
 | .name _,_,k=>⟨az _,cJ _ _⟩
 | .bound _,_,k=>⟨az _,cJ _ _⟩
 |
  .plus a b,to,k=>by
  have h1:=jd F a to k
  have h2:=jd F b to (i7 F a to k).2
  simp only[i7,Ty.atoms]
  have:(F.length+1)*(1+a.atoms+b.atoms)=(F.length+1)+(F.length+1)*a.atoms+(F.length+1)*b.atoms:=by simp only[cX,dQ]
  omega
 |
  .times a b,to,k=>by
  have h1:=jd F a to k
  have h2:=jd F b to (i7 F a to k).2
  simp only[i7,Ty.atoms]
  have:(F.length+1)*(1+a.atoms+b.atoms)=(F.length+1)+(F.length+1)*a.atoms+(F.length+1)*b.atoms:=by simp only[cX,dQ]
  omega
 |
  .rc a,to,k=>by
  obtain⟨g1,g2,_,_⟩:=kX F k
  have h1:=jd F a (to++[tN (nx F k)]) (nx F k+1)
  simp only[i7,Ty.atoms]
  have:(F.length+1)*(2+a.atoms)=(F.length+1)*2+(F.length+1)*a.atoms:=by simp only[cX]
  omega
theorem pz(l:List Nm):(cg l).length=l.length:=by simp[cg]
theorem MN(F:List Nm)(hF:F.length<10000){e:E}(h:Wf e):∀(fr to:List Nm) (a b:AV) (k:Nat),dG a fr->dG b to->fr.length=to.length->(∀w,w∈fr->tO w)->fr.length+e.sz<10000->k+(F.length+1)*(ew e fr).atoms<99000000 ->
 aq Tryz.prog 137 [.agg [.v (.string (mk e.at)),e.sp],a,b,.ref 0 0] [.cells [.vec 1,.v (.int .i64 (k:Int))],.vec 1 (cg F)] (cY (.agg [.v (.string (mk (i7 F (ew e fr) to k).1.at)),(i7 F (ew e fr) to k).1.sp]) [.cells [.vec 1,.v (.int .i64 ((i7 F (ew e fr) to k).2:Int))],.vec 1 (cg F)]):=by
 induction h with
 |
  @atom s hs =>
  intro fr to a b k ha hb hft hfr hl hk
  simp only[E.sz]at hl
  refine Cc _ _ _ _ _ _ ((bb _).mpr trivial) ha.1 hb.1 ?_
  have hz:∀c,(c=[48]\/c=[49])->bH c fr fr.length=none:=fun c hc=>(fG c fr).2 fun hm=>by
   obtain⟨h1,h2,h3⟩:=hfr c hm
   rcases hc with rfl|rfl
   ·exact h2 rfl
   ·exact h3 rfl
  have hq:i7 F (ew (.atom s) fr) to k=(match bH s fr fr.length with|some u=>.atom (gj to u)|none=>.atom s,k):=by
   simp only[ew]
   by_cases h0:s=[48]
   ·rw[if_pos h0,hz s (.inl h0),h0];rfl
   ·rw[if_neg h0]
    by_cases h1:s=[49]
    ·rw[if_pos h1,hz s (.inr h1),h1];rfl
    ·rw[if_neg h1]
     cases bH s fr fr.length<;>rfl
  simp only[A4,eD,↓zq,zs,af,zt]
  refine⟨fun _=>⟨ha.1,?_⟩,fun h=>absurd h hs⟩
  rw[ha.len,wrap64 _ (by omega) (by omega)]
  refine iX (Jx s _ a b ((bb _).mpr trivial) F fr to (k:Int) ha hb hft (by omega) fr.length (az _)) (fun ys o e=>?_) (fun ys o e=>?_)
  ·rw[hq]
   cases q:bH s fr fr.length<;>rw[q]at e<;>cases e
   simp only[↓zq,zs,af,zt,af,aM,bp,bb]
   exact⟨rfl,rfl⟩
  ·rw[hq]
   cases q:bH s fr fr.length<;>rw[q]at e<;>cases e
   simp only[↓zq,zs,af,zt,af,aM,bp]
   exact⟨rfl,rfl⟩
 |
  @plus x y hx hy i1 i2 =>
  intro fr to a b k ha hb hft hfr hl hk
  simp only[E.sz,E.je]at hl
  rw[ff]at hk |-
  simp only[Ty.atoms]at hk
  have hm:(F.length+1)*(1+(ew x fr).atoms+(ew y fr).atoms)=(F.length+1)+(F.length+1)*(ew x fr).atoms+(F.length+1)*(ew y fr).atoms:=by simp only[cX,dQ]
  have hc:=jd F (ew x fr) to k
  refine Cc _ _ _ _ _ _ ((bb _).mpr trivial) ha.1 hb.1 ?_
  have hP:=P3.of (.atom [43]) x y
  simp only[A4,cV,toNat_one,bq,↓zq,zs,af,zt,hP.1,hP.2.1,hP.2.2.1,hP.2.2.2,aP]
  refine⟨fun h=>absurd rfl h,fun _=>?_⟩
  refine ak (qY [43] x y) ?_
  simp only[↓zq,zs,af,zt]
  refine⟨fun h=>by simp at h,fun _=>?_⟩
  repeat refine⟨by omega,?_⟩
  refine aY (i1 fr to a b k ha hb hft hfr (by omega) (by omega)) ?_
  simp only[↓zq,zs,af,zt,aM,aP,aX,bK,Ob.es]
  repeat refine⟨by omega,?_⟩
  refine ak (qY [43] x y) ?_
  simp only[↓zq,zs,af,zt]
  repeat refine⟨by omega,?_⟩
  refine aY (i2 fr to a b _ ha hb hft hfr (by omega) (by omega)) ?_
  simp only[↓zq,zs,af,zt,aM,aP,aX,bK,Ob.es]
  repeat refine⟨by omega,?_⟩
  refine ak (Bj _ _ _) ?_
  simp only[↓zq,zs,af,zt,aP,cV]
  repeat refine⟨by omega,?_⟩
  exact⟨rfl,rfl⟩
 |
  @times x y hx hy i1 i2 =>
  intro fr to a b k ha hb hft hfr hl hk
  simp only[E.sz,E.je]at hl
  rw[eA]at hk |-
  simp only[Ty.atoms]at hk
  have hm:(F.length+1)*(1+(ew x fr).atoms+(ew y fr).atoms)=(F.length+1)+(F.length+1)*(ew x fr).atoms+(F.length+1)*(ew y fr).atoms:=by simp only[cX,dQ]
  have hc:=jd F (ew x fr) to k
  refine Cc _ _ _ _ _ _ ((bb _).mpr trivial) ha.1 hb.1 ?_
  have hP:=P3.of (.atom [42]) x y
  simp only[A4,cV,toNat_one,bq,↓zq,zs,af,zt,hP.1,hP.2.1,hP.2.2.1,hP.2.2.2,aP]
  refine⟨fun h=>absurd rfl h,fun _=>?_⟩
  refine ak (qY [42] x y) ?_
  simp only[↓zq,zs,af,zt]
  refine⟨fun h=>by simp at h,fun _=>?_⟩
  repeat refine⟨by omega,?_⟩
  refine aY (i1 fr to a b k ha hb hft hfr (by omega) (by omega)) ?_
  simp only[↓zq,zs,af,zt,aM,aP,aX,bK,Ob.es]
  repeat refine⟨by omega,?_⟩
  refine ak (qY [42] x y) ?_
  simp only[↓zq,zs,af,zt]
  repeat refine⟨by omega,?_⟩
  refine aY (i2 fr to a b _ ha hb hft hfr (by omega) (by omega)) ?_
  simp only[↓zq,zs,af,zt,aM,aP,aX,bK,Ob.es]
  repeat refine⟨by omega,?_⟩
  refine ak (Bj _ _ _) ?_
  simp only[↓zq,zs,af,zt,aP,cV]
  repeat refine⟨by omega,?_⟩
  exact⟨rfl,rfl⟩
 |
  @rc n y hn hy i =>
  intro fr to a b k ha hb hft hfr hl hk
  simp only[E.sz,E.je]at hl
  rw[jb]at hk |-
  simp only[Ty.atoms,eD]at hk
  have hm:(F.length+1)*(2+(ew y (fr++[n])).atoms)=(F.length+1)*2+(F.length+1)*(ew y (fr++[n])).atoms:=by simp only[cX]
  have hc:=jd F (ew y (fr++[n])) (to++[tN (nx F k)]) (nx F k+1)
  obtain⟨g1,g2,_,_⟩:=kX F k
  refine Cc _ _ _ _ _ _ ((bb _).mpr trivial) ha.1 hb.1 ?_
  have hP:=P3.of (.atom gX) (.atom n) y
  simp only[A4,cV,toNat_one,bq,↓zq,zs,af,zt,hP.1,hP.2.1,hP.2.2.1,hP.2.2.2,aP]
  refine⟨fun h=>absurd rfl h,fun _=>?_⟩
  refine ak (qY gX (.atom n) y) ?_
  simp only[↓zq,zs,af,zt]
  refine⟨fun _=>?_,fun h=>absurd rfl h⟩
  refine ak (BJ (k+1) k (by omega) (by omega)) ?_
  have hd:=oE (k+1) k (by omega)
  simp only[↓zq,zs,af,zt,bC,ba]
  refine⟨by simp[cU];omega,?_⟩
  refine cm (HR a b ha.1 hb.1 F (by omega) (mk []) _ ((bb _).mpr trivial) (F.length+1) k (by show nx F k<_;omega) (by omega)) ?_
  simp only[↓zq,zs,af,zt,af,aM,bp,bb,ha.1,hb.1,hP.1,hP.2.1,hP.2.2.1,hP.2.2.2,toNat_one,bq,aP]
  repeat refine⟨by omega,?_⟩
  have hnx:re F (F.length+1) k=nx F k:=rfl
  rw[hnx]
  refine aY (GH fr a ha n (by omega)) ?_
  simp only[↓zq,zs,af,zt,Ob.es,aX]
  refine⟨ir _,?_⟩
  refine aY (GH to b hb (tN (nx F k)) (by omega)) ?_
  simp only[↓zq,zs,af,zt,Ob.es,aX]
  refine⟨ir _,?_⟩
  rw[bw (nx F k) (by omega)]
  have hmk:=Bj gX (.atom (tN (nx F k))) (i7 F (ew y (fr++[n])) (to++[tN (nx F k)]) (nx F k+1)).1
  simp only[eD]at hmk
  refine aY (i (fr++[n]) (to++[tN (nx F k)]) _ _ (nx F k+1) (.of _) (.of _) (by simp[hft]) (fun w hw=>by
   rcases aK.1 hw with hw|hw
   ·exact hfr w hw
   ·simp only[aR]at hw;rw[hw];exact hn) (by simp;omega) (by omega)) ?_
  simp only[↓zq,zs,af,zt,aM,aP,aX,bK,Ob.es]
  repeat refine⟨by omega,?_⟩
  refine ak hmk ?_
  simp only[↓zq,zs,af,zt,aP,cV]
  repeat refine⟨by omega,?_⟩
  exact⟨rfl,rfl⟩
theorem vB(l r:List Nm):cg (l++r)=cg l++cg r:=by simp[cg]
def rh(os:List E):List Nm:=os.flatMap fun o=>lD o [] []
theorem uN{os:List E}{i:Nat}(h:i<os.length):(E.bf os).getD i []=[.v (.string (mk (os[i]).at)),(os[i]).sp]:=by
 have:∀(os:List E) (i:Nat) (h:i<os.length),(E.bf os).getD i []=(os[i]).gR:=by
  intro os
  induction os with
  |nil=>intro i h;simp at h
  |
   cons o os ih =>
   intro i h
   cases i with
   |zero=>simp[E.bf]
   |succ i=>simpa[E.bf]using ih i (by simpa using h)
 rw[this os i h,iD]
theorem yA(os:List E){i:Nat}(h:i<os.length):rh (os.drop i)=lD (os[i]) [] []++rh (os.drop (i+1)):=by
 unfold rh;rw[aV h,List.flatMap_cons]
theorem HA(a:AV)(os:List E)(ha:LK.sl.has a/\a.elems=E.bf os)(ho:∀o,o∈os->Wf o/\o.sz<5000)(hl:os.length<100)(t:ByteArray)(p:AV)(hp:LK.sl.has p):∀(k i:Nat) (F:List Nm),i+k=os.length->F.length<=5000+5000*i ->
 GC [a,.v (.int .i64 (i:Int))] [.cells [.v (.string t),p],zE,.vec 1 (cg F)] (hZ 1 [] [.cells [.v (.string t),p],zE,.vec 1 (cg (F++rh (os.drop i)))])
 |
  0,i,F,hi,hF=>by
  refine GS _ _ _ _ _ _ _ ?_
  have:i=os.length:=by omega
  subst this
  simp only[D2,↓zq,zs,af,zt,af,hp,bp,ha.1,ha.2,dN,List.drop_length]
  exact⟨fun h=>by omega,fun _=>by simp[hZ,rh]⟩
 |
  k+1,i,F,hi,hF=>by
  have hlt:i<os.length:=by omega
  obtain⟨hw,hsz⟩:=ho _ (bJ hlt)
  have hfl:=gW (os[i]) [] []
  refine GS _ _ _ _ _ _ _ ?_
  simp only[D2,↓zq,zs,af,zt,af,hp,bp,ha.1,ha.2,dN,uN hlt,aP,bW]
  refine⟨fun _=>?_,fun h=>by omega⟩
  repeat refine⟨by omega,?_⟩
  have hfre:=Hj hw [] [] (.sl []) (.of []) (by simp;omega)
  refine aY hfre ?_
  simp only[↓zq,zs,af,zt,aX,bK,Ob.es,pz,<-vB]
  rw[bw i (by omega),yA os hlt,<-a7]
  simp only[aG,aS]at hfl
  refine⟨⟨j2 _,by omega⟩,?_⟩
  exact HA a os ha ho hl t p hp k (i+1) _ (by omega) (by simp;omega)
def Fx(e:E)(os:List E):List Nm:=lD e [] []++rh os
def Du(e:E)(os:List E):E:=(i7 (Fx e os) (ew e []) [] 0).1
theorem Bm{e:E}{os:List E}(h:e.sz<=2000)(ho:∀o,o∈os->Wf o/\o.sz<=2000)(hl:os.length<=2):(Fx e os).length<=6000:=by
 have h1:=gW e [] []
 have h2:∀(l:List E),(∀o,o∈l->o.sz<=2000)->(rh l).length<=2000*l.length:=by
  intro l
  induction l with
  |nil=>intro _;simp[rh]
  |
   cons o l ih =>
   intro hl
   have:=ih fun q hq=>hl q (al _ hq)
   have:=hl o ai
   have:=gW o [] []
   simp only[rh,List.flatMap_cons,an,aw,aG]at *
   omega
 have:=h2 os fun o ho'=>(ho o ho').2
 simp only[Fx,an,aG]at *
 omega
theorem Jc{e:E}(h:Wf e)(a:AV)(os:List E)(ha:LK.sl.has a/\a.elems=E.bf os)(he:e.sz<=2000)(ho:∀o,o∈os->Wf o/\o.sz<=2000)(hl:os.length<=2) :
 aq Tryz.prog 96 [.agg [.v (.string (mk e.at)),e.sp],a] [] (bz (.agg [.v (.string (mk (Du e os).at)),(Du e os).sp])):=by
 refine Nl _ _ _ ((bb _).mpr trivial) ha.1 ?_
 unfold Io
 have hfl:=gW e [] []
 simp only[aG,aS]at hfl
 have hap:=Bm he ho hl
 have hats:(ew e []).atoms<=2000:=by
  rw[<-h.en []]
  have:e.en<=e.sz:=by
   clear hap hfl ha he ho hl
   induction h with
   |atom _=>simp[E.en,E.sz]
   |plus _ _ i1 i2=>simp only[E.en,E.fp,E.sz,E.je];omega
   |times _ _ i1 i2=>simp only[E.en,E.fp,E.sz,E.je];omega
   |rc _ _ i=>simp only[E.en,E.fp,E.sz,E.je];omega
  omega
 have hfre:=Hj h [] [] (.sl []) (.of []) (by simp;omega)
 simp only[↓zq,zs,af,zt]
 refine aY hfre ?_
 simp only[↓zq,zs,af,zt,aX,bK,Ob.es]
 have hlp:=HA a os ha (fun o hq=>⟨(ho o hq).1,by have:=(ho o hq).2;omega⟩) (by omega) (mk e.at) e.sp ((bb _).mpr trivial) os.length 0 (lD e [] []) (by omega) (by omega)
 rw[bj]at hlp
 refine cm hlp ?_
 simp only[↓zq,zs,af,zt,af,aM,bp,bb,aX,bK,Ob.es]
 have hmul:((Fx e os).length+1)*(ew e []).atoms<=6001*2000:=Nat.mul_le_mul (by omega) hats
 have hren:=MN (Fx e os) (by omega) h [] [] (.sl []) (.sl []) 0 (.of []) (.of []) rfl (fun w hw=>by cases hw) (by simp;omega) (by omega)
 refine aY hren ?_
 simp only[↓zq,zs,af,zt,aM,aP]
 repeat refine⟨by omega,?_⟩
 exact⟨rfl,rfl⟩
end Go.Proofs.Trees
namespace Go.Proofs.Trees
open Go Go.VL Go.RowKit
def ia(t:Ty):Prop:=jU t 0/\∀y,bg y t=true->tO y
theorem gd:∀(t:Ty) {i j:Nat},jU t i->i<=j->jU t j
 | .bound u,i,j,h,hj=>cR h hj
 | .plus a b,i,j,h,hj=>⟨gd a h.1 hj,gd b h.2 hj⟩
 | .times a b,i,j,h,hj=>⟨gd a h.1 hj,gd b h.2 hj⟩
 | .rc a,i,j,h,hj=>gd (i:=i+1) (j:=j+1) a h (by omega)
 | .zero,_,_,_,_=>trivial
 | .one,_,_,_,_=>trivial
 | .name _,_,_,_,_=>trivial
theorem iE(x:Nm):∀(t:Ty) {i:Nat},jU t (i+1)->jU (dM (.name x) t i) i
 |
  .bound u,i,h=>by
  simp only[dM]
  split
  ·trivial
  ·have:u<i+1:=h
   show u<i;omega
 | .plus a b,i,h=>⟨iE x a h.1,iE x b h.2⟩
 | .times a b,i,h=>⟨iE x a h.1,iE x b h.2⟩
 | .rc a,i,h=>iE x (i:=i+1) a h
 | .zero,_,_=>trivial
 | .one,_,_=>trivial
 | .name _,_,_=>trivial
theorem kh{x:Nm}{u:Ty}(hu:jU u 0):∀(t:Ty) {i:Nat},jU t i->jU (sub x u t) i
 | .name s,i,_=>by simp only[sub];split;exact gd u hu (dA _);trivial
 | .plus a b,i,h=>⟨kh hu a h.1,kh hu b h.2⟩
 | .times a b,i,h=>⟨kh hu a h.1,kh hu b h.2⟩
 | .rc a,i,h=>kh hu (i:=i+1) a h
 | .zero,_,_=>trivial
 | .one,_,_=>trivial
 | .bound _,_,h=>h
theorem Dv.lc{t d:Ty}{s:Nm}(h:Dv t s d):jU t 0->jU d 0:=by
 induction h with
 |zero s=>exact fun _=>trivial
 |one s=>exact fun _=>trivial
 |bound k s=>exact fun _=>trivial
 |hit s=>exact fun _=>trivial
 |ql h=>exact fun _=>trivial
 |plus h1 h2 hl i1 i2=>exact fun h=>⟨i1 h.1,i2 h.2⟩
 |times h1 h2 hl i1 i2=>exact fun h=>⟨⟨i1 h.1,h.2⟩,h.1,i2 h.2⟩
 |
  rc x hx hs h1 h2 hl i1 i2 =>
  intro h
  have g1:=kh (x:=x) h _ (i1 (iE x _ h))
  have g2:=kh (x:=x) h _ (i2 (iE x _ h))
  exact⟨gd _ g1 (by omega),gd _ g2 (by omega),Nat.zero_lt_one⟩
theorem Wf.DX{e:E}(h:Wf e):ia (ew e []):=⟨vw h [],fun y hy=>(rU h [] y hy).1⟩
theorem ia.dv{t d:Ty}{s:Nm}(g:ia t)(h:Dv t s d):ia d:=⟨h.lc g.1,fun y hy=>g.2 y (h.names y hy)⟩
theorem ia.tree{t:Ty}(g:ia t):∃e,Wf e/\ew e []=t:=by
 obtain⟨h1,h2,_⟩:=l4 (bL t []) t [] 0 (.nil _ _) g.1 fun y hy=>⟨(fF t [] y).2 (.inr hy),g.2 y hy⟩
 exact⟨_,h1,h2⟩
theorem ia.sub{x:Nm}{u t:Ty}(hu:ia u)(ht:ia t):ia (sub x u t):=⟨kh hu.1 t ht.1,fun y hy=>by
 rcases iL t hy with h|h
 ·exact hu.2 y h
 ·exact ht.2 y h.2⟩
def GK(o:Option Ty):AV->List Ob->Prop:=fun r ob=>ob=[]/\∃(c:Nm) (d:AV),LK.sl.has d/\r=.cW [.agg [.v (.string (mk c)),d],.v (.bool o.isSome)]/\∀t,o=some t->∃e,Wf e/\ew e []=t/\c=e.at/\d=e.sp
theorem GK.ne{o:Option Ty}(h:∀t,o=some t->ia t):∃r ob,GK o r ob:=by
 cases o with
 |none=>exact⟨_,_,rfl,[],Ig,(bp).mpr trivial,rfl,fun t h=>by cases h⟩
 |
  some t =>
  obtain⟨e,h1,h2⟩:=(h t rfl).tree
  exact⟨_,_,rfl,e.at,e.sp,(bb _).mpr trivial,rfl,fun t' h'=>by cases h';exact⟨e,h1,h2,rfl,rfl⟩⟩
theorem GK.of{e:E}(h:Wf e):GK (some (ew e [])) (.cW [.agg [.v (.string (mk e.at)),e.sp],.v (.bool true)]) [] :=
 ⟨rfl,e.at,e.sp,(bb _).mpr trivial,rfl,fun t h'=>by cases h';exact⟨e,h,rfl,rfl,rfl⟩⟩
theorem GK.no(c:Nm)(d:AV)(hd:LK.sl.has d):GK none (.cW [.agg [.v (.string (mk c)),d],.v (.bool false)]) [] :=
 ⟨rfl,c,d,hd,rfl,fun t h'=>by cases h'⟩
theorem AW{e:E}{os:List E}(h:Wf e):Wf (Du e os)/\ew (Du e os) []=ew e []/\tb (·∉Fx e os) (Du e os):=by
 obtain⟨h1,h2,_,_,h5⟩:=l4 (Fx e os) (ew e []) [] 0 (.nil _ _) (vw h []) fun y hy=>⟨aB _ ((wv h [] [] y).2 (.inr hy)),(rU h [] y hy).1⟩
 exact⟨h1,h2,h5⟩
theorem tW{os:List E}{o:E}(ho:o∈os)(hw:Wf o){y:Nm}(hy:bg y (ew o [])=true):y∈rh os :=
 List.mem_flatMap.2 ⟨o,ho,(wv hw [] [] y).2 (.inr hy)⟩
theorem A5{s:Nm}(hs:tO s):ew (.atom s) []=.name s:=iJ hs (by simp)
theorem Nq{x:Nm}(hx:tO x){e u:E}(h:Wf e)(hu:Wf u)(hl:e.en<=400)(hlu:u.en<=400):∃g,Wf g/\ew g []=sub x (ew u []) (ew e [])/\aq Tryz.prog 157 [.agg [.v (.string (mk e.at)),e.sp],.v (.string (mk x)),.agg [.v (.string (mk u.at)),u.sp]] [] (bz (.agg [.v (.string (mk g.at)),g.sp])):=by
 obtain⟨w1,w2,w3⟩:=AW (os:=[u,.atom x]) h
 have hap:tb (fun n=>n≠x/\bg n (ew u [])=false) (Du e [u,.atom x]):=Ao (fun n hn=>⟨fun e1=>hn (by
  subst e1
  exact aA _ (tW (o:=.atom n) (by simp) (.atom hx.1) (by rw[A5 hx];simp[bg]))),by
  cases q:bg n (ew u [])with
  |false=>rfl
  |true=>exact absurd (aA _ (tW (o:=u) (by simp) hu q)) hn⟩) w1 w3
 obtain⟨p1,p2⟩:=Bo hx hu w1 hap [] (by simp) (fun y hy=>by cases hy)
 refine⟨_,p1,by rw[p2,w2],?_⟩
 refine OE _ _ _ _ _ ((bb _).mpr trivial) ((bb _).mpr trivial) ?_
 unfold Kx
 have s1:=h.sz
 have s2:=hu.sz
 have hA:=Jc h (.sl [[.v (.string (mk u.at)),u.sp],[.v (.string (mk x)),Ig]]) [u,.atom x] ⟨(ck _).mpr trivial,by simp only[fe,E.bf,iD];rfl⟩ (by omega) (fun o ho=>by
  simp only[aJ,List.not_mem_nil,or_false]at ho
  rcases ho with rfl|rfl
  ·exact⟨hu,by omega⟩
  ·exact⟨.atom hx.1,by simp[E.sz]⟩) (by simp)
 refine ak hA ?_
 simp only[↓zq,zs,af,zt,aP]
 repeat refine⟨by omega,?_⟩
 refine ak (Mz x u w1) ?_
 simp only[↓zq,zs,af,zt,aP]
 repeat refine⟨by omega,?_⟩
 exact⟨rfl,rfl⟩
end Go.Proofs.Trees
namespace Go.Proofs.Trees
open Go Go.VL Go.RowKit
theorem Wf.zx{e:E}(h:Wf e){t:Ty}(ht:ew e []=t)(hl:t.atoms<=400):e.en<=400:=by rw[h.en [],ht];exact hl
end Go.Proofs.Trees
namespace Go.Proofs.Trees
open Go Go.VL Go.RowKit
end Go.Proofs.Trees
