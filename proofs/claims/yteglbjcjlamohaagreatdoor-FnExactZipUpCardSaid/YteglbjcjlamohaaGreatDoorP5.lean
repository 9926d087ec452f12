/-
  Part of a proof: Go functions read by values, trees of functions, their contracts.
-/
import Derived.Test.YteglbjcjlamohaaGreatDoorP4
set_option linter.unusedVariables false
set_option linter.unusedSimpArgs false
namespace Go.Proofs.Trees
open Go Go.VL
theorem Sq25:∀(e:E) (ar:List (List UInt8)) (a:AV),e.ok->StrsA a ar->ar.length+e.sz < 100000->FSpec Tryz.prog 91 [e.iav,a] [] (Det (optT (tyOf e ar)))
 | .atom s,ar,a,hok,ha,hl=>by
  simp only [E.sz] at hl
  refine Fq92 _ _ ((iav_has _).mpr trivial) ha.1 ?_
  have hd:=iav_at (.atom s)
  have hlen:=iav_len (.atom s)
  simp only [E.at] at hd
  simp only [tq5j,↓zq,zs,hasK,zt,Det,iav_has,iav_nil,hd,tyOf]
  refine⟨hlen,fun h=>⟨hlen,?_,?_⟩,fun h=>⟨hlen,fun h1=>⟨hlen,?_,?_⟩,fun h1=>⟨hlen,?_⟩⟩⟩
  ·rw [h]; decide
  ·rw [if_pos h,h]; rfl
  ·rw [h1]; decide
  ·rw [if_neg h,if_pos h1,h1]; rfl
  ·rw [if_neg h,if_neg h1]
   refine wp_det (Sq6q s) ?_
   simp only [↓zq,zs,hasK]
   refine⟨fun hp=>⟨hlen,?_⟩,fun hp=>⟨hlen,?_⟩⟩
   ·rw [if_pos hp]; rfl
   ·rw [if_neg (by rw [hp]; simp)]
    refine wp_det (Sq2l s) ?_
    simp only [↓zq,zs,hasK,ha.len]
    refine⟨fun hq=>⟨ha.1,?_⟩,fun hq=>?_⟩
    ·rw [if_pos hq,wrap64 _ (by omega) (by omega)]
     refine wp_loopB (Lqah (.atom s) a ar ha (by omega) ar.length (by omega)) (fun ys o e=>?_) (fun ys o e=>?_)
     ·simp only [E.at] at e
      cases hq2:lastOf s ar ar.length<;>rw [hq2] at e<;>cases e
      simp only [↓zq,zs,hasK,zt,iav_has,iav_nil,hd]
      exact⟨hlen,rfl⟩
     ·simp only [E.at] at e
      cases hq2:lastOf s ar ar.length<;>rw [hq2] at e<;>cases e
      simp only [↓zq,zs,hasK,zt,LK.has]
      simp [optT,Ty.av,hasK,LK.has]
    ·rw [if_neg (by rw [hq]; simp)]
     refine wp_det (Sq4 (.atom s) [43]) ?_
     simp only [↓zq,zs,hasK]
     refine⟨fun h=>(by simp at h),fun _=>?_⟩
     refine wp_det (Sq4 (.atom s) [42]) ?_
     simp only [↓zq,zs,hasK]
     refine⟨fun h=>(by simp at h),fun _=>?_⟩
     refine wp_det (Sq4 (.atom s) [114,101,99]) ?_
     simp only [↓zq,zs,hasK]
     refine⟨fun h=>(by simp at h),fun _=>?_⟩
     trivial
 | .list l,ar,a,hok,ha,hl=>by
  simp only [E.sz] at hl
  refine Fq92 _ _ ((iav_has _).mpr trivial) ha.1 ?_
  have hd:=iav_at (.list l)
  have hlen:=iav_len (.list l)
  simp only [E.at] at hd
  have hp:isPar [] = false:=rfl
  have hq:isLoo [] = false:=rfl
  simp only [tq5j,↓zq,zs,hasK,zt,Det,iav_has,iav_nil,hd]
  refine⟨hlen,fun h=>(by simp at h),fun h=>⟨hlen,fun h1=>(by simp at h1),fun h1=>⟨hlen,?_⟩⟩⟩
  refine wp_det (Sq6q []) ?_
  simp only [↓zq,zs,hasK,hp]
  refine⟨fun h=>(by simp at h),fun _=>⟨hlen,?_⟩⟩
  refine wp_det (Sq2l []) ?_
  simp only [↓zq,zs,hasK,hq]
  refine⟨fun h=>(by simp at h),fun _=>?_⟩
  refine wp_det (Sq4 (.list l) [43]) ?_
  match l,hok,hl with
  | [x,y,z],hok,hl =>
   simp only [E.szs] at hl
   obtain⟨ok1,ok2,ok3,_⟩:=hok
   have iy:=Sq25 y ar a ok2 ha (by omega)
   have iz:=Sq25 z ar a ok3 ha (by omega)
   have hds:((E.list [x,y,z]).iav.deref.drop 1).headD .any = .sl [[x.iav],[y.iav],[z.iav]]:=rfl
   have hdl:1<=((E.list [x,y,z]).iav.deref.drop 1).length:=by simp [E.iav,deref_ptr]
   have hxd:=iav_at x
   have hxl:=iav_len x
   have hyd:=iav_at y
   have hyl:=iav_len y
   have bin:∀(c:UInt8) (mkT:Ty->Ty->Ty),(∀t u:Ty,(mkT t u).av = .ptr [.v (.int .u8 (c.toNat:Int)),.v (.string (mk [])),.v (.int .i64 0),t.av,u.av])->x.at = [c]->bt (mk x.at) 0 = (c.toNat:Int):=fun c _ _ hx=>by
    have:=bt_mk x.at 0 (by rw [hx]; simp)
    simp only [Int.ofNat_eq_natCast,Int.cast_ofNat_Int] at this
    rw [this,hx]; rfl
   simp only [↓zq,zs,hasK,zt,hds,hdl,iav_has,iav_nil,toNat_one,toNat_two,hxd,hyd,nil_mk]
   refine⟨fun hx=>?_,fun hx=>?_⟩
   ·refine⟨by omega,by omega,?_⟩
    refine wp_det iy ?_
    simp only [↓zq,zs,hasK,optT_has]
    refine⟨by omega,by omega,?_⟩
    refine wp_det iz ?_
    have hb:=bin 43 Ty.plus (fun _ _=>rfl) hx
    rw [tyOf_plus ar hx]
    simp only [↓zq,zs,hasK,zt,optT_has]
    cases h1:tyOf y ar with
    | none=>simp [optT,isNil_nil]
    | some t =>
     cases h2:tyOf z ar with
     | none=>simp [optT,isNil_nil,ty_nil]
     | some u =>
      simp only [optT,ty_nil,hb]
      refine⟨fun h=>(by cases h),fun _=>⟨fun h=>(by cases h),fun _=>⟨by omega,by omega,hxl,⟨by omega,by rw [hx]; simp⟩,rfl⟩⟩⟩
   ·refine wp_det (Sq4 (.list [x,y,z]) [42]) ?_
    simp only [↓zq,zs,hasK,hds,hdl,iav_has,iav_nil,toNat_one,toNat_two,hxd,hyd,nil_mk]
    refine⟨fun hx2=>?_,fun hx2=>?_⟩
    ·refine⟨by omega,by omega,?_⟩
     refine wp_det iy ?_
     simp only [↓zq,zs,hasK,optT_has]
     refine⟨by omega,by omega,?_⟩
     refine wp_det iz ?_
     have hb:=bin 42 Ty.times (fun _ _=>rfl) hx2
     rw [tyOf_times ar hx2]
     simp only [↓zq,zs,hasK,zt,optT_has]
     cases h1:tyOf y ar with
     | none=>simp [optT,isNil_nil]
     | some t =>
      cases h2:tyOf z ar with
      | none=>simp [optT,isNil_nil,ty_nil]
      | some u =>
       simp only [optT,ty_nil,hb]
       refine⟨fun h=>(by cases h),fun _=>⟨fun h=>(by cases h),fun _=>⟨by omega,by omega,hxl,⟨by omega,by rw [hx2]; simp⟩,rfl⟩⟩⟩
    ·refine wp_det (Sq4 (.list [x,y,z]) [114,101,99]) ?_
     simp only [↓zq,zs,hasK,zt,hds,hdl,iav_has,iav_nil,toNat_one,toNat_two,hxd,hyd,nil_mk]
     refine⟨fun hx3=>⟨by omega,by omega,hyl,?_⟩,fun hx3=>?_⟩
     ·refine wp_det (Sq2l y.at) ?_
      rw [tyOf_rec ar hx3]
      simp only [↓zq,zs,hasK]
      have hal:allLen 1 a.elems:=by rw [ha.2]; exact allLen_strs ar
      have hal1:allLen 1 [[AV.v (.string (mk y.at))]]:=fun c hc=>by simp at hc; rw [hc]; rfl
      refine⟨fun hlo=>⟨by omega,by omega,⟨ha.1,hal,by rw [ha.len]; omega⟩,by omega,by omega,hyl,⟨hal1,by rw [List.nil_append,ha.len]; omega⟩,?_⟩,fun hlo=>?_⟩
      ·rw [List.nil_append,ha.2,Sqr,if_pos hlo]
       refine wp_det (Sq25 z (ar++[y.at]) _ ok3 (.of _) (by simp; omega)) ?_
       simp only [↓zq,zs,hasK,optT_has]
       cases h2:tyOf z (ar++[y.at]) with
       | none=>simp [optT,isNil_nil]
       | some u =>
        simp only [optT,ty_nil]
        refine⟨fun h=>(by cases h),fun _=>rfl⟩
      ·rw [if_neg (by rw [hlo]; simp)]; rfl
     ·rw [tyOf_no ar hx hx2 hx3]; rfl
  | [],_,_ =>
   simp only [↓zq,zs,hasK]
   refine⟨fun h=>(by cases h),fun _=>?_⟩
   refine wp_det (Sq4 (.list []) [42]) ?_
   simp only [↓zq,zs,hasK]
   refine⟨fun h=>(by cases h),fun _=>?_⟩
   refine wp_det (Sq4 (.list []) [114,101,99]) ?_
   simp only [↓zq,zs,hasK]
   refine⟨fun h=>(by cases h),fun _=>?_⟩
   rfl
  | [x1],_,_ =>
   simp only [↓zq,zs,hasK]
   refine⟨fun h=>(by cases h),fun _=>?_⟩
   refine wp_det (Sq4 (.list [x1]) [42]) ?_
   simp only [↓zq,zs,hasK]
   refine⟨fun h=>(by cases h),fun _=>?_⟩
   refine wp_det (Sq4 (.list [x1]) [114,101,99]) ?_
   simp only [↓zq,zs,hasK]
   refine⟨fun h=>(by cases h),fun _=>?_⟩
   rfl
  | [x1,x2],_,_ =>
   simp only [↓zq,zs,hasK]
   refine⟨fun h=>(by cases h),fun _=>?_⟩
   refine wp_det (Sq4 (.list [x1,x2]) [42]) ?_
   simp only [↓zq,zs,hasK]
   refine⟨fun h=>(by cases h),fun _=>?_⟩
   refine wp_det (Sq4 (.list [x1,x2]) [114,101,99]) ?_
   simp only [↓zq,zs,hasK]
   refine⟨fun h=>(by cases h),fun _=>?_⟩
   rfl
  | x1::x2::x3::x4::l,_,_ =>
   simp only [↓zq,zs,hasK]
   refine⟨fun h=>(by cases h),fun _=>?_⟩
   refine wp_det (Sq4 (.list (x1::x2::x3::x4::l)) [42]) ?_
   simp only [↓zq,zs,hasK]
   refine⟨fun h=>(by cases h),fun _=>?_⟩
   refine wp_det (Sq4 (.list (x1::x2::x3::x4::l)) [114,101,99]) ?_
   simp only [↓zq,zs,hasK]
   refine⟨fun h=>(by cases h),fun _=>?_⟩
   rfl
end Go.Proofs.Trees
namespace Go.Proofs.Trees
open Go Go.VL
def DetO (v:AV) (obs:List Ob):AV->List Ob->Prop:=fun r o=>r = v/\o = obs
theorem wp_detO {P:Program} {n:Nat} {Q:Nat->List AV->List Ob->Prop} {f:Nat} {xs:List AV} {ins:List Ob} {k:AV->List Ob->Tree} {v:AV} {obs:List Ob} (h:FSpec P f xs ins (DetO v obs)) (hk:wpT P n (k v obs) Q):wpT P n (.call f xs ins k) Q :=
 ⟨DetO v obs,h,⟨v,obs,rfl,rfl⟩,fun r o ⟨h1,h2⟩=>by rw [h1,h2]; exact hk⟩
def Ty.atoms:Ty->Nat
 | .plus a b=>1+a.atoms+b.atoms
 | .times a b=>1+a.atoms+b.atoms
 | .rc a=>2+a.atoms
 | _=>1
theorem Sqk:∀(t:Ty),t.atoms < 1000000->FSpec Tryz.prog 92 [t.av] [] (Det (.v (.int .i64 (t.atoms:Int))))
 | .zero,h=>by refine Fqx _ ((ty_has _).mpr trivial) ?_; simp [tql,Ty.av,↓zq,zs,hasK,Det,Ty.atoms]
 | .one,h=>by refine Fqx _ ((ty_has _).mpr trivial) ?_; simp [tql,Ty.av,↓zq,zs,hasK,Det,Ty.atoms]
 | .name s,h=>by refine Fqx _ ((ty_has _).mpr trivial) ?_; simp [tql,Ty.av,↓zq,zs,hasK,Det,Ty.atoms]
 | .bound u,h=>by refine Fqx _ ((ty_has _).mpr trivial) ?_; simp [tql,Ty.av,↓zq,zs,hasK,Det,Ty.atoms]
 | .plus a b,h=>by
  simp only [Ty.atoms] at h
  refine Fqx _ ((ty_has _).mpr trivial) ?_
  simp only [tql,Ty.av,↓zq,zs,hasK,ty_has]
  refine⟨by omega,fun _=>⟨by omega,?_⟩,fun h=>absurd rfl h⟩
  refine wp_det (Sqk a (by omega)) ?_
  simp only [↓zq,zs,hasK,ty_has]
  refine⟨by omega,?_⟩
  refine wp_det (Sqk b (by omega)) ?_
  simp only [↓zq,zs,hasK,Det,Ty.atoms]
  rw [wrap64 (1+(a.atoms:Int)) (by omega) (by omega),wrap64 _ (by omega) (by omega)]
  congr 2
 | .times a b,h=>by
  simp only [Ty.atoms] at h
  refine Fqx _ ((ty_has _).mpr trivial) ?_
  simp only [tql,Ty.av,↓zq,zs,hasK,ty_has]
  refine⟨by omega,fun h=>by omega,fun _=>⟨fun _=>⟨by omega,?_⟩,fun h=>absurd rfl h⟩⟩
  refine wp_det (Sqk a (by omega)) ?_
  simp only [↓zq,zs,hasK,ty_has]
  refine⟨by omega,?_⟩
  refine wp_det (Sqk b (by omega)) ?_
  simp only [↓zq,zs,hasK,Det,Ty.atoms]
  rw [wrap64 (1+(a.atoms:Int)) (by omega) (by omega),wrap64 _ (by omega) (by omega)]
  congr 2
 | .rc a,h=>by
  simp only [Ty.atoms] at h
  refine Fqx _ ((ty_has _).mpr trivial) ?_
  simp only [tql,Ty.av,↓zq,zs,hasK,ty_has]
  refine⟨by omega,fun h=>by omega,fun _=>⟨fun h=>by omega,fun _=>⟨fun _=>⟨by omega,?_⟩,fun h=>absurd rfl h⟩⟩⟩
  refine wp_det (Sqk a (by omega)) ?_
  simp only [↓zq,zs,hasK,Det,Ty.atoms]
  rw [wrap64 _ (by omega) (by omega)]
  congr 2
theorem tyOf_atoms:∀(e:E) (ar:List (List UInt8)) (t:Ty),tyOf e ar = some t->t.atoms<=e.sz
 | .atom s,ar,t,h=>by
  simp only [tyOf] at h
  simp only [E.sz]
  split at h
  ·cases h; simp [Ty.atoms]
  ·split at h
   ·cases h; simp [Ty.atoms]
   ·split at h
    ·cases h; simp [Ty.atoms]
    ·split at h
     ·split at h<;>cases h<;>simp [Ty.atoms]
     ·cases h
 | .list [x,a,b],ar,t,h=>by
  have hs:∀e:E,1<=e.sz:=fun e=>by cases e<;>simp [E.sz]; try omega
  have hx:=hs x
  have ha:=hs a
  simp only [E.sz,E.szs]
  by_cases h1:x.at = [43]
  ·rw [tyOf_plus ar h1] at h
   split at h
   ·rename_i t1 t2 e1 e2
    cases h
    have:=tyOf_atoms a ar t1 e1
    have:=tyOf_atoms b ar t2 e2
    simp only [Ty.atoms]; omega
   ·cases h
  ·by_cases h2:x.at = [42]
   ·rw [tyOf_times ar h2] at h
    split at h
    ·rename_i t1 t2 e1 e2
     cases h
     have:=tyOf_atoms a ar t1 e1
     have:=tyOf_atoms b ar t2 e2
     simp only [Ty.atoms]; omega
    ·cases h
   ·by_cases h3:x.at = [114,101,99]
    ·rw [tyOf_rec ar h3] at h
     split at h
     ·split at h
      ·rename_i t1 e1
       cases h
       have:=tyOf_atoms b _ t1 e1
       simp only [Ty.atoms]; omega
      ·cases h
     ·cases h
    ·rw [tyOf_no ar h1 h2 h3] at h; cases h
 | .list [],_,_,h=>by cases h
 | .list [_],_,_,h=>by cases h
 | .list [_,_],_,_,h=>by cases h
 | .list (_::_::_::_::_),_,_,h=>by cases h
def rdY (s:List UInt8):Option Ty:=match rdT s with
 | none=>none
 | some e=>match tyOf e [] with
  | none=>none
  | some t=>if t.atoms > 400 then none else some t
theorem Sq3h (s:List UInt8):FSpec Tryz.prog 58 [.v (.string (mk s))] [] (Det (optT (rdY s))):=by
 refine Fqg5 _ ?_
 unfold tq7d
 refine wp_det (Sqce s) ?_
 unfold rdY
 cases he:rdT s with
 | none=>simp only [optP,↓zq,zs,hasK,Det,optT]; simp
 | some e =>
  obtain⟨h1,h2⟩:=rdT_ok he
  simp only [optP,↓zq,zs,hasK,iav_has,iav_nil]
  refine⟨fun h=>(by cases h),fun _=>?_⟩
  refine wp_det (Sq25 e [] _ h1 .nil (by simp; omega)) ?_
  cases ht:tyOf e [] with
  | none=>simp only [optT,↓zq,zs,hasK,Det]; simp
  | some t =>
   have:=tyOf_atoms e [] t ht
   simp only [optT,↓zq,zs,hasK,ty_has,ty_nil]
   refine⟨fun h=>(by cases h),fun _=>?_⟩
   refine wp_det (Sqk t (by omega)) ?_
   simp only [↓zq,zs,hasK,Det]
   refine⟨fun h=>?_,fun h=>?_⟩
   ·rw [if_pos (by omega)]
   ·rw [if_neg (by omega)]
end Go.Proofs.Trees
namespace Go.Proofs.Trees
open Go Go.VL
def FoundR (p:Prop):Nat->List AV->List Ob->Prop:=fun t ys o=>(t = 1/\¬ p/\ys = []/\o = [])\/(t = 2/\p/\∃j:Nat,ys = [.v (.int .i64 (j:Int))]/\o = [])
theorem Lq8u (l:List (List UInt8)) (a:AV) (ha:StrsA a l) (s:List UInt8) (hl:l.length < 1000000):∀(k i:Nat),i+k = l.length->s ∉ l.take i->Lq3d [a,.v (.string (mk s)),.v (.int .i64 (l.length:Int)),.v (.int .i64 (i:Int))] []
  (FoundR (s∈l))
 | 0,i,hi,hn=>by
  refine Gq6n _ _ _ _ ?_
  simp only [rq5n,↓zq,zs,hasK]
  have:l.take i = l:=List.take_of_length_le (by omega)
  rw [this] at hn
  exact⟨ha.1,fun h=>by omega,fun _=>.inl ⟨rfl,hn,rfl,rfl⟩⟩
 | k+1,i,hi,hn=>by
  have hlt:i < l.length:=by omega
  refine Gq6n _ _ _ _ ?_
  simp only [rq5n,↓zq,zs,hasK,zt,ha.len,ha.idx hlt]
  have hm:l.getD i []∈l:=by simp [List.getD_eq_getElem?_getD,hlt]
  refine⟨ha.1,fun _=>⟨⟨ha.1,by omega,by omega⟩,by omega,fun h=>?_,fun h=>?_⟩,fun h=>by omega⟩
  ·exact .inr ⟨rfl,by rw [h]; exact hm,i,rfl,rfl⟩
  ·rw [wrap_succ i (by omega)]
   refine Lq8u l a ha s hl k (i+1) (by omega) ?_
   rw [List.take_add_one]
   simp only [List.mem_append,not_or]
   refine⟨hn,?_⟩
   have:l[i]? = some (l.getD i []):=by simp [List.getD_eq_getElem?_getD,hlt]
   rw [this]; simpa using h
theorem Sq9i (l:List (List UInt8)) (a:AV) (ha:StrsA a l) (s:List UInt8) (hl:l.length < 1000000):FSpec Tryz.prog 124 [a,.v (.string (mk s))] [] (Det (.v (.bool (decide (s∈l))))):=by
 have hI:FSpec Tryz.prog 142 [a,.v (.string (mk s))] [] (fun r o=>∃n:Int,r = .v (.int .i64 n)/\(0<=n↔s∈l)/\o = []):=by
  refine Fqed _ _ ha.1 ?_
  simp only [tqbf,↓zq,zs,hasK,ha.len]
  refine⟨ha.1,wpt_loop (Lq8u l a ha s hl l.length 0 (by omega) (by simp)) ?_ ?_⟩
  ·rintro ys o (⟨_,h1,rfl,rfl⟩ | ⟨h,_⟩)
   ·simp only [↓zq,zs,hasK]
    exact⟨-1,rfl,⟨fun h=>(by omega),fun h=>absurd h h1⟩⟩
   ·cases h
  ·rintro ys o (⟨h,_⟩ | ⟨_,h1,j,rfl,rfl⟩)
   ·cases h
   ·simp only [↓zq,zs,hasK]
    exact⟨j,rfl,⟨fun _=>h1,fun _=>(by omega)⟩⟩
 refine Fqdh _ _ ha.1 ?_
 unfold tqa7
 refine wp_call hI ⟨.v (.int .i64 (if s∈l then 0 else -1)),[],_,rfl,by split<;>simp_all,rfl⟩ ?_
 rintro r o ⟨n,rfl,hn,rfl⟩
 simp only [↓zq,zs,hasK,Det]
 congr 2
 rw [Bool.eq_iff_iff]; simp [hn]
def addN (out:List (List UInt8)):Ty->List (List UInt8)
 | .name s=>if s∈out then out else out++[s]
 | _=>out
theorem Sqw (t:Ty) (out:List (List UInt8)) (hl:out.length < 100000):FSpec Tryz.prog 141 [t.av,.ref 0 0] [.cells [.vec 1],.vec 1 (strsAV out)] (DetO .any [.cells [.vec 1],.vec 1 (strsAV (addN out t))]):=by
 refine Fqdj _ _ ((ty_has _).mpr trivial) ?_
 have hlen:(strsAV out).length = out.length:=by simp [strsAV]
 cases t with
 | name s =>
  simp only [tq2w,Ty.av,↓zq,zs,hasK,DetO,hlen]
  refine⟨by omega,fun _=>⟨by omega,?_⟩,fun h=>absurd rfl h⟩
  refine wp_det (Sq9i out _ (.of out) s (by omega)) ?_
  simp only [↓zq,zs,hasK,addN]
  refine⟨fun h=>⟨by omega,⟨fun c hc=>(by simp at hc; rw [hc]; rfl),by omega⟩,?_⟩,fun h=>?_⟩
  ·rw [Sqr,if_neg h]
  ·rw [if_pos h]
 | _=>simp [tq2w,Ty.av,↓zq,zs,hasK,DetO,addN]
def namesOf:Ty->List (List UInt8)->List (List UInt8)
 | .name s,out=>addN out (.name s)
 | .plus a b,out=>namesOf b (namesOf a out)
 | .times a b,out=>namesOf b (namesOf a out)
 | .rc a,out=>namesOf a out
 | _,out=>out
theorem namesOf_len:∀(t:Ty) (out:List (List UInt8)),(namesOf t out).length<=out.length+t.atoms
 | .name s,out=>by simp only [namesOf,addN,Ty.atoms]; split<;>simp
 | .plus a b,out=>by
  have:=namesOf_len a out
  have:=namesOf_len b (namesOf a out)
  simp only [namesOf,Ty.atoms]; omega
 | .times a b,out=>by
  have:=namesOf_len a out
  have:=namesOf_len b (namesOf a out)
  simp only [namesOf,Ty.atoms]; omega
 | .rc a,out=>by
  have:=namesOf_len a out
  simp only [namesOf,Ty.atoms]; omega
 | .zero,out=>by simp [namesOf]
 | .one,out=>by simp [namesOf]
 | .bound u,out=>by simp [namesOf]
theorem Sq1d:∀(t:Ty) (out:List (List UInt8)),out.length+t.atoms < 100000->FSpec Tryz.prog 140 [t.av,.fn 141 [.ref 0 0]] [.cells [.vec 1],.vec 1 (strsAV out)] (DetO .any [.cells [.vec 1],.vec 1 (strsAV (namesOf t out))])
 | .plus a b,out,hl=>by
  simp only [Ty.atoms] at hl
  have:=namesOf_len a out
  refine Fqz _ _ ((ty_has _).mpr trivial) ?_
  unfold tqe
  refine wp_detO (Sqw (.plus a b) out (by omega)) ?_
  simp only [Ty.av,↓zq,zs,hasK,ty_has,ty_nil,addN,hasC,DetO]
  refine⟨by omega,fun _=>⟨by omega,?_⟩,fun h=>(by cases h)⟩
  refine wp_detO (Sq1d a out (by omega)) ?_
  simp only [↓zq,zs,hasK,ty_has,ty_nil,hasC]
  refine⟨by omega,fun _=>⟨by omega,?_⟩,fun h=>(by cases h)⟩
  refine wp_detO (Sq1d b (namesOf a out) (by omega)) ?_
  simp only [↓zq,zs,hasK,hasC,namesOf]
 | .times a b,out,hl=>by
  simp only [Ty.atoms] at hl
  have:=namesOf_len a out
  refine Fqz _ _ ((ty_has _).mpr trivial) ?_
  unfold tqe
  refine wp_detO (Sqw (.times a b) out (by omega)) ?_
  simp only [Ty.av,↓zq,zs,hasK,ty_has,ty_nil,addN,hasC,DetO]
  refine⟨by omega,fun _=>⟨by omega,?_⟩,fun h=>(by cases h)⟩
  refine wp_detO (Sq1d a out (by omega)) ?_
  simp only [↓zq,zs,hasK,ty_has,ty_nil,hasC]
  refine⟨by omega,fun _=>⟨by omega,?_⟩,fun h=>(by cases h)⟩
  refine wp_detO (Sq1d b (namesOf a out) (by omega)) ?_
  simp only [↓zq,zs,hasK,hasC,namesOf]
 | .rc a,out,hl=>by
  simp only [Ty.atoms] at hl
  refine Fqz _ _ ((ty_has _).mpr trivial) ?_
  unfold tqe
  refine wp_detO (Sqw (.rc a) out (by omega)) ?_
  simp only [Ty.av,↓zq,zs,hasK,ty_has,ty_nil,addN,hasC,DetO]
  refine⟨by omega,fun _=>⟨by omega,?_⟩,fun h=>(by cases h)⟩
  refine wp_detO (Sq1d a out (by omega)) ?_
  simp [↓zq,zs,hasK,ty_has,ty_nil,hasC,namesOf]
 | .name s,out,hl=>by
  refine Fqz _ _ ((ty_has _).mpr trivial) ?_
  unfold tqe
  refine wp_detO (Sqw (.name s) out (by omega)) ?_
  simp [Ty.av,↓zq,zs,hasK,hasC,DetO,namesOf]
 | .zero,out,hl=>by
  refine Fqz _ _ ((ty_has _).mpr trivial) ?_
  unfold tqe
  refine wp_detO (Sqw .zero out (by omega)) ?_
  simp [Ty.av,↓zq,zs,hasK,hasC,DetO,namesOf,addN]
 | .one,out,hl=>by
  refine Fqz _ _ ((ty_has _).mpr trivial) ?_
  unfold tqe
  refine wp_detO (Sqw .one out (by omega)) ?_
  simp [Ty.av,↓zq,zs,hasK,hasC,DetO,namesOf,addN]
 | .bound u,out,hl=>by
  refine Fqz _ _ ((ty_has _).mpr trivial) ?_
  unfold tqe
  refine wp_detO (Sqw (.bound u) out (by omega)) ?_
  simp [Ty.av,↓zq,zs,hasK,hasC,DetO,namesOf,addN]
theorem Sq84 (t:Ty) (hl:t.atoms < 100000):FSpec Tryz.prog 122 [t.av] [] (Det (.sl (strsAV (namesOf t [])))):=by
 refine Fqe9 _ ((ty_has _).mpr trivial) ?_
 unfold tqbv
 refine wp_detO (Sq1d t [] (by simpa using hl)) ?_
 simp [↓zq,zs,hasK,hasC,Det]
theorem Lq6k (l:List (List UInt8)) (a:AV) (ha:StrsA a l) (hl:l.length < 1000000):∀(k i:Nat),i+k = l.length->(∀s,s∈l.take i->isLoo s = false)->Lq4d [a,.v (.func (.func 118) #[] #[]),.v (.int .i64 (l.length:Int)),.v (.int .i64 (i:Int))] []
  (FoundR (l.any isLoo = true))
 | 0,i,hi,hn=>by
  refine Gqcs _ _ _ ?_
  simp only [rq3x,↓zq,zs,hasK]
  have:l.take i = l:=List.take_of_length_le (by omega)
  rw [this] at hn
  exact⟨ha.1,fun h=>by omega,fun _=>.inl ⟨rfl,fun hh=>(by obtain⟨x,hx,hy⟩:=List.any_eq_true.1 hh; rw [hn x hx] at hy; cases hy),rfl,rfl⟩⟩
 | k+1,i,hi,hn=>by
  have hlt:i < l.length:=by omega
  refine Gqcs _ _ _ ?_
  simp only [rq3x,↓zq,zs,hasK,zt,ha.len,ha.idx hlt]
  have hm:l.getD i []∈l:=by simp [List.getD_eq_getElem?_getD,hlt]
  refine⟨ha.1,fun _=>⟨⟨ha.1,by omega,by omega⟩,by omega,?_⟩,fun h=>by omega⟩
  refine wp_det (Sq2l _) ?_
  simp only [↓zq,zs,hasK]
  refine⟨fun h=>?_,fun h=>?_⟩
  ·exact .inr ⟨rfl,List.any_eq_true.2 ⟨_,hm,h⟩,i,rfl,rfl⟩
  ·rw [wrap_succ i (by omega)]
   refine Lq6k l a ha hl k (i+1) (by omega) ?_
   intro s hs
   rw [List.take_add_one] at hs
   have:l[i]? = some (l.getD i []):=by simp [List.getD_eq_getElem?_getD,hlt]
   rw [this] at hs
   rcases List.mem_append.1 hs with hs | hs
   ·exact hn s hs
   ·simp at hs; rw [hs]; simpa using h
theorem Sqe2 (l:List (List UInt8)) (a:AV) (ha:StrsA a l) (hl:l.length < 1000000):FSpec Tryz.prog 125 [a,.v (.func (.func 118) #[] #[])] [] (Det (.v (.bool (l.any isLoo)))):=by
 have hI:FSpec Tryz.prog 143 [a,.v (.func (.func 118) #[] #[])] [] (fun r o=>∃n:Int,r = .v (.int .i64 n)/\(0<=n↔l.any isLoo = true)/\o = []):=by
  refine Fqdb _ ha.1 ?_
  simp only [tq8r,↓zq,zs,hasK,ha.len]
  refine⟨ha.1,wpt_loop (Lq6k l a ha hl l.length 0 (by omega) (by simp)) ?_ ?_⟩
  ·rintro ys o (⟨_,h1,rfl,rfl⟩ | ⟨h,_⟩)
   ·simp only [↓zq,zs,hasK]
    exact⟨-1,rfl,⟨fun h=>(by omega),fun h=>absurd h h1⟩⟩
   ·cases h
  ·rintro ys o (⟨h,_⟩ | ⟨_,h1,j,rfl,rfl⟩)
   ·cases h
   ·simp only [↓zq,zs,hasK]
    exact⟨j,rfl,⟨fun _=>h1,fun _=>(by omega)⟩⟩
 refine Fqfb _ ha.1 ?_
 unfold tq7i
 refine wp_call hI ⟨.v (.int .i64 (if l.any isLoo = true then 0 else -1)),[],_,rfl,by split<;>simp_all,rfl⟩ ?_
 rintro r o ⟨n,rfl,hn,rfl⟩
 simp only [↓zq,zs,hasK,Det]
 congr 2
 rw [Bool.eq_iff_iff]; simp only [decide_eq_true_eq,ge_iff_le,hn]
def Ty.closed (t:Ty):Bool:=!((namesOf t []).any isLoo)
theorem Sqdx (t:Ty) (hl:t.atoms < 100000):FSpec Tryz.prog 99 [t.av] [] (Det (.v (.bool t.closed))):=by
 refine Fqg0 _ ((ty_has _).mpr trivial) ?_
 unfold tqbj
 refine wp_det (Sq84 t hl) ?_
 simp only [↓zq,zs,hasK]
 have:=namesOf_len t []
 refine wp_det (Sqe2 _ _ (.of _) (by simp at this; omega)) ?_
 simp only [↓zq,zs,hasK,Det,Ty.closed]
def rdC (s:List UInt8):Option Ty:=match rdY s with
 | none=>none
 | some t=>if t.closed = true then some t else none
theorem rdY_atoms {s:List UInt8} {t:Ty} (h:rdY s = some t):t.atoms<=400:=by
 unfold rdY at h
 split at h
 ·cases h
 ·split at h
  ·cases h
  ·split at h<;>cases h
   omega
theorem Sq6t (s:List UInt8):FSpec Tryz.prog 61 [.v (.string (mk s))] [] (Det (optT (rdC s))):=by
 refine Fqct _ ?_
 unfold tq6u
 refine wp_det (Sq3h s) ?_
 unfold rdC
 cases ht:rdY s with
 | none=>simp [optT,↓zq,zs,hasK,Det]
 | some t =>
  have:=rdY_atoms ht
  simp only [optT,↓zq,zs,hasK,ty_has,ty_nil]
  refine⟨fun h=>(by cases h),fun _=>?_⟩
  refine wp_det (Sqdx t (by omega)) ?_
  simp only [↓zq,zs,hasK,Det]
  refine⟨fun h=>?_,fun h=>?_⟩
  ·rw [if_neg (by rw [h]; simp)]
  ·rw [if_pos h]
end Go.Proofs.Trees
namespace Go.Proofs.Trees
open Go Go.VL Go.RowKit
abbrev Nm:=List UInt8
def opn (u:Ty):Ty->Nat->Ty
 | .bound k,i=>if k = i then u else .bound k
 | .plus a b,i=>.plus (opn u a i) (opn u b i)
 | .times a b,i=>.times (opn u a i) (opn u b i)
 | .rc a,i=>.rc (opn u a (i+1))
 | t,_=>t
def sub (x:Nm) (u:Ty):Ty->Ty
 | .name s=>if s = x then u else .name s
 | .plus a b=>.plus (sub x u a) (sub x u b)
 | .times a b=>.times (sub x u a) (sub x u b)
 | .rc a=>.rc (sub x u a)
 | t=>t
def hasN (x:Nm):Ty->Bool
 | .name s=>decide (s = x)
 | .plus a b=>hasN x a||hasN x b
 | .times a b=>hasN x a||hasN x b
 | .rc a=>hasN x a
 | _=>false
def ren (f:Nm->Nm):Ty->Ty
 | .name s=>.name (f s)
 | .plus a b=>.plus (ren f a) (ren f b)
 | .times a b=>.times (ren f a) (ren f b)
 | .rc a=>.rc (ren f a)
 | t=>t
def Inj (f:Nm->Nm):Prop:=∀x y,f x = f y->x = y
theorem ren_opn (f:Nm->Nm) (x:Nm):∀(t:Ty) (i:Nat),ren f (opn (.name x) t i) = opn (.name (f x)) (ren f t) i
 | .bound k,i=>by simp only [opn,ren]; split<;>rfl
 | .plus a b,i=>by simp only [opn,ren,ren_opn f x a i,ren_opn f x b i]
 | .times a b,i=>by simp only [opn,ren,ren_opn f x a i,ren_opn f x b i]
 | .rc a,i=>by simp only [opn,ren,ren_opn f x a (i+1)]
 | .zero,i=>rfl
 | .one,i=>rfl
 | .name s,i=>rfl
theorem ren_sub {f:Nm->Nm} (hf:Inj f) (x:Nm) (u:Ty):∀t:Ty,ren f (sub x u t) = sub (f x) (ren f u) (ren f t)
 | .name s=>by
  simp only [sub,ren]
  by_cases h:s = x
  ·subst h; simp
  ·rw [if_neg h,if_neg fun e=>h (hf _ _ e)]; rfl
 | .plus a b=>by simp only [sub,ren,ren_sub hf x u a,ren_sub hf x u b]
 | .times a b=>by simp only [sub,ren,ren_sub hf x u a,ren_sub hf x u b]
 | .rc a=>by simp only [sub,ren,ren_sub hf x u a]
 | .zero=>rfl
 | .one=>rfl
 | .bound k=>rfl
theorem ren_has {f:Nm->Nm} (hf:Inj f) (x:Nm):∀t:Ty,hasN (f x) (ren f t) = hasN x t
 | .name s=>by simp only [hasN,ren]; rw [Bool.eq_iff_iff]; simp only [decide_eq_true_eq]; exact⟨fun e=>hf _ _ e,fun e=>by rw [e]⟩
 | .plus a b=>by simp only [hasN,ren,ren_has hf x a,ren_has hf x b]
 | .times a b=>by simp only [hasN,ren,ren_has hf x a,ren_has hf x b]
 | .rc a=>by simp only [hasN,ren,ren_has hf x a]
 | .zero=>rfl
 | .one=>rfl
 | .bound k=>rfl
theorem ren_atoms (f:Nm->Nm):∀t:Ty,(ren f t).atoms = t.atoms
 | .plus a b=>by simp only [Ty.atoms,ren,ren_atoms f a,ren_atoms f b]
 | .times a b=>by simp only [Ty.atoms,ren,ren_atoms f a,ren_atoms f b]
 | .rc a=>by simp only [Ty.atoms,ren,ren_atoms f a]
 | .name s=>rfl
 | .zero=>rfl
 | .one=>rfl
 | .bound k=>rfl
theorem ren_id {f:Nm->Nm}:∀t:Ty,(∀x,hasN x t = true->f x = x)->ren f t = t
 | .name s,h=>by simp only [ren]; rw [h s (by simp [hasN])]
 | .plus a b,h=>by simp only [ren]; rw [ren_id a fun x hx=>h x (by simp [hasN,hx]),ren_id b fun x hx=>h x (by simp [hasN,hx])]
 | .times a b,h=>by simp only [ren]; rw [ren_id a fun x hx=>h x (by simp [hasN,hx]),ren_id b fun x hx=>h x (by simp [hasN,hx])]
 | .rc a,h=>by simp only [ren]; rw [ren_id a fun x hx=>h x hx]
 | .zero,_=>rfl
 | .one,_=>rfl
 | .bound k,_=>rfl
theorem opn_atoms (x:Nm):∀(t:Ty) (i:Nat),(opn (.name x) t i).atoms = t.atoms
 | .bound k,i=>by simp only [opn]; split<;>rfl
 | .plus a b,i=>by simp only [opn,Ty.atoms,opn_atoms x a i,opn_atoms x b i]
 | .times a b,i=>by simp only [opn,Ty.atoms,opn_atoms x a i,opn_atoms x b i]
 | .rc a,i=>by simp only [opn,Ty.atoms,opn_atoms x a (i+1)]
 | .zero,i=>rfl
 | .one,i=>rfl
 | .name s,i=>rfl
theorem atoms_pos (t:Ty):1<=t.atoms:=by cases t<;>simp only [Ty.atoms]<;>omega
theorem sub_atoms (x:Nm) (u:Ty):∀t:Ty,t.atoms<=(sub x u t).atoms
 | .name s=>by simp only [sub]; split<;>simp only [Ty.atoms]; exact atoms_pos u; omega
 | .plus a b=>by have:=sub_atoms x u a; have:=sub_atoms x u b; simp only [sub,Ty.atoms]; omega
 | .times a b=>by have:=sub_atoms x u a; have:=sub_atoms x u b; simp only [sub,Ty.atoms]; omega
 | .rc a=>by have:=sub_atoms x u a; simp only [sub,Ty.atoms]; omega
 | .zero=>Nat.le_refl _
 | .one=>Nat.le_refl _
 | .bound k=>Nat.le_refl _
theorem has_opn {x y:Nm}:∀(t:Ty) (i:Nat),hasN y (opn (.name x) t i) = true->y = x\/hasN y t = true
 | .bound k,i,h=>by
  simp only [opn] at h
  split at h
  ·left; simp only [hasN,decide_eq_true_eq] at h; exact h.symm
  ·cases h
 | .plus a b,i,h=>by
  simp only [opn,hasN,Bool.or_eq_true] at h |-
  rcases h with h | h
  ·rcases has_opn a i h with h | h<;>simp [h]
  ·rcases has_opn b i h with h | h<;>simp [h]
 | .times a b,i,h=>by
  simp only [opn,hasN,Bool.or_eq_true] at h |-
  rcases h with h | h
  ·rcases has_opn a i h with h | h<;>simp [h]
  ·rcases has_opn b i h with h | h<;>simp [h]
 | .rc a,i,h=>has_opn a (i+1) h
 | .zero,i,h=>by cases h
 | .one,i,h=>by cases h
 | .name s,i,h=>.inr h
theorem has_sub {x y:Nm} {u:Ty}:∀t:Ty,hasN y (sub x u t) = true->hasN y u = true\/(y≠x/\hasN y t = true)
 | .name s,h=>by
  simp only [sub] at h
  split at h
  ·exact .inl h
  ·rename_i hs
   simp only [hasN,decide_eq_true_eq] at h
   subst h
   exact .inr ⟨hs,by simp [hasN]⟩
 | .plus a b,h=>by
  simp only [sub,hasN,Bool.or_eq_true] at h |-
  rcases h with h | h
  ·rcases has_sub a h with h | h<;>simp [h]
  ·rcases has_sub b h with h | h<;>simp [h]
 | .times a b,h=>by
  simp only [sub,hasN,Bool.or_eq_true] at h |-
  rcases h with h | h
  ·rcases has_sub a h with h | h<;>simp [h]
  ·rcases has_sub b h with h | h<;>simp [h]
 | .rc a,h=>by
  simp only [sub,hasN] at h |-
  exact has_sub a h
 | .zero,h=>by cases h
 | .one,h=>by cases h
 | .bound k,h=>by cases h
def swp (x y:Nm):Nm->Nm:=fun s=>if s = x then y else if s = y then x else s
theorem swp_inj (x y:Nm):Inj (swp x y):=by
 intro a b h
 unfold swp at h
 by_cases h1:a = x<;>by_cases h2:a = y<;>by_cases h3:b = x<;>by_cases h4:b = y<;>simp_all
theorem swp_l (x y:Nm):swp x y x = y:=by simp [swp]
theorem swp_o {x y s:Nm} (h:s≠x) (h':s≠y):swp x y s = s:=by simp [swp,h,h']
theorem ren_swp {x y:Nm} {t:Ty} (h:hasN x t = false) (h':hasN y t = false):ren (swp x y) t = t :=
 ren_id t fun z hz=>swp_o (fun e=>by subst e; rw [h] at hz; cases hz) (fun e=>by subst e; rw [h'] at hz; cases hz)
def drc (a:Ty) (x:Nm) (c d:Ty):Ty:=.rc (.plus (sub x (.rc a) c) (.times (sub x (.rc a) d) (.bound 0)))
inductive Dv:Ty->Nm->Ty->Prop
 | zero (s):Dv .zero s .zero
 | one (s):Dv .one s .zero
 | bound (k s):Dv (.bound k) s .zero
 | hit (s):Dv (.name s) s .one
 | miss {n s} (h:n≠s):Dv (.name n) s .zero
 | plus {a b s a' b'} (h1:Dv a s a') (h2:Dv b s b') (hl:(Ty.plus a' b').atoms<=400):Dv (.plus a b) s (.plus a' b')
 | times {a b s a' b'} (h1:Dv a s a') (h2:Dv b s b') (hl:(Ty.plus (.times a' b) (.times a b')).atoms<=400):Dv (.times a b) s (.plus (.times a' b) (.times a b'))
 | rc {a s c d} (x:Nm) (hx:hasN x a = false) (hs:x≠s) (h1:Dv (opn (.name x) a 0) s c) (h2:Dv (opn (.name x) a 0) x d) (hl:(drc a x c d).atoms<=400):Dv (.rc a) s (drc a x c d)
theorem ren_drc {f:Nm->Nm} (hf:Inj f) (a:Ty) (x:Nm) (c d:Ty):ren f (drc a x c d) = drc (ren f a) (f x) (ren f c) (ren f d):=by
 simp only [drc,ren,ren_sub hf]
theorem Dv.ren {f:Nm->Nm} (hf:Inj f) {t d:Ty} {s:Nm} (h:Dv t s d):Dv (ren f t) (f s) (ren f d):=by
 induction h with
 | zero s=>exact .zero _
 | one s=>exact .one _
 | bound k s=>exact .bound _ _
 | hit s=>exact .hit _
 | miss h=>exact .miss fun e=>h (hf _ _ e)
 | plus h1 h2 hl i1 i2=>exact .plus i1 i2 (by rw [<-ren_atoms f] at hl; exact hl)
 | times h1 h2 hl i1 i2=>exact .times i1 i2 (by rw [<-ren_atoms f] at hl; exact hl)
 | rc x hx hs h1 h2 hl i1 i2 =>
  rw [ren_drc hf]
  rw [ren_opn] at i1 i2
  exact .rc (f x) (by rw [ren_has hf]; exact hx) (fun e=>hs (hf _ _ e)) i1 i2 (by rw [<-ren_drc hf,ren_atoms]; exact hl)
theorem Dv.names {t d:Ty} {s:Nm} (h:Dv t s d):∀y,hasN y d = true->hasN y t = true:=by
 induction h with
 | zero s=>intro y hy; cases hy
 | one s=>intro y hy; cases hy
 | bound k s=>intro y hy; cases hy
 | hit s=>intro y hy; cases hy
 | miss h=>intro y hy; cases hy
 | plus h1 h2 hl i1 i2 =>
  intro y hy
  simp only [hasN,Bool.or_eq_true] at hy |-
  rcases hy with hy | hy
  ·exact .inl (i1 y hy)
  ·exact .inr (i2 y hy)
 | times h1 h2 hl i1 i2 =>
  intro y hy
  simp only [hasN,Bool.or_eq_true] at hy |-
  rcases hy with(hy | hy) | (hy | hy)
  ·exact .inl (i1 y hy)
  ·exact .inr hy
  ·exact .inl hy
  ·exact .inr (i2 y hy)
 | rc x hx hs h1 h2 hl i1 i2 =>
  intro y hy
  simp only [drc,hasN,Bool.or_eq_true,Bool.or_false] at hy |-
  have key:∀{a c:Ty},(∀y,hasN y c = true->hasN y (opn (.name x) a 0) = true)->hasN y (sub x (.rc a) c) = true->hasN y a = true:=fun i h=>by
   rcases has_sub _ h with h | ⟨h,h'⟩
   ·exact h
   ·rcases has_opn _ _ (i y h') with e | e
    ·exact absurd e h
    ·exact e
  rcases hy with hy | hy
  ·exact key i1 hy
  ·exact key i2 hy
theorem Dv.fresh {t d:Ty} {s y:Nm} (h:Dv t s d) (hy:hasN y t = false):hasN y d = false:=by
 cases e:hasN y d with
 | false=>rfl
 | true=>rw [h.names y e] at hy; cases hy
theorem Dv.move {a c:Ty} {x y s:Nm} (hx:hasN x a = false) (hy:hasN y a = false) (h:Dv (opn (.name x) a 0) s c):Dv (opn (.name y) a 0) (swp x y s) (Go.Proofs.Trees.ren (swp x y) c):=by
 have:=h.ren (swp_inj x y)
 rw [ren_opn,swp_l,ren_swp hx hy] at this
 exact this
theorem move_sub {a c:Ty} {x y s:Nm} (hx:hasN x a = false) (hy:hasN y a = false) (h:Dv (opn (.name x) a 0) s c):sub y (.rc a) (ren (swp x y) c) = sub x (.rc a) c:=by
 have e:=ren_sub (swp_inj x y) x (.rc a) c
 rw [swp_l,ren_swp (t:=.rc a) hx hy] at e
 rw [<-e]
 have key:∀z,(z = x\/z = y)->hasN z (sub x (.rc a) c) = false:=fun z hz=>by
  cases q:hasN z (sub x (.rc a) c) with
  | false=>rfl
  | true =>
   exfalso
   have hz':hasN z a = false:=by rcases hz with rfl | rfl<;>assumption
   rcases has_sub _ q with h1 | ⟨h1,h2⟩
   ·rw [show hasN z (.rc a) = hasN z a from rfl,hz'] at h1; cases h1
   ·rcases has_opn _ _ (h.names z h2) with e | e
    ·exact h1 e
    ·rw [hz'] at e; cases e
 exact ren_swp (key x (.inl rfl)) (key y (.inr rfl))
theorem Dv.uniq:∀(n:Nat) (t:Ty),t.atoms<=n->∀{s:Nm} {d d':Ty},Dv t s d->Dv t s d'->d = d'
 | 0,t,h,_,_,_,_,_=>by have:=atoms_pos t; omega
 | n+1,t,hn,s,d,d',h,h'=>by
  cases h with
  | zero=>cases h'; rfl
  | one=>cases h'; rfl
  | bound=>cases h'; rfl
  | hit =>
   cases h' with
   | hit=>rfl
   | miss h=>exact absurd rfl h
  | miss h =>
   cases h' with
   | hit=>exact absurd rfl h
   | miss _=>rfl
  | plus h1 h2 =>
   simp only [Ty.atoms] at hn
   cases h' with
   | plus g1 g2=>rw [Dv.uniq n _ (by omega) h1 g1,Dv.uniq n _ (by omega) h2 g2]
  | times h1 h2 =>
   simp only [Ty.atoms] at hn
   cases h' with
   | times g1 g2=>rw [Dv.uniq n _ (by omega) h1 g1,Dv.uniq n _ (by omega) h2 g2]
  | rc x hx hs h1 h2 =>
   simp only [Ty.atoms] at hn
   cases h' with
   | rc y hy hs' g1 g2 =>
    rename_i a _ _ _ _ _ _
    have m1:=h1.move hx hy
    have m2:=h2.move hx hy
    rw [swp_o (Ne.symm hs) (Ne.symm hs')] at m1
    rw [swp_l] at m2
    have e1:=Dv.uniq n _ (by rw [opn_atoms]; omega) m1 g1
    have e2:=Dv.uniq n _ (by rw [opn_atoms]; omega) m2 g2
    rw [drc,drc,<-e1,<-e2,move_sub hx hy h1,move_sub hx hy h2]
theorem Dv.small {t d:Ty} {s:Nm} (h:Dv t s d):d.atoms<=400:=by
 cases h<;>first | assumption | simp [Ty.atoms]
open Classical in
noncomputable def dvO (t:Ty) (s:Nm):Option Ty:=if h:∃d,Dv t s d then some (Classical.choose h) else none
theorem dvO_iff {t:Ty} {s:Nm} {d:Ty}:dvO t s = some d↔Dv t s d:=by
 unfold dvO
 by_cases h:∃d,Dv t s d
 ·rw [dif_pos h]
  have:=Classical.choose_spec h
  constructor
  ·intro e; cases e; exact this
  ·intro g; rw [Dv.uniq _ t (Nat.le_refl _) this g]
 ·rw [dif_neg h]
  exact⟨fun e=>(by cases e),fun g=>absurd ⟨d,g⟩ h⟩
def chk (t:Ty):Option Ty:=if t.atoms<=400 then some t else none
theorem chk_some {t d:Ty}:chk t = some d↔t.atoms<=400/\t = d:=by
 unfold chk
 split
 ·rename_i h; simp [h]
 ·rename_i h; simp [h]
theorem opt_ext {α:Type} {a b:Option α} (h:∀d,a = some d↔b = some d):a = b:=by
 cases a with
 | none=>cases b with
  | none=>rfl
  | some x=>have:=(h x).2 rfl; cases this
 | some x=>exact((h x).1 rfl).symm
theorem dvO_zero (s:Nm):dvO .zero s = some .zero:=dvO_iff.2 (.zero _)
theorem dvO_one (s:Nm):dvO .one s = some .zero:=dvO_iff.2 (.one _)
theorem dvO_bound (k:Nat) (s:Nm):dvO (.bound k) s = some .zero:=dvO_iff.2 (.bound _ _)
theorem dvO_name (n s:Nm):dvO (.name n) s = some (if n = s then .one else .zero):=by
 split
 ·rename_i h; subst h; exact dvO_iff.2 (.hit _)
 ·rename_i h; exact dvO_iff.2 (.miss h)
theorem dvO_plus (a b:Ty) (s:Nm):dvO (.plus a b) s = (dvO a s).bind fun a'=>(dvO b s).bind fun b'=>chk (.plus a' b'):=by
 refine opt_ext fun d=>?_
 rw [dvO_iff]
 simp only [Option.bind_eq_some_iff,dvO_iff,chk_some]
 constructor
 ·intro h; cases h with | plus h1 h2 hl=>exact⟨_,h1,_,h2,hl,rfl⟩
 ·rintro⟨a',h1,b',h2,hl,rfl⟩; exact .plus h1 h2 hl
theorem dvO_times (a b:Ty) (s:Nm):dvO (.times a b) s = (dvO a s).bind fun a'=>(dvO b s).bind fun b'=>chk (.plus (.times a' b) (.times a b')):=by
 refine opt_ext fun d=>?_
 rw [dvO_iff]
 simp only [Option.bind_eq_some_iff,dvO_iff,chk_some]
 constructor
 ·intro h; cases h with | times h1 h2 hl=>exact⟨_,h1,_,h2,hl,rfl⟩
 ·rintro⟨a',h1,b',h2,hl,rfl⟩; exact .times h1 h2 hl
theorem dvO_rc {a:Ty} {s x:Nm} (hx:hasN x a = false) (hs:x≠s):dvO (.rc a) s = (dvO (opn (.name x) a 0) s).bind fun c=>(dvO (opn (.name x) a 0) x).bind fun d=>chk (drc a x c d):=by
 refine opt_ext fun d=>?_
 rw [dvO_iff]
 simp only [Option.bind_eq_some_iff,dvO_iff,chk_some]
 constructor
 ·intro h
  cases h with
  | rc y hy hs' h1 h2 hl =>
   have m1:=h1.move hy hx
   have m2:=h2.move hy hx
   rw [swp_o (Ne.symm hs') (Ne.symm hs)] at m1
   rw [swp_l] at m2
   refine⟨_,m1,_,m2,?_⟩
   have e:∀c d,sub x (.rc a) (ren (swp y x) c) = sub y (.rc a) c->sub x (.rc a) (ren (swp y x) d) = sub y (.rc a) d->drc a x (ren (swp y x) c) (ren (swp y x) d) = drc a y c d:=fun c d e1 e2=>by rw [drc,drc,e1,e2]
   rw [e _ _ (move_sub hy hx h1) (move_sub hy hx h2)]
   exact⟨hl,rfl⟩
 ·rintro⟨c,h1,d',h2,hl,rfl⟩; exact .rc x hx hs h1 h2 hl
noncomputable def lpO (a:Ty) (x:Nm):Option Ty:=(dvO (opn (.name x) a 0) x).bind fun d=>chk (sub x (.rc a) d)
theorem lpO_eq {a:Ty} {x y:Nm} (hx:hasN x a = false) (hy:hasN y a = false):lpO a x = lpO a y:=by
 have key:∀{x y:Nm} {d:Ty},hasN x a = false->hasN y a = false->lpO a x = some d->lpO a y = some d:=fun {x y d} hx hy h=>by
  simp only [lpO,Option.bind_eq_some_iff,dvO_iff,chk_some] at h |-
  obtain⟨d',h1,hl,rfl⟩:=h
  have m1:=h1.move hx hy
  rw [swp_l] at m1
  exact⟨_,m1,by rw [move_sub hx hy h1]; exact⟨hl,rfl⟩⟩
 exact opt_ext fun d=>⟨key hx hy,key hy hx⟩
end Go.Proofs.Trees
namespace Go.Proofs.Trees
open Go Go.VL
theorem Sqeb (b:UInt8):FSpec Tryz.prog 136 [.v (.int .u8 (b.toNat:Int))] [] (Det (.v (.bool (isA b)))):=by
 refine Fqds _ ?_
 simp only [tqb6,↓zq,zs,hasK,Det,isA]
 repeat' (apply And.intro<;>intro _)
 all_goals first | (congr 2; rw [Bool.eq_iff_iff]; simp; omega) | (congr 2; simp; omega)
def RdR (s:List UInt8) (x:Option (E×List UInt8)):AV->List Ob->Prop:=fun r o=>o = [] /\
 match x with
 | some (e,u)=>r = .tup [e.sav,.v (.int .i64 ((s.length - u.length:Nat):Int))]
 | none=>∃(c:List UInt8) (d:AV),LK.sl.has d/\r = .tup [.agg [.v (.string (mk c)),d],.v (.int .i64 (-1))]
theorem RdR.ne (s:List UInt8) (x:Option (E×List UInt8)):∃r o,RdR s x r o:=by
 cases x with
 | some q=>exact⟨_,_,rfl,rfl⟩
 | none=>exact⟨_,_,rfl,[],.v (.slice none 0 0),(has_slnil).mpr trivial,rfl⟩
def jc (c:List UInt8) (d:AV):Ob:=.cells [.v (.string (mk c)),d]
theorem Lq8s (s:List UInt8) (hs:s.length<=8000) (from_:Int) (c1 c2:List UInt8) (d1 d2:AV) (h1:LK.sl.has d1) (h2:LK.sl.has d2):∀(k i:Nat),i+k = s.length->Lq47 [.v (.string (mk s)),.v (.int .i64 (i:Int)),.v (.int .i64 from_)] [jc c1 d1,jc c2 d2]
  (LIs 1 [.v (.string (mk s)),.v (.int .i64 ((i+((s.drop i).takeWhile isA).length:Nat):Int)),.v (.int .i64 from_)] [jc c1 d1,jc c2 d2])
 | 0,i,hi=>by
  refine Gqa4 _ _ _ _ _ _ _ ?_
  have hd:s.drop i = []:=List.drop_eq_nil_of_le (by omega)
  simp only [rq4o,↓zq,zs,hasK,zt]
  exact⟨h1,h2,fun h=>by omega,fun _=>by simp [LIs,hd,jc]⟩
 | k+1,i,hi=>by
  have hlt:i < s.length:=by omega
  refine Gqa4 _ _ _ _ _ _ _ ?_
  simp only [rq4o,↓zq,zs,hasK,zt,bt_mk s i hlt]
  refine⟨h1,h2,fun _=>⟨by omega,?_⟩,fun h=>by omega⟩
  refine wp_det (Sqeb _) ?_
  simp only [↓zq,zs,hasK]
  refine⟨fun hb=>?_,fun hb=>?_⟩
  ·rw [wrap_succ i (by omega)]
   have:=Lq8s s hs from_ c1 c2 d1 d2 h1 h2 k (i+1) (by omega)
   rw [tw_step hlt hb,show i+(((s.drop (i+1)).takeWhile isA).length+1) = i+1+((s.drop (i+1)).takeWhile isA).length by omega]
   exact this
  ·simp [LIs,tw_stop hlt hb,jc]
def LdR (s:List UInt8) (x:Option (E×List UInt8)):Nat->List AV->List Ob->Prop:=fun t ys o=>t = 2 /\
 match x with
 | some (e,u)=>∃l,e = .list l/\ys = [.v (.int .i64 ((s.length - u.length:Nat):Int))]/\o = [jc [] .any,.vec 2 (E.scellss l)]
 | none=>∃es,ys = [.v (.int .i64 (-1))]/\o = [jc [] .any,.vec 2 es]
theorem sav_has (e:E):(e.sav = .agg e.sav.cs/\e.sav.cs.length = 2/\hasL [.str,.sl] e.sav.cs 0) = True:=by
 apply eq_true
 cases e<;>simp [E.sav,E.scells,cs_agg,hasL,has_str,has_slnil,has_sl]
theorem scells_eta (e:E):[AV.v (.string ((e.sav.cs.getD 0 .any).toStr)),e.sav.cs.getD 1 .any] = e.scells:=by
 cases e<;>rfl
theorem drop_cons {s:List UInt8} {j:Nat} (hj:j < s.length):s.drop j = s.getD j 0::s.drop (j+1):=by
 rw [List.drop_eq_getElem_cons hj]; simp [List.getD_eq_getElem?_getD,hj]
theorem Lqbd (s:List UInt8) (hs:s.length<=8000) (d:Nat) (hd:d<=300) (f:List UInt8->Option (E×List UInt8)) (hf:∀u e r,f u = some (e,r)->∃j,r = u.drop j/\0 < j/\j<=u.length)
  (ih:∀j,j<=s.length->FSpec Tryz.prog 115 [.v (.string (mk s)),.v (.int .i64 (j:Int)),.v (.int .i64 ((d+1:Nat):Int))] [] (RdR s (f (s.drop j)))) :
  ∀(n i:Nat) (acc:List E) (c1:List UInt8) (d1:AV),LK.sl.has d1->s.length - (i+1) < n->i < s.length->s.length - i+acc.length<=8001->Lq3v [.v (.string (mk s)),.v (.int .i64 (i:Int)),.v (.int .i64 (d:Int))] [jc c1 d1,jc [] .any,.vec 2 (E.scellss acc)]
   (LdR s (rdL f n (s.drop (i+1)) acc))
 | 0,i,acc,c1,d1,h1,hn,_,_=>by omega
 | n+1,i,acc,c1,d1,h1,hn,hi,hl=>by
  refine Gqfx _ _ _ _ _ _ _ ?_
  simp only [rq88,↓zq,zs,hasK,jc]
  refine⟨h1,?_⟩
  rw [wrap_succ i (by omega),wrap_succ d (by omega)]
  refine wp_call (ih (i+1) (by omega)) (RdR.ne _ _) ?_
  rintro r o ⟨rfl,hr⟩
  have hff:=hf (s.drop (i+1))
  unfold rdL
  cases hq:f (s.drop (i+1)) with
  | none =>
   rw [hq] at hr
   obtain⟨c,d',hd',rfl⟩:=hr
   simp only [↓zq,zs,hasK,zt,hasL]
   refine⟨hd',fun _=>⟨rfl,_,rfl,rfl⟩,fun h=>by omega⟩
  | some q =>
   obtain⟨e,u⟩:=q
   rw [hq] at hr
   subst hr
   obtain⟨j,hu,hj0,hj⟩:=hff e u hq
   rw [List.drop_drop] at hu
   simp only [List.length_drop] at hj
   have hul:u.length = s.length - (i+1+j):=by rw [hu,List.length_drop]
   have hpos:s.length - u.length = i+1+j:=by omega
   simp only [↓zq,zs,hasK,zt,sav_has,hpos,scells_eta,scellss_len]
   refine⟨fun h=>by omega,fun _=>⟨fun h=>?_,fun h=>⟨⟨fun c hc=>(by simp at hc; rw [hc]; cases e<;>rfl),by omega⟩,?_⟩⟩⟩
   ·have:u = []:=by rw [hu]; exact List.drop_eq_nil_of_le (by omega)
    subst this
    exact⟨rfl,_,rfl,rfl⟩
   ·have hlt:i+1+j < s.length:=by omega
    rw [drop_cons hlt] at hu
    subst hu
    rw [bt_mk s _ hlt]
    generalize hb:s.getD (i+1+j) 0 = b
    refine⟨by omega,fun h41=>?_,fun h41=>⟨by omega,fun h32=>?_,fun h32=>?_⟩⟩
    ·have h41':b.toNat = 41:=by omega
     dsimp only
     rw [if_pos h41',wrap_succ _ (by omega)]
     refine⟨rfl,acc++[e],rfl,?_,?_⟩
     ·rw [List.length_drop]; congr 3; omega
     ·simp [jc,scellss_app,E.scellss]
    ·have h41':¬ b.toNat = 41:=by omega
     have h32':¬ b.toNat = 32:=by omega
     dsimp only
     rw [if_neg h41',if_neg h32']
     exact⟨rfl,_,rfl,rfl⟩
    ·have h41':¬ b.toNat = 41:=by omega
     have h32':b.toNat = 32:=by omega
     dsimp only
     rw [if_neg h41',if_pos h32']
     have:=Lqbd s hs d hd f hf ih n (i+1+j) (acc++[e]) c1 d1 h1 (by omega) hlt (by simp; omega)
     simpa [jc,scellss_app,E.scellss] using this
theorem rd_drop (k:Nat) (u:List UInt8) (e:E) (r:List UInt8) (h:rd k u = some (e,r)):∃j,r = u.drop j/\0 < j/\j<=u.length:=by
 have suf:∀(k:Nat) (u:List UInt8) (e:E) (r:List UInt8),rd k u = some (e,r)->r <:+ u:=by
  intro k
  have tw:∀u:List UInt8,u.dropWhile isA <:+ u:=fun u=>List.dropWhile_suffix _
  have ll:∀(f:List UInt8->Option (E×List UInt8)),(∀u e r,f u = some (e,r)->r <:+ u)->∀(n:Nat) (u:List UInt8) (acc:List E) (e:E) (r:List UInt8),rdL f n u acc = some (e,r)->r <:+ u:=by
   intro f hf n
   induction n with
   | zero=>intro u acc e r h; cases h
   | succ n ih =>
    intro u acc e r h
    simp only [rdL] at h
    split at h
    ·rename_i p c r' hs
     have h1:r' <:+ u:=(List.suffix_cons c r').trans (hf _ _ _ hs)
     split at h
     ·cases h; exact h1
     ·split at h
      ·exact(ih _ _ _ _ h).trans h1
      ·cases h
    ·cases h
  induction k with
  | zero =>
   intro u e r h
   simp only [rd] at h
   split at h
   ·cases h
   ·cases h; exact tw u
  | succ k ih =>
   intro u e r h
   simp only [rd] at h
   split at h
   ·split at h
    ·split at h
     ·exact(ll _ ih _ _ _ _ _ h).trans (List.suffix_cons _ _)
     ·cases h
    ·cases h
   ·cases h; exact tw u
 obtain⟨p,hp⟩:=suf k u e r h
 have hlt:=rd_lt k u e r h
 have:=congrArg List.length hp
 simp only [List.length_append] at this
 exact⟨p.length,by rw [<-hp]; simp,by omega,by omega⟩
theorem rdL_none (n:Nat) (u:List UInt8) (acc:List E):rdL (fun _=>none) n u acc = none:=by
 cases n<;>rfl
theorem Sqdm (s:List UInt8) (j:Nat):FSpec Tryz.prog 115 [.v (.string (mk s)),.v (.int .i64 (j:Int)),.v (.int .i64 ((300+1:Nat):Int))] [] (RdR s none):=by
 refine Fqck _ _ _ ?_
 simp only [tq34,↓zq,zs,hasK]
 exact⟨fun _=>⟨rfl,[],_,(has_slnil).mpr trivial,rfl⟩,fun h=>by omega⟩
theorem l1Read_body (s:List UInt8) (hs:s.length<=8000) (d i:Nat) (hd:d<=300) (hi:i<=s.length) (f:List UInt8->Option (E×List UInt8)) (hf:∀u e r,f u = some (e,r)->∃j,r = u.drop j/\0 < j/\j<=u.length)
  (ih:∀j,j<=s.length->FSpec Tryz.prog 115 [.v (.string (mk s)),.v (.int .i64 (j:Int)),.v (.int .i64 ((d+1:Nat):Int))] [] (RdR s (f (s.drop j)))) (x:Option (E×List UInt8))
  (h0:i = s.length->x = none)
  (h1:i < s.length->(s.drop i).takeWhile isA≠[]->x = some (.atom ((s.drop i).takeWhile isA),(s.drop i).dropWhile isA))
  (h2:i < s.length->(s.drop i).takeWhile isA = []->¬ (s.getD i 0).toNat = 40->x = none)
  (h3:i < s.length->(s.getD i 0).toNat = 40->x = rdL f (s.length - (i+1)+1) (s.drop (i+1)) []) :
  FSpec Tryz.prog 115 [.v (.string (mk s)),.v (.int .i64 (i:Int)),.v (.int .i64 (d:Int))] [] (RdR s x):=by
 refine Fqck _ _ _ ?_
 simp only [tq34,↓zq,zs,hasK,zt]
 refine⟨fun h=>by omega,fun _=>⟨fun h=>?_,fun h=>⟨by omega,?_⟩⟩⟩
 ·rw [h0 (by omega)]
  exact⟨rfl,[],_,(has_slnil).mpr trivial,rfl⟩
 ·have hlt:i < s.length:=by omega
  rw [bt_mk s i hlt]
  refine⟨fun h40=>?_,fun h40=>?_⟩
  ·have h40':¬ (s.getD i 0).toNat = 40:=by omega
   refine wp_loop1 (Lq8s s hs _ [] [] _ _ ((has_slnil).mpr trivial) ((has_slnil).mpr trivial) (s.length - i) i (by omega)) ?_
   have hex:(List.take (i+((s.drop i).takeWhile isA).length) s).drop i = (s.drop i).takeWhile isA:=by
    rw [List.drop_take,Nat.add_sub_cancel_left]; exact take_tw _
   have hle:i+((s.drop i).takeWhile isA).length<=s.length:=by
    have:=tw_len (s.drop i); simp only [List.length_drop] at this; omega
   simp only [jc,↓zq,zs,hasK,zt,hex]
   refine⟨by omega,fun hnil=>?_,fun hnil=>?_⟩
   ·rw [h2 hlt hnil h40',hnil]
    exact⟨rfl,[],_,(has_slnil).mpr trivial,rfl⟩
   ·rw [h1 hlt hnil]
    refine⟨rfl,?_⟩
    have:=tw_len (s.drop i)
    simp only [List.length_drop] at this
    show _ = AV.tup [E.sav (.atom _),_]
    have e:s.length - ((s.drop i).dropWhile isA).length = i+((s.drop i).takeWhile isA).length:=by omega
    rw [e]; rfl
  ·have h40':(s.getD i 0).toNat = 40:=by omega
   rw [h3 hlt h40']
   refine wpt_loop (Lqbd s hs d hd f hf ih (s.length - (i+1)+1) i [] [] _ ((has_slnil).mpr trivial) (by omega) hlt (by simp; omega)) ?_ ?_
   ·rintro ys o ⟨h,_⟩; cases h
   ·rintro ys o ⟨_,hr⟩
    cases hq:rdL f (s.length - (i+1)+1) (s.drop (i+1)) [] with
    | none =>
     rw [hq] at hr
     obtain⟨es,rfl,rfl⟩:=hr
     simp only [jc,↓zq,zs,hasK]
     exact⟨rfl,[],_,(has_sl _).mpr trivial,rfl⟩
    | some q =>
     obtain⟨e,u⟩:=q
     rw [hq] at hr
     obtain⟨l,rfl,rfl,rfl⟩:=hr
     simp only [jc,↓zq,zs,hasK]
     exact⟨rfl,rfl⟩
theorem Sqfn (s:List UInt8) (hs:s.length<=8000):∀(k:Nat),k<=300->∀i,i<=s.length->FSpec Tryz.prog 115 [.v (.string (mk s)),.v (.int .i64 (i:Int)),.v (.int .i64 ((300 - k:Nat):Int))] [] (RdR s (rd k (s.drop i))):=by
 intro k
 have hnil:∀k,rd k [] = none:=fun k=>by cases k<;>simp [rd]
 have ha40:∀b:UInt8,b.toNat = 40->isA b = false:=fun b hb=>by simp [isA,hb]
 induction k with
 | zero =>
  intro hk i hi
  refine l1Read_body s hs 300 i (by omega) hi (fun _=>none) (fun _ _ _ h=>by cases h) (fun j _=>Sqdm s j) _ (fun h=>?_) (fun hlt h=>?_) (fun hlt h h40=>?_) (fun hlt h40=>?_)
  ·rw [List.drop_eq_nil_of_le (by omega)]; exact hnil 0
  ·simp only [rd,if_neg h]
  ·simp only [rd,if_pos h]
  ·rw [rdL_none]
   have:(s.drop i).takeWhile isA = []:=tw_stop hlt (ha40 _ h40)
   simp only [rd,if_pos this]
 | succ k ih =>
  intro hk i hi
  have hd:300 - (k+1)+1 = 300 - k:=by omega
  refine l1Read_body s hs (300 - (k+1)) i (by omega) hi (rd k) (rd_drop k) (fun j hj=>by rw [hd]; exact ih (by omega) j hj) _ (fun h=>?_) (fun hlt h=>?_) (fun hlt h h40=>?_) (fun hlt h40=>?_)
  ·rw [List.drop_eq_nil_of_le (by omega)]; exact hnil _
  ·simp only [rd,if_neg h]
  ·rw [drop_cons hlt] at h |-
   simp only [rd,if_pos h,if_neg h40]
  ·have h:=tw_stop hlt (ha40 _ h40)
   rw [drop_cons hlt] at h |-
   simp only [rd,if_pos h,if_pos h40,List.length_drop]
end Go.Proofs.Trees
namespace Go.Proofs.Trees
open Go Go.VL
theorem sc_agg (e:E):AV.agg [.v (.string ((e.scells.getD 0 .any).toStr)),e.scells.getD 1 .any] = e.sav:=by cases e<;>rfl
theorem sc_len (e:E):e.scells.length = 2:=by cases e<;>rfl
theorem sc_has (e:E):hasL [.str,.sl] e.scells 0 = True:=by
 apply eq_true
 cases e<;>simp [E.scells,hasL,has_str,has_slnil,has_sl]
theorem sc_hd (e:E):e.scells.headD .any = .v (.string (mk e.at)):=by cases e<;>rfl
theorem Sq2 (x:E) (l:List E):FSpec Tryz.prog 65 [.agg [.v (.string (mk [])),.sl (E.scellss (x::l))]] [] (Det (.v (.string (mk x.at)))):=by
 refine Fq4k _ _ ((has_sl _).mpr trivial) ?_
 simp only [tq2f,E.scellss,↓zq,zs,hasK,zt,Det,sc_len,sc_hd,Nat.le_refl]
 refine⟨fun h=>absurd rfl h,fun _=>⟨fun h=>by omega,fun _=>⟨by omega,by omega⟩⟩⟩
theorem Sqfa:FSpec Tryz.prog 65 [.agg [.v (.string (mk [])),.sl (E.scellss [])]] [] (Det (.v (.string (mk [])))):=by
 refine Fq4k _ _ ((has_sl _).mpr trivial) ?_
 simp only [tq2f,E.scellss,↓zq,zs,hasK,zt,Det,sc_len,sc_hd,Nat.le_refl]
 simp
def isTy:E->Bool
 | .atom s=>(s==[48])||(s==[49])||isPar s||isLoo s
 | .list [x,a,b]=>if x.at = [43] then isTy a&&isTy b else if x.at = [42] then isTy a&&isTy b else if x.at = [114,101,99] then isLoo a.at&&isTy b else false
 | .list _=>false
theorem Sq1c:∀(e:E),e.ok->FSpec Tryz.prog 103 [e.sav] [] (Det (.v (.bool (isTy e))))
 | .atom s,hok=>by
  refine Fq8o _ _ ((has_slnil).mpr trivial) ?_
  have hne:s≠[]:=hok
  simp only [tq10,↓zq,zs,hasK,zt,Det,isTy]
  refine⟨fun _=>⟨fun h=>?_,fun h=>⟨fun h1=>?_,fun h1=>?_⟩⟩,fun h=>absurd h hne⟩
  ·simp [h]
  ·simp [h1]
  ·refine wp_det (Sq48 s) ?_
   simp only [↓zq,zs,hasK]
   refine⟨fun hp=>?_,fun hp=>?_⟩
   ·simp [hp]
   ·refine wp_det (Sq58 s) ?_
    simp [↓zq,zs,hasK,hp,h,h1]
 | .list l,hok=>by
  refine Fq8o _ _ ((has_sl _).mpr trivial) ?_
  match l,hok with
  | [],hok=>simp [tq10,E.scellss,↓zq,zs,hasK,zt,Det,isTy]
  | [x],hok=>simp [tq10,E.scellss,↓zq,zs,hasK,zt,Det,isTy]
  | [x,y],hok=>simp [tq10,E.scellss,↓zq,zs,hasK,zt,Det,isTy]
  | x::y::z::w::l,hok =>
   simp only [tq10,E.scellss,↓zq,zs,hasK,zt,Det,isTy]
   exact⟨fun h=>absurd rfl h,fun _=>⟨fun _=>trivial,fun h=>by omega⟩⟩
  | [x,y,z],hok =>
   obtain⟨ok1,ok2,ok3,_⟩:=hok
   simp only [tq10,↓zq,zs,hasK,zt,Det]
   refine⟨fun h=>absurd rfl h,fun _=>⟨fun h=>absurd rfl h,fun _=>?_⟩⟩
   refine wp_det (Sq2 x _) ?_
   simp only [E.scellss,toNat_one,toNat_two,↓zq,zs,hasK,zt,sc_agg,sc_len,sc_has,sc_hd,Nat.le_refl,isTy]
   refine⟨fun h=>?_,fun h=>⟨fun h1=>?_,fun h1=>⟨fun h2=>?_,fun h2=>?_⟩⟩⟩
   ·rw [if_pos h]
    refine⟨by omega,wp_det (Sq1c y ok2) ?_⟩
    simp only [↓zq,zs,hasK]
    refine⟨fun hy=>⟨by omega,wp_det (Sq1c z ok3) ?_⟩,fun hy=>?_⟩
    ·simp only [↓zq,zs,hasK,hy,Bool.true_and]
    ·rw [hy]; rfl
   ·rw [if_neg h,if_pos h1]
    refine⟨by omega,wp_det (Sq1c y ok2) ?_⟩
    simp only [↓zq,zs,hasK]
    refine⟨fun hy=>⟨by omega,wp_det (Sq1c z ok3) ?_⟩,fun hy=>?_⟩
    ·simp only [↓zq,zs,hasK,hy,Bool.true_and]
    ·rw [hy]; rfl
   ·rw [if_neg h,if_neg h1,if_pos h2]
    refine⟨by omega,by omega,wp_det (Sq58 _) ?_⟩
    simp only [↓zq,zs,hasK]
    refine⟨fun hy=>⟨by omega,wp_det (Sq1c z ok3) ?_⟩,fun hy=>?_⟩
    ·simp only [↓zq,zs,hasK,hy,Bool.true_and]
    ·rw [hy]; rfl
   ·rw [if_neg h,if_neg h1,if_neg h2]
theorem tyOf_some:∀(e:E) (ar:List (List UInt8)),(tyOf e ar).isSome = isTy e
 | .atom s,ar=>by
  simp only [tyOf,isTy]
  by_cases h:s = [48]
  ·simp [h]
  ·by_cases h1:s = [49]
   ·simp [h1]
   ·rw [if_neg h,if_neg h1]
    by_cases h2:isPar s = true
    ·simp [h2]
    ·rw [if_neg h2]
     by_cases h3:isLoo s = true
     ·rw [if_pos h3]; cases lastOf s ar ar.length<;>simp [h3]
     ·rw [if_neg h3]; simp [h,h1,h2,h3]
 | .list [],_=>rfl
 | .list [_],_=>rfl
 | .list [_,_],_=>rfl
 | .list (_::_::_::_::_),_=>rfl
 | .list [x,a,b],ar=>by
  have ha:=tyOf_some a ar
  have hb:=tyOf_some b ar
  have hb2:=tyOf_some b (ar++[a.at])
  rw [isTy]
  by_cases h:x.at = [43]
  ·rw [tyOf_plus ar h,if_pos h,<-ha,<-hb]; cases tyOf a ar<;>cases tyOf b ar<;>rfl
  ·by_cases h1:x.at = [42]
   ·rw [tyOf_times ar h1,if_neg h,if_pos h1,<-ha,<-hb]; cases tyOf a ar<;>cases tyOf b ar<;>rfl
   ·by_cases h2:x.at = [114,101,99]
    ·rw [tyOf_rec ar h2,if_neg h,if_neg h1,if_pos h2,<-hb2]
     cases isLoo a.at<;>cases tyOf b (ar++[a.at])<;>rfl
    ·rw [tyOf_no ar h h1 h2,if_neg h,if_neg h1,if_neg h2]; rfl
mutual
def E.ats:E->Nat
 | .atom _=>1
 | .list l=>E.atss l
def E.atss:List E->Nat
 | []=>0
 | e::l=>e.ats+E.atss l
end
mutual
theorem ats_le:∀e:E,e.ats<=e.sz
 | .atom s=>by simp [E.ats,E.sz]
 | .list l=>by have:=atss_le l; simp only [E.ats,E.sz]; omega
theorem atss_le:∀l:List E,E.atss l<=E.szs l
 | []=>by simp [E.atss,E.szs]
 | e::l=>by have:=ats_le e; have:=atss_le l; simp only [E.atss,E.szs]; omega
end
theorem scellss_getD:∀(l:List E) (i:Nat) (h:i < l.length),(E.scellss l).getD i [] = (l[i]).scells
 | e::l,0,_=>rfl
 | e::l,i+1,h=>by
  have:=scellss_getD l i (by simpa using h)
  simp only [E.scellss,List.getD_cons_succ,List.getElem_cons_succ]; exact this
theorem atss_drop:∀(l:List E) (i:Nat) (h:i < l.length),E.atss (l.drop i) = (l[i]).ats+E.atss (l.drop (i+1)):=by
 intro l i h
 rw [List.drop_eq_getElem_cons h]; rfl
theorem oks_get:∀(l:List E) (i:Nat) (h:i < l.length),E.oks l->(l[i]).ok
 | e::l,0,_,h=>h.1
 | e::l,i+1,hi,h=>oks_get l i (by simpa using hi) h.2
theorem Lq7a (l:List E) (hl:E.atss l < 1000000) (hll:l.length < 1000000) (ih:∀i (h:i < l.length),FSpec Tryz.prog 104 [(l[i]).sav] [] (Det (.v (.int .i64 ((l[i]).ats:Int))))) :
  ∀(k i n:Nat),i+k = l.length->n+E.atss (l.drop i)<=E.atss l->Lq3y [.v (.int .i64 (n:Int)),.v (.int .i64 (i:Int))] [.cells [.v (.string (mk [])),.sl (E.scellss l)]] (LIs 1 [.v (.int .i64 ((n+E.atss (l.drop i):Nat):Int))] [])
 | 0,i,n,hi,hn=>by
  refine Gq9r _ _ _ _ ?_
  simp only [rq33,↓zq,zs,hasK,scellss_len]
  have:l.drop i = []:=List.drop_eq_nil_of_le (by omega)
  refine⟨fun h=>by omega,fun _=>?_⟩
  simp [LIs,this,E.atss]
 | k+1,i,n,hi,hn=>by
  have hlt:i < l.length:=by omega
  refine Gq9r _ _ _ _ ?_
  simp only [rq33,↓zq,zs,hasK,zt,scellss_len,scellss_getD l i hlt,sc_len,sc_has,sc_agg,Nat.le_refl]
  refine⟨fun _=>⟨by omega,?_⟩,fun h=>by omega⟩
  refine wp_det (ih i hlt) ?_
  have h1:=atss_drop l i hlt
  simp only [↓zq,zs,hasK]
  rw [wrap_succ i (by omega),wrap64 _ (by omega) (by omega)]
  have:=Lq7a l hl hll ih k (i+1) (n+(l[i]).ats) (by omega) (by omega)
  rw [h1,<-Nat.add_assoc]
  simpa using this
theorem len_szs:∀l:List E,l.length<=E.szs l
 | []=>by simp [E.szs]
 | e::l=>by
  have:=len_szs l
  have:1<=e.sz:=by cases e<;>simp [E.sz]
  simp only [E.szs,List.length_cons]; omega
theorem sz_get:∀(l:List E) (i:Nat) (h:i < l.length),(l[i]).sz<=E.szs l
 | e::l,0,_=>by simp [E.szs]
 | e::l,i+1,h=>by have:=sz_get l i (by simpa using h); simp only [E.szs,List.getElem_cons_succ]; omega
theorem Sq8n:∀(n:Nat) (e:E),e.sz < n->e.ok->e.sz < 1000000->FSpec Tryz.prog 104 [e.sav] [] (Det (.v (.int .i64 (e.ats:Int))))
 | 0,e,hn,_,_=>by omega
 | n+1,.atom s,hn,hok,hl=>by
  refine Fq6r _ _ ((has_slnil).mpr trivial) ?_
  have hne:s≠[]:=hok
  simp only [tq5m,↓zq,zs,hasK,zt,Det]
  exact⟨fun _=>rfl,fun h=>absurd h hne⟩
 | n+1,.list l,hn,hok,hl=>by
  refine Fq6r _ _ ((has_sl _).mpr trivial) ?_
  simp only [E.sz] at hn hl
  have h1:=atss_le l
  have h2:=len_szs l
  simp only [tq5m,↓zq,zs,hasK,zt,Det]
  refine⟨fun h=>absurd rfl h,fun _=>?_⟩
  refine wp_loop1 (Lq7a l (by omega) (by omega) (fun i hi=>?_) l.length 0 0 (by omega) (by simp)) ?_
  ·have:=sz_get l i hi
   exact Sq8n n (l[i]) (by omega) (oks_get l i hi hok) (by omega)
  ·simp [↓zq,zs,hasK,E.ats]
theorem Sq13 (e:E) (h:e.ok) (hl:e.sz < 1000000):FSpec Tryz.prog 104 [e.sav] [] (Det (.v (.int .i64 (e.ats:Int)))):=Sq8n (e.sz+1) e (by omega) h hl
theorem at_ats {x:E} (h:x.at≠[]):x.ats = 1:=by cases x<;>simp [E.at,E.ats] at h |-
theorem loo_ne {s:List UInt8} (h:isLoo s = true):s≠[]:=by rintro rfl; cases h
theorem tyOf_ats:∀(e:E) (ar:List (List UInt8)) (t:Ty),tyOf e ar = some t->e.ats = t.atoms
 | .atom s,ar,t,h=>by
  simp only [tyOf] at h
  simp only [E.ats]
  split at h
  ·cases h; rfl
  ·split at h
   ·cases h; rfl
   ·split at h
    ·cases h; rfl
    ·split at h
     ·split at h<;>cases h<;>rfl
     ·cases h
 | .list [],_,_,h=>by cases h
 | .list [_],_,_,h=>by cases h
 | .list [_,_],_,_,h=>by cases h
 | .list (_::_::_::_::_),_,_,h=>by cases h
 | .list [x,a,b],ar,t,h=>by
  simp only [E.ats,E.atss]
  by_cases h0:x.at = [43]
  ·rw [tyOf_plus ar h0] at h
   have:=at_ats (x:=x) (by rw [h0]; simp)
   split at h
   ·rename_i t1 t2 e1 e2
    cases h
    have:=tyOf_ats a ar _ e1
    have:=tyOf_ats b ar _ e2
    simp only [Ty.atoms]; omega
   ·cases h
  ·by_cases h1:x.at = [42]
   ·rw [tyOf_times ar h1] at h
    have:=at_ats (x:=x) (by rw [h1]; simp)
    split at h
    ·rename_i t1 t2 e1 e2
     cases h
     have:=tyOf_ats a ar _ e1
     have:=tyOf_ats b ar _ e2
     simp only [Ty.atoms]; omega
    ·cases h
   ·by_cases h2:x.at = [114,101,99]
    ·rw [tyOf_rec ar h2] at h
     have:=at_ats (x:=x) (by rw [h2]; simp)
     split at h
     ·rename_i hl
      have:=at_ats (loo_ne hl)
      split at h
      ·rename_i t1 e1
       cases h
       have:=tyOf_ats b _ _ e1
       simp only [Ty.atoms]; omega
      ·cases h
     ·cases h
    ·rw [tyOf_no ar h0 h1 h2] at h; cases h
def ParR (x:Option E) (b:Bool):AV->List Ob->Prop:=fun r o=>∃c:List UInt8,∃d:AV,LK.sl.has d/\r = .tup [.agg [.v (.string (mk c)),d],.v (.bool b)]/\(b = true->∃e,x = some e/\AV.agg [.v (.string (mk c)),d] = e.sav)
theorem sav_ex (e:E):∃c:List UInt8,∃d:AV,LK.sl.has d/\e.sav = AV.agg [.v (.string (mk c)),d]:=by
 cases e with
 | atom s=>exact⟨s,_,(has_slnil).mpr trivial,rfl⟩
 | list l=>exact⟨[],_,(has_sl _).mpr trivial,rfl⟩
theorem ParR.ne (x:Option E) (b:Bool) (h:b = true->x.isSome = true):∃r o,ParR x b r o:=by
 cases b with
 | false=>exact⟨_,[],[],.v (.slice none 0 0),(has_slnil).mpr trivial,rfl,fun h=>by cases h⟩
 | true =>
  cases x with
  | none=>cases h rfl
  | some e =>
   obtain⟨c,d,hd,he⟩:=sav_ex e
   exact⟨_,[],c,d,hd,rfl,fun _=>⟨e,rfl,he.symm⟩⟩
theorem Sqbk (s:List UInt8):FSpec Tryz.prog 76 [.v (.string (mk s))] [] (ParR (rdT s) (rdT s).isSome):=by
 refine Fqee _ ?_
 simp only [tqbl,↓zq,zs,hasK,zt,rdT]
 refine⟨fun h=>?_,fun h=>?_⟩
 ·rw [if_pos (by omega)]
  exact⟨[],_,(has_slnil).mpr trivial,rfl,fun h=>by cases h⟩
 ·rw [if_neg (by omega)]
  refine wp_call (Sqfn s (by omega) 300 (by omega) 0 (by omega)) (RdR.ne _ _) ?_
  rintro r o ⟨rfl,hr⟩
  rw [List.drop_zero] at hr
  cases hq:rd 300 s with
  | none =>
   rw [hq] at hr
   obtain⟨c,d,hd,rfl⟩:=hr
   simp only [↓zq,zs,hasK,zt,hasL]
   refine⟨hd,c,d,hd,?_,fun h=>by cases h⟩
   have:((-1:Int)==(s.length:Int)) = false:=by
    rw [beq_eq_false_iff_ne]; omega
   rw [this]; rfl
  | some q =>
   obtain⟨e,u⟩:=q
   rw [hq] at hr
   subst hr
   have hlt:=rd_lt _ _ _ _ hq
   obtain⟨c,d,hd,he⟩:=sav_ex e
   simp only [he,↓zq,zs,hasK,zt,hasL]
   cases u with
   | nil =>
    refine⟨hd,c,d,hd,?_,fun _=>⟨e,rfl,he.symm⟩⟩
    simp
   | cons b u =>
    simp only [List.length_cons] at hlt |-
    refine⟨hd,c,d,hd,?_,fun h=>by cases h⟩
    have:(((s.length - (u.length+1):Nat):Int)==(s.length:Int)) = false:=by simp; omega
    rw [this]; rfl
def rdE (s:List UInt8):Option E:=match rdT s with
 | none=>none
 | some e=>if isTy e = true/\e.ats<=400 then some e else none
theorem Sq4y (s:List UInt8):FSpec Tryz.prog 64 [.v (.string (mk s))] [] (ParR (rdE s) (rdE s).isSome):=by
 refine Fqfl _ ?_
 unfold tq5u
 refine wp_call (Sqbk s) (ParR.ne _ _ (fun h=>h)) ?_
 rintro r o ⟨c,d,hd,rfl,hh⟩
 simp only [↓zq,zs,hasK,zt,hasL,rdE]
 refine⟨hd,fun h=>?_,fun h=>?_⟩
 ·obtain⟨e,he,hce⟩:=hh h
  obtain⟨hok,hsz⟩:=rdT_ok he
  rw [he,hce]
  refine wp_det (Sq1c e hok) ?_
  simp only [↓zq,zs,hasK]
  refine⟨fun hi=>?_,fun hi=>?_⟩
  ·refine wp_det (Sq13 e hok (by omega)) ?_
   simp only [↓zq,zs,hasK,hi]
   refine⟨c,d,hd,?_,?_⟩
   ·rw [hce]
    by_cases h4:e.ats<=400
    ·rw [if_pos h4]; exact congrArg (fun b=>AV.tup [e.sav,.v (.bool b)]) (decide_eq_true (show ((e.ats:Nat):Int)<=400 by omega))
    ·rw [if_neg h4]; exact congrArg (fun b=>AV.tup [e.sav,.v (.bool b)]) (decide_eq_false (show ¬ ((e.ats:Nat):Int)<=400 by omega))
   ·split
    ·exact fun _=>⟨e,rfl,hce⟩
    ·exact fun h=>by cases h
  ·refine⟨c,d,hd,?_,?_⟩
   ·rw [hce,if_neg (by rw [hi]; simp)]; rfl
   ·rw [if_neg (by rw [hi]; simp)]; exact fun h=>by cases h
 ·have hn:rdT s = none:=by cases hq:rdT s<;>simp [hq] at h |-
  rw [hn]
  exact⟨c,d,hd,rfl,fun h=>by cases h⟩
theorem rdE_ok {s:List UInt8} {e:E} (h:rdE s = some e):rdT s = some e/\isTy e = true/\e.ats<=400:=by
 unfold rdE at h
 split at h
 ·cases h
 ·split at h
  ·rename_i e' h1 h2; cases h; exact⟨h1,h2⟩
  ·cases h
end Go.Proofs.Trees
namespace Go.Proofs.Trees
open Go Go.VL
def freeLoo:Ty->Bool
 | .name s=>isLoo s
 | .plus a b=>freeLoo a||freeLoo b
 | .times a b=>freeLoo a||freeLoo b
 | .rc a=>freeLoo a
 | _=>false
theorem any_namesOf:∀(t:Ty) (out:List (List UInt8)),(namesOf t out).any isLoo = (out.any isLoo||freeLoo t)
 | .name s,out=>by
  simp only [namesOf,addN,freeLoo]
  split
  ·rename_i h
   cases hs:isLoo s with
   | false=>simp
   | true=>rw [Bool.or_true,List.any_eq_true]; exact⟨s,h,hs⟩
  ·simp
 | .plus a b,out=>by simp only [namesOf,freeLoo,any_namesOf a,any_namesOf b,Bool.or_assoc]
 | .times a b,out=>by simp only [namesOf,freeLoo,any_namesOf a,any_namesOf b,Bool.or_assoc]
 | .rc a,out=>by simp only [namesOf,freeLoo,any_namesOf a]
 | .zero,out=>by simp [namesOf,freeLoo]
 | .one,out=>by simp [namesOf,freeLoo]
 | .bound u,out=>by simp [namesOf,freeLoo]
theorem closed_eq (t:Ty):t.closed = !freeLoo t:=by simp [Ty.closed,any_namesOf]
theorem named_cons {lo hi:Nat} {s:List UInt8} (h:named lo hi s = true):∃c r,s = c::r/\lo<=c.toNat/\c.toNat<=hi:=by
 cases s with
 | nil=>cases h
 | cons c r=>simp only [named,Bool.and_eq_true,decide_eq_true_eq] at h; exact⟨c,r,rfl,by omega,by omega⟩
theorem tyOf_plus_inv {x a b:E} {ar:List (List UInt8)} {t:Ty} (hx:x.at = [43]) (h:tyOf (.list [x,a,b]) ar = some t):∃t1 t2,tyOf a ar = some t1/\tyOf b ar = some t2/\t = .plus t1 t2:=by
 rw [tyOf_plus ar hx] at h
 split at h
 ·rename_i t1 t2 e1 e2; cases h; exact⟨t1,t2,e1,e2,rfl⟩
 ·cases h
theorem tyOf_times_inv {x a b:E} {ar:List (List UInt8)} {t:Ty} (hx:x.at = [42]) (h:tyOf (.list [x,a,b]) ar = some t):∃t1 t2,tyOf a ar = some t1/\tyOf b ar = some t2/\t = .times t1 t2:=by
 rw [tyOf_times ar hx] at h
 split at h
 ·rename_i t1 t2 e1 e2; cases h; exact⟨t1,t2,e1,e2,rfl⟩
 ·cases h
theorem tyOf_rec_inv {x a b:E} {ar:List (List UInt8)} {t:Ty} (hx:x.at = [114,101,99]) (h:tyOf (.list [x,a,b]) ar = some t):∃t1,isLoo a.at = true/\tyOf b (ar++[a.at]) = some t1/\t = .rc t1:=by
 rw [tyOf_rec ar hx] at h
 split at h
 ·rename_i hl
  split at h
  ·rename_i t1 e1; cases h; exact⟨t1,hl,e1,rfl⟩
  ·cases h
 ·cases h
theorem rdY_of {s:List UInt8}:rdY s = match rdE s with | none=>none | some e=>tyOf e []:=by
 unfold rdY rdE
 cases he:rdT s with
 | none=>rfl
 | some e =>
  have hs:=tyOf_some e []
  simp only
  cases ht:tyOf e [] with
  | none =>
   rw [ht] at hs
   rw [if_neg (by rw [<-hs]; simp)]
  | some t =>
   rw [ht] at hs
   have ha:=tyOf_ats e [] t ht
   by_cases h4:e.ats<=400
   ·rw [if_pos ⟨hs.symm,h4⟩]; dsimp only; rw [if_neg (by omega)]; exact ht.symm
   ·rw [if_neg (fun h=>h4 h.2)]; dsimp only; rw [if_pos (by omega)]
end Go.Proofs.Trees
namespace Go.Proofs.Trees
open Go Go.VL
def pure:Ty->Bool
 | .zero=>true
 | .one=>true
 | .name s=>(s==[120])||(s==[121])||(s==[122])
 | .plus a b=>pure a&&pure b
 | .times a b=>pure a&&pure b
 | _=>false
def capC (v:Nat):Option Nat:=if v<=1000000000 then some v else none
def cnt (n:Nat):Ty->Option Nat
 | .zero=>some 0
 | .one=>some 1
 | .name _=>some n
 | .plus a b=>match cnt n a,cnt n b with | some x,some y=>capC (x+y) | _,_=>none
 | .times a b=>match cnt n a,cnt n b with | some x,some y=>capC (x*y) | _,_=>none
 | _=>none
def CntR (x:Option Nat):AV->List Ob->Prop:=fun r o=>∃v:Int,r = .tup [.v (.int .i64 v),.v (.bool x.isSome)]/\∀c,x = some c->v = (c:Int)
theorem CntR.ne (x:Option Nat):∃r o,CntR x r o:=by
 cases x with
 | none=>exact⟨_,[],0,rfl,fun c h=>by cases h⟩
 | some c=>exact⟨_,[],(c:Int),rfl,fun c' h=>by cases h; rfl⟩
end Go.Proofs.Trees
namespace Go.Proofs.Trees
open Go Go.VL Go.RowKit
abbrev dd (n:Nat):List UInt8:=Lib.decDigits n
theorem dd_one {k:Nat} (h:k < 10):dd k = [UInt8.ofNat (48+k)]:=by rw [dd,Lib.decDigits,dif_pos h]
theorem dd_more {k:Nat} (h:¬ k < 10):dd k = dd (k / 10)++[UInt8.ofNat (48+k % 10)]:=by rw [dd,Lib.decDigits,dif_neg h]
theorem dd_len:∀(n k:Nat),k < n->(dd k).length<=k+1
 | 0,k,h=>by omega
 | n+1,k,h=>by
  by_cases h1:k < 10
  ·rw [dd_one h1]; simp
  ·rw [dd_more h1]
   have:=dd_len n (k / 10) (by omega)
   simp only [List.length_append,List.length_cons,List.length_nil]; omega
theorem byte_of (d:Nat) (h:d < 10):(Value.int .u8 (IntKind.wrap .u8 (IntKind.wrap .i64 (48+(d:Int))))) = .int .u8 ((UInt8.ofNat (48+d)).toNat:Int):=by
 have:d = 0\/d = 1\/d = 2\/d = 3\/d = 4\/d = 5\/d = 6\/d = 7\/d = 8\/d = 9:=by omega
 rcases this with rfl | rfl | rfl | rfl | rfl | rfl | rfl | rfl | rfl | rfl<;>rfl
theorem bytesOf_one (b:UInt8):bytesOf [[.v (.int .u8 (b.toNat:Int))]] = [b]:=by simp [bytesOf,toInt_v]
theorem allU8_one (b:UInt8):allU8 [[.v (.int .u8 (b.toNat:Int))]]:=⟨rfl,(has_int _ _).mpr trivial,trivial⟩
theorem Sq1q:∀(n k:Nat),k < n->k < 1000000000->FSpec Tryz.prog 150 [.v (.int .i64 (k:Int))] [] (Det (.v (.string (mk (dd k)))))
 | 0,k,h,_=>by omega
 | n+1,k,h,hk=>by
  refine Fqfq _ ?_
  simp only [tq8q,↓zq,zs,hasK,Det]
  refine⟨fun h=>by omega,fun _=>⟨fun h=>by omega,fun _=>⟨fun h1=>?_,fun h1=>⟨by omega,?_⟩⟩⟩⟩
  ·rw [byte_of k (by omega)]
   refine⟨allU8_one _,?_⟩
   rw [bytesOf_one,dd_one (by omega)]; rfl
  ·have e1:IntKind.wrap .i64 (Int.tdiv (k:Int) 10) = ((k / 10:Nat):Int):=by
    rw [show Int.tdiv (k:Int) 10 = ((k / 10:Nat):Int) from (Int.ofNat_tdiv k 10).symm,wrap64 _ (by omega) (by omega)]
   have e2:Int.tmod (k:Int) 10 = ((k % 10:Nat):Int):=(Int.ofNat_tmod k 10).symm
   rw [e1,e2,byte_of (k % 10) (by omega)]
   refine wp_det (Sq1q n (k / 10) (by omega) (by omega)) ?_
   have hl:=dd_len (k+1) (k / 10) (by omega)
   simp only [↓zq,zs,hasK,zt,bytesOf_one]
   have h9:(k:Int) < 1000000000:=by omega
   refine⟨by omega,allU8_one _,?_,?_⟩
   ·show (mk (dd (k / 10))).size+(mk [UInt8.ofNat (48+k % 10)]).size<=_
    rw [size_mk,size_mk]; simp; omega
   ·show AV.v (.string (mk (dd (k / 10))++mk [UInt8.ofNat (48+k % 10)])) = _
    rw [append_mk,dd_more (k:=k) (by omega)]
theorem Sq2b (s:List UInt8) (d:AV) (hd:LK.sl.has d) (h:s≠[]):FSpec Tryz.prog 65 [.agg [.v (.string (mk s)),d]] [] (Det (.v (.string (mk [])))):=by
 refine Fq4k _ _ hd ?_
 simp only [tq2f,↓zq,zs,hasK,zt,Det]
 exact⟨fun _=>trivial,fun h'=>absurd h' h⟩
theorem sav_agg (e:E):AV.agg [.v (.string ((e.sav.cs.getD 0 .any).toStr)),e.sav.cs.getD 1 .any] = e.sav:=by cases e<;>rfl
mutual
def txE:E->List UInt8
 | .atom s=>s
 | .list []=>[40,41]
 | .list (e::l)=>40::(txE e++(txEs l++[41]))
def txEs:List E->List UInt8
 | []=>[]
 | e::l=>32::(txE e++txEs l)
end
theorem txEs_drop:∀(l:List E) (i:Nat) (h:i < l.length),txEs (l.drop i) = 32::(txE l[i]++txEs (l.drop (i+1))):=by
 intro l i h
 rw [List.drop_eq_getElem_cons h,txEs]
theorem Lqb0 (l:List E) (hll:l.length < 1000000) (ih:∀i (h:i < l.length),FSpec Tryz.prog 73 [(l[i]).sav] [] (Det (.v (.string (mk (txE l[i])))))) :
  ∀(k i:Nat) (out:List UInt8),i+k = l.length->1<=i->out.length+(txEs (l.drop i)).length<=1000000000000->Lq1x [.v (.string (mk out)),.v (.int .i64 (i:Int))] [.cells [.v (.string (mk [])),.sl (E.scellss l)]] (LIs 1 [.v (.string (mk (out++txEs (l.drop i))))] [])
 | 0,i,out,hi,h1,hn=>by
  refine Gq24 _ _ _ _ ?_
  simp only [rq1r,↓zq,zs,hasK,scellss_len]
  have:l.drop i = []:=List.drop_eq_nil_of_le (by omega)
  refine⟨fun h=>by omega,fun _=>?_⟩
  simp [LIs,this,txEs]
 | k+1,i,out,hi,h1,hn=>by
  have hlt:i < l.length:=by omega
  have hd:=txEs_drop l i hlt
  rw [hd] at hn
  simp only [List.length_cons,List.length_append] at hn
  refine Gq24 _ _ _ _ ?_
  simp only [rq1r,↓zq,zs,hasK,zt,scellss_len,scellss_getD l i hlt,sc_len,sc_has,sc_agg,Nat.le_refl]
  refine⟨fun _=>⟨fun _=>⟨by omega,by omega,?_⟩,fun h=>by omega⟩,fun h=>by omega⟩
  refine wp_det (ih i hlt) ?_
  simp only [↓zq,zs,hasK,zt]
  refine⟨by simp; omega,?_⟩
  rw [wrap_succ i (by omega),hd]
  have:=Lqb0 l hll ih k (i+1) (out++[32]++txE l[i]) (by omega) (by omega) (by simp; omega)
  simpa using this
theorem txE_get:∀(l:List E) (i:Nat) (h:i < l.length),(txE l[i]).length<=(txEs l).length
 | e::l,0,_=>by simp only [txEs,List.getElem_cons_zero,List.length_cons,List.length_append]; omega
 | e::l,i+1,h=>by have:=txE_get l i (by simpa using h); simp only [txEs,List.getElem_cons_succ,List.length_cons,List.length_append]; omega
theorem txEs_len:∀l:List E,l.length<=(txEs l).length
 | []=>by simp [txEs]
 | e::l=>by have:=txEs_len l; simp only [txEs,List.length_cons,List.length_append]; omega
theorem Sq4h:∀(n:Nat) (e:E),e.sz < n->e.ok->(txE e).length<=900000->FSpec Tryz.prog 73 [e.sav] [] (Det (.v (.string (mk (txE e)))))
 | 0,e,hn,_,_=>by omega
 | n+1,.atom s,hn,hok,hl=>by
  refine Fq52 _ _ ((has_slnil).mpr trivial) ?_
  have hne:s≠[]:=hok
  simp only [tq21,↓zq,zs,hasK,zt,Det]
  exact⟨fun _=>rfl,fun h=>absurd h hne⟩
 | n+1,.list [],hn,hok,hl=>by
  refine Fq52 _ _ ((has_sl _).mpr trivial) ?_
  simp only [tq21,↓zq,zs,hasK,zt,Det]
  refine⟨fun h=>absurd rfl h,fun _=>?_⟩
  have h1:Lq1x [.v (.string (mk [40])),.v (.int .i64 0)] [.cells [.v (.string (mk [])),.sl (E.scellss [])]] (LIs 1 [.v (.string (mk [40]))] []):=by
   refine Gq24 _ _ _ _ ?_
   simp [rq1r,↓zq,zs,hasK,E.scellss,LIs]
  refine wp_loop1 h1 ?_
  simp only [↓zq,zs,hasK,zt]
  exact⟨by simp,rfl⟩
 | n+1,.list (x::l),hn,hok,hl=>by
  refine Fq52 _ _ ((has_sl _).mpr trivial) ?_
  simp only [E.sz,E.szs] at hn
  simp only [txE,List.length_cons,List.length_append,List.length_nil] at hl
  have h2:=txEs_len l
  simp only [tq21,↓zq,zs,hasK,zt,Det]
  refine⟨fun h=>absurd rfl h,fun _=>?_⟩
  have hL:Lq1x [.v (.string (mk [40])),.v (.int .i64 0)] [.cells [.v (.string (mk [])),.sl (E.scellss (x::l))]] (LIs 1 [.v (.string (mk ([40]++txE x++txEs l)))] []):=by
   refine Gq24 _ _ _ _ ?_
   simp only [rq1r,E.scellss,Int.toNat_zero,↓zq,zs,hasK,zt,scellss_len,sc_len,sc_has,sc_agg,Nat.le_refl]
   refine⟨fun _=>⟨fun h=>by omega,fun _=>⟨by omega,?_⟩⟩,fun h=>by omega⟩
   refine wp_det (Sq4h n x (by omega) hok.1 (by omega)) ?_
   simp only [↓zq,zs,hasK,zt]
   refine⟨by simp; omega,?_⟩
   have:=Lqb0 (x::l) (by simp; omega) (fun i hi=>by
    have h3:=sz_get (x::l) i hi
    simp only [E.szs] at h3
    refine Sq4h n _ (by omega) (oks_get _ i hi hok) ?_
    have h4:=txE_get (x::l) i hi
    simp only [txEs,List.length_cons,List.length_append] at h4
    omega) l.length 1 ([40]++txE x) (by simp; omega) (by omega) (by simp; omega)
   rw [show IntKind.wrap .i64 (0+1) = 1 from rfl]
   simpa [E.scellss] using this
  refine wp_loop1 hL ?_
  simp only [↓zq,zs,hasK,zt]
  refine⟨by simp; omega,?_⟩
  simp [txE]
theorem Sq2h (e:E) (h:e.ok) (hl:(txE e).length<=900000):FSpec Tryz.prog 73 [e.sav] [] (Det (.v (.string (mk (txE e))))):=Sq4h (e.sz+1) e (by omega) h hl
mutual
def E.nd:E->Nat
 | .atom _=>1
 | .list []=>1
 | .list (_::l)=>1+E.nds l
def E.nds:List E->Nat
 | []=>0
 | e::l=>e.nd+E.nds l
end
mutual
theorem nd_le:∀e:E,e.nd<=e.sz
 | .atom s=>by simp [E.nd,E.sz]
 | .list []=>by simp [E.nd,E.sz,E.szs]
 | .list (x::l)=>by have:=nds_le l; simp only [E.nd,E.sz,E.szs]; omega
theorem nds_le:∀l:List E,E.nds l<=E.szs l
 | []=>by simp [E.nds,E.szs]
 | e::l=>by have:=nd_le e; have:=nds_le l; simp only [E.nds,E.szs]; omega
end
theorem nds_drop:∀(l:List E) (i:Nat) (h:i < l.length),E.nds (l.drop i) = (l[i]).nd+E.nds (l.drop (i+1)):=by
 intro l i h
 rw [List.drop_eq_getElem_cons h]; rfl
theorem Lqc4 (l:List E) (hl:E.nds l < 1000000) (hll:l.length < 1000000) (ih:∀i (h:i < l.length),FSpec Tryz.prog 78 [(l[i]).sav] [] (Det (.v (.int .i64 ((l[i]).nd:Int))))) :
  ∀(k i n:Nat),i+k = l.length->n+E.nds (l.drop i)<=1+E.nds l->Lq1p [.v (.int .i64 (n:Int)),.v (.int .i64 (i:Int))] [.cells [.v (.string (mk [])),.sl (E.scellss l)]] (LIs 1 [.v (.int .i64 ((n+E.nds (l.drop i):Nat):Int))] [])
 | 0,i,n,hi,hn=>by
  refine Gq28 _ _ _ _ ?_
  simp only [rq1o,↓zq,zs,hasK,scellss_len]
  have:l.drop i = []:=List.drop_eq_nil_of_le (by omega)
  refine⟨fun h=>by omega,fun _=>?_⟩
  simp [LIs,this,E.nds]
 | k+1,i,n,hi,hn=>by
  have hlt:i < l.length:=by omega
  refine Gq28 _ _ _ _ ?_
  simp only [rq1o,↓zq,zs,hasK,zt,scellss_len,scellss_getD l i hlt,sc_len,sc_has,sc_agg,Nat.le_refl]
  refine⟨fun _=>⟨by omega,?_⟩,fun h=>by omega⟩
  refine wp_det (ih i hlt) ?_
  have h1:=nds_drop l i hlt
  simp only [↓zq,zs,hasK]
  rw [wrap_succ i (by omega),wrap64 _ (by omega) (by omega)]
  have:=Lqc4 l hl hll ih k (i+1) (n+(l[i]).nd) (by omega) (by omega)
  rw [h1,<-Nat.add_assoc]
  simpa using this
theorem Sq64:∀(n:Nat) (e:E),e.sz < n->e.sz < 900000->FSpec Tryz.prog 78 [e.sav] [] (Det (.v (.int .i64 (e.nd:Int))))
 | 0,e,hn,_=>by omega
 | n+1,.atom s,hn,hl=>by
  refine Fqb2 _ _ ((has_slnil).mpr trivial) ?_
  simp only [tq3o]
  have hL:Lq1p [.v (.int .i64 1),.v (.int .i64 1)] [.cells [.v (.string (mk s)),.v (.slice none 0 0)]] (LIs 1 [.v (.int .i64 1)] []):=by
   refine Gq28 _ _ _ _ ?_
   simp [rq1o,↓zq,zs,hasK,LIs]
  refine wp_loop1 hL ?_
  simp [↓zq,zs,hasK,Det,E.nd]
 | n+1,.list l,hn,hl=>by
  refine Fqb2 _ _ ((has_sl _).mpr trivial) ?_
  simp only [E.sz] at hn hl
  simp only [tq3o]
  match l,hn,hl with
  | [],hn,hl =>
   have hL:Lq1p [.v (.int .i64 1),.v (.int .i64 1)] [.cells [.v (.string (mk [])),.sl (E.scellss [])]] (LIs 1 [.v (.int .i64 1)] []):=by
    refine Gq28 _ _ _ _ ?_
    simp [rq1o,↓zq,zs,hasK,LIs,E.scellss]
   refine wp_loop1 hL ?_
   simp [↓zq,zs,hasK,Det,E.nd]
  | x::l,hn,hl =>
   simp only [E.szs] at hn hl
   have h1:=nds_le l
   have h2:=len_szs l
   have h0:=nd_le x
   refine wp_loop1 (Lqc4 (x::l) (by simp only [E.nds]; omega) (by simp; omega) (fun i hi=>?_) l.length 1 1 (by simp; omega) (by simp [E.nds])) ?_
   ·have:=sz_get (x::l) i hi
    simp only [E.szs] at this
    exact Sq64 n _ (by omega) (by omega)
   ·simp [↓zq,zs,hasK,E.nd,Det]
theorem Sqge (e:E) (hl:e.sz < 900000):FSpec Tryz.prog 78 [e.sav] [] (Det (.v (.int .i64 (e.nd:Int)))):=Sq64 (e.sz+1) e (by omega) hl
inductive Vl where
 | u
 | el (k:Nat)
 | l (v:Vl)
 | r (v:Vl)
 | f (v:Vl)
 | p (a b:Vl)
abbrev elS (k:Nat):List UInt8:=101::dd k
abbrev nilp:AV:=.v (.pointer none)
def Vl.iav:Vl->AV
 | .u=>.ptr [.v (.int .u8 117),.v (.string (mk [])),nilp,nilp]
 | .el k=>.ptr [.v (.int .u8 101),.v (.string (mk (elS k))),nilp,nilp]
 | .l v=>.ptr [.v (.int .u8 108),.v (.string (mk [])),v.iav,nilp]
 | .r v=>.ptr [.v (.int .u8 114),.v (.string (mk [])),v.iav,nilp]
 | .f v=>.ptr [.v (.int .u8 102),.v (.string (mk [])),v.iav,nilp]
 | .p a b=>.ptr [.v (.int .u8 112),.v (.string (mk [])),a.iav,b.iav]
def Vl.toE:Vl->E
 | .u=>.atom [117]
 | .el k=>.atom (elS k)
 | .l v=>.list [.atom [108],v.toE]
 | .r v=>.list [.atom [114],v.toE]
 | .f v=>.list [.atom [102],v.toE]
 | .p a b=>.list [.atom [112],a.toE,b.toE]
def Vl.nodes:Vl->Nat
 | .l v=>1+v.nodes
 | .r v=>1+v.nodes
 | .f v=>1+v.nodes
 | .p a b=>1+a.nodes+b.nodes
 | _=>1
def Vl.bel (n:Nat):Vl->Prop
 | .el k=>k < n
 | .l v=>v.bel n
 | .r v=>v.bel n
 | .f v=>v.bel n
 | .p a b=>a.bel n/\b.bel n
 | .u=>True
abbrev Vl.txt (v:Vl):List UInt8:=txE v.toE
theorem vl_has (v:Vl):LK.has .ptr v.iav = True:=by cases v<;>simp [Vl.iav,has_ptr]
theorem vl_nil (v:Vl):v.iav.isNil = false:=by cases v<;>rfl
theorem toE_ok:∀v:Vl,v.toE.ok
 | .u=>by simp [Vl.toE,E.ok]
 | .el k=>by simp [Vl.toE,E.ok]
 | .l v=>⟨by simp [E.ok],toE_ok v,trivial⟩
 | .r v=>⟨by simp [E.ok],toE_ok v,trivial⟩
 | .f v=>⟨by simp [E.ok],toE_ok v,trivial⟩
 | .p a b=>⟨by simp [E.ok],toE_ok a,toE_ok b,trivial⟩
theorem toE_nd:∀v:Vl,v.toE.nd = v.nodes
 | .u=>rfl
 | .el k=>rfl
 | .l v=>by simp [Vl.toE,E.nd,E.nds,Vl.nodes,toE_nd v]
 | .r v=>by simp [Vl.toE,E.nd,E.nds,Vl.nodes,toE_nd v]
 | .f v=>by simp [Vl.toE,E.nd,E.nds,Vl.nodes,toE_nd v]
 | .p a b=>by simp [Vl.toE,E.nd,E.nds,Vl.nodes,toE_nd a,toE_nd b,Nat.add_assoc]
theorem txt_len:∀v:Vl,v.bel 100->v.txt.length<=200*v.nodes
 | .u,_=>by simp [Vl.txt,Vl.toE,txE,Vl.nodes]
 | .el k,h=>by
  have h':k < 100:=h
  have:=dd_len 1000 k (by omega)
  simp only [Vl.txt,Vl.toE,txE,Vl.nodes,List.length_cons]; omega
 | .l v,h=>by have:=txt_len v h; simp only [Vl.txt,Vl.toE,txE,txEs,Vl.nodes,List.length_cons,List.length_append,List.length_nil] at this |-; omega
 | .r v,h=>by have:=txt_len v h; simp only [Vl.txt,Vl.toE,txE,txEs,Vl.nodes,List.length_cons,List.length_append,List.length_nil] at this |-; omega
 | .f v,h=>by have:=txt_len v h; simp only [Vl.txt,Vl.toE,txE,txEs,Vl.nodes,List.length_cons,List.length_append,List.length_nil] at this |-; omega
 | .p a b,h=>by have:=txt_len a h.1; have:=txt_len b h.2; simp only [Vl.txt,Vl.toE,txE,txEs,Vl.nodes,List.length_cons,List.length_append,List.length_nil] at *; omega
theorem Sq1l (a b:AV) (h:LK.ptr.has a) (h':LK.ptr.has b):FSpec Tryz.prog 86 [a,b] [] (Det (.ptr [.v (.int .u8 112),.v (.string (mk [])),a,b])):=by
 refine Fqfk _ _ h h' ?_
 simp [tq8a,↓zq,zs,hasK,Det]
theorem nodes_pos (v:Vl):1<=v.nodes:=by cases v<;>simp [Vl.nodes]<;>omega
theorem Sq11:∀(v:Vl),v.nodes < 1000000->FSpec Tryz.prog 50 [v.iav] [] (Det (.v (.int .i64 (v.nodes:Int))))
 | .u,h=>by refine Fq15 _ ((vl_has _).mpr trivial) ?_; simp [tqp,Vl.iav,↓zq,zs,hasK,Det,Vl.nodes]
 | .el k,h=>by refine Fq15 _ ((vl_has _).mpr trivial) ?_; simp [tqp,Vl.iav,↓zq,zs,hasK,Det,Vl.nodes]
 | .l v,h=>by
  simp only [Vl.nodes] at h
  refine Fq15 _ ((vl_has _).mpr trivial) ?_
  simp only [tqp,Vl.iav,↓zq,zs,hasK,vl_has,vl_nil]
  refine⟨by omega,fun _=>⟨by omega,?_⟩,fun h=>(by cases h)⟩
  refine wp_det (Sq11 v (by omega)) ?_
  simp only [↓zq,zs,hasK,Det,Vl.nodes]
  rw [wrap64 _ (by omega) (by omega)]
  simp
 | .r v,h=>by
  simp only [Vl.nodes] at h
  refine Fq15 _ ((vl_has _).mpr trivial) ?_
  simp only [tqp,Vl.iav,↓zq,zs,hasK,vl_has,vl_nil]
  refine⟨by omega,fun _=>⟨by omega,?_⟩,fun h=>(by cases h)⟩
  refine wp_det (Sq11 v (by omega)) ?_
  simp only [↓zq,zs,hasK,Det,Vl.nodes]
  rw [wrap64 _ (by omega) (by omega)]
  simp
 | .f v,h=>by
  simp only [Vl.nodes] at h
  refine Fq15 _ ((vl_has _).mpr trivial) ?_
  simp only [tqp,Vl.iav,↓zq,zs,hasK,vl_has,vl_nil]
  refine⟨by omega,fun _=>⟨by omega,?_⟩,fun h=>(by cases h)⟩
  refine wp_det (Sq11 v (by omega)) ?_
  simp only [↓zq,zs,hasK,Det,Vl.nodes]
  rw [wrap64 _ (by omega) (by omega)]
  simp
 | .p a b,h=>by
  simp only [Vl.nodes] at h
  refine Fq15 _ ((vl_has _).mpr trivial) ?_
  simp only [tqp,Vl.iav,↓zq,zs,hasK,vl_has,vl_nil]
  refine⟨by omega,fun _=>⟨by omega,?_⟩,fun h=>(by cases h)⟩
  refine wp_det (Sq11 a (by omega)) ?_
  simp only [↓zq,zs,hasK,vl_has,vl_nil]
  rw [wrap64 (1+(a.nodes:Int)) (by omega) (by omega)]
  refine⟨by omega,fun _=>⟨by omega,?_⟩,fun h=>(by cases h)⟩
  refine wp_det (Sq11 b (by omega)) ?_
  simp only [↓zq,zs,hasK,Det,Vl.nodes]
  rw [wrap64 _ (by omega) (by omega)]
  congr 2
end Go.Proofs.Trees
namespace Go.Proofs.Trees
open Go Go.VL Go.RowKit
def dgN:List UInt8->Nat->Option Nat
 | [],n=>some n
 | b::r,n=>if isDg b = true then dgN r (10*n+(b.toNat - 48)) else none
def elNum (s:List UInt8):Option Nat :=
 if s.length = 2\/s.length = 3 then(if s.getD 0 0 = 101/\¬ (s.length = 3/\s.getD 1 0 = 48) then dgN (s.drop 1) 0 else none) else none
def elI (s:List UInt8):Int:=match elNum s with | some k=>(k:Int) | none=>-1
theorem Lqbh (s:List UInt8) (hs:s.length<=3):∀(k i n:Nat),i+k = s.length->1<=i->(n+1)*10 ^ k<=1000->Lq2r [.v (.string (mk s)),.v (.int .i64 (n:Int)),.v (.int .i64 (i:Int))] []
  (LBy (match dgN (s.drop i) n with | some m=>(1,[.v (.int .i64 (m:Int))],[]) | none=>(2,[.v (.int .i64 (-1))],[])))
 | 0,i,n,hi,h1,hn=>by
  refine Gqb3 _ _ _ ?_
  have hd:s.drop i = []:=List.drop_eq_nil_of_le (by omega)
  simp only [rq38,↓zq,zs,hasK,zt,hd,dgN]
  exact⟨fun h=>by omega,fun _=>by first | trivial | rfl⟩
 | k+1,i,n,hi,h1,hn=>by
  have hlt:i < s.length:=by omega
  refine Gqb3 _ _ _ ?_
  rw [drop_cons hlt,dgN]
  simp only [rq38,↓zq,zs,hasK,zt,bt_mk s i hlt]
  generalize s.getD i 0 = b
  have hb:=b.toNat_lt
  refine⟨fun _=>⟨by omega,fun h48=>?_,fun h48=>⟨by omega,fun h57=>?_,fun h57=>⟨by omega,?_⟩⟩⟩,fun h=>by omega⟩
  ·have:isDg b = false:=by simp only [isDg,decide_eq_false_iff_not]; omega
   rw [this]; rfl
  ·have:isDg b = false:=by simp only [isDg,decide_eq_false_iff_not]; omega
   rw [this]; rfl
  ·have:isDg b = true:=by simp only [isDg,decide_eq_true_eq]; omega
   rw [if_pos this]
   have hk:k = 0\/k = 1:=by omega
   have hn2:n*10<=1000:=by
    rcases hk with rfl | rfl<;>simp at hn<;>omega
   have e8:IntKind.wrap .u8 ((b.toNat:Int) - 48) = ((b.toNat - 48:Nat):Int):=by
    have:b.toNat = 48\/b.toNat = 49\/b.toNat = 50\/b.toNat = 51\/b.toNat = 52\/b.toNat = 53\/b.toNat = 54\/b.toNat = 55\/b.toNat = 56\/b.toNat = 57:=by omega
    rcases this with h | h | h | h | h | h | h | h | h | h<;>rw [h]<;>rfl
   rw [e8,wrap_succ i (by omega),wrap64 ((b.toNat - 48:Nat):Int) (by omega) (by omega),wrap64 (10*(n:Int)) (by omega) (by omega),wrap64 _ (by omega) (by omega)]
   have e:(10*(n:Int)+((b.toNat - 48:Nat):Int)) = ((10*n+(b.toNat - 48):Nat):Int):=by omega
   rw [e]
   exact Lqbh s hs k (i+1) _ (by omega) (by omega) (by rcases hk with rfl | rfl<;>simp at hn |-<;>omega)
theorem Sq6j (s:List UInt8):FSpec Tryz.prog 113 [.v (.string (mk s))] [] (Det (.v (.int .i64 (elI s)))):=by
 refine Fqcx _ ?_
 unfold tqbi
 refine wp_det (Sq2e _ _ _) ?_
 simp only [↓zq,zs,hasK,zt,inR,Det]
 have hL:∀(Q:Nat->List AV->List Ob->Prop),(s.length = 2\/s.length = 3)->s.getD 0 0 = 101->¬ (s.length = 3/\s.getD 1 0 = 48)->(Q 0 [.v (.int .i64 (elI s))] []) ->
   wpT Tryz.prog 49 (.loop Cq27 Lq20 [.v (.string (mk s)),.v (.int .i64 0),.v (.int .i64 1)] [] (fun y2 q2=>.need (LK.has (.int .i64) (y2.headD .any))<|.done 0 [.v (.int .i64 ((y2.headD .any).toInt))] []) (fun y2 q2=>.need (LK.has (.int .i64) (y2.headD .any))<|.done 0 [.v (.int .i64 ((y2.headD .any).toInt))] [])) Q:=by
  intro Q hl h0 h1 hQ
  have e:elNum s = dgN (s.drop 1) 0:=by rw [elNum,if_pos hl,if_pos ⟨h0,h1⟩]
  refine wp_loopB (Lqbh s (by omega) (s.length - 1) 1 0 (by omega) (by omega) (by rcases hl with h | h<;>rw [h]<;>decide)) (fun ys o e'=>?_) (fun ys o e'=>?_)
  ·cases hq:dgN (s.drop 1) 0<;>rw [hq] at e'<;>cases e'
   rw [hq] at e
   simp only [elI,e] at hQ
   simp only [↓zq,zs,hasK]; exact hQ
  ·cases hq:dgN (s.drop 1) 0<;>rw [hq] at e'<;>cases e'
   rw [hq] at e
   simp only [elI,e] at hQ
   simp only [↓zq,zs,hasK]; exact hQ
 have hz:∀{i:Nat},i < s.length->bt (mk s) (i:Int) = ((s.getD i 0).toNat:Int):=fun h=>bt_mk s _ h
 refine⟨fun h=>?_,fun h=>⟨?_,fun h0=>?_,fun h0=>⟨fun h3=>⟨by omega,fun h1=>?_,fun h1=>?_⟩,fun h3=>?_⟩⟩⟩
 ·have h':¬ (2<=(s.length:Int)/\(s.length:Int)<=3):=by simpa using h
  rw [elI,elNum,if_neg (by omega)]
 ·have h':2<=(s.length:Int)/\(s.length:Int)<=3:=by simpa using h
  omega
 ·have h':2<=(s.length:Int)/\(s.length:Int)<=3:=by simpa using h
  have e0:=hz (i:=0) (by omega)
  simp only [Int.ofNat_eq_natCast,Int.cast_ofNat_Int] at e0
  rw [e0] at h0
  rw [elI,elNum,if_pos (by omega),if_neg]
  rintro⟨e,_⟩
  rw [e] at h0; exact h0 rfl
 ·have h':2<=(s.length:Int)/\(s.length:Int)<=3:=by simpa using h
  have e1:=hz (i:=1) (by omega)
  simp only [Int.ofNat_eq_natCast,Int.cast_ofNat_Int] at e1
  rw [e1] at h1
  rw [elI,elNum,if_pos (by omega),if_neg]
  rintro⟨_,e⟩
  refine e ⟨by omega,?_⟩
  rw [<-UInt8.toNat_inj]; show (s.getD 1 0).toNat = 48; omega
 ·have h':2<=(s.length:Int)/\(s.length:Int)<=3:=by simpa using h
  have e0:=hz (i:=0) (by omega)
  have e1:=hz (i:=1) (by omega)
  simp only [Int.ofNat_eq_natCast,Int.cast_ofNat_Int] at e0 e1
  rw [e0] at h0; rw [e1] at h1
  refine hL _ (by omega) ?_ ?_ ⟨rfl,rfl⟩
  ·rw [<-UInt8.toNat_inj]; show (s.getD 0 0).toNat = 101; omega
  ·rintro⟨_,e⟩; rw [e] at h1; exact h1 rfl
 ·have h':2<=(s.length:Int)/\(s.length:Int)<=3:=by simpa using h
  have e0:=hz (i:=0) (by omega)
  simp only [Int.ofNat_eq_natCast,Int.cast_ofNat_Int] at e0
  rw [e0] at h0
  refine hL _ (by omega) ?_ ?_ ⟨rfl,rfl⟩
  ·rw [<-UInt8.toNat_inj]; show (s.getD 0 0).toNat = 101; omega
  ·rintro⟨e,_⟩; omega
theorem dgN_some:∀(l:List UInt8) (n:Nat),(dgN l n).isSome = l.all isDg
 | [],n=>rfl
 | b::l,n=>by
  rw [dgN]
  cases hb:isDg b with
  | true=>rw [if_pos rfl,dgN_some l]; simp [hb]
  | false=>rw [if_neg (by simp)]; simp [hb]
theorem Sq65 (s:List UInt8):FSpec Tryz.prog 126 [.v (.string (mk s))] [] (Det (.v (.bool (elNum s).isSome))):=by
 refine Fqfd _ ?_
 simp only [tqa2,↓zq,zs,hasK,zt,Det]
 have hz:∀{i:Nat},i < s.length->bt (mk s) (i:Int) = ((s.getD i 0).toNat:Int):=fun h=>bt_mk s _ h
 refine⟨fun h=>?_,fun h=>⟨fun h3=>?_,fun h3=>?_⟩⟩
 ·rw [elNum,if_neg (by omega)]; rfl
 ·rw [elNum,if_neg (by omega)]; rfl
 ·have e0:=hz (i:=0) (by omega)
  have e1:=hz (i:=1) (by omega)
  simp only [Int.ofNat_eq_natCast,Int.cast_ofNat_Int] at e0 e1
  rw [e0,e1]
  have hx:s.drop (Int.toNat 1) = s.drop 1:=rfl
  refine⟨by omega,fun h0=>?_,fun h0=>⟨by omega,?_⟩⟩
  ·rw [elNum,if_pos (by omega),if_neg]
   ·rfl
   ·rintro⟨e,_⟩; rw [e] at h0; exact h0 rfl
  ·rw [hx]
   refine wp_det (Sqb9 (s.drop 1) dgs (by simp; omega) (by decide) (by decide)) ?_
   simp only [↓zq,zs,hasK,zt]
   have h101:s.getD 0 0 = 101:=by rw [<-UInt8.toNat_inj]; show (s.getD 0 0).toNat = 101; omega
   have hall:Lib.trimS (s.drop 1) dgs = []↔(s.drop 1).all isDg = true:=by
    rw [trimS_nil]
    have:(fun x=>dgs.contains x) = isDg:=funext dgs_isDg
    rw [this]
   refine⟨fun ht=>?_,fun ht=>⟨fun h2=>?_,fun h2=>⟨by omega,?_⟩⟩⟩
   ·have:(s.drop 1).all isDg = false:=by
     cases hq:(s.drop 1).all isDg with
     | false=>rfl
     | true=>exact absurd (hall.2 hq) ht
    rw [elNum,if_pos (by omega)]
    split
    ·rw [dgN_some,this]
    ·rfl
   ·have hq:=hall.1 ht
    rw [elNum,if_pos (by omega),if_pos ⟨h101,by omega⟩,dgN_some,hq]
   ·have hq:=hall.1 ht
    rw [elNum,if_pos (by omega)]
    by_cases h48:s.getD 1 0 = 48
    ·rw [if_neg (by rintro⟨_,e⟩; exact e ⟨by omega,h48⟩),h48]; rfl
    ·rw [if_pos ⟨h101,fun e=>h48 e.2⟩,dgN_some,hq]
     have:¬ ((s.getD 1 0).toNat:Int) = 48:=fun e=>h48 (by rw [<-UInt8.toNat_inj]; show (s.getD 1 0).toNat = 48; omega)
     rw [bne_iff_ne.2 this]
theorem elNum_elS {s:List UInt8} {k:Nat} (h:elNum s = some k):s = elS k/\k < 100:=by
 have key1:∀a:Fin 256,isDg (UInt8.ofNat a.val) = true->dgN [UInt8.ofNat a.val] 0 = some ((UInt8.ofNat a.val).toNat - 48)/\(UInt8.ofNat a.val).toNat - 48 < 10/\[UInt8.ofNat a.val] = [UInt8.ofNat (48+((UInt8.ofNat a.val).toNat - 48))]:=by decide +kernel
 unfold elNum at h
 split at h
 ·rename_i hl
  split at h
  ·rename_i hh
   obtain⟨h0,h1⟩:=hh
   rcases hl with hl | hl
   ·match s,hl with
    | [c,a],_ =>
     simp only [List.getD_cons_zero] at h0
     subst h0
     simp only [List.drop_succ_cons,List.drop_zero,dgN] at h
     split at h
     ·rename_i ha
      have:=key1 ⟨a.toNat,a.toNat_lt⟩ (by simpa using ha)
      simp only [UInt8.ofNat_toNat] at this
      cases h
      refine⟨?_,by omega⟩
      rw [elS,dd_one (by omega)]
      simp only [Nat.mul_zero,Nat.zero_add]
      rw [<-this.2.2]
     ·cases h
   ·match s,hl with
    | [c,a,b],_ =>
     simp only [List.getD_cons_zero,List.getD_cons_succ,List.length_cons,List.length_nil,true_and] at h0 h1
     subst h0
     simp only [List.drop_succ_cons,List.drop_zero,dgN] at h
     split at h
     ·rename_i ha
      split at h
      ·rename_i hb
       have k1:=key1 ⟨a.toNat,a.toNat_lt⟩ (by simpa using ha)
       have k2:=key1 ⟨b.toNat,b.toNat_lt⟩ (by simpa using hb)
       simp only [UInt8.ofNat_toNat] at k1 k2
       have ha':48<=a.toNat/\a.toNat<=57:=by simpa [isDg] using ha
       have hb':48<=b.toNat/\b.toNat<=57:=by simpa [isDg] using hb
       have h48:a.toNat≠48:=fun e=>h1 (by rw [<-UInt8.toNat_inj]; simpa using e)
       cases h
       simp only [Nat.mul_zero,Nat.zero_add]
       refine⟨?_,by omega⟩
       rw [elS,dd_more (by omega),dd_one (by omega)]
       have e1:(10*(a.toNat - 48)+(b.toNat - 48)) / 10 = a.toNat - 48:=by omega
       have e2:(10*(a.toNat - 48)+(b.toNat - 48)) % 10 = b.toNat - 48:=by omega
       rw [e1,e2,<-k1.2.2,<-k2.2.2]; rfl
      ·cases h
     ·cases h
  ·cases h
 ·cases h
theorem elNum_of (k:Nat) (h:k < 100):elNum (elS k) = some k:=by
 have e:∀k,k < 100->dd k = if k < 10 then [UInt8.ofNat (48+k)] else [UInt8.ofNat (48+k / 10),UInt8.ofNat (48+k % 10)]:=by
  intro k hk
  by_cases h1:k < 10
  ·rw [dd_one h1,if_pos h1]
  ·rw [dd_more h1,dd_one (by omega),if_neg h1]; rfl
 have key:∀k:Fin 100,elNum (101::(if k.val < 10 then [UInt8.ofNat (48+k.val)] else [UInt8.ofNat (48+k.val / 10),UInt8.ofNat (48+k.val % 10)])) = some k.val:=by decide +kernel
 rw [elS,e k h]; exact key ⟨k,h⟩
theorem elI_of (k:Nat) (h:k < 100):elI (elS k) = (k:Int):=by rw [elI,elNum_of k h]
def isV:E->Bool
 | .atom s=>(s==[117])||(elNum s).isSome
 | .list [x,a]=>((x.at==[108])||(x.at==[114])||(x.at==[102]))&&isV a
 | .list [x,a,b]=>(x.at==[112])&&(isV a&&isV b)
 | .list _=>false
def vlOf:E->Option Vl
 | .atom s=>if s = [117] then some .u else match elNum s with | some k=>some (.el k) | none=>none
 | .list [x,a]=>match vlOf a with
  | none=>none
  | some v=>if x.at = [108] then some (.l v) else if x.at = [114] then some (.r v) else if x.at = [102] then some (.f v) else none
 | .list [x,a,b]=>if x.at = [112] then(match vlOf a,vlOf b with | some v,some w=>some (.p v w) | _,_=>none) else none
 | .list _=>none
theorem vlOf_isV:∀e:E,(vlOf e).isSome = isV e
 | .atom s=>by
  simp only [vlOf,isV]
  by_cases h:s = [117]
  ·simp [h]
  ·rw [if_neg h]; cases elNum s<;>simp [h]
 | .list []=>rfl
 | .list [_]=>rfl
 | .list [x,a]=>by
  have ha:=vlOf_isV a
  rw [vlOf,isV,<-ha]
  cases vlOf a with
  | none=>simp
  | some v =>
   by_cases h1:x.at = [108]
   ·simp [h1]
   ·by_cases h2:x.at = [114]
    ·simp [h2]
    ·by_cases h3:x.at = [102]
     ·simp [h3]
     ·simp [h1,h2,h3]
 | .list [x,a,b]=>by
  have ha:=vlOf_isV a
  have hb:=vlOf_isV b
  rw [vlOf,isV,<-ha,<-hb]
  by_cases h1:x.at = [112]
  ·rw [if_pos h1,h1]; cases vlOf a<;>cases vlOf b<;>rfl
  ·simp [h1]
 | .list (_::_::_::_::_)=>rfl
theorem at_atom {x:E} {w:List UInt8} (h:x.at = w) (hw:w≠[]):x = .atom w:=by
 cases x with
 | atom s=>exact congrArg E.atom h
 | list l=>exact absurd h.symm hw
theorem vlOf_toE:∀(e:E) (v:Vl),vlOf e = some v->v.toE = e/\v.bel 100
 | .atom s,v,h=>by
  simp only [vlOf] at h
  split at h
  ·rename_i h1; cases h; exact⟨by rw [h1]; rfl,trivial⟩
  ·split at h
   ·rename_i k hk
    cases h
    obtain⟨h1,h2⟩:=elNum_elS hk
    exact⟨by rw [h1]; rfl,h2⟩
   ·cases h
 | .list [],_,h=>by cases h
 | .list [_],_,h=>by cases h
 | .list (_::_::_::_::_),_,h=>by cases h
 | .list [x,a],v,h=>by
  rw [vlOf] at h
  split at h
  ·cases h
  ·rename_i w hw
   obtain⟨h1,h2⟩:=vlOf_toE a w hw
   split at h
   ·rename_i hx; cases h; rw [at_atom hx (by simp)]; exact⟨by rw [Vl.toE,h1],h2⟩
   ·split at h
    ·rename_i hx; cases h; rw [at_atom hx (by simp)]; exact⟨by rw [Vl.toE,h1],h2⟩
    ·split at h
     ·rename_i hx; cases h; rw [at_atom hx (by simp)]; exact⟨by rw [Vl.toE,h1],h2⟩
     ·cases h
 | .list [x,a,b],v,h=>by
  rw [vlOf] at h
  split at h
  ·rename_i hx
   split at h
   ·rename_i w1 w2 hw1 hw2
    cases h
    obtain⟨h1,h2⟩:=vlOf_toE a w1 hw1
    obtain⟨h3,h4⟩:=vlOf_toE b w2 hw2
    rw [at_atom hx (by simp)]
    exact⟨by rw [Vl.toE,h1,h3],h2,h4⟩
   ·cases h
  ·cases h
def isC (e:E) (w:List UInt8) (k:Nat):Bool:=match e with | .list (x::l)=>decide (l.length+1 = k)&&(x.at==w) | _=>false
theorem Sq1 (e:E) (w:List UInt8) (k:Nat) (hk:1<=k):FSpec Tryz.prog 119 [e.iav,.v (.string (mk w)),.v (.int .i64 (k:Int))] [] (Det (.v (.bool (isC e w k)))):=by
 refine Fq7x _ _ _ ((iav_has e).mpr trivial) ?_
 cases e with
 | atom s=>simp only [tq1u,E.iav,↓zq,zs,hasK,zt,Det,isC]; exact⟨by omega,fun h=>by omega,fun _=>trivial⟩
 | list l =>
  simp only [tq1u,E.iav,↓zq,zs,hasK,zt,Det,iavs_len]
  cases l with
  | nil=>exact⟨by simp,fun h=>by simp at h; omega,fun _=>rfl⟩
  | cons x l =>
   simp only [List.length_cons]
   refine⟨by simp,fun h=>?_,fun h=>?_⟩
   ·have:decide (l.length+1 = k) = true:=by rw [decide_eq_true_eq]; omega
    simp only [isC,this]
    cases x<;>simp [E.iavs,E.iav,has_ptr,isNil_ptr,deref_ptr,has_str,toStr_v,toList_mk,E.at]
   ·have:decide (l.length+1 = k) = false:=by rw [decide_eq_false_iff_not]; omega
    simp only [isC,this]; rfl
def optV:Option Vl->AV
 | some v=>v.iav
 | none=>.v (.pointer none)
end Go.Proofs.Trees
namespace Go.Proofs.Trees
open Go Go.VL Go.RowKit
theorem optV_has (v:Option Vl):LK.has .ptr (optV v) = True:=by cases v<;>simp [optV,vl_has,has_nil]
theorem Sq1f:∀(e:E),e.ok->FSpec Tryz.prog 100 [e.iav] [] (Det (optV (vlOf e)))
 | .atom s,hok=>by
  refine Fqbp _ ((iav_has _).mpr trivial) ?_
  have hd:=iav_at (.atom s)
  have hlen:=iav_len (.atom s)
  simp only [E.at] at hd
  simp only [tq4g,↓zq,zs,hasK,zt,Det,iav_has,iav_nil,hd,vlOf]
  refine⟨hlen,fun h=>?_,fun h=>⟨hlen,?_⟩⟩
  ·rw [if_pos h]; rfl
  ·rw [if_neg h]
   refine wp_det (Sq65 s) ?_
   simp only [↓zq,zs,hasK,zt]
   refine⟨fun he=>⟨hlen,?_⟩,fun he=>?_⟩
   ·obtain⟨k,hk⟩:=Option.isSome_iff_exists.1 he
    obtain⟨h1,h2⟩:=elNum_elS hk
    rw [hk,h1]; rfl
   ·have hn:elNum s = none:=by cases hq:elNum s<;>simp [hq] at he |-
    rw [hn]
    refine wp_det (Sq1 (.atom s) [108] 2 (by omega)) ?_
    simp only [isC,↓zq,zs,hasK,zf]
    refine⟨fun h=>(by cases h),fun _=>wp_det (Sq1 (.atom s) [114] 2 (by omega)) ?_⟩
    simp only [isC,↓zq,zs,hasK,zf]
    refine⟨fun h=>(by cases h),fun _=>wp_det (Sq1 (.atom s) [102] 2 (by omega)) ?_⟩
    simp only [isC,↓zq,zs,hasK,zf]
    refine⟨fun h=>(by cases h),fun _=>wp_det (Sq1 (.atom s) [112] 3 (by omega)) ?_⟩
    simp only [isC,↓zq,zs,hasK,zf]
    exact⟨fun h=>(by cases h),fun _=>rfl⟩
 | .list l,hok=>by
  refine Fqbp _ ((iav_has _).mpr trivial) ?_
  have hd:=iav_at (.list l)
  have hlen:=iav_len (.list l)
  have hlen2:∀{l:List E},((AV.v (.string (mk [])))::[AV.sl (E.iavs l)]).length = 2:=rfl
  simp only [E.at] at hd
  have he:elNum [] = none:=rfl
  simp only [tq4g,↓zq,zs,hasK,zt,Det,iav_has,iav_nil,hd]
  refine⟨hlen,fun h=>(by cases h),fun h=>⟨hlen,?_⟩⟩
  refine wp_det (Sq65 []) ?_
  rw [he]
  simp only [↓zq,zs,hasK,zt,zf,Option.isSome_none]
  refine⟨fun h=>(by cases h),fun _=>wp_det (Sq1 (.list l) [108] 2 (by omega)) ?_⟩
  have hno:∀w:List UInt8,(∀x a,l≠[x,a])->isC (.list l) w 2 = false:=by
   intro w h2
   match l,h2 with
   | [],_=>rfl
   | [x],_=>rfl
   | [x,a],h2=>exact absurd rfl (h2 x a)
   | x::y::z::l,_=>simp [isC]
  match l,hok,hno,hlen with
  | [x,a],hok,hno,hlen =>
   clear hno
   obtain⟨ok1,ok2,_⟩:=hok
   have e2:∀w:List UInt8,isC (.list [x,a]) w 2 = (x.at==w):=fun w=>rfl
   have e3:isC (.list [x,a]) [112] 3 = false:=rfl
   have hx:=iav_at x
   have hxl:=iav_len x
   rw [vlOf]
   simp only [e2,↓zq,zs,hasK]
   refine⟨fun h1=>?_,fun h1=>wp_det (Sq1 (.list [x,a]) [114] 2 (by omega)) ?_⟩
   ·simp only [E.iav,E.iavs,toNat_one,↓zq,zs,hasK,zt,iav_has,iav_nil]
    refine⟨by omega,by omega,by omega,wp_det (Sq1f a ok2) ?_⟩
    cases hv:vlOf a with
    | none=>simp only [optV,↓zq,zs,hasK,optV_has]; exact⟨fun _=>trivial,fun h=>(by cases h)⟩
    | some v =>
     simp only [optV,↓zq,zs,hasK,zt,vl_has,vl_nil,hx,h1,iav_has,iav_nil]
     refine⟨fun h=>(by cases h),fun _=>⟨by omega,by omega,by omega,hxl,by simp,?_⟩⟩
     rfl
   ·simp only [e2,↓zq,zs,hasK]
    refine⟨fun h2=>?_,fun h2=>wp_det (Sq1 (.list [x,a]) [102] 2 (by omega)) ?_⟩
    ·simp only [E.iav,E.iavs,toNat_one,↓zq,zs,hasK,zt,iav_has,iav_nil]
     refine⟨by omega,by omega,by omega,wp_det (Sq1f a ok2) ?_⟩
     cases hv:vlOf a with
     | none=>simp only [optV,↓zq,zs,hasK,optV_has]; exact⟨fun _=>trivial,fun h=>(by cases h)⟩
     | some v =>
      simp only [optV,↓zq,zs,hasK,zt,vl_has,vl_nil,hx,h2,iav_has,iav_nil]
      refine⟨fun h=>(by cases h),fun _=>⟨by omega,by omega,by omega,hxl,by simp,?_⟩⟩
      rfl
    ·simp only [e2,↓zq,zs,hasK]
     refine⟨fun h3=>?_,fun h3=>wp_det (Sq1 (.list [x,a]) [112] 3 (by omega)) ?_⟩
     ·simp only [E.iav,E.iavs,toNat_one,↓zq,zs,hasK,zt,iav_has,iav_nil]
      refine⟨by omega,by omega,by omega,wp_det (Sq1f a ok2) ?_⟩
      cases hv:vlOf a with
      | none=>simp only [optV,↓zq,zs,hasK,optV_has]; exact⟨fun _=>trivial,fun h=>(by cases h)⟩
      | some v =>
       simp only [optV,↓zq,zs,hasK,zt,vl_has,vl_nil,hx,h3,iav_has,iav_nil]
       refine⟨fun h=>(by cases h),fun _=>⟨by omega,by omega,by omega,hxl,by simp,?_⟩⟩
       rfl
     ·rw [e3]
      simp only [↓zq,zs,hasK]
      refine⟨fun h=>(by cases h),fun _=>?_⟩
      cases vlOf a with
      | none=>rfl
      | some v=>simp only [if_neg h1,if_neg h2,if_neg h3]; rfl
  | [x,a,b],hok,hno,hlen =>
   obtain⟨ok1,ok2,ok3,_⟩:=hok
   have h2:=fun w=>hno w (fun x a h=>(by cases h))
   rw [h2]
   simp only [↓zq,zs,hasK]
   refine⟨fun h=>(by cases h),fun _=>wp_det (Sq1 (.list [x,a,b]) [114] 2 (by omega)) ?_⟩
   rw [h2]
   simp only [↓zq,zs,hasK]
   refine⟨fun h=>(by cases h),fun _=>wp_det (Sq1 (.list [x,a,b]) [102] 2 (by omega)) ?_⟩
   rw [h2]
   simp only [↓zq,zs,hasK]
   refine⟨fun h=>(by cases h),fun _=>wp_det (Sq1 (.list [x,a,b]) [112] 3 (by omega)) ?_⟩
   have e3:isC (.list [x,a,b]) [112] 3 = (x.at==[112]):=rfl
   rw [e3,vlOf]
   simp only [↓zq,zs,hasK]
   refine⟨fun h1=>?_,fun h1=>?_⟩
   ·rw [if_pos h1]
    simp only [E.iav,E.iavs,toNat_one,toNat_two,↓zq,zs,hasK,zt,iav_has,iav_nil]
    refine⟨by omega,by omega,by omega,wp_det (Sq1f a ok2) ?_⟩
    simp only [↓zq,zs,hasK,optV_has,iav_has]
    refine⟨by omega,by omega,by omega,wp_det (Sq1f b ok3) ?_⟩
    cases hv:vlOf a with
    | none=>cases hw:vlOf b<;>simp only [optV,↓zq,zs,hasK,optV_has,vl_has]<;>exact⟨fun _=>trivial,fun h=>(by cases h)⟩
    | some v =>
     cases hw:vlOf b with
     | none =>
      simp only [optV,↓zq,zs,hasK,optV_has,vl_has,vl_nil]
      exact⟨fun h=>(by cases h),fun _=>⟨fun _=>trivial,fun h=>(by cases h)⟩⟩
     | some w =>
      simp only [optV,↓zq,zs,hasK,vl_has,vl_nil]
      refine⟨fun h=>(by cases h),fun _=>⟨fun h=>(by cases h),fun _=>?_⟩⟩
      refine wp_det (Sq1l _ _ ((vl_has _).mpr trivial) ((vl_has _).mpr trivial)) ?_
      simp only [↓zq,zs,hasK]; rfl
   ·rw [if_neg h1]; rfl
  | [],hok,hno,hlen =>
   have h2:=fun w=>hno w (fun x a h=>(by cases h))
   have e3:isC (.list []) [112] 3 = false:=rfl
   rw [h2]
   simp only [↓zq,zs,hasK]
   refine⟨fun h=>(by cases h),fun _=>wp_det (Sq1 (.list []) [114] 2 (by omega)) ?_⟩
   rw [h2]
   simp only [↓zq,zs,hasK]
   refine⟨fun h=>(by cases h),fun _=>wp_det (Sq1 (.list []) [102] 2 (by omega)) ?_⟩
   rw [h2]
   simp only [↓zq,zs,hasK]
   refine⟨fun h=>(by cases h),fun _=>wp_det (Sq1 (.list []) [112] 3 (by omega)) ?_⟩
   rw [e3]
   simp only [↓zq,zs,hasK]
   exact⟨fun h=>(by cases h),fun _=>rfl⟩
  | [x],hok,hno,hlen =>
   have h2:=fun w=>hno w (fun x a h=>(by cases h))
   have e3:isC (.list [x]) [112] 3 = false:=rfl
   rw [h2]
   simp only [↓zq,zs,hasK]
   refine⟨fun h=>(by cases h),fun _=>wp_det (Sq1 (.list [x]) [114] 2 (by omega)) ?_⟩
   rw [h2]
   simp only [↓zq,zs,hasK]
   refine⟨fun h=>(by cases h),fun _=>wp_det (Sq1 (.list [x]) [102] 2 (by omega)) ?_⟩
   rw [h2]
   simp only [↓zq,zs,hasK]
   refine⟨fun h=>(by cases h),fun _=>wp_det (Sq1 (.list [x]) [112] 3 (by omega)) ?_⟩
   rw [e3]
   simp only [↓zq,zs,hasK]
   exact⟨fun h=>(by cases h),fun _=>rfl⟩
  | x::y::z::w::l,hok,hno,hlen =>
   have h2:=fun w=>hno w (fun x a h=>(by cases h))
   have e3:isC (.list (x::y::z::w::l)) [112] 3 = false:=by simp [isC]
   rw [h2]
   simp only [↓zq,zs,hasK]
   refine⟨fun h=>(by cases h),fun _=>wp_det (Sq1 (.list (x::y::z::w::l)) [114] 2 (by omega)) ?_⟩
   rw [h2]
   simp only [↓zq,zs,hasK]
   refine⟨fun h=>(by cases h),fun _=>wp_det (Sq1 (.list (x::y::z::w::l)) [102] 2 (by omega)) ?_⟩
   rw [h2]
   simp only [↓zq,zs,hasK]
   refine⟨fun h=>(by cases h),fun _=>wp_det (Sq1 (.list (x::y::z::w::l)) [112] 3 (by omega)) ?_⟩
   rw [e3]
   simp only [↓zq,zs,hasK]
   exact⟨fun h=>(by cases h),fun _=>rfl⟩
def rdV (s:List UInt8):Option Vl:=match rdT s with
 | none=>none
 | some e=>match vlOf e with
  | none=>none
  | some v=>if v.nodes > 200 then none else some v
theorem rdV_ok {s:List UInt8} {v:Vl} (h:rdV s = some v):rdT s = some v.toE/\v.bel 100/\v.nodes<=200:=by
 unfold rdV at h
 split at h
 ·cases h
 ·rename_i e he
  split at h
  ·cases h
  ·rename_i w hw
   split at h
   ·cases h
   ·cases h
    obtain⟨h1,h2⟩:=vlOf_toE e _ hw
    rw [h1]
    exact⟨he,h2,by omega⟩
theorem vlOf_nodes {e:E} {v:Vl} (h:vlOf e = some v):v.nodes<=e.sz:=by
 obtain⟨h1,_⟩:=vlOf_toE e v h
 rw [<-toE_nd,h1]; exact nd_le e
theorem Sqfi (s:List UInt8):FSpec Tryz.prog 62 [.v (.string (mk s))] [] (Det (optV (rdV s))):=by
 refine Fqet _ ?_
 unfold tq7z
 refine wp_det (Sqce s) ?_
 unfold rdV
 cases he:rdT s with
 | none=>simp only [optP,↓zq,zs,hasK,Det,optV]; simp
 | some e =>
  obtain⟨h1,h2⟩:=rdT_ok he
  simp only [optP,↓zq,zs,hasK,iav_has,iav_nil]
  refine⟨fun h=>(by cases h),fun _=>?_⟩
  refine wp_det (Sq1f e h1) ?_
  cases hv:vlOf e with
  | none=>simp only [optV,↓zq,zs,hasK,Det]; simp
  | some v =>
   have hn:=vlOf_nodes hv
   simp only [optV,↓zq,zs,hasK,vl_has,vl_nil]
   refine⟨fun h=>(by cases h),fun _=>?_⟩
   refine wp_det (Sq11 v (by omega)) ?_
   simp only [↓zq,zs,hasK,Det]
   refine⟨fun h=>?_,fun h=>?_⟩
   ·rw [if_pos (by omega)]
   ·rw [if_neg (by omega)]
theorem Sq1e:∀(e:E),e.ok->FSpec Tryz.prog 77 [e.sav] [] (Det (.v (.bool (isV e))))
 | .atom s,hok=>by
  refine Fq19 _ _ ((has_slnil).mpr trivial) ?_
  have hne:s≠[]:=hok
  simp only [tqs,↓zq,zs,hasK,zt,Det,isV]
  refine⟨fun _=>⟨fun h=>?_,fun h=>?_⟩,fun h=>absurd h hne⟩
  ·simp [h]
  ·refine wp_det (Sq6j s) ?_
   have h':(s==[117]) = false:=by simpa using h
   simp only [↓zq,zs,hasK,h',Bool.false_or]
   congr 2
   rw [elI]
   cases elNum s with
   | none=>rfl
   | some k=>simp
 | .list [],hok=>by
  refine Fq19 _ _ ((has_sl _).mpr trivial) ?_
  simp only [tqs,↓zq,zs,hasK,zt,Det,isV]
  refine⟨fun h=>absurd rfl h,fun _=>?_⟩
  refine wp_det Sqfa ?_
  simp [↓zq,zs,hasK,zt]
 | .list [x],hok=>by
  refine Fq19 _ _ ((has_sl _).mpr trivial) ?_
  simp only [tqs,↓zq,zs,hasK,zt,Det,isV]
  refine⟨fun h=>absurd rfl h,fun _=>?_⟩
  refine wp_det (Sq2 x _) ?_
  simp [↓zq,zs,hasK,zt,E.scellss]
 | .list (x::y::z::w::l),hok=>by
  refine Fq19 _ _ ((has_sl _).mpr trivial) ?_
  simp only [tqs,↓zq,zs,hasK,zt,Det,isV]
  refine⟨fun h=>absurd rfl h,fun _=>?_⟩
  refine wp_det (Sq2 x _) ?_
  simp only [↓zq,zs,hasK,zt,E.scellss]
  refine⟨fun _=>⟨fun h=>by omega,fun _=>trivial⟩,fun _=>⟨fun _=>⟨fun h=>by omega,fun _=>trivial⟩,fun _=>⟨fun _=>⟨fun h=>by omega,fun _=>trivial⟩,fun _=>⟨fun _=>⟨fun h=>by omega,fun _=>trivial⟩,fun _=>trivial⟩⟩⟩⟩
 | .list [x,a],hok=>by
  refine Fq19 _ _ ((has_sl _).mpr trivial) ?_
  obtain⟨ok1,ok2,_⟩:=hok
  simp only [tqs,↓zq,zs,hasK,zt,Det,isV]
  refine⟨fun h=>absurd rfl h,fun _=>?_⟩
  refine wp_det (Sq2 x _) ?_
  simp only [E.scellss,toNat_one,toNat_two,↓zq,zs,hasK,zt,sc_agg,sc_len,sc_has,sc_hd,Nat.le_refl]
  refine⟨fun h=>⟨fun _=>⟨by omega,?_⟩,fun h=>by omega⟩,fun h1=>⟨fun h=>⟨fun _=>⟨by omega,?_⟩,fun h=>by omega⟩,fun h2=>⟨fun h=>⟨fun _=>⟨by omega,?_⟩,fun h=>by omega⟩,fun h3=>⟨fun h=>⟨fun h=>by omega,fun _=>?_⟩,fun h=>?_⟩⟩⟩⟩
  ·refine wp_det (Sq1e a ok2) ?_
   simp [↓zq,zs,hasK,h]
  ·refine wp_det (Sq1e a ok2) ?_
   simp [↓zq,zs,hasK,h]
  ·refine wp_det (Sq1e a ok2) ?_
   simp [↓zq,zs,hasK,h]
  ·simp [h]
  ·simp [h1,h2,h3]
 | .list [x,a,b],hok=>by
  refine Fq19 _ _ ((has_sl _).mpr trivial) ?_
  obtain⟨ok1,ok2,ok3,_⟩:=hok
  simp only [tqs,↓zq,zs,hasK,zt,Det,isV]
  refine⟨fun h=>absurd rfl h,fun _=>?_⟩
  refine wp_det (Sq2 x _) ?_
  simp only [E.scellss,toNat_one,toNat_two,↓zq,zs,hasK,zt,sc_agg,sc_len,sc_has,sc_hd,Nat.le_refl]
  refine⟨fun h=>⟨fun h=>by omega,fun _=>?_⟩,fun h1=>⟨fun h=>⟨fun h=>by omega,fun _=>?_⟩,fun h2=>⟨fun h=>⟨fun h=>by omega,fun _=>?_⟩,fun h3=>⟨fun h=>⟨fun _=>⟨by omega,?_⟩,fun h=>by omega⟩,fun h=>?_⟩⟩⟩⟩
  ·simp [h]
  ·simp [h]
  ·simp [h]
  ·refine wp_det (Sq1e a ok2) ?_
   simp only [↓zq,zs,hasK,h]
   refine⟨fun ha=>⟨by omega,wp_det (Sq1e b ok3) ?_⟩,fun ha=>?_⟩
   ·simp [↓zq,zs,hasK,ha]
   ·simp [ha]
  ·simp [h]
theorem Sq23 (s:List UInt8):FSpec Tryz.prog 52 [.v (.string (mk s))] [] (ParR ((rdV s).map Vl.toE) (rdV s).isSome):=by
 refine Fqgs _ ?_
 unfold tq6b
 refine wp_call (Sqbk s) (ParR.ne _ _ (fun h=>h)) ?_
 rintro r o ⟨c,d,hd,rfl,hh⟩
 simp only [↓zq,zs,hasK,zt,hasL,rdV]
 refine⟨hd,fun h=>?_,fun h=>?_⟩
 ·obtain⟨e,he,hce⟩:=hh h
  obtain⟨hok,hsz⟩:=rdT_ok he
  rw [he,hce]
  refine wp_det (Sq1e e hok) ?_
  simp only [↓zq,zs,hasK]
  have hs:=vlOf_isV e
  refine⟨fun hi=>?_,fun hi=>?_⟩
  ·rw [hi] at hs
   obtain⟨v,hv⟩:=Option.isSome_iff_exists.1 hs
   obtain⟨h1,h2⟩:=vlOf_toE e v hv
   refine wp_det (Sqge e (by omega)) ?_
   simp only [↓zq,zs,hasK,hv]
   have hnd:e.nd = v.nodes:=by rw [<-h1,toE_nd]
   rw [hnd]
   refine⟨c,d,hd,?_,?_⟩
   ·rw [hce]
    by_cases h4:v.nodes > 200
    ·rw [if_pos h4]; exact congrArg (fun b=>AV.tup [e.sav,.v (.bool b)]) (decide_eq_false (show ¬ ((v.nodes:Nat):Int)<=200 by omega))
    ·rw [if_neg h4]; exact congrArg (fun b=>AV.tup [e.sav,.v (.bool b)]) (decide_eq_true (show ((v.nodes:Nat):Int)<=200 by omega))
   ·split
    ·exact fun h=>by cases h
    ·exact fun _=>⟨e,by simp [h1],hce⟩
  ·rw [hi] at hs
   have hn:vlOf e = none:=by cases hq:vlOf e<;>simp [hq] at hs |-
   rw [hn]
   exact⟨c,d,hd,by rw [hce]; rfl,fun h=>by cases h⟩
 ·have hn:rdT s = none:=by cases hq:rdT s<;>simp [hq] at h |-
  rw [hn]
  exact⟨c,d,hd,rfl,fun h=>by cases h⟩
end Go.Proofs.Trees
namespace Go.Proofs.Trees
open Go Go.VL Go.RowKit
inductive Fr where
 | mk (s:List UInt8) (e:E) (o:List Fr)
def Fr.nm:Fr->List UInt8 | .mk s _ _=>s
def Fr.ex:Fr->E | .mk _ e _=>e
def Fr.out:Fr->List Fr | .mk _ _ o=>o
def names:List Fr->List (List UInt8)
 | []=>[]
 | f::r=>names r++[f.nm]
def tyD (e:E) (o:List Fr):Ty:=(tyOf e (names o)).getD .zero
def E.sp:E->AV
 | .atom _=>.v (.slice none 0 0)
 | .list l=>.sl (E.scellss l)
theorem scells_sp (e:E):e.scells = [.v (.string (mk e.at)),e.sp]:=by cases e<;>rfl
theorem sav_sp (e:E):e.sav = .agg [.v (.string (mk e.at)),e.sp]:=by cases e<;>rfl
theorem sp_has (e:E):LK.has .sl e.sp = True:=by cases e<;>simp [E.sp,has_slnil,has_sl]
mutual
def Fr.cells:Fr->List AV
 | .mk s e o=>[.v (.string (mk s)),.v (.string (mk e.at)),e.sp,.sl (envS o)]
def envS:List Fr->List (List AV)
 | []=>[]
 | f::r=>envS r++[f.cells]
end
mutual
def Fr.iav:Fr->AV
 | .mk s e o=>.ptr [(tyD e o).av,envI o]
def envI:List Fr->AV
 | []=>nilp
 | f::r=>.ptr [f.iav,envI r]
end
inductive WF:List Fr->Prop
 | nil:WF []
 | cons {s:List UInt8} {x a b:E} {t:Ty} {r:List Fr} (hs:isLoo s = true) (hok:(E.list [x,a,b]).ok) (hx:x.at = [114,101,99]) (ht:tyOf (.list [x,a,b]) (names r) = some t) (hf:freeLoo t = false) (hr:WF r):WF (.mk s (.list [x,a,b]) r::r)
theorem envS_len:∀env:List Fr,(envS env).length = env.length
 | []=>rfl
 | f::r=>by simp [envS,envS_len r]
theorem envI_has (env:List Fr):LK.has .ptr (envI env) = True:=by cases env<;>simp [envI,has_nil,has_ptr]
theorem fr_has (f:Fr):LK.has .ptr f.iav = True:=by cases f; simp [Fr.iav,has_ptr]
def findF (s:List UInt8):List Fr->Option Fr
 | []=>none
 | f::r=>if f.nm = s then some f else findF s r
def hd (e:E) (env:List Fr):E×List Fr:=match findF e.at env with | some f=>(f.ex,f.out) | none=>(e,env)
theorem findF_nil {env:List Fr} (h:WF env):findF [] env = none:=by
 induction h with
 | nil=>rfl
 | @cons s x a b t r hs hok hx ht hf hr ih =>
  rw [findF,if_neg (show ¬ (Fr.mk s (.list [x,a,b]) r).nm = [] from loo_ne hs)]; exact ih
theorem findF_loo {env:List Fr} (h:WF env) {s:List UInt8} {f:Fr} (hf:findF s env = some f):isLoo s = true:=by
 induction h with
 | nil=>cases hf
 | cons hs hok hx ht hf' hr ih =>
  rw [findF] at hf
  split at hf
  ·rename_i e; exact e ▸ hs
  ·exact ih hf
theorem findF_wf {env:List Fr} (h:WF env) {s:List UInt8} {f:Fr} (hf:findF s env = some f):∃x a b t,f.ex = .list [x,a,b]/\(E.list [x,a,b]).ok/\x.at = [114,101,99]/\tyOf f.ex (names f.out) = some t/\freeLoo t = false/\WF f.out/\f.out.length < env.length:=by
 induction h with
 | nil=>cases hf
 | cons hs hok hx ht hf' hr ih =>
  rw [findF] at hf
  split at hf
  ·cases hf; exact⟨_,_,_,_,rfl,hok,hx,ht,hf',hr,by simp [Fr.out]⟩
  ·obtain⟨x,a,b,t,h1,h2,h3,h4,h5,h6,h7⟩:=ih hf
   exact⟨x,a,b,t,h1,h2,h3,h4,h5,h6,by simp; omega⟩
theorem lastOf_snoc (s w:List UInt8) (ar:List (List UInt8)):∀i,i<=ar.length->lastOf s (ar++[w]) i = (lastOf s ar i).map (·+1)
 | 0,_=>rfl
 | i+1,hi=>by
  have hlt:i < ar.length:=by omega
  have e:(ar++[w]).getD i [] = ar.getD i []:=by simp [List.getD_eq_getElem?_getD,List.getElem?_append_left hlt]
  rw [lastOf,lastOf,e,lastOf_snoc s w ar i (by omega)]
  split
  ·simp only [List.length_append,List.length_cons,List.length_nil,Option.map_some,Option.some.injEq]; omega
  ·rfl
theorem lastOf_cons (s:List UInt8) (f:Fr) (r:List Fr):lastOf s (names (f::r)) (names (f::r)).length = if f.nm = s then some 0 else(lastOf s (names r) (names r).length).map (·+1):=by
 have e:(names (f::r)).length = (names r).length+1:=by simp [names]
 rw [e,lastOf]
 have e2:(names (f::r)).getD (names r).length [] = f.nm:=by simp [names,List.getD_eq_getElem?_getD]
 rw [e2]
 split
 ·rw [e]; simp
 ·rw [names,lastOf_snoc _ _ _ _ (Nat.le_refl _)]
theorem lastOf_findF (s:List UInt8):∀env:List Fr,lastOf s (names env) (names env).length = none/\findF s env = none\/∃(u:Nat) (f:Fr),lastOf s (names env) (names env).length = some u/\findF s env = some f/\env[u]? = some f
 | []=>.inl ⟨rfl,rfl⟩
 | f::r=>by
  rw [lastOf_cons,findF]
  split
  ·exact .inr ⟨0,f,rfl,rfl,rfl⟩
  ·rcases lastOf_findF s r with⟨h1,h2⟩ | ⟨u,g,h1,h2,h3⟩
   ·exact .inl ⟨by rw [h1]; rfl,h2⟩
   ·exact .inr ⟨u+1,g,by rw [h1]; rfl,h2,by simpa using h3⟩
def Ty.isB:Ty->Bool
 | .bound _=>true
 | _=>false
theorem ty_cases {e:E} {env:List Fr} {t:Ty} (hw:WF env) (ht:tyOf e (names env) = some t) :
  (t.isB = false/\findF e.at env = none)\/∃(u:Nat) (f:Fr),t = .bound u/\findF e.at env = some f/\env[u]? = some f:=by
 cases e with
 | list l =>
  left
  refine⟨?_,findF_nil hw⟩
  match l,ht with
  | [x,a,b],ht =>
   by_cases h0:x.at = [43]
   ·obtain⟨t1,t2,_,_,rfl⟩:=tyOf_plus_inv h0 ht; rfl
   ·by_cases h1:x.at = [42]
    ·obtain⟨t1,t2,_,_,rfl⟩:=tyOf_times_inv h1 ht; rfl
    ·by_cases h2:x.at = [114,101,99]
     ·obtain⟨t1,_,_,rfl⟩:=tyOf_rec_inv h2 ht; rfl
     ·rw [tyOf_no _ h0 h1 h2] at ht; cases ht
  | [],ht=>cases ht
  | [_],ht=>cases ht
  | [_,_],ht=>cases ht
  | _::_::_::_::_,ht=>cases ht
 | atom s =>
  simp only [tyOf] at ht
  have hno:isLoo s = false->findF s env = none:=fun h=>by
   cases hq:findF s env with
   | none=>rfl
   | some f=>rw [findF_loo hw hq] at h; cases h
  split at ht
  ·rename_i h; cases ht; subst h; exact .inl ⟨rfl,hno rfl⟩
  ·split at ht
   ·rename_i h; cases ht; subst h; exact .inl ⟨rfl,hno rfl⟩
   ·split at ht
    ·rename_i h
     cases ht
     refine .inl ⟨rfl,hno ?_⟩
     cases hq:isLoo s with
     | false=>rfl
     | true =>
      obtain⟨c,r,rfl,h1,h2⟩:=named_cons h
      obtain⟨c',r',he,h3,h4⟩:=named_cons hq
      cases he; omega
    ·split at ht
     ·rcases lastOf_findF s env with⟨h1,h2⟩ | ⟨u,f,h1,h2,h3⟩
      ·rw [h1] at ht; cases ht; exact .inl ⟨rfl,h2⟩
      ·rw [h1] at ht; cases ht; exact .inr ⟨u,f,rfl,h2,h3⟩
     ·cases ht
def vis (n:Nat):Vl->E×List Fr->Bool
 | .u,p=>match hd p.1 p.2 with | (.atom s,_)=>s==[49] | _=>false
 | .el k,p=>match hd p.1 p.2 with | (.atom s,_)=>!(s==[49])&&(isPar s&&decide (k < n)) | _=>false
 | .l w,p=>match hd p.1 p.2 with | (.list [x,a,b],o)=>(x.at==[43])&&vis n w (a,o) | _=>false
 | .r w,p=>match hd p.1 p.2 with | (.list [x,a,b],o)=>(x.at==[43])&&vis n w (b,o) | _=>false
 | .f w,p=>match hd p.1 p.2 with | (.list [x,a,b],o)=>(x.at==[114,101,99])&&vis n w (b,.mk a.at (.list [x,a,b]) o::o) | _=>false
 | .p v w,p=>match hd p.1 p.2 with | (.list [x,a,b],o)=>(x.at==[42])&&(vis n v (a,o)&&vis n w (b,o)) | _=>false
theorem hd_none {e:E} {env:List Fr} (h:findF e.at env = none):hd e env = (e,env):=by rw [hd,h]
theorem hd_some {e:E} {env:List Fr} {f:Fr} (h:findF e.at env = some f):hd e env = (f.ex,f.out):=by rw [hd,h]
theorem hd_rec {x a b:E} {o:List Fr} (h:WF o):hd (.list [x,a,b]) o = (.list [x,a,b],o):=hd_none (findF_nil h)
theorem vis_hd (n:Nat) (v:Vl) {e e':E} {env o:List Fr} (h:hd e env = (e',o)) (h':hd e' o = (e',o)):vis n v (e,env) = vis n v (e',o):=by
 cases v<;>simp only [vis,h,h']
theorem wf_enter {x a b:E} {env:List Fr} {t:Ty} (hw:WF env) (hok:(E.list [x,a,b]).ok) (hx:x.at = [114,101,99]) (ht:tyOf (.list [x,a,b]) (names env) = some t) (hf:freeLoo t = false) :
  ∃t1,t = .rc t1/\tyOf b (names (.mk a.at (.list [x,a,b]) env::env)) = some t1/\freeLoo t1 = false/\WF (.mk a.at (.list [x,a,b]) env::env):=by
 obtain⟨t1,hl,h1,rfl⟩:=tyOf_rec_inv hx ht
 exact⟨t1,rfl,h1,hf,.cons hl hok hx ht hf hw⟩
theorem Sq1b (a b env:AV) (n:Int) (s:ByteArray) (u:Int) (ha:LK.ptr.has a) (he:LK.ptr.has env):FSpec Tryz.prog 82 [.agg [.ptr [.v (.int .u8 n),.v (.string s),.v (.int .i64 u),a,b],env]] [] (Det (.agg [a,env])):=by
 refine Fqem _ _ ((has_ptr _).mpr trivial) he ?_
 simp only [tq62,↓zq,zs,hasK,Det]
 exact⟨ha,by omega⟩
theorem Sq1i (a b env:AV) (n:Int) (s:ByteArray) (u:Int) (hb:LK.ptr.has b) (he:LK.ptr.has env):FSpec Tryz.prog 83 [.agg [.ptr [.v (.int .u8 n),.v (.string s),.v (.int .i64 u),a,b],env]] [] (Det (.agg [b,env])):=by
 refine Fqgk _ _ ((has_ptr _).mpr trivial) he ?_
 simp only [tq7o,↓zq,zs,hasK,Det]
 exact⟨hb,by omega⟩
theorem Sqdl (t:Ty) (env:List Fr) (s:List UInt8) (e:E) (ht:tyD e env = .rc t):FSpec Tryz.prog 55 [.agg [(Ty.rc t).av,envI env]] [] (Det (.tup [.agg [t.av,envI (.mk s e env::env)],(Fr.mk s e env).iav])):=by
 refine Fqf8 _ _ ((ty_has _).mpr trivial) ((envI_has _).mpr trivial) ?_
 simp only [tqai,Ty.av,↓zq,zs,hasK,ty_has,Det,envI,Fr.iav,ht]
 omega
theorem envI_drop (env:List Fr) (i:Nat) (f:Fr) (h:env[i]? = some f):envI (env.drop i) = .ptr [f.iav,envI (env.drop (i+1))]:=by
 obtain⟨hlt,he⟩:=List.getElem?_eq_some_iff.1 h
 rw [List.drop_eq_getElem_cons hlt,he,envI]
theorem Lq9s (env:List Fr) (u:Nat) (hu:u < env.length) (hl:env.length < 1000000):∀(k i:Nat),i+k = u->Lq2d [envI (env.drop i),.v (.int .i64 (u:Int)),.v (.int .i64 (i:Int))] [] (LIs 1 [envI (env.drop u)] [])
 | 0,i,hi=>by
  refine Gq22 _ _ _ ?_
  have:i = u:=by omega
  subst this
  simp only [rq1y,↓zq,zs,hasK,envI_has]
  exact⟨fun h=>by omega,fun _=>by simp [LIs]⟩
 | k+1,i,hi=>by
  refine Gq22 _ _ _ ?_
  have hlt:i < env.length:=by omega
  have hg:env[i]? = some env[i]:=List.getElem?_eq_getElem hlt
  have hd:=envI_drop env i _ hg
  rw [hd]
  simp only [rq1y,↓zq,zs,hasK,envI_has]
  refine⟨fun _=>⟨by omega,?_⟩,fun h=>by omega⟩
  rw [wrap_succ i (by omega)]
  exact Lq9s env u hu hl k (i+1) (by omega)
theorem Sqff (env:List Fr) (u:Nat) (f:Fr) (hf:env[u]? = some f) (hl:env.length < 1000000):FSpec Tryz.prog 102 [.agg [(Ty.bound u).av,envI env]] [] (Det f.iav):=by
 refine Fq6s _ _ ((ty_has _).mpr trivial) ((envI_has _).mpr trivial) ?_
 obtain⟨hlt,he⟩:=List.getElem?_eq_some_iff.1 hf
 simp only [tq3l,Ty.av,↓zq,zs,hasK]
 refine⟨by omega,?_⟩
 have h:=Lq9s env u hlt hl u 0 (by omega)
 simp only [List.drop_zero] at h
 refine wp_loop1 h ?_
 rw [envI_drop env u f hf]
 simp only [↓zq,zs,hasK,fr_has,Det]
 omega
theorem atoi_dd (k:Nat) (h:k < 100):Lib.atoi (dd k) = some (k:Int):=by
 have e:∀k,k < 100->dd k = if k < 10 then [UInt8.ofNat (48+k)] else [UInt8.ofNat (48+k / 10),UInt8.ofNat (48+k % 10)]:=by
  intro k hk
  by_cases h1:k < 10
  ·rw [dd_one h1,if_pos h1]
  ·rw [dd_more h1,dd_one (by omega),if_neg h1]; rfl
 have key:∀k:Fin 100,Lib.atoi (if k.val < 10 then [UInt8.ofNat (48+k.val)] else [UInt8.ofNat (48+k.val / 10),UInt8.ofNat (48+k.val % 10)]) = some (k.val:Int):=by decide +kernel
 rw [e k h]; exact key ⟨k,h⟩
theorem Sqe7 (k:Nat) (hk:k < 100):FSpec Tryz.prog 101 [.v (.string (mk (dd k)))] [] (Det (.tup [.v (.int .i64 (k:Int)),.v .nilIface])):=by
 have hl:=dd_len 1000 k (by omega)
 have hl2:(dd k).length<=18:=by
  have e:(dd k).length<=2:=by
   by_cases h1:k < 10
   ·rw [dd_one h1]; simp
   ·rw [dd_more h1,dd_one (by omega)]; simp
  omega
 refine FSpec.libA (xs:=[.string (mk (dd k))]) (v:=.tuple #[.int .i64 (k:Int),.nilIface]) ⟨fd_strconv_Atoi,by kernel_rfl,by kernel_rfl,by kernel_rfl⟩ (fun M=>?_) fun w=>?_
 ·refine Rep.tup _ _ [.int .i64 (k:Int),.nilIface] rfl fun i hi=>?_
  match i,hi with
  | 0,_=>exact .v _ _
  | 1,_=>exact .v _ _
 ·have:=Any.strconv_Atoi Tryz.lays172 (mk (dd k)) (k:Int) (by rw [size_mk]; exact hl2) (by
   have:(mk (dd k)).data.toList = dd k:=by simp [mk]
   rw [this]; exact atoi_dd k hk) w
  refine Calls.mono this fun e w' ⟨h1,t,h2⟩=>⟨h1,?_⟩
  subst h2
  refine⟨rfl,rfl,rfl,?_,fun b hb=>Lib.bytesWorld_at_old _ _ _ _ hb⟩
  simp [Lib.bytesWorld,World.freeze]
end Go.Proofs.Trees
namespace Go.Proofs.Trees
open Go Go.VL Go.RowKit
theorem freeLoo_plus {a b:Ty} (h:freeLoo (.plus a b) = false):freeLoo a = false/\freeLoo b = false:=by simpa [freeLoo] using h
theorem freeLoo_times {a b:Ty} (h:freeLoo (.times a b) = false):freeLoo a = false/\freeLoo b = false:=by simpa [freeLoo] using h
theorem ty_shapes {e:E} {ar:List (List UInt8)} {t:Ty} (ht:tyOf e ar = some t) (hb:t.isB = false) (hf:freeLoo t = false) :
  (e = .atom [48]/\t = .zero)\/(e = .atom [49]/\t = .one)\/(∃s,e = .atom s/\t = .name s/\isPar s = true/\s≠[48]/\s≠[49]) ∨
  (∃x a b t1 t2,e = .list [x,a,b]/\x.at = [43]/\t = .plus t1 t2/\tyOf a ar = some t1/\tyOf b ar = some t2) ∨
  (∃x a b t1 t2,e = .list [x,a,b]/\x.at = [42]/\t = .times t1 t2/\tyOf a ar = some t1/\tyOf b ar = some t2) ∨
  (∃x a b t1,e = .list [x,a,b]/\x.at = [114,101,99]/\t = .rc t1):=by
 cases e with
 | list l =>
  match l,ht with
  | [x,a,b],ht =>
   by_cases h0:x.at = [43]
   ·obtain⟨t1,t2,h1,h2,rfl⟩:=tyOf_plus_inv h0 ht
    exact .inr (.inr (.inr (.inl ⟨x,a,b,t1,t2,rfl,h0,rfl,h1,h2⟩)))
   ·by_cases h1:x.at = [42]
    ·obtain⟨t1,t2,h3,h2,rfl⟩:=tyOf_times_inv h1 ht
     exact .inr (.inr (.inr (.inr (.inl ⟨x,a,b,t1,t2,rfl,h1,rfl,h3,h2⟩))))
    ·by_cases h2:x.at = [114,101,99]
     ·obtain⟨t1,_,_,rfl⟩:=tyOf_rec_inv h2 ht
      exact .inr (.inr (.inr (.inr (.inr ⟨x,a,b,t1,rfl,h2,rfl⟩))))
     ·rw [tyOf_no _ h0 h1 h2] at ht; cases ht
  | [],ht=>cases ht
  | [_],ht=>cases ht
  | [_,_],ht=>cases ht
  | _::_::_::_::_,ht=>cases ht
 | atom s =>
  simp only [tyOf] at ht
  split at ht
  ·rename_i h; cases ht; subst h; exact .inl ⟨rfl,rfl⟩
  ·rename_i h0
   split at ht
   ·rename_i h; cases ht; subst h; exact .inr (.inl ⟨rfl,rfl⟩)
   ·rename_i h1
    split at ht
    ·rename_i h; cases ht; exact .inr (.inr (.inl ⟨s,rfl,rfl,h,h0,h1⟩))
    ·split at ht
     ·rename_i h
      split at ht
      ·cases ht; cases hb
      ·cases ht; simp only [freeLoo] at hf; rw [h] at hf; cases hf
     ·cases ht
def isOfS (n:Nat) (v:Vl) (e:E) (env:List Fr) (t:Ty):Prop:=FSpec Tryz.prog 63 [.agg [t.av,envI env],v.iav,.v (.int .i64 (n:Int))] [] (Det (.v (.bool (vis n v (e,env)))))
structure Ask (e:E) (env:List Fr) (t:Ty):Prop where
 ok:e.ok
 wf:WF env
 ty:tyOf e (names env) = some t
 cl:freeLoo t = false
theorem Sq8p (n:Nat) (hn:n<=100) (v:Vl) (hv:v.bel 100) (IH:∀w:Vl,w.nodes < v.nodes->w.bel 100->∀e env t,Ask e env t->env.length+w.nodes < 100000->isOfS n w e env t)
  (e:E) (env:List Fr) (t:Ty) (A:Ask e env t) (hl:env.length+v.nodes < 100000) (hb:t.isB = false) (hh:findF e.at env = none):isOfS n v e env t:=by
 have hhd:hd e env = (e,env):=hd_none hh
 unfold isOfS
 refine Fqam _ _ _ _ ((ty_has _).mpr trivial) ((envI_has _).mpr trivial) ((vl_has _).mpr trivial) ?_
 rcases ty_shapes A.ty hb A.cl with⟨rfl,rfl⟩ | ⟨rfl,rfl⟩ | ⟨s,rfl,rfl,hp,h0,h1⟩ | ⟨x,a,b,t1,t2,rfl,hx,rfl,ha,hbb⟩ | ⟨x,a,b,t1,t2,rfl,hx,rfl,ha,hbb⟩ | ⟨x,a,b,t1,rfl,hx,rfl⟩
 ·have hp0:isPar [48] = false:=rfl
  cases v<;>simp [tq9,Ty.av,↓zq,zs,hasK,Det,vis,hhd,hp0]
 ·have hp0:isPar [49] = false:=rfl
  cases v<;>simp [tq9,Ty.av,Vl.iav,↓zq,zs,hasK,Det,vis,hhd,hp0]
 ·have h1':(s==[49]) = false:=by simpa using h1
  cases v with
  | el k =>
   have hk:k < 100:=hv
   simp only [tq9,Ty.av,Vl.iav,↓zq,zs,hasK,zt]
   refine⟨by omega,fun h=>by omega,fun _=>⟨fun _=>⟨by omega,fun h=>absurd rfl h,fun _=>⟨by omega,by omega,?_⟩⟩,fun h=>absurd rfl h⟩⟩
   have e1:(List.take ((dd k).length+1) (elS k)).drop (Int.toNat 1) = dd k:=by simp [elS]
   rw [e1]
   refine wp_det (Sqe7 k hk) ?_
   simp only [↓zq,zs,hasK,Det,vis,hhd,h1',hp,zf]
   refine⟨rfl,?_⟩
   congr 2
   rw [Bool.eq_iff_iff]; simp
  | _ =>
   simp only [tq9,Ty.av,Vl.iav,↓zq,zs,hasK,zt,vis,hhd,h1',Det]
   exact⟨by omega,fun h=>by omega,fun _=>⟨fun _=>⟨by omega,fun _=>trivial,fun h=>by omega⟩,fun h=>absurd rfl h⟩⟩
 ·have hok:=A.ok
  obtain⟨ok1,ok2,ok3,_⟩:=hok
  obtain⟨f1,f2⟩:=freeLoo_plus A.cl
  cases v with
  | l w =>
   simp only [Vl.nodes] at hl
   simp only [tq9,Ty.av,Vl.iav,↓zq,zs,hasK]
   refine⟨by omega,fun h=>by omega,fun _=>⟨fun h=>by omega,fun _=>⟨fun h=>by omega,fun _=>⟨fun _=>⟨by omega,fun _=>?_,fun h=>absurd rfl h⟩,fun h=>absurd rfl h⟩⟩⟩⟩
   refine wp_det (Sq1b _ _ _ _ _ _ ((ty_has _).mpr trivial) ((envI_has _).mpr trivial)) ?_
   simp only [↓zq,zs,hasK,hasL,ty_has,envI_has,vl_has]
   refine⟨by omega,?_⟩
   refine wp_det (IH w (by simp only [Vl.nodes]; omega) hv a env t1 ⟨ok2,A.wf,ha,f1⟩ (by omega)) ?_
   simp only [↓zq,zs,hasK,Det,vis,hhd,hx]
   refine⟨fun h=>?_,fun h=>⟨by omega,fun h=>by omega,fun _=>?_⟩⟩
   ·simp [h]
   ·simp [h]
  | r w =>
   simp only [Vl.nodes] at hl
   simp only [tq9,Ty.av,Vl.iav,↓zq,zs,hasK]
   refine⟨by omega,fun h=>by omega,fun _=>⟨fun h=>by omega,fun _=>⟨fun h=>by omega,fun _=>⟨fun _=>⟨by omega,fun h=>by omega,fun _=>⟨by omega,fun _=>?_,fun h=>absurd rfl h⟩⟩,fun h=>absurd rfl h⟩⟩⟩⟩
   refine wp_det (Sq1i _ _ _ _ _ _ ((ty_has _).mpr trivial) ((envI_has _).mpr trivial)) ?_
   simp only [↓zq,zs,hasK,hasL,ty_has,envI_has,vl_has]
   refine⟨by omega,?_⟩
   refine wp_det (IH w (by simp only [Vl.nodes]; omega) hv b env t2 ⟨ok3,A.wf,hbb,f2⟩ (by omega)) ?_
   simp [↓zq,zs,hasK,Det,vis,hhd,hx]
  | _ =>
   simp only [tq9,Ty.av,Vl.iav,↓zq,zs,hasK,vis,hhd,Det]
   exact⟨by omega,fun h=>by omega,fun _=>⟨fun h=>by omega,fun _=>⟨fun h=>by omega,fun _=>⟨fun _=>⟨by omega,fun h=>by omega,fun _=>⟨by omega,fun h=>by omega,fun _=>by simp [hx]⟩⟩,fun h=>absurd rfl h⟩⟩⟩⟩
 ·have hok:=A.ok
  obtain⟨ok1,ok2,ok3,_⟩:=hok
  obtain⟨f1,f2⟩:=freeLoo_times A.cl
  cases v with
  | p v w =>
   simp only [Vl.nodes] at hl
   simp only [tq9,Ty.av,Vl.iav,↓zq,zs,hasK]
   refine⟨by omega,fun h=>by omega,fun _=>⟨fun h=>by omega,fun _=>⟨fun h=>by omega,fun _=>⟨fun h=>by omega,fun _=>⟨fun _=>⟨by omega,fun _=>?_,fun h=>absurd rfl h⟩,fun h=>absurd rfl h⟩⟩⟩⟩⟩
   refine wp_det (Sq1b _ _ _ _ _ _ ((ty_has _).mpr trivial) ((envI_has _).mpr trivial)) ?_
   simp only [↓zq,zs,hasK,hasL,ty_has,envI_has,vl_has]
   refine⟨by omega,?_⟩
   refine wp_det (IH v (by simp only [Vl.nodes]; omega) hv.1 a env t1 ⟨ok2,A.wf,ha,f1⟩ (by omega)) ?_
   simp only [↓zq,zs,hasK,Det,vis,hhd,hx]
   refine⟨fun h=>?_,fun h=>?_⟩
   ·refine wp_det (Sq1i _ _ _ _ _ _ ((ty_has _).mpr trivial) ((envI_has _).mpr trivial)) ?_
    simp only [↓zq,zs,hasK,hasL,ty_has,envI_has,vl_has]
    refine⟨by omega,?_⟩
    refine wp_det (IH w (by simp only [Vl.nodes]; omega) hv.2 b env t2 ⟨ok3,A.wf,hbb,f2⟩ (by omega)) ?_
    simp [↓zq,zs,hasK,h]
   ·simp [h]
  | _ =>
   simp only [tq9,Ty.av,Vl.iav,↓zq,zs,hasK,vis,hhd,Det]
   exact⟨by omega,fun h=>by omega,fun _=>⟨fun h=>by omega,fun _=>⟨fun h=>by omega,fun _=>⟨fun h=>by omega,fun _=>⟨fun _=>⟨by omega,fun h=>by omega,fun _=>by simp [hx]⟩,fun h=>absurd rfl h⟩⟩⟩⟩⟩
 ·obtain⟨t1',he1,h1,f1,hw1⟩:=wf_enter A.wf A.ok hx A.ty A.cl
  cases he1
  have hok:=A.ok
  obtain⟨ok1,ok2,ok3,_⟩:=hok
  have htD:tyD (.list [x,a,b]) env = .rc t1:=by rw [tyD,A.ty]; rfl
  have hin:=Sqdl t1 env a.at (.list [x,a,b]) htD
  simp only [Ty.av] at hin
  simp only [tq9,Ty.av,↓zq,zs,hasK]
  refine⟨by omega,fun h=>by omega,fun _=>⟨fun h=>by omega,fun _=>⟨fun h=>by omega,fun _=>⟨fun h=>by omega,fun _=>⟨fun h=>by omega,fun _=>⟨fun _=>?_,fun h=>absurd rfl h⟩⟩⟩⟩⟩⟩
  refine wp_det hin ?_
  simp only [↓zq,zs,hasK,hasL,ty_has,envI_has,fr_has,vl_has,vl_nil]
  cases v with
  | f w =>
   simp only [Vl.nodes] at hl
   simp only [Vl.iav,↓zq,zs,hasK,vl_has]
   refine⟨by omega,fun _=>⟨by omega,?_⟩,fun h=>absurd rfl h⟩
   refine wp_det (IH w (by simp only [Vl.nodes]; omega) hv b (.mk a.at (.list [x,a,b]) env::env) t1 ⟨ok3,hw1,h1,f1⟩ (by simp; omega)) ?_
   simp [↓zq,zs,hasK,Det,vis,hhd,hx]
  | _ =>
   simp only [Vl.iav,↓zq,zs,hasK,vis,hhd,Det]
   exact⟨by omega,fun h=>by omega,fun _=>by simp [hx]⟩
theorem Sq6y (n:Nat) (hn:n<=100):∀(m:Nat) (v:Vl),v.nodes < m->v.bel 100->∀e env t,Ask e env t->env.length+v.nodes < 100000->isOfS n v e env t
 | 0,v,h,_=>by omega
 | m+1,v,h,hv=>by
  intro e env t A hl
  have IH:∀w:Vl,w.nodes < v.nodes->w.bel 100->∀e env t,Ask e env t->env.length+w.nodes < 100000->isOfS n w e env t:=fun w hw hb=>Sq6y n hn m w (by omega) hb
  rcases ty_cases A.wf A.ty with⟨hb,hh⟩ | ⟨u,f,rfl,hh,hu⟩
  ·exact Sq8p n hn v hv IH e env t A hl hb hh
  ·obtain⟨x,a,b,t',hfe,hok,hx,ht',hf',hwf,hlt⟩:=findF_wf A.wf hh
   obtain⟨t1,hl1,h1,rfl⟩:=tyOf_rec_inv hx (hfe ▸ ht')
   have hvis:vis n v (e,env) = vis n v (f.ex,f.out):=vis_hd n v (hd_some hh) (by rw [hfe]; exact hd_rec hwf)
   unfold isOfS
   refine Fqam _ _ _ _ ((ty_has _).mpr trivial) ((envI_has _).mpr trivial) ((vl_has _).mpr trivial) ?_
   have hbd:=Sqff env u f hu (by omega)
   simp only [Ty.av] at hbd
   simp only [tq9,Ty.av,↓zq,zs,hasK]
   refine⟨by omega,fun h=>by omega,fun _=>⟨fun h=>by omega,fun _=>⟨fun _=>?_,fun h=>absurd rfl h⟩⟩⟩
   refine wp_det hbd ?_
   cases f with
   | mk s ee oo =>
    simp only [Fr.ex,Fr.out] at hfe ht' hf' hwf hvis hlt
    have htD:tyD ee oo = .rc t1:=by rw [tyD,ht']; rfl
    simp only [Fr.iav,htD,↓zq,zs,hasK,hasL,ty_has,envI_has]
    refine⟨by omega,?_⟩
    have hs:=Sq8p n hn v hv IH ee oo (.rc t1) ⟨by rw [hfe]; exact hok,hwf,ht',hf'⟩ (by omega) rfl (by rw [hfe]; exact findF_nil hwf)
    unfold isOfS at hs
    refine wp_det hs ?_
    simp [↓zq,zs,hasK,Det,hvis]
end Go.Proofs.Trees
namespace Go.Proofs.Trees
open Go Go.VL Go.RowKit
theorem envS_getD:∀(env:List Fr) (k:Nat) (f:Fr),env[k]? = some f->(envS env).getD (env.length - 1 - k) [] = f.cells
 | [],k,f,h=>by cases h
 | g::r,0,f,h=>by
  cases h
  have:(g::r).length - 1 - 0 = (envS r).length:=by simp [envS_len]
  rw [this,envS]; simp [List.getD_eq_getElem?_getD]
 | g::r,k+1,f,h=>by
  have h':r[k]? = some f:=by simpa using h
  have hlt:=(List.getElem?_eq_some_iff.1 h').1
  have e:(g::r).length - 1 - (k+1) = r.length - 1 - k:=by simp; omega
  have:=envS_getD r k f h'
  rw [e,envS,List.getD_eq_getElem?_getD,List.getElem?_append_left (by rw [envS_len]; omega),<-List.getD_eq_getElem?_getD]
  exact this
theorem fr_cells (f:Fr):f.cells = [.v (.string (mk f.nm)),.v (.string (mk f.ex.at)),f.ex.sp,.sl (envS f.out)]:=by cases f; rfl
theorem Lqaj (e : E) (env : List Fr) (hl : env.length < 1000000) : ∀ (j k : Nat), k + j = env.length → Lq2s [.sl (envS env), .v (.int .i64 ((env.length : Int) - 1 - (k : Int)))] [.cells [.v (.string (mk e.at)), e.sp], .cells [.v (.string (mk [])), .v (.slice none 0 0)]]
      (LBy (match findF e.at (env.drop k) with | some f => (2, [.sl (envS f.out)], [.cells [.v (.string (mk f.ex.at)), f.ex.sp]]) | none => (1, [.sl (envS env)], [.cells [.v (.string (mk e.at)), e.sp], .cells [.v (.string (mk [])), .v (.slice none 0 0)]])))
  | 0, k, hk => by
    refine Gq70 _ _ _ _ _ _ ?_
    have hd : env.drop k = [] := List.drop_eq_nil_of_le (by omega)
    simp only [rq5b, ↓zq, zs, hasK, sp_has, hd, findF]
    exact ⟨fun h => by omega, fun _ => by first | trivial | rfl⟩
  | j + 1, k, hk => by
    refine Gq70 _ _ _ _ _ _ ?_
    have hlt : k < env.length := by omega
    have hg : env[k]? = some env[k] := List.getElem?_eq_getElem hlt
    have hc := envS_getD env k _ hg
    have e1 : ((env.length : Int) - 1 - (k : Int)) = ((env.length - 1 - k : Nat) : Int) := by omega
    have hdr : env.drop k = env[k] :: env.drop (k + 1) := List.drop_eq_getElem_cons hlt
    rw [hdr, findF, e1]
    simp only [rq5b, Int.toNat_natCast, hc, fr_cells, ↓zq, zs, hasK, zt, sp_has, envS_len, hasL]
    refine ⟨fun _ => ⟨by omega, by omega, fun h => ⟨by omega, by omega, by omega, by omega, ?_⟩, fun h => ?_⟩, fun h => by omega⟩
    · rw [if_pos h]
    · rw [if_neg h]
      have e2 : IntKind.wrap .i64 (((env.length - 1 - k : Nat) : Int) - 1) = (env.length : Int) - 1 - ((k + 1 : Nat) : Int) := by
        have : IntKind.wrap .i64 (((env.length - 1 - k : Nat) : Int) - 1) = ((env.length - 1 - k : Nat) : Int) - 1 := wrap64 _ (by omega) (by omega)
        omega
      rw [e2]
      exact Lqaj e env hl j (k + 1) (by omega)
theorem Sqfz (e:E) (env:List Fr) (hl:env.length < 1000000):FSpec Tryz.prog 111 [e.sav,.sl (envS env)] [] (Det (.tup [(hd e env).1.sav,.sl (envS (hd e env).2)])):=by
 rw [sav_sp e]
 refine Fqfp _ _ _ ((sp_has _).mpr trivial) ((has_sl _).mpr trivial) ?_
 simp only [tq8h,↓zq,zs,hasK,envS_len,Det]
 have h:=Lqaj e env hl env.length 0 (by omega)
 simp only [List.drop_zero] at h
 rw [wrap64 _ (by omega) (by omega)]
 rw [show (env.length:Int) - 1 - ((0:Nat):Int) = (env.length:Int) - 1 by omega] at h
 refine wp_loopB h (fun ys o e'=>?_) (fun ys o e'=>?_)
 ·unfold hd
  cases hq:findF e.at env<;>rw [hq] at e'<;>cases e'
  simp only [↓zq,zs,hasK,zt,sp_has,sav_sp]
 ·unfold hd
  cases hq:findF e.at env<;>rw [hq] at e'<;>cases e'
  simp only [↓zq,zs,hasK,zt,sp_has,sav_sp]
theorem envS_allLen:∀env:List Fr,allLen 4 (envS env)
 | []=>fun c hc=>by cases hc
 | f::r=>fun c hc=>by
  simp only [envS,List.mem_append,List.mem_singleton] at hc
  rcases hc with hc | rfl
  ·exact envS_allLen r c hc
  ·rw [fr_cells]; rfl
theorem Sqg6 (x a b:E) (env:List Fr) (hl:env.length < 1000000):FSpec Tryz.prog 114 [(E.list [x,a,b]).sav,.sl (envS env)] [] (Det (.tup [b.sav,.sl (envS (.mk a.at (.list [x,a,b]) env::env))])):=by
 refine Fqf2 _ _ _ ((has_sl _).mpr trivial) ((has_sl _).mpr trivial) ?_
 simp only [tq81,E.scellss,toNat_one,toNat_two,↓zq,zs,hasK,zt,sc_agg,sc_len,sc_has,sc_hd,Nat.le_refl,envS_len,Det,List.nil_append]
 refine⟨by omega,⟨envS_allLen env,by omega⟩,by omega,by omega,⟨fun c hc=>(by simp at hc; rw [hc]; rfl),by omega⟩,?_⟩
 simp only [envS,fr_cells,Fr.nm,Fr.ex,Fr.out,E.at,E.sp,E.scellss]
theorem hasL_sp (s:ByteArray) (e:E):hasL [.str,.sl] [.v (.string s),e.sp] 0 = True:=by apply eq_true; simp [hasL,has_str,sp_has]
theorem hd_ask {e:E} {env:List Fr} {t:Ty} (A:Ask e env t):∃e' o t',hd e env = (e',o)/\Ask e' o t'/\t'.isB = false/\hd e' o = (e',o)/\o.length<=env.length:=by
 rcases ty_cases A.wf A.ty with⟨hb,hh⟩ | ⟨u,f,rfl,hh,hu⟩
 ·exact⟨e,env,t,hd_none hh,A,hb,hd_none hh,Nat.le_refl _⟩
 ·obtain⟨x,a,b,t',hfe,hok,hx,ht',hf',hwf,hlt⟩:=findF_wf A.wf hh
  refine⟨f.ex,f.out,t',hd_some hh,⟨by rw [hfe]; exact hok,hwf,ht',hf'⟩,?_,?_,by omega⟩
  ·obtain⟨t1,_,_,rfl⟩:=tyOf_rec_inv hx (hfe ▸ ht'); rfl
  ·rw [hfe]; exact hd_rec hwf
def vh:Vl->List UInt8
 | .l _=>[108]
 | .r _=>[114]
 | .f _=>[102]
 | .p _ _=>[112]
 | _=>[]
theorem Sq1n (v:Vl):FSpec Tryz.prog 65 [v.toE.sav] [] (Det (.v (.string (mk (vh v))))):=by
 cases v with
 | u=>exact Sq2b _ _ ((has_slnil).mpr trivial) (by simp)
 | el k=>exact Sq2b _ _ ((has_slnil).mpr trivial) (by simp)
 | l v=>exact Sq2 _ _
 | r v=>exact Sq2 _ _
 | f v=>exact Sq2 _ _
 | p v w=>exact Sq2 _ _
theorem vat (v:Vl) (hv:v.bel 100):v.toE.at = (match v with | .u=>[117] | .el k=>elS k | _=>[])/\elI v.toE.at = (match v with | .el k=>(k:Int) | _=>-1):=by
 cases v with
 | el k=>exact⟨rfl,elI_of k hv⟩
 | u=>exact⟨rfl,rfl⟩
 | _=>exact⟨rfl,rfl⟩
theorem Sq1j (n:Nat) (hn:n<=100):∀(m:Nat) (v:Vl),v.nodes < m->v.bel 100->∀e env t,Ask e env t->env.length+v.nodes < 100000->FSpec Tryz.prog 70 [e.sav,.sl (envS env),v.toE.sav,.v (.int .i64 (n:Int))] [] (Det (.v (.bool (vis n v (e,env)))))
 | 0,v,hm,hv,e,env,t,A,hl=>by omega
 | m+1,v,hm,hv,e,env,t,A,hl=>by
  obtain⟨e',o,t',hhd,A',hb,hh',hlen⟩:=hd_ask A
  rw [vis_hd n v hhd hh',sav_sp e,sav_sp v.toE]
  refine Fqdo _ _ _ _ _ _ ((sp_has _).mpr trivial) ((has_sl _).mpr trivial) ((sp_has _).mpr trivial) ?_
  have hf:=Sqfz e env (by omega)
  rw [sav_sp e,hhd] at hf
  have hvh:=Sq1n v
  rw [sav_sp] at hvh
  unfold tq5r
  refine wp_det hf ?_
  simp only [sav_sp e',↓zq,zs,hasK,zt,sp_has,hasL_sp,Det]
  rcases ty_shapes A'.ty hb A'.cl with⟨rfl,rfl⟩ | ⟨rfl,rfl⟩ | ⟨s,rfl,rfl,hp,h0,h1⟩ | ⟨x,a,b,t1,t2,rfl,hx,rfl,ha,hbb⟩ | ⟨x,a,b,t1,t2,rfl,hx,rfl,ha,hbb⟩ | ⟨x,a,b,t1,rfl,hx,rfl⟩
  ·refine⟨fun _=>⟨fun h=>by simp [E.at] at h,fun _=>wp_det (Sq48 _) ?_⟩,fun h=>by simp [E.at] at h⟩
   have hp0:isPar (E.atom [48]).at = false:=rfl
   have hp1:isPar [48] = false:=rfl
   cases v<;>simp [↓zq,zs,hasK,hp0,vis,hh',hp1]
  ·refine⟨fun _=>⟨fun _=>?_,fun h=>absurd rfl h⟩,fun h=>by simp [E.at] at h⟩
   have hp1:isPar [49] = false:=rfl
   cases v<;>simp [vis,hh',hp1,Vl.toE,E.at]
  ·have hne:s≠[]:=A'.ok
   have h1':(s==[49]) = false:=by simpa using h1
   refine⟨fun _=>⟨fun h=>absurd h h1,fun _=>wp_det (Sq48 _) ?_⟩,fun h=>absurd h hne⟩
   have hat:(E.atom s).at = s:=rfl
   simp only [hat,hp,↓zq,zs,hasK]
   refine⟨fun _=>wp_det (Sq6j _) ?_,fun h=>by cases h⟩
   simp only [↓zq,zs,hasK]
   rw [wrap64 _ (by omega) (by omega)]
   refine wp_det (Sq2e _ _ _) ?_
   simp only [↓zq,zs,hasK,inR,(vat v hv).2]
   cases v with
   | el k =>
    simp only [vis,hh',h1',hp,zf]
    congr 2
    rw [Bool.eq_iff_iff]; simp; omega
   | _=>simp [vis,hh',h1']
  ·have hok:=A'.ok
   obtain⟨ok1,ok2,ok3,_⟩:=hok
   obtain⟨f1,f2⟩:=freeLoo_plus A'.cl
   refine⟨fun h=>absurd rfl h,fun _=>wp_det (Sq2 x [a,b]) ?_⟩
   simp only [↓zq,zs,hasK]
   refine wp_det hvh ?_
   rw [hx]
   cases v with
   | l w =>
    simp only [Vl.nodes] at hl
    simp only [vh,Vl.toE,E.sp,E.scellss,toNat_one,toNat_two,↓zq,zs,hasK,zt,sc_agg,sc_len,sc_has,sc_hd,Nat.le_refl]
    refine⟨by simp,fun _=>⟨by omega,by omega,wp_det (Sq1j n hn m w (by simp only [Vl.nodes] at hm; omega) hv a o t1 ⟨ok2,A'.wf,ha,f1⟩ (by omega)) ?_⟩,fun h=>absurd rfl h⟩
    simp [↓zq,zs,hasK,vis,hh',hx]
   | r w =>
    simp only [Vl.nodes] at hl
    simp only [vh,Vl.toE,E.sp,E.scellss,toNat_one,toNat_two,↓zq,zs,hasK,zt,sc_agg,sc_len,sc_has,sc_hd,Nat.le_refl]
    refine⟨by simp,fun h=>by simp at h,fun _=>⟨fun _=>⟨by omega,by omega,wp_det (Sq1j n hn m w (by simp only [Vl.nodes] at hm; omega) hv b o t2 ⟨ok3,A'.wf,hbb,f2⟩ (by omega)) ?_⟩,fun h=>absurd rfl h⟩⟩
    simp [↓zq,zs,hasK,vis,hh',hx]
   | _=>simp [vh,↓zq,zs,hasK,zt,vis,hh',hx]
  ·have hok:=A'.ok
   obtain⟨ok1,ok2,ok3,_⟩:=hok
   obtain⟨f1,f2⟩:=freeLoo_times A'.cl
   refine⟨fun h=>absurd rfl h,fun _=>wp_det (Sq2 x [a,b]) ?_⟩
   simp only [↓zq,zs,hasK]
   refine wp_det hvh ?_
   rw [hx]
   cases v with
   | p w z =>
    simp only [Vl.nodes] at hl
    simp only [vh,Vl.toE,E.sp,E.scellss,toNat_one,toNat_two,↓zq,zs,hasK,zt,sc_agg,sc_len,sc_has,sc_hd,Nat.le_refl]
    refine⟨by simp,fun h=>by simp at h,fun _=>⟨fun h=>by simp at h,fun _=>⟨fun _=>⟨by omega,by omega,wp_det (Sq1j n hn m w (by simp only [Vl.nodes] at hm; omega) hv.1 a o t1 ⟨ok2,A'.wf,ha,f1⟩ (by omega)) ?_⟩,fun h=>absurd rfl h⟩⟩⟩
    simp only [↓zq,zs,hasK,vis,hh',hx]
    refine⟨fun h=>⟨by omega,by omega,wp_det (Sq1j n hn m z (by simp only [Vl.nodes] at hm; omega) hv.2 b o t2 ⟨ok3,A'.wf,hbb,f2⟩ (by omega)) ?_⟩,fun h=>?_⟩
    ·simp [↓zq,zs,hasK,h]
    ·simp [h]
   | _=>simp [vh,↓zq,zs,hasK,zt,vis,hh',hx]
  ·obtain⟨t1',he1,h1,f1,hw1⟩:=wf_enter A'.wf A'.ok hx A'.ty A'.cl
   cases he1
   have hok:=A'.ok
   obtain⟨ok1,ok2,ok3,_⟩:=hok
   refine⟨fun h=>absurd rfl h,fun _=>wp_det (Sq2 x [a,b]) ?_⟩
   simp only [↓zq,zs,hasK]
   refine wp_det hvh ?_
   rw [hx]
   cases v with
   | f w =>
    simp only [Vl.nodes] at hl
    simp only [vh,Vl.toE,E.sp,E.scellss,toNat_one,toNat_two,↓zq,zs,hasK,zt,sc_agg,sc_len,sc_has,sc_hd,Nat.le_refl]
    refine⟨by simp,fun h=>by simp at h,fun _=>⟨fun h=>by simp at h,fun _=>⟨fun h=>by simp at h,fun _=>⟨fun _=>wp_det (Sqg6 x a b o (by omega)) ?_,fun h=>absurd rfl h⟩⟩⟩⟩
    simp only [↓zq,zs,hasK,sav_has,sav_agg]
    refine⟨by omega,wp_det (Sq1j n hn m w (by simp only [Vl.nodes] at hm; omega) hv b (.mk a.at (.list [x,a,b]) o::o) t1 ⟨ok3,hw1,h1,f1⟩ (by simp; omega)) ?_⟩
    simp [↓zq,zs,hasK,vis,hh',hx]
   | _=>simp [vh,↓zq,zs,hasK,zt,vis,hh',hx]
theorem Sqe8 (n:Nat) (hn:n<=100) (v:Vl) (hv:v.bel 100) (e:E) (env:List Fr) (t:Ty) (A:Ask e env t) (hl:env.length+v.nodes < 100000):FSpec Tryz.prog 70 [e.sav,.sl (envS env),v.toE.sav,.v (.int .i64 (n:Int))] [] (Det (.v (.bool (vis n v (e,env))))):=Sq1j n hn (v.nodes+1) v (by omega) hv e env t A hl
end Go.Proofs.Trees
namespace Go.Proofs.Trees
open Go Go.VL Go.RowKit
theorem Lqbm (l:List (List UInt8)) (a:AV) (ha:StrsA a l) (s:List UInt8) (hl:l.length < 1000000):∀(k i:Nat),i+k = l.length->Lq3i [a,.v (.string (mk s)),.v (.int .i64 (i:Int))] []
  (LBy (if s∈l.drop i then(2,[.v (.bool true)],[]) else(1,[],[])))
 | 0,i,hi=>by
  refine Gqan _ _ _ ?_
  have hd:l.drop i = []:=List.drop_eq_nil_of_le (by omega)
  simp only [rq59,↓zq,zs,hasK,hd,ha.len]
  exact⟨ha.1,ha.1,fun h=>by omega,fun _=>by simp [LBy]⟩
 | k+1,i,hi=>by
  have hlt:i < l.length:=by omega
  have hdr:l.drop i = l.getD i []::l.drop (i+1):=by
   rw [List.drop_eq_getElem_cons hlt]; simp [List.getD_eq_getElem?_getD,hlt]
  refine Gqan _ _ _ ?_
  simp only [rq59,↓zq,zs,hasK,zt,ha.len,ha.idx hlt]
  refine⟨ha.1,ha.1,fun _=>⟨⟨ha.1,by omega,by omega⟩,by omega,fun h=>?_,fun h=>?_⟩,fun h=>by omega⟩
  ·rw [hdr,h]; simp [LBy]
  ·rw [wrap_succ i (by omega)]
   have:=Lqbm l a ha s hl k (i+1) (by omega)
   have e:s∈l.drop i↔s∈l.drop (i+1):=by
    rw [hdr,List.mem_cons]; exact⟨fun q=>q.resolve_left (fun q=>h q.symm),.inr⟩
   simp only [e]; exact this
theorem Sq16 (l:List (List UInt8)) (a:AV) (ha:StrsA a l) (s:List UInt8) (hl:l.length < 1000000):FSpec Tryz.prog 133 [a,.v (.string (mk s))] [] (Det (.v (.bool (decide (s∈l))))):=by
 refine Fqfe _ _ ha.1 ?_
 unfold tqaq
 refine wp_loopB (Lqbm l a ha s hl l.length 0 (by omega)) (fun ys o e=>?_) (fun ys o e=>?_)
 ·simp only [List.drop_zero] at e
  split at e<;>cases e
  rename_i h
  simp [↓zq,zs,hasK,Det,h]
 ·simp only [List.drop_zero] at e
  split at e<;>cases e
  rename_i h
  simp [↓zq,zs,hasK,Det,h]
theorem Sq2i (l:List (List UInt8)) (a:AV) (ha:StrsA a l) (s:List UInt8) (hl:l.length < 1000000):FSpec Tryz.prog 134 [a,.v (.string (mk s))] [] (Det (.sl (strsAV (l++[s])))):=by
 refine Fqg7 _ _ ha.1 ?_
 simp only [tq85,↓zq,zs,hasK,ha.2,Det,List.nil_append]
 have:(strsAV l).length = l.length:=by simp [strsAV]
 refine⟨⟨ha.1,allLen_strs l,by omega⟩,⟨fun c hc=>(by simp at hc; rw [hc]; rfl),by omega⟩,?_⟩
 rw [Sqr]
def fre:E->List (List UInt8)->List (List UInt8)->List (List UInt8)
 | .atom s,bd,l=>if s = [48]\/s = [49]\/s∈bd\/s∈l then l else l++[s]
 | .list [x,a,b],bd,l=>if x.at = [114,101,99] then fre b (bd++[a.at]) l else fre b bd (fre a bd l)
 | .list _,_,l=>l
theorem fre_len:∀(e:E) (bd l:List (List UInt8)),(fre e bd l).length<=l.length+e.sz
 | .atom s,bd,l=>by rw [fre]; split<;>simp [E.sz]
 | .list [],bd,l=>by simp [fre]
 | .list [_],bd,l=>by simp [fre]
 | .list [_,_],bd,l=>by simp [fre]
 | .list (_::_::_::_::_),bd,l=>by simp [fre]
 | .list [x,a,b],bd,l=>by
  rw [fre]
  simp only [E.sz,E.szs]
  split
  ·have:=fre_len b (bd++[a.at]) l; omega
  ·have:=fre_len a bd l
   have:=fre_len b bd (fre a bd l)
   omega
theorem Sq2g:∀(e:E) (bd l:List (List UInt8)) (a:AV),e.ok->isTy e = true->StrsA a bd->bd.length+l.length+e.sz < 100000->FSpec Tryz.prog 109 [e.sav,a,.vec 0] [.vec 1 (strsAV l)] (DetO (.vec 1) [.dead,.vec 1 (strsAV (fre e bd l))])
 | .atom s,bd,l,a,hok,hty,ha,hl=>by
  simp only [E.sz] at hl
  refine Fq17 _ _ _ _ ((has_slnil).mpr trivial) ha.1 ?_
  have hne:s≠[]:=hok
  have hll:(strsAV l).length = l.length:=by simp [strsAV]
  simp only [tq14,↓zq,zs,hasK,zt,DetO,fre]
  refine⟨fun _=>⟨fun h=>?_,fun h=>⟨fun h1=>?_,fun h1=>?_⟩⟩,fun h=>absurd h hne⟩
  ·rw [if_pos (.inl h)]
  ·rw [if_pos (.inr (.inl h1))]
  ·refine wp_det (Sq16 bd a ha s (by omega)) ?_
   simp only [↓zq,zs,hasK]
   refine⟨fun h2=>?_,fun h2=>wp_det (Sq16 l _ (.of l) s (by omega)) ?_⟩
   ·rw [if_pos (.inr (.inr (.inl h2)))]
   ·simp only [↓zq,zs,hasK]
    refine⟨fun h3=>?_,fun h3=>⟨⟨fun c hc=>(by simp at hc; rw [hc]; rfl),by omega⟩,?_⟩⟩
    ·rw [if_pos (.inr (.inr (.inr h3)))]
    ·rw [Sqr,if_neg]
     rintro(q | q | q | q)
     ·exact h q
     ·exact h1 q
     ·exact h2 q
     ·exact h3 q
 | .list [],_,_,_,_,h,_,_=>by cases h
 | .list [_],_,_,_,_,h,_,_=>by cases h
 | .list [_,_],_,_,_,_,h,_,_=>by cases h
 | .list (_::_::_::_::_),_,_,_,_,h,_,_=>by cases h
 | .list [x,y,z],bd,l,a,hok,hty,ha,hl=>by
  simp only [E.sz,E.szs] at hl
  obtain⟨ok1,ok2,ok3,_⟩:=hok
  refine Fq17 _ _ _ _ ((has_sl _).mpr trivial) ha.1 ?_
  simp only [tq14,E.scellss,toNat_one,toNat_two,↓zq,zs,hasK,zt,sc_agg,sc_len,sc_has,sc_hd,Nat.le_refl,DetO]
  refine⟨fun h=>absurd rfl h,fun _=>wp_det (Sq2 x [y,z]) ?_⟩
  simp only [↓zq,zs,hasK,zt]
  have hyl:=fre_len y bd l
  rw [isTy] at hty
  refine⟨fun h=>⟨by omega,by omega,by omega,wp_det (Sq2i bd a ha y.at (by omega)) ?_⟩,fun h=>⟨by omega,by omega,?_⟩⟩
  ·have hz:isTy z = true:=by
    rw [if_neg (by rw [h]; decide),if_neg (by rw [h]; decide),if_pos h] at hty
    simp only [Bool.and_eq_true] at hty; exact hty.2
   simp only [↓zq,zs,hasK]
   refine wp_detO (Sq2g z (bd++[y.at]) l _ ok3 hz (.of _) (by simp; omega)) ?_
   simp only [↓zq,zs,hasK]
   rw [fre,if_pos h]
  ·have hyz:isTy y = true/\isTy z = true:=by
    split at hty
    ·simpa using hty
    ·split at hty
     ·simpa using hty
     ·cases hty
   refine wp_detO (Sq2g y bd l a ok2 hyz.1 ha (by omega)) ?_
   simp only [↓zq,zs,hasK]
   refine wp_detO (Sq2g z bd (fre y bd l) a ok3 hyz.2 ha (by omega)) ?_
   simp only [↓zq,zs,hasK]
   rw [fre,if_neg h]
theorem par_not_loo {s:List UInt8} (h:isPar s = true):isLoo s = false:=by
 cases hq:isLoo s with
 | false=>rfl
 | true =>
  obtain⟨c,r,rfl,h1,h2⟩:=named_cons h
  obtain⟨c',r',he,h3,h4⟩:=named_cons hq
  cases he; omega
theorem lastOf_none (s:List UInt8) (ar:List (List UInt8)):∀i,i<=ar.length->(lastOf s ar i = none↔s ∉ ar.take i)
 | 0,_=>by simp [lastOf]
 | i+1,hi=>by
  have hlt:i < ar.length:=by omega
  have e:ar.getD i [] = ar[i]:=by simp [List.getD_eq_getElem?_getD,hlt]
  have e2:s∈ar.take (i+1)↔s∈ar.take i\/s = ar[i]:=by
   rw [show ar.take (i+1) = ar.take i++[ar[i]] from (List.take_append_getElem hlt).symm]
   simp only [List.mem_append,List.mem_singleton]
  rw [lastOf,e,e2]
  by_cases h:ar[i] = s
  ·rw [if_pos h]
   exact⟨fun h=>(by cases h),fun h'=>absurd (.inr h.symm) h'⟩
  ·rw [if_neg h,lastOf_none s ar i (by omega)]
   exact⟨fun h1 h2=>h2.elim h1 (fun h3=>h h3.symm),fun h1 h2=>h1 (.inl h2)⟩
theorem any_fre:∀(e:E) (ar l:List (List UInt8)) (t:Ty),tyOf e ar = some t->(∀w,w∈ar->isLoo w = true)->(fre e ar l).any isLoo = (l.any isLoo||freeLoo t)
 | .atom s,ar,l,t,h,har=>by
  simp only [tyOf] at h
  rw [fre]
  split at h
  ·rename_i h0; cases h; rw [if_pos (.inl h0)]; simp [freeLoo]
  ·rename_i h0
   split at h
   ·rename_i h1; cases h; rw [if_pos (.inr (.inl h1))]; simp [freeLoo]
   ·rename_i h1
    split at h
    ·rename_i h2
     cases h
     have hn:=par_not_loo h2
     simp only [freeLoo,hn]
     split
     ·simp
     ·simp [hn]
    ·split at h
     ·rename_i h2 h3
      have hlo:=lastOf_none s ar ar.length (Nat.le_refl _)
      rw [List.take_length] at hlo
      cases hq:lastOf s ar ar.length with
      | some u =>
       rw [hq] at h; cases h
       have hm:s∈ar:=Classical.byContradiction fun hm=>by rw [hlo.2 hm] at hq; cases hq
       rw [if_pos (.inr (.inr (.inl hm)))]; simp [freeLoo]
      | none =>
       rw [hq] at h; cases h
       have hm:=hlo.1 hq
       simp only [freeLoo,h3,Bool.or_true]
       split
       ·rename_i hh
        rcases hh with q | q | q | q
        ·exact absurd q h0
        ·exact absurd q h1
        ·exact absurd q hm
        ·rw [List.any_eq_true]; exact⟨s,q,h3⟩
       ·simp [h3]
     ·cases h
 | .list [],_,_,_,h,_=>by cases h
 | .list [_],_,_,_,h,_=>by cases h
 | .list [_,_],_,_,_,h,_=>by cases h
 | .list (_::_::_::_::_),_,_,_,h,_=>by cases h
 | .list [x,a,b],ar,l,t,h,har=>by
  rw [fre]
  by_cases h0:x.at = [43]
  ·obtain⟨t1,t2,e1,e2,rfl⟩:=tyOf_plus_inv h0 h
   rw [if_neg (by rw [h0]; decide),any_fre b ar _ t2 e2 har,any_fre a ar l t1 e1 har,freeLoo,Bool.or_assoc]
  ·by_cases h1:x.at = [42]
   ·obtain⟨t1,t2,e1,e2,rfl⟩:=tyOf_times_inv h1 h
    rw [if_neg (by rw [h1]; decide),any_fre b ar _ t2 e2 har,any_fre a ar l t1 e1 har,freeLoo,Bool.or_assoc]
   ·by_cases h2:x.at = [114,101,99]
    ·obtain⟨t1,hl,e1,rfl⟩:=tyOf_rec_inv h2 h
     rw [if_pos h2,any_fre b _ l t1 e1 (fun w hw=>by
      simp only [List.mem_append,List.mem_singleton] at hw
      rcases hw with hw | rfl
      ·exact har w hw
      ·exact hl),freeLoo]
    ·rw [tyOf_no _ h0 h1 h2] at h; cases h
def rdCE (s:List UInt8):Option E:=match rdE s with
 | none=>none
 | some e=>if(fre e [] []).any isLoo = true then none else some e
theorem rdC_of {s:List UInt8}:rdC s = match rdCE s with | none=>none | some e=>tyOf e []:=by
 unfold rdC rdCE
 rw [rdY_of]
 cases he:rdE s with
 | none=>rfl
 | some e =>
  obtain⟨h1,h2,h3⟩:=rdE_ok he
  have hs:=tyOf_some e []
  rw [h2] at hs
  obtain⟨t,ht⟩:=Option.isSome_iff_exists.1 hs
  have ha:=any_fre e [] [] t ht (fun w hw=>by cases hw)
  simp only [ht,closed_eq,ha,List.any_nil,Bool.false_or]
  cases hf:freeLoo t<;>simp [ht]
theorem rdCE_full {s:List UInt8} {e:E} (h:rdCE s = some e):∃t,rdC s = some t/\Ask e [] t/\isTy e = true/\e.sz<=8000/\t.atoms<=400/\rdT s = some e:=by
 have h0:=h
 unfold rdCE at h
 split at h
 ·cases h
 ·rename_i e' he
  split at h
  ·cases h
  ·rename_i hn
   cases h
   obtain⟨h1,h2,h3⟩:=rdE_ok he
   obtain⟨hok,hsz⟩:=rdT_ok h1
   have hs:=tyOf_some e []
   rw [h2] at hs
   obtain⟨t,ht⟩:=Option.isSome_iff_exists.1 hs
   have ha:=any_fre e [] [] t ht (fun w hw=>by cases hw)
   rw [ha] at hn
   refine⟨t,by rw [rdC_of,h0]; exact ht,⟨hok,.nil,ht,by simpa using hn⟩,h2,hsz,?_,h1⟩
   rw [<-tyOf_ats e [] t ht]; exact h3
theorem rdCE_none {s:List UInt8} (h:rdCE s = none):rdC s = none:=by rw [rdC_of,h]
theorem Lq9k (e:E) (l:List (List UInt8)) (hl:l.length < 1000000):∀(k i:Nat),i+k = l.length->Lq40 [.v (.int .i64 (i:Int))] [.cells [.v (.string (mk [])),.v (.slice none 0 0)],.cells [.v (.string (mk e.at)),e.sp],.vec 1 (strsAV l)]
  (LBy (if(l.drop i).any isLoo = true then(2,[.v (.bool false)],[.cells [.v (.string (mk e.at)),e.sp]]) else(1,[],[.cells [.v (.string (mk [])),.v (.slice none 0 0)],.cells [.v (.string (mk e.at)),e.sp]])))
 | 0,i,hi=>by
  refine Gq67 _ _ _ _ _ _ ?_
  have hd:l.drop i = []:=List.drop_eq_nil_of_le (by omega)
  have hll:(strsAV l).length = l.length:=by simp [strsAV]
  simp only [rq3m,↓zq,zs,hasK,hd,hll,sp_has]
  exact⟨fun h=>by omega,fun _=>by simp [LBy]⟩
 | k+1,i,hi=>by
  have hlt:i < l.length:=by omega
  have hll:(strsAV l).length = l.length:=by simp [strsAV]
  have hdr:l.drop i = l.getD i []::l.drop (i+1):=by
   rw [List.drop_eq_getElem_cons hlt]; simp [List.getD_eq_getElem?_getD,hlt]
  have hg:=(StrsA.of l).idx hlt
  simp only [elems_sl] at hg
  refine Gq67 _ _ _ _ _ _ ?_
  simp only [rq3m,↓zq,zs,hasK,zt,hll,hg,sp_has]
  refine⟨fun _=>⟨by omega,by omega,wp_det (Sq58 _) ?_⟩,fun h=>by omega⟩
  simp only [↓zq,zs,hasK,hdr,List.any_cons]
  refine⟨fun h=>?_,fun h=>?_⟩
  ·rw [h]; simp [LBy]
  ·rw [h,wrap_succ i (by omega)]
   simp only [Bool.false_or]
   exact Lq9k e l hl k (i+1) (by omega)
theorem Sq5t (s:List UInt8):FSpec Tryz.prog 68 [.v (.string (mk s))] [] (ParR (rdCE s) (rdCE s).isSome):=by
 refine Fqe3 _ ?_
 unfold tqad
 refine wp_call (Sq4y s) (ParR.ne _ _ (fun h=>h)) ?_
 rintro r o ⟨c,d,hd,rfl,hh⟩
 have hhas:hasL [.str,.sl] [.v (.string (mk c)),d] 0:=by simp [hasL,has_str,hd]
 simp only [↓zq,zs,hasK,zt]
 refine⟨hhas,fun h=>?_,fun h=>?_⟩
 ·have hn:rdE s = none:=by cases hq:rdE s<;>simp [hq] at h |-
  unfold rdCE
  rw [hn]
  exact⟨c,d,hd,rfl,fun h=>by cases h⟩
 ·obtain⟨e,he,hce⟩:=hh h
  obtain⟨h1,h2,h3⟩:=rdE_ok he
  obtain⟨hok,hsz⟩:=rdT_ok h1
  have hce':=hce
  rw [sav_sp] at hce'
  simp only [AV.agg.injEq,List.cons.injEq,AV.v.injEq,Value.string.injEq,and_true] at hce'
  obtain⟨hc1,rfl⟩:=hce'
  have hc2:=mk_inj hc1
  subst hc2
  rw [<-sav_sp]
  refine wp_detO (Sq2g e [] [] _ hok h2 (.of []) (by simp; omega)) ?_
  have hfl:=fre_len e [] []
  simp only [↓zq,zs,hasK]
  have hLS:=Lq9k e (fre e [] []) (by simp at hfl; omega) (fre e [] []).length 0 (by omega)
  simp only [List.drop_zero] at hLS
  unfold rdCE
  rw [he]
  refine wp_loopB hLS (fun ys o e'=>?_) (fun ys o e'=>?_)
  ·split at e'<;>cases e'
   rename_i hn
   simp only [↓zq,zs,hasK,sp_has,if_neg hn]
   exact⟨e.at,e.sp,hd,rfl,fun _=>⟨e,rfl,(sav_sp e).symm⟩⟩
  ·split at e'<;>cases e'
   rename_i hn
   simp only [↓zq,zs,hasK,sp_has,if_pos hn]
   exact⟨e.at,e.sp,hd,rfl,fun h=>by cases h⟩
def vOK (s v:List UInt8) (n:Int):Option Vl:=match rdCE s,rdV v with
 | some e,some w=>if(0<=n/\n<=100)/\vis n.toNat w (e,[]) = true then some w else none
 | _,_=>none
theorem vOK_some {s v:List UInt8} {n:Int} {w:Vl} (h:vOK s v n = some w):∃e t m,rdCE s = some e/\rdV v = some w/\rdC s = some t/\Ask e [] t/\n = (m:Nat)/\m<=100/\vis m w (e,[]) = true:=by
 unfold vOK at h
 split at h
 ·rename_i e w' he hw
  split at h
  ·rename_i hh
   cases h
   obtain⟨t,h1,h2,_⟩:=rdCE_full he
   exact⟨e,t,n.toNat,he,hw,h1,h2,by omega,by omega,hh.2⟩
  ·cases h
 ·cases h
theorem Sqb4 (s v:List UInt8) (n:Int):FSpec Tryz.prog 44 [.v (.string (mk s)),.v (.string (mk v)),.v (.int .i64 n)] [] (Det (.tup [optT (rdC s),optV (vOK s v n)])):=by
 refine Fqf6 _ _ _ ?_
 unfold tq79
 refine wp_det (Sq6t s) ?_
 simp only [↓zq,zs,hasK,optT_has]
 refine wp_det (Sqfi v) ?_
 simp only [↓zq,zs,hasK,optV_has,Det]
 unfold vOK
 cases he:rdCE s with
 | none=>rw [rdCE_none he]; cases rdV v<;>simp [optT,optV,↓zq,zs,hasK]
 | some e =>
  obtain⟨t,h1,h2,h3,h4,h5,_⟩:=rdCE_full he
  rw [h1]
  cases hv:rdV v with
  | none=>simp only [optT,optV,ty_has,ty_nil,↓zq,zs,hasK]; exact⟨fun h=>(by cases h),fun _=>⟨fun _=>trivial,fun h=>(by cases h)⟩⟩
  | some w =>
   obtain⟨h6,h7,h8⟩:=rdV_ok hv
   simp only [optT,optV,ty_has,ty_nil,vl_has,vl_nil,↓zq,zs,hasK]
   refine⟨fun h=>(by cases h),fun _=>⟨fun h=>(by cases h),fun _=>⟨fun h=>?_,fun h=>⟨fun h'=>?_,fun h'=>?_⟩⟩⟩⟩
   ·rw [if_neg (by omega)]
   ·rw [if_neg (by omega)]
   ·obtain⟨m,rfl⟩:∃m:Nat,n = (m:Int):=⟨n.toNat,by omega⟩
    have hi:=Sq6y m (by omega) (w.nodes+1) w (by omega) h7 e [] t h2 (by simp; omega)
    unfold isOfS at hi
    refine wp_det hi ?_
    simp only [↓zq,zs,hasK,Int.toNat_natCast]
    refine⟨fun hq=>?_,fun hq=>?_⟩
    ·rw [if_neg (by rw [hq]; simp)]
    ·rw [if_pos ⟨by omega,hq⟩]
theorem Sq1h (s v:List UInt8) (n:Int):FSpec Tryz.prog 48 [.v (.string (mk s)),.v (.string (mk v)),.v (.int .i64 n)] [] (Det (.v (.bool (vOK s v n).isSome))):=by
 refine Fqew _ _ _ ?_
 unfold tq9c
 refine wp_call (Sq5t s) (ParR.ne _ _ (fun h=>h)) ?_
 rintro r o ⟨c,d,hd,rfl,hh⟩
 have hhas:hasL [.str,.sl] [.v (.string (mk c)),d] 0:=by simp [hasL,has_str,hd]
 simp only [↓zq,zs,hasK,zt]
 refine⟨hhas,?_⟩
 refine wp_call (Sq23 v) (ParR.ne _ _ (fun h=>by cases hq:rdV v<;>simp [hq] at h |-)) ?_
 rintro r o ⟨c',d',hd',rfl,hh'⟩
 have hhas':hasL [.str,.sl] [.v (.string (mk c')),d'] 0:=by simp [hasL,has_str,hd']
 simp only [↓zq,zs,hasK,zt,Det]
 refine⟨hhas',fun h=>⟨fun h2=>?_,fun h2=>?_⟩,fun h=>?_⟩
 ·obtain⟨e,he,hce⟩:=hh h
  obtain⟨t,h1,hA,h3,h4,h5,_⟩:=rdCE_full he
  obtain⟨w,hw⟩:=Option.isSome_iff_exists.1 h2
  obtain⟨e2,he2,hce2⟩:=hh' h2
  rw [hw] at he2
  cases he2
  obtain⟨h6,h7,h8⟩:=rdV_ok hw
  refine wp_det (Sq2e _ _ _) ?_
  simp only [↓zq,zs,hasK,inR,vOK,he,hw]
  refine⟨fun hq=>?_,fun hq=>?_⟩
  ·have hq':0<=n/\n<=100:=by simpa using hq
   obtain⟨m,rfl⟩:∃m:Nat,n = (m:Int):=⟨n.toNat,by omega⟩
   rw [hce,hce2]
   have:=Sqe8 m (by omega) w h7 e [] t hA (by simp; omega)
   rw [show envS [] = [] from rfl] at this
   refine wp_det this ?_
   simp only [↓zq,zs,hasK,Int.toNat_natCast]
   by_cases hb:vis m w (e,[]) = true
   ·rw [if_pos ⟨hq',hb⟩,hb]; rfl
   ·rw [if_neg (fun h=>hb h.2)]
    rw [Bool.not_eq_true] at hb
    rw [hb]; rfl
  ·have hq':¬ (0<=n/\n<=100):=by simpa using hq
   rw [if_neg (fun h=>hq' h.1)]; rfl
 ·have hn:rdV v = none:=by cases hq:rdV v<;>simp [hq] at h2 |-
  unfold vOK
  rw [hn]; cases rdCE s<;>rfl
 ·have hn:rdCE s = none:=by cases hq:rdCE s<;>simp [hq] at h |-
  unfold vOK
  rw [hn]; rfl
end Go.Proofs.Trees
namespace Go.Proofs.Trees
open Go Go.VL Go.RowKit
inductive Tg where
 | nm (s:List UInt8)
 | bd (k:Nat)
 deriving DecidableEq
def Tg.up:Tg->Tg
 | .nm s=>.nm s
 | .bd k=>.bd (k+1)
def isAt:Ty->Tg->Bool
 | .name s,.nm s'=>decide (s = s')
 | .bound u,.bd k=>decide (u = k)
 | _,_=>false
abbrev Hl:=Vl×Vl
def inC (g:Vl->Vl) (l:List Hl):List Hl:=l.map fun h=>(g h.1,h.2)
def holesS (f:Ty->Tg->Vl->List Hl) (tg:Tg):Ty->Vl->List Hl
 | .plus a _,.l w=>inC .l (f a tg w)
 | .plus _ b,.r w=>inC .r (f b tg w)
 | .times a b,.p x y=>inC (fun c=>.l (.p c y)) (f a tg x)++inC (fun c=>.r (.p x c)) (f b tg y)
 | .rc a,.f w=>inC (fun c=>.f (.l c)) (f a tg.up w)++(f a (.bd 0) w).flatMap fun h=>inC (fun c=>.f (.r (.p h.1 c))) (f (.rc a) tg h.2)
 | _,_=>[]
def holesN:Nat->Ty->Tg->Vl->List Hl
 | 0,_,_,_=>[]
 | n+1,t,tg,v=>if isAt t tg = true then [(.u,v)] else holesS (holesN n) tg t v
def stuck:Ty->Vl->Bool
 | .plus _ _,.l _=>false
 | .plus _ _,.r _=>false
 | .times _ _,.p _ _=>false
 | .rc _,.f _=>false
 | _,_=>true
def holes (t:Ty) (tg:Tg) (v:Vl):List Hl:=holesN v.nodes t tg v
theorem mem_inC {g:Vl->Vl} {l:List Hl} {h:Hl} (hm:h∈inC g l):∃k,k∈l/\h = (g k.1,k.2):=by
 obtain⟨k,h1,h2⟩:=List.mem_map.1 hm
 exact⟨k,h1,h2.symm⟩
theorem flat_congr {f g:Hl->List Hl}:∀{l:List Hl},(∀h,h∈l->f h = g h)->l.flatMap f = l.flatMap g
 | [],_=>rfl
 | h::l,hl=>by rw [List.flatMap_cons,List.flatMap_cons,hl h List.mem_cons_self,flat_congr (l:=l) fun k hk=>hl k (List.mem_cons_of_mem _ hk)]
theorem holesN_sz:∀(n:Nat) (t:Ty) (tg:Tg) (v:Vl) (h:Hl),h∈holesN n t tg v->h.2.nodes<=v.nodes/\h.1.nodes+4*h.2.nodes<=4*v.nodes+1
 | 0,t,tg,v,h,hm=>by simp [holesN] at hm
 | n+1,t,tg,v,h,hm=>by
  unfold holesN at hm
  split at hm
  ·simp only [List.mem_singleton] at hm
   subst hm
   simp only [Vl.nodes]; omega
  ·unfold holesS at hm
   split at hm
   ·obtain⟨k,h1,rfl⟩:=mem_inC hm
    have:=holesN_sz n _ _ _ k h1
    simp only [Vl.nodes]; omega
   ·obtain⟨k,h1,rfl⟩:=mem_inC hm
    have:=holesN_sz n _ _ _ k h1
    simp only [Vl.nodes]; omega
   ·rcases List.mem_append.1 hm with hm | hm
    ·obtain⟨k,h1,rfl⟩:=mem_inC hm
     have:=holesN_sz n _ _ _ k h1
     simp only [Vl.nodes]; omega
    ·obtain⟨k,h1,rfl⟩:=mem_inC hm
     have:=holesN_sz n _ _ _ k h1
     simp only [Vl.nodes]; omega
   ·rcases List.mem_append.1 hm with hm | hm
    ·obtain⟨k,h1,rfl⟩:=mem_inC hm
     have:=holesN_sz n _ _ _ k h1
     simp only [Vl.nodes]; omega
    ·obtain⟨k,h1,h2⟩:=List.mem_flatMap.1 hm
     obtain⟨k2,h3,rfl⟩:=mem_inC h2
     have:=holesN_sz n _ _ _ k h1
     have:=holesN_sz n _ _ _ k2 h3
     simp only [Vl.nodes]; omega
   ·simp at hm
theorem holesN_eq:∀(n m:Nat) (t:Ty) (tg:Tg) (v:Vl),v.nodes<=n->v.nodes<=m->holesN n t tg v = holesN m t tg v
 | 0,m,t,tg,v,h,_=>by have:=nodes_pos v; omega
 | n+1,0,t,tg,v,_,h=>by have:=nodes_pos v; omega
 | n+1,m+1,t,tg,v,hn,hm=>by
  rw [holesN,holesN]
  split
  ·rfl
  ·unfold holesS
   split
   ·simp only [Vl.nodes] at hn hm; rw [holesN_eq n m _ _ _ (by omega) (by omega)]
   ·simp only [Vl.nodes] at hn hm; rw [holesN_eq n m _ _ _ (by omega) (by omega)]
   ·simp only [Vl.nodes] at hn hm; rw [holesN_eq n m _ _ _ (by omega) (by omega),holesN_eq n m _ _ _ (by omega) (by omega)]
   ·rename_i a w
    simp only [Vl.nodes] at hn hm; rw [holesN_eq n m _ _ _ (by omega) (by omega),holesN_eq n m _ (.bd 0) _ (by omega) (by omega)]
    congr 1
    apply flat_congr
    intro h hh
    have:=(holesN_sz _ _ _ _ _ hh).1
    rw [holesN_eq n m _ _ _ (by omega) (by omega)]
   ·rfl
theorem holes_N {n:Nat} (t:Ty) (tg:Tg) {v:Vl} (h:v.nodes<=n):holesN n t tg v = holes t tg v:=holesN_eq _ _ _ _ _ h (Nat.le_refl _)
theorem holes_at {t:Ty} {tg:Tg} (v:Vl) (h:isAt t tg = true):holes t tg v = [(.u,v)]:=by
 have:=nodes_pos v
 unfold holes
 cases e:v.nodes with
 | zero=>omega
 | succ n=>rw [holesN,if_pos h]
theorem holes_l (a b:Ty) (tg:Tg) (w:Vl):holes (.plus a b) tg (.l w) = inC .l (holes a tg w):=by
 unfold holes; rw [show (Vl.l w).nodes = w.nodes+1 by simp [Vl.nodes]; omega,holesN,if_neg (by simp [isAt])]; rfl
theorem holes_r (a b:Ty) (tg:Tg) (w:Vl):holes (.plus a b) tg (.r w) = inC .r (holes b tg w):=by
 unfold holes; rw [show (Vl.r w).nodes = w.nodes+1 by simp [Vl.nodes]; omega,holesN,if_neg (by simp [isAt])]; rfl
theorem holes_p (a b:Ty) (tg:Tg) (x y:Vl):holes (.times a b) tg (.p x y) = inC (fun c=>.l (.p c y)) (holes a tg x)++inC (fun c=>.r (.p x c)) (holes b tg y):=by
 rw [holes,show (Vl.p x y).nodes = (x.nodes+y.nodes)+1 by simp [Vl.nodes]; omega,holesN,if_neg (by simp [isAt])]
 rw [holesS,holes_N a tg (by omega),holes_N b tg (by omega)]
theorem holes_f (a:Ty) (tg:Tg) (w:Vl):holes (.rc a) tg (.f w) = inC (fun c=>.f (.l c)) (holes a tg.up w)++(holes a (.bd 0) w).flatMap fun h=>inC (fun c=>.f (.r (.p h.1 c))) (holes (.rc a) tg h.2):=by
 rw [holes,show (Vl.f w).nodes = w.nodes+1 by simp [Vl.nodes]; omega,holesN,if_neg (by simp [isAt])]
 rw [holesS,holes_N a tg.up (Nat.le_refl _),holes_N a (.bd 0) (Nat.le_refl _)]
 congr 1
 apply flat_congr
 intro h hh
 have:=(holesN_sz _ _ _ _ _ hh).1
 rw [holes_N (.rc a) tg this]
theorem holes_no {t:Ty} {tg:Tg} {v:Vl} (h:isAt t tg = false) (h2:stuck t v = true):holes t tg v = []:=by
 unfold holes
 cases e:v.nodes with
 | zero=>rfl
 | succ n =>
  rw [holesN,if_neg (by rw [h]; simp)]
  unfold holesS
  split<;>first | (simp [stuck] at h2; done) | rfl
theorem holes_sz {t:Ty} {tg:Tg} {v:Vl} {h:Hl} (hm:h∈holes t tg v):h.2.nodes<=v.nodes/\h.1.nodes+4*h.2.nodes<=4*v.nodes+1:=holesN_sz _ _ _ _ _ hm
def nsum (l:List Hl):Nat:=(l.map fun h=>h.2.nodes).sum
theorem nsum_app (l r:List Hl):nsum (l++r) = nsum l+nsum r:=by simp [nsum]
theorem nsum_inC (g:Vl->Vl) (l:List Hl):nsum (inC g l) = nsum l:=by simp [nsum,inC,Function.comp_def]
def tsum (f:Tg->Nat) (T:List Tg):Nat:=(T.map f).sum
theorem tsum_add (f g:Tg->Nat):∀T:List Tg,tsum (fun x=>f x+g x) T = tsum f T+tsum g T
 | []=>rfl
 | x::T=>by have:=tsum_add f g T; simp only [tsum,List.map_cons,List.sum_cons] at this |-; omega
theorem tsum_le {f g:Tg->Nat}:∀{T:List Tg},(∀x,x∈T->f x<=g x)->tsum f T<=tsum g T
 | [],_=>Nat.le_refl _
 | x::T,h=>by
  have:=tsum_le (T:=T) fun y hy=>h y (List.mem_cons_of_mem _ hy)
  have:=h x List.mem_cons_self
  simp only [tsum,List.map_cons,List.sum_cons] at *; omega
theorem tsum_zero {f:Tg->Nat}:∀{T:List Tg},(∀x,x∈T->f x = 0)->tsum f T = 0
 | [],_=>rfl
 | x::T,h=>by
  have:=tsum_zero (T:=T) fun y hy=>h y (List.mem_cons_of_mem _ hy)
  have:=h x List.mem_cons_self
  simp only [tsum,List.map_cons,List.sum_cons] at *; omega
theorem tsum_flat (g:Hl->Tg->Nat) (T:List Tg):∀l:List Hl,tsum (fun x=>(l.map fun h=>g h x).sum) T = (l.map fun h=>tsum (g h) T).sum
 | []=>tsum_zero fun _ _=>rfl
 | h::l=>by
  have:=tsum_flat g T l
  simp only [List.map_cons,List.sum_cons]
  rw [tsum_add,this]
theorem nsum_flat (f:Hl->List Hl):∀l:List Hl,nsum (l.flatMap f) = (l.map fun h=>nsum (f h)).sum
 | []=>rfl
 | h::l=>by rw [List.flatMap_cons,nsum_app,nsum_flat f l]; simp
theorem sum_le {f g:Hl->Nat}:∀{l:List Hl},(∀x,x∈l->f x<=g x)->(l.map f).sum<=(l.map g).sum
 | [],_=>Nat.le_refl _
 | x::l,h=>by
  have:=sum_le (l:=l) fun y hy=>h y (List.mem_cons_of_mem _ hy)
  have:=h x List.mem_cons_self
  simp only [List.map_cons,List.sum_cons] at *; omega
theorem isAt_one {t:Ty} {x y:Tg} (h:isAt t x = true) (h':isAt t y = true):x = y:=by
 cases t<;>cases x<;>cases y<;>simp [isAt] at h h'<;>simp_all
theorem tsum_at {t:Ty} (n:Nat):∀{T:List Tg},T.Nodup->tsum (fun x=>if isAt t x = true then n else 0) T<=n
 | [],_=>Nat.zero_le _
 | x::T,h=>by
  obtain⟨h1,h2⟩:=List.nodup_cons.1 h
  have ih:=tsum_at (t:=t) n h2
  by_cases hx:isAt t x = true
  ·have:tsum (fun x=>if isAt t x = true then n else 0) T = 0:=tsum_zero fun y hy=>by
    rw [if_neg fun hy'=>h1 (by rw [isAt_one hx hy']; exact hy)]
   simp only [tsum,List.map_cons,List.sum_cons] at *
   rw [if_pos hx]; omega
  ·simp only [tsum,List.map_cons,List.sum_cons] at *
   rw [if_neg hx]; omega
theorem up_nodup {T:List Tg} (h:T.Nodup):(Tg.bd 0::T.map Tg.up).Nodup:=by
 refine List.nodup_cons.2 ⟨fun hm=>?_,?_⟩
 ·obtain⟨x,_,e⟩:=List.mem_map.1 hm
  cases x<;>simp [Tg.up] at e
 ·refine List.Pairwise.map _ (fun a b hab e=>hab ?_) h
  cases a<;>cases b<;>simp [Tg.up] at e<;>simp_all
theorem apart:∀(n:Nat) (v:Vl),v.nodes<=n->∀(t:Ty) (T:List Tg),T.Nodup->tsum (fun x=>nsum (holes t x v)) T<=v.nodes
 | 0,v,h=>by have:=nodes_pos v; omega
 | n+1,v,hn=>by
  intro t T hT
  have base:∀(hno:∀x,isAt t x = false->holes t x v = []),tsum (fun x=>nsum (holes t x v)) T<=v.nodes:=fun hno=>by
   refine Nat.le_trans (tsum_le fun x _=>?_) (tsum_at (t:=t) v.nodes hT)
   cases e:isAt t x with
   | true=>rw [holes_at v e]; simp [nsum]
   | false=>rw [hno x e]; simp [nsum]
  cases hm:stuck t v with
  | true=>exact base fun x hx=>holes_no hx hm
  | false =>
   unfold stuck at hm
   split at hm
   ·rename_i a b w
    simp only [Vl.nodes] at hn |-
    simp only [holes_l,nsum_inC]
    have:=apart n w (by omega) a T hT
    omega
   ·rename_i a b w
    simp only [Vl.nodes] at hn |-
    simp only [holes_r,nsum_inC]
    have:=apart n w (by omega) b T hT
    omega
   ·rename_i a b x y
    simp only [Vl.nodes] at hn |-
    simp only [holes_p,nsum_app,nsum_inC]
    rw [tsum_add]
    have:=apart n x (by omega) a T hT
    have:=apart n y (by omega) b T hT
    omega
   ·rename_i a w
    simp only [Vl.nodes] at hn |-
    simp only [holes_f,nsum_app,nsum_inC,nsum_flat]
    rw [tsum_add,tsum_flat]
    have h1:=apart n w (by omega) a _ (up_nodup hT)
    simp only [tsum,List.map_cons,List.sum_cons,List.map_map] at h1
    have h2:((holes a (.bd 0) w).map fun h=>tsum (fun x=>nsum (holes (.rc a) x h.2)) T).sum<=nsum (holes a (.bd 0) w):=sum_le fun h hh=>by
     have:=(holes_sz hh).1
     exact apart n h.2 (by omega) (.rc a) T hT
    simp only [tsum,Function.comp_def] at h1 h2 |-
    omega
   ·cases hm
end Go.Proofs.Trees
namespace Go.Proofs.Trees
open Go Go.VL Go.RowKit
def nmAt (ar:List (List UInt8)) (k:Nat):List UInt8:=ar.getD (ar.length - 1 - k) []
theorem lastOf_at {s:List UInt8} {ar:List (List UInt8)}:∀(i u:Nat),i<=ar.length->lastOf s ar i = some u->u < ar.length/\nmAt ar u = s
 | 0,u,_,h=>by cases h
 | i+1,u,hi,h=>by
  rw [lastOf] at h
  split at h
  ·rename_i e
   cases h
   refine⟨by omega,?_⟩
   rw [nmAt,show ar.length - 1 - (ar.length - 1 - i) = i by omega]; exact e
  ·exact lastOf_at i u (by omega) h
theorem lastOf_same (w:List UInt8) (ar:List (List UInt8)):lastOf w (ar++[w]) (ar++[w]).length = some 0:=by
 have e2:(ar++[w]).length = ar.length+1:=by simp
 rw [e2,lastOf,if_pos (by simp [List.getD_eq_getElem?_getD]),e2]; simp
theorem lastOf_other {s w:List UInt8} (ar:List (List UInt8)) (h:w≠s):lastOf s (ar++[w]) (ar++[w]).length = (lastOf s ar ar.length).map (·+1):=by
 have e2:(ar++[w]).length = ar.length+1:=by simp
 rw [e2,lastOf,if_neg (by simpa [List.getD_eq_getElem?_getD] using h),lastOf_snoc _ _ _ _ (Nat.le_refl _)]
end Go.Proofs.Trees
namespace Go.Proofs.Trees
open Go Go.VL Go.RowKit
def tyA:E->List Nm->Ty
 | .atom s,ar=>if s = [48] then .zero else if s = [49] then .one else match lastOf s ar ar.length with | some u=>.bound u | none=>.name s
 | .list [x,a,b],ar=>if x.at = [43] then .plus (tyA a ar) (tyA b ar) else if x.at = [42] then .times (tyA a ar) (tyA b ar) else .rc (tyA b (ar++[a.at]))
 | .list _,_=>.zero
def okN (s:Nm):Prop:=s≠[]/\s≠[48]/\s≠[49]
inductive Wf:E->Prop
 | atom {s} (h:s≠[]):Wf (.atom s)
 | plus {a b} (ha:Wf a) (hb:Wf b):Wf (.list [.atom [43],a,b])
 | times {a b} (ha:Wf a) (hb:Wf b):Wf (.list [.atom [42],a,b])
 | rc {n b} (hn:okN n) (hb:Wf b):Wf (.list [.atom [114,101,99],.atom n,b])
theorem tyA_plus (a b:E) (ar:List Nm):tyA (.list [.atom [43],a,b]) ar = .plus (tyA a ar) (tyA b ar):=by rw [tyA,if_pos (show (E.atom [43]).at = [43] from rfl)]
theorem tyA_times (a b:E) (ar:List Nm):tyA (.list [.atom [42],a,b]) ar = .times (tyA a ar) (tyA b ar):=by rw [tyA,if_neg (by decide),if_pos (show (E.atom [42]).at = [42] from rfl)]
theorem tyA_rc (a b:E) (ar:List Nm):tyA (.list [.atom [114,101,99],a,b]) ar = .rc (tyA b (ar++[a.at])):=by rw [tyA,if_neg (by decide),if_neg (by decide)]
theorem Wf.ok {e:E} (h:Wf e):e.ok:=by
 induction h with
 | atom h=>exact h
 | plus ha hb i1 i2=>exact⟨by simp [E.ok],i1,i2,trivial⟩
 | times ha hb i1 i2=>exact⟨by simp [E.ok],i1,i2,trivial⟩
 | rc hn hb i=>exact⟨by simp [E.ok],hn.1,i,trivial⟩
theorem Wf.ats {e:E} (h:Wf e):∀ar,e.ats = (tyA e ar).atoms:=by
 induction h with
 | @atom s h =>
  intro ar
  simp only [E.ats,tyA]
  split
  ·rfl
  ·split
   ·rfl
   ·split<;>rfl
 | plus ha hb i1 i2=>intro ar; rw [tyA_plus]; simp only [E.ats,E.atss,Ty.atoms,<-i1 ar,<-i2 ar]; omega
 | times ha hb i1 i2=>intro ar; rw [tyA_times]; simp only [E.ats,E.atss,Ty.atoms,<-i1 ar,<-i2 ar]; omega
 | @rc n b hn hb i=>intro ar; rw [tyA_rc]; simp only [E.ats,E.atss,Ty.atoms,<-i]; omega
theorem Wf.sz {e:E} (h:Wf e):e.sz<=3*e.ats:=by
 induction h with
 | atom h=>simp [E.sz,E.ats]
 | plus ha hb i1 i2=>simp only [E.sz,E.szs,E.ats,E.atss]; omega
 | times ha hb i1 i2=>simp only [E.sz,E.szs,E.ats,E.atss]; omega
 | rc hn hb i=>simp only [E.sz,E.szs,E.ats,E.atss]; omega
theorem wf_tyOf:∀(e:E) (ar:List Nm) (t:Ty),e.ok->(∀w,w∈ar->isLoo w = true)->tyOf e ar = some t->Wf e/\tyA e ar = t
 | .atom s,ar,t,hok,hl,ht=>by
  refine⟨.atom hok,?_⟩
  simp only [tyOf,tyA] at ht |-
  split at ht
  ·rename_i h; rw [if_pos h]; simpa using ht
  ·rename_i h; rw [if_neg h]
   split at ht
   ·rename_i h1; rw [if_pos h1]; simpa using ht
   ·rename_i h1; rw [if_neg h1]
    split at ht
    ·rename_i hp
     cases q:lastOf s ar ar.length with
     | none=>simpa using ht
     | some u =>
      obtain⟨h1,h2⟩:=lastOf_at _ _ (Nat.le_refl _) q
      have:=hl (nmAt ar u) (by
       unfold nmAt
       have:ar.length - 1 - u < ar.length:=by omega
       simp [List.getD_eq_getElem?_getD,this])
      rw [h2,par_not_loo hp] at this; cases this
    ·split at ht
     ·split at ht<;>rename_i q<;>rw [q]<;>simpa using ht
     ·cases ht
 | .list [x,a,b],ar,t,hok,hl,ht=>by
  obtain⟨ok1,ok2,ok3,_⟩:=hok
  by_cases h0:x.at = [43]
  ·obtain⟨t1,t2,h1,h2,rfl⟩:=tyOf_plus_inv h0 ht
   obtain rfl:=at_atom h0 (by simp)
   obtain⟨w1,e1⟩:=wf_tyOf a ar t1 ok2 hl h1
   obtain⟨w2,e2⟩:=wf_tyOf b ar t2 ok3 hl h2
   exact⟨.plus w1 w2,by rw [tyA_plus,e1,e2]⟩
  ·by_cases h1:x.at = [42]
   ·obtain⟨t1,t2,h2,h3,rfl⟩:=tyOf_times_inv h1 ht
    obtain rfl:=at_atom h1 (by simp)
    obtain⟨w1,e1⟩:=wf_tyOf a ar t1 ok2 hl h2
    obtain⟨w2,e2⟩:=wf_tyOf b ar t2 ok3 hl h3
    exact⟨.times w1 w2,by rw [tyA_times,e1,e2]⟩
   ·by_cases h2:x.at = [114,101,99]
    ·obtain⟨t1,hla,h3,rfl⟩:=tyOf_rec_inv h2 ht
     obtain rfl:=at_atom h2 (by simp)
     have hne:a.at≠[]:=by intro e; rw [e] at hla; cases hla
     have ha:a = .atom a.at:=at_atom rfl hne
     obtain⟨w1,e1⟩:=wf_tyOf b (ar++[a.at]) t1 ok3 (fun w hw=>by
      rcases List.mem_append.1 hw with hw | hw
      ·exact hl w hw
      ·simp only [List.mem_singleton] at hw; rw [hw]; exact hla) h3
     have hN:okN a.at:=⟨hne,fun e=>by rw [e] at hla; revert hla; decide,fun e=>by rw [e] at hla; revert hla; decide⟩
     refine⟨?_,by rw [tyA_rc,e1]⟩
     rw [ha]; exact .rc hN w1
    ·rw [tyOf_no _ h0 h1 h2] at ht; cases ht
 | .list [],ar,t,_,_,ht=>by cases ht
 | .list [_],ar,t,_,_,ht=>by cases ht
 | .list [_,_],ar,t,_,_,ht=>by cases ht
 | .list (_::_::_::_::_),ar,t,_,_,ht=>by cases ht
theorem lastOf_mem (s:Nm) (ar:List Nm):lastOf s ar ar.length = none↔s ∉ ar:=by
 have:=lastOf_none s ar ar.length (Nat.le_refl _)
 rwa [List.take_length] at this
theorem lastOf_app (s:Nm) (ar:List Nm):∀(n:Nat) (br:List Nm),br.length = n->lastOf s (ar++br) (ar++br).length = match lastOf s br br.length with | some u=>some u | none=>(lastOf s ar ar.length).map (·+br.length)
 | 0,br,h=>by
  obtain rfl:=List.eq_nil_of_length_eq_zero h
  rw [List.append_nil]
  cases h:lastOf s ar ar.length<;>simp [lastOf]
 | n+1,br,h=>by
  obtain⟨b2,w,rfl⟩:∃b2 w,br = b2++[w]:=⟨br.dropLast,br.getLast (by intro e; rw [e] at h; cases h),(List.dropLast_concat_getLast _).symm⟩
  rw [<-List.append_assoc]
  by_cases hw:w = s
  ·subst hw; rw [lastOf_same,lastOf_same]
  ·rw [lastOf_other _ hw,lastOf_other _ hw,lastOf_app s ar n b2 (by simpa using h)]
   cases lastOf s b2 b2.length with
   | some u=>rfl
   | none =>
    cases lastOf s ar ar.length with
    | none=>rfl
    | some u=>simp only [Option.map_none,Option.map_some,List.length_append,List.length_cons,List.length_nil]; congr 1
theorem tyA_pre (ar:List Nm) {e:E} (h:Wf e):∀br,(∀y,hasN y (tyA e br) = true->y ∉ ar)->tyA e (ar++br) = tyA e br:=by
 induction h with
 | @atom s h =>
  intro br hy
  simp only [tyA] at hy |-
  split
  ·rfl
  ·rename_i h0
   split
   ·rfl
   ·rename_i h1
    rw [if_neg h0,if_neg h1] at hy
    rw [lastOf_app s ar _ br rfl]
    cases q:lastOf s br br.length with
    | some u=>rfl
    | none =>
     rw [q] at hy
     have:=(lastOf_mem s ar).2 (hy s (by simp [hasN]))
     rw [this]; rfl
 | plus ha hb i1 i2 =>
  intro br hy
  rw [tyA_plus] at hy |-
  rw [tyA_plus,i1 br fun y h=>hy y (by simp [hasN,h]),i2 br fun y h=>hy y (by simp [hasN,h])]
 | times ha hb i1 i2 =>
  intro br hy
  rw [tyA_times] at hy |-
  rw [tyA_times,i1 br fun y h=>hy y (by simp [hasN,h]),i2 br fun y h=>hy y (by simp [hasN,h])]
 | @rc n b hn hb i =>
  intro br hy
  rw [tyA_rc] at hy |-
  rw [tyA_rc,List.append_assoc,i _ hy]
theorem tyA_opn (x:Nm) {e:E} (h:Wf e):∀ar,tyA e ar = opn (.name x) (tyA e ([x]++ar)) ar.length:=by
 induction h with
 | @atom s h =>
  intro ar
  simp only [tyA]
  split
  ·rfl
  ·split
   ·rfl
   ·rw [lastOf_app s [x] _ ar rfl]
    cases q:lastOf s ar ar.length with
    | some u =>
     have:=(lastOf_at _ _ (Nat.le_refl _) q).1
     simp only [opn]; rw [if_neg (by omega)]
    | none =>
     by_cases hx:x = s
     ·subst hx
      have:lastOf x [x] [x].length = some 0:=lastOf_same x []
      rw [this]; simp [opn]
     ·have:lastOf s [x] [x].length = none:=(lastOf_mem s [x]).2 (by simpa using fun e=>hx e.symm)
      rw [this]; rfl
 | plus ha hb i1 i2=>intro ar; rw [tyA_plus,tyA_plus,opn,<-i1 ar,<-i2 ar]
 | times ha hb i1 i2=>intro ar; rw [tyA_times,tyA_times,opn,<-i1 ar,<-i2 ar]
 | @rc n b hn hb i =>
  intro ar
  rw [tyA_rc,tyA_rc,opn,i (ar++[E.at (.atom n)]),List.append_assoc]
  simp
theorem wfE_names {e:E} (h:Wf e):∀ar y,hasN y (tyA e ar) = true->okN y/\y ∉ ar:=by
 induction h with
 | @atom s h =>
  intro ar y hy
  simp only [tyA] at hy
  split at hy
  ·cases hy
  ·rename_i h0
   split at hy
   ·cases hy
   ·rename_i h1
    split at hy
    ·cases hy
    ·rename_i q
     simp only [hasN,decide_eq_true_eq] at hy
     subst hy
     exact⟨⟨h,h0,h1⟩,(lastOf_mem _ _).1 q⟩
 | plus ha hb i1 i2 =>
  intro ar y hy
  rw [tyA_plus] at hy
  simp only [hasN,Bool.or_eq_true] at hy
  rcases hy with hy | hy
  ·exact i1 ar y hy
  ·exact i2 ar y hy
 | times ha hb i1 i2 =>
  intro ar y hy
  rw [tyA_times] at hy
  simp only [hasN,Bool.or_eq_true] at hy
  rcases hy with hy | hy
  ·exact i1 ar y hy
  ·exact i2 ar y hy
 | rc hn hb i =>
  intro ar y hy
  rw [tyA_rc] at hy
  obtain⟨h1,h2⟩:=i _ y hy
  exact⟨h1,fun h=>h2 (List.mem_append_left _ h)⟩
theorem fre_mem {e:E} (h:Wf e):∀(bd l:List Nm) (y:Nm),y∈fre e bd l↔y∈l\/hasN y (tyA e bd) = true:=by
 induction h with
 | @atom s h =>
  intro bd l y
  simp only [fre,tyA]
  by_cases h0:s = [48]
  ·simp [h0,hasN]
  ·by_cases h1:s = [49]
   ·simp [h1,hasN]
   ·rw [if_neg h0,if_neg h1]
    by_cases h2:s∈bd
    ·cases q:lastOf s bd bd.length with
     | none=>exact absurd h2 ((lastOf_mem _ _).1 q)
     | some u=>simp [h2,hasN]
    ·rw [(lastOf_mem _ _).2 h2]
     simp only [h0,h1,h2,false_or,hasN,decide_eq_true_eq]
     by_cases h3:s∈l
     ·simp only [h3,if_true]
      exact⟨fun h=>.inl h,fun h=>by rcases h with h | rfl<;>assumption⟩
     ·simp only [h3,if_false,List.mem_append,List.mem_singleton,eq_comm]
 | plus ha hb i1 i2 =>
  intro bd l y
  rw [fre,if_neg (by decide),tyA_plus,i2,i1]
  simp [hasN,or_assoc]
 | times ha hb i1 i2 =>
  intro bd l y
  rw [fre,if_neg (by decide),tyA_times,i2,i1]
  simp [hasN,or_assoc]
 | rc hn hb i =>
  intro bd l y
  rw [fre,if_pos (show (E.atom [114,101,99]).at = [114,101,99] from rfl),tyA_rc,i]
  rfl
theorem namesOf_mem:∀(t:Ty) (out:List Nm) (y:Nm),y∈namesOf t out↔y∈out\/hasN y t = true
 | .name s,out,y=>by
  simp only [namesOf,addN,hasN,decide_eq_true_eq]
  split
  ·rename_i h; exact⟨fun h=>.inl h,fun h'=>by rcases h' with h' | rfl<;>assumption⟩
  ·simp [eq_comm]
 | .plus a b,out,y=>by rw [namesOf,namesOf_mem b,namesOf_mem a]; simp [hasN,or_assoc]
 | .times a b,out,y=>by rw [namesOf,namesOf_mem b,namesOf_mem a]; simp [hasN,or_assoc]
 | .rc a,out,y=>by rw [namesOf,namesOf_mem a]; rfl
 | .zero,out,y=>by simp [namesOf,hasN]
 | .one,out,y=>by simp [namesOf,hasN]
 | .bound k,out,y=>by simp [namesOf,hasN]
end Go.Proofs.Trees
namespace Go.Proofs.Trees
open Go Go.VL Go.RowKit
abbrev recN:Nm:=[114,101,99]
theorem at_atom' (s:Nm):(E.atom s).at = s:=rfl
def ptE (x:Nm) (u:E):E->E
 | .atom s=>if s = x then u else .atom s
 | .list [h,a,b]=>if h.at = recN then(if a.at = x then .list [h,a,b] else .list [.atom recN,a,ptE x u b]) else .list [.atom h.at,ptE x u a,ptE x u b]
 | .list l=>.list l
def usE (x:Nm):E->Nat
 | .atom s=>if s = x then 1 else 0
 | .list [h,a,b]=>if h.at = recN then(if a.at = x then 0 else usE x b) else usE x a+usE x b
 | .list _=>0
def apE (p:Nm->Prop):E->Prop
 | .atom _=>True
 | .list [h,a,b]=>(if h.at = recN then p a.at else apE p a)/\apE p b
 | .list _=>True
def cntN (x:Nm):Ty->Nat
 | .name s=>if s = x then 1 else 0
 | .plus a b=>cntN x a+cntN x b
 | .times a b=>cntN x a+cntN x b
 | .rc a=>cntN x a
 | _=>0
theorem ptE_plus (x:Nm) (u a b:E):ptE x u (.list [.atom [43],a,b]) = .list [.atom [43],ptE x u a,ptE x u b]:=by rw [ptE,if_neg (by decide)]; rfl
theorem ptE_times (x:Nm) (u a b:E):ptE x u (.list [.atom [42],a,b]) = .list [.atom [42],ptE x u a,ptE x u b]:=by rw [ptE,if_neg (by decide)]; rfl
theorem ptE_rc (x:Nm) (u:E) (n:Nm) (b:E):ptE x u (.list [.atom recN,.atom n,b]) = if n = x then .list [.atom recN,.atom n,b] else .list [.atom recN,.atom n,ptE x u b]:=by rw [ptE,if_pos (at_atom' _)]; rfl
theorem usE_plus (x:Nm) (a b:E):usE x (.list [.atom [43],a,b]) = usE x a+usE x b:=by rw [usE,if_neg (by decide)]
theorem usE_times (x:Nm) (a b:E):usE x (.list [.atom [42],a,b]) = usE x a+usE x b:=by rw [usE,if_neg (by decide)]
theorem usE_rc (x:Nm) (n:Nm) (b:E):usE x (.list [.atom recN,.atom n,b]) = if n = x then 0 else usE x b:=by rw [usE,if_pos (at_atom' _)]; rfl
theorem apE_plus (p:Nm->Prop) (a b:E):apE p (.list [.atom [43],a,b])↔apE p a/\apE p b:=by rw [apE,if_neg (by decide)]
theorem apE_times (p:Nm->Prop) (a b:E):apE p (.list [.atom [42],a,b])↔apE p a/\apE p b:=by rw [apE,if_neg (by decide)]
theorem apE_rc (p:Nm->Prop) (n:Nm) (b:E):apE p (.list [.atom recN,.atom n,b])↔p n/\apE p b:=by rw [apE,if_pos (at_atom' _)]; rfl
theorem apE_mono {p q:Nm->Prop} (h:∀n,p n->q n) {e:E} (hw:Wf e):apE p e->apE q e:=by
 induction hw with
 | atom _=>exact fun _=>trivial
 | plus _ _ i1 i2=>rw [apE_plus,apE_plus]; exact fun g=>⟨i1 g.1,i2 g.2⟩
 | times _ _ i1 i2=>rw [apE_times,apE_times]; exact fun g=>⟨i1 g.1,i2 g.2⟩
 | rc _ _ i=>rw [apE_rc,apE_rc]; exact fun g=>⟨h _ g.1,i g.2⟩
theorem tyA_atom_name {s:Nm} (hs:okN s) {ar:List Nm} (h:s ∉ ar):tyA (.atom s) ar = .name s:=by
 simp only [tyA]; rw [if_neg hs.2.1,if_neg hs.2.2,(lastOf_mem s ar).2 h]
theorem tyA_put {x:Nm} (hx:okN x) {u:E} (hu:Wf u) {e:E} (h:Wf e):apE (fun n=>n≠x/\hasN n (tyA u []) = false) e->∀ar,x ∉ ar->(∀y,y∈ar->hasN y (tyA u []) = false)->Wf (ptE x u e)/\tyA (ptE x u e) ar = sub x (tyA u []) (tyA e ar):=by
 induction h with
 | @atom s hs =>
  intro _ ar har hy
  by_cases e:s = x
  ·subst e
   have:tyA u (ar++[]) = tyA u []:=tyA_pre ar hu [] fun y hy' hm=>by rw [hy y hm] at hy'; cases hy'
   rw [List.append_nil] at this
   rw [tyA_atom_name hx har]
   simp only [ptE,sub,if_true]
   exact⟨hu,this⟩
  ·simp only [ptE,if_neg e]
   refine⟨.atom hs,?_⟩
   simp only [tyA]
   split
   ·rfl
   ·split
    ·rfl
    ·split
     ·rfl
     ·simp only [sub,if_neg e]
 | plus ha hb i1 i2 =>
  intro hap ar har hy
  rw [apE_plus] at hap
  obtain⟨w1,e1⟩:=i1 hap.1 ar har hy
  obtain⟨w2,e2⟩:=i2 hap.2 ar har hy
  rw [ptE_plus,tyA_plus,tyA_plus,e1,e2]
  exact⟨.plus w1 w2,rfl⟩
 | times ha hb i1 i2 =>
  intro hap ar har hy
  rw [apE_times] at hap
  obtain⟨w1,e1⟩:=i1 hap.1 ar har hy
  obtain⟨w2,e2⟩:=i2 hap.2 ar har hy
  rw [ptE_times,tyA_times,tyA_times,e1,e2]
  exact⟨.times w1 w2,rfl⟩
 | @rc n b hn hb i =>
  intro hap ar har hy
  rw [apE_rc] at hap
  obtain⟨w1,e1⟩:=i hap.2 (ar++[n]) (by
   simp only [List.mem_append,List.mem_singleton]
   rintro(h | h)
   ·exact har h
   ·exact hap.1.1 h.symm) (fun y hm=>by
   simp only [List.mem_append,List.mem_singleton] at hm
   rcases hm with hm | rfl
   ·exact hy y hm
   ·exact hap.1.2)
  rw [ptE_rc,if_neg hap.1.1,tyA_rc,tyA_rc]
  refine⟨.rc hn w1,?_⟩
  show Ty.rc (tyA (ptE x u b) (ar++[n])) = _
  rw [e1]; rfl
theorem usE_cnt {x:Nm} (hx:okN x) {e:E} (h:Wf e):∀ar,cntN x (tyA e ar) = if x∈ar then 0 else usE x e:=by
 induction h with
 | @atom s hs =>
  intro ar
  by_cases e:s = x
  ·subst e
   by_cases hm:s∈ar
   ·rw [if_pos hm]
    simp only [tyA]; rw [if_neg hx.2.1,if_neg hx.2.2]
    cases q:lastOf s ar ar.length with
    | none=>exact absurd hm ((lastOf_mem _ _).1 q)
    | some u=>rfl
   ·rw [if_neg hm,tyA_atom_name hx hm]; simp [cntN,usE]
  ·have:cntN x (tyA (.atom s) ar) = 0:=by
    simp only [tyA]
    split
    ·rfl
    ·split
     ·rfl
     ·split
      ·rfl
      ·simp [cntN,e]
   rw [this]; simp [usE,e]
 | plus ha hb i1 i2=>intro ar; rw [tyA_plus,usE_plus,cntN,i1,i2]; split<;>simp
 | times ha hb i1 i2=>intro ar; rw [tyA_times,usE_times,cntN,i1,i2]; split<;>simp
 | @rc n b hn hb i =>
  intro ar
  rw [tyA_rc,usE_rc,cntN,i]
  simp only [at_atom',List.mem_append,List.mem_singleton]
  by_cases h1:x∈ar
  ·simp [h1]
  ·by_cases h2:x = n
   ·simp [h2]
   ·simp [h1,h2,Ne.symm h2]
theorem sub_atoms_eq (x:Nm) (u:Ty):∀t:Ty,(sub x u t).atoms+cntN x t = t.atoms+cntN x t*u.atoms
 | .name s=>by simp only [sub,cntN]; split<;>simp [Ty.atoms]; omega
 | .plus a b=>by have:=sub_atoms_eq x u a; have:=sub_atoms_eq x u b; simp only [sub,Ty.atoms,cntN,Nat.add_mul]; omega
 | .times a b=>by have:=sub_atoms_eq x u a; have:=sub_atoms_eq x u b; simp only [sub,Ty.atoms,cntN,Nat.add_mul]; omega
 | .rc a=>by have:=sub_atoms_eq x u a; simp only [sub,Ty.atoms,cntN]; omega
 | .zero=>by simp [sub,cntN]
 | .one=>by simp [sub,cntN]
 | .bound k=>by simp [sub,cntN]
abbrev tN (m:Nat):Nm:=116::dd m
theorem dd_ne (m:Nat):dd m≠[]:=by
 by_cases h:m < 10
 ·rw [dd_one h]; simp
 ·rw [dd_more h]; simp
theorem dd_inj:∀(n m k:Nat),m < n->dd m = dd k->m = k
 | 0,m,k,h,_=>by omega
 | n+1,m,k,h,e=>by
  have d10:∀{a b:Nat},a < 10->b < 10->UInt8.ofNat (48+a) = UInt8.ofNat (48+b)->a = b:=fun {a b} ha hb h=>by
   have:=congrArg UInt8.toNat h
   simp only [UInt8.toNat_ofNat'] at this
   omega
  by_cases h1:m < 10<;>by_cases h2:k < 10
  ·rw [dd_one h1,dd_one h2] at e
   simp only [List.cons.injEq,and_true] at e
   exact d10 h1 h2 e
  ·rw [dd_one h1,dd_more h2] at e
   have:=congrArg List.length e
   have:dd (k / 10) = []:=by
    apply List.eq_nil_of_length_eq_zero
    simp at this; simpa using this
   exact absurd this (dd_ne _)
  ·rw [dd_more h1,dd_one h2] at e
   have:=congrArg List.length e
   have:dd (m / 10) = []:=by
    apply List.eq_nil_of_length_eq_zero
    simp at this; simpa using this
   exact absurd this (dd_ne _)
  ·rw [dd_more h1,dd_more h2] at e
   obtain⟨e1,e2⟩:=List.append_inj' e rfl
   have:=dd_inj n (m / 10) (k / 10) (by omega) e1
   simp only [List.cons.injEq,and_true] at e2
   have:=d10 (Nat.mod_lt _ (by omega)) (Nat.mod_lt _ (by omega)) e2
   omega
theorem tN_inj {m k:Nat} (h:tN m = tN k):m = k:=dd_inj (m+1) m k (by omega) (List.cons.inj h).2
theorem tN_ok (m:Nat):okN (tN m):=⟨by simp,by simp,by simp⟩
theorem pig:∀(l F:List Nm),l.Nodup->(∀x,x∈l->x∈F)->l.length<=F.length
 | [],_,_,_=>Nat.zero_le _
 | x::l,F,hn,hs=>by
  obtain⟨h1,h2⟩:=List.nodup_cons.1 hn
  have hx:=hs x List.mem_cons_self
  have:=pig l (F.erase x) h2 fun y hy=>(List.mem_erase_of_ne (fun e=>h1 (by rw [<-e]; exact hy))).2 (hs y (List.mem_cons_of_mem _ hy))
  rw [List.length_erase_of_mem hx] at this
  have:0 < F.length:=List.length_pos_of_mem hx
  simp only [List.length_cons]; omega
def nxt (F:List Nm):Nat->Nat->Nat
 | 0,k=>k
 | n+1,k=>if tN k∈F then nxt F n (k+1) else k
theorem nxt_spec (F:List Nm):∀(n k:Nat),k<=nxt F n k/\nxt F n k<=k+n/\(∀j,k<=j->j < nxt F n k->tN j∈F)/\(nxt F n k < k+n->tN (nxt F n k) ∉ F)
 | 0,k=>⟨Nat.le_refl _,Nat.le_refl _,fun j h1 h2=>by simp only [nxt] at h2; omega,fun h=>by simp only [nxt] at h; omega⟩
 | n+1,k=>by
  rw [nxt]
  split
  ·rename_i hm
   obtain⟨h1,h2,h3,h4⟩:=nxt_spec F n (k+1)
   refine⟨by omega,by omega,fun j hj hl=>?_,fun h=>h4 (by omega)⟩
   by_cases e:j = k
   ·subst e; exact hm
   ·exact h3 j (by omega) hl
  ·rename_i hm
   exact⟨Nat.le_refl _,by omega,fun j h1 h2=>by omega,fun _=>hm⟩
def nx (F:List Nm) (k:Nat):Nat:=nxt F (F.length+1) k
theorem nx_spec (F:List Nm) (k:Nat):k<=nx F k/\nx F k<=k+F.length/\(∀j,k<=j->j < nx F k->tN j∈F)/\tN (nx F k) ∉ F:=by
 obtain⟨h1,h2,h3,h4⟩:=nxt_spec F (F.length+1) k
 have hlt:nx F k < k+(F.length+1):=by
  rcases Nat.lt_or_ge (nx F k) (k+(F.length+1)) with h | h
  ·exact h
  ·exfalso
   have:=pig ((List.range' k (F.length+1)).map tN) F (by
    refine List.Pairwise.map _ (fun a b hab e=>hab (tN_inj e)) List.nodup_range') (fun x hx=>by
    obtain⟨j,hj,rfl⟩:=List.mem_map.1 hx
    obtain⟨i,hi,rfl⟩:=List.mem_range'.1 hj
    exact h3 _ (by omega) (by show _ < nx F k; omega))
   simp at this
   omega
 exact⟨h1,by unfold nx at hlt |-; omega,h3,h4 hlt⟩
theorem nx_congr {F F':List Nm} (h:∀y,y∈F↔y∈F') (k:Nat):nx F k = nx F' k:=by
 obtain⟨a1,a2,a3,a4⟩:=nx_spec F k
 obtain⟨b1,b2,b3,b4⟩:=nx_spec F' k
 rcases Nat.lt_trichotomy (nx F k) (nx F' k) with hl | he | hl
 ·exact absurd ((h _).2 (b3 _ a1 hl)) a4
 ·exact he
 ·exact absurd ((h _).1 (a3 _ b1 hl)) b4
def cnT (F:List Nm):Ty->List Nm->Nat->E×Nat
 | .zero,_,k=>(.atom [48],k)
 | .one,_,k=>(.atom [49],k)
 | .name s,_,k=>(.atom s,k)
 | .bound u,to,k=>(.atom (nmAt to u),k)
 | .plus a b,to,k=>(.list [.atom [43],(cnT F a to k).1,(cnT F b to (cnT F a to k).2).1],(cnT F b to (cnT F a to k).2).2)
 | .times a b,to,k=>(.list [.atom [42],(cnT F a to k).1,(cnT F b to (cnT F a to k).2).1],(cnT F b to (cnT F a to k).2).2)
 | .rc a,to,k=>(.list [.atom recN,.atom (tN (nx F k)),(cnT F a (to++[tN (nx F k)]) (nx F k+1)).1],(cnT F a (to++[tN (nx F k)]) (nx F k+1)).2)
theorem cnT_congr {F F':List Nm} (h:∀y,y∈F↔y∈F'):∀(t:Ty) (to:List Nm) (k:Nat),cnT F t to k = cnT F' t to k
 | .zero,_,_=>rfl
 | .one,_,_=>rfl
 | .name _,_,_=>rfl
 | .bound _,_,_=>rfl
 | .plus a b,to,k=>by simp only [cnT]; rw [cnT_congr h a,cnT_congr h b]
 | .times a b,to,k=>by simp only [cnT]; rw [cnT_congr h a,cnT_congr h b]
 | .rc a,to,k=>by simp only [cnT]; rw [nx_congr h,cnT_congr h a]
def lcT:Ty->Nat->Prop
 | .bound u,i=>u < i
 | .plus a b,i=>lcT a i/\lcT b i
 | .times a b,i=>lcT a i/\lcT b i
 | .rc a,i=>lcT a (i+1)
 | _,_=>True
theorem tyA_lc {e:E} (h:Wf e):∀ar,lcT (tyA e ar) ar.length:=by
 induction h with
 | @atom s hs =>
  intro ar
  simp only [tyA]
  split
  ·trivial
  ·split
   ·trivial
   ·split
    ·rename_i u q; exact(lastOf_at _ _ (Nat.le_refl _) q).1
    ·trivial
 | plus ha hb i1 i2=>intro ar; rw [tyA_plus]; exact⟨i1 ar,i2 ar⟩
 | times ha hb i1 i2=>intro ar; rw [tyA_times]; exact⟨i1 ar,i2 ar⟩
 | @rc n b hn hb i =>
  intro ar; rw [tyA_rc]
  have:=i (ar++[(E.atom n).at])
  rw [List.length_append] at this
  exact this
structure Gn (F to:List Nm) (k:Nat):Prop where
 out:∀w,w∈to->w ∉ F
 lt:∀w,w∈to->∃j,j < k/\w = tN j
 nd:to.Nodup
theorem Gn.nil (F:List Nm) (k:Nat):Gn F [] k:=⟨fun _ h=>(by cases h),fun _ h=>(by cases h),by simp⟩
theorem Gn.mono {F to:List Nm} {k k':Nat} (h:Gn F to k) (hk:k<=k'):Gn F to k':=⟨h.out,fun w hw=>by obtain⟨j,h1,h2⟩:=h.lt w hw; exact⟨j,by omega,h2⟩,h.nd⟩
theorem Gn.push {F to:List Nm} {k:Nat} (h:Gn F to k):Gn F (to++[tN (nx F k)]) (nx F k+1):=by
 obtain⟨h1,h2,h3,h4⟩:=nx_spec F k
 refine⟨fun w hw=>?_,fun w hw=>?_,?_⟩
 ·rcases List.mem_append.1 hw with hw | hw
  ·exact h.out w hw
  ·simp only [List.mem_singleton] at hw; rw [hw]; exact h4
 ·rcases List.mem_append.1 hw with hw | hw
  ·obtain⟨j,g1,g2⟩:=h.lt w hw; exact⟨j,by omega,g2⟩
  ·simp only [List.mem_singleton] at hw; exact⟨_,by omega,hw⟩
 ·refine List.nodup_append.2 ⟨h.nd,by simp,fun a ha b hb e=>?_⟩
  simp only [List.mem_singleton] at hb
  obtain⟨j,g1,g2⟩:=h.lt a ha
  rw [e,hb] at g2
  have:=tN_inj g2
  omega
theorem lastOf_nodup {to:List Nm} (hn:to.Nodup) {u:Nat} (hu:u < to.length):lastOf (nmAt to u) to to.length = some u:=by
 have hm:nmAt to u∈to:=by
  unfold nmAt
  have:to.length - 1 - u < to.length:=by omega
  simp [List.getD_eq_getElem?_getD,this]
 cases q:lastOf (nmAt to u) to to.length with
 | none=>exact absurd hm ((lastOf_mem _ _).1 q)
 | some v =>
  obtain⟨h1,h2⟩:=lastOf_at _ _ (Nat.le_refl _) q
  unfold nmAt at h2
  have e1:to.length - 1 - v < to.length:=by omega
  have e2:to.length - 1 - u < to.length:=by omega
  rw [List.getD_eq_getElem?_getD,List.getD_eq_getElem?_getD,List.getElem?_eq_getElem e1,List.getElem?_eq_getElem e2] at h2
  have hp:=List.pairwise_iff_getElem.1 hn
  have h3:to[to.length - 1 - v] = to[to.length - 1 - u]:=by simpa using h2
  rcases Nat.lt_trichotomy (to.length - 1 - v) (to.length - 1 - u) with hl | he | hl
  ·exact absurd h3 (hp _ _ e1 e2 hl)
  ·congr 1; omega
  ·exact absurd h3.symm (hp _ _ e2 e1 hl)
theorem cnT_ok (F:List Nm):∀(t:Ty) (to:List Nm) (k:Nat),Gn F to k->lcT t to.length->(∀y,hasN y t = true->y∈F/\okN y) ->
  Wf (cnT F t to k).1/\tyA (cnT F t to k).1 to = t/\k<=(cnT F t to k).2/\(cnT F t to k).2<=k+(F.length+1)*t.atoms/\apE (· ∉ F) (cnT F t to k).1
 | .zero,to,k,_,_,_=>⟨.atom (by simp),rfl,Nat.le_refl _,Nat.le_add_right _ _,trivial⟩
 | .one,to,k,_,_,_=>⟨.atom (by simp),rfl,Nat.le_refl _,Nat.le_add_right _ _,trivial⟩
 | .name s,to,k,g,hl,hn=>by
  obtain⟨h1,h2⟩:=hn s (by simp [hasN])
  exact⟨.atom h2.1,tyA_atom_name h2 (fun h=>g.out s h h1),Nat.le_refl _,Nat.le_add_right _ _,trivial⟩
 | .bound u,to,k,g,hl,hn=>by
  have hm:nmAt to u∈to:=by
   unfold nmAt
   have:to.length - 1 - u < to.length:=by have:u < to.length:=hl; omega
   simp [List.getD_eq_getElem?_getD,this]
  obtain⟨j,_,e⟩:=g.lt _ hm
  have hok:okN (nmAt to u):=by rw [e]; exact tN_ok j
  refine⟨.atom hok.1,?_,Nat.le_refl _,Nat.le_add_right _ _,trivial⟩
  simp only [cnT,tyA]
  rw [if_neg hok.2.1,if_neg hok.2.2,lastOf_nodup g.nd hl]
 | .plus a b,to,k,g,hl,hn=>by
  obtain⟨a1,a2,a3,a4,a5⟩:=cnT_ok F a to k g hl.1 fun y hy=>hn y (by simp [hasN,hy])
  obtain⟨b1,b2,b3,b4,b5⟩:=cnT_ok F b to _ (g.mono a3) hl.2 fun y hy=>hn y (by simp [hasN,hy])
  simp only [cnT,tyA_plus,a2,b2,apE_plus,Ty.atoms]
  refine⟨.plus a1 b1,trivial,by omega,?_,a5,b5⟩
  have:(F.length+1)*(1+a.atoms+b.atoms) = (F.length+1)+(F.length+1)*a.atoms+(F.length+1)*b.atoms:=by simp only [Nat.mul_add,Nat.mul_one]
  omega
 | .times a b,to,k,g,hl,hn=>by
  obtain⟨a1,a2,a3,a4,a5⟩:=cnT_ok F a to k g hl.1 fun y hy=>hn y (by simp [hasN,hy])
  obtain⟨b1,b2,b3,b4,b5⟩:=cnT_ok F b to _ (g.mono a3) hl.2 fun y hy=>hn y (by simp [hasN,hy])
  simp only [cnT,tyA_times,a2,b2,apE_times,Ty.atoms]
  refine⟨.times a1 b1,trivial,by omega,?_,a5,b5⟩
  have:(F.length+1)*(1+a.atoms+b.atoms) = (F.length+1)+(F.length+1)*a.atoms+(F.length+1)*b.atoms:=by simp only [Nat.mul_add,Nat.mul_one]
  omega
 | .rc a,to,k,g,hl,hn=>by
  obtain⟨h1,h2,h3,h4⟩:=nx_spec F k
  obtain⟨a1,a2,a3,a4,a5⟩:=cnT_ok F a (to++[tN (nx F k)]) (nx F k+1) g.push (by rw [List.length_append]; exact hl) hn
  simp only [cnT,tyA_rc,at_atom',a2,apE_rc,Ty.atoms]
  refine⟨.rc (tN_ok _) a1,trivial,by omega,?_,h4,a5⟩
  have:(F.length+1)*(2+a.atoms) = (F.length+1)*2+(F.length+1)*a.atoms:=by simp only [Nat.mul_add]
  omega
end Go.Proofs.Trees
namespace Go.Proofs.Trees
open Go Go.VL Go.RowKit
inductive EnvA:AV->List Nat->Prop
 | nil:EnvA nilp []
 | cons {m:Nat} {cs:List AV} {e:AV} {ids:List Nat} (hm:m ∉ ids) (h:EnvA e ids):EnvA (.ptr [.pid m cs,e]) (m::ids)
theorem EnvA.has {a:AV} {ids:List Nat} (h:EnvA a ids):LK.has .ptr a:=by
 cases h
 ·exact(has_nil).mpr trivial
 ·exact(has_ptr _).mpr trivial
theorem EnvA.inM {M:Mem} {a:AV} {ids:List Nat} (h:EnvA a ids):∀{v:Value},Rep M noLo a v->∀b,b∈ids->M.p b:=by
 induction h with
 | nil=>intro v _ b hb; cases hb
 | @cons m cs e ids hm h ih =>
  intro v hr b hb
  cases hr with
  | ptr _ _ _ off us hc hr =>
   have h0:=hr 0 (by simp)
   have h1:=hr 1 (by simp)
   simp only [List.getD_cons_zero,List.getD_cons_succ] at h0 h1
   rcases List.mem_cons.1 hb with rfl | hb
   ·generalize us 0 = u0 at h0
    cases h0 with
    | pid _ _ _ us hp _ _=>exact hp
   ·exact ih h1 b hb
theorem EnvA.nodup {a:AV} {ids:List Nat} (h:EnvA a ids):ids.Nodup:=by
 induction h with
 | nil=>simp
 | cons hm h ih=>exact List.nodup_cons.2 ⟨hm,ih⟩
theorem TI_inside (a b:AV) (S:Nat->Prop) (R:AV->Prop):mainI tab cfg fd_impl_closure_inside (bodyOf fd_impl_closure_inside) [.agg [.x a,.x b]] S (fun o=>Nat.beq o 7) R =
  .need (LK.has .ptr a/\a.isNil = false) (.need (LK.has .ptr a/\a.isNil = false) (.need (LK.has .ptr ((a.deref.drop 3).headD .any)/\1<=(a.deref.drop 3).length)
   (.need (∀ids:Nat->Nat,(∀o,¬ S (ids o))->(True/\R (.tup [.agg [(a.deref.drop 3).headD .any,.ptr [.pid (ids 7) [a,b],b]],.pid (ids 7) [a,b]]))) (.done 0 [] [])))):=by kernel_rfl
def InR (t:Ty) (ea:AV) (ids:List Nat):AV->List Ob->Prop:=fun r o=>(∃m,m ∉ ids/\r = .tup [.agg [t.av,.ptr [.pid m [(Ty.rc t).av,ea],ea]],.pid m [(Ty.rc t).av,ea]])/\o = []
theorem InR.ne (t:Ty) (ea:AV) (ids:List Nat):∃r o,InR t ea ids r o:=by
 have:∃m,m ∉ ids:=⟨ids.foldr max 0+1,fun h=>by
  have key:∀(l:List Nat) (x:Nat),x∈l->x<=l.foldr max 0:=by
   intro l
   induction l with
   | nil=>intro x hx; cases hx
   | cons y l ih =>
    intro x hx
    rcases List.mem_cons.1 hx with rfl | hx
    ·simp only [List.foldr_cons]; omega
    ·have:=ih x hx; simp only [List.foldr_cons]; omega
  have:=key _ _ h
  omega⟩
 obtain⟨m,hm⟩:=this
 exact⟨_,_,⟨m,hm,rfl⟩,rfl⟩
theorem Sq2k (t:Ty) (ea:AV) (ids:List Nat) (he:EnvA ea ids):FSpec Tryz.prog 55 [.agg [(Ty.rc t).av,ea]] [] (InR t ea ids):=by
 have hup:UpL [.agg [(Ty.rc t).av,ea]] [.agg [.x (Ty.rc t).av,.x ea]]:=up_cons (up_agg (up_cons (up_ptr ((ty_has _).mpr trivial)) (up_cons (up_ptr he.has) up_nil))) up_nil
 refine FSpec.up hup ?_
 refine FSpec.ofI (cfg:=cfg) (F:=fd_impl_closure_inside) (S:=fun b=>b∈ids) (sel:=fun o=>Nat.beq o 7) tab_ok mixed (by kernel_rfl) (by kernel_rfl) (c:=bodyOf fd_impl_closure_inside) (by kernel_rfl) (by kernel_rfl) (fun M β vs hr b hb=>?_) ?_
 ·have h0:=hr 0 (by simp)
  simp only [List.getD_cons_zero] at h0
  obtain⟨us,_,hl,hq,_⟩:=rep_agg h0
  have h1:=hq 1 (by simp at hl |-)
  simp only [List.getD_cons_succ,List.getD_cons_zero] at h1
  cases h1 with
  | x _ _ _ _ h=>exact he.inM h b hb
 ·rw [TI_inside]
  simp only [Ty.av,↓zq,zs,hasK,ty_has]
  exact⟨by omega,fun ids' hf=>⟨ids' 7,hf 7,rfl⟩⟩
inductive TgA:Tg->List Nat->List UInt8->AV->Prop
 | nm (s:List UInt8) (ids:List Nat):TgA (.nm s) ids s nilp
 | bd {k:Nat} {ids:List Nat} (hk:k < ids.length) (cs:List AV) (s:List UInt8):TgA (.bd k) ids s (.pid (ids.getD k 0) cs)
theorem TgA.has {tg:Tg} {ids:List Nat} {s:List UInt8} {fr:AV} (h:TgA tg ids s fr):LK.has .ptr fr:=by
 cases h
 ·exact(has_nil).mpr trivial
 ·exact .inr (.inr ⟨_,_,rfl⟩)
theorem TgA.push {tg:Tg} {ids:List Nat} {s:List UInt8} {fr:AV} (h:TgA tg ids s fr) (m:Nat):TgA tg.up (m::ids) s fr:=by
 cases h with
 | nm=>exact .nm _ _
 | @bd k _ hk cs =>
  have:=TgA.bd (k:=k+1) (ids:=m::ids) (by simpa using hk) cs s
  simpa [Tg.up] using this
end Go.Proofs.Trees
namespace Go.Proofs.Trees
open Go Go.VL Go.RowKit
theorem Sq7 (b:Int) (a:AV) (h:LK.ptr.has a):FSpec Tryz.prog 71 [.v (.int .u8 b),a] [] (Det (.ptr [.v (.int .u8 b),.v (.string (mk [])),a,nilp])):=by
 refine Fqgt _ _ h ?_
 simp [tq6w,↓zq,zs,hasK,Det]
end Go.Proofs.Trees
namespace Go.Proofs.Trees
open Go Go.VL Go.RowKit
theorem Sqf:∀(v:Vl),v.txt.length<=900000->FSpec Tryz.prog 38 [v.iav] [] (Det (.v (.string (mk v.txt))))
 | .u,h=>by refine Fq18 _ ((vl_has _).mpr trivial) ?_; simp [tqt,Vl.iav,↓zq,zs,hasK,Det,Vl.txt,Vl.toE,txE]
 | .el k,h=>by refine Fq18 _ ((vl_has _).mpr trivial) ?_; simp [tqt,Vl.iav,↓zq,zs,hasK,Det,Vl.txt,Vl.toE,txE]
 | .l v,h=>by
  simp only [Vl.txt,Vl.toE,txE,txEs,List.length_cons,List.length_append,List.length_nil] at h
  refine Fq18 _ ((vl_has _).mpr trivial) ?_
  have hb:(⟨(bytesOf [[.v (.int .u8 108)]]).toArray⟩:ByteArray) = mk [108]:=rfl
  have ha:allU8 [[.v (.int .u8 108)]]:=allU8_one 108
  simp only [tqt,Vl.iav,↓zq,zs,hasK,vl_has,vl_nil,hb]
  refine⟨by omega,fun h=>by omega,fun _=>⟨fun h=>by omega,fun _=>⟨fun h=>by omega,fun _=>⟨by omega,ha,by simp [size_mk],by rw [append_mk,size_mk,size_mk]; simp,by omega,?_⟩⟩⟩⟩
  refine wp_det (Sqf v (by simp only [Vl.txt]; omega)) ?_
  simp only [↓zq,zs,hasK,zt,Det,Vl.txt,Vl.toE,txE,txEs]
  refine⟨by simp; omega,by simp; omega,by simp⟩
 | .r v,h=>by
  simp only [Vl.txt,Vl.toE,txE,txEs,List.length_cons,List.length_append,List.length_nil] at h
  refine Fq18 _ ((vl_has _).mpr trivial) ?_
  have hb:(⟨(bytesOf [[.v (.int .u8 114)]]).toArray⟩:ByteArray) = mk [114]:=rfl
  have ha:allU8 [[.v (.int .u8 114)]]:=allU8_one 114
  simp only [tqt,Vl.iav,↓zq,zs,hasK,vl_has,vl_nil,hb]
  refine⟨by omega,fun h=>by omega,fun _=>⟨fun h=>by omega,fun _=>⟨fun h=>by omega,fun _=>⟨by omega,ha,by simp [size_mk],by rw [append_mk,size_mk,size_mk]; simp,by omega,?_⟩⟩⟩⟩
  refine wp_det (Sqf v (by simp only [Vl.txt]; omega)) ?_
  simp only [↓zq,zs,hasK,zt,Det,Vl.txt,Vl.toE,txE,txEs]
  refine⟨by simp; omega,by simp; omega,by simp⟩
 | .f v,h=>by
  simp only [Vl.txt,Vl.toE,txE,txEs,List.length_cons,List.length_append,List.length_nil] at h
  refine Fq18 _ ((vl_has _).mpr trivial) ?_
  have hb:(⟨(bytesOf [[.v (.int .u8 102)]]).toArray⟩:ByteArray) = mk [102]:=rfl
  have ha:allU8 [[.v (.int .u8 102)]]:=allU8_one 102
  simp only [tqt,Vl.iav,↓zq,zs,hasK,vl_has,vl_nil,hb]
  refine⟨by omega,fun h=>by omega,fun _=>⟨fun h=>by omega,fun _=>⟨fun h=>by omega,fun _=>⟨by omega,ha,by simp [size_mk],by rw [append_mk,size_mk,size_mk]; simp,by omega,?_⟩⟩⟩⟩
  refine wp_det (Sqf v (by simp only [Vl.txt]; omega)) ?_
  simp only [↓zq,zs,hasK,zt,Det,Vl.txt,Vl.toE,txE,txEs]
  refine⟨by simp; omega,by simp; omega,by simp⟩
 | .p a b,h=>by
  simp only [Vl.txt,Vl.toE,txE,txEs,List.length_cons,List.length_append,List.length_nil] at h
  refine Fq18 _ ((vl_has _).mpr trivial) ?_
  simp only [tqt,Vl.iav,↓zq,zs,hasK,vl_has,vl_nil]
  refine⟨by omega,fun h=>by omega,fun _=>⟨fun h=>by omega,fun _=>⟨fun _=>⟨by omega,?_⟩,fun h=>absurd rfl h⟩⟩⟩
  refine wp_det (Sqf a (by simp only [Vl.txt]; omega)) ?_
  simp only [↓zq,zs,hasK,zt,vl_has,Vl.txt]
  refine⟨by simp; omega,by simp; omega,by omega,?_⟩
  refine wp_det (Sqf b (by simp only [Vl.txt]; omega)) ?_
  simp only [↓zq,zs,hasK,zt,Det,Vl.txt,Vl.toE,txE,txEs]
  refine⟨by simp; omega,by simp; omega,by simp⟩
def optS:Option (List UInt8)->AV
 | some s=>.tup [.v (.string (mk s)),.v (.bool true)]
 | none=>.tup [.v (.string (mk [])),.v (.bool false)]
end Go.Proofs.Trees
namespace Go.Proofs.Trees
open Go Go.VL Go.RowKit
def back (n:Nat):Ty->Nat->Vl
 | .name _,c=>.el c
 | .plus a b,c=>match cnt n a with | some x=>if c < x then .l (back n a c) else .r (back n b (c - x)) | none=>.u
 | .times a b,c=>match cnt n b with | some y=>.p (back n a (c / y)) (back n b (c % y)) | none=>.u
 | _,_=>.u
theorem allLen2:∀l:List E,allLen 2 (E.scellss l)
 | []=>fun c hc=>by cases hc
 | e::l=>fun c hc=>by
  simp only [E.scellss,List.mem_cons] at hc
  rcases hc with rfl | hc
  ·exact sc_len e
  ·exact allLen2 l c hc
theorem Sqb8 (w:List UInt8) (l:List E) (hl:l.length < 1000000):FSpec Tryz.prog 74 [.v (.string (mk w)),.sl (E.scellss l)] [] (Det (E.sav (.list (.atom w::l)))):=by
 refine Fqa3 _ _ ((has_sl _).mpr trivial) ?_
 simp only [tq46,↓zq,zs,hasK,scellss_len,Det,E.sav,E.scells,E.scellss]
 exact⟨⟨allLen2 l,by omega⟩,rfl⟩
end Go.Proofs.Trees
namespace Go.Proofs.Trees
open Go Go.VL Go.RowKit
theorem sp_hasL (s:ByteArray) (e:E):hasL [.str,.sl] [.v (.string s),e.sp] 0 = True:=by simp [hasL,has_str,sp_has]
theorem Sq8 (w:List UInt8) (e:E):FSpec Tryz.prog 74 [.v (.string (mk w)),.sl [[.v (.string (mk e.at)),e.sp]]] [] (Det (.agg [.v (.string (mk [])),(E.list [.atom w,e]).sp])):=by
 have:=Sqb8 w [e] (by simp)
 simpa only [E.scellss,scells_sp,sav_sp,E.at] using this
theorem Sq6 (w:List UInt8) (e e':E):FSpec Tryz.prog 74 [.v (.string (mk w)),.sl [[.v (.string (mk e.at)),e.sp],[.v (.string (mk e'.at)),e'.sp]]] [] (Det (.agg [.v (.string (mk [])),(E.list [.atom w,e,e']).sp])):=by
 have:=Sqb8 w [e,e'] (by simp)
 simpa only [E.scellss,scells_sp,sav_sp,E.at] using this
def P3 (pv:AV) (a b:E):Prop:=LK.sl.has pv/\pv.elems.length = 3/\pv.elems.getD 1 [] = [.v (.string (mk a.at)),a.sp]/\pv.elems.getD 2 [] = [.v (.string (mk b.at)),b.sp]
theorem P3.of (x a b:E):P3 (E.list [x,a,b]).sp a b:=⟨by simp [E.sp,has_sl],by simp [E.sp,E.scellss,elems_sl],by simp [E.sp,E.scellss,elems_sl,scells_sp],by simp [E.sp,E.scellss,elems_sl,scells_sp]⟩
def P2 (pv:AV) (a:E):Prop:=LK.sl.has pv/\pv.elems.length = 2/\pv.elems.getD 1 [] = [.v (.string (mk a.at)),a.sp]
theorem P2.of (x a:E):P2 (E.list [x,a]).sp a:=⟨by simp [E.sp,has_sl],by simp [E.sp,E.scellss,elems_sl],by simp [E.sp,E.scellss,elems_sl,scells_sp]⟩
end Go.Proofs.Trees
namespace Go.Proofs.Trees
open Go Go.VL
mutual
def E.pr:E->Prop
 | .atom s=>s≠[]/\s.all isA = true
 | .list l=>l≠[]/\E.prs l
def E.prs:List E->Prop
 | []=>True
 | e::l=>e.pr/\E.prs l
end
mutual
def E.dp:E->Nat
 | .atom _=>0
 | .list l=>1+E.dps l
def E.dps:List E->Nat
 | []=>0
 | e::l=>max e.dp (E.dps l)
end
def stp (r:List UInt8):Prop:=∀c t,r = c::t->isA c = false
theorem stp_nil:stp []:=by intro c t h; cases h
theorem tw_app {s r:List UInt8} (hs:s.all isA = true) (hr:stp r):(s++r).takeWhile isA = s/\(s++r).dropWhile isA = r:=by
 induction s with
 | nil =>
  cases r with
  | nil=>exact⟨rfl,rfl⟩
  | cons c t=>have:=hr c t rfl; simp [List.takeWhile,List.dropWhile,this]
 | cons c s ih =>
  simp only [List.all_cons,Bool.and_eq_true] at hs
  have:=ih hs.2
  simp [List.takeWhile,List.dropWhile,hs.1,this.1,this.2]
theorem stp_txEs (l:List E) (r:List UInt8):stp (txEs l++41::r):=by
 intro c t h
 cases l with
 | nil=>simp only [txEs,List.nil_append,List.cons.injEq] at h; rw [<-h.1]; decide
 | cons e l=>simp only [txEs,List.cons_append,List.cons.injEq] at h; rw [<-h.1]; decide
theorem rdL_tx {f:List UInt8->Option (E×List UInt8)} (r:List UInt8):∀(l:List E) (e:E) (acc:List E) (n:Nat),l.length < n->(∀x,x = e\/x∈l->∀r,stp r->f (txE x++r) = some (x,r)) ->
  rdL f n (txE e++(txEs l++41::r)) acc = some (.list (acc++e::l),r)
 | l,e,acc,0,hn,hf=>by omega
 | [],e,acc,n+1,hn,hf=>by
  simp only [rdL]
  rw [hf e (.inl rfl) _ (stp_txEs [] r)]
  simp [txEs]
 | x::l,e,acc,n+1,hn,hf=>by
  simp only [rdL]
  rw [hf e (.inl rfl) _ (stp_txEs (x::l) r)]
  simp only [List.length_cons] at hn
  have ih:=rdL_tx r l x (acc++[e]) n (by omega) (fun y hy=>hf y (.inr (by cases hy with | inl h=>rw [h]; exact List.mem_cons_self | inr h=>exact List.mem_cons_of_mem _ h)))
  simp only [List.append_assoc,List.cons_append,List.nil_append] at ih
  simp only [txEs,List.cons_append,List.append_assoc]
  simp [ih]
theorem prs_mem {l:List E} {k:Nat}:E.prs l->E.dps l<=k->∀x,x∈l->x.pr/\x.dp<=k:=by
 induction l with
 | nil=>intro _ _ x h; cases h
 | cons e l ih =>
  intro h hd x hx
  simp only [E.prs,E.dps] at h hd
  cases hx with
  | head=>exact⟨h.1,by omega⟩
  | tail _ hx=>exact ih h.2 (by omega) x hx
theorem rd_tx:∀(k:Nat) (e:E) (r:List UInt8),e.pr->e.dp<=k->stp r->rd k (txE e++r) = some (e,r)
 | 0,.atom s,r,hp,hd,hr=>by
  have h:=tw_app hp.2 hr
  simp only [txE,rd,h.1,h.2,hp.1,if_false]
 | k+1,.atom s,r,hp,hd,hr=>by
  have h:=tw_app hp.2 hr
  simp only [txE,rd,h.1,h.2,hp.1,if_false]
 | 0,.list l,r,hp,hd,hr=>by simp only [E.dp] at hd; omega
 | k+1,.list [],r,hp,hd,hr=>by exact absurd rfl hp.1
 | k+1,.list (e::l),r,hp,hd,hr=>by
  have hs:isA 40 = false:=by decide
  simp only [E.dp,E.pr] at hd hp
  have hm:=prs_mem (k:=k) hp.2 (by omega)
  have:=rdL_tx (f:=rd k) r l e [] ((txE e++(txEs l++41::r)).length+1) (by have:=txEs_len l; simp only [List.length_append,List.length_cons]; omega)
   (fun x hx r hr=>rd_tx k x r (hm x (by cases hx with | inl h=>rw [h]; exact List.mem_cons_self | inr h=>exact List.mem_cons_of_mem _ h)).1 (hm x (by cases hx with | inl h=>rw [h]; exact List.mem_cons_self | inr h=>exact List.mem_cons_of_mem _ h)).2 hr)
  simp only [txE,List.cons_append,List.append_assoc,List.nil_append] at *
  simp only [rd,List.takeWhile,hs,if_true]
  simpa using this
theorem tx_inj {e e':E} (h:e.pr) (h':e'.pr) (ht:txE e = txE e'):e = e':=by
 have a:=rd_tx (max e.dp e'.dp) e [] h (by omega) stp_nil
 have b:=rd_tx (max e.dp e'.dp) e' [] h' (by omega) stp_nil
 rw [ht,b] at a; cases a; rfl
theorem rdT_tx {e:E} (h:e.pr) (hd:e.dp<=300) (hl:(txE e).length<=8000):rdT (txE e) = some e:=by
 have:=rd_tx 300 e [] h hd stp_nil
 rw [List.append_nil] at this
 rw [rdT,this]; simp; omega
theorem tw_all (s : List UInt8) : (s.takeWhile isA).all isA = true := by
  induction s with
  | nil => rfl
  | cons c s ih => cases h : isA c
                   · simp [List.takeWhile, h]
                   · simp only [List.takeWhile, h, List.all_cons, ih]; rfl
theorem prs_app (l r:List E):E.prs (l++r)↔E.prs l/\E.prs r:=by
 induction l with
 | nil=>simp [E.prs]
 | cons e l ih=>simp [E.prs,ih,and_assoc]
theorem dps_app (l r:List E):E.dps (l++r) = max (E.dps l) (E.dps r):=by
 induction l with
 | nil=>simp [E.dps]
 | cons e l ih=>simp [E.dps,ih,Nat.max_assoc]
theorem rdL_was {k:Nat} {f:List UInt8->Option (E×List UInt8)} (hf:∀s e r,f s = some (e,r)->s = txE e++r/\e.pr/\e.dp<=k):∀(n:Nat) (s:List UInt8) (acc:List E) (e:E) (r:List UInt8),rdL f n s acc = some (e,r)->E.prs acc->E.dps acc<=k ->
  ∃l,e = .list (acc++l)/\l≠[]/\32::s = txEs l++41::r/\E.prs l/\E.dps l<=k
 | 0,s,acc,e,r,h,hp,hd=>by cases h
 | n+1,s,acc,e,r,h,hp,hd=>by
  simp only [rdL] at h
  split at h
  ·rename_i p c r' hs
   obtain⟨h1,h2,h3⟩:=hf _ _ _ hs
   split at h
   ·rename_i hc
    have hc:c = 41:=UInt8.toNat_inj.mp hc
    cases h
    exact⟨[p],rfl,by simp,by simp [txEs,h1,hc],⟨h2,trivial⟩,by simp [E.dps]; omega⟩
   ·split at h
    ·rename_i hc
     have hc:c = 32:=UInt8.toNat_inj.mp hc
     obtain⟨l,g1,g2,g3,g4,g5⟩:=rdL_was hf n _ _ _ _ h ((prs_app _ _).mpr ⟨hp,h2,trivial⟩) (by rw [dps_app]; simp [E.dps]; omega)
     refine⟨p::l,by simpa using g1,by simp,?_,⟨h2,g4⟩,by simp only [E.dps]; omega⟩
     rw [h1,hc,g3]; simp [txEs]
    ·cases h
  ·cases h
theorem rd_was:∀(k:Nat) (s:List UInt8) (e:E) (r:List UInt8),rd k s = some (e,r)->s = txE e++r/\e.pr/\e.dp<=k
 | 0,s,e,r,h=>by
  simp only [rd] at h
  split at h
  ·cases h
  ·rename_i hs; cases h
   exact⟨(List.takeWhile_append_dropWhile).symm,⟨hs,tw_all s⟩,Nat.le_refl _⟩
 | k+1,s,e,r,h=>by
  simp only [rd] at h
  split at h
  ·split at h
   ·rename_i c r' _
    split at h
    ·rename_i hc
     have hc:c = 40:=UInt8.toNat_inj.mp hc
     obtain⟨l,g1,g2,g3,g4,g5⟩:=rdL_was (k:=k) (fun s e r h=>rd_was k s e r h) _ _ _ _ _ h trivial (Nat.zero_le _)
     simp only [List.nil_append] at g1
     subst g1; subst hc
     refine⟨?_,⟨g2,g4⟩,by simp only [E.dp]; omega⟩
     cases l with
     | nil=>exact absurd rfl g2
     | cons x l =>
      simp only [txEs,List.cons_append,List.append_assoc,List.cons.injEq,true_and] at g3
      rw [g3]; simp [txE]
    ·cases h
   ·cases h
  ·rename_i hs; cases h
   exact⟨(List.takeWhile_append_dropWhile).symm,⟨hs,tw_all s⟩,by simp [E.dp]⟩
theorem rdT_was {s:List UInt8} {e:E} (h:rdT s = some e):s = txE e/\e.pr/\e.dp<=300/\s.length<=8000:=by
 unfold rdT at h
 split at h
 ·cases h
 ·rename_i hl
  split at h
  ·rename_i e' hr
   cases h
   have:=rd_was _ _ _ _ hr
   exact⟨by simpa using this.1,this.2.1,this.2.2,by omega⟩
  ·cases h
theorem isA_dg {k:Nat} (h:k < 10):isA (UInt8.ofNat (48+k)) = true:=by
 have:∀k:Fin 10,isA (UInt8.ofNat (48+k.val)) = true:=by decide
 exact this ⟨k,h⟩
theorem dd_isA:∀(n k:Nat),k < n->(dd k).all isA = true
 | 0,k,h=>by omega
 | n+1,k,h=>by
  by_cases hk:k < 10
  ·rw [dd_one hk,List.all_cons,isA_dg hk]; rfl
  ·rw [dd_more hk]
   have:=dd_isA n (k / 10) (by omega)
   rw [List.all_append,this,List.all_cons,isA_dg (Nat.mod_lt k (by omega:0 < 10))]; rfl
theorem elS_pr (k:Nat):(E.atom (elS k)).pr:=⟨by simp,by have:=dd_isA (k+1) k (by omega); simp only [elS,List.all_cons,this]; decide⟩
theorem toE_pr:∀v:Vl,v.toE.pr
 | .u=>⟨by simp,by decide⟩
 | .el k=>elS_pr k
 | .l v=>⟨by simp,⟨by simp,by decide⟩,toE_pr v,trivial⟩
 | .r v=>⟨by simp,⟨by simp,by decide⟩,toE_pr v,trivial⟩
 | .f v=>⟨by simp,⟨by simp,by decide⟩,toE_pr v,trivial⟩
 | .p a b=>⟨by simp,⟨by simp,by decide⟩,toE_pr a,toE_pr b,trivial⟩
theorem toE_dp:∀v:Vl,v.toE.dp < v.nodes+1
 | .u=>by simp [Vl.toE,E.dp,Vl.nodes]
 | .el k=>by simp [Vl.toE,E.dp,Vl.nodes]
 | .l v=>by have:=toE_dp v; simp only [Vl.toE,E.dp,E.dps,Vl.nodes] at *; omega
 | .r v=>by have:=toE_dp v; simp only [Vl.toE,E.dp,E.dps,Vl.nodes] at *; omega
 | .f v=>by have:=toE_dp v; simp only [Vl.toE,E.dp,E.dps,Vl.nodes] at *; omega
 | .p a b=>by have:=toE_dp a; have:=toE_dp b; simp only [Vl.toE,E.dp,E.dps,Vl.nodes] at *; omega
theorem dd_len2 (k:Nat) (h:k < 100):(dd k).length<=2:=by
 by_cases hk:k < 10
 ·rw [dd_one hk]; simp
 ·rw [dd_more hk,dd_one (by omega:k / 10 < 10)]; simp
theorem txt_len5:∀v:Vl,v.bel 100->v.txt.length<=5*v.nodes
 | .u,_=>by simp [Vl.txt,Vl.toE,txE,Vl.nodes]
 | .el k,h=>by
  have:=dd_len2 k h
  simp only [Vl.txt,Vl.toE,txE,Vl.nodes,List.length_cons]; omega
 | .l v,h=>by have:=txt_len5 v h; simp only [Vl.txt,Vl.toE,txE,txEs,Vl.nodes,List.length_cons,List.length_append,List.length_nil] at this |-; omega
 | .r v,h=>by have:=txt_len5 v h; simp only [Vl.txt,Vl.toE,txE,txEs,Vl.nodes,List.length_cons,List.length_append,List.length_nil] at this |-; omega
 | .f v,h=>by have:=txt_len5 v h; simp only [Vl.txt,Vl.toE,txE,txEs,Vl.nodes,List.length_cons,List.length_append,List.length_nil] at this |-; omega
 | .p a b,h=>by have:=txt_len5 a h.1; have:=txt_len5 b h.2; simp only [Vl.txt,Vl.toE,txE,txEs,Vl.nodes,List.length_cons,List.length_append,List.length_nil] at *; omega
theorem elS_ne (k:Nat):elS k≠[117]:=by simp [elS]
theorem vlOf_of:∀v:Vl,v.bel 100->vlOf v.toE = some v
 | .u,_=>by simp [Vl.toE,vlOf]
 | .el k,h=>by simp only [Vl.toE,vlOf,elS_ne,if_false,elNum_of k h]
 | .l v,h=>by simp only [Vl.toE,vlOf,vlOf_of v h,E.at]; simp
 | .r v,h=>by simp only [Vl.toE,vlOf,vlOf_of v h,E.at]; simp
 | .f v,h=>by simp only [Vl.toE,vlOf,vlOf_of v h,E.at]; simp
 | .p a b,h=>by simp only [Vl.toE,vlOf,vlOf_of a h.1,vlOf_of b h.2,E.at]; simp
theorem rdV_txt {v:Vl} (h:v.bel 100) (hn:v.nodes<=200):rdV v.txt = some v:=by
 have hd:=toE_dp v
 have hl:=txt_len5 v h
 rw [rdV,rdT_tx (toE_pr v) (by omega) (by show v.txt.length<=8000; omega)]
 simp only [vlOf_of v h]
 rw [if_neg (by omega)]
theorem txt_inj {v w:Vl} (h:v.bel 100) (h':w.bel 100) (ht:v.txt = w.txt):v = w:=by
 have:=tx_inj (toE_pr v) (toE_pr w) ht
 have a:=vlOf_of v h
 rw [this,vlOf_of w h'] at a; cases a; rfl
theorem rdV_was {s:List UInt8} {v:Vl} (h:rdV s = some v):s = v.txt:=(rdT_was (rdV_ok h).1).1
end Go.Proofs.Trees
namespace Go.Proofs.Trees
open Go Go.VL Go.RowKit
theorem at_list (l:List E):(E.list l).at = []:=rfl
def plug:Ty->Vl->Vl->Vl
 | .plus a _,.l c,v=>.l (plug a c v)
 | .plus _ b,.r c,v=>.r (plug b c v)
 | .times a _,.l (.p x y),v=>.p (plug a x v) y
 | .times _ b,.r (.p x y),v=>.p x (plug b y v)
 | .rc a,.f (.l x),v=>.f (plug a x v)
 | .rc a,.f (.r (.p x y)),v=>.f (plug a x (plug (.rc a) y v))
 | _,_,v=>v
def ctxOk:Ty->Vl->Bool
 | .plus a _,.l c=>ctxOk a c
 | .plus _ b,.r c=>ctxOk b c
 | .times a _,.l (.p x _)=>ctxOk a x
 | .times _ b,.r (.p _ y)=>ctxOk b y
 | .rc a,.f (.l x)=>ctxOk a x
 | .rc a,.f (.r (.p x y))=>ctxOk a x&&ctxOk (.rc a) y
 | .plus _ _,_=>false
 | .times _ _,_=>false
 | .rc _,_=>false
 | _,_=>true
theorem plug_zero (c v:Vl):plug .zero c v = v:=by cases c<;>rfl
theorem plug_one (c v:Vl):plug .one c v = v:=by cases c<;>rfl
theorem plug_name (s:List UInt8) (c v:Vl):plug (.name s) c v = v:=by cases c<;>rfl
theorem plug_bound (u:Nat) (c v:Vl):plug (.bound u) c v = v:=by cases c<;>rfl
theorem ctx_plus {a b:Ty} {c:Vl} (h:ctxOk (.plus a b) c = true):(∃x,c = .l x/\ctxOk a x = true)\/∃x,c = .r x/\ctxOk b x = true:=by
 cases c<;>simp [ctxOk] at h<;>simp [h]
theorem ctx_times {a b:Ty} {c:Vl} (h:ctxOk (.times a b) c = true):(∃x y,c = .l (.p x y)/\ctxOk a x = true)\/∃x y,c = .r (.p x y)/\ctxOk b y = true:=by
 cases c with
 | l c=>cases c<;>simp [ctxOk] at h<;>simp [h]
 | r c=>cases c<;>simp [ctxOk] at h<;>exact .inr ⟨_,_,rfl,h⟩
 | _=>simp [ctxOk] at h
theorem ctx_rc {a:Ty} {c:Vl} (h:ctxOk (.rc a) c = true):(∃x,c = .f (.l x)/\ctxOk a x = true)\/∃x y,c = .f (.r (.p x y))/\ctxOk a x = true/\ctxOk (.rc a) y = true:=by
 cases c with
 | f c =>
  cases c with
  | l c=>simp [ctxOk] at h; simp [h]
  | r c=>cases c<;>simp [ctxOk] at h<;>exact .inr ⟨_,_,rfl,h⟩
  | _=>simp [ctxOk] at h
 | _=>simp [ctxOk] at h
theorem plug_nodes (t:Ty) (c v:Vl):(plug t c v).nodes<=c.nodes+v.nodes:=by
 induction t,c,v using plug.induct<;>simp only [plug,Vl.nodes] at*<;> omega
theorem plug_bel (m:Nat) (t:Ty) (c v:Vl):c.bel m->v.bel m->(plug t c v).bel m:=by
 induction t,c,v using plug.induct with
 | case1 a b c v ih=>exact fun h h'=>ih h h'
 | case2 a b c v ih=>exact fun h h'=>ih h h'
 | case3 a b x y v ih=>exact fun h h'=>⟨ih h.1 h',h.2⟩
 | case4 a b x y v ih=>exact fun h h'=>⟨h.1,ih h.2 h'⟩
 | case5 a x v ih=>exact fun h h'=>ih h h'
 | case6 a x y v ih1 ih2=>exact fun h h'=>ih2 h.1 (ih1 h.2 h')
 | case7=>intro h h'; simpa only [plug] using h'
def hl0:Hl:=(.u,.u)
end Go.Proofs.Trees
namespace Go.Proofs.Trees
open Go Go.VL Go.RowKit
theorem Sq0 (s:Nm) (a b:E):FSpec Tryz.prog 65 [.agg [.v (.string (mk [])),(E.list [.atom s,a,b]).sp]] [] (Det (.v (.string (mk s)))):=Sq2 (.atom s) [a,b]
theorem Sq2c {e:E} (h:Wf e):∀(bd l:List Nm) (a:AV),StrsA a bd->bd.length+l.length+e.sz < 100000->FSpec Tryz.prog 109 [.agg [.v (.string (mk e.at)),e.sp],a,.vec 0] [.vec 1 (strsAV l)] (DetO (.vec 1) [.dead,.vec 1 (strsAV (fre e bd l))]):=by
 induction h with
 | @atom s hs =>
  intro bd l a ha hl
  simp only [E.sz] at hl
  refine Fq17 _ _ _ _ ((sp_has _).mpr trivial) ha.1 ?_
  have hll:(strsAV l).length = l.length:=by simp [strsAV]
  simp only [tq14,at_atom',↓zq,zs,hasK,zt,DetO,fre]
  refine⟨fun _=>⟨fun h=>?_,fun h=>⟨fun h1=>?_,fun h1=>?_⟩⟩,fun h=>absurd h hs⟩
  ·rw [if_pos (.inl h)]
  ·rw [if_pos (.inr (.inl h1))]
  ·refine wp_det (Sq16 bd a ha s (by omega)) ?_
   simp only [↓zq,zs,hasK]
   refine⟨fun h2=>?_,fun h2=>wp_det (Sq16 l _ (.of l) s (by omega)) ?_⟩
   ·rw [if_pos (.inr (.inr (.inl h2)))]
   ·simp only [↓zq,zs,hasK]
    refine⟨fun h3=>?_,fun h3=>⟨⟨fun c hc=>(by simp at hc; rw [hc]; rfl),by omega⟩,?_⟩⟩
    ·rw [if_pos (.inr (.inr (.inr h3)))]
    ·rw [Sqr,if_neg]
     rintro(q | q | q | q)
     ·exact h q
     ·exact h1 q
     ·exact h2 q
     ·exact h3 q
 | @plus x y hx hy i1 i2 =>
  intro bd l a ha hl
  simp only [E.sz,E.szs] at hl
  have hfl:=fre_len x bd l
  refine Fq17 _ _ _ _ ((sp_has _).mpr trivial) ha.1 ?_
  have hP:=P3.of (.atom [43]) x y
  simp only [tq14,at_list,toNat_one,toNat_two,↓zq,zs,hasK,zt,hP.1,hP.2.1,hP.2.2.1,hP.2.2.2,sp_hasL,DetO]
  refine⟨fun h=>absurd rfl h,fun _=>?_⟩
  refine wp_det (Sq0 [43] x y) ?_
  simp only [↓zq,zs,hasK,zt]
  refine⟨fun h=>by simp at h,fun _=>?_⟩
  repeat refine⟨by omega,?_⟩
  refine wp_detO (i1 bd l a ha (by omega)) ?_
  simp only [↓zq,zs,hasK,zt,List.headD_cons,List.tail_cons,Ob.es]
  repeat refine⟨by omega,?_⟩
  refine wp_detO (i2 bd (fre x bd l) a ha (by omega)) ?_
  simp only [↓zq,zs,hasK,zt,List.headD_cons,List.tail_cons,Ob.es]
  rw [fre,if_neg (by decide)]
 | @times x y hx hy i1 i2 =>
  intro bd l a ha hl
  simp only [E.sz,E.szs] at hl
  have hfl:=fre_len x bd l
  refine Fq17 _ _ _ _ ((sp_has _).mpr trivial) ha.1 ?_
  have hP:=P3.of (.atom [42]) x y
  simp only [tq14,at_list,toNat_one,toNat_two,↓zq,zs,hasK,zt,hP.1,hP.2.1,hP.2.2.1,hP.2.2.2,sp_hasL,DetO]
  refine⟨fun h=>absurd rfl h,fun _=>?_⟩
  refine wp_det (Sq0 [42] x y) ?_
  simp only [↓zq,zs,hasK,zt]
  refine⟨fun h=>by simp at h,fun _=>?_⟩
  repeat refine⟨by omega,?_⟩
  refine wp_detO (i1 bd l a ha (by omega)) ?_
  simp only [↓zq,zs,hasK,zt,List.headD_cons,List.tail_cons,Ob.es]
  repeat refine⟨by omega,?_⟩
  refine wp_detO (i2 bd (fre x bd l) a ha (by omega)) ?_
  simp only [↓zq,zs,hasK,zt,List.headD_cons,List.tail_cons,Ob.es]
  rw [fre,if_neg (by decide)]
 | @rc n y hn hy i =>
  intro bd l a ha hl
  simp only [E.sz,E.szs] at hl
  refine Fq17 _ _ _ _ ((sp_has _).mpr trivial) ha.1 ?_
  have hP:=P3.of (.atom recN) (.atom n) y
  simp only [tq14,at_list,toNat_one,toNat_two,↓zq,zs,hasK,zt,hP.1,hP.2.1,hP.2.2.1,hP.2.2.2,sp_hasL,DetO]
  refine⟨fun h=>absurd rfl h,fun _=>?_⟩
  refine wp_det (Sq0 recN (.atom n) y) ?_
  simp only [↓zq,zs,hasK,zt]
  refine⟨fun _=>?_,fun h=>absurd rfl h⟩
  repeat refine⟨by omega,?_⟩
  refine wp_det (Sq2i bd a ha n (by omega)) ?_
  simp only [↓zq,zs,hasK]
  refine wp_detO (i (bd++[n]) l _ (.of _) (by simp; omega)) ?_
  simp only [↓zq,zs,hasK,List.headD_cons,List.tail_cons,Ob.es]
  rw [fre,if_pos (at_atom' _)]; rfl
theorem Sqes (x:Nm) (u:E) {e:E} (h:Wf e):FSpec Tryz.prog 152 [.agg [.v (.string (mk e.at)),e.sp],.v (.string (mk x)),.agg [.v (.string (mk u.at)),u.sp]] [] (Det (.agg [.v (.string (mk (ptE x u e).at)),(ptE x u e).sp])):=by
 induction h with
 | @atom s hs =>
  refine Fq2m _ _ _ _ _ ((sp_has _).mpr trivial) ((sp_has _).mpr trivial) ?_
  simp only [tq1v,at_atom',↓zq,zs,hasK,zt,Det,ptE]
  refine⟨fun _=>⟨fun h=>?_,fun h=>?_⟩,fun h=>absurd h hs⟩
  ·rw [if_pos h]
  ·rw [if_neg h]; rfl
 | @plus a b ha hb i1 i2 =>
  refine Fq2m _ _ _ _ _ ((sp_has _).mpr trivial) ((sp_has _).mpr trivial) ?_
  have hP:=P3.of (.atom [43]) a b
  simp only [tq1v,at_list,toNat_one,toNat_two,↓zq,zs,hasK,zt,hP.1,hP.2.1,hP.2.2.1,hP.2.2.2,sp_hasL]
  refine⟨fun h=>absurd rfl h,fun _=>?_⟩
  refine wp_det (Sq0 [43] a b) ?_
  simp only [↓zq,zs,hasK,zt]
  refine⟨fun h=>by simp at h,fun _=>?_⟩
  refine wp_det (Sq0 [43] a b) ?_
  simp only [↓zq,zs,hasK,zt]
  repeat refine⟨by omega,?_⟩
  refine wp_det i1 ?_
  simp only [↓zq,zs,hasK,zt,sp_hasL]
  repeat refine⟨by omega,?_⟩
  refine wp_det i2 ?_
  simp only [↓zq,zs,hasK,zt,sp_hasL]
  repeat refine⟨by omega,?_⟩
  refine wp_det (Sq6 _ _ _) ?_
  simp only [↓zq,zs,hasK,zt,sp_hasL,ptE_plus,at_list]
  repeat refine⟨by omega,?_⟩
  exact⟨rfl,rfl⟩
 | @times a b ha hb i1 i2 =>
  refine Fq2m _ _ _ _ _ ((sp_has _).mpr trivial) ((sp_has _).mpr trivial) ?_
  have hP:=P3.of (.atom [42]) a b
  simp only [tq1v,at_list,toNat_one,toNat_two,↓zq,zs,hasK,zt,hP.1,hP.2.1,hP.2.2.1,hP.2.2.2,sp_hasL]
  refine⟨fun h=>absurd rfl h,fun _=>?_⟩
  refine wp_det (Sq0 [42] a b) ?_
  simp only [↓zq,zs,hasK,zt]
  refine⟨fun h=>by simp at h,fun _=>?_⟩
  refine wp_det (Sq0 [42] a b) ?_
  simp only [↓zq,zs,hasK,zt]
  repeat refine⟨by omega,?_⟩
  refine wp_det i1 ?_
  simp only [↓zq,zs,hasK,zt,sp_hasL]
  repeat refine⟨by omega,?_⟩
  refine wp_det i2 ?_
  simp only [↓zq,zs,hasK,zt,sp_hasL]
  repeat refine⟨by omega,?_⟩
  refine wp_det (Sq6 _ _ _) ?_
  simp only [↓zq,zs,hasK,zt,sp_hasL,ptE_times,at_list]
  repeat refine⟨by omega,?_⟩
  exact⟨rfl,rfl⟩
 | @rc n b hn hb i =>
  refine Fq2m _ _ _ _ _ ((sp_has _).mpr trivial) ((sp_has _).mpr trivial) ?_
  have hP:=P3.of (.atom recN) (.atom n) b
  simp only [tq1v,at_list,toNat_one,toNat_two,↓zq,zs,hasK,zt,hP.1,hP.2.1,hP.2.2.1,hP.2.2.2,sp_hasL]
  refine⟨fun h=>absurd rfl h,fun _=>?_⟩
  refine wp_det (Sq0 recN (.atom n) b) ?_
  simp only [↓zq,zs,hasK,zt]
  refine⟨fun _=>?_,fun h=>absurd rfl h⟩
  repeat refine⟨by omega,?_⟩
  rw [ptE_rc]
  refine⟨fun h=>?_,fun h=>?_⟩
  ·have hh:n = x:=h
   rw [if_pos hh]; exact⟨rfl,rfl⟩
  ·have hh:¬ n = x:=h
   rw [if_neg hh]
   repeat refine⟨by omega,?_⟩
   refine wp_det i ?_
   simp only [↓zq,zs,hasK,zt,sp_hasL]
   repeat refine⟨by omega,?_⟩
   refine wp_det (Sq6 recN (.atom n) (ptE x u b)) ?_
   simp only [↓zq,zs,hasK,zt,sp_hasL,at_list]
   repeat refine⟨by omega,?_⟩
   exact⟨rfl,rfl⟩
theorem usE_le (x:Nm) {e:E} (h:Wf e):usE x e<=e.ats:=by
 induction h with
 | atom hs=>simp only [usE,E.ats]; split<;>omega
 | plus ha hb i1 i2=>rw [usE_plus]; simp only [E.ats,E.atss]; omega
 | times ha hb i1 i2=>rw [usE_times]; simp only [E.ats,E.atss]; omega
 | rc hn hb i=>rw [usE_rc]; simp only [E.ats,E.atss]; split<;>omega
theorem Sqgq (x:Nm) {e:E} (h:Wf e):e.ats < 1000000->FSpec Tryz.prog 151 [.agg [.v (.string (mk e.at)),e.sp],.v (.string (mk x))] [] (Det (.v (.int .i64 (usE x e:Int)))):=by
 induction h with
 | @atom s hs =>
  intro hl
  refine Fq2j _ _ _ ((sp_has _).mpr trivial) ?_
  simp only [tq1s,at_atom',↓zq,zs,hasK,zt,Det,usE]
  refine⟨fun _=>⟨fun h=>?_,fun h=>?_⟩,fun h=>absurd h hs⟩
  ·rw [if_pos h]; rfl
  ·rw [if_neg h]; rfl
 | @plus a b ha hb i1 i2 =>
  intro hl
  simp only [E.ats,E.atss] at hl
  have u1:=usE_le x ha
  have u2:=usE_le x hb
  refine Fq2j _ _ _ ((sp_has _).mpr trivial) ?_
  have hP:=P3.of (.atom [43]) a b
  simp only [tq1s,at_list,toNat_one,toNat_two,↓zq,zs,hasK,zt,hP.1,hP.2.1,hP.2.2.1,hP.2.2.2,sp_hasL]
  refine⟨fun h=>absurd rfl h,fun _=>?_⟩
  refine wp_det (Sq0 [43] a b) ?_
  simp only [↓zq,zs,hasK,zt]
  refine⟨fun h=>by simp at h,fun _=>?_⟩
  repeat refine⟨by omega,?_⟩
  refine wp_det (i1 (by omega)) ?_
  simp only [↓zq,zs,hasK,zt]
  repeat refine⟨by omega,?_⟩
  refine wp_det (i2 (by omega)) ?_
  simp only [↓zq,zs,hasK,zt]
  rw [usE_plus,wrap64 _ (by omega) (by omega)]
  exact⟨by simp,rfl⟩
 | @times a b ha hb i1 i2 =>
  intro hl
  simp only [E.ats,E.atss] at hl
  have u1:=usE_le x ha
  have u2:=usE_le x hb
  refine Fq2j _ _ _ ((sp_has _).mpr trivial) ?_
  have hP:=P3.of (.atom [42]) a b
  simp only [tq1s,at_list,toNat_one,toNat_two,↓zq,zs,hasK,zt,hP.1,hP.2.1,hP.2.2.1,hP.2.2.2,sp_hasL]
  refine⟨fun h=>absurd rfl h,fun _=>?_⟩
  refine wp_det (Sq0 [42] a b) ?_
  simp only [↓zq,zs,hasK,zt]
  refine⟨fun h=>by simp at h,fun _=>?_⟩
  repeat refine⟨by omega,?_⟩
  refine wp_det (i1 (by omega)) ?_
  simp only [↓zq,zs,hasK,zt]
  repeat refine⟨by omega,?_⟩
  refine wp_det (i2 (by omega)) ?_
  simp only [↓zq,zs,hasK,zt]
  rw [usE_times,wrap64 _ (by omega) (by omega)]
  exact⟨by simp,rfl⟩
 | @rc n b hn hb i =>
  intro hl
  simp only [E.ats,E.atss] at hl
  refine Fq2j _ _ _ ((sp_has _).mpr trivial) ?_
  have hP:=P3.of (.atom recN) (.atom n) b
  simp only [tq1s,at_list,toNat_one,toNat_two,↓zq,zs,hasK,zt,hP.1,hP.2.1,hP.2.2.1,hP.2.2.2,sp_hasL]
  refine⟨fun h=>absurd rfl h,fun _=>?_⟩
  refine wp_det (Sq0 recN (.atom n) b) ?_
  simp only [↓zq,zs,hasK,zt]
  refine⟨fun _=>?_,fun h=>absurd rfl h⟩
  repeat refine⟨by omega,?_⟩
  rw [usE_rc]
  refine⟨fun h=>?_,fun h=>?_⟩
  ·have hh:n = x:=h
   rw [if_pos hh]; exact⟨rfl,rfl⟩
  ·have hh:¬ n = x:=h
   rw [if_neg hh]
   repeat refine⟨by omega,?_⟩
   refine wp_det (i (by omega)) ?_
   simp only [↓zq,zs,hasK,zt]
   exact⟨rfl,rfl⟩
theorem Sqef {x:Nm} (hx:okN x) {e u:E} (h:Wf e) (hu:Wf u) (hl:e.ats<=1000) (hlu:u.ats<=1000):FSpec Tryz.prog 130 [.agg [.v (.string (mk e.at)),e.sp],.v (.string (mk x)),.agg [.v (.string (mk u.at)),u.sp]] [] (Det (.v (.bool (decide ((sub x (tyA u []) (tyA e [])).atoms<=400))))):=by
 refine Fqdf _ _ _ _ _ ((sp_has _).mpr trivial) ((sp_has _).mpr trivial) ?_
 unfold tq95
 have a1:=Sq13 e h.ok (by have:=h.sz; omega)
 have a2:=Sq13 u hu.ok (by have:=hu.sz; omega)
 rw [sav_sp] at a1 a2
 have hle:=usE_le x h
 have hpos:1<=u.ats:=by rw [hu.ats []]; exact atoms_pos _
 refine wp_det a1 ?_
 simp only [↓zq,zs,hasK,zt]
 refine wp_det (Sqgq x h (by omega)) ?_
 simp only [↓zq,zs,hasK,zt]
 refine wp_det a2 ?_
 simp only [↓zq,zs,hasK,zt]
 have e1:=sub_atoms_eq x (tyA u []) (tyA e [])
 have e2:=usE_cnt hx h []
 rw [if_neg (by simp)] at e2
 rw [e2,<-h.ats [],<-hu.ats []] at e1
 have hm:usE x e*(u.ats - 1)<=1000*1000:=Nat.mul_le_mul (by omega) (by omega)
 have e3:(usE x e:Int)*((u.ats:Int) - 1) = ((usE x e*(u.ats - 1):Nat):Int):=by
  rw [Int.natCast_mul]; congr 1; omega
 have e4:usE x e*(u.ats - 1)+usE x e = usE x e*u.ats:=by
  rw [Nat.mul_sub,Nat.mul_one]
  have:=Nat.le_mul_of_pos_right (usE x e) hpos
  omega
 rw [wrap64 ((u.ats:Int) - 1) (by omega) (by omega),e3,wrap64 ((usE x e*(u.ats - 1):Nat):Int) (by omega) (by omega),wrap64 _ (by omega) (by omega)]
 refine⟨?_,rfl⟩
 congr 2
 rw [Bool.eq_iff_iff,decide_eq_true_eq,decide_eq_true_eq]
 omega
end Go.Proofs.Trees
namespace Go.Proofs.Trees
open Go Go.VL Go.RowKit
abbrev slz:AV:=.v (.slice none 0 0)
abbrev zE:Ob:=.cells [.v (.string (mk [])),slz]
theorem Lq8b (s:Nm) (p a b:AV) (hp:LK.sl.has p) (F fr to:List Nm) (k:Int) (ha:StrsA a fr) (hb:StrsA b to) (hft:fr.length = to.length) (hl:fr.length < 1000000):∀(i:Nat),i<=fr.length ->
  Lq4t [a,b,.v (.int .i64 ((i:Int) - 1))] [.cells [.v (.string (mk s)),p],zE,.cells [.any,.v (.int .i64 k)],.vec 1 (strsAV F)]
   (LBy (match lastOf s fr i with | some u=>(2,[],[.cells [.v (.string (mk (nmAt to u))),slz],.cells [.any,.v (.int .i64 k)],.vec 1 (strsAV F)]) | none=>(1,[],[.cells [.v (.string (mk s)),p],zE,.cells [.any,.v (.int .i64 k)],.vec 1 (strsAV F)])))
 | 0,hi=>by
  refine Gq7u _ _ _ _ _ _ _ _ _ ?_
  simp only [rq5g,↓zq,zs,hasK,hasK,hp,has_slnil]
  exact⟨ha.1,hb.1,fun h=>by omega,fun _=>rfl⟩
 | i+1,hi=>by
  have hlt:i < fr.length:=by omega
  have hlt':i < to.length:=by omega
  have e1:((i+1:Nat):Int) - 1 = (i:Int):=by omega
  rw [e1]
  refine Gq7u _ _ _ _ _ _ _ _ _ ?_
  simp only [rq5g,↓zq,zs,hasK,zt,hasK,hp,has_slnil,ha.len,hb.len,ha.idx hlt,hb.idx hlt',Int.toNat_natCast]
  refine⟨ha.1,hb.1,fun _=>⟨⟨ha.1,by omega,by omega⟩,by omega,fun h=>?_,fun h=>?_⟩,fun h=>by omega⟩
  ·refine⟨⟨hb.1,by omega,by omega⟩,by omega,?_⟩
   have hh:fr.getD i [] = s:=h
   simp only [lastOf,hh,if_true,LBy]
   have:nmAt to (fr.length - 1 - i) = to.getD i []:=by unfold nmAt; congr 1; omega
   rw [this]
  ·have hh:¬ fr.getD i [] = s:=h
   simp only [lastOf,hh,if_false]
   rw [wrap64 _ (by omega) (by omega)]
   exact Lq8b s p a b hp F fr to k ha hb hft hl i (by omega)
theorem Lqbn (a b:AV) (ha:LK.sl.has a) (hb:LK.sl.has b) (F:List Nm) (hF:F.length < 100000) (t:ByteArray) (p:AV) (hp:LK.sl.has p):∀(n j:Nat),nxt F n j < j+n->j+n < 100000000 ->
  Lq5d [a,b,.v (.string (mk (tN j)))] [.cells [.any,.v (.int .i64 (j:Int))],.vec 1 (strsAV F),.cells [.v (.string t),p],zE] (LIs 1 [a,b,.v (.string (mk (tN (nxt F n j))))] [.cells [.any,.v (.int .i64 (nxt F n j:Int))],.vec 1 (strsAV F),.cells [.v (.string t),p],zE])
 | 0,j,h,_=>by simp only [nxt] at h; omega
 | n+1,j,h,hj=>by
  refine Gqdz _ _ _ _ _ _ _ _ _ ?_
  simp only [rqa1,↓zq,zs,hasK,zt,hasK,hp,has_slnil]
  refine⟨ha,hb,?_⟩
  refine wp_det (Sq16 F _ (.of F) (tN j) (by omega)) ?_
  simp only [↓zq,zs,hasK,zt]
  rw [nxt] at h |-
  refine⟨fun hm=>?_,fun hm=>?_⟩
  ·rw [if_pos hm] at h |-
   rw [wrap_succ j (by omega)]
   refine wp_det (Sq1q (j+2) (j+1) (by omega) (by omega)) ?_
   have hd:=dd_len (j+2) (j+1) (by omega)
   simp only [↓zq,zs,hasK,zt,List.cons_append,List.nil_append]
   refine⟨by simp [size_mk]; omega,?_⟩
   exact Lqbn a b ha hb F hF t p hp n (j+1) (by omega) (by omega)
  ·rw [if_neg hm]
   exact⟨rfl,rfl,rfl⟩
theorem cnT_le (F:List Nm):∀(t:Ty) (to:List Nm) (k:Nat),k<=(cnT F t to k).2/\(cnT F t to k).2<=k+(F.length+1)*t.atoms
 | .zero,_,k=>⟨Nat.le_refl _,Nat.le_add_right _ _⟩
 | .one,_,k=>⟨Nat.le_refl _,Nat.le_add_right _ _⟩
 | .name _,_,k=>⟨Nat.le_refl _,Nat.le_add_right _ _⟩
 | .bound _,_,k=>⟨Nat.le_refl _,Nat.le_add_right _ _⟩
 | .plus a b,to,k=>by
  have h1:=cnT_le F a to k
  have h2:=cnT_le F b to (cnT F a to k).2
  simp only [cnT,Ty.atoms]
  have:(F.length+1)*(1+a.atoms+b.atoms) = (F.length+1)+(F.length+1)*a.atoms+(F.length+1)*b.atoms:=by simp only [Nat.mul_add,Nat.mul_one]
  omega
 | .times a b,to,k=>by
  have h1:=cnT_le F a to k
  have h2:=cnT_le F b to (cnT F a to k).2
  simp only [cnT,Ty.atoms]
  have:(F.length+1)*(1+a.atoms+b.atoms) = (F.length+1)+(F.length+1)*a.atoms+(F.length+1)*b.atoms:=by simp only [Nat.mul_add,Nat.mul_one]
  omega
 | .rc a,to,k=>by
  obtain⟨g1,g2,_,_⟩:=nx_spec F k
  have h1:=cnT_le F a (to++[tN (nx F k)]) (nx F k+1)
  simp only [cnT,Ty.atoms]
  have:(F.length+1)*(2+a.atoms) = (F.length+1)*2+(F.length+1)*a.atoms:=by simp only [Nat.mul_add]
  omega
theorem strsAV_len' (l:List Nm):(strsAV l).length = l.length:=by simp [strsAV]
theorem Sqfs (F:List Nm) (hF:F.length < 10000) {e:E} (h:Wf e):∀(fr to:List Nm) (a b:AV) (k:Nat),StrsA a fr->StrsA b to->fr.length = to.length->(∀w,w∈fr->okN w)->fr.length+e.sz < 10000->k+(F.length+1)*(tyA e fr).atoms < 99000000 ->
  FSpec Tryz.prog 132 [.agg [.v (.string (mk e.at)),e.sp],a,b,.ref 0 0] [.cells [.vec 1,.v (.int .i64 (k:Int))],.vec 1 (strsAV F)] (DetO (.agg [.v (.string (mk (cnT F (tyA e fr) to k).1.at)),(cnT F (tyA e fr) to k).1.sp]) [.cells [.vec 1,.v (.int .i64 ((cnT F (tyA e fr) to k).2:Int))],.vec 1 (strsAV F)]):=by
 induction h with
 | @atom s hs =>
  intro fr to a b k ha hb hft hfr hl hk
  simp only [E.sz] at hl
  refine Fq2a _ _ _ _ _ _ ((sp_has _).mpr trivial) ha.1 hb.1 ?_
  have hz:∀c,(c = [48]\/c = [49])->lastOf c fr fr.length = none:=fun c hc=>(lastOf_mem c fr).2 fun hm=>by
   obtain⟨h1,h2,h3⟩:=hfr c hm
   rcases hc with rfl | rfl
   ·exact h2 rfl
   ·exact h3 rfl
  have hq:cnT F (tyA (.atom s) fr) to k = (match lastOf s fr fr.length with | some u=>.atom (nmAt to u) | none=>.atom s,k):=by
   simp only [tyA]
   by_cases h0:s = [48]
   ·rw [if_pos h0,hz s (.inl h0),h0]; rfl
   ·rw [if_neg h0]
    by_cases h1:s = [49]
    ·rw [if_pos h1,hz s (.inr h1),h1]; rfl
    ·rw [if_neg h1]
     cases lastOf s fr fr.length<;>rfl
  simp only [tq1w,at_atom',↓zq,zs,hasK,zt]
  refine⟨fun _=>⟨ha.1,?_⟩,fun h=>absurd h hs⟩
  rw [ha.len,wrap64 _ (by omega) (by omega)]
  refine wp_loopB (Lq8b s _ a b ((sp_has _).mpr trivial) F fr to (k:Int) ha hb hft (by omega) fr.length (Nat.le_refl _)) (fun ys o e=>?_) (fun ys o e=>?_)
  ·rw [hq]
   cases q:lastOf s fr fr.length<;>rw [q] at e<;>cases e
   simp only [↓zq,zs,hasK,zt,hasK,hasC,has_slnil,sp_has]
   exact⟨rfl,rfl⟩
  ·rw [hq]
   cases q:lastOf s fr fr.length<;>rw [q] at e<;>cases e
   simp only [↓zq,zs,hasK,zt,hasK,hasC,has_slnil]
   exact⟨rfl,rfl⟩
 | @plus x y hx hy i1 i2 =>
  intro fr to a b k ha hb hft hfr hl hk
  simp only [E.sz,E.szs] at hl
  rw [tyA_plus] at hk |-
  simp only [Ty.atoms] at hk
  have hm:(F.length+1)*(1+(tyA x fr).atoms+(tyA y fr).atoms) = (F.length+1)+(F.length+1)*(tyA x fr).atoms+(F.length+1)*(tyA y fr).atoms:=by simp only [Nat.mul_add,Nat.mul_one]
  have hc:=cnT_le F (tyA x fr) to k
  refine Fq2a _ _ _ _ _ _ ((sp_has _).mpr trivial) ha.1 hb.1 ?_
  have hP:=P3.of (.atom [43]) x y
  simp only [tq1w,at_list,toNat_one,toNat_two,↓zq,zs,hasK,zt,hP.1,hP.2.1,hP.2.2.1,hP.2.2.2,sp_hasL]
  refine⟨fun h=>absurd rfl h,fun _=>?_⟩
  refine wp_det (Sq0 [43] x y) ?_
  simp only [↓zq,zs,hasK,zt]
  refine⟨fun h=>by simp at h,fun _=>?_⟩
  repeat refine⟨by omega,?_⟩
  refine wp_detO (i1 fr to a b k ha hb hft hfr (by omega) (by omega)) ?_
  simp only [↓zq,zs,hasK,zt,hasC,sp_hasL,List.headD_cons,List.tail_cons,Ob.es]
  repeat refine⟨by omega,?_⟩
  refine wp_det (Sq0 [43] x y) ?_
  simp only [↓zq,zs,hasK,zt]
  repeat refine⟨by omega,?_⟩
  refine wp_detO (i2 fr to a b _ ha hb hft hfr (by omega) (by omega)) ?_
  simp only [↓zq,zs,hasK,zt,hasC,sp_hasL,List.headD_cons,List.tail_cons,Ob.es]
  repeat refine⟨by omega,?_⟩
  refine wp_det (Sq6 _ _ _) ?_
  simp only [↓zq,zs,hasK,zt,sp_hasL,at_list]
  repeat refine⟨by omega,?_⟩
  exact⟨rfl,rfl⟩
 | @times x y hx hy i1 i2 =>
  intro fr to a b k ha hb hft hfr hl hk
  simp only [E.sz,E.szs] at hl
  rw [tyA_times] at hk |-
  simp only [Ty.atoms] at hk
  have hm:(F.length+1)*(1+(tyA x fr).atoms+(tyA y fr).atoms) = (F.length+1)+(F.length+1)*(tyA x fr).atoms+(F.length+1)*(tyA y fr).atoms:=by simp only [Nat.mul_add,Nat.mul_one]
  have hc:=cnT_le F (tyA x fr) to k
  refine Fq2a _ _ _ _ _ _ ((sp_has _).mpr trivial) ha.1 hb.1 ?_
  have hP:=P3.of (.atom [42]) x y
  simp only [tq1w,at_list,toNat_one,toNat_two,↓zq,zs,hasK,zt,hP.1,hP.2.1,hP.2.2.1,hP.2.2.2,sp_hasL]
  refine⟨fun h=>absurd rfl h,fun _=>?_⟩
  refine wp_det (Sq0 [42] x y) ?_
  simp only [↓zq,zs,hasK,zt]
  refine⟨fun h=>by simp at h,fun _=>?_⟩
  repeat refine⟨by omega,?_⟩
  refine wp_detO (i1 fr to a b k ha hb hft hfr (by omega) (by omega)) ?_
  simp only [↓zq,zs,hasK,zt,hasC,sp_hasL,List.headD_cons,List.tail_cons,Ob.es]
  repeat refine⟨by omega,?_⟩
  refine wp_det (Sq0 [42] x y) ?_
  simp only [↓zq,zs,hasK,zt]
  repeat refine⟨by omega,?_⟩
  refine wp_detO (i2 fr to a b _ ha hb hft hfr (by omega) (by omega)) ?_
  simp only [↓zq,zs,hasK,zt,hasC,sp_hasL,List.headD_cons,List.tail_cons,Ob.es]
  repeat refine⟨by omega,?_⟩
  refine wp_det (Sq6 _ _ _) ?_
  simp only [↓zq,zs,hasK,zt,sp_hasL,at_list]
  repeat refine⟨by omega,?_⟩
  exact⟨rfl,rfl⟩
 | @rc n y hn hy i =>
  intro fr to a b k ha hb hft hfr hl hk
  simp only [E.sz,E.szs] at hl
  rw [tyA_rc] at hk |-
  simp only [Ty.atoms,at_atom'] at hk
  have hm:(F.length+1)*(2+(tyA y (fr++[n])).atoms) = (F.length+1)*2+(F.length+1)*(tyA y (fr++[n])).atoms:=by simp only [Nat.mul_add]
  have hc:=cnT_le F (tyA y (fr++[n])) (to++[tN (nx F k)]) (nx F k+1)
  obtain⟨g1,g2,_,_⟩:=nx_spec F k
  refine Fq2a _ _ _ _ _ _ ((sp_has _).mpr trivial) ha.1 hb.1 ?_
  have hP:=P3.of (.atom recN) (.atom n) y
  simp only [tq1w,at_list,toNat_one,toNat_two,↓zq,zs,hasK,zt,hP.1,hP.2.1,hP.2.2.1,hP.2.2.2,sp_hasL]
  refine⟨fun h=>absurd rfl h,fun _=>?_⟩
  refine wp_det (Sq0 recN (.atom n) y) ?_
  simp only [↓zq,zs,hasK,zt]
  refine⟨fun _=>?_,fun h=>absurd rfl h⟩
  refine wp_det (Sq1q (k+1) k (by omega) (by omega)) ?_
  have hd:=dd_len (k+1) k (by omega)
  simp only [↓zq,zs,hasK,zt,List.cons_append,List.nil_append]
  refine⟨by simp [size_mk]; omega,?_⟩
  refine wp_loop1 (Lqbn a b ha.1 hb.1 F (by omega) (mk []) _ ((sp_has _).mpr trivial) (F.length+1) k (by show nx F k < _; omega) (by omega)) ?_
  simp only [↓zq,zs,hasK,zt,hasK,hasC,has_slnil,sp_has,ha.1,hb.1,hP.1,hP.2.1,hP.2.2.1,hP.2.2.2,toNat_one,toNat_two,sp_hasL]
  repeat refine⟨by omega,?_⟩
  have hnx:nxt F (F.length+1) k = nx F k:=rfl
  rw [hnx]
  refine wp_det (Sq2i fr a ha n (by omega)) ?_
  simp only [↓zq,zs,hasK,zt]
  refine wp_det (Sq2i to b hb (tN (nx F k)) (by omega)) ?_
  simp only [↓zq,zs,hasK,zt]
  rw [wrap_succ (nx F k) (by omega)]
  have hmk:=Sq6 recN (.atom (tN (nx F k))) (cnT F (tyA y (fr++[n])) (to++[tN (nx F k)]) (nx F k+1)).1
  simp only [at_atom'] at hmk
  refine wp_detO (i (fr++[n]) (to++[tN (nx F k)]) _ _ (nx F k+1) (.of _) (.of _) (by simp [hft]) (fun w hw=>by
   rcases List.mem_append.1 hw with hw | hw
   ·exact hfr w hw
   ·simp only [List.mem_singleton] at hw; rw [hw]; exact hn) (by simp; omega) (by omega)) ?_
  simp only [↓zq,zs,hasK,zt,hasC,sp_hasL,List.headD_cons,List.tail_cons,Ob.es]
  repeat refine⟨by omega,?_⟩
  refine wp_det hmk ?_
  simp only [↓zq,zs,hasK,zt,sp_hasL,at_list]
  repeat refine⟨by omega,?_⟩
  exact⟨rfl,rfl⟩
theorem strsAV_app (l r:List Nm):strsAV (l++r) = strsAV l++strsAV r:=by simp [strsAV]
def fres (os:List E):List Nm:=os.flatMap fun o=>fre o [] []
theorem scellss_get {os:List E} {i:Nat} (h:i < os.length):(E.scellss os).getD i [] = [.v (.string (mk (os[i]).at)),(os[i]).sp]:=by
 have:∀(os:List E) (i:Nat) (h:i < os.length),(E.scellss os).getD i [] = (os[i]).scells:=by
  intro os
  induction os with
  | nil=>intro i h; simp at h
  | cons o os ih =>
   intro i h
   cases i with
   | zero=>simp [E.scellss]
   | succ i=>simpa [E.scellss] using ih i (by simpa using h)
 rw [this os i h,scells_sp]
theorem fres_drop (os:List E) {i:Nat} (h:i < os.length):fres (os.drop i) = fre (os[i]) [] []++fres (os.drop (i+1)):=by
 unfold fres; rw [List.drop_eq_getElem_cons h,List.flatMap_cons]
theorem Lqc7 (a:AV) (os:List E) (ha:LK.sl.has a/\a.elems = E.scellss os) (ho:∀o,o∈os->Wf o/\o.sz < 5000) (hl:os.length < 100) (t:ByteArray) (p:AV) (hp:LK.sl.has p):∀(k i:Nat) (F:List Nm),i+k = os.length->F.length<=5000+5000*i ->
  Lq4a [a,.v (.int .i64 (i:Int))] [.cells [.v (.string t),p],zE,.vec 1 (strsAV F)] (LIs 1 [] [.cells [.v (.string t),p],zE,.vec 1 (strsAV (F++fres (os.drop i)))])
 | 0,i,F,hi,hF=>by
  refine Gqaz _ _ _ _ _ _ _ ?_
  have:i = os.length:=by omega
  subst this
  simp only [rq3u,↓zq,zs,hasK,zt,hasK,hp,has_slnil,ha.1,ha.2,scellss_len,List.drop_length]
  exact⟨fun h=>by omega,fun _=>by simp [LIs,fres]⟩
 | k+1,i,F,hi,hF=>by
  have hlt:i < os.length:=by omega
  obtain⟨hw,hsz⟩:=ho _ (List.getElem_mem hlt)
  have hfl:=fre_len (os[i]) [] []
  refine Gqaz _ _ _ _ _ _ _ ?_
  simp only [rq3u,↓zq,zs,hasK,zt,hasK,hp,has_slnil,ha.1,ha.2,scellss_len,scellss_get hlt,sp_hasL,Int.toNat_natCast]
  refine⟨fun _=>?_,fun h=>by omega⟩
  repeat refine⟨by omega,?_⟩
  have hfre:=Sq2c hw [] [] (.sl []) (.of []) (by simp; omega)
  refine wp_detO hfre ?_
  simp only [↓zq,zs,hasK,zt,List.headD_cons,List.tail_cons,Ob.es,strsAV_len',<-strsAV_app]
  rw [wrap_succ i (by omega),fres_drop os hlt,<-List.append_assoc]
  simp only [List.length_nil,Nat.zero_add] at hfl
  refine⟨⟨allLen_strs _,by omega⟩,?_⟩
  exact Lqc7 a os ha ho hl t p hp k (i+1) _ (by omega) (by simp; omega)
def apN (e:E) (os:List E):List Nm:=fre e [] []++fres os
def apT (e:E) (os:List E):E:=(cnT (apN e os) (tyA e []) [] 0).1
theorem apN_len {e:E} {os:List E} (h:e.sz<=2000) (ho:∀o,o∈os->Wf o/\o.sz<=2000) (hl:os.length<=2):(apN e os).length<=6000:=by
 have h1:=fre_len e [] []
 have h2:∀(l:List E),(∀o,o∈l->o.sz<=2000)->(fres l).length<=2000*l.length:=by
  intro l
  induction l with
  | nil=>intro _; simp [fres]
  | cons o l ih =>
   intro hl
   have:=ih fun q hq=>hl q (List.mem_cons_of_mem _ hq)
   have:=hl o List.mem_cons_self
   have:=fre_len o [] []
   simp only [fres,List.flatMap_cons,List.length_append,List.length_cons,List.length_nil] at *
   omega
 have:=h2 os fun o ho'=>(ho o ho').2
 simp only [apN,List.length_append,List.length_nil] at *
 omega
theorem Sq4r {e:E} (h:Wf e) (a:AV) (os:List E) (ha:LK.sl.has a/\a.elems = E.scellss os) (he:e.sz<=2000) (ho:∀o,o∈os->Wf o/\o.sz<=2000) (hl:os.length<=2) :
  FSpec Tryz.prog 107 [.agg [.v (.string (mk e.at)),e.sp],a] [] (Det (.agg [.v (.string (mk (apT e os).at)),(apT e os).sp])):=by
 refine Fqg1 _ _ _ ((sp_has _).mpr trivial) ha.1 ?_
 unfold tqbt
 have hfl:=fre_len e [] []
 simp only [List.length_nil,Nat.zero_add] at hfl
 have hap:=apN_len he ho hl
 have hats:(tyA e []).atoms<=2000:=by
  rw [<-h.ats []]
  have:e.ats<=e.sz:=by
   clear hap hfl ha he ho hl
   induction h with
   | atom _=>simp [E.ats,E.sz]
   | plus _ _ i1 i2=>simp only [E.ats,E.atss,E.sz,E.szs]; omega
   | times _ _ i1 i2=>simp only [E.ats,E.atss,E.sz,E.szs]; omega
   | rc _ _ i=>simp only [E.ats,E.atss,E.sz,E.szs]; omega
  omega
 have hfre:=Sq2c h [] [] (.sl []) (.of []) (by simp; omega)
 simp only [↓zq,zs,hasK,zt]
 refine wp_detO hfre ?_
 simp only [↓zq,zs,hasK,zt,List.headD_cons,List.tail_cons,Ob.es]
 have hlp:=Lqc7 a os ha (fun o hq=>⟨(ho o hq).1,by have:=(ho o hq).2; omega⟩) (by omega) (mk e.at) e.sp ((sp_has _).mpr trivial) os.length 0 (fre e [] []) (by omega) (by omega)
 rw [List.drop_zero] at hlp
 refine wp_loop1 hlp ?_
 simp only [↓zq,zs,hasK,zt,hasK,hasC,has_slnil,sp_has,List.headD_cons,List.tail_cons,Ob.es]
 have hmul:((apN e os).length+1)*(tyA e []).atoms<=6001*2000:=Nat.mul_le_mul (by omega) hats
 have hren:=Sqfs (apN e os) (by omega) h [] [] (.sl []) (.sl []) 0 (.of []) (.of []) rfl (fun w hw=>by cases hw) (by simp; omega) (by omega)
 refine wp_detO hren ?_
 simp only [↓zq,zs,hasK,zt,hasC,sp_hasL]
 repeat refine⟨by omega,?_⟩
 exact⟨rfl,rfl⟩
end Go.Proofs.Trees
namespace Go.Proofs.Trees
open Go Go.VL Go.RowKit
def goodT (t:Ty):Prop:=lcT t 0/\∀y,hasN y t = true->okN y
theorem lc_mono:∀(t:Ty) {i j:Nat},lcT t i->i<=j->lcT t j
 | .bound u,i,j,h,hj=>Nat.lt_of_lt_of_le h hj
 | .plus a b,i,j,h,hj=>⟨lc_mono a h.1 hj,lc_mono b h.2 hj⟩
 | .times a b,i,j,h,hj=>⟨lc_mono a h.1 hj,lc_mono b h.2 hj⟩
 | .rc a,i,j,h,hj=>lc_mono (i:=i+1) (j:=j+1) a h (by omega)
 | .zero,_,_,_,_=>trivial
 | .one,_,_,_,_=>trivial
 | .name _,_,_,_,_=>trivial
theorem lc_opn (x:Nm):∀(t:Ty) {i:Nat},lcT t (i+1)->lcT (opn (.name x) t i) i
 | .bound u,i,h=>by
  simp only [opn]
  split
  ·trivial
  ·have:u < i+1:=h
   show u < i; omega
 | .plus a b,i,h=>⟨lc_opn x a h.1,lc_opn x b h.2⟩
 | .times a b,i,h=>⟨lc_opn x a h.1,lc_opn x b h.2⟩
 | .rc a,i,h=>lc_opn x (i:=i+1) a h
 | .zero,_,_=>trivial
 | .one,_,_=>trivial
 | .name _,_,_=>trivial
theorem lc_sub {x:Nm} {u:Ty} (hu:lcT u 0):∀(t:Ty) {i:Nat},lcT t i->lcT (sub x u t) i
 | .name s,i,_=>by simp only [sub]; split; exact lc_mono u hu (Nat.zero_le _); trivial
 | .plus a b,i,h=>⟨lc_sub hu a h.1,lc_sub hu b h.2⟩
 | .times a b,i,h=>⟨lc_sub hu a h.1,lc_sub hu b h.2⟩
 | .rc a,i,h=>lc_sub hu (i:=i+1) a h
 | .zero,_,_=>trivial
 | .one,_,_=>trivial
 | .bound _,_,h=>h
theorem Dv.lc {t d:Ty} {s:Nm} (h:Dv t s d):lcT t 0->lcT d 0:=by
 induction h with
 | zero s=>exact fun _=>trivial
 | one s=>exact fun _=>trivial
 | bound k s=>exact fun _=>trivial
 | hit s=>exact fun _=>trivial
 | miss h=>exact fun _=>trivial
 | plus h1 h2 hl i1 i2=>exact fun h=>⟨i1 h.1,i2 h.2⟩
 | times h1 h2 hl i1 i2=>exact fun h=>⟨⟨i1 h.1,h.2⟩,h.1,i2 h.2⟩
 | rc x hx hs h1 h2 hl i1 i2 =>
  intro h
  have g1:=lc_sub (x:=x) h _ (i1 (lc_opn x _ h))
  have g2:=lc_sub (x:=x) h _ (i2 (lc_opn x _ h))
  exact⟨lc_mono _ g1 (by omega),lc_mono _ g2 (by omega),Nat.zero_lt_one⟩
theorem Wf.good {e:E} (h:Wf e):goodT (tyA e []):=⟨tyA_lc h [],fun y hy=>(wfE_names h [] y hy).1⟩
theorem goodT.dv {t d:Ty} {s:Nm} (g:goodT t) (h:Dv t s d):goodT d:=⟨h.lc g.1,fun y hy=>g.2 y (h.names y hy)⟩
theorem goodT.tree {t:Ty} (g:goodT t):∃e,Wf e/\tyA e [] = t:=by
 obtain⟨h1,h2,_⟩:=cnT_ok (namesOf t []) t [] 0 (.nil _ _) g.1 fun y hy=>⟨(namesOf_mem t [] y).2 (.inr hy),g.2 y hy⟩
 exact⟨_,h1,h2⟩
theorem goodT.sub {x:Nm} {u t:Ty} (hu:goodT u) (ht:goodT t):goodT (sub x u t):=⟨lc_sub hu.1 t ht.1,fun y hy=>by
 rcases has_sub t hy with h | h
 ·exact hu.2 y h
 ·exact ht.2 y h.2⟩
def DrR (o:Option Ty):AV->List Ob->Prop:=fun r ob=>ob = []/\∃(c:Nm) (d:AV),LK.sl.has d/\r = .tup [.agg [.v (.string (mk c)),d],.v (.bool o.isSome)]/\∀t,o = some t->∃e,Wf e/\tyA e [] = t/\c = e.at/\d = e.sp
theorem DrR.ne {o:Option Ty} (h:∀t,o = some t->goodT t):∃r ob,DrR o r ob:=by
 cases o with
 | none=>exact⟨_,_,rfl,[],slz,(has_slnil).mpr trivial,rfl,fun t h=>by cases h⟩
 | some t =>
  obtain⟨e,h1,h2⟩:=(h t rfl).tree
  exact⟨_,_,rfl,e.at,e.sp,(sp_has _).mpr trivial,rfl,fun t' h'=>by cases h'; exact⟨e,h1,h2,rfl,rfl⟩⟩
theorem DrR.of {e:E} (h:Wf e):DrR (some (tyA e [])) (.tup [.agg [.v (.string (mk e.at)),e.sp],.v (.bool true)]) [] :=
 ⟨rfl,e.at,e.sp,(sp_has _).mpr trivial,rfl,fun t h'=>by cases h'; exact⟨e,h,rfl,rfl,rfl⟩⟩
theorem DrR.no (c:Nm) (d:AV) (hd:LK.sl.has d):DrR none (.tup [.agg [.v (.string (mk c)),d],.v (.bool false)]) [] :=
 ⟨rfl,c,d,hd,rfl,fun t h'=>by cases h'⟩
theorem hasL_sv {c:ByteArray} {d:AV} (h:LK.sl.has d):hasL [.str,.sl] [.v (.string c),d] 0 = True:=by simp [hasL,has_str,h]
theorem apT_ok {e:E} {os:List E} (h:Wf e):Wf (apT e os)/\tyA (apT e os) [] = tyA e []/\apE (· ∉ apN e os) (apT e os):=by
 obtain⟨h1,h2,_,_,h5⟩:=cnT_ok (apN e os) (tyA e []) [] 0 (.nil _ _) (tyA_lc h []) fun y hy=>⟨List.mem_append_left _ ((fre_mem h [] [] y).2 (.inr hy)),(wfE_names h [] y hy).1⟩
 exact⟨h1,h2,h5⟩
theorem fres_mem {os:List E} {o:E} (ho:o∈os) (hw:Wf o) {y:Nm} (hy:hasN y (tyA o []) = true):y∈fres os :=
 List.mem_flatMap.2 ⟨o,ho,(fre_mem hw [] [] y).2 (.inr hy)⟩
theorem tyA_name {s:Nm} (hs:okN s):tyA (.atom s) [] = .name s:=tyA_atom_name hs (by simp)
theorem Sqcy {x:Nm} (hx:okN x) {e u:E} (h:Wf e) (hu:Wf u) (hl:e.ats<=400) (hlu:u.ats<=400):∃g,Wf g/\tyA g [] = sub x (tyA u []) (tyA e [])/\FSpec Tryz.prog 131 [.agg [.v (.string (mk e.at)),e.sp],.v (.string (mk x)),.agg [.v (.string (mk u.at)),u.sp]] [] (Det (.agg [.v (.string (mk g.at)),g.sp])):=by
 obtain⟨w1,w2,w3⟩:=apT_ok (os:=[u,.atom x]) h
 have hap:apE (fun n=>n≠x/\hasN n (tyA u []) = false) (apT e [u,.atom x]):=apE_mono (fun n hn=>⟨fun e1=>hn (by
  subst e1
  exact List.mem_append_right _ (fres_mem (o:=.atom n) (by simp) (.atom hx.1) (by rw [tyA_name hx]; simp [hasN]))),by
  cases q:hasN n (tyA u []) with
  | false=>rfl
  | true=>exact absurd (List.mem_append_right _ (fres_mem (o:=u) (by simp) hu q)) hn⟩) w1 w3
 obtain⟨p1,p2⟩:=tyA_put hx hu w1 hap [] (by simp) (fun y hy=>by cases hy)
 refine⟨_,p1,by rw [p2,w2],?_⟩
 refine Fqgo _ _ _ _ _ ((sp_has _).mpr trivial) ((sp_has _).mpr trivial) ?_
 unfold tqc3
 have s1:=h.sz
 have s2:=hu.sz
 have hA:=Sq4r h (.sl [[.v (.string (mk u.at)),u.sp],[.v (.string (mk x)),slz]]) [u,.atom x] ⟨(has_sl _).mpr trivial,by simp only [elems_sl,E.scellss,scells_sp]; rfl⟩ (by omega) (fun o ho=>by
  simp only [List.mem_cons,List.not_mem_nil,or_false] at ho
  rcases ho with rfl | rfl
  ·exact⟨hu,by omega⟩
  ·exact⟨.atom hx.1,by simp [E.sz]⟩) (by simp)
 refine wp_det hA ?_
 simp only [↓zq,zs,hasK,zt,sp_hasL]
 repeat refine⟨by omega,?_⟩
 refine wp_det (Sqes x u w1) ?_
 simp only [↓zq,zs,hasK,zt,sp_hasL]
 repeat refine⟨by omega,?_⟩
 exact⟨rfl,rfl⟩
theorem Sq5f {x:Nm} (hx:okN x) {e u:E} (h:Wf e) (hu:Wf u) (hl:e.ats<=400) (hlu:u.ats<=400):FSpec Tryz.prog 106 [.agg [.v (.string (mk e.at)),e.sp],.v (.string (mk x)),.agg [.v (.string (mk u.at)),u.sp]] [] (DrR (chk (sub x (tyA u []) (tyA e [])))):=by
 refine Fqfm _ _ _ _ _ ((sp_has _).mpr trivial) ((sp_has _).mpr trivial) ?_
 unfold tq5q
 refine wp_det (Sqef hx h hu (by omega) (by omega)) ?_
 simp only [↓zq,zs,hasK,zt]
 refine⟨fun hn=>?_,fun hy=>?_⟩
 ·rw [show chk (sub x (tyA u []) (tyA e [])) = none by unfold chk; rw [if_neg hn]]
  exact DrR.no _ _ ((sp_has _).mpr trivial)
 ·rw [show chk (sub x (tyA u []) (tyA e [])) = some (sub x (tyA u []) (tyA e [])) by unfold chk; rw [if_pos hy]]
  obtain⟨g,g1,g2,g3⟩:=Sqcy hx h hu hl hlu
  refine wp_det g3 ?_
  simp only [↓zq,zs,hasK,zt,sp_hasL]
  repeat refine⟨by omega,?_⟩
  rw [<-g2]
  exact DrR.of g1
end Go.Proofs.Trees
namespace Go.Proofs.Trees
open Go Go.VL Go.RowKit
theorem Sq1m (w:Nm) (c1 c2:Nm) (d1 d2:AV):FSpec Tryz.prog 74 [.v (.string (mk w)),.sl [[.v (.string (mk c1)),d1],[.v (.string (mk c2)),d2]]] [] (Det (.agg [.v (.string (mk [])),.sl [[.v (.string (mk w)),slz],[.v (.string (mk c1)),d1],[.v (.string (mk c2)),d2]]])):=by
 refine Fqa3 _ _ ((has_sl _).mpr trivial) ?_
 simp only [tq46,↓zq,zs,hasK,Det]
 exact⟨⟨fun c hc=>by
  simp only [List.mem_cons,List.not_mem_nil,or_false] at hc
  rcases hc with rfl | rfl<;>rfl,by omega⟩,rfl⟩
theorem Lqcl (F:List Nm) (hF:F.length < 100000) (c1 c2:Nm) (d1 d2:AV) (h1:LK.sl.has d1) (h2:LK.sl.has d2):∀(n j:Nat),nxt F n j < j+n->j+n < 100000000 ->
  Lq37 [.v (.int .i64 (j:Int))] [zE,.cells [.v (.string (mk c1)),d1],.cells [.v (.string (mk c2)),d2],.vec 1 (strsAV F)] (LIs 1 [.v (.int .i64 (nxt F n j:Int))] [zE,.cells [.v (.string (mk c1)),d1],.cells [.v (.string (mk c2)),d2]])
 | 0,j,h,_=>by simp only [nxt] at h; omega
 | n+1,j,h,hj=>by
  refine Gqcz _ _ _ _ _ _ _ _ ?_
  simp only [rq8z,↓zq,zs,hasK,zt,hasK,has_slnil,h1,h2]
  refine wp_det (Sq1q (j+1) j (by omega) (by omega)) ?_
  have hd:=dd_len (j+1) j (by omega)
  simp only [↓zq,zs,hasK,zt,List.cons_append,List.nil_append]
  refine⟨by simp [size_mk]; omega,?_⟩
  refine wp_det (Sq16 F _ (.of F) (tN j) (by omega)) ?_
  simp only [↓zq,zs,hasK,zt]
  rw [nxt] at h |-
  refine⟨fun hm=>?_,fun hm=>?_⟩
  ·rw [if_pos hm] at h |-
   rw [wrap_succ j (by omega)]
   exact Lqcl F hF c1 c2 d1 d2 h1 h2 n (j+1) (by omega) (by omega)
  ·rw [if_neg hm]
   exact⟨rfl,rfl,rfl⟩
theorem sub_atoms_le {x:Nm} {a c d:Ty} (h:(drc a x c d).atoms<=400):(sub x (.rc a) c).atoms<=400/\(sub x (.rc a) d).atoms<=400:=by
 simp only [drc,Ty.atoms] at h; omega
theorem Wf.ats_le {e:E} (h:Wf e) {t:Ty} (ht:tyA e [] = t) (hl:t.atoms<=400):e.ats<=400:=by rw [h.ats [],ht]; exact hl
def DvS (n:Nat):Prop:=∀(e:E) (s:Nm),Wf e->e.ats<=n->e.ats<=400->okN s->FSpec Tryz.prog 105 [.agg [.v (.string (mk e.at)),e.sp],.v (.string (mk s))] [] (DrR (dvO (tyA e []) s))
theorem dv_good {e:E} {s:Nm} (h:Wf e):∀t,dvO (tyA e []) s = some t->goodT t:=fun t ht=>h.good.dv (dvO_iff.1 ht)
theorem chk_good {t:Ty} (h:goodT t):∀d,chk t = some d->goodT d:=fun d hd=>by obtain⟨_,rfl⟩:=chk_some.1 hd; exact h
theorem Sqey (n:Nat) (ih:DvS n) (m:Nm) (B:E) (hm:okN m) (hB:Wf B) (hl:(E.list [.atom recN,.atom m,B]).ats<=n+1) (hl4:(E.list [.atom recN,.atom m,B]).ats<=400) (s:Nm) (hs:okN s) :
  FSpec Tryz.prog 129 [.agg [.v (.string (mk [])),(E.list [.atom recN,.atom m,B]).sp],.v (.string (mk s))] [] (DrR (dvO (tyA (.list [.atom recN,.atom m,B]) []) s)):=by
 have hw:Wf (.list [.atom recN,.atom m,B]):=.rc hm hB
 have hsz:=hw.sz
 have hA:=Sq4r hw (.sl [[.v (.string (mk s)),slz]]) [.atom s] ⟨(has_sl _).mpr trivial,by simp only [elems_sl,E.scellss,scells_sp]; rfl⟩ (by omega) (fun o ho=>by
  simp only [List.mem_cons,List.not_mem_nil,or_false] at ho
  subst ho
  exact⟨.atom hs.1,by simp [E.sz]⟩) (by simp)
 have hatsB:B.ats+2 = (E.list [.atom recN,.atom m,B]).ats:=by simp only [E.ats,E.atss]; omega
 have hT:tyA (.list [.atom recN,.atom m,B]) [] = .rc (tyA B [m]):=tyA_rc _ _ _
 obtain⟨w1,w2,_,_,w5⟩:=cnT_ok (apN (.list [.atom recN,.atom m,B]) [.atom s]) (tyA (.list [.atom recN,.atom m,B]) []) [] 0 (.nil _ _) (tyA_lc hw []) fun y hy=>⟨List.mem_append_left _ ((fre_mem hw [] [] y).2 (.inr hy)),(wfE_names hw [] y hy).1⟩
 have hsF:s∈apN (.list [.atom recN,.atom m,B]) [.atom s]:=List.mem_append_right _ (fres_mem (o:=.atom s) (by simp) (.atom hs.1) (by rw [tyA_name hs]; simp [hasN]))
 have haF:∀y,hasN y (tyA B [m]) = true->y∈apN (.list [.atom recN,.atom m,B]) [.atom s]:=fun y hy=>List.mem_append_left _ ((fre_mem hw [] [] y).2 (.inr (by rw [hT]; exact hy)))
 unfold apT at hA
 rw [hT] at hA w1 w2 w5
 rw [hT]
 generalize apN (.list [.atom recN,.atom m,B]) [.atom s] = F at *
 obtain⟨_,_,_,hxF⟩:=nx_spec F 0
 simp only [cnT,List.nil_append] at hA w1 w2 w5
 generalize hxd:tN (nx F 0) = x at *
 have hx:okN x:=by rw [<-hxd]; exact tN_ok _
 generalize (cnT F (tyA B [m]) [x] (nx F 0+1)).1 = b at *
 have hb:Wf b:=by cases w1; assumption
 rw [tyA_rc] at w2
 have hbt:tyA b [x] = tyA B [m]:=by injection w2
 have hxa:hasN x (tyA B [m]) = false:=by
  cases q:hasN x (tyA B [m]) with
  | false=>rfl
  | true=>exact absurd (haF x q) hxF
 have hxs:x≠s:=fun e=>hxF (by rw [e]; exact hsF)
 generalize tyA B [m] = a at *
 have hbo:tyA b [] = opn (.name x) a 0:=by
  have:=tyA_opn x hb []
  rw [List.append_nil,hbt] at this; exact this
 have hba:b.ats+2 = (E.list [.atom recN,.atom m,B]).ats:=by
  rw [hw.ats [],hT,hb.ats [],hbo,opn_atoms]; simp only [Ty.atoms]; omega
 have i1:=ih b s hb (by omega) (by omega) hs
 have i2:=ih b x hb (by omega) (by omega) hx
 have n1:=dv_good (s:=s) hb
 have n2:=dv_good (s:=x) hb
 rw [hbo] at i1 i2 n1 n2
 have hP:=P3.of (.atom recN) (.atom x) b
 rw [dvO_rc hxa hxs]
 have hE1:Wf (.list [.atom recN,.atom x,b]):=w1
 have hE1t:tyA (.list [.atom recN,.atom x,b]) [] = .rc a:=by rw [tyA_rc]; exact w2
 have hE1l:(E.list [.atom recN,.atom x,b]).ats<=400:=by
  have:(E.list [.atom recN,.atom x,b]).ats = b.ats+2:=by simp only [E.ats,E.atss]; omega
  omega
 refine Fqga _ _ _ ((sp_has _).mpr trivial) ?_
 unfold tqal
 refine wp_det hA ?_
 simp only [↓zq,zs,hasK,zt,sp_hasL,at_list,toNat_one,toNat_two,hP.1,hP.2.1,hP.2.2.1,hP.2.2.2,at_atom']
 repeat refine⟨by omega,?_⟩
 refine wp_call i1 (DrR.ne n1) ?_
 rintro r o ⟨rfl,c1,d1,hd1,rfl,hc1⟩
 simp only [↓zq,zs,hasK,zt,hasL_sv hd1]
 repeat refine⟨by omega,?_⟩
 refine wp_call i2 (DrR.ne n2) ?_
 rintro r o ⟨rfl,c2,d2,hd2,rfl,hc2⟩
 simp only [↓zq,zs,hasK,zt,hasL_sv hd2]
 cases q1:dvO (opn (.name x) a 0) s with
 | none =>
  simp only [Option.isSome_none,Option.bind_none]
  exact⟨fun _=>DrR.no _ _ ((sp_has _).mpr trivial),fun h=>(by cases h)⟩
 | some c =>
 cases q2:dvO (opn (.name x) a 0) x with
 | none =>
  simp only [Option.isSome_none,Option.isSome_some,Option.bind_none,Option.bind_some]
  exact⟨fun h=>(by cases h),fun _=>⟨fun _=>DrR.no _ _ ((sp_has _).mpr trivial),fun h=>(by cases h)⟩⟩
 | some d =>
 simp only [Option.isSome_some,Option.bind_some]
 refine⟨fun h=>(by cases h),fun _=>⟨fun h=>(by cases h),fun _=>?_⟩⟩
 obtain⟨ec,wc,tc,rfl,rfl⟩:=hc1 c q1
 obtain⟨ed,wd,td,rfl,rfl⟩:=hc2 d q2
 have lc:=(dvO_iff.1 q1).small
 have ld:=(dvO_iff.1 q2).small
 have p1:=Sq5f hx wc hE1 (wc.ats_le tc lc) hE1l
 have p2:=Sq5f hx wd hE1 (wd.ats_le td ld) hE1l
 have g1:=chk_good (hE1.good.sub (x:=x) wc.good)
 have g2:=chk_good (hE1.good.sub (x:=x) wd.good)
 rw [hE1t,tc] at p1 g1
 rw [hE1t,td] at p2 g2
 simp only [at_list] at p1 p2
 repeat refine⟨by omega,?_⟩
 refine wp_call p1 (DrR.ne g1) ?_
 rintro r o ⟨rfl,c3,d3,hd3,rfl,hc3⟩
 simp only [↓zq,zs,hasK,zt,hasL_sv hd3]
 repeat refine⟨by omega,?_⟩
 refine wp_call p2 (DrR.ne g2) ?_
 rintro r o ⟨rfl,c4,d4,hd4,rfl,hc4⟩
 simp only [↓zq,zs,hasK,zt,hasL_sv hd4]
 have big:∀t:Ty,chk t = none->¬ t.atoms<=400:=fun t ht hle=>by unfold chk at ht; rw [if_pos hle] at ht; cases ht
 have out0:(chk (sub x (.rc a) c) = none\/chk (sub x (.rc a) d) = none)->chk (drc a x c d) = none:=fun h=>by
  unfold chk
  rw [if_neg fun hle=>?_]
  have:=sub_atoms_le hle
  rcases h with h | h
  ·exact big _ h this.1
  ·exact big _ h this.2
 cases q3:chk (sub x (.rc a) c) with
 | none =>
  rw [out0 (.inl q3)]
  simp only [Option.isSome_none]
  exact⟨fun _=>DrR.no _ _ ((sp_has _).mpr trivial),fun h=>(by cases h)⟩
 | some c' =>
 cases q4:chk (sub x (.rc a) d) with
 | none =>
  rw [out0 (.inr q4)]
  simp only [Option.isSome_none,Option.isSome_some]
  exact⟨fun h=>(by cases h),fun _=>⟨fun _=>DrR.no _ _ ((sp_has _).mpr trivial),fun h=>(by cases h)⟩⟩
 | some d' =>
 simp only [Option.isSome_some]
 refine⟨fun h=>(by cases h),fun _=>⟨fun h=>(by cases h),fun _=>?_⟩⟩
 obtain⟨ec',wc',tc',rfl,rfl⟩:=hc3 c' q3
 obtain⟨ed',wd',td',rfl,rfl⟩:=hc4 d' q4
 obtain⟨lc',e3⟩:=chk_some.1 q3
 obtain⟨ld',e4⟩:=chk_some.1 q4
 rw [e3] at lc'; rw [e4] at ld'
 have z1:=wc'.sz
 have z2:=wd'.sz
 have k1:=wc'.ats_le tc' lc'
 have k2:=wd'.ats_le td' ld'
 have f1:=Sq2c wd' [] [] (.sl []) (.of []) (by simp; omega)
 have fl1:=fre_len ed' [] []
 have fl2:=fre_len ec' [] (fre ed' [] [])
 simp only [List.length_nil,Nat.zero_add] at fl1
 have f2:=Sq2c wc' [] (fre ed' [] []) (.sl []) (.of []) (by simp; omega)
 refine wp_detO f1 ?_
 simp only [↓zq,zs,hasK,zt,List.headD_cons,List.tail_cons,Ob.es]
 refine wp_detO f2 ?_
 simp only [↓zq,zs,hasK,zt,List.headD_cons,List.tail_cons,Ob.es]
 have hF3:∀y,(hasN y c' = true\/hasN y d' = true)->y∈fre ec' [] (fre ed' [] []):=fun y hy=>by
  rw [fre_mem wc',fre_mem wd']
  rcases hy with hy | hy
  ·exact .inr (by rw [tc']; exact hy)
  ·exact .inl (.inr (by rw [td']; exact hy))
 generalize fre ec' [] (fre ed' [] []) = F3 at *
 obtain⟨_,y2,_,hyF⟩:=nx_spec F3 0
 refine wp_loop1 (Lqcl F3 (by omega) _ _ _ _ ((sp_has _).mpr trivial) ((sp_has _).mpr trivial) (F3.length+1) 0 (by show nx F3 0 < _; omega) (by omega)) ?_
 have hnx:nxt F3 (F3.length+1) 0 = nx F3 0:=rfl
 rw [hnx]
 simp only [↓zq,zs,hasK,zt,hasK,hasC,has_slnil,sp_has]
 refine wp_det (Sq1q (nx F3 0+1) (nx F3 0) (by omega) (by omega)) ?_
 have hdl:=dd_len (nx F3 0+1) (nx F3 0) (by omega)
 simp only [↓zq,zs,hasK,zt,List.cons_append,List.nil_append]
 refine⟨by omega,?_⟩
 obtain⟨y,hyd⟩:∃y:Nm,(116::dd (nx F3 0):Nm) = y:=⟨_,rfl⟩
 rw [hyd]
 rw [show tN (nx F3 0) = y from hyd] at hyF
 have hy:okN y:=by rw [<-hyd]; exact tN_ok _
 have hcy:tyA ec' [y] = c':=by
  have:=tyA_pre [y] wc' [] (fun z hz hm=>hyF (by
   simp only [List.mem_singleton] at hm
   rw [<-hm]; exact hF3 z (.inl (by rw [<-tc']; exact hz))))
  rw [List.append_nil,tc'] at this; exact this
 have hdy:tyA ed' [y] = d':=by
  have:=tyA_pre [y] wd' [] (fun z hz hm=>hyF (by
   simp only [List.mem_singleton] at hm
   rw [<-hm]; exact hF3 z (.inr (by rw [<-td']; exact hz))))
  rw [List.append_nil,td'] at this; exact this
 have hyb:tyA (.atom y) [y] = .bound 0:=by
  simp only [tyA]; rw [if_neg hy.2.1,if_neg hy.2.2,show lastOf y [y] [y].length = some 0 from lastOf_same y []]
 let o1:E:=.list [.atom [42],ed',.atom y]
 let o2:E:=.list [.atom [43],ec',o1]
 let o3:E:=.list [.atom recN,.atom y,o2]
 have hw3:Wf o3:=.rc hy (.plus wc' (.times wd' (.atom hy.1)))
 have ht3:tyA o3 [] = drc a x c d:=by
  show tyA (.list [.atom recN,.atom y,o2]) [] = _
  rw [tyA_rc]
  show Ty.rc (tyA (.list [.atom [43],ec',o1]) [y]) = _
  rw [tyA_plus]
  show Ty.rc (.plus (tyA ec' [y]) (tyA (.list [.atom [42],ed',.atom y]) [y])) = _
  rw [tyA_times,hcy,hdy,hyb,drc,e3,e4]
 have m1:=Sq6 [42] ed' (.atom y)
 have m2:=Sq6 [43] ec' o1
 have m3:=Sq6 recN (.atom y) o2
 simp only [o1,at_list,at_atom'] at m1 m2 m3
 refine wp_det m1 ?_
 simp only [↓zq,zs,hasK,zt,sp_hasL]
 repeat refine⟨by omega,?_⟩
 refine wp_det m2 ?_
 simp only [↓zq,zs,hasK,zt,sp_hasL]
 repeat refine⟨by omega,?_⟩
 refine wp_det m3 ?_
 simp only [↓zq,zs,hasK,zt,sp_hasL]
 repeat refine⟨by omega,?_⟩
 have z3:=hw3.sz
 have hats3:o3.ats = ec'.ats+ed'.ats+5:=by simp only [o3,o2,o1,E.ats,E.atss]; omega
 have ma:=Sq13 o3 hw3.ok (by omega)
 rw [sav_sp] at ma
 simp only [o3,o2,o1,at_list] at ma
 refine wp_det ma ?_
 simp only [↓zq,zs,hasK,zt]
 have hd3:(drc a x c d).atoms = o3.ats:=by rw [<-ht3,<-hw3.ats []]
 unfold chk
 by_cases hle:(drc a x c d).atoms<=400
 ·rw [if_pos hle]
  have:=DrR.of hw3
  rw [ht3] at this
  rw [show decide ((((E.list [.atom recN,.atom y,.list [.atom [43],ec',.list [.atom [42],ed',.atom y]]]).ats:Nat):Int)<=400) = true from decide_eq_true (by show ((o3.ats:Nat):Int)<=400; omega)]
  exact this
 ·rw [if_neg hle]
  rw [show decide ((((E.list [.atom recN,.atom y,.list [.atom [43],ec',.list [.atom [42],ed',.atom y]]]).ats:Nat):Int)<=400) = false from decide_eq_false (by show ¬ ((o3.ats:Nat):Int)<=400; omega)]
  exact DrR.no _ _ ((sp_has o3).mpr trivial)
theorem Sq1g:∀n,DvS n
 | 0=>fun e s h hl=>by have:=atoms_pos (tyA e []); rw [<-h.ats []] at this; omega
 | n+1=>by
  intro e s h hl h4 hs
  cases h with
  | @atom c hc =>
   refine Fq2n _ _ _ ((sp_has _).mpr trivial) ?_
   simp only [tq1z,at_atom',↓zq,zs,hasK,zt]
   refine⟨fun _=>⟨fun he=>?_,fun hne=>?_⟩,fun h=>absurd h hc⟩
   ·have he:c = s:=he
    subst he
    rw [tyA_name hs,dvO_name,if_pos rfl]
    exact DrR.of (e:=.atom [49]) (.atom (by simp))
   ·have hne:¬ c = s:=hne
    have:dvO (tyA (.atom c) []) s = some .zero:=by
     simp only [tyA]
     split
     ·exact dvO_zero _
     ·split
      ·exact dvO_one _
      ·rw [show lastOf c [] ([]:List Nm).length = none from rfl,dvO_name,if_neg hne]
    rw [this]
    exact DrR.of (e:=.atom [48]) (.atom (by simp))
  | @plus x y hx hy =>
   have hxy:(E.list [.atom [43],x,y]).ats = x.ats+y.ats+1:=by simp only [E.ats,E.atss]; omega
   have p1:1<=x.ats:=by rw [hx.ats []]; exact atoms_pos _
   have p2:1<=y.ats:=by rw [hy.ats []]; exact atoms_pos _
   refine Fq2n _ _ _ ((sp_has _).mpr trivial) ?_
   have hP:=P3.of (.atom [43]) x y
   simp only [tq1z,at_list,toNat_one,toNat_two,↓zq,zs,hasK,zt,hP.1,hP.2.1,hP.2.2.1,hP.2.2.2,sp_hasL]
   refine⟨fun h=>absurd rfl h,fun _=>?_⟩
   refine wp_det (Sq0 [43] x y) ?_
   simp only [↓zq,zs,hasK,zt]
   refine⟨fun h=>by simp at h,fun _=>?_⟩
   repeat refine⟨by omega,?_⟩
   rw [tyA_plus,dvO_plus]
   refine wp_call (Sq1g n x s hx (by omega) (by omega) hs) (DrR.ne (dv_good hx)) ?_
   rintro r o ⟨rfl,c1,d1,hd1,rfl,hc1⟩
   simp only [↓zq,zs,hasK,zt,hasL_sv hd1]
   repeat refine⟨by omega,?_⟩
   refine wp_call (Sq1g n y s hy (by omega) (by omega) hs) (DrR.ne (dv_good hy)) ?_
   rintro r o ⟨rfl,c2,d2,hd2,rfl,hc2⟩
   simp only [↓zq,zs,hasK,zt,hasL_sv hd2]
   refine wp_det (Sq1m [43] c1 c2 d1 d2) ?_
   simp only [↓zq,zs,hasK,zt,hasL,has_str,has_sl]
   repeat refine⟨by omega,?_⟩
   refine wp_det (Sq0 [43] x y) ?_
   simp only [↓zq,zs,hasK,zt]
   refine⟨fun h=>by simp at h,fun _=>?_⟩
   cases q1:dvO (tyA x []) s with
   | none =>
    simp only [Option.isSome_none,Option.bind_none]
    exact⟨fun h=>(by cases h),fun _=>DrR.no _ _ ((has_sl _).mpr trivial)⟩
   | some tx =>
   cases q2:dvO (tyA y []) s with
   | none =>
    simp only [Option.isSome_none,Option.isSome_some,Option.bind_none,Option.bind_some]
    exact⟨fun _=>⟨fun h=>(by cases h),fun _=>DrR.no _ _ ((has_sl _).mpr trivial)⟩,fun h=>(by cases h)⟩
   | some t2 =>
   simp only [Option.isSome_some,Option.bind_some]
   refine⟨fun _=>⟨fun _=>?_,fun h=>(by cases h)⟩,fun h=>(by cases h)⟩
   obtain⟨e1,w1,te1,rfl,rfl⟩:=hc1 tx q1
   obtain⟨e2,w2,te2,rfl,rfl⟩:=hc2 t2 q2
   have l1:=w1.ats_le te1 (dvO_iff.1 q1).small
   have l2:=w2.ats_le te2 (dvO_iff.1 q2).small
   have z1:=w1.sz
   have z2:=w2.sz
   have hw3:Wf (.list [.atom [43],e1,e2]):=.plus w1 w2
   have ht3:tyA (.list [.atom [43],e1,e2]) [] = .plus tx t2:=by rw [tyA_plus,te1,te2]
   have ma:=Sq13 _ hw3.ok (by simp only [E.sz,E.szs]; omega)
   rw [sav_sp] at ma
   simp only [at_list] at ma
   have e3:AV.sl [[.v (.string (mk [43])),slz],[.v (.string (mk e1.at)),e1.sp],[.v (.string (mk e2.at)),e2.sp]] = (E.list [.atom [43],e1,e2]).sp:=by simp only [E.sp,E.scellss,scells_sp]; rfl
   rw [e3]
   refine wp_det ma ?_
   simp only [↓zq,zs,hasK,zt]
   have hd3:(Ty.plus tx t2).atoms = (E.list [.atom [43],e1,e2]).ats:=by rw [<-ht3,<-hw3.ats []]
   unfold chk
   by_cases hle:(Ty.plus tx t2).atoms<=400
   ·rw [if_pos hle,show decide ((((E.list [.atom [43],e1,e2]).ats:Nat):Int)<=400) = true from decide_eq_true (by omega)]
    have:=DrR.of hw3
    rw [ht3] at this
    exact this
   ·rw [if_neg hle,show decide ((((E.list [.atom [43],e1,e2]).ats:Nat):Int)<=400) = false from decide_eq_false (by omega)]
    exact DrR.no _ _ ((sp_has _).mpr trivial)
  | @times x y hx hy =>
   have hxy:(E.list [.atom [42],x,y]).ats = x.ats+y.ats+1:=by simp only [E.ats,E.atss]; omega
   have p1:1<=x.ats:=by rw [hx.ats []]; exact atoms_pos _
   have p2:1<=y.ats:=by rw [hy.ats []]; exact atoms_pos _
   refine Fq2n _ _ _ ((sp_has _).mpr trivial) ?_
   have hP:=P3.of (.atom [42]) x y
   simp only [tq1z,at_list,toNat_one,toNat_two,↓zq,zs,hasK,zt,hP.1,hP.2.1,hP.2.2.1,hP.2.2.2,sp_hasL]
   refine⟨fun h=>absurd rfl h,fun _=>?_⟩
   refine wp_det (Sq0 [42] x y) ?_
   simp only [↓zq,zs,hasK,zt]
   refine⟨fun h=>by simp at h,fun _=>?_⟩
   repeat refine⟨by omega,?_⟩
   rw [tyA_times,dvO_times]
   refine wp_call (Sq1g n x s hx (by omega) (by omega) hs) (DrR.ne (dv_good hx)) ?_
   rintro r o ⟨rfl,c1,d1,hd1,rfl,hc1⟩
   simp only [↓zq,zs,hasK,zt,hasL_sv hd1]
   repeat refine⟨by omega,?_⟩
   refine wp_call (Sq1g n y s hy (by omega) (by omega) hs) (DrR.ne (dv_good hy)) ?_
   rintro r o ⟨rfl,c2,d2,hd2,rfl,hc2⟩
   simp only [↓zq,zs,hasK,zt,hasL_sv hd2]
   refine wp_det (Sq1m [43] c1 c2 d1 d2) ?_
   simp only [↓zq,zs,hasK,zt,hasL,has_str,has_sl]
   repeat refine⟨by omega,?_⟩
   refine wp_det (Sq0 [42] x y) ?_
   simp only [↓zq,zs,hasK,zt]
   refine⟨fun _=>?_,fun h=>by simp at h⟩
   repeat refine⟨by omega,?_⟩
   refine wp_det (Sq1m [42] c1 y.at d1 y.sp) ?_
   simp only [↓zq,zs,hasK,zt,hasL,has_str,has_sl,sp_has]
   repeat refine⟨by omega,?_⟩
   refine wp_det (Sq1m [42] x.at c2 x.sp d2) ?_
   simp only [↓zq,zs,hasK,zt,hasL,has_str,has_sl,sp_has]
   repeat refine⟨by omega,?_⟩
   refine wp_det (Sq1m [43] [] [] _ _) ?_
   simp only [↓zq,zs,hasK,zt,hasL,has_str,has_sl]
   repeat refine⟨by omega,?_⟩
   cases q1:dvO (tyA x []) s with
   | none =>
    simp only [Option.isSome_none,Option.bind_none]
    exact⟨fun h=>(by cases h),fun _=>DrR.no _ _ ((has_sl _).mpr trivial)⟩
   | some tx =>
   cases q2:dvO (tyA y []) s with
   | none =>
    simp only [Option.isSome_none,Option.isSome_some,Option.bind_none,Option.bind_some]
    exact⟨fun _=>⟨fun h=>(by cases h),fun _=>DrR.no _ _ ((has_sl _).mpr trivial)⟩,fun h=>(by cases h)⟩
   | some t2 =>
   simp only [Option.isSome_some,Option.bind_some]
   refine⟨fun _=>⟨fun _=>?_,fun h=>(by cases h)⟩,fun h=>(by cases h)⟩
   obtain⟨e1,w1,te1,rfl,rfl⟩:=hc1 tx q1
   obtain⟨e2,w2,te2,rfl,rfl⟩:=hc2 t2 q2
   have l1:=w1.ats_le te1 (dvO_iff.1 q1).small
   have l2:=w2.ats_le te2 (dvO_iff.1 q2).small
   have z1:=w1.sz
   have z2:=w2.sz
   have z3:=hx.sz
   have z4:=hy.sz
   have hw3:Wf (.list [.atom [43],.list [.atom [42],e1,y],.list [.atom [42],x,e2]]):=.plus (.times w1 hy) (.times hx w2)
   have ht3:tyA (.list [.atom [43],.list [.atom [42],e1,y],.list [.atom [42],x,e2]]) [] = .plus (.times tx (tyA y [])) (.times (tyA x []) t2):=by rw [tyA_plus,tyA_times,tyA_times,te1,te2]
   have ma:=Sq13 _ hw3.ok (by simp only [E.sz,E.szs]; omega)
   rw [sav_sp] at ma
   simp only [at_list] at ma
   have e3:AV.sl [[.v (.string (mk [43])),slz],[.v (.string (mk [])),.sl [[.v (.string (mk [42])),slz],[.v (.string (mk e1.at)),e1.sp],[.v (.string (mk y.at)),y.sp]]],[.v (.string (mk [])),.sl [[.v (.string (mk [42])),slz],[.v (.string (mk x.at)),x.sp],[.v (.string (mk e2.at)),e2.sp]]]] = (E.list [.atom [43],.list [.atom [42],e1,y],.list [.atom [42],x,e2]]).sp:=by simp only [E.sp,E.scellss,scells_sp]; rfl
   rw [e3]
   refine wp_det ma ?_
   simp only [↓zq,zs,hasK,zt]
   have hd3:(Ty.plus (.times tx (tyA y [])) (.times (tyA x []) t2)).atoms = (E.list [.atom [43],.list [.atom [42],e1,y],.list [.atom [42],x,e2]]).ats:=by rw [<-ht3,<-hw3.ats []]
   unfold chk
   by_cases hle:(Ty.plus (.times tx (tyA y [])) (.times (tyA x []) t2)).atoms<=400
   ·rw [if_pos hle,show decide ((((E.list [.atom [43],.list [.atom [42],e1,y],.list [.atom [42],x,e2]]).ats:Nat):Int)<=400) = true from decide_eq_true (by omega)]
    have:=DrR.of hw3
    rw [ht3] at this
    exact this
   ·rw [if_neg hle,show decide ((((E.list [.atom [43],.list [.atom [42],e1,y],.list [.atom [42],x,e2]]).ats:Nat):Int)<=400) = false from decide_eq_false (by omega)]
    exact DrR.no _ _ ((sp_has _).mpr trivial)
  | @rc m B hm hB =>
   have hlp:=Sqey n (Sq1g n) m B hm hB hl h4 s hs
   have hg:=dv_good (s:=s) (Wf.rc hm hB)
   refine Fq2n _ _ _ ((sp_has _).mpr trivial) ?_
   have hP:=P3.of (.atom recN) (.atom m) B
   simp only [tq1z,at_list,toNat_one,toNat_two,↓zq,zs,hasK,zt,hP.1,hP.2.1,hP.2.2.1,hP.2.2.2,sp_hasL]
   refine⟨fun h=>absurd rfl h,fun _=>?_⟩
   refine wp_det (Sq0 recN (.atom m) B) ?_
   simp only [↓zq,zs,hasK,zt]
   refine⟨fun _=>?_,fun h=>absurd rfl h⟩
   refine wp_call hlp (DrR.ne hg) ?_
   rintro r o ⟨rfl,c1,d1,hd1,rfl,hc1⟩
   simp only [↓zq,zs,hasK,zt,hasL_sv hd1]
   exact⟨rfl,c1,d1,hd1,rfl,hc1⟩
end Go.Proofs.Trees
namespace Go.Proofs.Trees
open Go Go.VL Go.RowKit
theorem dd_len8:∀(n k:Nat),k < 10 ^ (n+1)->(dd k).length<=n+1
 | 0,k,h=>by rw [dd_one (by omega)]; simp
 | n+1,k,h=>by
  by_cases h1:k < 10
  ·rw [dd_one h1]; simp
  ·rw [dd_more h1]
   have:=dd_len8 n (k / 10) (by
    have:10 ^ (n+1+1) = 10*10 ^ (n+1):=by rw [Nat.pow_succ,Nat.mul_comm]
    omega)
   simp; omega
inductive Sh:E->Prop
 | atom {s:Nm} (h:s.length<=20):Sh (.atom s)
 | l3 {h:Nm} {a b:E} (hh:h.length<=20) (ha:Sh a) (hb:Sh b):Sh (.list [.atom h,a,b])
theorem Sh.txt {e:E} (hw:Wf e) (h:Sh e):(txE e).length<=50*e.ats:=by
 induction hw with
 | atom _=>cases h with | atom h=>simp only [txE,E.ats]; omega
 | plus _ _ i1 i2 =>
  cases h with | l3 hh ha hb =>
  have:=i1 ha
  have:=i2 hb
  simp only [txE,txEs,List.length_cons,List.length_append,List.length_nil,E.ats,E.atss]; omega
 | times _ _ i1 i2 =>
  cases h with | l3 hh ha hb =>
  have:=i1 ha
  have:=i2 hb
  simp only [txE,txEs,List.length_cons,List.length_append,List.length_nil,E.ats,E.atss]; omega
 | rc _ _ i =>
  cases h with | l3 hh ha hb =>
  cases ha with | atom ha =>
  have:=i hb
  simp only [txE,txEs,List.length_cons,List.length_append,List.length_nil,E.ats,E.atss]; omega
def shN (t:Ty):Prop:=∀y,hasN y t = true->y.length<=20
theorem tN_len {k:Nat} (h:k < 100000000):(tN k).length<=20:=by
 have:=dd_len8 7 k (by omega)
 simp; omega
theorem cnT_sh (F:List Nm) (hF:F.length<=10000):∀(t:Ty) (to:List Nm) (k:Nat),shN t->(∀w,w∈to->w.length<=20)->k+(F.length+1)*t.atoms < 90000000->Sh (cnT F t to k).1
 | .zero,_,_,_,_,_=>.atom (by simp)
 | .one,_,_,_,_,_=>.atom (by simp)
 | .name s,_,_,hn,_,_=>.atom (hn s (by simp [hasN]))
 | .bound u,to,_,_,ht,_=>by
  refine .atom ?_
  show (nmAt to u).length<=20
  unfold nmAt
  by_cases h:to.length - 1 - u < to.length
  ·rw [List.getD_eq_getElem?_getD,List.getElem?_eq_getElem h]; exact ht _ (List.getElem_mem h)
  ·rw [List.getD_eq_getElem?_getD,List.getElem?_eq_none (by omega)]; simp
 | .plus a b,to,k,hn,ht,hk=>by
  have h1:=cnT_le F a to k
  have:(F.length+1)*(1+a.atoms+b.atoms) = (F.length+1)+(F.length+1)*a.atoms+(F.length+1)*b.atoms:=by simp only [Nat.mul_add,Nat.mul_one]
  simp only [Ty.atoms] at hk
  exact .l3 (by simp) (cnT_sh F hF a to k (fun y hy=>hn y (by simp [hasN,hy])) ht (by omega)) (cnT_sh F hF b to _ (fun y hy=>hn y (by simp [hasN,hy])) ht (by omega))
 | .times a b,to,k,hn,ht,hk=>by
  have h1:=cnT_le F a to k
  have:(F.length+1)*(1+a.atoms+b.atoms) = (F.length+1)+(F.length+1)*a.atoms+(F.length+1)*b.atoms:=by simp only [Nat.mul_add,Nat.mul_one]
  simp only [Ty.atoms] at hk
  exact .l3 (by simp) (cnT_sh F hF a to k (fun y hy=>hn y (by simp [hasN,hy])) ht (by omega)) (cnT_sh F hF b to _ (fun y hy=>hn y (by simp [hasN,hy])) ht (by omega))
 | .rc a,to,k,hn,ht,hk=>by
  obtain⟨g1,g2,_,_⟩:=nx_spec F k
  have:(F.length+1)*(2+a.atoms) = (F.length+1)*2+(F.length+1)*a.atoms:=by simp only [Nat.mul_add]
  simp only [Ty.atoms] at hk
  have hl:=tN_len (k:=nx F k) (by omega)
  exact .l3 (by simp) (.atom hl) (cnT_sh F hF a _ _ hn (fun w hw=>by
   rcases List.mem_append.1 hw with hw | hw
   ·exact ht w hw
   ·simp only [List.mem_singleton] at hw; rw [hw]; exact hl) (by omega))
def cnX (t:Ty):Nm:=txE (cnT (namesOf t []) t [] 0).1
def told (t:Ty):Option Nm:=if t.atoms<=400/\(rdY (cnX t)).isSome = true then some (cnX t) else none
theorem cnX_len {t:Ty} (g:goodT t) (hs:shN t) (ha:t.atoms<=400):(cnX t).length<=20000:=by
 obtain⟨h1,h2,_⟩:=cnT_ok (namesOf t []) t [] 0 (.nil _ _) g.1 fun y hy=>⟨(namesOf_mem t [] y).2 (.inr hy),g.2 y hy⟩
 have hn:=namesOf_len t []
 simp only [List.length_nil,Nat.zero_add] at hn
 have hm:((namesOf t []).length+1)*t.atoms<=401*400:=Nat.mul_le_mul (by omega) ha
 have:=(cnT_sh (namesOf t []) (by omega) t [] 0 hs (fun w hw=>by cases hw) (by omega)).txt h1
 have:=h1.ats_le h2 ha
 unfold cnX; omega
theorem rdE_rdY (s:Nm):(rdE s).isSome = (rdY s).isSome:=by
 rw [rdY_of]
 cases he:rdE s with
 | none=>rfl
 | some e =>
  obtain⟨h1,h2,h3⟩:=rdE_ok he
  simp only [tyOf_some e [],h2]; rfl
theorem Sqe5 (s:Nm):FSpec Tryz.prog 108 [.v (.string (mk s))] [] (Det (.v (.bool (rdY s).isSome))):=by
 refine Fqdd _ ?_
 unfold tq7q
 refine wp_call (Sq4y s) (ParR.ne _ _ (fun h=>h)) ?_
 rintro r o ⟨c,d,hd,rfl,hh⟩
 have hhas:hasL [.str,.sl] [.v (.string (mk c)),d] 0:=by simp [hasL,has_str,hd]
 simp only [↓zq,zs,hasK,zt,rdE_rdY]
 exact⟨hhas,rfl,rfl⟩
theorem Sqfc {e:E} (h:Wf e) (hl:e.ats<=400) (hs:shN (tyA e [])):FSpec Tryz.prog 67 [.agg [.v (.string (mk e.at)),e.sp]] [] (Det (optS (told (tyA e [])))):=by
 refine Fqex _ _ ((sp_has _).mpr trivial) ?_
 unfold tqcg
 have z:=h.sz
 have ma:=Sq13 e h.ok (by omega)
 rw [sav_sp] at ma
 have hA:=Sq4r h slz [] ⟨(has_slnil).mpr trivial,rfl⟩ (by omega) (fun o ho=>by cases ho) (by simp)
 have ha:(tyA e []).atoms<=400:=by rw [<-h.ats []]; exact hl
 have hc:apT e [] = (cnT (namesOf (tyA e []) []) (tyA e []) [] 0).1:=by
  unfold apT apN fres
  rw [List.flatMap_nil,List.append_nil,cnT_congr (F':=namesOf (tyA e []) []) fun y=>by rw [fre_mem h,namesOf_mem]]
 have hx:txE (apT e []) = cnX (tyA e []):=by rw [hc]; rfl
 have hlen:=cnX_len h.good hs ha
 have hT:=Sq2h (apT e []) (apT_ok h).1.ok (by rw [hx]; omega)
 rw [sav_sp,hx] at hT
 refine wp_det ma ?_
 simp only [↓zq,zs,hasK,zt]
 refine⟨fun h=>by omega,fun _=>?_⟩
 refine wp_det hA ?_
 simp only [↓zq,zs,hasK,zt,sp_hasL]
 refine wp_det hT ?_
 simp only [↓zq,zs,hasK,zt]
 refine wp_det (Sqe5 _) ?_
 simp only [↓zq,zs,hasK,zt]
 unfold told
 refine⟨fun hn=>?_,fun hy=>?_⟩
 ·rw [if_neg (by rw [hn]; simp)]; exact⟨rfl,rfl⟩
 ·rw [if_pos ⟨ha,hy⟩]; exact⟨rfl,rfl⟩
abbrev one1N:Nm:=[35,49]
noncomputable def derLoop (s:Nm):Option Nm:=match rdY s with
 | some (.rc a)=>(lpO a one1N).bind told
 | _=>none
theorem rdY_wf {s:Nm} {t:Ty} (h:rdY s = some t):∃e,rdE s = some e/\Wf e/\tyA e [] = t/\e.ats<=400/\e.ok:=by
 rw [rdY_of] at h
 cases he:rdE s with
 | none=>rw [he] at h; cases h
 | some e =>
  rw [he] at h
  obtain⟨h1,h2,h3⟩:=rdE_ok he
  obtain⟨hok,_⟩:=rdT_ok h1
  obtain⟨w1,w2⟩:=wf_tyOf e [] t hok (fun w hw=>by cases hw) h
  exact⟨e,rfl,w1,w2,h3,hok⟩
theorem lpO_good {e:E} {x:Nm} {a d:Ty} (hw:Wf e) (ht:tyA e [] = .rc a) (hx:okN x) (hd:lpO a x = some d):goodT d/\(shN (.rc a)->shN d):=by
 simp only [lpO,Option.bind_eq_some_iff,dvO_iff,chk_some] at hd
 obtain⟨d',h1,_,rfl⟩:=hd
 have g:goodT (.rc a):=ht ▸ hw.good
 have go:goodT (opn (.name x) a 0):=⟨lc_opn x a g.1,fun y hy=>by
  rcases has_opn a 0 hy with rfl | h
  ·exact hx
  ·exact g.2 y h⟩
 refine⟨g.sub (go.dv h1),fun hs y hy=>?_⟩
 rcases has_sub _ hy with h | ⟨h,h'⟩
 ·exact hs y h
 ·rcases has_opn a 0 (h1.names y h') with e | e
  ·exact absurd e h
  ·exact hs y e
def rdN (y:Nm):Prop:=isPar y = true\/isLoo y = true
theorem tyOf_names:∀(e:E) (ar:List Nm) (t:Ty),tyOf e ar = some t->∀y,hasN y t = true->rdN y
 | .atom s,ar,t,ht,y,hy=>by
  simp only [tyOf] at ht
  split at ht
  ·cases ht; cases hy
  ·split at ht
   ·cases ht; cases hy
   ·split at ht
    ·rename_i hp
     cases ht
     simp only [hasN,decide_eq_true_eq] at hy
     subst hy; exact .inl hp
    ·split at ht
     ·rename_i hq
      split at ht
      ·cases ht; cases hy
      ·cases ht
       simp only [hasN,decide_eq_true_eq] at hy
       subst hy; exact .inr hq
     ·cases ht
 | .list [x,a,b],ar,t,ht,y,hy=>by
  by_cases h0:x.at = [43]
  ·obtain⟨t1,t2,h1,h2,rfl⟩:=tyOf_plus_inv h0 ht
   simp only [hasN,Bool.or_eq_true] at hy
   rcases hy with hy | hy
   ·exact tyOf_names a ar t1 h1 y hy
   ·exact tyOf_names b ar t2 h2 y hy
  ·by_cases h1:x.at = [42]
   ·obtain⟨t1,t2,h2,h3,rfl⟩:=tyOf_times_inv h1 ht
    simp only [hasN,Bool.or_eq_true] at hy
    rcases hy with hy | hy
    ·exact tyOf_names a ar t1 h2 y hy
    ·exact tyOf_names b ar t2 h3 y hy
   ·by_cases h2:x.at = [114,101,99]
    ·obtain⟨t1,hla,h3,rfl⟩:=tyOf_rec_inv h2 ht
     exact tyOf_names b _ t1 h3 y hy
    ·rw [tyOf_no _ h0 h1 h2] at ht; cases ht
 | .list [],ar,t,ht,_,_=>by cases ht
 | .list [_],ar,t,ht,_,_=>by cases ht
 | .list [_,_],ar,t,ht,_,_=>by cases ht
 | .list (_::_::_::_::_),ar,t,ht,_,_=>by cases ht
theorem rdN_ok {y:Nm} (h:rdN y):y.length<=3/\∀r,y≠35::r:=by
 have key:∀lo hi,116<=lo->named lo hi y = true->y.length<=3/\∀r,y≠35::r:=fun lo hi hlo h=>by
  cases y with
  | nil=>cases h
  | cons c r =>
   simp only [named,Bool.and_eq_true,decide_eq_true_eq] at h
   refine⟨by simp; omega,fun r' e=>?_⟩
   have:c = 35:=by injection e
   subst this
   have:=h.1.2.1
   have e35:(35:UInt8).toNat = 35:=rfl
   omega
 rcases h with h | h
 ·exact key 120 122 (by omega) h
 ·exact key 116 116 (by omega) h
theorem rdY_names {s:Nm} {t:Ty} (h:rdY s = some t):∀y,hasN y t = true->rdN y:=by
 rw [rdY_of] at h
 cases he:rdE s with
 | none=>rw [he] at h; cases h
 | some e=>rw [he] at h; exact tyOf_names e [] t h
theorem fresh1 {s:Nm} {a:Ty} (h:rdY s = some (.rc a)):hasN one1N a = false:=by
 cases q:hasN one1N a with
 | false=>rfl
 | true=>exact absurd rfl ((rdN_ok (rdY_names h one1N q)).2 [49])
theorem rdY_sh {s:Nm} {t:Ty} (h:rdY s = some t):shN t:=fun y hy=>by have:=(rdN_ok (rdY_names h y hy)).1; omega
theorem Sqfh {m:Nm} {B:E} (hm:okN m) (hB:Wf B) (hl:(E.list [.atom recN,.atom m,B]).ats<=400):FSpec Tryz.prog 66 [.agg [.v (.string (mk [])),(E.list [.atom recN,.atom m,B]).sp]] [] (DrR (lpO (tyA B [m]) m)):=by
 have hw:Wf (.list [.atom recN,.atom m,B]):=.rc hm hB
 have hT:tyA (.list [.atom recN,.atom m,B]) [] = .rc (tyA B [m]):=tyA_rc _ _ _
 have hP:=P3.of (.atom recN) (.atom m) B
 have hbo:tyA B [] = opn (.name m) (tyA B [m]) 0:=by
  have:=tyA_opn m hB []
  rw [List.append_nil] at this; exact this
 have hba:B.ats+2 = (E.list [.atom recN,.atom m,B]).ats:=by simp only [E.ats,E.atss]; omega
 have i1:=Sq1g 400 B m hB (by omega) (by omega) hm
 have n1:=dv_good (s:=m) hB
 rw [hbo] at i1 n1
 refine Fqd1 _ _ ((sp_has _).mpr trivial) ?_
 simp only [tq6z,at_list,toNat_one,toNat_two,↓zq,zs,hasK,zt,hP.1,hP.2.1,hP.2.2.1,hP.2.2.2,sp_hasL,at_atom']
 repeat refine⟨by omega,?_⟩
 refine wp_call i1 (DrR.ne n1) ?_
 rintro r o ⟨rfl,c1,d1,hd1,rfl,hc1⟩
 simp only [↓zq,zs,hasK,zt,hasL_sv hd1,lpO]
 cases q1:dvO (opn (.name m) (tyA B [m]) 0) m with
 | none =>
  simp only [Option.isSome_none,Option.bind_none]
  exact⟨fun _=>DrR.no _ _ ((sp_has _).mpr trivial),fun h=>(by cases h)⟩
 | some d =>
  simp only [Option.isSome_some,Option.bind_some]
  refine⟨fun h=>(by cases h),fun _=>?_⟩
  obtain⟨ed,wd,td,rfl,rfl⟩:=hc1 d q1
  have p1:=Sq5f hm wd hw (wd.ats_le td (dvO_iff.1 q1).small) hl
  have g1:=chk_good (hw.good.sub (x:=m) wd.good)
  rw [hT,td] at p1 g1
  simp only [at_list] at p1
  repeat refine⟨by omega,?_⟩
  refine wp_call p1 (DrR.ne g1) ?_
  rintro r o ⟨rfl,c2,d2,hd2,rfl,hc2⟩
  simp only [↓zq,zs,hasK,zt,hasL_sv hd2]
  exact⟨rfl,c2,d2,hd2,rfl,hc2⟩
theorem Sq7b (s:Nm):FSpec Tryz.prog 46 [.v (.string (mk s))] [] (Det (optS (derLoop s))):=by
 refine Fqd7 _ ?_
 unfold tq7h
 refine wp_call (Sq4y s) (ParR.ne _ _ (fun h=>h)) ?_
 rintro r o ⟨c,d,hd,rfl,hh⟩
 have hhas:hasL [.str,.sl] [.v (.string (mk c)),d] 0:=by simp [hasL,has_str,hd]
 simp only [↓zq,zs,hasK,zt]
 refine⟨hhas,fun h=>?_,fun h=>?_⟩
 ·rw [rdE_rdY] at h
  have:rdY s = none:=by cases hq:rdY s<;>simp [hq] at h |-
  unfold derLoop; rw [this]; exact⟨rfl,rfl⟩
 ·rw [rdE_rdY] at h
  obtain⟨t,ht⟩:=Option.isSome_iff_exists.1 h
  obtain⟨e,he,hw,hte,hats,hok⟩:=rdY_wf ht
  obtain⟨e',he',hce⟩:=hh (by rw [he]; rfl)
  rw [he] at he'; cases he'
  have notRec:(∀a,t≠.rc a)->derLoop s = none:=fun hn=>by
   unfold derLoop; rw [ht]
   cases t<;>first | rfl | exact absurd rfl (hn _)
  rw [hce,sav_sp]
  cases hw with
  | @atom c hc =>
   have hn:derLoop s = none:=notRec fun a q=>by
    rw [<-hte] at q
    simp only [tyA] at q
    split at q
    ·cases q
    ·split at q
     ·cases q
     ·split at q<;>cases q
   rw [hn]
   refine wp_det (Sq2b c _ ((sp_has _).mpr trivial) hc) ?_
   simp only [↓zq,zs,hasK,zt]
   exact⟨fun _=>⟨rfl,rfl⟩,fun h=>by simp at h⟩
  | @plus x y hx hy =>
   have hn:derLoop s = none:=notRec fun a q=>by rw [<-hte,tyA_plus] at q; cases q
   rw [hn]
   simp only [at_list]
   refine wp_det (Sq0 [43] x y) ?_
   simp only [↓zq,zs,hasK,zt]
   exact⟨fun _=>⟨rfl,rfl⟩,fun h=>by simp at h⟩
  | @times x y hx hy =>
   have hn:derLoop s = none:=notRec fun a q=>by rw [<-hte,tyA_times] at q; cases q
   rw [hn]
   simp only [at_list]
   refine wp_det (Sq0 [42] x y) ?_
   simp only [↓zq,zs,hasK,zt]
   exact⟨fun _=>⟨rfl,rfl⟩,fun h=>by simp at h⟩
  | @rc m B hm hB =>
   have hrt:tyA (.list [.atom recN,.atom m,B]) [] = .rc (tyA B [m]):=tyA_rc _ _ _
   rw [hrt] at hte
   have hq:derLoop s = (lpO (tyA B [m]) m).bind told:=by
    unfold derLoop; rw [ht,<-hte]
    show (lpO (tyA B [m]) one1N).bind told = _
    rw [lpO_eq (fresh1 (by rw [ht,<-hte])) (by
     cases q:hasN m (tyA B [m]) with
     | false=>rfl
     | true=>exact absurd (by simp) (wfE_names hB [m] m q).2)]
   rw [hq]
   simp only [at_list]
   refine wp_det (Sq0 recN (.atom m) B) ?_
   simp only [↓zq,zs,hasK,zt]
   refine⟨fun h=>by simp at h,fun _=>?_⟩
   have hgood:∀d,lpO (tyA B [m]) m = some d->goodT d/\(shN (.rc (tyA B [m]))->shN d):=fun d hd=>lpO_good (Wf.rc hm hB) hrt hm hd
   refine wp_call (Sqfh hm hB hats) (DrR.ne fun t h=>(hgood t h).1) ?_
   rintro r o ⟨rfl,c1,d1,hd1,rfl,hc1⟩
   simp only [↓zq,zs,hasK,zt,hasL_sv hd1]
   cases q1:lpO (tyA B [m]) m with
   | none =>
    simp only [Option.isSome_none,Option.bind_none]
    exact⟨fun _=>⟨rfl,rfl⟩,fun h=>(by cases h)⟩
   | some d =>
    simp only [Option.isSome_some,Option.bind_some]
    refine⟨fun h=>(by cases h),fun _=>?_⟩
    obtain⟨ed,wd,td,rfl,rfl⟩:=hc1 d q1
    have hl:d.atoms<=400:=by
     simp only [lpO,Option.bind_eq_some_iff,chk_some] at q1
     obtain⟨_,_,h1,h2⟩:=q1
     rw [<-h2]; exact h1
    have hcn:=Sqfc wd (wd.ats_le td hl) (by rw [td]; exact(hgood d q1).2 (hte ▸ rdY_sh ht))
    rw [td] at hcn
    refine wp_det hcn ?_
    cases told d<;>simp only [optS,↓zq,zs,hasK,zt]<;>exact⟨rfl,rfl⟩
end Go.Proofs.Trees
namespace Go.Proofs.Trees
open Go Go.VL Go.RowKit
def vT (n:Nat):Vl->Ty->Bool
 | .u,.one=>true
 | .el k,.name _=>decide (k < n)
 | .l w,.plus a _=>vT n w a
 | .r w,.plus _ b=>vT n w b
 | .p x y,.times a b=>vT n x a&&vT n y b
 | .f w,.rc a=>vT n w (opn (.rc a) a 0)
 | _,_=>false
def cls (us:List Ty):Ty->Nat->Ty
 | .bound k,i=>if k < i then .bound k else us.getD (k - i) .zero
 | .plus a b,i=>.plus (cls us a i) (cls us b i)
 | .times a b,i=>.times (cls us a i) (cls us b i)
 | .rc a,i=>.rc (cls us a (i+1))
 | t,_=>t
def usF:List Fr->List Ty
 | []=>[]
 | f::r=>cls (usF r) (tyD f.ex r) 0::usF r
theorem opn_lc (u:Ty):∀(t:Ty) {i:Nat},lcT t i->opn u t i = t
 | .bound k,i,h=>by simp only [opn]; rw [if_neg (by have:k < i:=h; omega)]
 | .plus a b,i,h=>by simp only [opn]; rw [opn_lc u a h.1,opn_lc u b h.2]
 | .times a b,i,h=>by simp only [opn]; rw [opn_lc u a h.1,opn_lc u b h.2]
 | .rc a,i,h=>by simp only [opn]; rw [opn_lc u a (i:=i+1) h]
 | .zero,_,_=>rfl
 | .one,_,_=>rfl
 | .name _,_,_=>rfl
theorem cls_lc (us:List Ty):∀(t:Ty) {i:Nat},lcT t i->cls us t i = t
 | .bound k,i,h=>by simp only [cls]; rw [if_pos (by have:k < i:=h; omega)]
 | .plus a b,i,h=>by simp only [cls]; rw [cls_lc us a h.1,cls_lc us b h.2]
 | .times a b,i,h=>by simp only [cls]; rw [cls_lc us a h.1,cls_lc us b h.2]
 | .rc a,i,h=>by simp only [cls]; rw [cls_lc us a (i:=i+1) h]
 | .zero,_,_=>rfl
 | .one,_,_=>rfl
 | .name _,_,_=>rfl
theorem getD_lc {us:List Ty} (hu:∀u,u∈us->lcT u 0) (k:Nat):lcT (us.getD k .zero) 0:=by
 by_cases h:k < us.length
 ·rw [List.getD_eq_getElem?_getD,List.getElem?_eq_getElem h]; exact hu _ (List.getElem_mem h)
 ·rw [List.getD_eq_getElem?_getD,List.getElem?_eq_none (by omega)]; trivial
theorem lc_cls {us:List Ty} (hu:∀u,u∈us->lcT u 0):∀(t:Ty) (i:Nat),lcT (cls us t i) i
 | .bound k,i=>by
  simp only [cls]
  split
  ·rename_i h; exact h
  ·exact lc_mono _ (getD_lc hu _) (Nat.zero_le _)
 | .plus a b,i=>⟨lc_cls hu a i,lc_cls hu b i⟩
 | .times a b,i=>⟨lc_cls hu a i,lc_cls hu b i⟩
 | .rc a,i=>lc_cls hu a (i+1)
 | .zero,_=>trivial
 | .one,_=>trivial
 | .name _,_=>trivial
theorem opn_cls {us:List Ty} (hu:∀u,u∈us->lcT u 0) (U:Ty):∀(t:Ty) (i:Nat),opn U (cls us t (i+1)) i = cls (U::us) t i
 | .bound k,i=>by
  simp only [cls]
  by_cases h1:k < i
  ·rw [if_pos (by omega),if_pos h1]; simp only [opn]; rw [if_neg (by omega)]
  ·rw [if_neg h1]
   by_cases h2:k = i
   ·subst h2; rw [if_pos (by omega)]; simp [opn]
   ·rw [if_neg (by omega),opn_lc U _ (lc_mono _ (getD_lc hu _) (Nat.zero_le _)),show k - i = (k - (i+1))+1 by omega,List.getD_cons_succ]
 | .plus a b,i=>by simp only [cls,opn]; rw [opn_cls hu U a i,opn_cls hu U b i]
 | .times a b,i=>by simp only [cls,opn]; rw [opn_cls hu U a i,opn_cls hu U b i]
 | .rc a,i=>by simp only [cls,opn]; rw [opn_cls hu U a (i+1)]
 | .zero,_=>rfl
 | .one,_=>rfl
 | .name _,_=>rfl
theorem usF_lc:∀env:List Fr,∀u,u∈usF env->lcT u 0
 | [],u,h=>by cases h
 | f::r,u,h=>by
  rcases List.mem_cons.1 h with rfl | h
  ·exact lc_cls (usF_lc r) _ 0
  ·exact usF_lc r u h
theorem usF_get {env:List Fr} (h:WF env):∀{u:Nat} {g:Fr},env[u]? = some g->(usF env).getD u .zero = cls (usF g.out) (tyD g.ex g.out) 0:=by
 induction h with
 | nil=>intro u g hg; simp at hg
 | cons hs hok hx ht hf hr ih =>
  intro u g hg
  cases u with
  | zero=>simp at hg; subst hg; rfl
  | succ u =>
   have:=ih (u:=u) (g:=g) (by simpa using hg)
   simpa [usF] using this
end Go.Proofs.Trees
