/-
  Part of a proof: Go functions read by values, trees of functions, their contracts.
-/
import Derived.Test.YthcjhageibaepabGreatDoorP5
set_option linter.unusedVariables false
set_option linter.unusedSimpArgs false
open Bool renaming and_eq_true→aA,eq_iff_iff→cK,or_eq_false_iff→ct,or_eq_true→bH,true_and→cb
open ByteArray renaming toList→af
open Int renaming toNat_natCast→bx
open List renaming all_cons→dj,all_eq_true→cd,append_assoc→a6,append_nil→dh,cons_append→bf,drop_eq_getElem_cons→aM,drop_zero→a7,eq_nil_of_length_eq_zero→bO,flatMap_cons→bU,getD_cons_zero→bF,getD_eq_getElem?_getD→aa,getElem?_eq_getElem→bp,getElem_mem→bn,headD_cons→aK,length_append→an,length_cons→aw,length_map→cr,length_nil→aE,map_cons→bo,mem_append→aO,mem_append_left→aD,mem_append_right→aB,mem_cons→aI,mem_cons_of_mem→al,mem_cons_self→ak,mem_flatMap→dk,mem_map→bM,mem_singleton→aT,nil_append→aS,tail_cons→bB
open Nat renaming le_add_right→dm,le_refl→au,mul_add→da,mul_one→dS,zero_add→a8,zero_le→dQ
open Option renaming bind_eq_some_iff→aW,bind_none→bq,bind_some→aR,getD_some→cE,isSome_iff_exists→bb,isSome_none→ba,isSome_some→aU,map_some→cq
open UInt8 renaming ofNat→bu
namespace Go.Proofs.Trees
open Go Go.VL Go.RowKit
theorem Qt(s:List UInt8)(te:E)(a:Ty)(tg:Tg)(l:List Hl)(hl:l.length<=1000000)(ih:∀h,h∈l->aq Tryz.prog 37 [.agg [.v (.string (mk te.at)),te.sp],.v (.string (mk s)),.agg [.v (.string (mk h.2.cI.at)),h.2.cI.sp]] [] (bP (.sl (kG (bR (.rc a) tg h.2))))) :
 ∀(k i:Nat) (out:List Hl),i+k=l.length->(out++(l.drop i).flatMap (BZ a tg)).length<=1000000 ->
 J2 [.v (.string (mk s)),.sl (kG l),.v (.int .i64 (i:Int))] [.cells [.v (.string (mk te.at)),te.sp],.vec 4 (kG out)] (gS 1 [] [.vec 4 (kG (out++(l.drop i).flatMap (BZ a tg)))])
 |
  0,i,out,hi,ho=>by
  refine Pp _ _ _ _ _ _ ?_
  have:i=l.length:=by omega
  subst this
  simp only[Kz,↓zq,zs,ae,eg,aX,ae]
  exact⟨fun h=>by omega,fun _=>by simp[gS]⟩
 |
  k+1,i,out,hi,ho=>by
  have hlt:i<l.length:=by omega
  have hd:(l.drop i).flatMap (BZ a tg)=BZ a tg (l[i])++(l.drop (i+1)).flatMap (BZ a tg):=by rw[aM hlt,bU]
  rw[hd]at ho |-
  refine Pp _ _ _ _ _ _ ?_
  simp only[Kz,↓zq,zs,ae,zt,eg,eN hlt,j2,aL,aX,ae]
  refine⟨fun _=>?_,fun h=>by omega⟩
  repeat refine⟨by omega,?_⟩
  refine aj (ih _ (Df l hlt)) ?_
  simp only[↓zq,zs,ae]
  have hb:out.length+(bR (.rc a) tg (l[i]).2).length<=1000000:=by
   simp only[an,gn]at ho;omega
  have h5:=QP s (.sl (kG l)) i (l[i]).1 (l[i]).2 ((cc _).mpr trivial) (by rw[fJ,eg];omega) (by rw[fJ,eN hlt]) (mk te.at) te.sp ((aX _).mpr trivial) (bR (.rc a) tg (l[i]).2) (by omega) (bR (.rc a) tg (l[i]).2).length 0 out (by omega) (by omega)
  rw[a7]at h5
  refine cC h5 ?_
  simp only[↓zq,zs,ae,aX,ae]
  repeat refine⟨by omega,?_⟩
  rw[bD i (by omega),<-a6]
  exact Qt s te a tg l hl ih k (i+1) _ (by omega) (by rw[a6];exact ho)
end Go.Proofs.Trees
namespace Go.Proofs.Trees
open Go Go.VL Go.RowKit
theorem BU{env:List Fr}(h:WF env):∀w,w∈names env->dy w=true:=by
 induction h with
 |nil=>intro w hw;cases hw
 |
  cons hs _ _ _ _ _ ih =>
  intro w hw
  simp only[names,aO,aT]at hw
  rcases hw with hw|rfl
  ·exact ih w hw
  ·exact hs
theorem Dk{ar:List (List UInt8)}{k:Nat}(h:k<ar.length):gR ar k∈ar:=by
 unfold gR
 have:ar.length-1-k<ar.length:=by omega
 simp[aa,this]
def Cv(s:List UInt8)(ar:List (List UInt8)):Prop:=iw s=true\/(bT s ar ar.length).isSome=true
theorem xD{s:List UInt8}{ar:List (List UInt8)}{u:Nat}(hl:∀w,w∈ar->dy w=true)(h:bT s ar ar.length=some u):dy s=true:=by
 obtain⟨h1,h2⟩:=gb _ _ (au _) h
 rw[<-h2];exact hl _ (Dk h1)
theorem JB{s0 s:List UInt8}{ar:List (List UInt8)}{t:Ty}(ht:cZ (.atom s0) ar=some t)(hl:∀w,w∈ar->dy w=true)(hs:Cv s ar):dY t (qm s ar)=decide (s0=s):=by
 have h48:∀b:UInt8,iw [b]=false->dy [b]=false->s≠[b]:=fun b h1 h2 e=>by
  subst e
  rcases hs with h|h
  ·rw[h1]at h;cases h
  ·obtain⟨u,hu⟩:=bb.1 h
   rw[xD hl hu]at h2;cases h2
 simp only[cZ]at ht
 split at ht
 ·rename_i e;cases ht;subst e
  have:=h48 48 rfl rfl
  rw[decide_eq_false (fun h=>this h.symm)];cases qm s ar<;>rfl
 ·split at ht
  ·rename_i e;cases ht;subst e
   have:=h48 49 rfl rfl
   rw[decide_eq_false (fun h=>this h.symm)];cases qm s ar<;>rfl
  ·split at ht
   ·rename_i hp
    cases ht
    unfold qm
    cases e:bT s ar ar.length with
    |none=>rfl
    |
     some u =>
     have hloo:=xD hl e
     show false=_
     rw[decide_eq_false]
     rintro rfl
     rw[lC hp]at hloo;cases hloo
   ·rename_i hnp
    split at ht
    ·split at ht
     ·rename_i u hu
      cases ht
      unfold qm
      cases e:bT s ar ar.length with
      |
       none =>
       show false=_
       rw[decide_eq_false]
       rintro rfl
       rw[hu]at e;cases e
      |
       some u' =>
       show decide (u=u')=_
       rw[cK,decide_eq_true_eq,decide_eq_true_eq]
       constructor
       ·rintro rfl
        rw[<-(gb _ _ (au _) hu).2,<-(gb _ _ (au _) e).2]
       ·rintro rfl
        rw[hu]at e;cases e;rfl
     ·rename_i hn
      cases ht
      unfold qm
      cases e:bT s ar ar.length with
      |none=>rfl
      |
       some u =>
       show false=_
       rw[decide_eq_false]
       rintro rfl
       rw[hn]at e;cases e
    ·cases ht
theorem Gc{b:E}{ar:List (List UInt8)}{w:List UInt8}{t:Ty}(hb:cZ b (ar++[w])=some t)(hw:dy w=true)(hs:Cv w ar):wA t (qm w ar).up=false:=by
 rcases hs with h|h
 ·rw[lC h]at hw;cases hw
 ·obtain⟨u,hu⟩:=bb.1 h
  rw[qm,hu];exact J6 hb hu
theorem Bz{s w:List UInt8}{ar:List (List UInt8)}(h:w≠s)(hs:Cv s ar):Cv s (ar++[w]):=by
 rcases hs with h1|h1
 ·exact .inl h1
 ·right;rw[kk ar h];obtain⟨u,hu⟩:=bb.1 h1;rw[hu];rfl
def R5(e:E)(s:List UInt8)(t:Ty)(tg:Tg)(v:Vl):Prop:=aq Tryz.prog 37 [.agg [.v (.string (mk e.at)),e.sp],.v (.string (mk s)),.agg [.v (.string (mk v.cI.at)),v.cI.sp]] [] (bP (.sl (kG (bR t tg v))))
theorem GD(n:Nat):∀(m:Nat) (v:Vl),v.nodes<=m->∀(e:E) (env:List Fr) (t:Ty),Ask e env t->eS n v (e,env)=true->env.length+v.nodes<100000->∀(s:List UInt8),Cv s (names env)->R5 e s t (qm s (names env)) v
 |0,v,hm=>by have:=cB v;omega
 |
  m+1,v,hm=>by
  intro e env t A hv hl s hs
  have hloo:=BU A.wf
  unfold R5
  refine UY _ _ _ _ _ ((aX _).mpr trivial) ((aX _).mpr trivial) ?_
  have hlen:=oe t (qm s (names env)) v
  have atomCase:∀s0,e=.atom s0->stuck t v=true->fC Tryz.prog 244 (HG (mk e.at) e.sp (mk s) (mk v.cI.at) v.cI.sp) fun _ xs obs=>bP (.sl (kG (bR t (qm s (names env)) v))) (xs.headD .any) obs:=by
   rintro s0 rfl hst
   have hat:=JB A.ty hloo hs
   have hne:s0≠[]:=A.ok
   simp only[HG,E.at,↓zq,zs,ae,zt]
   refine⟨fun _=>⟨fun h=>?_,fun h=>?_⟩,fun h=>absurd h hne⟩
   ·rw[decide_eq_true h]at hat
    rw[kV v hat]
    refine⟨⟨Bs _ _ _ _,by omega⟩,?_⟩
    simp[bP,kG,Vl.cI,E.at,E.sp]
   ·rw[decide_eq_false h]at hat
    rw[dF hat hst]
    simp[bP,kG]
  have hvh:=DZ v
  rw[cT]at hvh
  rcases gZ A.wf A.ty with⟨hb,hq⟩|⟨u,g,rfl,hq,hu⟩
  ·have hhd:hd e env=(e,env):=lh hq
   rcases ga A.ty hb A.cl with⟨rfl,rfl⟩|⟨rfl,rfl⟩|⟨s0,rfl,rfl,hp,h0,h1⟩|⟨x,a,b,t1,t2,rfl,hx,rfl,ha,hbb⟩|⟨x,a,b,t1,t2,rfl,hx,rfl,ha,hbb⟩|⟨x,a,b,t1,rfl,hx,rfl⟩
   ·exact atomCase _ rfl (by cases v<;>rfl)
   ·exact atomCase _ rfl (by cases v<;>rfl)
   ·exact atomCase _ rfl (by cases v<;>rfl)
   ·obtain⟨ok1,ok2,ok3,_⟩:=A.ok
    obtain⟨f1,f2⟩:=fP A.cl
    have hP:=P3.of x a b
    cases v with
    |
     l w =>
     simp only[eS,hhd,hx,beq_self_eq_true,cb]at hv
     simp only[Vl.nodes]at hm hl hlen
     rw[jM]at hlen |-
     rw[gn]at hlen
     have hW:=P2.of (.atom [108]) w.cI
     simp only[HG,E.at,↓zq,zs,ae,zt]
     refine⟨fun h=>absurd rfl h,fun _=>aj hvh ?_⟩
     simp only[vh,Vl.cI,toNat_one,bj,↓zq,zs,ae,zt,hP.1,hP.2.1,hP.2.2.1,hP.2.2.2,hW.1,hW.2.1,hW.2.2,aL]
     refine⟨fun _=>?_,fun h=>absurd rfl h⟩
     repeat refine⟨by omega,?_⟩
     refine aj (GD n m w (by omega) a env t1 ⟨ok2,A.wf,ha,f1⟩ hv (by omega) s hs) ?_
     simp only[↓zq,zs,ae]
     refine aY (N5 [108] Vl.l (fun c=>rfl) (bR t1 (qm s (names env)) w) [] (by simp;omega)) ?_
     simp[↓zq,zs,ae,bP,aK,bB]
    |
     r w =>
     simp only[eS,hhd,hx,beq_self_eq_true,cb]at hv
     simp only[Vl.nodes]at hm hl hlen
     rw[jR]at hlen |-
     rw[gn]at hlen
     have hW:=P2.of (.atom [114]) w.cI
     simp only[HG,E.at,↓zq,zs,ae,zt]
     refine⟨fun h=>absurd rfl h,fun _=>aj hvh ?_⟩
     simp only[vh,Vl.cI,toNat_one,bj,↓zq,zs,ae,zt,hP.1,hP.2.1,hP.2.2.1,hP.2.2.2,hW.1,hW.2.1,hW.2.2,aL]
     refine⟨fun h=>by simp at h,fun _=>⟨fun _=>?_,fun h=>absurd rfl h⟩⟩
     repeat refine⟨by omega,?_⟩
     refine aj (GD n m w (by omega) b env t2 ⟨ok3,A.wf,hbb,f2⟩ hv (by omega) s hs) ?_
     simp only[↓zq,zs,ae]
     refine aY (N5 [114] Vl.r (fun c=>rfl) (bR t2 (qm s (names env)) w) [] (by simp;omega)) ?_
     simp[↓zq,zs,ae,bP,aK,bB]
    |_=>simp[eS,hhd,hx]at hv
   ·obtain⟨ok1,ok2,ok3,_⟩:=A.ok
    obtain⟨f1,f2⟩:=fE A.cl
    have hP:=P3.of x a b
    cases v with
    |
     p w w' =>
     simp only[eS,hhd,hx,beq_self_eq_true,cb,aA]at hv
     simp only[Vl.nodes]at hm hl hlen
     rw[gH]at hlen |-
     simp only[an,gn]at hlen
     have hW:=P3.of (.atom [112]) w.cI w'.cI
     simp only[HG,E.at,↓zq,zs,ae,zt]
     refine⟨fun h=>absurd rfl h,fun _=>aj hvh ?_⟩
     simp only[vh,Vl.cI,toNat_one,bj,↓zq,zs,ae,zt,hP.1,hP.2.1,hP.2.2.1,hP.2.2.2,hW.1,hW.2.1,hW.2.2.1,hW.2.2.2,aL]
     refine⟨fun h=>by simp at h,fun _=>⟨fun h=>by simp at h,fun _=>⟨fun _=>?_,fun h=>absurd rfl h⟩⟩⟩
     repeat refine⟨by omega,?_⟩
     refine aj (GD n m w (by omega) a env t1 ⟨ok2,A.wf,ha,f1⟩ hv.1 (by omega) s hs) ?_
     simp only[↓zq,zs,ae]
     have h1:=Mv s (mk []) (E.list [x,a,b]).sp ((aX _).mpr trivial) (mk []) (E.list [.atom [112],w.cI,w'.cI]).sp w w' (P3.of _ _ _) (bR t1 (qm s (names env)) w) (by omega) _ 0 [] (a8 _) (by simp;omega)
     rw[a7,aS]at h1
     refine cC h1 ?_
     simp only[↓zq,zs,ae,aX,ae,bj,hP.1,hP.2.1,hP.2.2.2,hW.1,hW.2.1,hW.2.2.2,aL]
     repeat refine⟨by omega,?_⟩
     refine aj (GD n m w' (by omega) b env t2 ⟨ok3,A.wf,hbb,f2⟩ hv.2 (by omega) s hs) ?_
     simp only[↓zq,zs,ae]
     have h2:=Rf (mk []) (E.list [.atom [112],w.cI,w'.cI]).sp w w' (P3.of _ _ _) (bR t2 (qm s (names env)) w') (by omega) _ 0 (fw (fun c=>Vl.l (.p c w')) (bR t1 (qm s (names env)) w)) (a8 _) (by rw[gn];omega)
     rw[a7]at h2
     refine cC h2 ?_
     simp[↓zq,zs,ae,bP]
    |_=>simp[eS,hhd,hx]at hv
   ·obtain⟨t1',he1,h1,f1,hw1⟩:=j0 A.wf A.ok hx A.ty A.cl
    cases he1
    obtain⟨ok1,ok2,ok3,_⟩:=A.ok
    obtain⟨_,hla,_,_⟩:=dK hx A.ty
    have A':Ask b (.mk a.at (.list [x,a,b]) env::env) t1:=⟨ok3,hw1,h1,f1⟩
    have hnm:names (.mk a.at (.list [x,a,b]) env::env)=names env++[a.at]:=rfl
    have hP:=P3.of x a b
    cases v with
    |
     f w =>
     simp only[eS,hhd,hx,beq_self_eq_true,cb]at hv
     simp only[Vl.nodes]at hm hl hlen
     have hW:=P2.of (.atom [102]) w.cI
     simp only[HG,E.at,↓zq,zs,ae,zt]
     refine⟨fun h=>absurd rfl h,fun _=>aj hvh ?_⟩
     simp only[vh,Vl.cI,toNat_one,bj,↓zq,zs,ae,zt,hP.1,hP.2.1,hP.2.2.1,hP.2.2.2,hW.1,hW.2.1,hW.2.2,aL]
     refine⟨fun h=>by simp at h,fun _=>⟨fun h=>by simp at h,fun _=>⟨fun h=>by simp at h,fun _=>?_⟩⟩⟩
     repeat refine⟨by omega,?_⟩
     refine⟨fun h=>?_,fun h=>?_⟩
     ·
      have hh:a.at=s:=h
      subst hh
      have:wA (.rc t1) (qm a.at (names env))=false:=Gc h1 hla hs
      rw[jA _ _ (au _) _ _ this]
      simp[bP,kG]
     ·have hh:a.at≠s:=h
      rw[gJ]at hlen |-
      simp only[an,gn]at hlen
      repeat refine⟨by omega,?_⟩
      have i1:=GD n m w (by omega) b _ t1 A' hv (by simp;omega) s (by rw[hnm];exact Bz hh hs)
      rw[hnm,BH _ hh]at i1
      refine aj i1 ?_
      simp only[↓zq,zs,ae]
      have h3:=PA s a.at (mk []) (E.list [x,a,b]).sp ((aX _).mpr trivial) (mk []) (E.list [.atom [102],w.cI]).sp ((aX _).mpr trivial) (bR t1 (qm s (names env)).up w) (by omega) _ 0 [] (a8 _) (by simp;omega)
      rw[a7,aS]at h3
      refine cC h3 ?_
      simp only[↓zq,zs,ae,aX,ae,toNat_one,bj,hP.1,hP.2.1,hP.2.2.2,hW.1,hW.2.1,hW.2.2,aL]
      repeat refine⟨by omega,?_⟩
      have i2:=GD n m w (by omega) b _ t1 A' hv (by simp;omega) a.at (by rw[hnm];right;rw[fN];rfl)
      rw[hnm,xO]at i2
      refine aj i2 ?_
      simp only[↓zq,zs,ae]
      have hl2:=oe t1 (.bd 0) w
      have ih3:∀h,h∈bR t1 (.bd 0) w->R5 (.list [x,a,b]) s (.rc t1) (qm s (names env)) h.2:=fun h hh=>by
       have h3:=(gu hh).1
       have h4:=gV n m w (by omega) b _ t1 A' hv 0 _ rfl h hh
       exact GD n m h.2 (by omega) (.list [x,a,b]) env (.rc t1) A h4 (by omega) s hs
      have h4:=Qt s (.list [x,a,b]) t1 (qm s (names env)) (bR t1 (.bd 0) w) (by omega) ih3 _ 0 (fw (fun c=>.f (.l c)) (bR t1 (qm s (names env)).up w)) (a8 _) (by
       simp only[a7,an,gn]
       have hlen2:(bR t1 (qm s (names env)).up w).length+((bR t1 (.bd 0) w).flatMap (BZ t1 (qm s (names env)))).length<=1+w.nodes:=hlen
       omega)
      rw[a7]at h4
      simp only[E.at]at h4
      refine cC h4 ?_
      simp[↓zq,zs,ae,bP]
    |_=>simp[eS,hhd,hx]at hv
  ·cases e with
   |atom s0=>exact atomCase _ rfl (by cases v<;>rfl)
   |list l=>exact absurd hq (by rw[show (E.list l).at=[] from rfl,l7 A.wf];simp)
end Go.Proofs.Trees
namespace Go.Proofs.Trees
open Go Go.VL Go.RowKit
def kids(a:Ty):Vl->List Hl
 | .f w=>bR a (.bd 0) w
 |_=>[]
theorem lU(a:Ty)(v:Vl):jE (kids a v)+1<=v.nodes:=by
 cases v with
 |f w=>have:=tz a (.bd 0) w;simp only[kids,Vl.nodes];omega
 |_=>simp only[kids,jE,Vl.nodes,List.map_nil,List.sum_nil];omega
theorem fT{a:Ty}{v:Vl}{h:Hl}(hh:h∈kids a v):h.2.nodes<v.nodes:=by
 cases v with
 |f w=>have:=(gu hh).1;simp only[Vl.nodes];omega
 |_=>cases hh
theorem en{n:Nat}{a:Ty}{v:Vl}{h:Hl}(hv:v.fy n)(hh:h∈kids a v):h.1.fy n/\h.2.fy n:=by
 cases v with
 |f w=>exact iF n _ _ _ w h hv hh
 |_=>cases hh
abbrev Pt:=Vl×List Nat
def np(pl:List Nat):List Hl->Nat->List Pt
 |[],_=>[]
 |h::l,i=>(h.2,pl++[i])::np pl l (i+1)
theorem nI{pl:List Nat}{q:Pt}:∀{l:List Hl} {i:Nat},q∈np pl l i->∃h,h∈l/\q.1=h.2
 |[],_,hq=>by cases hq
 |
  h::l,i,hq=>by
  rcases aI.1 hq with rfl|hq
  ·exact⟨h,ak,rfl⟩
  ·obtain⟨k,h1,h2⟩:=nI hq
   exact⟨k,al _ h1,h2⟩
theorem Bm(pl:List Nat)(l:List Hl){i:Nat}(hi:i<l.length):np pl (l.drop i) i=((l[i]).2,pl++[i])::np pl (l.drop (i+1)) (i+1):=by
 rw[aM hi,np]
def j7:Nat->Ty->Pt->List Pt
 |0,_,_=>[]
 |n+1,a,p=>p::(np p.2 (kids a p.1) 0).flatMap (j7 n a)
theorem xe{f:Pt->List Pt}(hf:∀q,(f q).length<=q.1.nodes)(pl:List Nat):∀(l:List Hl) (i:Nat),((np pl l i).flatMap f).length<=jE l
 |[],i=>by simp[np]
 |
  h::l,i=>by
  have:=xe hf pl l (i+1)
  have:=hf (h.2,pl++[i])
  simp only[np,bU,an,jE,bo,List.sum_cons]at *;omega
theorem o0:∀(n:Nat) (a:Ty) (p:Pt),(j7 n a p).length<=p.1.nodes
 |0,a,p=>dQ _
 |
  n+1,a,p=>by
  have:=xe (f:=j7 n a) (fun q=>o0 n a q) p.2 (kids a p.1) 0
  have:=lU a p.1
  simp only[j7,aw];omega
def I4(f:List Pt->List Pt)(ps:List Pt):Prop:=∀out,(out.length+ps.length<=100->f out=out++ps)/\(100<out.length+ps.length->100<(f out).length)/\out.length<=(f out).length/\(f out).length<=out.length+ps.length
theorem uG{g:List Pt->Pt->List Pt}{ps:Pt->List Pt}:∀(qs:List Pt),(∀q,q∈qs->I4 (fun o=>g o q) (ps q))->I4 (fun o=>qs.foldl g o) (qs.flatMap ps)
 |[],_=>fun out=>by simp
 |
  q::qs,h=>fun out=>by
  have ih:=uG qs fun q hq=>h q (al _ hq)
  obtain⟨a1,a2,a3,a4⟩:=h q ak out
  obtain⟨b1,b2,b3,b4⟩:=ih (g out q)
  simp only[List.foldl_cons,bU,an]at *
  refine⟨fun hle=>?_,fun hlt=>?_,by omega,by omega⟩
  ·rw[a1 (by omega)]at b1 |-
   rw[b1 (by rw[an];omega),a6]
  ·by_cases hq:out.length+(ps q).length<=100
   ·rw[a1 hq]at b2 |-
    exact b2 (by rw[an];omega)
   ·have:=a2 (by omega);omega
def na:Nat->Ty->List Pt->Pt->List Pt
 |0,_,out,_=>out
 |n+1,a,out,p=>(np p.2 (kids a p.1) 0).foldl (fun o q=>if o.length<=100 then na n a o q else o) (out++[p])
theorem sD:∀(n:Nat) (a:Ty) (p:Pt),p.1.nodes<=n->I4 (fun o=>na n a o p) (j7 n a p)
 |0,a,p,h=>by have:=cB p.1;omega
 |
  n+1,a,p,h=>fun out=>by
  have hk:=uG (g:=fun o q=>if o.length<=100 then na n a o q else o) (ps:=j7 n a) (np p.2 (kids a p.1) 0) fun q hq=>fun o=>by
   obtain⟨k,h1,h2⟩:=nI hq
   have:=fT h1
   have hw:=sD n a q (by rw[h2];omega) o
   have hpos:0<(j7 n a q).length:=by
    cases n with
    |zero=>have:=cB k.2;omega
    |succ n=>simp[j7]
   simp only at hw |-
   split
   ·exact hw
   ·exact⟨fun hle=>by omega,fun _=>by omega,au _,by omega⟩
  obtain⟨b1,b2,b3,b4⟩:=hk (out++[p])
  simp only[na,j7,aw,an,aE]at *
  refine⟨fun hle=>?_,fun hlt=>b2 (by omega),by omega,by omega⟩
  rw[b1 (by omega),a6];rfl
def parts(a:Ty)(v:Vl):List Pt:=j7 v.nodes a (v,[])
theorem yB(a:Ty)(v:Vl):((parts a v).length<=100->na v.nodes a [] (v,[])=parts a v)/\(100<(parts a v).length->100<(na v.nodes a [] (v,[])).length)/\(na v.nodes a [] (v,[])).length<=v.nodes:=by
 obtain⟨h1,h2,_,h4⟩:=sD v.nodes a (v,[]) (au _) []
 have:=o0 v.nodes a (v,[])
 simp only[aE,a8,aS]at h1 h2 h4 this
 exact⟨h1,h2,Nat.le_trans h4 this⟩
end Go.Proofs.Trees
namespace Go.Proofs.Trees
open Go Go.VL Go.RowKit
def gD(s:List UInt8):Option Ty:=match yN s with
 |some (.rc a)=>some a
 |_=>none
def D0:Option Ty->AV
 |some a=>(Ty.rc a).av
 |none=>iV
theorem Sg(s:List UInt8):aq Tryz.prog 51 [.v (.string (mk s))] [] (bP (D0 (gD s))):=by
 refine Tk _ ?_
 unfold N3
 refine aj (LL s) ?_
 cases h:yN s with
 |none=>simp[↓zq,zs,ae,iQ,D0,gD,h,bP]
 |some t=>cases t<;>simp[↓zq,zs,ae,iQ,D0,gD,h,bP,Ty.av]
def gA(s v:List UInt8):Option Vl:=match gD s with
 |some _=>mn s v 100
 |none=>none
def Dn(s:List UInt8):AV:=match gD s with
 |some a=>(Ty.rc a).av
 |none=>iV
theorem vI{s:List UInt8}{a:Ty}(h:gD s=some a):yN s=some (.rc a):=by
 unfold gD at h
 split at h
 ·rename_i e;cases h;exact e
 ·cases h
theorem Jn(s v:List UInt8):aq Tryz.prog 24 [.v (.string (mk s)),.v (.string (mk v))] [] (bP (.cm [Dn s,je (gA s v)])):=by
 refine SI _ _ ?_
 unfold Ls
 refine aj (Sg s) ?_
 cases h:gD s with
 |none=>simp[↓zq,zs,ae,D0,Dn,gA,h,bP,je]
 |
  some a =>
  simp only[↓zq,zs,ae,D0,aF,gj]
  refine⟨fun h=>(by cases h),fun _=>?_⟩
  refine aj (Ma s v 100) ?_
  rw[vI h]
  simp[↓zq,zs,ae,iQ,fW,Dn,gA,h,bP,aF]
structure LV(s v:List UInt8)(w:Vl)(a:Ty)(x A B:E):Prop where
 l:gD s=some a
 ce:kh s=some (.list [x,A,B])
 v:rM v=some w
 ask:Ask (.list [x,A,B]) [] (.rc a)
 hx:x.at=[114,101,99]
 VO:dy A.at=true
 body:Ask B [.mk A.at (.list [x,A,B]) []] a
 eS:eS 100 w (.list [x,A,B],[])=true
theorem uP{e:E}{env:List Fr}{a:Ty}(A:Ask e env (.rc a)):∃x y z,e=.list [x,y,z]/\x.at=[114,101,99]/\dy y.at=true/\Ask z (.mk y.at (.list [x,y,z]) env::env) a:=by
 rcases ga A.ty rfl A.cl with⟨_,h⟩|⟨_,h⟩|⟨s,_,h,_⟩|⟨x,y,z,t1,t2,_,_,h,_⟩|⟨x,y,z,t1,t2,_,_,h,_⟩|⟨x,y,z,t1,rfl,hx,h⟩
 ·cases h
 ·cases h
 ·cases h
 ·cases h
 ·cases h
 ·cases h
  obtain⟨t1',he1,h1,f1,hw1⟩:=j0 A.wf A.ok hx A.ty A.cl
  cases he1
  obtain⟨_,_,ok3,_⟩:=A.ok
  obtain⟨_,hla,_,_⟩:=dK hx A.ty
  exact⟨x,y,z,rfl,hx,hla,ok3,hw1,h1,f1⟩
theorem iM{s v:List UInt8}{w:Vl}(h:gA s v=some w):∃a x A B,LV s v w a x A B:=by
 unfold gA at h
 split at h
 ·rename_i a hl
  obtain⟨e,t,m,h1,h2,h3,h4,h5,h6,h7⟩:=qw h
  rw[vI hl]at h3
  cases h3
  obtain⟨x,A,B,rfl,hx,hA,hB⟩:=uP h4
  have:m=100:=by omega
  subst this
  exact⟨a,x,A,B,hl,h1,h2,h4,hx,hA,hB,h7⟩
 ·cases h
theorem LV.fy{s v:List UInt8}{w:Vl}{a:Ty}{x A B:E}(h:LV s v w a x A B):w.fy 100:=(mA h.v).2.1
theorem LV.nodes{s v:List UInt8}{w:Vl}{a:Ty}{x A B:E}(h:LV s v w a x A B):w.nodes<=200:=(mA h.v).2.2
theorem mL{n:Nat}{v:Vl}{x A B:E}{env:List Fr}(hw:WF env)(hx:x.at=[114,101,99])(h:eS n v (.list [x,A,B],env)=true):∃w,v=.f w/\eS n w (B,.mk A.at (.list [x,A,B]) env::env)=true:=by
 have hd:=qJ (x:=x) (a:=A) (b:=B) hw
 cases v<;>simp[eS,hd,hx]at h |-
 exact h
theorem nF{n:Nat}{v:Vl}{x A B:E}{env:List Fr}{a:Ty}(hA:Ask B (.mk A.at (.list [x,A,B]) env::env) a)(hw:WF env)(hx:x.at=[114,101,99])(h:eS n v (.list [x,A,B],env)=true){k:Hl}(hk:k∈kids a v):eS n k.2 (.list [x,A,B],env)=true:=by
 obtain⟨w,rfl,hv⟩:=mL hw hx h
 exact gV n w.nodes w (au _) B _ a hA hv 0 _ rfl k hk
theorem JG(n:Nat)(v:Vl)(x A B:E)(a:Ty)(hA:Ask B [.mk A.at (.list [x,A,B]) []] a)(hx:x.at=[114,101,99])(hv:eS n v (.list [x,A,B],[])=true)(hl:v.nodes<90000):aq Tryz.prog 35 [(Ty.rc a).av,v.cJ] [] (bP (.sl (gT (kids a v)))):=by
 obtain⟨w,rfl,hw⟩:=mL .nil hx hv
 refine Rx _ _ ((aF _).mpr trivial) ((aP _).mpr trivial) ?_
 unfold Ny
 refine aQ (FZ a iV [] .nil) (Cy.ne a iV []) ?_
 rintro r o ⟨⟨m,hm,rfl⟩,rfl⟩
 have he2:lJ (.ptr [.pid m [(Ty.rc a).av,iV],iV]) [m]:=.cons hm .nil
 have hfr:LK.ptr.has (.pid m [(Ty.rc a).av,iV]):=.inr (.inr ⟨_,_,rfl⟩)
 simp only[Ty.av]at he2 hfr
 simp only[↓zq,zs,ae,bC,aF,he2.has,hfr,Vl.cJ,aP,Ty.av]
 repeat refine⟨by omega,?_⟩
 simp only[Vl.nodes]at hl
 have i2:=Gx n w.nodes w (au _) B _ a hA hw (by simp;omega) _ _ he2 (by simp) (.bd 0) [] _ (by have:=BV.bd (k:=0) (ids:=[m]) (by simp) [(Ty.rc a).av,iV] [];simpa only[bF,Ty.av]using this)
 unfold JL at i2
 refine aj i2 ?_
 simp[↓zq,zs,ae,bP,kids]
def dN(l:List Nat):List (List AV):=l.map fun(k:Nat)=>[.v (.int .i64 (k:Int))]
theorem fQ(l:List Nat):(dN l).length=l.length:=by simp[dN]
theorem oJ(l:List Nat)(k:Nat):dN l++[[.v (.int .i64 (k:Int))]]=dN (l++[k]):=by simp[dN]
theorem nT(l:List Nat):ck 1 (dN l):=fun c hc=>by
 obtain⟨k,_,rfl⟩:=bM.1 hc;rfl
theorem wm(x:AV):ck 1 [[x]]:=fun c hc=>by simp at hc;rw[hc];rfl
theorem AZ(l:List Hl):jE (l.drop 0)=jE l:=by rw[a7]
end Go.Proofs.Trees
namespace Go.Proofs.Trees
open Go Go.VL Go.RowKit
def rz(a:AV)(l:List Nat):Prop:=LK.sl.has a/\a.elems=dN l
theorem rz.of(l:List Nat):rz (.sl (dN l)) l:=⟨(cc _).mpr trivial,rfl⟩
theorem rz.nil:rz (.v (.slice none 0 0)) []:=⟨(bm).mpr trivial,rfl⟩
theorem rz.len{a:AV}{l:List Nat}(h:rz a l):a.elems.length=l.length:=by rw[h.2,fQ]
theorem rz.idx{a:AV}{l:List Nat}(h:rz a l){i:Nat}(hi:i<l.length):a.elems.getD i []=[.v (.int .i64 (l.getD i 0:Nat))]:=by
 rw[h.2];simp[dN,aa,hi]
end Go.Proofs.Trees
namespace Go.Proofs.Trees
open Go Go.VL Go.RowKit
def jg(l:List Int):List (List AV):=l.map fun k=>[.v (.int .i64 k)]
def jf(a:AV)(l:List Int):Prop:=LK.sl.has a/\a.elems=jg l
theorem BB(l:List Int):(jg l).length=l.length:=by simp[jg]
theorem jf.of(l:List Int):jf (.sl (jg l)) l:=⟨(cc _).mpr trivial,rfl⟩
theorem jf.nil:jf (.v (.slice none 0 0)) []:=⟨(bm).mpr trivial,rfl⟩
theorem jf.len{a:AV}{l:List Int}(h:jf a l):a.elems.length=l.length:=by rw[h.2,BB]
theorem jf.idx{a:AV}{l:List Int}(h:jf a l){i:Nat}(hi:i<l.length):a.elems.getD i []=[.v (.int .i64 (l.getD i 0))]:=by
 rw[h.2];simp[jg,aa,hi]
theorem oV(l:List Nat):dN l=jg (l.map Int.ofNat):=by simp[dN,jg,Function.comp_def]
end Go.Proofs.Trees
namespace Go.Proofs.Trees
open Go Go.VL Go.RowKit
theorem Q0(a b:AV)(l r:List Int)(ha:jf a l)(hb:jf b r)(he:l.length=r.length)(hl:l.length<=2000000):∀(m i:Nat),i+m=l.length->l.take i=r.take i->HR [a,b,.v (.int .i64 (i:Int))] [] (oB (if l=r then(1,[],[])else(2,[.v (.bool false)],[])))
 |
  0,i,hi,ht=>by
  refine Lv _ _ _ ?_
  have:l=r:=by rw[List.take_of_length_le (by omega),List.take_of_length_le (by omega)]at ht;exact ht
  simp only[Kn,↓zq,zs,ae,ha.len]
  exact⟨ha.1,hb.1,ha.1,fun h=>by omega,fun _=>by simp[oB,this]⟩
 |
  m+1,i,hi,ht=>by
  have hlt:i<l.length:=by omega
  have hlt2:i<r.length:=by omega
  refine Lv _ _ _ ?_
  simp only[Kn,↓zq,zs,ae,zt,ha.len,hb.len,ha.idx hlt,hb.idx hlt2,bx]
  refine⟨ha.1,hb.1,ha.1,fun _=>⟨⟨ha.1,by omega,by omega⟩,by omega,⟨hb.1,by omega,by omega⟩,by omega,fun h=>?_,fun h=>?_⟩,fun h=>by omega⟩
  ·have:¬l=r:=fun e=>by subst e;exact h rfl
   simp[oB,this]
  ·rw[bD i (by omega)]
   refine Q0 a b l r ha hb he hl m (i+1) (by omega) ?_
   have hg:l[i]=r[i]:=by simpa[aa,hlt,hlt2]using h
   rw[List.take_succ_eq_append_getElem hlt,List.take_succ_eq_append_getElem hlt2,ht,hg]
theorem UR(a b:AV)(l r:List Int)(ha:jf a l)(hb:jf b r)(hl:l.length<=2000000):aq Tryz.prog 21 [a,b] [] (bP (.v (.bool (decide (l=r))))):=by
 refine T5 _ _ ha.1 hb.1 ?_
 simp only[LN,↓zq,zs,ae,ha.len,hb.len]
 refine⟨ha.1,hb.1,fun h=>?_,fun h=>?_⟩
 ·have:¬l=r:=fun e=>by subst e;exact h rfl
  simp[this,bP]
 ·refine eJ (Q0 a b l r ha hb (by omega) hl l.length 0 (by omega) (by simp)) (fun ys o e=>?_) (fun ys o e=>?_)
  ·split at e
   ·rename_i q;simp[↓zq,zs,ae,bP,q]
   ·cases e
  ·split at e
   ·cases e
   ·rename_i q;cases e;simp[↓zq,zs,ae,bP,q]
end Go.Proofs.Trees
namespace Go.Proofs.Trees
open Go Go.VL Go.RowKit
def gL(s v:List UInt8):Option (List Pt):=match gD s,gA s v with
 |some a,some w=>if(parts a w).length<=100 then some (parts a w)else none
 |_,_=>none
theorem sT:∀(n:Nat) (a:Ty) (p q:Pt),q∈j7 n a p->q.1.nodes<=p.1.nodes/\(∀m,p.1.fy m->q.1.fy m)
 |0,a,p,q,h=>by cases h
 |
  n+1,a,p,q,h=>by
  rcases aI.1 h with rfl|h
  ·exact⟨au _,fun m h=>h⟩
  ·obtain⟨r,h1,h2⟩:=dk.1 h
   obtain⟨k,h3,h4⟩:=nI h1
   obtain⟨q1,q2⟩:=sT n a r q h2
   have:=fT h3
   rw[h4]at q1 q2
   exact⟨by omega,fun m hm=>q2 m (en hm h3).2⟩
theorem tj{s v:List UInt8}{l:List Pt}(h:gL s v=some l):l.length<=100/\∀q,q∈l->q.1.nodes<=200/\q.1.fy 100/\q.1.cf.length<=40000:=by
 unfold gL at h
 split at h
 ·rename_i a w ha hw
  obtain⟨a',x,A,B,L⟩:=iM hw
  split at h
  ·rename_i hl
   cases h
   refine⟨hl,fun q hq=>?_⟩
   obtain⟨h1,h2⟩:=sT _ _ _ _ hq
   have hb:=h2 100 L.fy
   have hn:=L.nodes
   have:=eZ q.1 hb
   simp only at h1
   exact⟨by omega,hb,by omega⟩
  ·cases h
 ·cases h
def QM(f:List Pt->List (List AV))(s v:List UInt8):AV->List Ob->Prop:=fun r o=>o=[]/\∃x,LK.sl.has x/\r=.cm [x,.v (.bool (gL s v).isSome)]/\∀l,gL s v=some l->x=.sl (f l)
theorem QM.ne(f:List Pt->List (List AV))(s v:List UInt8):∃r o,QM f s v r o:=by
 cases h:gL s v with
 |none=>exact⟨_,_,rfl,.sl [],(cc _).mpr trivial,rfl,fun l hl=>by rw[h]at hl;cases hl⟩
 |some l=>exact⟨_,_,rfl,.sl (f l),(cc _).mpr trivial,rfl,fun l' hl=>by rw[h]at hl;cases hl;rfl⟩
def gv(f:List Nat->AV)(l:List Pt):List (List AV):=l.map fun p=>[f p.2]
theorem km(f:List Nat->AV)(l:List Pt):(gv f l).length=l.length:=by simp[gv]
theorem we(f:List Nat->AV)(out:List Pt)(p:Pt):gv f out++[[f p.2]]=gv f (out++[p]):=by simp[gv]
end Go.Proofs.Trees
namespace Go.Proofs.Trees
open Go Go.VL Go.RowKit
abbrev Nm:=List UInt8
def dH(u:Ty):Ty->Nat->Ty
 | .bound k,i=>if k=i then u else .bound k
 | .plus a b,i=>.plus (dH u a i) (dH u b i)
 | .times a b,i=>.times (dH u a i) (dH u b i)
 | .rc a,i=>.rc (dH u a (i+1))
 |t,_=>t
def sub(x:Nm)(u:Ty):Ty->Ty
 | .name s=>if s=x then u else .name s
 | .plus a b=>.plus (sub x u a) (sub x u b)
 | .times a b=>.times (sub x u a) (sub x u b)
 | .rc a=>.rc (sub x u a)
 |t=>t
def bz(x:Nm):Ty->Bool
 | .name s=>decide (s=x)
 | .plus a b=>bz x a||bz x b
 | .times a b=>bz x a||bz x b
 | .rc a=>bz x a
 |_=>false
def ky(f:Nm->Nm):Ty->Ty
 | .name s=>.name (f s)
 | .plus a b=>.plus (ky f a) (ky f b)
 | .times a b=>.times (ky f a) (ky f b)
 | .rc a=>.rc (ky f a)
 |t=>t
def LQ(f:Nm->Nm):Prop:=∀x y,f x=f y->x=y
theorem mV(f:Nm->Nm)(x:Nm):∀(t:Ty) (i:Nat),ky f (dH (.name x) t i)=dH (.name (f x)) (ky f t) i
 | .bound k,i=>by simp only[dH,ky];split<;>rfl
 | .plus a b,i=>by simp only[dH,ky,mV f x a i,mV f x b i]
 | .times a b,i=>by simp only[dH,ky,mV f x a i,mV f x b i]
 | .rc a,i=>by simp only[dH,ky,mV f x a (i+1)]
 | .zero,i=>rfl
 | .one,i=>rfl
 | .name s,i=>rfl
theorem mX{f:Nm->Nm}(hf:LQ f)(x:Nm)(u:Ty):∀t:Ty,ky f (sub x u t)=sub (f x) (ky f u) (ky f t)
 |
  .name s=>by
  simp only[sub,ky]
  by_cases h:s=x
  ·subst h;simp
  ·rw[if_neg h,if_neg fun e=>h (hf _ _ e)];rfl
 | .plus a b=>by simp only[sub,ky,mX hf x u a,mX hf x u b]
 | .times a b=>by simp only[sub,ky,mX hf x u a,mX hf x u b]
 | .rc a=>by simp only[sub,ky,mX hf x u a]
 | .zero=>rfl
 | .one=>rfl
 | .bound k=>rfl
theorem oi{f:Nm->Nm}(hf:LQ f)(x:Nm):∀t:Ty,bz (f x) (ky f t)=bz x t
 | .name s=>by simp only[bz,ky];rw[cK];simp only[decide_eq_true_eq];exact⟨fun e=>hf _ _ e,fun e=>by rw[e]⟩
 | .plus a b=>by simp only[bz,ky,oi hf x a,oi hf x b]
 | .times a b=>by simp only[bz,ky,oi hf x a,oi hf x b]
 | .rc a=>by simp only[bz,ky,oi hf x a]
 | .zero=>rfl
 | .one=>rfl
 | .bound k=>rfl
theorem iD(f:Nm->Nm):∀t:Ty,(ky f t).atoms=t.atoms
 | .plus a b=>by simp only[Ty.atoms,ky,iD f a,iD f b]
 | .times a b=>by simp only[Ty.atoms,ky,iD f a,iD f b]
 | .rc a=>by simp only[Ty.atoms,ky,iD f a]
 | .name s=>rfl
 | .zero=>rfl
 | .one=>rfl
 | .bound k=>rfl
theorem qE{f:Nm->Nm}:∀t:Ty,(∀x,bz x t=true->f x=x)->ky f t=t
 | .name s,h=>by simp only[ky];rw[h s (by simp[bz])]
 | .plus a b,h=>by simp only[ky];rw[qE a fun x hx=>h x (by simp[bz,hx]),qE b fun x hx=>h x (by simp[bz,hx])]
 | .times a b,h=>by simp only[ky];rw[qE a fun x hx=>h x (by simp[bz,hx]),qE b fun x hx=>h x (by simp[bz,hx])]
 | .rc a,h=>by simp only[ky];rw[qE a fun x hx=>h x hx]
 | .zero,_=>rfl
 | .one,_=>rfl
 | .bound k,_=>rfl
theorem fZ(x:Nm):∀(t:Ty) (i:Nat),(dH (.name x) t i).atoms=t.atoms
 | .bound k,i=>by simp only[dH];split<;>rfl
 | .plus a b,i=>by simp only[dH,Ty.atoms,fZ x a i,fZ x b i]
 | .times a b,i=>by simp only[dH,Ty.atoms,fZ x a i,fZ x b i]
 | .rc a,i=>by simp only[dH,Ty.atoms,fZ x a (i+1)]
 | .zero,i=>rfl
 | .one,i=>rfl
 | .name s,i=>rfl
theorem eG(t:Ty):1<=t.atoms:=by cases t<;>simp only[Ty.atoms]<;>omega
theorem iA(x:Nm)(u:Ty):∀t:Ty,t.atoms<=(sub x u t).atoms
 | .name s=>by simp only[sub];split<;>simp only[Ty.atoms];exact eG u;omega
 | .plus a b=>by have:=iA x u a;have:=iA x u b;simp only[sub,Ty.atoms];omega
 | .times a b=>by have:=iA x u a;have:=iA x u b;simp only[sub,Ty.atoms];omega
 | .rc a=>by have:=iA x u a;simp only[sub,Ty.atoms];omega
 | .zero=>au _
 | .one=>au _
 | .bound k=>au _
theorem ic{x y:Nm}:∀(t:Ty) (i:Nat),bz y (dH (.name x) t i)=true->y=x\/bz y t=true
 |
  .bound k,i,h=>by
  simp only[dH]at h
  split at h
  ·left;simp only[bz,decide_eq_true_eq]at h;exact h.symm
  ·cases h
 |
  .plus a b,i,h=>by
  simp only[dH,bz,bH]at h |-
  rcases h with h|h
  ·rcases ic a i h with h|h<;>simp[h]
  ·rcases ic b i h with h|h<;>simp[h]
 |
  .times a b,i,h=>by
  simp only[dH,bz,bH]at h |-
  rcases h with h|h
  ·rcases ic a i h with h|h<;>simp[h]
  ·rcases ic b i h with h|h<;>simp[h]
 | .rc a,i,h=>ic a (i+1) h
 | .zero,i,h=>by cases h
 | .one,i,h=>by cases h
 | .name s,i,h=>.inr h
theorem jN{x y:Nm}{u:Ty}:∀t:Ty,bz y (sub x u t)=true->bz y u=true\/(y≠x/\bz y t=true)
 |
  .name s,h=>by
  simp only[sub]at h
  split at h
  ·exact .inl h
  ·rename_i hs
   simp only[bz,decide_eq_true_eq]at h
   subst h
   exact .inr ⟨hs,by simp[bz]⟩
 |
  .plus a b,h=>by
  simp only[sub,bz,bH]at h |-
  rcases h with h|h
  ·rcases jN a h with h|h<;>simp[h]
  ·rcases jN b h with h|h<;>simp[h]
 |
  .times a b,h=>by
  simp only[sub,bz,bH]at h |-
  rcases h with h|h
  ·rcases jN a h with h|h<;>simp[h]
  ·rcases jN b h with h|h<;>simp[h]
 |
  .rc a,h=>by
  simp only[sub,bz]at h |-
  exact jN a h
 | .zero,h=>by cases h
 | .one,h=>by cases h
 | .bound k,h=>by cases h
def swp(x y:Nm):Nm->Nm:=fun s=>if s=x then y else if s=y then x else s
theorem Ad(x y:Nm):LQ (swp x y):=by
 intro a b h
 unfold swp at h
 by_cases h1:a=x<;>by_cases h2:a=y<;>by_cases h3:b=x<;>by_cases h4:b=y<;>simp_all
theorem xr(x y:Nm):swp x y x=y:=by simp[swp]
theorem Cu{x y s:Nm}(h:s≠x)(h':s≠y):swp x y s=s:=by simp[swp,h,h']
theorem wa{x y:Nm}{t:Ty}(h:bz x t=false)(h':bz y t=false):ky (swp x y) t=t :=
 qE t fun z hz=>Cu (fun e=>by subst e;rw[h]at hz;cases hz) (fun e=>by subst e;rw[h']at hz;cases hz)
def qN(a:Ty)(x:Nm)(c d:Ty):Ty:=.rc (.plus (sub x (.rc a) c) (.times (sub x (.rc a) d) (.bound 0)))
inductive Dv:Ty->Nm->Ty->Prop
 |zero (s):Dv .zero s .zero
 |one (s):Dv .one s .zero
 |bound (k s):Dv (.bound k) s .zero
 |hit (s):Dv (.name s) s .one
 |rK {n s} (h:n≠s):Dv (.name n) s .zero
 |plus {a b s a' b'} (h1:Dv a s a') (h2:Dv b s b') (hl:(Ty.plus a' b').atoms<=400):Dv (.plus a b) s (.plus a' b')
 |times {a b s a' b'} (h1:Dv a s a') (h2:Dv b s b') (hl:(Ty.plus (.times a' b) (.times a b')).atoms<=400):Dv (.times a b) s (.plus (.times a' b) (.times a b'))
 |rc {a s c d} (x:Nm) (hx:bz x a=false) (hs:x≠s) (h1:Dv (dH (.name x) a 0) s c) (h2:Dv (dH (.name x) a 0) x d) (hl:(qN a x c d).atoms<=400):Dv (.rc a) s (qN a x c d)
theorem zN{f:Nm->Nm}(hf:LQ f)(a:Ty)(x:Nm)(c d:Ty):ky f (qN a x c d)=qN (ky f a) (f x) (ky f c) (ky f d):=by
 simp only[qN,ky,mX hf]
theorem Dv.ky{f:Nm->Nm}(hf:LQ f){t d:Ty}{s:Nm}(h:Dv t s d):Dv (ky f t) (f s) (ky f d):=by
 induction h with
 |zero s=>exact .zero _
 |one s=>exact .one _
 |bound k s=>exact .bound _ _
 |hit s=>exact .hit _
 |rK h=>exact .rK fun e=>h (hf _ _ e)
 |plus h1 h2 hl i1 i2=>exact .plus i1 i2 (by rw[<-iD f]at hl;exact hl)
 |times h1 h2 hl i1 i2=>exact .times i1 i2 (by rw[<-iD f]at hl;exact hl)
 |
  rc x hx hs h1 h2 hl i1 i2 =>
  rw[zN hf]
  rw[mV]at i1 i2
  exact .rc (f x) (by rw[oi hf];exact hx) (fun e=>hs (hf _ _ e)) i1 i2 (by rw[<-zN hf,iD];exact hl)
theorem Dv.names{t d:Ty}{s:Nm}(h:Dv t s d):∀y,bz y d=true->bz y t=true:=by
 induction h with
 |zero s=>intro y hy;cases hy
 |one s=>intro y hy;cases hy
 |bound k s=>intro y hy;cases hy
 |hit s=>intro y hy;cases hy
 |rK h=>intro y hy;cases hy
 |
  plus h1 h2 hl i1 i2 =>
  intro y hy
  simp only[bz,bH]at hy |-
  rcases hy with hy|hy
  ·exact .inl (i1 y hy)
  ·exact .inr (i2 y hy)
 |
  times h1 h2 hl i1 i2 =>
  intro y hy
  simp only[bz,bH]at hy |-
  rcases hy with(hy|hy)|(hy|hy)
  ·exact .inl (i1 y hy)
  ·exact .inr hy
  ·exact .inl hy
  ·exact .inr (i2 y hy)
 |
  rc x hx hs h1 h2 hl i1 i2 =>
  intro y hy
  simp only[qN,bz,bH,Bool.or_false]at hy |-
  have key:∀{a c:Ty},(∀y,bz y c=true->bz y (dH (.name x) a 0)=true)->bz y (sub x (.rc a) c)=true->bz y a=true:=fun i h=>by
   rcases jN _ h with h|⟨h,h'⟩
   ·exact h
   ·rcases ic _ _ (i y h')with e|e
    ·exact absurd e h
    ·exact e
  rcases hy with hy|hy
  ·exact key i1 hy
  ·exact key i2 hy
theorem Dv.fresh{t d:Ty}{s y:Nm}(h:Dv t s d)(hy:bz y t=false):bz y d=false:=by
 cases e:bz y d with
 |false=>rfl
 |true=>rw[h.names y e]at hy;cases hy
theorem Dv.move{a c:Ty}{x y s:Nm}(hx:bz x a=false)(hy:bz y a=false)(h:Dv (dH (.name x) a 0) s c):Dv (dH (.name y) a 0) (swp x y s) (Go.Proofs.Trees.ky (swp x y) c):=by
 have:=h.ky (Ad x y)
 rw[mV,xr,wa hx hy]at this
 exact this
theorem nC{a c:Ty}{x y s:Nm}(hx:bz x a=false)(hy:bz y a=false)(h:Dv (dH (.name x) a 0) s c):sub y (.rc a) (ky (swp x y) c)=sub x (.rc a) c:=by
 have e:=mX (Ad x y) x (.rc a) c
 rw[xr,wa (t:=.rc a) hx hy]at e
 rw[<-e]
 have key:∀z,(z=x\/z=y)->bz z (sub x (.rc a) c)=false:=fun z hz=>by
  cases q:bz z (sub x (.rc a) c)with
  |false=>rfl
  |
   true =>
   exfalso
   have hz':bz z a=false:=by rcases hz with rfl|rfl<;>assumption
   rcases jN _ q with h1|⟨h1,h2⟩
   ·rw[show bz z (.rc a)=bz z a from rfl,hz']at h1;cases h1
   ·rcases ic _ _ (h.names z h2)with e|e
    ·exact h1 e
    ·rw[hz']at e;cases e
 exact wa (key x (.inl rfl)) (key y (.inr rfl))
theorem Dv.uniq:∀(n:Nat) (t:Ty),t.atoms<=n->∀{s:Nm} {d d':Ty},Dv t s d->Dv t s d'->d=d'
 |0,t,h,_,_,_,_,_=>by have:=eG t;omega
 |
  n+1,t,hn,s,d,d',h,h'=>by
  cases h with
  |zero=>cases h';rfl
  |one=>cases h';rfl
  |bound=>cases h';rfl
  |
   hit =>
   cases h' with
   |hit=>rfl
   |rK h=>exact absurd rfl h
  |
   rK h =>
   cases h' with
   |hit=>exact absurd rfl h
   |rK _=>rfl
  |
   plus h1 h2 =>
   simp only[Ty.atoms]at hn
   cases h' with
   |plus g1 g2=>rw[Dv.uniq n _ (by omega) h1 g1,Dv.uniq n _ (by omega) h2 g2]
  |
   times h1 h2 =>
   simp only[Ty.atoms]at hn
   cases h' with
   |times g1 g2=>rw[Dv.uniq n _ (by omega) h1 g1,Dv.uniq n _ (by omega) h2 g2]
  |
   rc x hx hs h1 h2 =>
   simp only[Ty.atoms]at hn
   cases h' with
   |
    rc y hy hs' g1 g2 =>
    rename_i a _ _ _ _ _ _
    have m1:=h1.move hx hy
    have m2:=h2.move hx hy
    rw[Cu (Ne.symm hs) (Ne.symm hs')]at m1
    rw[xr]at m2
    have e1:=Dv.uniq n _ (by rw[fZ];omega) m1 g1
    have e2:=Dv.uniq n _ (by rw[fZ];omega) m2 g2
    rw[qN,qN,<-e1,<-e2,nC hx hy h1,nC hx hy h2]
theorem Dv.small{t d:Ty}{s:Nm}(h:Dv t s d):d.atoms<=400:=by
 cases h<;>first|assumption|simp[Ty.atoms]
open Classical in
noncomputable def mM (t:Ty) (s:Nm):Option Ty:=if h:∃d,Dv t s d then some (Classical.choose h)else none
theorem cX{t:Ty}{s:Nm}{d:Ty}:mM t s=some d↔Dv t s d:=by
 unfold mM
 by_cases h:∃d,Dv t s d
 ·rw[dif_pos h]
  have:=Classical.choose_spec h
  constructor
  ·intro e;cases e;exact this
  ·intro g;rw[Dv.uniq _ t (au _) this g]
 ·rw[dif_neg h]
  exact⟨fun e=>(by cases e),fun g=>absurd ⟨d,g⟩ h⟩
def oD(t:Ty):Option Ty:=if t.atoms<=400 then some t else none
theorem fq{t d:Ty}:oD t=some d↔t.atoms<=400/\t=d:=by
 unfold oD
 split
 ·rename_i h;simp[h]
 ·rename_i h;simp[h]
theorem sc{α:Type}{a b:Option α}(h:∀d,a=some d↔b=some d):a=b:=by
 cases a with
 |
  none=>cases b with
  |none=>rfl
  |some x=>have:=(h x).2 rfl;cases this
 |some x=>exact((h x).1 rfl).symm
theorem xH(s:Nm):mM .zero s=some .zero:=cX.2 (.zero _)
theorem zL(s:Nm):mM .one s=some .zero:=cX.2 (.one _)
theorem Bj(k:Nat)(s:Nm):mM (.bound k) s=some .zero:=cX.2 (.bound _ _)
theorem pR(n s:Nm):mM (.name n) s=some (if n=s then .one else .zero):=by
 split
 ·rename_i h;subst h;exact cX.2 (.hit _)
 ·rename_i h;exact cX.2 (.rK h)
theorem wM(a b:Ty)(s:Nm):mM (.plus a b) s=(mM a s).bind fun a'=>(mM b s).bind fun b'=>oD (.plus a' b'):=by
 refine sc fun d=>?_
 rw[cX]
 simp only[aW,cX,fq]
 constructor
 ·intro h;cases h with|plus h1 h2 hl=>exact⟨_,h1,_,h2,hl,rfl⟩
 ·rintro⟨a',h1,b',h2,hl,rfl⟩;exact .plus h1 h2 hl
theorem uv(a b:Ty)(s:Nm):mM (.times a b) s=(mM a s).bind fun a'=>(mM b s).bind fun b'=>oD (.plus (.times a' b) (.times a b')):=by
 refine sc fun d=>?_
 rw[cX]
 simp only[aW,cX,fq]
 constructor
 ·intro h;cases h with|times h1 h2 hl=>exact⟨_,h1,_,h2,hl,rfl⟩
 ·rintro⟨a',h1,b',h2,hl,rfl⟩;exact .times h1 h2 hl
theorem D8{a:Ty}{s x:Nm}(hx:bz x a=false)(hs:x≠s):mM (.rc a) s=(mM (dH (.name x) a 0) s).bind fun c=>(mM (dH (.name x) a 0) x).bind fun d=>oD (qN a x c d):=by
 refine sc fun d=>?_
 rw[cX]
 simp only[aW,cX,fq]
 constructor
 ·intro h
  cases h with
  |
   rc y hy hs' h1 h2 hl =>
   have m1:=h1.move hy hx
   have m2:=h2.move hy hx
   rw[Cu (Ne.symm hs') (Ne.symm hs)]at m1
   rw[xr]at m2
   refine⟨_,m1,_,m2,?_⟩
   have e:∀c d,sub x (.rc a) (ky (swp y x) c)=sub y (.rc a) c->sub x (.rc a) (ky (swp y x) d)=sub y (.rc a) d->qN a x (ky (swp y x) c) (ky (swp y x) d)=qN a y c d:=fun c d e1 e2=>by rw[qN,qN,e1,e2]
   rw[e _ _ (nC hy hx h1) (nC hy hx h2)]
   exact⟨hl,rfl⟩
 ·rintro⟨c,h1,d',h2,hl,rfl⟩;exact .rc x hx hs h1 h2 hl
noncomputable def pz (a:Ty) (x:Nm):Option Ty:=(mM (dH (.name x) a 0) x).bind fun d=>oD (sub x (.rc a) d)
theorem JJ{a:Ty}{x y:Nm}(hx:bz x a=false)(hy:bz y a=false):pz a x=pz a y:=by
 have key:∀{x y:Nm} {d:Ty},bz x a=false->bz y a=false->pz a x=some d->pz a y=some d:=fun {x y d} hx hy h=>by
  simp only[pz,aW,cX,fq]at h |-
  obtain⟨d',h1,hl,rfl⟩:=h
  have m1:=h1.move hx hy
  rw[xr]at m1
  exact⟨_,m1,by rw[nC hx hy h1];exact⟨hl,rfl⟩⟩
 exact sc fun d=>⟨key hx hy,key hy hx⟩
end Go.Proofs.Trees
namespace Go.Proofs.Trees
open Go Go.VL Go.RowKit
def cY:E->List Nm->Ty
 | .atom s,ar=>if s=[48]then .zero else if s=[49]then .one else match bT s ar ar.length with|some u=>.bound u|none=>.name s
 | .list [x,a,b],ar=>if x.at=[43]then .plus (cY a ar) (cY b ar)else if x.at=[42]then .times (cY a ar) (cY b ar)else .rc (cY b (ar++[a.at]))
 | .list _,_=>.zero
def sa(s:Nm):Prop:=s≠[]/\s≠[48]/\s≠[49]
inductive Wf:E->Prop
 |atom {s} (h:s≠[]):Wf (.atom s)
 |plus {a b} (ha:Wf a) (hb:Wf b):Wf (.list [.atom [43],a,b])
 |times {a b} (ha:Wf a) (hb:Wf b):Wf (.list [.atom [42],a,b])
 |rc {n b} (hn:sa n) (hb:Wf b):Wf (.list [.atom [114,101,99],.atom n,b])
theorem dX(a b:E)(ar:List Nm):cY (.list [.atom [43],a,b]) ar=.plus (cY a ar) (cY b ar):=by rw[cY,if_pos (show (E.atom [43]).at=[43] from rfl)]
theorem dB(a b:E)(ar:List Nm):cY (.list [.atom [42],a,b]) ar=.times (cY a ar) (cY b ar):=by rw[cY,if_neg (by decide),if_pos (show (E.atom [42]).at=[42] from rfl)]
theorem fL(a b:E)(ar:List Nm):cY (.list [.atom [114,101,99],a,b]) ar=.rc (cY b (ar++[a.at])):=by rw[cY,if_neg (by decide),if_neg (by decide)]
theorem Wf.ok{e:E}(h:Wf e):e.ok:=by
 induction h with
 |atom h=>exact h
 |plus ha hb i1 i2=>exact⟨by simp[E.ok],i1,i2,trivial⟩
 |times ha hb i1 i2=>exact⟨by simp[E.ok],i1,i2,trivial⟩
 |rc hn hb i=>exact⟨by simp[E.ok],hn.1,i,trivial⟩
theorem Wf.dr{e:E}(h:Wf e):∀ar,e.dr=(cY e ar).atoms:=by
 induction h with
 |
  @atom s h =>
  intro ar
  simp only[E.dr,cY]
  split
  ·rfl
  ·split
   ·rfl
   ·split<;>rfl
 |plus ha hb i1 i2=>intro ar;rw[dX];simp only[E.dr,E.fA,Ty.atoms,<-i1 ar,<-i2 ar];omega
 |times ha hb i1 i2=>intro ar;rw[dB];simp only[E.dr,E.fA,Ty.atoms,<-i1 ar,<-i2 ar];omega
 |@rc n b hn hb i=>intro ar;rw[fL];simp only[E.dr,E.fA,Ty.atoms,<-i];omega
theorem Wf.sz{e:E}(h:Wf e):e.sz<=3*e.dr:=by
 induction h with
 |atom h=>simp[E.sz,E.dr]
 |plus ha hb i1 i2=>simp only[E.sz,E.jZ,E.dr,E.fA];omega
 |times ha hb i1 i2=>simp only[E.sz,E.jZ,E.dr,E.fA];omega
 |rc hn hb i=>simp only[E.sz,E.jZ,E.dr,E.fA];omega
theorem lD:∀(e:E) (ar:List Nm) (t:Ty),e.ok->(∀w,w∈ar->dy w=true)->cZ e ar=some t->Wf e/\cY e ar=t
 |
  .atom s,ar,t,hok,hl,ht=>by
  refine⟨.atom hok,?_⟩
  simp only[cZ,cY]at ht |-
  split at ht
  ·rename_i h;rw[if_pos h];simpa using ht
  ·rename_i h;rw[if_neg h]
   split at ht
   ·rename_i h1;rw[if_pos h1];simpa using ht
   ·rename_i h1;rw[if_neg h1]
    split at ht
    ·rename_i hp
     cases q:bT s ar ar.length with
     |none=>simpa using ht
     |
      some u =>
      obtain⟨h1,h2⟩:=gb _ _ (au _) q
      have:=hl (gR ar u) (by
       unfold gR
       have:ar.length-1-u<ar.length:=by omega
       simp[aa,this])
      rw[h2,lC hp]at this;cases this
    ·split at ht
     ·split at ht<;>rename_i q<;>rw[q]<;>simpa using ht
     ·cases ht
 |
  .list [x,a,b],ar,t,hok,hl,ht=>by
  obtain⟨ok1,ok2,ok3,_⟩:=hok
  by_cases h0:x.at=[43]
  ·obtain⟨t1,t2,h1,h2,rfl⟩:=gf h0 ht
   obtain rfl:=lr h0 (by simp)
   obtain⟨w1,e1⟩:=lD a ar t1 ok2 hl h1
   obtain⟨w2,e2⟩:=lD b ar t2 ok3 hl h2
   exact⟨.plus w1 w2,by rw[dX,e1,e2]⟩
  ·by_cases h1:x.at=[42]
   ·obtain⟨t1,t2,h2,h3,rfl⟩:=fH h1 ht
    obtain rfl:=lr h1 (by simp)
    obtain⟨w1,e1⟩:=lD a ar t1 ok2 hl h2
    obtain⟨w2,e2⟩:=lD b ar t2 ok3 hl h3
    exact⟨.times w1 w2,by rw[dB,e1,e2]⟩
   ·by_cases h2:x.at=[114,101,99]
    ·obtain⟨t1,hla,h3,rfl⟩:=dK h2 ht
     obtain rfl:=lr h2 (by simp)
     have hne:a.at≠[]:=by intro e;rw[e]at hla;cases hla
     have ha:a=.atom a.at:=lr rfl hne
     obtain⟨w1,e1⟩:=lD b (ar++[a.at]) t1 ok3 (fun w hw=>by
      rcases aO.1 hw with hw|hw
      ·exact hl w hw
      ·simp only[aT]at hw;rw[hw];exact hla) h3
     have hN:sa a.at:=⟨hne,fun e=>by rw[e]at hla;revert hla;decide,fun e=>by rw[e]at hla;revert hla;decide⟩
     refine⟨?_,by rw[fL,e1]⟩
     rw[ha];exact .rc hN w1
    ·rw[jK _ h0 h1 h2]at ht;cases ht
 | .list [],ar,t,_,_,ht=>by cases ht
 | .list [_],ar,t,_,_,ht=>by cases ht
 | .list [_,_],ar,t,_,_,ht=>by cases ht
 | .list (_::_::_::_::_),ar,t,_,_,ht=>by cases ht
theorem fS(s:Nm)(ar:List Nm):bT s ar ar.length=none↔s∉ar:=by
 have:=nZ s ar ar.length (au _)
 rwa[List.take_length]at this
theorem oP(s:Nm)(ar:List Nm):∀(n:Nat) (br:List Nm),br.length=n->bT s (ar++br) (ar++br).length=match bT s br br.length with|some u=>some u|none=>(bT s ar ar.length).map (·+br.length)
 |
  0,br,h=>by
  obtain rfl:=bO h
  rw[dh]
  cases h:bT s ar ar.length<;>simp[bT]
 |
  n+1,br,h=>by
  obtain⟨b2,w,rfl⟩:∃b2 w,br=b2++[w]:=⟨br.dropLast,br.getLast (by intro e;rw[e]at h;cases h),(List.dropLast_concat_getLast _).symm⟩
  rw[<-a6]
  by_cases hw:w=s
  ·subst hw;rw[fN,fN]
  ·rw[kk _ hw,kk _ hw,oP s ar n b2 (by simpa using h)]
   cases bT s b2 b2.length with
   |some u=>rfl
   |
    none =>
    cases bT s ar ar.length with
    |none=>rfl
    |some u=>simp only[Option.map_none,cq,an,aw,aE];congr 1
theorem vK(ar:List Nm){e:E}(h:Wf e):∀br,(∀y,bz y (cY e br)=true->y∉ar)->cY e (ar++br)=cY e br:=by
 induction h with
 |
  @atom s h =>
  intro br hy
  simp only[cY]at hy |-
  split
  ·rfl
  ·rename_i h0
   split
   ·rfl
   ·rename_i h1
    rw[if_neg h0,if_neg h1]at hy
    rw[oP s ar _ br rfl]
    cases q:bT s br br.length with
    |some u=>rfl
    |
     none =>
     rw[q]at hy
     have:=(fS s ar).2 (hy s (by simp[bz]))
     rw[this];rfl
 |
  plus ha hb i1 i2 =>
  intro br hy
  rw[dX]at hy |-
  rw[dX,i1 br fun y h=>hy y (by simp[bz,h]),i2 br fun y h=>hy y (by simp[bz,h])]
 |
  times ha hb i1 i2 =>
  intro br hy
  rw[dB]at hy |-
  rw[dB,i1 br fun y h=>hy y (by simp[bz,h]),i2 br fun y h=>hy y (by simp[bz,h])]
 |
  @rc n b hn hb i =>
  intro br hy
  rw[fL]at hy |-
  rw[fL,a6,i _ hy]
theorem AP(x:Nm){e:E}(h:Wf e):∀ar,cY e ar=dH (.name x) (cY e ([x]++ar)) ar.length:=by
 induction h with
 |
  @atom s h =>
  intro ar
  simp only[cY]
  split
  ·rfl
  ·split
   ·rfl
   ·rw[oP s [x] _ ar rfl]
    cases q:bT s ar ar.length with
    |
     some u =>
     have:=(gb _ _ (au _) q).1
     simp only[dH];rw[if_neg (by omega)]
    |
     none =>
     by_cases hx:x=s
     ·subst hx
      have:bT x [x] [x].length=some 0:=fN x []
      rw[this];simp[dH]
     ·have:bT s [x] [x].length=none:=(fS s [x]).2 (by simpa using fun e=>hx e.symm)
      rw[this];rfl
 |plus ha hb i1 i2=>intro ar;rw[dX,dX,dH,<-i1 ar,<-i2 ar]
 |times ha hb i1 i2=>intro ar;rw[dB,dB,dH,<-i1 ar,<-i2 ar]
 |
  @rc n b hn hb i =>
  intro ar
  rw[fL,fL,dH,i (ar++[E.at (.atom n)]),a6]
  simp
theorem od{e:E}(h:Wf e):∀ar y,bz y (cY e ar)=true->sa y/\y∉ar:=by
 induction h with
 |
  @atom s h =>
  intro ar y hy
  simp only[cY]at hy
  split at hy
  ·cases hy
  ·rename_i h0
   split at hy
   ·cases hy
   ·rename_i h1
    split at hy
    ·cases hy
    ·rename_i q
     simp only[bz,decide_eq_true_eq]at hy
     subst hy
     exact⟨⟨h,h0,h1⟩,(fS _ _).1 q⟩
 |
  plus ha hb i1 i2 =>
  intro ar y hy
  rw[dX]at hy
  simp only[bz,bH]at hy
  rcases hy with hy|hy
  ·exact i1 ar y hy
  ·exact i2 ar y hy
 |
  times ha hb i1 i2 =>
  intro ar y hy
  rw[dB]at hy
  simp only[bz,bH]at hy
  rcases hy with hy|hy
  ·exact i1 ar y hy
  ·exact i2 ar y hy
 |
  rc hn hb i =>
  intro ar y hy
  rw[fL]at hy
  obtain⟨h1,h2⟩:=i _ y hy
  exact⟨h1,fun h=>h2 (aD _ h)⟩
theorem mK{e:E}(h:Wf e):∀(bd l:List Nm) (y:Nm),y∈lA e bd l↔y∈l\/bz y (cY e bd)=true:=by
 induction h with
 |
  @atom s h =>
  intro bd l y
  simp only[lA,cY]
  by_cases h0:s=[48]
  ·simp[h0,bz]
  ·by_cases h1:s=[49]
   ·simp[h1,bz]
   ·rw[if_neg h0,if_neg h1]
    by_cases h2:s∈bd
    ·cases q:bT s bd bd.length with
     |none=>exact absurd h2 ((fS _ _).1 q)
     |some u=>simp[h2,bz]
    ·rw[(fS _ _).2 h2]
     simp only[h0,h1,h2,false_or,bz,decide_eq_true_eq]
     by_cases h3:s∈l
     ·simp only[h3,if_true]
      exact⟨fun h=>.inl h,fun h=>by rcases h with h|rfl<;>assumption⟩
     ·simp only[h3,if_false,aO,aT,eq_comm]
 |
  plus ha hb i1 i2 =>
  intro bd l y
  rw[lA,if_neg (by decide),dX,i2,i1]
  simp[bz,or_assoc]
 |
  times ha hb i1 i2 =>
  intro bd l y
  rw[lA,if_neg (by decide),dB,i2,i1]
  simp[bz,or_assoc]
 |
  rc hn hb i =>
  intro bd l y
  rw[lA,if_pos (show (E.atom [114,101,99]).at=[114,101,99] from rfl),fL,i]
  rfl
theorem fp:∀(t:Ty) (out:List Nm) (y:Nm),y∈bS t out↔y∈out\/bz y t=true
 |
  .name s,out,y=>by
  simp only[bS,rh,bz,decide_eq_true_eq]
  split
  ·rename_i h;exact⟨fun h=>.inl h,fun h'=>by rcases h' with h'|rfl<;>assumption⟩
  ·simp[eq_comm]
 | .plus a b,out,y=>by rw[bS,fp b,fp a];simp[bz,or_assoc]
 | .times a b,out,y=>by rw[bS,fp b,fp a];simp[bz,or_assoc]
 | .rc a,out,y=>by rw[bS,fp a];rfl
 | .zero,out,y=>by simp[bS,bz]
 | .one,out,y=>by simp[bS,bz]
 | .bound k,out,y=>by simp[bS,bz]
end Go.Proofs.Trees
namespace Go.Proofs.Trees
open Go Go.VL Go.RowKit
abbrev dP:Nm:=[114,101,99]
theorem ej(s:Nm):(E.atom s).at=s:=rfl
def tB(x:Nm)(u:E):E->E
 | .atom s=>if s=x then u else .atom s
 | .list [h,a,b]=>if h.at=dP then(if a.at=x then .list [h,a,b]else .list [.atom dP,a,tB x u b])else .list [.atom h.at,tB x u a,tB x u b]
 | .list l=>.list l
def om(x:Nm):E->Nat
 | .atom s=>if s=x then 1 else 0
 | .list [h,a,b]=>if h.at=dP then(if a.at=x then 0 else om x b)else om x a+om x b
 | .list _=>0
def vj(p:Nm->Prop):E->Prop
 | .atom _=>True
 | .list [h,a,b]=>(if h.at=dP then p a.at else vj p a)/\vj p b
 | .list _=>True
def fO(x:Nm):Ty->Nat
 | .name s=>if s=x then 1 else 0
 | .plus a b=>fO x a+fO x b
 | .times a b=>fO x a+fO x b
 | .rc a=>fO x a
 |_=>0
theorem xz(x:Nm)(u a b:E):tB x u (.list [.atom [43],a,b])=.list [.atom [43],tB x u a,tB x u b]:=by rw[tB,if_neg (by decide)];rfl
theorem u5(x:Nm)(u a b:E):tB x u (.list [.atom [42],a,b])=.list [.atom [42],tB x u a,tB x u b]:=by rw[tB,if_neg (by decide)];rfl
theorem Eh(x:Nm)(u:E)(n:Nm)(b:E):tB x u (.list [.atom dP,.atom n,b])=if n=x then .list [.atom dP,.atom n,b]else .list [.atom dP,.atom n,tB x u b]:=by rw[tB,if_pos (ej _)];rfl
theorem sN(x:Nm)(a b:E):om x (.list [.atom [43],a,b])=om x a+om x b:=by rw[om,if_neg (by decide)]
theorem qW(x:Nm)(a b:E):om x (.list [.atom [42],a,b])=om x a+om x b:=by rw[om,if_neg (by decide)]
theorem yL(x:Nm)(n:Nm)(b:E):om x (.list [.atom dP,.atom n,b])=if n=x then 0 else om x b:=by rw[om,if_pos (ej _)];rfl
theorem qc(p:Nm->Prop)(a b:E):vj p (.list [.atom [43],a,b])↔vj p a/\vj p b:=by rw[vj,if_neg (by decide)]
theorem n9(p:Nm->Prop)(a b:E):vj p (.list [.atom [42],a,b])↔vj p a/\vj p b:=by rw[vj,if_neg (by decide)]
theorem vz(p:Nm->Prop)(n:Nm)(b:E):vj p (.list [.atom dP,.atom n,b])↔p n/\vj p b:=by rw[vj,if_pos (ej _)];rfl
theorem Ck{p q:Nm->Prop}(h:∀n,p n->q n){e:E}(hw:Wf e):vj p e->vj q e:=by
 induction hw with
 |atom _=>exact fun _=>trivial
 |plus _ _ i1 i2=>rw[qc,qc];exact fun g=>⟨i1 g.1,i2 g.2⟩
 |times _ _ i1 i2=>rw[n9,n9];exact fun g=>⟨i1 g.1,i2 g.2⟩
 |rc _ _ i=>rw[vz,vz];exact fun g=>⟨h _ g.1,i g.2⟩
theorem jJ{s:Nm}(hs:sa s){ar:List Nm}(h:s∉ar):cY (.atom s) ar=.name s:=by
 simp only[cY];rw[if_neg hs.2.1,if_neg hs.2.2,(fS s ar).2 h]
theorem ED{x:Nm}(hx:sa x){u:E}(hu:Wf u){e:E}(h:Wf e):vj (fun n=>n≠x/\bz n (cY u [])=false) e->∀ar,x∉ar->(∀y,y∈ar->bz y (cY u [])=false)->Wf (tB x u e)/\cY (tB x u e) ar=sub x (cY u []) (cY e ar):=by
 induction h with
 |
  @atom s hs =>
  intro _ ar har hy
  by_cases e:s=x
  ·subst e
   have:cY u (ar++[])=cY u []:=vK ar hu [] fun y hy' hm=>by rw[hy y hm]at hy';cases hy'
   rw[dh]at this
   rw[jJ hx har]
   simp only[tB,sub,if_true]
   exact⟨hu,this⟩
  ·simp only[tB,if_neg e]
   refine⟨.atom hs,?_⟩
   simp only[cY]
   split
   ·rfl
   ·split
    ·rfl
    ·split
     ·rfl
     ·simp only[sub,if_neg e]
 |
  plus ha hb i1 i2 =>
  intro hap ar har hy
  rw[qc]at hap
  obtain⟨w1,e1⟩:=i1 hap.1 ar har hy
  obtain⟨w2,e2⟩:=i2 hap.2 ar har hy
  rw[xz,dX,dX,e1,e2]
  exact⟨.plus w1 w2,rfl⟩
 |
  times ha hb i1 i2 =>
  intro hap ar har hy
  rw[n9]at hap
  obtain⟨w1,e1⟩:=i1 hap.1 ar har hy
  obtain⟨w2,e2⟩:=i2 hap.2 ar har hy
  rw[u5,dB,dB,e1,e2]
  exact⟨.times w1 w2,rfl⟩
 |
  @rc n b hn hb i =>
  intro hap ar har hy
  rw[vz]at hap
  obtain⟨w1,e1⟩:=i hap.2 (ar++[n]) (by
   simp only[aO,aT]
   rintro(h|h)
   ·exact har h
   ·exact hap.1.1 h.symm) (fun y hm=>by
   simp only[aO,aT]at hm
   rcases hm with hm|rfl
   ·exact hy y hm
   ·exact hap.1.2)
  rw[Eh,if_neg hap.1.1,fL,fL]
  refine⟨.rc hn w1,?_⟩
  show Ty.rc (cY (tB x u b) (ar++[n]))=_
  rw[e1];rfl
theorem Gb{x:Nm}(hx:sa x){e:E}(h:Wf e):∀ar,fO x (cY e ar)=if x∈ar then 0 else om x e:=by
 induction h with
 |
  @atom s hs =>
  intro ar
  by_cases e:s=x
  ·subst e
   by_cases hm:s∈ar
   ·rw[if_pos hm]
    simp only[cY];rw[if_neg hx.2.1,if_neg hx.2.2]
    cases q:bT s ar ar.length with
    |none=>exact absurd hm ((fS _ _).1 q)
    |some u=>rfl
   ·rw[if_neg hm,jJ hx hm];simp[fO,om]
  ·have:fO x (cY (.atom s) ar)=0:=by
    simp only[cY]
    split
    ·rfl
    ·split
     ·rfl
     ·split
      ·rfl
      ·simp[fO,e]
   rw[this];simp[om,e]
 |plus ha hb i1 i2=>intro ar;rw[dX,sN,fO,i1,i2];split<;>simp
 |times ha hb i1 i2=>intro ar;rw[dB,qW,fO,i1,i2];split<;>simp
 |
  @rc n b hn hb i =>
  intro ar
  rw[fL,yL,fO,i]
  simp only[ej,aO,aT]
  by_cases h1:x∈ar
  ·simp[h1]
  ·by_cases h2:x=n
   ·simp[h2]
   ·simp[h1,h2,Ne.symm h2]
theorem ew(x:Nm)(u:Ty):∀t:Ty,(sub x u t).atoms+fO x t=t.atoms+fO x t*u.atoms
 | .name s=>by simp only[sub,fO];split<;>simp[Ty.atoms];omega
 | .plus a b=>by have:=ew x u a;have:=ew x u b;simp only[sub,Ty.atoms,fO,Nat.add_mul];omega
 | .times a b=>by have:=ew x u a;have:=ew x u b;simp only[sub,Ty.atoms,fO,Nat.add_mul];omega
 | .rc a=>by have:=ew x u a;simp only[sub,Ty.atoms,fO];omega
 | .zero=>by simp[sub,fO]
 | .one=>by simp[sub,fO]
 | .bound k=>by simp[sub,fO]
abbrev tN(m:Nat):Nm:=116::dd m
theorem GQ(m:Nat):dd m≠[]:=by
 by_cases h:m<10
 ·rw[fg h];simp
 ·rw[gl h];simp
theorem yb:∀(n m k:Nat),m<n->dd m=dd k->m=k
 |0,m,k,h,_=>by omega
 |
  n+1,m,k,h,e=>by
  have d10:∀{a b:Nat},a<10->b<10->bu (48+a)=bu (48+b)->a=b:=fun {a b} ha hb h=>by
   have:=congrArg UInt8.toNat h
   simp only[UInt8.toNat_ofNat']at this
   omega
  by_cases h1:m<10<;>by_cases h2:k<10
  ·rw[fg h1,fg h2]at e
   simp only[List.cons.injEq,and_true]at e
   exact d10 h1 h2 e
  ·rw[fg h1,gl h2]at e
   have:=congrArg List.length e
   have:dd (k/10)=[]:=by
    apply bO
    simp at this;simpa using this
   exact absurd this (GQ _)
  ·rw[gl h1,fg h2]at e
   have:=congrArg List.length e
   have:dd (m/10)=[]:=by
    apply bO
    simp at this;simpa using this
   exact absurd this (GQ _)
  ·rw[gl h1,gl h2]at e
   obtain⟨e1,e2⟩:=List.append_inj' e rfl
   have:=yb n (m/10) (k/10) (by omega) e1
   simp only[List.cons.injEq,and_true]at e2
   have:=d10 (Nat.mod_lt _ (by omega)) (Nat.mod_lt _ (by omega)) e2
   omega
theorem Cf{m k:Nat}(h:tN m=tN k):m=k:=yb (m+1) m k (by omega) (List.cons.inj h).2
theorem AM(m:Nat):sa (tN m):=⟨by simp,by simp,by simp⟩
theorem Vi:∀(l F:List Nm),l.Nodup->(∀x,x∈l->x∈F)->l.length<=F.length
 |[],_,_,_=>dQ _
 |
  x::l,F,hn,hs=>by
  obtain⟨h1,h2⟩:=List.nodup_cons.1 hn
  have hx:=hs x ak
  have:=Vi l (F.erase x) h2 fun y hy=>(List.mem_erase_of_ne (fun e=>h1 (by rw[<-e];exact hy))).2 (hs y (al _ hy))
  rw[List.length_erase_of_mem hx]at this
  have:0<F.length:=List.length_pos_of_mem hx
  simp only[aw];omega
def rr(F:List Nm):Nat->Nat->Nat
 |0,k=>k
 |n+1,k=>if tN k∈F then rr F n (k+1)else k
theorem wG(F:List Nm):∀(n k:Nat),k<=rr F n k/\rr F n k<=k+n/\(∀j,k<=j->j<rr F n k->tN j∈F)/\(rr F n k<k+n->tN (rr F n k)∉F)
 |0,k=>⟨au _,au _,fun j h1 h2=>by simp only[rr]at h2;omega,fun h=>by simp only[rr]at h;omega⟩
 |
  n+1,k=>by
  rw[rr]
  split
  ·rename_i hm
   obtain⟨h1,h2,h3,h4⟩:=wG F n (k+1)
   refine⟨by omega,by omega,fun j hj hl=>?_,fun h=>h4 (by omega)⟩
   by_cases e:j=k
   ·subst e;exact hm
   ·exact h3 j (by omega) hl
  ·rename_i hm
   exact⟨au _,by omega,fun j h1 h2=>by omega,fun _=>hm⟩
def nx(F:List Nm)(k:Nat):Nat:=rr F (F.length+1) k
theorem ib(F:List Nm)(k:Nat):k<=nx F k/\nx F k<=k+F.length/\(∀j,k<=j->j<nx F k->tN j∈F)/\tN (nx F k)∉F:=by
 obtain⟨h1,h2,h3,h4⟩:=wG F (F.length+1) k
 have hlt:nx F k<k+(F.length+1):=by
  rcases Nat.lt_or_ge (nx F k) (k+(F.length+1))with h|h
  ·exact h
  ·exfalso
   have:=Vi ((List.range' k (F.length+1)).map tN) F (by
    refine List.Pairwise.map _ (fun a b hab e=>hab (Cf e)) List.nodup_range') (fun x hx=>by
    obtain⟨j,hj,rfl⟩:=bM.1 hx
    obtain⟨i,hi,rfl⟩:=List.mem_range'.1 hj
    exact h3 _ (by omega) (by show _<nx F k;omega))
   simp at this
   omega
 exact⟨h1,by unfold nx at hlt |-;omega,h3,h4 hlt⟩
theorem CQ{F F':List Nm}(h:∀y,y∈F↔y∈F')(k:Nat):nx F k=nx F' k:=by
 obtain⟨a1,a2,a3,a4⟩:=ib F k
 obtain⟨b1,b2,b3,b4⟩:=ib F' k
 rcases Nat.lt_trichotomy (nx F k) (nx F' k)with hl|he|hl
 ·exact absurd ((h _).2 (b3 _ a1 hl)) a4
 ·exact he
 ·exact absurd ((h _).1 (a3 _ b1 hl)) b4
def iL(F:List Nm):Ty->List Nm->Nat->E×Nat
 | .zero,_,k=>(.atom [48],k)
 | .one,_,k=>(.atom [49],k)
 | .name s,_,k=>(.atom s,k)
 | .bound u,to,k=>(.atom (gR to u),k)
 | .plus a b,to,k=>(.list [.atom [43],(iL F a to k).1,(iL F b to (iL F a to k).2).1],(iL F b to (iL F a to k).2).2)
 | .times a b,to,k=>(.list [.atom [42],(iL F a to k).1,(iL F b to (iL F a to k).2).1],(iL F b to (iL F a to k).2).2)
 | .rc a,to,k=>(.list [.atom dP,.atom (tN (nx F k)),(iL F a (to++[tN (nx F k)]) (nx F k+1)).1],(iL F a (to++[tN (nx F k)]) (nx F k+1)).2)
theorem ko{F F':List Nm}(h:∀y,y∈F↔y∈F'):∀(t:Ty) (to:List Nm) (k:Nat),iL F t to k=iL F' t to k
 | .zero,_,_=>rfl
 | .one,_,_=>rfl
 | .name _,_,_=>rfl
 | .bound _,_,_=>rfl
 | .plus a b,to,k=>by simp only[iL];rw[ko h a,ko h b]
 | .times a b,to,k=>by simp only[iL];rw[ko h a,ko h b]
 | .rc a,to,k=>by simp only[iL];rw[CQ h,ko h a]
def j6:Ty->Nat->Prop
 | .bound u,i=>u<i
 | .plus a b,i=>j6 a i/\j6 b i
 | .times a b,i=>j6 a i/\j6 b i
 | .rc a,i=>j6 a (i+1)
 |_,_=>True
theorem vJ{e:E}(h:Wf e):∀ar,j6 (cY e ar) ar.length:=by
 induction h with
 |
  @atom s hs =>
  intro ar
  simp only[cY]
  split
  ·trivial
  ·split
   ·trivial
   ·split
    ·rename_i u q;exact(gb _ _ (au _) q).1
    ·trivial
 |plus ha hb i1 i2=>intro ar;rw[dX];exact⟨i1 ar,i2 ar⟩
 |times ha hb i1 i2=>intro ar;rw[dB];exact⟨i1 ar,i2 ar⟩
 |
  @rc n b hn hb i =>
  intro ar;rw[fL]
  have:=i (ar++[(E.atom n).at])
  rw[an]at this
  exact this
structure Gn(F to:List Nm)(k:Nat):Prop where
 out:∀w,w∈to->w∉F
 lt:∀w,w∈to->∃j,j<k/\w=tN j
 nd:to.Nodup
theorem Gn.nil(F:List Nm)(k:Nat):Gn F [] k:=⟨fun _ h=>(by cases h),fun _ h=>(by cases h),by simp⟩
theorem Gn.mono{F to:List Nm}{k k':Nat}(h:Gn F to k)(hk:k<=k'):Gn F to k':=⟨h.out,fun w hw=>by obtain⟨j,h1,h2⟩:=h.lt w hw;exact⟨j,by omega,h2⟩,h.nd⟩
theorem Gn.push{F to:List Nm}{k:Nat}(h:Gn F to k):Gn F (to++[tN (nx F k)]) (nx F k+1):=by
 obtain⟨h1,h2,h3,h4⟩:=ib F k
 refine⟨fun w hw=>?_,fun w hw=>?_,?_⟩
 ·rcases aO.1 hw with hw|hw
  ·exact h.out w hw
  ·simp only[aT]at hw;rw[hw];exact h4
 ·rcases aO.1 hw with hw|hw
  ·obtain⟨j,g1,g2⟩:=h.lt w hw;exact⟨j,by omega,g2⟩
  ·simp only[aT]at hw;exact⟨_,by omega,hw⟩
 ·refine List.nodup_append.2 ⟨h.nd,by simp,fun a ha b hb e=>?_⟩
  simp only[aT]at hb
  obtain⟨j,g1,g2⟩:=h.lt a ha
  rw[e,hb]at g2
  have:=Cf g2
  omega
theorem vt{to:List Nm}(hn:to.Nodup){u:Nat}(hu:u<to.length):bT (gR to u) to to.length=some u:=by
 have hm:gR to u∈to:=by
  unfold gR
  have:to.length-1-u<to.length:=by omega
  simp[aa,this]
 cases q:bT (gR to u) to to.length with
 |none=>exact absurd hm ((fS _ _).1 q)
 |
  some v =>
  obtain⟨h1,h2⟩:=gb _ _ (au _) q
  unfold gR at h2
  have e1:to.length-1-v<to.length:=by omega
  have e2:to.length-1-u<to.length:=by omega
  rw[aa,aa,bp e1,bp e2]at h2
  have hp:=List.pairwise_iff_getElem.1 hn
  have h3:to[to.length-1-v]=to[to.length-1-u]:=by simpa using h2
  rcases Nat.lt_trichotomy (to.length-1-v) (to.length-1-u)with hl|he|hl
  ·exact absurd h3 (hp _ _ e1 e2 hl)
  ·congr 1;omega
  ·exact absurd h3.symm (hp _ _ e2 e1 hl)
theorem lI(F:List Nm):∀(t:Ty) (to:List Nm) (k:Nat),Gn F to k->j6 t to.length->(∀y,bz y t=true->y∈F/\sa y) ->
 Wf (iL F t to k).1/\cY (iL F t to k).1 to=t/\k<=(iL F t to k).2/\(iL F t to k).2<=k+(F.length+1)*t.atoms/\vj (·∉F) (iL F t to k).1
 | .zero,to,k,_,_,_=>⟨.atom (by simp),rfl,au _,dm _ _,trivial⟩
 | .one,to,k,_,_,_=>⟨.atom (by simp),rfl,au _,dm _ _,trivial⟩
 |
  .name s,to,k,g,hl,hn=>by
  obtain⟨h1,h2⟩:=hn s (by simp[bz])
  exact⟨.atom h2.1,jJ h2 (fun h=>g.out s h h1),au _,dm _ _,trivial⟩
 |
  .bound u,to,k,g,hl,hn=>by
  have hm:gR to u∈to:=by
   unfold gR
   have:to.length-1-u<to.length:=by have:u<to.length:=hl;omega
   simp[aa,this]
  obtain⟨j,_,e⟩:=g.lt _ hm
  have hok:sa (gR to u):=by rw[e];exact AM j
  refine⟨.atom hok.1,?_,au _,dm _ _,trivial⟩
  simp only[iL,cY]
  rw[if_neg hok.2.1,if_neg hok.2.2,vt g.nd hl]
 |
  .plus a b,to,k,g,hl,hn=>by
  obtain⟨a1,a2,a3,a4,a5⟩:=lI F a to k g hl.1 fun y hy=>hn y (by simp[bz,hy])
  obtain⟨b1,b2,b3,b4,b5⟩:=lI F b to _ (g.mono a3) hl.2 fun y hy=>hn y (by simp[bz,hy])
  simp only[iL,dX,a2,b2,qc,Ty.atoms]
  refine⟨.plus a1 b1,trivial,by omega,?_,a5,b5⟩
  have:(F.length+1)*(1+a.atoms+b.atoms)=(F.length+1)+(F.length+1)*a.atoms+(F.length+1)*b.atoms:=by simp only[da,dS]
  omega
 |
  .times a b,to,k,g,hl,hn=>by
  obtain⟨a1,a2,a3,a4,a5⟩:=lI F a to k g hl.1 fun y hy=>hn y (by simp[bz,hy])
  obtain⟨b1,b2,b3,b4,b5⟩:=lI F b to _ (g.mono a3) hl.2 fun y hy=>hn y (by simp[bz,hy])
  simp only[iL,dB,a2,b2,n9,Ty.atoms]
  refine⟨.times a1 b1,trivial,by omega,?_,a5,b5⟩
  have:(F.length+1)*(1+a.atoms+b.atoms)=(F.length+1)+(F.length+1)*a.atoms+(F.length+1)*b.atoms:=by simp only[da,dS]
  omega
 |
  .rc a,to,k,g,hl,hn=>by
  obtain⟨h1,h2,h3,h4⟩:=ib F k
  obtain⟨a1,a2,a3,a4,a5⟩:=lI F a (to++[tN (nx F k)]) (nx F k+1) g.push (by rw[an];exact hl) hn
  simp only[iL,fL,ej,a2,vz,Ty.atoms]
  refine⟨.rc (AM _) a1,trivial,by omega,?_,h4,a5⟩
  have:(F.length+1)*(2+a.atoms)=(F.length+1)*2+(F.length+1)*a.atoms:=by simp only[da]
  omega
end Go.Proofs.Trees
namespace Go.Proofs.Trees
open Go Go.VL
mutual
def E.pr:E->Prop
 | .atom s=>s≠[]/\s.all fF=true
 | .list l=>l≠[]/\E.Ch l
def E.Ch:List E->Prop
 |[]=>True
 |e::l=>e.pr/\E.Ch l
end
mutual
def E.dp:E->Nat
 | .atom _=>0
 | .list l=>1+E.wv l
def E.wv:List E->Nat
 |[]=>0
 |e::l=>max e.dp (E.wv l)
end
def Qy(r:List UInt8):Prop:=∀c t,r=c::t->fF c=false
theorem vD:Qy []:=by intro c t h;cases h
theorem DF{s r:List UInt8}(hs:s.all fF=true)(hr:Qy r):(s++r).takeWhile fF=s/\(s++r).dropWhile fF=r:=by
 induction s with
 |
  nil =>
  cases r with
  |nil=>exact⟨rfl,rfl⟩
  |cons c t=>have:=hr c t rfl;simp[List.takeWhile,List.dropWhile,this]
 |
  cons c s ih =>
  simp only[dj,aA]at hs
  have:=ih hs.2
  simp[List.takeWhile,List.dropWhile,hs.1,this.1,this.2]
theorem xn(l:List E)(r:List UInt8):Qy (eF l++41::r):=by
 intro c t h
 cases l with
 |nil=>simp only[eF,aS,List.cons.injEq]at h;rw[<-h.1];decide
 |cons e l=>simp only[eF,bf,List.cons.injEq]at h;rw[<-h.1];decide
theorem Cr{f:List UInt8->Option (E×List UInt8)}(r:List UInt8):∀(l:List E) (e:E) (acc:List E) (n:Nat),l.length<n->(∀x,x=e\/x∈l->∀r,Qy r->f (fD x++r)=some (x,r)) ->
 tR f n (fD e++(eF l++41::r)) acc=some (.list (acc++e::l),r)
 |l,e,acc,0,hn,hf=>by omega
 |
  [],e,acc,n+1,hn,hf=>by
  simp only[tR]
  rw[hf e (.inl rfl) _ (xn [] r)]
  simp[eF]
 |
  x::l,e,acc,n+1,hn,hf=>by
  simp only[tR]
  rw[hf e (.inl rfl) _ (xn (x::l) r)]
  simp only[aw]at hn
  have ih:=Cr r l x (acc++[e]) n (by omega) (fun y hy=>hf y (.inr (by cases hy with|inl h=>rw[h];exact ak|inr h=>exact al _ h)))
  simp only[a6,bf,aS]at ih
  simp only[eF,bf,a6]
  simp[ih]
theorem EJ{l:List E}{k:Nat}:E.Ch l->E.wv l<=k->∀x,x∈l->x.pr/\x.dp<=k:=by
 induction l with
 |nil=>intro _ _ x h;cases h
 |
  cons e l ih =>
  intro h hd x hx
  simp only[E.Ch,E.wv]at h hd
  cases hx with
  |head=>exact⟨h.1,by omega⟩
  |tail _ hx=>exact ih h.2 (by omega) x hx
theorem zP:∀(k:Nat) (e:E) (r:List UInt8),e.pr->e.dp<=k->Qy r->rd k (fD e++r)=some (e,r)
 |
  0,.atom s,r,hp,hd,hr=>by
  have h:=DF hp.2 hr
  simp only[fD,rd,h.1,h.2,hp.1,if_false]
 |
  k+1,.atom s,r,hp,hd,hr=>by
  have h:=DF hp.2 hr
  simp only[fD,rd,h.1,h.2,hp.1,if_false]
 |0,.list l,r,hp,hd,hr=>by simp only[E.dp]at hd;omega
 |k+1,.list [],r,hp,hd,hr=>by exact absurd rfl hp.1
 |
  k+1,.list (e::l),r,hp,hd,hr=>by
  have hs:fF 40=false:=by decide
  simp only[E.dp,E.pr]at hd hp
  have hm:=EJ (k:=k) hp.2 (by omega)
  have:=Cr (f:=rd k) r l e [] ((fD e++(eF l++41::r)).length+1) (by have:=sG l;simp only[an,aw];omega)
   (fun x hx r hr=>zP k x r (hm x (by cases hx with|inl h=>rw[h];exact ak|inr h=>exact al _ h)).1 (hm x (by cases hx with|inl h=>rw[h];exact ak|inr h=>exact al _ h)).2 hr)
  simp only[fD,bf,a6,aS]at *
  simp only[rd,List.takeWhile,hs,if_true]
  simpa using this
theorem Ct{e e':E}(h:e.pr)(h':e'.pr)(ht:fD e=fD e'):e=e':=by
 have a:=zP (max e.dp e'.dp) e [] h (by omega) vD
 have b:=zP (max e.dp e'.dp) e' [] h' (by omega) vD
 rw[ht,b]at a;cases a;rfl
theorem J3{e:E}(h:e.pr)(hd:e.dp<=300)(hl:(fD e).length<=8000):sw (fD e)=some e:=by
 have:=zP 300 e [] h hd vD
 rw[dh]at this
 rw[sw,this];simp;omega
theorem DW(s:List UInt8):(s.takeWhile fF).all fF=true:=by
 induction s with
 |nil=>rfl
 |cons c s ih =>
  cases h:fF c
  ·simp[List.takeWhile,h]
  ·simp only[List.takeWhile,h,dj,ih];rfl
theorem Fh(l r:List E):E.Ch (l++r)↔E.Ch l/\E.Ch r:=by
 induction l with
 |nil=>simp[E.Ch]
 |cons e l ih=>simp[E.Ch,ih,and_assoc]
theorem E0(l r:List E):E.wv (l++r)=max (E.wv l) (E.wv r):=by
 induction l with
 |nil=>simp[E.wv]
 |cons e l ih=>simp[E.wv,ih,Nat.max_assoc]
theorem zT{k:Nat}{f:List UInt8->Option (E×List UInt8)}(hf:∀s e r,f s=some (e,r)->s=fD e++r/\e.pr/\e.dp<=k):∀(n:Nat) (s:List UInt8) (acc:List E) (e:E) (r:List UInt8),tR f n s acc=some (e,r)->E.Ch acc->E.wv acc<=k ->
 ∃l,e=.list (acc++l)/\l≠[]/\32::s=eF l++41::r/\E.Ch l/\E.wv l<=k
 |0,s,acc,e,r,h,hp,hd=>by cases h
 |
  n+1,s,acc,e,r,h,hp,hd=>by
  simp only[tR]at h
  split at h
  ·rename_i p c r' hs
   obtain⟨h1,h2,h3⟩:=hf _ _ _ hs
   split at h
   ·rename_i hc
    have hc:c=41:=UInt8.toNat_inj.mp hc
    cases h
    exact⟨[p],rfl,by simp,by simp[eF,h1,hc],⟨h2,trivial⟩,by simp[E.wv];omega⟩
   ·split at h
    ·rename_i hc
     have hc:c=32:=UInt8.toNat_inj.mp hc
     obtain⟨l,g1,g2,g3,g4,g5⟩:=zT hf n _ _ _ _ h ((Fh _ _).mpr ⟨hp,h2,trivial⟩) (by rw[E0];simp[E.wv];omega)
     refine⟨p::l,by simpa using g1,by simp,?_,⟨h2,g4⟩,by simp only[E.wv];omega⟩
     rw[h1,hc,g3];simp[eF]
    ·cases h
  ·cases h
theorem Ea:∀(k:Nat) (s:List UInt8) (e:E) (r:List UInt8),rd k s=some (e,r)->s=fD e++r/\e.pr/\e.dp<=k
 |
  0,s,e,r,h=>by
  simp only[rd]at h
  split at h
  ·cases h
  ·rename_i hs;cases h
   exact⟨(List.takeWhile_append_dropWhile).symm,⟨hs,DW s⟩,au _⟩
 |
  k+1,s,e,r,h=>by
  simp only[rd]at h
  split at h
  ·split at h
   ·rename_i c r' _
    split at h
    ·rename_i hc
     have hc:c=40:=UInt8.toNat_inj.mp hc
     obtain⟨l,g1,g2,g3,g4,g5⟩:=zT (k:=k) (fun s e r h=>Ea k s e r h) _ _ _ _ _ h trivial (dQ _)
     simp only[aS]at g1
     subst g1;subst hc
     refine⟨?_,⟨g2,g4⟩,by simp only[E.dp];omega⟩
     cases l with
     |nil=>exact absurd rfl g2
     |
      cons x l =>
      simp only[eF,bf,a6,List.cons.injEq,true_and]at g3
      rw[g3];simp[fD]
    ·cases h
   ·cases h
  ·rename_i hs;cases h
   exact⟨(List.takeWhile_append_dropWhile).symm,⟨hs,DW s⟩,by simp[E.dp]⟩
theorem zy{s:List UInt8}{e:E}(h:sw s=some e):s=fD e/\e.pr/\e.dp<=300/\s.length<=8000:=by
 unfold sw at h
 split at h
 ·cases h
 ·rename_i hl
  split at h
  ·rename_i e' hr
   cases h
   have:=Ea _ _ _ _ hr
   exact⟨by simpa using this.1,this.2.1,this.2.2,by omega⟩
  ·cases h
theorem CA{k:Nat}(h:k<10):fF (bu (48+k))=true:=by
 have:∀k:Fin 10,fF (bu (48+k.val))=true:=by decide
 exact this ⟨k,h⟩
theorem xT:∀(n k:Nat),k<n->(dd k).all fF=true
 |0,k,h=>by omega
 |
  n+1,k,h=>by
  by_cases hk:k<10
  ·rw[fg hk,dj,CA hk];rfl
  ·rw[gl hk]
   have:=xT n (k/10) (by omega)
   rw[List.all_append,this,dj,CA (Nat.mod_lt k (by omega:0<10))];rfl
theorem IQ(k:Nat):(E.atom (yp k)).pr:=⟨by simp,by have:=xT (k+1) k (by omega);simp only[yp,dj,this];decide⟩
theorem nu:∀v:Vl,v.cI.pr
 | .u=>⟨by simp,by decide⟩
 | .el k=>IQ k
 | .l v=>⟨by simp,⟨by simp,by decide⟩,nu v,trivial⟩
 | .r v=>⟨by simp,⟨by simp,by decide⟩,nu v,trivial⟩
 | .f v=>⟨by simp,⟨by simp,by decide⟩,nu v,trivial⟩
 | .p a b=>⟨by simp,⟨by simp,by decide⟩,nu a,nu b,trivial⟩
theorem qL:∀v:Vl,v.cI.dp<v.nodes+1
 | .u=>by simp[Vl.cI,E.dp,Vl.nodes]
 | .el k=>by simp[Vl.cI,E.dp,Vl.nodes]
 | .l v=>by have:=qL v;simp only[Vl.cI,E.dp,E.wv,Vl.nodes]at *;omega
 | .r v=>by have:=qL v;simp only[Vl.cI,E.dp,E.wv,Vl.nodes]at *;omega
 | .f v=>by have:=qL v;simp only[Vl.cI,E.dp,E.wv,Vl.nodes]at *;omega
 | .p a b=>by have:=qL a;have:=qL b;simp only[Vl.cI,E.dp,E.wv,Vl.nodes]at *;omega
theorem FJ(k:Nat)(h:k<100):(dd k).length<=2:=by
 by_cases hk:k<10
 ·rw[fg hk];simp
 ·rw[gl hk,fg (by omega:k/10<10)];simp
theorem mj:∀v:Vl,v.fy 100->v.cf.length<=5*v.nodes
 | .u,_=>by simp[Vl.cf,Vl.cI,fD,Vl.nodes]
 |
  .el k,h=>by
  have:=FJ k h
  simp only[Vl.cf,Vl.cI,fD,Vl.nodes,aw];omega
 | .l v,h=>by have:=mj v h;simp only[Vl.cf,Vl.cI,fD,eF,Vl.nodes,aw,an,aE]at this |-;omega
 | .r v,h=>by have:=mj v h;simp only[Vl.cf,Vl.cI,fD,eF,Vl.nodes,aw,an,aE]at this |-;omega
 | .f v,h=>by have:=mj v h;simp only[Vl.cf,Vl.cI,fD,eF,Vl.nodes,aw,an,aE]at this |-;omega
 | .p a b,h=>by have:=mj a h.1;have:=mj b h.2;simp only[Vl.cf,Vl.cI,fD,eF,Vl.nodes,aw,an,aE]at *;omega
theorem Hi(k:Nat):yp k≠[117]:=by simp[yp]
theorem k9:∀v:Vl,v.fy 100->gh v.cI=some v
 | .u,_=>by simp[Vl.cI,gh]
 | .el k,h=>by simp only[Vl.cI,gh,Hi,if_false,xj k h]
 | .l v,h=>by simp only[Vl.cI,gh,k9 v h,E.at];simp
 | .r v,h=>by simp only[Vl.cI,gh,k9 v h,E.at];simp
 | .f v,h=>by simp only[Vl.cI,gh,k9 v h,E.at];simp
 | .p a b,h=>by simp only[Vl.cI,gh,k9 a h.1,k9 b h.2,E.at];simp
theorem sg{v:Vl}(h:v.fy 100)(hn:v.nodes<=200):rM v.cf=some v:=by
 have hd:=qL v
 have hl:=mj v h
 rw[rM,J3 (nu v) (by omega) (by show v.cf.length<=8000;omega)]
 simp only[k9 v h]
 rw[if_neg (by omega)]
theorem n0{v w:Vl}(h:v.fy 100)(h':w.fy 100)(ht:v.cf=w.cf):v=w:=by
 have:=Ct (nu v) (nu w) ht
 have a:=k9 v h
 rw[this,k9 w h']at a;cases a;rfl
theorem su{s:List UInt8}{v:Vl}(h:rM s=some v):s=v.cf:=(zy (mA h).1).1
end Go.Proofs.Trees
namespace Go.Proofs.Trees
open Go Go.VL Go.RowKit
theorem bL(l:List E):(E.list l).at=[]:=rfl
def cx:Ty->Vl->Vl->Vl
 | .plus a _,.l c,v=>.l (cx a c v)
 | .plus _ b,.r c,v=>.r (cx b c v)
 | .times a _,.l (.p x y),v=>.p (cx a x v) y
 | .times _ b,.r (.p x y),v=>.p x (cx b y v)
 | .rc a,.f (.l x),v=>.f (cx a x v)
 | .rc a,.f (.r (.p x y)),v=>.f (cx a x (cx (.rc a) y v))
 |_,_,v=>v
def dE:Ty->Vl->Bool
 | .plus a _,.l c=>dE a c
 | .plus _ b,.r c=>dE b c
 | .times a _,.l (.p x _)=>dE a x
 | .times _ b,.r (.p _ y)=>dE b y
 | .rc a,.f (.l x)=>dE a x
 | .rc a,.f (.r (.p x y))=>dE a x&&dE (.rc a) y
 | .plus _ _,_=>false
 | .times _ _,_=>false
 | .rc _,_=>false
 |_,_=>true
theorem ue(c v:Vl):cx .zero c v=v:=by cases c<;>rfl
theorem wJ(c v:Vl):cx .one c v=v:=by cases c<;>rfl
theorem kq(s:List UInt8)(c v:Vl):cx (.name s) c v=v:=by cases c<;>rfl
theorem px(u:Nat)(c v:Vl):cx (.bound u) c v=v:=by cases c<;>rfl
theorem w4{a b:Ty}{c:Vl}(h:dE (.plus a b) c=true):(∃x,c=.l x/\dE a x=true)\/∃x,c=.r x/\dE b x=true:=by
 cases c<;>simp[dE]at h<;>simp[h]
theorem u6{a b:Ty}{c:Vl}(h:dE (.times a b) c=true):(∃x y,c=.l (.p x y)/\dE a x=true)\/∃x y,c=.r (.p x y)/\dE b y=true:=by
 cases c with
 |l c=>cases c<;>simp[dE]at h<;>simp[h]
 |r c=>cases c<;>simp[dE]at h<;>exact .inr ⟨_,_,rfl,h⟩
 |_=>simp[dE]at h
theorem Dj{a:Ty}{c:Vl}(h:dE (.rc a) c=true):(∃x,c=.f (.l x)/\dE a x=true)\/∃x y,c=.f (.r (.p x y))/\dE a x=true/\dE (.rc a) y=true:=by
 cases c with
 |
  f c =>
  cases c with
  |l c=>simp[dE]at h;simp[h]
  |r c=>cases c<;>simp[dE]at h<;>exact .inr ⟨_,_,rfl,h⟩
  |_=>simp[dE]at h
 |_=>simp[dE]at h
theorem HT{t:Ty}{tg:Tg}(c:Vl)(h:dY t tg=true):dE t c=true:=by
 cases t<;>first|(simp[dY]at h;done)|(cases c<;>rfl)
theorem jY:∀(n:Nat) (t:Ty) (tg:Tg) (v:Vl) (h:Hl),h∈dA n t tg v->dE t h.1=true
 |0,t,tg,v,h,hm=>by simp[dA]at hm
 |
  n+1,t,tg,v,h,hm=>by
  unfold dA at hm
  split at hm
  ·rename_i e
   exact HT _ e
  ·unfold jd at hm
   split at hm
   ·obtain⟨k,h1,rfl⟩:=cM hm
    exact jY n _ _ _ k h1
   ·obtain⟨k,h1,rfl⟩:=cM hm
    exact jY n _ _ _ k h1
   ·rcases aO.1 hm with hm|hm
    ·obtain⟨k,h1,rfl⟩:=cM hm
     exact jY n _ _ _ k h1
    ·obtain⟨k,h1,rfl⟩:=cM hm
     exact jY n _ _ _ k h1
   ·rcases aO.1 hm with hm|hm
    ·obtain⟨k,h1,rfl⟩:=cM hm
     exact jY n _ _ _ k h1
    ·obtain⟨k,h1,h2⟩:=dk.1 hm
     obtain⟨k2,h3,rfl⟩:=cM h2
     have q1:=jY n _ _ _ k h1
     have q2:=jY n _ _ _ k2 h3
     simp[dE,q1,q2]
   ·simp at hm
theorem Am{a:Ty}{v:Vl}{h:Hl}(hh:h∈kids a v):dE a h.1=true:=by
 cases v with
 |f w=>exact jY _ _ _ _ h hh
 |_=>cases hh
theorem pf(t:Ty)(c v:Vl):(cx t c v).nodes<=c.nodes+v.nodes:=by
 induction t,c,v using cx.induct<;>simp only[cx,Vl.nodes]at*<;> omega
theorem ny(m:Nat)(t:Ty)(c v:Vl):c.fy m->v.fy m->(cx t c v).fy m:=by
 induction t,c,v using cx.induct with
 |case1 a b c v ih=>exact fun h h'=>ih h h'
 |case2 a b c v ih=>exact fun h h'=>ih h h'
 |case3 a b x y v ih=>exact fun h h'=>⟨ih h.1 h',h.2⟩
 |case4 a b x y v ih=>exact fun h h'=>⟨h.1,ih h.2 h'⟩
 |case5 a x v ih=>exact fun h h'=>ih h h'
 |case6 a x y v ih1 ih2=>exact fun h h'=>ih2 h.1 (ih1 h.2 h')
 |case7=>intro h h';simpa only[cx]using h'
def fG:List Hl->List Hl->Nat->List Nat
 |x::l,y::r,i=>if x.2.cf=y.2.cf then fG l r (i+1)else i::fG l r (i+1)
 |_,_,_=>[]
theorem nq:∀(l r:List Hl) (i k:Nat),k∈fG l r i->i<=k/\k<i+l.length/\k<i+r.length
 |[],_,_,_,h=>by simp[fG]at h
 |_::_,[],_,_,h=>by simp[fG]at h
 |
  x::l,y::r,i,k,h=>by
  unfold fG at h
  split at h
  ·have:=nq l r (i+1) k h;simp only[aw];omega
  ·rcases aI.1 h with rfl|h
   ·simp only[aw];omega
   ·have:=nq l r (i+1) k h;simp only[aw];omega
theorem sZ:∀(l:List Hl) (i:Nat),fG l l i=[]
 |[],_=>rfl
 |x::l,i=>by rw[fG,if_pos rfl,sZ l]
theorem tH(l r:List Hl){i:Nat}(h:i<l.length)(h':i<r.length):fG (l.drop i) (r.drop i) i=if(l[i]).2.cf=(r[i]).2.cf then fG (l.drop (i+1)) (r.drop (i+1)) (i+1)else i::fG (l.drop (i+1)) (r.drop (i+1)) (i+1):=by
 rw[aM h,aM h',fG]
abbrev KH:=List Nat×Vl×Vl
def tS:Hl:=(.u,.u)
def BP(f:Vl->Vl->KH)(a:Ty)(v w:Vl):KH :=
 if(kids a v).length≠(kids a w).length then([],v,w)else match fG (kids a v) (kids a w) 0 with
 |[k]=>if(Vl.f (cx a ((kids a v).getD k tS).1 ((kids a w).getD k tS).2)).cf=w.cf then(k::(f ((kids a v).getD k tS).2 ((kids a w).getD k tS).2).1,(f ((kids a v).getD k tS).2 ((kids a w).getD k tS).2).2)else([],v,w)
 |_=>([],v,w)
def nn:Nat->Ty->Vl->Vl->KH
 |0,_,v,w=>([],v,w)
 |n+1,a,v,w=>BP (nn n a) a v w
theorem Ee(n:Nat)(a:Ty)(v:Vl):nn n a v v=([],v,v):=by
 cases n with
 |zero=>rfl
 |succ n=>rw[nn,BP,sZ];simp
theorem lV:∀(n:Nat) (a:Ty) (v w:Vl),v.nodes<=n->(nn n a v w).1.length+1<=v.nodes
 |0,a,v,w,h=>by have:=cB v;omega
 |
  n+1,a,v,w,h=>by
  have:=cB v
  rw[nn,BP]
  split
  ·simp only[aE];omega
  ·rename_i hl
   have hl:(kids a v).length=(kids a w).length:=by omega
   split
   ·rename_i k hk
    split
    ·have hb:=nq (kids a v) (kids a w) 0 k (by rw[hk];exact ak)
     have hm:(kids a v).getD k tS∈kids a v:=by
      rw[aa,bp (by omega)];exact bn _
     have:=fT hm
     have:=lV n a ((kids a v).getD k tS).2 ((kids a w).getD k tS).2 (by omega)
     simp only[aw];omega
    ·simp only[aE];omega
   ·simp only[aE];omega
end Go.Proofs.Trees
namespace Go.Proofs.Trees
open Go Go.VL Go.RowKit
theorem pA(s:Nm)(a b:E):aq Tryz.prog 54 [.agg [.v (.string (mk [])),(E.list [.atom s,a,b]).sp]] [] (bP (.v (.string (mk s)))):=wx (.atom s) [a,b]
theorem FA{e:E}(h:Wf e):∀(bd l:List Nm) (a:AV),cN a bd->bd.length+l.length+e.sz<100000->aq Tryz.prog 98 [.agg [.v (.string (mk e.at)),e.sp],a,.vec 0] [.vec 1 (bW l)] (di (.vec 1) [.dead,.vec 1 (bW (lA e bd l))]):=by
 induction h with
 |
  @atom s hs =>
  intro bd l a ha hl
  simp only[E.sz]at hl
  refine BK _ _ _ _ ((aX _).mpr trivial) ha.1 ?_
  have hll:(bW l).length=l.length:=by simp[bW]
  simp only[yy,ej,↓zq,zs,ae,zt,di,lA]
  refine⟨fun _=>⟨fun h=>?_,fun h=>⟨fun h1=>?_,fun h1=>?_⟩⟩,fun h=>absurd h hs⟩
  ·rw[if_pos (.inl h)]
  ·rw[if_pos (.inr (.inl h1))]
  ·refine aj (yS bd a ha s (by omega)) ?_
   simp only[↓zq,zs,ae]
   refine⟨fun h2=>?_,fun h2=>aj (yS l _ (.of l) s (by omega)) ?_⟩
   ·rw[if_pos (.inr (.inr (.inl h2)))]
   ·simp only[↓zq,zs,ae]
    refine⟨fun h3=>?_,fun h3=>⟨⟨fun c hc=>(by simp at hc;rw[hc];rfl),by omega⟩,?_⟩⟩
    ·rw[if_pos (.inr (.inr (.inr h3)))]
    ·rw[GP,if_neg]
     rintro(q|q|q|q)
     ·exact h q
     ·exact h1 q
     ·exact h2 q
     ·exact h3 q
 |
  @plus x y hx hy i1 i2 =>
  intro bd l a ha hl
  simp only[E.sz,E.jZ]at hl
  have hfl:=gI x bd l
  refine BK _ _ _ _ ((aX _).mpr trivial) ha.1 ?_
  have hP:=P3.of (.atom [43]) x y
  simp only[yy,bL,toNat_one,bj,↓zq,zs,ae,zt,hP.1,hP.2.1,hP.2.2.1,hP.2.2.2,aL,di]
  refine⟨fun h=>absurd rfl h,fun _=>?_⟩
  refine aj (pA [43] x y) ?_
  simp only[↓zq,zs,ae,zt]
  refine⟨fun h=>by simp at h,fun _=>?_⟩
  repeat refine⟨by omega,?_⟩
  refine aY (i1 bd l a ha (by omega)) ?_
  simp only[↓zq,zs,ae,zt,aK,bB,Ob.es]
  repeat refine⟨by omega,?_⟩
  refine aY (i2 bd (lA x bd l) a ha (by omega)) ?_
  simp only[↓zq,zs,ae,zt,aK,bB,Ob.es]
  rw[lA,if_neg (by decide)]
 |
  @times x y hx hy i1 i2 =>
  intro bd l a ha hl
  simp only[E.sz,E.jZ]at hl
  have hfl:=gI x bd l
  refine BK _ _ _ _ ((aX _).mpr trivial) ha.1 ?_
  have hP:=P3.of (.atom [42]) x y
  simp only[yy,bL,toNat_one,bj,↓zq,zs,ae,zt,hP.1,hP.2.1,hP.2.2.1,hP.2.2.2,aL,di]
  refine⟨fun h=>absurd rfl h,fun _=>?_⟩
  refine aj (pA [42] x y) ?_
  simp only[↓zq,zs,ae,zt]
  refine⟨fun h=>by simp at h,fun _=>?_⟩
  repeat refine⟨by omega,?_⟩
  refine aY (i1 bd l a ha (by omega)) ?_
  simp only[↓zq,zs,ae,zt,aK,bB,Ob.es]
  repeat refine⟨by omega,?_⟩
  refine aY (i2 bd (lA x bd l) a ha (by omega)) ?_
  simp only[↓zq,zs,ae,zt,aK,bB,Ob.es]
  rw[lA,if_neg (by decide)]
 |
  @rc n y hn hy i =>
  intro bd l a ha hl
  simp only[E.sz,E.jZ]at hl
  refine BK _ _ _ _ ((aX _).mpr trivial) ha.1 ?_
  have hP:=P3.of (.atom dP) (.atom n) y
  simp only[yy,bL,toNat_one,bj,↓zq,zs,ae,zt,hP.1,hP.2.1,hP.2.2.1,hP.2.2.2,aL,di]
  refine⟨fun h=>absurd rfl h,fun _=>?_⟩
  refine aj (pA dP (.atom n) y) ?_
  simp only[↓zq,zs,ae,zt]
  refine⟨fun _=>?_,fun h=>absurd rfl h⟩
  repeat refine⟨by omega,?_⟩
  refine aY (yJ bd a ha n (by omega)) ?_
  simp only[↓zq,zs,ae,Ob.es,aK]
  refine⟨cW _,?_⟩
  refine aY (i (bd++[n]) l _ (.of _) (by simp;omega)) ?_
  simp only[↓zq,zs,ae,aK,bB,Ob.es]
  rw[lA,if_pos (ej _)];rfl
theorem RA(x:Nm)(u:E){e:E}(h:Wf e):aq Tryz.prog 176 [.agg [.v (.string (mk e.at)),e.sp],.v (.string (mk x)),.agg [.v (.string (mk u.at)),u.sp]] [] (bP (.agg [.v (.string (mk (tB x u e).at)),(tB x u e).sp])):=by
 induction h with
 |
  @atom s hs =>
  refine EA _ _ _ _ _ ((aX _).mpr trivial) ((aX _).mpr trivial) ?_
  simp only[B5,ej,↓zq,zs,ae,zt,bP,tB]
  refine⟨fun _=>⟨fun h=>?_,fun h=>?_⟩,fun h=>absurd h hs⟩
  ·rw[if_pos h]
  ·rw[if_neg h];rfl
 |
  @plus a b ha hb i1 i2 =>
  refine EA _ _ _ _ _ ((aX _).mpr trivial) ((aX _).mpr trivial) ?_
  have hP:=P3.of (.atom [43]) a b
  simp only[B5,bL,toNat_one,bj,↓zq,zs,ae,zt,hP.1,hP.2.1,hP.2.2.1,hP.2.2.2,aL]
  refine⟨fun h=>absurd rfl h,fun _=>?_⟩
  refine aj (pA [43] a b) ?_
  simp only[↓zq,zs,ae,zt]
  refine⟨fun h=>by simp at h,fun _=>?_⟩
  refine aj (pA [43] a b) ?_
  simp only[↓zq,zs,ae,zt]
  repeat refine⟨by omega,?_⟩
  refine aj i1 ?_
  simp only[↓zq,zs,ae,zt,aL]
  repeat refine⟨by omega,?_⟩
  refine aj i2 ?_
  simp only[↓zq,zs,ae,zt,aL]
  repeat refine⟨by omega,?_⟩
  refine aj (yY _ _ _) ?_
  simp only[↓zq,zs,ae,zt,aL,xz,bL]
  repeat refine⟨by omega,?_⟩
  exact⟨rfl,rfl⟩
 |
  @times a b ha hb i1 i2 =>
  refine EA _ _ _ _ _ ((aX _).mpr trivial) ((aX _).mpr trivial) ?_
  have hP:=P3.of (.atom [42]) a b
  simp only[B5,bL,toNat_one,bj,↓zq,zs,ae,zt,hP.1,hP.2.1,hP.2.2.1,hP.2.2.2,aL]
  refine⟨fun h=>absurd rfl h,fun _=>?_⟩
  refine aj (pA [42] a b) ?_
  simp only[↓zq,zs,ae,zt]
  refine⟨fun h=>by simp at h,fun _=>?_⟩
  refine aj (pA [42] a b) ?_
  simp only[↓zq,zs,ae,zt]
  repeat refine⟨by omega,?_⟩
  refine aj i1 ?_
  simp only[↓zq,zs,ae,zt,aL]
  repeat refine⟨by omega,?_⟩
  refine aj i2 ?_
  simp only[↓zq,zs,ae,zt,aL]
  repeat refine⟨by omega,?_⟩
  refine aj (yY _ _ _) ?_
  simp only[↓zq,zs,ae,zt,aL,u5,bL]
  repeat refine⟨by omega,?_⟩
  exact⟨rfl,rfl⟩
 |
  @rc n b hn hb i =>
  refine EA _ _ _ _ _ ((aX _).mpr trivial) ((aX _).mpr trivial) ?_
  have hP:=P3.of (.atom dP) (.atom n) b
  simp only[B5,bL,toNat_one,bj,↓zq,zs,ae,zt,hP.1,hP.2.1,hP.2.2.1,hP.2.2.2,aL]
  refine⟨fun h=>absurd rfl h,fun _=>?_⟩
  refine aj (pA dP (.atom n) b) ?_
  simp only[↓zq,zs,ae,zt]
  refine⟨fun _=>?_,fun h=>absurd rfl h⟩
  repeat refine⟨by omega,?_⟩
  rw[Eh]
  refine⟨fun h=>?_,fun h=>?_⟩
  ·have hh:n=x:=h
   rw[if_pos hh];exact⟨rfl,rfl⟩
  ·have hh:¬n=x:=h
   rw[if_neg hh]
   repeat refine⟨by omega,?_⟩
   refine aj i ?_
   simp only[↓zq,zs,ae,zt,aL]
   repeat refine⟨by omega,?_⟩
   refine aj (yY dP (.atom n) (tB x u b)) ?_
   simp only[↓zq,zs,ae,zt,aL,bL]
   repeat refine⟨by omega,?_⟩
   exact⟨rfl,rfl⟩
theorem sY(x:Nm){e:E}(h:Wf e):om x e<=e.dr:=by
 induction h with
 |atom hs=>simp only[om,E.dr];split<;>omega
 |plus ha hb i1 i2=>rw[sN];simp only[E.dr,E.fA];omega
 |times ha hb i1 i2=>rw[qW];simp only[E.dr,E.fA];omega
 |rc hn hb i=>rw[yL];simp only[E.dr,E.fA];split<;>omega
theorem SV(x:Nm){e:E}(h:Wf e):e.dr<1000000->aq Tryz.prog 175 [.agg [.v (.string (mk e.at)),e.sp],.v (.string (mk x))] [] (bP (.v (.int .i64 (om x e:Int)))):=by
 induction h with
 |
  @atom s hs =>
  intro hl
  refine Fi _ _ _ ((aX _).mpr trivial) ?_
  simp only[Ef,ej,↓zq,zs,ae,zt,bP,om]
  refine⟨fun _=>⟨fun h=>?_,fun h=>?_⟩,fun h=>absurd h hs⟩
  ·rw[if_pos h];rfl
  ·rw[if_neg h];rfl
 |
  @plus a b ha hb i1 i2 =>
  intro hl
  simp only[E.dr,E.fA]at hl
  have u1:=sY x ha
  have u2:=sY x hb
  refine Fi _ _ _ ((aX _).mpr trivial) ?_
  have hP:=P3.of (.atom [43]) a b
  simp only[Ef,bL,toNat_one,bj,↓zq,zs,ae,zt,hP.1,hP.2.1,hP.2.2.1,hP.2.2.2,aL]
  refine⟨fun h=>absurd rfl h,fun _=>?_⟩
  refine aj (pA [43] a b) ?_
  simp only[↓zq,zs,ae,zt]
  refine⟨fun h=>by simp at h,fun _=>?_⟩
  repeat refine⟨by omega,?_⟩
  refine aj (i1 (by omega)) ?_
  simp only[↓zq,zs,ae,zt]
  repeat refine⟨by omega,?_⟩
  refine aj (i2 (by omega)) ?_
  simp only[↓zq,zs,ae,zt]
  rw[sN,wrap64 _ (by omega) (by omega)]
  exact⟨by simp,rfl⟩
 |
  @times a b ha hb i1 i2 =>
  intro hl
  simp only[E.dr,E.fA]at hl
  have u1:=sY x ha
  have u2:=sY x hb
  refine Fi _ _ _ ((aX _).mpr trivial) ?_
  have hP:=P3.of (.atom [42]) a b
  simp only[Ef,bL,toNat_one,bj,↓zq,zs,ae,zt,hP.1,hP.2.1,hP.2.2.1,hP.2.2.2,aL]
  refine⟨fun h=>absurd rfl h,fun _=>?_⟩
  refine aj (pA [42] a b) ?_
  simp only[↓zq,zs,ae,zt]
  refine⟨fun h=>by simp at h,fun _=>?_⟩
  repeat refine⟨by omega,?_⟩
  refine aj (i1 (by omega)) ?_
  simp only[↓zq,zs,ae,zt]
  repeat refine⟨by omega,?_⟩
  refine aj (i2 (by omega)) ?_
  simp only[↓zq,zs,ae,zt]
  rw[qW,wrap64 _ (by omega) (by omega)]
  exact⟨by simp,rfl⟩
 |
  @rc n b hn hb i =>
  intro hl
  simp only[E.dr,E.fA]at hl
  refine Fi _ _ _ ((aX _).mpr trivial) ?_
  have hP:=P3.of (.atom dP) (.atom n) b
  simp only[Ef,bL,toNat_one,bj,↓zq,zs,ae,zt,hP.1,hP.2.1,hP.2.2.1,hP.2.2.2,aL]
  refine⟨fun h=>absurd rfl h,fun _=>?_⟩
  refine aj (pA dP (.atom n) b) ?_
  simp only[↓zq,zs,ae,zt]
  refine⟨fun _=>?_,fun h=>absurd rfl h⟩
  repeat refine⟨by omega,?_⟩
  rw[yL]
  refine⟨fun h=>?_,fun h=>?_⟩
  ·have hh:n=x:=h
   rw[if_pos hh];exact⟨rfl,rfl⟩
  ·have hh:¬n=x:=h
   rw[if_neg hh]
   repeat refine⟨by omega,?_⟩
   refine aj (i (by omega)) ?_
   simp only[↓zq,zs,ae,zt]
   exact⟨rfl,rfl⟩
theorem QQ{x:Nm}(hx:sa x){e u:E}(h:Wf e)(hu:Wf u)(hl:e.dr<=1000)(hlu:u.dr<=1000):aq Tryz.prog 156 [.agg [.v (.string (mk e.at)),e.sp],.v (.string (mk x)),.agg [.v (.string (mk u.at)),u.sp]] [] (bP (.v (.bool (decide ((sub x (cY u []) (cY e [])).atoms<=400))))):=by
 refine Td _ _ _ _ _ ((aX _).mpr trivial) ((aX _).mpr trivial) ?_
 unfold Q5
 have a1:=FO e h.ok (by have:=h.sz;omega)
 have a2:=FO u hu.ok (by have:=hu.sz;omega)
 rw[cT]at a1 a2
 have hle:=sY x h
 have hpos:1<=u.dr:=by rw[hu.dr []];exact eG _
 refine aj a1 ?_
 simp only[↓zq,zs,ae,zt]
 refine aj (SV x h (by omega)) ?_
 simp only[↓zq,zs,ae,zt]
 refine aj a2 ?_
 simp only[↓zq,zs,ae,zt]
 have e1:=ew x (cY u []) (cY e [])
 have e2:=Gb hx h []
 rw[if_neg (by simp)]at e2
 rw[e2,<-h.dr [],<-hu.dr []]at e1
 have hm:om x e*(u.dr-1)<=1000*1000:=Nat.mul_le_mul (by omega) (by omega)
 have e3:(om x e:Int)*((u.dr:Int)-1)=((om x e*(u.dr-1):Nat):Int):=by
  rw[Int.natCast_mul];congr 1;omega
 have e4:om x e*(u.dr-1)+om x e=om x e*u.dr:=by
  rw[Nat.mul_sub,dS]
  have:=Nat.le_mul_of_pos_right (om x e) hpos
  omega
 rw[wrap64 ((u.dr:Int)-1) (by omega) (by omega),e3,wrap64 ((om x e*(u.dr-1):Nat):Int) (by omega) (by omega),wrap64 _ (by omega) (by omega)]
 refine⟨?_,rfl⟩
 congr 2
 rw[cK,decide_eq_true_eq,decide_eq_true_eq]
 omega
end Go.Proofs.Trees
namespace Go.Proofs.Trees
open Go Go.VL Go.RowKit
abbrev Ah:AV:=.v (.slice none 0 0)
abbrev zE:Ob:=.cells [.v (.string (mk [])),Ah]
theorem Pc(s:Nm)(p a b:AV)(hp:LK.sl.has p)(F fr to:List Nm)(k:Int)(ha:cN a fr)(hb:cN b to)(hft:fr.length=to.length)(hl:fr.length<1000000):∀(i:Nat),i<=fr.length ->
 He [a,b,.v (.int .i64 ((i:Int)-1))] [.cells [.v (.string (mk s)),p],zE,.cells [.any,.v (.int .i64 k)],.vec 1 (bW F)]
  (oB (match bT s fr i with|some u=>(2,[],[.cells [.v (.string (mk (gR to u))),Ah],.cells [.any,.v (.int .i64 k)],.vec 1 (bW F)])|none=>(1,[],[.cells [.v (.string (mk s)),p],zE,.cells [.any,.v (.int .i64 k)],.vec 1 (bW F)])))
 |
  0,hi=>by
  refine Q6 _ _ _ _ _ _ _ _ _ ?_
  simp only[Hh,↓zq,zs,ae,ae,hp,bm]
  exact⟨ha.1,hb.1,fun h=>by omega,fun _=>rfl⟩
 |
  i+1,hi=>by
  have hlt:i<fr.length:=by omega
  have hlt':i<to.length:=by omega
  have e1:((i+1:Nat):Int)-1=(i:Int):=by omega
  rw[e1]
  refine Q6 _ _ _ _ _ _ _ _ _ ?_
  simp only[Hh,↓zq,zs,ae,zt,ae,hp,bm,ha.len,hb.len,ha.idx hlt,hb.idx hlt',bx]
  refine⟨ha.1,hb.1,fun _=>⟨⟨ha.1,by omega,by omega⟩,by omega,fun h=>?_,fun h=>?_⟩,fun h=>by omega⟩
  ·refine⟨⟨hb.1,by omega,by omega⟩,by omega,?_⟩
   have hh:fr.getD i []=s:=h
   simp only[bT,hh,if_true,oB]
   have:gR to (fr.length-1-i)=to.getD i []:=by unfold gR;congr 1;omega
   rw[this]
  ·have hh:¬fr.getD i []=s:=h
   simp only[bT,hh,if_false]
   rw[wrap64 _ (by omega) (by omega)]
   exact Pc s p a b hp F fr to k ha hb hft hl i (by omega)
theorem QR(a b:AV)(ha:LK.sl.has a)(hb:LK.sl.has b)(F:List Nm)(hF:F.length<100000)(t:ByteArray)(p:AV)(hp:LK.sl.has p):∀(n j:Nat),rr F n j<j+n->j+n<100000000 ->
 G8 [a,b,.v (.string (mk (tN j)))] [.cells [.any,.v (.int .i64 (j:Int))],.vec 1 (bW F),.cells [.v (.string t),p],zE] (gS 1 [a,b,.v (.string (mk (tN (rr F n j))))] [.cells [.any,.v (.int .i64 (rr F n j:Int))],.vec 1 (bW F),.cells [.v (.string t),p],zE])
 |0,j,h,_=>by simp only[rr]at h;omega
 |
  n+1,j,h,hj=>by
  refine Ul _ _ _ _ _ _ _ _ _ ?_
  simp only[Pq,↓zq,zs,ae,zt,ae,hp,bm]
  refine⟨ha,hb,?_⟩
  refine aj (yS F _ (.of F) (tN j) (by omega)) ?_
  simp only[↓zq,zs,ae,zt]
  rw[rr]at h |-
  refine⟨fun hm=>?_,fun hm=>?_⟩
  ·rw[if_pos hm]at h |-
   rw[bD j (by omega)]
   refine aj (A6 (j+2) (j+1) (by omega) (by omega)) ?_
   have hd:=nW (j+2) (j+1) (by omega)
   simp only[↓zq,zs,ae,zt,bf,aS]
   refine⟨by simp[cR];omega,?_⟩
   exact QR a b ha hb F hF t p hp n (j+1) (by omega) (by omega)
  ·rw[if_neg hm]
   exact⟨rfl,rfl,rfl⟩
theorem iS(F:List Nm):∀(t:Ty) (to:List Nm) (k:Nat),k<=(iL F t to k).2/\(iL F t to k).2<=k+(F.length+1)*t.atoms
 | .zero,_,k=>⟨au _,dm _ _⟩
 | .one,_,k=>⟨au _,dm _ _⟩
 | .name _,_,k=>⟨au _,dm _ _⟩
 | .bound _,_,k=>⟨au _,dm _ _⟩
 |
  .plus a b,to,k=>by
  have h1:=iS F a to k
  have h2:=iS F b to (iL F a to k).2
  simp only[iL,Ty.atoms]
  have:(F.length+1)*(1+a.atoms+b.atoms)=(F.length+1)+(F.length+1)*a.atoms+(F.length+1)*b.atoms:=by simp only[da,dS]
  omega
 |
  .times a b,to,k=>by
  have h1:=iS F a to k
  have h2:=iS F b to (iL F a to k).2
  simp only[iL,Ty.atoms]
  have:(F.length+1)*(1+a.atoms+b.atoms)=(F.length+1)+(F.length+1)*a.atoms+(F.length+1)*b.atoms:=by simp only[da,dS]
  omega
 |
  .rc a,to,k=>by
  obtain⟨g1,g2,_,_⟩:=ib F k
  have h1:=iS F a (to++[tN (nx F k)]) (nx F k+1)
  simp only[iL,Ty.atoms]
  have:(F.length+1)*(2+a.atoms)=(F.length+1)*2+(F.length+1)*a.atoms:=by simp only[da]
  omega
theorem lf(l:List Nm):(bW l).length=l.length:=by simp[bW]
theorem Vb(F:List Nm)(hF:F.length<10000){e:E}(h:Wf e):∀(fr to:List Nm) (a b:AV) (k:Nat),cN a fr->cN b to->fr.length=to.length->(∀w,w∈fr->sa w)->fr.length+e.sz<10000->k+(F.length+1)*(cY e fr).atoms<99000000 ->
 aq Tryz.prog 137 [.agg [.v (.string (mk e.at)),e.sp],a,b,.ref 0 0] [.cells [.vec 1,.v (.int .i64 (k:Int))],.vec 1 (bW F)] (di (.agg [.v (.string (mk (iL F (cY e fr) to k).1.at)),(iL F (cY e fr) to k).1.sp]) [.cells [.vec 1,.v (.int .i64 ((iL F (cY e fr) to k).2:Int))],.vec 1 (bW F)]):=by
 induction h with
 |
  @atom s hs =>
  intro fr to a b k ha hb hft hfr hl hk
  simp only[E.sz]at hl
  refine Gp _ _ _ _ _ _ ((aX _).mpr trivial) ha.1 hb.1 ?_
  have hz:∀c,(c=[48]\/c=[49])->bT c fr fr.length=none:=fun c hc=>(fS c fr).2 fun hm=>by
   obtain⟨h1,h2,h3⟩:=hfr c hm
   rcases hc with rfl|rfl
   ·exact h2 rfl
   ·exact h3 rfl
  have hq:iL F (cY (.atom s) fr) to k=(match bT s fr fr.length with|some u=>.atom (gR to u)|none=>.atom s,k):=by
   simp only[cY]
   by_cases h0:s=[48]
   ·rw[if_pos h0,hz s (.inl h0),h0];rfl
   ·rw[if_neg h0]
    by_cases h1:s=[49]
    ·rw[if_pos h1,hz s (.inr h1),h1];rfl
    ·rw[if_neg h1]
     cases bT s fr fr.length<;>rfl
  simp only[Cn,ej,↓zq,zs,ae,zt]
  refine⟨fun _=>⟨ha.1,?_⟩,fun h=>absurd h hs⟩
  rw[ha.len,wrap64 _ (by omega) (by omega)]
  refine eJ (Pc s _ a b ((aX _).mpr trivial) F fr to (k:Int) ha hb hft (by omega) fr.length (au _)) (fun ys o e=>?_) (fun ys o e=>?_)
  ·rw[hq]
   cases q:bT s fr fr.length<;>rw[q]at e<;>cases e
   simp only[↓zq,zs,ae,zt,ae,aH,bm,aX]
   exact⟨rfl,rfl⟩
  ·rw[hq]
   cases q:bT s fr fr.length<;>rw[q]at e<;>cases e
   simp only[↓zq,zs,ae,zt,ae,aH,bm]
   exact⟨rfl,rfl⟩
 |
  @plus x y hx hy i1 i2 =>
  intro fr to a b k ha hb hft hfr hl hk
  simp only[E.sz,E.jZ]at hl
  rw[dX]at hk |-
  simp only[Ty.atoms]at hk
  have hm:(F.length+1)*(1+(cY x fr).atoms+(cY y fr).atoms)=(F.length+1)+(F.length+1)*(cY x fr).atoms+(F.length+1)*(cY y fr).atoms:=by simp only[da,dS]
  have hc:=iS F (cY x fr) to k
  refine Gp _ _ _ _ _ _ ((aX _).mpr trivial) ha.1 hb.1 ?_
  have hP:=P3.of (.atom [43]) x y
  simp only[Cn,bL,toNat_one,bj,↓zq,zs,ae,zt,hP.1,hP.2.1,hP.2.2.1,hP.2.2.2,aL]
  refine⟨fun h=>absurd rfl h,fun _=>?_⟩
  refine aj (pA [43] x y) ?_
  simp only[↓zq,zs,ae,zt]
  refine⟨fun h=>by simp at h,fun _=>?_⟩
  repeat refine⟨by omega,?_⟩
  refine aY (i1 fr to a b k ha hb hft hfr (by omega) (by omega)) ?_
  simp only[↓zq,zs,ae,zt,aH,aL,aK,bB,Ob.es]
  repeat refine⟨by omega,?_⟩
  refine aj (pA [43] x y) ?_
  simp only[↓zq,zs,ae,zt]
  repeat refine⟨by omega,?_⟩
  refine aY (i2 fr to a b _ ha hb hft hfr (by omega) (by omega)) ?_
  simp only[↓zq,zs,ae,zt,aH,aL,aK,bB,Ob.es]
  repeat refine⟨by omega,?_⟩
  refine aj (yY _ _ _) ?_
  simp only[↓zq,zs,ae,zt,aL,bL]
  repeat refine⟨by omega,?_⟩
  exact⟨rfl,rfl⟩
 |
  @times x y hx hy i1 i2 =>
  intro fr to a b k ha hb hft hfr hl hk
  simp only[E.sz,E.jZ]at hl
  rw[dB]at hk |-
  simp only[Ty.atoms]at hk
  have hm:(F.length+1)*(1+(cY x fr).atoms+(cY y fr).atoms)=(F.length+1)+(F.length+1)*(cY x fr).atoms+(F.length+1)*(cY y fr).atoms:=by simp only[da,dS]
  have hc:=iS F (cY x fr) to k
  refine Gp _ _ _ _ _ _ ((aX _).mpr trivial) ha.1 hb.1 ?_
  have hP:=P3.of (.atom [42]) x y
  simp only[Cn,bL,toNat_one,bj,↓zq,zs,ae,zt,hP.1,hP.2.1,hP.2.2.1,hP.2.2.2,aL]
  refine⟨fun h=>absurd rfl h,fun _=>?_⟩
  refine aj (pA [42] x y) ?_
  simp only[↓zq,zs,ae,zt]
  refine⟨fun h=>by simp at h,fun _=>?_⟩
  repeat refine⟨by omega,?_⟩
  refine aY (i1 fr to a b k ha hb hft hfr (by omega) (by omega)) ?_
  simp only[↓zq,zs,ae,zt,aH,aL,aK,bB,Ob.es]
  repeat refine⟨by omega,?_⟩
  refine aj (pA [42] x y) ?_
  simp only[↓zq,zs,ae,zt]
  repeat refine⟨by omega,?_⟩
  refine aY (i2 fr to a b _ ha hb hft hfr (by omega) (by omega)) ?_
  simp only[↓zq,zs,ae,zt,aH,aL,aK,bB,Ob.es]
  repeat refine⟨by omega,?_⟩
  refine aj (yY _ _ _) ?_
  simp only[↓zq,zs,ae,zt,aL,bL]
  repeat refine⟨by omega,?_⟩
  exact⟨rfl,rfl⟩
 |
  @rc n y hn hy i =>
  intro fr to a b k ha hb hft hfr hl hk
  simp only[E.sz,E.jZ]at hl
  rw[fL]at hk |-
  simp only[Ty.atoms,ej]at hk
  have hm:(F.length+1)*(2+(cY y (fr++[n])).atoms)=(F.length+1)*2+(F.length+1)*(cY y (fr++[n])).atoms:=by simp only[da]
  have hc:=iS F (cY y (fr++[n])) (to++[tN (nx F k)]) (nx F k+1)
  obtain⟨g1,g2,_,_⟩:=ib F k
  refine Gp _ _ _ _ _ _ ((aX _).mpr trivial) ha.1 hb.1 ?_
  have hP:=P3.of (.atom dP) (.atom n) y
  simp only[Cn,bL,toNat_one,bj,↓zq,zs,ae,zt,hP.1,hP.2.1,hP.2.2.1,hP.2.2.2,aL]
  refine⟨fun h=>absurd rfl h,fun _=>?_⟩
  refine aj (pA dP (.atom n) y) ?_
  simp only[↓zq,zs,ae,zt]
  refine⟨fun _=>?_,fun h=>absurd rfl h⟩
  refine aj (A6 (k+1) k (by omega) (by omega)) ?_
  have hd:=nW (k+1) k (by omega)
  simp only[↓zq,zs,ae,zt,bf,aS]
  refine⟨by simp[cR];omega,?_⟩
  refine cC (QR a b ha.1 hb.1 F (by omega) (mk []) _ ((aX _).mpr trivial) (F.length+1) k (by show nx F k<_;omega) (by omega)) ?_
  simp only[↓zq,zs,ae,zt,ae,aH,bm,aX,ha.1,hb.1,hP.1,hP.2.1,hP.2.2.1,hP.2.2.2,toNat_one,bj,aL]
  repeat refine⟨by omega,?_⟩
  have hnx:rr F (F.length+1) k=nx F k:=rfl
  rw[hnx]
  refine aY (yJ fr a ha n (by omega)) ?_
  simp only[↓zq,zs,ae,zt,Ob.es,aK]
  refine⟨cW _,?_⟩
  refine aY (yJ to b hb (tN (nx F k)) (by omega)) ?_
  simp only[↓zq,zs,ae,zt,Ob.es,aK]
  refine⟨cW _,?_⟩
  rw[bD (nx F k) (by omega)]
  have hmk:=yY dP (.atom (tN (nx F k))) (iL F (cY y (fr++[n])) (to++[tN (nx F k)]) (nx F k+1)).1
  simp only[ej]at hmk
  refine aY (i (fr++[n]) (to++[tN (nx F k)]) _ _ (nx F k+1) (.of _) (.of _) (by simp[hft]) (fun w hw=>by
   rcases aO.1 hw with hw|hw
   ·exact hfr w hw
   ·simp only[aT]at hw;rw[hw];exact hn) (by simp;omega) (by omega)) ?_
  simp only[↓zq,zs,ae,zt,aH,aL,aK,bB,Ob.es]
  repeat refine⟨by omega,?_⟩
  refine aj hmk ?_
  simp only[↓zq,zs,ae,zt,aL,bL]
  repeat refine⟨by omega,?_⟩
  exact⟨rfl,rfl⟩
theorem xZ(l r:List Nm):bW (l++r)=bW l++bW r:=by simp[bW]
def tO(os:List E):List Nm:=os.flatMap fun o=>lA o [] []
theorem wY{os:List E}{i:Nat}(h:i<os.length):(E.bE os).getD i []=[.v (.string (mk (os[i]).at)),(os[i]).sp]:=by
 have:∀(os:List E) (i:Nat) (h:i<os.length),(E.bE os).getD i []=(os[i]).iX:=by
  intro os
  induction os with
  |nil=>intro i h;simp at h
  |
   cons o os ih =>
   intro i h
   cases i with
   |zero=>simp[E.bE]
   |succ i=>simpa[E.bE]using ih i (by simpa using h)
 rw[this os i h,gd]
theorem BI(os:List E){i:Nat}(h:i<os.length):tO (os.drop i)=lA (os[i]) [] []++tO (os.drop (i+1)):=by
 unfold tO;rw[aM h,bU]
theorem QH(a:AV)(os:List E)(ha:LK.sl.has a/\a.elems=E.bE os)(ho:∀o,o∈os->Wf o/\o.sz<5000)(hl:os.length<100)(t:ByteArray)(p:AV)(hp:LK.sl.has p):∀(k i:Nat) (F:List Nm),i+k=os.length->F.length<=5000+5000*i ->
 HM [a,.v (.int .i64 (i:Int))] [.cells [.v (.string t),p],zE,.vec 1 (bW F)] (gS 1 [] [.cells [.v (.string t),p],zE,.vec 1 (bW (F++tO (os.drop i)))])
 |
  0,i,F,hi,hF=>by
  refine Lu _ _ _ _ _ _ _ ?_
  have:i=os.length:=by omega
  subst this
  simp only[Il,↓zq,zs,ae,zt,ae,hp,bm,ha.1,ha.2,eC,List.drop_length]
  exact⟨fun h=>by omega,fun _=>by simp[gS,tO]⟩
 |
  k+1,i,F,hi,hF=>by
  have hlt:i<os.length:=by omega
  obtain⟨hw,hsz⟩:=ho _ (bn hlt)
  have hfl:=gI (os[i]) [] []
  refine Lu _ _ _ _ _ _ _ ?_
  simp only[Il,↓zq,zs,ae,zt,ae,hp,bm,ha.1,ha.2,eC,wY hlt,aL,bx]
  refine⟨fun _=>?_,fun h=>by omega⟩
  repeat refine⟨by omega,?_⟩
  have hfre:=FA hw [] [] (.sl []) (.of []) (by simp;omega)
  refine aY hfre ?_
  simp only[↓zq,zs,ae,zt,aK,bB,Ob.es,lf,<-xZ]
  rw[bD i (by omega),BI os hlt,<-a6]
  simp only[aE,a8]at hfl
  refine⟨⟨lu _,by omega⟩,?_⟩
  exact QH a os ha ho hl t p hp k (i+1) _ (by omega) (by simp;omega)
def BW(e:E)(os:List E):List Nm:=lA e [] []++tO os
def Bn(e:E)(os:List E):E:=(iL (BW e os) (cY e []) [] 0).1
theorem FH{e:E}{os:List E}(h:e.sz<=2000)(ho:∀o,o∈os->Wf o/\o.sz<=2000)(hl:os.length<=2):(BW e os).length<=6000:=by
 have h1:=gI e [] []
 have h2:∀(l:List E),(∀o,o∈l->o.sz<=2000)->(tO l).length<=2000*l.length:=by
  intro l
  induction l with
  |nil=>intro _;simp[tO]
  |
   cons o l ih =>
   intro hl
   have:=ih fun q hq=>hl q (al _ hq)
   have:=hl o ak
   have:=gI o [] []
   simp only[tO,bU,an,aw,aE]at *
   omega
 have:=h2 os fun o ho'=>(ho o ho').2
 simp only[BW,an,aE]at *
 omega
theorem FX{e:E}(h:Wf e)(a:AV)(os:List E)(ha:LK.sl.has a/\a.elems=E.bE os)(he:e.sz<=2000)(ho:∀o,o∈os->Wf o/\o.sz<=2000)(hl:os.length<=2) :
 aq Tryz.prog 96 [.agg [.v (.string (mk e.at)),e.sp],a] [] (bP (.agg [.v (.string (mk (Bn e os).at)),(Bn e os).sp])):=by
 refine Uf _ _ _ ((aX _).mpr trivial) ha.1 ?_
 unfold NF
 have hfl:=gI e [] []
 simp only[aE,a8]at hfl
 have hap:=FH he ho hl
 have hats:(cY e []).atoms<=2000:=by
  rw[<-h.dr []]
  have:e.dr<=e.sz:=by
   clear hap hfl ha he ho hl
   induction h with
   |atom _=>simp[E.dr,E.sz]
   |plus _ _ i1 i2=>simp only[E.dr,E.fA,E.sz,E.jZ];omega
   |times _ _ i1 i2=>simp only[E.dr,E.fA,E.sz,E.jZ];omega
   |rc _ _ i=>simp only[E.dr,E.fA,E.sz,E.jZ];omega
  omega
 have hfre:=FA h [] [] (.sl []) (.of []) (by simp;omega)
 simp only[↓zq,zs,ae,zt]
 refine aY hfre ?_
 simp only[↓zq,zs,ae,zt,aK,bB,Ob.es]
 have hlp:=QH a os ha (fun o hq=>⟨(ho o hq).1,by have:=(ho o hq).2;omega⟩) (by omega) (mk e.at) e.sp ((aX _).mpr trivial) os.length 0 (lA e [] []) (by omega) (by omega)
 rw[a7]at hlp
 refine cC hlp ?_
 simp only[↓zq,zs,ae,zt,ae,aH,bm,aX,aK,bB,Ob.es]
 have hmul:((BW e os).length+1)*(cY e []).atoms<=6001*2000:=Nat.mul_le_mul (by omega) hats
 have hren:=Vb (BW e os) (by omega) h [] [] (.sl []) (.sl []) 0 (.of []) (.of []) rfl (fun w hw=>by cases hw) (by simp;omega) (by omega)
 refine aY hren ?_
 simp only[↓zq,zs,ae,zt,aH,aL]
 repeat refine⟨by omega,?_⟩
 exact⟨rfl,rfl⟩
end Go.Proofs.Trees
namespace Go.Proofs.Trees
open Go Go.VL Go.RowKit
def gy(t:Ty):Prop:=j6 t 0/\∀y,bz y t=true->sa y
theorem hZ:∀(t:Ty) {i j:Nat},j6 t i->i<=j->j6 t j
 | .bound u,i,j,h,hj=>Nat.lt_of_lt_of_le h hj
 | .plus a b,i,j,h,hj=>⟨hZ a h.1 hj,hZ b h.2 hj⟩
 | .times a b,i,j,h,hj=>⟨hZ a h.1 hj,hZ b h.2 hj⟩
 | .rc a,i,j,h,hj=>hZ (i:=i+1) (j:=j+1) a h (by omega)
 | .zero,_,_,_,_=>trivial
 | .one,_,_,_,_=>trivial
 | .name _,_,_,_,_=>trivial
theorem il(x:Nm):∀(t:Ty) {i:Nat},j6 t (i+1)->j6 (dH (.name x) t i) i
 |
  .bound u,i,h=>by
  simp only[dH]
  split
  ·trivial
  ·have:u<i+1:=h
   show u<i;omega
 | .plus a b,i,h=>⟨il x a h.1,il x b h.2⟩
 | .times a b,i,h=>⟨il x a h.1,il x b h.2⟩
 | .rc a,i,h=>il x (i:=i+1) a h
 | .zero,_,_=>trivial
 | .one,_,_=>trivial
 | .name _,_,_=>trivial
theorem lK{x:Nm}{u:Ty}(hu:j6 u 0):∀(t:Ty) {i:Nat},j6 t i->j6 (sub x u t) i
 | .name s,i,_=>by simp only[sub];split;exact hZ u hu (dQ _);trivial
 | .plus a b,i,h=>⟨lK hu a h.1,lK hu b h.2⟩
 | .times a b,i,h=>⟨lK hu a h.1,lK hu b h.2⟩
 | .rc a,i,h=>lK hu (i:=i+1) a h
 | .zero,_,_=>trivial
 | .one,_,_=>trivial
 | .bound _,_,h=>h
theorem Dv.lc{t d:Ty}{s:Nm}(h:Dv t s d):j6 t 0->j6 d 0:=by
 induction h with
 |zero s=>exact fun _=>trivial
 |one s=>exact fun _=>trivial
 |bound k s=>exact fun _=>trivial
 |hit s=>exact fun _=>trivial
 |rK h=>exact fun _=>trivial
 |plus h1 h2 hl i1 i2=>exact fun h=>⟨i1 h.1,i2 h.2⟩
 |times h1 h2 hl i1 i2=>exact fun h=>⟨⟨i1 h.1,h.2⟩,h.1,i2 h.2⟩
 |
  rc x hx hs h1 h2 hl i1 i2 =>
  intro h
  have g1:=lK (x:=x) h _ (i1 (il x _ h))
  have g2:=lK (x:=x) h _ (i2 (il x _ h))
  exact⟨hZ _ g1 (by omega),hZ _ g2 (by omega),Nat.zero_lt_one⟩
theorem Wf.rO{e:E}(h:Wf e):gy (cY e []):=⟨vJ h [],fun y hy=>(od h [] y hy).1⟩
theorem gy.dv{t d:Ty}{s:Nm}(g:gy t)(h:Dv t s d):gy d:=⟨h.lc g.1,fun y hy=>g.2 y (h.names y hy)⟩
theorem gy.tree{t:Ty}(g:gy t):∃e,Wf e/\cY e []=t:=by
 obtain⟨h1,h2,_⟩:=lI (bS t []) t [] 0 (.nil _ _) g.1 fun y hy=>⟨(fp t [] y).2 (.inr hy),g.2 y hy⟩
 exact⟨_,h1,h2⟩
theorem gy.sub{x:Nm}{u t:Ty}(hu:gy u)(ht:gy t):gy (sub x u t):=⟨lK hu.1 t ht.1,fun y hy=>by
 rcases jN t hy with h|h
 ·exact hu.2 y h
 ·exact ht.2 y h.2⟩
def lT(o:Option Ty):AV->List Ob->Prop:=fun r ob=>ob=[]/\∃(c:Nm) (d:AV),LK.sl.has d/\r=.cm [.agg [.v (.string (mk c)),d],.v (.bool o.isSome)]/\∀t,o=some t->∃e,Wf e/\cY e []=t/\c=e.at/\d=e.sp
theorem lT.ne{o:Option Ty}(h:∀t,o=some t->gy t):∃r ob,lT o r ob:=by
 cases o with
 |none=>exact⟨_,_,rfl,[],Ah,(bm).mpr trivial,rfl,fun t h=>by cases h⟩
 |
  some t =>
  obtain⟨e,h1,h2⟩:=(h t rfl).tree
  exact⟨_,_,rfl,e.at,e.sp,(aX _).mpr trivial,rfl,fun t' h'=>by cases h';exact⟨e,h1,h2,rfl,rfl⟩⟩
theorem lT.of{e:E}(h:Wf e):lT (some (cY e [])) (.cm [.agg [.v (.string (mk e.at)),e.sp],.v (.bool true)]) [] :=
 ⟨rfl,e.at,e.sp,(aX _).mpr trivial,rfl,fun t h'=>by cases h';exact⟨e,h,rfl,rfl,rfl⟩⟩
theorem lT.no(c:Nm)(d:AV)(hd:LK.sl.has d):lT none (.cm [.agg [.v (.string (mk c)),d],.v (.bool false)]) [] :=
 ⟨rfl,c,d,hd,rfl,fun t h'=>by cases h'⟩
theorem hJ{c:ByteArray}{d:AV}(h:LK.sl.has d):bC [.str,.sl] [.v (.string c),d] 0=True:=by simp[bC,dD,h]
theorem yW{e:E}{os:List E}(h:Wf e):Wf (Bn e os)/\cY (Bn e os) []=cY e []/\vj (·∉BW e os) (Bn e os):=by
 obtain⟨h1,h2,_,_,h5⟩:=lI (BW e os) (cY e []) [] 0 (.nil _ _) (vJ h []) fun y hy=>⟨aD _ ((mK h [] [] y).2 (.inr hy)),(od h [] y hy).1⟩
 exact⟨h1,h2,h5⟩
theorem sL{os:List E}{o:E}(ho:o∈os)(hw:Wf o){y:Nm}(hy:bz y (cY o [])=true):y∈tO os :=
 dk.2 ⟨o,ho,(mK hw [] [] y).2 (.inr hy)⟩
theorem sU{s:Nm}(hs:sa s):cY (.atom s) []=.name s:=jJ hs (by simp)
theorem LX{x:Nm}(hx:sa x){e u:E}(h:Wf e)(hu:Wf u)(hl:e.dr<=400)(hlu:u.dr<=400):∃g,Wf g/\cY g []=sub x (cY u []) (cY e [])/\aq Tryz.prog 157 [.agg [.v (.string (mk e.at)),e.sp],.v (.string (mk x)),.agg [.v (.string (mk u.at)),u.sp]] [] (bP (.agg [.v (.string (mk g.at)),g.sp])):=by
 obtain⟨w1,w2,w3⟩:=yW (os:=[u,.atom x]) h
 have hap:vj (fun n=>n≠x/\bz n (cY u [])=false) (Bn e [u,.atom x]):=Ck (fun n hn=>⟨fun e1=>hn (by
  subst e1
  exact aB _ (sL (o:=.atom n) (by simp) (.atom hx.1) (by rw[sU hx];simp[bz]))),by
  cases q:bz n (cY u [])with
  |false=>rfl
  |true=>exact absurd (aB _ (sL (o:=u) (by simp) hu q)) hn⟩) w1 w3
 obtain⟨p1,p2⟩:=ED hx hu w1 hap [] (by simp) (fun y hy=>by cases hy)
 refine⟨_,p1,by rw[p2,w2],?_⟩
 refine UH _ _ _ _ _ ((aX _).mpr trivial) ((aX _).mpr trivial) ?_
 unfold Qo
 have s1:=h.sz
 have s2:=hu.sz
 have hA:=FX h (.sl [[.v (.string (mk u.at)),u.sp],[.v (.string (mk x)),Ah]]) [u,.atom x] ⟨(cc _).mpr trivial,by simp only[fJ,E.bE,gd];rfl⟩ (by omega) (fun o ho=>by
  simp only[aI,List.not_mem_nil,or_false]at ho
  rcases ho with rfl|rfl
  ·exact⟨hu,by omega⟩
  ·exact⟨.atom hx.1,by simp[E.sz]⟩) (by simp)
 refine aj hA ?_
 simp only[↓zq,zs,ae,zt,aL]
 repeat refine⟨by omega,?_⟩
 refine aj (RA x u w1) ?_
 simp only[↓zq,zs,ae,zt,aL]
 repeat refine⟨by omega,?_⟩
 exact⟨rfl,rfl⟩
theorem J9{x:Nm}(hx:sa x){e u:E}(h:Wf e)(hu:Wf u)(hl:e.dr<=400)(hlu:u.dr<=400):aq Tryz.prog 190 [.agg [.v (.string (mk e.at)),e.sp],.v (.string (mk x)),.agg [.v (.string (mk u.at)),u.sp]] [] (lT (oD (sub x (cY u []) (cY e [])))):=by
 refine Te _ _ _ _ _ ((aX _).mpr trivial) ((aX _).mpr trivial) ?_
 unfold Qm
 refine aj (QQ hx h hu (by omega) (by omega)) ?_
 simp only[↓zq,zs,ae,zt]
 refine⟨fun hn=>?_,fun hy=>?_⟩
 ·rw[show oD (sub x (cY u []) (cY e []))=none by unfold oD;rw[if_neg hn]]
  exact lT.no _ _ ((aX _).mpr trivial)
 ·rw[show oD (sub x (cY u []) (cY e []))=some (sub x (cY u []) (cY e [])) by unfold oD;rw[if_pos hy]]
  obtain⟨g,g1,g2,g3⟩:=LX hx h hu hl hlu
  refine aj g3 ?_
  simp only[↓zq,zs,ae,zt,aL]
  repeat refine⟨by omega,?_⟩
  rw[<-g2]
  exact lT.of g1
end Go.Proofs.Trees
namespace Go.Proofs.Trees
open Go Go.VL Go.RowKit
theorem DO(w:Nm)(c1 c2:Nm)(d1 d2:AV):aq Tryz.prog 61 [.v (.string (mk w)),.sl [[.v (.string (mk c1)),d1],[.v (.string (mk c2)),d2]]] [] (bP (.agg [.v (.string (mk [])),.sl [[.v (.string (mk w)),Ah],[.v (.string (mk c1)),d1],[.v (.string (mk c2)),d2]]])):=by
 refine Md _ _ ((cc _).mpr trivial) ?_
 simp only[Hs,↓zq,zs,ae,bP]
 exact⟨⟨fun c hc=>by
  simp only[aI,List.not_mem_nil,or_false]at hc
  rcases hc with rfl|rfl<;>rfl,by omega⟩,rfl⟩
theorem K2(F:List Nm)(hF:F.length<100000)(c1 c2:Nm)(d1 d2:AV)(h1:LK.sl.has d1)(h2:LK.sl.has d2):∀(n j:Nat),rr F n j<j+n->j+n<100000000 ->
 Jx [.v (.int .i64 (j:Int))] [zE,.cells [.v (.string (mk c1)),d1],.cells [.v (.string (mk c2)),d2],.vec 1 (bW F)] (gS 1 [.v (.int .i64 (rr F n j:Int))] [zE,.cells [.v (.string (mk c1)),d1],.cells [.v (.string (mk c2)),d2]])
 |0,j,h,_=>by simp only[rr]at h;omega
 |
  n+1,j,h,hj=>by
  refine RI _ _ _ _ _ _ _ _ ?_
  simp only[M3,↓zq,zs,ae,zt,ae,bm,h1,h2]
  refine aj (A6 (j+1) j (by omega) (by omega)) ?_
  have hd:=nW (j+1) j (by omega)
  simp only[↓zq,zs,ae,zt,bf,aS]
  refine⟨by simp[cR];omega,?_⟩
  refine aj (yS F _ (.of F) (tN j) (by omega)) ?_
  simp only[↓zq,zs,ae,zt]
  rw[rr]at h |-
  refine⟨fun hm=>?_,fun hm=>?_⟩
  ·rw[if_pos hm]at h |-
   rw[bD j (by omega)]
   exact K2 F hF c1 c2 d1 d2 h1 h2 n (j+1) (by omega) (by omega)
  ·rw[if_neg hm]
   exact⟨rfl,rfl,rfl⟩
theorem v7{x:Nm}{a c d:Ty}(h:(qN a x c d).atoms<=400):(sub x (.rc a) c).atoms<=400/\(sub x (.rc a) d).atoms<=400:=by
 simp only[qN,Ty.atoms]at h;omega
theorem Wf.jG{e:E}(h:Wf e){t:Ty}(ht:cY e []=t)(hl:t.atoms<=400):e.dr<=400:=by rw[h.dr [],ht];exact hl
def Vk(n:Nat):Prop:=∀(e:E) (s:Nm),Wf e->e.dr<=n->e.dr<=400->sa s->aq Tryz.prog 189 [.agg [.v (.string (mk e.at)),e.sp],.v (.string (mk s))] [] (lT (mM (cY e []) s))
theorem lg{e:E}{s:Nm}(h:Wf e):∀t,mM (cY e []) s=some t->gy t:=fun t ht=>h.rO.dv (cX.1 ht)
theorem sX{t:Ty}(h:gy t):∀d,oD t=some d->gy d:=fun d hd=>by obtain⟨_,rfl⟩:=fq.1 hd;exact h
theorem UW(n:Nat)(ih:Vk n)(m:Nm)(B:E)(hm:sa m)(hB:Wf B)(hl:(E.list [.atom dP,.atom m,B]).dr<=n+1)(hl4:(E.list [.atom dP,.atom m,B]).dr<=400)(s:Nm)(hs:sa s) :
 aq Tryz.prog 203 [.agg [.v (.string (mk [])),(E.list [.atom dP,.atom m,B]).sp],.v (.string (mk s))] [] (lT (mM (cY (.list [.atom dP,.atom m,B]) []) s)):=by
 have hw:Wf (.list [.atom dP,.atom m,B]):=.rc hm hB
 have hsz:=hw.sz
 have hA:=FX hw (.sl [[.v (.string (mk s)),Ah]]) [.atom s] ⟨(cc _).mpr trivial,by simp only[fJ,E.bE,gd];rfl⟩ (by omega) (fun o ho=>by
  simp only[aI,List.not_mem_nil,or_false]at ho
  subst ho
  exact⟨.atom hs.1,by simp[E.sz]⟩) (by simp)
 have hatsB:B.dr+2=(E.list [.atom dP,.atom m,B]).dr:=by simp only[E.dr,E.fA];omega
 have hT:cY (.list [.atom dP,.atom m,B]) []=.rc (cY B [m]):=fL _ _ _
 obtain⟨w1,w2,_,_,w5⟩:=lI (BW (.list [.atom dP,.atom m,B]) [.atom s]) (cY (.list [.atom dP,.atom m,B]) []) [] 0 (.nil _ _) (vJ hw []) fun y hy=>⟨aD _ ((mK hw [] [] y).2 (.inr hy)),(od hw [] y hy).1⟩
 have hsF:s∈BW (.list [.atom dP,.atom m,B]) [.atom s]:=aB _ (sL (o:=.atom s) (by simp) (.atom hs.1) (by rw[sU hs];simp[bz]))
 have haF:∀y,bz y (cY B [m])=true->y∈BW (.list [.atom dP,.atom m,B]) [.atom s]:=fun y hy=>aD _ ((mK hw [] [] y).2 (.inr (by rw[hT];exact hy)))
 unfold Bn at hA
 rw[hT]at hA w1 w2 w5
 rw[hT]
 generalize BW (.list [.atom dP,.atom m,B]) [.atom s]=F at *
 obtain⟨_,_,_,hxF⟩:=ib F 0
 simp only[iL,aS]at hA w1 w2 w5
 generalize hxd:tN (nx F 0)=x at *
 have hx:sa x:=by rw[<-hxd];exact AM _
 generalize (iL F (cY B [m]) [x] (nx F 0+1)).1=b at *
 have hb:Wf b:=by cases w1;assumption
 rw[fL]at w2
 have hbt:cY b [x]=cY B [m]:=by injection w2
 have hxa:bz x (cY B [m])=false:=by
  cases q:bz x (cY B [m])with
  |false=>rfl
  |true=>exact absurd (haF x q) hxF
 have hxs:x≠s:=fun e=>hxF (by rw[e];exact hsF)
 generalize cY B [m]=a at *
 have hbo:cY b []=dH (.name x) a 0:=by
  have:=AP x hb []
  rw[dh,hbt]at this;exact this
 have hba:b.dr+2=(E.list [.atom dP,.atom m,B]).dr:=by
  rw[hw.dr [],hT,hb.dr [],hbo,fZ];simp only[Ty.atoms];omega
 have i1:=ih b s hb (by omega) (by omega) hs
 have i2:=ih b x hb (by omega) (by omega) hx
 have n1:=lg (s:=s) hb
 have n2:=lg (s:=x) hb
 rw[hbo]at i1 i2 n1 n2
 have hP:=P3.of (.atom dP) (.atom x) b
 rw[D8 hxa hxs]
 have hE1:Wf (.list [.atom dP,.atom x,b]):=w1
 have hE1t:cY (.list [.atom dP,.atom x,b]) []=.rc a:=by rw[fL];exact w2
 have hE1l:(E.list [.atom dP,.atom x,b]).dr<=400:=by
  have:(E.list [.atom dP,.atom x,b]).dr=b.dr+2:=by simp only[E.dr,E.fA];omega
  omega
 refine T2 _ _ _ ((aX _).mpr trivial) ?_
 unfold OC
 refine aj hA ?_
 simp only[↓zq,zs,ae,zt,aL,bL,toNat_one,bj,hP.1,hP.2.1,hP.2.2.1,hP.2.2.2,ej]
 repeat refine⟨by omega,?_⟩
 refine aQ i1 (lT.ne n1) ?_
 rintro r o ⟨rfl,c1,d1,hd1,rfl,hc1⟩
 simp only[↓zq,zs,ae,zt,hJ hd1]
 repeat refine⟨by omega,?_⟩
 refine aQ i2 (lT.ne n2) ?_
 rintro r o ⟨rfl,c2,d2,hd2,rfl,hc2⟩
 simp only[↓zq,zs,ae,zt,hJ hd2]
 cases q1:mM (dH (.name x) a 0) s with
 |
  none =>
  simp only[ba,bq]
  exact⟨fun _=>lT.no _ _ ((aX _).mpr trivial),fun h=>(by cases h)⟩
 |some c =>
 cases q2:mM (dH (.name x) a 0) x with
 |
  none =>
  simp only[ba,aU,bq,aR]
  exact⟨fun h=>(by cases h),fun _=>⟨fun _=>lT.no _ _ ((aX _).mpr trivial),fun h=>(by cases h)⟩⟩
 |some d =>
 simp only[aU,aR]
 refine⟨fun h=>(by cases h),fun _=>⟨fun h=>(by cases h),fun _=>?_⟩⟩
 obtain⟨ec,wc,tc,rfl,rfl⟩:=hc1 c q1
 obtain⟨ed,wd,td,rfl,rfl⟩:=hc2 d q2
 have lc:=(cX.1 q1).small
 have ld:=(cX.1 q2).small
 have p1:=J9 hx wc hE1 (wc.jG tc lc) hE1l
 have p2:=J9 hx wd hE1 (wd.jG td ld) hE1l
 have g1:=sX (hE1.rO.sub (x:=x) wc.rO)
 have g2:=sX (hE1.rO.sub (x:=x) wd.rO)
 rw[hE1t,tc]at p1 g1
 rw[hE1t,td]at p2 g2
 simp only[bL]at p1 p2
 repeat refine⟨by omega,?_⟩
 refine aQ p1 (lT.ne g1) ?_
 rintro r o ⟨rfl,c3,d3,hd3,rfl,hc3⟩
 simp only[↓zq,zs,ae,zt,hJ hd3]
 repeat refine⟨by omega,?_⟩
 refine aQ p2 (lT.ne g2) ?_
 rintro r o ⟨rfl,c4,d4,hd4,rfl,hc4⟩
 simp only[↓zq,zs,ae,zt,hJ hd4]
 have big:∀t:Ty,oD t=none->¬t.atoms<=400:=fun t ht hle=>by unfold oD at ht;rw[if_pos hle]at ht;cases ht
 have out0:(oD (sub x (.rc a) c)=none\/oD (sub x (.rc a) d)=none)->oD (qN a x c d)=none:=fun h=>by
  unfold oD
  rw[if_neg fun hle=>?_]
  have:=v7 hle
  rcases h with h|h
  ·exact big _ h this.1
  ·exact big _ h this.2
 cases q3:oD (sub x (.rc a) c)with
 |
  none =>
  rw[out0 (.inl q3)]
  simp only[ba]
  exact⟨fun _=>lT.no _ _ ((aX _).mpr trivial),fun h=>(by cases h)⟩
 |some c' =>
 cases q4:oD (sub x (.rc a) d)with
 |
  none =>
  rw[out0 (.inr q4)]
  simp only[ba,aU]
  exact⟨fun h=>(by cases h),fun _=>⟨fun _=>lT.no _ _ ((aX _).mpr trivial),fun h=>(by cases h)⟩⟩
 |some d' =>
 simp only[aU]
 refine⟨fun h=>(by cases h),fun _=>⟨fun h=>(by cases h),fun _=>?_⟩⟩
 obtain⟨ec',wc',tc',rfl,rfl⟩:=hc3 c' q3
 obtain⟨ed',wd',td',rfl,rfl⟩:=hc4 d' q4
 obtain⟨lc',e3⟩:=fq.1 q3
 obtain⟨ld',e4⟩:=fq.1 q4
 rw[e3]at lc';rw[e4]at ld'
 have z1:=wc'.sz
 have z2:=wd'.sz
 have k1:=wc'.jG tc' lc'
 have k2:=wd'.jG td' ld'
 have f1:=FA wd' [] [] (.sl []) (.of []) (by simp;omega)
 have fl1:=gI ed' [] []
 have fl2:=gI ec' [] (lA ed' [] [])
 simp only[aE,a8]at fl1
 have f2:=FA wc' [] (lA ed' [] []) (.sl []) (.of []) (by simp;omega)
 refine aY f1 ?_
 simp only[↓zq,zs,ae,zt,aK,bB,Ob.es]
 refine aY f2 ?_
 simp only[↓zq,zs,ae,zt,aK,bB,Ob.es]
 have hF3:∀y,(bz y c'=true\/bz y d'=true)->y∈lA ec' [] (lA ed' [] []):=fun y hy=>by
  rw[mK wc',mK wd']
  rcases hy with hy|hy
  ·exact .inr (by rw[tc'];exact hy)
  ·exact .inl (.inr (by rw[td'];exact hy))
 generalize lA ec' [] (lA ed' [] [])=F3 at *
 obtain⟨_,y2,_,hyF⟩:=ib F3 0
 refine cC (K2 F3 (by omega) _ _ _ _ ((aX _).mpr trivial) ((aX _).mpr trivial) (F3.length+1) 0 (by show nx F3 0<_;omega) (by omega)) ?_
 have hnx:rr F3 (F3.length+1) 0=nx F3 0:=rfl
 rw[hnx]
 simp only[↓zq,zs,ae,zt,ae,aH,bm,aX]
 refine aj (A6 (nx F3 0+1) (nx F3 0) (by omega) (by omega)) ?_
 have hdl:=nW (nx F3 0+1) (nx F3 0) (by omega)
 simp only[↓zq,zs,ae,zt,bf,aS]
 refine⟨by omega,?_⟩
 obtain⟨y,hyd⟩:∃y:Nm,(116::dd (nx F3 0):Nm)=y:=⟨_,rfl⟩
 rw[hyd]
 rw[show tN (nx F3 0)=y from hyd]at hyF
 have hy:sa y:=by rw[<-hyd];exact AM _
 have hcy:cY ec' [y]=c':=by
  have:=vK [y] wc' [] (fun z hz hm=>hyF (by
   simp only[aT]at hm
   rw[<-hm];exact hF3 z (.inl (by rw[<-tc'];exact hz))))
  rw[dh,tc']at this;exact this
 have hdy:cY ed' [y]=d':=by
  have:=vK [y] wd' [] (fun z hz hm=>hyF (by
   simp only[aT]at hm
   rw[<-hm];exact hF3 z (.inr (by rw[<-td'];exact hz))))
  rw[dh,td']at this;exact this
 have hyb:cY (.atom y) [y]=.bound 0:=by
  simp only[cY];rw[if_neg hy.2.1,if_neg hy.2.2,show bT y [y] [y].length=some 0 from fN y []]
 let o1:E:=.list [.atom [42],ed',.atom y]
 let o2:E:=.list [.atom [43],ec',o1]
 let o3:E:=.list [.atom dP,.atom y,o2]
 have hw3:Wf o3:=.rc hy (.plus wc' (.times wd' (.atom hy.1)))
 have ht3:cY o3 []=qN a x c d:=by
  show cY (.list [.atom dP,.atom y,o2]) []=_
  rw[fL]
  show Ty.rc (cY (.list [.atom [43],ec',o1]) [y])=_
  rw[dX]
  show Ty.rc (.plus (cY ec' [y]) (cY (.list [.atom [42],ed',.atom y]) [y]))=_
  rw[dB,hcy,hdy,hyb,qN,e3,e4]
 have m1:=yY [42] ed' (.atom y)
 have m2:=yY [43] ec' o1
 have m3:=yY dP (.atom y) o2
 simp only[o1,bL,ej]at m1 m2 m3
 refine aj m1 ?_
 simp only[↓zq,zs,ae,zt,aL]
 repeat refine⟨by omega,?_⟩
 refine aj m2 ?_
 simp only[↓zq,zs,ae,zt,aL]
 repeat refine⟨by omega,?_⟩
 refine aj m3 ?_
 simp only[↓zq,zs,ae,zt,aL]
 repeat refine⟨by omega,?_⟩
 have z3:=hw3.sz
 have hats3:o3.dr=ec'.dr+ed'.dr+5:=by simp only[o3,o2,o1,E.dr,E.fA];omega
 have ma:=FO o3 hw3.ok (by omega)
 rw[cT]at ma
 simp only[o3,o2,o1,bL]at ma
 refine aj ma ?_
 simp only[↓zq,zs,ae,zt]
 have hd3:(qN a x c d).atoms=o3.dr:=by rw[<-ht3,<-hw3.dr []]
 unfold oD
 by_cases hle:(qN a x c d).atoms<=400
 ·rw[if_pos hle]
  have:=lT.of hw3
  rw[ht3]at this
  rw[show decide ((((E.list [.atom dP,.atom y,.list [.atom [43],ec',.list [.atom [42],ed',.atom y]]]).dr:Nat):Int)<=400)=true from decide_eq_true (by show ((o3.dr:Nat):Int)<=400;omega)]
  exact this
 ·rw[if_neg hle]
  rw[show decide ((((E.list [.atom dP,.atom y,.list [.atom [43],ec',.list [.atom [42],ed',.atom y]]]).dr:Nat):Int)<=400)=false from decide_eq_false (by show ¬((o3.dr:Nat):Int)<=400;omega)]
  exact lT.no _ _ ((aX o3).mpr trivial)
theorem BG:∀n,Vk n
 |0=>fun e s h hl=>by have:=eG (cY e []);rw[<-h.dr []]at this;omega
 |
  n+1=>by
  intro e s h hl h4 hs
  cases h with
  |
   @atom c hc =>
   refine F4 _ _ _ ((aX _).mpr trivial) ?_
   simp only[DS,ej,↓zq,zs,ae,zt]
   refine⟨fun _=>⟨fun he=>?_,fun hne=>?_⟩,fun h=>absurd h hc⟩
   ·have he:c=s:=he
    subst he
    rw[sU hs,pR,if_pos rfl]
    exact lT.of (e:=.atom [49]) (.atom (by simp))
   ·have hne:¬c=s:=hne
    have:mM (cY (.atom c) []) s=some .zero:=by
     simp only[cY]
     split
     ·exact xH _
     ·split
      ·exact zL _
      ·rw[show bT c [] ([]:List Nm).length=none from rfl,pR,if_neg hne]
    rw[this]
    exact lT.of (e:=.atom [48]) (.atom (by simp))
  |
   @plus x y hx hy =>
   have hxy:(E.list [.atom [43],x,y]).dr=x.dr+y.dr+1:=by simp only[E.dr,E.fA];omega
   have p1:1<=x.dr:=by rw[hx.dr []];exact eG _
   have p2:1<=y.dr:=by rw[hy.dr []];exact eG _
   refine F4 _ _ _ ((aX _).mpr trivial) ?_
   have hP:=P3.of (.atom [43]) x y
   simp only[DS,bL,toNat_one,bj,↓zq,zs,ae,zt,hP.1,hP.2.1,hP.2.2.1,hP.2.2.2,aL]
   refine⟨fun h=>absurd rfl h,fun _=>?_⟩
   refine aj (pA [43] x y) ?_
   simp only[↓zq,zs,ae,zt]
   refine⟨fun h=>by simp at h,fun _=>?_⟩
   repeat refine⟨by omega,?_⟩
   rw[dX,wM]
   refine aQ (BG n x s hx (by omega) (by omega) hs) (lT.ne (lg hx)) ?_
   rintro r o ⟨rfl,c1,d1,hd1,rfl,hc1⟩
   simp only[↓zq,zs,ae,zt,hJ hd1]
   repeat refine⟨by omega,?_⟩
   refine aQ (BG n y s hy (by omega) (by omega) hs) (lT.ne (lg hy)) ?_
   rintro r o ⟨rfl,c2,d2,hd2,rfl,hc2⟩
   simp only[↓zq,zs,ae,zt,hJ hd2]
   refine aj (DO [43] c1 c2 d1 d2) ?_
   simp only[↓zq,zs,ae,zt,bC,dD,cc]
   repeat refine⟨by omega,?_⟩
   refine aj (pA [43] x y) ?_
   simp only[↓zq,zs,ae,zt]
   refine⟨fun h=>by simp at h,fun _=>?_⟩
   cases q1:mM (cY x []) s with
   |
    none =>
    simp only[ba,bq]
    exact⟨fun h=>(by cases h),fun _=>lT.no _ _ ((cc _).mpr trivial)⟩
   |some tx =>
   cases q2:mM (cY y []) s with
   |
    none =>
    simp only[ba,aU,bq,aR]
    exact⟨fun _=>⟨fun h=>(by cases h),fun _=>lT.no _ _ ((cc _).mpr trivial)⟩,fun h=>(by cases h)⟩
   |some t2 =>
   simp only[aU,aR]
   refine⟨fun _=>⟨fun _=>?_,fun h=>(by cases h)⟩,fun h=>(by cases h)⟩
   obtain⟨e1,w1,te1,rfl,rfl⟩:=hc1 tx q1
   obtain⟨e2,w2,te2,rfl,rfl⟩:=hc2 t2 q2
   have l1:=w1.jG te1 (cX.1 q1).small
   have l2:=w2.jG te2 (cX.1 q2).small
   have z1:=w1.sz
   have z2:=w2.sz
   have hw3:Wf (.list [.atom [43],e1,e2]):=.plus w1 w2
   have ht3:cY (.list [.atom [43],e1,e2]) []=.plus tx t2:=by rw[dX,te1,te2]
   have ma:=FO _ hw3.ok (by simp only[E.sz,E.jZ];omega)
   rw[cT]at ma
   simp only[bL]at ma
   have e3:AV.sl [[.v (.string (mk [43])),Ah],[.v (.string (mk e1.at)),e1.sp],[.v (.string (mk e2.at)),e2.sp]]=(E.list [.atom [43],e1,e2]).sp:=by simp only[E.sp,E.bE,gd];rfl
   rw[e3]
   refine aj ma ?_
   simp only[↓zq,zs,ae,zt]
   have hd3:(Ty.plus tx t2).atoms=(E.list [.atom [43],e1,e2]).dr:=by rw[<-ht3,<-hw3.dr []]
   unfold oD
   by_cases hle:(Ty.plus tx t2).atoms<=400
   ·rw[if_pos hle,show decide ((((E.list [.atom [43],e1,e2]).dr:Nat):Int)<=400)=true from decide_eq_true (by omega)]
    have:=lT.of hw3
    rw[ht3]at this
    exact this
   ·rw[if_neg hle,show decide ((((E.list [.atom [43],e1,e2]).dr:Nat):Int)<=400)=false from decide_eq_false (by omega)]
    exact lT.no _ _ ((aX _).mpr trivial)
  |
   @times x y hx hy =>
   have hxy:(E.list [.atom [42],x,y]).dr=x.dr+y.dr+1:=by simp only[E.dr,E.fA];omega
   have p1:1<=x.dr:=by rw[hx.dr []];exact eG _
   have p2:1<=y.dr:=by rw[hy.dr []];exact eG _
   refine F4 _ _ _ ((aX _).mpr trivial) ?_
   have hP:=P3.of (.atom [42]) x y
   simp only[DS,bL,toNat_one,bj,↓zq,zs,ae,zt,hP.1,hP.2.1,hP.2.2.1,hP.2.2.2,aL]
   refine⟨fun h=>absurd rfl h,fun _=>?_⟩
   refine aj (pA [42] x y) ?_
   simp only[↓zq,zs,ae,zt]
   refine⟨fun h=>by simp at h,fun _=>?_⟩
   repeat refine⟨by omega,?_⟩
   rw[dB,uv]
   refine aQ (BG n x s hx (by omega) (by omega) hs) (lT.ne (lg hx)) ?_
   rintro r o ⟨rfl,c1,d1,hd1,rfl,hc1⟩
   simp only[↓zq,zs,ae,zt,hJ hd1]
   repeat refine⟨by omega,?_⟩
   refine aQ (BG n y s hy (by omega) (by omega) hs) (lT.ne (lg hy)) ?_
   rintro r o ⟨rfl,c2,d2,hd2,rfl,hc2⟩
   simp only[↓zq,zs,ae,zt,hJ hd2]
   refine aj (DO [43] c1 c2 d1 d2) ?_
   simp only[↓zq,zs,ae,zt,bC,dD,cc]
   repeat refine⟨by omega,?_⟩
   refine aj (pA [42] x y) ?_
   simp only[↓zq,zs,ae,zt]
   refine⟨fun _=>?_,fun h=>by simp at h⟩
   repeat refine⟨by omega,?_⟩
   refine aj (DO [42] c1 y.at d1 y.sp) ?_
   simp only[↓zq,zs,ae,zt,bC,dD,cc,aX]
   repeat refine⟨by omega,?_⟩
   refine aj (DO [42] x.at c2 x.sp d2) ?_
   simp only[↓zq,zs,ae,zt,bC,dD,cc,aX]
   repeat refine⟨by omega,?_⟩
   refine aj (DO [43] [] [] _ _) ?_
   simp only[↓zq,zs,ae,zt,bC,dD,cc]
   repeat refine⟨by omega,?_⟩
   cases q1:mM (cY x []) s with
   |
    none =>
    simp only[ba,bq]
    exact⟨fun h=>(by cases h),fun _=>lT.no _ _ ((cc _).mpr trivial)⟩
   |some tx =>
   cases q2:mM (cY y []) s with
   |
    none =>
    simp only[ba,aU,bq,aR]
    exact⟨fun _=>⟨fun h=>(by cases h),fun _=>lT.no _ _ ((cc _).mpr trivial)⟩,fun h=>(by cases h)⟩
   |some t2 =>
   simp only[aU,aR]
   refine⟨fun _=>⟨fun _=>?_,fun h=>(by cases h)⟩,fun h=>(by cases h)⟩
   obtain⟨e1,w1,te1,rfl,rfl⟩:=hc1 tx q1
   obtain⟨e2,w2,te2,rfl,rfl⟩:=hc2 t2 q2
   have l1:=w1.jG te1 (cX.1 q1).small
   have l2:=w2.jG te2 (cX.1 q2).small
   have z1:=w1.sz
   have z2:=w2.sz
   have z3:=hx.sz
   have z4:=hy.sz
   have hw3:Wf (.list [.atom [43],.list [.atom [42],e1,y],.list [.atom [42],x,e2]]):=.plus (.times w1 hy) (.times hx w2)
   have ht3:cY (.list [.atom [43],.list [.atom [42],e1,y],.list [.atom [42],x,e2]]) []=.plus (.times tx (cY y [])) (.times (cY x []) t2):=by rw[dX,dB,dB,te1,te2]
   have ma:=FO _ hw3.ok (by simp only[E.sz,E.jZ];omega)
   rw[cT]at ma
   simp only[bL]at ma
   have e3:AV.sl [[.v (.string (mk [43])),Ah],[.v (.string (mk [])),.sl [[.v (.string (mk [42])),Ah],[.v (.string (mk e1.at)),e1.sp],[.v (.string (mk y.at)),y.sp]]],[.v (.string (mk [])),.sl [[.v (.string (mk [42])),Ah],[.v (.string (mk x.at)),x.sp],[.v (.string (mk e2.at)),e2.sp]]]]=(E.list [.atom [43],.list [.atom [42],e1,y],.list [.atom [42],x,e2]]).sp:=by simp only[E.sp,E.bE,gd];rfl
   rw[e3]
   refine aj ma ?_
   simp only[↓zq,zs,ae,zt]
   have hd3:(Ty.plus (.times tx (cY y [])) (.times (cY x []) t2)).atoms=(E.list [.atom [43],.list [.atom [42],e1,y],.list [.atom [42],x,e2]]).dr:=by rw[<-ht3,<-hw3.dr []]
   unfold oD
   by_cases hle:(Ty.plus (.times tx (cY y [])) (.times (cY x []) t2)).atoms<=400
   ·rw[if_pos hle,show decide ((((E.list [.atom [43],.list [.atom [42],e1,y],.list [.atom [42],x,e2]]).dr:Nat):Int)<=400)=true from decide_eq_true (by omega)]
    have:=lT.of hw3
    rw[ht3]at this
    exact this
   ·rw[if_neg hle,show decide ((((E.list [.atom [43],.list [.atom [42],e1,y],.list [.atom [42],x,e2]]).dr:Nat):Int)<=400)=false from decide_eq_false (by omega)]
    exact lT.no _ _ ((aX _).mpr trivial)
  |
   @rc m B hm hB =>
   have hlp:=UW n (BG n) m B hm hB hl h4 s hs
   have hg:=lg (s:=s) (Wf.rc hm hB)
   refine F4 _ _ _ ((aX _).mpr trivial) ?_
   have hP:=P3.of (.atom dP) (.atom m) B
   simp only[DS,bL,toNat_one,bj,↓zq,zs,ae,zt,hP.1,hP.2.1,hP.2.2.1,hP.2.2.2,aL]
   refine⟨fun h=>absurd rfl h,fun _=>?_⟩
   refine aj (pA dP (.atom m) B) ?_
   simp only[↓zq,zs,ae,zt]
   refine⟨fun _=>?_,fun h=>absurd rfl h⟩
   refine aQ hlp (lT.ne hg) ?_
   rintro r o ⟨rfl,c1,d1,hd1,rfl,hc1⟩
   simp only[↓zq,zs,ae,zt,hJ hd1]
   exact⟨rfl,c1,d1,hd1,rfl,hc1⟩
end Go.Proofs.Trees
namespace Go.Proofs.Trees
open Go Go.VL Go.RowKit
theorem qf:∀(n k:Nat),k<10 ^ (n+1)->(dd k).length<=n+1
 |0,k,h=>by rw[fg (by omega)];simp
 |
  n+1,k,h=>by
  by_cases h1:k<10
  ·rw[fg h1];simp
  ·rw[gl h1]
   have:=qf n (k/10) (by
    have:10 ^ (n+1+1)=10*10 ^ (n+1):=by rw[Nat.pow_succ,Nat.mul_comm]
    omega)
   simp;omega
inductive Sh:E->Prop
 |atom {s:Nm} (h:s.length<=20):Sh (.atom s)
 |l3 {h:Nm} {a b:E} (hh:h.length<=20) (ha:Sh a) (hb:Sh b):Sh (.list [.atom h,a,b])
theorem Sh.cf{e:E}(hw:Wf e)(h:Sh e):(fD e).length<=50*e.dr:=by
 induction hw with
 |atom _=>cases h with|atom h=>simp only[fD,E.dr];omega
 |
  plus _ _ i1 i2 =>
  cases h with|l3 hh ha hb =>
  have:=i1 ha
  have:=i2 hb
  simp only[fD,eF,aw,an,aE,E.dr,E.fA];omega
 |
  times _ _ i1 i2 =>
  cases h with|l3 hh ha hb =>
  have:=i1 ha
  have:=i2 hb
  simp only[fD,eF,aw,an,aE,E.dr,E.fA];omega
 |
  rc _ _ i =>
  cases h with|l3 hh ha hb =>
  cases ha with|atom ha =>
  have:=i hb
  simp only[fD,eF,aw,an,aE,E.dr,E.fA];omega
def wB(t:Ty):Prop:=∀y,bz y t=true->y.length<=20
theorem ye{k:Nat}(h:k<100000000):(tN k).length<=20:=by
 have:=qf 7 k (by omega)
 simp;omega
theorem qU(F:List Nm)(hF:F.length<=10000):∀(t:Ty) (to:List Nm) (k:Nat),wB t->(∀w,w∈to->w.length<=20)->k+(F.length+1)*t.atoms<90000000->Sh (iL F t to k).1
 | .zero,_,_,_,_,_=>.atom (by simp)
 | .one,_,_,_,_,_=>.atom (by simp)
 | .name s,_,_,hn,_,_=>.atom (hn s (by simp[bz]))
 |
  .bound u,to,_,_,ht,_=>by
  refine .atom ?_
  show (gR to u).length<=20
  unfold gR
  by_cases h:to.length-1-u<to.length
  ·rw[aa,bp h];exact ht _ (bn h)
  ·rw[aa,List.getElem?_eq_none (by omega)];simp
 |
  .plus a b,to,k,hn,ht,hk=>by
  have h1:=iS F a to k
  have:(F.length+1)*(1+a.atoms+b.atoms)=(F.length+1)+(F.length+1)*a.atoms+(F.length+1)*b.atoms:=by simp only[da,dS]
  simp only[Ty.atoms]at hk
  exact .l3 (by simp) (qU F hF a to k (fun y hy=>hn y (by simp[bz,hy])) ht (by omega)) (qU F hF b to _ (fun y hy=>hn y (by simp[bz,hy])) ht (by omega))
 |
  .times a b,to,k,hn,ht,hk=>by
  have h1:=iS F a to k
  have:(F.length+1)*(1+a.atoms+b.atoms)=(F.length+1)+(F.length+1)*a.atoms+(F.length+1)*b.atoms:=by simp only[da,dS]
  simp only[Ty.atoms]at hk
  exact .l3 (by simp) (qU F hF a to k (fun y hy=>hn y (by simp[bz,hy])) ht (by omega)) (qU F hF b to _ (fun y hy=>hn y (by simp[bz,hy])) ht (by omega))
 |
  .rc a,to,k,hn,ht,hk=>by
  obtain⟨g1,g2,_,_⟩:=ib F k
  have:(F.length+1)*(2+a.atoms)=(F.length+1)*2+(F.length+1)*a.atoms:=by simp only[da]
  simp only[Ty.atoms]at hk
  have hl:=ye (k:=nx F k) (by omega)
  exact .l3 (by simp) (.atom hl) (qU F hF a _ _ hn (fun w hw=>by
   rcases aO.1 hw with hw|hw
   ·exact ht w hw
   ·simp only[aT]at hw;rw[hw];exact hl) (by omega))
def G1(t:Ty):Nm:=fD (iL (bS t []) t [] 0).1
def told(t:Ty):Option Nm:=if t.atoms<=400/\(sr (G1 t)).isSome=true then some (G1 t)else none
theorem E8{t:Ty}(g:gy t)(hs:wB t)(ha:t.atoms<=400):(G1 t).length<=20000:=by
 obtain⟨h1,h2,_⟩:=lI (bS t []) t [] 0 (.nil _ _) g.1 fun y hy=>⟨(fp t [] y).2 (.inr hy),g.2 y hy⟩
 have hn:=eQ t []
 simp only[aE,a8]at hn
 have hm:((bS t []).length+1)*t.atoms<=401*400:=Nat.mul_le_mul (by omega) ha
 have:=(qU (bS t []) (by omega) t [] 0 hs (fun w hw=>by cases hw) (by omega)).cf h1
 have:=h1.jG h2 ha
 unfold G1;omega
theorem vO(s:Nm):(xR s).isSome=(sr s).isSome:=by
 rw[vm]
 cases he:xR s with
 |none=>rfl
 |
  some e =>
  obtain⟨h1,h2,h3⟩:=qK he
  simp only[jC e [],h2];rfl
theorem RU(s:Nm):aq Tryz.prog 191 [.v (.string (mk s))] [] (bP (.v (.bool (sr s).isSome))):=by
 refine US _ ?_
 unfold QN
 refine aQ (HI s) (iT.ne _ _ (fun h=>h)) ?_
 rintro r o ⟨c,d,hd,rfl,hh⟩
 have hhas:bC [.str,.sl] [.v (.string (mk c)),d] 0:=by simp[bC,dD,hd]
 simp only[↓zq,zs,ae,zt,vO]
 exact⟨hhas,rfl,rfl⟩
theorem R4{e:E}(h:Wf e)(hl:e.dr<=400)(hs:wB (cY e [])):aq Tryz.prog 174 [.agg [.v (.string (mk e.at)),e.sp]] [] (bP (re (told (cY e [])))):=by
 refine Ub _ _ ((aX _).mpr trivial) ?_
 unfold MB
 have z:=h.sz
 have ma:=FO e h.ok (by omega)
 rw[cT]at ma
 have hA:=FX h Ah [] ⟨(bm).mpr trivial,rfl⟩ (by omega) (fun o ho=>by cases ho) (by simp)
 have ha:(cY e []).atoms<=400:=by rw[<-h.dr []];exact hl
 have hc:Bn e []=(iL (bS (cY e []) []) (cY e []) [] 0).1:=by
  unfold Bn BW tO
  rw[List.flatMap_nil,dh,ko (F':=bS (cY e []) []) fun y=>by rw[mK h,fp]]
 have hx:fD (Bn e [])=G1 (cY e []):=by rw[hc];rfl
 have hlen:=E8 h.rO hs ha
 have hT:=En (Bn e []) (yW h).1.ok (by rw[hx];omega)
 rw[cT,hx]at hT
 refine aj ma ?_
 simp only[↓zq,zs,ae,zt]
 refine⟨fun h=>by omega,fun _=>?_⟩
 refine aj hA ?_
 simp only[↓zq,zs,ae,zt,aL]
 refine aj hT ?_
 simp only[↓zq,zs,ae,zt]
 refine aj (RU _) ?_
 simp only[↓zq,zs,ae,zt]
 unfold told
 refine⟨fun hn=>?_,fun hy=>?_⟩
 ·rw[if_neg (by rw[hn];simp)];exact⟨rfl,rfl⟩
 ·rw[if_pos ⟨ha,hy⟩];exact⟨rfl,rfl⟩
abbrev m9:Nm:=[35,49]
noncomputable def cP (s:Nm):Option Nm:=match sr s with
 |some (.rc a)=>(pz a m9).bind told
 |_=>none
theorem oU{s:Nm}{t:Ty}(h:sr s=some t):∃e,xR s=some e/\Wf e/\cY e []=t/\e.dr<=400/\e.ok:=by
 rw[vm]at h
 cases he:xR s with
 |none=>rw[he]at h;cases h
 |
  some e =>
  rw[he]at h
  obtain⟨h1,h2,h3⟩:=qK he
  obtain⟨hok,_⟩:=pj h1
  obtain⟨w1,w2⟩:=lD e [] t hok (fun w hw=>by cases hw) h
  exact⟨e,rfl,w1,w2,h3,hok⟩
theorem s4{e:E}{x:Nm}{a d:Ty}(hw:Wf e)(ht:cY e []=.rc a)(hx:sa x)(hd:pz a x=some d):gy d/\(wB (.rc a)->wB d):=by
 simp only[pz,aW,cX,fq]at hd
 obtain⟨d',h1,_,rfl⟩:=hd
 have g:gy (.rc a):=ht ▸ hw.rO
 have go:gy (dH (.name x) a 0):=⟨il x a g.1,fun y hy=>by
  rcases ic a 0 hy with rfl|h
  ·exact hx
  ·exact g.2 y h⟩
 refine⟨g.sub (go.dv h1),fun hs y hy=>?_⟩
 rcases jN _ hy with h|⟨h,h'⟩
 ·exact hs y h
 ·rcases ic a 0 (h1.names y h')with e|e
  ·exact absurd e h
  ·exact hs y e
def M6(y:Nm):Prop:=iw y=true\/dy y=true
theorem ju:∀(e:E) (ar:List Nm) (t:Ty),cZ e ar=some t->∀y,bz y t=true->M6 y
 |
  .atom s,ar,t,ht,y,hy=>by
  simp only[cZ]at ht
  split at ht
  ·cases ht;cases hy
  ·split at ht
   ·cases ht;cases hy
   ·split at ht
    ·rename_i hp
     cases ht
     simp only[bz,decide_eq_true_eq]at hy
     subst hy;exact .inl hp
    ·split at ht
     ·rename_i hq
      split at ht
      ·cases ht;cases hy
      ·cases ht
       simp only[bz,decide_eq_true_eq]at hy
       subst hy;exact .inr hq
     ·cases ht
 |
  .list [x,a,b],ar,t,ht,y,hy=>by
  by_cases h0:x.at=[43]
  ·obtain⟨t1,t2,h1,h2,rfl⟩:=gf h0 ht
   simp only[bz,bH]at hy
   rcases hy with hy|hy
   ·exact ju a ar t1 h1 y hy
   ·exact ju b ar t2 h2 y hy
  ·by_cases h1:x.at=[42]
   ·obtain⟨t1,t2,h2,h3,rfl⟩:=fH h1 ht
    simp only[bz,bH]at hy
    rcases hy with hy|hy
    ·exact ju a ar t1 h2 y hy
    ·exact ju b ar t2 h3 y hy
   ·by_cases h2:x.at=[114,101,99]
    ·obtain⟨t1,hla,h3,rfl⟩:=dK h2 ht
     exact ju b _ t1 h3 y hy
    ·rw[jK _ h0 h1 h2]at ht;cases ht
 | .list [],ar,t,ht,_,_=>by cases ht
 | .list [_],ar,t,ht,_,_=>by cases ht
 | .list [_,_],ar,t,ht,_,_=>by cases ht
 | .list (_::_::_::_::_),ar,t,ht,_,_=>by cases ht
theorem yd{y:Nm}(h:M6 y):y.length<=3/\∀r,y≠35::r:=by
 have key:∀lo hi,116<=lo->named lo hi y=true->y.length<=3/\∀r,y≠35::r:=fun lo hi hlo h=>by
  cases y with
  |nil=>cases h
  |
   cons c r =>
   simp only[named,aA,decide_eq_true_eq]at h
   refine⟨by simp;omega,fun r' e=>?_⟩
   have:c=35:=by injection e
   subst this
   have:=h.1.2.1
   have e35:(35:UInt8).toNat=35:=rfl
   omega
 rcases h with h|h
 ·exact key 120 122 (by omega) h
 ·exact key 116 116 (by omega) h
theorem oc{s:Nm}{t:Ty}(h:sr s=some t):∀y,bz y t=true->M6 y:=by
 rw[vm]at h
 cases he:xR s with
 |none=>rw[he]at h;cases h
 |some e=>rw[he]at h;exact ju e [] t h
theorem vy{s:Nm}{a:Ty}(h:sr s=some (.rc a)):bz m9 a=false:=by
 cases q:bz m9 a with
 |false=>rfl
 |true=>exact absurd rfl ((yd (oc h m9 q)).2 [49])
theorem DK{s:Nm}{t:Ty}(h:sr s=some t):wB t:=fun y hy=>by have:=(yd (oc h y hy)).1;omega
theorem Vg{m:Nm}{B:E}(hm:sa m)(hB:Wf B)(hl:(E.list [.atom dP,.atom m,B]).dr<=400):aq Tryz.prog 173 [.agg [.v (.string (mk [])),(E.list [.atom dP,.atom m,B]).sp]] [] (lT (pz (cY B [m]) m)):=by
 have hw:Wf (.list [.atom dP,.atom m,B]):=.rc hm hB
 have hT:cY (.list [.atom dP,.atom m,B]) []=.rc (cY B [m]):=fL _ _ _
 have hP:=P3.of (.atom dP) (.atom m) B
 have hbo:cY B []=dH (.name m) (cY B [m]) 0:=by
  have:=AP m hB []
  rw[dh]at this;exact this
 have hba:B.dr+2=(E.list [.atom dP,.atom m,B]).dr:=by simp only[E.dr,E.fA];omega
 have i1:=BG 400 B m hB (by omega) (by omega) hm
 have n1:=lg (s:=m) hB
 rw[hbo]at i1 n1
 refine TZ _ _ ((aX _).mpr trivial) ?_
 simp only[PN,bL,toNat_one,bj,↓zq,zs,ae,zt,hP.1,hP.2.1,hP.2.2.1,hP.2.2.2,aL,ej]
 repeat refine⟨by omega,?_⟩
 refine aQ i1 (lT.ne n1) ?_
 rintro r o ⟨rfl,c1,d1,hd1,rfl,hc1⟩
 simp only[↓zq,zs,ae,zt,hJ hd1,pz]
 cases q1:mM (dH (.name m) (cY B [m]) 0) m with
 |
  none =>
  simp only[ba,bq]
  exact⟨fun _=>lT.no _ _ ((aX _).mpr trivial),fun h=>(by cases h)⟩
 |
  some d =>
  simp only[aU,aR]
  refine⟨fun h=>(by cases h),fun _=>?_⟩
  obtain⟨ed,wd,td,rfl,rfl⟩:=hc1 d q1
  have p1:=J9 hm wd hw (wd.jG td (cX.1 q1).small) hl
  have g1:=sX (hw.rO.sub (x:=m) wd.rO)
  rw[hT,td]at p1 g1
  simp only[bL]at p1
  repeat refine⟨by omega,?_⟩
  refine aQ p1 (lT.ne g1) ?_
  rintro r o ⟨rfl,c2,d2,hd2,rfl,hc2⟩
  simp only[↓zq,zs,ae,zt,hJ hd2]
  exact⟨rfl,c2,d2,hd2,rfl,hc2⟩
theorem Pk(s:Nm):aq Tryz.prog 154 [.v (.string (mk s))] [] (bP (re (cP s))):=by
 refine RV _ ?_
 unfold MR
 refine aQ (HI s) (iT.ne _ _ (fun h=>h)) ?_
 rintro r o ⟨c,d,hd,rfl,hh⟩
 have hhas:bC [.str,.sl] [.v (.string (mk c)),d] 0:=by simp[bC,dD,hd]
 simp only[↓zq,zs,ae,zt]
 refine⟨hhas,fun h=>?_,fun h=>?_⟩
 ·rw[vO]at h
  have:sr s=none:=by cases hq:sr s<;>simp[hq]at h |-
  unfold cP;rw[this];exact⟨rfl,rfl⟩
 ·rw[vO]at h
  obtain⟨t,ht⟩:=bb.1 h
  obtain⟨e,he,hw,hte,hats,hok⟩:=oU ht
  obtain⟨e',he',hce⟩:=hh (by rw[he];rfl)
  rw[he]at he';cases he'
  have notRec:(∀a,t≠.rc a)->cP s=none:=fun hn=>by
   unfold cP;rw[ht]
   cases t<;>first|rfl|exact absurd rfl (hn _)
  rw[hce,cT]
  cases hw with
  |
   @atom c hc =>
   have hn:cP s=none:=notRec fun a q=>by
    rw[<-hte]at q
    simp only[cY]at q
    split at q
    ·cases q
    ·split at q
     ·cases q
     ·split at q<;>cases q
   rw[hn]
   refine aj (Bh c _ ((aX _).mpr trivial) hc) ?_
   simp only[↓zq,zs,ae,zt]
   exact⟨fun _=>⟨rfl,rfl⟩,fun h=>by simp at h⟩
  |
   @plus x y hx hy =>
   have hn:cP s=none:=notRec fun a q=>by rw[<-hte,dX]at q;cases q
   rw[hn]
   simp only[bL]
   refine aj (pA [43] x y) ?_
   simp only[↓zq,zs,ae,zt]
   exact⟨fun _=>⟨rfl,rfl⟩,fun h=>by simp at h⟩
  |
   @times x y hx hy =>
   have hn:cP s=none:=notRec fun a q=>by rw[<-hte,dB]at q;cases q
   rw[hn]
   simp only[bL]
   refine aj (pA [42] x y) ?_
   simp only[↓zq,zs,ae,zt]
   exact⟨fun _=>⟨rfl,rfl⟩,fun h=>by simp at h⟩
  |
   @rc m B hm hB =>
   have hrt:cY (.list [.atom dP,.atom m,B]) []=.rc (cY B [m]):=fL _ _ _
   rw[hrt]at hte
   have hq:cP s=(pz (cY B [m]) m).bind told:=by
    unfold cP;rw[ht,<-hte]
    show (pz (cY B [m]) m9).bind told=_
    rw[JJ (vy (by rw[ht,<-hte])) (by
     cases q:bz m (cY B [m])with
     |false=>rfl
     |true=>exact absurd (by simp) (od hB [m] m q).2)]
   rw[hq]
   simp only[bL]
   refine aj (pA dP (.atom m) B) ?_
   simp only[↓zq,zs,ae,zt]
   refine⟨fun h=>by simp at h,fun _=>?_⟩
   have hgood:∀d,pz (cY B [m]) m=some d->gy d/\(wB (.rc (cY B [m]))->wB d):=fun d hd=>s4 (Wf.rc hm hB) hrt hm hd
   refine aQ (Vg hm hB hats) (lT.ne fun t h=>(hgood t h).1) ?_
   rintro r o ⟨rfl,c1,d1,hd1,rfl,hc1⟩
   simp only[↓zq,zs,ae,zt,hJ hd1]
   cases q1:pz (cY B [m]) m with
   |
    none =>
    simp only[ba,bq]
    exact⟨fun _=>⟨rfl,rfl⟩,fun h=>(by cases h)⟩
   |
    some d =>
    simp only[aU,aR]
    refine⟨fun h=>(by cases h),fun _=>?_⟩
    obtain⟨ed,wd,td,rfl,rfl⟩:=hc1 d q1
    have hl:d.atoms<=400:=by
     simp only[pz,aW,fq]at q1
     obtain⟨_,_,h1,h2⟩:=q1
     rw[<-h2];exact h1
    have hcn:=R4 wd (wd.jG td hl) (by rw[td];exact(hgood d q1).2 (hte ▸ DK ht))
    rw[td]at hcn
    refine aj hcn ?_
    cases told d<;>simp only[re,↓zq,zs,ae,zt]<;>exact⟨rfl,rfl⟩
end Go.Proofs.Trees
namespace Go.Proofs.Trees
open Go Go.VL Go.RowKit
def vT(n:Nat):Vl->Ty->Bool
 | .u,.one=>true
 | .el k,.name _=>decide (k<n)
 | .l w,.plus a _=>vT n w a
 | .r w,.plus _ b=>vT n w b
 | .p x y,.times a b=>vT n x a&&vT n y b
 | .f w,.rc a=>vT n w (dH (.rc a) a 0)
 |_,_=>false
def cls(us:List Ty):Ty->Nat->Ty
 | .bound k,i=>if k<i then .bound k else us.getD (k-i) .zero
 | .plus a b,i=>.plus (cls us a i) (cls us b i)
 | .times a b,i=>.times (cls us a i) (cls us b i)
 | .rc a,i=>.rc (cls us a (i+1))
 |t,_=>t
def zO:List Fr->List Ty
 |[]=>[]
 |f::r=>cls (zO r) (Ai f.ex r) 0::zO r
theorem mU(u:Ty):∀(t:Ty) {i:Nat},j6 t i->dH u t i=t
 | .bound k,i,h=>by simp only[dH];rw[if_neg (by have:k<i:=h;omega)]
 | .plus a b,i,h=>by simp only[dH];rw[mU u a h.1,mU u b h.2]
 | .times a b,i,h=>by simp only[dH];rw[mU u a h.1,mU u b h.2]
 | .rc a,i,h=>by simp only[dH];rw[mU u a (i:=i+1) h]
 | .zero,_,_=>rfl
 | .one,_,_=>rfl
 | .name _,_,_=>rfl
theorem qV(us:List Ty):∀(t:Ty) {i:Nat},j6 t i->cls us t i=t
 | .bound k,i,h=>by simp only[cls];rw[if_pos (by have:k<i:=h;omega)]
 | .plus a b,i,h=>by simp only[cls];rw[qV us a h.1,qV us b h.2]
 | .times a b,i,h=>by simp only[cls];rw[qV us a h.1,qV us b h.2]
 | .rc a,i,h=>by simp only[cls];rw[qV us a (i:=i+1) h]
 | .zero,_,_=>rfl
 | .one,_,_=>rfl
 | .name _,_,_=>rfl
theorem z7{us:List Ty}(hu:∀u,u∈us->j6 u 0)(k:Nat):j6 (us.getD k .zero) 0:=by
 by_cases h:k<us.length
 ·rw[aa,bp h];exact hu _ (bn h)
 ·rw[aa,List.getElem?_eq_none (by omega)];trivial
theorem qY{us:List Ty}(hu:∀u,u∈us->j6 u 0):∀(t:Ty) (i:Nat),j6 (cls us t i) i
 |
  .bound k,i=>by
  simp only[cls]
  split
  ·rename_i h;exact h
  ·exact hZ _ (z7 hu _) (dQ _)
 | .plus a b,i=>⟨qY hu a i,qY hu b i⟩
 | .times a b,i=>⟨qY hu a i,qY hu b i⟩
 | .rc a,i=>qY hu a (i+1)
 | .zero,_=>trivial
 | .one,_=>trivial
 | .name _,_=>trivial
theorem oh{us:List Ty}(hu:∀u,u∈us->j6 u 0)(U:Ty):∀(t:Ty) (i:Nat),dH U (cls us t (i+1)) i=cls (U::us) t i
 |
  .bound k,i=>by
  simp only[cls]
  by_cases h1:k<i
  ·rw[if_pos (by omega),if_pos h1];simp only[dH];rw[if_neg (by omega)]
  ·rw[if_neg h1]
   by_cases h2:k=i
   ·subst h2;rw[if_pos (by omega)];simp[dH]
   ·rw[if_neg (by omega),mU U _ (hZ _ (z7 hu _) (dQ _)),show k-i=(k-(i+1))+1 by omega,List.getD_cons_succ]
 | .plus a b,i=>by simp only[cls,dH];rw[oh hu U a i,oh hu U b i]
 | .times a b,i=>by simp only[cls,dH];rw[oh hu U a i,oh hu U b i]
 | .rc a,i=>by simp only[cls,dH];rw[oh hu U a (i+1)]
 | .zero,_=>rfl
 | .one,_=>rfl
 | .name _,_=>rfl
theorem yk:∀env:List Fr,∀u,u∈zO env->j6 u 0
 |[],u,h=>by cases h
 |
  f::r,u,h=>by
  rcases aI.1 h with rfl|h
  ·exact qY (yk r) _ 0
  ·exact yk r u h
theorem EE{env:List Fr}(h:WF env):∀{u:Nat} {g:Fr},env[u]?=some g->(zO env).getD u .zero=cls (zO g.out) (Ai g.ex g.out) 0:=by
 induction h with
 |nil=>intro u g hg;simp at hg
 |
  cons hs hok hx ht hf hr ih =>
  intro u g hg
  cases u with
  |zero=>simp at hg;subst hg;rfl
  |
   succ u =>
   have:=ih (u:=u) (g:=g) (by simpa using hg)
   simpa[zO]using this
theorem qZ(n:Nat):∀(m:Nat) (v:Vl),v.nodes<=m->∀(e:E) (env:List Fr) (t:Ty),Ask e env t->eS n v (e,env)=vT n v (cls (zO env) t 0)
 |0,v,hm=>by have:=cB v;omega
 |
  m+1,v,hm=>by
  intro e env t A
  have recCase:∀(x a b:E) (env:List Fr) (t1:Ty),Ask (.list [x,a,b]) env (.rc t1)->x.at=[114,101,99]->eS n v (.list [x,a,b],env)=vT n v (cls (zO env) (.rc t1) 0):=by
   intro x a b env t1 A hx
   have hhd:hd (.list [x,a,b]) env=(.list [x,a,b],env):=qJ A.wf
   obtain⟨t1',he1,h1,f1,hw1⟩:=j0 A.wf A.ok hx A.ty A.cl
   cases he1
   obtain⟨ok1,ok2,ok3,_⟩:=A.ok
   have A':Ask b (.mk a.at (.list [x,a,b]) env::env) t1:=⟨ok3,hw1,h1,f1⟩
   cases v with
   |
    f w =>
    simp only[Vl.nodes]at hm
    simp only[eS,hhd,hx,beq_self_eq_true,cb]
    rw[qZ n m w (by omega) b _ t1 A']
    have hty:Ai (.list [x,a,b]) env=.rc t1:=by unfold Ai;rw[A.ty];rfl
    show vT n w (cls (cls (zO env) (Ai (.list [x,a,b]) env) 0::zO env) t1 0)=vT n w (dH (.rc (cls (zO env) t1 1)) (cls (zO env) t1 1) 0)
    rw[hty,oh (yk env)]
    rfl
   |_=>simp[eS,hhd,hx,cls,vT]
  rcases gZ A.wf A.ty with⟨hb,hq⟩|⟨u,g,rfl,hq,hu⟩
  ·have hhd:hd e env=(e,env):=lh hq
   rcases ga A.ty hb A.cl with⟨rfl,rfl⟩|⟨rfl,rfl⟩|⟨s,rfl,rfl,hp,h0,h1⟩|⟨x,a,b,t1,t2,rfl,hx,rfl,ha,hbb⟩|⟨x,a,b,t1,t2,rfl,hx,rfl,ha,hbb⟩|⟨x,a,b,t1,rfl,hx,rfl⟩
   ·have hp0:iw [48]=false:=rfl
    cases v<;>simp[eS,hhd,cls,vT,hp0]
   ·cases v<;>simp[eS,hhd,cls,vT]
   ·cases v<;>simp[eS,hhd,cls,vT,hp,h1]
   ·obtain⟨ok1,ok2,ok3,_⟩:=A.ok
    obtain⟨f1,f2⟩:=fP A.cl
    cases v with
    |
     l w =>
     simp only[Vl.nodes]at hm
     simp only[eS,hhd,hx,beq_self_eq_true,cb,cls,vT]
     exact qZ n m w (by omega) a env t1 ⟨ok2,A.wf,ha,f1⟩
    |
     r w =>
     simp only[Vl.nodes]at hm
     simp only[eS,hhd,hx,beq_self_eq_true,cb,cls,vT]
     exact qZ n m w (by omega) b env t2 ⟨ok3,A.wf,hbb,f2⟩
    |_=>simp[eS,hhd,hx,cls,vT]
   ·obtain⟨ok1,ok2,ok3,_⟩:=A.ok
    obtain⟨f1,f2⟩:=fE A.cl
    cases v with
    |
     p w w' =>
     simp only[Vl.nodes]at hm
     simp only[eS,hhd,hx,beq_self_eq_true,cb,cls,vT]
     rw[qZ n m w (by omega) a env t1 ⟨ok2,A.wf,ha,f1⟩,qZ n m w' (by omega) b env t2 ⟨ok3,A.wf,hbb,f2⟩]
    |_=>simp[eS,hhd,hx,cls,vT]
   ·exact recCase x a b env t1 A hx
  ·obtain⟨x,a,b,t',hfe,hok,hx,ht',hf',hwf,hlt⟩:=qe A.wf hq
   have hrec:hd g.ex g.out=(g.ex,g.out):=by rw[hfe];exact qJ hwf
   rw[ve n v (sk hq) hrec]
   have hcl:cls (zO env) (.bound u) 0=cls (zO g.out) (Ai g.ex g.out) 0:=by
    simp only[cls];rw[if_neg (by omega),Nat.sub_zero];exact EE A.wf hu
   rw[hcl]
   have hty:Ai g.ex g.out=t':=by unfold Ai;rw[ht'];rfl
   rw[hty,hfe]
   rw[hfe]at ht'
   obtain⟨t1,_,_,rfl⟩:=dK hx ht'
   exact recCase x a b g.out t1 ⟨hok,hwf,ht',hf'⟩ hx
theorem oq{n:Nat}{v:Vl}{e:E}{t:Ty}(A:Ask e [] t):eS n v (e,[])=vT n v t:=by
 have:=qZ n v.nodes v (au _) e [] t A
 rw[this]
 obtain⟨w,ht⟩:=lD e [] t A.ok (fun w hw=>by cases hw) A.ty
 have hl:=vJ w []
 rw[ht]at hl
 exact congrArg (vT n v) (qV _ t hl)
def fu(σ:Nm->Option Ty):Ty->Ty
 | .name s=>(σ s).getD (.name s)
 | .plus a b=>.plus (fu σ a) (fu σ b)
 | .times a b=>.times (fu σ a) (fu σ b)
 | .rc a=>.rc (fu σ a)
 |t=>t
def jF(σ:Nm->Option Ty)(x:Nm)(u:Ty):Nm->Option Ty:=fun s=>if s=x then some u else σ s
theorem iY(σ:Nm->Option Ty)(x:Nm)(u:Ty):∀t:Ty,fu σ (sub x u t)=fu (jF σ x (fu σ u)) t
 |
  .name s=>by
  by_cases h:s=x
  ·simp[sub,fu,jF,h]
  ·simp[sub,fu,jF,h]
 | .plus a b=>by simp only[sub,fu,iY σ x u a,iY σ x u b]
 | .times a b=>by simp only[sub,fu,iY σ x u a,iY σ x u b]
 | .rc a=>by simp only[sub,fu,iY σ x u a]
 | .zero=>rfl
 | .one=>rfl
 | .bound k=>rfl
def Et(σ:Nm->Option Ty):Prop:=∀s u,σ s=some u->j6 u 0
theorem kF{σ:Nm->Option Ty}(hσ:Et σ):∀(t:Ty) {i:Nat},j6 t i->j6 (fu σ t) i
 |
  .name s,i,_=>by
  simp only[fu]
  cases q:σ s with
  |none=>trivial
  |some u=>exact hZ u (hσ s u q) (dQ _)
 | .plus a b,i,h=>⟨kF hσ a h.1,kF hσ b h.2⟩
 | .times a b,i,h=>⟨kF hσ a h.1,kF hσ b h.2⟩
 | .rc a,i,h=>kF hσ a (i:=i+1) h
 | .zero,_,_=>trivial
 | .one,_,_=>trivial
 | .bound k,_,h=>h
theorem kl{σ:Nm->Option Ty}(hσ:Et σ)(x:Nm)(U:Ty):∀(t:Ty) (i:Nat),bz x t=false->fu (jF σ x U) (dH (.name x) t i)=dH U (fu σ t) i
 |
  .name s,i,h=>by
  have hs:s≠x:=by simpa[bz]using h
  simp only[dH,fu,jF,if_neg hs]
  cases q:σ s with
  |none=>rfl
  |some u=>exact(mU U u (hZ u (hσ s u q) (dQ _))).symm
 |
  .bound k,i,h=>by
  simp only[dH,fu]
  split
  ·simp[fu,jF]
  ·rfl
 |
  .plus a b,i,h=>by
  simp only[bz,ct]at h
  simp only[dH,fu,kl hσ x U a i h.1,kl hσ x U b i h.2]
 |
  .times a b,i,h=>by
  simp only[bz,ct]at h
  simp only[dH,fu,kl hσ x U a i h.1,kl hσ x U b i h.2]
 | .rc a,i,h=>by simp only[dH,fu,kl hσ x U a (i+1) h]
 | .zero,_,_=>rfl
 | .one,_,_=>rfl
theorem mQ{σ:Nm->Option Ty}(hσ:Et σ)(x:Nm){u:Ty}(hu:j6 u 0):Et (jF σ x u):=fun s v h=>by
 unfold jF at h
 split at h
 ·cases h;exact hu
 ·exact hσ s v h
theorem jO(x:Nm):∀(n:Nat) (c:Vl) (t:Ty) (i:Nat),c.nodes<=n->dE (dH (.name x) t i) c=dE t c
 |0,c,_,_,h=>by have:=cB c;omega
 |
  n+1,c,t,i,hn=>by
  cases t with
  |bound k=>simp only[dH];split<;>(cases c<;>rfl)
  |
   plus a b =>
   cases c with
   |l c=>simp only[Vl.nodes]at hn;exact jO x n c a i (by omega)
   |r c=>simp only[Vl.nodes]at hn;exact jO x n c b i (by omega)
   |_=>rfl
  |
   times a b =>
   cases c with
   |
    l c =>
    cases c with
    |p y z=>simp only[Vl.nodes]at hn;exact jO x n y a i (by omega)
    |_=>rfl
   |
    r c =>
    cases c with
    |p y z=>simp only[Vl.nodes]at hn;exact jO x n z b i (by omega)
    |_=>rfl
   |_=>rfl
  |
   rc a =>
   cases c with
   |
    f c =>
    cases c with
    |l y=>simp only[Vl.nodes]at hn;exact jO x n y a (i+1) (by omega)
    |
     r c =>
     cases c with
     |
      p y z =>
      simp only[Vl.nodes]at hn
      have h1:=jO x n y a (i+1) (by omega)
      have h2:=jO x n z (.rc a) i (by omega)
      show (dE (dH (.name x) a (i+1)) y&&dE (.rc (dH (.name x) a (i+1))) z)=(dE a y&&dE (.rc a) z)
      rw[h1]
      exact congrArg _ h2
     |_=>rfl
    |_=>rfl
   |_=>rfl
  |_=>rfl
end Go.Proofs.Trees
namespace Go.Proofs.Trees
open Go Go.VL Go.RowKit
theorem dZ(x:Nm):∀(n:Nat) (c:Vl) (t:Ty) (i:Nat) (v:Vl),c.nodes<=n->cx (dH (.name x) t i) c v=cx t c v
 |0,c,_,_,_,h=>by have:=cB c;omega
 |
  n+1,c,t,i,v,hn=>by
  cases t with
  |bound k=>simp only[dH];split<;>(cases c<;>rfl)
  |
   plus a b =>
   cases c with
   |l c=>simp only[Vl.nodes]at hn;exact congrArg Vl.l (dZ x n c a i v (by omega))
   |r c=>simp only[Vl.nodes]at hn;exact congrArg Vl.r (dZ x n c b i v (by omega))
   |_=>rfl
  |
   times a b =>
   cases c with
   |
    l c =>
    cases c with
    |p y z=>simp only[Vl.nodes]at hn;exact congrArg (fun q=>Vl.p q z) (dZ x n y a i v (by omega))
    |_=>rfl
   |
    r c =>
    cases c with
    |p y z=>simp only[Vl.nodes]at hn;exact congrArg (Vl.p y) (dZ x n z b i v (by omega))
    |_=>rfl
   |_=>rfl
  |
   rc a =>
   cases c with
   |
    f c =>
    cases c with
    |l y=>simp only[Vl.nodes]at hn;exact congrArg Vl.f (dZ x n y a (i+1) v (by omega))
    |
     r c =>
     cases c with
     |
      p y z =>
      simp only[Vl.nodes]at hn
      have h2:=dZ x n z (.rc a) i v (by omega)
      have h1:=dZ x n y a (i+1) (cx (.rc a) z v) (by omega)
      show Vl.f (cx (dH (.name x) a (i+1)) y (cx (.rc (dH (.name x) a (i+1))) z v))=Vl.f (cx a y (cx (.rc a) z v))
      have h3:cx (.rc (dH (.name x) a (i+1))) z v=cx (.rc a) z v:=h2
      rw[h3,h1]
     |_=>rfl
    |_=>rfl
   |_=>rfl
  |_=>rfl
theorem Em{n:Nat}{c:Vl}{a:Ty}(h:vT n c (.rc a)=true):∃w,c=.f w/\vT n w (dH (.rc a) a 0)=true:=by
 cases c with
 |f w=>exact⟨w,rfl,h⟩
 |_=>simp[vT]at h
theorem jT{n:Nat}{c:Vl}{a b:Ty}(h:vT n c (.plus a b)=true):(∃w,c=.l w/\vT n w a=true)\/∃w,c=.r w/\vT n w b=true:=by
 cases c with
 |l w=>exact .inl ⟨w,rfl,h⟩
 |r w=>exact .inr ⟨w,rfl,h⟩
 |_=>simp[vT]at h
theorem gW{n:Nat}{c:Vl}{a b:Ty}(h:vT n c (.times a b)=true):∃x y,c=.p x y/\vT n x a=true/\vT n y b=true:=by
 cases c with
 |p x y=>simp only[vT,aA]at h;exact⟨x,y,rfl,h.1,h.2⟩
 |_=>simp[vT]at h
theorem pD{σ:Nm->Option Ty}(hσ:Et σ){a c d:Ty}{x:Nm}(ha:j6 (.rc a) 0)(hc:j6 c 0)(hd:j6 d 0):∃X,fu σ (qN a x c d)=.rc X/\dH (.rc X) X 0=.plus (fu (jF σ x (fu σ (.rc a))) c) (.times (fu (jF σ x (fu σ (.rc a))) d) (fu σ (qN a x c d))):=by
 refine⟨.plus (fu σ (sub x (.rc a) c)) (.times (fu σ (sub x (.rc a) d)) (.bound 0)),rfl,?_⟩
 have h1:=kF hσ (sub x (.rc a) c) (lK ha c hc)
 have h2:=kF hσ (sub x (.rc a) d) (lK ha d hd)
 simp only[dH,mU _ _ h1,mU _ _ h2,if_true]
 rw[iY,iY]
 simp only[qN,fu,iY]
theorem xi(n:Nat):∀(m:Nat) (c:Vl),c.nodes<=m->∀(t:Ty) (s:Nm) (d:Ty) (σ:Nm->Option Ty),Dv t s d->Et σ->j6 t 0->vT n c (fu σ d)=true->dE t c=true
 |0,c,h=>by have:=cB c;omega
 |
  m+1,c,hm=>by
  intro t s d σ hd hσ hl hv
  cases hd with
  |zero=>cases c<;>rfl
  |one=>cases c<;>rfl
  |bound=>cases c<;>rfl
  |hit=>cases c<;>rfl
  |rK=>cases c<;>rfl
  |
   plus h1 h2 _ =>
   rcases jT hv with⟨w,rfl,hw⟩|⟨w,rfl,hw⟩
   ·simp only[Vl.nodes]at hm;exact xi n m w (by omega) _ s _ σ h1 hσ hl.1 hw
   ·simp only[Vl.nodes]at hm;exact xi n m w (by omega) _ s _ σ h2 hσ hl.2 hw
  |
   times h1 h2 _ =>
   rcases jT hv with⟨w,rfl,hw⟩|⟨w,rfl,hw⟩
   ·obtain⟨x,y,rfl,hx,hy⟩:=gW hw
    simp only[Vl.nodes]at hm;exact xi n m x (by omega) _ s _ σ h1 hσ hl.1 hx
   ·obtain⟨x,y,rfl,hx,hy⟩:=gW hw
    simp only[Vl.nodes]at hm;exact xi n m y (by omega) _ s _ σ h2 hσ hl.2 hy
  |
   @rc a _ c0 d0 x hx hs h1 h2 hsz =>
   have lo:j6 (dH (.name x) a 0) 0:=il x a hl
   obtain⟨X,e1,e2⟩:=pD (x:=x) hσ hl (h1.lc lo) (h2.lc lo)
   have hv':=hv
   rw[e1]at hv'
   obtain⟨w,rfl,hw⟩:=Em hv'
   rw[e2]at hw
   have hcl:=mQ hσ x (kF hσ (.rc a) hl)
   rcases jT hw with⟨y,rfl,hy⟩|⟨y,rfl,hy⟩
   ·simp only[Vl.nodes]at hm
    have:=xi n m y (by omega) _ s _ _ h1 hcl lo hy
    rw[jO x y.nodes y a 0 (au _)]at this
    exact this
   ·obtain⟨y,z,rfl,hy,hz⟩:=gW hy
    simp only[Vl.nodes]at hm
    have q1:=xi n m y (by omega) _ x _ _ h2 hcl lo hy
    rw[jO x y.nodes y a 0 (au _)]at q1
    have q2:=xi n m z (by omega) (.rc a) s _ σ (.rc x hx hs h1 h2 hsz) hσ hl hz
    show (dE a y&&dE (.rc a) z)=true
    rw[q1,q2];rfl
theorem rA(n:Nat):∀(m:Nat) (c:Vl),c.nodes<=m->∀(t:Ty) (s:Nm) (d:Ty) (σ:Nm->Option Ty),Dv t s d->Et σ->j6 t 0->vT n c (fu σ d)=true->∀v,vT n v (fu σ (.name s))=true->vT n (cx t c v) (fu σ t)=true
 |0,c,h=>by have:=cB c;omega
 |
  m+1,c,hm=>by
  intro t s d σ hd hσ hl hv v hvv
  have no:∀c,vT n c .zero=false:=fun c=>by cases c<;>rfl
  cases hd with
  |zero=>rw[show fu σ .zero=.zero from rfl,no]at hv;cases hv
  |one=>rw[show fu σ .zero=.zero from rfl,no]at hv;cases hv
  |bound=>rw[show fu σ .zero=.zero from rfl,no]at hv;cases hv
  |rK=>rw[show fu σ .zero=.zero from rfl,no]at hv;cases hv
  |hit=>rw[kq];exact hvv
  |
   plus h1 h2 _ =>
   rcases jT hv with⟨w,rfl,hw⟩|⟨w,rfl,hw⟩
   ·simp only[Vl.nodes]at hm;exact rA n m w (by omega) _ s _ σ h1 hσ hl.1 hw v hvv
   ·simp only[Vl.nodes]at hm;exact rA n m w (by omega) _ s _ σ h2 hσ hl.2 hw v hvv
  |
   times h1 h2 _ =>
   rcases jT hv with⟨w,rfl,hw⟩|⟨w,rfl,hw⟩
   ·obtain⟨x,y,rfl,hx,hy⟩:=gW hw
    simp only[Vl.nodes]at hm
    have:=rA n m x (by omega) _ s _ σ h1 hσ hl.1 hx v hvv
    show (vT n _ _&&vT n _ _)=true
    rw[this,hy];rfl
   ·obtain⟨x,y,rfl,hx,hy⟩:=gW hw
    simp only[Vl.nodes]at hm
    have:=rA n m y (by omega) _ s _ σ h2 hσ hl.2 hy v hvv
    show (vT n _ _&&vT n _ _)=true
    rw[this,hx];rfl
  |
   @rc a _ c0 d0 x hx hs h1 h2 hsz =>
   have lo:j6 (dH (.name x) a 0) 0:=il x a hl
   obtain⟨X,e1,e2⟩:=pD (x:=x) hσ hl (h1.lc lo) (h2.lc lo)
   have hv':=hv
   rw[e1]at hv'
   obtain⟨w,rfl,hw⟩:=Em hv'
   rw[e2]at hw
   have hcl:=mQ hσ x (kF hσ (.rc a) hl)
   have hop:fu (jF σ x (fu σ (.rc a))) (dH (.name x) a 0)=dH (fu σ (.rc a)) (fu σ a) 0:=kl hσ x _ a 0 hx
   have hns:fu (jF σ x (fu σ (.rc a))) (.name s)=fu σ (.name s):=by simp only[fu,jF,if_neg (Ne.symm hs)]
   have hnx:fu (jF σ x (fu σ (.rc a))) (.name x)=fu σ (.rc a):=by simp[fu,jF]
   rcases jT hw with⟨y,rfl,hy⟩|⟨y,rfl,hy⟩
   ·simp only[Vl.nodes]at hm
    have:=rA n m y (by omega) _ s _ _ h1 hcl lo hy v (by rw[hns];exact hvv)
    rw[hop,dZ x y.nodes y a 0 v (au _)]at this
    exact this
   ·obtain⟨y,z,rfl,hy,hz⟩:=gW hy
    simp only[Vl.nodes]at hm
    have q2:=rA n m z (by omega) (.rc a) s _ σ (.rc x hx hs h1 h2 hsz) hσ hl hz v hvv
    have q1:=rA n m y (by omega) _ x _ _ h2 hcl lo hy (cx (.rc a) z v) (by rw[hnx];exact q2)
    rw[hop,dZ x y.nodes y a 0 _ (au _)]at q1
    exact q1
def Gh:Nm->Option Ty:=fun _=>none
theorem s3:Et Gh:=fun _ _ h=>by cases h
theorem jI:∀t:Ty,fu Gh t=t
 | .name s=>rfl
 | .plus a b=>by simp only[fu,jI a,jI b]
 | .times a b=>by simp only[fu,jI a,jI b]
 | .rc a=>by simp only[fu,jI a]
 | .zero=>rfl
 | .one=>rfl
 | .bound k=>rfl
theorem Js{n:Nat}{a D:Ty}{x:Nm}(hx:bz x a=false)(hl:j6 (.rc a) 0)(h:pz a x=some D){c:Vl}(hc:vT n c D=true) :
 dE a c=true/\∀v,vT n v (.rc a)=true->vT n (.f (cx a c v)) (.rc a)=true:=by
 simp only[pz,aW,cX,fq]at h
 obtain⟨d,hd,_,rfl⟩:=h
 have lo:j6 (dH (.name x) a 0) 0:=il x a hl
 have hcl:=mQ s3 x hl
 have e1:sub x (.rc a) d=fu (jF Gh x (.rc a)) d:=by
  have:=iY Gh x (.rc a) d
  rw[jI,jI]at this;exact this
 rw[e1]at hc
 have h1:=xi n c.nodes c (au _) _ x _ _ hd hcl lo hc
 rw[jO x c.nodes c a 0 (au _)]at h1
 refine⟨h1,fun v hv=>?_⟩
 have h2:=rA n c.nodes c (au _) _ x _ _ hd hcl lo hc v (by simpa[fu,jF]using hv)
 rw[dZ x c.nodes c a 0 v (au _),kl s3 x _ a 0 hx,jI]at h2
 exact h2
end Go.Proofs.Trees
namespace Go.Proofs.Trees
open Go Go.VL Go.RowKit
theorem Kg{b:UInt8}(h:iP b=true):fF b=true:=by
 simp only[iP,fF,decide_eq_true_eq]at h |-;omega
theorem Gk{y:Nm}(h:M6 y):y≠[]/\y.all fF=true:=by
 have key:∀lo hi,97<=lo->hi<=122->named lo hi y=true->y≠[]/\y.all fF=true:=fun lo hi h1 h2 h=>by
  cases y with
  |nil=>cases h
  |
   cons c r =>
   simp only[named,aA,decide_eq_true_eq]at h
   refine⟨by simp,?_⟩
   rw[dj,aA]
   refine⟨?_,?_⟩
   ·simp only[fF,decide_eq_true_eq];omega
   ·rw[cd]
    intro b hb
    exact Kg (cd.1 h.2 b hb)
 rcases h with h|h
 ·exact key 120 122 (by omega) (by omega) h
 ·exact key 116 116 (by omega) (by omega) h
theorem C3(m:Nat):(tN m).all fF=true:=by
 rw[dj,xT (m+1) m (by omega)];rfl
theorem qG(F:List Nm):∀(t:Ty) (to:List Nm) (k:Nat),(∀y,bz y t=true->y≠[]/\y.all fF=true)->(∀w,w∈to->w≠[]/\w.all fF=true)->j6 t to.length->(iL F t to k).1.pr
 | .zero,_,_,_,_,_=>⟨by simp,by decide⟩
 | .one,_,_,_,_,_=>⟨by simp,by decide⟩
 | .name s,_,_,hn,_,_=>hn s (by simp[bz])
 |
  .bound u,to,_,_,ht,hl=>by
  have:to.length-1-u<to.length:=by have:u<to.length:=hl;omega
  show (E.atom (gR to u)).pr
  unfold gR
  rw[aa,bp this]
  exact ht _ (bn this)
 | .plus a b,to,k,hn,ht,hl=>⟨by simp,⟨by simp,by decide⟩,qG F a to k (fun y hy=>hn y (by simp[bz,hy])) ht hl.1,qG F b to _ (fun y hy=>hn y (by simp[bz,hy])) ht hl.2,trivial⟩
 | .times a b,to,k,hn,ht,hl=>⟨by simp,⟨by simp,by decide⟩,qG F a to k (fun y hy=>hn y (by simp[bz,hy])) ht hl.1,qG F b to _ (fun y hy=>hn y (by simp[bz,hy])) ht hl.2,trivial⟩
 |
  .rc a,to,k,hn,ht,hl=>by
  refine⟨by simp,⟨by simp,by decide⟩,⟨by simp,C3 _⟩,qG F a (to++[tN (nx F k)]) _ hn (fun w hw=>?_) (by rw[an];exact hl),trivial⟩
  rcases aO.1 hw with hw|hw
  ·exact ht w hw
  ·simp only[aT]at hw;rw[hw];exact⟨by simp,C3 _⟩
theorem BE{D:Ty}{dt:Nm}(g:gy D)(hn:∀y,bz y D=true->M6 y)(h:told D=some dt):sr dt=some D:=by
 unfold told at h
 split at h
 ·rename_i hh
  cases h
  obtain⟨t,ht⟩:=bb.1 hh.2
  obtain⟨e,he,hw,hte,_,_⟩:=oU ht
  obtain⟨h1,_,_⟩:=qK he
  obtain⟨hx,hpr,_⟩:=zy h1
  obtain⟨w1,w2,_⟩:=lI (bS D []) D [] 0 (.nil _ _) g.1 fun y hy=>⟨(fp D [] y).2 (.inr hy),g.2 y hy⟩
  have hp:=qG (bS D []) D [] 0 (fun y hy=>Gk (hn y hy)) (fun w hw=>by cases hw) g.1
  have:=Ct hp hpr hx
  rw[ht,<-hte,<-this,w2]
 ·cases h
theorem uV{a d:Ty}{x:Nm}(h:pz a x=some d):∀y,bz y d=true->bz y a=true:=by
 simp only[pz,aW,cX,fq]at h
 obtain⟨d',h1,_,rfl⟩:=h
 intro y hy
 rcases jN _ hy with h|⟨h,h'⟩
 ·exact h
 ·rcases ic a 0 (h1.names y h')with e|e
  ·exact absurd e h
  ·exact e
structure ZT(s d:Nm)(a:Ty)(x A B:E)(D:Ty):Prop where
 l:gD s=some a
 ce:kh s=some (.list [x,A,B])
 ask:Ask (.list [x,A,B]) [] (.rc a)
 hx:x.at=[114,101,99]
 body:Ask B [.mk A.at (.list [x,A,B]) []] a
 dl:cP s=some d
 y:sr s=some (.rc a)
 lp:pz a m9=some D
 bk:sr d=some D
theorem vU{s:Nm}{t:Ty}(h:yN s=some t):sr s=some t:=by
 unfold yN at h
 split at h
 ·cases h
 ·rename_i u hu
  split at h
  ·cases h;exact hu
  ·cases h
theorem ZT.of{s d:Nm}{a:Ty}(hl:gD s=some a)(hd:cP s=some d):∃x A B D,ZT s d a x A B D:=by
 have hc:=vI hl
 cases hce:kh s with
 |none=>rw[n8 hce]at hc;cases hc
 |
  some e =>
  obtain⟨t,h1,hA,_⟩:=iJ hce
  rw[hc]at h1;cases h1
  obtain⟨x,A,B,rfl,hx,hA',hB⟩:=uP hA
  have hy:=vU hc
  have hd':=hd
  unfold cP at hd'
  rw[hy]at hd'
  obtain⟨D,h2,h3⟩:=aW.1 hd'
  obtain⟨e2,he2,hw2,hte2,_,_⟩:=oU hy
  have hg:=s4 hw2 hte2 (x:=m9) ⟨by simp,by simp,by simp⟩ h2
  exact⟨x,A,B,D,hl,hce,hA,hx,hB,hd,hy,h2,BE hg.1 (fun y hy'=>oc hy y (uV h2 y hy')) h3⟩
structure Cx(a:Ty)(w:Vl):Prop where
 ok:dE a w=true
 ty:∀v,vT 100 v (.rc a)=true->vT 100 (.f (cx a w v)) (.rc a)=true
 fy:w.fy 100
 nd:w.nodes<=200
structure Fo(a:Ty)(v:Vl):Prop where
 ty:vT 100 v (.rc a)=true
 fy:v.fy 100
 nd:v.nodes<=200
theorem ZT.ctx{s d:Nm}{a:Ty}{x A B:E}{D:Ty}(z:ZT s d a x A B D){c:Nm}{w:Vl}(h:mn d c 100=some w):Cx a w:=by
 obtain⟨e,t,m,h1,h2,h3,h4,h5,h6,h7⟩:=qw h
 have hm:m=100:=by omega
 subst hm
 have:=vU h3
 rw[z.bk]at this;cases this
 rw[oq h4]at h7
 obtain⟨e2,he2,hw2,hte2,_,_⟩:=oU z.y
 have hlc:j6 (.rc a) 0:=hte2 ▸ hw2.rO.1
 obtain⟨q1,q2⟩:=Js (vy z.y) hlc z.lp h7
 exact⟨q1,q2,(mA h2).2.1,(mA h2).2.2⟩
theorem ZT.nH{s d:Nm}{a:Ty}{x A B:E}{D:Ty}(z:ZT s d a x A B D){f:Nm}{v:Vl}(h:gA s f=some v):Fo a v/\f=v.cf:=by
 obtain⟨a',x',A',B',L⟩:=iM h
 have:=L.l
 rw[z.l]at this;cases this
 exact⟨⟨by rw[<-oq L.ask];exact L.eS,L.fy,L.nodes⟩,su L.v⟩
theorem Fo.eS{s d:Nm}{a:Ty}{x A B:E}{D:Ty}(z:ZT s d a x A B D){v:Vl}(h:Fo a v):eS 100 v (.list [x,A,B],[])=true:=by rw[oq z.ask];exact h.ty
theorem ZT.cf{s d:Nm}{a:Ty}{x A B:E}{D:Ty}(z:ZT s d a x A B D){w:Vl}(hb:w.fy 100)(hv:vT 100 w (.rc a)=true):mn s w.cf 100=if w.nodes<=200 then some w else none:=by
 unfold mn
 rw[z.ce]
 by_cases hn:w.nodes<=200
 ·rw[sg hb hn,if_pos hn]
  simp only
  rw[if_pos ⟨by omega,by rw[show (100:Int).toNat=100 from rfl,oq z.ask];exact hv⟩]
 ·rw[if_neg hn]
  cases q:rM w.cf with
  |none=>rfl
  |
   some w' =>
   exfalso
   obtain⟨_,h2,h3⟩:=mA q
   have:=n0 hb h2 (su q)
   rw[this]at hn;exact hn h3
theorem ZT.lv{s d:Nm}{a:Ty}{x A B:E}{D:Ty}(z:ZT s d a x A B D)(f:Nm):gA s f=mn s f 100:=by
 unfold gA;rw[z.l]
def eX(d:Nm):List Nm->Option (List Vl)
 |[]=>some []
 |
  c::r=>match mn d c 100,eX d r with
  |some w,some l=>some (w::l)
  |_,_=>none
theorem tE{s d:Nm}{a:Ty}{x A B:E}{D:Ty}(z:ZT s d a x A B D):∀(p:List Nm) (l:List Vl),eX d p=some l->p=l.map (·.cf)/\∀c,c∈l->Cx a c
 |[],l,h=>by cases h;exact⟨rfl,fun c hc=>by cases hc⟩
 |
  c::r,l,h=>by
  simp only[eX]at h
  split at h
  ·rename_i w l' h1 h2
   cases h
   obtain⟨q1,q2⟩:=tE z r l' h2
   obtain⟨_,_,_,_,hv,_⟩:=qw h1
   refine⟨by rw[bo,<-q1,<-su hv],fun c' hc'=>?_⟩
   rcases aI.1 hc' with rfl|hc'
   ·exact z.ctx h1
   ·exact q2 c' hc'
  ·cases h
theorem uw(d:Nm):∀(p q:List Nm),eX d (p++q)=(eX d p).bind fun l=>(eX d q).map (l++·)
 |[],q=>by cases h:eX d q<;>simp[eX,h]
 |
  c::p,q=>by
  simp only[bf,eX,uw d p q]
  cases mn d c 100 with
  |none=>rfl
  |
   some w =>
   cases eX d p with
   |none=>rfl
   |some l=>cases eX d q<;>rfl
noncomputable def tP (s:Nm) (p:List Nm) (f:Nm):Option (List Vl×Vl):=match gA s f,cP s with
 |some v,some d=>if p.length<=50 then(eX d p).map fun l=>(l,v)else none
 |_,_=>none
def zA(s:Nm):Ty:=(gD s).getD .zero
def rY(a:Ty)(l:List Vl)(v:Vl):Option (List Vl×Vl):=match l.getLast? with
 |none=>none
 |some c=>if(Vl.f (cx a c v)).nodes<=200 then some (l.dropLast,.f (cx a c v))else none
def iR:Nat->Ty->List Vl->Vl->Option Vl
 |0,_,_,v=>some v
 |n+1,a,l,v=>(rY a l v).bind fun r=>iR n a r.1 r.2
def qM(a:Ty)(l:List Vl)(v:Vl):Option Vl:=iR l.length a l v
noncomputable def gU (s:Nm) (p:List Nm) (f:Nm):Option (List Vl×Vl):=(tP s p f).bind fun r=>if(qM (zA s) r.1 r.2).isSome=true then some r else none
structure ZI(a:Ty)(l:List Vl)(v:Vl):Prop where
 ctx:∀c,c∈l->Cx a c
 nH:Fo a v
theorem tt{a:Ty}{l l':List Vl}{v w:Vl}(h:ZI a l v)(hu:rY a l v=some (l',w)):ZI a l' w/\l'.length+1=l.length/\∃c,l=l'++[c]/\w=.f (cx a c v):=by
 unfold rY at hu
 cases q:l.getLast? with
 |none=>rw[q]at hu;cases hu
 |
  some c =>
  rw[q]at hu
  simp only at hu
  split at hu
  ·rename_i hn
   cases hu
   have hne:l≠[]:=by rintro rfl;cases q
   have hl:l.dropLast++[c]=l:=by
    have:=List.dropLast_concat_getLast hne
    rw[List.getLast?_eq_some_getLast hne]at q
    cases q;exact this
   have hc:c∈l:=by rw[<-hl];simp
   have hC:=h.ctx c hc
   refine⟨⟨fun c' hc'=>h.ctx c' (by rw[<-hl];exact aD _ hc'),hC.ty v h.nH.ty,ny 100 a c v hC.fy h.nH.fy,hn⟩,?_,c,hl.symm,rfl⟩
   have:=congrArg List.length hl
   simpa using this
  ·cases hu
end Go.Proofs.Trees
namespace Go.Proofs.Trees
open Go Go.VL Go.RowKit
theorem yu(w:World)(k:Nat)(os:Array Obj):Below w.heap.size w (Go.«Sort».grow (w.drewN k) os):=by
 refine⟨rfl,rfl,rfl,?_,fun b hb=>?_⟩
 ·simp[Go.«Sort».grow,World.drewN]
 ·simp only[Go.«Sort».grow,World.drewN]
  rw[Array.getElem?_append_left hb]
theorem G7(k:Nat)(hk:k<1000000000):aq Tryz.prog 120 [.v (.int .i64 (k:Int))] [] (bP (.v (.string (mk (dd k))))):=by
 refine aq.Sx (xs:=[.int .i64 (k:Int)]) ⟨rR,by kernel_rfl,by kernel_rfl,by kernel_rfl⟩ fun w ht=>?_
 have:=Any.strconv_Itoa Tryz.DI (k:Int) (by omega) (by omega) w ht
 refine Calls.mono this fun e w' ⟨h1,n,os,h2⟩=>⟨?_,?_⟩
 ·rw[h1,Lib.itoa_nonneg];rfl
 ·rw[h2];exact yu w n os
abbrev hN(k:Nat):Nm:=35::dd k
theorem vE{j k:Nat}(h:hN j=hN k):j=k:=yb (j+1) j k (by omega) (List.cons.inj h).2
theorem yw(u:Ty):∀(t:Ty) (i:Nat),i+t.atoms<1000000->aq Tryz.prog 79 [t.av,u.av,.v (.int .i64 (i:Int))] [] (bP (dH u t i).av)
 |
  .zero,i,_=>by
  refine yO _ _ _ ((aF _).mpr trivial) ((aF _).mpr trivial) ?_
  simp[GX,Ty.av,dH,↓zq,zs,ae,bP]
 |
  .one,i,_=>by
  refine yO _ _ _ ((aF _).mpr trivial) ((aF _).mpr trivial) ?_
  simp[GX,Ty.av,dH,↓zq,zs,ae,bP]
 |
  .name s,i,_=>by
  refine yO _ _ _ ((aF _).mpr trivial) ((aF _).mpr trivial) ?_
  simp[GX,Ty.av,dH,↓zq,zs,ae,bP]
 |
  .bound k,i,_=>by
  refine yO _ _ _ ((aF _).mpr trivial) ((aF _).mpr trivial) ?_
  simp only[GX,Ty.av,dH,↓zq,zs,ae,bP]
  refine⟨by omega,fun _=>⟨by omega,fun h=>?_,fun h=>?_⟩,fun h=>absurd rfl h⟩
  ·rw[if_pos (by omega)]
  ·rw[if_neg (by omega)];rfl
 |
  .plus a b,i,hl=>by
  simp only[Ty.atoms]at hl
  refine yO _ _ _ ((aF _).mpr trivial) ((aF _).mpr trivial) ?_
  simp only[GX,Ty.av,dH,↓zq,zs,ae,aF]
  refine⟨by omega,fun h=>by omega,fun _=>⟨fun _=>?_,fun h=>absurd rfl h⟩⟩
  repeat refine⟨by omega,?_⟩
  refine aj (yw u a i (by omega)) ?_
  simp only[↓zq,zs,ae,aF]
  repeat refine⟨by omega,?_⟩
  refine aj (yw u b i (by omega)) ?_
  simp only[↓zq,zs,ae,aF]
  exact⟨rfl,rfl⟩
 |
  .times a b,i,hl=>by
  simp only[Ty.atoms]at hl
  refine yO _ _ _ ((aF _).mpr trivial) ((aF _).mpr trivial) ?_
  simp only[GX,Ty.av,dH,↓zq,zs,ae,aF]
  refine⟨by omega,fun h=>by omega,fun _=>⟨fun h=>by omega,fun _=>⟨fun _=>?_,fun h=>absurd rfl h⟩⟩⟩
  repeat refine⟨by omega,?_⟩
  refine aj (yw u a i (by omega)) ?_
  simp only[↓zq,zs,ae,aF]
  repeat refine⟨by omega,?_⟩
  refine aj (yw u b i (by omega)) ?_
  simp only[↓zq,zs,ae,aF]
  exact⟨rfl,rfl⟩
 |
  .rc a,i,hl=>by
  simp only[Ty.atoms]at hl
  refine yO _ _ _ ((aF _).mpr trivial) ((aF _).mpr trivial) ?_
  simp only[GX,Ty.av,dH,↓zq,zs,ae,aF]
  refine⟨by omega,fun h=>by omega,fun _=>⟨fun h=>by omega,fun _=>⟨fun h=>by omega,fun _=>⟨fun _=>?_,fun h=>absurd rfl h⟩⟩⟩⟩
  repeat refine⟨by omega,?_⟩
  rw[bD i (by omega)]
  refine aj (yw u a (i+1) (by omega)) ?_
  simp only[↓zq,zs,ae,aF]
  exact⟨rfl,rfl⟩
theorem Dg(x:Nm)(u:Ty):∀(t:Ty),aq Tryz.prog 80 [t.av,.v (.string (mk x)),u.av] [] (bP (sub x u t).av)
 |
  .zero=>by
  refine yU _ _ _ ((aF _).mpr trivial) ((aF _).mpr trivial) ?_
  simp[GS,Ty.av,sub,↓zq,zs,ae,bP]
 |
  .one=>by
  refine yU _ _ _ ((aF _).mpr trivial) ((aF _).mpr trivial) ?_
  simp[GS,Ty.av,sub,↓zq,zs,ae,bP]
 |
  .bound k=>by
  refine yU _ _ _ ((aF _).mpr trivial) ((aF _).mpr trivial) ?_
  simp[GS,Ty.av,sub,↓zq,zs,ae,bP]
 |
  .name s=>by
  refine yU _ _ _ ((aF _).mpr trivial) ((aF _).mpr trivial) ?_
  simp only[GS,Ty.av,sub,↓zq,zs,ae,zt,bP]
  refine⟨by omega,fun _=>⟨by omega,fun h=>?_,fun h=>?_⟩,fun h=>absurd rfl h⟩
  ·rw[if_pos h]
  ·rw[if_neg h];rfl
 |
  .plus a b=>by
  refine yU _ _ _ ((aF _).mpr trivial) ((aF _).mpr trivial) ?_
  simp only[GS,Ty.av,sub,↓zq,zs,ae,aF]
  refine⟨by omega,fun h=>by omega,fun _=>⟨fun _=>?_,fun h=>absurd rfl h⟩⟩
  repeat refine⟨by omega,?_⟩
  refine aj (Dg x u a) ?_
  simp only[↓zq,zs,ae,aF]
  repeat refine⟨by omega,?_⟩
  refine aj (Dg x u b) ?_
  simp only[↓zq,zs,ae,aF]
  exact⟨rfl,rfl⟩
 |
  .times a b=>by
  refine yU _ _ _ ((aF _).mpr trivial) ((aF _).mpr trivial) ?_
  simp only[GS,Ty.av,sub,↓zq,zs,ae,aF]
  refine⟨by omega,fun h=>by omega,fun _=>⟨fun h=>by omega,fun _=>⟨fun _=>?_,fun h=>absurd rfl h⟩⟩⟩
  repeat refine⟨by omega,?_⟩
  refine aj (Dg x u a) ?_
  simp only[↓zq,zs,ae,aF]
  repeat refine⟨by omega,?_⟩
  refine aj (Dg x u b) ?_
  simp only[↓zq,zs,ae,aF]
  exact⟨rfl,rfl⟩
 |
  .rc a=>by
  refine yU _ _ _ ((aF _).mpr trivial) ((aF _).mpr trivial) ?_
  simp only[GS,Ty.av,sub,↓zq,zs,ae,aF]
  refine⟨by omega,fun h=>by omega,fun _=>⟨fun h=>by omega,fun _=>⟨fun h=>by omega,fun _=>⟨fun _=>?_,fun h=>absurd rfl h⟩⟩⟩⟩
  repeat refine⟨by omega,?_⟩
  refine aj (Dg x u a) ?_
  simp only[↓zq,zs,ae,aF]
  exact⟨rfl,rfl⟩
theorem zn(c:Int)(a b:Ty):aq Tryz.prog 121 [.v (.int .u8 c),a.av,b.av] [] (bP (.ptr [.v (.int .u8 c),.v (.string (mk [])),.v (.int .i64 0),a.av,b.av])):=by
 refine TF _ _ _ ((aF _).mpr trivial) ((aF _).mpr trivial) ?_
 simp[Nj,↓zq,zs,ae,bP]
abbrev EZ(f:Nat)(g:Bool):Ob:=.cells [.v (.int .i64 (f:Int)),.v (.bool g)]
theorem ND(f:Nat)(g:Bool)(hf:f<100000000):aq Tryz.prog 76 [.ref 0 0] [EZ f g] (di (.v (.string (mk (hN (f+1))))) [EZ (f+1) g]):=by
 refine U5 _ _ ?_
 simp only[Mz,↓zq,zs,ae,zt]
 rw[bD f (by omega)]
 refine aj (G7 (f+1) (by omega)) ?_
 have hd:=qf 8 (f+1) (by omega)
 simp only[↓zq,zs,ae,zt,bf,aS]
 exact⟨by simp[cR];omega,rfl,rfl⟩
def wz(g:Bool)(t:Ty):Ty:=if g=true\/400<t.atoms then .zero else t
def BX(g:Bool)(t:Ty):Bool:=g||decide (400<t.atoms)
theorem zm(t:Ty):wz true t=.zero:=by simp[wz]
theorem xK(t:Ty):BX true t=true:=rfl
theorem xy{t:Ty}(h:t.atoms<=400):wz false t=t:=by simp[wz,show ¬400<t.atoms by omega]
theorem wF{t:Ty}(h:t.atoms<=400):BX false t=false:=by simp[BX,show ¬400<t.atoms by omega]
theorem G2{t:Ty}(h:¬t.atoms<=400):BX false t=true:=by simp[BX,show 400<t.atoms by omega]
theorem GN{t:Ty}(h:¬t.atoms<=400):wz false t=.zero:=by simp[wz,show 400<t.atoms by omega]
theorem xP(f:Nat)(g:Bool)(t:Ty)(hl:t.atoms<1000000):aq Tryz.prog 77 [.ref 0 0,t.av] [EZ f g] (di (wz g t).av [EZ f (BX g t)]):=by
 refine S6 _ _ _ ((aF _).mpr trivial) ?_
 simp only[Oi,↓zq,zs,ae,zt]
 cases g with
 |true=>exact⟨fun _=>⟨rfl,rfl⟩,fun h=>(by cases h)⟩
 |
  false =>
  refine⟨fun h=>(by cases h),fun _=>?_⟩
  refine aj (GF t hl) ?_
  simp only[↓zq,zs,ae,zt]
  refine⟨fun h=>?_,fun h=>?_⟩
  ·have h:400<t.atoms:=by omega
   simp[wz,BX,h,di,Ty.av]
  ·have h:¬400<t.atoms:=by omega
   simp[wz,BX,h,di]
theorem Hv(t:Ty)(s:Nm)(f:Nat):aq Tryz.prog 78 [.ref 0 0,t.av,.v (.string (mk s))] [EZ f true] (di Ty.zero.av [EZ f true]):=by
 refine L8 _ _ _ _ ((aF _).mpr trivial) ?_
 simp only[Gl,↓zq,zs,ae]
 exact⟨fun _=>⟨rfl,rfl⟩,fun h=>(by cases h)⟩
def Er(f:Nat)(t:Ty):Prop:=∀j,f<j->bz (hN j) t=false
def rG(o:Option Ty)(t:Ty):Nat:=match o with|some d=>d.atoms|none=>1000*t.atoms
def Dy(o:Option Ty)(f B:Nat):AV->List Ob->Prop:=fun r ob=>∃f':Nat,f<=f'/\f'<=f+B/\r=(o.getD .zero).av/\ob=[EZ f' o.isNone]
theorem Dy.ne(o:Option Ty)(f B:Nat):∃r ob,Dy o f B r ob:=⟨_,_,f,au _,dm _ _,rfl,rfl⟩
theorem sQ{f f':Nat}{t:Ty}(h:Er f t)(hf:f<=f'):Er f' t:=fun j hj=>h j (by omega)
theorem Kv:∀(n:Nat) (t:Ty),t.atoms<=n->t.atoms<=400->∀(s:Nm) (f:Nat),Er f t->(∀j,f<j->s≠hN j)->f+1000*t.atoms<50000000->aq Tryz.prog 78 [.ref 0 0,t.av,.v (.string (mk s))] [EZ f false] (Dy (mM t s) f (rG (mM t s) t))
 |0,t,h=>by have:=eG t;omega
 |
  n+1,t,hn=>by
  intro h4 s f hf hs hb
  refine L8 _ _ _ _ ((aF _).mpr trivial) ?_
  have fin0:∀u:Ty,mM t s=some u->Dy (mM t s) f (rG (mM t s) t) u.av [EZ f false]:=fun u hu=>by
   rw[hu];exact⟨f,au _,dm _ _,rfl,rfl⟩
  cases t with
  |
   zero =>
   have:=fin0 .zero (xH s)
   simpa[Gl,Ty.av,↓zq,zs,ae]using this
  |
   one =>
   have:=fin0 .zero (zL s)
   simpa[Gl,Ty.av,↓zq,zs,ae]using this
  |
   bound k =>
   have:=fin0 .zero (Bj k s)
   simpa[Gl,Ty.av,↓zq,zs,ae]using this
  |
   name c =>
   simp only[Gl,Ty.av,↓zq,zs,ae,zt]
   refine⟨fun h=>(by cases h),fun _=>⟨by omega,fun _=>⟨by omega,fun h=>?_,fun h=>?_⟩,fun h=>absurd rfl h⟩⟩
   ·exact fin0 .one (by rw[pR,if_pos h])
   ·exact fin0 .zero (by rw[pR,if_neg h])
  |
   plus a b =>
   simp only[Ty.atoms]at hn h4 hb
   have pa:=eG a
   have pb:=eG b
   have fa:Er f a:=fun j hj=>by have:=hf j hj;simp only[bz,ct]at this;exact this.1
   have fb:Er f b:=fun j hj=>by have:=hf j hj;simp only[bz,ct]at this;exact this.2
   simp only[Gl,Ty.av,↓zq,zs,ae,zt,aF]
   refine⟨fun h=>(by cases h),fun _=>⟨by omega,fun h=>by omega,fun _=>⟨fun _=>?_,fun h=>absurd rfl h⟩⟩⟩
   repeat refine⟨by omega,?_⟩
   rw[wM]
   refine aQ (Kv n a (by omega) (by omega) s f fa hs (by omega)) (Dy.ne _ _ _) ?_
   rintro r ob ⟨f1,g1,g2,rfl,rfl⟩
   simp only[↓zq,zs,ae,zt,aH,aF]
   repeat refine⟨by omega,?_⟩
   cases q1:mM a s with
   |
    none =>
    rw[q1]at g2
    simp only[rG]at g2
    simp only[Option.isNone_none,Option.getD_none,bq]
    refine aY (Hv b s f1) ?_
    simp only[↓zq,zs,ae,zt,aH,aF]
    repeat refine⟨by omega,?_⟩
    refine aj (zn 43 _ _) ?_
    simp only[↓zq,zs,ae,zt,cn]
    refine aY (xP f1 true (.plus .zero .zero) (by simp[Ty.atoms])) ?_
    simp only[↓zq,zs,ae,zt,aH,aF]
    exact⟨f1,g1,by simp only[rG,Ty.atoms];omega,rfl,rfl⟩
   |
    some a' =>
    rw[q1]at g2
    simp only[rG]at g2
    have la:=(cX.1 q1).small
    simp only[Option.isNone_some,cE,aR]
    refine aQ (Kv n b (by omega) (by omega) s f1 (sQ fb g1) (fun j hj=>hs j (by omega)) (by omega)) (Dy.ne _ _ _) ?_
    rintro r ob ⟨f2,k1,k2,rfl,rfl⟩
    simp only[↓zq,zs,ae,zt,aH,aF]
    repeat refine⟨by omega,?_⟩
    refine aj (zn 43 _ _) ?_
    simp only[↓zq,zs,ae,zt,cn]
    cases q2:mM b s with
    |
     none =>
     rw[q2]at k2
     simp only[rG]at k2
     simp only[Option.isNone_none,Option.getD_none,bq]
     refine aY (xP f2 true (.plus a' .zero) (by simp[Ty.atoms];omega)) ?_
     simp only[↓zq,zs,ae,zt,aH,aF]
     exact⟨f2,by omega,by simp only[rG,Ty.atoms];omega,rfl,rfl⟩
    |
     some b' =>
     rw[q2]at k2
     simp only[rG]at k2
     have lb:=(cX.1 q2).small
     simp only[Option.isNone_some,cE,aR]
     refine aY (xP f2 false (.plus a' b') (by simp only[Ty.atoms];omega)) ?_
     simp only[↓zq,zs,ae,zt,aH,aF]
     unfold oD
     by_cases hle:(Ty.plus a' b').atoms<=400
     ·rw[if_pos hle]
      refine⟨f2,by omega,by simp only[rG,Ty.atoms];omega,?_,?_⟩
      ·simp[wz,show ¬400<(Ty.plus a' b').atoms by omega]
      ·simp[BX,show ¬400<(Ty.plus a' b').atoms by omega]
     ·rw[if_neg hle]
      refine⟨f2,by omega,by simp only[rG,Ty.atoms];omega,?_,?_⟩
      ·simp[wz,show 400<(Ty.plus a' b').atoms by omega]
      ·simp[BX,show 400<(Ty.plus a' b').atoms by omega]
  |
   times a b =>
   simp only[Ty.atoms]at hn h4 hb
   have pa:=eG a
   have pb:=eG b
   have fa:Er f a:=fun j hj=>by have:=hf j hj;simp only[bz,ct]at this;exact this.1
   have fb:Er f b:=fun j hj=>by have:=hf j hj;simp only[bz,ct]at this;exact this.2
   simp only[Gl,Ty.av,↓zq,zs,ae,zt,aF]
   refine⟨fun h=>(by cases h),fun _=>⟨by omega,fun h=>by omega,fun _=>⟨fun h=>by omega,fun _=>⟨fun _=>?_,fun h=>absurd rfl h⟩⟩⟩⟩
   repeat refine⟨by omega,?_⟩
   rw[uv]
   refine aQ (Kv n a (by omega) (by omega) s f fa hs (by omega)) (Dy.ne _ _ _) ?_
   rintro r ob ⟨f1,g1,g2,rfl,rfl⟩
   simp only[↓zq,zs,ae,zt,aH,aF]
   repeat refine⟨by omega,?_⟩
   refine aj (zn 42 _ _) ?_
   simp only[↓zq,zs,ae,zt,cn]
   repeat refine⟨by omega,?_⟩
   cases q1:mM a s with
   |
    none =>
    rw[q1]at g2
    simp only[rG]at g2
    simp only[Option.isNone_none,Option.getD_none,bq]
    refine aY (Hv b s f1) ?_
    simp only[↓zq,zs,ae,zt,aH,aF]
    repeat refine⟨by omega,?_⟩
    refine aj (zn 42 _ _) ?_
    simp only[↓zq,zs,ae,zt,cn]
    refine aj (zn 43 (.times .zero b) (.times a .zero)) ?_
    simp only[↓zq,zs,ae,zt,cn]
    refine aY (xP f1 true (.plus (.times .zero b) (.times a .zero)) (by simp only[Ty.atoms];omega)) ?_
    simp only[↓zq,zs,ae,zt,aH,aF]
    exact⟨f1,g1,by simp only[rG,Ty.atoms];omega,rfl,rfl⟩
   |
    some a' =>
    rw[q1]at g2
    simp only[rG]at g2
    have la:=(cX.1 q1).small
    simp only[Option.isNone_some,cE,aR]
    refine aQ (Kv n b (by omega) (by omega) s f1 (sQ fb g1) (fun j hj=>hs j (by omega)) (by omega)) (Dy.ne _ _ _) ?_
    rintro r ob ⟨f2,k1,k2,rfl,rfl⟩
    simp only[↓zq,zs,ae,zt,aH,aF]
    repeat refine⟨by omega,?_⟩
    refine aj (zn 42 _ _) ?_
    simp only[↓zq,zs,ae,zt,cn]
    cases q2:mM b s with
    |
     none =>
     rw[q2]at k2
     simp only[rG]at k2
     simp only[Option.isNone_none,Option.getD_none,bq]
     refine aj (zn 43 (.times a' b) (.times a .zero)) ?_
     simp only[↓zq,zs,ae,zt,cn]
     refine aY (xP f2 true (.plus (.times a' b) (.times a .zero)) (by simp only[Ty.atoms];omega)) ?_
     simp only[↓zq,zs,ae,zt,aH,aF]
     exact⟨f2,by omega,by simp only[rG,Ty.atoms];omega,rfl,rfl⟩
    |
     some b' =>
     rw[q2]at k2
     simp only[rG]at k2
     have lb:=(cX.1 q2).small
     simp only[Option.isNone_some,cE,aR]
     refine aj (zn 43 (.times a' b) (.times a b')) ?_
     simp only[↓zq,zs,ae,zt,cn]
     refine aY (xP f2 false (.plus (.times a' b) (.times a b')) (by simp only[Ty.atoms];omega)) ?_
     simp only[↓zq,zs,ae,zt,aH,aF]
     unfold oD
     by_cases hle:(Ty.plus (.times a' b) (.times a b')).atoms<=400
     ·rw[if_pos hle]
      refine⟨f2,by omega,by simp only[rG,Ty.atoms];omega,?_,?_⟩
      ·simp[wz,show ¬400<(Ty.plus (.times a' b) (.times a b')).atoms by omega]
      ·simp[BX,show ¬400<(Ty.plus (.times a' b) (.times a b')).atoms by omega]
     ·rw[if_neg hle]
      refine⟨f2,by omega,by simp only[rG,Ty.atoms];omega,?_,?_⟩
      ·simp[wz,show 400<(Ty.plus (.times a' b) (.times a b')).atoms by omega]
      ·simp[BX,show 400<(Ty.plus (.times a' b) (.times a b')).atoms by omega]
  |
   rc a =>
   simp only[Ty.atoms]at hn h4 hb
   have pa:=eG a
   have fa:Er f a:=fun j hj=>hf j hj
   have hxa:bz (hN (f+1)) a=false:=fa _ (by omega)
   have hxs:hN (f+1)≠s:=fun e=>hs _ (by omega) e.symm
   have fo:Er (f+1) (dH (.name (hN (f+1))) a 0):=fun j hj=>by
    cases q:bz (hN j) (dH (.name (hN (f+1))) a 0)with
    |false=>rfl
    |
     true =>
     rcases ic a 0 q with e|e
     ·have:=vE e;omega
     ·rw[fa j (by omega)]at e;cases e
   have hoa:(dH (.name (hN (f+1))) a 0).atoms=a.atoms:=fZ _ _ _
   have hop:=yw (.name (hN (f+1))) a 0 (by omega)
   rw[D8 hxa hxs]
   simp only[Gl,Ty.av,↓zq,zs,ae,zt,aF]
   refine⟨fun h=>(by cases h),fun _=>⟨by omega,fun h=>by omega,fun _=>⟨fun h=>by omega,fun _=>⟨fun h=>by omega,fun _=>⟨fun _=>?_,fun h=>absurd rfl h⟩⟩⟩⟩⟩
   refine aY (ND f false (by omega)) ?_
   simp only[↓zq,zs,ae,zt,aH,aF]
   repeat refine⟨by omega,?_⟩
   simp only[Ty.av]at hop
   refine aj hop ?_
   simp only[↓zq,zs,ae,zt,aH,aF]
   refine aQ (Kv n (dH (.name (hN (f+1))) a 0) (by omega) (by omega) s (f+1) fo (fun j hj=>hs j (by omega)) (by omega)) (Dy.ne _ _ _) ?_
   rintro r ob ⟨f1,g1,g2,rfl,rfl⟩
   simp only[↓zq,zs,ae,zt,aH,aF]
   generalize hx:hN (f+1)=x at *
   generalize hin:dH (.name x) a 0=i at *
   have hrc:(Ty.rc a).av=.ptr [.v (.int .u8 114),.v (.string (mk [])),.v (.int .i64 0),a.av,.v (.pointer none)]:=rfl
   cases q1:mM i s with
   |
    none =>
    rw[q1]at g2
    simp only[rG]at g2
    simp only[Option.isNone_none,Option.getD_none,bq]
    refine aY (xP f1 true .zero (by simp[Ty.atoms])) ?_
    simp only[↓zq,zs,ae,zt,aH,aF]
    rw[<-hrc]
    refine aj (Dg x (.rc a) _) ?_
    simp only[↓zq,zs,ae,zt,aF]
    refine aY (Hv i x f1) ?_
    simp only[↓zq,zs,ae,zt,aH,aF]
    refine aY (xP f1 true .zero (by simp[Ty.atoms])) ?_
    simp only[↓zq,zs,ae,zt,aH,aF]
    refine aj (Dg x (.rc a) _) ?_
    simp only[↓zq,zs,ae,zt,aF]
    refine aj (zn 42 _ (.bound 0)) ?_
    simp only[↓zq,zs,ae,zt,cn]
    refine aj (zn 43 (sub x (.rc a) (wz true .zero)) (.times (sub x (.rc a) (wz true .zero)) (.bound 0))) ?_
    simp only[↓zq,zs,ae,zt,cn,xK]
    have hz:sub x (.rc a) (wz true .zero)=.zero:=by rw[zm];rfl
    refine aY (xP f1 true (.rc (.plus (sub x (.rc a) (wz true .zero)) (.times (sub x (.rc a) (wz true .zero)) (.bound 0)))) (by rw[hz];simp only[Ty.atoms];omega)) ?_
    simp only[↓zq,zs,ae,zt,aH,aF]
    rw[zm,xK]
    exact⟨f1,by omega,by simp only[rG,Ty.atoms];omega,rfl,rfl⟩
   |
    some c =>
    rw[q1]at g2
    simp only[rG]at g2
    have lc:=(cX.1 q1).small
    simp only[Option.isNone_some,cE,aR]
    refine aY (xP f1 false c (by omega)) ?_
    simp only[↓zq,zs,ae,zt,aH,aF]
    rw[xy lc,wF lc,<-hrc]
    refine aj (Dg x (.rc a) c) ?_
    simp only[↓zq,zs,ae,zt,aF]
    refine aQ (Kv n i (by omega) (by omega) x f1 (sQ fo g1) (fun j hj=>by rw[<-hx];exact fun e=>by have:=vE e;omega) (by omega)) (Dy.ne _ _ _) ?_
    rintro r ob ⟨f2,k1,k2,rfl,rfl⟩
    simp only[↓zq,zs,ae,zt,aH,aF]
    have hsc:(sub x (.rc a) c).atoms+fO x c=c.atoms+fO x c*(Ty.rc a).atoms:=ew x (.rc a) c
    have hcc:∀t:Ty,fO x t<=t.atoms:=fun t=>by
     have h1:=ew x .zero t
     have h2:=iA x .zero t
     simp only[Ty.atoms,dS]at h1
     have h3:∀t:Ty,fO x t<=t.atoms:=by
      intro t
      induction t with
      |name s=>simp only[fO,Ty.atoms];split<;>omega
      |plus a b i1 i2=>simp only[fO,Ty.atoms];omega
      |times a b i1 i2=>simp only[fO,Ty.atoms];omega
      |rc a i=>simp only[fO,Ty.atoms];omega
      |_=>simp[fO,Ty.atoms]
     exact h3 t
    have hbig:∀t:Ty,t.atoms<=400->(sub x (.rc a) t).atoms<=400+400*402:=fun t ht=>by
     have h1:=ew x (.rc a) t
     have h2:=hcc t
     have h3:fO x t*(Ty.rc a).atoms<=400*402:=Nat.mul_le_mul (by omega) (by simp only[Ty.atoms];omega)
     omega
    have b1:=hbig c lc
    cases q2:mM i x with
    |
     none =>
     rw[q2]at k2
     simp only[rG]at k2
     simp only[Option.isNone_none,Option.getD_none,bq]
     refine aY (xP f2 true .zero (by simp[Ty.atoms])) ?_
     simp only[↓zq,zs,ae,zt,aH,aF]
     rw[zm,xK]
     refine aj (Dg x (.rc a) .zero) ?_
     simp only[↓zq,zs,ae,zt,aF]
     refine aj (zn 42 _ (.bound 0)) ?_
     simp only[↓zq,zs,ae,zt,cn]
     refine aj (zn 43 (sub x (.rc a) c) (.times (sub x (.rc a) .zero) (.bound 0))) ?_
     simp only[↓zq,zs,ae,zt,cn]
     refine aY (xP f2 true (.rc (.plus (sub x (.rc a) c) (.times (sub x (.rc a) .zero) (.bound 0)))) (by simp only[sub,Ty.atoms];omega)) ?_
     simp only[↓zq,zs,ae,zt,aH,aF]
     rw[zm,xK]
     exact⟨f2,by omega,by simp only[rG,Ty.atoms];omega,rfl,rfl⟩
    |
     some d =>
     rw[q2]at k2
     simp only[rG]at k2
     have ld:=(cX.1 q2).small
     have b2:=hbig d ld
     simp only[Option.isNone_some,cE,aR]
     refine aY (xP f2 false d (by omega)) ?_
     simp only[↓zq,zs,ae,zt,aH,aF]
     rw[xy ld,wF ld]
     refine aj (Dg x (.rc a) d) ?_
     simp only[↓zq,zs,ae,zt,aF]
     refine aj (zn 42 _ (.bound 0)) ?_
     simp only[↓zq,zs,ae,zt,cn]
     refine aj (zn 43 (sub x (.rc a) c) (.times (sub x (.rc a) d) (.bound 0))) ?_
     simp only[↓zq,zs,ae,zt,cn]
     have hdrc:qN a x c d=.rc (.plus (sub x (.rc a) c) (.times (sub x (.rc a) d) (.bound 0))):=rfl
     refine aY (xP f2 false (qN a x c d) (by rw[hdrc];simp only[Ty.atoms];omega)) ?_
     simp only[↓zq,zs,ae,zt,aH,aF]
     have s1:=iA x (.rc a) c
     have s2:=iA x (.rc a) d
     unfold oD
     by_cases hle:(qN a x c d).atoms<=400
     ·rw[if_pos hle,xy hle,wF hle]
      exact⟨f2,by omega,by simp only[rG,hdrc,Ty.atoms];omega,rfl,rfl⟩
     ·rw[if_neg hle,GN hle,G2 hle]
      exact⟨f2,by omega,by simp only[rG,Ty.atoms];omega,rfl,rfl⟩
def Rk(o:Option Ty):AV->List Ob->Prop:=fun r ob=>ob=[]/\∃p,LK.ptr.has p/\r=.cm [p,.v (.bool o.isSome)]/\∀d,o=some d->p=d.av
theorem Rk.ne(o:Option Ty):∃r ob,Rk o r ob:=by
 cases o with
 |none=>exact⟨_,_,rfl,iV,(ig).mpr trivial,rfl,fun d h=>by cases h⟩
 |some d=>exact⟨_,_,rfl,d.av,(aF _).mpr trivial,rfl,fun d' h=>by cases h;rfl⟩
theorem J1:hN 1=m9:=by show (35::dd 1:Nm)=_;rw[fg (by omega)];rfl
theorem Uk(a:Ty)(h4:a.atoms+2<=400)(hf:∀j,bz (hN j) a=false):aq Tryz.prog 39 [(Ty.rc a).av] [] (Rk (pz a m9)):=by
 have hxa:bz (hN 1) a=false:=hf 1
 have fo:Er 1 (dH (.name (hN 1)) a 0):=fun j hj=>by
  cases q:bz (hN j) (dH (.name (hN 1)) a 0)with
  |false=>rfl
  |
   true =>
   rcases ic a 0 q with e|e
   ·have:=vE e;omega
   ·rw[hf j]at e;cases e
 have hoa:(dH (.name (hN 1)) a 0).atoms=a.atoms:=fZ _ _ _
 have hop:=yw (.name (hN 1)) a 0 (by omega)
 rw[<-J1]
 have hrc:(Ty.rc a).av=.ptr [.v (.int .u8 114),.v (.string (mk [])),.v (.int .i64 0),a.av,.v (.pointer none)]:=rfl
 refine S1 _ ((aF _).mpr trivial) ?_
 unfold MP
 refine aY (ND 0 false (by omega)) ?_
 simp only[Ty.av,↓zq,zs,ae,zt,aH,aF]
 repeat refine⟨by omega,?_⟩
 simp only[Ty.av]at hop
 refine aj hop ?_
 simp only[↓zq,zs,ae,zt,aH,aF]
 refine aQ (Kv 400 (dH (.name (hN 1)) a 0) (by omega) (by omega) (hN 1) 1 fo (fun j hj e=>by have:=vE e;omega) (by omega)) (Dy.ne _ _ _) ?_
 rintro r ob ⟨f1,g1,g2,rfl,rfl⟩
 simp only[↓zq,zs,ae,zt,aH,aF]
 unfold pz
 cases q1:mM (dH (.name (hN 1)) a 0) (hN 1)with
 |
  none =>
  simp only[Option.isNone_none,Option.getD_none,bq]
  refine aY (xP f1 true .zero (by simp[Ty.atoms])) ?_
  simp only[↓zq,zs,ae,zt,aH,aF,xK]
  exact⟨fun _=>⟨rfl,iV,(ig).mpr trivial,rfl,fun d h=>(by cases h)⟩,fun h=>(by cases h)⟩
 |
  some d =>
  have ld:=(cX.1 q1).small
  simp only[Option.isNone_some,cE,aR]
  refine aY (xP f1 false d (by omega)) ?_
  simp only[↓zq,zs,ae,zt,aH,aF]
  rw[xy ld,wF ld]
  refine⟨fun h=>(by cases h),fun _=>?_⟩
  rw[<-hrc]
  refine aj (Dg (hN 1) (.rc a) d) ?_
  simp only[↓zq,zs,ae,zt,aF]
  have h1:=ew (hN 1) (.rc a) d
  have hcn:fO (hN 1) d<=d.atoms:=by
   have h3:∀t:Ty,fO (hN 1) t<=t.atoms:=by
    intro t
    induction t with
    |name s=>simp only[fO,Ty.atoms];split<;>omega
    |plus a b i1 i2=>simp only[fO,Ty.atoms];omega
    |times a b i1 i2=>simp only[fO,Ty.atoms];omega
    |rc a i=>simp only[fO,Ty.atoms];omega
    |_=>simp[fO,Ty.atoms]
   exact h3 d
  have h3:fO (hN 1) d*(Ty.rc a).atoms<=400*402:=Nat.mul_le_mul (by omega) (by simp only[Ty.atoms];omega)
  refine aY (xP f1 false (sub (hN 1) (.rc a) d) (by omega)) ?_
  simp only[↓zq,zs,ae,zt,aH,aF]
  unfold oD
  by_cases hle:(sub (hN 1) (.rc a) d).atoms<=400
  ·rw[if_pos hle,xy hle,wF hle]
   exact⟨rfl,_,(aF _).mpr trivial,rfl,fun d' h=>by cases h;rfl⟩
  ·rw[if_neg hle,GN hle,G2 hle]
   exact⟨rfl,_,(aF _).mpr trivial,rfl,fun d' h=>(by cases h)⟩
end Go.Proofs.Trees
namespace Go.Proofs.Trees
open Go Go.VL Go.RowKit
theorem sF(h:Nm)(a b:E):(fD (.list [.atom h,a,b])).length=h.length+(fD a).length+(fD b).length+4:=by
 simp only[fD,eF,aw,an,aE];omega
theorem jP(F:List Nm)(hF:F.length<=10000):∀(t:Ty) (to:List Nm) (k:Nat),wB t->(∀w,w∈to->w.length<=20)->k+(F.length+1)*t.atoms<90000000->(fD (iL F t to k).1).length<=50*t.atoms
 | .zero,_,_,_,_,_=>by simp[iL,fD,Ty.atoms]
 | .one,_,_,_,_,_=>by simp[iL,fD,Ty.atoms]
 | .name s,_,_,hn,_,_=>by have:=hn s (by simp[bz]);simp only[iL,fD,Ty.atoms];omega
 |
  .bound u,to,_,_,ht,_=>by
  show (gR to u).length<=50*1
  unfold gR
  by_cases h:to.length-1-u<to.length
  ·rw[aa,bp h];have:=ht _ (bn h);simp only[cE];omega
  ·rw[aa,List.getElem?_eq_none (by omega)];simp
 |
  .plus a b,to,k,hn,ht,hk=>by
  have h1:=iS F a to k
  have:(F.length+1)*(1+a.atoms+b.atoms)=(F.length+1)+(F.length+1)*a.atoms+(F.length+1)*b.atoms:=by simp only[da,dS]
  simp only[Ty.atoms]at hk
  have i1:=jP F hF a to k (fun y hy=>hn y (by simp[bz,hy])) ht (by omega)
  have i2:=jP F hF b to _ (fun y hy=>hn y (by simp[bz,hy])) ht (show (iL F a to k).2+_<_ by omega)
  simp only[iL,sF,Ty.atoms,aw,aE];omega
 |
  .times a b,to,k,hn,ht,hk=>by
  have h1:=iS F a to k
  have:(F.length+1)*(1+a.atoms+b.atoms)=(F.length+1)+(F.length+1)*a.atoms+(F.length+1)*b.atoms:=by simp only[da,dS]
  simp only[Ty.atoms]at hk
  have i1:=jP F hF a to k (fun y hy=>hn y (by simp[bz,hy])) ht (by omega)
  have i2:=jP F hF b to _ (fun y hy=>hn y (by simp[bz,hy])) ht (show (iL F a to k).2+_<_ by omega)
  simp only[iL,sF,Ty.atoms,aw,aE];omega
 |
  .rc a,to,k,hn,ht,hk=>by
  obtain⟨g1,g2,_,_⟩:=ib F k
  have:(F.length+1)*(2+a.atoms)=(F.length+1)*2+(F.length+1)*a.atoms:=by simp only[da]
  simp only[Ty.atoms]at hk
  have hl:=ye (k:=nx F k) (by omega)
  have i1:=jP F hF a (to++[tN (nx F k)]) (nx F k+1) hn (fun w hw=>by
   rcases aO.1 hw with hw|hw
   ·exact ht w hw
   ·simp only[aT]at hw;rw[hw];exact hl) (by omega)
  simp only[iL,sF,Ty.atoms,aw,aE]
  simp only[fD]
  simp only[aw]at hl |-
  omega
theorem PU(x0 a fv:AV)(F:List Nm)(h0:LK.ptr.has x0)(ha:LK.sl.has a)(hfv:cN fv F)(hF:F.length<100000):∀(n j:Nat),rr F n j<j+n->j+n<100000000 ->
 ET [x0,a,.v (.string (mk (tN j)))] [.cells [fv],.cells [.v (.int .i64 ((j+1:Nat):Int))]] (gS 1 [x0,a,.v (.string (mk (tN (rr F n j))))] [.cells [fv],.cells [.v (.int .i64 ((rr F n j+1:Nat):Int))]])
 |0,j,h,_=>by simp only[rr]at h;omega
 |
  n+1,j,h,hj=>by
  refine OR _ _ _ _ _ ?_
  simp only[IG,↓zq,zs,ae,zt,ae,hfv.1,h0,ha]
  refine⟨fun h=>(by simp at h),fun _=>?_⟩
  refine aj (PW F fv hfv (tN j) (by omega)) ?_
  simp only[↓zq,zs,ae,zt]
  rw[rr]at h |-
  refine⟨fun hm=>?_,fun hm=>?_⟩
  ·rw[if_pos hm]at h |-
   refine aj (G7 (j+1) (by omega)) ?_
   have hd:=qf 8 (j+1) (by omega)
   simp only[↓zq,zs,ae,zt,bf,aS]
   rw[bD (j+1) (by omega)]
   exact⟨by simp[cR];omega,PU x0 a fv F h0 ha hfv hF n (j+1) (by omega) (by omega)⟩
  ·rw[if_neg hm]
   exact⟨rfl,rfl,rfl⟩
theorem UO(x0 a fv:AV)(F:List Nm)(h0:LK.ptr.has x0)(ha:LK.sl.has a)(hfv:cN fv F)(hF:F.length<10000)(k:Nat)(hk:k<90000000) :
 ET [x0,a,.v (.string (mk []))] [.cells [fv],.cells [.v (.int .i64 (k:Int))]] (gS 1 [x0,a,.v (.string (mk (tN (nx F k))))] [.cells [fv],.cells [.v (.int .i64 ((nx F k+1:Nat):Int))]]):=by
 obtain⟨g1,g2,_,_⟩:=ib F k
 refine OR _ _ _ _ _ ?_
 simp only[IG,↓zq,zs,ae,zt,ae,hfv.1,h0,ha]
 refine⟨fun _=>?_,fun h=>(by simp at h)⟩
 refine aj (G7 k (by omega)) ?_
 have hd:=qf 8 k (by omega)
 simp only[↓zq,zs,ae,zt,bf,aS]
 rw[bD k (by omega)]
 exact⟨by simp[cR];omega,PU x0 a fv F h0 ha hfv (by omega) (F.length+1) k (by show nx F k<_;omega) (by omega)⟩
theorem Bi(F:List Nm)(fv:AV)(hfv:cN fv F)(hF:F.length<=1000):∀(t:Ty) (to:List Nm) (a:AV) (k:Nat),cN a to->to.length+t.atoms<10000->j6 t to.length->wB t->(∀w,w∈to->w.length<=20)->k+(F.length+1)*t.atoms<80000000 ->
 aq Tryz.prog 123 [t.av,a,.ik 123 [none,some 0,some 1],.ref 0 0,.ref 1 0] [.cells [fv],.cells [.v (.int .i64 (k:Int))]] (di (.v (.string (mk (fD (iL F t to k).1)))) [.cells [fv],.cells [.v (.int .i64 ((iL F t to k).2:Int))]])
 |
  .zero,to,a,k,ha,hl,hlc,hs,ht,hk=>by
  refine yA _ _ _ _ ((aF _).mpr trivial) ha.1 hfv.1 ?_
  simp only[GI,Ty.av,↓zq,zs,ae,zt,aF]
  refine⟨by omega,fun h=>by omega,fun _=>⟨fun h=>by omega,fun _=>⟨fun h=>by omega,fun _=>⟨fun h=>by omega,fun _=>⟨fun h=>by omega,fun _=>?_⟩⟩⟩⟩⟩
  repeat refine⟨by omega,?_⟩
  exact⟨⟨rfl,(mq _ _).mpr trivial,trivial⟩,rfl,rfl⟩
 |
  .one,to,a,k,ha,hl,hlc,hs,ht,hk=>by
  refine yA _ _ _ _ ((aF _).mpr trivial) ha.1 hfv.1 ?_
  simp only[GI,Ty.av,↓zq,zs,ae,zt,aF]
  refine⟨by omega,fun h=>by omega,fun _=>⟨fun h=>by omega,fun _=>⟨fun h=>by omega,fun _=>⟨fun h=>by omega,fun _=>⟨fun h=>by omega,fun _=>?_⟩⟩⟩⟩⟩
  repeat refine⟨by omega,?_⟩
  exact⟨⟨rfl,(mq _ _).mpr trivial,trivial⟩,rfl,rfl⟩
 |
  .name s,to,a,k,ha,hl,hlc,hs,ht,hk=>by
  refine yA _ _ _ _ ((aF _).mpr trivial) ha.1 hfv.1 ?_
  simp[GI,Ty.av,↓zq,zs,ae,di,iL,fD]
 |
  .bound u,to,a,k,ha,hl,hlc,hs,ht,hk=>by
  have hu:u<to.length:=hlc
  refine yA _ _ _ _ ((aF _).mpr trivial) ha.1 hfv.1 ?_
  simp only[GI,Ty.av,↓zq,zs,ae,zt,ha.len]
  rw[wrap64 ((to.length:Int)-1) (by omega) (by omega),wrap64 _ (by omega) (by omega)]
  have e1:(to.length:Int)-1-(u:Int)=((to.length-1-u:Nat):Int):=by omega
  rw[e1]
  simp only[bx,ha.idx (show to.length-1-u<to.length by omega),↓zq,zs,ae,zt]
  refine⟨by omega,fun h=>by omega,fun _=>⟨fun _=>⟨ha.1,by omega,⟨ha.1,by omega,by omega⟩,by omega,rfl,rfl⟩,fun h=>absurd rfl h⟩⟩
 |
  .plus x y,to,a,k,ha,hl,hlc,hs,ht,hk=>by
  simp only[Ty.atoms]at hl hk
  have h1:=iS F x to k
  have hm:(F.length+1)*(1+x.atoms+y.atoms)=(F.length+1)+(F.length+1)*x.atoms+(F.length+1)*y.atoms:=by simp only[da,dS]
  have sx:wB x:=fun z hz=>hs z (by simp[bz,hz])
  have sy:wB y:=fun z hz=>hs z (by simp[bz,hz])
  have t1:=jP F (by omega) x to k sx ht (by omega)
  have t2:=jP F (by omega) y to (iL F x to k).2 sy ht (by omega)
  have hb:(⟨(bytesOf [[.v (.int .u8 43)]]).toArray⟩:ByteArray)=mk [43]:=rfl
  have h8:j8 [[AV.v (.int .u8 43)]]:=⟨rfl,(mq _ _).mpr trivial,trivial⟩
  refine yA _ _ _ _ ((aF _).mpr trivial) ha.1 hfv.1 ?_
  simp only[GI,Ty.av,↓zq,zs,ae,zt,aF,hb]
  refine⟨by omega,fun h=>by omega,fun _=>⟨fun h=>by omega,fun _=>⟨fun _=>?_,fun h=>absurd rfl h⟩⟩⟩
  repeat refine⟨by omega,?_⟩
  refine aY (Bi F fv hfv hF x to a k ha (by omega) hlc.1 sx ht (by omega)) ?_
  simp only[↓zq,zs,ae,zt,aH,hfv.1,hb,bf,aS]
  repeat (first|refine⟨by omega,?_⟩|refine⟨h8,?_⟩|refine⟨by simp[cR];omega,?_⟩)
  refine aY (Bi F fv hfv hF y to a _ ha (by omega) hlc.2 sy ht (by omega)) ?_
  simp only[↓zq,zs,ae,zt,aH,hfv.1,hb,bf,aS]
  repeat (first|refine⟨by omega,?_⟩|refine⟨h8,?_⟩|refine⟨by simp[cR];omega,?_⟩)
  refine⟨?_,rfl⟩
  simp[iL,fD,eF]
 |
  .times x y,to,a,k,ha,hl,hlc,hs,ht,hk=>by
  simp only[Ty.atoms]at hl hk
  have h1:=iS F x to k
  have hm:(F.length+1)*(1+x.atoms+y.atoms)=(F.length+1)+(F.length+1)*x.atoms+(F.length+1)*y.atoms:=by simp only[da,dS]
  have sx:wB x:=fun z hz=>hs z (by simp[bz,hz])
  have sy:wB y:=fun z hz=>hs z (by simp[bz,hz])
  have t1:=jP F (by omega) x to k sx ht (by omega)
  have t2:=jP F (by omega) y to (iL F x to k).2 sy ht (by omega)
  have hb:(⟨(bytesOf [[.v (.int .u8 42)]]).toArray⟩:ByteArray)=mk [42]:=rfl
  have h8:j8 [[AV.v (.int .u8 42)]]:=⟨rfl,(mq _ _).mpr trivial,trivial⟩
  refine yA _ _ _ _ ((aF _).mpr trivial) ha.1 hfv.1 ?_
  simp only[GI,Ty.av,↓zq,zs,ae,zt,aF,hb]
  refine⟨by omega,fun h=>by omega,fun _=>⟨fun h=>by omega,fun _=>⟨fun h=>by omega,fun _=>⟨fun _=>?_,fun h=>absurd rfl h⟩⟩⟩⟩
  repeat refine⟨by omega,?_⟩
  refine aY (Bi F fv hfv hF x to a k ha (by omega) hlc.1 sx ht (by omega)) ?_
  simp only[↓zq,zs,ae,zt,aH,hfv.1,hb,bf,aS]
  repeat (first|refine⟨by omega,?_⟩|refine⟨h8,?_⟩|refine⟨by simp[cR];omega,?_⟩)
  refine aY (Bi F fv hfv hF y to a _ ha (by omega) hlc.2 sy ht (by omega)) ?_
  simp only[↓zq,zs,ae,zt,aH,hfv.1,hb,bf,aS]
  repeat (first|refine⟨by omega,?_⟩|refine⟨h8,?_⟩|refine⟨by simp[cR];omega,?_⟩)
  refine⟨?_,rfl⟩
  simp[iL,fD,eF]
 |
  .rc x,to,a,k,ha,hl,hlc,hs,ht,hk=>by
  simp only[Ty.atoms]at hl hk
  obtain⟨g1,g2,_,_⟩:=ib F k
  have hm:(F.length+1)*(2+x.atoms)=(F.length+1)*2+(F.length+1)*x.atoms:=by simp only[da]
  have hln:=ye (k:=nx F k) (by omega)
  have ht':∀w,w∈to++[tN (nx F k)]->w.length<=20:=fun w hw=>by
   rcases aO.1 hw with hw|hw
   ·exact ht w hw
   ·simp only[aT]at hw;rw[hw];exact hln
  have t1:=jP F (by omega) x (to++[tN (nx F k)]) (nx F k+1) hs ht' (by omega)
  have hrc:(Ty.rc x).av=.ptr [.v (.int .u8 114),.v (.string (mk [])),.v (.int .i64 0),x.av,.v (.pointer none)]:=rfl
  refine yA _ _ _ _ ((aF _).mpr trivial) ha.1 hfv.1 ?_
  simp only[GI,Ty.av,↓zq,zs,ae,zt,aF]
  refine⟨by omega,fun h=>by omega,fun _=>⟨fun h=>by omega,fun _=>⟨fun h=>by omega,fun _=>⟨fun h=>by omega,fun _=>⟨fun _=>?_,fun h=>absurd rfl h⟩⟩⟩⟩⟩
  rw[<-hrc]
  repeat refine⟨by omega,?_⟩
  refine cC (UO (Ty.rc x).av a fv F ((aF _).mpr trivial) ha.1 hfv (by omega) k (by omega)) ?_
  simp only[Ty.av,↓zq,zs,ae,zt,ae,aH,hfv.1,ha.1,aF,ha.2,GP,aS,lf,lu]
  have hl2:(dd (nx F k)).length+1<=20:=hln
  have hl3:(tN (nx F k)).length=(dd (nx F k)).length+1:=rfl
  refine⟨by omega,by simp only[an,aw,aE,hl3];omega,by omega,by omega,⟨fun c hc=>by simp at hc;rw[hc];rfl,by omega⟩,?_⟩
  refine aY (Bi F fv hfv hF x (to++[tN (nx F k)]) _ (nx F k+1) (.of _) (by simp;omega) (by rw[an];exact hlc) hs ht' (by omega)) ?_
  simp only[↓zq,zs,ae,zt,aH,hfv.1]
  repeat refine⟨by omega,?_⟩
  refine⟨by simp only[an,aw,aE,hl3];omega,by simp only[an,aw,aE,hl3];omega,?_,rfl⟩
  simp[iL,fD,eF]
theorem TT(t:Ty)(g:gy t)(hs:wB t)(h4:t.atoms<=400):aq Tryz.prog 81 [t.av] [] (bP (.v (.string (mk (G1 t))))):=by
 refine R6 _ ((aF _).mpr trivial) ?_
 unfold QE
 have hn:=eQ t []
 simp only[aE,a8]at hn
 have hm:((bS t []).length+1)*t.atoms<=401*400:=Nat.mul_le_mul (by omega) h4
 refine aj (MS t (by omega)) ?_
 simp only[↓zq,zs,ae,zt,cc]
 refine aY (Bi (bS t []) _ (.of _) (by omega) t [] Ah 0 .nil (by simp;omega) g.1 hs (fun w hw=>by cases hw) (by omega)) ?_
 simp only[↓zq,zs,ae,zt,aH,cc]
 exact⟨rfl,rfl⟩
theorem S2(t:Ty)(g:gy t)(hs:wB t)(hl:t.atoms<1000000):aq Tryz.prog 40 [t.av] [] (bP (re (told t))):=by
 refine UB _ ((aF _).mpr trivial) ?_
 unfold Qn
 refine aj (GF t hl) ?_
 simp only[↓zq,zs,ae,zt]
 refine⟨fun h=>?_,fun h=>?_⟩
 ·have:told t=none:=by unfold told;rw[if_neg fun h'=>by have:=h'.1;omega]
  rw[this];exact⟨rfl,rfl⟩
 ·have h4:t.atoms<=400:=by omega
  refine aj (TT t g hs h4) ?_
  simp only[↓zq,zs,ae,zt]
  refine aj (IV (G1 t)) ?_
  simp only[↓zq,zs,ae,zt,ja]
  unfold told
  cases q:sr (G1 t)with
  |
   none =>
   simp only[iQ,↓zq,zs,ae]
   rw[if_neg (by simp)]
   exact⟨fun _=>⟨rfl,rfl⟩,fun h=>(by cases h)⟩
  |
   some u =>
   simp only[iQ,↓zq,zs,ae,gj]
   rw[if_pos ⟨h4,rfl⟩]
   exact⟨fun h=>(by cases h),fun _=>⟨rfl,rfl⟩⟩
theorem S3(s:Nm):aq Tryz.prog 15 [.v (.string (mk s))] [] (bP (re (cP s))):=by
 refine SJ _ ?_
 unfold Ou
 refine aj (IV s) ?_
 simp only[↓zq,zs,ae,zt,ja]
 cases q:sr s with
 |
  none =>
  have:cP s=none:=by unfold cP;rw[q]
  rw[this]
  simp only[iQ,↓zq,zs,ae]
  exact⟨fun _=>⟨rfl,rfl⟩,fun h=>(by cases h)⟩
 |
  some t =>
  simp only[iQ,↓zq,zs,ae,gj]
  have notRec:(∀a,t≠.rc a)->cP s=none:=fun hn=>by
   unfold cP;rw[q]
   cases t<;>first|rfl|exact absurd rfl (hn _)
  refine⟨fun h=>(by cases h),fun _=>?_⟩
  cases t with
  |
   rc a =>
   have h4:=uc q
   simp only[Ty.atoms]at h4
   have hq:cP s=(pz a m9).bind told:=by unfold cP;rw[q]
   obtain⟨e,he,hw,hte,hats,hok⟩:=oU q
   have hgood:∀d,pz a m9=some d->gy d/\(wB (.rc a)->wB d):=fun d hd=>s4 hw hte ⟨by simp,by simp,by simp⟩ hd
   rw[hq]
   simp only[Ty.av,↓zq,zs,ae]
   refine⟨by omega,fun h=>by omega,fun _=>?_⟩
   have hld:=Uk a (by omega) (fun j=>by
    cases q2:bz (hN j) a with
    |false=>rfl
    |true=>exact absurd rfl ((yd (oc q (hN j) q2)).2 (dd j)))
   simp only[Ty.av]at hld
   refine aQ hld (Rk.ne _) ?_
   rintro r ob ⟨rfl,p,hp,rfl,hpe⟩
   simp only[↓zq,zs,ae,zt,eq_true hp]
   cases q1:pz a m9 with
   |
    none =>
    simp only[ba,bq]
    exact⟨fun _=>⟨rfl,rfl⟩,fun h=>(by cases h)⟩
   |
    some d =>
    simp only[aU,aR]
    refine⟨fun h=>(by cases h),fun _=>?_⟩
    rw[hpe d q1]
    have hl:d.atoms<=400:=by
     simp only[pz,aW,fq]at q1
     obtain⟨_,_,h1,h2⟩:=q1
     rw[<-h2];exact h1
    refine aj (S2 d (hgood d q1).1 ((hgood d q1).2 (DK q)) (by omega)) ?_
    cases told d<;>simp only[re,↓zq,zs,ae,zt]<;>exact⟨rfl,rfl⟩
  |
   _ =>
   rw[notRec fun a h=>by cases h]
   simp only[Ty.av,↓zq,zs,ae]
   exact⟨by omega,fun _=>⟨rfl,rfl⟩,fun h=>by omega⟩
end Go.Proofs.Trees
namespace Go.Proofs.Trees
open Go Go.VL Go.RowKit
theorem GJ:∀(m:Nat) (c:Vl),c.nodes<=m->∀(t:Ty) (v:Vl),dE t c=true->∀(ea:AV) (ids:List Nat),lJ ea ids->∀(s:List UInt8) (fr:AV),LK.has .ptr fr->aq Tryz.prog 86 [.agg [t.av,ea],c.cJ,.agg [.v (.string (mk s)),fr],v.cJ] [] (bP (cx t c v).cJ)
 |0,c,hm=>by have:=cB c;omega
 |
  m+1,c,hm=>by
  intro t v hc ea ids he s fr hf
  refine UF _ _ _ _ _ _ ((aF _).mpr trivial) he.has ((aP _).mpr trivial) hf ((aP _).mpr trivial) ?_
  have fin:∀x:AV,LK.has .ptr x->LK.has .ptr x=True:=fun x h=>eq_true h
  cases t with
  |zero=>rw[ue];simp[Cz,Ty.av,↓zq,zs,ae,bP]
  |one=>rw[wJ];simp[Cz,Ty.av,↓zq,zs,ae,bP]
  |name n=>rw[kq];simp[Cz,Ty.av,↓zq,zs,ae,bP]
  |bound u=>rw[px];simp[Cz,Ty.av,↓zq,zs,ae,bP]
  |
   plus a b =>
   have hL:=BC a.av b.av ea 43 (mk []) 0 ((aF _).mpr trivial) he.has
   have hR:=By a.av b.av ea 43 (mk []) 0 ((aF _).mpr trivial) he.has
   rcases w4 hc with⟨x,rfl,hx⟩|⟨x,rfl,hx⟩
   ·simp only[Vl.nodes]at hm
    simp only[Cz,Ty.av,↓zq,zs,ae]
    refine⟨by omega,fun _=>?_,fun h=>absurd rfl h⟩
    refine aj hL ?_
    simp only[↓zq,zs,ae,bC,aF,he.has,Vl.cJ,aP]
    refine⟨by omega,fun h=>by omega,fun _=>⟨by omega,by omega,?_⟩⟩
    refine aj (GJ m x (by omega) a v hx ea ids he s fr hf) ?_
    simp only[↓zq,zs,ae,aP]
    refine aj (A3 108 _ ((aP _).mpr trivial)) ?_
    simp[↓zq,zs,ae,bP,cx,Vl.cJ,cn]
   ·simp only[Vl.nodes]at hm
    simp only[Cz,Ty.av,↓zq,zs,ae]
    refine⟨by omega,fun _=>?_,fun h=>absurd rfl h⟩
    refine aj hL ?_
    simp only[↓zq,zs,ae,bC,aF,he.has,Vl.cJ,aP]
    refine⟨by omega,fun _=>?_,fun h=>absurd rfl h⟩
    refine aj hR ?_
    simp only[↓zq,zs,ae,bC,aF,he.has,Vl.cJ,aP]
    refine⟨by omega,by omega,?_⟩
    refine aj (GJ m x (by omega) b v hx ea ids he s fr hf) ?_
    simp only[↓zq,zs,ae,aP]
    refine aj (A3 114 _ ((aP _).mpr trivial)) ?_
    simp[↓zq,zs,ae,bP,cx,Vl.cJ,cn]
  |
   times a b =>
   have hL:=BC a.av b.av ea 42 (mk []) 0 ((aF _).mpr trivial) he.has
   have hR:=By a.av b.av ea 42 (mk []) 0 ((aF _).mpr trivial) he.has
   rcases u6 hc with⟨x,y,rfl,hx⟩|⟨x,y,rfl,hx⟩
   ·simp only[Vl.nodes]at hm
    simp only[Cz,Ty.av,↓zq,zs,ae,Vl.cJ]
    refine⟨by omega,fun h=>by omega,fun _=>⟨fun _=>⟨by omega,fun _=>?_,fun h=>absurd rfl h⟩,fun h=>absurd rfl h⟩⟩
    refine aj hL ?_
    simp only[↓zq,zs,ae,bC,aF,he.has,Vl.cJ,aP]
    repeat refine⟨by omega,?_⟩
    refine aj (GJ m x (by omega) a v hx ea ids he s fr hf) ?_
    simp only[↓zq,zs,ae,aP]
    repeat refine⟨by omega,?_⟩
    refine aj (BQ _ _ ((aP _).mpr trivial) ((aP _).mpr trivial)) ?_
    simp[↓zq,zs,ae,bP,cx,Vl.cJ,cn]
   ·simp only[Vl.nodes]at hm
    simp only[Cz,Ty.av,↓zq,zs,ae,Vl.cJ,aP]
    refine⟨by omega,fun h=>by omega,fun _=>⟨fun _=>⟨by omega,fun h=>by omega,fun _=>?_⟩,fun h=>absurd rfl h⟩⟩
    repeat refine⟨by omega,?_⟩
    refine aj hR ?_
    simp only[↓zq,zs,ae,bC,aF,he.has,Vl.cJ,aP]
    repeat refine⟨by omega,?_⟩
    refine aj (GJ m y (by omega) b v hx ea ids he s fr hf) ?_
    simp only[↓zq,zs,ae,aP]
    refine aj (BQ _ _ ((aP _).mpr trivial) ((aP _).mpr trivial)) ?_
    simp[↓zq,zs,ae,bP,cx,Vl.cJ,cn]
  |
   rc a =>
   have hin:=FZ a ea ids he
   simp only[Ty.av]at hin
   rcases Dj hc with⟨x,rfl,hx⟩|⟨x,y,rfl,hx,hy⟩
   ·simp only[Vl.nodes]at hm
    simp only[Cz,Ty.av,↓zq,zs,ae,Vl.cJ,aP]
    refine⟨by omega,fun h=>by omega,fun _=>⟨fun h=>by omega,fun _=>⟨fun _=>?_,fun h=>absurd rfl h⟩⟩⟩
    refine aQ hin (by have:=Cy.ne a ea ids;simpa only[Cy,Ty.av]using this) ?_
    intro r o hr
    obtain⟨⟨q,hq,rfl⟩,rfl⟩:=hr
    have he2:lJ (.ptr [.pid q [(Ty.rc a).av,ea],ea]) (q::ids):=.cons hq he
    have hfr:LK.ptr.has (.pid q [(Ty.rc a).av,ea]):=.inr (.inr ⟨_,_,rfl⟩)
    simp only[Ty.av]at he2 hfr
    simp only[↓zq,zs,ae,bC,aF,he2.has,hfr,Vl.cJ,aP,Ty.av]
    repeat refine⟨by omega,?_⟩
    refine⟨fun _=>?_,fun h=>absurd rfl h⟩
    repeat refine⟨by omega,?_⟩
    refine aj (GJ m x (by omega) a v hx _ _ he2 s fr hf) ?_
    simp only[↓zq,zs,ae,aP]
    refine aj (A3 102 _ ((aP _).mpr trivial)) ?_
    simp[↓zq,zs,ae,bP,cx,Vl.cJ,cn]
   ·simp only[Vl.nodes]at hm
    simp only[Cz,Ty.av,↓zq,zs,ae,Vl.cJ,aP]
    refine⟨by omega,fun h=>by omega,fun _=>⟨fun h=>by omega,fun _=>⟨fun _=>?_,fun h=>absurd rfl h⟩⟩⟩
    refine aQ hin (by have:=Cy.ne a ea ids;simpa only[Cy,Ty.av]using this) ?_
    intro r o hr
    obtain⟨⟨q,hq,rfl⟩,rfl⟩:=hr
    have he2:lJ (.ptr [.pid q [(Ty.rc a).av,ea],ea]) (q::ids):=.cons hq he
    have hfr:LK.ptr.has (.pid q [(Ty.rc a).av,ea]):=.inr (.inr ⟨_,_,rfl⟩)
    simp only[Ty.av]at he2 hfr
    simp only[↓zq,zs,ae,bC,aF,he2.has,hfr,Vl.cJ,aP,Ty.av]
    repeat refine⟨by omega,?_⟩
    refine fun _=>?_
    repeat refine⟨by omega,?_⟩
    have i1:=GJ m y (by omega) (.rc a) v hy ea ids he s fr hf
    simp only[Ty.av]at i1
    refine aj i1 ?_
    simp only[↓zq,zs,ae,aP]
    repeat refine⟨by omega,?_⟩
    refine aj (GJ m x (by omega) a (cx (.rc a) y v) hx _ _ he2 [] _ hfr) ?_
    simp only[↓zq,zs,ae,aP]
    refine aj (A3 102 _ ((aP _).mpr trivial)) ?_
    simp[↓zq,zs,ae,bP,cx,Vl.cJ,cn]
theorem Pg(a:Ty)(c v:Vl)(hc:dE a c=true):aq Tryz.prog 43 [(Ty.rc a).av,c.cJ,v.cJ] [] (bP (Vl.f (cx a c v)).cJ):=by
 refine TM _ _ _ ((aF _).mpr trivial) ((aP _).mpr trivial) ((aP _).mpr trivial) ?_
 unfold P1
 refine aQ (FZ a iV [] .nil) (Cy.ne a iV []) ?_
 rintro r o ⟨⟨m,hm,rfl⟩,rfl⟩
 have he2:lJ (.ptr [.pid m [(Ty.rc a).av,iV],iV]) [m]:=.cons hm .nil
 have hfr:LK.ptr.has (.pid m [(Ty.rc a).av,iV]):=.inr (.inr ⟨_,_,rfl⟩)
 simp only[Ty.av]at he2 hfr
 simp only[↓zq,zs,ae,bC,aF,he2.has,hfr,Ty.av]
 repeat refine⟨by omega,?_⟩
 refine aj (GJ c.nodes c (au _) a v hc _ _ he2 [] _ hfr) ?_
 simp only[↓zq,zs,ae,aP]
 refine aj (A3 102 _ ((aP _).mpr trivial)) ?_
 simp[↓zq,zs,ae,bP,Vl.cJ,cn]
end Go.Proofs.Trees
namespace Go.Proofs.Trees
open Go Go.VL Go.RowKit
def xd(l:List Vl):List (List AV):=l.map fun c=>[c.cJ]
theorem ke(l:List Vl):(xd l).length=l.length:=by simp[xd]
theorem zu{l:List Vl}{i:Nat}(h:i<l.length):(xd l).getD i []=[(l[i]).cJ]:=by simp[xd,aa,h]
theorem z6(l:List Vl)(c:Vl):xd l++[[c.cJ]]=xd (l++[c]):=by simp[xd]
def tQ(s:Nm)(a:Ty)(l:List Vl)(v:Vl):AV:=.ptr [.v (.string (mk s)),(Ty.rc a).av,.sl (xd l),v.cJ]
def oZ(s:Nm)(a:Ty):Option (List Vl×Vl)->AV
 |some r=>tQ s a r.1 r.2
 |none=>iV
theorem kR(s:Nm)(a:Ty)(o:Option (List Vl×Vl)):LK.has .ptr (oZ s a o)=True:=by cases o<;>simp[oZ,tQ,ig,cn]
theorem Ev(v:Vl):(Vl.f v).nodes=v.nodes+1:=by simp only[Vl.nodes];omega
theorem Lt(s:Nm)(a:Ty)(l:List Vl)(v:Vl)(h:ZI a l v)(hl:l.length<=50):aq Tryz.prog 67 [tQ s a l v] [] (bP (oZ s a (rY a l v))):=by
 refine UI _ ((cn _).mpr trivial) ?_
 simp only[Ra,tQ,↓zq,zs,ae,ke]
 refine⟨fun h=>(by cases h),fun _=>?_⟩
 repeat refine⟨by omega,?_⟩
 unfold rY
 refine⟨fun h0=>?_,fun h0=>?_⟩
 ·have:l=[]:=bO (by omega)
  subst this
  exact⟨rfl,rfl⟩
 ·have hpos:0<l.length:=by omega
  have hne:l≠[]:=by rintro rfl;simp at hpos
  rw[wrap64 ((l.length:Int)-1) (by omega) (by omega)]
  have e1:((l.length:Int)-1).toNat=l.length-1:=by omega
  have hlt:l.length-1<l.length:=by omega
  have hlast:l.getLast?=some (l[l.length-1]):=by rw[List.getLast?_eq_some_getLast hne,List.getLast_eq_getElem]
  rw[hlast]
  have hC:=h.ctx _ (bn hlt)
  generalize hc:l[l.length-1]=c at *
  simp only[e1,zu hlt,hc,↓zq,zs,ae,aP,aF]
  repeat refine⟨by omega,?_⟩
  refine aj (Pg a c v hC.ok) ?_
  simp only[↓zq,zs,ae,aP]
  have hn:=pf a c v
  have h1:=hC.nd
  have h2:=h.nH.nd
  refine aj (GK (.f (cx a c v)) (by rw[Ev];omega)) ?_
  simp only[↓zq,zs,ae,aP,aF]
  refine⟨fun hb=>?_,fun hb=>?_⟩
  ·rw[if_neg (by omega)];exact⟨rfl,rfl⟩
  ·rw[if_pos (by omega)]
   repeat refine⟨by omega,?_⟩
   refine⟨?_,rfl⟩
   have:(xd l).take (l.length-1)=xd l.dropLast:=by rw[List.dropLast_eq_take];simp[xd]
   simp only[oZ,tQ,Int.toNat_zero,a7,this]
theorem P9{s d:Nm}{a:Ty}{x A B:E}{D:Ty}(z:ZT s d a x A B D)(pa:AV)(p:List Nm)(hp:cN pa p)(hl:p.length<=50)(v:Vl):∀(k i:Nat) (l0:List Vl),i+k=p.length->l0.length<=i ->
 Kd [.v (.string (mk d)),pa,.v (.int .i64 (p.length:Int)),.v (.int .i64 (i:Int))] [.cells [.v (.string (mk s)),(Ty.rc a).av,.any,v.cJ],.vec 1 (xd l0)]
  (oB (match eX d (p.drop i)with|some l=>(1,[],[.cells [.v (.string (mk s)),(Ty.rc a).av,.any,v.cJ],.vec 1 (xd (l0++l))])|none=>(2,[iV],[])))
 |
  0,i,l0,hi,tS=>by
  refine QG _ _ _ _ _ _ _ _ ?_
  have:i=p.length:=by omega
  subst this
  simp only[JY,↓zq,zs,ae,ae,aF,aP,List.drop_length]
  exact⟨hp.1,fun h=>by omega,fun _=>by simp[oB,eX]⟩
 |
  k+1,i,l0,hi,tS=>by
  have hlt:i<p.length:=by omega
  have hd:p.drop i=p.getD i []::p.drop (i+1):=by rw[aM hlt];simp[aa,hlt]
  refine QG _ _ _ _ _ _ _ _ ?_
  simp only[JY,↓zq,zs,ae,zt,ae,aF,aP,hp.len,hp.idx hlt,bx]
  refine⟨hp.1,fun _=>⟨⟨hp.1,by omega,by omega⟩,by omega,?_⟩,fun h=>by omega⟩
  refine aj (Ma d (p.getD i []) 100) ?_
  rw[hd,eX]
  simp only[↓zq,zs,ae,zt,ja,fW]
  cases q:mn d (p.getD i []) 100 with
  |
   none =>
   simp only[je,↓zq,zs,ae]
   exact⟨fun _=>by first|trivial|rfl,fun h=>(by cases h)⟩
  |
   some w =>
   simp only[je,↓zq,zs,ae,fB,z6]
   refine⟨fun h=>(by cases h),fun _=>?_⟩
   rw[bD i (by omega)]
   have ih:=P9 z pa p hp hl v k (i+1) (l0++[w]) (by omega) (by simp;omega)
   refine⟨⟨fun c hc=>by simp at hc;rw[hc];rfl,by rw[ke];omega⟩,?_⟩
   cases q2:eX d (p.drop (i+1))with
   |none=>rw[q2]at ih;exact ih
   |some l=>rw[q2]at ih;simp only[a6,bf,aS]at ih;exact ih
theorem lS{s:Nm}{p:List Nm}{f:Nm}{l:List Vl}{v:Vl}(h:tP s p f=some (l,v)):∃d a x A B D,ZT s d a x A B D/\ZI a l v/\p=l.map (·.cf)/\f=v.cf/\p.length<=50/\zA s=a/\gA s f=some v/\eX d p=some l:=by
 unfold tP at h
 split at h
 ·rename_i v' d h1 h2
  split at h
  ·rename_i hl
   obtain⟨l',h3,h4⟩:=Option.map_eq_some_iff.1 h
   cases h4
   obtain⟨a,_,_,_,L⟩:=iM h1
   obtain⟨x,A,B,D,z⟩:=ZT.of L.l h2
   obtain⟨q1,q2⟩:=tE z p l h3
   obtain⟨q3,q4⟩:=z.nH h1
   exact⟨d,a,x,A,B,D,z,⟨q2,q3⟩,q1,q4,hl,by unfold zA;rw[L.l];rfl,h1,h3⟩
  ·cases h
 ·cases h
theorem O1(s:Nm)(pa:AV)(p:List Nm)(hp:cN pa p)(f:Nm):aq Tryz.prog 63 [.agg [.v (.string (mk s)),pa,.v (.string (mk f))]] [] (bP (oZ s (zA s) (tP s p f))):=by
 refine UD _ _ _ hp.1 ?_
 unfold MF
 refine aj (Jn s f) ?_
 have hlt:LK.has .ptr (Dn s)=True:=by unfold Dn;split<;>simp[aF,ig]
 simp only[↓zq,zs,ae,zt,hlt,fW]
 refine aj (S3 s) ?_
 have ho:∀o:Option Nm,re o=.cm [.v (.string (mk (o.getD []))),.v (.bool o.isSome)]:=fun o=>by cases o<;>rfl
 rw[ho]
 simp only[↓zq,zs,ae,zt]
 unfold tP
 cases h1:gA s f with
 |
  none =>
  simp only[je,↓zq,zs,ae]
  exact⟨fun _=>⟨rfl,rfl⟩,fun h=>(by cases h)⟩
 |
  some v =>
  simp only[je,↓zq,zs,ae,fB]
  refine⟨fun h=>(by cases h),fun _=>?_⟩
  cases h2:cP s with
  |
   none =>
   simp only[ba]
   exact⟨fun _=>⟨rfl,rfl⟩,fun h=>(by cases h)⟩
  |
   some d =>
   simp only[aU,cE,hp.len]
   refine⟨fun h=>(by cases h),fun _=>⟨hp.1,fun h=>?_,fun h=>?_⟩⟩
   ·rw[if_neg (by omega)];exact⟨rfl,rfl⟩
   ·have hl:p.length<=50:=by omega
    rw[if_pos hl]
    obtain⟨a,_,_,_,L⟩:=iM h1
    obtain⟨x,A,B,D,z⟩:=ZT.of L.l h2
    have ht:Dn s=(Ty.rc a).av:=by unfold Dn;rw[L.l]
    have hza:zA s=a:=by unfold zA;rw[L.l];rfl
    rw[ht,hza]
    refine⟨hp.1,?_⟩
    have hloop:=P9 z pa p hp hl v p.length 0 [] (by omega) (by simp)
    rw[a7]at hloop
    refine eJ hloop (fun ys o e=>?_) (fun ys o e=>?_)
    ·cases q:eX d p with
     |none=>rw[q]at e;cases e
     |
      some l =>
      rw[q]at e
      cases e
      simp only[↓zq,zs,ae,zt,ae,aH,aF,aP,cq]
      exact⟨rfl,rfl⟩
    ·cases q:eX d p with
     |
      none =>
      rw[q]at e
      cases e
      simp only[↓zq,zs,ae,zt,ae,aH,Option.map_none]
      exact⟨rfl,rfl⟩
     |some l=>rw[q]at e;cases e
theorem Q9(s:Nm)(a:Ty)(x3:AV)(h3:LK.ptr.has x3):∀(n:Nat) (l:List Vl) (v:Vl),l.length=n->ZI a l v->n<=50 ->
 JT [x3,tQ s a l v] [] (oB (if(iR n a l v).isSome=true then(1,[x3],[])else(2,[iV],[])))
 |
  0,l,v,hl,h,hn=>by
  refine NN _ _ ?_
  simp only[J7,tQ,↓zq,zs,ae,h3,ke,hl,iR]
  repeat refine⟨by omega,?_⟩
  exact fun _=>by simp[oB]
 |
  n+1,l,v,hl,h,hn=>by
  refine NN _ _ ?_
  have hup:=Lt s a l v h (by omega)
  simp only[J7,↓zq,zs,ae,h3]
  simp only[tQ,↓zq,zs,ae,ke,hl]at hup |-
  repeat refine⟨by omega,?_⟩
  refine⟨fun _=>?_,fun h=>by omega⟩
  refine aj hup ?_
  simp only[↓zq,zs,ae,kR]
  rw[iR]
  cases q:rY a l v with
  |
   none =>
   simp only[oZ,↓zq,zs,ae,bq]
   exact⟨fun _=>by simp[oB],fun h=>(by cases h)⟩
  |
   some r =>
   obtain⟨hz,hlen,_⟩:=tt h q
   have ih:=Q9 s a x3 h3 n r.1 r.2 (by omega) hz (by omega)
   simp only[oZ,tQ,↓zq,zs,ae,aR]at ih |-
   exact⟨fun h=>(by cases h),fun _=>ih⟩
theorem JN(s:Nm)(pa:AV)(p:List Nm)(hp:cN pa p)(f:Nm):aq Tryz.prog 66 [.agg [.v (.string (mk s)),pa,.v (.string (mk f))]] [] (bP (oZ s (zA s) (gU s p f))):=by
 refine TW _ _ _ hp.1 ?_
 unfold LM
 refine aj (O1 s pa p hp f) ?_
 simp only[↓zq,zs,ae,zt,kR]
 unfold gU
 cases q:tP s p f with
 |
  none =>
  simp only[oZ,↓zq,zs,ae,bq]
  exact⟨fun _=>⟨rfl,rfl⟩,fun h=>(by cases h)⟩
 |
  some r =>
  obtain⟨l,v⟩:=r
  obtain⟨d,a,x,A,B,D,z,hz,hpt,hft,hl,hza,_,_⟩:=lS q
  rw[hza]
  have hll:l.length<=50:=by rw[hpt]at hl;simpa using hl
  have hloop:=Q9 s a (tQ s a l v) ((cn _).mpr trivial) l.length l v rfl hz hll
  simp only[oZ,aR]
  refine⟨fun h=>(by cases h),fun _=>?_⟩
  unfold qM
  refine eJ hloop (fun ys o e=>?_) (fun ys o e=>?_)
  ·split at e
   ·rename_i hc
    cases e
    rw[if_pos hc]
    simp only[↓zq,zs,ae,tQ,cn]
    exact⟨rfl,rfl⟩
   ·cases e
  ·split at e
   ·cases e
   ·rename_i hc
    cases e
    rw[if_neg hc]
    simp only[↓zq,zs,ae]
    exact⟨rfl,rfl⟩
end Go.Proofs.Trees
namespace Go.Proofs.Trees
open Go Go.VL Go.RowKit
abbrev tZ(s:Nm):Option (List Vl×Vl)->Nm×List Nm×Nm
 |some r=>(s,r.1.map (·.cf),r.2.cf)
 |none=>([],[],[])
def GZ(o:Option (List Vl×Vl)):Prop:=∀r,o=some r->(∀c,c∈r.1->c.cf.length<=900000)/\r.2.cf.length<=900000/\r.1.length<=51
theorem Cx.cf{a:Ty}{c:Vl}(h:Cx a c):c.cf.length<=900000:=by have:=eZ c h.fy;have:=h.nd;omega
theorem Fo.cf{a:Ty}{c:Vl}(h:Fo a c):c.cf.length<=900000:=by have:=eZ c h.fy;have:=h.nd;omega
theorem ZI.gz{a:Ty}{l:List Vl}{v:Vl}(h:ZI a l v)(hl:l.length<=51):GZ (some (l,v)):=fun r hr=>by
 cases hr;exact⟨fun c hc=>(h.ctx c hc).cf,h.nH.cf,hl⟩
theorem GZ.none:GZ none:=fun r hr=>by cases hr
theorem QI(l:List Vl)(hl:l.length<=51)(ht:∀c,c∈l->c.cf.length<=900000)(s f:Nm):∀(k i:Nat) (out:List Nm),i+k=l.length->out.length<=i ->
 Ju [.sl (xd l),.v (.int .i64 (l.length:Int)),.v (.int .i64 (i:Int))] [.cells [.v (.string (mk [])),Ah,.v (.string (mk []))],.cells [.v (.string (mk s)),.any,.v (.string (mk f))],.vec 1 (bW out)]
  (gS 1 [] [.cells [.v (.string (mk [])),Ah,.v (.string (mk []))],.cells [.v (.string (mk s)),.any,.v (.string (mk f))],.vec 1 (bW (out++(l.drop i).map (·.cf)))])
 |
  0,i,out,hi,ho=>by
  refine My _ _ _ _ _ _ _ _ _ ?_
  have:i=l.length:=by omega
  subst this
  simp only[HZ,↓zq,zs,ae,zt,ae,bm,List.drop_length]
  exact⟨fun h=>by omega,fun _=>by simp[gS]⟩
 |
  k+1,i,out,hi,ho=>by
  have hlt:i<l.length:=by omega
  refine My _ _ _ _ _ _ _ _ _ ?_
  simp only[HZ,↓zq,zs,ae,zt,ae,bm,ke,zu hlt,aP,bx]
  refine⟨fun _=>?_,fun h=>by omega⟩
  repeat refine⟨by omega,?_⟩
  refine aj (BL (l[i]) (ht _ (bn hlt))) ?_
  simp only[↓zq,zs,ae,zt,GP,lf]
  refine⟨⟨fun c hc=>by simp at hc;rw[hc];rfl,by omega⟩,?_⟩
  rw[bD i (by omega),aM hlt,bo]
  have:=QI l hl ht s f k (i+1) (out++[(l[i]).cf]) (by omega) (by simp;omega)
  rw[a6]at this
  exact this
theorem OE(s:Nm)(a:Ty)(o:Option (List Vl×Vl))(h:GZ o):aq Tryz.prog 65 [oZ s a o] [] (di (.cm [.agg [.v (.string (mk (tZ s o).1)),.vec 0,.v (.string (mk (tZ s o).2.2))],.v (.bool o.isSome)]) [.vec 1 (bW (tZ s o).2.1)]):=by
 refine TA _ (by rw[kR];trivial) ?_
 unfold O6
 cases o with
 |
  none =>
  simp only[oZ,↓zq,zs,ae]
  exact⟨fun _=>⟨rfl,rfl⟩,fun h=>(by cases h)⟩
 |
  some r =>
  obtain⟨h1,h2,h3⟩:=h r rfl
  simp only[oZ,tQ,↓zq,zs,ae,zt,aF,aP]
  refine⟨fun h=>(by cases h),fun _=>?_⟩
  repeat refine⟨by omega,?_⟩
  refine aj (BL r.2 h2) ?_
  simp only[↓zq,zs,ae,zt,aF,aP,ke]
  repeat refine⟨by omega,?_⟩
  have hlp:=QI r.1 h3 h1 s r.2.cf r.1.length 0 [] (by omega) (by simp)
  rw[a7,aS]at hlp
  refine cC hlp ?_
  simp only[↓zq,zs,ae,zt,ae,aH,bm]
  exact⟨rfl,rfl⟩
theorem gB{s:Nm}{p:List Nm}{f:Nm}{l:List Vl}{v:Vl}(h:gU s p f=some (l,v)):tP s p f=some (l,v)/\(qM (zA s) l v).isSome=true:=by
 unfold gU at h
 obtain⟨r,h1,h2⟩:=aW.1 h
 split at h2
 ·rename_i hc
  cases h2
  exact⟨h1,hc⟩
 ·cases h2
theorem Aj{s:Nm}{p:List Nm}{f:Nm}{l:List Vl}{v:Vl}(h:gU s p f=some (l,v)):ZI (zA s) l v/\l.length<=50/\p=l.map (·.cf)/\f=v.cf:=by
 obtain⟨h1,_⟩:=gB h
 obtain⟨d,a,x,A,B,D,z,hz,hp,hf,hl,hza,_,_⟩:=lS h1
 rw[hza]
 exact⟨hz,by rw[hp]at hl;simpa using hl,hp,hf⟩
theorem FB(s:Nm)(p:List Nm)(f:Nm):GZ (gU s p f):=fun r hr=>by
 obtain⟨h1,h2,_⟩:=Aj (l:=r.1) (v:=r.2) hr
 exact h1.gz (by omega) r rfl
noncomputable def vo (s:Nm) (p:List Nm) (f g:Nm):Option (List Vl×Vl):=(gU s p f).bind fun _=>gU s p g
noncomputable def po (s:Nm) (p:List Nm) (f:Nm):Option Nm:=(gU s p f).bind fun r=>(qM (zA s) r.1 r.2).map (·.cf)
abbrev D4(s:Nm)(o:Option (List Vl×Vl)):AV->List Ob->Prop:=di (.cm [.agg [.v (.string (mk (tZ s o).1)),.vec 0,.v (.string (mk (tZ s o).2.2))],.v (.bool o.isSome)]) [.vec 1 (bW (tZ s o).2.1)]
theorem SX(s:Nm)(pa:AV)(p:List Nm)(hp:cN pa p)(f g:Nm):aq Tryz.prog 31 [.agg [.v (.string (mk s)),pa,.v (.string (mk f))],.v (.string (mk g))] [] (D4 s (vo s p f g)):=by
 refine R9 _ _ _ _ hp.1 ?_
 unfold N0
 refine aj (JN s pa p hp f) ?_
 simp only[↓zq,zs,ae,zt,kR]
 unfold vo
 cases q:gU s p f with
 |
  none =>
  simp only[oZ,↓zq,zs,ae,bq]
  exact⟨fun _=>⟨rfl,rfl⟩,fun h=>(by cases h)⟩
 |
  some r =>
  simp only[oZ,tQ,↓zq,zs,ae,aR]
  refine⟨fun h=>(by cases h),fun _=>?_⟩
  refine aj (JN s pa p hp g) ?_
  simp only[↓zq,zs,ae,zt,kR]
  refine aY (OE s (zA s) _ (FB s p g)) ?_
  simp only[↓zq,zs,ae,zt,aH]
  exact⟨cW _,rfl,rfl⟩
theorem L9(s:Nm)(a:Ty):∀(n:Nat) (l:List Vl) (v w:Vl),l.length=n->ZI a l v->n<=50->iR n a l v=some w->Fo a w /\
 Kl [tQ s a l v] [] (gS 1 [tQ s a [] w] [])
 |
  0,l,v,w,hl,h,hn,hc=>by
  cases hc
  have:l=[]:=bO hl
  subst this
  refine⟨h.nH,Me _ ?_⟩
  simp only[JR,tQ,↓zq,zs,ae,ke,aE]
  refine⟨by omega,fun h=>by omega,fun _=>by simp[gS]⟩
 |
  n+1,l,v,w,hl,h,hn,hc=>by
  rw[iR]at hc
  obtain⟨r,hu,hc⟩:=aW.1 hc
  obtain⟨hz,hlen,_⟩:=tt (l':=r.1) (w:=r.2) h hu
  obtain⟨i1,i2⟩:=L9 s a n r.1 r.2 w (by omega) hz (by omega) hc
  refine⟨i1,Me _ ?_⟩
  have hup:=Lt s a l v h (by omega)
  rw[hu]at hup
  simp only[JR,oZ]at hup |-
  simp only[tQ,↓zq,zs,ae,ke,hl]at hup |-
  repeat refine⟨by omega,?_⟩
  refine⟨fun _=>?_,fun h=>by omega⟩
  refine aj hup ?_
  simp only[↓zq,zs,ae]
  exact i2
theorem Uy(s:Nm)(pa:AV)(p:List Nm)(hp:cN pa p)(f:Nm):aq Tryz.prog 32 [.agg [.v (.string (mk s)),pa,.v (.string (mk f))]] [] (bP (re (po s p f))):=by
 refine UG _ _ _ hp.1 ?_
 unfold Nu
 refine aj (JN s pa p hp f) ?_
 simp only[↓zq,zs,ae,kR]
 unfold po
 cases q:gU s p f with
 |
  none =>
  simp only[oZ,↓zq,zs,ae,bq]
  exact⟨fun _=>⟨rfl,rfl⟩,fun h=>(by cases h)⟩
 |
  some r =>
  obtain⟨l,v⟩:=r
  obtain⟨hz,hl,_⟩:=Aj q
  obtain⟨w,hw⟩:=bb.1 (gB q).2
  obtain⟨h1,h2⟩:=L9 s (zA s) l.length l v w rfl hz hl hw
  simp only[oZ,aR,hw,cq]
  have hn:(tQ s (zA s) l v).isNil=false:=rfl
  simp only[hn]
  refine⟨fun h=>(by cases h),fun _=>?_⟩
  refine cC h2 ?_
  simp only[↓zq,zs,ae,tQ,aP,cn]
  repeat refine⟨by first|trivial|omega,?_⟩
  refine aj (BL w h1.cf) ?_
  simp only[↓zq,zs,ae,zt]
  exact⟨rfl,rfl⟩
end Go.Proofs.Trees
namespace Go.Proofs.Trees
open Go Go.VL Go.RowKit
def mD:E->Option E
 | .list [x,a,b]=>if x.at=[114,101,99]then some (.list [x,a,b])else none
 |_=>none
def pU(s:List UInt8):Option E:=match kh s with
 |some e=>mD e
 |none=>none
theorem DU(s:List UInt8):aq Tryz.prog 26 [.v (.string (mk s))] [] (iT (pU s) (pU s).isSome):=by
 refine TX _ ?_
 unfold KX
 refine aQ (IK s) (iT.ne _ _ (fun h=>h)) ?_
 rintro r o ⟨c,d,hd,rfl,hh⟩
 have hhas:bC [.str,.sl] [.v (.string (mk c)),d] 0:=by simp[bC,dD,hd]
 simp only[↓zq,zs,ae,zt]
 refine⟨hhas,fun h=>?_,fun h=>?_⟩
 ·obtain⟨e,he,hce⟩:=hh h
  obtain⟨t,h1,hA,h3,h4,h5,_⟩:=iJ he
  have hce':=hce
  rw[cT]at hce'
  simp only[AV.agg.injEq,List.cons.injEq,AV.v.injEq,Value.string.injEq,and_true]at hce'
  obtain⟨hc1,rfl⟩:=hce'
  have hc2:=mk_inj hc1
  subst hc2
  have head:∀w:List UInt8,aq Tryz.prog 54 [.agg [.v (.string (mk e.at)),e.sp]] [] (bP (.v (.string (mk w))))->(w=[114,101,99]↔(mD e).isSome=true)->((mD e).isSome=true->mD e=some e) ->
   fC Tryz.prog 18 (Tree.call 54 [.agg [.v (.string (mk e.at)),e.sp]] [] fun r2 o2=>Tree.ai (LK.str.has r2) (Tree.done 0 [.cm [.agg [.v (.string (mk e.at)),e.sp],.v (.bool (af r2.toStr==[114,101,99]))]] [])) fun _ xs obs=>iT (pU s) (pU s).isSome (xs.headD .any) obs:=by
   intro w hw h1 h2
   refine aj hw ?_
   simp only[↓zq,zs,ae,zt]
   refine⟨e.at,e.sp,hd,?_,fun hs=>⟨e,?_,(cT e).symm⟩⟩
   ·congr 3
    simp only[pU,he,AV.v.injEq,Value.bool.injEq,List.cons.injEq,and_true]
    rw[cK];simpa using h1
   ·simp only[pU,he]at hs |-;exact h2 hs
  have hl:∀x l,e=.list (x::l)->aq Tryz.prog 54 [.agg [.v (.string (mk e.at)),e.sp]] [] (bP (.v (.string (mk x.at)))):=by
   rintro x l rfl;exact wx x l
  have ha:∀s0,e=.atom s0->aq Tryz.prog 54 [.agg [.v (.string (mk e.at)),e.sp]] [] (bP (.v (.string (mk [])))):=by
   rintro s0 rfl;exact Bh s0 _ ((bm).mpr trivial) hA.ok
  rcases gZ hA.wf hA.ty with⟨hb,_⟩|⟨u,g,rfl,_,hg⟩
  ·rcases ga hA.ty hb hA.cl with⟨rfl,rfl⟩|⟨rfl,rfl⟩|⟨s0,rfl,rfl,hp,h0,h1⟩|⟨x,a,b,t1,t2,rfl,hx,rfl,ha',hbb⟩|⟨x,a,b,t1,t2,rfl,hx,rfl,ha',hbb⟩|⟨x,a,b,t1,rfl,hx,rfl⟩
   ·exact head _ (ha _ rfl) (by simp[mD]) (by simp[mD])
   ·exact head _ (ha _ rfl) (by simp[mD]) (by simp[mD])
   ·exact head _ (ha _ rfl) (by simp[mD]) (by simp[mD])
   ·exact head _ (hl _ _ rfl) (by simp[mD,hx]) (by simp[mD,hx])
   ·exact head _ (hl _ _ rfl) (by simp[mD,hx]) (by simp[mD,hx])
   ·exact head _ (hl _ _ rfl) (by simp[mD,hx]) (by simp[mD,hx])
  ·simp at hg
 ·have hn:kh s=none:=by cases hq:kh s<;>simp[hq]at h |-
  refine⟨c,d,hd,?_,fun h=>?_⟩
  ·simp[pU,hn]
  ·simp[pU,hn]at h
theorem nN(s:List UInt8):(pU s).isSome=(gD s).isSome:=by
 unfold pU gD
 cases h:kh s with
 |none=>rw[n8 h];rfl
 |
  some e =>
  obtain⟨t,h1,hA,h3,h4,h5,_⟩:=iJ h
  rw[h1]
  simp only
  rcases gZ hA.wf hA.ty with⟨hb,_⟩|⟨u,g,rfl,_,hg⟩
  ·rcases ga hA.ty hb hA.cl with⟨rfl,rfl⟩|⟨rfl,rfl⟩|⟨s0,rfl,rfl,hp,h0,h1⟩|⟨x,a,b,t1,t2,rfl,hx,rfl,ha',hbb⟩|⟨x,a,b,t1,t2,rfl,hx,rfl,ha',hbb⟩|⟨x,a,b,t1,rfl,hx,rfl⟩<;>simp_all[mD]
  ·simp at hg
theorem LV.le{s v:List UInt8}{w:Vl}{a:Ty}{x A B:E}(h:LV s v w a x A B):pU s=some (.list [x,A,B]):=by
 unfold pU;rw[h.ce];simp[mD,h.hx]
theorem FK(n:Nat)(v:Vl)(x A B:E)(a:Ty)(hA:Ask B [.mk A.at (.list [x,A,B]) []] a)(hx:x.at=[114,101,99])(w:Vl)(hw:v=.f w)(hv:eS n v (.list [x,A,B],[])=true)(hl:v.nodes<90000) :
 aq Tryz.prog 37 [.agg [.v (.string (mk B.at)),B.sp],.v (.string (mk A.at)),.agg [.v (.string (mk w.cI.at)),w.cI.sp]] [] (bP (.sl (kG (kids a v)))):=by
 subst hw
 obtain⟨w',e,hw'⟩:=mL .nil hx hv
 cases e
 simp only[Vl.nodes]at hl
 have hnm:names [Fr.mk A.at (.list [x,A,B]) []]=[]++[A.at]:=rfl
 have h:=GD n w.nodes w (au _) B _ a hA hw' (by simp;omega) A.at (by rw[hnm];right;rw[fN];rfl)
 rw[hnm,xO]at h
 exact h
end Go.Proofs.Trees
namespace Go.Proofs.Trees
open Go Go.VL Go.RowKit
def TR(e:E)(s:List UInt8)(t:Ty)(c v:Vl):Prop:=aq Tryz.prog 62 [.agg [.v (.string (mk e.at)),e.sp],.v (.string (mk s)),.agg [.v (.string (mk c.cI.at)),c.cI.sp],.agg [.v (.string (mk v.cI.at)),v.cI.sp]] [] (bP (.agg [.v (.string (mk (cx t c v).cI.at)),(cx t c v).cI.sp]))
theorem Fs:∀(m:Nat) (c:Vl),c.nodes<=m->∀(e:E) (env:List Fr) (t:Ty),Ask e env t->dE t c=true->∀(s:List UInt8) (v:Vl),TR e s t c v
 |0,c,hm=>by have:=cB c;omega
 |
  m+1,c,hm=>by
  intro e env t A hc s v
  unfold TR
  refine T0 _ _ _ _ _ _ _ ((aX _).mpr trivial) ((aX _).mpr trivial) ((aX _).mpr trivial) ?_
  have atomCase:∀s0,e=.atom s0->cx t c v=v->fC Tryz.prog 244 (EL (mk e.at) e.sp (mk s) (mk c.cI.at) c.cI.sp (mk v.cI.at) v.cI.sp) fun _ xs obs=>bP (.agg [.v (.string (mk (cx t c v).cI.at)),(cx t c v).cI.sp]) (xs.headD .any) obs:=by
   rintro s0 rfl hp
   have hne:s0≠[]:=A.ok
   rw[hp]
   simp only[EL,E.at,↓zq,zs,ae,zt,bP]
   exact⟨fun _=>trivial,fun h=>absurd h hne⟩
  have hvh:=DZ c
  rw[cT]at hvh
  rcases gZ A.wf A.ty with⟨hb,hq⟩|⟨u,g,rfl,hq,hu⟩
  ·rcases ga A.ty hb A.cl with⟨rfl,rfl⟩|⟨rfl,rfl⟩|⟨s0,rfl,rfl,hp,h0,h1⟩|⟨x,a,b,t1,t2,rfl,hx,rfl,ha,hbb⟩|⟨x,a,b,t1,t2,rfl,hx,rfl,ha,hbb⟩|⟨x,a,b,t1,rfl,hx,rfl⟩
   ·exact atomCase _ rfl (ue _ _)
   ·exact atomCase _ rfl (wJ _ _)
   ·exact atomCase _ rfl (kq _ _ _)
   ·obtain⟨ok1,ok2,ok3,_⟩:=A.ok
    obtain⟨f1,f2⟩:=fP A.cl
    have hP:=P3.of x a b
    have hH:aq Tryz.prog 54 [.agg [.v (.string (mk [])),(E.list [x,a,b]).sp]] [] (bP (.v (.string (mk [43])))):=by rw[<-hx];exact wx x [a,b]
    rcases w4 hc with⟨y,rfl,hy⟩|⟨y,rfl,hy⟩
    ·simp only[Vl.nodes]at hm
     have hW:=P2.of (.atom [108]) y.cI
     simp only[Vl.cI,bL]at hvh
     simp only[EL,bL,Vl.cI,toNat_one,bj,↓zq,zs,ae,zt,hP.1,hP.2.1,hP.2.2.1,hP.2.2.2,hW.1,hW.2.1,hW.2.2,aL]
     refine⟨fun h=>absurd rfl h,fun _=>?_⟩
     repeat refine⟨by omega,?_⟩
     refine aj hH ?_
     simp only[↓zq,zs,ae,zt]
     refine aj hvh ?_
     simp only[vh,↓zq,zs,ae,zt,bf,aS]
     refine⟨by simp[cR],fun _=>?_,fun h=>absurd rfl h⟩
     repeat refine⟨by omega,?_⟩
     refine aj (Fs m y (by omega) a env t1 ⟨ok2,A.wf,ha,f1⟩ hy s v) ?_
     simp only[↓zq,zs,ae,zt,aL]
     repeat refine⟨by omega,?_⟩
     refine aj (xS _ _) ?_
     simp only[↓zq,zs,ae,zt,aL]
     repeat refine⟨by omega,?_⟩
     exact⟨rfl,rfl⟩
    ·simp only[Vl.nodes]at hm
     have hW:=P2.of (.atom [114]) y.cI
     simp only[Vl.cI,bL]at hvh
     simp only[EL,bL,Vl.cI,toNat_one,bj,↓zq,zs,ae,zt,hP.1,hP.2.1,hP.2.2.1,hP.2.2.2,hW.1,hW.2.1,hW.2.2,aL]
     refine⟨fun h=>absurd rfl h,fun _=>?_⟩
     repeat refine⟨by omega,?_⟩
     refine aj hH ?_
     simp only[↓zq,zs,ae,zt]
     refine aj hvh ?_
     simp only[vh,↓zq,zs,ae,zt,bf,aS]
     refine⟨by simp[cR],fun h=>by simp at h,fun _=>⟨fun _=>?_,fun h=>absurd rfl h⟩⟩
     repeat refine⟨by omega,?_⟩
     refine aj (Fs m y (by omega) b env t2 ⟨ok3,A.wf,hbb,f2⟩ hy s v) ?_
     simp only[↓zq,zs,ae,zt,aL]
     repeat refine⟨by omega,?_⟩
     refine aj (xS _ _) ?_
     simp only[↓zq,zs,ae,zt,aL]
     repeat refine⟨by omega,?_⟩
     exact⟨rfl,rfl⟩
   ·obtain⟨ok1,ok2,ok3,_⟩:=A.ok
    obtain⟨f1,f2⟩:=fE A.cl
    have hP:=P3.of x a b
    have hH:aq Tryz.prog 54 [.agg [.v (.string (mk [])),(E.list [x,a,b]).sp]] [] (bP (.v (.string (mk [42])))):=by rw[<-hx];exact wx x [a,b]
    rcases u6 hc with⟨y,z,rfl,hy⟩|⟨y,z,rfl,hy⟩
    ·simp only[Vl.nodes]at hm
     have hW:=P2.of (.atom [108]) (E.list [.atom [112],y.cI,z.cI])
     have hQ:=P3.of (.atom [112]) y.cI z.cI
     simp only[Vl.cI,bL]at hvh
     simp only[EL,bL,Vl.cI,toNat_one,bj,↓zq,zs,ae,zt,hP.1,hP.2.1,hP.2.2.1,hP.2.2.2,hW.1,hW.2.1,hW.2.2,hQ.1,hQ.2.1,hQ.2.2.1,hQ.2.2.2,aL]
     refine⟨fun h=>absurd rfl h,fun _=>?_⟩
     repeat refine⟨by omega,?_⟩
     refine aj hH ?_
     simp only[↓zq,zs,ae,zt]
     refine aj hvh ?_
     simp only[vh,↓zq,zs,ae,zt,bf,aS]
     refine⟨by simp[cR],fun h=>by simp at h,fun _=>⟨fun h=>by simp at h,fun _=>⟨fun _=>?_,fun h=>absurd rfl h⟩⟩⟩
     repeat refine⟨by omega,?_⟩
     refine aj (Fs m y (by omega) a env t1 ⟨ok2,A.wf,ha,f1⟩ hy s v) ?_
     simp only[↓zq,zs,ae,zt,aL]
     repeat refine⟨by omega,?_⟩
     refine aj (yY _ _ _) ?_
     simp only[↓zq,zs,ae,zt,aL]
     repeat refine⟨by omega,?_⟩
     exact⟨rfl,rfl⟩
    ·simp only[Vl.nodes]at hm
     have hW:=P2.of (.atom [114]) (E.list [.atom [112],y.cI,z.cI])
     have hQ:=P3.of (.atom [112]) y.cI z.cI
     simp only[Vl.cI,bL]at hvh
     simp only[EL,bL,Vl.cI,toNat_one,bj,↓zq,zs,ae,zt,hP.1,hP.2.1,hP.2.2.1,hP.2.2.2,hW.1,hW.2.1,hW.2.2,hQ.1,hQ.2.1,hQ.2.2.1,hQ.2.2.2,aL]
     refine⟨fun h=>absurd rfl h,fun _=>?_⟩
     repeat refine⟨by omega,?_⟩
     refine aj hH ?_
     simp only[↓zq,zs,ae,zt]
     refine aj hvh ?_
     simp only[vh,↓zq,zs,ae,zt,bf,aS]
     refine⟨by simp[cR],fun h=>by simp at h,fun _=>⟨fun h=>by simp at h,fun _=>⟨fun h=>by simp at h,fun _=>⟨fun _=>?_,fun h=>absurd rfl h⟩⟩⟩⟩
     repeat refine⟨by omega,?_⟩
     refine aj (Fs m z (by omega) b env t2 ⟨ok3,A.wf,hbb,f2⟩ hy s v) ?_
     simp only[↓zq,zs,ae,zt,aL]
     repeat refine⟨by omega,?_⟩
     refine aj (yY _ _ _) ?_
     simp only[↓zq,zs,ae,zt,aL]
     repeat refine⟨by omega,?_⟩
     exact⟨rfl,rfl⟩
   ·obtain⟨t1',he1,h1,f1,hw1⟩:=j0 A.wf A.ok hx A.ty A.cl
    cases he1
    obtain⟨ok1,ok2,ok3,_⟩:=A.ok
    have A':Ask b (.mk a.at (.list [x,a,b]) env::env) t1:=⟨ok3,hw1,h1,f1⟩
    have hP:=P3.of x a b
    have hH:aq Tryz.prog 54 [.agg [.v (.string (mk [])),(E.list [x,a,b]).sp]] [] (bP (.v (.string (mk [114,101,99])))):=by rw[<-hx];exact wx x [a,b]
    rcases Dj hc with⟨y,rfl,hy⟩|⟨y,z,rfl,hy,hz⟩
    ·simp only[Vl.nodes]at hm
     have hW:=P2.of (.atom [102]) (E.list [.atom [108],y.cI])
     have hQ:=P2.of (.atom [108]) y.cI
     have hvi:=DZ (.l y)
     rw[cT]at hvi
     simp only[Vl.cI,bL]at hvh hvi
     simp only[EL,bL,Vl.cI,toNat_one,bj,↓zq,zs,ae,zt,hP.1,hP.2.1,hP.2.2.1,hP.2.2.2,hW.1,hW.2.1,hW.2.2,hQ.1,hQ.2.1,hQ.2.2,aL]
     refine⟨fun h=>absurd rfl h,fun _=>?_⟩
     repeat refine⟨by omega,?_⟩
     refine aj hH ?_
     simp only[↓zq,zs,ae,zt]
     refine aj hvh ?_
     simp only[vh,↓zq,zs,ae,zt,bf,aS]
     refine⟨by simp[cR],fun h=>by simp at h,fun _=>⟨fun h=>by simp at h,fun _=>⟨fun h=>by simp at h,fun _=>⟨fun h=>by simp at h,fun _=>?_⟩⟩⟩⟩
     repeat refine⟨by omega,?_⟩
     refine aj hvi ?_
     simp only[vh,↓zq,zs,ae,zt]
     refine⟨fun _=>?_,fun h=>absurd rfl h⟩
     repeat refine⟨by omega,?_⟩
     refine aj (Fs m y (by omega) b _ t1 A' hy s v) ?_
     simp only[↓zq,zs,ae,zt,aL]
     repeat refine⟨by omega,?_⟩
     refine aj (xS _ _) ?_
     simp only[↓zq,zs,ae,zt,aL]
     repeat refine⟨by omega,?_⟩
     exact⟨rfl,rfl⟩
    ·simp only[Vl.nodes]at hm
     have hW:=P2.of (.atom [102]) (E.list [.atom [114],E.list [.atom [112],y.cI,z.cI]])
     have hQ:=P2.of (.atom [114]) (E.list [.atom [112],y.cI,z.cI])
     have hR:=P3.of (.atom [112]) y.cI z.cI
     have hvi:=DZ (.r (.p y z))
     rw[cT]at hvi
     simp only[Vl.cI,bL]at hvh hvi
     simp only[EL,bL,Vl.cI,toNat_one,bj,↓zq,zs,ae,zt,hP.1,hP.2.1,hP.2.2.1,hP.2.2.2,hW.1,hW.2.1,hW.2.2,hQ.1,hQ.2.1,hQ.2.2,hR.1,hR.2.1,hR.2.2.1,hR.2.2.2,aL]
     refine⟨fun h=>absurd rfl h,fun _=>?_⟩
     repeat refine⟨by omega,?_⟩
     refine aj hH ?_
     simp only[↓zq,zs,ae,zt]
     refine aj hvh ?_
     simp only[vh,↓zq,zs,ae,zt,bf,aS]
     refine⟨by simp[cR],fun h=>by simp at h,fun _=>⟨fun h=>by simp at h,fun _=>⟨fun h=>by simp at h,fun _=>⟨fun h=>by simp at h,fun _=>?_⟩⟩⟩⟩
     repeat refine⟨by omega,?_⟩
     refine aj hvi ?_
     simp only[vh,↓zq,zs,ae,zt]
     refine⟨fun h=>by simp at h,fun _=>?_⟩
     repeat refine⟨by omega,?_⟩
     have i1:=Fs m z (by omega) (.list [x,a,b]) env (.rc t1) A hz s v
     unfold TR at i1
     simp only[bL]at i1
     refine aj i1 ?_
     simp only[↓zq,zs,ae,zt,aL]
     repeat refine⟨by omega,?_⟩
     refine aj (Fs m y (by omega) b _ t1 A' hy a.at (cx (.rc t1) z v)) ?_
     simp only[↓zq,zs,ae,zt,aL]
     repeat refine⟨by omega,?_⟩
     refine aj (xS _ _) ?_
     simp only[↓zq,zs,ae,zt,aL]
     repeat refine⟨by omega,?_⟩
     exact⟨rfl,rfl⟩
  ·cases e with
   |atom s0=>exact atomCase _ rfl (px _ _ _)
   |list l=>exact absurd hq (by rw[show (E.list l).at=[] from rfl,l7 A.wf];simp)
end Go.Proofs.Trees
namespace Go.Proofs.Trees
open Go Go.VL Go.RowKit
abbrev Jj:Ob:=.cells [.v (.string (mk [])),.v (.slice none 0 0),.v (.string (mk []))]
theorem ZT.le{s d:Nm}{a:Ty}{x A B:E}{D:Ty}(z:ZT s d a x A B D):pU s=some (.list [x,A,B]):=by
 unfold pU;rw[z.ce];simp[mD,z.hx]
theorem kf(o:Option Nm):re o=.cm [.v (.string (mk (o.getD []))),.v (.bool o.isSome)]:=by cases o<;>rfl
theorem A5{a:Ty}{w v:Vl}(hw:Cx a w)(hv:Fo a v):(Vl.f (cx a w v)).cf.length<=900000:=by
 have h1:=eZ (Vl.f (cx a w v)) (by exact ny 100 a w v hw.fy hv.fy)
 have h2:=pf a w v
 have:=hw.nd
 have:=hv.nd
 simp only[Vl.nodes]at h1
 omega
abbrev BS(a:Ty)(w v:Vl):Option Nm:=if(Vl.f (cx a w v)).nodes<=200 then some (Vl.f (cx a w v)).cf else none
theorem Uu{s d:Nm}{a:Ty}{x A B:E}{D:Ty}(z:ZT s d a x A B D)(w v:Vl)(hw:mn d w.cf 100=some w)(hv:Fo a v):aq Tryz.prog 155 [.v (.string (mk s)),.v (.string (mk w.cf)),.v (.string (mk v.cf))] [] (bP (re (BS a w v))):=by
 have hC:=z.ctx hw
 have hv2:mn s v.cf 100=some v:=by rw[z.cf hv.fy hv.ty,if_pos hv.nd]
 refine Vd _ _ _ ?_
 unfold OL
 refine aQ (DU s) (iT.ne _ _ (fun h=>h)) ?_
 rintro r o ⟨c,e,he,rfl,hh⟩
 rw[z.le]at hh
 obtain⟨e',he',hce⟩:=hh rfl
 cases he'
 rw[cT]at hce
 simp only[AV.agg.injEq,List.cons.injEq,AV.v.injEq,Value.string.injEq,and_true]at hce
 obtain⟨hc1,rfl⟩:=hce
 rw[z.le,hc1]
 simp only[↓zq,zs,ae,zt,aL,bL]
 repeat refine⟨by omega,?_⟩
 refine aj (Pk s) ?_
 rw[kf,z.dl]
 simp only[↓zq,zs,ae,zt,aU,cE]
 refine⟨fun h=>by simp at h,fun _=>⟨fun h=>by simp at h,fun _=>?_⟩⟩
 refine aj (F7 d w.cf 100) ?_
 rw[hw]
 simp only[↓zq,zs,ae,aU]
 refine⟨fun h=>by simp at h,fun _=>?_⟩
 refine aj (F7 s v.cf 100) ?_
 rw[hv2]
 simp only[↓zq,zs,ae,aU]
 refine⟨fun h=>by simp at h,fun _=>?_⟩
 have hP:=P3.of x A B
 have rd:∀q:Vl,q.fy 100->q.nodes<=200->∀{Q:AV->List Ob->Prop},(∀o,Q (.cm [.agg [.v (.string (mk q.cI.at)),q.cI.sp],.v (.bool true)]) o)->∀r o,iT ((rM q.cf).map Vl.cI) (rM q.cf).isSome r o->Q r o:=by
  intro q hu hn Q hQ r o
  rw[sg hu hn]
  rintro⟨c,e,he,rfl,hh⟩
  obtain⟨e',he',hce⟩:=hh rfl
  cases he'
  rw[cT]at hce
  rw[hce]
  exact hQ o
 refine aQ (Jr w.cf) (iT.ne _ _ (fun h=>by simpa using h)) (rd w hC.fy hC.nd fun o=>?_)
 simp only[↓zq,zs,ae,zt,aL]
 repeat refine⟨by omega,?_⟩
 refine aQ (Jr v.cf) (iT.ne _ _ (fun h=>by simpa using h)) (rd v hv.fy hv.nd fun o=>?_)
 simp only[toNat_one,bj,↓zq,zs,ae,zt,hP.1,hP.2.1,hP.2.2.1,hP.2.2.2,aL,aX]
 repeat refine⟨by omega,?_⟩
 refine aj (Fs w.nodes w (au _) B _ a z.body hC.ok A.at v) ?_
 simp only[↓zq,zs,ae,zt,aL]
 repeat refine⟨by omega,?_⟩
 refine aj (xS _ _) ?_
 simp only[↓zq,zs,ae,zt,aL]
 repeat refine⟨by omega,?_⟩
 have htx:=En (Vl.f (cx a w v)).cI (jh _) (A5 hC hv)
 rw[cT]at htx
 simp only[Vl.cI,bL]at htx
 refine aj htx ?_
 simp only[↓zq,zs,ae,zt]
 refine aj (F7 s (Vl.f (cx a w v)).cf 100) ?_
 rw[z.cf (w:=Vl.f (cx a w v)) (by exact ny 100 a w v hC.fy hv.fy) (hC.ty v hv.ty)]
 unfold BS
 by_cases hn:(Vl.f (cx a w v)).nodes<=200
 ·rw[if_pos hn,if_pos hn]
  simp only[↓zq,zs,ae,aU]
  exact⟨fun h=>by simp at h,fun _=>⟨rfl,rfl⟩⟩
 ·rw[if_neg hn,if_neg hn]
  simp only[↓zq,zs,ae,ba]
  exact⟨fun _=>⟨rfl,rfl⟩,fun h=>by simp at h⟩
theorem oK{d:Nm}:∀{p:List Nm} {l:List Vl},eX d p=some l->p=l.map (·.cf)->∀c,c∈l->mn d c.cf 100=some c
 |[],l,h,_,c,hc=>by cases h;cases hc
 |
  q::r,l,h,hp,c,hc=>by
  simp only[eX]at h
  split at h
  ·rename_i w l' h1 h2
   cases h
   simp only[bo,List.cons.injEq]at hp
   rcases aI.1 hc with rfl|hc
   ·rw[<-hp.1];exact h1
   ·exact oK h2 hp.2 c hc
  ·cases h
structure St(s d:Nm)(a:Ty)(l:List Vl)(v:Vl):Prop where
 z:∃x A B D,ZT s d a x A B D
 i:ZI a l v
 each:∀c,c∈l->mn d c.cf 100=some c
 len:l.length<=50
def BN(s:Nm)(pa:AV)(a:Ty)(l:List Vl)(v:Vl):AV:=match l.getLast? with
 |none=>.cm [.agg [.v (.string (mk s)),pa,.v (.string (mk v.cf))],.v (.bool false)]
 |some c=>.cm [.agg [.v (.string (mk s)),.sl (bW (l.dropLast.map (·.cf))),.v (.string (mk ((BS a c v).getD [])))],.v (.bool (BS a c v).isSome)]
theorem Tq{s d:Nm}{a:Ty}{l:List Vl}{v:Vl}(h:St s d a l v)(pa:AV)(hp:cN pa (l.map (·.cf))):aq Tryz.prog 131 [.agg [.v (.string (mk s)),pa,.v (.string (mk v.cf))]] [] (bP (BN s pa a l v)):=by
 refine Sq _ _ _ hp.1 ?_
 unfold Ot
 have hlen:=h.len
 simp only[↓zq,zs,ae,zt,hp.len,cr,lf]
 unfold BN
 refine⟨hp.1,fun h0=>?_,fun h0=>?_⟩
 ·have:l=[]:=bO (by omega)
  subst this
  exact⟨rfl,rfl⟩
 ·have hpos:0<l.length:=by omega
  have hne:l≠[]:=by rintro rfl;simp at hpos
  rw[wrap64 ((l.length:Int)-1) (by omega) (by omega)]
  have e1:((l.length:Int)-1).toNat=l.length-1:=by omega
  have hlt:l.length-1<(l.map (·.cf)).length:=by rw[cr];omega
  have hlt':l.length-1<l.length:=by omega
  have hlast:l.getLast?=some (l[l.length-1]):=by rw[List.getLast?_eq_some_getLast hne,List.getLast_eq_getElem]
  rw[hlast]
  have hm:=bn hlt'
  have hg:(l.map (·.cf)).getD (l.length-1) []=(l[l.length-1]).cf:=by rw[aa,bp hlt,List.getElem_map];rfl
  obtain⟨x,A,B,D,z⟩:=h.z
  rw[e1,hp.idx hlt,hg]
  generalize l[l.length-1]=c at *
  simp only[↓zq,zs,ae,zt]
  refine⟨⟨hp.1,by omega⟩,by omega,?_⟩
  refine aj (Uu z c v (h.each c hm) h.i.nH) ?_
  rw[kf]
  simp only[↓zq,zs,ae,zt]
  refine⟨⟨hp.1,by omega⟩,⟨fun y hy=>?_,?_⟩,?_,rfl⟩
  ·rw[hp.2]at hy
   have:=List.mem_of_mem_take hy
   obtain⟨t,_,rfl⟩:=bM.1 this
   rfl
  ·rw[hp.2];simp[bW];omega
  ·have:pa.elems.take (l.length-1)=bW (l.dropLast.map (·.cf)):=by
    rw[hp.2,List.dropLast_eq_take,List.map_take];simp[bW,List.map_take]
   rw[this];rfl
theorem St.up{s d:Nm}{a:Ty}{l l':List Vl}{v w:Vl}(h:St s d a l v)(hu:rY a l v=some (l',w)):St s d a l' w:=by
 obtain⟨h1,h2,c,h3,_⟩:=tt h.i hu
 have hl:=h.len
 exact⟨h.z,h1,fun c' hc'=>h.each c' (by rw[h3];exact aD _ hc'),by omega⟩
theorem A7{s:Nm}{pa:AV}{a:Ty}{l l':List Vl}{v w:Vl}(hu:rY a l v=some (l',w)):BN s pa a l v=.cm [.agg [.v (.string (mk s)),.sl (bW (l'.map (·.cf))),.v (.string (mk w.cf))],.v (.bool true)]:=by
 unfold rY at hu
 unfold BN
 cases q:l.getLast? with
 |none=>rw[q]at hu;cases hu
 |
  some c =>
  rw[q]at hu
  simp only at hu |-
  unfold BS
  split at hu
  ·rename_i hn
   cases hu
   rw[if_pos hn];rfl
  ·cases hu
theorem BR{s:Nm}{pa:AV}{a:Ty}{l:List Vl}{v:Vl}(hpa:LK.sl.has pa)(hu:rY a l v=none):∃p f,LK.sl.has p/\BN s pa a l v=.cm [.agg [.v (.string (mk s)),p,.v (.string (mk f))],.v (.bool false)]:=by
 unfold rY at hu
 unfold BN
 cases q:l.getLast? with
 |none=>exact⟨_,_,hpa,rfl⟩
 |
  some c =>
  rw[q]at hu
  simp only at hu |-
  unfold BS
  split at hu
  ·cases hu
  ·rename_i hn
   rw[if_neg hn];exact⟨_,_,(cc _).mpr trivial,rfl⟩
def Ke(s:Nm)(o:Option Vl):Nat->List AV->List Ob->Prop:=fun k ys ob=>match o with
 |some w=>k=1/\ys=[]/\∃pa,LK.sl.has pa/\ob=[.cells [.v (.string (mk s)),pa,.v (.string (mk w.cf))],Jj]
 |none=>k=2/\ys=[.v (.bool false)]/\∃pa f,LK.sl.has pa/\ob=[.cells [.v (.string (mk s)),pa,.v (.string (mk f))]]
theorem Qr(s d:Nm)(a:Ty):∀(n:Nat) (l:List Vl) (v:Vl) (pa:AV),l.length=n->St s d a l v->cN pa (l.map (·.cf))->JO [] [.cells [.v (.string (mk s)),pa,.v (.string (mk v.cf))],Jj] (Ke s (iR n a l v))
 |
  0,l,v,pa,hl,h,hp=>by
  refine Nq _ _ _ _ _ _ ?_
  simp only[Kf,↓zq,zs,ae,zt,ae,bm,hp.len,cr,hl,iR]
  refine⟨hp.1,hp.1,fun h=>by omega,fun _=>?_⟩
  exact⟨rfl,rfl,pa,hp.1,rfl⟩
 |
  n+1,l,v,pa,hl,h,hp=>by
  refine Nq _ _ _ _ _ _ ?_
  simp only[Kf,↓zq,zs,ae,zt,ae,bm,hp.len,cr,hl]
  refine⟨hp.1,hp.1,fun _=>?_,fun h=>by omega⟩
  refine aj (Tq h pa hp) ?_
  rw[iR]
  cases q:rY a l v with
  |
   none =>
   obtain⟨p',f',h1,h2⟩:=BR (s:=s) hp.1 q
   rw[h2]
   simp only[↓zq,zs,ae,zt,bC,bq]
   exact⟨h1,fun _=>⟨rfl,rfl,pa,v.cf,hp.1,rfl⟩,fun h=>by simp at h⟩
  |
   some r =>
   obtain⟨l',w⟩:=r
   obtain⟨_,hlen,_⟩:=tt h.i q
   rw[A7 q]
   simp only[↓zq,zs,ae,zt,bC,aR,cc]
   refine⟨fun h=>by simp at h,fun _=>?_⟩
   exact Qr s d a n l' w _ (by omega) (h.up q) (cN.of _)
def Dd(o:Option Vl):AV->List Ob->Prop:=fun r ob=>ob=[]/\∃c0 pa c2,LK.sl.has pa/\r=.cm [.agg [.v (.string c0),pa,.v (.string c2)],.v (.bool o.isSome)]/\∀w,o=some w->c2=mk w.cf
theorem Dd.ne(o:Option Vl):∃r ob,Dd o r ob:=⟨_,[],rfl,mk [],.sl [],mk ((o.map (·.cf)).getD []),(cc _).mpr trivial,rfl,fun w h=>by rw[h];rfl⟩
theorem Mg{s d:Nm}{a:Ty}{l:List Vl}{v:Vl}(h:St s d a l v)(pa:AV)(hp:cN pa (l.map (·.cf))):aq Tryz.prog 92 [.agg [.v (.string (mk s)),pa,.v (.string (mk v.cf))]] [] (Dd (qM a l v)):=by
 refine UE _ _ _ hp.1 ?_
 unfold QK
 have hloop:=Qr s d a l.length l v pa rfl h hp
 refine mi hloop (fun ys o e=>?_) (fun ys o e=>?_)
 ·unfold Ke at e
  unfold qM
  cases q:iR l.length a l v with
  |none=>rw[q]at e;exact absurd e.1 (by decide)
  |
   some w =>
   rw[q]at e
   obtain⟨_,rfl,p',h1,rfl⟩:=e
   simp only[↓zq,zs,ae,zt,ae,bm]
   exact⟨h1,rfl,_,_,_,h1,rfl,fun w' h=>by cases h;rfl⟩
 ·unfold Ke at e
  unfold qM
  cases q:iR l.length a l v with
  |some w=>rw[q]at e;exact absurd e.1 (by decide)
  |
   none =>
   rw[q]at e
   obtain⟨_,rfl,p',f',h1,rfl⟩:=e
   simp only[↓zq,zs,ae,zt,ae]
   exact⟨h1,rfl,_,_,_,h1,rfl,fun w' h=>by cases h⟩
theorem MM(s d f:Nm)(pa:AV)(p:List Nm)(hp:cN pa p)(hl:p.length<=50):∀(k i:Nat),i+k=p.length->IY [.v (.string (mk d)),.v (.int .i64 (i:Int))] [.cells [.v (.string (mk s)),pa,.v (.string (mk f))]] (oB (if(eX d (p.drop i)).isSome=true then(1,[],[])else(2,[.v (.bool false)],[])))
 |
  0,i,hi=>by
  refine MV _ _ _ _ _ ?_
  have:i=p.length:=by omega
  subst this
  simp only[Ki,↓zq,zs,ae,zt,ae,hp.len,List.drop_length]
  exact⟨hp.1,hp.1,fun h=>by omega,fun _=>rfl⟩
 |
  k+1,i,hi=>by
  have hlt:i<p.length:=by omega
  have hd:p.drop i=p.getD i []::p.drop (i+1):=by rw[aM hlt];simp[aa,hlt]
  refine MV _ _ _ _ _ ?_
  simp only[Ki,↓zq,zs,ae,zt,ae,hp.len,hp.idx hlt,bx]
  refine⟨hp.1,hp.1,fun _=>⟨⟨hp.1,by omega,by omega⟩,by omega,?_⟩,fun h=>by omega⟩
  refine aj (F7 d (p.getD i []) 100) ?_
  rw[hd,eX]
  simp only[↓zq,zs,ae]
  cases q:mn d (p.getD i []) 100 with
  |
   none =>
   simp only[ba]
   exact⟨fun _=>rfl,fun h=>by simp at h⟩
  |
   some w =>
   simp only[aU]
   refine⟨fun h=>by simp at h,fun _=>?_⟩
   rw[bD i (by omega)]
   have ih:=MM s d f pa p hp hl k (i+1) (by omega)
   cases q2:eX d (p.drop (i+1))with
   |none=>rw[q2]at ih;exact ih
   |some l=>rw[q2]at ih;exact ih
theorem vX(s:Nm)(p:List Nm)(f:Nm):tP s p f=(cP s).bind fun d=>(gD s).bind fun _=>(mn s f 100).bind fun v=>if p.length<=50 then(eX d p).map fun l=>(l,v)else none:=by
 unfold tP gA
 cases gD s with
 |none=>cases cP s<;>rfl
 |some a=>cases mn s f 100<;>cases cP s<;>rfl
theorem Uj(s:Nm)(pa:AV)(p:List Nm)(hp:cN pa p)(f:Nm):aq Tryz.prog 130 [.agg [.v (.string (mk s)),pa,.v (.string (mk f))]] [] (bP (.v (.bool (tP s p f).isSome))):=by
 refine T1 _ _ _ hp.1 ?_
 unfold Li
 refine aj (Pk s) ?_
 rw[kf]
 simp only[↓zq,zs,ae,zt]
 refine aQ (DU s) (iT.ne _ _ (fun h=>h)) ?_
 rintro r o ⟨c,e,he,rfl,_⟩
 rw[nN]
 simp only[↓zq,zs,ae,zt,bC,hp.len]
 rw[vX]
 refine⟨he,fun h=>?_,fun h=>⟨fun h'=>?_,fun h'=>⟨hp.1,fun h''=>?_,fun h''=>?_⟩⟩⟩
 ·have:cP s=none:=by cases q:cP s with|none=>rfl|some d=>simp[q]at h
  rw[this]
  exact⟨rfl,rfl⟩
 ·have:gD s=none:=by cases q:gD s with|none=>rfl|some d=>simp[q]at h'
  rw[this]
  cases cP s<;>exact⟨rfl,rfl⟩
 ·simp only[if_neg (show ¬p.length<=50 by omega)]
  exact⟨by cases cP s<;>cases gD s<;>cases mn s f 100<;>rfl,rfl⟩
 ·obtain⟨d,hd⟩:∃d,cP s=some d:=by cases q:cP s with|none=>simp[q]at h|some d=>exact⟨d,rfl⟩
  obtain⟨a,ha⟩:∃a,gD s=some a:=by cases q:gD s with|none=>simp[q]at h'|some d=>exact⟨d,rfl⟩
  rw[hd,ha]
  refine aj (F7 s f 100) ?_
  simp only[↓zq,zs,ae]
  cases q:mn s f 100 with
  |none=>simp only[ba];exact⟨fun _=>⟨rfl,rfl⟩,fun h=>by simp at h⟩
  |
   some v =>
   simp only[aU,cE,aR]
   refine⟨fun h=>by simp at h,fun _=>?_⟩
   have hl:p.length<=50:=by omega
   have hloop:=MM s d f pa p hp hl p.length 0 (by omega)
   rw[a7]at hloop
   rw[if_pos hl]
   refine eJ hloop (fun ys o e=>?_) (fun ys o e=>?_)
   ·cases q2:eX d p with
    |none=>rw[q2]at e;cases e
    |some l=>exact⟨rfl,rfl⟩
   ·cases q2:eX d p with
    |none=>rw[q2]at e;cases e;simp only[↓zq,zs,ae];exact⟨rfl,rfl⟩
    |some l=>rw[q2]at e;cases e
theorem xU{s:Nm}{p:List Nm}{f:Nm}{l:List Vl}{v:Vl}(h:tP s p f=some (l,v)):∃d,St s d (zA s) l v/\p=l.map (·.cf)/\f=v.cf:=by
 obtain⟨d,a,x,A,B,D,z,hz,hp,hf,hl,hza,_,hr⟩:=lS h
 rw[hza]
 exact⟨d,⟨⟨x,A,B,D,z⟩,hz,oK hr hp,by rw[hp]at hl;simpa using hl⟩,hp,hf⟩
theorem EY(s:Nm)(pa:AV)(p:List Nm)(hp:cN pa p)(f:Nm):aq Tryz.prog 90 [.agg [.v (.string (mk s)),pa,.v (.string (mk f))]] [] (bP (.v (.bool (gU s p f).isSome))):=by
 refine SG _ _ _ hp.1 ?_
 unfold NQ
 refine aj (Uj s pa p hp f) ?_
 simp only[↓zq,zs,ae]
 unfold gU
 cases q:tP s p f with
 |none=>simp only[ba];exact⟨fun _=>⟨rfl,rfl⟩,fun h=>by simp at h⟩
 |
  some r =>
  obtain⟨l,v⟩:=r
  obtain⟨d,hs,rfl,rfl⟩:=xU q
  simp only[aU,aR]
  refine⟨fun h=>by simp at h,fun _=>?_⟩
  refine aQ (Mg hs pa hp) (Dd.ne _) ?_
  rintro r o ⟨rfl,c0,p',c2,h1,rfl,_⟩
  simp only[↓zq,zs,ae,zt,bC]
  refine⟨h1,?_,rfl⟩
  congr 2
  cases qM (zA s) l v<;>rfl
end Go.Proofs.Trees
namespace Go.Proofs.Trees
open Go Go.VL Go.RowKit
inductive Rl(x:Nm):Nat->Tg->Tg->Prop
 |nm (i):Rl x i (.nm x) (.bd i)
 |lM (i s) (h:s≠x):Rl x i (.nm s) (.nm s)
 |bd (i j) (h:j≠i):Rl x i (.bd j) (.bd j)
theorem Rl.up{x:Nm}{i:Nat}{a b:Tg}(h:Rl x i a b):Rl x (i+1) a.up b.up:=by
 cases h with
 |nm=>exact .nm _
 |lM s h=>exact .lM _ _ h
 |bd j h=>exact .bd _ _ (by omega)
theorem Rl.at{x:Nm}{i:Nat}{a b:Tg}(h:Rl x i a b):∀t:Ty,bz x t=false->dY (dH (.name x) t i) a=dY t b
 |
  .bound k,_=>by
  simp only[dH]
  cases h with
  |
   nm =>
   by_cases e:k=i
   ·simp[e,dY]
   ·simp[e,dY]
  |
   lM s h =>
   by_cases e:k=i
   ·simp[e,dY,Ne.symm h]
   ·simp[e,dY]
  |
   bd j h =>
   by_cases e:k=i
   ·simp[e,dY,Ne.symm h]
   ·simp[e,dY]
 |
  .name s,hn=>by
  have hs:s≠x:=by simpa[bz]using hn
  cases h with
  |nm=>simp[dH,dY,hs]
  |lM=>rfl
  |bd=>rfl
 | .plus _ _,_=>by cases h<;>rfl
 | .times _ _,_=>by cases h<;>rfl
 | .rc _,_=>by cases h<;>rfl
 | .zero,_=>by cases h<;>rfl
 | .one,_=>by cases h<;>rfl
theorem iu(x:Nm):∀(n:Nat) (t:Ty) (i:Nat) (a b:Tg) (v:Vl),bz x t=false->Rl x i a b->dA n (dH (.name x) t i) a v=dA n t b v
 |0,_,_,_,_,_,_,_=>rfl
 |
  n+1,t,i,a,b,v,hn,h=>by
  rw[dA,dA,h.at t hn]
  by_cases ht:dY t b=true
  ·rw[if_pos ht,if_pos ht]
  ·rw[if_neg ht,if_neg ht]
   cases t with
   |
    plus p q =>
    simp only[bz,ct]at hn
    cases v<;>simp only[dH,jd,iu x n p i a b _ hn.1 h,iu x n q i a b _ hn.2 h]
   |
    times p q =>
    simp only[bz,ct]at hn
    cases v<;>simp only[dH,jd,iu x n p i a b _ hn.1 h,iu x n q i a b _ hn.2 h]
   |
    rc p =>
    have h0:Rl x (i+1) (.bd 0) (.bd 0):=.bd _ _ (by omega)
    cases v<;>simp only[dH,jd]
    rename_i w
    rw[iu x n p (i+1) a.up b.up w hn h.up,iu x n p (i+1) (.bd 0) (.bd 0) w hn h0]
    congr 1
    apply jy
    intro k _
    have:=iu x n (.rc p) i a b k.2 hn h
    simp only[dH]at this
    rw[this]
   |
    bound k =>
    simp only[dH]
    by_cases e:k=i
    ·rw[if_pos e];cases v<;>rfl
    ·rw[if_neg e];cases v<;>rfl
   |name s=>rfl
   |zero=>rfl
   |one=>rfl
theorem pw(x:Nm){t:Ty}{i:Nat}{a b:Tg}(v:Vl)(hn:bz x t=false)(h:Rl x i a b):bR (dH (.name x) t i) a v=bR t b v:=iu x _ t i a b v hn h
theorem nD(n:Nat):∀(m:Nat) (v:Vl),v.nodes<=m->∀(t:Ty) (s:Nm) (d:Ty) (σ:Nm->Option Ty),Dv t s d->Et σ->j6 t 0->vT n v (fu σ t)=true->∀h,h∈bR t (.nm s) v ->
 vT n h.1 (fu σ d)=true/\vT n h.2 (fu σ (.name s))=true/\cx t h.1 h.2=v
 |0,v,hm=>by have:=cB v;omega
 |
  m+1,v,hm=>by
  intro t s d σ hd hσ hl hv h hh
  cases hd with
  |zero=>rw[dF rfl (by cases v<;>rfl)]at hh;cases hh
  |one=>rw[dF rfl (by cases v<;>rfl)]at hh;cases hh
  |bound=>rw[dF rfl (by cases v<;>rfl)]at hh;cases hh
  |rK hne=>rw[dF (by simp[dY,hne]) (by cases v<;>rfl)]at hh;cases hh
  |
   hit =>
   rw[kV v (by simp[dY])]at hh
   simp only[aT]at hh
   subst hh
   exact⟨rfl,hv,kq _ _ _⟩
  |
   @plus a b _ a' b' h1 h2 _ =>
   rcases jT hv with⟨w,rfl,hw⟩|⟨w,rfl,hw⟩
   ·simp only[Vl.nodes]at hm
    rw[jM]at hh
    obtain⟨k,hk,rfl⟩:=cM hh
    obtain⟨q1,q2,q3⟩:=nD n m w (by omega) _ s _ σ h1 hσ hl.1 hw k hk
    exact⟨q1,q2,congrArg Vl.l q3⟩
   ·simp only[Vl.nodes]at hm
    rw[jR]at hh
    obtain⟨k,hk,rfl⟩:=cM hh
    obtain⟨q1,q2,q3⟩:=nD n m w (by omega) _ s _ σ h2 hσ hl.2 hw k hk
    exact⟨q1,q2,congrArg Vl.r q3⟩
  |
   @times a b _ a' b' h1 h2 _ =>
   obtain⟨x,y,rfl,hx,hy⟩:=gW hv
   simp only[Vl.nodes]at hm
   rw[gH]at hh
   rcases aO.1 hh with hh|hh
   ·obtain⟨k,hk,rfl⟩:=cM hh
    obtain⟨q1,q2,q3⟩:=nD n m x (by omega) _ s _ σ h1 hσ hl.1 hx k hk
    refine⟨?_,q2,congrArg (fun q=>Vl.p q y) q3⟩
    show (vT n k.1 (fu σ a')&&vT n y (fu σ b))=true
    rw[q1,hy];rfl
   ·obtain⟨k,hk,rfl⟩:=cM hh
    obtain⟨q1,q2,q3⟩:=nD n m y (by omega) _ s _ σ h2 hσ hl.2 hy k hk
    refine⟨?_,q2,congrArg (Vl.p x) q3⟩
    show (vT n x (fu σ a)&&vT n k.1 (fu σ b'))=true
    rw[q1,hx];rfl
  |
   @rc a _ c0 d0 x hx hs h1 h2 hsz =>
   have lo:j6 (dH (.name x) a 0) 0:=il x a hl
   obtain⟨X,e1,e2⟩:=pD (x:=x) hσ hl (h1.lc lo) (h2.lc lo)
   obtain⟨w,rfl,hw⟩:=Em hv
   simp only[Vl.nodes]at hm
   have hcl:=mQ hσ x (kF hσ (.rc a) hl)
   have hop:fu (jF σ x (fu σ (.rc a))) (dH (.name x) a 0)=dH (fu σ (.rc a)) (fu σ a) 0:=kl hσ x _ a 0 hx
   have hns:fu (jF σ x (fu σ (.rc a))) (.name s)=fu σ (.name s):=by simp only[fu,jF,if_neg (Ne.symm hs)]
   have hnx:fu (jF σ x (fu σ (.rc a))) (.name x)=fu σ (.rc a):=by simp[fu,jF]
   have hw':vT n w (fu (jF σ x (fu σ (.rc a))) (dH (.name x) a 0))=true:=by rw[hop];exact hw
   have ty:∀y,vT n y (dH (.rc X) X 0)=true->vT n (.f y) (fu σ (qN a x c0 d0))=true:=fun y hy=>by rw[e1];exact hy
   rw[gJ]at hh
   rcases aO.1 hh with hh|hh
   ·obtain⟨k,hk,rfl⟩:=cM hh
    have hk':k∈bR (dH (.name x) a 0) (.nm s) w:=by rw[pw x w hx (.lM 0 s (Ne.symm hs))];exact hk
    obtain⟨q1,q2,q3⟩:=nD n m w (by omega) _ s _ _ h1 hcl lo hw' k hk'
    rw[dZ x k.1.nodes k.1 a 0 k.2 (au _)]at q3
    refine⟨ty _ ?_,by rw[<-hns];exact q2,congrArg Vl.f q3⟩
    rw[e2];exact q1
   ·obtain⟨k,hk,hh⟩:=dk.1 hh
    obtain⟨k2,hk2,rfl⟩:=cM hh
    have hk':k∈bR (dH (.name x) a 0) (.nm x) w:=by rw[pw x w hx (.nm 0)];exact hk
    obtain⟨q1,q2,q3⟩:=nD n m w (by omega) _ x _ _ h2 hcl lo hw' k hk'
    rw[dZ x k.1.nodes k.1 a 0 k.2 (au _)]at q3
    rw[hnx]at q2
    have hsz2:=(gu hk).1
    obtain⟨r1,r2,r3⟩:=nD n m k.2 (by omega) (.rc a) s _ σ (.rc x hx hs h1 h2 hsz) hσ hl q2 k2 hk2
    refine⟨ty _ ?_,r2,?_⟩
    ·rw[e2]
     show (vT n k.1 _&&vT n k2.1 _)=true
     rw[q1,r1];rfl
    ·show Vl.f (cx a k.1 (cx (.rc a) k2.1 k2.2))=.f w
     rw[r3,q3]
theorem Fe{n:Nat}{a D:Ty}{x:Nm}(hx:bz x a=false)(hl:j6 (.rc a) 0)(h:pz a x=some D){v:Vl}(hv:vT n v (.rc a)=true){k:Hl}(hk:k∈kids a v) :
 vT n k.1 D=true/\vT n k.2 (.rc a)=true/\.f (cx a k.1 k.2)=v:=by
 simp only[pz,aW,cX,fq]at h
 obtain⟨d,hd,_,rfl⟩:=h
 have lo:j6 (dH (.name x) a 0) 0:=il x a hl
 have hcl:=mQ s3 x hl
 have e1:sub x (.rc a) d=fu (jF Gh x (.rc a)) d:=by
  have:=iY Gh x (.rc a) d
  rw[jI,jI]at this;exact this
 obtain⟨w,rfl,hw⟩:=Em hv
 have hk':k∈bR (dH (.name x) a 0) (.nm x) w:=by rw[pw x w hx (.nm 0)];exact hk
 have hop:fu (jF Gh x (.rc a)) (dH (.name x) a 0)=dH (.rc a) a 0:=by rw[kl s3 x _ a 0 hx,jI]
 obtain⟨q1,q2,q3⟩:=nD n w.nodes w (au _) _ x _ _ hd hcl lo (by rw[hop];exact hw) k hk'
 rw[dZ x k.1.nodes k.1 a 0 k.2 (au _)]at q3
 refine⟨by rw[e1];exact q1,?_,congrArg Vl.f q3⟩
 simpa[fu,jF]using q2
theorem iK:∀{t:Ty},cg t=true->∃y,bz y t=true/\dy y=true
 | .name s,h=>⟨s,by simp[bz],h⟩
 |
  .plus a b,h=>by
  simp only[cg,bH]at h
  rcases h with h|h
  ·obtain⟨y,h1,h2⟩:=iK h;exact⟨y,by simp[bz,h1],h2⟩
  ·obtain⟨y,h1,h2⟩:=iK h;exact⟨y,by simp[bz,h1],h2⟩
 |
  .times a b,h=>by
  simp only[cg,bH]at h
  rcases h with h|h
  ·obtain⟨y,h1,h2⟩:=iK h;exact⟨y,by simp[bz,h1],h2⟩
  ·obtain⟨y,h1,h2⟩:=iK h;exact⟨y,by simp[bz,h1],h2⟩
 |
  .rc a,h=>by
  obtain⟨y,h1,h2⟩:=iK (t:=a) h;exact⟨y,by simp[bz,h1],h2⟩
theorem iC:∀{t:Ty} {y:Nm},bz y t=true->dy y=true->cg t=true
 |
  .name s,y,h,hl=>by
  have:s=y:=by simpa[bz]using h
  rw[this];exact hl
 |
  .plus a b,y,h,hl=>by
  simp only[bz,bH]at h
  simp only[cg,bH]
  exact h.imp (iC · hl) (iC · hl)
 |
  .times a b,y,h,hl=>by
  simp only[bz,bH]at h
  simp only[cg,bH]
  exact h.imp (iC · hl) (iC · hl)
 | .rc a,y,h,hl=>iC (t:=a) h hl
 | .zero,y,h,_=>by simp[bz]at h
 | .one,y,h,_=>by simp[bz]at h
 | .bound k,y,h,_=>by simp[bz]at h
theorem ZT.VA{s d:Nm}{a:Ty}{x A B:E}{D:Ty}(z:ZT s d a x A B D):∃e,kh d=some e/\Ask e [] D:=by
 have hcl:cg D=false:=by
  cases q:cg D with
  |false=>rfl
  |
   true =>
   obtain⟨y,h1,h2⟩:=iK q
   have:=iC (t:=.rc a) (uV z.lp y h1) h2
   rw[z.ask.cl]at this;cases this
 have hc:yN d=some D:=by unfold yN;rw[z.bk];simp only;rw[if_pos (by rw[uM,hcl];rfl)]
 cases q:kh d with
 |none=>rw[n8 q]at hc;cases hc
 |
  some e =>
  obtain⟨t,h1,hA,_⟩:=iJ q
  rw[hc]at h1;cases h1
  exact⟨e,rfl,hA⟩
theorem ZT.To{s d:Nm}{a:Ty}{x A B:E}{D:Ty}(z:ZT s d a x A B D){w:Vl}(hb:w.fy 100)(hv:vT 100 w D=true):mn d w.cf 100=if w.nodes<=200 then some w else none:=by
 obtain⟨e,he,hA⟩:=z.VA
 unfold mn
 rw[he]
 by_cases hn:w.nodes<=200
 ·rw[sg hb hn,if_pos hn]
  simp only
  rw[if_pos ⟨by omega,by rw[show (100:Int).toNat=100 from rfl,oq hA];exact hv⟩]
 ·rw[if_neg hn]
  cases q:rM w.cf with
  |none=>rfl
  |
   some w' =>
   exfalso
   obtain⟨_,h2,h3⟩:=mA q
   have:=n0 hb h2 (su q)
   rw[this]at hn;exact hn h3
theorem ZT.KJ{s d:Nm}{a:Ty}{x A B:E}{D:Ty}(z:ZT s d a x A B D){v:Vl}(hv:Fo a v){k:Hl}(hk:k∈kids a v):vT 100 k.1 D=true/\Fo a k.2/\.f (cx a k.1 k.2)=v:=by
 obtain⟨e2,he2,hw2,hte2,_,_⟩:=oU z.y
 have hlc:j6 (.rc a) 0:=hte2 ▸ hw2.rO.1
 obtain⟨q1,q2,q3⟩:=Fe (vy z.y) hlc z.lp hv.ty hk
 have:=fT hk
 have:=hv.nd
 exact⟨q1,⟨q2,(en hv.fy hk).2,by omega⟩,q3⟩
def rS(a:Ty)(l:List Vl)(v:Vl)(k:Int):Option (List Vl×Vl) :=
 if l.length=50 then none else if 0<=k/\k.toNat<(kids a v).length then
  (if((kids a v).getD k.toNat (.u,.u)).1.nodes<=200 then some (l++[((kids a v).getD k.toNat (.u,.u)).1],((kids a v).getD k.toNat (.u,.u)).2)else none)else none
theorem tG{a:Ty}{l:List Vl}{c e v:Vl}(h:.f (cx a c e)=v)(hn:v.nodes<=200):rY a (l++[c]) e=some (l,v)/\qM a (l++[c]) e=qM a l v:=by
 have hu:rY a (l++[c]) e=some (l,v):=by
  unfold rY
  rw[List.getLast?_concat]
  simp only
  rw[h,if_pos hn,List.dropLast_concat]
 refine⟨hu,?_⟩
 unfold qM
 rw[an,List.length_singleton,iR,hu]
 rfl
theorem BO{s d:Nm}{l:List Vl}{v:Vl}(hs:St s d (zA s) l v)(hd:cP s=some d)(hv:gU s (l.map (·.cf)) v.cf=some (l,v)){k:Hl}(hk:k∈kids (zA s) v) :
 gU s (l.map (·.cf)++[k.1.cf]) k.2.cf=if l.length=50 then none else if k.1.nodes<=200 then some (l++[k.1],k.2)else none:=by
 obtain⟨x,A,B,D,z⟩:=hs.z
 obtain⟨t1,t2,t3⟩:=z.KJ hs.i.nH hk
 have hb:=(en hs.i.nH.fy hk).1
 have hz:=(gB hv).1
 have hclo:=(gB hv).2
 have hlen:=hs.len
 have hlp:eX d (l.map (·.cf))=some l:=by
  rw[vX,hd]at hz
  simp only[aR,z.l]at hz
  obtain⟨_,h1,h2⟩:=aW.1 hz
  split at h2
  ·obtain⟨l',h3,h4⟩:=Option.map_eq_some_iff.1 h2
   cases h4;exact h3
  ·cases h2
 have e1:mn s k.2.cf 100=some k.2:=by rw[z.cf t2.fy t2.ty,if_pos t2.nd]
 unfold gU
 rw[vX,hd]
 simp only[aR,z.l,e1,uw,hlp,eX,z.To hb t1,an,cr,List.length_singleton]
 by_cases h50:l.length=50
 ·rw[if_neg (by omega),if_pos h50];rfl
 ·rw[if_pos (by omega),if_neg h50]
  by_cases hn:k.1.nodes<=200
  ·rw[if_pos hn,if_pos hn]
   simp only[cq,aR,(tG (l:=l) t3 hs.i.nH.nd).2]
   rw[if_pos hclo]
  ·rw[if_neg hn,if_neg hn];rfl
end Go.Proofs.Trees
namespace Go.Proofs.Trees
open Go Go.VL Go.RowKit
def Es(s:Nm)(o:Option (List Vl×Vl)):AV->List Ob->Prop:=fun r obs=>obs=[]/\∃pa,cN pa (tZ s o).2.1/\r=.cm [.agg [.v (.string (mk (tZ s o).1)),pa,.v (.string (mk (tZ s o).2.2))],.v (.bool o.isSome)]
theorem Es.ne(s:Nm)(o:Option (List Vl×Vl)):∃r ob,Es s o r ob:=⟨_,[],rfl,_,cN.of _,rfl⟩
theorem Es.none(s:Nm):Es s none (.cm [.agg [.v (.string (mk [])),.v (.slice none 0 0),.v (.string (mk []))],.v (.bool false)]) []:=⟨rfl,_,cN.nil,rfl⟩
theorem vi{s:Nm}{p:List Nm}{f:Nm}{l:List Vl}{v:Vl}(h:gU s p f=some (l,v)):∃d,St s d (zA s) l v/\p=l.map (·.cf)/\f=v.cf:=xU (gB h).1
abbrev T9(s:Nm)(o:Option (List Vl×Vl)):AV->List Ob->Prop:=di (.cm [.agg [.v (.string (mk (tZ s o).1)),.vec 1,.v (.string (mk (tZ s o).2.2))],.v (.bool o.isSome)]) [.dead,.vec 1 (bW (tZ s o).2.1)]
theorem KF(s:Nm)(p:List Nm)(f:Nm):aq Tryz.prog 91 [.agg [.v (.string (mk s)),.vec 0,.v (.string (mk f))]] [.vec 1 (bW p)] (T9 s (gU s p f)):=by
 refine UN _ _ _ ?_
 unfold Q2
 refine aj (EY s _ p (cN.of p) f) ?_
 simp only[↓zq,zs,ae]
 cases q:gU s p f with
 |none=>simp only[ba];exact⟨fun _=>⟨rfl,rfl⟩,fun h=>by simp at h⟩
 |
  some r =>
  obtain⟨_,_,rfl,rfl⟩:=vi (l:=r.1) (v:=r.2) q
  simp only[aU]
  exact⟨fun h=>by simp at h,fun _=>⟨rfl,rfl⟩⟩
theorem w7(s f:Nm):gU s [] f=tP s [] f:=by
 unfold gU
 cases q:tP s [] f with
 |none=>rfl
 |
  some r =>
  obtain⟨l,v⟩:=r
  obtain⟨_,_,h,_⟩:=xU q
  have:l=[]:=List.map_eq_nil_iff.1 h.symm
  subst this
  rfl
theorem TB(s f:Nm):aq Tryz.prog 88 [.v (.string (mk s)),.v (.string (mk f))] [] (D4 s (tP s [] f)):=by
 refine Ua _ _ ?_
 unfold OU
 rw[<-w7]
 refine aY (KF s [] f) ?_
 simp only[↓zq,zs,ae,zt,aH,Ob.es,aK,bB]
 exact⟨rfl,rfl⟩
theorem Ni(s:Nm)(pa:AV)(p:List Nm)(hp:cN pa p)(f g:Nm):aq Tryz.prog 47 [.agg [.v (.string (mk s)),pa,.v (.string (mk f))],.v (.string (mk g))] [] (D4 s (vo s p f g)):=by
 refine U6 _ _ _ _ hp.1 ?_
 unfold Nd
 refine aj (EY s pa p hp f) ?_
 simp only[↓zq,zs,ae]
 unfold vo
 cases q:gU s p f with
 |none=>simp only[ba];exact⟨fun _=>⟨rfl,rfl⟩,fun h=>by simp at h⟩
 |
  some r =>
  obtain⟨l,v⟩:=r
  obtain⟨d,hs,rfl,_⟩:=vi q
  have hl:=hs.len
  simp only[aU,aR]
  refine⟨fun h=>by simp at h,fun _=>?_⟩
  refine⟨⟨hp.1,fun y hy=>?_,?_⟩,?_⟩
  ·rw[hp.2]at hy
   obtain⟨t,_,rfl⟩:=bM.1 hy
   rfl
  ·rw[hp.len,cr];simp;omega
  rw[aS,hp.2]
  refine aY (KF s _ g) ?_
  simp only[↓zq,zs,ae,zt,aH,Ob.es,aK,bB]
  exact⟨rfl,rfl⟩
theorem Lc(s:Nm)(pa:AV)(p:List Nm)(hp:cN pa p)(f:Nm):aq Tryz.prog 48 [.agg [.v (.string (mk s)),pa,.v (.string (mk f))]] [] (bP (re (po s p f))):=by
 refine U0 _ _ _ hp.1 ?_
 unfold Og
 refine aj (EY s pa p hp f) ?_
 simp only[↓zq,zs,ae]
 unfold po
 cases q:gU s p f with
 |none=>simp only[ba];exact⟨fun _=>⟨rfl,rfl⟩,fun h=>by simp at h⟩
 |
  some r =>
  obtain⟨l,v⟩:=r
  obtain⟨d,hs,rfl,rfl⟩:=vi q
  obtain⟨w,hw⟩:=bb.1 (gB q).2
  simp only[aU,aR,hw,cq]
  refine⟨fun h=>by simp at h,fun _=>?_⟩
  refine aQ (Mg hs pa hp) (Dd.ne _) ?_
  rintro r o ⟨rfl,c0,p',c2,h1,rfl,h2⟩
  have:=h2 w hw
  subst this
  simp only[↓zq,zs,ae,zt,bC]
  exact⟨h1,rfl,rfl⟩
def mC(l:List Hl):List (List AV):=l.map fun h=>[.v (.string (mk h.1.cf)),.v (.string (mk h.2.cf))]
theorem py(l:List Hl):(mC l).length=l.length:=by simp[mC]
theorem Mk(l:List Hl)(hl:l.length<=1000)(h1:∀h,h∈l->h.1.cf.length<=900000)(h2:∀h,h∈l->h.2.cf.length<=900000):∀(k i:Nat) (out:List Hl),i+k=l.length->out.length<=i ->
 JI [.sl (kG l),.v (.int .i64 (i:Int))] [.vec 2 (mC out)] (gS 1 [] [.vec 2 (mC (out++l.drop i))])
 |
  0,i,out,hi,ho=>by
  refine OM _ _ _ ?_
  have:i=l.length:=by omega
  subst this
  simp only[HF,↓zq,zs,ae,eg,List.drop_length]
  exact⟨fun h=>by omega,fun _=>by simp[gS]⟩
 |
  k+1,i,out,hi,ho=>by
  have hlt:i<l.length:=by omega
  have hm:=bn hlt
  have t1:=En (l[i]).1.cI (jh _) (h1 _ hm)
  have t2:=En (l[i]).2.cI (jh _) (h2 _ hm)
  rw[cT]at t1 t2
  refine OM _ _ _ ?_
  simp only[HF,↓zq,zs,ae,zt,eg,eN hlt,bC,aX]
  refine⟨fun _=>?_,fun h=>by omega⟩
  repeat refine⟨by omega,?_⟩
  refine aj t1 ?_
  simp only[↓zq,zs,ae,zt]
  repeat refine⟨by omega,?_⟩
  refine aj t2 ?_
  simp only[↓zq,zs,ae,zt,py]
  refine⟨⟨fun c hc=>by simp at hc;rw[hc];rfl,by omega⟩,?_⟩
  rw[bD i (by omega),aM hlt]
  have:=Mk l hl h1 h2 k (i+1) (out++[l[i]]) (by omega) (by simp;omega)
  rw[a6]at this
  simpa[mC]using this
theorem Va(l:List Hl)(hl:l.length<=1000)(h1:∀h,h∈l->h.1.cf.length<=900000)(h2:∀h,h∈l->h.2.cf.length<=900000):aq Tryz.prog 36 [.sl (kG l)] [] (bP (.sl (mC l))):=by
 refine UJ _ ((cc _).mpr trivial) ?_
 unfold O0
 refine cC (Mk l hl h1 h2 l.length 0 [] (by omega) (by simp)) ?_
 simp only[↓zq,zs,ae]
 exact⟨rfl,rfl⟩
theorem wI{a:Ty}{v:Vl}(h:Fo a v){k:Hl}(hk:k∈kids a v):k.1.cf.length<=900000/\k.2.cf.length<=900000:=by
 obtain⟨b1,b2⟩:=en h.fy hk
 have h1:=eZ _ b1
 have h2:=eZ _ b2
 have h3:=fT hk
 have h4:=h.nd
 have h5:k.1.nodes<=4*v.nodes:=by
  cases v with
  |f w=>have:=(gu hk).2;simp only[Vl.nodes];omega
  |_=>cases hk
 omega
theorem SL{s d:Nm}{a:Ty}{x A B:E}{D:Ty}(z:ZT s d a x A B D)(v:Vl)(hv:Fo a v):aq Tryz.prog 13 [.v (.string (mk s)),.v (.string (mk v.cf))] [] (bP (.cm [.sl (mC (kids a v)),.v (.bool true)])):=by
 have hv2:mn s v.cf 100=some v:=by rw[z.cf hv.fy hv.ty,if_pos hv.nd]
 have hP:=P3.of x A B
 have hn:=hv.nd
 obtain⟨v0,hv0,_⟩:=mL .nil z.hx (hv.eS z)
 have hkids:=FK 100 v x A B a z.body z.hx v0 hv0 (hv.eS z) (by omega)
 have hV:=P2.of (.atom [102]) v0.cI
 refine Un _ _ ?_
 unfold Lm
 refine aQ (DU s) (iT.ne _ _ (fun h=>h)) ?_
 rintro r o ⟨c,e,he,rfl,hh⟩
 rw[z.le]at hh
 obtain⟨e',he',hce⟩:=hh rfl
 cases he'
 rw[cT]at hce
 rw[hce,z.le]
 simp only[↓zq,zs,ae,zt,aL,bL]
 repeat refine⟨by omega,?_⟩
 refine aQ (Jr v.cf) (iT.ne _ _ (fun h=>by simpa using h)) ?_
 rw[sg hv.fy hn]
 rintro r o ⟨c,e,he,rfl,hh⟩
 obtain⟨e',he',hce⟩:=hh rfl
 cases he'
 rw[cT]at hce
 rw[hce]
 simp only[↓zq,zs,ae,zt,aL,aU]
 repeat refine⟨by omega,?_⟩
 refine⟨fun h=>by simp at h,fun _=>?_⟩
 refine aj (F7 s v.cf 100) ?_
 rw[hv2,hv0]
 simp only[toNat_one,bj,Vl.cI,bL,↓zq,zs,ae,zt,hP.1,hP.2.1,hP.2.2.1,hP.2.2.2,hV.1,hV.2.1,hV.2.2,aL,aX,aU]
 refine⟨fun h=>by simp at h,fun _=>?_⟩
 repeat refine⟨by omega,?_⟩
 refine aj hkids ?_
 simp only[↓zq,zs,ae]
 repeat refine⟨by omega,?_⟩
 have hlen:=lU a v
 have:=mf (kids a v)
 refine aj (Va (kids a v) (by omega) (fun h hh=>(wI hv hh).1) (fun h hh=>(wI hv hh).2)) ?_
 rw[<-hv0]
 simp only[↓zq,zs,ae]
 exact⟨rfl,rfl⟩
end Go.Proofs.Trees
namespace Go.Proofs.Trees
open Go Go.VL Go.RowKit
theorem lQ{a:Ty}{l l':List Vl}{v w:Vl}{k:Int}(h:rS a l v k=some (l',w)):∃q,q∈kids a v/\l'=l++[q.1]/\w=q.2/\q.1.nodes<=200/\l.length≠50/\0<=k/\(kids a v)[k.toNat]?=some q:=by
 unfold rS at h
 split at h
 ·cases h
 ·rename_i h0
  split at h
  ·rename_i h1
   split at h
   ·rename_i h2
    cases h
    have e:(kids a v).getD k.toNat (.u,.u)=(kids a v)[k.toNat]'h1.2:=by simp[aa,h1.2]
    rw[e]at h2 |-
    exact⟨_,bn _,rfl,rfl,h2,h0,h1.1,by simp[h1.2]⟩
   ·cases h
  ·cases h
end Go.Proofs.Trees
