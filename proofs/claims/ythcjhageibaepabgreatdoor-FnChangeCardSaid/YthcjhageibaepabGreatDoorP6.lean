/-
  Part of a proof: Go functions read by values, trees of functions, their contracts.
-/
import Derived.Test.YthcjhageibaepabGreatDoorP5
set_option linter.unusedVariables false
set_option linter.unusedSimpArgs false
open Bool renaming and_eq_true→aA,eq_iff_iff→cJ,or_eq_false_iff→cF,or_eq_true→bI,true_and→cb
open ByteArray renaming toList→ae
open Int renaming toNat_natCast→bF
open List renaming all_cons→di,all_eq_true→cd,append_assoc→aY,append_nil→df,cons_append→bj,drop_eq_getElem_cons→aL,drop_zero→aZ,eq_nil_of_length_eq_zero→cg,flatMap_cons→bU,getD_cons_zero→bG,getD_eq_getElem?_getD→aa,getElem?_eq_getElem→a7,getElem_mem→bh,headD_cons→aM,length_append→an,length_cons→aw,length_map→cn,length_nil→aF,map_cons→bA,mem_append→aP,mem_append_left→aD,mem_append_right→aC,mem_cons→aI,mem_cons_of_mem→al,mem_cons_self→ak,mem_flatMap→dA,mem_map→bO,mem_singleton→aU,nil_append→aR,tail_cons→bx
open Nat renaming le_add_right→dj,le_refl→au,mul_add→cZ,mul_one→dO,zero_add→ba,zero_le→dM
open Option renaming bind_eq_some_iff→bc,bind_none→bC,bind_some→aS,getD_some→cH,isSome_iff_exists→a8,isSome_none→bf,isSome_some→a6,map_some→cz
open UInt8 renaming ofNat→bp
namespace Go.Proofs.Trees
open Go Go.VL Go.RowKit
theorem OL(s:List UInt8)(te:E)(a:Ty)(tg:Tg)(l:List Hl)(hl:l.length<=1000000)(ih:∀h,h∈l->aq Tryz.prog 37 [.agg [.v (.string (mk te.at)),te.sp],.v (.string (mk s)),.agg [.v (.string (mk h.2.cG.at)),h.2.cG.sp]] [] (bN (.sl (kh (bQ (.rc a) tg h.2))))) :
 ∀(k i:Nat) (out:List Hl),i+k=l.length->(out++(l.drop i).flatMap (BJ a tg)).length<=1000000 ->
 Ha [.v (.string (mk s)),.sl (kh l),.v (.int .i64 (i:Int))] [.cells [.v (.string (mk te.at)),te.sp],.vec 4 (kh out)] (gK 1 [] [.vec 4 (kh (out++(l.drop i).flatMap (BJ a tg)))])
 |
  0,i,out,hi,ho=>by
  refine N2 _ _ _ _ _ _ ?_
  have:i=l.length:=by omega
  subst this
  simp only[GX,↓zq,zs,af,dZ,aV,af]
  exact⟨fun h=>by omega,fun _=>by simp[gK]⟩
 |
  k+1,i,out,hi,ho=>by
  have hlt:i<l.length:=by omega
  have hd:(l.drop i).flatMap (BJ a tg)=BJ a tg (l[i])++(l.drop (i+1)).flatMap (BJ a tg):=by rw[aL hlt,bU]
  rw[hd]at ho |-
  refine N2 _ _ _ _ _ _ ?_
  simp only[GX,↓zq,zs,af,zt,dZ,eG hlt,jQ,aK,aV,af]
  refine⟨fun _=>?_,fun h=>by omega⟩
  repeat refine⟨by omega,?_⟩
  refine aj (ih _ (CF l hlt)) ?_
  simp only[↓zq,zs,af]
  have hb:out.length+(bQ (.rc a) tg (l[i]).2).length<=1000000:=by
   simp only[an,gf]at ho;omega
  have h5:=Oo s (.sl (kh l)) i (l[i]).1 (l[i]).2 ((cc _).mpr trivial) (by rw[fy,dZ];omega) (by rw[fy,eG hlt]) (mk te.at) te.sp ((aV _).mpr trivial) (bQ (.rc a) tg (l[i]).2) (by omega) (bQ (.rc a) tg (l[i]).2).length 0 out (by omega) (by omega)
  rw[aZ]at h5
  refine cA h5 ?_
  simp only[↓zq,zs,af,aV,af]
  repeat refine⟨by omega,?_⟩
  rw[bB i (by omega),<-aY]
  exact OL s te a tg l hl ih k (i+1) _ (by omega) (by rw[aY];exact ho)
end Go.Proofs.Trees
namespace Go.Proofs.Trees
open Go Go.VL Go.RowKit
theorem Bk{env:List Fr}(h:WF env):∀w,w∈names env->dx w=true:=by
 induction h with
 |nil=>intro w hw;cases hw
 |
  cons hs _ _ _ _ _ ih =>
  intro w hw
  simp only[names,aP,aU]at hw
  rcases hw with hw|rfl
  ·exact ih w hw
  ·exact hs
theorem Db{ar:List (List UInt8)}{k:Nat}(h:k<ar.length):gH ar k∈ar:=by
 unfold gH
 have:ar.length-1-k<ar.length:=by omega
 simp[aa,this]
def CX(s:List UInt8)(ar:List (List UInt8)):Prop:=ib s=true\/(bT s ar ar.length).isSome=true
theorem wO{s:List UInt8}{ar:List (List UInt8)}{u:Nat}(hl:∀w,w∈ar->dx w=true)(h:bT s ar ar.length=some u):dx s=true:=by
 obtain⟨h1,h2⟩:=fS _ _ (au _) h
 rw[<-h2];exact hl _ (Db h1)
theorem HS{s0 s:List UInt8}{ar:List (List UInt8)}{t:Ty}(ht:cY (.atom s0) ar=some t)(hl:∀w,w∈ar->dx w=true)(hs:CX s ar):eH t (qc s ar)=decide (s0=s):=by
 have h48:∀b:UInt8,ib [b]=false->dx [b]=false->s≠[b]:=fun b h1 h2 e=>by
  subst e
  rcases hs with h|h
  ·rw[h1]at h;cases h
  ·obtain⟨u,hu⟩:=a8.1 h
   rw[wO hl hu]at h2;cases h2
 simp only[cY]at ht
 split at ht
 ·rename_i e;cases ht;subst e
  have:=h48 48 rfl rfl
  rw[decide_eq_false (fun h=>this h.symm)];cases qc s ar<;>rfl
 ·split at ht
  ·rename_i e;cases ht;subst e
   have:=h48 49 rfl rfl
   rw[decide_eq_false (fun h=>this h.symm)];cases qc s ar<;>rfl
  ·split at ht
   ·rename_i hp
    cases ht
    unfold qc
    cases e:bT s ar ar.length with
    |none=>rfl
    |
     some u =>
     have hloo:=wO hl e
     show false=_
     rw[decide_eq_false]
     rintro rfl
     rw[kU hp]at hloo;cases hloo
   ·rename_i hnp
    split at ht
    ·split at ht
     ·rename_i u hu
      cases ht
      unfold qc
      cases e:bT s ar ar.length with
      |
       none =>
       show false=_
       rw[decide_eq_false]
       rintro rfl
       rw[hu]at e;cases e
      |
       some u' =>
       show decide (u=u')=_
       rw[cJ,decide_eq_true_eq,decide_eq_true_eq]
       constructor
       ·rintro rfl
        rw[<-(fS _ _ (au _) hu).2,<-(fS _ _ (au _) e).2]
       ·rintro rfl
        rw[hu]at e;cases e;rfl
     ·rename_i hn
      cases ht
      unfold qc
      cases e:bT s ar ar.length with
      |none=>rfl
      |
       some u =>
       show false=_
       rw[decide_eq_false]
       rintro rfl
       rw[hn]at e;cases e
    ·cases ht
theorem Ft{b:E}{ar:List (List UInt8)}{w:List UInt8}{t:Ty}(hb:cY b (ar++[w])=some t)(hw:dx w=true)(hs:CX w ar):wg t (qc w ar).up=false:=by
 rcases hs with h|h
 ·rw[kU h]at hw;cases hw
 ·obtain⟨u,hu⟩:=a8.1 h
  rw[qc,hu];exact H8 hb hu
theorem AU{s w:List UInt8}{ar:List (List UInt8)}(h:w≠s)(hs:CX s ar):CX s (ar++[w]):=by
 rcases hs with h1|h1
 ·exact .inl h1
 ·right;rw[j1 ar h];obtain⟨u,hu⟩:=a8.1 h1;rw[hu];rfl
def Rz(e:E)(s:List UInt8)(t:Ty)(tg:Tg)(v:Vl):Prop:=aq Tryz.prog 37 [.agg [.v (.string (mk e.at)),e.sp],.v (.string (mk s)),.agg [.v (.string (mk v.cG.at)),v.cG.sp]] [] (bN (.sl (kh (bQ t tg v))))
theorem GN(n:Nat):∀(m:Nat) (v:Vl),v.nodes<=m->∀(e:E) (env:List Fr) (t:Ty),Ask e env t->eF n v (e,env)=true->env.length+v.nodes<100000->∀(s:List UInt8),CX s (names env)->Rz e s t (qc s (names env)) v
 |0,v,hm=>by have:=cM v;omega
 |
  m+1,v,hm=>by
  intro e env t A hv hl s hs
  have hloo:=Bk A.wf
  unfold Rz
  refine Ul _ _ _ _ _ ((aV _).mpr trivial) ((aV _).mpr trivial) ?_
  have hlen:=nU t (qc s (names env)) v
  have atomCase:∀s0,e=.atom s0->stuck t v=true->fk Tryz.prog 244 (HN (mk e.at) e.sp (mk s) (mk v.cG.at) v.cG.sp) fun _ xs obs=>bN (.sl (kh (bQ t (qc s (names env)) v))) (xs.headD .any) obs:=by
   rintro s0 rfl hst
   have hat:=HS A.ty hloo hs
   have hne:s0≠[]:=A.ok
   simp only[HN,E.at,↓zq,zs,af,zt]
   refine⟨fun _=>⟨fun h=>?_,fun h=>?_⟩,fun h=>absurd h hne⟩
   ·rw[decide_eq_true h]at hat
    rw[kk v hat]
    refine⟨⟨AS _ _ _ _,by omega⟩,?_⟩
    simp[bN,kh,Vl.cG,E.at,E.sp]
   ·rw[decide_eq_false h]at hat
    rw[dE hat hst]
    simp[bN,kh]
  have hvh:=Dh v
  rw[cU]at hvh
  rcases gP A.wf A.ty with⟨hb,hq⟩|⟨u,g,rfl,hq,hu⟩
  ·have hhd:hd e env=(e,env):=kV hq
   rcases fQ A.ty hb A.cl with⟨rfl,rfl⟩|⟨rfl,rfl⟩|⟨s0,rfl,rfl,hp,h0,h1⟩|⟨x,a,b,t1,t2,rfl,hx,rfl,ha,hbb⟩|⟨x,a,b,t1,t2,rfl,hx,rfl,ha,hbb⟩|⟨x,a,b,t1,rfl,hx,rfl⟩
   ·exact atomCase _ rfl (by cases v<;>rfl)
   ·exact atomCase _ rfl (by cases v<;>rfl)
   ·exact atomCase _ rfl (by cases v<;>rfl)
   ·obtain⟨ok1,ok2,ok3,_⟩:=A.ok
    obtain⟨f1,f2⟩:=fI A.cl
    have hP:=P3.of x a b
    cases v with
    |
     l w =>
     simp only[eF,hhd,hx,beq_self_eq_true,cb]at hv
     simp only[Vl.nodes]at hm hl hlen
     rw[jA]at hlen |-
     rw[gf]at hlen
     have hW:=P2.of (.atom [108]) w.cG
     simp only[HN,E.at,↓zq,zs,af,zt]
     refine⟨fun h=>absurd rfl h,fun _=>aj hvh ?_⟩
     simp only[vh,Vl.cG,toNat_one,bn,↓zq,zs,af,zt,hP.1,hP.2.1,hP.2.2.1,hP.2.2.2,hW.1,hW.2.1,hW.2.2,aK]
     refine⟨fun _=>?_,fun h=>absurd rfl h⟩
     repeat refine⟨by omega,?_⟩
     refine aj (GN n m w (by omega) a env t1 ⟨ok2,A.wf,ha,f1⟩ hv (by omega) s hs) ?_
     simp only[↓zq,zs,af]
     refine aX (N5 [108] Vl.l (fun c=>rfl) (bQ t1 (qc s (names env)) w) [] (by simp;omega)) ?_
     simp[↓zq,zs,af,bN,aM,bx]
    |
     r w =>
     simp only[eF,hhd,hx,beq_self_eq_true,cb]at hv
     simp only[Vl.nodes]at hm hl hlen
     rw[jw]at hlen |-
     rw[gf]at hlen
     have hW:=P2.of (.atom [114]) w.cG
     simp only[HN,E.at,↓zq,zs,af,zt]
     refine⟨fun h=>absurd rfl h,fun _=>aj hvh ?_⟩
     simp only[vh,Vl.cG,toNat_one,bn,↓zq,zs,af,zt,hP.1,hP.2.1,hP.2.2.1,hP.2.2.2,hW.1,hW.2.1,hW.2.2,aK]
     refine⟨fun h=>by simp at h,fun _=>⟨fun _=>?_,fun h=>absurd rfl h⟩⟩
     repeat refine⟨by omega,?_⟩
     refine aj (GN n m w (by omega) b env t2 ⟨ok3,A.wf,hbb,f2⟩ hv (by omega) s hs) ?_
     simp only[↓zq,zs,af]
     refine aX (N5 [114] Vl.r (fun c=>rfl) (bQ t2 (qc s (names env)) w) [] (by simp;omega)) ?_
     simp[↓zq,zs,af,bN,aM,bx]
    |_=>simp[eF,hhd,hx]at hv
   ·obtain⟨ok1,ok2,ok3,_⟩:=A.ok
    obtain⟨f1,f2⟩:=fj A.cl
    have hP:=P3.of x a b
    cases v with
    |
     p w w' =>
     simp only[eF,hhd,hx,beq_self_eq_true,cb,aA]at hv
     simp only[Vl.nodes]at hm hl hlen
     rw[gA]at hlen |-
     simp only[an,gf]at hlen
     have hW:=P3.of (.atom [112]) w.cG w'.cG
     simp only[HN,E.at,↓zq,zs,af,zt]
     refine⟨fun h=>absurd rfl h,fun _=>aj hvh ?_⟩
     simp only[vh,Vl.cG,toNat_one,bn,↓zq,zs,af,zt,hP.1,hP.2.1,hP.2.2.1,hP.2.2.2,hW.1,hW.2.1,hW.2.2.1,hW.2.2.2,aK]
     refine⟨fun h=>by simp at h,fun _=>⟨fun h=>by simp at h,fun _=>⟨fun _=>?_,fun h=>absurd rfl h⟩⟩⟩
     repeat refine⟨by omega,?_⟩
     refine aj (GN n m w (by omega) a env t1 ⟨ok2,A.wf,ha,f1⟩ hv.1 (by omega) s hs) ?_
     simp only[↓zq,zs,af]
     have h1:=KD s (mk []) (E.list [x,a,b]).sp ((aV _).mpr trivial) (mk []) (E.list [.atom [112],w.cG,w'.cG]).sp w w' (P3.of _ _ _) (bQ t1 (qc s (names env)) w) (by omega) _ 0 [] (ba _) (by simp;omega)
     rw[aZ,aR]at h1
     refine cA h1 ?_
     simp only[↓zq,zs,af,aV,af,bn,hP.1,hP.2.1,hP.2.2.2,hW.1,hW.2.1,hW.2.2.2,aK]
     repeat refine⟨by omega,?_⟩
     refine aj (GN n m w' (by omega) b env t2 ⟨ok3,A.wf,hbb,f2⟩ hv.2 (by omega) s hs) ?_
     simp only[↓zq,zs,af]
     have h2:=KU (mk []) (E.list [.atom [112],w.cG,w'.cG]).sp w w' (P3.of _ _ _) (bQ t2 (qc s (names env)) w') (by omega) _ 0 (fp (fun c=>Vl.l (.p c w')) (bQ t1 (qc s (names env)) w)) (ba _) (by rw[gf];omega)
     rw[aZ]at h2
     refine cA h2 ?_
     simp[↓zq,zs,af,bN]
    |_=>simp[eF,hhd,hx]at hv
   ·obtain⟨t1',he1,h1,f1,hw1⟩:=jP A.wf A.ok hx A.ty A.cl
    cases he1
    obtain⟨ok1,ok2,ok3,_⟩:=A.ok
    obtain⟨_,hla,_,_⟩:=dI hx A.ty
    have A':Ask b (.mk a.at (.list [x,a,b]) env::env) t1:=⟨ok3,hw1,h1,f1⟩
    have hnm:names (.mk a.at (.list [x,a,b]) env::env)=names env++[a.at]:=rfl
    have hP:=P3.of x a b
    cases v with
    |
     f w =>
     simp only[eF,hhd,hx,beq_self_eq_true,cb]at hv
     simp only[Vl.nodes]at hm hl hlen
     have hW:=P2.of (.atom [102]) w.cG
     simp only[HN,E.at,↓zq,zs,af,zt]
     refine⟨fun h=>absurd rfl h,fun _=>aj hvh ?_⟩
     simp only[vh,Vl.cG,toNat_one,bn,↓zq,zs,af,zt,hP.1,hP.2.1,hP.2.2.1,hP.2.2.2,hW.1,hW.2.1,hW.2.2,aK]
     refine⟨fun h=>by simp at h,fun _=>⟨fun h=>by simp at h,fun _=>⟨fun h=>by simp at h,fun _=>?_⟩⟩⟩
     repeat refine⟨by omega,?_⟩
     refine⟨fun h=>?_,fun h=>?_⟩
     ·
      have hh:a.at=s:=h
      subst hh
      have:wg (.rc t1) (qc a.at (names env))=false:=Ft h1 hla hs
      rw[jd _ _ (au _) _ _ this]
      simp[bN,kh]
     ·have hh:a.at≠s:=h
      rw[gv]at hlen |-
      simp only[an,gf]at hlen
      repeat refine⟨by omega,?_⟩
      have i1:=GN n m w (by omega) b _ t1 A' hv (by simp;omega) s (by rw[hnm];exact AU hh hs)
      rw[hnm,AJ _ hh]at i1
      refine aj i1 ?_
      simp only[↓zq,zs,af]
      have h3:=NV s a.at (mk []) (E.list [x,a,b]).sp ((aV _).mpr trivial) (mk []) (E.list [.atom [102],w.cG]).sp ((aV _).mpr trivial) (bQ t1 (qc s (names env)).up w) (by omega) _ 0 [] (ba _) (by simp;omega)
      rw[aZ,aR]at h3
      refine cA h3 ?_
      simp only[↓zq,zs,af,aV,af,toNat_one,bn,hP.1,hP.2.1,hP.2.2.2,hW.1,hW.2.1,hW.2.2,aK]
      repeat refine⟨by omega,?_⟩
      have i2:=GN n m w (by omega) b _ t1 A' hv (by simp;omega) a.at (by rw[hnm];right;rw[fH];rfl)
      rw[hnm,wJ]at i2
      refine aj i2 ?_
      simp only[↓zq,zs,af]
      have hl2:=nU t1 (.bd 0) w
      have ih3:∀h,h∈bQ t1 (.bd 0) w->Rz (.list [x,a,b]) s (.rc t1) (qc s (names env)) h.2:=fun h hh=>by
       have h3:=(gn hh).1
       have h4:=gR n m w (by omega) b _ t1 A' hv 0 _ rfl h hh
       exact GN n m h.2 (by omega) (.list [x,a,b]) env (.rc t1) A h4 (by omega) s hs
      have h4:=OL s (.list [x,a,b]) t1 (qc s (names env)) (bQ t1 (.bd 0) w) (by omega) ih3 _ 0 (fp (fun c=>.f (.l c)) (bQ t1 (qc s (names env)).up w)) (ba _) (by
       simp only[aZ,an,gf]
       have hlen2:(bQ t1 (qc s (names env)).up w).length+((bQ t1 (.bd 0) w).flatMap (BJ t1 (qc s (names env)))).length<=1+w.nodes:=hlen
       omega)
      rw[aZ]at h4
      simp only[E.at]at h4
      refine cA h4 ?_
      simp[↓zq,zs,af,bN]
    |_=>simp[eF,hhd,hx]at hv
  ·cases e with
   |atom s0=>exact atomCase _ rfl (by cases v<;>rfl)
   |list l=>exact absurd hq (by rw[show (E.list l).at=[] from rfl,lW A.wf];simp)
end Go.Proofs.Trees
namespace Go.Proofs.Trees
open Go Go.VL Go.RowKit
def kids(a:Ty):Vl->List Hl
 | .f w=>bQ a (.bd 0) w
 |_=>[]
theorem lZ(a:Ty)(v:Vl):jf (kids a v)+1<=v.nodes:=by
 cases v with
 |f w=>have:=sw a (.bd 0) w;simp only[kids,Vl.nodes];omega
 |_=>simp only[kids,jf,Vl.nodes,List.map_nil,List.sum_nil];omega
theorem gd{a:Ty}{v:Vl}{h:Hl}(hh:h∈kids a v):h.2.nodes<v.nodes:=by
 cases v with
 |f w=>have:=(gn hh).1;simp only[Vl.nodes];omega
 |_=>cases hh
theorem eD{n:Nat}{a:Ty}{v:Vl}{h:Hl}(hv:v.fu n)(hh:h∈kids a v):h.1.fu n/\h.2.fu n:=by
 cases v with
 |f w=>exact iH n _ _ _ w h hv hh
 |_=>cases hh
abbrev Pt:=Vl×List Nat
def m8(pl:List Nat):List Hl->Nat->List Pt
 |[],_=>[]
 |h::l,i=>(h.2,pl++[i])::m8 pl l (i+1)
theorem nw{pl:List Nat}{q:Pt}:∀{l:List Hl} {i:Nat},q∈m8 pl l i->∃h,h∈l/\q.1=h.2
 |[],_,hq=>by cases hq
 |
  h::l,i,hq=>by
  rcases aI.1 hq with rfl|hq
  ·exact⟨h,ak,rfl⟩
  ·obtain⟨k,h1,h2⟩:=nw hq
   exact⟨k,al _ h1,h2⟩
theorem A4(pl:List Nat)(l:List Hl){i:Nat}(hi:i<l.length):m8 pl (l.drop i) i=((l[i]).2,pl++[i])::m8 pl (l.drop (i+1)) (i+1):=by
 rw[aL hi,m8]
def jU:Nat->Ty->Pt->List Pt
 |0,_,_=>[]
 |n+1,a,p=>p::(m8 p.2 (kids a p.1) 0).flatMap (jU n a)
theorem w8{f:Pt->List Pt}(hf:∀q,(f q).length<=q.1.nodes)(pl:List Nat):∀(l:List Hl) (i:Nat),((m8 pl l i).flatMap f).length<=jf l
 |[],i=>by simp[m8]
 |
  h::l,i=>by
  have:=w8 hf pl l (i+1)
  have:=hf (h.2,pl++[i])
  simp only[m8,bU,an,jf,bA,List.sum_cons]at *;omega
theorem oS:∀(n:Nat) (a:Ty) (p:Pt),(jU n a p).length<=p.1.nodes
 |0,a,p=>dM _
 |
  n+1,a,p=>by
  have:=w8 (f:=jU n a) (fun q=>oS n a q) p.2 (kids a p.1) 0
  have:=lZ a p.1
  simp only[jU,aw];omega
def IX(f:List Pt->List Pt)(ps:List Pt):Prop:=∀out,(out.length+ps.length<=100->f out=out++ps)/\(100<out.length+ps.length->100<(f out).length)/\out.length<=(f out).length/\(f out).length<=out.length+ps.length
theorem uq{g:List Pt->Pt->List Pt}{ps:Pt->List Pt}:∀(qs:List Pt),(∀q,q∈qs->IX (fun o=>g o q) (ps q))->IX (fun o=>qs.foldl g o) (qs.flatMap ps)
 |[],_=>fun out=>by simp
 |
  q::qs,h=>fun out=>by
  have ih:=uq qs fun q hq=>h q (al _ hq)
  obtain⟨a1,a2,a3,a4⟩:=h q ak out
  obtain⟨b1,b2,b3,b4⟩:=ih (g out q)
  simp only[List.foldl_cons,bU,an]at *
  refine⟨fun hle=>?_,fun hlt=>?_,by omega,by omega⟩
  ·rw[a1 (by omega)]at b1 |-
   rw[b1 (by rw[an];omega),aY]
  ·by_cases hq:out.length+(ps q).length<=100
   ·rw[a1 hq]at b2 |-
    exact b2 (by rw[an];omega)
   ·have:=a2 (by omega);omega
def mS:Nat->Ty->List Pt->Pt->List Pt
 |0,_,out,_=>out
 |n+1,a,out,p=>(m8 p.2 (kids a p.1) 0).foldl (fun o q=>if o.length<=100 then mS n a o q else o) (out++[p])
theorem tn:∀(n:Nat) (a:Ty) (p:Pt),p.1.nodes<=n->IX (fun o=>mS n a o p) (jU n a p)
 |0,a,p,h=>by have:=cM p.1;omega
 |
  n+1,a,p,h=>fun out=>by
  have hk:=uq (g:=fun o q=>if o.length<=100 then mS n a o q else o) (ps:=jU n a) (m8 p.2 (kids a p.1) 0) fun q hq=>fun o=>by
   obtain⟨k,h1,h2⟩:=nw hq
   have:=gd h1
   have hw:=tn n a q (by rw[h2];omega) o
   have hpos:0<(jU n a q).length:=by
    cases n with
    |zero=>have:=cM k.2;omega
    |succ n=>simp[jU]
   simp only at hw |-
   split
   ·exact hw
   ·exact⟨fun hle=>by omega,fun _=>by omega,au _,by omega⟩
  obtain⟨b1,b2,b3,b4⟩:=hk (out++[p])
  simp only[mS,jU,aw,an,aF]at *
  refine⟨fun hle=>?_,fun hlt=>b2 (by omega),by omega,by omega⟩
  rw[b1 (by omega),aY];rfl
def parts(a:Ty)(v:Vl):List Pt:=jU v.nodes a (v,[])
theorem yz(a:Ty)(v:Vl):((parts a v).length<=100->mS v.nodes a [] (v,[])=parts a v)/\(100<(parts a v).length->100<(mS v.nodes a [] (v,[])).length)/\(mS v.nodes a [] (v,[])).length<=v.nodes:=by
 obtain⟨h1,h2,_,h4⟩:=tn v.nodes a (v,[]) (au _) []
 have:=oS v.nodes a (v,[])
 simp only[aF,ba,aR]at h1 h2 h4 this
 exact⟨h1,h2,Nat.le_trans h4 this⟩
end Go.Proofs.Trees
namespace Go.Proofs.Trees
open Go Go.VL Go.RowKit
def gy(s:List UInt8):Option Ty:=match xF s with
 |some (.rc a)=>some a
 |_=>none
def Co:Option Ty->AV
 |some a=>(Ty.rc a).av
 |none=>iW
theorem TY(s:List UInt8):aq Tryz.prog 51 [.v (.string (mk s))] [] (bN (Co (gy s))):=by
 refine R7 _ ?_
 unfold Ps
 refine aj (NC s) ?_
 cases h:xF s with
 |none=>simp[↓zq,zs,af,iJ,Co,gy,h,bN]
 |some t=>cases t<;>simp[↓zq,zs,af,iJ,Co,gy,h,bN,Ty.av]
def gM(s v:List UInt8):Option Vl:=match gy s with
 |some _=>mZ s v 100
 |none=>none
def CJ(s:List UInt8):AV:=match gy s with
 |some a=>(Ty.rc a).av
 |none=>iW
theorem uR{s:List UInt8}{a:Ty}(h:gy s=some a):xF s=some (.rc a):=by
 unfold gy at h
 split at h
 ·rename_i e;cases h;exact e
 ·cases h
theorem H4(s v:List UInt8):aq Tryz.prog 24 [.v (.string (mk s)),.v (.string (mk v))] [] (bN (.cv [CJ s,iT (gM s v)])):=by
 refine Rr _ _ ?_
 unfold Oz
 refine aj (TY s) ?_
 cases h:gy s with
 |none=>simp[↓zq,zs,af,Co,CJ,gM,h,bN,iT]
 |
  some a =>
  simp only[↓zq,zs,af,Co,aE,fX]
  refine⟨fun h=>(by cases h),fun _=>?_⟩
  refine aj (M3 s v 100) ?_
  rw[uR h]
  simp[↓zq,zs,af,iJ,fO,CJ,gM,h,bN,aE]
structure LV(s v:List UInt8)(w:Vl)(a:Ty)(x A B:E):Prop where
 l:gy s=some a
 ce:j7 s=some (.list [x,A,B])
 v:rp v=some w
 ask:Ask (.list [x,A,B]) [] (.rc a)
 hx:x.at=[114,101,99]
 Vv:dx A.at=true
 body:Ask B [.mk A.at (.list [x,A,B]) []] a
 eF:eF 100 w (.list [x,A,B],[])=true
theorem ua{e:E}{env:List Fr}{a:Ty}(A:Ask e env (.rc a)):∃x y z,e=.list [x,y,z]/\x.at=[114,101,99]/\dx y.at=true/\Ask z (.mk y.at (.list [x,y,z]) env::env) a:=by
 rcases fQ A.ty rfl A.cl with⟨_,h⟩|⟨_,h⟩|⟨s,_,h,_⟩|⟨x,y,z,t1,t2,_,_,h,_⟩|⟨x,y,z,t1,t2,_,_,h,_⟩|⟨x,y,z,t1,rfl,hx,h⟩
 ·cases h
 ·cases h
 ·cases h
 ·cases h
 ·cases h
 ·cases h
  obtain⟨t1',he1,h1,f1,hw1⟩:=jP A.wf A.ok hx A.ty A.cl
  cases he1
  obtain⟨_,_,ok3,_⟩:=A.ok
  obtain⟨_,hla,_,_⟩:=dI hx A.ty
  exact⟨x,y,z,rfl,hx,hla,ok3,hw1,h1,f1⟩
theorem fW{s v:List UInt8}{w:Vl}(h:gM s v=some w):∃a x A B,LV s v w a x A B:=by
 unfold gM at h
 split at h
 ·rename_i a hl
  obtain⟨e,t,m,h1,h2,h3,h4,h5,h6,h7⟩:=s5 h
  rw[uR hl]at h3
  cases h3
  obtain⟨x,A,B,rfl,hx,hA,hB⟩:=ua h4
  have:m=100:=by omega
  subst this
  exact⟨a,x,A,B,hl,h1,h2,h4,hx,hA,hB,h7⟩
 ·cases h
theorem LV.fu{s v:List UInt8}{w:Vl}{a:Ty}{x A B:E}(h:LV s v w a x A B):w.fu 100:=(mL h.v).2.1
theorem LV.nodes{s v:List UInt8}{w:Vl}{a:Ty}{x A B:E}(h:LV s v w a x A B):w.nodes<=200:=(mL h.v).2.2
theorem mI{n:Nat}{v:Vl}{x A B:E}{env:List Fr}(hw:WF env)(hx:x.at=[114,101,99])(h:eF n v (.list [x,A,B],env)=true):∃w,v=.f w/\eF n w (B,.mk A.at (.list [x,A,B]) env::env)=true:=by
 have hd:=qL (x:=x) (a:=A) (b:=B) hw
 cases v<;>simp[eF,hd,hx]at h |-
 exact h
theorem nn{n:Nat}{v:Vl}{x A B:E}{env:List Fr}{a:Ty}(hA:Ask B (.mk A.at (.list [x,A,B]) env::env) a)(hw:WF env)(hx:x.at=[114,101,99])(h:eF n v (.list [x,A,B],env)=true){k:Hl}(hk:k∈kids a v):eF n k.2 (.list [x,A,B],env)=true:=by
 obtain⟨w,rfl,hv⟩:=mI hw hx h
 exact gR n w.nodes w (au _) B _ a hA hv 0 _ rfl k hk
theorem Jd(n:Nat)(v:Vl)(x A B:E)(a:Ty)(hA:Ask B [.mk A.at (.list [x,A,B]) []] a)(hx:x.at=[114,101,99])(hv:eF n v (.list [x,A,B],[])=true)(hl:v.nodes<90000):aq Tryz.prog 35 [(Ty.rc a).av,v.cI] [] (bN (.sl (gJ (kids a v)))):=by
 obtain⟨w,rfl,hw⟩:=mI .nil hx hv
 refine Tq _ _ ((aE _).mpr trivial) ((aO _).mpr trivial) ?_
 unfold L4
 refine aQ (FN a iW [] .nil) (CI.ne a iW []) ?_
 rintro r o ⟨⟨m,hm,rfl⟩,rfl⟩
 have he2:lz (.ptr [.pid m [(Ty.rc a).av,iW],iW]) [m]:=.cons hm .nil
 have hfr:LK.ptr.has (.pid m [(Ty.rc a).av,iW]):=.inr (.inr ⟨_,_,rfl⟩)
 simp only[Ty.av]at he2 hfr
 simp only[↓zq,zs,af,bE,aE,he2.has,hfr,Vl.cI,aO,Ty.av]
 repeat refine⟨by omega,?_⟩
 simp only[Vl.nodes]at hl
 have i2:=GI n w.nodes w (au _) B _ a hA hw (by simp;omega) _ _ he2 (by simp) (.bd 0) [] _ (by have:=BK.bd (k:=0) (ids:=[m]) (by simp) [(Ty.rc a).av,iW] [];simpa only[bG,Ty.av]using this)
 unfold Is at i2
 refine aj i2 ?_
 simp[↓zq,zs,af,bN,kids]
def dX(l:List Nat):List (List AV):=l.map fun(k:Nat)=>[.v (.int .i64 (k:Int))]
theorem gl(l:List Nat):(dX l).length=l.length:=by simp[dX]
theorem oA(l:List Nat)(k:Nat):dX l++[[.v (.int .i64 (k:Int))]]=dX (l++[k]):=by simp[dX]
theorem nA(l:List Nat):cq 1 (dX l):=fun c hc=>by
 obtain⟨k,_,rfl⟩:=bO.1 hc;rfl
theorem u5(x:AV):cq 1 [[x]]:=fun c hc=>by simp at hc;rw[hc];rfl
theorem A8(l:List Hl):jf (l.drop 0)=jf l:=by rw[aZ]
end Go.Proofs.Trees
namespace Go.Proofs.Trees
open Go Go.VL Go.RowKit
def re(a:AV)(l:List Nat):Prop:=LK.sl.has a/\a.elems=dX l
theorem re.of(l:List Nat):re (.sl (dX l)) l:=⟨(cc _).mpr trivial,rfl⟩
theorem re.nil:re (.v (.slice none 0 0)) []:=⟨(bo).mpr trivial,rfl⟩
theorem re.len{a:AV}{l:List Nat}(h:re a l):a.elems.length=l.length:=by rw[h.2,gl]
theorem re.idx{a:AV}{l:List Nat}(h:re a l){i:Nat}(hi:i<l.length):a.elems.getD i []=[.v (.int .i64 (l.getD i 0:Nat))]:=by
 rw[h.2];simp[dX,aa,hi]
end Go.Proofs.Trees
namespace Go.Proofs.Trees
open Go Go.VL Go.RowKit
def sf(l:List Int):List (List AV):=l.map fun k=>[.v (.int .i64 k)]
def iC(a:AV)(l:List Int):Prop:=LK.sl.has a/\a.elems=sf l
theorem Ba(l:List Int):(sf l).length=l.length:=by simp[sf]
theorem iC.of(l:List Int):iC (.sl (sf l)) l:=⟨(cc _).mpr trivial,rfl⟩
theorem iC.nil:iC (.v (.slice none 0 0)) []:=⟨(bo).mpr trivial,rfl⟩
theorem iC.len{a:AV}{l:List Int}(h:iC a l):a.elems.length=l.length:=by rw[h.2,Ba]
theorem iC.idx{a:AV}{l:List Int}(h:iC a l){i:Nat}(hi:i<l.length):a.elems.getD i []=[.v (.int .i64 (l.getD i 0))]:=by
 rw[h.2];simp[sf,aa,hi]
theorem xE(l:List Nat):dX l=sf (l.map Int.ofNat):=by simp[dX,sf,Function.comp_def]
end Go.Proofs.Trees
namespace Go.Proofs.Trees
open Go Go.VL Go.RowKit
theorem N4(a b:AV)(l r:List Int)(ha:iC a l)(hb:iC b r)(he:l.length=r.length)(hl:l.length<=2000000):∀(m i:Nat),i+m=l.length->l.take i=r.take i->Jt [a,b,.v (.int .i64 (i:Int))] [] (ox (if l=r then(1,[],[])else(2,[.v (.bool false)],[])))
 |
  0,i,hi,ht=>by
  refine Mz _ _ _ ?_
  have:l=r:=by rw[List.take_of_length_le (by omega),List.take_of_length_le (by omega)]at ht;exact ht
  simp only[Ko,↓zq,zs,af,ha.len]
  exact⟨ha.1,hb.1,ha.1,fun h=>by omega,fun _=>by simp[ox,this]⟩
 |
  m+1,i,hi,ht=>by
  have hlt:i<l.length:=by omega
  have hlt2:i<r.length:=by omega
  refine Mz _ _ _ ?_
  simp only[Ko,↓zq,zs,af,zt,ha.len,hb.len,ha.idx hlt,hb.idx hlt2,bF]
  refine⟨ha.1,hb.1,ha.1,fun _=>⟨⟨ha.1,by omega,by omega⟩,by omega,⟨hb.1,by omega,by omega⟩,by omega,fun h=>?_,fun h=>?_⟩,fun h=>by omega⟩
  ·have:¬l=r:=fun e=>by subst e;exact h rfl
   simp[ox,this]
  ·rw[bB i (by omega)]
   refine N4 a b l r ha hb he hl m (i+1) (by omega) ?_
   have hg:l[i]=r[i]:=by simpa[aa,hlt,hlt2]using h
   rw[List.take_succ_eq_append_getElem hlt,List.take_succ_eq_append_getElem hlt2,ht,hg]
theorem Uh(a b:AV)(l r:List Int)(ha:iC a l)(hb:iC b r)(hl:l.length<=2000000):aq Tryz.prog 21 [a,b] [] (bN (.v (.bool (decide (l=r))))):=by
 refine RF _ _ ha.1 hb.1 ?_
 simp only[NH,↓zq,zs,af,ha.len,hb.len]
 refine⟨ha.1,hb.1,fun h=>?_,fun h=>?_⟩
 ·have:¬l=r:=fun e=>by subst e;exact h rfl
  simp[this,bN]
 ·refine eC (N4 a b l r ha hb (by omega) hl l.length 0 (by omega) (by simp)) (fun ys o e=>?_) (fun ys o e=>?_)
  ·split at e
   ·rename_i q;simp[↓zq,zs,af,bN,q]
   ·cases e
  ·split at e
   ·cases e
   ·rename_i q;cases e;simp[↓zq,zs,af,bN,q]
end Go.Proofs.Trees
namespace Go.Proofs.Trees
open Go Go.VL Go.RowKit
def gG(s v:List UInt8):Option (List Pt):=match gy s,gM s v with
 |some a,some w=>if(parts a w).length<=100 then some (parts a w)else none
 |_,_=>none
theorem sD:∀(n:Nat) (a:Ty) (p q:Pt),q∈jU n a p->q.1.nodes<=p.1.nodes/\(∀m,p.1.fu m->q.1.fu m)
 |0,a,p,q,h=>by cases h
 |
  n+1,a,p,q,h=>by
  rcases aI.1 h with rfl|h
  ·exact⟨au _,fun m h=>h⟩
  ·obtain⟨r,h1,h2⟩:=dA.1 h
   obtain⟨k,h3,h4⟩:=nw h1
   obtain⟨q1,q2⟩:=sD n a r q h2
   have:=gd h3
   rw[h4]at q1 q2
   exact⟨by omega,fun m hm=>q2 m (eD hm h3).2⟩
theorem ss{s v:List UInt8}{l:List Pt}(h:gG s v=some l):l.length<=100/\∀q,q∈l->q.1.nodes<=200/\q.1.fu 100/\q.1.cf.length<=40000:=by
 unfold gG at h
 split at h
 ·rename_i a w ha hw
  obtain⟨a',x,A,B,L⟩:=fW hw
  split at h
  ·rename_i hl
   cases h
   refine⟨hl,fun q hq=>?_⟩
   obtain⟨h1,h2⟩:=sD _ _ _ _ hq
   have hb:=h2 100 L.fu
   have hn:=L.nodes
   have:=eU q.1 hb
   simp only at h1
   exact⟨by omega,hb,by omega⟩
  ·cases h
 ·cases h
def MO(f:List Pt->List (List AV))(s v:List UInt8):AV->List Ob->Prop:=fun r o=>o=[]/\∃x,LK.sl.has x/\r=.cv [x,.v (.bool (gG s v).isSome)]/\∀l,gG s v=some l->x=.sl (f l)
theorem MO.ne(f:List Pt->List (List AV))(s v:List UInt8):∃r o,MO f s v r o:=by
 cases h:gG s v with
 |none=>exact⟨_,_,rfl,.sl [],(cc _).mpr trivial,rfl,fun l hl=>by rw[h]at hl;cases hl⟩
 |some l=>exact⟨_,_,rfl,.sl (f l),(cc _).mpr trivial,rfl,fun l' hl=>by rw[h]at hl;cases hl;rfl⟩
def gj(f:List Nat->AV)(l:List Pt):List (List AV):=l.map fun p=>[f p.2]
theorem j6(f:List Nat->AV)(l:List Pt):(gj f l).length=l.length:=by simp[gj]
theorem uZ(f:List Nat->AV)(out:List Pt)(p:Pt):gj f out++[[f p.2]]=gj f (out++[p]):=by simp[gj]
end Go.Proofs.Trees
namespace Go.Proofs.Trees
open Go Go.VL Go.RowKit
abbrev Nm:=List UInt8
def dR(u:Ty):Ty->Nat->Ty
 | .bound k,i=>if k=i then u else .bound k
 | .plus a b,i=>.plus (dR u a i) (dR u b i)
 | .times a b,i=>.times (dR u a i) (dR u b i)
 | .rc a,i=>.rc (dR u a (i+1))
 |t,_=>t
def sub(x:Nm)(u:Ty):Ty->Ty
 | .name s=>if s=x then u else .name s
 | .plus a b=>.plus (sub x u a) (sub x u b)
 | .times a b=>.times (sub x u a) (sub x u b)
 | .rc a=>.rc (sub x u a)
 |t=>t
def bz(x:Nm):Ty->Bool
 | .name s=>decide (s=x)
 | .plus a b=>bz x a||bz x b
 | .times a b=>bz x a||bz x b
 | .rc a=>bz x a
 |_=>false
def ke(f:Nm->Nm):Ty->Ty
 | .name s=>.name (f s)
 | .plus a b=>.plus (ke f a) (ke f b)
 | .times a b=>.times (ke f a) (ke f b)
 | .rc a=>.rc (ke f a)
 |t=>t
def QV(f:Nm->Nm):Prop:=∀x y,f x=f y->x=y
theorem mO(f:Nm->Nm)(x:Nm):∀(t:Ty) (i:Nat),ke f (dR (.name x) t i)=dR (.name (f x)) (ke f t) i
 | .bound k,i=>by simp only[dR,ke];split<;>rfl
 | .plus a b,i=>by simp only[dR,ke,mO f x a i,mO f x b i]
 | .times a b,i=>by simp only[dR,ke,mO f x a i,mO f x b i]
 | .rc a,i=>by simp only[dR,ke,mO f x a (i+1)]
 | .zero,i=>rfl
 | .one,i=>rfl
 | .name s,i=>rfl
theorem mB{f:Nm->Nm}(hf:QV f)(x:Nm)(u:Ty):∀t:Ty,ke f (sub x u t)=sub (f x) (ke f u) (ke f t)
 |
  .name s=>by
  simp only[sub,ke]
  by_cases h:s=x
  ·subst h;simp
  ·rw[if_neg h,if_neg fun e=>h (hf _ _ e)];rfl
 | .plus a b=>by simp only[sub,ke,mB hf x u a,mB hf x u b]
 | .times a b=>by simp only[sub,ke,mB hf x u a,mB hf x u b]
 | .rc a=>by simp only[sub,ke,mB hf x u a]
 | .zero=>rfl
 | .one=>rfl
 | .bound k=>rfl
theorem nW{f:Nm->Nm}(hf:QV f)(x:Nm):∀t:Ty,bz (f x) (ke f t)=bz x t
 | .name s=>by simp only[bz,ke];rw[cJ];simp only[decide_eq_true_eq];exact⟨fun e=>hf _ _ e,fun e=>by rw[e]⟩
 | .plus a b=>by simp only[bz,ke,nW hf x a,nW hf x b]
 | .times a b=>by simp only[bz,ke,nW hf x a,nW hf x b]
 | .rc a=>by simp only[bz,ke,nW hf x a]
 | .zero=>rfl
 | .one=>rfl
 | .bound k=>rfl
theorem il(f:Nm->Nm):∀t:Ty,(ke f t).atoms=t.atoms
 | .plus a b=>by simp only[Ty.atoms,ke,il f a,il f b]
 | .times a b=>by simp only[Ty.atoms,ke,il f a,il f b]
 | .rc a=>by simp only[Ty.atoms,ke,il f a]
 | .name s=>rfl
 | .zero=>rfl
 | .one=>rfl
 | .bound k=>rfl
theorem qB{f:Nm->Nm}:∀t:Ty,(∀x,bz x t=true->f x=x)->ke f t=t
 | .name s,h=>by simp only[ke];rw[h s (by simp[bz])]
 | .plus a b,h=>by simp only[ke];rw[qB a fun x hx=>h x (by simp[bz,hx]),qB b fun x hx=>h x (by simp[bz,hx])]
 | .times a b,h=>by simp only[ke];rw[qB a fun x hx=>h x (by simp[bz,hx]),qB b fun x hx=>h x (by simp[bz,hx])]
 | .rc a,h=>by simp only[ke];rw[qB a fun x hx=>h x hx]
 | .zero,_=>rfl
 | .one,_=>rfl
 | .bound k,_=>rfl
theorem fV(x:Nm):∀(t:Ty) (i:Nat),(dR (.name x) t i).atoms=t.atoms
 | .bound k,i=>by simp only[dR];split<;>rfl
 | .plus a b,i=>by simp only[dR,Ty.atoms,fV x a i,fV x b i]
 | .times a b,i=>by simp only[dR,Ty.atoms,fV x a i,fV x b i]
 | .rc a,i=>by simp only[dR,Ty.atoms,fV x a (i+1)]
 | .zero,i=>rfl
 | .one,i=>rfl
 | .name s,i=>rfl
theorem ez(t:Ty):1<=t.atoms:=by cases t<;>simp only[Ty.atoms]<;>omega
theorem iu(x:Nm)(u:Ty):∀t:Ty,t.atoms<=(sub x u t).atoms
 | .name s=>by simp only[sub];split<;>simp only[Ty.atoms];exact ez u;omega
 | .plus a b=>by have:=iu x u a;have:=iu x u b;simp only[sub,Ty.atoms];omega
 | .times a b=>by have:=iu x u a;have:=iu x u b;simp only[sub,Ty.atoms];omega
 | .rc a=>by have:=iu x u a;simp only[sub,Ty.atoms];omega
 | .zero=>au _
 | .one=>au _
 | .bound k=>au _
theorem gX{x y:Nm}:∀(t:Ty) (i:Nat),bz y (dR (.name x) t i)=true->y=x\/bz y t=true
 |
  .bound k,i,h=>by
  simp only[dR]at h
  split at h
  ·left;simp only[bz,decide_eq_true_eq]at h;exact h.symm
  ·cases h
 |
  .plus a b,i,h=>by
  simp only[dR,bz,bI]at h |-
  rcases h with h|h
  ·rcases gX a i h with h|h<;>simp[h]
  ·rcases gX b i h with h|h<;>simp[h]
 |
  .times a b,i,h=>by
  simp only[dR,bz,bI]at h |-
  rcases h with h|h
  ·rcases gX a i h with h|h<;>simp[h]
  ·rcases gX b i h with h|h<;>simp[h]
 | .rc a,i,h=>gX a (i+1) h
 | .zero,i,h=>by cases h
 | .one,i,h=>by cases h
 | .name s,i,h=>.inr h
theorem jv{x y:Nm}{u:Ty}:∀t:Ty,bz y (sub x u t)=true->bz y u=true\/(y≠x/\bz y t=true)
 |
  .name s,h=>by
  simp only[sub]at h
  split at h
  ·exact .inl h
  ·rename_i hs
   simp only[bz,decide_eq_true_eq]at h
   subst h
   exact .inr ⟨hs,by simp[bz]⟩
 |
  .plus a b,h=>by
  simp only[sub,bz,bI]at h |-
  rcases h with h|h
  ·rcases jv a h with h|h<;>simp[h]
  ·rcases jv b h with h|h<;>simp[h]
 |
  .times a b,h=>by
  simp only[sub,bz,bI]at h |-
  rcases h with h|h
  ·rcases jv a h with h|h<;>simp[h]
  ·rcases jv b h with h|h<;>simp[h]
 |
  .rc a,h=>by
  simp only[sub,bz]at h |-
  exact jv a h
 | .zero,h=>by cases h
 | .one,h=>by cases h
 | .bound k,h=>by cases h
def swp(x y:Nm):Nm->Nm:=fun s=>if s=x then y else if s=y then x else s
theorem Ae(x y:Nm):QV (swp x y):=by
 intro a b h
 unfold swp at h
 by_cases h1:a=x<;>by_cases h2:a=y<;>by_cases h3:b=x<;>by_cases h4:b=y<;>simp_all
theorem wE(x y:Nm):swp x y x=y:=by simp[swp]
theorem Dr{x y s:Nm}(h:s≠x)(h':s≠y):swp x y s=s:=by simp[swp,h,h']
theorem uW{x y:Nm}{t:Ty}(h:bz x t=false)(h':bz y t=false):ke (swp x y) t=t :=
 qB t fun z hz=>Dr (fun e=>by subst e;rw[h]at hz;cases hz) (fun e=>by subst e;rw[h']at hz;cases hz)
def qA(a:Ty)(x:Nm)(c d:Ty):Ty:=.rc (.plus (sub x (.rc a) c) (.times (sub x (.rc a) d) (.bound 0)))
inductive Dv:Ty->Nm->Ty->Prop
 |zero (s):Dv .zero s .zero
 |one (s):Dv .one s .zero
 |bound (k s):Dv (.bound k) s .zero
 |hit (s):Dv (.name s) s .one
 |sX {n s} (h:n≠s):Dv (.name n) s .zero
 |plus {a b s a' b'} (h1:Dv a s a') (h2:Dv b s b') (hl:(Ty.plus a' b').atoms<=400):Dv (.plus a b) s (.plus a' b')
 |times {a b s a' b'} (h1:Dv a s a') (h2:Dv b s b') (hl:(Ty.plus (.times a' b) (.times a b')).atoms<=400):Dv (.times a b) s (.plus (.times a' b) (.times a b'))
 |rc {a s c d} (x:Nm) (hx:bz x a=false) (hs:x≠s) (h1:Dv (dR (.name x) a 0) s c) (h2:Dv (dR (.name x) a 0) x d) (hl:(qA a x c d).atoms<=400):Dv (.rc a) s (qA a x c d)
theorem zg{f:Nm->Nm}(hf:QV f)(a:Ty)(x:Nm)(c d:Ty):ke f (qA a x c d)=qA (ke f a) (f x) (ke f c) (ke f d):=by
 simp only[qA,ke,mB hf]
theorem Dv.ke{f:Nm->Nm}(hf:QV f){t d:Ty}{s:Nm}(h:Dv t s d):Dv (ke f t) (f s) (ke f d):=by
 induction h with
 |zero s=>exact .zero _
 |one s=>exact .one _
 |bound k s=>exact .bound _ _
 |hit s=>exact .hit _
 |sX h=>exact .sX fun e=>h (hf _ _ e)
 |plus h1 h2 hl i1 i2=>exact .plus i1 i2 (by rw[<-il f]at hl;exact hl)
 |times h1 h2 hl i1 i2=>exact .times i1 i2 (by rw[<-il f]at hl;exact hl)
 |
  rc x hx hs h1 h2 hl i1 i2 =>
  rw[zg hf]
  rw[mO]at i1 i2
  exact .rc (f x) (by rw[nW hf];exact hx) (fun e=>hs (hf _ _ e)) i1 i2 (by rw[<-zg hf,il];exact hl)
theorem Dv.names{t d:Ty}{s:Nm}(h:Dv t s d):∀y,bz y d=true->bz y t=true:=by
 induction h with
 |zero s=>intro y hy;cases hy
 |one s=>intro y hy;cases hy
 |bound k s=>intro y hy;cases hy
 |hit s=>intro y hy;cases hy
 |sX h=>intro y hy;cases hy
 |
  plus h1 h2 hl i1 i2 =>
  intro y hy
  simp only[bz,bI]at hy |-
  rcases hy with hy|hy
  ·exact .inl (i1 y hy)
  ·exact .inr (i2 y hy)
 |
  times h1 h2 hl i1 i2 =>
  intro y hy
  simp only[bz,bI]at hy |-
  rcases hy with(hy|hy)|(hy|hy)
  ·exact .inl (i1 y hy)
  ·exact .inr hy
  ·exact .inl hy
  ·exact .inr (i2 y hy)
 |
  rc x hx hs h1 h2 hl i1 i2 =>
  intro y hy
  simp only[qA,bz,bI,Bool.or_false]at hy |-
  have key:∀{a c:Ty},(∀y,bz y c=true->bz y (dR (.name x) a 0)=true)->bz y (sub x (.rc a) c)=true->bz y a=true:=fun i h=>by
   rcases jv _ h with h|⟨h,h'⟩
   ·exact h
   ·rcases gX _ _ (i y h')with e|e
    ·exact absurd e h
    ·exact e
  rcases hy with hy|hy
  ·exact key i1 hy
  ·exact key i2 hy
theorem Dv.fresh{t d:Ty}{s y:Nm}(h:Dv t s d)(hy:bz y t=false):bz y d=false:=by
 cases e:bz y d with
 |false=>rfl
 |true=>rw[h.names y e]at hy;cases hy
theorem Dv.move{a c:Ty}{x y s:Nm}(hx:bz x a=false)(hy:bz y a=false)(h:Dv (dR (.name x) a 0) s c):Dv (dR (.name y) a 0) (swp x y s) (Go.Proofs.Trees.ke (swp x y) c):=by
 have:=h.ke (Ae x y)
 rw[mO,wE,uW hx hy]at this
 exact this
theorem nE{a c:Ty}{x y s:Nm}(hx:bz x a=false)(hy:bz y a=false)(h:Dv (dR (.name x) a 0) s c):sub y (.rc a) (ke (swp x y) c)=sub x (.rc a) c:=by
 have e:=mB (Ae x y) x (.rc a) c
 rw[wE,uW (t:=.rc a) hx hy]at e
 rw[<-e]
 have key:∀z,(z=x\/z=y)->bz z (sub x (.rc a) c)=false:=fun z hz=>by
  cases q:bz z (sub x (.rc a) c)with
  |false=>rfl
  |
   true =>
   exfalso
   have hz':bz z a=false:=by rcases hz with rfl|rfl<;>assumption
   rcases jv _ q with h1|⟨h1,h2⟩
   ·rw[show bz z (.rc a)=bz z a from rfl,hz']at h1;cases h1
   ·rcases gX _ _ (h.names z h2)with e|e
    ·exact h1 e
    ·rw[hz']at e;cases e
 exact uW (key x (.inl rfl)) (key y (.inr rfl))
theorem Dv.uniq:∀(n:Nat) (t:Ty),t.atoms<=n->∀{s:Nm} {d d':Ty},Dv t s d->Dv t s d'->d=d'
 |0,t,h,_,_,_,_,_=>by have:=ez t;omega
 |
  n+1,t,hn,s,d,d',h,h'=>by
  cases h with
  |zero=>cases h';rfl
  |one=>cases h';rfl
  |bound=>cases h';rfl
  |
   hit =>
   cases h' with
   |hit=>rfl
   |sX h=>exact absurd rfl h
  |
   sX h =>
   cases h' with
   |hit=>exact absurd rfl h
   |sX _=>rfl
  |
   plus h1 h2 =>
   simp only[Ty.atoms]at hn
   cases h' with
   |plus g1 g2=>rw[Dv.uniq n _ (by omega) h1 g1,Dv.uniq n _ (by omega) h2 g2]
  |
   times h1 h2 =>
   simp only[Ty.atoms]at hn
   cases h' with
   |times g1 g2=>rw[Dv.uniq n _ (by omega) h1 g1,Dv.uniq n _ (by omega) h2 g2]
  |
   rc x hx hs h1 h2 =>
   simp only[Ty.atoms]at hn
   cases h' with
   |
    rc y hy hs' g1 g2 =>
    rename_i a _ _ _ _ _ _
    have m1:=h1.move hx hy
    have m2:=h2.move hx hy
    rw[Dr (Ne.symm hs) (Ne.symm hs')]at m1
    rw[wE]at m2
    have e1:=Dv.uniq n _ (by rw[fV];omega) m1 g1
    have e2:=Dv.uniq n _ (by rw[fV];omega) m2 g2
    rw[qA,qA,<-e1,<-e2,nE hx hy h1,nE hx hy h2]
theorem Dv.small{t d:Ty}{s:Nm}(h:Dv t s d):d.atoms<=400:=by
 cases h<;>first|assumption|simp[Ty.atoms]
open Classical in
noncomputable def ml (t:Ty) (s:Nm):Option Ty:=if h:∃d,Dv t s d then some (Classical.choose h)else none
theorem db{t:Ty}{s:Nm}{d:Ty}:ml t s=some d↔Dv t s d:=by
 unfold ml
 by_cases h:∃d,Dv t s d
 ·rw[dif_pos h]
  have:=Classical.choose_spec h
  constructor
  ·intro e;cases e;exact this
  ·intro g;rw[Dv.uniq _ t (au _) this g]
 ·rw[dif_neg h]
  exact⟨fun e=>(by cases e),fun g=>absurd ⟨d,g⟩ h⟩
def ou(t:Ty):Option Ty:=if t.atoms<=400 then some t else none
theorem fA{t d:Ty}:ou t=some d↔t.atoms<=400/\t=d:=by
 unfold ou
 split
 ·rename_i h;simp[h]
 ·rename_i h;simp[h]
theorem rK{α:Type}{a b:Option α}(h:∀d,a=some d↔b=some d):a=b:=by
 cases a with
 |
  none=>cases b with
  |none=>rfl
  |some x=>have:=(h x).2 rfl;cases this
 |some x=>exact((h x).1 rfl).symm
theorem wQ(s:Nm):ml .zero s=some .zero:=db.2 (.zero _)
theorem yZ(s:Nm):ml .one s=some .zero:=db.2 (.one _)
theorem Bi(k:Nat)(s:Nm):ml (.bound k) s=some .zero:=db.2 (.bound _ _)
theorem px(n s:Nm):ml (.name n) s=some (if n=s then .one else .zero):=by
 split
 ·rename_i h;subst h;exact db.2 (.hit _)
 ·rename_i h;exact db.2 (.sX h)
theorem xl(a b:Ty)(s:Nm):ml (.plus a b) s=(ml a s).bind fun a'=>(ml b s).bind fun b'=>ou (.plus a' b'):=by
 refine rK fun d=>?_
 rw[db]
 simp only[bc,db,fA]
 constructor
 ·intro h;cases h with|plus h1 h2 hl=>exact⟨_,h1,_,h2,hl,rfl⟩
 ·rintro⟨a',h1,b',h2,hl,rfl⟩;exact .plus h1 h2 hl
theorem ur(a b:Ty)(s:Nm):ml (.times a b) s=(ml a s).bind fun a'=>(ml b s).bind fun b'=>ou (.plus (.times a' b) (.times a b')):=by
 refine rK fun d=>?_
 rw[db]
 simp only[bc,db,fA]
 constructor
 ·intro h;cases h with|times h1 h2 hl=>exact⟨_,h1,_,h2,hl,rfl⟩
 ·rintro⟨a',h1,b',h2,hl,rfl⟩;exact .times h1 h2 hl
theorem DZ{a:Ty}{s x:Nm}(hx:bz x a=false)(hs:x≠s):ml (.rc a) s=(ml (dR (.name x) a 0) s).bind fun c=>(ml (dR (.name x) a 0) x).bind fun d=>ou (qA a x c d):=by
 refine rK fun d=>?_
 rw[db]
 simp only[bc,db,fA]
 constructor
 ·intro h
  cases h with
  |
   rc y hy hs' h1 h2 hl =>
   have m1:=h1.move hy hx
   have m2:=h2.move hy hx
   rw[Dr (Ne.symm hs') (Ne.symm hs)]at m1
   rw[wE]at m2
   refine⟨_,m1,_,m2,?_⟩
   have e:∀c d,sub x (.rc a) (ke (swp y x) c)=sub y (.rc a) c->sub x (.rc a) (ke (swp y x) d)=sub y (.rc a) d->qA a x (ke (swp y x) c) (ke (swp y x) d)=qA a y c d:=fun c d e1 e2=>by rw[qA,qA,e1,e2]
   rw[e _ _ (nE hy hx h1) (nE hy hx h2)]
   exact⟨hl,rfl⟩
 ·rintro⟨c,h1,d',h2,hl,rfl⟩;exact .rc x hx hs h1 h2 hl
noncomputable def ql (a:Ty) (x:Nm):Option Ty:=(ml (dR (.name x) a 0) x).bind fun d=>ou (sub x (.rc a) d)
theorem GY{a:Ty}{x y:Nm}(hx:bz x a=false)(hy:bz y a=false):ql a x=ql a y:=by
 have key:∀{x y:Nm} {d:Ty},bz x a=false->bz y a=false->ql a x=some d->ql a y=some d:=fun {x y d} hx hy h=>by
  simp only[ql,bc,db,fA]at h |-
  obtain⟨d',h1,hl,rfl⟩:=h
  have m1:=h1.move hx hy
  rw[wE]at m1
  exact⟨_,m1,by rw[nE hx hy h1];exact⟨hl,rfl⟩⟩
 exact rK fun d=>⟨key hx hy,key hy hx⟩
end Go.Proofs.Trees
namespace Go.Proofs.Trees
open Go Go.VL Go.RowKit
def cX:E->List Nm->Ty
 | .atom s,ar=>if s=[48]then .zero else if s=[49]then .one else match bT s ar ar.length with|some u=>.bound u|none=>.name s
 | .list [x,a,b],ar=>if x.at=[43]then .plus (cX a ar) (cX b ar)else if x.at=[42]then .times (cX a ar) (cX b ar)else .rc (cX b (ar++[a.at]))
 | .list _,_=>.zero
def rQ(s:Nm):Prop:=s≠[]/\s≠[48]/\s≠[49]
inductive Wf:E->Prop
 |atom {s} (h:s≠[]):Wf (.atom s)
 |plus {a b} (ha:Wf a) (hb:Wf b):Wf (.list [.atom [43],a,b])
 |times {a b} (ha:Wf a) (hb:Wf b):Wf (.list [.atom [42],a,b])
 |rc {n b} (hn:rQ n) (hb:Wf b):Wf (.list [.atom [114,101,99],.atom n,b])
theorem dS(a b:E)(ar:List Nm):cX (.list [.atom [43],a,b]) ar=.plus (cX a ar) (cX b ar):=by rw[cX,if_pos (show (E.atom [43]).at=[43] from rfl)]
theorem dz(a b:E)(ar:List Nm):cX (.list [.atom [42],a,b]) ar=.times (cX a ar) (cX b ar):=by rw[cX,if_neg (by decide),if_pos (show (E.atom [42]).at=[42] from rfl)]
theorem fE(a b:E)(ar:List Nm):cX (.list [.atom [114,101,99],a,b]) ar=.rc (cX b (ar++[a.at])):=by rw[cX,if_neg (by decide),if_neg (by decide)]
theorem Wf.ok{e:E}(h:Wf e):e.ok:=by
 induction h with
 |atom h=>exact h
 |plus ha hb i1 i2=>exact⟨by simp[E.ok],i1,i2,trivial⟩
 |times ha hb i1 i2=>exact⟨by simp[E.ok],i1,i2,trivial⟩
 |rc hn hb i=>exact⟨by simp[E.ok],hn.1,i,trivial⟩
theorem Wf.dq{e:E}(h:Wf e):∀ar,e.dq=(cX e ar).atoms:=by
 induction h with
 |
  @atom s h =>
  intro ar
  simp only[E.dq,cX]
  split
  ·rfl
  ·split
   ·rfl
   ·split<;>rfl
 |plus ha hb i1 i2=>intro ar;rw[dS];simp only[E.dq,E.fm,Ty.atoms,<-i1 ar,<-i2 ar];omega
 |times ha hb i1 i2=>intro ar;rw[dz];simp only[E.dq,E.fm,Ty.atoms,<-i1 ar,<-i2 ar];omega
 |@rc n b hn hb i=>intro ar;rw[fE];simp only[E.dq,E.fm,Ty.atoms,<-i];omega
theorem Wf.sz{e:E}(h:Wf e):e.sz<=3*e.dq:=by
 induction h with
 |atom h=>simp[E.sz,E.dq]
 |plus ha hb i1 i2=>simp only[E.sz,E.jN,E.dq,E.fm];omega
 |times ha hb i1 i2=>simp only[E.sz,E.jN,E.dq,E.fm];omega
 |rc hn hb i=>simp only[E.sz,E.jN,E.dq,E.fm];omega
theorem kX:∀(e:E) (ar:List Nm) (t:Ty),e.ok->(∀w,w∈ar->dx w=true)->cY e ar=some t->Wf e/\cX e ar=t
 |
  .atom s,ar,t,hok,hl,ht=>by
  refine⟨.atom hok,?_⟩
  simp only[cY,cX]at ht |-
  split at ht
  ·rename_i h;rw[if_pos h];simpa using ht
  ·rename_i h;rw[if_neg h]
   split at ht
   ·rename_i h1;rw[if_pos h1];simpa using ht
   ·rename_i h1;rw[if_neg h1]
    split at ht
    ·rename_i hp
     cases q:bT s ar ar.length with
     |none=>simpa using ht
     |
      some u =>
      obtain⟨h1,h2⟩:=fS _ _ (au _) q
      have:=hl (gH ar u) (by
       unfold gH
       have:ar.length-1-u<ar.length:=by omega
       simp[aa,this])
      rw[h2,kU hp]at this;cases this
    ·split at ht
     ·split at ht<;>rename_i q<;>rw[q]<;>simpa using ht
     ·cases ht
 |
  .list [x,a,b],ar,t,hok,hl,ht=>by
  obtain⟨ok1,ok2,ok3,_⟩:=hok
  by_cases h0:x.at=[43]
  ·obtain⟨t1,t2,h1,h2,rfl⟩:=fU h0 ht
   obtain rfl:=k8 h0 (by simp)
   obtain⟨w1,e1⟩:=kX a ar t1 ok2 hl h1
   obtain⟨w2,e2⟩:=kX b ar t2 ok3 hl h2
   exact⟨.plus w1 w2,by rw[dS,e1,e2]⟩
  ·by_cases h1:x.at=[42]
   ·obtain⟨t1,t2,h2,h3,rfl⟩:=fD h1 ht
    obtain rfl:=k8 h1 (by simp)
    obtain⟨w1,e1⟩:=kX a ar t1 ok2 hl h2
    obtain⟨w2,e2⟩:=kX b ar t2 ok3 hl h3
    exact⟨.times w1 w2,by rw[dz,e1,e2]⟩
   ·by_cases h2:x.at=[114,101,99]
    ·obtain⟨t1,hla,h3,rfl⟩:=dI h2 ht
     obtain rfl:=k8 h2 (by simp)
     have hne:a.at≠[]:=by intro e;rw[e]at hla;cases hla
     have ha:a=.atom a.at:=k8 rfl hne
     obtain⟨w1,e1⟩:=kX b (ar++[a.at]) t1 ok3 (fun w hw=>by
      rcases aP.1 hw with hw|hw
      ·exact hl w hw
      ·simp only[aU]at hw;rw[hw];exact hla) h3
     have hN:rQ a.at:=⟨hne,fun e=>by rw[e]at hla;revert hla;decide,fun e=>by rw[e]at hla;revert hla;decide⟩
     refine⟨?_,by rw[fE,e1]⟩
     rw[ha];exact .rc hN w1
    ·rw[jz _ h0 h1 h2]at ht;cases ht
 | .list [],ar,t,_,_,ht=>by cases ht
 | .list [_],ar,t,_,_,ht=>by cases ht
 | .list [_,_],ar,t,_,_,ht=>by cases ht
 | .list (_::_::_::_::_),ar,t,_,_,ht=>by cases ht
theorem fK(s:Nm)(ar:List Nm):bT s ar ar.length=none↔s∉ar:=by
 have:=ny s ar ar.length (au _)
 rwa[List.take_length]at this
theorem oN(s:Nm)(ar:List Nm):∀(n:Nat) (br:List Nm),br.length=n->bT s (ar++br) (ar++br).length=match bT s br br.length with|some u=>some u|none=>(bT s ar ar.length).map (·+br.length)
 |
  0,br,h=>by
  obtain rfl:=cg h
  rw[df]
  cases h:bT s ar ar.length<;>simp[bT]
 |
  n+1,br,h=>by
  obtain⟨b2,w,rfl⟩:∃b2 w,br=b2++[w]:=⟨br.dropLast,br.getLast (by intro e;rw[e]at h;cases h),(List.dropLast_concat_getLast _).symm⟩
  rw[<-aY]
  by_cases hw:w=s
  ·subst hw;rw[fH,fH]
  ·rw[j1 _ hw,j1 _ hw,oN s ar n b2 (by simpa using h)]
   cases bT s b2 b2.length with
   |some u=>rfl
   |
    none =>
    cases bT s ar ar.length with
    |none=>rfl
    |some u=>simp only[Option.map_none,cz,an,aw,aF];congr 1
theorem vH(ar:List Nm){e:E}(h:Wf e):∀br,(∀y,bz y (cX e br)=true->y∉ar)->cX e (ar++br)=cX e br:=by
 induction h with
 |
  @atom s h =>
  intro br hy
  simp only[cX]at hy |-
  split
  ·rfl
  ·rename_i h0
   split
   ·rfl
   ·rename_i h1
    rw[if_neg h0,if_neg h1]at hy
    rw[oN s ar _ br rfl]
    cases q:bT s br br.length with
    |some u=>rfl
    |
     none =>
     rw[q]at hy
     have:=(fK s ar).2 (hy s (by simp[bz]))
     rw[this];rfl
 |
  plus ha hb i1 i2 =>
  intro br hy
  rw[dS]at hy |-
  rw[dS,i1 br fun y h=>hy y (by simp[bz,h]),i2 br fun y h=>hy y (by simp[bz,h])]
 |
  times ha hb i1 i2 =>
  intro br hy
  rw[dz]at hy |-
  rw[dz,i1 br fun y h=>hy y (by simp[bz,h]),i2 br fun y h=>hy y (by simp[bz,h])]
 |
  @rc n b hn hb i =>
  intro br hy
  rw[fE]at hy |-
  rw[fE,aY,i _ hy]
theorem zD(x:Nm){e:E}(h:Wf e):∀ar,cX e ar=dR (.name x) (cX e ([x]++ar)) ar.length:=by
 induction h with
 |
  @atom s h =>
  intro ar
  simp only[cX]
  split
  ·rfl
  ·split
   ·rfl
   ·rw[oN s [x] _ ar rfl]
    cases q:bT s ar ar.length with
    |
     some u =>
     have:=(fS _ _ (au _) q).1
     simp only[dR];rw[if_neg (by omega)]
    |
     none =>
     by_cases hx:x=s
     ·subst hx
      have:bT x [x] [x].length=some 0:=fH x []
      rw[this];simp[dR]
     ·have:bT s [x] [x].length=none:=(fK s [x]).2 (by simpa using fun e=>hx e.symm)
      rw[this];rfl
 |plus ha hb i1 i2=>intro ar;rw[dS,dS,dR,<-i1 ar,<-i2 ar]
 |times ha hb i1 i2=>intro ar;rw[dz,dz,dR,<-i1 ar,<-i2 ar]
 |
  @rc n b hn hb i =>
  intro ar
  rw[fE,fE,dR,i (ar++[E.at (.atom n)]),aY]
  simp
theorem nT{e:E}(h:Wf e):∀ar y,bz y (cX e ar)=true->rQ y/\y∉ar:=by
 induction h with
 |
  @atom s h =>
  intro ar y hy
  simp only[cX]at hy
  split at hy
  ·cases hy
  ·rename_i h0
   split at hy
   ·cases hy
   ·rename_i h1
    split at hy
    ·cases hy
    ·rename_i q
     simp only[bz,decide_eq_true_eq]at hy
     subst hy
     exact⟨⟨h,h0,h1⟩,(fK _ _).1 q⟩
 |
  plus ha hb i1 i2 =>
  intro ar y hy
  rw[dS]at hy
  simp only[bz,bI]at hy
  rcases hy with hy|hy
  ·exact i1 ar y hy
  ·exact i2 ar y hy
 |
  times ha hb i1 i2 =>
  intro ar y hy
  rw[dz]at hy
  simp only[bz,bI]at hy
  rcases hy with hy|hy
  ·exact i1 ar y hy
  ·exact i2 ar y hy
 |
  rc hn hb i =>
  intro ar y hy
  rw[fE]at hy
  obtain⟨h1,h2⟩:=i _ y hy
  exact⟨h1,fun h=>h2 (aD _ h)⟩
theorem mH{e:E}(h:Wf e):∀(bd l:List Nm) (y:Nm),y∈lh e bd l↔y∈l\/bz y (cX e bd)=true:=by
 induction h with
 |
  @atom s h =>
  intro bd l y
  simp only[lh,cX]
  by_cases h0:s=[48]
  ·simp[h0,bz]
  ·by_cases h1:s=[49]
   ·simp[h1,bz]
   ·rw[if_neg h0,if_neg h1]
    by_cases h2:s∈bd
    ·cases q:bT s bd bd.length with
     |none=>exact absurd h2 ((fK _ _).1 q)
     |some u=>simp[h2,bz]
    ·rw[(fK _ _).2 h2]
     simp only[h0,h1,h2,false_or,bz,decide_eq_true_eq]
     by_cases h3:s∈l
     ·simp only[h3,if_true]
      exact⟨fun h=>.inl h,fun h=>by rcases h with h|rfl<;>assumption⟩
     ·simp only[h3,if_false,aP,aU,eq_comm]
 |
  plus ha hb i1 i2 =>
  intro bd l y
  rw[lh,if_neg (by decide),dS,i2,i1]
  simp[bz,or_assoc]
 |
  times ha hb i1 i2 =>
  intro bd l y
  rw[lh,if_neg (by decide),dz,i2,i1]
  simp[bz,or_assoc]
 |
  rc hn hb i =>
  intro bd l y
  rw[lh,if_pos (show (E.atom [114,101,99]).at=[114,101,99] from rfl),fE,i]
  rfl
theorem fe:∀(t:Ty) (out:List Nm) (y:Nm),y∈bS t out↔y∈out\/bz y t=true
 |
  .name s,out,y=>by
  simp only[bS,qn,bz,decide_eq_true_eq]
  split
  ·rename_i h;exact⟨fun h=>.inl h,fun h'=>by rcases h' with h'|rfl<;>assumption⟩
  ·simp[eq_comm]
 | .plus a b,out,y=>by rw[bS,fe b,fe a];simp[bz,or_assoc]
 | .times a b,out,y=>by rw[bS,fe b,fe a];simp[bz,or_assoc]
 | .rc a,out,y=>by rw[bS,fe a];rfl
 | .zero,out,y=>by simp[bS,bz]
 | .one,out,y=>by simp[bS,bz]
 | .bound k,out,y=>by simp[bS,bz]
end Go.Proofs.Trees
namespace Go.Proofs.Trees
open Go Go.VL Go.RowKit
abbrev dL:Nm:=[114,101,99]
theorem eh(s:Nm):(E.atom s).at=s:=rfl
def sM(x:Nm)(u:E):E->E
 | .atom s=>if s=x then u else .atom s
 | .list [h,a,b]=>if h.at=dL then(if a.at=x then .list [h,a,b]else .list [.atom dL,a,sM x u b])else .list [.atom h.at,sM x u a,sM x u b]
 | .list l=>.list l
def n8(x:Nm):E->Nat
 | .atom s=>if s=x then 1 else 0
 | .list [h,a,b]=>if h.at=dL then(if a.at=x then 0 else n8 x b)else n8 x a+n8 x b
 | .list _=>0
def vI(p:Nm->Prop):E->Prop
 | .atom _=>True
 | .list [h,a,b]=>(if h.at=dL then p a.at else vI p a)/\vI p b
 | .list _=>True
def fJ(x:Nm):Ty->Nat
 | .name s=>if s=x then 1 else 0
 | .plus a b=>fJ x a+fJ x b
 | .times a b=>fJ x a+fJ x b
 | .rc a=>fJ x a
 |_=>0
theorem xb(x:Nm)(u a b:E):sM x u (.list [.atom [43],a,b])=.list [.atom [43],sM x u a,sM x u b]:=by rw[sM,if_neg (by decide)];rfl
theorem uB(x:Nm)(u a b:E):sM x u (.list [.atom [42],a,b])=.list [.atom [42],sM x u a,sM x u b]:=by rw[sM,if_neg (by decide)];rfl
theorem Cg(x:Nm)(u:E)(n:Nm)(b:E):sM x u (.list [.atom dL,.atom n,b])=if n=x then .list [.atom dL,.atom n,b]else .list [.atom dL,.atom n,sM x u b]:=by rw[sM,if_pos (eh _)];rfl
theorem sK(x:Nm)(a b:E):n8 x (.list [.atom [43],a,b])=n8 x a+n8 x b:=by rw[n8,if_neg (by decide)]
theorem qw(x:Nm)(a b:E):n8 x (.list [.atom [42],a,b])=n8 x a+n8 x b:=by rw[n8,if_neg (by decide)]
theorem yq(x:Nm)(n:Nm)(b:E):n8 x (.list [.atom dL,.atom n,b])=if n=x then 0 else n8 x b:=by rw[n8,if_pos (eh _)];rfl
theorem pP(p:Nm->Prop)(a b:E):vI p (.list [.atom [43],a,b])↔vI p a/\vI p b:=by rw[vI,if_neg (by decide)]
theorem nZ(p:Nm->Prop)(a b:E):vI p (.list [.atom [42],a,b])↔vI p a/\vI p b:=by rw[vI,if_neg (by decide)]
theorem vW(p:Nm->Prop)(n:Nm)(b:E):vI p (.list [.atom dL,.atom n,b])↔p n/\vI p b:=by rw[vI,if_pos (eh _)];rfl
theorem Ce{p q:Nm->Prop}(h:∀n,p n->q n){e:E}(hw:Wf e):vI p e->vI q e:=by
 induction hw with
 |atom _=>exact fun _=>trivial
 |plus _ _ i1 i2=>rw[pP,pP];exact fun g=>⟨i1 g.1,i2 g.2⟩
 |times _ _ i1 i2=>rw[nZ,nZ];exact fun g=>⟨i1 g.1,i2 g.2⟩
 |rc _ _ i=>rw[vW,vW];exact fun g=>⟨h _ g.1,i g.2⟩
theorem jD{s:Nm}(hs:rQ s){ar:List Nm}(h:s∉ar):cX (.atom s) ar=.name s:=by
 simp only[cX];rw[if_neg hs.2.1,if_neg hs.2.2,(fK s ar).2 h]
theorem Ek{x:Nm}(hx:rQ x){u:E}(hu:Wf u){e:E}(h:Wf e):vI (fun n=>n≠x/\bz n (cX u [])=false) e->∀ar,x∉ar->(∀y,y∈ar->bz y (cX u [])=false)->Wf (sM x u e)/\cX (sM x u e) ar=sub x (cX u []) (cX e ar):=by
 induction h with
 |
  @atom s hs =>
  intro _ ar har hy
  by_cases e:s=x
  ·subst e
   have:cX u (ar++[])=cX u []:=vH ar hu [] fun y hy' hm=>by rw[hy y hm]at hy';cases hy'
   rw[df]at this
   rw[jD hx har]
   simp only[sM,sub,if_true]
   exact⟨hu,this⟩
  ·simp only[sM,if_neg e]
   refine⟨.atom hs,?_⟩
   simp only[cX]
   split
   ·rfl
   ·split
    ·rfl
    ·split
     ·rfl
     ·simp only[sub,if_neg e]
 |
  plus ha hb i1 i2 =>
  intro hap ar har hy
  rw[pP]at hap
  obtain⟨w1,e1⟩:=i1 hap.1 ar har hy
  obtain⟨w2,e2⟩:=i2 hap.2 ar har hy
  rw[xb,dS,dS,e1,e2]
  exact⟨.plus w1 w2,rfl⟩
 |
  times ha hb i1 i2 =>
  intro hap ar har hy
  rw[nZ]at hap
  obtain⟨w1,e1⟩:=i1 hap.1 ar har hy
  obtain⟨w2,e2⟩:=i2 hap.2 ar har hy
  rw[uB,dz,dz,e1,e2]
  exact⟨.times w1 w2,rfl⟩
 |
  @rc n b hn hb i =>
  intro hap ar har hy
  rw[vW]at hap
  obtain⟨w1,e1⟩:=i hap.2 (ar++[n]) (by
   simp only[aP,aU]
   rintro(h|h)
   ·exact har h
   ·exact hap.1.1 h.symm) (fun y hm=>by
   simp only[aP,aU]at hm
   rcases hm with hm|rfl
   ·exact hy y hm
   ·exact hap.1.2)
  rw[Cg,if_neg hap.1.1,fE,fE]
  refine⟨.rc hn w1,?_⟩
  show Ty.rc (cX (sM x u b) (ar++[n]))=_
  rw[e1];rfl
theorem FU{x:Nm}(hx:rQ x){e:E}(h:Wf e):∀ar,fJ x (cX e ar)=if x∈ar then 0 else n8 x e:=by
 induction h with
 |
  @atom s hs =>
  intro ar
  by_cases e:s=x
  ·subst e
   by_cases hm:s∈ar
   ·rw[if_pos hm]
    simp only[cX];rw[if_neg hx.2.1,if_neg hx.2.2]
    cases q:bT s ar ar.length with
    |none=>exact absurd hm ((fK _ _).1 q)
    |some u=>rfl
   ·rw[if_neg hm,jD hx hm];simp[fJ,n8]
  ·have:fJ x (cX (.atom s) ar)=0:=by
    simp only[cX]
    split
    ·rfl
    ·split
     ·rfl
     ·split
      ·rfl
      ·simp[fJ,e]
   rw[this];simp[n8,e]
 |plus ha hb i1 i2=>intro ar;rw[dS,sK,fJ,i1,i2];split<;>simp
 |times ha hb i1 i2=>intro ar;rw[dz,qw,fJ,i1,i2];split<;>simp
 |
  @rc n b hn hb i =>
  intro ar
  rw[fE,yq,fJ,i]
  simp only[eh,aP,aU]
  by_cases h1:x∈ar
  ·simp[h1]
  ·by_cases h2:x=n
   ·simp[h2]
   ·simp[h1,h2,Ne.symm h2]
theorem ek(x:Nm)(u:Ty):∀t:Ty,(sub x u t).atoms+fJ x t=t.atoms+fJ x t*u.atoms
 | .name s=>by simp only[sub,fJ];split<;>simp[Ty.atoms];omega
 | .plus a b=>by have:=ek x u a;have:=ek x u b;simp only[sub,Ty.atoms,fJ,Nat.add_mul];omega
 | .times a b=>by have:=ek x u a;have:=ek x u b;simp only[sub,Ty.atoms,fJ,Nat.add_mul];omega
 | .rc a=>by have:=ek x u a;simp only[sub,Ty.atoms,fJ];omega
 | .zero=>by simp[sub,fJ]
 | .one=>by simp[sub,fJ]
 | .bound k=>by simp[sub,fJ]
abbrev tN(m:Nat):Nm:=116::dd m
theorem Gr(m:Nat):dd m≠[]:=by
 by_cases h:m<10
 ·rw[eX h];simp
 ·rw[ga h];simp
theorem xM:∀(n m k:Nat),m<n->dd m=dd k->m=k
 |0,m,k,h,_=>by omega
 |
  n+1,m,k,h,e=>by
  have d10:∀{a b:Nat},a<10->b<10->bp (48+a)=bp (48+b)->a=b:=fun {a b} ha hb h=>by
   have:=congrArg UInt8.toNat h
   simp only[UInt8.toNat_ofNat']at this
   omega
  by_cases h1:m<10<;>by_cases h2:k<10
  ·rw[eX h1,eX h2]at e
   simp only[List.cons.injEq,and_true]at e
   exact d10 h1 h2 e
  ·rw[eX h1,ga h2]at e
   have:=congrArg List.length e
   have:dd (k/10)=[]:=by
    apply cg
    simp at this;simpa using this
   exact absurd this (Gr _)
  ·rw[ga h1,eX h2]at e
   have:=congrArg List.length e
   have:dd (m/10)=[]:=by
    apply cg
    simp at this;simpa using this
   exact absurd this (Gr _)
  ·rw[ga h1,ga h2]at e
   obtain⟨e1,e2⟩:=List.append_inj' e rfl
   have:=xM n (m/10) (k/10) (by omega) e1
   simp only[List.cons.injEq,and_true]at e2
   have:=d10 (Nat.mod_lt _ (by omega)) (Nat.mod_lt _ (by omega)) e2
   omega
theorem Ci{m k:Nat}(h:tN m=tN k):m=k:=xM (m+1) m k (by omega) (List.cons.inj h).2
theorem yU(m:Nat):rQ (tN m):=⟨by simp,by simp,by simp⟩
theorem UX:∀(l F:List Nm),l.Nodup->(∀x,x∈l->x∈F)->l.length<=F.length
 |[],_,_,_=>dM _
 |
  x::l,F,hn,hs=>by
  obtain⟨h1,h2⟩:=List.nodup_cons.1 hn
  have hx:=hs x ak
  have:=UX l (F.erase x) h2 fun y hy=>(List.mem_erase_of_ne (fun e=>h1 (by rw[<-e];exact hy))).2 (hs y (al _ hy))
  rw[List.length_erase_of_mem hx]at this
  have:0<F.length:=List.length_pos_of_mem hx
  simp only[aw];omega
def rn(F:List Nm):Nat->Nat->Nat
 |0,k=>k
 |n+1,k=>if tN k∈F then rn F n (k+1)else k
theorem wG(F:List Nm):∀(n k:Nat),k<=rn F n k/\rn F n k<=k+n/\(∀j,k<=j->j<rn F n k->tN j∈F)/\(rn F n k<k+n->tN (rn F n k)∉F)
 |0,k=>⟨au _,au _,fun j h1 h2=>by simp only[rn]at h2;omega,fun h=>by simp only[rn]at h;omega⟩
 |
  n+1,k=>by
  rw[rn]
  split
  ·rename_i hm
   obtain⟨h1,h2,h3,h4⟩:=wG F n (k+1)
   refine⟨by omega,by omega,fun j hj hl=>?_,fun h=>h4 (by omega)⟩
   by_cases e:j=k
   ·subst e;exact hm
   ·exact h3 j (by omega) hl
  ·rename_i hm
   exact⟨au _,by omega,fun j h1 h2=>by omega,fun _=>hm⟩
def nx(F:List Nm)(k:Nat):Nat:=rn F (F.length+1) k
theorem gV(F:List Nm)(k:Nat):k<=nx F k/\nx F k<=k+F.length/\(∀j,k<=j->j<nx F k->tN j∈F)/\tN (nx F k)∉F:=by
 obtain⟨h1,h2,h3,h4⟩:=wG F (F.length+1) k
 have hlt:nx F k<k+(F.length+1):=by
  rcases Nat.lt_or_ge (nx F k) (k+(F.length+1))with h|h
  ·exact h
  ·exfalso
   have:=UX ((List.range' k (F.length+1)).map tN) F (by
    refine List.Pairwise.map _ (fun a b hab e=>hab (Ci e)) List.nodup_range') (fun x hx=>by
    obtain⟨j,hj,rfl⟩:=bO.1 hx
    obtain⟨i,hi,rfl⟩:=List.mem_range'.1 hj
    exact h3 _ (by omega) (by show _<nx F k;omega))
   simp at this
   omega
 exact⟨h1,by unfold nx at hlt |-;omega,h3,h4 hlt⟩
theorem DS{F F':List Nm}(h:∀y,y∈F↔y∈F')(k:Nat):nx F k=nx F' k:=by
 obtain⟨a1,a2,a3,a4⟩:=gV F k
 obtain⟨b1,b2,b3,b4⟩:=gV F' k
 rcases Nat.lt_trichotomy (nx F k) (nx F' k)with hl|he|hl
 ·exact absurd ((h _).2 (b3 _ a1 hl)) a4
 ·exact he
 ·exact absurd ((h _).1 (a3 _ b1 hl)) b4
def iG(F:List Nm):Ty->List Nm->Nat->E×Nat
 | .zero,_,k=>(.atom [48],k)
 | .one,_,k=>(.atom [49],k)
 | .name s,_,k=>(.atom s,k)
 | .bound u,to,k=>(.atom (gH to u),k)
 | .plus a b,to,k=>(.list [.atom [43],(iG F a to k).1,(iG F b to (iG F a to k).2).1],(iG F b to (iG F a to k).2).2)
 | .times a b,to,k=>(.list [.atom [42],(iG F a to k).1,(iG F b to (iG F a to k).2).1],(iG F b to (iG F a to k).2).2)
 | .rc a,to,k=>(.list [.atom dL,.atom (tN (nx F k)),(iG F a (to++[tN (nx F k)]) (nx F k+1)).1],(iG F a (to++[tN (nx F k)]) (nx F k+1)).2)
theorem ka{F F':List Nm}(h:∀y,y∈F↔y∈F'):∀(t:Ty) (to:List Nm) (k:Nat),iG F t to k=iG F' t to k
 | .zero,_,_=>rfl
 | .one,_,_=>rfl
 | .name _,_,_=>rfl
 | .bound _,_,_=>rfl
 | .plus a b,to,k=>by simp only[iG];rw[ka h a,ka h b]
 | .times a b,to,k=>by simp only[iG];rw[ka h a,ka h b]
 | .rc a,to,k=>by simp only[iG];rw[DS h,ka h a]
def kP:Ty->Nat->Prop
 | .bound u,i=>u<i
 | .plus a b,i=>kP a i/\kP b i
 | .times a b,i=>kP a i/\kP b i
 | .rc a,i=>kP a (i+1)
 |_,_=>True
theorem uV{e:E}(h:Wf e):∀ar,kP (cX e ar) ar.length:=by
 induction h with
 |
  @atom s hs =>
  intro ar
  simp only[cX]
  split
  ·trivial
  ·split
   ·trivial
   ·split
    ·rename_i u q;exact(fS _ _ (au _) q).1
    ·trivial
 |plus ha hb i1 i2=>intro ar;rw[dS];exact⟨i1 ar,i2 ar⟩
 |times ha hb i1 i2=>intro ar;rw[dz];exact⟨i1 ar,i2 ar⟩
 |
  @rc n b hn hb i =>
  intro ar;rw[fE]
  have:=i (ar++[(E.atom n).at])
  rw[an]at this
  exact this
structure Gn(F to:List Nm)(k:Nat):Prop where
 out:∀w,w∈to->w∉F
 lt:∀w,w∈to->∃j,j<k/\w=tN j
 nd:to.Nodup
theorem Gn.nil(F:List Nm)(k:Nat):Gn F [] k:=⟨fun _ h=>(by cases h),fun _ h=>(by cases h),by simp⟩
theorem Gn.mono{F to:List Nm}{k k':Nat}(h:Gn F to k)(hk:k<=k'):Gn F to k':=⟨h.out,fun w hw=>by obtain⟨j,h1,h2⟩:=h.lt w hw;exact⟨j,by omega,h2⟩,h.nd⟩
theorem Gn.push{F to:List Nm}{k:Nat}(h:Gn F to k):Gn F (to++[tN (nx F k)]) (nx F k+1):=by
 obtain⟨h1,h2,h3,h4⟩:=gV F k
 refine⟨fun w hw=>?_,fun w hw=>?_,?_⟩
 ·rcases aP.1 hw with hw|hw
  ·exact h.out w hw
  ·simp only[aU]at hw;rw[hw];exact h4
 ·rcases aP.1 hw with hw|hw
  ·obtain⟨j,g1,g2⟩:=h.lt w hw;exact⟨j,by omega,g2⟩
  ·simp only[aU]at hw;exact⟨_,by omega,hw⟩
 ·refine List.nodup_append.2 ⟨h.nd,by simp,fun a ha b hb e=>?_⟩
  simp only[aU]at hb
  obtain⟨j,g1,g2⟩:=h.lt a ha
  rw[e,hb]at g2
  have:=Ci g2
  omega
theorem vy{to:List Nm}(hn:to.Nodup){u:Nat}(hu:u<to.length):bT (gH to u) to to.length=some u:=by
 have hm:gH to u∈to:=by
  unfold gH
  have:to.length-1-u<to.length:=by omega
  simp[aa,this]
 cases q:bT (gH to u) to to.length with
 |none=>exact absurd hm ((fK _ _).1 q)
 |
  some v =>
  obtain⟨h1,h2⟩:=fS _ _ (au _) q
  unfold gH at h2
  have e1:to.length-1-v<to.length:=by omega
  have e2:to.length-1-u<to.length:=by omega
  rw[aa,aa,a7 e1,a7 e2]at h2
  have hp:=List.pairwise_iff_getElem.1 hn
  have h3:to[to.length-1-v]=to[to.length-1-u]:=by simpa using h2
  rcases Nat.lt_trichotomy (to.length-1-v) (to.length-1-u)with hl|he|hl
  ·exact absurd h3 (hp _ _ e1 e2 hl)
  ·congr 1;omega
  ·exact absurd h3.symm (hp _ _ e2 e1 hl)
theorem lu(F:List Nm):∀(t:Ty) (to:List Nm) (k:Nat),Gn F to k->kP t to.length->(∀y,bz y t=true->y∈F/\rQ y) ->
 Wf (iG F t to k).1/\cX (iG F t to k).1 to=t/\k<=(iG F t to k).2/\(iG F t to k).2<=k+(F.length+1)*t.atoms/\vI (·∉F) (iG F t to k).1
 | .zero,to,k,_,_,_=>⟨.atom (by simp),rfl,au _,dj _ _,trivial⟩
 | .one,to,k,_,_,_=>⟨.atom (by simp),rfl,au _,dj _ _,trivial⟩
 |
  .name s,to,k,g,hl,hn=>by
  obtain⟨h1,h2⟩:=hn s (by simp[bz])
  exact⟨.atom h2.1,jD h2 (fun h=>g.out s h h1),au _,dj _ _,trivial⟩
 |
  .bound u,to,k,g,hl,hn=>by
  have hm:gH to u∈to:=by
   unfold gH
   have:to.length-1-u<to.length:=by have:u<to.length:=hl;omega
   simp[aa,this]
  obtain⟨j,_,e⟩:=g.lt _ hm
  have hok:rQ (gH to u):=by rw[e];exact yU j
  refine⟨.atom hok.1,?_,au _,dj _ _,trivial⟩
  simp only[iG,cX]
  rw[if_neg hok.2.1,if_neg hok.2.2,vy g.nd hl]
 |
  .plus a b,to,k,g,hl,hn=>by
  obtain⟨a1,a2,a3,a4,a5⟩:=lu F a to k g hl.1 fun y hy=>hn y (by simp[bz,hy])
  obtain⟨b1,b2,b3,b4,b5⟩:=lu F b to _ (g.mono a3) hl.2 fun y hy=>hn y (by simp[bz,hy])
  simp only[iG,dS,a2,b2,pP,Ty.atoms]
  refine⟨.plus a1 b1,trivial,by omega,?_,a5,b5⟩
  have:(F.length+1)*(1+a.atoms+b.atoms)=(F.length+1)+(F.length+1)*a.atoms+(F.length+1)*b.atoms:=by simp only[cZ,dO]
  omega
 |
  .times a b,to,k,g,hl,hn=>by
  obtain⟨a1,a2,a3,a4,a5⟩:=lu F a to k g hl.1 fun y hy=>hn y (by simp[bz,hy])
  obtain⟨b1,b2,b3,b4,b5⟩:=lu F b to _ (g.mono a3) hl.2 fun y hy=>hn y (by simp[bz,hy])
  simp only[iG,dz,a2,b2,nZ,Ty.atoms]
  refine⟨.times a1 b1,trivial,by omega,?_,a5,b5⟩
  have:(F.length+1)*(1+a.atoms+b.atoms)=(F.length+1)+(F.length+1)*a.atoms+(F.length+1)*b.atoms:=by simp only[cZ,dO]
  omega
 |
  .rc a,to,k,g,hl,hn=>by
  obtain⟨h1,h2,h3,h4⟩:=gV F k
  obtain⟨a1,a2,a3,a4,a5⟩:=lu F a (to++[tN (nx F k)]) (nx F k+1) g.push (by rw[an];exact hl) hn
  simp only[iG,fE,eh,a2,vW,Ty.atoms]
  refine⟨.rc (yU _) a1,trivial,by omega,?_,h4,a5⟩
  have:(F.length+1)*(2+a.atoms)=(F.length+1)*2+(F.length+1)*a.atoms:=by simp only[cZ]
  omega
end Go.Proofs.Trees
namespace Go.Proofs.Trees
open Go Go.VL
mutual
def E.pr:E->Prop
 | .atom s=>s≠[]/\s.all fq=true
 | .list l=>l≠[]/\E.DE l
def E.DE:List E->Prop
 |[]=>True
 |e::l=>e.pr/\E.DE l
end
mutual
def E.dp:E->Nat
 | .atom _=>0
 | .list l=>1+E.vZ l
def E.vZ:List E->Nat
 |[]=>0
 |e::l=>max e.dp (E.vZ l)
end
def Lv(r:List UInt8):Prop:=∀c t,r=c::t->fq c=false
theorem u9:Lv []:=by intro c t h;cases h
theorem DN{s r:List UInt8}(hs:s.all fq=true)(hr:Lv r):(s++r).takeWhile fq=s/\(s++r).dropWhile fq=r:=by
 induction s with
 |
  nil =>
  cases r with
  |nil=>exact⟨rfl,rfl⟩
  |cons c t=>have:=hr c t rfl;simp[List.takeWhile,List.dropWhile,this]
 |
  cons c s ih =>
  simp only[di,aA]at hs
  have:=ih hs.2
  simp[List.takeWhile,List.dropWhile,hs.1,this.1,this.2]
theorem wt(l:List E)(r:List UInt8):Lv (ew l++41::r):=by
 intro c t h
 cases l with
 |nil=>simp only[ew,aR,List.cons.injEq]at h;rw[<-h.1];decide
 |cons e l=>simp only[ew,bj,List.cons.injEq]at h;rw[<-h.1];decide
theorem BP{f:List UInt8->Option (E×List UInt8)}(r:List UInt8):∀(l:List E) (e:E) (acc:List E) (n:Nat),l.length<n->(∀x,x=e\/x∈l->∀r,Lv r->f (fh x++r)=some (x,r)) ->
 tD f n (fh e++(ew l++41::r)) acc=some (.list (acc++e::l),r)
 |l,e,acc,0,hn,hf=>by omega
 |
  [],e,acc,n+1,hn,hf=>by
  simp only[tD]
  rw[hf e (.inl rfl) _ (wt [] r)]
  simp[ew]
 |
  x::l,e,acc,n+1,hn,hf=>by
  simp only[tD]
  rw[hf e (.inl rfl) _ (wt (x::l) r)]
  simp only[aw]at hn
  have ih:=BP r l x (acc++[e]) n (by omega) (fun y hy=>hf y (.inr (by cases hy with|inl h=>rw[h];exact ak|inr h=>exact al _ h)))
  simp only[aY,bj,aR]at ih
  simp only[ew,bj,aY]
  simp[ih]
theorem F6{l:List E}{k:Nat}:E.DE l->E.vZ l<=k->∀x,x∈l->x.pr/\x.dp<=k:=by
 induction l with
 |nil=>intro _ _ x h;cases h
 |
  cons e l ih =>
  intro h hd x hx
  simp only[E.DE,E.vZ]at h hd
  cases hx with
  |head=>exact⟨h.1,by omega⟩
  |tail _ hx=>exact ih h.2 (by omega) x hx
theorem Aw:∀(k:Nat) (e:E) (r:List UInt8),e.pr->e.dp<=k->Lv r->rd k (fh e++r)=some (e,r)
 |
  0,.atom s,r,hp,hd,hr=>by
  have h:=DN hp.2 hr
  simp only[fh,rd,h.1,h.2,hp.1,if_false]
 |
  k+1,.atom s,r,hp,hd,hr=>by
  have h:=DN hp.2 hr
  simp only[fh,rd,h.1,h.2,hp.1,if_false]
 |0,.list l,r,hp,hd,hr=>by simp only[E.dp]at hd;omega
 |k+1,.list [],r,hp,hd,hr=>by exact absurd rfl hp.1
 |
  k+1,.list (e::l),r,hp,hd,hr=>by
  have hs:fq 40=false:=by decide
  simp only[E.dp,E.pr]at hd hp
  have hm:=F6 (k:=k) hp.2 (by omega)
  have:=BP (f:=rd k) r l e [] ((fh e++(ew l++41::r)).length+1) (by have:=tu l;simp only[an,aw];omega)
   (fun x hx r hr=>Aw k x r (hm x (by cases hx with|inl h=>rw[h];exact ak|inr h=>exact al _ h)).1 (hm x (by cases hx with|inl h=>rw[h];exact ak|inr h=>exact al _ h)).2 hr)
  simp only[fh,bj,aY,aR]at *
  simp only[rd,List.takeWhile,hs,if_true]
  simpa using this
theorem B7{e e':E}(h:e.pr)(h':e'.pr)(ht:fh e=fh e'):e=e':=by
 have a:=Aw (max e.dp e'.dp) e [] h (by omega) u9
 have b:=Aw (max e.dp e'.dp) e' [] h' (by omega) u9
 rw[ht,b]at a;cases a;rfl
theorem HX{e:E}(h:e.pr)(hd:e.dp<=300)(hl:(fh e).length<=8000):rM (fh e)=some e:=by
 have:=Aw 300 e [] h hd u9
 rw[df]at this
 rw[rM,this];simp;omega
theorem Cc(s:List UInt8):(s.takeWhile fq).all fq=true:=by
 induction s with
 |nil=>rfl
 |cons c s ih =>
  cases h:fq c
  ·simp[List.takeWhile,h]
  ·simp only[List.takeWhile,h,di,ih];rfl
theorem FK(l r:List E):E.DE (l++r)↔E.DE l/\E.DE r:=by
 induction l with
 |nil=>simp[E.DE]
 |cons e l ih=>simp[E.DE,ih,and_assoc]
theorem ER(l r:List E):E.vZ (l++r)=max (E.vZ l) (E.vZ r):=by
 induction l with
 |nil=>simp[E.vZ]
 |cons e l ih=>simp[E.vZ,ih,Nat.max_assoc]
theorem Az{k:Nat}{f:List UInt8->Option (E×List UInt8)}(hf:∀s e r,f s=some (e,r)->s=fh e++r/\e.pr/\e.dp<=k):∀(n:Nat) (s:List UInt8) (acc:List E) (e:E) (r:List UInt8),tD f n s acc=some (e,r)->E.DE acc->E.vZ acc<=k ->
 ∃l,e=.list (acc++l)/\l≠[]/\32::s=ew l++41::r/\E.DE l/\E.vZ l<=k
 |0,s,acc,e,r,h,hp,hd=>by cases h
 |
  n+1,s,acc,e,r,h,hp,hd=>by
  simp only[tD]at h
  split at h
  ·rename_i p c r' hs
   obtain⟨h1,h2,h3⟩:=hf _ _ _ hs
   split at h
   ·rename_i hc
    have hc:c=41:=UInt8.toNat_inj.mp hc
    cases h
    exact⟨[p],rfl,by simp,by simp[ew,h1,hc],⟨h2,trivial⟩,by simp[E.vZ];omega⟩
   ·split at h
    ·rename_i hc
     have hc:c=32:=UInt8.toNat_inj.mp hc
     obtain⟨l,g1,g2,g3,g4,g5⟩:=Az hf n _ _ _ _ h ((FK _ _).mpr ⟨hp,h2,trivial⟩) (by rw[ER];simp[E.vZ];omega)
     refine⟨p::l,by simpa using g1,by simp,?_,⟨h2,g4⟩,by simp only[E.vZ];omega⟩
     rw[h1,hc,g3];simp[ew]
    ·cases h
  ·cases h
theorem Df:∀(k:Nat) (s:List UInt8) (e:E) (r:List UInt8),rd k s=some (e,r)->s=fh e++r/\e.pr/\e.dp<=k
 |
  0,s,e,r,h=>by
  simp only[rd]at h
  split at h
  ·cases h
  ·rename_i hs;cases h
   exact⟨(List.takeWhile_append_dropWhile).symm,⟨hs,Cc s⟩,au _⟩
 |
  k+1,s,e,r,h=>by
  simp only[rd]at h
  split at h
  ·split at h
   ·rename_i c r' _
    split at h
    ·rename_i hc
     have hc:c=40:=UInt8.toNat_inj.mp hc
     obtain⟨l,g1,g2,g3,g4,g5⟩:=Az (k:=k) (fun s e r h=>Df k s e r h) _ _ _ _ _ h trivial (dM _)
     simp only[aR]at g1
     subst g1;subst hc
     refine⟨?_,⟨g2,g4⟩,by simp only[E.dp];omega⟩
     cases l with
     |nil=>exact absurd rfl g2
     |
      cons x l =>
      simp only[ew,bj,aY,List.cons.injEq,true_and]at g3
      rw[g3];simp[fh]
    ·cases h
   ·cases h
  ·rename_i hs;cases h
   exact⟨(List.takeWhile_append_dropWhile).symm,⟨hs,Cc s⟩,by simp[E.dp]⟩
theorem yW{s:List UInt8}{e:E}(h:rM s=some e):s=fh e/\e.pr/\e.dp<=300/\s.length<=8000:=by
 unfold rM at h
 split at h
 ·cases h
 ·rename_i hl
  split at h
  ·rename_i e' hr
   cases h
   have:=Df _ _ _ _ hr
   exact⟨by simpa using this.1,this.2.1,this.2.2,by omega⟩
  ·cases h
theorem CP{k:Nat}(h:k<10):fq (bp (48+k))=true:=by
 have:∀k:Fin 10,fq (bp (48+k.val))=true:=by decide
 exact this ⟨k,h⟩
theorem yh:∀(n k:Nat),k<n->(dd k).all fq=true
 |0,k,h=>by omega
 |
  n+1,k,h=>by
  by_cases hk:k<10
  ·rw[eX hk,di,CP hk];rfl
  ·rw[ga hk]
   have:=yh n (k/10) (by omega)
   rw[List.all_append,this,di,CP (Nat.mod_lt k (by omega:0<10))];rfl
theorem Kc(k:Nat):(E.atom (yQ k)).pr:=⟨by simp,by have:=yh (k+1) k (by omega);simp only[yQ,di,this];decide⟩
theorem nG:∀v:Vl,v.cG.pr
 | .u=>⟨by simp,by decide⟩
 | .el k=>Kc k
 | .l v=>⟨by simp,⟨by simp,by decide⟩,nG v,trivial⟩
 | .r v=>⟨by simp,⟨by simp,by decide⟩,nG v,trivial⟩
 | .f v=>⟨by simp,⟨by simp,by decide⟩,nG v,trivial⟩
 | .p a b=>⟨by simp,⟨by simp,by decide⟩,nG a,nG b,trivial⟩
theorem qt:∀v:Vl,v.cG.dp<v.nodes+1
 | .u=>by simp[Vl.cG,E.dp,Vl.nodes]
 | .el k=>by simp[Vl.cG,E.dp,Vl.nodes]
 | .l v=>by have:=qt v;simp only[Vl.cG,E.dp,E.vZ,Vl.nodes]at *;omega
 | .r v=>by have:=qt v;simp only[Vl.cG,E.dp,E.vZ,Vl.nodes]at *;omega
 | .f v=>by have:=qt v;simp only[Vl.cG,E.dp,E.vZ,Vl.nodes]at *;omega
 | .p a b=>by have:=qt a;have:=qt b;simp only[Vl.cG,E.dp,E.vZ,Vl.nodes]at *;omega
theorem EV(k:Nat)(h:k<100):(dd k).length<=2:=by
 by_cases hk:k<10
 ·rw[eX hk];simp
 ·rw[ga hk,eX (by omega:k/10<10)];simp
theorem lL:∀v:Vl,v.fu 100->v.cf.length<=5*v.nodes
 | .u,_=>by simp[Vl.cf,Vl.cG,fh,Vl.nodes]
 |
  .el k,h=>by
  have:=EV k h
  simp only[Vl.cf,Vl.cG,fh,Vl.nodes,aw];omega
 | .l v,h=>by have:=lL v h;simp only[Vl.cf,Vl.cG,fh,ew,Vl.nodes,aw,an,aF]at this |-;omega
 | .r v,h=>by have:=lL v h;simp only[Vl.cf,Vl.cG,fh,ew,Vl.nodes,aw,an,aF]at this |-;omega
 | .f v,h=>by have:=lL v h;simp only[Vl.cf,Vl.cG,fh,ew,Vl.nodes,aw,an,aF]at this |-;omega
 | .p a b,h=>by have:=lL a h.1;have:=lL b h.2;simp only[Vl.cf,Vl.cG,fh,ew,Vl.nodes,aw,an,aF]at *;omega
theorem Jo(k:Nat):yQ k≠[117]:=by simp[yQ]
theorem kS:∀v:Vl,v.fu 100->fY v.cG=some v
 | .u,_=>by simp[Vl.cG,fY]
 | .el k,h=>by simp only[Vl.cG,fY,Jo,if_false,xw k h]
 | .l v,h=>by simp only[Vl.cG,fY,kS v h,E.at];simp
 | .r v,h=>by simp only[Vl.cG,fY,kS v h,E.at];simp
 | .f v,h=>by simp only[Vl.cG,fY,kS v h,E.at];simp
 | .p a b,h=>by simp only[Vl.cG,fY,kS a h.1,kS b h.2,E.at];simp
theorem rL{v:Vl}(h:v.fu 100)(hn:v.nodes<=200):rp v.cf=some v:=by
 have hd:=qt v
 have hl:=lL v h
 rw[rp,HX (nG v) (by omega) (by show v.cf.length<=8000;omega)]
 simp only[kS v h]
 rw[if_neg (by omega)]
theorem n6{v w:Vl}(h:v.fu 100)(h':w.fu 100)(ht:v.cf=w.cf):v=w:=by
 have:=B7 (nG v) (nG w) ht
 have a:=kS v h
 rw[this,kS w h']at a;cases a;rfl
theorem n0{s:List UInt8}{v:Vl}(h:rp s=some v):s=v.cf:=(yW (mL h).1).1
end Go.Proofs.Trees
namespace Go.Proofs.Trees
open Go Go.VL Go.RowKit
theorem bL(l:List E):(E.list l).at=[]:=rfl
def cL:Ty->Vl->Vl->Vl
 | .plus a _,.l c,v=>.l (cL a c v)
 | .plus _ b,.r c,v=>.r (cL b c v)
 | .times a _,.l (.p x y),v=>.p (cL a x v) y
 | .times _ b,.r (.p x y),v=>.p x (cL b y v)
 | .rc a,.f (.l x),v=>.f (cL a x v)
 | .rc a,.f (.r (.p x y)),v=>.f (cL a x (cL (.rc a) y v))
 |_,_,v=>v
def dD:Ty->Vl->Bool
 | .plus a _,.l c=>dD a c
 | .plus _ b,.r c=>dD b c
 | .times a _,.l (.p x _)=>dD a x
 | .times _ b,.r (.p _ y)=>dD b y
 | .rc a,.f (.l x)=>dD a x
 | .rc a,.f (.r (.p x y))=>dD a x&&dD (.rc a) y
 | .plus _ _,_=>false
 | .times _ _,_=>false
 | .rc _,_=>false
 |_,_=>true
theorem uH(c v:Vl):cL .zero c v=v:=by cases c<;>rfl
theorem xj(c v:Vl):cL .one c v=v:=by cases c<;>rfl
theorem l9(s:List UInt8)(c v:Vl):cL (.name s) c v=v:=by cases c<;>rfl
theorem oU(u:Nat)(c v:Vl):cL (.bound u) c v=v:=by cases c<;>rfl
theorem wk{a b:Ty}{c:Vl}(h:dD (.plus a b) c=true):(∃x,c=.l x/\dD a x=true)\/∃x,c=.r x/\dD b x=true:=by
 cases c<;>simp[dD]at h<;>simp[h]
theorem uk{a b:Ty}{c:Vl}(h:dD (.times a b) c=true):(∃x y,c=.l (.p x y)/\dD a x=true)\/∃x y,c=.r (.p x y)/\dD b y=true:=by
 cases c with
 |l c=>cases c<;>simp[dD]at h<;>simp[h]
 |r c=>cases c<;>simp[dD]at h<;>exact .inr ⟨_,_,rfl,h⟩
 |_=>simp[dD]at h
theorem Dp{a:Ty}{c:Vl}(h:dD (.rc a) c=true):(∃x,c=.f (.l x)/\dD a x=true)\/∃x y,c=.f (.r (.p x y))/\dD a x=true/\dD (.rc a) y=true:=by
 cases c with
 |
  f c =>
  cases c with
  |l c=>simp[dD]at h;simp[h]
  |r c=>cases c<;>simp[dD]at h<;>exact .inr ⟨_,_,rfl,h⟩
  |_=>simp[dD]at h
 |_=>simp[dD]at h
theorem Jx{t:Ty}{tg:Tg}(c:Vl)(h:eH t tg=true):dD t c=true:=by
 cases t<;>first|(simp[eH]at h;done)|(cases c<;>rfl)
theorem jS:∀(n:Nat) (t:Ty) (tg:Tg) (v:Vl) (h:Hl),h∈dY n t tg v->dD t h.1=true
 |0,t,tg,v,h,hm=>by simp[dY]at hm
 |
  n+1,t,tg,v,h,hm=>by
  unfold dY at hm
  split at hm
  ·rename_i e
   exact Jx _ e
  ·unfold jT at hm
   split at hm
   ·obtain⟨k,h1,rfl⟩:=cN hm
    exact jS n _ _ _ k h1
   ·obtain⟨k,h1,rfl⟩:=cN hm
    exact jS n _ _ _ k h1
   ·rcases aP.1 hm with hm|hm
    ·obtain⟨k,h1,rfl⟩:=cN hm
     exact jS n _ _ _ k h1
    ·obtain⟨k,h1,rfl⟩:=cN hm
     exact jS n _ _ _ k h1
   ·rcases aP.1 hm with hm|hm
    ·obtain⟨k,h1,rfl⟩:=cN hm
     exact jS n _ _ _ k h1
    ·obtain⟨k,h1,h2⟩:=dA.1 hm
     obtain⟨k2,h3,rfl⟩:=cN h2
     have q1:=jS n _ _ _ k h1
     have q2:=jS n _ _ _ k2 h3
     simp[dD,q1,q2]
   ·simp at hm
theorem y0{a:Ty}{v:Vl}{h:Hl}(hh:h∈kids a v):dD a h.1=true:=by
 cases v with
 |f w=>exact jS _ _ _ _ h hh
 |_=>cases hh
theorem oY(t:Ty)(c v:Vl):(cL t c v).nodes<=c.nodes+v.nodes:=by
 induction t,c,v using cL.induct<;>simp only[cL,Vl.nodes]at*<;> omega
theorem ns(m:Nat)(t:Ty)(c v:Vl):c.fu m->v.fu m->(cL t c v).fu m:=by
 induction t,c,v using cL.induct with
 |case1 a b c v ih=>exact fun h h'=>ih h h'
 |case2 a b c v ih=>exact fun h h'=>ih h h'
 |case3 a b x y v ih=>exact fun h h'=>⟨ih h.1 h',h.2⟩
 |case4 a b x y v ih=>exact fun h h'=>⟨h.1,ih h.2 h'⟩
 |case5 a x v ih=>exact fun h h'=>ih h h'
 |case6 a x y v ih1 ih2=>exact fun h h'=>ih2 h.1 (ih1 h.2 h')
 |case7=>intro h h';simpa only[cL]using h'
def iB:List Hl->List Hl->Nat->List Nat
 |x::l,y::r,i=>if x.2.cf=y.2.cf then iB l r (i+1)else i::iB l r (i+1)
 |_,_,_=>[]
theorem kA:∀(l r:List Hl) (i k:Nat),k∈iB l r i->i<=k/\k<i+l.length/\k<i+r.length
 |[],_,_,_,h=>by simp[iB]at h
 |_::_,[],_,_,h=>by simp[iB]at h
 |
  x::l,y::r,i,k,h=>by
  unfold iB at h
  split at h
  ·have:=kA l r (i+1) k h;simp only[aw];omega
  ·rcases aI.1 h with rfl|h
   ·simp only[aw];omega
   ·have:=kA l r (i+1) k h;simp only[aw];omega
theorem si:∀(l:List Hl) (i:Nat),iB l l i=[]
 |[],_=>rfl
 |x::l,i=>by rw[iB,if_pos rfl,si l]
theorem so(l r:List Hl){i:Nat}(h:i<l.length)(h':i<r.length):iB (l.drop i) (r.drop i) i=if(l[i]).2.cf=(r[i]).2.cf then iB (l.drop (i+1)) (r.drop (i+1)) (i+1)else i::iB (l.drop (i+1)) (r.drop (i+1)) (i+1):=by
 rw[aL h,aL h',iB]
abbrev HK:=List Nat×Vl×Vl
def rj:Hl:=(.u,.u)
def xR(f:Vl->Vl->HK)(a:Ty)(v w:Vl):HK :=
 if(kids a v).length≠(kids a w).length then([],v,w)else match iB (kids a v) (kids a w) 0 with
 |[k]=>if(Vl.f (cL a ((kids a v).getD k rj).1 ((kids a w).getD k rj).2)).cf=w.cf then(k::(f ((kids a v).getD k rj).2 ((kids a w).getD k rj).2).1,(f ((kids a v).getD k rj).2 ((kids a w).getD k rj).2).2)else([],v,w)
 |_=>([],v,w)
def kE:Nat->Ty->Vl->Vl->HK
 |0,_,v,w=>([],v,w)
 |n+1,a,v,w=>xR (kE n a) a v w
theorem xt(n:Nat)(a:Ty)(v:Vl):kE n a v v=([],v,v):=by
 cases n with
 |zero=>rfl
 |succ n=>rw[kE,xR,si];simp
theorem lV:∀(n:Nat) (a:Ty) (v w:Vl),v.nodes<=n->(kE n a v w).1.length+1<=v.nodes
 |0,a,v,w,h=>by have:=cM v;omega
 |
  n+1,a,v,w,h=>by
  have:=cM v
  rw[kE,xR]
  split
  ·simp only[aF];omega
  ·rename_i hl
   have hl:(kids a v).length=(kids a w).length:=by omega
   split
   ·rename_i k hk
    split
    ·have hb:=kA (kids a v) (kids a w) 0 k (by rw[hk];exact ak)
     have hm:(kids a v).getD k rj∈kids a v:=by
      rw[aa,a7 (by omega)];exact bh _
     have:=gd hm
     have:=lV n a ((kids a v).getD k rj).2 ((kids a w).getD k rj).2 (by omega)
     simp only[aw];omega
    ·simp only[aF];omega
   ·simp only[aF];omega
end Go.Proofs.Trees
namespace Go.Proofs.Trees
open Go Go.VL Go.RowKit
theorem pd(s:Nm)(a b:E):aq Tryz.prog 54 [.agg [.v (.string (mk [])),(E.list [.atom s,a,b]).sp]] [] (bN (.v (.string (mk s)))):=v7 (.atom s) [a,b]
theorem EF{e:E}(h:Wf e):∀(bd l:List Nm) (a:AV),cQ a bd->bd.length+l.length+e.sz<100000->aq Tryz.prog 98 [.agg [.v (.string (mk e.at)),e.sp],a,.vec 0] [.vec 1 (bX l)] (dh (.vec 1) [.dead,.vec 1 (bX (lh e bd l))]):=by
 induction h with
 |
  @atom s hs =>
  intro bd l a ha hl
  simp only[E.sz]at hl
  refine Bm _ _ _ _ ((aV _).mpr trivial) ha.1 ?_
  have hll:(bX l).length=l.length:=by simp[bX]
  simp only[xQ,eh,↓zq,zs,af,zt,dh,lh]
  refine⟨fun _=>⟨fun h=>?_,fun h=>⟨fun h1=>?_,fun h1=>?_⟩⟩,fun h=>absurd h hs⟩
  ·rw[if_pos (.inl h)]
  ·rw[if_pos (.inr (.inl h1))]
  ·refine aj (yd bd a ha s (by omega)) ?_
   simp only[↓zq,zs,af]
   refine⟨fun h2=>?_,fun h2=>aj (yd l _ (.of l) s (by omega)) ?_⟩
   ·rw[if_pos (.inr (.inr (.inl h2)))]
   ·simp only[↓zq,zs,af]
    refine⟨fun h3=>?_,fun h3=>⟨⟨fun c hc=>(by simp at hc;rw[hc];rfl),by omega⟩,?_⟩⟩
    ·rw[if_pos (.inr (.inr (.inr h3)))]
    ·rw[GF,if_neg]
     rintro(q|q|q|q)
     ·exact h q
     ·exact h1 q
     ·exact h2 q
     ·exact h3 q
 |
  @plus x y hx hy i1 i2 =>
  intro bd l a ha hl
  simp only[E.sz,E.jN]at hl
  have hfl:=gx x bd l
  refine Bm _ _ _ _ ((aV _).mpr trivial) ha.1 ?_
  have hP:=P3.of (.atom [43]) x y
  simp only[xQ,bL,toNat_one,bn,↓zq,zs,af,zt,hP.1,hP.2.1,hP.2.2.1,hP.2.2.2,aK,dh]
  refine⟨fun h=>absurd rfl h,fun _=>?_⟩
  refine aj (pd [43] x y) ?_
  simp only[↓zq,zs,af,zt]
  refine⟨fun h=>by simp at h,fun _=>?_⟩
  repeat refine⟨by omega,?_⟩
  refine aX (i1 bd l a ha (by omega)) ?_
  simp only[↓zq,zs,af,zt,aM,bx,Ob.es]
  repeat refine⟨by omega,?_⟩
  refine aX (i2 bd (lh x bd l) a ha (by omega)) ?_
  simp only[↓zq,zs,af,zt,aM,bx,Ob.es]
  rw[lh,if_neg (by decide)]
 |
  @times x y hx hy i1 i2 =>
  intro bd l a ha hl
  simp only[E.sz,E.jN]at hl
  have hfl:=gx x bd l
  refine Bm _ _ _ _ ((aV _).mpr trivial) ha.1 ?_
  have hP:=P3.of (.atom [42]) x y
  simp only[xQ,bL,toNat_one,bn,↓zq,zs,af,zt,hP.1,hP.2.1,hP.2.2.1,hP.2.2.2,aK,dh]
  refine⟨fun h=>absurd rfl h,fun _=>?_⟩
  refine aj (pd [42] x y) ?_
  simp only[↓zq,zs,af,zt]
  refine⟨fun h=>by simp at h,fun _=>?_⟩
  repeat refine⟨by omega,?_⟩
  refine aX (i1 bd l a ha (by omega)) ?_
  simp only[↓zq,zs,af,zt,aM,bx,Ob.es]
  repeat refine⟨by omega,?_⟩
  refine aX (i2 bd (lh x bd l) a ha (by omega)) ?_
  simp only[↓zq,zs,af,zt,aM,bx,Ob.es]
  rw[lh,if_neg (by decide)]
 |
  @rc n y hn hy i =>
  intro bd l a ha hl
  simp only[E.sz,E.jN]at hl
  refine Bm _ _ _ _ ((aV _).mpr trivial) ha.1 ?_
  have hP:=P3.of (.atom dL) (.atom n) y
  simp only[xQ,bL,toNat_one,bn,↓zq,zs,af,zt,hP.1,hP.2.1,hP.2.2.1,hP.2.2.2,aK,dh]
  refine⟨fun h=>absurd rfl h,fun _=>?_⟩
  refine aj (pd dL (.atom n) y) ?_
  simp only[↓zq,zs,af,zt]
  refine⟨fun _=>?_,fun h=>absurd rfl h⟩
  repeat refine⟨by omega,?_⟩
  refine aX (yj bd a ha n (by omega)) ?_
  simp only[↓zq,zs,af,Ob.es,aM]
  refine⟨dk _,?_⟩
  refine aX (i (bd++[n]) l _ (.of _) (by simp;omega)) ?_
  simp only[↓zq,zs,af,aM,bx,Ob.es]
  rw[lh,if_pos (eh _)];rfl
theorem UH(x:Nm)(u:E){e:E}(h:Wf e):aq Tryz.prog 176 [.agg [.v (.string (mk e.at)),e.sp],.v (.string (mk x)),.agg [.v (.string (mk u.at)),u.sp]] [] (bN (.agg [.v (.string (mk (sM x u e).at)),(sM x u e).sp])):=by
 induction h with
 |
  @atom s hs =>
  refine EM _ _ _ _ _ ((aV _).mpr trivial) ((aV _).mpr trivial) ?_
  simp only[DH,eh,↓zq,zs,af,zt,bN,sM]
  refine⟨fun _=>⟨fun h=>?_,fun h=>?_⟩,fun h=>absurd h hs⟩
  ·rw[if_pos h]
  ·rw[if_neg h];rfl
 |
  @plus a b ha hb i1 i2 =>
  refine EM _ _ _ _ _ ((aV _).mpr trivial) ((aV _).mpr trivial) ?_
  have hP:=P3.of (.atom [43]) a b
  simp only[DH,bL,toNat_one,bn,↓zq,zs,af,zt,hP.1,hP.2.1,hP.2.2.1,hP.2.2.2,aK]
  refine⟨fun h=>absurd rfl h,fun _=>?_⟩
  refine aj (pd [43] a b) ?_
  simp only[↓zq,zs,af,zt]
  refine⟨fun h=>by simp at h,fun _=>?_⟩
  refine aj (pd [43] a b) ?_
  simp only[↓zq,zs,af,zt]
  repeat refine⟨by omega,?_⟩
  refine aj i1 ?_
  simp only[↓zq,zs,af,zt,aK]
  repeat refine⟨by omega,?_⟩
  refine aj i2 ?_
  simp only[↓zq,zs,af,zt,aK]
  repeat refine⟨by omega,?_⟩
  refine aj (xY _ _ _) ?_
  simp only[↓zq,zs,af,zt,aK,xb,bL]
  repeat refine⟨by omega,?_⟩
  exact⟨rfl,rfl⟩
 |
  @times a b ha hb i1 i2 =>
  refine EM _ _ _ _ _ ((aV _).mpr trivial) ((aV _).mpr trivial) ?_
  have hP:=P3.of (.atom [42]) a b
  simp only[DH,bL,toNat_one,bn,↓zq,zs,af,zt,hP.1,hP.2.1,hP.2.2.1,hP.2.2.2,aK]
  refine⟨fun h=>absurd rfl h,fun _=>?_⟩
  refine aj (pd [42] a b) ?_
  simp only[↓zq,zs,af,zt]
  refine⟨fun h=>by simp at h,fun _=>?_⟩
  refine aj (pd [42] a b) ?_
  simp only[↓zq,zs,af,zt]
  repeat refine⟨by omega,?_⟩
  refine aj i1 ?_
  simp only[↓zq,zs,af,zt,aK]
  repeat refine⟨by omega,?_⟩
  refine aj i2 ?_
  simp only[↓zq,zs,af,zt,aK]
  repeat refine⟨by omega,?_⟩
  refine aj (xY _ _ _) ?_
  simp only[↓zq,zs,af,zt,aK,uB,bL]
  repeat refine⟨by omega,?_⟩
  exact⟨rfl,rfl⟩
 |
  @rc n b hn hb i =>
  refine EM _ _ _ _ _ ((aV _).mpr trivial) ((aV _).mpr trivial) ?_
  have hP:=P3.of (.atom dL) (.atom n) b
  simp only[DH,bL,toNat_one,bn,↓zq,zs,af,zt,hP.1,hP.2.1,hP.2.2.1,hP.2.2.2,aK]
  refine⟨fun h=>absurd rfl h,fun _=>?_⟩
  refine aj (pd dL (.atom n) b) ?_
  simp only[↓zq,zs,af,zt]
  refine⟨fun _=>?_,fun h=>absurd rfl h⟩
  repeat refine⟨by omega,?_⟩
  rw[Cg]
  refine⟨fun h=>?_,fun h=>?_⟩
  ·have hh:n=x:=h
   rw[if_pos hh];exact⟨rfl,rfl⟩
  ·have hh:¬n=x:=h
   rw[if_neg hh]
   repeat refine⟨by omega,?_⟩
   refine aj i ?_
   simp only[↓zq,zs,af,zt,aK]
   repeat refine⟨by omega,?_⟩
   refine aj (xY dL (.atom n) (sM x u b)) ?_
   simp only[↓zq,zs,af,zt,aK,bL]
   repeat refine⟨by omega,?_⟩
   exact⟨rfl,rfl⟩
theorem sc(x:Nm){e:E}(h:Wf e):n8 x e<=e.dq:=by
 induction h with
 |atom hs=>simp only[n8,E.dq];split<;>omega
 |plus ha hb i1 i2=>rw[sK];simp only[E.dq,E.fm];omega
 |times ha hb i1 i2=>rw[qw];simp only[E.dq,E.fm];omega
 |rc hn hb i=>rw[yq];simp only[E.dq,E.fm];split<;>omega
theorem UA(x:Nm){e:E}(h:Wf e):e.dq<1000000->aq Tryz.prog 175 [.agg [.v (.string (mk e.at)),e.sp],.v (.string (mk x))] [] (bN (.v (.int .i64 (n8 x e:Int)))):=by
 induction h with
 |
  @atom s hs =>
  intro hl
  refine FR _ _ _ ((aV _).mpr trivial) ?_
  simp only[D2,eh,↓zq,zs,af,zt,bN,n8]
  refine⟨fun _=>⟨fun h=>?_,fun h=>?_⟩,fun h=>absurd h hs⟩
  ·rw[if_pos h];rfl
  ·rw[if_neg h];rfl
 |
  @plus a b ha hb i1 i2 =>
  intro hl
  simp only[E.dq,E.fm]at hl
  have u1:=sc x ha
  have u2:=sc x hb
  refine FR _ _ _ ((aV _).mpr trivial) ?_
  have hP:=P3.of (.atom [43]) a b
  simp only[D2,bL,toNat_one,bn,↓zq,zs,af,zt,hP.1,hP.2.1,hP.2.2.1,hP.2.2.2,aK]
  refine⟨fun h=>absurd rfl h,fun _=>?_⟩
  refine aj (pd [43] a b) ?_
  simp only[↓zq,zs,af,zt]
  refine⟨fun h=>by simp at h,fun _=>?_⟩
  repeat refine⟨by omega,?_⟩
  refine aj (i1 (by omega)) ?_
  simp only[↓zq,zs,af,zt]
  repeat refine⟨by omega,?_⟩
  refine aj (i2 (by omega)) ?_
  simp only[↓zq,zs,af,zt]
  rw[sK,wrap64 _ (by omega) (by omega)]
  exact⟨by simp,rfl⟩
 |
  @times a b ha hb i1 i2 =>
  intro hl
  simp only[E.dq,E.fm]at hl
  have u1:=sc x ha
  have u2:=sc x hb
  refine FR _ _ _ ((aV _).mpr trivial) ?_
  have hP:=P3.of (.atom [42]) a b
  simp only[D2,bL,toNat_one,bn,↓zq,zs,af,zt,hP.1,hP.2.1,hP.2.2.1,hP.2.2.2,aK]
  refine⟨fun h=>absurd rfl h,fun _=>?_⟩
  refine aj (pd [42] a b) ?_
  simp only[↓zq,zs,af,zt]
  refine⟨fun h=>by simp at h,fun _=>?_⟩
  repeat refine⟨by omega,?_⟩
  refine aj (i1 (by omega)) ?_
  simp only[↓zq,zs,af,zt]
  repeat refine⟨by omega,?_⟩
  refine aj (i2 (by omega)) ?_
  simp only[↓zq,zs,af,zt]
  rw[qw,wrap64 _ (by omega) (by omega)]
  exact⟨by simp,rfl⟩
 |
  @rc n b hn hb i =>
  intro hl
  simp only[E.dq,E.fm]at hl
  refine FR _ _ _ ((aV _).mpr trivial) ?_
  have hP:=P3.of (.atom dL) (.atom n) b
  simp only[D2,bL,toNat_one,bn,↓zq,zs,af,zt,hP.1,hP.2.1,hP.2.2.1,hP.2.2.2,aK]
  refine⟨fun h=>absurd rfl h,fun _=>?_⟩
  refine aj (pd dL (.atom n) b) ?_
  simp only[↓zq,zs,af,zt]
  refine⟨fun _=>?_,fun h=>absurd rfl h⟩
  repeat refine⟨by omega,?_⟩
  rw[yq]
  refine⟨fun h=>?_,fun h=>?_⟩
  ·have hh:n=x:=h
   rw[if_pos hh];exact⟨rfl,rfl⟩
  ·have hh:¬n=x:=h
   rw[if_neg hh]
   repeat refine⟨by omega,?_⟩
   refine aj (i (by omega)) ?_
   simp only[↓zq,zs,af,zt]
   exact⟨rfl,rfl⟩
theorem Po{x:Nm}(hx:rQ x){e u:E}(h:Wf e)(hu:Wf u)(hl:e.dq<=1000)(hlu:u.dq<=1000):aq Tryz.prog 156 [.agg [.v (.string (mk e.at)),e.sp],.v (.string (mk x)),.agg [.v (.string (mk u.at)),u.sp]] [] (bN (.v (.bool (decide ((sub x (cX u []) (cX e [])).atoms<=400))))):=by
 refine UQ _ _ _ _ _ ((aV _).mpr trivial) ((aV _).mpr trivial) ?_
 unfold KH
 have a1:=EW e h.ok (by have:=h.sz;omega)
 have a2:=EW u hu.ok (by have:=hu.sz;omega)
 rw[cU]at a1 a2
 have hle:=sc x h
 have hpos:1<=u.dq:=by rw[hu.dq []];exact ez _
 refine aj a1 ?_
 simp only[↓zq,zs,af,zt]
 refine aj (UA x h (by omega)) ?_
 simp only[↓zq,zs,af,zt]
 refine aj a2 ?_
 simp only[↓zq,zs,af,zt]
 have e1:=ek x (cX u []) (cX e [])
 have e2:=FU hx h []
 rw[if_neg (by simp)]at e2
 rw[e2,<-h.dq [],<-hu.dq []]at e1
 have hm:n8 x e*(u.dq-1)<=1000*1000:=Nat.mul_le_mul (by omega) (by omega)
 have e3:(n8 x e:Int)*((u.dq:Int)-1)=((n8 x e*(u.dq-1):Nat):Int):=by
  rw[Int.natCast_mul];congr 1;omega
 have e4:n8 x e*(u.dq-1)+n8 x e=n8 x e*u.dq:=by
  rw[Nat.mul_sub,dO]
  have:=Nat.le_mul_of_pos_right (n8 x e) hpos
  omega
 rw[wrap64 ((u.dq:Int)-1) (by omega) (by omega),e3,wrap64 ((n8 x e*(u.dq-1):Nat):Int) (by omega) (by omega),wrap64 _ (by omega) (by omega)]
 refine⟨?_,rfl⟩
 congr 2
 rw[cJ,decide_eq_true_eq,decide_eq_true_eq]
 omega
end Go.Proofs.Trees
namespace Go.Proofs.Trees
open Go Go.VL Go.RowKit
abbrev zd:AV:=.v (.slice none 0 0)
abbrev zE:Ob:=.cells [.v (.string (mk [])),zd]
theorem NK(s:Nm)(p a b:AV)(hp:LK.sl.has p)(F fr to:List Nm)(k:Int)(ha:cQ a fr)(hb:cQ b to)(hft:fr.length=to.length)(hl:fr.length<1000000):∀(i:Nat),i<=fr.length ->
 Kh [a,b,.v (.int .i64 ((i:Int)-1))] [.cells [.v (.string (mk s)),p],zE,.cells [.any,.v (.int .i64 k)],.vec 1 (bX F)]
  (ox (match bT s fr i with|some u=>(2,[],[.cells [.v (.string (mk (gH to u))),zd],.cells [.any,.v (.int .i64 k)],.vec 1 (bX F)])|none=>(1,[],[.cells [.v (.string (mk s)),p],zE,.cells [.any,.v (.int .i64 k)],.vec 1 (bX F)])))
 |
  0,hi=>by
  refine Mp _ _ _ _ _ _ _ _ _ ?_
  simp only[JL,↓zq,zs,af,af,hp,bo]
  exact⟨ha.1,hb.1,fun h=>by omega,fun _=>rfl⟩
 |
  i+1,hi=>by
  have hlt:i<fr.length:=by omega
  have hlt':i<to.length:=by omega
  have e1:((i+1:Nat):Int)-1=(i:Int):=by omega
  rw[e1]
  refine Mp _ _ _ _ _ _ _ _ _ ?_
  simp only[JL,↓zq,zs,af,zt,af,hp,bo,ha.len,hb.len,ha.idx hlt,hb.idx hlt',bF]
  refine⟨ha.1,hb.1,fun _=>⟨⟨ha.1,by omega,by omega⟩,by omega,fun h=>?_,fun h=>?_⟩,fun h=>by omega⟩
  ·refine⟨⟨hb.1,by omega,by omega⟩,by omega,?_⟩
   have hh:fr.getD i []=s:=h
   simp only[bT,hh,if_true,ox]
   have:gH to (fr.length-1-i)=to.getD i []:=by unfold gH;congr 1;omega
   rw[this]
  ·have hh:¬fr.getD i []=s:=h
   simp only[bT,hh,if_false]
   rw[wrap64 _ (by omega) (by omega)]
   exact NK s p a b hp F fr to k ha hb hft hl i (by omega)
theorem Od(a b:AV)(ha:LK.sl.has a)(hb:LK.sl.has b)(F:List Nm)(hF:F.length<100000)(t:ByteArray)(p:AV)(hp:LK.sl.has p):∀(n j:Nat),rn F n j<j+n->j+n<100000000 ->
 HG [a,b,.v (.string (mk (tN j)))] [.cells [.any,.v (.int .i64 (j:Int))],.vec 1 (bX F),.cells [.v (.string t),p],zE] (gK 1 [a,b,.v (.string (mk (tN (rn F n j))))] [.cells [.any,.v (.int .i64 (rn F n j:Int))],.vec 1 (bX F),.cells [.v (.string t),p],zE])
 |0,j,h,_=>by simp only[rn]at h;omega
 |
  n+1,j,h,hj=>by
  refine Sr _ _ _ _ _ _ _ _ _ ?_
  simp only[Mv,↓zq,zs,af,zt,af,hp,bo]
  refine⟨ha,hb,?_⟩
  refine aj (yd F _ (.of F) (tN j) (by omega)) ?_
  simp only[↓zq,zs,af,zt]
  rw[rn]at h |-
  refine⟨fun hm=>?_,fun hm=>?_⟩
  ·rw[if_pos hm]at h |-
   rw[bB j (by omega)]
   refine aj (BF (j+2) (j+1) (by omega) (by omega)) ?_
   have hd:=nh (j+2) (j+1) (by omega)
   simp only[↓zq,zs,af,zt,bj,aR]
   refine⟨by simp[cS];omega,?_⟩
   exact Od a b ha hb F hF t p hp n (j+1) (by omega) (by omega)
  ·rw[if_neg hm]
   exact⟨rfl,rfl,rfl⟩
theorem iX(F:List Nm):∀(t:Ty) (to:List Nm) (k:Nat),k<=(iG F t to k).2/\(iG F t to k).2<=k+(F.length+1)*t.atoms
 | .zero,_,k=>⟨au _,dj _ _⟩
 | .one,_,k=>⟨au _,dj _ _⟩
 | .name _,_,k=>⟨au _,dj _ _⟩
 | .bound _,_,k=>⟨au _,dj _ _⟩
 |
  .plus a b,to,k=>by
  have h1:=iX F a to k
  have h2:=iX F b to (iG F a to k).2
  simp only[iG,Ty.atoms]
  have:(F.length+1)*(1+a.atoms+b.atoms)=(F.length+1)+(F.length+1)*a.atoms+(F.length+1)*b.atoms:=by simp only[cZ,dO]
  omega
 |
  .times a b,to,k=>by
  have h1:=iX F a to k
  have h2:=iX F b to (iG F a to k).2
  simp only[iG,Ty.atoms]
  have:(F.length+1)*(1+a.atoms+b.atoms)=(F.length+1)+(F.length+1)*a.atoms+(F.length+1)*b.atoms:=by simp only[cZ,dO]
  omega
 |
  .rc a,to,k=>by
  obtain⟨g1,g2,_,_⟩:=gV F k
  have h1:=iX F a (to++[tN (nx F k)]) (nx F k+1)
  simp only[iG,Ty.atoms]
  have:(F.length+1)*(2+a.atoms)=(F.length+1)*2+(F.length+1)*a.atoms:=by simp only[cZ]
  omega
theorem kT(l:List Nm):(bX l).length=l.length:=by simp[bX]
theorem T8(F:List Nm)(hF:F.length<10000){e:E}(h:Wf e):∀(fr to:List Nm) (a b:AV) (k:Nat),cQ a fr->cQ b to->fr.length=to.length->(∀w,w∈fr->rQ w)->fr.length+e.sz<10000->k+(F.length+1)*(cX e fr).atoms<99000000 ->
 aq Tryz.prog 137 [.agg [.v (.string (mk e.at)),e.sp],a,b,.ref 0 0] [.cells [.vec 1,.v (.int .i64 (k:Int))],.vec 1 (bX F)] (dh (.agg [.v (.string (mk (iG F (cX e fr) to k).1.at)),(iG F (cX e fr) to k).1.sp]) [.cells [.vec 1,.v (.int .i64 ((iG F (cX e fr) to k).2:Int))],.vec 1 (bX F)]):=by
 induction h with
 |
  @atom s hs =>
  intro fr to a b k ha hb hft hfr hl hk
  simp only[E.sz]at hl
  refine Fm _ _ _ _ _ _ ((aV _).mpr trivial) ha.1 hb.1 ?_
  have hz:∀c,(c=[48]\/c=[49])->bT c fr fr.length=none:=fun c hc=>(fK c fr).2 fun hm=>by
   obtain⟨h1,h2,h3⟩:=hfr c hm
   rcases hc with rfl|rfl
   ·exact h2 rfl
   ·exact h3 rfl
  have hq:iG F (cX (.atom s) fr) to k=(match bT s fr fr.length with|some u=>.atom (gH to u)|none=>.atom s,k):=by
   simp only[cX]
   by_cases h0:s=[48]
   ·rw[if_pos h0,hz s (.inl h0),h0];rfl
   ·rw[if_neg h0]
    by_cases h1:s=[49]
    ·rw[if_pos h1,hz s (.inr h1),h1];rfl
    ·rw[if_neg h1]
     cases bT s fr fr.length<;>rfl
  simp only[Dg,eh,↓zq,zs,af,zt]
  refine⟨fun _=>⟨ha.1,?_⟩,fun h=>absurd h hs⟩
  rw[ha.len,wrap64 _ (by omega) (by omega)]
  refine eC (NK s _ a b ((aV _).mpr trivial) F fr to (k:Int) ha hb hft (by omega) fr.length (au _)) (fun ys o e=>?_) (fun ys o e=>?_)
  ·rw[hq]
   cases q:bT s fr fr.length<;>rw[q]at e<;>cases e
   simp only[↓zq,zs,af,zt,af,aH,bo,aV]
   exact⟨rfl,rfl⟩
  ·rw[hq]
   cases q:bT s fr fr.length<;>rw[q]at e<;>cases e
   simp only[↓zq,zs,af,zt,af,aH,bo]
   exact⟨rfl,rfl⟩
 |
  @plus x y hx hy i1 i2 =>
  intro fr to a b k ha hb hft hfr hl hk
  simp only[E.sz,E.jN]at hl
  rw[dS]at hk |-
  simp only[Ty.atoms]at hk
  have hm:(F.length+1)*(1+(cX x fr).atoms+(cX y fr).atoms)=(F.length+1)+(F.length+1)*(cX x fr).atoms+(F.length+1)*(cX y fr).atoms:=by simp only[cZ,dO]
  have hc:=iX F (cX x fr) to k
  refine Fm _ _ _ _ _ _ ((aV _).mpr trivial) ha.1 hb.1 ?_
  have hP:=P3.of (.atom [43]) x y
  simp only[Dg,bL,toNat_one,bn,↓zq,zs,af,zt,hP.1,hP.2.1,hP.2.2.1,hP.2.2.2,aK]
  refine⟨fun h=>absurd rfl h,fun _=>?_⟩
  refine aj (pd [43] x y) ?_
  simp only[↓zq,zs,af,zt]
  refine⟨fun h=>by simp at h,fun _=>?_⟩
  repeat refine⟨by omega,?_⟩
  refine aX (i1 fr to a b k ha hb hft hfr (by omega) (by omega)) ?_
  simp only[↓zq,zs,af,zt,aH,aK,aM,bx,Ob.es]
  repeat refine⟨by omega,?_⟩
  refine aj (pd [43] x y) ?_
  simp only[↓zq,zs,af,zt]
  repeat refine⟨by omega,?_⟩
  refine aX (i2 fr to a b _ ha hb hft hfr (by omega) (by omega)) ?_
  simp only[↓zq,zs,af,zt,aH,aK,aM,bx,Ob.es]
  repeat refine⟨by omega,?_⟩
  refine aj (xY _ _ _) ?_
  simp only[↓zq,zs,af,zt,aK,bL]
  repeat refine⟨by omega,?_⟩
  exact⟨rfl,rfl⟩
 |
  @times x y hx hy i1 i2 =>
  intro fr to a b k ha hb hft hfr hl hk
  simp only[E.sz,E.jN]at hl
  rw[dz]at hk |-
  simp only[Ty.atoms]at hk
  have hm:(F.length+1)*(1+(cX x fr).atoms+(cX y fr).atoms)=(F.length+1)+(F.length+1)*(cX x fr).atoms+(F.length+1)*(cX y fr).atoms:=by simp only[cZ,dO]
  have hc:=iX F (cX x fr) to k
  refine Fm _ _ _ _ _ _ ((aV _).mpr trivial) ha.1 hb.1 ?_
  have hP:=P3.of (.atom [42]) x y
  simp only[Dg,bL,toNat_one,bn,↓zq,zs,af,zt,hP.1,hP.2.1,hP.2.2.1,hP.2.2.2,aK]
  refine⟨fun h=>absurd rfl h,fun _=>?_⟩
  refine aj (pd [42] x y) ?_
  simp only[↓zq,zs,af,zt]
  refine⟨fun h=>by simp at h,fun _=>?_⟩
  repeat refine⟨by omega,?_⟩
  refine aX (i1 fr to a b k ha hb hft hfr (by omega) (by omega)) ?_
  simp only[↓zq,zs,af,zt,aH,aK,aM,bx,Ob.es]
  repeat refine⟨by omega,?_⟩
  refine aj (pd [42] x y) ?_
  simp only[↓zq,zs,af,zt]
  repeat refine⟨by omega,?_⟩
  refine aX (i2 fr to a b _ ha hb hft hfr (by omega) (by omega)) ?_
  simp only[↓zq,zs,af,zt,aH,aK,aM,bx,Ob.es]
  repeat refine⟨by omega,?_⟩
  refine aj (xY _ _ _) ?_
  simp only[↓zq,zs,af,zt,aK,bL]
  repeat refine⟨by omega,?_⟩
  exact⟨rfl,rfl⟩
 |
  @rc n y hn hy i =>
  intro fr to a b k ha hb hft hfr hl hk
  simp only[E.sz,E.jN]at hl
  rw[fE]at hk |-
  simp only[Ty.atoms,eh]at hk
  have hm:(F.length+1)*(2+(cX y (fr++[n])).atoms)=(F.length+1)*2+(F.length+1)*(cX y (fr++[n])).atoms:=by simp only[cZ]
  have hc:=iX F (cX y (fr++[n])) (to++[tN (nx F k)]) (nx F k+1)
  obtain⟨g1,g2,_,_⟩:=gV F k
  refine Fm _ _ _ _ _ _ ((aV _).mpr trivial) ha.1 hb.1 ?_
  have hP:=P3.of (.atom dL) (.atom n) y
  simp only[Dg,bL,toNat_one,bn,↓zq,zs,af,zt,hP.1,hP.2.1,hP.2.2.1,hP.2.2.2,aK]
  refine⟨fun h=>absurd rfl h,fun _=>?_⟩
  refine aj (pd dL (.atom n) y) ?_
  simp only[↓zq,zs,af,zt]
  refine⟨fun _=>?_,fun h=>absurd rfl h⟩
  refine aj (BF (k+1) k (by omega) (by omega)) ?_
  have hd:=nh (k+1) k (by omega)
  simp only[↓zq,zs,af,zt,bj,aR]
  refine⟨by simp[cS];omega,?_⟩
  refine cA (Od a b ha.1 hb.1 F (by omega) (mk []) _ ((aV _).mpr trivial) (F.length+1) k (by show nx F k<_;omega) (by omega)) ?_
  simp only[↓zq,zs,af,zt,af,aH,bo,aV,ha.1,hb.1,hP.1,hP.2.1,hP.2.2.1,hP.2.2.2,toNat_one,bn,aK]
  repeat refine⟨by omega,?_⟩
  have hnx:rn F (F.length+1) k=nx F k:=rfl
  rw[hnx]
  refine aX (yj fr a ha n (by omega)) ?_
  simp only[↓zq,zs,af,zt,Ob.es,aM]
  refine⟨dk _,?_⟩
  refine aX (yj to b hb (tN (nx F k)) (by omega)) ?_
  simp only[↓zq,zs,af,zt,Ob.es,aM]
  refine⟨dk _,?_⟩
  rw[bB (nx F k) (by omega)]
  have hmk:=xY dL (.atom (tN (nx F k))) (iG F (cX y (fr++[n])) (to++[tN (nx F k)]) (nx F k+1)).1
  simp only[eh]at hmk
  refine aX (i (fr++[n]) (to++[tN (nx F k)]) _ _ (nx F k+1) (.of _) (.of _) (by simp[hft]) (fun w hw=>by
   rcases aP.1 hw with hw|hw
   ·exact hfr w hw
   ·simp only[aU]at hw;rw[hw];exact hn) (by simp;omega) (by omega)) ?_
  simp only[↓zq,zs,af,zt,aH,aK,aM,bx,Ob.es]
  repeat refine⟨by omega,?_⟩
  refine aj hmk ?_
  simp only[↓zq,zs,af,zt,aK,bL]
  repeat refine⟨by omega,?_⟩
  exact⟨rfl,rfl⟩
theorem yk(l r:List Nm):bX (l++r)=bX l++bX r:=by simp[bX]
def sP(os:List E):List Nm:=os.flatMap fun o=>lh o [] []
theorem xA{os:List E}{i:Nat}(h:i<os.length):(E.bD os).getD i []=[.v (.string (mk (os[i]).at)),(os[i]).sp]:=by
 have:∀(os:List E) (i:Nat) (h:i<os.length),(E.bD os).getD i []=(os[i]).iP:=by
  intro os
  induction os with
  |nil=>intro i h;simp at h
  |
   cons o os ih =>
   intro i h
   cases i with
   |zero=>simp[E.bD]
   |succ i=>simpa[E.bD]using ih i (by simpa using h)
 rw[this os i h,fT]
theorem AZ(os:List E){i:Nat}(h:i<os.length):sP (os.drop i)=lh (os[i]) [] []++sP (os.drop (i+1)):=by
 unfold sP;rw[aL h,bU]
theorem No(a:AV)(os:List E)(ha:LK.sl.has a/\a.elems=E.bD os)(ho:∀o,o∈os->Wf o/\o.sz<5000)(hl:os.length<100)(t:ByteArray)(p:AV)(hp:LK.sl.has p):∀(k i:Nat) (F:List Nm),i+k=os.length->F.length<=5000+5000*i ->
 Ho [a,.v (.int .i64 (i:Int))] [.cells [.v (.string t),p],zE,.vec 1 (bX F)] (gK 1 [] [.cells [.v (.string t),p],zE,.vec 1 (bX (F++sP (os.drop i)))])
 |
  0,i,F,hi,hF=>by
  refine OF _ _ _ _ _ _ _ ?_
  have:i=os.length:=by omega
  subst this
  simp only[HJ,↓zq,zs,af,zt,af,hp,bo,ha.1,ha.2,ep,List.drop_length]
  exact⟨fun h=>by omega,fun _=>by simp[gK,sP]⟩
 |
  k+1,i,F,hi,hF=>by
  have hlt:i<os.length:=by omega
  obtain⟨hw,hsz⟩:=ho _ (bh hlt)
  have hfl:=gx (os[i]) [] []
  refine OF _ _ _ _ _ _ _ ?_
  simp only[HJ,↓zq,zs,af,zt,af,hp,bo,ha.1,ha.2,ep,xA hlt,aK,bF]
  refine⟨fun _=>?_,fun h=>by omega⟩
  repeat refine⟨by omega,?_⟩
  have hfre:=EF hw [] [] (.sl []) (.of []) (by simp;omega)
  refine aX hfre ?_
  simp only[↓zq,zs,af,zt,aM,bx,Ob.es,kT,<-yk]
  rw[bB i (by omega),AZ os hlt,<-aY]
  simp only[aF,ba]at hfl
  refine⟨⟨lg _,by omega⟩,?_⟩
  exact No a os ha ho hl t p hp k (i+1) _ (by omega) (by simp;omega)
def BL(e:E)(os:List E):List Nm:=lh e [] []++sP os
def Br(e:E)(os:List E):E:=(iG (BL e os) (cX e []) [] 0).1
theorem Fs{e:E}{os:List E}(h:e.sz<=2000)(ho:∀o,o∈os->Wf o/\o.sz<=2000)(hl:os.length<=2):(BL e os).length<=6000:=by
 have h1:=gx e [] []
 have h2:∀(l:List E),(∀o,o∈l->o.sz<=2000)->(sP l).length<=2000*l.length:=by
  intro l
  induction l with
  |nil=>intro _;simp[sP]
  |
   cons o l ih =>
   intro hl
   have:=ih fun q hq=>hl q (al _ hq)
   have:=hl o ak
   have:=gx o [] []
   simp only[sP,bU,an,aw,aF]at *
   omega
 have:=h2 os fun o ho'=>(ho o ho').2
 simp only[BL,an,aF]at *
 omega
theorem Fl{e:E}(h:Wf e)(a:AV)(os:List E)(ha:LK.sl.has a/\a.elems=E.bD os)(he:e.sz<=2000)(ho:∀o,o∈os->Wf o/\o.sz<=2000)(hl:os.length<=2) :
 aq Tryz.prog 96 [.agg [.v (.string (mk e.at)),e.sp],a] [] (bN (.agg [.v (.string (mk (Br e os).at)),(Br e os).sp])):=by
 refine Tx _ _ _ ((aV _).mpr trivial) ha.1 ?_
 unfold NR
 have hfl:=gx e [] []
 simp only[aF,ba]at hfl
 have hap:=Fs he ho hl
 have hats:(cX e []).atoms<=2000:=by
  rw[<-h.dq []]
  have:e.dq<=e.sz:=by
   clear hap hfl ha he ho hl
   induction h with
   |atom _=>simp[E.dq,E.sz]
   |plus _ _ i1 i2=>simp only[E.dq,E.fm,E.sz,E.jN];omega
   |times _ _ i1 i2=>simp only[E.dq,E.fm,E.sz,E.jN];omega
   |rc _ _ i=>simp only[E.dq,E.fm,E.sz,E.jN];omega
  omega
 have hfre:=EF h [] [] (.sl []) (.of []) (by simp;omega)
 simp only[↓zq,zs,af,zt]
 refine aX hfre ?_
 simp only[↓zq,zs,af,zt,aM,bx,Ob.es]
 have hlp:=No a os ha (fun o hq=>⟨(ho o hq).1,by have:=(ho o hq).2;omega⟩) (by omega) (mk e.at) e.sp ((aV _).mpr trivial) os.length 0 (lh e [] []) (by omega) (by omega)
 rw[aZ]at hlp
 refine cA hlp ?_
 simp only[↓zq,zs,af,zt,af,aH,bo,aV,aM,bx,Ob.es]
 have hmul:((BL e os).length+1)*(cX e []).atoms<=6001*2000:=Nat.mul_le_mul (by omega) hats
 have hren:=T8 (BL e os) (by omega) h [] [] (.sl []) (.sl []) 0 (.of []) (.of []) rfl (fun w hw=>by cases hw) (by simp;omega) (by omega)
 refine aX hren ?_
 simp only[↓zq,zs,af,zt,aH,aK]
 repeat refine⟨by omega,?_⟩
 exact⟨rfl,rfl⟩
end Go.Proofs.Trees
namespace Go.Proofs.Trees
open Go Go.VL Go.RowKit
def gk(t:Ty):Prop:=kP t 0/\∀y,bz y t=true->rQ y
theorem gW:∀(t:Ty) {i j:Nat},kP t i->i<=j->kP t j
 | .bound u,i,j,h,hj=>Nat.lt_of_lt_of_le h hj
 | .plus a b,i,j,h,hj=>⟨gW a h.1 hj,gW b h.2 hj⟩
 | .times a b,i,j,h,hj=>⟨gW a h.1 hj,gW b h.2 hj⟩
 | .rc a,i,j,h,hj=>gW (i:=i+1) (j:=j+1) a h (by omega)
 | .zero,_,_,_,_=>trivial
 | .one,_,_,_,_=>trivial
 | .name _,_,_,_,_=>trivial
theorem jg(x:Nm):∀(t:Ty) {i:Nat},kP t (i+1)->kP (dR (.name x) t i) i
 |
  .bound u,i,h=>by
  simp only[dR]
  split
  ·trivial
  ·have:u<i+1:=h
   show u<i;omega
 | .plus a b,i,h=>⟨jg x a h.1,jg x b h.2⟩
 | .times a b,i,h=>⟨jg x a h.1,jg x b h.2⟩
 | .rc a,i,h=>jg x (i:=i+1) a h
 | .zero,_,_=>trivial
 | .one,_,_=>trivial
 | .name _,_,_=>trivial
theorem lr{x:Nm}{u:Ty}(hu:kP u 0):∀(t:Ty) {i:Nat},kP t i->kP (sub x u t) i
 | .name s,i,_=>by simp only[sub];split;exact gW u hu (dM _);trivial
 | .plus a b,i,h=>⟨lr hu a h.1,lr hu b h.2⟩
 | .times a b,i,h=>⟨lr hu a h.1,lr hu b h.2⟩
 | .rc a,i,h=>lr hu (i:=i+1) a h
 | .zero,_,_=>trivial
 | .one,_,_=>trivial
 | .bound _,_,h=>h
theorem Dv.lc{t d:Ty}{s:Nm}(h:Dv t s d):kP t 0->kP d 0:=by
 induction h with
 |zero s=>exact fun _=>trivial
 |one s=>exact fun _=>trivial
 |bound k s=>exact fun _=>trivial
 |hit s=>exact fun _=>trivial
 |sX h=>exact fun _=>trivial
 |plus h1 h2 hl i1 i2=>exact fun h=>⟨i1 h.1,i2 h.2⟩
 |times h1 h2 hl i1 i2=>exact fun h=>⟨⟨i1 h.1,h.2⟩,h.1,i2 h.2⟩
 |
  rc x hx hs h1 h2 hl i1 i2 =>
  intro h
  have g1:=lr (x:=x) h _ (i1 (jg x _ h))
  have g2:=lr (x:=x) h _ (i2 (jg x _ h))
  exact⟨gW _ g1 (by omega),gW _ g2 (by omega),Nat.zero_lt_one⟩
theorem Wf.sn{e:E}(h:Wf e):gk (cX e []):=⟨uV h [],fun y hy=>(nT h [] y hy).1⟩
theorem gk.dv{t d:Ty}{s:Nm}(g:gk t)(h:Dv t s d):gk d:=⟨h.lc g.1,fun y hy=>g.2 y (h.names y hy)⟩
theorem gk.tree{t:Ty}(g:gk t):∃e,Wf e/\cX e []=t:=by
 obtain⟨h1,h2,_⟩:=lu (bS t []) t [] 0 (.nil _ _) g.1 fun y hy=>⟨(fe t [] y).2 (.inr hy),g.2 y hy⟩
 exact⟨_,h1,h2⟩
theorem gk.sub{x:Nm}{u t:Ty}(hu:gk u)(ht:gk t):gk (sub x u t):=⟨lr hu.1 t ht.1,fun y hy=>by
 rcases jv t hy with h|h
 ·exact hu.2 y h
 ·exact ht.2 y h.2⟩
def lS(o:Option Ty):AV->List Ob->Prop:=fun r ob=>ob=[]/\∃(c:Nm) (d:AV),LK.sl.has d/\r=.cv [.agg [.v (.string (mk c)),d],.v (.bool o.isSome)]/\∀t,o=some t->∃e,Wf e/\cX e []=t/\c=e.at/\d=e.sp
theorem lS.ne{o:Option Ty}(h:∀t,o=some t->gk t):∃r ob,lS o r ob:=by
 cases o with
 |none=>exact⟨_,_,rfl,[],zd,(bo).mpr trivial,rfl,fun t h=>by cases h⟩
 |
  some t =>
  obtain⟨e,h1,h2⟩:=(h t rfl).tree
  exact⟨_,_,rfl,e.at,e.sp,(aV _).mpr trivial,rfl,fun t' h'=>by cases h';exact⟨e,h1,h2,rfl,rfl⟩⟩
theorem lS.of{e:E}(h:Wf e):lS (some (cX e [])) (.cv [.agg [.v (.string (mk e.at)),e.sp],.v (.bool true)]) [] :=
 ⟨rfl,e.at,e.sp,(aV _).mpr trivial,rfl,fun t h'=>by cases h';exact⟨e,h,rfl,rfl,rfl⟩⟩
theorem lS.no(c:Nm)(d:AV)(hd:LK.sl.has d):lS none (.cv [.agg [.v (.string (mk c)),d],.v (.bool false)]) [] :=
 ⟨rfl,c,d,hd,rfl,fun t h'=>by cases h'⟩
theorem gT{c:ByteArray}{d:AV}(h:LK.sl.has d):bE [.str,.sl] [.v (.string c),d] 0=True:=by simp[bE,dC,h]
theorem yu{e:E}{os:List E}(h:Wf e):Wf (Br e os)/\cX (Br e os) []=cX e []/\vI (·∉BL e os) (Br e os):=by
 obtain⟨h1,h2,_,_,h5⟩:=lu (BL e os) (cX e []) [] 0 (.nil _ _) (uV h []) fun y hy=>⟨aD _ ((mH h [] [] y).2 (.inr hy)),(nT h [] y hy).1⟩
 exact⟨h1,h2,h5⟩
theorem sR{os:List E}{o:E}(ho:o∈os)(hw:Wf o){y:Nm}(hy:bz y (cX o [])=true):y∈sP os :=
 dA.2 ⟨o,ho,(mH hw [] [] y).2 (.inr hy)⟩
theorem tv{s:Nm}(hs:rQ s):cX (.atom s) []=.name s:=jD hs (by simp)
theorem PJ{x:Nm}(hx:rQ x){e u:E}(h:Wf e)(hu:Wf u)(hl:e.dq<=400)(hlu:u.dq<=400):∃g,Wf g/\cX g []=sub x (cX u []) (cX e [])/\aq Tryz.prog 157 [.agg [.v (.string (mk e.at)),e.sp],.v (.string (mk x)),.agg [.v (.string (mk u.at)),u.sp]] [] (bN (.agg [.v (.string (mk g.at)),g.sp])):=by
 obtain⟨w1,w2,w3⟩:=yu (os:=[u,.atom x]) h
 have hap:vI (fun n=>n≠x/\bz n (cX u [])=false) (Br e [u,.atom x]):=Ce (fun n hn=>⟨fun e1=>hn (by
  subst e1
  exact aC _ (sR (o:=.atom n) (by simp) (.atom hx.1) (by rw[tv hx];simp[bz]))),by
  cases q:bz n (cX u [])with
  |false=>rfl
  |true=>exact absurd (aC _ (sR (o:=u) (by simp) hu q)) hn⟩) w1 w3
 obtain⟨p1,p2⟩:=Ek hx hu w1 hap [] (by simp) (fun y hy=>by cases hy)
 refine⟨_,p1,by rw[p2,w2],?_⟩
 refine S3 _ _ _ _ _ ((aV _).mpr trivial) ((aV _).mpr trivial) ?_
 unfold PO
 have s1:=h.sz
 have s2:=hu.sz
 have hA:=Fl h (.sl [[.v (.string (mk u.at)),u.sp],[.v (.string (mk x)),zd]]) [u,.atom x] ⟨(cc _).mpr trivial,by simp only[fy,E.bD,fT];rfl⟩ (by omega) (fun o ho=>by
  simp only[aI,List.not_mem_nil,or_false]at ho
  rcases ho with rfl|rfl
  ·exact⟨hu,by omega⟩
  ·exact⟨.atom hx.1,by simp[E.sz]⟩) (by simp)
 refine aj hA ?_
 simp only[↓zq,zs,af,zt,aK]
 repeat refine⟨by omega,?_⟩
 refine aj (UH x u w1) ?_
 simp only[↓zq,zs,af,zt,aK]
 repeat refine⟨by omega,?_⟩
 exact⟨rfl,rfl⟩
theorem IU{x:Nm}(hx:rQ x){e u:E}(h:Wf e)(hu:Wf u)(hl:e.dq<=400)(hlu:u.dq<=400):aq Tryz.prog 190 [.agg [.v (.string (mk e.at)),e.sp],.v (.string (mk x)),.agg [.v (.string (mk u.at)),u.sp]] [] (lS (ou (sub x (cX u []) (cX e [])))):=by
 refine S2 _ _ _ _ _ ((aV _).mpr trivial) ((aV _).mpr trivial) ?_
 unfold Oa
 refine aj (Po hx h hu (by omega) (by omega)) ?_
 simp only[↓zq,zs,af,zt]
 refine⟨fun hn=>?_,fun hy=>?_⟩
 ·rw[show ou (sub x (cX u []) (cX e []))=none by unfold ou;rw[if_neg hn]]
  exact lS.no _ _ ((aV _).mpr trivial)
 ·rw[show ou (sub x (cX u []) (cX e []))=some (sub x (cX u []) (cX e [])) by unfold ou;rw[if_pos hy]]
  obtain⟨g,g1,g2,g3⟩:=PJ hx h hu hl hlu
  refine aj g3 ?_
  simp only[↓zq,zs,af,zt,aK]
  repeat refine⟨by omega,?_⟩
  rw[<-g2]
  exact lS.of g1
end Go.Proofs.Trees
namespace Go.Proofs.Trees
open Go Go.VL Go.RowKit
theorem Dw(w:Nm)(c1 c2:Nm)(d1 d2:AV):aq Tryz.prog 61 [.v (.string (mk w)),.sl [[.v (.string (mk c1)),d1],[.v (.string (mk c2)),d2]]] [] (bN (.agg [.v (.string (mk [])),.sl [[.v (.string (mk w)),zd],[.v (.string (mk c1)),d1],[.v (.string (mk c2)),d2]]])):=by
 refine QB _ _ ((cc _).mpr trivial) ?_
 simp only[IB,↓zq,zs,af,bN]
 exact⟨⟨fun c hc=>by
  simp only[aI,List.not_mem_nil,or_false]at hc
  rcases hc with rfl|rfl<;>rfl,by omega⟩,rfl⟩
theorem Qe(F:List Nm)(hF:F.length<100000)(c1 c2:Nm)(d1 d2:AV)(h1:LK.sl.has d1)(h2:LK.sl.has d2):∀(n j:Nat),rn F n j<j+n->j+n<100000000 ->
 Kr [.v (.int .i64 (j:Int))] [zE,.cells [.v (.string (mk c1)),d1],.cells [.v (.string (mk c2)),d2],.vec 1 (bX F)] (gK 1 [.v (.int .i64 (rn F n j:Int))] [zE,.cells [.v (.string (mk c1)),d1],.cells [.v (.string (mk c2)),d2]])
 |0,j,h,_=>by simp only[rn]at h;omega
 |
  n+1,j,h,hj=>by
  refine RX _ _ _ _ _ _ _ _ ?_
  simp only[OM,↓zq,zs,af,zt,af,bo,h1,h2]
  refine aj (BF (j+1) j (by omega) (by omega)) ?_
  have hd:=nh (j+1) j (by omega)
  simp only[↓zq,zs,af,zt,bj,aR]
  refine⟨by simp[cS];omega,?_⟩
  refine aj (yd F _ (.of F) (tN j) (by omega)) ?_
  simp only[↓zq,zs,af,zt]
  rw[rn]at h |-
  refine⟨fun hm=>?_,fun hm=>?_⟩
  ·rw[if_pos hm]at h |-
   rw[bB j (by omega)]
   exact Qe F hF c1 c2 d1 d2 h1 h2 n (j+1) (by omega) (by omega)
  ·rw[if_neg hm]
   exact⟨rfl,rfl,rfl⟩
theorem vC{x:Nm}{a c d:Ty}(h:(qA a x c d).atoms<=400):(sub x (.rc a) c).atoms<=400/\(sub x (.rc a) d).atoms<=400:=by
 simp only[qA,Ty.atoms]at h;omega
theorem Wf.jb{e:E}(h:Wf e){t:Ty}(ht:cX e []=t)(hl:t.atoms<=400):e.dq<=400:=by rw[h.dq [],ht];exact hl
def U0(n:Nat):Prop:=∀(e:E) (s:Nm),Wf e->e.dq<=n->e.dq<=400->rQ s->aq Tryz.prog 189 [.agg [.v (.string (mk e.at)),e.sp],.v (.string (mk s))] [] (lS (ml (cX e []) s))
theorem kW{e:E}{s:Nm}(h:Wf e):∀t,ml (cX e []) s=some t->gk t:=fun t ht=>h.sn.dv (db.1 ht)
theorem sG{t:Ty}(h:gk t):∀d,ou t=some d->gk d:=fun d hd=>by obtain⟨_,rfl⟩:=fA.1 hd;exact h
theorem Rq(n:Nat)(ih:U0 n)(m:Nm)(B:E)(hm:rQ m)(hB:Wf B)(hl:(E.list [.atom dL,.atom m,B]).dq<=n+1)(hl4:(E.list [.atom dL,.atom m,B]).dq<=400)(s:Nm)(hs:rQ s) :
 aq Tryz.prog 203 [.agg [.v (.string (mk [])),(E.list [.atom dL,.atom m,B]).sp],.v (.string (mk s))] [] (lS (ml (cX (.list [.atom dL,.atom m,B]) []) s)):=by
 have hw:Wf (.list [.atom dL,.atom m,B]):=.rc hm hB
 have hsz:=hw.sz
 have hA:=Fl hw (.sl [[.v (.string (mk s)),zd]]) [.atom s] ⟨(cc _).mpr trivial,by simp only[fy,E.bD,fT];rfl⟩ (by omega) (fun o ho=>by
  simp only[aI,List.not_mem_nil,or_false]at ho
  subst ho
  exact⟨.atom hs.1,by simp[E.sz]⟩) (by simp)
 have hatsB:B.dq+2=(E.list [.atom dL,.atom m,B]).dq:=by simp only[E.dq,E.fm];omega
 have hT:cX (.list [.atom dL,.atom m,B]) []=.rc (cX B [m]):=fE _ _ _
 obtain⟨w1,w2,_,_,w5⟩:=lu (BL (.list [.atom dL,.atom m,B]) [.atom s]) (cX (.list [.atom dL,.atom m,B]) []) [] 0 (.nil _ _) (uV hw []) fun y hy=>⟨aD _ ((mH hw [] [] y).2 (.inr hy)),(nT hw [] y hy).1⟩
 have hsF:s∈BL (.list [.atom dL,.atom m,B]) [.atom s]:=aC _ (sR (o:=.atom s) (by simp) (.atom hs.1) (by rw[tv hs];simp[bz]))
 have haF:∀y,bz y (cX B [m])=true->y∈BL (.list [.atom dL,.atom m,B]) [.atom s]:=fun y hy=>aD _ ((mH hw [] [] y).2 (.inr (by rw[hT];exact hy)))
 unfold Br at hA
 rw[hT]at hA w1 w2 w5
 rw[hT]
 generalize BL (.list [.atom dL,.atom m,B]) [.atom s]=F at *
 obtain⟨_,_,_,hxF⟩:=gV F 0
 simp only[iG,aR]at hA w1 w2 w5
 generalize hxd:tN (nx F 0)=x at *
 have hx:rQ x:=by rw[<-hxd];exact yU _
 generalize (iG F (cX B [m]) [x] (nx F 0+1)).1=b at *
 have hb:Wf b:=by cases w1;assumption
 rw[fE]at w2
 have hbt:cX b [x]=cX B [m]:=by injection w2
 have hxa:bz x (cX B [m])=false:=by
  cases q:bz x (cX B [m])with
  |false=>rfl
  |true=>exact absurd (haF x q) hxF
 have hxs:x≠s:=fun e=>hxF (by rw[e];exact hsF)
 generalize cX B [m]=a at *
 have hbo:cX b []=dR (.name x) a 0:=by
  have:=zD x hb []
  rw[df,hbt]at this;exact this
 have hba:b.dq+2=(E.list [.atom dL,.atom m,B]).dq:=by
  rw[hw.dq [],hT,hb.dq [],hbo,fV];simp only[Ty.atoms];omega
 have i1:=ih b s hb (by omega) (by omega) hs
 have i2:=ih b x hb (by omega) (by omega) hx
 have n1:=kW (s:=s) hb
 have n2:=kW (s:=x) hb
 rw[hbo]at i1 i2 n1 n2
 have hP:=P3.of (.atom dL) (.atom x) b
 rw[DZ hxa hxs]
 have hE1:Wf (.list [.atom dL,.atom x,b]):=w1
 have hE1t:cX (.list [.atom dL,.atom x,b]) []=.rc a:=by rw[fE];exact w2
 have hE1l:(E.list [.atom dL,.atom x,b]).dq<=400:=by
  have:(E.list [.atom dL,.atom x,b]).dq=b.dq+2:=by simp only[E.dq,E.fm];omega
  omega
 refine UB _ _ _ ((aV _).mpr trivial) ?_
 unfold Om
 refine aj hA ?_
 simp only[↓zq,zs,af,zt,aK,bL,toNat_one,bn,hP.1,hP.2.1,hP.2.2.1,hP.2.2.2,eh]
 repeat refine⟨by omega,?_⟩
 refine aQ i1 (lS.ne n1) ?_
 rintro r o ⟨rfl,c1,d1,hd1,rfl,hc1⟩
 simp only[↓zq,zs,af,zt,gT hd1]
 repeat refine⟨by omega,?_⟩
 refine aQ i2 (lS.ne n2) ?_
 rintro r o ⟨rfl,c2,d2,hd2,rfl,hc2⟩
 simp only[↓zq,zs,af,zt,gT hd2]
 cases q1:ml (dR (.name x) a 0) s with
 |
  none =>
  simp only[bf,bC]
  exact⟨fun _=>lS.no _ _ ((aV _).mpr trivial),fun h=>(by cases h)⟩
 |some c =>
 cases q2:ml (dR (.name x) a 0) x with
 |
  none =>
  simp only[bf,a6,bC,aS]
  exact⟨fun h=>(by cases h),fun _=>⟨fun _=>lS.no _ _ ((aV _).mpr trivial),fun h=>(by cases h)⟩⟩
 |some d =>
 simp only[a6,aS]
 refine⟨fun h=>(by cases h),fun _=>⟨fun h=>(by cases h),fun _=>?_⟩⟩
 obtain⟨ec,wc,tc,rfl,rfl⟩:=hc1 c q1
 obtain⟨ed,wd,td,rfl,rfl⟩:=hc2 d q2
 have lc:=(db.1 q1).small
 have ld:=(db.1 q2).small
 have p1:=IU hx wc hE1 (wc.jb tc lc) hE1l
 have p2:=IU hx wd hE1 (wd.jb td ld) hE1l
 have g1:=sG (hE1.sn.sub (x:=x) wc.sn)
 have g2:=sG (hE1.sn.sub (x:=x) wd.sn)
 rw[hE1t,tc]at p1 g1
 rw[hE1t,td]at p2 g2
 simp only[bL]at p1 p2
 repeat refine⟨by omega,?_⟩
 refine aQ p1 (lS.ne g1) ?_
 rintro r o ⟨rfl,c3,d3,hd3,rfl,hc3⟩
 simp only[↓zq,zs,af,zt,gT hd3]
 repeat refine⟨by omega,?_⟩
 refine aQ p2 (lS.ne g2) ?_
 rintro r o ⟨rfl,c4,d4,hd4,rfl,hc4⟩
 simp only[↓zq,zs,af,zt,gT hd4]
 have big:∀t:Ty,ou t=none->¬t.atoms<=400:=fun t ht hle=>by unfold ou at ht;rw[if_pos hle]at ht;cases ht
 have out0:(ou (sub x (.rc a) c)=none\/ou (sub x (.rc a) d)=none)->ou (qA a x c d)=none:=fun h=>by
  unfold ou
  rw[if_neg fun hle=>?_]
  have:=vC hle
  rcases h with h|h
  ·exact big _ h this.1
  ·exact big _ h this.2
 cases q3:ou (sub x (.rc a) c)with
 |
  none =>
  rw[out0 (.inl q3)]
  simp only[bf]
  exact⟨fun _=>lS.no _ _ ((aV _).mpr trivial),fun h=>(by cases h)⟩
 |some c' =>
 cases q4:ou (sub x (.rc a) d)with
 |
  none =>
  rw[out0 (.inr q4)]
  simp only[bf,a6]
  exact⟨fun h=>(by cases h),fun _=>⟨fun _=>lS.no _ _ ((aV _).mpr trivial),fun h=>(by cases h)⟩⟩
 |some d' =>
 simp only[a6]
 refine⟨fun h=>(by cases h),fun _=>⟨fun h=>(by cases h),fun _=>?_⟩⟩
 obtain⟨ec',wc',tc',rfl,rfl⟩:=hc3 c' q3
 obtain⟨ed',wd',td',rfl,rfl⟩:=hc4 d' q4
 obtain⟨lc',e3⟩:=fA.1 q3
 obtain⟨ld',e4⟩:=fA.1 q4
 rw[e3]at lc';rw[e4]at ld'
 have z1:=wc'.sz
 have z2:=wd'.sz
 have k1:=wc'.jb tc' lc'
 have k2:=wd'.jb td' ld'
 have f1:=EF wd' [] [] (.sl []) (.of []) (by simp;omega)
 have fl1:=gx ed' [] []
 have fl2:=gx ec' [] (lh ed' [] [])
 simp only[aF,ba]at fl1
 have f2:=EF wc' [] (lh ed' [] []) (.sl []) (.of []) (by simp;omega)
 refine aX f1 ?_
 simp only[↓zq,zs,af,zt,aM,bx,Ob.es]
 refine aX f2 ?_
 simp only[↓zq,zs,af,zt,aM,bx,Ob.es]
 have hF3:∀y,(bz y c'=true\/bz y d'=true)->y∈lh ec' [] (lh ed' [] []):=fun y hy=>by
  rw[mH wc',mH wd']
  rcases hy with hy|hy
  ·exact .inr (by rw[tc'];exact hy)
  ·exact .inl (.inr (by rw[td'];exact hy))
 generalize lh ec' [] (lh ed' [] [])=F3 at *
 obtain⟨_,y2,_,hyF⟩:=gV F3 0
 refine cA (Qe F3 (by omega) _ _ _ _ ((aV _).mpr trivial) ((aV _).mpr trivial) (F3.length+1) 0 (by show nx F3 0<_;omega) (by omega)) ?_
 have hnx:rn F3 (F3.length+1) 0=nx F3 0:=rfl
 rw[hnx]
 simp only[↓zq,zs,af,zt,af,aH,bo,aV]
 refine aj (BF (nx F3 0+1) (nx F3 0) (by omega) (by omega)) ?_
 have hdl:=nh (nx F3 0+1) (nx F3 0) (by omega)
 simp only[↓zq,zs,af,zt,bj,aR]
 refine⟨by omega,?_⟩
 obtain⟨y,hyd⟩:∃y:Nm,(116::dd (nx F3 0):Nm)=y:=⟨_,rfl⟩
 rw[hyd]
 rw[show tN (nx F3 0)=y from hyd]at hyF
 have hy:rQ y:=by rw[<-hyd];exact yU _
 have hcy:cX ec' [y]=c':=by
  have:=vH [y] wc' [] (fun z hz hm=>hyF (by
   simp only[aU]at hm
   rw[<-hm];exact hF3 z (.inl (by rw[<-tc'];exact hz))))
  rw[df,tc']at this;exact this
 have hdy:cX ed' [y]=d':=by
  have:=vH [y] wd' [] (fun z hz hm=>hyF (by
   simp only[aU]at hm
   rw[<-hm];exact hF3 z (.inr (by rw[<-td'];exact hz))))
  rw[df,td']at this;exact this
 have hyb:cX (.atom y) [y]=.bound 0:=by
  simp only[cX];rw[if_neg hy.2.1,if_neg hy.2.2,show bT y [y] [y].length=some 0 from fH y []]
 let o1:E:=.list [.atom [42],ed',.atom y]
 let o2:E:=.list [.atom [43],ec',o1]
 let o3:E:=.list [.atom dL,.atom y,o2]
 have hw3:Wf o3:=.rc hy (.plus wc' (.times wd' (.atom hy.1)))
 have ht3:cX o3 []=qA a x c d:=by
  show cX (.list [.atom dL,.atom y,o2]) []=_
  rw[fE]
  show Ty.rc (cX (.list [.atom [43],ec',o1]) [y])=_
  rw[dS]
  show Ty.rc (.plus (cX ec' [y]) (cX (.list [.atom [42],ed',.atom y]) [y]))=_
  rw[dz,hcy,hdy,hyb,qA,e3,e4]
 have m1:=xY [42] ed' (.atom y)
 have m2:=xY [43] ec' o1
 have m3:=xY dL (.atom y) o2
 simp only[o1,bL,eh]at m1 m2 m3
 refine aj m1 ?_
 simp only[↓zq,zs,af,zt,aK]
 repeat refine⟨by omega,?_⟩
 refine aj m2 ?_
 simp only[↓zq,zs,af,zt,aK]
 repeat refine⟨by omega,?_⟩
 refine aj m3 ?_
 simp only[↓zq,zs,af,zt,aK]
 repeat refine⟨by omega,?_⟩
 have z3:=hw3.sz
 have hats3:o3.dq=ec'.dq+ed'.dq+5:=by simp only[o3,o2,o1,E.dq,E.fm];omega
 have ma:=EW o3 hw3.ok (by omega)
 rw[cU]at ma
 simp only[o3,o2,o1,bL]at ma
 refine aj ma ?_
 simp only[↓zq,zs,af,zt]
 have hd3:(qA a x c d).atoms=o3.dq:=by rw[<-ht3,<-hw3.dq []]
 unfold ou
 by_cases hle:(qA a x c d).atoms<=400
 ·rw[if_pos hle]
  have:=lS.of hw3
  rw[ht3]at this
  rw[show decide ((((E.list [.atom dL,.atom y,.list [.atom [43],ec',.list [.atom [42],ed',.atom y]]]).dq:Nat):Int)<=400)=true from decide_eq_true (by show ((o3.dq:Nat):Int)<=400;omega)]
  exact this
 ·rw[if_neg hle]
  rw[show decide ((((E.list [.atom dL,.atom y,.list [.atom [43],ec',.list [.atom [42],ed',.atom y]]]).dq:Nat):Int)<=400)=false from decide_eq_false (by show ¬((o3.dq:Nat):Int)<=400;omega)]
  exact lS.no _ _ ((aV o3).mpr trivial)
theorem AI:∀n,U0 n
 |0=>fun e s h hl=>by have:=ez (cX e []);rw[<-h.dq []]at this;omega
 |
  n+1=>by
  intro e s h hl h4 hs
  cases h with
  |
   @atom c hc =>
   refine F0 _ _ _ ((aV _).mpr trivial) ?_
   simp only[Ch,eh,↓zq,zs,af,zt]
   refine⟨fun _=>⟨fun he=>?_,fun hne=>?_⟩,fun h=>absurd h hc⟩
   ·have he:c=s:=he
    subst he
    rw[tv hs,px,if_pos rfl]
    exact lS.of (e:=.atom [49]) (.atom (by simp))
   ·have hne:¬c=s:=hne
    have:ml (cX (.atom c) []) s=some .zero:=by
     simp only[cX]
     split
     ·exact wQ _
     ·split
      ·exact yZ _
      ·rw[show bT c [] ([]:List Nm).length=none from rfl,px,if_neg hne]
    rw[this]
    exact lS.of (e:=.atom [48]) (.atom (by simp))
  |
   @plus x y hx hy =>
   have hxy:(E.list [.atom [43],x,y]).dq=x.dq+y.dq+1:=by simp only[E.dq,E.fm];omega
   have p1:1<=x.dq:=by rw[hx.dq []];exact ez _
   have p2:1<=y.dq:=by rw[hy.dq []];exact ez _
   refine F0 _ _ _ ((aV _).mpr trivial) ?_
   have hP:=P3.of (.atom [43]) x y
   simp only[Ch,bL,toNat_one,bn,↓zq,zs,af,zt,hP.1,hP.2.1,hP.2.2.1,hP.2.2.2,aK]
   refine⟨fun h=>absurd rfl h,fun _=>?_⟩
   refine aj (pd [43] x y) ?_
   simp only[↓zq,zs,af,zt]
   refine⟨fun h=>by simp at h,fun _=>?_⟩
   repeat refine⟨by omega,?_⟩
   rw[dS,xl]
   refine aQ (AI n x s hx (by omega) (by omega) hs) (lS.ne (kW hx)) ?_
   rintro r o ⟨rfl,c1,d1,hd1,rfl,hc1⟩
   simp only[↓zq,zs,af,zt,gT hd1]
   repeat refine⟨by omega,?_⟩
   refine aQ (AI n y s hy (by omega) (by omega) hs) (lS.ne (kW hy)) ?_
   rintro r o ⟨rfl,c2,d2,hd2,rfl,hc2⟩
   simp only[↓zq,zs,af,zt,gT hd2]
   refine aj (Dw [43] c1 c2 d1 d2) ?_
   simp only[↓zq,zs,af,zt,bE,dC,cc]
   repeat refine⟨by omega,?_⟩
   refine aj (pd [43] x y) ?_
   simp only[↓zq,zs,af,zt]
   refine⟨fun h=>by simp at h,fun _=>?_⟩
   cases q1:ml (cX x []) s with
   |
    none =>
    simp only[bf,bC]
    exact⟨fun h=>(by cases h),fun _=>lS.no _ _ ((cc _).mpr trivial)⟩
   |some tx =>
   cases q2:ml (cX y []) s with
   |
    none =>
    simp only[bf,a6,bC,aS]
    exact⟨fun _=>⟨fun h=>(by cases h),fun _=>lS.no _ _ ((cc _).mpr trivial)⟩,fun h=>(by cases h)⟩
   |some t2 =>
   simp only[a6,aS]
   refine⟨fun _=>⟨fun _=>?_,fun h=>(by cases h)⟩,fun h=>(by cases h)⟩
   obtain⟨e1,w1,te1,rfl,rfl⟩:=hc1 tx q1
   obtain⟨e2,w2,te2,rfl,rfl⟩:=hc2 t2 q2
   have l1:=w1.jb te1 (db.1 q1).small
   have l2:=w2.jb te2 (db.1 q2).small
   have z1:=w1.sz
   have z2:=w2.sz
   have hw3:Wf (.list [.atom [43],e1,e2]):=.plus w1 w2
   have ht3:cX (.list [.atom [43],e1,e2]) []=.plus tx t2:=by rw[dS,te1,te2]
   have ma:=EW _ hw3.ok (by simp only[E.sz,E.jN];omega)
   rw[cU]at ma
   simp only[bL]at ma
   have e3:AV.sl [[.v (.string (mk [43])),zd],[.v (.string (mk e1.at)),e1.sp],[.v (.string (mk e2.at)),e2.sp]]=(E.list [.atom [43],e1,e2]).sp:=by simp only[E.sp,E.bD,fT];rfl
   rw[e3]
   refine aj ma ?_
   simp only[↓zq,zs,af,zt]
   have hd3:(Ty.plus tx t2).atoms=(E.list [.atom [43],e1,e2]).dq:=by rw[<-ht3,<-hw3.dq []]
   unfold ou
   by_cases hle:(Ty.plus tx t2).atoms<=400
   ·rw[if_pos hle,show decide ((((E.list [.atom [43],e1,e2]).dq:Nat):Int)<=400)=true from decide_eq_true (by omega)]
    have:=lS.of hw3
    rw[ht3]at this
    exact this
   ·rw[if_neg hle,show decide ((((E.list [.atom [43],e1,e2]).dq:Nat):Int)<=400)=false from decide_eq_false (by omega)]
    exact lS.no _ _ ((aV _).mpr trivial)
  |
   @times x y hx hy =>
   have hxy:(E.list [.atom [42],x,y]).dq=x.dq+y.dq+1:=by simp only[E.dq,E.fm];omega
   have p1:1<=x.dq:=by rw[hx.dq []];exact ez _
   have p2:1<=y.dq:=by rw[hy.dq []];exact ez _
   refine F0 _ _ _ ((aV _).mpr trivial) ?_
   have hP:=P3.of (.atom [42]) x y
   simp only[Ch,bL,toNat_one,bn,↓zq,zs,af,zt,hP.1,hP.2.1,hP.2.2.1,hP.2.2.2,aK]
   refine⟨fun h=>absurd rfl h,fun _=>?_⟩
   refine aj (pd [42] x y) ?_
   simp only[↓zq,zs,af,zt]
   refine⟨fun h=>by simp at h,fun _=>?_⟩
   repeat refine⟨by omega,?_⟩
   rw[dz,ur]
   refine aQ (AI n x s hx (by omega) (by omega) hs) (lS.ne (kW hx)) ?_
   rintro r o ⟨rfl,c1,d1,hd1,rfl,hc1⟩
   simp only[↓zq,zs,af,zt,gT hd1]
   repeat refine⟨by omega,?_⟩
   refine aQ (AI n y s hy (by omega) (by omega) hs) (lS.ne (kW hy)) ?_
   rintro r o ⟨rfl,c2,d2,hd2,rfl,hc2⟩
   simp only[↓zq,zs,af,zt,gT hd2]
   refine aj (Dw [43] c1 c2 d1 d2) ?_
   simp only[↓zq,zs,af,zt,bE,dC,cc]
   repeat refine⟨by omega,?_⟩
   refine aj (pd [42] x y) ?_
   simp only[↓zq,zs,af,zt]
   refine⟨fun _=>?_,fun h=>by simp at h⟩
   repeat refine⟨by omega,?_⟩
   refine aj (Dw [42] c1 y.at d1 y.sp) ?_
   simp only[↓zq,zs,af,zt,bE,dC,cc,aV]
   repeat refine⟨by omega,?_⟩
   refine aj (Dw [42] x.at c2 x.sp d2) ?_
   simp only[↓zq,zs,af,zt,bE,dC,cc,aV]
   repeat refine⟨by omega,?_⟩
   refine aj (Dw [43] [] [] _ _) ?_
   simp only[↓zq,zs,af,zt,bE,dC,cc]
   repeat refine⟨by omega,?_⟩
   cases q1:ml (cX x []) s with
   |
    none =>
    simp only[bf,bC]
    exact⟨fun h=>(by cases h),fun _=>lS.no _ _ ((cc _).mpr trivial)⟩
   |some tx =>
   cases q2:ml (cX y []) s with
   |
    none =>
    simp only[bf,a6,bC,aS]
    exact⟨fun _=>⟨fun h=>(by cases h),fun _=>lS.no _ _ ((cc _).mpr trivial)⟩,fun h=>(by cases h)⟩
   |some t2 =>
   simp only[a6,aS]
   refine⟨fun _=>⟨fun _=>?_,fun h=>(by cases h)⟩,fun h=>(by cases h)⟩
   obtain⟨e1,w1,te1,rfl,rfl⟩:=hc1 tx q1
   obtain⟨e2,w2,te2,rfl,rfl⟩:=hc2 t2 q2
   have l1:=w1.jb te1 (db.1 q1).small
   have l2:=w2.jb te2 (db.1 q2).small
   have z1:=w1.sz
   have z2:=w2.sz
   have z3:=hx.sz
   have z4:=hy.sz
   have hw3:Wf (.list [.atom [43],.list [.atom [42],e1,y],.list [.atom [42],x,e2]]):=.plus (.times w1 hy) (.times hx w2)
   have ht3:cX (.list [.atom [43],.list [.atom [42],e1,y],.list [.atom [42],x,e2]]) []=.plus (.times tx (cX y [])) (.times (cX x []) t2):=by rw[dS,dz,dz,te1,te2]
   have ma:=EW _ hw3.ok (by simp only[E.sz,E.jN];omega)
   rw[cU]at ma
   simp only[bL]at ma
   have e3:AV.sl [[.v (.string (mk [43])),zd],[.v (.string (mk [])),.sl [[.v (.string (mk [42])),zd],[.v (.string (mk e1.at)),e1.sp],[.v (.string (mk y.at)),y.sp]]],[.v (.string (mk [])),.sl [[.v (.string (mk [42])),zd],[.v (.string (mk x.at)),x.sp],[.v (.string (mk e2.at)),e2.sp]]]]=(E.list [.atom [43],.list [.atom [42],e1,y],.list [.atom [42],x,e2]]).sp:=by simp only[E.sp,E.bD,fT];rfl
   rw[e3]
   refine aj ma ?_
   simp only[↓zq,zs,af,zt]
   have hd3:(Ty.plus (.times tx (cX y [])) (.times (cX x []) t2)).atoms=(E.list [.atom [43],.list [.atom [42],e1,y],.list [.atom [42],x,e2]]).dq:=by rw[<-ht3,<-hw3.dq []]
   unfold ou
   by_cases hle:(Ty.plus (.times tx (cX y [])) (.times (cX x []) t2)).atoms<=400
   ·rw[if_pos hle,show decide ((((E.list [.atom [43],.list [.atom [42],e1,y],.list [.atom [42],x,e2]]).dq:Nat):Int)<=400)=true from decide_eq_true (by omega)]
    have:=lS.of hw3
    rw[ht3]at this
    exact this
   ·rw[if_neg hle,show decide ((((E.list [.atom [43],.list [.atom [42],e1,y],.list [.atom [42],x,e2]]).dq:Nat):Int)<=400)=false from decide_eq_false (by omega)]
    exact lS.no _ _ ((aV _).mpr trivial)
  |
   @rc m B hm hB =>
   have hlp:=Rq n (AI n) m B hm hB hl h4 s hs
   have hg:=kW (s:=s) (Wf.rc hm hB)
   refine F0 _ _ _ ((aV _).mpr trivial) ?_
   have hP:=P3.of (.atom dL) (.atom m) B
   simp only[Ch,bL,toNat_one,bn,↓zq,zs,af,zt,hP.1,hP.2.1,hP.2.2.1,hP.2.2.2,aK]
   refine⟨fun h=>absurd rfl h,fun _=>?_⟩
   refine aj (pd dL (.atom m) B) ?_
   simp only[↓zq,zs,af,zt]
   refine⟨fun _=>?_,fun h=>absurd rfl h⟩
   refine aQ hlp (lS.ne hg) ?_
   rintro r o ⟨rfl,c1,d1,hd1,rfl,hc1⟩
   simp only[↓zq,zs,af,zt,gT hd1]
   exact⟨rfl,c1,d1,hd1,rfl,hc1⟩
end Go.Proofs.Trees
namespace Go.Proofs.Trees
open Go Go.VL Go.RowKit
theorem pL:∀(n k:Nat),k<10 ^ (n+1)->(dd k).length<=n+1
 |0,k,h=>by rw[eX (by omega)];simp
 |
  n+1,k,h=>by
  by_cases h1:k<10
  ·rw[eX h1];simp
  ·rw[ga h1]
   have:=pL n (k/10) (by
    have:10 ^ (n+1+1)=10*10 ^ (n+1):=by rw[Nat.pow_succ,Nat.mul_comm]
    omega)
   simp;omega
inductive Sh:E->Prop
 |atom {s:Nm} (h:s.length<=20):Sh (.atom s)
 |l3 {h:Nm} {a b:E} (hh:h.length<=20) (ha:Sh a) (hb:Sh b):Sh (.list [.atom h,a,b])
theorem Sh.cf{e:E}(hw:Wf e)(h:Sh e):(fh e).length<=50*e.dq:=by
 induction hw with
 |atom _=>cases h with|atom h=>simp only[fh,E.dq];omega
 |
  plus _ _ i1 i2 =>
  cases h with|l3 hh ha hb =>
  have:=i1 ha
  have:=i2 hb
  simp only[fh,ew,aw,an,aF,E.dq,E.fm];omega
 |
  times _ _ i1 i2 =>
  cases h with|l3 hh ha hb =>
  have:=i1 ha
  have:=i2 hb
  simp only[fh,ew,aw,an,aF,E.dq,E.fm];omega
 |
  rc _ _ i =>
  cases h with|l3 hh ha hb =>
  cases ha with|atom ha =>
  have:=i hb
  simp only[fh,ew,aw,an,aF,E.dq,E.fm];omega
def vY(t:Ty):Prop:=∀y,bz y t=true->y.length<=20
theorem yJ{k:Nat}(h:k<100000000):(tN k).length<=20:=by
 have:=pL 7 k (by omega)
 simp;omega
theorem qv(F:List Nm)(hF:F.length<=10000):∀(t:Ty) (to:List Nm) (k:Nat),vY t->(∀w,w∈to->w.length<=20)->k+(F.length+1)*t.atoms<90000000->Sh (iG F t to k).1
 | .zero,_,_,_,_,_=>.atom (by simp)
 | .one,_,_,_,_,_=>.atom (by simp)
 | .name s,_,_,hn,_,_=>.atom (hn s (by simp[bz]))
 |
  .bound u,to,_,_,ht,_=>by
  refine .atom ?_
  show (gH to u).length<=20
  unfold gH
  by_cases h:to.length-1-u<to.length
  ·rw[aa,a7 h];exact ht _ (bh h)
  ·rw[aa,List.getElem?_eq_none (by omega)];simp
 |
  .plus a b,to,k,hn,ht,hk=>by
  have h1:=iX F a to k
  have:(F.length+1)*(1+a.atoms+b.atoms)=(F.length+1)+(F.length+1)*a.atoms+(F.length+1)*b.atoms:=by simp only[cZ,dO]
  simp only[Ty.atoms]at hk
  exact .l3 (by simp) (qv F hF a to k (fun y hy=>hn y (by simp[bz,hy])) ht (by omega)) (qv F hF b to _ (fun y hy=>hn y (by simp[bz,hy])) ht (by omega))
 |
  .times a b,to,k,hn,ht,hk=>by
  have h1:=iX F a to k
  have:(F.length+1)*(1+a.atoms+b.atoms)=(F.length+1)+(F.length+1)*a.atoms+(F.length+1)*b.atoms:=by simp only[cZ,dO]
  simp only[Ty.atoms]at hk
  exact .l3 (by simp) (qv F hF a to k (fun y hy=>hn y (by simp[bz,hy])) ht (by omega)) (qv F hF b to _ (fun y hy=>hn y (by simp[bz,hy])) ht (by omega))
 |
  .rc a,to,k,hn,ht,hk=>by
  obtain⟨g1,g2,_,_⟩:=gV F k
  have:(F.length+1)*(2+a.atoms)=(F.length+1)*2+(F.length+1)*a.atoms:=by simp only[cZ]
  simp only[Ty.atoms]at hk
  have hl:=yJ (k:=nx F k) (by omega)
  exact .l3 (by simp) (.atom hl) (qv F hF a _ _ hn (fun w hw=>by
   rcases aP.1 hw with hw|hw
   ·exact ht w hw
   ·simp only[aU]at hw;rw[hw];exact hl) (by omega))
def GA(t:Ty):Nm:=fh (iG (bS t []) t [] 0).1
def told(t:Ty):Option Nm:=if t.atoms<=400/\(rR (GA t)).isSome=true then some (GA t)else none
theorem E5{t:Ty}(g:gk t)(hs:vY t)(ha:t.atoms<=400):(GA t).length<=20000:=by
 obtain⟨h1,h2,_⟩:=lu (bS t []) t [] 0 (.nil _ _) g.1 fun y hy=>⟨(fe t [] y).2 (.inr hy),g.2 y hy⟩
 have hn:=eJ t []
 simp only[aF,ba]at hn
 have hm:((bS t []).length+1)*t.atoms<=401*400:=Nat.mul_le_mul (by omega) ha
 have:=(qv (bS t []) (by omega) t [] 0 hs (fun w hw=>by cases hw) (by omega)).cf h1
 have:=h1.jb h2 ha
 unfold GA;omega
theorem vc(s:Nm):(xC s).isSome=(rR s).isSome:=by
 rw[vQ]
 cases he:xC s with
 |none=>rfl
 |
  some e =>
  obtain⟨h1,h2,h3⟩:=qO he
  simp only[jq e [],h2];rfl
theorem Re(s:Nm):aq Tryz.prog 191 [.v (.string (mk s))] [] (bN (.v (.bool (rR s).isSome))):=by
 refine Sd _ ?_
 unfold Qo
 refine aQ (IE s) (iU.ne _ _ (fun h=>h)) ?_
 rintro r o ⟨c,d,hd,rfl,hh⟩
 have hhas:bE [.str,.sl] [.v (.string (mk c)),d] 0:=by simp[bE,dC,hd]
 simp only[↓zq,zs,af,zt,vc]
 exact⟨hhas,rfl,rfl⟩
theorem Ub{e:E}(h:Wf e)(hl:e.dq<=400)(hs:vY (cX e [])):aq Tryz.prog 174 [.agg [.v (.string (mk e.at)),e.sp]] [] (bN (rI (told (cX e [])))):=by
 refine Ti _ _ ((aV _).mpr trivial) ?_
 unfold OO
 have z:=h.sz
 have ma:=EW e h.ok (by omega)
 rw[cU]at ma
 have hA:=Fl h zd [] ⟨(bo).mpr trivial,rfl⟩ (by omega) (fun o ho=>by cases ho) (by simp)
 have ha:(cX e []).atoms<=400:=by rw[<-h.dq []];exact hl
 have hc:Br e []=(iG (bS (cX e []) []) (cX e []) [] 0).1:=by
  unfold Br BL sP
  rw[List.flatMap_nil,df,ka (F':=bS (cX e []) []) fun y=>by rw[mH h,fe]]
 have hx:fh (Br e [])=GA (cX e []):=by rw[hc];rfl
 have hlen:=E5 h.sn hs ha
 have hT:=Eb (Br e []) (yu h).1.ok (by rw[hx];omega)
 rw[cU,hx]at hT
 refine aj ma ?_
 simp only[↓zq,zs,af,zt]
 refine⟨fun h=>by omega,fun _=>?_⟩
 refine aj hA ?_
 simp only[↓zq,zs,af,zt,aK]
 refine aj hT ?_
 simp only[↓zq,zs,af,zt]
 refine aj (Re _) ?_
 simp only[↓zq,zs,af,zt]
 unfold told
 refine⟨fun hn=>?_,fun hy=>?_⟩
 ·rw[if_neg (by rw[hn];simp)];exact⟨rfl,rfl⟩
 ·rw[if_pos ⟨ha,hy⟩];exact⟨rfl,rfl⟩
abbrev mR:Nm:=[35,49]
noncomputable def cP (s:Nm):Option Nm:=match rR s with
 |some (.rc a)=>(ql a mR).bind told
 |_=>none
theorem qo{s:Nm}{t:Ty}(h:rR s=some t):∃e,xC s=some e/\Wf e/\cX e []=t/\e.dq<=400/\e.ok:=by
 rw[vQ]at h
 cases he:xC s with
 |none=>rw[he]at h;cases h
 |
  some e =>
  rw[he]at h
  obtain⟨h1,h2,h3⟩:=qO he
  obtain⟨hok,_⟩:=oH h1
  obtain⟨w1,w2⟩:=kX e [] t hok (fun w hw=>by cases hw) h
  exact⟨e,rfl,w1,w2,h3,hok⟩
theorem s8{e:E}{x:Nm}{a d:Ty}(hw:Wf e)(ht:cX e []=.rc a)(hx:rQ x)(hd:ql a x=some d):gk d/\(vY (.rc a)->vY d):=by
 simp only[ql,bc,db,fA]at hd
 obtain⟨d',h1,_,rfl⟩:=hd
 have g:gk (.rc a):=ht ▸ hw.sn
 have go:gk (dR (.name x) a 0):=⟨jg x a g.1,fun y hy=>by
  rcases gX a 0 hy with rfl|h
  ·exact hx
  ·exact g.2 y h⟩
 refine⟨g.sub (go.dv h1),fun hs y hy=>?_⟩
 rcases jv _ hy with h|⟨h,h'⟩
 ·exact hs y h
 ·rcases gX a 0 (h1.names y h')with e|e
  ·exact absurd e h
  ·exact hs y e
def M6(y:Nm):Prop:=ib y=true\/dx y=true
theorem jr:∀(e:E) (ar:List Nm) (t:Ty),cY e ar=some t->∀y,bz y t=true->M6 y
 |
  .atom s,ar,t,ht,y,hy=>by
  simp only[cY]at ht
  split at ht
  ·cases ht;cases hy
  ·split at ht
   ·cases ht;cases hy
   ·split at ht
    ·rename_i hp
     cases ht
     simp only[bz,decide_eq_true_eq]at hy
     subst hy;exact .inl hp
    ·split at ht
     ·rename_i hq
      split at ht
      ·cases ht;cases hy
      ·cases ht
       simp only[bz,decide_eq_true_eq]at hy
       subst hy;exact .inr hq
     ·cases ht
 |
  .list [x,a,b],ar,t,ht,y,hy=>by
  by_cases h0:x.at=[43]
  ·obtain⟨t1,t2,h1,h2,rfl⟩:=fU h0 ht
   simp only[bz,bI]at hy
   rcases hy with hy|hy
   ·exact jr a ar t1 h1 y hy
   ·exact jr b ar t2 h2 y hy
  ·by_cases h1:x.at=[42]
   ·obtain⟨t1,t2,h2,h3,rfl⟩:=fD h1 ht
    simp only[bz,bI]at hy
    rcases hy with hy|hy
    ·exact jr a ar t1 h2 y hy
    ·exact jr b ar t2 h3 y hy
   ·by_cases h2:x.at=[114,101,99]
    ·obtain⟨t1,hla,h3,rfl⟩:=dI h2 ht
     exact jr b _ t1 h3 y hy
    ·rw[jz _ h0 h1 h2]at ht;cases ht
 | .list [],ar,t,ht,_,_=>by cases ht
 | .list [_],ar,t,ht,_,_=>by cases ht
 | .list [_,_],ar,t,ht,_,_=>by cases ht
 | .list (_::_::_::_::_),ar,t,ht,_,_=>by cases ht
theorem yb{y:Nm}(h:M6 y):y.length<=3/\∀r,y≠35::r:=by
 have key:∀lo hi,116<=lo->named lo hi y=true->y.length<=3/\∀r,y≠35::r:=fun lo hi hlo h=>by
  cases y with
  |nil=>cases h
  |
   cons c r =>
   simp only[named,aA,decide_eq_true_eq]at h
   refine⟨by simp;omega,fun r' e=>?_⟩
   have:c=35:=by injection e
   subst this
   have:=h.1.2.1
   have e35:(35:UInt8).toNat=35:=rfl
   omega
 rcases h with h|h
 ·exact key 120 122 (by omega) h
 ·exact key 116 116 (by omega) h
theorem nS{s:Nm}{t:Ty}(h:rR s=some t):∀y,bz y t=true->M6 y:=by
 rw[vQ]at h
 cases he:xC s with
 |none=>rw[he]at h;cases h
 |some e=>rw[he]at h;exact jr e [] t h
theorem yf{s:Nm}{a:Ty}(h:rR s=some (.rc a)):bz mR a=false:=by
 cases q:bz mR a with
 |false=>rfl
 |true=>exact absurd rfl ((yb (nS h mR q)).2 [49])
theorem CE{s:Nm}{t:Ty}(h:rR s=some t):vY t:=fun y hy=>by have:=(yb (nS h y hy)).1;omega
theorem Uw{m:Nm}{B:E}(hm:rQ m)(hB:Wf B)(hl:(E.list [.atom dL,.atom m,B]).dq<=400):aq Tryz.prog 173 [.agg [.v (.string (mk [])),(E.list [.atom dL,.atom m,B]).sp]] [] (lS (ql (cX B [m]) m)):=by
 have hw:Wf (.list [.atom dL,.atom m,B]):=.rc hm hB
 have hT:cX (.list [.atom dL,.atom m,B]) []=.rc (cX B [m]):=fE _ _ _
 have hP:=P3.of (.atom dL) (.atom m) B
 have hbo:cX B []=dR (.name m) (cX B [m]) 0:=by
  have:=zD m hB []
  rw[df]at this;exact this
 have hba:B.dq+2=(E.list [.atom dL,.atom m,B]).dq:=by simp only[E.dq,E.fm];omega
 have i1:=AI 400 B m hB (by omega) (by omega) hm
 have n1:=kW (s:=m) hB
 rw[hbo]at i1 n1
 refine T5 _ _ ((aV _).mpr trivial) ?_
 simp only[PV,bL,toNat_one,bn,↓zq,zs,af,zt,hP.1,hP.2.1,hP.2.2.1,hP.2.2.2,aK,eh]
 repeat refine⟨by omega,?_⟩
 refine aQ i1 (lS.ne n1) ?_
 rintro r o ⟨rfl,c1,d1,hd1,rfl,hc1⟩
 simp only[↓zq,zs,af,zt,gT hd1,ql]
 cases q1:ml (dR (.name m) (cX B [m]) 0) m with
 |
  none =>
  simp only[bf,bC]
  exact⟨fun _=>lS.no _ _ ((aV _).mpr trivial),fun h=>(by cases h)⟩
 |
  some d =>
  simp only[a6,aS]
  refine⟨fun h=>(by cases h),fun _=>?_⟩
  obtain⟨ed,wd,td,rfl,rfl⟩:=hc1 d q1
  have p1:=IU hm wd hw (wd.jb td (db.1 q1).small) hl
  have g1:=sG (hw.sn.sub (x:=m) wd.sn)
  rw[hT,td]at p1 g1
  simp only[bL]at p1
  repeat refine⟨by omega,?_⟩
  refine aQ p1 (lS.ne g1) ?_
  rintro r o ⟨rfl,c2,d2,hd2,rfl,hc2⟩
  simp only[↓zq,zs,af,zt,gT hd2]
  exact⟨rfl,c2,d2,hd2,rfl,hc2⟩
theorem Q0(s:Nm):aq Tryz.prog 154 [.v (.string (mk s))] [] (bN (rI (cP s))):=by
 refine RY _ ?_
 unfold O2
 refine aQ (IE s) (iU.ne _ _ (fun h=>h)) ?_
 rintro r o ⟨c,d,hd,rfl,hh⟩
 have hhas:bE [.str,.sl] [.v (.string (mk c)),d] 0:=by simp[bE,dC,hd]
 simp only[↓zq,zs,af,zt]
 refine⟨hhas,fun h=>?_,fun h=>?_⟩
 ·rw[vc]at h
  have:rR s=none:=by cases hq:rR s<;>simp[hq]at h |-
  unfold cP;rw[this];exact⟨rfl,rfl⟩
 ·rw[vc]at h
  obtain⟨t,ht⟩:=a8.1 h
  obtain⟨e,he,hw,hte,hats,hok⟩:=qo ht
  obtain⟨e',he',hce⟩:=hh (by rw[he];rfl)
  rw[he]at he';cases he'
  have notRec:(∀a,t≠.rc a)->cP s=none:=fun hn=>by
   unfold cP;rw[ht]
   cases t<;>first|rfl|exact absurd rfl (hn _)
  rw[hce,cU]
  cases hw with
  |
   @atom c hc =>
   have hn:cP s=none:=notRec fun a q=>by
    rw[<-hte]at q
    simp only[cX]at q
    split at q
    ·cases q
    ·split at q
     ·cases q
     ·split at q<;>cases q
   rw[hn]
   refine aj (AF c _ ((aV _).mpr trivial) hc) ?_
   simp only[↓zq,zs,af,zt]
   exact⟨fun _=>⟨rfl,rfl⟩,fun h=>by simp at h⟩
  |
   @plus x y hx hy =>
   have hn:cP s=none:=notRec fun a q=>by rw[<-hte,dS]at q;cases q
   rw[hn]
   simp only[bL]
   refine aj (pd [43] x y) ?_
   simp only[↓zq,zs,af,zt]
   exact⟨fun _=>⟨rfl,rfl⟩,fun h=>by simp at h⟩
  |
   @times x y hx hy =>
   have hn:cP s=none:=notRec fun a q=>by rw[<-hte,dz]at q;cases q
   rw[hn]
   simp only[bL]
   refine aj (pd [42] x y) ?_
   simp only[↓zq,zs,af,zt]
   exact⟨fun _=>⟨rfl,rfl⟩,fun h=>by simp at h⟩
  |
   @rc m B hm hB =>
   have hrt:cX (.list [.atom dL,.atom m,B]) []=.rc (cX B [m]):=fE _ _ _
   rw[hrt]at hte
   have hq:cP s=(ql (cX B [m]) m).bind told:=by
    unfold cP;rw[ht,<-hte]
    show (ql (cX B [m]) mR).bind told=_
    rw[GY (yf (by rw[ht,<-hte])) (by
     cases q:bz m (cX B [m])with
     |false=>rfl
     |true=>exact absurd (by simp) (nT hB [m] m q).2)]
   rw[hq]
   simp only[bL]
   refine aj (pd dL (.atom m) B) ?_
   simp only[↓zq,zs,af,zt]
   refine⟨fun h=>by simp at h,fun _=>?_⟩
   have hgood:∀d,ql (cX B [m]) m=some d->gk d/\(vY (.rc (cX B [m]))->vY d):=fun d hd=>s8 (Wf.rc hm hB) hrt hm hd
   refine aQ (Uw hm hB hats) (lS.ne fun t h=>(hgood t h).1) ?_
   rintro r o ⟨rfl,c1,d1,hd1,rfl,hc1⟩
   simp only[↓zq,zs,af,zt,gT hd1]
   cases q1:ql (cX B [m]) m with
   |
    none =>
    simp only[bf,bC]
    exact⟨fun _=>⟨rfl,rfl⟩,fun h=>(by cases h)⟩
   |
    some d =>
    simp only[a6,aS]
    refine⟨fun h=>(by cases h),fun _=>?_⟩
    obtain⟨ed,wd,td,rfl,rfl⟩:=hc1 d q1
    have hl:d.atoms<=400:=by
     simp only[ql,bc,fA]at q1
     obtain⟨_,_,h1,h2⟩:=q1
     rw[<-h2];exact h1
    have hcn:=Ub wd (wd.jb td hl) (by rw[td];exact(hgood d q1).2 (hte ▸ CE ht))
    rw[td]at hcn
    refine aj hcn ?_
    cases told d<;>simp only[rI,↓zq,zs,af,zt]<;>exact⟨rfl,rfl⟩
end Go.Proofs.Trees
namespace Go.Proofs.Trees
open Go Go.VL Go.RowKit
def vT(n:Nat):Vl->Ty->Bool
 | .u,.one=>true
 | .el k,.name _=>decide (k<n)
 | .l w,.plus a _=>vT n w a
 | .r w,.plus _ b=>vT n w b
 | .p x y,.times a b=>vT n x a&&vT n y b
 | .f w,.rc a=>vT n w (dR (.rc a) a 0)
 |_,_=>false
def cls(us:List Ty):Ty->Nat->Ty
 | .bound k,i=>if k<i then .bound k else us.getD (k-i) .zero
 | .plus a b,i=>.plus (cls us a i) (cls us b i)
 | .times a b,i=>.times (cls us a i) (cls us b i)
 | .rc a,i=>.rc (cls us a (i+1))
 |t,_=>t
def Aq:List Fr->List Ty
 |[]=>[]
 |f::r=>cls (Aq r) (Ac f.ex r) 0::Aq r
theorem me(u:Ty):∀(t:Ty) {i:Nat},kP t i->dR u t i=t
 | .bound k,i,h=>by simp only[dR];rw[if_neg (by have:k<i:=h;omega)]
 | .plus a b,i,h=>by simp only[dR];rw[me u a h.1,me u b h.2]
 | .times a b,i,h=>by simp only[dR];rw[me u a h.1,me u b h.2]
 | .rc a,i,h=>by simp only[dR];rw[me u a (i:=i+1) h]
 | .zero,_,_=>rfl
 | .one,_,_=>rfl
 | .name _,_,_=>rfl
theorem qu(us:List Ty):∀(t:Ty) {i:Nat},kP t i->cls us t i=t
 | .bound k,i,h=>by simp only[cls];rw[if_pos (by have:k<i:=h;omega)]
 | .plus a b,i,h=>by simp only[cls];rw[qu us a h.1,qu us b h.2]
 | .times a b,i,h=>by simp only[cls];rw[qu us a h.1,qu us b h.2]
 | .rc a,i,h=>by simp only[cls];rw[qu us a (i:=i+1) h]
 | .zero,_,_=>rfl
 | .one,_,_=>rfl
 | .name _,_,_=>rfl
theorem zu{us:List Ty}(hu:∀u,u∈us->kP u 0)(k:Nat):kP (us.getD k .zero) 0:=by
 by_cases h:k<us.length
 ·rw[aa,a7 h];exact hu _ (bh h)
 ·rw[aa,List.getElem?_eq_none (by omega)];trivial
theorem qJ{us:List Ty}(hu:∀u,u∈us->kP u 0):∀(t:Ty) (i:Nat),kP (cls us t i) i
 |
  .bound k,i=>by
  simp only[cls]
  split
  ·rename_i h;exact h
  ·exact gW _ (zu hu _) (dM _)
 | .plus a b,i=>⟨qJ hu a i,qJ hu b i⟩
 | .times a b,i=>⟨qJ hu a i,qJ hu b i⟩
 | .rc a,i=>qJ hu a (i+1)
 | .zero,_=>trivial
 | .one,_=>trivial
 | .name _,_=>trivial
theorem n7{us:List Ty}(hu:∀u,u∈us->kP u 0)(U:Ty):∀(t:Ty) (i:Nat),dR U (cls us t (i+1)) i=cls (U::us) t i
 |
  .bound k,i=>by
  simp only[cls]
  by_cases h1:k<i
  ·rw[if_pos (by omega),if_pos h1];simp only[dR];rw[if_neg (by omega)]
  ·rw[if_neg h1]
   by_cases h2:k=i
   ·subst h2;rw[if_pos (by omega)];simp[dR]
   ·rw[if_neg (by omega),me U _ (gW _ (zu hu _) (dM _)),show k-i=(k-(i+1))+1 by omega,List.getD_cons_succ]
 | .plus a b,i=>by simp only[cls,dR];rw[n7 hu U a i,n7 hu U b i]
 | .times a b,i=>by simp only[cls,dR];rw[n7 hu U a i,n7 hu U b i]
 | .rc a,i=>by simp only[cls,dR];rw[n7 hu U a (i+1)]
 | .zero,_=>rfl
 | .one,_=>rfl
 | .name _,_=>rfl
theorem yM:∀env:List Fr,∀u,u∈Aq env->kP u 0
 |[],u,h=>by cases h
 |
  f::r,u,h=>by
  rcases aI.1 h with rfl|h
  ·exact qJ (yM r) _ 0
  ·exact yM r u h
theorem EO{env:List Fr}(h:WF env):∀{u:Nat} {g:Fr},env[u]?=some g->(Aq env).getD u .zero=cls (Aq g.out) (Ac g.ex g.out) 0:=by
 induction h with
 |nil=>intro u g hg;simp at hg
 |
  cons hs hok hx ht hf hr ih =>
  intro u g hg
  cases u with
  |zero=>simp at hg;subst hg;rfl
  |
   succ u =>
   have:=ih (u:=u) (g:=g) (by simpa using hg)
   simpa[Aq]using this
theorem qx(n:Nat):∀(m:Nat) (v:Vl),v.nodes<=m->∀(e:E) (env:List Fr) (t:Ty),Ask e env t->eF n v (e,env)=vT n v (cls (Aq env) t 0)
 |0,v,hm=>by have:=cM v;omega
 |
  m+1,v,hm=>by
  intro e env t A
  have recCase:∀(x a b:E) (env:List Fr) (t1:Ty),Ask (.list [x,a,b]) env (.rc t1)->x.at=[114,101,99]->eF n v (.list [x,a,b],env)=vT n v (cls (Aq env) (.rc t1) 0):=by
   intro x a b env t1 A hx
   have hhd:hd (.list [x,a,b]) env=(.list [x,a,b],env):=qL A.wf
   obtain⟨t1',he1,h1,f1,hw1⟩:=jP A.wf A.ok hx A.ty A.cl
   cases he1
   obtain⟨ok1,ok2,ok3,_⟩:=A.ok
   have A':Ask b (.mk a.at (.list [x,a,b]) env::env) t1:=⟨ok3,hw1,h1,f1⟩
   cases v with
   |
    f w =>
    simp only[Vl.nodes]at hm
    simp only[eF,hhd,hx,beq_self_eq_true,cb]
    rw[qx n m w (by omega) b _ t1 A']
    have hty:Ac (.list [x,a,b]) env=.rc t1:=by unfold Ac;rw[A.ty];rfl
    show vT n w (cls (cls (Aq env) (Ac (.list [x,a,b]) env) 0::Aq env) t1 0)=vT n w (dR (.rc (cls (Aq env) t1 1)) (cls (Aq env) t1 1) 0)
    rw[hty,n7 (yM env)]
    rfl
   |_=>simp[eF,hhd,hx,cls,vT]
  rcases gP A.wf A.ty with⟨hb,hq⟩|⟨u,g,rfl,hq,hu⟩
  ·have hhd:hd e env=(e,env):=kV hq
   rcases fQ A.ty hb A.cl with⟨rfl,rfl⟩|⟨rfl,rfl⟩|⟨s,rfl,rfl,hp,h0,h1⟩|⟨x,a,b,t1,t2,rfl,hx,rfl,ha,hbb⟩|⟨x,a,b,t1,t2,rfl,hx,rfl,ha,hbb⟩|⟨x,a,b,t1,rfl,hx,rfl⟩
   ·have hp0:ib [48]=false:=rfl
    cases v<;>simp[eF,hhd,cls,vT,hp0]
   ·cases v<;>simp[eF,hhd,cls,vT]
   ·cases v<;>simp[eF,hhd,cls,vT,hp,h1]
   ·obtain⟨ok1,ok2,ok3,_⟩:=A.ok
    obtain⟨f1,f2⟩:=fI A.cl
    cases v with
    |
     l w =>
     simp only[Vl.nodes]at hm
     simp only[eF,hhd,hx,beq_self_eq_true,cb,cls,vT]
     exact qx n m w (by omega) a env t1 ⟨ok2,A.wf,ha,f1⟩
    |
     r w =>
     simp only[Vl.nodes]at hm
     simp only[eF,hhd,hx,beq_self_eq_true,cb,cls,vT]
     exact qx n m w (by omega) b env t2 ⟨ok3,A.wf,hbb,f2⟩
    |_=>simp[eF,hhd,hx,cls,vT]
   ·obtain⟨ok1,ok2,ok3,_⟩:=A.ok
    obtain⟨f1,f2⟩:=fj A.cl
    cases v with
    |
     p w w' =>
     simp only[Vl.nodes]at hm
     simp only[eF,hhd,hx,beq_self_eq_true,cb,cls,vT]
     rw[qx n m w (by omega) a env t1 ⟨ok2,A.wf,ha,f1⟩,qx n m w' (by omega) b env t2 ⟨ok3,A.wf,hbb,f2⟩]
    |_=>simp[eF,hhd,hx,cls,vT]
   ·exact recCase x a b env t1 A hx
  ·obtain⟨x,a,b,t',hfe,hok,hx,ht',hf',hwf,hlt⟩:=py A.wf hq
   have hrec:hd g.ex g.out=(g.ex,g.out):=by rw[hfe];exact qL hwf
   rw[vX n v (rZ hq) hrec]
   have hcl:cls (Aq env) (.bound u) 0=cls (Aq g.out) (Ac g.ex g.out) 0:=by
    simp only[cls];rw[if_neg (by omega),Nat.sub_zero];exact EO A.wf hu
   rw[hcl]
   have hty:Ac g.ex g.out=t':=by unfold Ac;rw[ht'];rfl
   rw[hty,hfe]
   rw[hfe]at ht'
   obtain⟨t1,_,_,rfl⟩:=dI hx ht'
   exact recCase x a b g.out t1 ⟨hok,hwf,ht',hf'⟩ hx
theorem mc{n:Nat}{v:Vl}{e:E}{t:Ty}(A:Ask e [] t):eF n v (e,[])=vT n v t:=by
 have:=qx n v.nodes v (au _) e [] t A
 rw[this]
 obtain⟨w,ht⟩:=kX e [] t A.ok (fun w hw=>by cases hw) A.ty
 have hl:=uV w []
 rw[ht]at hl
 exact congrArg (vT n v) (qu _ t hl)
def fB(σ:Nm->Option Ty):Ty->Ty
 | .name s=>(σ s).getD (.name s)
 | .plus a b=>.plus (fB σ a) (fB σ b)
 | .times a b=>.times (fB σ a) (fB σ b)
 | .rc a=>.rc (fB σ a)
 |t=>t
def jL(σ:Nm->Option Ty)(x:Nm)(u:Ty):Nm->Option Ty:=fun s=>if s=x then some u else σ s
theorem jB(σ:Nm->Option Ty)(x:Nm)(u:Ty):∀t:Ty,fB σ (sub x u t)=fB (jL σ x (fB σ u)) t
 |
  .name s=>by
  by_cases h:s=x
  ·simp[sub,fB,jL,h]
  ·simp[sub,fB,jL,h]
 | .plus a b=>by simp only[sub,fB,jB σ x u a,jB σ x u b]
 | .times a b=>by simp only[sub,fB,jB σ x u a,jB σ x u b]
 | .rc a=>by simp only[sub,fB,jB σ x u a]
 | .zero=>rfl
 | .one=>rfl
 | .bound k=>rfl
def FX(σ:Nm->Option Ty):Prop:=∀s u,σ s=some u->kP u 0
theorem lA{σ:Nm->Option Ty}(hσ:FX σ):∀(t:Ty) {i:Nat},kP t i->kP (fB σ t) i
 |
  .name s,i,_=>by
  simp only[fB]
  cases q:σ s with
  |none=>trivial
  |some u=>exact gW u (hσ s u q) (dM _)
 | .plus a b,i,h=>⟨lA hσ a h.1,lA hσ b h.2⟩
 | .times a b,i,h=>⟨lA hσ a h.1,lA hσ b h.2⟩
 | .rc a,i,h=>lA hσ a (i:=i+1) h
 | .zero,_,_=>trivial
 | .one,_,_=>trivial
 | .bound k,_,h=>h
theorem j0{σ:Nm->Option Ty}(hσ:FX σ)(x:Nm)(U:Ty):∀(t:Ty) (i:Nat),bz x t=false->fB (jL σ x U) (dR (.name x) t i)=dR U (fB σ t) i
 |
  .name s,i,h=>by
  have hs:s≠x:=by simpa[bz]using h
  simp only[dR,fB,jL,if_neg hs]
  cases q:σ s with
  |none=>rfl
  |some u=>exact(me U u (gW u (hσ s u q) (dM _))).symm
 |
  .bound k,i,h=>by
  simp only[dR,fB]
  split
  ·simp[fB,jL]
  ·rfl
 |
  .plus a b,i,h=>by
  simp only[bz,cF]at h
  simp only[dR,fB,j0 hσ x U a i h.1,j0 hσ x U b i h.2]
 |
  .times a b,i,h=>by
  simp only[bz,cF]at h
  simp only[dR,fB,j0 hσ x U a i h.1,j0 hσ x U b i h.2]
 | .rc a,i,h=>by simp only[dR,fB,j0 hσ x U a (i+1) h]
 | .zero,_,_=>rfl
 | .one,_,_=>rfl
theorem pq{σ:Nm->Option Ty}(hσ:FX σ)(x:Nm){u:Ty}(hu:kP u 0):FX (jL σ x u):=fun s v h=>by
 unfold jL at h
 split at h
 ·cases h;exact hu
 ·exact hσ s v h
theorem jx(x:Nm):∀(n:Nat) (c:Vl) (t:Ty) (i:Nat),c.nodes<=n->dD (dR (.name x) t i) c=dD t c
 |0,c,_,_,h=>by have:=cM c;omega
 |
  n+1,c,t,i,hn=>by
  cases t with
  |bound k=>simp only[dR];split<;>(cases c<;>rfl)
  |
   plus a b =>
   cases c with
   |l c=>simp only[Vl.nodes]at hn;exact jx x n c a i (by omega)
   |r c=>simp only[Vl.nodes]at hn;exact jx x n c b i (by omega)
   |_=>rfl
  |
   times a b =>
   cases c with
   |
    l c =>
    cases c with
    |p y z=>simp only[Vl.nodes]at hn;exact jx x n y a i (by omega)
    |_=>rfl
   |
    r c =>
    cases c with
    |p y z=>simp only[Vl.nodes]at hn;exact jx x n z b i (by omega)
    |_=>rfl
   |_=>rfl
  |
   rc a =>
   cases c with
   |
    f c =>
    cases c with
    |l y=>simp only[Vl.nodes]at hn;exact jx x n y a (i+1) (by omega)
    |
     r c =>
     cases c with
     |
      p y z =>
      simp only[Vl.nodes]at hn
      have h1:=jx x n y a (i+1) (by omega)
      have h2:=jx x n z (.rc a) i (by omega)
      show (dD (dR (.name x) a (i+1)) y&&dD (.rc (dR (.name x) a (i+1))) z)=(dD a y&&dD (.rc a) z)
      rw[h1]
      exact congrArg _ h2
     |_=>rfl
    |_=>rfl
   |_=>rfl
  |_=>rfl
end Go.Proofs.Trees
namespace Go.Proofs.Trees
open Go Go.VL Go.RowKit
theorem fF(x:Nm):∀(n:Nat) (c:Vl) (t:Ty) (i:Nat) (v:Vl),c.nodes<=n->cL (dR (.name x) t i) c v=cL t c v
 |0,c,_,_,_,h=>by have:=cM c;omega
 |
  n+1,c,t,i,v,hn=>by
  cases t with
  |bound k=>simp only[dR];split<;>(cases c<;>rfl)
  |
   plus a b =>
   cases c with
   |l c=>simp only[Vl.nodes]at hn;exact congrArg Vl.l (fF x n c a i v (by omega))
   |r c=>simp only[Vl.nodes]at hn;exact congrArg Vl.r (fF x n c b i v (by omega))
   |_=>rfl
  |
   times a b =>
   cases c with
   |
    l c =>
    cases c with
    |p y z=>simp only[Vl.nodes]at hn;exact congrArg (fun q=>Vl.p q z) (fF x n y a i v (by omega))
    |_=>rfl
   |
    r c =>
    cases c with
    |p y z=>simp only[Vl.nodes]at hn;exact congrArg (Vl.p y) (fF x n z b i v (by omega))
    |_=>rfl
   |_=>rfl
  |
   rc a =>
   cases c with
   |
    f c =>
    cases c with
    |l y=>simp only[Vl.nodes]at hn;exact congrArg Vl.f (fF x n y a (i+1) v (by omega))
    |
     r c =>
     cases c with
     |
      p y z =>
      simp only[Vl.nodes]at hn
      have h2:=fF x n z (.rc a) i v (by omega)
      have h1:=fF x n y a (i+1) (cL (.rc a) z v) (by omega)
      show Vl.f (cL (dR (.name x) a (i+1)) y (cL (.rc (dR (.name x) a (i+1))) z v))=Vl.f (cL a y (cL (.rc a) z v))
      have h3:cL (.rc (dR (.name x) a (i+1))) z v=cL (.rc a) z v:=h2
      rw[h3,h1]
     |_=>rfl
    |_=>rfl
   |_=>rfl
  |_=>rfl
theorem E1{n:Nat}{c:Vl}{a:Ty}(h:vT n c (.rc a)=true):∃w,c=.f w/\vT n w (dR (.rc a) a 0)=true:=by
 cases c with
 |f w=>exact⟨w,rfl,h⟩
 |_=>simp[vT]at h
theorem mj{n:Nat}{c:Vl}{a b:Ty}(h:vT n c (.plus a b)=true):(∃w,c=.l w/\vT n w a=true)\/∃w,c=.r w/\vT n w b=true:=by
 cases c with
 |l w=>exact .inl ⟨w,rfl,h⟩
 |r w=>exact .inr ⟨w,rfl,h⟩
 |_=>simp[vT]at h
theorem kt{n:Nat}{c:Vl}{a b:Ty}(h:vT n c (.times a b)=true):∃x y,c=.p x y/\vT n x a=true/\vT n y b=true:=by
 cases c with
 |p x y=>simp only[vT,aA]at h;exact⟨x,y,rfl,h.1,h.2⟩
 |_=>simp[vT]at h
theorem sW{σ:Nm->Option Ty}(hσ:FX σ){a c d:Ty}{x:Nm}(ha:kP (.rc a) 0)(hc:kP c 0)(hd:kP d 0):∃X,fB σ (qA a x c d)=.rc X/\dR (.rc X) X 0=.plus (fB (jL σ x (fB σ (.rc a))) c) (.times (fB (jL σ x (fB σ (.rc a))) d) (fB σ (qA a x c d))):=by
 refine⟨.plus (fB σ (sub x (.rc a) c)) (.times (fB σ (sub x (.rc a) d)) (.bound 0)),rfl,?_⟩
 have h1:=lA hσ (sub x (.rc a) c) (lr ha c hc)
 have h2:=lA hσ (sub x (.rc a) d) (lr ha d hd)
 simp only[dR,me _ _ h1,me _ _ h2,if_true]
 rw[jB,jB]
 simp only[qA,fB,jB]
theorem wz(n:Nat):∀(m:Nat) (c:Vl),c.nodes<=m->∀(t:Ty) (s:Nm) (d:Ty) (σ:Nm->Option Ty),Dv t s d->FX σ->kP t 0->vT n c (fB σ d)=true->dD t c=true
 |0,c,h=>by have:=cM c;omega
 |
  m+1,c,hm=>by
  intro t s d σ hd hσ hl hv
  cases hd with
  |zero=>cases c<;>rfl
  |one=>cases c<;>rfl
  |bound=>cases c<;>rfl
  |hit=>cases c<;>rfl
  |sX=>cases c<;>rfl
  |
   plus h1 h2 _ =>
   rcases mj hv with⟨w,rfl,hw⟩|⟨w,rfl,hw⟩
   ·simp only[Vl.nodes]at hm;exact wz n m w (by omega) _ s _ σ h1 hσ hl.1 hw
   ·simp only[Vl.nodes]at hm;exact wz n m w (by omega) _ s _ σ h2 hσ hl.2 hw
  |
   times h1 h2 _ =>
   rcases mj hv with⟨w,rfl,hw⟩|⟨w,rfl,hw⟩
   ·obtain⟨x,y,rfl,hx,hy⟩:=kt hw
    simp only[Vl.nodes]at hm;exact wz n m x (by omega) _ s _ σ h1 hσ hl.1 hx
   ·obtain⟨x,y,rfl,hx,hy⟩:=kt hw
    simp only[Vl.nodes]at hm;exact wz n m y (by omega) _ s _ σ h2 hσ hl.2 hy
  |
   @rc a _ c0 d0 x hx hs h1 h2 hsz =>
   have lo:kP (dR (.name x) a 0) 0:=jg x a hl
   obtain⟨X,e1,e2⟩:=sW (x:=x) hσ hl (h1.lc lo) (h2.lc lo)
   have hv':=hv
   rw[e1]at hv'
   obtain⟨w,rfl,hw⟩:=E1 hv'
   rw[e2]at hw
   have hcl:=pq hσ x (lA hσ (.rc a) hl)
   rcases mj hw with⟨y,rfl,hy⟩|⟨y,rfl,hy⟩
   ·simp only[Vl.nodes]at hm
    have:=wz n m y (by omega) _ s _ _ h1 hcl lo hy
    rw[jx x y.nodes y a 0 (au _)]at this
    exact this
   ·obtain⟨y,z,rfl,hy,hz⟩:=kt hy
    simp only[Vl.nodes]at hm
    have q1:=wz n m y (by omega) _ x _ _ h2 hcl lo hy
    rw[jx x y.nodes y a 0 (au _)]at q1
    have q2:=wz n m z (by omega) (.rc a) s _ σ (.rc x hx hs h1 h2 hsz) hσ hl hz
    show (dD a y&&dD (.rc a) z)=true
    rw[q1,q2];rfl
theorem qR(n:Nat):∀(m:Nat) (c:Vl),c.nodes<=m->∀(t:Ty) (s:Nm) (d:Ty) (σ:Nm->Option Ty),Dv t s d->FX σ->kP t 0->vT n c (fB σ d)=true->∀v,vT n v (fB σ (.name s))=true->vT n (cL t c v) (fB σ t)=true
 |0,c,h=>by have:=cM c;omega
 |
  m+1,c,hm=>by
  intro t s d σ hd hσ hl hv v hvv
  have no:∀c,vT n c .zero=false:=fun c=>by cases c<;>rfl
  cases hd with
  |zero=>rw[show fB σ .zero=.zero from rfl,no]at hv;cases hv
  |one=>rw[show fB σ .zero=.zero from rfl,no]at hv;cases hv
  |bound=>rw[show fB σ .zero=.zero from rfl,no]at hv;cases hv
  |sX=>rw[show fB σ .zero=.zero from rfl,no]at hv;cases hv
  |hit=>rw[l9];exact hvv
  |
   plus h1 h2 _ =>
   rcases mj hv with⟨w,rfl,hw⟩|⟨w,rfl,hw⟩
   ·simp only[Vl.nodes]at hm;exact qR n m w (by omega) _ s _ σ h1 hσ hl.1 hw v hvv
   ·simp only[Vl.nodes]at hm;exact qR n m w (by omega) _ s _ σ h2 hσ hl.2 hw v hvv
  |
   times h1 h2 _ =>
   rcases mj hv with⟨w,rfl,hw⟩|⟨w,rfl,hw⟩
   ·obtain⟨x,y,rfl,hx,hy⟩:=kt hw
    simp only[Vl.nodes]at hm
    have:=qR n m x (by omega) _ s _ σ h1 hσ hl.1 hx v hvv
    show (vT n _ _&&vT n _ _)=true
    rw[this,hy];rfl
   ·obtain⟨x,y,rfl,hx,hy⟩:=kt hw
    simp only[Vl.nodes]at hm
    have:=qR n m y (by omega) _ s _ σ h2 hσ hl.2 hy v hvv
    show (vT n _ _&&vT n _ _)=true
    rw[this,hx];rfl
  |
   @rc a _ c0 d0 x hx hs h1 h2 hsz =>
   have lo:kP (dR (.name x) a 0) 0:=jg x a hl
   obtain⟨X,e1,e2⟩:=sW (x:=x) hσ hl (h1.lc lo) (h2.lc lo)
   have hv':=hv
   rw[e1]at hv'
   obtain⟨w,rfl,hw⟩:=E1 hv'
   rw[e2]at hw
   have hcl:=pq hσ x (lA hσ (.rc a) hl)
   have hop:fB (jL σ x (fB σ (.rc a))) (dR (.name x) a 0)=dR (fB σ (.rc a)) (fB σ a) 0:=j0 hσ x _ a 0 hx
   have hns:fB (jL σ x (fB σ (.rc a))) (.name s)=fB σ (.name s):=by simp only[fB,jL,if_neg (Ne.symm hs)]
   have hnx:fB (jL σ x (fB σ (.rc a))) (.name x)=fB σ (.rc a):=by simp[fB,jL]
   rcases mj hw with⟨y,rfl,hy⟩|⟨y,rfl,hy⟩
   ·simp only[Vl.nodes]at hm
    have:=qR n m y (by omega) _ s _ _ h1 hcl lo hy v (by rw[hns];exact hvv)
    rw[hop,fF x y.nodes y a 0 v (au _)]at this
    exact this
   ·obtain⟨y,z,rfl,hy,hz⟩:=kt hy
    simp only[Vl.nodes]at hm
    have q2:=qR n m z (by omega) (.rc a) s _ σ (.rc x hx hs h1 h2 hsz) hσ hl hz v hvv
    have q1:=qR n m y (by omega) _ x _ _ h2 hcl lo hy (cL (.rc a) z v) (by rw[hnx];exact q2)
    rw[hop,fF x y.nodes y a 0 _ (au _)]at q1
    exact q1
def Hn:Nm->Option Ty:=fun _=>none
theorem vV:FX Hn:=fun _ _ h=>by cases h
theorem kD:∀t:Ty,fB Hn t=t
 | .name s=>rfl
 | .plus a b=>by simp only[fB,kD a,kD b]
 | .times a b=>by simp only[fB,kD a,kD b]
 | .rc a=>by simp only[fB,kD a]
 | .zero=>rfl
 | .one=>rfl
 | .bound k=>rfl
theorem He{n:Nat}{a D:Ty}{x:Nm}(hx:bz x a=false)(hl:kP (.rc a) 0)(h:ql a x=some D){c:Vl}(hc:vT n c D=true) :
 dD a c=true/\∀v,vT n v (.rc a)=true->vT n (.f (cL a c v)) (.rc a)=true:=by
 simp only[ql,bc,db,fA]at h
 obtain⟨d,hd,_,rfl⟩:=h
 have lo:kP (dR (.name x) a 0) 0:=jg x a hl
 have hcl:=pq vV x hl
 have e1:sub x (.rc a) d=fB (jL Hn x (.rc a)) d:=by
  have:=jB Hn x (.rc a) d
  rw[kD,kD]at this;exact this
 rw[e1]at hc
 have h1:=wz n c.nodes c (au _) _ x _ _ hd hcl lo hc
 rw[jx x c.nodes c a 0 (au _)]at h1
 refine⟨h1,fun v hv=>?_⟩
 have h2:=qR n c.nodes c (au _) _ x _ _ hd hcl lo hc v (by simpa[fB,jL]using hv)
 rw[fF x c.nodes c a 0 v (au _),j0 vV x _ a 0 hx,kD]at h2
 exact h2
end Go.Proofs.Trees
namespace Go.Proofs.Trees
open Go Go.VL Go.RowKit
theorem JS{b:UInt8}(h:iI b=true):fq b=true:=by
 simp only[iI,fq,decide_eq_true_eq]at h |-;omega
theorem Ef{y:Nm}(h:M6 y):y≠[]/\y.all fq=true:=by
 have key:∀lo hi,97<=lo->hi<=122->named lo hi y=true->y≠[]/\y.all fq=true:=fun lo hi h1 h2 h=>by
  cases y with
  |nil=>cases h
  |
   cons c r =>
   simp only[named,aA,decide_eq_true_eq]at h
   refine⟨by simp,?_⟩
   rw[di,aA]
   refine⟨?_,?_⟩
   ·simp only[fq,decide_eq_true_eq];omega
   ·rw[cd]
    intro b hb
    exact JS (cd.1 h.2 b hb)
 rcases h with h|h
 ·exact key 120 122 (by omega) (by omega) h
 ·exact key 116 116 (by omega) (by omega) h
theorem Cf(m:Nat):(tN m).all fq=true:=by
 rw[di,yh (m+1) m (by omega)];rfl
theorem qp(F:List Nm):∀(t:Ty) (to:List Nm) (k:Nat),(∀y,bz y t=true->y≠[]/\y.all fq=true)->(∀w,w∈to->w≠[]/\w.all fq=true)->kP t to.length->(iG F t to k).1.pr
 | .zero,_,_,_,_,_=>⟨by simp,by decide⟩
 | .one,_,_,_,_,_=>⟨by simp,by decide⟩
 | .name s,_,_,hn,_,_=>hn s (by simp[bz])
 |
  .bound u,to,_,_,ht,hl=>by
  have:to.length-1-u<to.length:=by have:u<to.length:=hl;omega
  show (E.atom (gH to u)).pr
  unfold gH
  rw[aa,a7 this]
  exact ht _ (bh this)
 | .plus a b,to,k,hn,ht,hl=>⟨by simp,⟨by simp,by decide⟩,qp F a to k (fun y hy=>hn y (by simp[bz,hy])) ht hl.1,qp F b to _ (fun y hy=>hn y (by simp[bz,hy])) ht hl.2,trivial⟩
 | .times a b,to,k,hn,ht,hl=>⟨by simp,⟨by simp,by decide⟩,qp F a to k (fun y hy=>hn y (by simp[bz,hy])) ht hl.1,qp F b to _ (fun y hy=>hn y (by simp[bz,hy])) ht hl.2,trivial⟩
 |
  .rc a,to,k,hn,ht,hl=>by
  refine⟨by simp,⟨by simp,by decide⟩,⟨by simp,Cf _⟩,qp F a (to++[tN (nx F k)]) _ hn (fun w hw=>?_) (by rw[an];exact hl),trivial⟩
  rcases aP.1 hw with hw|hw
  ·exact ht w hw
  ·simp only[aU]at hw;rw[hw];exact⟨by simp,Cf _⟩
theorem BG{D:Ty}{dt:Nm}(g:gk D)(hn:∀y,bz y D=true->M6 y)(h:told D=some dt):rR dt=some D:=by
 unfold told at h
 split at h
 ·rename_i hh
  cases h
  obtain⟨t,ht⟩:=a8.1 hh.2
  obtain⟨e,he,hw,hte,_,_⟩:=qo ht
  obtain⟨h1,_,_⟩:=qO he
  obtain⟨hx,hpr,_⟩:=yW h1
  obtain⟨w1,w2,_⟩:=lu (bS D []) D [] 0 (.nil _ _) g.1 fun y hy=>⟨(fe D [] y).2 (.inr hy),g.2 y hy⟩
  have hp:=qp (bS D []) D [] 0 (fun y hy=>Ef (hn y hy)) (fun w hw=>by cases hw) g.1
  have:=B7 hp hpr hx
  rw[ht,<-hte,<-this,w2]
 ·cases h
theorem ud{a d:Ty}{x:Nm}(h:ql a x=some d):∀y,bz y d=true->bz y a=true:=by
 simp only[ql,bc,db,fA]at h
 obtain⟨d',h1,_,rfl⟩:=h
 intro y hy
 rcases jv _ hy with h|⟨h,h'⟩
 ·exact h
 ·rcases gX a 0 (h1.names y h')with e|e
  ·exact absurd e h
  ·exact e
structure ZT(s d:Nm)(a:Ty)(x A B:E)(D:Ty):Prop where
 l:gy s=some a
 ce:j7 s=some (.list [x,A,B])
 ask:Ask (.list [x,A,B]) [] (.rc a)
 hx:x.at=[114,101,99]
 body:Ask B [.mk A.at (.list [x,A,B]) []] a
 dl:cP s=some d
 y:rR s=some (.rc a)
 lp:ql a mR=some D
 bk:rR d=some D
theorem Av{s:Nm}{t:Ty}(h:xF s=some t):rR s=some t:=by
 unfold xF at h
 split at h
 ·cases h
 ·rename_i u hu
  split at h
  ·cases h;exact hu
  ·cases h
theorem ZT.of{s d:Nm}{a:Ty}(hl:gy s=some a)(hd:cP s=some d):∃x A B D,ZT s d a x A B D:=by
 have hc:=uR hl
 cases hce:j7 s with
 |none=>rw[nY hce]at hc;cases hc
 |
  some e =>
  obtain⟨t,h1,hA,_⟩:=ir hce
  rw[hc]at h1;cases h1
  obtain⟨x,A,B,rfl,hx,hA',hB⟩:=ua hA
  have hy:=Av hc
  have hd':=hd
  unfold cP at hd'
  rw[hy]at hd'
  obtain⟨D,h2,h3⟩:=bc.1 hd'
  obtain⟨e2,he2,hw2,hte2,_,_⟩:=qo hy
  have hg:=s8 hw2 hte2 (x:=mR) ⟨by simp,by simp,by simp⟩ h2
  exact⟨x,A,B,D,hl,hce,hA,hx,hB,hd,hy,h2,BG hg.1 (fun y hy'=>nS hy y (ud h2 y hy')) h3⟩
structure Cx(a:Ty)(w:Vl):Prop where
 ok:dD a w=true
 ty:∀v,vT 100 v (.rc a)=true->vT 100 (.f (cL a w v)) (.rc a)=true
 fu:w.fu 100
 nd:w.nodes<=200
structure Fo(a:Ty)(v:Vl):Prop where
 ty:vT 100 v (.rc a)=true
 fu:v.fu 100
 nd:v.nodes<=200
theorem ZT.ctx{s d:Nm}{a:Ty}{x A B:E}{D:Ty}(z:ZT s d a x A B D){c:Nm}{w:Vl}(h:mZ d c 100=some w):Cx a w:=by
 obtain⟨e,t,m,h1,h2,h3,h4,h5,h6,h7⟩:=s5 h
 have hm:m=100:=by omega
 subst hm
 have:=Av h3
 rw[z.bk]at this;cases this
 rw[mc h4]at h7
 obtain⟨e2,he2,hw2,hte2,_,_⟩:=qo z.y
 have hlc:kP (.rc a) 0:=hte2 ▸ hw2.sn.1
 obtain⟨q1,q2⟩:=He (yf z.y) hlc z.lp h7
 exact⟨q1,q2,(mL h2).2.1,(mL h2).2.2⟩
theorem ZT.rY{s d:Nm}{a:Ty}{x A B:E}{D:Ty}(z:ZT s d a x A B D){f:Nm}{v:Vl}(h:gM s f=some v):Fo a v/\f=v.cf:=by
 obtain⟨a',x',A',B',L⟩:=fW h
 have:=L.l
 rw[z.l]at this;cases this
 exact⟨⟨by rw[<-mc L.ask];exact L.eF,L.fu,L.nodes⟩,n0 L.v⟩
theorem Fo.eF{s d:Nm}{a:Ty}{x A B:E}{D:Ty}(z:ZT s d a x A B D){v:Vl}(h:Fo a v):eF 100 v (.list [x,A,B],[])=true:=by rw[mc z.ask];exact h.ty
theorem ZT.cf{s d:Nm}{a:Ty}{x A B:E}{D:Ty}(z:ZT s d a x A B D){w:Vl}(hb:w.fu 100)(hv:vT 100 w (.rc a)=true):mZ s w.cf 100=if w.nodes<=200 then some w else none:=by
 unfold mZ
 rw[z.ce]
 by_cases hn:w.nodes<=200
 ·rw[rL hb hn,if_pos hn]
  simp only
  rw[if_pos ⟨by omega,by rw[show (100:Int).toNat=100 from rfl,mc z.ask];exact hv⟩]
 ·rw[if_neg hn]
  cases q:rp w.cf with
  |none=>rfl
  |
   some w' =>
   exfalso
   obtain⟨_,h2,h3⟩:=mL q
   have:=n6 hb h2 (n0 q)
   rw[this]at hn;exact hn h3
theorem ZT.lv{s d:Nm}{a:Ty}{x A B:E}{D:Ty}(z:ZT s d a x A B D)(f:Nm):gM s f=mZ s f 100:=by
 unfold gM;rw[z.l]
def eS(d:Nm):List Nm->Option (List Vl)
 |[]=>some []
 |
  c::r=>match mZ d c 100,eS d r with
  |some w,some l=>some (w::l)
  |_,_=>none
theorem sk{s d:Nm}{a:Ty}{x A B:E}{D:Ty}(z:ZT s d a x A B D):∀(p:List Nm) (l:List Vl),eS d p=some l->p=l.map (·.cf)/\∀c,c∈l->Cx a c
 |[],l,h=>by cases h;exact⟨rfl,fun c hc=>by cases hc⟩
 |
  c::r,l,h=>by
  simp only[eS]at h
  split at h
  ·rename_i w l' h1 h2
   cases h
   obtain⟨q1,q2⟩:=sk z r l' h2
   obtain⟨_,_,_,_,hv,_⟩:=s5 h1
   refine⟨by rw[bA,<-q1,<-n0 hv],fun c' hc'=>?_⟩
   rcases aI.1 hc' with rfl|hc'
   ·exact z.ctx h1
   ·exact q2 c' hc'
  ·cases h
theorem uI(d:Nm):∀(p q:List Nm),eS d (p++q)=(eS d p).bind fun l=>(eS d q).map (l++·)
 |[],q=>by cases h:eS d q<;>simp[eS,h]
 |
  c::p,q=>by
  simp only[bj,eS,uI d p q]
  cases mZ d c 100 with
  |none=>rfl
  |
   some w =>
   cases eS d p with
   |none=>rfl
   |some l=>cases eS d q<;>rfl
noncomputable def tA (s:Nm) (p:List Nm) (f:Nm):Option (List Vl×Vl):=match gM s f,cP s with
 |some v,some d=>if p.length<=50 then(eS d p).map fun l=>(l,v)else none
 |_,_=>none
def zA(s:Nm):Ty:=(gy s).getD .zero
def vF(a:Ty)(l:List Vl)(v:Vl):Option (List Vl×Vl):=match l.getLast? with
 |none=>none
 |some c=>if(Vl.f (cL a c v)).nodes<=200 then some (l.dropLast,.f (cL a c v))else none
def j3:Nat->Ty->List Vl->Vl->Option Vl
 |0,_,_,v=>some v
 |n+1,a,l,v=>(vF a l v).bind fun r=>j3 n a r.1 r.2
def rb(a:Ty)(l:List Vl)(v:Vl):Option Vl:=j3 l.length a l v
noncomputable def ia (s:Nm) (p:List Nm) (f:Nm):Option (List Vl×Vl):=(tA s p f).bind fun r=>if(rb (zA s) r.1 r.2).isSome=true then some r else none
structure ZI(a:Ty)(l:List Vl)(v:Vl):Prop where
 ctx:∀c,c∈l->Cx a c
 rY:Fo a v
theorem vL{a:Ty}{l l':List Vl}{v w:Vl}(h:ZI a l v)(hu:vF a l v=some (l',w)):ZI a l' w/\l'.length+1=l.length/\∃c,l=l'++[c]/\w=.f (cL a c v):=by
 unfold vF at hu
 cases q:l.getLast? with
 |none=>rw[q]at hu;cases hu
 |
  some c =>
  rw[q]at hu
  simp only at hu
  split at hu
  ·rename_i hn
   cases hu
   have hne:l≠[]:=by rintro rfl;cases q
   have hl:l.dropLast++[c]=l:=by
    have:=List.dropLast_concat_getLast hne
    rw[List.getLast?_eq_some_getLast hne]at q
    cases q;exact this
   have hc:c∈l:=by rw[<-hl];simp
   have hC:=h.ctx c hc
   refine⟨⟨fun c' hc'=>h.ctx c' (by rw[<-hl];exact aD _ hc'),hC.ty v h.rY.ty,ns 100 a c v hC.fu h.rY.fu,hn⟩,?_,c,hl.symm,rfl⟩
   have:=congrArg List.length hl
   simpa using this
  ·cases hu
end Go.Proofs.Trees
namespace Go.Proofs.Trees
open Go Go.VL Go.RowKit
theorem xG(w:World)(k:Nat)(os:Array Obj):Below w.heap.size w (Go.«Sort».grow (w.drewN k) os):=by
 refine⟨rfl,rfl,rfl,?_,fun b hb=>?_⟩
 ·simp[Go.«Sort».grow,World.drewN]
 ·simp only[Go.«Sort».grow,World.drewN]
  rw[Array.getElem?_append_left hb]
theorem HZ(k:Nat)(hk:k<1000000000):aq Tryz.prog 120 [.v (.int .i64 (k:Int))] [] (bN (.v (.string (mk (dd k))))):=by
 refine aq.Sy (xs:=[.int .i64 (k:Int)]) ⟨rE,by kernel_rfl,by kernel_rfl,by kernel_rfl⟩ fun w ht=>?_
 have:=Any.strconv_Itoa Tryz.DG (k:Int) (by omega) (by omega) w ht
 refine Calls.mono this fun e w' ⟨h1,n,os,h2⟩=>⟨?_,?_⟩
 ·rw[h1,Lib.itoa_nonneg];rfl
 ·rw[h2];exact xG w n os
abbrev hN(k:Nat):Nm:=35::dd k
theorem uU{j k:Nat}(h:hN j=hN k):j=k:=xM (j+1) j k (by omega) (List.cons.inj h).2
theorem yK(u:Ty):∀(t:Ty) (i:Nat),i+t.atoms<1000000->aq Tryz.prog 79 [t.av,u.av,.v (.int .i64 (i:Int))] [] (bN (dR u t i).av)
 |
  .zero,i,_=>by
  refine JF _ _ _ ((aE _).mpr trivial) ((aE _).mpr trivial) ?_
  simp[Gg,Ty.av,dR,↓zq,zs,af,bN]
 |
  .one,i,_=>by
  refine JF _ _ _ ((aE _).mpr trivial) ((aE _).mpr trivial) ?_
  simp[Gg,Ty.av,dR,↓zq,zs,af,bN]
 |
  .name s,i,_=>by
  refine JF _ _ _ ((aE _).mpr trivial) ((aE _).mpr trivial) ?_
  simp[Gg,Ty.av,dR,↓zq,zs,af,bN]
 |
  .bound k,i,_=>by
  refine JF _ _ _ ((aE _).mpr trivial) ((aE _).mpr trivial) ?_
  simp only[Gg,Ty.av,dR,↓zq,zs,af,bN]
  refine⟨by omega,fun _=>⟨by omega,fun h=>?_,fun h=>?_⟩,fun h=>absurd rfl h⟩
  ·rw[if_pos (by omega)]
  ·rw[if_neg (by omega)];rfl
 |
  .plus a b,i,hl=>by
  simp only[Ty.atoms]at hl
  refine JF _ _ _ ((aE _).mpr trivial) ((aE _).mpr trivial) ?_
  simp only[Gg,Ty.av,dR,↓zq,zs,af,aE]
  refine⟨by omega,fun h=>by omega,fun _=>⟨fun _=>?_,fun h=>absurd rfl h⟩⟩
  repeat refine⟨by omega,?_⟩
  refine aj (yK u a i (by omega)) ?_
  simp only[↓zq,zs,af,aE]
  repeat refine⟨by omega,?_⟩
  refine aj (yK u b i (by omega)) ?_
  simp only[↓zq,zs,af,aE]
  exact⟨rfl,rfl⟩
 |
  .times a b,i,hl=>by
  simp only[Ty.atoms]at hl
  refine JF _ _ _ ((aE _).mpr trivial) ((aE _).mpr trivial) ?_
  simp only[Gg,Ty.av,dR,↓zq,zs,af,aE]
  refine⟨by omega,fun h=>by omega,fun _=>⟨fun h=>by omega,fun _=>⟨fun _=>?_,fun h=>absurd rfl h⟩⟩⟩
  repeat refine⟨by omega,?_⟩
  refine aj (yK u a i (by omega)) ?_
  simp only[↓zq,zs,af,aE]
  repeat refine⟨by omega,?_⟩
  refine aj (yK u b i (by omega)) ?_
  simp only[↓zq,zs,af,aE]
  exact⟨rfl,rfl⟩
 |
  .rc a,i,hl=>by
  simp only[Ty.atoms]at hl
  refine JF _ _ _ ((aE _).mpr trivial) ((aE _).mpr trivial) ?_
  simp only[Gg,Ty.av,dR,↓zq,zs,af,aE]
  refine⟨by omega,fun h=>by omega,fun _=>⟨fun h=>by omega,fun _=>⟨fun h=>by omega,fun _=>⟨fun _=>?_,fun h=>absurd rfl h⟩⟩⟩⟩
  repeat refine⟨by omega,?_⟩
  rw[bB i (by omega)]
  refine aj (yK u a (i+1) (by omega)) ?_
  simp only[↓zq,zs,af,aE]
  exact⟨rfl,rfl⟩
theorem Cm(x:Nm)(u:Ty):∀(t:Ty),aq Tryz.prog 80 [t.av,.v (.string (mk x)),u.av] [] (bN (sub x u t).av)
 |
  .zero=>by
  refine Km _ _ _ ((aE _).mpr trivial) ((aE _).mpr trivial) ?_
  simp[Gv,Ty.av,sub,↓zq,zs,af,bN]
 |
  .one=>by
  refine Km _ _ _ ((aE _).mpr trivial) ((aE _).mpr trivial) ?_
  simp[Gv,Ty.av,sub,↓zq,zs,af,bN]
 |
  .bound k=>by
  refine Km _ _ _ ((aE _).mpr trivial) ((aE _).mpr trivial) ?_
  simp[Gv,Ty.av,sub,↓zq,zs,af,bN]
 |
  .name s=>by
  refine Km _ _ _ ((aE _).mpr trivial) ((aE _).mpr trivial) ?_
  simp only[Gv,Ty.av,sub,↓zq,zs,af,zt,bN]
  refine⟨by omega,fun _=>⟨by omega,fun h=>?_,fun h=>?_⟩,fun h=>absurd rfl h⟩
  ·rw[if_pos h]
  ·rw[if_neg h];rfl
 |
  .plus a b=>by
  refine Km _ _ _ ((aE _).mpr trivial) ((aE _).mpr trivial) ?_
  simp only[Gv,Ty.av,sub,↓zq,zs,af,aE]
  refine⟨by omega,fun h=>by omega,fun _=>⟨fun _=>?_,fun h=>absurd rfl h⟩⟩
  repeat refine⟨by omega,?_⟩
  refine aj (Cm x u a) ?_
  simp only[↓zq,zs,af,aE]
  repeat refine⟨by omega,?_⟩
  refine aj (Cm x u b) ?_
  simp only[↓zq,zs,af,aE]
  exact⟨rfl,rfl⟩
 |
  .times a b=>by
  refine Km _ _ _ ((aE _).mpr trivial) ((aE _).mpr trivial) ?_
  simp only[Gv,Ty.av,sub,↓zq,zs,af,aE]
  refine⟨by omega,fun h=>by omega,fun _=>⟨fun h=>by omega,fun _=>⟨fun _=>?_,fun h=>absurd rfl h⟩⟩⟩
  repeat refine⟨by omega,?_⟩
  refine aj (Cm x u a) ?_
  simp only[↓zq,zs,af,aE]
  repeat refine⟨by omega,?_⟩
  refine aj (Cm x u b) ?_
  simp only[↓zq,zs,af,aE]
  exact⟨rfl,rfl⟩
 |
  .rc a=>by
  refine Km _ _ _ ((aE _).mpr trivial) ((aE _).mpr trivial) ?_
  simp only[Gv,Ty.av,sub,↓zq,zs,af,aE]
  refine⟨by omega,fun h=>by omega,fun _=>⟨fun h=>by omega,fun _=>⟨fun h=>by omega,fun _=>⟨fun _=>?_,fun h=>absurd rfl h⟩⟩⟩⟩
  repeat refine⟨by omega,?_⟩
  refine aj (Cm x u a) ?_
  simp only[↓zq,zs,af,aE]
  exact⟨rfl,rfl⟩
theorem Ad(c:Int)(a b:Ty):aq Tryz.prog 121 [.v (.int .u8 c),a.av,b.av] [] (bN (.ptr [.v (.int .u8 c),.v (.string (mk [])),.v (.int .i64 0),a.av,b.av])):=by
 refine RR _ _ _ ((aE _).mpr trivial) ((aE _).mpr trivial) ?_
 simp[Pd,↓zq,zs,af,bN]
abbrev Fe(f:Nat)(g:Bool):Ob:=.cells [.v (.int .i64 (f:Int)),.v (.bool g)]
theorem LL(f:Nat)(g:Bool)(hf:f<100000000):aq Tryz.prog 76 [.ref 0 0] [Fe f g] (dh (.v (.string (mk (hN (f+1))))) [Fe (f+1) g]):=by
 refine T9 _ _ ?_
 simp only[QT,↓zq,zs,af,zt]
 rw[bB f (by omega)]
 refine aj (HZ (f+1) (by omega)) ?_
 have hd:=pL 8 (f+1) (by omega)
 simp only[↓zq,zs,af,zt,bj,aR]
 exact⟨by simp[cS];omega,rfl,rfl⟩
def v8(g:Bool)(t:Ty):Ty:=if g=true\/400<t.atoms then .zero else t
def BH(g:Bool)(t:Ty):Bool:=g||decide (400<t.atoms)
theorem zN(t:Ty):v8 true t=.zero:=by simp[v8]
theorem xr(t:Ty):BH true t=true:=rfl
theorem xg{t:Ty}(h:t.atoms<=400):v8 false t=t:=by simp[v8,show ¬400<t.atoms by omega]
theorem wL{t:Ty}(h:t.atoms<=400):BH false t=false:=by simp[BH,show ¬400<t.atoms by omega]
theorem GL{t:Ty}(h:¬t.atoms<=400):BH false t=true:=by simp[BH,show 400<t.atoms by omega]
theorem Gw{t:Ty}(h:¬t.atoms<=400):v8 false t=.zero:=by simp[v8,show 400<t.atoms by omega]
theorem wi(f:Nat)(g:Bool)(t:Ty)(hl:t.atoms<1000000):aq Tryz.prog 77 [.ref 0 0,t.av] [Fe f g] (dh (v8 g t).av [Fe f (BH g t)]):=by
 refine SE _ _ _ ((aE _).mpr trivial) ?_
 simp only[Mx,↓zq,zs,af,zt]
 cases g with
 |true=>exact⟨fun _=>⟨rfl,rfl⟩,fun h=>(by cases h)⟩
 |
  false =>
  refine⟨fun h=>(by cases h),fun _=>?_⟩
  refine aj (GH t hl) ?_
  simp only[↓zq,zs,af,zt]
  refine⟨fun h=>?_,fun h=>?_⟩
  ·have h:400<t.atoms:=by omega
   simp[v8,BH,h,dh,Ty.av]
  ·have h:¬400<t.atoms:=by omega
   simp[v8,BH,h,dh]
theorem I7(t:Ty)(s:Nm)(f:Nat):aq Tryz.prog 78 [.ref 0 0,t.av,.v (.string (mk s))] [Fe f true] (dh Ty.zero.av [Fe f true]):=by
 refine Qb _ _ _ _ ((aE _).mpr trivial) ?_
 simp only[Ei,↓zq,zs,af]
 exact⟨fun _=>⟨rfl,rfl⟩,fun h=>(by cases h)⟩
def Ea(f:Nat)(t:Ty):Prop:=∀j,f<j->bz (hN j) t=false
def ri(o:Option Ty)(t:Ty):Nat:=match o with|some d=>d.atoms|none=>1000*t.atoms
def CA(o:Option Ty)(f B:Nat):AV->List Ob->Prop:=fun r ob=>∃f':Nat,f<=f'/\f'<=f+B/\r=(o.getD .zero).av/\ob=[Fe f' o.isNone]
theorem CA.ne(o:Option Ty)(f B:Nat):∃r ob,CA o f B r ob:=⟨_,_,f,au _,dj _ _,rfl,rfl⟩
theorem tj{f f':Nat}{t:Ty}(h:Ea f t)(hf:f<=f'):Ea f' t:=fun j hj=>h j (by omega)
theorem yF:∀(n:Nat) (t:Ty),t.atoms<=n->t.atoms<=400->∀(s:Nm) (f:Nat),Ea f t->(∀j,f<j->s≠hN j)->f+1000*t.atoms<50000000->aq Tryz.prog 78 [.ref 0 0,t.av,.v (.string (mk s))] [Fe f false] (CA (ml t s) f (ri (ml t s) t))
 |0,t,h=>by have:=ez t;omega
 |
  n+1,t,hn=>by
  intro h4 s f hf hs hb
  refine Qb _ _ _ _ ((aE _).mpr trivial) ?_
  have fin0:∀u:Ty,ml t s=some u->CA (ml t s) f (ri (ml t s) t) u.av [Fe f false]:=fun u hu=>by
   rw[hu];exact⟨f,au _,dj _ _,rfl,rfl⟩
  cases t with
  |
   zero =>
   have:=fin0 .zero (wQ s)
   simpa[Ei,Ty.av,↓zq,zs,af]using this
  |
   one =>
   have:=fin0 .zero (yZ s)
   simpa[Ei,Ty.av,↓zq,zs,af]using this
  |
   bound k =>
   have:=fin0 .zero (Bi k s)
   simpa[Ei,Ty.av,↓zq,zs,af]using this
  |
   name c =>
   simp only[Ei,Ty.av,↓zq,zs,af,zt]
   refine⟨fun h=>(by cases h),fun _=>⟨by omega,fun _=>⟨by omega,fun h=>?_,fun h=>?_⟩,fun h=>absurd rfl h⟩⟩
   ·exact fin0 .one (by rw[px,if_pos h])
   ·exact fin0 .zero (by rw[px,if_neg h])
  |
   plus a b =>
   simp only[Ty.atoms]at hn h4 hb
   have pa:=ez a
   have pb:=ez b
   have fa:Ea f a:=fun j hj=>by have:=hf j hj;simp only[bz,cF]at this;exact this.1
   have fb:Ea f b:=fun j hj=>by have:=hf j hj;simp only[bz,cF]at this;exact this.2
   simp only[Ei,Ty.av,↓zq,zs,af,zt,aE]
   refine⟨fun h=>(by cases h),fun _=>⟨by omega,fun h=>by omega,fun _=>⟨fun _=>?_,fun h=>absurd rfl h⟩⟩⟩
   repeat refine⟨by omega,?_⟩
   rw[xl]
   refine aQ (yF n a (by omega) (by omega) s f fa hs (by omega)) (CA.ne _ _ _) ?_
   rintro r ob ⟨f1,g1,g2,rfl,rfl⟩
   simp only[↓zq,zs,af,zt,aH,aE]
   repeat refine⟨by omega,?_⟩
   cases q1:ml a s with
   |
    none =>
    rw[q1]at g2
    simp only[ri]at g2
    simp only[Option.isNone_none,Option.getD_none,bC]
    refine aX (I7 b s f1) ?_
    simp only[↓zq,zs,af,zt,aH,aE]
    repeat refine⟨by omega,?_⟩
    refine aj (Ad 43 _ _) ?_
    simp only[↓zq,zs,af,zt,cm]
    refine aX (wi f1 true (.plus .zero .zero) (by simp[Ty.atoms])) ?_
    simp only[↓zq,zs,af,zt,aH,aE]
    exact⟨f1,g1,by simp only[ri,Ty.atoms];omega,rfl,rfl⟩
   |
    some a' =>
    rw[q1]at g2
    simp only[ri]at g2
    have la:=(db.1 q1).small
    simp only[Option.isNone_some,cH,aS]
    refine aQ (yF n b (by omega) (by omega) s f1 (tj fb g1) (fun j hj=>hs j (by omega)) (by omega)) (CA.ne _ _ _) ?_
    rintro r ob ⟨f2,k1,k2,rfl,rfl⟩
    simp only[↓zq,zs,af,zt,aH,aE]
    repeat refine⟨by omega,?_⟩
    refine aj (Ad 43 _ _) ?_
    simp only[↓zq,zs,af,zt,cm]
    cases q2:ml b s with
    |
     none =>
     rw[q2]at k2
     simp only[ri]at k2
     simp only[Option.isNone_none,Option.getD_none,bC]
     refine aX (wi f2 true (.plus a' .zero) (by simp[Ty.atoms];omega)) ?_
     simp only[↓zq,zs,af,zt,aH,aE]
     exact⟨f2,by omega,by simp only[ri,Ty.atoms];omega,rfl,rfl⟩
    |
     some b' =>
     rw[q2]at k2
     simp only[ri]at k2
     have lb:=(db.1 q2).small
     simp only[Option.isNone_some,cH,aS]
     refine aX (wi f2 false (.plus a' b') (by simp only[Ty.atoms];omega)) ?_
     simp only[↓zq,zs,af,zt,aH,aE]
     unfold ou
     by_cases hle:(Ty.plus a' b').atoms<=400
     ·rw[if_pos hle]
      refine⟨f2,by omega,by simp only[ri,Ty.atoms];omega,?_,?_⟩
      ·simp[v8,show ¬400<(Ty.plus a' b').atoms by omega]
      ·simp[BH,show ¬400<(Ty.plus a' b').atoms by omega]
     ·rw[if_neg hle]
      refine⟨f2,by omega,by simp only[ri,Ty.atoms];omega,?_,?_⟩
      ·simp[v8,show 400<(Ty.plus a' b').atoms by omega]
      ·simp[BH,show 400<(Ty.plus a' b').atoms by omega]
  |
   times a b =>
   simp only[Ty.atoms]at hn h4 hb
   have pa:=ez a
   have pb:=ez b
   have fa:Ea f a:=fun j hj=>by have:=hf j hj;simp only[bz,cF]at this;exact this.1
   have fb:Ea f b:=fun j hj=>by have:=hf j hj;simp only[bz,cF]at this;exact this.2
   simp only[Ei,Ty.av,↓zq,zs,af,zt,aE]
   refine⟨fun h=>(by cases h),fun _=>⟨by omega,fun h=>by omega,fun _=>⟨fun h=>by omega,fun _=>⟨fun _=>?_,fun h=>absurd rfl h⟩⟩⟩⟩
   repeat refine⟨by omega,?_⟩
   rw[ur]
   refine aQ (yF n a (by omega) (by omega) s f fa hs (by omega)) (CA.ne _ _ _) ?_
   rintro r ob ⟨f1,g1,g2,rfl,rfl⟩
   simp only[↓zq,zs,af,zt,aH,aE]
   repeat refine⟨by omega,?_⟩
   refine aj (Ad 42 _ _) ?_
   simp only[↓zq,zs,af,zt,cm]
   repeat refine⟨by omega,?_⟩
   cases q1:ml a s with
   |
    none =>
    rw[q1]at g2
    simp only[ri]at g2
    simp only[Option.isNone_none,Option.getD_none,bC]
    refine aX (I7 b s f1) ?_
    simp only[↓zq,zs,af,zt,aH,aE]
    repeat refine⟨by omega,?_⟩
    refine aj (Ad 42 _ _) ?_
    simp only[↓zq,zs,af,zt,cm]
    refine aj (Ad 43 (.times .zero b) (.times a .zero)) ?_
    simp only[↓zq,zs,af,zt,cm]
    refine aX (wi f1 true (.plus (.times .zero b) (.times a .zero)) (by simp only[Ty.atoms];omega)) ?_
    simp only[↓zq,zs,af,zt,aH,aE]
    exact⟨f1,g1,by simp only[ri,Ty.atoms];omega,rfl,rfl⟩
   |
    some a' =>
    rw[q1]at g2
    simp only[ri]at g2
    have la:=(db.1 q1).small
    simp only[Option.isNone_some,cH,aS]
    refine aQ (yF n b (by omega) (by omega) s f1 (tj fb g1) (fun j hj=>hs j (by omega)) (by omega)) (CA.ne _ _ _) ?_
    rintro r ob ⟨f2,k1,k2,rfl,rfl⟩
    simp only[↓zq,zs,af,zt,aH,aE]
    repeat refine⟨by omega,?_⟩
    refine aj (Ad 42 _ _) ?_
    simp only[↓zq,zs,af,zt,cm]
    cases q2:ml b s with
    |
     none =>
     rw[q2]at k2
     simp only[ri]at k2
     simp only[Option.isNone_none,Option.getD_none,bC]
     refine aj (Ad 43 (.times a' b) (.times a .zero)) ?_
     simp only[↓zq,zs,af,zt,cm]
     refine aX (wi f2 true (.plus (.times a' b) (.times a .zero)) (by simp only[Ty.atoms];omega)) ?_
     simp only[↓zq,zs,af,zt,aH,aE]
     exact⟨f2,by omega,by simp only[ri,Ty.atoms];omega,rfl,rfl⟩
    |
     some b' =>
     rw[q2]at k2
     simp only[ri]at k2
     have lb:=(db.1 q2).small
     simp only[Option.isNone_some,cH,aS]
     refine aj (Ad 43 (.times a' b) (.times a b')) ?_
     simp only[↓zq,zs,af,zt,cm]
     refine aX (wi f2 false (.plus (.times a' b) (.times a b')) (by simp only[Ty.atoms];omega)) ?_
     simp only[↓zq,zs,af,zt,aH,aE]
     unfold ou
     by_cases hle:(Ty.plus (.times a' b) (.times a b')).atoms<=400
     ·rw[if_pos hle]
      refine⟨f2,by omega,by simp only[ri,Ty.atoms];omega,?_,?_⟩
      ·simp[v8,show ¬400<(Ty.plus (.times a' b) (.times a b')).atoms by omega]
      ·simp[BH,show ¬400<(Ty.plus (.times a' b) (.times a b')).atoms by omega]
     ·rw[if_neg hle]
      refine⟨f2,by omega,by simp only[ri,Ty.atoms];omega,?_,?_⟩
      ·simp[v8,show 400<(Ty.plus (.times a' b) (.times a b')).atoms by omega]
      ·simp[BH,show 400<(Ty.plus (.times a' b) (.times a b')).atoms by omega]
  |
   rc a =>
   simp only[Ty.atoms]at hn h4 hb
   have pa:=ez a
   have fa:Ea f a:=fun j hj=>hf j hj
   have hxa:bz (hN (f+1)) a=false:=fa _ (by omega)
   have hxs:hN (f+1)≠s:=fun e=>hs _ (by omega) e.symm
   have fo:Ea (f+1) (dR (.name (hN (f+1))) a 0):=fun j hj=>by
    cases q:bz (hN j) (dR (.name (hN (f+1))) a 0)with
    |false=>rfl
    |
     true =>
     rcases gX a 0 q with e|e
     ·have:=uU e;omega
     ·rw[fa j (by omega)]at e;cases e
   have hoa:(dR (.name (hN (f+1))) a 0).atoms=a.atoms:=fV _ _ _
   have hop:=yK (.name (hN (f+1))) a 0 (by omega)
   rw[DZ hxa hxs]
   simp only[Ei,Ty.av,↓zq,zs,af,zt,aE]
   refine⟨fun h=>(by cases h),fun _=>⟨by omega,fun h=>by omega,fun _=>⟨fun h=>by omega,fun _=>⟨fun h=>by omega,fun _=>⟨fun _=>?_,fun h=>absurd rfl h⟩⟩⟩⟩⟩
   refine aX (LL f false (by omega)) ?_
   simp only[↓zq,zs,af,zt,aH,aE]
   repeat refine⟨by omega,?_⟩
   simp only[Ty.av]at hop
   refine aj hop ?_
   simp only[↓zq,zs,af,zt,aH,aE]
   refine aQ (yF n (dR (.name (hN (f+1))) a 0) (by omega) (by omega) s (f+1) fo (fun j hj=>hs j (by omega)) (by omega)) (CA.ne _ _ _) ?_
   rintro r ob ⟨f1,g1,g2,rfl,rfl⟩
   simp only[↓zq,zs,af,zt,aH,aE]
   generalize hx:hN (f+1)=x at *
   generalize hin:dR (.name x) a 0=i at *
   have hrc:(Ty.rc a).av=.ptr [.v (.int .u8 114),.v (.string (mk [])),.v (.int .i64 0),a.av,.v (.pointer none)]:=rfl
   cases q1:ml i s with
   |
    none =>
    rw[q1]at g2
    simp only[ri]at g2
    simp only[Option.isNone_none,Option.getD_none,bC]
    refine aX (wi f1 true .zero (by simp[Ty.atoms])) ?_
    simp only[↓zq,zs,af,zt,aH,aE]
    rw[<-hrc]
    refine aj (Cm x (.rc a) _) ?_
    simp only[↓zq,zs,af,zt,aE]
    refine aX (I7 i x f1) ?_
    simp only[↓zq,zs,af,zt,aH,aE]
    refine aX (wi f1 true .zero (by simp[Ty.atoms])) ?_
    simp only[↓zq,zs,af,zt,aH,aE]
    refine aj (Cm x (.rc a) _) ?_
    simp only[↓zq,zs,af,zt,aE]
    refine aj (Ad 42 _ (.bound 0)) ?_
    simp only[↓zq,zs,af,zt,cm]
    refine aj (Ad 43 (sub x (.rc a) (v8 true .zero)) (.times (sub x (.rc a) (v8 true .zero)) (.bound 0))) ?_
    simp only[↓zq,zs,af,zt,cm,xr]
    have hz:sub x (.rc a) (v8 true .zero)=.zero:=by rw[zN];rfl
    refine aX (wi f1 true (.rc (.plus (sub x (.rc a) (v8 true .zero)) (.times (sub x (.rc a) (v8 true .zero)) (.bound 0)))) (by rw[hz];simp only[Ty.atoms];omega)) ?_
    simp only[↓zq,zs,af,zt,aH,aE]
    rw[zN,xr]
    exact⟨f1,by omega,by simp only[ri,Ty.atoms];omega,rfl,rfl⟩
   |
    some c =>
    rw[q1]at g2
    simp only[ri]at g2
    have lc:=(db.1 q1).small
    simp only[Option.isNone_some,cH,aS]
    refine aX (wi f1 false c (by omega)) ?_
    simp only[↓zq,zs,af,zt,aH,aE]
    rw[xg lc,wL lc,<-hrc]
    refine aj (Cm x (.rc a) c) ?_
    simp only[↓zq,zs,af,zt,aE]
    refine aQ (yF n i (by omega) (by omega) x f1 (tj fo g1) (fun j hj=>by rw[<-hx];exact fun e=>by have:=uU e;omega) (by omega)) (CA.ne _ _ _) ?_
    rintro r ob ⟨f2,k1,k2,rfl,rfl⟩
    simp only[↓zq,zs,af,zt,aH,aE]
    have hsc:(sub x (.rc a) c).atoms+fJ x c=c.atoms+fJ x c*(Ty.rc a).atoms:=ek x (.rc a) c
    have hcc:∀t:Ty,fJ x t<=t.atoms:=fun t=>by
     have h1:=ek x .zero t
     have h2:=iu x .zero t
     simp only[Ty.atoms,dO]at h1
     have h3:∀t:Ty,fJ x t<=t.atoms:=by
      intro t
      induction t with
      |name s=>simp only[fJ,Ty.atoms];split<;>omega
      |plus a b i1 i2=>simp only[fJ,Ty.atoms];omega
      |times a b i1 i2=>simp only[fJ,Ty.atoms];omega
      |rc a i=>simp only[fJ,Ty.atoms];omega
      |_=>simp[fJ,Ty.atoms]
     exact h3 t
    have hbig:∀t:Ty,t.atoms<=400->(sub x (.rc a) t).atoms<=400+400*402:=fun t ht=>by
     have h1:=ek x (.rc a) t
     have h2:=hcc t
     have h3:fJ x t*(Ty.rc a).atoms<=400*402:=Nat.mul_le_mul (by omega) (by simp only[Ty.atoms];omega)
     omega
    have b1:=hbig c lc
    cases q2:ml i x with
    |
     none =>
     rw[q2]at k2
     simp only[ri]at k2
     simp only[Option.isNone_none,Option.getD_none,bC]
     refine aX (wi f2 true .zero (by simp[Ty.atoms])) ?_
     simp only[↓zq,zs,af,zt,aH,aE]
     rw[zN,xr]
     refine aj (Cm x (.rc a) .zero) ?_
     simp only[↓zq,zs,af,zt,aE]
     refine aj (Ad 42 _ (.bound 0)) ?_
     simp only[↓zq,zs,af,zt,cm]
     refine aj (Ad 43 (sub x (.rc a) c) (.times (sub x (.rc a) .zero) (.bound 0))) ?_
     simp only[↓zq,zs,af,zt,cm]
     refine aX (wi f2 true (.rc (.plus (sub x (.rc a) c) (.times (sub x (.rc a) .zero) (.bound 0)))) (by simp only[sub,Ty.atoms];omega)) ?_
     simp only[↓zq,zs,af,zt,aH,aE]
     rw[zN,xr]
     exact⟨f2,by omega,by simp only[ri,Ty.atoms];omega,rfl,rfl⟩
    |
     some d =>
     rw[q2]at k2
     simp only[ri]at k2
     have ld:=(db.1 q2).small
     have b2:=hbig d ld
     simp only[Option.isNone_some,cH,aS]
     refine aX (wi f2 false d (by omega)) ?_
     simp only[↓zq,zs,af,zt,aH,aE]
     rw[xg ld,wL ld]
     refine aj (Cm x (.rc a) d) ?_
     simp only[↓zq,zs,af,zt,aE]
     refine aj (Ad 42 _ (.bound 0)) ?_
     simp only[↓zq,zs,af,zt,cm]
     refine aj (Ad 43 (sub x (.rc a) c) (.times (sub x (.rc a) d) (.bound 0))) ?_
     simp only[↓zq,zs,af,zt,cm]
     have hdrc:qA a x c d=.rc (.plus (sub x (.rc a) c) (.times (sub x (.rc a) d) (.bound 0))):=rfl
     refine aX (wi f2 false (qA a x c d) (by rw[hdrc];simp only[Ty.atoms];omega)) ?_
     simp only[↓zq,zs,af,zt,aH,aE]
     have s1:=iu x (.rc a) c
     have s2:=iu x (.rc a) d
     unfold ou
     by_cases hle:(qA a x c d).atoms<=400
     ·rw[if_pos hle,xg hle,wL hle]
      exact⟨f2,by omega,by simp only[ri,hdrc,Ty.atoms];omega,rfl,rfl⟩
     ·rw[if_neg hle,Gw hle,GL hle]
      exact⟨f2,by omega,by simp only[ri,Ty.atoms];omega,rfl,rfl⟩
def Q9(o:Option Ty):AV->List Ob->Prop:=fun r ob=>ob=[]/\∃p,LK.ptr.has p/\r=.cv [p,.v (.bool o.isSome)]/\∀d,o=some d->p=d.av
theorem Q9.ne(o:Option Ty):∃r ob,Q9 o r ob:=by
 cases o with
 |none=>exact⟨_,_,rfl,iW,(gU).mpr trivial,rfl,fun d h=>by cases h⟩
 |some d=>exact⟨_,_,rfl,d.av,(aE _).mpr trivial,rfl,fun d' h=>by cases h;rfl⟩
theorem Iy:hN 1=mR:=by show (35::dd 1:Nm)=_;rw[eX (by omega)];rfl
theorem Sl(a:Ty)(h4:a.atoms+2<=400)(hf:∀j,bz (hN j) a=false):aq Tryz.prog 39 [(Ty.rc a).av] [] (Q9 (ql a mR)):=by
 have hxa:bz (hN 1) a=false:=hf 1
 have fo:Ea 1 (dR (.name (hN 1)) a 0):=fun j hj=>by
  cases q:bz (hN j) (dR (.name (hN 1)) a 0)with
  |false=>rfl
  |
   true =>
   rcases gX a 0 q with e|e
   ·have:=uU e;omega
   ·rw[hf j]at e;cases e
 have hoa:(dR (.name (hN 1)) a 0).atoms=a.atoms:=fV _ _ _
 have hop:=yK (.name (hN 1)) a 0 (by omega)
 rw[<-Iy]
 have hrc:(Ty.rc a).av=.ptr [.v (.int .u8 114),.v (.string (mk [])),.v (.int .i64 0),a.av,.v (.pointer none)]:=rfl
 refine Uc _ ((aE _).mpr trivial) ?_
 unfold OW
 refine aX (LL 0 false (by omega)) ?_
 simp only[Ty.av,↓zq,zs,af,zt,aH,aE]
 repeat refine⟨by omega,?_⟩
 simp only[Ty.av]at hop
 refine aj hop ?_
 simp only[↓zq,zs,af,zt,aH,aE]
 refine aQ (yF 400 (dR (.name (hN 1)) a 0) (by omega) (by omega) (hN 1) 1 fo (fun j hj e=>by have:=uU e;omega) (by omega)) (CA.ne _ _ _) ?_
 rintro r ob ⟨f1,g1,g2,rfl,rfl⟩
 simp only[↓zq,zs,af,zt,aH,aE]
 unfold ql
 cases q1:ml (dR (.name (hN 1)) a 0) (hN 1)with
 |
  none =>
  simp only[Option.isNone_none,Option.getD_none,bC]
  refine aX (wi f1 true .zero (by simp[Ty.atoms])) ?_
  simp only[↓zq,zs,af,zt,aH,aE,xr]
  exact⟨fun _=>⟨rfl,iW,(gU).mpr trivial,rfl,fun d h=>(by cases h)⟩,fun h=>(by cases h)⟩
 |
  some d =>
  have ld:=(db.1 q1).small
  simp only[Option.isNone_some,cH,aS]
  refine aX (wi f1 false d (by omega)) ?_
  simp only[↓zq,zs,af,zt,aH,aE]
  rw[xg ld,wL ld]
  refine⟨fun h=>(by cases h),fun _=>?_⟩
  rw[<-hrc]
  refine aj (Cm (hN 1) (.rc a) d) ?_
  simp only[↓zq,zs,af,zt,aE]
  have h1:=ek (hN 1) (.rc a) d
  have hcn:fJ (hN 1) d<=d.atoms:=by
   have h3:∀t:Ty,fJ (hN 1) t<=t.atoms:=by
    intro t
    induction t with
    |name s=>simp only[fJ,Ty.atoms];split<;>omega
    |plus a b i1 i2=>simp only[fJ,Ty.atoms];omega
    |times a b i1 i2=>simp only[fJ,Ty.atoms];omega
    |rc a i=>simp only[fJ,Ty.atoms];omega
    |_=>simp[fJ,Ty.atoms]
   exact h3 d
  have h3:fJ (hN 1) d*(Ty.rc a).atoms<=400*402:=Nat.mul_le_mul (by omega) (by simp only[Ty.atoms];omega)
  refine aX (wi f1 false (sub (hN 1) (.rc a) d) (by omega)) ?_
  simp only[↓zq,zs,af,zt,aH,aE]
  unfold ou
  by_cases hle:(sub (hN 1) (.rc a) d).atoms<=400
  ·rw[if_pos hle,xg hle,wL hle]
   exact⟨rfl,_,(aE _).mpr trivial,rfl,fun d' h=>by cases h;rfl⟩
  ·rw[if_neg hle,Gw hle,GL hle]
   exact⟨rfl,_,(aE _).mpr trivial,rfl,fun d' h=>(by cases h)⟩
end Go.Proofs.Trees
namespace Go.Proofs.Trees
open Go Go.VL Go.RowKit
theorem sH(h:Nm)(a b:E):(fh (.list [.atom h,a,b])).length=h.length+(fh a).length+(fh b).length+4:=by
 simp only[fh,ew,aw,an,aF];omega
theorem jC(F:List Nm)(hF:F.length<=10000):∀(t:Ty) (to:List Nm) (k:Nat),vY t->(∀w,w∈to->w.length<=20)->k+(F.length+1)*t.atoms<90000000->(fh (iG F t to k).1).length<=50*t.atoms
 | .zero,_,_,_,_,_=>by simp[iG,fh,Ty.atoms]
 | .one,_,_,_,_,_=>by simp[iG,fh,Ty.atoms]
 | .name s,_,_,hn,_,_=>by have:=hn s (by simp[bz]);simp only[iG,fh,Ty.atoms];omega
 |
  .bound u,to,_,_,ht,_=>by
  show (gH to u).length<=50*1
  unfold gH
  by_cases h:to.length-1-u<to.length
  ·rw[aa,a7 h];have:=ht _ (bh h);simp only[cH];omega
  ·rw[aa,List.getElem?_eq_none (by omega)];simp
 |
  .plus a b,to,k,hn,ht,hk=>by
  have h1:=iX F a to k
  have:(F.length+1)*(1+a.atoms+b.atoms)=(F.length+1)+(F.length+1)*a.atoms+(F.length+1)*b.atoms:=by simp only[cZ,dO]
  simp only[Ty.atoms]at hk
  have i1:=jC F hF a to k (fun y hy=>hn y (by simp[bz,hy])) ht (by omega)
  have i2:=jC F hF b to _ (fun y hy=>hn y (by simp[bz,hy])) ht (show (iG F a to k).2+_<_ by omega)
  simp only[iG,sH,Ty.atoms,aw,aF];omega
 |
  .times a b,to,k,hn,ht,hk=>by
  have h1:=iX F a to k
  have:(F.length+1)*(1+a.atoms+b.atoms)=(F.length+1)+(F.length+1)*a.atoms+(F.length+1)*b.atoms:=by simp only[cZ,dO]
  simp only[Ty.atoms]at hk
  have i1:=jC F hF a to k (fun y hy=>hn y (by simp[bz,hy])) ht (by omega)
  have i2:=jC F hF b to _ (fun y hy=>hn y (by simp[bz,hy])) ht (show (iG F a to k).2+_<_ by omega)
  simp only[iG,sH,Ty.atoms,aw,aF];omega
 |
  .rc a,to,k,hn,ht,hk=>by
  obtain⟨g1,g2,_,_⟩:=gV F k
  have:(F.length+1)*(2+a.atoms)=(F.length+1)*2+(F.length+1)*a.atoms:=by simp only[cZ]
  simp only[Ty.atoms]at hk
  have hl:=yJ (k:=nx F k) (by omega)
  have i1:=jC F hF a (to++[tN (nx F k)]) (nx F k+1) hn (fun w hw=>by
   rcases aP.1 hw with hw|hw
   ·exact ht w hw
   ·simp only[aU]at hw;rw[hw];exact hl) (by omega)
  simp only[iG,sH,Ty.atoms,aw,aF]
  simp only[fh]
  simp only[aw]at hl |-
  omega
theorem Ns(x0 a fv:AV)(F:List Nm)(h0:LK.ptr.has x0)(ha:LK.sl.has a)(hfv:cQ fv F)(hF:F.length<100000):∀(n j:Nat),rn F n j<j+n->j+n<100000000 ->
 E0 [x0,a,.v (.string (mk (tN j)))] [.cells [fv],.cells [.v (.int .i64 ((j+1:Nat):Int))]] (gK 1 [x0,a,.v (.string (mk (tN (rn F n j))))] [.cells [fv],.cells [.v (.int .i64 ((rn F n j+1:Nat):Int))]])
 |0,j,h,_=>by simp only[rn]at h;omega
 |
  n+1,j,h,hj=>by
  refine OE _ _ _ _ _ ?_
  simp only[Hp,↓zq,zs,af,zt,af,hfv.1,h0,ha]
  refine⟨fun h=>(by simp at h),fun _=>?_⟩
  refine aj (Lf F fv hfv (tN j) (by omega)) ?_
  simp only[↓zq,zs,af,zt]
  rw[rn]at h |-
  refine⟨fun hm=>?_,fun hm=>?_⟩
  ·rw[if_pos hm]at h |-
   refine aj (HZ (j+1) (by omega)) ?_
   have hd:=pL 8 (j+1) (by omega)
   simp only[↓zq,zs,af,zt,bj,aR]
   rw[bB (j+1) (by omega)]
   exact⟨by simp[cS];omega,Ns x0 a fv F h0 ha hfv hF n (j+1) (by omega) (by omega)⟩
  ·rw[if_neg hm]
   exact⟨rfl,rfl,rfl⟩
theorem UF(x0 a fv:AV)(F:List Nm)(h0:LK.ptr.has x0)(ha:LK.sl.has a)(hfv:cQ fv F)(hF:F.length<10000)(k:Nat)(hk:k<90000000) :
 E0 [x0,a,.v (.string (mk []))] [.cells [fv],.cells [.v (.int .i64 (k:Int))]] (gK 1 [x0,a,.v (.string (mk (tN (nx F k))))] [.cells [fv],.cells [.v (.int .i64 ((nx F k+1:Nat):Int))]]):=by
 obtain⟨g1,g2,_,_⟩:=gV F k
 refine OE _ _ _ _ _ ?_
 simp only[Hp,↓zq,zs,af,zt,af,hfv.1,h0,ha]
 refine⟨fun _=>?_,fun h=>(by simp at h)⟩
 refine aj (HZ k (by omega)) ?_
 have hd:=pL 8 k (by omega)
 simp only[↓zq,zs,af,zt,bj,aR]
 rw[bB k (by omega)]
 exact⟨by simp[cS];omega,Ns x0 a fv F h0 ha hfv (by omega) (F.length+1) k (by show nx F k<_;omega) (by omega)⟩
theorem Bv(F:List Nm)(fv:AV)(hfv:cQ fv F)(hF:F.length<=1000):∀(t:Ty) (to:List Nm) (a:AV) (k:Nat),cQ a to->to.length+t.atoms<10000->kP t to.length->vY t->(∀w,w∈to->w.length<=20)->k+(F.length+1)*t.atoms<80000000 ->
 aq Tryz.prog 123 [t.av,a,.hG 123 [none,some 0,some 1],.ref 0 0,.ref 1 0] [.cells [fv],.cells [.v (.int .i64 (k:Int))]] (dh (.v (.string (mk (fh (iG F t to k).1)))) [.cells [fv],.cells [.v (.int .i64 ((iG F t to k).2:Int))]])
 |
  .zero,to,a,k,ha,hl,hlc,hs,ht,hk=>by
  refine yx _ _ _ _ ((aE _).mpr trivial) ha.1 hfv.1 ?_
  simp only[GG,Ty.av,↓zq,zs,af,zt,aE]
  refine⟨by omega,fun h=>by omega,fun _=>⟨fun h=>by omega,fun _=>⟨fun h=>by omega,fun _=>⟨fun h=>by omega,fun _=>⟨fun h=>by omega,fun _=>?_⟩⟩⟩⟩⟩
  repeat refine⟨by omega,?_⟩
  exact⟨⟨rfl,(mb _ _).mpr trivial,trivial⟩,rfl,rfl⟩
 |
  .one,to,a,k,ha,hl,hlc,hs,ht,hk=>by
  refine yx _ _ _ _ ((aE _).mpr trivial) ha.1 hfv.1 ?_
  simp only[GG,Ty.av,↓zq,zs,af,zt,aE]
  refine⟨by omega,fun h=>by omega,fun _=>⟨fun h=>by omega,fun _=>⟨fun h=>by omega,fun _=>⟨fun h=>by omega,fun _=>⟨fun h=>by omega,fun _=>?_⟩⟩⟩⟩⟩
  repeat refine⟨by omega,?_⟩
  exact⟨⟨rfl,(mb _ _).mpr trivial,trivial⟩,rfl,rfl⟩
 |
  .name s,to,a,k,ha,hl,hlc,hs,ht,hk=>by
  refine yx _ _ _ _ ((aE _).mpr trivial) ha.1 hfv.1 ?_
  simp[GG,Ty.av,↓zq,zs,af,dh,iG,fh]
 |
  .bound u,to,a,k,ha,hl,hlc,hs,ht,hk=>by
  have hu:u<to.length:=hlc
  refine yx _ _ _ _ ((aE _).mpr trivial) ha.1 hfv.1 ?_
  simp only[GG,Ty.av,↓zq,zs,af,zt,ha.len]
  rw[wrap64 ((to.length:Int)-1) (by omega) (by omega),wrap64 _ (by omega) (by omega)]
  have e1:(to.length:Int)-1-(u:Int)=((to.length-1-u:Nat):Int):=by omega
  rw[e1]
  simp only[bF,ha.idx (show to.length-1-u<to.length by omega),↓zq,zs,af,zt]
  refine⟨by omega,fun h=>by omega,fun _=>⟨fun _=>⟨ha.1,by omega,⟨ha.1,by omega,by omega⟩,by omega,rfl,rfl⟩,fun h=>absurd rfl h⟩⟩
 |
  .plus x y,to,a,k,ha,hl,hlc,hs,ht,hk=>by
  simp only[Ty.atoms]at hl hk
  have h1:=iX F x to k
  have hm:(F.length+1)*(1+x.atoms+y.atoms)=(F.length+1)+(F.length+1)*x.atoms+(F.length+1)*y.atoms:=by simp only[cZ,dO]
  have sx:vY x:=fun z hz=>hs z (by simp[bz,hz])
  have sy:vY y:=fun z hz=>hs z (by simp[bz,hz])
  have t1:=jC F (by omega) x to k sx ht (by omega)
  have t2:=jC F (by omega) y to (iG F x to k).2 sy ht (by omega)
  have hb:(⟨(bytesOf [[.v (.int .u8 43)]]).toArray⟩:ByteArray)=mk [43]:=rfl
  have h8:jX [[AV.v (.int .u8 43)]]:=⟨rfl,(mb _ _).mpr trivial,trivial⟩
  refine yx _ _ _ _ ((aE _).mpr trivial) ha.1 hfv.1 ?_
  simp only[GG,Ty.av,↓zq,zs,af,zt,aE,hb]
  refine⟨by omega,fun h=>by omega,fun _=>⟨fun h=>by omega,fun _=>⟨fun _=>?_,fun h=>absurd rfl h⟩⟩⟩
  repeat refine⟨by omega,?_⟩
  refine aX (Bv F fv hfv hF x to a k ha (by omega) hlc.1 sx ht (by omega)) ?_
  simp only[↓zq,zs,af,zt,aH,hfv.1,hb,bj,aR]
  repeat (first|refine⟨by omega,?_⟩|refine⟨h8,?_⟩|refine⟨by simp[cS];omega,?_⟩)
  refine aX (Bv F fv hfv hF y to a _ ha (by omega) hlc.2 sy ht (by omega)) ?_
  simp only[↓zq,zs,af,zt,aH,hfv.1,hb,bj,aR]
  repeat (first|refine⟨by omega,?_⟩|refine⟨h8,?_⟩|refine⟨by simp[cS];omega,?_⟩)
  refine⟨?_,rfl⟩
  simp[iG,fh,ew]
 |
  .times x y,to,a,k,ha,hl,hlc,hs,ht,hk=>by
  simp only[Ty.atoms]at hl hk
  have h1:=iX F x to k
  have hm:(F.length+1)*(1+x.atoms+y.atoms)=(F.length+1)+(F.length+1)*x.atoms+(F.length+1)*y.atoms:=by simp only[cZ,dO]
  have sx:vY x:=fun z hz=>hs z (by simp[bz,hz])
  have sy:vY y:=fun z hz=>hs z (by simp[bz,hz])
  have t1:=jC F (by omega) x to k sx ht (by omega)
  have t2:=jC F (by omega) y to (iG F x to k).2 sy ht (by omega)
  have hb:(⟨(bytesOf [[.v (.int .u8 42)]]).toArray⟩:ByteArray)=mk [42]:=rfl
  have h8:jX [[AV.v (.int .u8 42)]]:=⟨rfl,(mb _ _).mpr trivial,trivial⟩
  refine yx _ _ _ _ ((aE _).mpr trivial) ha.1 hfv.1 ?_
  simp only[GG,Ty.av,↓zq,zs,af,zt,aE,hb]
  refine⟨by omega,fun h=>by omega,fun _=>⟨fun h=>by omega,fun _=>⟨fun h=>by omega,fun _=>⟨fun _=>?_,fun h=>absurd rfl h⟩⟩⟩⟩
  repeat refine⟨by omega,?_⟩
  refine aX (Bv F fv hfv hF x to a k ha (by omega) hlc.1 sx ht (by omega)) ?_
  simp only[↓zq,zs,af,zt,aH,hfv.1,hb,bj,aR]
  repeat (first|refine⟨by omega,?_⟩|refine⟨h8,?_⟩|refine⟨by simp[cS];omega,?_⟩)
  refine aX (Bv F fv hfv hF y to a _ ha (by omega) hlc.2 sy ht (by omega)) ?_
  simp only[↓zq,zs,af,zt,aH,hfv.1,hb,bj,aR]
  repeat (first|refine⟨by omega,?_⟩|refine⟨h8,?_⟩|refine⟨by simp[cS];omega,?_⟩)
  refine⟨?_,rfl⟩
  simp[iG,fh,ew]
 |
  .rc x,to,a,k,ha,hl,hlc,hs,ht,hk=>by
  simp only[Ty.atoms]at hl hk
  obtain⟨g1,g2,_,_⟩:=gV F k
  have hm:(F.length+1)*(2+x.atoms)=(F.length+1)*2+(F.length+1)*x.atoms:=by simp only[cZ]
  have hln:=yJ (k:=nx F k) (by omega)
  have ht':∀w,w∈to++[tN (nx F k)]->w.length<=20:=fun w hw=>by
   rcases aP.1 hw with hw|hw
   ·exact ht w hw
   ·simp only[aU]at hw;rw[hw];exact hln
  have t1:=jC F (by omega) x (to++[tN (nx F k)]) (nx F k+1) hs ht' (by omega)
  have hrc:(Ty.rc x).av=.ptr [.v (.int .u8 114),.v (.string (mk [])),.v (.int .i64 0),x.av,.v (.pointer none)]:=rfl
  refine yx _ _ _ _ ((aE _).mpr trivial) ha.1 hfv.1 ?_
  simp only[GG,Ty.av,↓zq,zs,af,zt,aE]
  refine⟨by omega,fun h=>by omega,fun _=>⟨fun h=>by omega,fun _=>⟨fun h=>by omega,fun _=>⟨fun h=>by omega,fun _=>⟨fun _=>?_,fun h=>absurd rfl h⟩⟩⟩⟩⟩
  rw[<-hrc]
  repeat refine⟨by omega,?_⟩
  refine cA (UF (Ty.rc x).av a fv F ((aE _).mpr trivial) ha.1 hfv (by omega) k (by omega)) ?_
  simp only[Ty.av,↓zq,zs,af,zt,af,aH,hfv.1,ha.1,aE,ha.2,GF,aR,kT,lg]
  have hl2:(dd (nx F k)).length+1<=20:=hln
  have hl3:(tN (nx F k)).length=(dd (nx F k)).length+1:=rfl
  refine⟨by omega,by simp only[an,aw,aF,hl3];omega,by omega,by omega,⟨fun c hc=>by simp at hc;rw[hc];rfl,by omega⟩,?_⟩
  refine aX (Bv F fv hfv hF x (to++[tN (nx F k)]) _ (nx F k+1) (.of _) (by simp;omega) (by rw[an];exact hlc) hs ht' (by omega)) ?_
  simp only[↓zq,zs,af,zt,aH,hfv.1]
  repeat refine⟨by omega,?_⟩
  refine⟨by simp only[an,aw,aF,hl3];omega,by simp only[an,aw,aF,hl3];omega,?_,rfl⟩
  simp[iG,fh,ew]
theorem Rp(t:Ty)(g:gk t)(hs:vY t)(h4:t.atoms<=400):aq Tryz.prog 81 [t.av] [] (bN (.v (.string (mk (GA t))))):=by
 refine UN _ ((aE _).mpr trivial) ?_
 unfold Nq
 have hn:=eJ t []
 simp only[aF,ba]at hn
 have hm:((bS t []).length+1)*t.atoms<=401*400:=Nat.mul_le_mul (by omega) h4
 refine aj (QL t (by omega)) ?_
 simp only[↓zq,zs,af,zt,cc]
 refine aX (Bv (bS t []) _ (.of _) (by omega) t [] zd 0 .nil (by simp;omega) g.1 hs (fun w hw=>by cases hw) (by omega)) ?_
 simp only[↓zq,zs,af,zt,aH,cc]
 exact⟨rfl,rfl⟩
theorem SJ(t:Ty)(g:gk t)(hs:vY t)(hl:t.atoms<1000000):aq Tryz.prog 40 [t.av] [] (bN (rI (told t))):=by
 refine RS _ ((aE _).mpr trivial) ?_
 unfold Ql
 refine aj (GH t hl) ?_
 simp only[↓zq,zs,af,zt]
 refine⟨fun h=>?_,fun h=>?_⟩
 ·have:told t=none:=by unfold told;rw[if_neg fun h'=>by have:=h'.1;omega]
  rw[this];exact⟨rfl,rfl⟩
 ·have h4:t.atoms<=400:=by omega
  refine aj (Rp t g hs h4) ?_
  simp only[↓zq,zs,af,zt]
  refine aj (I5 (GA t)) ?_
  simp only[↓zq,zs,af,zt,iL]
  unfold told
  cases q:rR (GA t)with
  |
   none =>
   simp only[iJ,↓zq,zs,af]
   rw[if_neg (by simp)]
   exact⟨fun _=>⟨rfl,rfl⟩,fun h=>(by cases h)⟩
  |
   some u =>
   simp only[iJ,↓zq,zs,af,fX]
   rw[if_pos ⟨h4,rfl⟩]
   exact⟨fun h=>(by cases h),fun _=>⟨rfl,rfl⟩⟩
theorem Uf(s:Nm):aq Tryz.prog 15 [.v (.string (mk s))] [] (bN (rI (cP s))):=by
 refine Um _ ?_
 unfold OV
 refine aj (I5 s) ?_
 simp only[↓zq,zs,af,zt,iL]
 cases q:rR s with
 |
  none =>
  have:cP s=none:=by unfold cP;rw[q]
  rw[this]
  simp only[iJ,↓zq,zs,af]
  exact⟨fun _=>⟨rfl,rfl⟩,fun h=>(by cases h)⟩
 |
  some t =>
  simp only[iJ,↓zq,zs,af,fX]
  have notRec:(∀a,t≠.rc a)->cP s=none:=fun hn=>by
   unfold cP;rw[q]
   cases t<;>first|rfl|exact absurd rfl (hn _)
  refine⟨fun h=>(by cases h),fun _=>?_⟩
  cases t with
  |
   rc a =>
   have h4:=uf q
   simp only[Ty.atoms]at h4
   have hq:cP s=(ql a mR).bind told:=by unfold cP;rw[q]
   obtain⟨e,he,hw,hte,hats,hok⟩:=qo q
   have hgood:∀d,ql a mR=some d->gk d/\(vY (.rc a)->vY d):=fun d hd=>s8 hw hte ⟨by simp,by simp,by simp⟩ hd
   rw[hq]
   simp only[Ty.av,↓zq,zs,af]
   refine⟨by omega,fun h=>by omega,fun _=>?_⟩
   have hld:=Sl a (by omega) (fun j=>by
    cases q2:bz (hN j) a with
    |false=>rfl
    |true=>exact absurd rfl ((yb (nS q (hN j) q2)).2 (dd j)))
   simp only[Ty.av]at hld
   refine aQ hld (Q9.ne _) ?_
   rintro r ob ⟨rfl,p,hp,rfl,hpe⟩
   simp only[↓zq,zs,af,zt,eq_true hp]
   cases q1:ql a mR with
   |
    none =>
    simp only[bf,bC]
    exact⟨fun _=>⟨rfl,rfl⟩,fun h=>(by cases h)⟩
   |
    some d =>
    simp only[a6,aS]
    refine⟨fun h=>(by cases h),fun _=>?_⟩
    rw[hpe d q1]
    have hl:d.atoms<=400:=by
     simp only[ql,bc,fA]at q1
     obtain⟨_,_,h1,h2⟩:=q1
     rw[<-h2];exact h1
    refine aj (SJ d (hgood d q1).1 ((hgood d q1).2 (CE q)) (by omega)) ?_
    cases told d<;>simp only[rI,↓zq,zs,af,zt]<;>exact⟨rfl,rfl⟩
  |
   _ =>
   rw[notRec fun a h=>by cases h]
   simp only[Ty.av,↓zq,zs,af]
   exact⟨by omega,fun _=>⟨rfl,rfl⟩,fun h=>by omega⟩
end Go.Proofs.Trees
namespace Go.Proofs.Trees
open Go Go.VL Go.RowKit
theorem Gx:∀(m:Nat) (c:Vl),c.nodes<=m->∀(t:Ty) (v:Vl),dD t c=true->∀(ea:AV) (ids:List Nat),lz ea ids->∀(s:List UInt8) (fr:AV),LK.has .ptr fr->aq Tryz.prog 86 [.agg [t.av,ea],c.cI,.agg [.v (.string (mk s)),fr],v.cI] [] (bN (cL t c v).cI)
 |0,c,hm=>by have:=cM c;omega
 |
  m+1,c,hm=>by
  intro t v hc ea ids he s fr hf
  refine So _ _ _ _ _ _ ((aE _).mpr trivial) he.has ((aO _).mpr trivial) hf ((aO _).mpr trivial) ?_
  have fin:∀x:AV,LK.has .ptr x->LK.has .ptr x=True:=fun x h=>eq_true h
  cases t with
  |zero=>rw[uH];simp[Dy,Ty.av,↓zq,zs,af,bN]
  |one=>rw[xj];simp[Dy,Ty.av,↓zq,zs,af,bN]
  |name n=>rw[l9];simp[Dy,Ty.av,↓zq,zs,af,bN]
  |bound u=>rw[oU];simp[Dy,Ty.av,↓zq,zs,af,bN]
  |
   plus a b =>
   have hL:=A5 a.av b.av ea 43 (mk []) 0 ((aE _).mpr trivial) he.has
   have hR:=AR a.av b.av ea 43 (mk []) 0 ((aE _).mpr trivial) he.has
   rcases wk hc with⟨x,rfl,hx⟩|⟨x,rfl,hx⟩
   ·simp only[Vl.nodes]at hm
    simp only[Dy,Ty.av,↓zq,zs,af]
    refine⟨by omega,fun _=>?_,fun h=>absurd rfl h⟩
    refine aj hL ?_
    simp only[↓zq,zs,af,bE,aE,he.has,Vl.cI,aO]
    refine⟨by omega,fun h=>by omega,fun _=>⟨by omega,by omega,?_⟩⟩
    refine aj (Gx m x (by omega) a v hx ea ids he s fr hf) ?_
    simp only[↓zq,zs,af,aO]
    refine aj (AM 108 _ ((aO _).mpr trivial)) ?_
    simp[↓zq,zs,af,bN,cL,Vl.cI,cm]
   ·simp only[Vl.nodes]at hm
    simp only[Dy,Ty.av,↓zq,zs,af]
    refine⟨by omega,fun _=>?_,fun h=>absurd rfl h⟩
    refine aj hL ?_
    simp only[↓zq,zs,af,bE,aE,he.has,Vl.cI,aO]
    refine⟨by omega,fun _=>?_,fun h=>absurd rfl h⟩
    refine aj hR ?_
    simp only[↓zq,zs,af,bE,aE,he.has,Vl.cI,aO]
    refine⟨by omega,by omega,?_⟩
    refine aj (Gx m x (by omega) b v hx ea ids he s fr hf) ?_
    simp only[↓zq,zs,af,aO]
    refine aj (AM 114 _ ((aO _).mpr trivial)) ?_
    simp[↓zq,zs,af,bN,cL,Vl.cI,cm]
  |
   times a b =>
   have hL:=A5 a.av b.av ea 42 (mk []) 0 ((aE _).mpr trivial) he.has
   have hR:=AR a.av b.av ea 42 (mk []) 0 ((aE _).mpr trivial) he.has
   rcases uk hc with⟨x,y,rfl,hx⟩|⟨x,y,rfl,hx⟩
   ·simp only[Vl.nodes]at hm
    simp only[Dy,Ty.av,↓zq,zs,af,Vl.cI]
    refine⟨by omega,fun h=>by omega,fun _=>⟨fun _=>⟨by omega,fun _=>?_,fun h=>absurd rfl h⟩,fun h=>absurd rfl h⟩⟩
    refine aj hL ?_
    simp only[↓zq,zs,af,bE,aE,he.has,Vl.cI,aO]
    repeat refine⟨by omega,?_⟩
    refine aj (Gx m x (by omega) a v hx ea ids he s fr hf) ?_
    simp only[↓zq,zs,af,aO]
    repeat refine⟨by omega,?_⟩
    refine aj (AP _ _ ((aO _).mpr trivial) ((aO _).mpr trivial)) ?_
    simp[↓zq,zs,af,bN,cL,Vl.cI,cm]
   ·simp only[Vl.nodes]at hm
    simp only[Dy,Ty.av,↓zq,zs,af,Vl.cI,aO]
    refine⟨by omega,fun h=>by omega,fun _=>⟨fun _=>⟨by omega,fun h=>by omega,fun _=>?_⟩,fun h=>absurd rfl h⟩⟩
    repeat refine⟨by omega,?_⟩
    refine aj hR ?_
    simp only[↓zq,zs,af,bE,aE,he.has,Vl.cI,aO]
    repeat refine⟨by omega,?_⟩
    refine aj (Gx m y (by omega) b v hx ea ids he s fr hf) ?_
    simp only[↓zq,zs,af,aO]
    refine aj (AP _ _ ((aO _).mpr trivial) ((aO _).mpr trivial)) ?_
    simp[↓zq,zs,af,bN,cL,Vl.cI,cm]
  |
   rc a =>
   have hin:=FN a ea ids he
   simp only[Ty.av]at hin
   rcases Dp hc with⟨x,rfl,hx⟩|⟨x,y,rfl,hx,hy⟩
   ·simp only[Vl.nodes]at hm
    simp only[Dy,Ty.av,↓zq,zs,af,Vl.cI,aO]
    refine⟨by omega,fun h=>by omega,fun _=>⟨fun h=>by omega,fun _=>⟨fun _=>?_,fun h=>absurd rfl h⟩⟩⟩
    refine aQ hin (by have:=CI.ne a ea ids;simpa only[CI,Ty.av]using this) ?_
    intro r o hr
    obtain⟨⟨q,hq,rfl⟩,rfl⟩:=hr
    have he2:lz (.ptr [.pid q [(Ty.rc a).av,ea],ea]) (q::ids):=.cons hq he
    have hfr:LK.ptr.has (.pid q [(Ty.rc a).av,ea]):=.inr (.inr ⟨_,_,rfl⟩)
    simp only[Ty.av]at he2 hfr
    simp only[↓zq,zs,af,bE,aE,he2.has,hfr,Vl.cI,aO,Ty.av]
    repeat refine⟨by omega,?_⟩
    refine⟨fun _=>?_,fun h=>absurd rfl h⟩
    repeat refine⟨by omega,?_⟩
    refine aj (Gx m x (by omega) a v hx _ _ he2 s fr hf) ?_
    simp only[↓zq,zs,af,aO]
    refine aj (AM 102 _ ((aO _).mpr trivial)) ?_
    simp[↓zq,zs,af,bN,cL,Vl.cI,cm]
   ·simp only[Vl.nodes]at hm
    simp only[Dy,Ty.av,↓zq,zs,af,Vl.cI,aO]
    refine⟨by omega,fun h=>by omega,fun _=>⟨fun h=>by omega,fun _=>⟨fun _=>?_,fun h=>absurd rfl h⟩⟩⟩
    refine aQ hin (by have:=CI.ne a ea ids;simpa only[CI,Ty.av]using this) ?_
    intro r o hr
    obtain⟨⟨q,hq,rfl⟩,rfl⟩:=hr
    have he2:lz (.ptr [.pid q [(Ty.rc a).av,ea],ea]) (q::ids):=.cons hq he
    have hfr:LK.ptr.has (.pid q [(Ty.rc a).av,ea]):=.inr (.inr ⟨_,_,rfl⟩)
    simp only[Ty.av]at he2 hfr
    simp only[↓zq,zs,af,bE,aE,he2.has,hfr,Vl.cI,aO,Ty.av]
    repeat refine⟨by omega,?_⟩
    refine fun _=>?_
    repeat refine⟨by omega,?_⟩
    have i1:=Gx m y (by omega) (.rc a) v hy ea ids he s fr hf
    simp only[Ty.av]at i1
    refine aj i1 ?_
    simp only[↓zq,zs,af,aO]
    repeat refine⟨by omega,?_⟩
    refine aj (Gx m x (by omega) a (cL (.rc a) y v) hx _ _ he2 [] _ hfr) ?_
    simp only[↓zq,zs,af,aO]
    refine aj (AM 102 _ ((aO _).mpr trivial)) ?_
    simp[↓zq,zs,af,bN,cL,Vl.cI,cm]
theorem Nf(a:Ty)(c v:Vl)(hc:dD a c=true):aq Tryz.prog 43 [(Ty.rc a).av,c.cI,v.cI] [] (bN (Vl.f (cL a c v)).cI):=by
 refine Ue _ _ _ ((aE _).mpr trivial) ((aO _).mpr trivial) ((aO _).mpr trivial) ?_
 unfold M5
 refine aQ (FN a iW [] .nil) (CI.ne a iW []) ?_
 rintro r o ⟨⟨m,hm,rfl⟩,rfl⟩
 have he2:lz (.ptr [.pid m [(Ty.rc a).av,iW],iW]) [m]:=.cons hm .nil
 have hfr:LK.ptr.has (.pid m [(Ty.rc a).av,iW]):=.inr (.inr ⟨_,_,rfl⟩)
 simp only[Ty.av]at he2 hfr
 simp only[↓zq,zs,af,bE,aE,he2.has,hfr,Ty.av]
 repeat refine⟨by omega,?_⟩
 refine aj (Gx c.nodes c (au _) a v hc _ _ he2 [] _ hfr) ?_
 simp only[↓zq,zs,af,aO]
 refine aj (AM 102 _ ((aO _).mpr trivial)) ?_
 simp[↓zq,zs,af,bN,Vl.cI,cm]
end Go.Proofs.Trees
namespace Go.Proofs.Trees
open Go Go.VL Go.RowKit
def wU(l:List Vl):List (List AV):=l.map fun c=>[c.cI]
theorem j4(l:List Vl):(wU l).length=l.length:=by simp[wU]
theorem AB{l:List Vl}{i:Nat}(h:i<l.length):(wU l).getD i []=[(l[i]).cI]:=by simp[wU,aa,h]
theorem zJ(l:List Vl)(c:Vl):wU l++[[c.cI]]=wU (l++[c]):=by simp[wU]
def tC(s:Nm)(a:Ty)(l:List Vl)(v:Vl):AV:=.ptr [.v (.string (mk s)),(Ty.rc a).av,.sl (wU l),v.cI]
def oZ(s:Nm)(a:Ty):Option (List Vl×Vl)->AV
 |some r=>tC s a r.1 r.2
 |none=>iW
theorem kp(s:Nm)(a:Ty)(o:Option (List Vl×Vl)):LK.has .ptr (oZ s a o)=True:=by cases o<;>simp[oZ,tC,gU,cm]
theorem EX(v:Vl):(Vl.f v).nodes=v.nodes+1:=by simp only[Vl.nodes];omega
theorem Lx(s:Nm)(a:Ty)(l:List Vl)(v:Vl)(h:ZI a l v)(hl:l.length<=50):aq Tryz.prog 67 [tC s a l v] [] (bN (oZ s a (vF a l v))):=by
 refine Sw _ ((cm _).mpr trivial) ?_
 simp only[NY,tC,↓zq,zs,af,j4]
 refine⟨fun h=>(by cases h),fun _=>?_⟩
 repeat refine⟨by omega,?_⟩
 unfold vF
 refine⟨fun h0=>?_,fun h0=>?_⟩
 ·have:l=[]:=cg (by omega)
  subst this
  exact⟨rfl,rfl⟩
 ·have hpos:0<l.length:=by omega
  have hne:l≠[]:=by rintro rfl;simp at hpos
  rw[wrap64 ((l.length:Int)-1) (by omega) (by omega)]
  have e1:((l.length:Int)-1).toNat=l.length-1:=by omega
  have hlt:l.length-1<l.length:=by omega
  have hlast:l.getLast?=some (l[l.length-1]):=by rw[List.getLast?_eq_some_getLast hne,List.getLast_eq_getElem]
  rw[hlast]
  have hC:=h.ctx _ (bh hlt)
  generalize hc:l[l.length-1]=c at *
  simp only[e1,AB hlt,hc,↓zq,zs,af,aO,aE]
  repeat refine⟨by omega,?_⟩
  refine aj (Nf a c v hC.ok) ?_
  simp only[↓zq,zs,af,aO]
  have hn:=oY a c v
  have h1:=hC.nd
  have h2:=h.rY.nd
  refine aj (Gm (.f (cL a c v)) (by rw[EX];omega)) ?_
  simp only[↓zq,zs,af,aO,aE]
  refine⟨fun hb=>?_,fun hb=>?_⟩
  ·rw[if_neg (by omega)];exact⟨rfl,rfl⟩
  ·rw[if_pos (by omega)]
   repeat refine⟨by omega,?_⟩
   refine⟨?_,rfl⟩
   have:(wU l).take (l.length-1)=wU l.dropLast:=by rw[List.dropLast_eq_take];simp[wU]
   simp only[oZ,tC,Int.toNat_zero,aZ,this]
theorem Nd{s d:Nm}{a:Ty}{x A B:E}{D:Ty}(z:ZT s d a x A B D)(pa:AV)(p:List Nm)(hp:cQ pa p)(hl:p.length<=50)(v:Vl):∀(k i:Nat) (l0:List Vl),i+k=p.length->l0.length<=i ->
 H0 [.v (.string (mk d)),pa,.v (.int .i64 (p.length:Int)),.v (.int .i64 (i:Int))] [.cells [.v (.string (mk s)),(Ty.rc a).av,.any,v.cI],.vec 1 (wU l0)]
  (ox (match eS d (p.drop i)with|some l=>(1,[],[.cells [.v (.string (mk s)),(Ty.rc a).av,.any,v.cI],.vec 1 (wU (l0++l))])|none=>(2,[iW],[])))
 |
  0,i,l0,hi,rj=>by
  refine OJ _ _ _ _ _ _ _ _ ?_
  have:i=p.length:=by omega
  subst this
  simp only[GW,↓zq,zs,af,af,aE,aO,List.drop_length]
  exact⟨hp.1,fun h=>by omega,fun _=>by simp[ox,eS]⟩
 |
  k+1,i,l0,hi,rj=>by
  have hlt:i<p.length:=by omega
  have hd:p.drop i=p.getD i []::p.drop (i+1):=by rw[aL hlt];simp[aa,hlt]
  refine OJ _ _ _ _ _ _ _ _ ?_
  simp only[GW,↓zq,zs,af,zt,af,aE,aO,hp.len,hp.idx hlt,bF]
  refine⟨hp.1,fun _=>⟨⟨hp.1,by omega,by omega⟩,by omega,?_⟩,fun h=>by omega⟩
  refine aj (M3 d (p.getD i []) 100) ?_
  rw[hd,eS]
  simp only[↓zq,zs,af,zt,iL,fO]
  cases q:mZ d (p.getD i []) 100 with
  |
   none =>
   simp only[iT,↓zq,zs,af]
   exact⟨fun _=>by first|trivial|rfl,fun h=>(by cases h)⟩
  |
   some w =>
   simp only[iT,↓zq,zs,af,fg,zJ]
   refine⟨fun h=>(by cases h),fun _=>?_⟩
   rw[bB i (by omega)]
   have ih:=Nd z pa p hp hl v k (i+1) (l0++[w]) (by omega) (by simp;omega)
   refine⟨⟨fun c hc=>by simp at hc;rw[hc];rfl,by rw[j4];omega⟩,?_⟩
   cases q2:eS d (p.drop (i+1))with
   |none=>rw[q2]at ih;exact ih
   |some l=>rw[q2]at ih;simp only[aY,bj,aR]at ih;exact ih
theorem nu{s:Nm}{p:List Nm}{f:Nm}{l:List Vl}{v:Vl}(h:tA s p f=some (l,v)):∃d a x A B D,ZT s d a x A B D/\ZI a l v/\p=l.map (·.cf)/\f=v.cf/\p.length<=50/\zA s=a/\gM s f=some v/\eS d p=some l:=by
 unfold tA at h
 split at h
 ·rename_i v' d h1 h2
  split at h
  ·rename_i hl
   obtain⟨l',h3,h4⟩:=Option.map_eq_some_iff.1 h
   cases h4
   obtain⟨a,_,_,_,L⟩:=fW h1
   obtain⟨x,A,B,D,z⟩:=ZT.of L.l h2
   obtain⟨q1,q2⟩:=sk z p l h3
   obtain⟨q3,q4⟩:=z.rY h1
   exact⟨d,a,x,A,B,D,z,⟨q2,q3⟩,q1,q4,hl,by unfold zA;rw[L.l];rfl,h1,h3⟩
  ·cases h
 ·cases h
theorem Ls(s:Nm)(pa:AV)(p:List Nm)(hp:cQ pa p)(f:Nm):aq Tryz.prog 63 [.agg [.v (.string (mk s)),pa,.v (.string (mk f))]] [] (bN (oZ s (zA s) (tA s p f))):=by
 refine S4 _ _ _ hp.1 ?_
 unfold Ok
 refine aj (H4 s f) ?_
 have hlt:LK.has .ptr (CJ s)=True:=by unfold CJ;split<;>simp[aE,gU]
 simp only[↓zq,zs,af,zt,hlt,fO]
 refine aj (Uf s) ?_
 have ho:∀o:Option Nm,rI o=.cv [.v (.string (mk (o.getD []))),.v (.bool o.isSome)]:=fun o=>by cases o<;>rfl
 rw[ho]
 simp only[↓zq,zs,af,zt]
 unfold tA
 cases h1:gM s f with
 |
  none =>
  simp only[iT,↓zq,zs,af]
  exact⟨fun _=>⟨rfl,rfl⟩,fun h=>(by cases h)⟩
 |
  some v =>
  simp only[iT,↓zq,zs,af,fg]
  refine⟨fun h=>(by cases h),fun _=>?_⟩
  cases h2:cP s with
  |
   none =>
   simp only[bf]
   exact⟨fun _=>⟨rfl,rfl⟩,fun h=>(by cases h)⟩
  |
   some d =>
   simp only[a6,cH,hp.len]
   refine⟨fun h=>(by cases h),fun _=>⟨hp.1,fun h=>?_,fun h=>?_⟩⟩
   ·rw[if_neg (by omega)];exact⟨rfl,rfl⟩
   ·have hl:p.length<=50:=by omega
    rw[if_pos hl]
    obtain⟨a,_,_,_,L⟩:=fW h1
    obtain⟨x,A,B,D,z⟩:=ZT.of L.l h2
    have ht:CJ s=(Ty.rc a).av:=by unfold CJ;rw[L.l]
    have hza:zA s=a:=by unfold zA;rw[L.l];rfl
    rw[ht,hza]
    refine⟨hp.1,?_⟩
    have hloop:=Nd z pa p hp hl v p.length 0 [] (by omega) (by simp)
    rw[aZ]at hloop
    refine eC hloop (fun ys o e=>?_) (fun ys o e=>?_)
    ·cases q:eS d p with
     |none=>rw[q]at e;cases e
     |
      some l =>
      rw[q]at e
      cases e
      simp only[↓zq,zs,af,zt,af,aH,aE,aO,cz]
      exact⟨rfl,rfl⟩
    ·cases q:eS d p with
     |
      none =>
      rw[q]at e
      cases e
      simp only[↓zq,zs,af,zt,af,aH,Option.map_none]
      exact⟨rfl,rfl⟩
     |some l=>rw[q]at e;cases e
theorem OQ(s:Nm)(a:Ty)(x3:AV)(h3:LK.ptr.has x3):∀(n:Nat) (l:List Vl) (v:Vl),l.length=n->ZI a l v->n<=50 ->
 IM [x3,tC s a l v] [] (ox (if(j3 n a l v).isSome=true then(1,[x3],[])else(2,[iW],[])))
 |
  0,l,v,hl,h,hn=>by
  refine PX _ _ ?_
  simp only[J4,tC,↓zq,zs,af,h3,j4,hl,j3]
  repeat refine⟨by omega,?_⟩
  exact fun _=>by simp[ox]
 |
  n+1,l,v,hl,h,hn=>by
  refine PX _ _ ?_
  have hup:=Lx s a l v h (by omega)
  simp only[J4,↓zq,zs,af,h3]
  simp only[tC,↓zq,zs,af,j4,hl]at hup |-
  repeat refine⟨by omega,?_⟩
  refine⟨fun _=>?_,fun h=>by omega⟩
  refine aj hup ?_
  simp only[↓zq,zs,af,kp]
  rw[j3]
  cases q:vF a l v with
  |
   none =>
   simp only[oZ,↓zq,zs,af,bC]
   exact⟨fun _=>by simp[ox],fun h=>(by cases h)⟩
  |
   some r =>
   obtain⟨hz,hlen,_⟩:=vL h q
   have ih:=OQ s a x3 h3 n r.1 r.2 (by omega) hz (by omega)
   simp only[oZ,tC,↓zq,zs,af,aS]at ih |-
   exact⟨fun h=>(by cases h),fun _=>ih⟩
theorem HI(s:Nm)(pa:AV)(p:List Nm)(hp:cQ pa p)(f:Nm):aq Tryz.prog 66 [.agg [.v (.string (mk s)),pa,.v (.string (mk f))]] [] (bN (oZ s (zA s) (ia s p f))):=by
 refine RZ _ _ _ hp.1 ?_
 unfold Li
 refine aj (Ls s pa p hp f) ?_
 simp only[↓zq,zs,af,zt,kp]
 unfold ia
 cases q:tA s p f with
 |
  none =>
  simp only[oZ,↓zq,zs,af,bC]
  exact⟨fun _=>⟨rfl,rfl⟩,fun h=>(by cases h)⟩
 |
  some r =>
  obtain⟨l,v⟩:=r
  obtain⟨d,a,x,A,B,D,z,hz,hpt,hft,hl,hza,_,_⟩:=nu q
  rw[hza]
  have hll:l.length<=50:=by rw[hpt]at hl;simpa using hl
  have hloop:=OQ s a (tC s a l v) ((cm _).mpr trivial) l.length l v rfl hz hll
  simp only[oZ,aS]
  refine⟨fun h=>(by cases h),fun _=>?_⟩
  unfold rb
  refine eC hloop (fun ys o e=>?_) (fun ys o e=>?_)
  ·split at e
   ·rename_i hc
    cases e
    rw[if_pos hc]
    simp only[↓zq,zs,af,tC,cm]
    exact⟨rfl,rfl⟩
   ·cases e
  ·split at e
   ·cases e
   ·rename_i hc
    cases e
    rw[if_neg hc]
    simp only[↓zq,zs,af]
    exact⟨rfl,rfl⟩
end Go.Proofs.Trees
namespace Go.Proofs.Trees
open Go Go.VL Go.RowKit
abbrev tZ(s:Nm):Option (List Vl×Vl)->Nm×List Nm×Nm
 |some r=>(s,r.1.map (·.cf),r.2.cf)
 |none=>([],[],[])
def GZ(o:Option (List Vl×Vl)):Prop:=∀r,o=some r->(∀c,c∈r.1->c.cf.length<=900000)/\r.2.cf.length<=900000/\r.1.length<=51
theorem Cx.cf{a:Ty}{c:Vl}(h:Cx a c):c.cf.length<=900000:=by have:=eU c h.fu;have:=h.nd;omega
theorem Fo.cf{a:Ty}{c:Vl}(h:Fo a c):c.cf.length<=900000:=by have:=eU c h.fu;have:=h.nd;omega
theorem ZI.gz{a:Ty}{l:List Vl}{v:Vl}(h:ZI a l v)(hl:l.length<=51):GZ (some (l,v)):=fun r hr=>by
 cases hr;exact⟨fun c hc=>(h.ctx c hc).cf,h.rY.cf,hl⟩
theorem GZ.none:GZ none:=fun r hr=>by cases hr
theorem OK(l:List Vl)(hl:l.length<=51)(ht:∀c,c∈l->c.cf.length<=900000)(s f:Nm):∀(k i:Nat) (out:List Nm),i+k=l.length->out.length<=i ->
 JB [.sl (wU l),.v (.int .i64 (l.length:Int)),.v (.int .i64 (i:Int))] [.cells [.v (.string (mk [])),zd,.v (.string (mk []))],.cells [.v (.string (mk s)),.any,.v (.string (mk f))],.vec 1 (bX out)]
  (gK 1 [] [.cells [.v (.string (mk [])),zd,.v (.string (mk []))],.cells [.v (.string (mk s)),.any,.v (.string (mk f))],.vec 1 (bX (out++(l.drop i).map (·.cf)))])
 |
  0,i,out,hi,ho=>by
  refine Lz _ _ _ _ _ _ _ _ _ ?_
  have:i=l.length:=by omega
  subst this
  simp only[HC,↓zq,zs,af,zt,af,bo,List.drop_length]
  exact⟨fun h=>by omega,fun _=>by simp[gK]⟩
 |
  k+1,i,out,hi,ho=>by
  have hlt:i<l.length:=by omega
  refine Lz _ _ _ _ _ _ _ _ _ ?_
  simp only[HC,↓zq,zs,af,zt,af,bo,j4,AB hlt,aO,bF]
  refine⟨fun _=>?_,fun h=>by omega⟩
  repeat refine⟨by omega,?_⟩
  refine aj (AE (l[i]) (ht _ (bh hlt))) ?_
  simp only[↓zq,zs,af,zt,GF,kT]
  refine⟨⟨fun c hc=>by simp at hc;rw[hc];rfl,by omega⟩,?_⟩
  rw[bB i (by omega),aL hlt,bA]
  have:=OK l hl ht s f k (i+1) (out++[(l[i]).cf]) (by omega) (by simp;omega)
  rw[aY]at this
  exact this
theorem Ot(s:Nm)(a:Ty)(o:Option (List Vl×Vl))(h:GZ o):aq Tryz.prog 65 [oZ s a o] [] (dh (.cv [.agg [.v (.string (mk (tZ s o).1)),.vec 0,.v (.string (mk (tZ s o).2.2))],.v (.bool o.isSome)]) [.vec 1 (bX (tZ s o).2.1)]):=by
 refine Uz _ (by rw[kp];trivial) ?_
 unfold L5
 cases o with
 |
  none =>
  simp only[oZ,↓zq,zs,af]
  exact⟨fun _=>⟨rfl,rfl⟩,fun h=>(by cases h)⟩
 |
  some r =>
  obtain⟨h1,h2,h3⟩:=h r rfl
  simp only[oZ,tC,↓zq,zs,af,zt,aE,aO]
  refine⟨fun h=>(by cases h),fun _=>?_⟩
  repeat refine⟨by omega,?_⟩
  refine aj (AE r.2 h2) ?_
  simp only[↓zq,zs,af,zt,aE,aO,j4]
  repeat refine⟨by omega,?_⟩
  have hlp:=OK r.1 h3 h1 s r.2.cf r.1.length 0 [] (by omega) (by simp)
  rw[aZ,aR]at hlp
  refine cA hlp ?_
  simp only[↓zq,zs,af,zt,af,aH,bo]
  exact⟨rfl,rfl⟩
theorem im{s:Nm}{p:List Nm}{f:Nm}{l:List Vl}{v:Vl}(h:ia s p f=some (l,v)):tA s p f=some (l,v)/\(rb (zA s) l v).isSome=true:=by
 unfold ia at h
 obtain⟨r,h1,h2⟩:=bc.1 h
 split at h2
 ·rename_i hc
  cases h2
  exact⟨h1,hc⟩
 ·cases h2
theorem zB{s:Nm}{p:List Nm}{f:Nm}{l:List Vl}{v:Vl}(h:ia s p f=some (l,v)):ZI (zA s) l v/\l.length<=50/\p=l.map (·.cf)/\f=v.cf:=by
 obtain⟨h1,_⟩:=im h
 obtain⟨d,a,x,A,B,D,z,hz,hp,hf,hl,hza,_,_⟩:=nu h1
 rw[hza]
 exact⟨hz,by rw[hp]at hl;simpa using hl,hp,hf⟩
theorem Fj(s:Nm)(p:List Nm)(f:Nm):GZ (ia s p f):=fun r hr=>by
 obtain⟨h1,h2,_⟩:=zB (l:=r.1) (v:=r.2) hr
 exact h1.gz (by omega) r rfl
noncomputable def xO (s:Nm) (p:List Nm) (f g:Nm):Option (List Vl×Vl):=(ia s p f).bind fun _=>ia s p g
noncomputable def qm (s:Nm) (p:List Nm) (f:Nm):Option Nm:=(ia s p f).bind fun r=>(rb (zA s) r.1 r.2).map (·.cf)
abbrev CM(s:Nm)(o:Option (List Vl×Vl)):AV->List Ob->Prop:=dh (.cv [.agg [.v (.string (mk (tZ s o).1)),.vec 0,.v (.string (mk (tZ s o).2.2))],.v (.bool o.isSome)]) [.vec 1 (bX (tZ s o).2.1)]
theorem S5(s:Nm)(pa:AV)(p:List Nm)(hp:cQ pa p)(f g:Nm):aq Tryz.prog 31 [.agg [.v (.string (mk s)),pa,.v (.string (mk f))],.v (.string (mk g))] [] (CM s (xO s p f g)):=by
 refine R1 _ _ _ _ hp.1 ?_
 unfold Nl
 refine aj (HI s pa p hp f) ?_
 simp only[↓zq,zs,af,zt,kp]
 unfold xO
 cases q:ia s p f with
 |
  none =>
  simp only[oZ,↓zq,zs,af,bC]
  exact⟨fun _=>⟨rfl,rfl⟩,fun h=>(by cases h)⟩
 |
  some r =>
  simp only[oZ,tC,↓zq,zs,af,aS]
  refine⟨fun h=>(by cases h),fun _=>?_⟩
  refine aj (HI s pa p hp g) ?_
  simp only[↓zq,zs,af,zt,kp]
  refine aX (Ot s (zA s) _ (Fj s p g)) ?_
  simp only[↓zq,zs,af,zt,aH]
  exact⟨dk _,rfl,rfl⟩
theorem K6(s:Nm)(a:Ty):∀(n:Nat) (l:List Vl) (v w:Vl),l.length=n->ZI a l v->n<=50->j3 n a l v=some w->Fo a w /\
 H3 [tC s a l v] [] (gK 1 [tC s a [] w] [])
 |
  0,l,v,w,hl,h,hn,hc=>by
  cases hc
  have:l=[]:=cg hl
  subst this
  refine⟨h.rY,Pn _ ?_⟩
  simp only[Kk,tC,↓zq,zs,af,j4,aF]
  refine⟨by omega,fun h=>by omega,fun _=>by simp[gK]⟩
 |
  n+1,l,v,w,hl,h,hn,hc=>by
  rw[j3]at hc
  obtain⟨r,hu,hc⟩:=bc.1 hc
  obtain⟨hz,hlen,_⟩:=vL (l':=r.1) (w:=r.2) h hu
  obtain⟨i1,i2⟩:=K6 s a n r.1 r.2 w (by omega) hz (by omega) hc
  refine⟨i1,Pn _ ?_⟩
  have hup:=Lx s a l v h (by omega)
  rw[hu]at hup
  simp only[Kk,oZ]at hup |-
  simp only[tC,↓zq,zs,af,j4,hl]at hup |-
  repeat refine⟨by omega,?_⟩
  refine⟨fun _=>?_,fun h=>by omega⟩
  refine aj hup ?_
  simp only[↓zq,zs,af]
  exact i2
theorem SB(s:Nm)(pa:AV)(p:List Nm)(hp:cQ pa p)(f:Nm):aq Tryz.prog 32 [.agg [.v (.string (mk s)),pa,.v (.string (mk f))]] [] (bN (rI (qm s p f))):=by
 refine RO _ _ _ hp.1 ?_
 unfold Pe
 refine aj (HI s pa p hp f) ?_
 simp only[↓zq,zs,af,kp]
 unfold qm
 cases q:ia s p f with
 |
  none =>
  simp only[oZ,↓zq,zs,af,bC]
  exact⟨fun _=>⟨rfl,rfl⟩,fun h=>(by cases h)⟩
 |
  some r =>
  obtain⟨l,v⟩:=r
  obtain⟨hz,hl,_⟩:=zB q
  obtain⟨w,hw⟩:=a8.1 (im q).2
  obtain⟨h1,h2⟩:=K6 s (zA s) l.length l v w rfl hz hl hw
  simp only[oZ,aS,hw,cz]
  have hn:(tC s (zA s) l v).isNil=false:=rfl
  simp only[hn]
  refine⟨fun h=>(by cases h),fun _=>?_⟩
  refine cA h2 ?_
  simp only[↓zq,zs,af,tC,aO,cm]
  repeat refine⟨by first|trivial|omega,?_⟩
  refine aj (AE w h1.cf) ?_
  simp only[↓zq,zs,af,zt]
  exact⟨rfl,rfl⟩
end Go.Proofs.Trees
namespace Go.Proofs.Trees
open Go Go.VL Go.RowKit
def mr:E->Option E
 | .list [x,a,b]=>if x.at=[114,101,99]then some (.list [x,a,b])else none
 |_=>none
def qg(s:List UInt8):Option E:=match j7 s with
 |some e=>mr e
 |none=>none
theorem BO(s:List UInt8):aq Tryz.prog 26 [.v (.string (mk s))] [] (iU (qg s) (qg s).isSome):=by
 refine Si _ ?_
 unfold Qq
 refine aQ (Jb s) (iU.ne _ _ (fun h=>h)) ?_
 rintro r o ⟨c,d,hd,rfl,hh⟩
 have hhas:bE [.str,.sl] [.v (.string (mk c)),d] 0:=by simp[bE,dC,hd]
 simp only[↓zq,zs,af,zt]
 refine⟨hhas,fun h=>?_,fun h=>?_⟩
 ·obtain⟨e,he,hce⟩:=hh h
  obtain⟨t,h1,hA,h3,h4,h5,_⟩:=ir he
  have hce':=hce
  rw[cU]at hce'
  simp only[AV.agg.injEq,List.cons.injEq,AV.v.injEq,Value.string.injEq,and_true]at hce'
  obtain⟨hc1,rfl⟩:=hce'
  have hc2:=mk_inj hc1
  subst hc2
  have head:∀w:List UInt8,aq Tryz.prog 54 [.agg [.v (.string (mk e.at)),e.sp]] [] (bN (.v (.string (mk w))))->(w=[114,101,99]↔(mr e).isSome=true)->((mr e).isSome=true->mr e=some e) ->
   fk Tryz.prog 18 (Tree.call 54 [.agg [.v (.string (mk e.at)),e.sp]] [] fun r2 o2=>Tree.ai (LK.str.has r2) (Tree.done 0 [.cv [.agg [.v (.string (mk e.at)),e.sp],.v (.bool (ae r2.toStr==[114,101,99]))]] [])) fun _ xs obs=>iU (qg s) (qg s).isSome (xs.headD .any) obs:=by
   intro w hw h1 h2
   refine aj hw ?_
   simp only[↓zq,zs,af,zt]
   refine⟨e.at,e.sp,hd,?_,fun hs=>⟨e,?_,(cU e).symm⟩⟩
   ·congr 3
    simp only[qg,he,AV.v.injEq,Value.bool.injEq,List.cons.injEq,and_true]
    rw[cJ];simpa using h1
   ·simp only[qg,he]at hs |-;exact h2 hs
  have hl:∀x l,e=.list (x::l)->aq Tryz.prog 54 [.agg [.v (.string (mk e.at)),e.sp]] [] (bN (.v (.string (mk x.at)))):=by
   rintro x l rfl;exact v7 x l
  have ha:∀s0,e=.atom s0->aq Tryz.prog 54 [.agg [.v (.string (mk e.at)),e.sp]] [] (bN (.v (.string (mk [])))):=by
   rintro s0 rfl;exact AF s0 _ ((bo).mpr trivial) hA.ok
  rcases gP hA.wf hA.ty with⟨hb,_⟩|⟨u,g,rfl,_,hg⟩
  ·rcases fQ hA.ty hb hA.cl with⟨rfl,rfl⟩|⟨rfl,rfl⟩|⟨s0,rfl,rfl,hp,h0,h1⟩|⟨x,a,b,t1,t2,rfl,hx,rfl,ha',hbb⟩|⟨x,a,b,t1,t2,rfl,hx,rfl,ha',hbb⟩|⟨x,a,b,t1,rfl,hx,rfl⟩
   ·exact head _ (ha _ rfl) (by simp[mr]) (by simp[mr])
   ·exact head _ (ha _ rfl) (by simp[mr]) (by simp[mr])
   ·exact head _ (ha _ rfl) (by simp[mr]) (by simp[mr])
   ·exact head _ (hl _ _ rfl) (by simp[mr,hx]) (by simp[mr,hx])
   ·exact head _ (hl _ _ rfl) (by simp[mr,hx]) (by simp[mr,hx])
   ·exact head _ (hl _ _ rfl) (by simp[mr,hx]) (by simp[mr,hx])
  ·simp at hg
 ·have hn:j7 s=none:=by cases hq:j7 s<;>simp[hq]at h |-
  refine⟨c,d,hd,?_,fun h=>?_⟩
  ·simp[qg,hn]
  ·simp[qg,hn]at h
theorem m9(s:List UInt8):(qg s).isSome=(gy s).isSome:=by
 unfold qg gy
 cases h:j7 s with
 |none=>rw[nY h];rfl
 |
  some e =>
  obtain⟨t,h1,hA,h3,h4,h5,_⟩:=ir h
  rw[h1]
  simp only
  rcases gP hA.wf hA.ty with⟨hb,_⟩|⟨u,g,rfl,_,hg⟩
  ·rcases fQ hA.ty hb hA.cl with⟨rfl,rfl⟩|⟨rfl,rfl⟩|⟨s0,rfl,rfl,hp,h0,h1⟩|⟨x,a,b,t1,t2,rfl,hx,rfl,ha',hbb⟩|⟨x,a,b,t1,t2,rfl,hx,rfl,ha',hbb⟩|⟨x,a,b,t1,rfl,hx,rfl⟩<;>simp_all[mr]
  ·simp at hg
theorem LV.le{s v:List UInt8}{w:Vl}{a:Ty}{x A B:E}(h:LV s v w a x A B):qg s=some (.list [x,A,B]):=by
 unfold qg;rw[h.ce];simp[mr,h.hx]
theorem Gd(n:Nat)(v:Vl)(x A B:E)(a:Ty)(hA:Ask B [.mk A.at (.list [x,A,B]) []] a)(hx:x.at=[114,101,99])(w:Vl)(hw:v=.f w)(hv:eF n v (.list [x,A,B],[])=true)(hl:v.nodes<90000) :
 aq Tryz.prog 37 [.agg [.v (.string (mk B.at)),B.sp],.v (.string (mk A.at)),.agg [.v (.string (mk w.cG.at)),w.cG.sp]] [] (bN (.sl (kh (kids a v)))):=by
 subst hw
 obtain⟨w',e,hw'⟩:=mI .nil hx hv
 cases e
 simp only[Vl.nodes]at hl
 have hnm:names [Fr.mk A.at (.list [x,A,B]) []]=[]++[A.at]:=rfl
 have h:=GN n w.nodes w (au _) B _ a hA hw' (by simp;omega) A.at (by rw[hnm];right;rw[fH];rfl)
 rw[hnm,wJ]at h
 exact h
end Go.Proofs.Trees
namespace Go.Proofs.Trees
open Go Go.VL Go.RowKit
def UU(e:E)(s:List UInt8)(t:Ty)(c v:Vl):Prop:=aq Tryz.prog 62 [.agg [.v (.string (mk e.at)),e.sp],.v (.string (mk s)),.agg [.v (.string (mk c.cG.at)),c.cG.sp],.agg [.v (.string (mk v.cG.at)),v.cG.sp]] [] (bN (.agg [.v (.string (mk (cL t c v).cG.at)),(cL t c v).cG.sp]))
theorem Fy:∀(m:Nat) (c:Vl),c.nodes<=m->∀(e:E) (env:List Fr) (t:Ty),Ask e env t->dD t c=true->∀(s:List UInt8) (v:Vl),UU e s t c v
 |0,c,hm=>by have:=cM c;omega
 |
  m+1,c,hm=>by
  intro e env t A hc s v
  unfold UU
  refine Rt _ _ _ _ _ _ _ ((aV _).mpr trivial) ((aV _).mpr trivial) ((aV _).mpr trivial) ?_
  have atomCase:∀s0,e=.atom s0->cL t c v=v->fk Tryz.prog 244 (FO (mk e.at) e.sp (mk s) (mk c.cG.at) c.cG.sp (mk v.cG.at) v.cG.sp) fun _ xs obs=>bN (.agg [.v (.string (mk (cL t c v).cG.at)),(cL t c v).cG.sp]) (xs.headD .any) obs:=by
   rintro s0 rfl hp
   have hne:s0≠[]:=A.ok
   rw[hp]
   simp only[FO,E.at,↓zq,zs,af,zt,bN]
   exact⟨fun _=>trivial,fun h=>absurd h hne⟩
  have hvh:=Dh c
  rw[cU]at hvh
  rcases gP A.wf A.ty with⟨hb,hq⟩|⟨u,g,rfl,hq,hu⟩
  ·rcases fQ A.ty hb A.cl with⟨rfl,rfl⟩|⟨rfl,rfl⟩|⟨s0,rfl,rfl,hp,h0,h1⟩|⟨x,a,b,t1,t2,rfl,hx,rfl,ha,hbb⟩|⟨x,a,b,t1,t2,rfl,hx,rfl,ha,hbb⟩|⟨x,a,b,t1,rfl,hx,rfl⟩
   ·exact atomCase _ rfl (uH _ _)
   ·exact atomCase _ rfl (xj _ _)
   ·exact atomCase _ rfl (l9 _ _ _)
   ·obtain⟨ok1,ok2,ok3,_⟩:=A.ok
    obtain⟨f1,f2⟩:=fI A.cl
    have hP:=P3.of x a b
    have hH:aq Tryz.prog 54 [.agg [.v (.string (mk [])),(E.list [x,a,b]).sp]] [] (bN (.v (.string (mk [43])))):=by rw[<-hx];exact v7 x [a,b]
    rcases wk hc with⟨y,rfl,hy⟩|⟨y,rfl,hy⟩
    ·simp only[Vl.nodes]at hm
     have hW:=P2.of (.atom [108]) y.cG
     simp only[Vl.cG,bL]at hvh
     simp only[FO,bL,Vl.cG,toNat_one,bn,↓zq,zs,af,zt,hP.1,hP.2.1,hP.2.2.1,hP.2.2.2,hW.1,hW.2.1,hW.2.2,aK]
     refine⟨fun h=>absurd rfl h,fun _=>?_⟩
     repeat refine⟨by omega,?_⟩
     refine aj hH ?_
     simp only[↓zq,zs,af,zt]
     refine aj hvh ?_
     simp only[vh,↓zq,zs,af,zt,bj,aR]
     refine⟨by simp[cS],fun _=>?_,fun h=>absurd rfl h⟩
     repeat refine⟨by omega,?_⟩
     refine aj (Fy m y (by omega) a env t1 ⟨ok2,A.wf,ha,f1⟩ hy s v) ?_
     simp only[↓zq,zs,af,zt,aK]
     repeat refine⟨by omega,?_⟩
     refine aj (xB _ _) ?_
     simp only[↓zq,zs,af,zt,aK]
     repeat refine⟨by omega,?_⟩
     exact⟨rfl,rfl⟩
    ·simp only[Vl.nodes]at hm
     have hW:=P2.of (.atom [114]) y.cG
     simp only[Vl.cG,bL]at hvh
     simp only[FO,bL,Vl.cG,toNat_one,bn,↓zq,zs,af,zt,hP.1,hP.2.1,hP.2.2.1,hP.2.2.2,hW.1,hW.2.1,hW.2.2,aK]
     refine⟨fun h=>absurd rfl h,fun _=>?_⟩
     repeat refine⟨by omega,?_⟩
     refine aj hH ?_
     simp only[↓zq,zs,af,zt]
     refine aj hvh ?_
     simp only[vh,↓zq,zs,af,zt,bj,aR]
     refine⟨by simp[cS],fun h=>by simp at h,fun _=>⟨fun _=>?_,fun h=>absurd rfl h⟩⟩
     repeat refine⟨by omega,?_⟩
     refine aj (Fy m y (by omega) b env t2 ⟨ok3,A.wf,hbb,f2⟩ hy s v) ?_
     simp only[↓zq,zs,af,zt,aK]
     repeat refine⟨by omega,?_⟩
     refine aj (xB _ _) ?_
     simp only[↓zq,zs,af,zt,aK]
     repeat refine⟨by omega,?_⟩
     exact⟨rfl,rfl⟩
   ·obtain⟨ok1,ok2,ok3,_⟩:=A.ok
    obtain⟨f1,f2⟩:=fj A.cl
    have hP:=P3.of x a b
    have hH:aq Tryz.prog 54 [.agg [.v (.string (mk [])),(E.list [x,a,b]).sp]] [] (bN (.v (.string (mk [42])))):=by rw[<-hx];exact v7 x [a,b]
    rcases uk hc with⟨y,z,rfl,hy⟩|⟨y,z,rfl,hy⟩
    ·simp only[Vl.nodes]at hm
     have hW:=P2.of (.atom [108]) (E.list [.atom [112],y.cG,z.cG])
     have hQ:=P3.of (.atom [112]) y.cG z.cG
     simp only[Vl.cG,bL]at hvh
     simp only[FO,bL,Vl.cG,toNat_one,bn,↓zq,zs,af,zt,hP.1,hP.2.1,hP.2.2.1,hP.2.2.2,hW.1,hW.2.1,hW.2.2,hQ.1,hQ.2.1,hQ.2.2.1,hQ.2.2.2,aK]
     refine⟨fun h=>absurd rfl h,fun _=>?_⟩
     repeat refine⟨by omega,?_⟩
     refine aj hH ?_
     simp only[↓zq,zs,af,zt]
     refine aj hvh ?_
     simp only[vh,↓zq,zs,af,zt,bj,aR]
     refine⟨by simp[cS],fun h=>by simp at h,fun _=>⟨fun h=>by simp at h,fun _=>⟨fun _=>?_,fun h=>absurd rfl h⟩⟩⟩
     repeat refine⟨by omega,?_⟩
     refine aj (Fy m y (by omega) a env t1 ⟨ok2,A.wf,ha,f1⟩ hy s v) ?_
     simp only[↓zq,zs,af,zt,aK]
     repeat refine⟨by omega,?_⟩
     refine aj (xY _ _ _) ?_
     simp only[↓zq,zs,af,zt,aK]
     repeat refine⟨by omega,?_⟩
     exact⟨rfl,rfl⟩
    ·simp only[Vl.nodes]at hm
     have hW:=P2.of (.atom [114]) (E.list [.atom [112],y.cG,z.cG])
     have hQ:=P3.of (.atom [112]) y.cG z.cG
     simp only[Vl.cG,bL]at hvh
     simp only[FO,bL,Vl.cG,toNat_one,bn,↓zq,zs,af,zt,hP.1,hP.2.1,hP.2.2.1,hP.2.2.2,hW.1,hW.2.1,hW.2.2,hQ.1,hQ.2.1,hQ.2.2.1,hQ.2.2.2,aK]
     refine⟨fun h=>absurd rfl h,fun _=>?_⟩
     repeat refine⟨by omega,?_⟩
     refine aj hH ?_
     simp only[↓zq,zs,af,zt]
     refine aj hvh ?_
     simp only[vh,↓zq,zs,af,zt,bj,aR]
     refine⟨by simp[cS],fun h=>by simp at h,fun _=>⟨fun h=>by simp at h,fun _=>⟨fun h=>by simp at h,fun _=>⟨fun _=>?_,fun h=>absurd rfl h⟩⟩⟩⟩
     repeat refine⟨by omega,?_⟩
     refine aj (Fy m z (by omega) b env t2 ⟨ok3,A.wf,hbb,f2⟩ hy s v) ?_
     simp only[↓zq,zs,af,zt,aK]
     repeat refine⟨by omega,?_⟩
     refine aj (xY _ _ _) ?_
     simp only[↓zq,zs,af,zt,aK]
     repeat refine⟨by omega,?_⟩
     exact⟨rfl,rfl⟩
   ·obtain⟨t1',he1,h1,f1,hw1⟩:=jP A.wf A.ok hx A.ty A.cl
    cases he1
    obtain⟨ok1,ok2,ok3,_⟩:=A.ok
    have A':Ask b (.mk a.at (.list [x,a,b]) env::env) t1:=⟨ok3,hw1,h1,f1⟩
    have hP:=P3.of x a b
    have hH:aq Tryz.prog 54 [.agg [.v (.string (mk [])),(E.list [x,a,b]).sp]] [] (bN (.v (.string (mk [114,101,99])))):=by rw[<-hx];exact v7 x [a,b]
    rcases Dp hc with⟨y,rfl,hy⟩|⟨y,z,rfl,hy,hz⟩
    ·simp only[Vl.nodes]at hm
     have hW:=P2.of (.atom [102]) (E.list [.atom [108],y.cG])
     have hQ:=P2.of (.atom [108]) y.cG
     have hvi:=Dh (.l y)
     rw[cU]at hvi
     simp only[Vl.cG,bL]at hvh hvi
     simp only[FO,bL,Vl.cG,toNat_one,bn,↓zq,zs,af,zt,hP.1,hP.2.1,hP.2.2.1,hP.2.2.2,hW.1,hW.2.1,hW.2.2,hQ.1,hQ.2.1,hQ.2.2,aK]
     refine⟨fun h=>absurd rfl h,fun _=>?_⟩
     repeat refine⟨by omega,?_⟩
     refine aj hH ?_
     simp only[↓zq,zs,af,zt]
     refine aj hvh ?_
     simp only[vh,↓zq,zs,af,zt,bj,aR]
     refine⟨by simp[cS],fun h=>by simp at h,fun _=>⟨fun h=>by simp at h,fun _=>⟨fun h=>by simp at h,fun _=>⟨fun h=>by simp at h,fun _=>?_⟩⟩⟩⟩
     repeat refine⟨by omega,?_⟩
     refine aj hvi ?_
     simp only[vh,↓zq,zs,af,zt]
     refine⟨fun _=>?_,fun h=>absurd rfl h⟩
     repeat refine⟨by omega,?_⟩
     refine aj (Fy m y (by omega) b _ t1 A' hy s v) ?_
     simp only[↓zq,zs,af,zt,aK]
     repeat refine⟨by omega,?_⟩
     refine aj (xB _ _) ?_
     simp only[↓zq,zs,af,zt,aK]
     repeat refine⟨by omega,?_⟩
     exact⟨rfl,rfl⟩
    ·simp only[Vl.nodes]at hm
     have hW:=P2.of (.atom [102]) (E.list [.atom [114],E.list [.atom [112],y.cG,z.cG]])
     have hQ:=P2.of (.atom [114]) (E.list [.atom [112],y.cG,z.cG])
     have hR:=P3.of (.atom [112]) y.cG z.cG
     have hvi:=Dh (.r (.p y z))
     rw[cU]at hvi
     simp only[Vl.cG,bL]at hvh hvi
     simp only[FO,bL,Vl.cG,toNat_one,bn,↓zq,zs,af,zt,hP.1,hP.2.1,hP.2.2.1,hP.2.2.2,hW.1,hW.2.1,hW.2.2,hQ.1,hQ.2.1,hQ.2.2,hR.1,hR.2.1,hR.2.2.1,hR.2.2.2,aK]
     refine⟨fun h=>absurd rfl h,fun _=>?_⟩
     repeat refine⟨by omega,?_⟩
     refine aj hH ?_
     simp only[↓zq,zs,af,zt]
     refine aj hvh ?_
     simp only[vh,↓zq,zs,af,zt,bj,aR]
     refine⟨by simp[cS],fun h=>by simp at h,fun _=>⟨fun h=>by simp at h,fun _=>⟨fun h=>by simp at h,fun _=>⟨fun h=>by simp at h,fun _=>?_⟩⟩⟩⟩
     repeat refine⟨by omega,?_⟩
     refine aj hvi ?_
     simp only[vh,↓zq,zs,af,zt]
     refine⟨fun h=>by simp at h,fun _=>?_⟩
     repeat refine⟨by omega,?_⟩
     have i1:=Fy m z (by omega) (.list [x,a,b]) env (.rc t1) A hz s v
     unfold UU at i1
     simp only[bL]at i1
     refine aj i1 ?_
     simp only[↓zq,zs,af,zt,aK]
     repeat refine⟨by omega,?_⟩
     refine aj (Fy m y (by omega) b _ t1 A' hy a.at (cL (.rc t1) z v)) ?_
     simp only[↓zq,zs,af,zt,aK]
     repeat refine⟨by omega,?_⟩
     refine aj (xB _ _) ?_
     simp only[↓zq,zs,af,zt,aK]
     repeat refine⟨by omega,?_⟩
     exact⟨rfl,rfl⟩
  ·cases e with
   |atom s0=>exact atomCase _ rfl (oU _ _ _)
   |list l=>exact absurd hq (by rw[show (E.list l).at=[] from rfl,lW A.wf];simp)
end Go.Proofs.Trees
namespace Go.Proofs.Trees
open Go Go.VL Go.RowKit
abbrev Il:Ob:=.cells [.v (.string (mk [])),.v (.slice none 0 0),.v (.string (mk []))]
theorem ZT.le{s d:Nm}{a:Ty}{x A B:E}{D:Ty}(z:ZT s d a x A B D):qg s=some (.list [x,A,B]):=by
 unfold qg;rw[z.ce];simp[mr,z.hx]
theorem mn(o:Option Nm):rI o=.cv [.v (.string (mk (o.getD []))),.v (.bool o.isSome)]:=by cases o<;>rfl
theorem Bg{a:Ty}{w v:Vl}(hw:Cx a w)(hv:Fo a v):(Vl.f (cL a w v)).cf.length<=900000:=by
 have h1:=eU (Vl.f (cL a w v)) (by exact ns 100 a w v hw.fu hv.fu)
 have h2:=oY a w v
 have:=hw.nd
 have:=hv.nd
 simp only[Vl.nodes]at h1
 omega
abbrev Bh(a:Ty)(w v:Vl):Option Nm:=if(Vl.f (cL a w v)).nodes<=200 then some (Vl.f (cL a w v)).cf else none
theorem Sb{s d:Nm}{a:Ty}{x A B:E}{D:Ty}(z:ZT s d a x A B D)(w v:Vl)(hw:mZ d w.cf 100=some w)(hv:Fo a v):aq Tryz.prog 155 [.v (.string (mk s)),.v (.string (mk w.cf)),.v (.string (mk v.cf))] [] (bN (rI (Bh a w v))):=by
 have hC:=z.ctx hw
 have hv2:mZ s v.cf 100=some v:=by rw[z.cf hv.fu hv.ty,if_pos hv.nd]
 refine SH _ _ _ ?_
 unfold MW
 refine aQ (BO s) (iU.ne _ _ (fun h=>h)) ?_
 rintro r o ⟨c,e,he,rfl,hh⟩
 rw[z.le]at hh
 obtain⟨e',he',hce⟩:=hh rfl
 cases he'
 rw[cU]at hce
 simp only[AV.agg.injEq,List.cons.injEq,AV.v.injEq,Value.string.injEq,and_true]at hce
 obtain⟨hc1,rfl⟩:=hce
 rw[z.le,hc1]
 simp only[↓zq,zs,af,zt,aK,bL]
 repeat refine⟨by omega,?_⟩
 refine aj (Q0 s) ?_
 rw[mn,z.dl]
 simp only[↓zq,zs,af,zt,a6,cH]
 refine⟨fun h=>by simp at h,fun _=>⟨fun h=>by simp at h,fun _=>?_⟩⟩
 refine aj (FF d w.cf 100) ?_
 rw[hw]
 simp only[↓zq,zs,af,a6]
 refine⟨fun h=>by simp at h,fun _=>?_⟩
 refine aj (FF s v.cf 100) ?_
 rw[hv2]
 simp only[↓zq,zs,af,a6]
 refine⟨fun h=>by simp at h,fun _=>?_⟩
 have hP:=P3.of x A B
 have rd:∀q:Vl,q.fu 100->q.nodes<=200->∀{Q:AV->List Ob->Prop},(∀o,Q (.cv [.agg [.v (.string (mk q.cG.at)),q.cG.sp],.v (.bool true)]) o)->∀r o,iU ((rp q.cf).map Vl.cG) (rp q.cf).isSome r o->Q r o:=by
  intro q hu hn Q hQ r o
  rw[rL hu hn]
  rintro⟨c,e,he,rfl,hh⟩
  obtain⟨e',he',hce⟩:=hh rfl
  cases he'
  rw[cU]at hce
  rw[hce]
  exact hQ o
 refine aQ (HY w.cf) (iU.ne _ _ (fun h=>by simpa using h)) (rd w hC.fu hC.nd fun o=>?_)
 simp only[↓zq,zs,af,zt,aK]
 repeat refine⟨by omega,?_⟩
 refine aQ (HY v.cf) (iU.ne _ _ (fun h=>by simpa using h)) (rd v hv.fu hv.nd fun o=>?_)
 simp only[toNat_one,bn,↓zq,zs,af,zt,hP.1,hP.2.1,hP.2.2.1,hP.2.2.2,aK,aV]
 repeat refine⟨by omega,?_⟩
 refine aj (Fy w.nodes w (au _) B _ a z.body hC.ok A.at v) ?_
 simp only[↓zq,zs,af,zt,aK]
 repeat refine⟨by omega,?_⟩
 refine aj (xB _ _) ?_
 simp only[↓zq,zs,af,zt,aK]
 repeat refine⟨by omega,?_⟩
 have htx:=Eb (Vl.f (cL a w v)).cG (iR _) (Bg hC hv)
 rw[cU]at htx
 simp only[Vl.cG,bL]at htx
 refine aj htx ?_
 simp only[↓zq,zs,af,zt]
 refine aj (FF s (Vl.f (cL a w v)).cf 100) ?_
 rw[z.cf (w:=Vl.f (cL a w v)) (by exact ns 100 a w v hC.fu hv.fu) (hC.ty v hv.ty)]
 unfold Bh
 by_cases hn:(Vl.f (cL a w v)).nodes<=200
 ·rw[if_pos hn,if_pos hn]
  simp only[↓zq,zs,af,a6]
  exact⟨fun h=>by simp at h,fun _=>⟨rfl,rfl⟩⟩
 ·rw[if_neg hn,if_neg hn]
  simp only[↓zq,zs,af,bf]
  exact⟨fun _=>⟨rfl,rfl⟩,fun h=>by simp at h⟩
theorem oX{d:Nm}:∀{p:List Nm} {l:List Vl},eS d p=some l->p=l.map (·.cf)->∀c,c∈l->mZ d c.cf 100=some c
 |[],l,h,_,c,hc=>by cases h;cases hc
 |
  q::r,l,h,hp,c,hc=>by
  simp only[eS]at h
  split at h
  ·rename_i w l' h1 h2
   cases h
   simp only[bA,List.cons.injEq]at hp
   rcases aI.1 hc with rfl|hc
   ·rw[<-hp.1];exact h1
   ·exact oX h2 hp.2 c hc
  ·cases h
structure St(s d:Nm)(a:Ty)(l:List Vl)(v:Vl):Prop where
 z:∃x A B D,ZT s d a x A B D
 i:ZI a l v
 each:∀c,c∈l->mZ d c.cf 100=some c
 len:l.length<=50
def Bj(s:Nm)(pa:AV)(a:Ty)(l:List Vl)(v:Vl):AV:=match l.getLast? with
 |none=>.cv [.agg [.v (.string (mk s)),pa,.v (.string (mk v.cf))],.v (.bool false)]
 |some c=>.cv [.agg [.v (.string (mk s)),.sl (bX (l.dropLast.map (·.cf))),.v (.string (mk ((Bh a c v).getD [])))],.v (.bool (Bh a c v).isSome)]
theorem Tz{s d:Nm}{a:Ty}{l:List Vl}{v:Vl}(h:St s d a l v)(pa:AV)(hp:cQ pa (l.map (·.cf))):aq Tryz.prog 131 [.agg [.v (.string (mk s)),pa,.v (.string (mk v.cf))]] [] (bN (Bj s pa a l v)):=by
 refine TB _ _ _ hp.1 ?_
 unfold K2
 have hlen:=h.len
 simp only[↓zq,zs,af,zt,hp.len,cn,kT]
 unfold Bj
 refine⟨hp.1,fun h0=>?_,fun h0=>?_⟩
 ·have:l=[]:=cg (by omega)
  subst this
  exact⟨rfl,rfl⟩
 ·have hpos:0<l.length:=by omega
  have hne:l≠[]:=by rintro rfl;simp at hpos
  rw[wrap64 ((l.length:Int)-1) (by omega) (by omega)]
  have e1:((l.length:Int)-1).toNat=l.length-1:=by omega
  have hlt:l.length-1<(l.map (·.cf)).length:=by rw[cn];omega
  have hlt':l.length-1<l.length:=by omega
  have hlast:l.getLast?=some (l[l.length-1]):=by rw[List.getLast?_eq_some_getLast hne,List.getLast_eq_getElem]
  rw[hlast]
  have hm:=bh hlt'
  have hg:(l.map (·.cf)).getD (l.length-1) []=(l[l.length-1]).cf:=by rw[aa,a7 hlt,List.getElem_map];rfl
  obtain⟨x,A,B,D,z⟩:=h.z
  rw[e1,hp.idx hlt,hg]
  generalize l[l.length-1]=c at *
  simp only[↓zq,zs,af,zt]
  refine⟨⟨hp.1,by omega⟩,by omega,?_⟩
  refine aj (Sb z c v (h.each c hm) h.i.rY) ?_
  rw[mn]
  simp only[↓zq,zs,af,zt]
  refine⟨⟨hp.1,by omega⟩,⟨fun y hy=>?_,?_⟩,?_,rfl⟩
  ·rw[hp.2]at hy
   have:=List.mem_of_mem_take hy
   obtain⟨t,_,rfl⟩:=bO.1 this
   rfl
  ·rw[hp.2];simp[bX];omega
  ·have:pa.elems.take (l.length-1)=bX (l.dropLast.map (·.cf)):=by
    rw[hp.2,List.dropLast_eq_take,List.map_take];simp[bX,List.map_take]
   rw[this];rfl
theorem St.up{s d:Nm}{a:Ty}{l l':List Vl}{v w:Vl}(h:St s d a l v)(hu:vF a l v=some (l',w)):St s d a l' w:=by
 obtain⟨h1,h2,c,h3,_⟩:=vL h.i hu
 have hl:=h.len
 exact⟨h.z,h1,fun c' hc'=>h.each c' (by rw[h3];exact aD _ hc'),by omega⟩
theorem BB{s:Nm}{pa:AV}{a:Ty}{l l':List Vl}{v w:Vl}(hu:vF a l v=some (l',w)):Bj s pa a l v=.cv [.agg [.v (.string (mk s)),.sl (bX (l'.map (·.cf))),.v (.string (mk w.cf))],.v (.bool true)]:=by
 unfold vF at hu
 unfold Bj
 cases q:l.getLast? with
 |none=>rw[q]at hu;cases hu
 |
  some c =>
  rw[q]at hu
  simp only at hu |-
  unfold Bh
  split at hu
  ·rename_i hn
   cases hu
   rw[if_pos hn];rfl
  ·cases hu
theorem AN{s:Nm}{pa:AV}{a:Ty}{l:List Vl}{v:Vl}(hpa:LK.sl.has pa)(hu:vF a l v=none):∃p f,LK.sl.has p/\Bj s pa a l v=.cv [.agg [.v (.string (mk s)),p,.v (.string (mk f))],.v (.bool false)]:=by
 unfold vF at hu
 unfold Bj
 cases q:l.getLast? with
 |none=>exact⟨_,_,hpa,rfl⟩
 |
  some c =>
  rw[q]at hu
  simp only at hu |-
  unfold Bh
  split at hu
  ·cases hu
  ·rename_i hn
   rw[if_neg hn];exact⟨_,_,(cc _).mpr trivial,rfl⟩
def HB(s:Nm)(o:Option Vl):Nat->List AV->List Ob->Prop:=fun k ys ob=>match o with
 |some w=>k=1/\ys=[]/\∃pa,LK.sl.has pa/\ob=[.cells [.v (.string (mk s)),pa,.v (.string (mk w.cf))],Il]
 |none=>k=2/\ys=[.v (.bool false)]/\∃pa f,LK.sl.has pa/\ob=[.cells [.v (.string (mk s)),pa,.v (.string (mk f))]]
theorem NX(s d:Nm)(a:Ty):∀(n:Nat) (l:List Vl) (v:Vl) (pa:AV),l.length=n->St s d a l v->cQ pa (l.map (·.cf))->Iw [] [.cells [.v (.string (mk s)),pa,.v (.string (mk v.cf))],Il] (HB s (j3 n a l v))
 |
  0,l,v,pa,hl,h,hp=>by
  refine LC _ _ _ _ _ _ ?_
  simp only[Jw,↓zq,zs,af,zt,af,bo,hp.len,cn,hl,j3]
  refine⟨hp.1,hp.1,fun h=>by omega,fun _=>?_⟩
  exact⟨rfl,rfl,pa,hp.1,rfl⟩
 |
  n+1,l,v,pa,hl,h,hp=>by
  refine LC _ _ _ _ _ _ ?_
  simp only[Jw,↓zq,zs,af,zt,af,bo,hp.len,cn,hl]
  refine⟨hp.1,hp.1,fun _=>?_,fun h=>by omega⟩
  refine aj (Tz h pa hp) ?_
  rw[j3]
  cases q:vF a l v with
  |
   none =>
   obtain⟨p',f',h1,h2⟩:=AN (s:=s) hp.1 q
   rw[h2]
   simp only[↓zq,zs,af,zt,bE,bC]
   exact⟨h1,fun _=>⟨rfl,rfl,pa,v.cf,hp.1,rfl⟩,fun h=>by simp at h⟩
  |
   some r =>
   obtain⟨l',w⟩:=r
   obtain⟨_,hlen,_⟩:=vL h.i q
   rw[BB q]
   simp only[↓zq,zs,af,zt,bE,aS,cc]
   refine⟨fun h=>by simp at h,fun _=>?_⟩
   exact NX s d a n l' w _ (by omega) (h.up q) (cQ.of _)
def C3(o:Option Vl):AV->List Ob->Prop:=fun r ob=>ob=[]/\∃c0 pa c2,LK.sl.has pa/\r=.cv [.agg [.v (.string c0),pa,.v (.string c2)],.v (.bool o.isSome)]/\∀w,o=some w->c2=mk w.cf
theorem C3.ne(o:Option Vl):∃r ob,C3 o r ob:=⟨_,[],rfl,mk [],.sl [],mk ((o.map (·.cf)).getD []),(cc _).mpr trivial,rfl,fun w h=>by rw[h];rfl⟩
theorem QY{s d:Nm}{a:Ty}{l:List Vl}{v:Vl}(h:St s d a l v)(pa:AV)(hp:cQ pa (l.map (·.cf))):aq Tryz.prog 92 [.agg [.v (.string (mk s)),pa,.v (.string (mk v.cf))]] [] (C3 (rb a l v)):=by
 refine Ua _ _ _ hp.1 ?_
 unfold Qr
 have hloop:=NX s d a l.length l v pa rfl h hp
 refine lM hloop (fun ys o e=>?_) (fun ys o e=>?_)
 ·unfold HB at e
  unfold rb
  cases q:j3 l.length a l v with
  |none=>rw[q]at e;exact absurd e.1 (by decide)
  |
   some w =>
   rw[q]at e
   obtain⟨_,rfl,p',h1,rfl⟩:=e
   simp only[↓zq,zs,af,zt,af,bo]
   exact⟨h1,rfl,_,_,_,h1,rfl,fun w' h=>by cases h;rfl⟩
 ·unfold HB at e
  unfold rb
  cases q:j3 l.length a l v with
  |some w=>rw[q]at e;exact absurd e.1 (by decide)
  |
   none =>
   rw[q]at e
   obtain⟨_,rfl,p',f',h1,rfl⟩:=e
   simp only[↓zq,zs,af,zt,af]
   exact⟨h1,rfl,_,_,_,h1,rfl,fun w' h=>by cases h⟩
theorem Ll(s d f:Nm)(pa:AV)(p:List Nm)(hp:cQ pa p)(hl:p.length<=50):∀(k i:Nat),i+k=p.length->JQ [.v (.string (mk d)),.v (.int .i64 (i:Int))] [.cells [.v (.string (mk s)),pa,.v (.string (mk f))]] (ox (if(eS d (p.drop i)).isSome=true then(1,[],[])else(2,[.v (.bool false)],[])))
 |
  0,i,hi=>by
  refine Oy _ _ _ _ _ ?_
  have:i=p.length:=by omega
  subst this
  simp only[Jq,↓zq,zs,af,zt,af,hp.len,List.drop_length]
  exact⟨hp.1,hp.1,fun h=>by omega,fun _=>rfl⟩
 |
  k+1,i,hi=>by
  have hlt:i<p.length:=by omega
  have hd:p.drop i=p.getD i []::p.drop (i+1):=by rw[aL hlt];simp[aa,hlt]
  refine Oy _ _ _ _ _ ?_
  simp only[Jq,↓zq,zs,af,zt,af,hp.len,hp.idx hlt,bF]
  refine⟨hp.1,hp.1,fun _=>⟨⟨hp.1,by omega,by omega⟩,by omega,?_⟩,fun h=>by omega⟩
  refine aj (FF d (p.getD i []) 100) ?_
  rw[hd,eS]
  simp only[↓zq,zs,af]
  cases q:mZ d (p.getD i []) 100 with
  |
   none =>
   simp only[bf]
   exact⟨fun _=>rfl,fun h=>by simp at h⟩
  |
   some w =>
   simp only[a6]
   refine⟨fun h=>by simp at h,fun _=>?_⟩
   rw[bB i (by omega)]
   have ih:=Ll s d f pa p hp hl k (i+1) (by omega)
   cases q2:eS d (p.drop (i+1))with
   |none=>rw[q2]at ih;exact ih
   |some l=>rw[q2]at ih;exact ih
theorem vr(s:Nm)(p:List Nm)(f:Nm):tA s p f=(cP s).bind fun d=>(gy s).bind fun _=>(mZ s f 100).bind fun v=>if p.length<=50 then(eS d p).map fun l=>(l,v)else none:=by
 unfold tA gM
 cases gy s with
 |none=>cases cP s<;>rfl
 |some a=>cases mZ s f 100<;>cases cP s<;>rfl
theorem Sp(s:Nm)(pa:AV)(p:List Nm)(hp:cQ pa p)(f:Nm):aq Tryz.prog 130 [.agg [.v (.string (mk s)),pa,.v (.string (mk f))]] [] (bN (.v (.bool (tA s p f).isSome))):=by
 refine UL _ _ _ hp.1 ?_
 unfold MY
 refine aj (Q0 s) ?_
 rw[mn]
 simp only[↓zq,zs,af,zt]
 refine aQ (BO s) (iU.ne _ _ (fun h=>h)) ?_
 rintro r o ⟨c,e,he,rfl,_⟩
 rw[m9]
 simp only[↓zq,zs,af,zt,bE,hp.len]
 rw[vr]
 refine⟨he,fun h=>?_,fun h=>⟨fun h'=>?_,fun h'=>⟨hp.1,fun h''=>?_,fun h''=>?_⟩⟩⟩
 ·have:cP s=none:=by cases q:cP s with|none=>rfl|some d=>simp[q]at h
  rw[this]
  exact⟨rfl,rfl⟩
 ·have:gy s=none:=by cases q:gy s with|none=>rfl|some d=>simp[q]at h'
  rw[this]
  cases cP s<;>exact⟨rfl,rfl⟩
 ·simp only[if_neg (show ¬p.length<=50 by omega)]
  exact⟨by cases cP s<;>cases gy s<;>cases mZ s f 100<;>rfl,rfl⟩
 ·obtain⟨d,hd⟩:∃d,cP s=some d:=by cases q:cP s with|none=>simp[q]at h|some d=>exact⟨d,rfl⟩
  obtain⟨a,ha⟩:∃a,gy s=some a:=by cases q:gy s with|none=>simp[q]at h'|some d=>exact⟨d,rfl⟩
  rw[hd,ha]
  refine aj (FF s f 100) ?_
  simp only[↓zq,zs,af]
  cases q:mZ s f 100 with
  |none=>simp only[bf];exact⟨fun _=>⟨rfl,rfl⟩,fun h=>by simp at h⟩
  |
   some v =>
   simp only[a6,cH,aS]
   refine⟨fun h=>by simp at h,fun _=>?_⟩
   have hl:p.length<=50:=by omega
   have hloop:=Ll s d f pa p hp hl p.length 0 (by omega)
   rw[aZ]at hloop
   rw[if_pos hl]
   refine eC hloop (fun ys o e=>?_) (fun ys o e=>?_)
   ·cases q2:eS d p with
    |none=>rw[q2]at e;cases e
    |some l=>exact⟨rfl,rfl⟩
   ·cases q2:eS d p with
    |none=>rw[q2]at e;cases e;simp only[↓zq,zs,af];exact⟨rfl,rfl⟩
    |some l=>rw[q2]at e;cases e
theorem yH{s:Nm}{p:List Nm}{f:Nm}{l:List Vl}{v:Vl}(h:tA s p f=some (l,v)):∃d,St s d (zA s) l v/\p=l.map (·.cf)/\f=v.cf:=by
 obtain⟨d,a,x,A,B,D,z,hz,hp,hf,hl,hza,_,hr⟩:=nu h
 rw[hza]
 exact⟨d,⟨⟨x,A,B,D,z⟩,hz,oX hr hp,by rw[hp]at hl;simpa using hl⟩,hp,hf⟩
theorem F5(s:Nm)(pa:AV)(p:List Nm)(hp:cQ pa p)(f:Nm):aq Tryz.prog 90 [.agg [.v (.string (mk s)),pa,.v (.string (mk f))]] [] (bN (.v (.bool (ia s p f).isSome))):=by
 refine Se _ _ _ hp.1 ?_
 unfold OY
 refine aj (Sp s pa p hp f) ?_
 simp only[↓zq,zs,af]
 unfold ia
 cases q:tA s p f with
 |none=>simp only[bf];exact⟨fun _=>⟨rfl,rfl⟩,fun h=>by simp at h⟩
 |
  some r =>
  obtain⟨l,v⟩:=r
  obtain⟨d,hs,rfl,rfl⟩:=yH q
  simp only[a6,aS]
  refine⟨fun h=>by simp at h,fun _=>?_⟩
  refine aQ (QY hs pa hp) (C3.ne _) ?_
  rintro r o ⟨rfl,c0,p',c2,h1,rfl,_⟩
  simp only[↓zq,zs,af,zt,bE]
  refine⟨h1,?_,rfl⟩
  congr 2
  cases rb (zA s) l v<;>rfl
end Go.Proofs.Trees
namespace Go.Proofs.Trees
open Go Go.VL Go.RowKit
inductive Rl(x:Nm):Nat->Tg->Tg->Prop
 |nm (i):Rl x i (.nm x) (.bd i)
 |lE (i s) (h:s≠x):Rl x i (.nm s) (.nm s)
 |bd (i j) (h:j≠i):Rl x i (.bd j) (.bd j)
theorem Rl.up{x:Nm}{i:Nat}{a b:Tg}(h:Rl x i a b):Rl x (i+1) a.up b.up:=by
 cases h with
 |nm=>exact .nm _
 |lE s h=>exact .lE _ _ h
 |bd j h=>exact .bd _ _ (by omega)
theorem Rl.at{x:Nm}{i:Nat}{a b:Tg}(h:Rl x i a b):∀t:Ty,bz x t=false->eH (dR (.name x) t i) a=eH t b
 |
  .bound k,_=>by
  simp only[dR]
  cases h with
  |
   nm =>
   by_cases e:k=i
   ·simp[e,eH]
   ·simp[e,eH]
  |
   lE s h =>
   by_cases e:k=i
   ·simp[e,eH,Ne.symm h]
   ·simp[e,eH]
  |
   bd j h =>
   by_cases e:k=i
   ·simp[e,eH,Ne.symm h]
   ·simp[e,eH]
 |
  .name s,hn=>by
  have hs:s≠x:=by simpa[bz]using hn
  cases h with
  |nm=>simp[dR,eH,hs]
  |lE=>rfl
  |bd=>rfl
 | .plus _ _,_=>by cases h<;>rfl
 | .times _ _,_=>by cases h<;>rfl
 | .rc _,_=>by cases h<;>rfl
 | .zero,_=>by cases h<;>rfl
 | .one,_=>by cases h<;>rfl
theorem iw(x:Nm):∀(n:Nat) (t:Ty) (i:Nat) (a b:Tg) (v:Vl),bz x t=false->Rl x i a b->dY n (dR (.name x) t i) a v=dY n t b v
 |0,_,_,_,_,_,_,_=>rfl
 |
  n+1,t,i,a,b,v,hn,h=>by
  rw[dY,dY,h.at t hn]
  by_cases ht:eH t b=true
  ·rw[if_pos ht,if_pos ht]
  ·rw[if_neg ht,if_neg ht]
   cases t with
   |
    plus p q =>
    simp only[bz,cF]at hn
    cases v<;>simp only[dR,jT,iw x n p i a b _ hn.1 h,iw x n q i a b _ hn.2 h]
   |
    times p q =>
    simp only[bz,cF]at hn
    cases v<;>simp only[dR,jT,iw x n p i a b _ hn.1 h,iw x n q i a b _ hn.2 h]
   |
    rc p =>
    have h0:Rl x (i+1) (.bd 0) (.bd 0):=.bd _ _ (by omega)
    cases v<;>simp only[dR,jT]
    rename_i w
    rw[iw x n p (i+1) a.up b.up w hn h.up,iw x n p (i+1) (.bd 0) (.bd 0) w hn h0]
    congr 1
    apply kH
    intro k _
    have:=iw x n (.rc p) i a b k.2 hn h
    simp only[dR]at this
    rw[this]
   |
    bound k =>
    simp only[dR]
    by_cases e:k=i
    ·rw[if_pos e];cases v<;>rfl
    ·rw[if_neg e];cases v<;>rfl
   |name s=>rfl
   |zero=>rfl
   |one=>rfl
theorem oz(x:Nm){t:Ty}{i:Nat}{a b:Tg}(v:Vl)(hn:bz x t=false)(h:Rl x i a b):bQ (dR (.name x) t i) a v=bQ t b v:=iw x _ t i a b v hn h
theorem nP(n:Nat):∀(m:Nat) (v:Vl),v.nodes<=m->∀(t:Ty) (s:Nm) (d:Ty) (σ:Nm->Option Ty),Dv t s d->FX σ->kP t 0->vT n v (fB σ t)=true->∀h,h∈bQ t (.nm s) v ->
 vT n h.1 (fB σ d)=true/\vT n h.2 (fB σ (.name s))=true/\cL t h.1 h.2=v
 |0,v,hm=>by have:=cM v;omega
 |
  m+1,v,hm=>by
  intro t s d σ hd hσ hl hv h hh
  cases hd with
  |zero=>rw[dE rfl (by cases v<;>rfl)]at hh;cases hh
  |one=>rw[dE rfl (by cases v<;>rfl)]at hh;cases hh
  |bound=>rw[dE rfl (by cases v<;>rfl)]at hh;cases hh
  |sX hne=>rw[dE (by simp[eH,hne]) (by cases v<;>rfl)]at hh;cases hh
  |
   hit =>
   rw[kk v (by simp[eH])]at hh
   simp only[aU]at hh
   subst hh
   exact⟨rfl,hv,l9 _ _ _⟩
  |
   @plus a b _ a' b' h1 h2 _ =>
   rcases mj hv with⟨w,rfl,hw⟩|⟨w,rfl,hw⟩
   ·simp only[Vl.nodes]at hm
    rw[jA]at hh
    obtain⟨k,hk,rfl⟩:=cN hh
    obtain⟨q1,q2,q3⟩:=nP n m w (by omega) _ s _ σ h1 hσ hl.1 hw k hk
    exact⟨q1,q2,congrArg Vl.l q3⟩
   ·simp only[Vl.nodes]at hm
    rw[jw]at hh
    obtain⟨k,hk,rfl⟩:=cN hh
    obtain⟨q1,q2,q3⟩:=nP n m w (by omega) _ s _ σ h2 hσ hl.2 hw k hk
    exact⟨q1,q2,congrArg Vl.r q3⟩
  |
   @times a b _ a' b' h1 h2 _ =>
   obtain⟨x,y,rfl,hx,hy⟩:=kt hv
   simp only[Vl.nodes]at hm
   rw[gA]at hh
   rcases aP.1 hh with hh|hh
   ·obtain⟨k,hk,rfl⟩:=cN hh
    obtain⟨q1,q2,q3⟩:=nP n m x (by omega) _ s _ σ h1 hσ hl.1 hx k hk
    refine⟨?_,q2,congrArg (fun q=>Vl.p q y) q3⟩
    show (vT n k.1 (fB σ a')&&vT n y (fB σ b))=true
    rw[q1,hy];rfl
   ·obtain⟨k,hk,rfl⟩:=cN hh
    obtain⟨q1,q2,q3⟩:=nP n m y (by omega) _ s _ σ h2 hσ hl.2 hy k hk
    refine⟨?_,q2,congrArg (Vl.p x) q3⟩
    show (vT n x (fB σ a)&&vT n k.1 (fB σ b'))=true
    rw[q1,hx];rfl
  |
   @rc a _ c0 d0 x hx hs h1 h2 hsz =>
   have lo:kP (dR (.name x) a 0) 0:=jg x a hl
   obtain⟨X,e1,e2⟩:=sW (x:=x) hσ hl (h1.lc lo) (h2.lc lo)
   obtain⟨w,rfl,hw⟩:=E1 hv
   simp only[Vl.nodes]at hm
   have hcl:=pq hσ x (lA hσ (.rc a) hl)
   have hop:fB (jL σ x (fB σ (.rc a))) (dR (.name x) a 0)=dR (fB σ (.rc a)) (fB σ a) 0:=j0 hσ x _ a 0 hx
   have hns:fB (jL σ x (fB σ (.rc a))) (.name s)=fB σ (.name s):=by simp only[fB,jL,if_neg (Ne.symm hs)]
   have hnx:fB (jL σ x (fB σ (.rc a))) (.name x)=fB σ (.rc a):=by simp[fB,jL]
   have hw':vT n w (fB (jL σ x (fB σ (.rc a))) (dR (.name x) a 0))=true:=by rw[hop];exact hw
   have ty:∀y,vT n y (dR (.rc X) X 0)=true->vT n (.f y) (fB σ (qA a x c0 d0))=true:=fun y hy=>by rw[e1];exact hy
   rw[gv]at hh
   rcases aP.1 hh with hh|hh
   ·obtain⟨k,hk,rfl⟩:=cN hh
    have hk':k∈bQ (dR (.name x) a 0) (.nm s) w:=by rw[oz x w hx (.lE 0 s (Ne.symm hs))];exact hk
    obtain⟨q1,q2,q3⟩:=nP n m w (by omega) _ s _ _ h1 hcl lo hw' k hk'
    rw[fF x k.1.nodes k.1 a 0 k.2 (au _)]at q3
    refine⟨ty _ ?_,by rw[<-hns];exact q2,congrArg Vl.f q3⟩
    rw[e2];exact q1
   ·obtain⟨k,hk,hh⟩:=dA.1 hh
    obtain⟨k2,hk2,rfl⟩:=cN hh
    have hk':k∈bQ (dR (.name x) a 0) (.nm x) w:=by rw[oz x w hx (.nm 0)];exact hk
    obtain⟨q1,q2,q3⟩:=nP n m w (by omega) _ x _ _ h2 hcl lo hw' k hk'
    rw[fF x k.1.nodes k.1 a 0 k.2 (au _)]at q3
    rw[hnx]at q2
    have hsz2:=(gn hk).1
    obtain⟨r1,r2,r3⟩:=nP n m k.2 (by omega) (.rc a) s _ σ (.rc x hx hs h1 h2 hsz) hσ hl q2 k2 hk2
    refine⟨ty _ ?_,r2,?_⟩
    ·rw[e2]
     show (vT n k.1 _&&vT n k2.1 _)=true
     rw[q1,r1];rfl
    ·show Vl.f (cL a k.1 (cL (.rc a) k2.1 k2.2))=.f w
     rw[r3,q3]
theorem EH{n:Nat}{a D:Ty}{x:Nm}(hx:bz x a=false)(hl:kP (.rc a) 0)(h:ql a x=some D){v:Vl}(hv:vT n v (.rc a)=true){k:Hl}(hk:k∈kids a v) :
 vT n k.1 D=true/\vT n k.2 (.rc a)=true/\.f (cL a k.1 k.2)=v:=by
 simp only[ql,bc,db,fA]at h
 obtain⟨d,hd,_,rfl⟩:=h
 have lo:kP (dR (.name x) a 0) 0:=jg x a hl
 have hcl:=pq vV x hl
 have e1:sub x (.rc a) d=fB (jL Hn x (.rc a)) d:=by
  have:=jB Hn x (.rc a) d
  rw[kD,kD]at this;exact this
 obtain⟨w,rfl,hw⟩:=E1 hv
 have hk':k∈bQ (dR (.name x) a 0) (.nm x) w:=by rw[oz x w hx (.nm 0)];exact hk
 have hop:fB (jL Hn x (.rc a)) (dR (.name x) a 0)=dR (.rc a) a 0:=by rw[j0 vV x _ a 0 hx,kD]
 obtain⟨q1,q2,q3⟩:=nP n w.nodes w (au _) _ x _ _ hd hcl lo (by rw[hop];exact hw) k hk'
 rw[fF x k.1.nodes k.1 a 0 k.2 (au _)]at q3
 refine⟨by rw[e1];exact q1,?_,congrArg Vl.f q3⟩
 simpa[fB,jL]using q2
theorem iA:∀{t:Ty},cj t=true->∃y,bz y t=true/\dx y=true
 | .name s,h=>⟨s,by simp[bz],h⟩
 |
  .plus a b,h=>by
  simp only[cj,bI]at h
  rcases h with h|h
  ·obtain⟨y,h1,h2⟩:=iA h;exact⟨y,by simp[bz,h1],h2⟩
  ·obtain⟨y,h1,h2⟩:=iA h;exact⟨y,by simp[bz,h1],h2⟩
 |
  .times a b,h=>by
  simp only[cj,bI]at h
  rcases h with h|h
  ·obtain⟨y,h1,h2⟩:=iA h;exact⟨y,by simp[bz,h1],h2⟩
  ·obtain⟨y,h1,h2⟩:=iA h;exact⟨y,by simp[bz,h1],h2⟩
 |
  .rc a,h=>by
  obtain⟨y,h1,h2⟩:=iA (t:=a) h;exact⟨y,by simp[bz,h1],h2⟩
theorem iF:∀{t:Ty} {y:Nm},bz y t=true->dx y=true->cj t=true
 |
  .name s,y,h,hl=>by
  have:s=y:=by simpa[bz]using h
  rw[this];exact hl
 |
  .plus a b,y,h,hl=>by
  simp only[bz,bI]at h
  simp only[cj,bI]
  exact h.imp (iF · hl) (iF · hl)
 |
  .times a b,y,h,hl=>by
  simp only[bz,bI]at h
  simp only[cj,bI]
  exact h.imp (iF · hl) (iF · hl)
 | .rc a,y,h,hl=>iF (t:=a) h hl
 | .zero,y,h,_=>by simp[bz]at h
 | .one,y,h,_=>by simp[bz]at h
 | .bound k,y,h,_=>by simp[bz]at h
theorem ZT.Vp{s d:Nm}{a:Ty}{x A B:E}{D:Ty}(z:ZT s d a x A B D):∃e,j7 d=some e/\Ask e [] D:=by
 have hcl:cj D=false:=by
  cases q:cj D with
  |false=>rfl
  |
   true =>
   obtain⟨y,h1,h2⟩:=iA q
   have:=iF (t:=.rc a) (ud z.lp y h1) h2
   rw[z.ask.cl]at this;cases this
 have hc:xF d=some D:=by unfold xF;rw[z.bk];simp only;rw[if_pos (by rw[tT,hcl];rfl)]
 cases q:j7 d with
 |none=>rw[nY q]at hc;cases hc
 |
  some e =>
  obtain⟨t,h1,hA,_⟩:=ir q
  rw[hc]at h1;cases h1
  exact⟨e,rfl,hA⟩
theorem ZT.UZ{s d:Nm}{a:Ty}{x A B:E}{D:Ty}(z:ZT s d a x A B D){w:Vl}(hb:w.fu 100)(hv:vT 100 w D=true):mZ d w.cf 100=if w.nodes<=200 then some w else none:=by
 obtain⟨e,he,hA⟩:=z.Vp
 unfold mZ
 rw[he]
 by_cases hn:w.nodes<=200
 ·rw[rL hb hn,if_pos hn]
  simp only
  rw[if_pos ⟨by omega,by rw[show (100:Int).toNat=100 from rfl,mc hA];exact hv⟩]
 ·rw[if_neg hn]
  cases q:rp w.cf with
  |none=>rfl
  |
   some w' =>
   exfalso
   obtain⟨_,h2,h3⟩:=mL q
   have:=n6 hb h2 (n0 q)
   rw[this]at hn;exact hn h3
theorem ZT.Jz{s d:Nm}{a:Ty}{x A B:E}{D:Ty}(z:ZT s d a x A B D){v:Vl}(hv:Fo a v){k:Hl}(hk:k∈kids a v):vT 100 k.1 D=true/\Fo a k.2/\.f (cL a k.1 k.2)=v:=by
 obtain⟨e2,he2,hw2,hte2,_,_⟩:=qo z.y
 have hlc:kP (.rc a) 0:=hte2 ▸ hw2.sn.1
 obtain⟨q1,q2,q3⟩:=EH (yf z.y) hlc z.lp hv.ty hk
 have:=gd hk
 have:=hv.nd
 exact⟨q1,⟨q2,(eD hv.fu hk).2,by omega⟩,q3⟩
def tH(a:Ty)(l:List Vl)(v:Vl)(k:Int):Option (List Vl×Vl) :=
 if l.length=50 then none else if 0<=k/\k.toNat<(kids a v).length then
  (if((kids a v).getD k.toNat (.u,.u)).1.nodes<=200 then some (l++[((kids a v).getD k.toNat (.u,.u)).1],((kids a v).getD k.toNat (.u,.u)).2)else none)else none
theorem sV{a:Ty}{l:List Vl}{c e v:Vl}(h:.f (cL a c e)=v)(hn:v.nodes<=200):vF a (l++[c]) e=some (l,v)/\rb a (l++[c]) e=rb a l v:=by
 have hu:vF a (l++[c]) e=some (l,v):=by
  unfold vF
  rw[List.getLast?_concat]
  simp only
  rw[h,if_pos hn,List.dropLast_concat]
 refine⟨hu,?_⟩
 unfold rb
 rw[an,List.length_singleton,j3,hu]
 rfl
theorem BD{s d:Nm}{l:List Vl}{v:Vl}(hs:St s d (zA s) l v)(hd:cP s=some d)(hv:ia s (l.map (·.cf)) v.cf=some (l,v)){k:Hl}(hk:k∈kids (zA s) v) :
 ia s (l.map (·.cf)++[k.1.cf]) k.2.cf=if l.length=50 then none else if k.1.nodes<=200 then some (l++[k.1],k.2)else none:=by
 obtain⟨x,A,B,D,z⟩:=hs.z
 obtain⟨t1,t2,t3⟩:=z.Jz hs.i.rY hk
 have hb:=(eD hs.i.rY.fu hk).1
 have hz:=(im hv).1
 have hclo:=(im hv).2
 have hlen:=hs.len
 have hlp:eS d (l.map (·.cf))=some l:=by
  rw[vr,hd]at hz
  simp only[aS,z.l]at hz
  obtain⟨_,h1,h2⟩:=bc.1 hz
  split at h2
  ·obtain⟨l',h3,h4⟩:=Option.map_eq_some_iff.1 h2
   cases h4;exact h3
  ·cases h2
 have e1:mZ s k.2.cf 100=some k.2:=by rw[z.cf t2.fu t2.ty,if_pos t2.nd]
 unfold ia
 rw[vr,hd]
 simp only[aS,z.l,e1,uI,hlp,eS,z.UZ hb t1,an,cn,List.length_singleton]
 by_cases h50:l.length=50
 ·rw[if_neg (by omega),if_pos h50];rfl
 ·rw[if_pos (by omega),if_neg h50]
  by_cases hn:k.1.nodes<=200
  ·rw[if_pos hn,if_pos hn]
   simp only[cz,aS,(sV (l:=l) t3 hs.i.rY.nd).2]
   rw[if_pos hclo]
  ·rw[if_neg hn,if_neg hn];rfl
end Go.Proofs.Trees
namespace Go.Proofs.Trees
open Go Go.VL Go.RowKit
def Ej(s:Nm)(o:Option (List Vl×Vl)):AV->List Ob->Prop:=fun r obs=>obs=[]/\∃pa,cQ pa (tZ s o).2.1/\r=.cv [.agg [.v (.string (mk (tZ s o).1)),pa,.v (.string (mk (tZ s o).2.2))],.v (.bool o.isSome)]
theorem Ej.ne(s:Nm)(o:Option (List Vl×Vl)):∃r ob,Ej s o r ob:=⟨_,[],rfl,_,cQ.of _,rfl⟩
theorem Ej.none(s:Nm):Ej s none (.cv [.agg [.v (.string (mk [])),.v (.slice none 0 0),.v (.string (mk []))],.v (.bool false)]) []:=⟨rfl,_,cQ.nil,rfl⟩
theorem vz{s:Nm}{p:List Nm}{f:Nm}{l:List Vl}{v:Vl}(h:ia s p f=some (l,v)):∃d,St s d (zA s) l v/\p=l.map (·.cf)/\f=v.cf:=yH (im h).1
abbrev Tb(s:Nm)(o:Option (List Vl×Vl)):AV->List Ob->Prop:=dh (.cv [.agg [.v (.string (mk (tZ s o).1)),.vec 1,.v (.string (mk (tZ s o).2.2))],.v (.bool o.isSome)]) [.dead,.vec 1 (bX (tZ s o).2.1)]
theorem IG(s:Nm)(p:List Nm)(f:Nm):aq Tryz.prog 91 [.agg [.v (.string (mk s)),.vec 0,.v (.string (mk f))]] [.vec 1 (bX p)] (Tb s (ia s p f)):=by
 refine RM _ _ _ ?_
 unfold LR
 refine aj (F5 s _ p (cQ.of p) f) ?_
 simp only[↓zq,zs,af]
 cases q:ia s p f with
 |none=>simp only[bf];exact⟨fun _=>⟨rfl,rfl⟩,fun h=>by simp at h⟩
 |
  some r =>
  obtain⟨_,_,rfl,rfl⟩:=vz (l:=r.1) (v:=r.2) q
  simp only[a6]
  exact⟨fun h=>by simp at h,fun _=>⟨rfl,rfl⟩⟩
theorem wu(s f:Nm):ia s [] f=tA s [] f:=by
 unfold ia
 cases q:tA s [] f with
 |none=>rfl
 |
  some r =>
  obtain⟨l,v⟩:=r
  obtain⟨_,_,h,_⟩:=yH q
  have:l=[]:=List.map_eq_nil_iff.1 h.symm
  subst this
  rfl
theorem Tp(s f:Nm):aq Tryz.prog 88 [.v (.string (mk s)),.v (.string (mk f))] [] (CM s (tA s [] f)):=by
 refine Ut _ _ ?_
 unfold Qd
 rw[<-wu]
 refine aX (IG s [] f) ?_
 simp only[↓zq,zs,af,zt,aH,Ob.es,aM,bx]
 exact⟨rfl,rfl⟩
theorem Tc(s:Nm)(pa:AV)(p:List Nm)(hp:cQ pa p)(f g:Nm):aq Tryz.prog 47 [.agg [.v (.string (mk s)),pa,.v (.string (mk f))],.v (.string (mk g))] [] (CM s (xO s p f g)):=by
 refine RH _ _ _ _ hp.1 ?_
 unfold O3
 refine aj (F5 s pa p hp f) ?_
 simp only[↓zq,zs,af]
 unfold xO
 cases q:ia s p f with
 |none=>simp only[bf];exact⟨fun _=>⟨rfl,rfl⟩,fun h=>by simp at h⟩
 |
  some r =>
  obtain⟨l,v⟩:=r
  obtain⟨d,hs,rfl,_⟩:=vz q
  have hl:=hs.len
  simp only[a6,aS]
  refine⟨fun h=>by simp at h,fun _=>?_⟩
  refine⟨⟨hp.1,fun y hy=>?_,?_⟩,?_⟩
  ·rw[hp.2]at hy
   obtain⟨t,_,rfl⟩:=bO.1 hy
   rfl
  ·rw[hp.len,cn];simp;omega
  rw[aR,hp.2]
  refine aX (IG s _ g) ?_
  simp only[↓zq,zs,af,zt,aH,Ob.es,aM,bx]
  exact⟨rfl,rfl⟩
theorem RW(s:Nm)(pa:AV)(p:List Nm)(hp:cQ pa p)(f:Nm):aq Tryz.prog 48 [.agg [.v (.string (mk s)),pa,.v (.string (mk f))]] [] (bN (rI (qm s p f))):=by
 refine TT _ _ _ hp.1 ?_
 unfold KQ
 refine aj (F5 s pa p hp f) ?_
 simp only[↓zq,zs,af]
 unfold qm
 cases q:ia s p f with
 |none=>simp only[bf];exact⟨fun _=>⟨rfl,rfl⟩,fun h=>by simp at h⟩
 |
  some r =>
  obtain⟨l,v⟩:=r
  obtain⟨d,hs,rfl,rfl⟩:=vz q
  obtain⟨w,hw⟩:=a8.1 (im q).2
  simp only[a6,aS,hw,cz]
  refine⟨fun h=>by simp at h,fun _=>?_⟩
  refine aQ (QY hs pa hp) (C3.ne _) ?_
  rintro r o ⟨rfl,c0,p',c2,h1,rfl,h2⟩
  have:=h2 w hw
  subst this
  simp only[↓zq,zs,af,zt,bE]
  exact⟨h1,rfl,rfl⟩
def mG(l:List Hl):List (List AV):=l.map fun h=>[.v (.string (mk h.1.cf)),.v (.string (mk h.2.cf))]
theorem oO(l:List Hl):(mG l).length=l.length:=by simp[mG]
theorem Ny(l:List Hl)(hl:l.length<=1000)(h1:∀h,h∈l->h.1.cf.length<=900000)(h2:∀h,h∈l->h.2.cf.length<=900000):∀(k i:Nat) (out:List Hl),i+k=l.length->out.length<=i ->
 Ie [.sl (kh l),.v (.int .i64 (i:Int))] [.vec 2 (mG out)] (gK 1 [] [.vec 2 (mG (out++l.drop i))])
 |
  0,i,out,hi,ho=>by
  refine KK _ _ _ ?_
  have:i=l.length:=by omega
  subst this
  simp only[Hy,↓zq,zs,af,dZ,List.drop_length]
  exact⟨fun h=>by omega,fun _=>by simp[gK]⟩
 |
  k+1,i,out,hi,ho=>by
  have hlt:i<l.length:=by omega
  have hm:=bh hlt
  have t1:=Eb (l[i]).1.cG (iR _) (h1 _ hm)
  have t2:=Eb (l[i]).2.cG (iR _) (h2 _ hm)
  rw[cU]at t1 t2
  refine KK _ _ _ ?_
  simp only[Hy,↓zq,zs,af,zt,dZ,eG hlt,bE,aV]
  refine⟨fun _=>?_,fun h=>by omega⟩
  repeat refine⟨by omega,?_⟩
  refine aj t1 ?_
  simp only[↓zq,zs,af,zt]
  repeat refine⟨by omega,?_⟩
  refine aj t2 ?_
  simp only[↓zq,zs,af,zt,oO]
  refine⟨⟨fun c hc=>by simp at hc;rw[hc];rfl,by omega⟩,?_⟩
  rw[bB i (by omega),aL hlt]
  have:=Ny l hl h1 h2 k (i+1) (out++[l[i]]) (by omega) (by simp;omega)
  rw[aY]at this
  simpa[mG]using this
theorem R0(l:List Hl)(hl:l.length<=1000)(h1:∀h,h∈l->h.1.cf.length<=900000)(h2:∀h,h∈l->h.2.cf.length<=900000):aq Tryz.prog 36 [.sl (kh l)] [] (bN (.sl (mG l))):=by
 refine SA _ ((cc _).mpr trivial) ?_
 unfold O7
 refine cA (Ny l hl h1 h2 l.length 0 [] (by omega) (by simp)) ?_
 simp only[↓zq,zs,af]
 exact⟨rfl,rfl⟩
theorem wo{a:Ty}{v:Vl}(h:Fo a v){k:Hl}(hk:k∈kids a v):k.1.cf.length<=900000/\k.2.cf.length<=900000:=by
 obtain⟨b1,b2⟩:=eD h.fu hk
 have h1:=eU _ b1
 have h2:=eU _ b2
 have h3:=gd hk
 have h4:=h.nd
 have h5:k.1.nodes<=4*v.nodes:=by
  cases v with
  |f w=>have:=(gn hk).2;simp only[Vl.nodes];omega
  |_=>cases hk
 omega
theorem Sk{s d:Nm}{a:Ty}{x A B:E}{D:Ty}(z:ZT s d a x A B D)(v:Vl)(hv:Fo a v):aq Tryz.prog 13 [.v (.string (mk s)),.v (.string (mk v.cf))] [] (bN (.cv [.sl (mG (kids a v)),.v (.bool true)])):=by
 have hv2:mZ s v.cf 100=some v:=by rw[z.cf hv.fu hv.ty,if_pos hv.nd]
 have hP:=P3.of x A B
 have hn:=hv.nd
 obtain⟨v0,hv0,_⟩:=mI .nil z.hx (hv.eF z)
 have hkids:=Gd 100 v x A B a z.body z.hx v0 hv0 (hv.eF z) (by omega)
 have hV:=P2.of (.atom [102]) v0.cG
 refine Sj _ _ ?_
 unfold Ph
 refine aQ (BO s) (iU.ne _ _ (fun h=>h)) ?_
 rintro r o ⟨c,e,he,rfl,hh⟩
 rw[z.le]at hh
 obtain⟨e',he',hce⟩:=hh rfl
 cases he'
 rw[cU]at hce
 rw[hce,z.le]
 simp only[↓zq,zs,af,zt,aK,bL]
 repeat refine⟨by omega,?_⟩
 refine aQ (HY v.cf) (iU.ne _ _ (fun h=>by simpa using h)) ?_
 rw[rL hv.fu hn]
 rintro r o ⟨c,e,he,rfl,hh⟩
 obtain⟨e',he',hce⟩:=hh rfl
 cases he'
 rw[cU]at hce
 rw[hce]
 simp only[↓zq,zs,af,zt,aK,a6]
 repeat refine⟨by omega,?_⟩
 refine⟨fun h=>by simp at h,fun _=>?_⟩
 refine aj (FF s v.cf 100) ?_
 rw[hv2,hv0]
 simp only[toNat_one,bn,Vl.cG,bL,↓zq,zs,af,zt,hP.1,hP.2.1,hP.2.2.1,hP.2.2.2,hV.1,hV.2.1,hV.2.2,aK,aV,a6]
 refine⟨fun h=>by simp at h,fun _=>?_⟩
 repeat refine⟨by omega,?_⟩
 refine aj hkids ?_
 simp only[↓zq,zs,af]
 repeat refine⟨by omega,?_⟩
 have hlen:=lZ a v
 have:=lO (kids a v)
 refine aj (R0 (kids a v) (by omega) (fun h hh=>(wo hv hh).1) (fun h hh=>(wo hv hh).2)) ?_
 rw[<-hv0]
 simp only[↓zq,zs,af]
 exact⟨rfl,rfl⟩
end Go.Proofs.Trees
namespace Go.Proofs.Trees
open Go Go.VL Go.RowKit
theorem nL{a:Ty}{l l':List Vl}{v w:Vl}{k:Int}(h:tH a l v k=some (l',w)):∃q,q∈kids a v/\l'=l++[q.1]/\w=q.2/\q.1.nodes<=200/\l.length≠50/\0<=k/\(kids a v)[k.toNat]?=some q:=by
 unfold tH at h
 split at h
 ·cases h
 ·rename_i h0
  split at h
  ·rename_i h1
   split at h
   ·rename_i h2
    cases h
    have e:(kids a v).getD k.toNat (.u,.u)=(kids a v)[k.toNat]'h1.2:=by simp[aa,h1.2]
    rw[e]at h2 |-
    exact⟨_,bh _,rfl,rfl,h2,h0,h1.1,by simp[h1.2]⟩
   ·cases h
  ·cases h
end Go.Proofs.Trees
