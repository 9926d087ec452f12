/-
  Part of a proof: Go functions read by values, trees of functions, their contracts.
-/
import Derived.Test.YteglbjcjlamohaaGreatDoorP5
set_option linter.unusedVariables false
set_option linter.unusedSimpArgs false
namespace Go.Proofs.Trees
open Go Go.VL Go.RowKit
theorem vis_vT (n:Nat):∀(m:Nat) (v:Vl),v.nodes<=m->∀(e:E) (env:List Fr) (t:Ty),Ask e env t->vis n v (e,env) = vT n v (cls (usF env) t 0)
 | 0,v,hm=>by have:=nodes_pos v; omega
 | m+1,v,hm=>by
  intro e env t A
  have recCase:∀(x a b:E) (env:List Fr) (t1:Ty),Ask (.list [x,a,b]) env (.rc t1)->x.at = [114,101,99]->vis n v (.list [x,a,b],env) = vT n v (cls (usF env) (.rc t1) 0):=by
   intro x a b env t1 A hx
   have hhd:hd (.list [x,a,b]) env = (.list [x,a,b],env):=hd_rec A.wf
   obtain⟨t1',he1,h1,f1,hw1⟩:=wf_enter A.wf A.ok hx A.ty A.cl
   cases he1
   obtain⟨ok1,ok2,ok3,_⟩:=A.ok
   have A':Ask b (.mk a.at (.list [x,a,b]) env::env) t1:=⟨ok3,hw1,h1,f1⟩
   cases v with
   | f w =>
    simp only [Vl.nodes] at hm
    simp only [vis,hhd,hx,beq_self_eq_true,Bool.true_and]
    rw [vis_vT n m w (by omega) b _ t1 A']
    have hty:tyD (.list [x,a,b]) env = .rc t1:=by unfold tyD; rw [A.ty]; rfl
    show vT n w (cls (cls (usF env) (tyD (.list [x,a,b]) env) 0::usF env) t1 0) = vT n w (opn (.rc (cls (usF env) t1 1)) (cls (usF env) t1 1) 0)
    rw [hty,opn_cls (usF_lc env)]
    rfl
   | _=>simp [vis,hhd,hx,cls,vT]
  rcases ty_cases A.wf A.ty with⟨hb,hq⟩ | ⟨u,g,rfl,hq,hu⟩
  ·have hhd:hd e env = (e,env):=hd_none hq
   rcases ty_shapes A.ty hb A.cl with⟨rfl,rfl⟩ | ⟨rfl,rfl⟩ | ⟨s,rfl,rfl,hp,h0,h1⟩ | ⟨x,a,b,t1,t2,rfl,hx,rfl,ha,hbb⟩ | ⟨x,a,b,t1,t2,rfl,hx,rfl,ha,hbb⟩ | ⟨x,a,b,t1,rfl,hx,rfl⟩
   ·have hp0:isPar [48] = false:=rfl
    cases v<;>simp [vis,hhd,cls,vT,hp0]
   ·cases v<;>simp [vis,hhd,cls,vT]
   ·cases v<;>simp [vis,hhd,cls,vT,hp,h1]
   ·obtain⟨ok1,ok2,ok3,_⟩:=A.ok
    obtain⟨f1,f2⟩:=freeLoo_plus A.cl
    cases v with
    | l w =>
     simp only [Vl.nodes] at hm
     simp only [vis,hhd,hx,beq_self_eq_true,Bool.true_and,cls,vT]
     exact vis_vT n m w (by omega) a env t1 ⟨ok2,A.wf,ha,f1⟩
    | r w =>
     simp only [Vl.nodes] at hm
     simp only [vis,hhd,hx,beq_self_eq_true,Bool.true_and,cls,vT]
     exact vis_vT n m w (by omega) b env t2 ⟨ok3,A.wf,hbb,f2⟩
    | _=>simp [vis,hhd,hx,cls,vT]
   ·obtain⟨ok1,ok2,ok3,_⟩:=A.ok
    obtain⟨f1,f2⟩:=freeLoo_times A.cl
    cases v with
    | p w w' =>
     simp only [Vl.nodes] at hm
     simp only [vis,hhd,hx,beq_self_eq_true,Bool.true_and,cls,vT]
     rw [vis_vT n m w (by omega) a env t1 ⟨ok2,A.wf,ha,f1⟩,vis_vT n m w' (by omega) b env t2 ⟨ok3,A.wf,hbb,f2⟩]
    | _=>simp [vis,hhd,hx,cls,vT]
   ·exact recCase x a b env t1 A hx
  ·obtain⟨x,a,b,t',hfe,hok,hx,ht',hf',hwf,hlt⟩:=findF_wf A.wf hq
   have hrec:hd g.ex g.out = (g.ex,g.out):=by rw [hfe]; exact hd_rec hwf
   rw [vis_hd n v (hd_some hq) hrec]
   have hcl:cls (usF env) (.bound u) 0 = cls (usF g.out) (tyD g.ex g.out) 0:=by
    simp only [cls]; rw [if_neg (by omega),Nat.sub_zero]; exact usF_get A.wf hu
   rw [hcl]
   have hty:tyD g.ex g.out = t':=by unfold tyD; rw [ht']; rfl
   rw [hty,hfe]
   rw [hfe] at ht'
   obtain⟨t1,_,_,rfl⟩:=tyOf_rec_inv hx ht'
   exact recCase x a b g.out t1 ⟨hok,hwf,ht',hf'⟩ hx
theorem vis_top {n:Nat} {v:Vl} {e:E} {t:Ty} (A:Ask e [] t):vis n v (e,[]) = vT n v t:=by
 have:=vis_vT n v.nodes v (Nat.le_refl _) e [] t A
 rw [this]
 obtain⟨w,ht⟩:=wf_tyOf e [] t A.ok (fun w hw=>by cases hw) A.ty
 have hl:=tyA_lc w []
 rw [ht] at hl
 exact congrArg (vT n v) (cls_lc _ t hl)
def sbs (σ:Nm->Option Ty):Ty->Ty
 | .name s=>(σ s).getD (.name s)
 | .plus a b=>.plus (sbs σ a) (sbs σ b)
 | .times a b=>.times (sbs σ a) (sbs σ b)
 | .rc a=>.rc (sbs σ a)
 | t=>t
def ext1 (σ:Nm->Option Ty) (x:Nm) (u:Ty):Nm->Option Ty:=fun s=>if s = x then some u else σ s
theorem sbs_sub (σ:Nm->Option Ty) (x:Nm) (u:Ty):∀t:Ty,sbs σ (sub x u t) = sbs (ext1 σ x (sbs σ u)) t
 | .name s=>by
  by_cases h:s = x
  ·simp [sub,sbs,ext1,h]
  ·simp [sub,sbs,ext1,h]
 | .plus a b=>by simp only [sub,sbs,sbs_sub σ x u a,sbs_sub σ x u b]
 | .times a b=>by simp only [sub,sbs,sbs_sub σ x u a,sbs_sub σ x u b]
 | .rc a=>by simp only [sub,sbs,sbs_sub σ x u a]
 | .zero=>rfl
 | .one=>rfl
 | .bound k=>rfl
def clS (σ:Nm->Option Ty):Prop:=∀s u,σ s = some u->lcT u 0
theorem sbs_lc {σ:Nm->Option Ty} (hσ:clS σ):∀(t:Ty) {i:Nat},lcT t i->lcT (sbs σ t) i
 | .name s,i,_=>by
  simp only [sbs]
  cases q:σ s with
  | none=>trivial
  | some u=>exact lc_mono u (hσ s u q) (Nat.zero_le _)
 | .plus a b,i,h=>⟨sbs_lc hσ a h.1,sbs_lc hσ b h.2⟩
 | .times a b,i,h=>⟨sbs_lc hσ a h.1,sbs_lc hσ b h.2⟩
 | .rc a,i,h=>sbs_lc hσ a (i:=i+1) h
 | .zero,_,_=>trivial
 | .one,_,_=>trivial
 | .bound k,_,h=>h
theorem sbs_opn {σ:Nm->Option Ty} (hσ:clS σ) (x:Nm) (U:Ty):∀(t:Ty) (i:Nat),hasN x t = false->sbs (ext1 σ x U) (opn (.name x) t i) = opn U (sbs σ t) i
 | .name s,i,h=>by
  have hs:s≠x:=by simpa [hasN] using h
  simp only [opn,sbs,ext1,if_neg hs]
  cases q:σ s with
  | none=>rfl
  | some u=>exact(opn_lc U u (lc_mono u (hσ s u q) (Nat.zero_le _))).symm
 | .bound k,i,h=>by
  simp only [opn,sbs]
  split
  ·simp [sbs,ext1]
  ·rfl
 | .plus a b,i,h=>by
  simp only [hasN,Bool.or_eq_false_iff] at h
  simp only [opn,sbs,sbs_opn hσ x U a i h.1,sbs_opn hσ x U b i h.2]
 | .times a b,i,h=>by
  simp only [hasN,Bool.or_eq_false_iff] at h
  simp only [opn,sbs,sbs_opn hσ x U a i h.1,sbs_opn hσ x U b i h.2]
 | .rc a,i,h=>by simp only [opn,sbs,sbs_opn hσ x U a (i+1) h]
 | .zero,_,_=>rfl
 | .one,_,_=>rfl
theorem ext1_cl {σ:Nm->Option Ty} (hσ:clS σ) (x:Nm) {u:Ty} (hu:lcT u 0):clS (ext1 σ x u):=fun s v h=>by
 unfold ext1 at h
 split at h
 ·cases h; exact hu
 ·exact hσ s v h
theorem ctx_opn (x:Nm):∀(n:Nat) (c:Vl) (t:Ty) (i:Nat),c.nodes<=n->ctxOk (opn (.name x) t i) c = ctxOk t c
 | 0,c,_,_,h=>by have:=nodes_pos c; omega
 | n+1,c,t,i,hn=>by
  cases t with
  | bound k=>simp only [opn]; split<;>(cases c<;>rfl)
  | plus a b =>
   cases c with
   | l c=>simp only [Vl.nodes] at hn; exact ctx_opn x n c a i (by omega)
   | r c=>simp only [Vl.nodes] at hn; exact ctx_opn x n c b i (by omega)
   | _=>rfl
  | times a b =>
   cases c with
   | l c =>
    cases c with
    | p y z=>simp only [Vl.nodes] at hn; exact ctx_opn x n y a i (by omega)
    | _=>rfl
   | r c =>
    cases c with
    | p y z=>simp only [Vl.nodes] at hn; exact ctx_opn x n z b i (by omega)
    | _=>rfl
   | _=>rfl
  | rc a =>
   cases c with
   | f c =>
    cases c with
    | l y=>simp only [Vl.nodes] at hn; exact ctx_opn x n y a (i+1) (by omega)
    | r c =>
     cases c with
     | p y z =>
      simp only [Vl.nodes] at hn
      have h1:=ctx_opn x n y a (i+1) (by omega)
      have h2:=ctx_opn x n z (.rc a) i (by omega)
      show (ctxOk (opn (.name x) a (i+1)) y&&ctxOk (.rc (opn (.name x) a (i+1))) z) = (ctxOk a y&&ctxOk (.rc a) z)
      rw [h1]
      exact congrArg _ h2
     | _=>rfl
    | _=>rfl
   | _=>rfl
  | _=>rfl
end Go.Proofs.Trees
namespace Go.Proofs.Trees
open Go Go.VL Go.RowKit
theorem plug_opn (x:Nm):∀(n:Nat) (c:Vl) (t:Ty) (i:Nat) (v:Vl),c.nodes<=n->plug (opn (.name x) t i) c v = plug t c v
 | 0,c,_,_,_,h=>by have:=nodes_pos c; omega
 | n+1,c,t,i,v,hn=>by
  cases t with
  | bound k=>simp only [opn]; split<;>(cases c<;>rfl)
  | plus a b =>
   cases c with
   | l c=>simp only [Vl.nodes] at hn; exact congrArg Vl.l (plug_opn x n c a i v (by omega))
   | r c=>simp only [Vl.nodes] at hn; exact congrArg Vl.r (plug_opn x n c b i v (by omega))
   | _=>rfl
  | times a b =>
   cases c with
   | l c =>
    cases c with
    | p y z=>simp only [Vl.nodes] at hn; exact congrArg (fun q=>Vl.p q z) (plug_opn x n y a i v (by omega))
    | _=>rfl
   | r c =>
    cases c with
    | p y z=>simp only [Vl.nodes] at hn; exact congrArg (Vl.p y) (plug_opn x n z b i v (by omega))
    | _=>rfl
   | _=>rfl
  | rc a =>
   cases c with
   | f c =>
    cases c with
    | l y=>simp only [Vl.nodes] at hn; exact congrArg Vl.f (plug_opn x n y a (i+1) v (by omega))
    | r c =>
     cases c with
     | p y z =>
      simp only [Vl.nodes] at hn
      have h2:=plug_opn x n z (.rc a) i v (by omega)
      have h1:=plug_opn x n y a (i+1) (plug (.rc a) z v) (by omega)
      show Vl.f (plug (opn (.name x) a (i+1)) y (plug (.rc (opn (.name x) a (i+1))) z v)) = Vl.f (plug a y (plug (.rc a) z v))
      have h3:plug (.rc (opn (.name x) a (i+1))) z v = plug (.rc a) z v:=h2
      rw [h3,h1]
     | _=>rfl
    | _=>rfl
   | _=>rfl
  | _=>rfl
theorem vT_f {n:Nat} {c:Vl} {a:Ty} (h:vT n c (.rc a) = true):∃w,c = .f w/\vT n w (opn (.rc a) a 0) = true:=by
 cases c with
 | f w=>exact⟨w,rfl,h⟩
 | _=>simp [vT] at h
theorem vT_plus {n:Nat} {c:Vl} {a b:Ty} (h:vT n c (.plus a b) = true):(∃w,c = .l w/\vT n w a = true)\/∃w,c = .r w/\vT n w b = true:=by
 cases c with
 | l w=>exact .inl ⟨w,rfl,h⟩
 | r w=>exact .inr ⟨w,rfl,h⟩
 | _=>simp [vT] at h
theorem vT_times {n:Nat} {c:Vl} {a b:Ty} (h:vT n c (.times a b) = true):∃x y,c = .p x y/\vT n x a = true/\vT n y b = true:=by
 cases c with
 | p x y=>simp only [vT,Bool.and_eq_true] at h; exact⟨x,y,rfl,h.1,h.2⟩
 | _=>simp [vT] at h
theorem drc_open {σ:Nm->Option Ty} (hσ:clS σ) {a c d:Ty} {x:Nm} (ha:lcT (.rc a) 0) (hc:lcT c 0) (hd:lcT d 0):∃X,sbs σ (drc a x c d) = .rc X/\opn (.rc X) X 0 = .plus (sbs (ext1 σ x (sbs σ (.rc a))) c) (.times (sbs (ext1 σ x (sbs σ (.rc a))) d) (sbs σ (drc a x c d))):=by
 refine⟨.plus (sbs σ (sub x (.rc a) c)) (.times (sbs σ (sub x (.rc a) d)) (.bound 0)),rfl,?_⟩
 have h1:=sbs_lc hσ (sub x (.rc a) c) (lc_sub ha c hc)
 have h2:=sbs_lc hσ (sub x (.rc a) d) (lc_sub ha d hd)
 simp only [opn,opn_lc _ _ h1,opn_lc _ _ h2,if_true]
 rw [sbs_sub,sbs_sub]
 simp only [drc,sbs,sbs_sub]
theorem ctxT (n:Nat):∀(m:Nat) (c:Vl),c.nodes<=m->∀(t:Ty) (s:Nm) (d:Ty) (σ:Nm->Option Ty),Dv t s d->clS σ->lcT t 0->vT n c (sbs σ d) = true->ctxOk t c = true
 | 0,c,h=>by have:=nodes_pos c; omega
 | m+1,c,hm=>by
  intro t s d σ hd hσ hl hv
  cases hd with
  | zero=>cases c<;>rfl
  | one=>cases c<;>rfl
  | bound=>cases c<;>rfl
  | hit=>cases c<;>rfl
  | miss=>cases c<;>rfl
  | plus h1 h2 _ =>
   rcases vT_plus hv with⟨w,rfl,hw⟩ | ⟨w,rfl,hw⟩
   ·simp only [Vl.nodes] at hm; exact ctxT n m w (by omega) _ s _ σ h1 hσ hl.1 hw
   ·simp only [Vl.nodes] at hm; exact ctxT n m w (by omega) _ s _ σ h2 hσ hl.2 hw
  | times h1 h2 _ =>
   rcases vT_plus hv with⟨w,rfl,hw⟩ | ⟨w,rfl,hw⟩
   ·obtain⟨x,y,rfl,hx,hy⟩:=vT_times hw
    simp only [Vl.nodes] at hm; exact ctxT n m x (by omega) _ s _ σ h1 hσ hl.1 hx
   ·obtain⟨x,y,rfl,hx,hy⟩:=vT_times hw
    simp only [Vl.nodes] at hm; exact ctxT n m y (by omega) _ s _ σ h2 hσ hl.2 hy
  | @rc a _ c0 d0 x hx hs h1 h2 hsz =>
   have lo:lcT (opn (.name x) a 0) 0:=lc_opn x a hl
   obtain⟨X,e1,e2⟩:=drc_open (x:=x) hσ hl (h1.lc lo) (h2.lc lo)
   have hv':=hv
   rw [e1] at hv'
   obtain⟨w,rfl,hw⟩:=vT_f hv'
   rw [e2] at hw
   have hcl:=ext1_cl hσ x (sbs_lc hσ (.rc a) hl)
   rcases vT_plus hw with⟨y,rfl,hy⟩ | ⟨y,rfl,hy⟩
   ·simp only [Vl.nodes] at hm
    have:=ctxT n m y (by omega) _ s _ _ h1 hcl lo hy
    rw [ctx_opn x y.nodes y a 0 (Nat.le_refl _)] at this
    exact this
   ·obtain⟨y,z,rfl,hy,hz⟩:=vT_times hy
    simp only [Vl.nodes] at hm
    have q1:=ctxT n m y (by omega) _ x _ _ h2 hcl lo hy
    rw [ctx_opn x y.nodes y a 0 (Nat.le_refl _)] at q1
    have q2:=ctxT n m z (by omega) (.rc a) s _ σ (.rc x hx hs h1 h2 hsz) hσ hl hz
    show (ctxOk a y&&ctxOk (.rc a) z) = true
    rw [q1,q2]; rfl
theorem plugT (n:Nat):∀(m:Nat) (c:Vl),c.nodes<=m->∀(t:Ty) (s:Nm) (d:Ty) (σ:Nm->Option Ty),Dv t s d->clS σ->lcT t 0->vT n c (sbs σ d) = true->∀v,vT n v (sbs σ (.name s)) = true->vT n (plug t c v) (sbs σ t) = true
 | 0,c,h=>by have:=nodes_pos c; omega
 | m+1,c,hm=>by
  intro t s d σ hd hσ hl hv v hvv
  have no:∀c,vT n c .zero = false:=fun c=>by cases c<;>rfl
  cases hd with
  | zero=>rw [show sbs σ .zero = .zero from rfl,no] at hv; cases hv
  | one=>rw [show sbs σ .zero = .zero from rfl,no] at hv; cases hv
  | bound=>rw [show sbs σ .zero = .zero from rfl,no] at hv; cases hv
  | miss=>rw [show sbs σ .zero = .zero from rfl,no] at hv; cases hv
  | hit=>rw [plug_name]; exact hvv
  | plus h1 h2 _ =>
   rcases vT_plus hv with⟨w,rfl,hw⟩ | ⟨w,rfl,hw⟩
   ·simp only [Vl.nodes] at hm; exact plugT n m w (by omega) _ s _ σ h1 hσ hl.1 hw v hvv
   ·simp only [Vl.nodes] at hm; exact plugT n m w (by omega) _ s _ σ h2 hσ hl.2 hw v hvv
  | times h1 h2 _ =>
   rcases vT_plus hv with⟨w,rfl,hw⟩ | ⟨w,rfl,hw⟩
   ·obtain⟨x,y,rfl,hx,hy⟩:=vT_times hw
    simp only [Vl.nodes] at hm
    have:=plugT n m x (by omega) _ s _ σ h1 hσ hl.1 hx v hvv
    show (vT n _ _&&vT n _ _) = true
    rw [this,hy]; rfl
   ·obtain⟨x,y,rfl,hx,hy⟩:=vT_times hw
    simp only [Vl.nodes] at hm
    have:=plugT n m y (by omega) _ s _ σ h2 hσ hl.2 hy v hvv
    show (vT n _ _&&vT n _ _) = true
    rw [this,hx]; rfl
  | @rc a _ c0 d0 x hx hs h1 h2 hsz =>
   have lo:lcT (opn (.name x) a 0) 0:=lc_opn x a hl
   obtain⟨X,e1,e2⟩:=drc_open (x:=x) hσ hl (h1.lc lo) (h2.lc lo)
   have hv':=hv
   rw [e1] at hv'
   obtain⟨w,rfl,hw⟩:=vT_f hv'
   rw [e2] at hw
   have hcl:=ext1_cl hσ x (sbs_lc hσ (.rc a) hl)
   have hop:sbs (ext1 σ x (sbs σ (.rc a))) (opn (.name x) a 0) = opn (sbs σ (.rc a)) (sbs σ a) 0:=sbs_opn hσ x _ a 0 hx
   have hns:sbs (ext1 σ x (sbs σ (.rc a))) (.name s) = sbs σ (.name s):=by simp only [sbs,ext1,if_neg (Ne.symm hs)]
   have hnx:sbs (ext1 σ x (sbs σ (.rc a))) (.name x) = sbs σ (.rc a):=by simp [sbs,ext1]
   rcases vT_plus hw with⟨y,rfl,hy⟩ | ⟨y,rfl,hy⟩
   ·simp only [Vl.nodes] at hm
    have:=plugT n m y (by omega) _ s _ _ h1 hcl lo hy v (by rw [hns]; exact hvv)
    rw [hop,plug_opn x y.nodes y a 0 v (Nat.le_refl _)] at this
    exact this
   ·obtain⟨y,z,rfl,hy,hz⟩:=vT_times hy
    simp only [Vl.nodes] at hm
    have q2:=plugT n m z (by omega) (.rc a) s _ σ (.rc x hx hs h1 h2 hsz) hσ hl hz v hvv
    have q1:=plugT n m y (by omega) _ x _ _ h2 hcl lo hy (plug (.rc a) z v) (by rw [hnx]; exact q2)
    rw [hop,plug_opn x y.nodes y a 0 _ (Nat.le_refl _)] at q1
    exact q1
def noS:Nm->Option Ty:=fun _=>none
theorem noS_cl:clS noS:=fun _ _ h=>by cases h
theorem sbs_no:∀t:Ty,sbs noS t = t
 | .name s=>rfl
 | .plus a b=>by simp only [sbs,sbs_no a,sbs_no b]
 | .times a b=>by simp only [sbs,sbs_no a,sbs_no b]
 | .rc a=>by simp only [sbs,sbs_no a]
 | .zero=>rfl
 | .one=>rfl
 | .bound k=>rfl
theorem lp_ctx {n:Nat} {a D:Ty} {x:Nm} (hx:hasN x a = false) (hl:lcT (.rc a) 0) (h:lpO a x = some D) {c:Vl} (hc:vT n c D = true) :
  ctxOk a c = true/\∀v,vT n v (.rc a) = true->vT n (.f (plug a c v)) (.rc a) = true:=by
 simp only [lpO,Option.bind_eq_some_iff,dvO_iff,chk_some] at h
 obtain⟨d,hd,_,rfl⟩:=h
 have lo:lcT (opn (.name x) a 0) 0:=lc_opn x a hl
 have hcl:=ext1_cl noS_cl x hl
 have e1:sub x (.rc a) d = sbs (ext1 noS x (.rc a)) d:=by
  have:=sbs_sub noS x (.rc a) d
  rw [sbs_no,sbs_no] at this; exact this
 rw [e1] at hc
 have h1:=ctxT n c.nodes c (Nat.le_refl _) _ x _ _ hd hcl lo hc
 rw [ctx_opn x c.nodes c a 0 (Nat.le_refl _)] at h1
 refine⟨h1,fun v hv=>?_⟩
 have h2:=plugT n c.nodes c (Nat.le_refl _) _ x _ _ hd hcl lo hc v (by simpa [sbs,ext1] using hv)
 rw [plug_opn x c.nodes c a 0 v (Nat.le_refl _),sbs_opn noS_cl x _ a 0 hx,sbs_no] at h2
 exact h2
end Go.Proofs.Trees
namespace Go.Proofs.Trees
open Go Go.VL Go.RowKit
def rdLp (s:List UInt8):Option Ty:=match rdC s with
 | some (.rc a)=>some a
 | _=>none
def optR:Option Ty->AV
 | some a=>(Ty.rc a).av
 | none=>nilp
theorem Sqez (s:List UInt8):FSpec Tryz.prog 57 [.v (.string (mk s))] [] (Det (optR (rdLp s))):=by
 refine Fqdu _ ?_
 unfold tq8t
 refine wp_det (Sq6t s) ?_
 cases h:rdC s with
 | none=>simp [↓zq,zs,hasK,optT,optR,rdLp,h,Det]
 | some t=>cases t<;>simp [↓zq,zs,hasK,optT,optR,rdLp,h,Det,Ty.av]
def lvOK (s v:List UInt8):Option Vl:=match rdLp s with
 | some _=>vOK s v 100
 | none=>none
def lvT (s:List UInt8):AV:=match rdLp s with
 | some a=>(Ty.rc a).av
 | none=>nilp
theorem rdL_rdC {s:List UInt8} {a:Ty} (h:rdLp s = some a):rdC s = some (.rc a):=by
 unfold rdLp at h
 split at h
 ·rename_i e; cases h; exact e
 ·cases h
theorem Sqdt (s v:List UInt8):FSpec Tryz.prog 42 [.v (.string (mk s)),.v (.string (mk v))] [] (Det (.tup [lvT s,optV (lvOK s v)])):=by
 refine Fqej _ _ ?_
 unfold tqc8
 refine wp_det (Sqez s) ?_
 cases h:rdLp s with
 | none=>simp [↓zq,zs,hasK,optR,lvT,lvOK,h,Det,optV]
 | some a =>
  simp only [↓zq,zs,hasK,optR,ty_has,ty_nil]
  refine⟨fun h=>(by cases h),fun _=>?_⟩
  refine wp_det (Sqb4 s v 100) ?_
  rw [rdL_rdC h]
  simp [↓zq,zs,hasK,optT,optV_has,lvT,lvOK,h,Det,ty_has]
structure LV (s v:List UInt8) (w:Vl) (a:Ty) (x A B:E):Prop where
 l:rdLp s = some a
 ce:rdCE s = some (.list [x,A,B])
 v:rdV v = some w
 ask:Ask (.list [x,A,B]) [] (.rc a)
 hx:x.at = [114,101,99]
 loo:isLoo A.at = true
 body:Ask B [.mk A.at (.list [x,A,B]) []] a
 vis:vis 100 w (.list [x,A,B],[]) = true
theorem rec_shape {e:E} {env:List Fr} {a:Ty} (A:Ask e env (.rc a)):∃x y z,e = .list [x,y,z]/\x.at = [114,101,99]/\isLoo y.at = true/\Ask z (.mk y.at (.list [x,y,z]) env::env) a:=by
 rcases ty_shapes A.ty rfl A.cl with⟨_,h⟩ | ⟨_,h⟩ | ⟨s,_,h,_⟩ | ⟨x,y,z,t1,t2,_,_,h,_⟩ | ⟨x,y,z,t1,t2,_,_,h,_⟩ | ⟨x,y,z,t1,rfl,hx,h⟩
 ·cases h
 ·cases h
 ·cases h
 ·cases h
 ·cases h
 ·cases h
  obtain⟨t1',he1,h1,f1,hw1⟩:=wf_enter A.wf A.ok hx A.ty A.cl
  cases he1
  obtain⟨_,_,ok3,_⟩:=A.ok
  obtain⟨_,hla,_,_⟩:=tyOf_rec_inv hx A.ty
  exact⟨x,y,z,rfl,hx,hla,ok3,hw1,h1,f1⟩
theorem lvOK_some {s v:List UInt8} {w:Vl} (h:lvOK s v = some w):∃a x A B,LV s v w a x A B:=by
 unfold lvOK at h
 split at h
 ·rename_i a hl
  obtain⟨e,t,m,h1,h2,h3,h4,h5,h6,h7⟩:=vOK_some h
  rw [rdL_rdC hl] at h3
  cases h3
  obtain⟨x,A,B,rfl,hx,hA,hB⟩:=rec_shape h4
  have:m = 100:=by omega
  subst this
  exact⟨a,x,A,B,hl,h1,h2,h4,hx,hA,hB,h7⟩
 ·cases h
theorem LV.bel {s v:List UInt8} {w:Vl} {a:Ty} {x A B:E} (h:LV s v w a x A B):w.bel 100:=(rdV_ok h.v).2.1
theorem LV.nodes {s v:List UInt8} {w:Vl} {a:Ty} {x A B:E} (h:LV s v w a x A B):w.nodes<=200:=(rdV_ok h.v).2.2
end Go.Proofs.Trees
namespace Go.Proofs.Trees
open Go Go.VL Go.RowKit
theorem dg_isA {b:UInt8} (h:isDg b = true):isA b = true:=by
 simp only [isDg,isA,decide_eq_true_eq] at h |-; omega
theorem rdN_isA {y:Nm} (h:rdN y):y≠[]/\y.all isA = true:=by
 have key:∀lo hi,97<=lo->hi<=122->named lo hi y = true->y≠[]/\y.all isA = true:=fun lo hi h1 h2 h=>by
  cases y with
  | nil=>cases h
  | cons c r =>
   simp only [named,Bool.and_eq_true,decide_eq_true_eq] at h
   refine⟨by simp,?_⟩
   rw [List.all_cons,Bool.and_eq_true]
   refine⟨?_,?_⟩
   ·simp only [isA,decide_eq_true_eq]; omega
   ·rw [List.all_eq_true]
    intro b hb
    exact dg_isA (List.all_eq_true.1 h.2 b hb)
 rcases h with h | h
 ·exact key 120 122 (by omega) (by omega) h
 ·exact key 116 116 (by omega) (by omega) h
theorem tN_isA (m:Nat):(tN m).all isA = true:=by
 rw [List.all_cons,dd_isA (m+1) m (by omega)]; rfl
theorem cnT_pr (F:List Nm):∀(t:Ty) (to:List Nm) (k:Nat),(∀y,hasN y t = true->y≠[]/\y.all isA = true)->(∀w,w∈to->w≠[]/\w.all isA = true)->lcT t to.length->(cnT F t to k).1.pr
 | .zero,_,_,_,_,_=>⟨by simp,by decide⟩
 | .one,_,_,_,_,_=>⟨by simp,by decide⟩
 | .name s,_,_,hn,_,_=>hn s (by simp [hasN])
 | .bound u,to,_,_,ht,hl=>by
  have:to.length - 1 - u < to.length:=by have:u < to.length:=hl; omega
  show (E.atom (nmAt to u)).pr
  unfold nmAt
  rw [List.getD_eq_getElem?_getD,List.getElem?_eq_getElem this]
  exact ht _ (List.getElem_mem this)
 | .plus a b,to,k,hn,ht,hl=>⟨by simp,⟨by simp,by decide⟩,cnT_pr F a to k (fun y hy=>hn y (by simp [hasN,hy])) ht hl.1,cnT_pr F b to _ (fun y hy=>hn y (by simp [hasN,hy])) ht hl.2,trivial⟩
 | .times a b,to,k,hn,ht,hl=>⟨by simp,⟨by simp,by decide⟩,cnT_pr F a to k (fun y hy=>hn y (by simp [hasN,hy])) ht hl.1,cnT_pr F b to _ (fun y hy=>hn y (by simp [hasN,hy])) ht hl.2,trivial⟩
 | .rc a,to,k,hn,ht,hl=>by
  refine⟨by simp,⟨by simp,by decide⟩,⟨by simp,tN_isA _⟩,cnT_pr F a (to++[tN (nx F k)]) _ hn (fun w hw=>?_) (by rw [List.length_append]; exact hl),trivial⟩
  rcases List.mem_append.1 hw with hw | hw
  ·exact ht w hw
  ·simp only [List.mem_singleton] at hw; rw [hw]; exact⟨by simp,tN_isA _⟩
theorem told_back {D:Ty} {dt:Nm} (g:goodT D) (hn:∀y,hasN y D = true->rdN y) (h:told D = some dt):rdY dt = some D:=by
 unfold told at h
 split at h
 ·rename_i hh
  cases h
  obtain⟨t,ht⟩:=Option.isSome_iff_exists.1 hh.2
  obtain⟨e,he,hw,hte,_,_⟩:=rdY_wf ht
  obtain⟨h1,_,_⟩:=rdE_ok he
  obtain⟨hx,hpr,_⟩:=rdT_was h1
  obtain⟨w1,w2,_⟩:=cnT_ok (namesOf D []) D [] 0 (.nil _ _) g.1 fun y hy=>⟨(namesOf_mem D [] y).2 (.inr hy),g.2 y hy⟩
  have hp:=cnT_pr (namesOf D []) D [] 0 (fun y hy=>rdN_isA (hn y hy)) (fun w hw=>by cases hw) g.1
  have:=tx_inj hp hpr hx
  rw [ht,<-hte,<-this,w2]
 ·cases h
theorem lpO_names {a d:Ty} {x:Nm} (h:lpO a x = some d):∀y,hasN y d = true->hasN y a = true:=by
 simp only [lpO,Option.bind_eq_some_iff,dvO_iff,chk_some] at h
 obtain⟨d',h1,_,rfl⟩:=h
 intro y hy
 rcases has_sub _ hy with h | ⟨h,h'⟩
 ·exact h
 ·rcases has_opn a 0 (h1.names y h') with e | e
  ·exact absurd e h
  ·exact e
structure ZT (s d:Nm) (a:Ty) (x A B:E) (D:Ty):Prop where
 l:rdLp s = some a
 ce:rdCE s = some (.list [x,A,B])
 ask:Ask (.list [x,A,B]) [] (.rc a)
 hx:x.at = [114,101,99]
 body:Ask B [.mk A.at (.list [x,A,B]) []] a
 dl:derLoop s = some d
 y:rdY s = some (.rc a)
 lp:lpO a one1N = some D
 bk:rdY d = some D
theorem rdC_rdY {s:Nm} {t:Ty} (h:rdC s = some t):rdY s = some t:=by
 unfold rdC at h
 split at h
 ·cases h
 ·rename_i u hu
  split at h
  ·cases h; exact hu
  ·cases h
theorem ZT.of {s d:Nm} {a:Ty} (hl:rdLp s = some a) (hd:derLoop s = some d):∃x A B D,ZT s d a x A B D:=by
 have hc:=rdL_rdC hl
 cases hce:rdCE s with
 | none=>rw [rdCE_none hce] at hc; cases hc
 | some e =>
  obtain⟨t,h1,hA,_⟩:=rdCE_full hce
  rw [hc] at h1; cases h1
  obtain⟨x,A,B,rfl,hx,hA',hB⟩:=rec_shape hA
  have hy:=rdC_rdY hc
  have hd':=hd
  unfold derLoop at hd'
  rw [hy] at hd'
  obtain⟨D,h2,h3⟩:=Option.bind_eq_some_iff.1 hd'
  obtain⟨e2,he2,hw2,hte2,_,_⟩:=rdY_wf hy
  have hg:=lpO_good hw2 hte2 (x:=one1N) ⟨by simp,by simp,by simp⟩ h2
  exact⟨x,A,B,D,hl,hce,hA,hx,hB,hd,hy,h2,told_back hg.1 (fun y hy'=>rdY_names hy y (lpO_names h2 y hy')) h3⟩
structure Cx (a:Ty) (w:Vl):Prop where
 ok:ctxOk a w = true
 ty:∀v,vT 100 v (.rc a) = true->vT 100 (.f (plug a w v)) (.rc a) = true
 bel:w.bel 100
 nd:w.nodes<=200
structure Fo (a:Ty) (v:Vl):Prop where
 ty:vT 100 v (.rc a) = true
 bel:v.bel 100
 nd:v.nodes<=200
theorem ZT.ctx {s d:Nm} {a:Ty} {x A B:E} {D:Ty} (z:ZT s d a x A B D) {c:Nm} {w:Vl} (h:vOK d c 100 = some w):Cx a w:=by
 obtain⟨e,t,m,h1,h2,h3,h4,h5,h6,h7⟩:=vOK_some h
 have hm:m = 100:=by omega
 subst hm
 have:=rdC_rdY h3
 rw [z.bk] at this; cases this
 rw [vis_top h4] at h7
 obtain⟨e2,he2,hw2,hte2,_,_⟩:=rdY_wf z.y
 have hlc:lcT (.rc a) 0:=hte2 ▸ hw2.good.1
 obtain⟨q1,q2⟩:=lp_ctx (fresh1 z.y) hlc z.lp h7
 exact⟨q1,q2,(rdV_ok h2).2.1,(rdV_ok h2).2.2⟩
theorem ZT.foc {s d:Nm} {a:Ty} {x A B:E} {D:Ty} (z:ZT s d a x A B D) {f:Nm} {v:Vl} (h:lvOK s f = some v):Fo a v/\f = v.txt:=by
 obtain⟨a',x',A',B',L⟩:=lvOK_some h
 have:=L.l
 rw [z.l] at this; cases this
 exact⟨⟨by rw [<-vis_top L.ask]; exact L.vis,L.bel,L.nodes⟩,rdV_was L.v⟩
theorem Fo.vis {s d:Nm} {a:Ty} {x A B:E} {D:Ty} (z:ZT s d a x A B D) {v:Vl} (h:Fo a v):vis 100 v (.list [x,A,B],[]) = true:=by rw [vis_top z.ask]; exact h.ty
theorem ZT.txt {s d:Nm} {a:Ty} {x A B:E} {D:Ty} (z:ZT s d a x A B D) {w:Vl} (hb:w.bel 100) (hv:vT 100 w (.rc a) = true):vOK s w.txt 100 = if w.nodes<=200 then some w else none:=by
 unfold vOK
 rw [z.ce]
 by_cases hn:w.nodes<=200
 ·rw [rdV_txt hb hn,if_pos hn]
  simp only
  rw [if_pos ⟨by omega,by rw [show (100:Int).toNat = 100 from rfl,vis_top z.ask]; exact hv⟩]
 ·rw [if_neg hn]
  cases q:rdV w.txt with
  | none=>rfl
  | some w' =>
   exfalso
   obtain⟨_,h2,h3⟩:=rdV_ok q
   have:=txt_inj hb h2 (rdV_was q)
   rw [this] at hn; exact hn h3
theorem ZT.lv {s d:Nm} {a:Ty} {x A B:E} {D:Ty} (z:ZT s d a x A B D) (f:Nm):lvOK s f = vOK s f 100:=by
 unfold lvOK; rw [z.l]
def rdPth (d:Nm):List Nm->Option (List Vl)
 | []=>some []
 | c::r=>match vOK d c 100,rdPth d r with
  | some w,some l=>some (w::l)
  | _,_=>none
theorem rdPth_some {s d:Nm} {a:Ty} {x A B:E} {D:Ty} (z:ZT s d a x A B D):∀(p:List Nm) (l:List Vl),rdPth d p = some l->p = l.map (·.txt)/\∀c,c∈l->Cx a c
 | [],l,h=>by cases h; exact⟨rfl,fun c hc=>by cases hc⟩
 | c::r,l,h=>by
  simp only [rdPth] at h
  split at h
  ·rename_i w l' h1 h2
   cases h
   obtain⟨q1,q2⟩:=rdPth_some z r l' h2
   obtain⟨_,_,_,_,hv,_⟩:=vOK_some h1
   refine⟨by rw [List.map_cons,<-q1,<-rdV_was hv],fun c' hc'=>?_⟩
   rcases List.mem_cons.1 hc' with rfl | hc'
   ·exact z.ctx h1
   ·exact q2 c' hc'
  ·cases h
noncomputable def rdZ (s:Nm) (p:List Nm) (f:Nm):Option (List Vl×Vl):=match lvOK s f,derLoop s with
 | some v,some d=>if p.length<=50 then(rdPth d p).map fun l=>(l,v) else none
 | _,_=>none
def zA (s:Nm):Ty:=(rdLp s).getD .zero
def upF (a:Ty) (l:List Vl) (v:Vl):Option (List Vl×Vl):=match l.getLast? with
 | none=>none
 | some c=>if(Vl.f (plug a c v)).nodes<=200 then some (l.dropLast,.f (plug a c v)) else none
def cloN:Nat->Ty->List Vl->Vl->Option Vl
 | 0,_,_,v=>some v
 | n+1,a,l,v=>(upF a l v).bind fun r=>cloN n a r.1 r.2
def clo (a:Ty) (l:List Vl) (v:Vl):Option Vl:=cloN l.length a l v
noncomputable def rdVd (s:Nm) (p:List Nm) (f:Nm):Option (List Vl×Vl):=(rdZ s p f).bind fun r=>if(clo (zA s) r.1 r.2).isSome = true then some r else none
structure ZI (a:Ty) (l:List Vl) (v:Vl):Prop where
 ctx:∀c,c∈l->Cx a c
 foc:Fo a v
theorem upF_ok {a:Ty} {l l':List Vl} {v w:Vl} (h:ZI a l v) (hu:upF a l v = some (l',w)):ZI a l' w/\l'.length+1 = l.length/\∃c,l = l'++[c]/\w = .f (plug a c v):=by
 unfold upF at hu
 cases q:l.getLast? with
 | none=>rw [q] at hu; cases hu
 | some c =>
  rw [q] at hu
  simp only at hu
  split at hu
  ·rename_i hn
   cases hu
   have hne:l≠[]:=by rintro rfl; cases q
   have hl:l.dropLast++[c] = l:=by
    have:=List.dropLast_concat_getLast hne
    rw [List.getLast?_eq_some_getLast hne] at q
    cases q; exact this
   have hc:c∈l:=by rw [<-hl]; simp
   have hC:=h.ctx c hc
   refine⟨⟨fun c' hc'=>h.ctx c' (by rw [<-hl]; exact List.mem_append_left _ hc'),hC.ty v h.foc.ty,plug_bel 100 a c v hC.bel h.foc.bel,hn⟩,?_,c,hl.symm,rfl⟩
   have:=congrArg List.length hl
   simpa using this
  ·cases hu
end Go.Proofs.Trees
namespace Go.Proofs.Trees
open Go Go.VL Go.RowKit
theorem below_grow (w:World) (k:Nat) (os:Array Obj):Below w.heap.size w (Go.«Sort».grow (w.drewN k) os):=by
 refine⟨rfl,rfl,rfl,?_,fun b hb=>?_⟩
 ·simp [Go.«Sort».grow,World.drewN]
 ·simp only [Go.«Sort».grow,World.drewN]
  rw [Array.getElem?_append_left hb]
theorem Sq3k (k:Nat) (hk:k < 1000000000):FSpec Tryz.prog 120 [.v (.int .i64 (k:Int))] [] (Det (.v (.string (mk (dd k))))):=by
 refine FSpec.libT (xs:=[.int .i64 (k:Int)]) ⟨fd_strconv_Itoa,by kernel_rfl,by kernel_rfl,by kernel_rfl⟩ fun w ht=>?_
 have:=Any.strconv_Itoa Tryz.laysM171 (k:Int) (by omega) (by omega) w ht
 refine Calls.mono this fun e w' ⟨h1,n,os,h2⟩=>⟨?_,?_⟩
 ·rw [h1,Lib.itoa_nonneg]; rfl
 ·rw [h2]; exact below_grow w n os
abbrev hN (k:Nat):Nm:=35::dd k
theorem hN_inj {j k:Nat} (h:hN j = hN k):j = k:=dd_inj (j+1) j k (by omega) (List.cons.inj h).2
theorem Squ (u:Ty):∀(t:Ty) (i:Nat),i+t.atoms < 1000000->FSpec Tryz.prog 96 [t.av,u.av,.v (.int .i64 (i:Int))] [] (Det (opn u t i).av)
 | .zero,i,_=>by
  refine Fqy _ _ _ ((ty_has _).mpr trivial) ((ty_has _).mpr trivial) ?_
  simp [tqn,Ty.av,opn,↓zq,zs,hasK,Det]
 | .one,i,_=>by
  refine Fqy _ _ _ ((ty_has _).mpr trivial) ((ty_has _).mpr trivial) ?_
  simp [tqn,Ty.av,opn,↓zq,zs,hasK,Det]
 | .name s,i,_=>by
  refine Fqy _ _ _ ((ty_has _).mpr trivial) ((ty_has _).mpr trivial) ?_
  simp [tqn,Ty.av,opn,↓zq,zs,hasK,Det]
 | .bound k,i,_=>by
  refine Fqy _ _ _ ((ty_has _).mpr trivial) ((ty_has _).mpr trivial) ?_
  simp only [tqn,Ty.av,opn,↓zq,zs,hasK,Det]
  refine⟨by omega,fun _=>⟨by omega,fun h=>?_,fun h=>?_⟩,fun h=>absurd rfl h⟩
  ·rw [if_pos (by omega)]
  ·rw [if_neg (by omega)]; rfl
 | .plus a b,i,hl=>by
  simp only [Ty.atoms] at hl
  refine Fqy _ _ _ ((ty_has _).mpr trivial) ((ty_has _).mpr trivial) ?_
  simp only [tqn,Ty.av,opn,↓zq,zs,hasK,ty_has]
  refine⟨by omega,fun h=>by omega,fun _=>⟨fun _=>?_,fun h=>absurd rfl h⟩⟩
  repeat refine⟨by omega,?_⟩
  refine wp_det (Squ u a i (by omega)) ?_
  simp only [↓zq,zs,hasK,ty_has]
  repeat refine⟨by omega,?_⟩
  refine wp_det (Squ u b i (by omega)) ?_
  simp only [↓zq,zs,hasK,ty_has]
  exact⟨rfl,rfl⟩
 | .times a b,i,hl=>by
  simp only [Ty.atoms] at hl
  refine Fqy _ _ _ ((ty_has _).mpr trivial) ((ty_has _).mpr trivial) ?_
  simp only [tqn,Ty.av,opn,↓zq,zs,hasK,ty_has]
  refine⟨by omega,fun h=>by omega,fun _=>⟨fun h=>by omega,fun _=>⟨fun _=>?_,fun h=>absurd rfl h⟩⟩⟩
  repeat refine⟨by omega,?_⟩
  refine wp_det (Squ u a i (by omega)) ?_
  simp only [↓zq,zs,hasK,ty_has]
  repeat refine⟨by omega,?_⟩
  refine wp_det (Squ u b i (by omega)) ?_
  simp only [↓zq,zs,hasK,ty_has]
  exact⟨rfl,rfl⟩
 | .rc a,i,hl=>by
  simp only [Ty.atoms] at hl
  refine Fqy _ _ _ ((ty_has _).mpr trivial) ((ty_has _).mpr trivial) ?_
  simp only [tqn,Ty.av,opn,↓zq,zs,hasK,ty_has]
  refine⟨by omega,fun h=>by omega,fun _=>⟨fun h=>by omega,fun _=>⟨fun h=>by omega,fun _=>⟨fun _=>?_,fun h=>absurd rfl h⟩⟩⟩⟩
  repeat refine⟨by omega,?_⟩
  rw [wrap_succ i (by omega)]
  refine wp_det (Squ u a (i+1) (by omega)) ?_
  simp only [↓zq,zs,hasK,ty_has]
  exact⟨rfl,rfl⟩
theorem Sqa (x:Nm) (u:Ty):∀(t:Ty),FSpec Tryz.prog 97 [t.av,.v (.string (mk x)),u.av] [] (Det (sub x u t).av)
 | .zero=>by
  refine Fq12 _ _ _ ((ty_has _).mpr trivial) ((ty_has _).mpr trivial) ?_
  simp [tqh,Ty.av,sub,↓zq,zs,hasK,Det]
 | .one=>by
  refine Fq12 _ _ _ ((ty_has _).mpr trivial) ((ty_has _).mpr trivial) ?_
  simp [tqh,Ty.av,sub,↓zq,zs,hasK,Det]
 | .bound k=>by
  refine Fq12 _ _ _ ((ty_has _).mpr trivial) ((ty_has _).mpr trivial) ?_
  simp [tqh,Ty.av,sub,↓zq,zs,hasK,Det]
 | .name s=>by
  refine Fq12 _ _ _ ((ty_has _).mpr trivial) ((ty_has _).mpr trivial) ?_
  simp only [tqh,Ty.av,sub,↓zq,zs,hasK,zt,Det]
  refine⟨by omega,fun _=>⟨by omega,fun h=>?_,fun h=>?_⟩,fun h=>absurd rfl h⟩
  ·rw [if_pos h]
  ·rw [if_neg h]; rfl
 | .plus a b=>by
  refine Fq12 _ _ _ ((ty_has _).mpr trivial) ((ty_has _).mpr trivial) ?_
  simp only [tqh,Ty.av,sub,↓zq,zs,hasK,ty_has]
  refine⟨by omega,fun h=>by omega,fun _=>⟨fun _=>?_,fun h=>absurd rfl h⟩⟩
  repeat refine⟨by omega,?_⟩
  refine wp_det (Sqa x u a) ?_
  simp only [↓zq,zs,hasK,ty_has]
  repeat refine⟨by omega,?_⟩
  refine wp_det (Sqa x u b) ?_
  simp only [↓zq,zs,hasK,ty_has]
  exact⟨rfl,rfl⟩
 | .times a b=>by
  refine Fq12 _ _ _ ((ty_has _).mpr trivial) ((ty_has _).mpr trivial) ?_
  simp only [tqh,Ty.av,sub,↓zq,zs,hasK,ty_has]
  refine⟨by omega,fun h=>by omega,fun _=>⟨fun h=>by omega,fun _=>⟨fun _=>?_,fun h=>absurd rfl h⟩⟩⟩
  repeat refine⟨by omega,?_⟩
  refine wp_det (Sqa x u a) ?_
  simp only [↓zq,zs,hasK,ty_has]
  repeat refine⟨by omega,?_⟩
  refine wp_det (Sqa x u b) ?_
  simp only [↓zq,zs,hasK,ty_has]
  exact⟨rfl,rfl⟩
 | .rc a=>by
  refine Fq12 _ _ _ ((ty_has _).mpr trivial) ((ty_has _).mpr trivial) ?_
  simp only [tqh,Ty.av,sub,↓zq,zs,hasK,ty_has]
  refine⟨by omega,fun h=>by omega,fun _=>⟨fun h=>by omega,fun _=>⟨fun h=>by omega,fun _=>⟨fun _=>?_,fun h=>absurd rfl h⟩⟩⟩⟩
  repeat refine⟨by omega,?_⟩
  refine wp_det (Sqa x u a) ?_
  simp only [↓zq,zs,hasK,ty_has]
  exact⟨rfl,rfl⟩
theorem Sq5 (c:Int) (a b:Ty):FSpec Tryz.prog 121 [.v (.int .u8 c),a.av,b.av] [] (Det (.ptr [.v (.int .u8 c),.v (.string (mk [])),.v (.int .i64 0),a.av,b.av])):=by
 refine Fqf9 _ _ _ ((ty_has _).mpr trivial) ((ty_has _).mpr trivial) ?_
 simp [tq9x,↓zq,zs,hasK,Det]
abbrev dfO (f:Nat) (g:Bool):Ob:=.cells [.v (.int .i64 (f:Int)),.v (.bool g)]
theorem Sq8f (f:Nat) (g:Bool) (hf:f < 100000000):FSpec Tryz.prog 93 [.ref 0 0] [dfO f g] (DetO (.v (.string (mk (hN (f+1))))) [dfO (f+1) g]):=by
 refine Fqfo _ _ ?_
 simp only [tq7g,↓zq,zs,hasK,zt]
 rw [wrap_succ f (by omega)]
 refine wp_det (Sq3k (f+1) (by omega)) ?_
 have hd:=dd_len8 8 (f+1) (by omega)
 simp only [↓zq,zs,hasK,zt,List.cons_append,List.nil_append]
 exact⟨by simp [size_mk]; omega,rfl,rfl⟩
def ckR (g:Bool) (t:Ty):Ty:=if g = true\/400 < t.atoms then .zero else t
def ckG (g:Bool) (t:Ty):Bool:=g||decide (400 < t.atoms)
theorem ckR_t (t:Ty):ckR true t = .zero:=by simp [ckR]
theorem ckG_t (t:Ty):ckG true t = true:=rfl
theorem ckR_f {t:Ty} (h:t.atoms<=400):ckR false t = t:=by simp [ckR,show ¬ 400 < t.atoms by omega]
theorem ckG_f {t:Ty} (h:t.atoms<=400):ckG false t = false:=by simp [ckG,show ¬ 400 < t.atoms by omega]
theorem ckG_n {t:Ty} (h:¬ t.atoms<=400):ckG false t = true:=by simp [ckG,show 400 < t.atoms by omega]
theorem ckR_n {t:Ty} (h:¬ t.atoms<=400):ckR false t = .zero:=by simp [ckR,show 400 < t.atoms by omega]
theorem Sq3 (f:Nat) (g:Bool) (t:Ty) (hl:t.atoms < 1000000):FSpec Tryz.prog 94 [.ref 0 0,t.av] [dfO f g] (DetO (ckR g t).av [dfO f (ckG g t)]):=by
 refine Fqdk _ _ _ ((ty_has _).mpr trivial) ?_
 simp only [tq9n,↓zq,zs,hasK,zt]
 cases g with
 | true=>exact⟨fun _=>⟨rfl,rfl⟩,fun h=>(by cases h)⟩
 | false =>
  refine⟨fun h=>(by cases h),fun _=>?_⟩
  refine wp_det (Sqk t hl) ?_
  simp only [↓zq,zs,hasK,zt]
  refine⟨fun h=>?_,fun h=>?_⟩
  ·have h:400 < t.atoms:=by omega
   simp [ckR,ckG,h,DetO,Ty.av]
  ·have h:¬ 400 < t.atoms:=by omega
   simp [ckR,ckG,h,DetO]
theorem Sq4p (t:Ty) (s:Nm) (f:Nat):FSpec Tryz.prog 95 [.ref 0 0,t.av,.v (.string (mk s))] [dfO f true] (DetO Ty.zero.av [dfO f true]):=by
 refine Fq5y _ _ _ _ ((ty_has _).mpr trivial) ?_
 simp only [tqc,↓zq,zs,hasK]
 exact⟨fun _=>⟨rfl,rfl⟩,fun h=>(by cases h)⟩
def okF (f:Nat) (t:Ty):Prop:=∀j,f < j->hasN (hN j) t = false
def bdF (o:Option Ty) (t:Ty):Nat:=match o with | some d=>d.atoms | none=>1000*t.atoms
def OfR (o:Option Ty) (f B:Nat):AV->List Ob->Prop:=fun r ob=>∃f':Nat,f<=f'/\f'<=f+B/\r = (o.getD .zero).av/\ob = [dfO f' o.isNone]
theorem OfR.ne (o:Option Ty) (f B:Nat):∃r ob,OfR o f B r ob:=⟨_,_,f,Nat.le_refl _,Nat.le_add_right _ _,rfl,rfl⟩
theorem okF_mono {f f':Nat} {t:Ty} (h:okF f t) (hf:f<=f'):okF f' t:=fun j hj=>h j (by omega)
theorem Sqq:∀(n:Nat) (t:Ty),t.atoms<=n->t.atoms<=400->∀(s:Nm) (f:Nat),okF f t->(∀j,f < j->s≠hN j)->f+1000*t.atoms < 50000000->FSpec Tryz.prog 95 [.ref 0 0,t.av,.v (.string (mk s))] [dfO f false] (OfR (dvO t s) f (bdF (dvO t s) t))
 | 0,t,h=>by have:=atoms_pos t; omega
 | n+1,t,hn=>by
  intro h4 s f hf hs hb
  refine Fq5y _ _ _ _ ((ty_has _).mpr trivial) ?_
  have fin0:∀u:Ty,dvO t s = some u->OfR (dvO t s) f (bdF (dvO t s) t) u.av [dfO f false]:=fun u hu=>by
   rw [hu]; exact⟨f,Nat.le_refl _,Nat.le_add_right _ _,rfl,rfl⟩
  cases t with
  | zero =>
   have:=fin0 .zero (dvO_zero s)
   simpa [tqc,Ty.av,↓zq,zs,hasK] using this
  | one =>
   have:=fin0 .zero (dvO_one s)
   simpa [tqc,Ty.av,↓zq,zs,hasK] using this
  | bound k =>
   have:=fin0 .zero (dvO_bound k s)
   simpa [tqc,Ty.av,↓zq,zs,hasK] using this
  | name c =>
   simp only [tqc,Ty.av,↓zq,zs,hasK,zt]
   refine⟨fun h=>(by cases h),fun _=>⟨by omega,fun _=>⟨by omega,fun h=>?_,fun h=>?_⟩,fun h=>absurd rfl h⟩⟩
   ·exact fin0 .one (by rw [dvO_name,if_pos h])
   ·exact fin0 .zero (by rw [dvO_name,if_neg h])
  | plus a b =>
   simp only [Ty.atoms] at hn h4 hb
   have pa:=atoms_pos a
   have pb:=atoms_pos b
   have fa:okF f a:=fun j hj=>by have:=hf j hj; simp only [hasN,Bool.or_eq_false_iff] at this; exact this.1
   have fb:okF f b:=fun j hj=>by have:=hf j hj; simp only [hasN,Bool.or_eq_false_iff] at this; exact this.2
   simp only [tqc,Ty.av,↓zq,zs,hasK,zt,ty_has]
   refine⟨fun h=>(by cases h),fun _=>⟨by omega,fun h=>by omega,fun _=>⟨fun _=>?_,fun h=>absurd rfl h⟩⟩⟩
   repeat refine⟨by omega,?_⟩
   rw [dvO_plus]
   refine wp_call (Sqq n a (by omega) (by omega) s f fa hs (by omega)) (OfR.ne _ _ _) ?_
   rintro r ob ⟨f1,g1,g2,rfl,rfl⟩
   simp only [↓zq,zs,hasK,zt,hasC,ty_has]
   repeat refine⟨by omega,?_⟩
   cases q1:dvO a s with
   | none =>
    rw [q1] at g2
    simp only [bdF] at g2
    simp only [Option.isNone_none,Option.getD_none,Option.bind_none]
    refine wp_detO (Sq4p b s f1) ?_
    simp only [↓zq,zs,hasK,zt,hasC,ty_has]
    repeat refine⟨by omega,?_⟩
    refine wp_det (Sq5 43 _ _) ?_
    simp only [↓zq,zs,hasK,zt,has_ptr]
    refine wp_detO (Sq3 f1 true (.plus .zero .zero) (by simp [Ty.atoms])) ?_
    simp only [↓zq,zs,hasK,zt,hasC,ty_has]
    exact⟨f1,g1,by simp only [bdF,Ty.atoms]; omega,rfl,rfl⟩
   | some a' =>
    rw [q1] at g2
    simp only [bdF] at g2
    have la:=(dvO_iff.1 q1).small
    simp only [Option.isNone_some,Option.getD_some,Option.bind_some]
    refine wp_call (Sqq n b (by omega) (by omega) s f1 (okF_mono fb g1) (fun j hj=>hs j (by omega)) (by omega)) (OfR.ne _ _ _) ?_
    rintro r ob ⟨f2,k1,k2,rfl,rfl⟩
    simp only [↓zq,zs,hasK,zt,hasC,ty_has]
    repeat refine⟨by omega,?_⟩
    refine wp_det (Sq5 43 _ _) ?_
    simp only [↓zq,zs,hasK,zt,has_ptr]
    cases q2:dvO b s with
    | none =>
     rw [q2] at k2
     simp only [bdF] at k2
     simp only [Option.isNone_none,Option.getD_none,Option.bind_none]
     refine wp_detO (Sq3 f2 true (.plus a' .zero) (by simp [Ty.atoms]; omega)) ?_
     simp only [↓zq,zs,hasK,zt,hasC,ty_has]
     exact⟨f2,by omega,by simp only [bdF,Ty.atoms]; omega,rfl,rfl⟩
    | some b' =>
     rw [q2] at k2
     simp only [bdF] at k2
     have lb:=(dvO_iff.1 q2).small
     simp only [Option.isNone_some,Option.getD_some,Option.bind_some]
     refine wp_detO (Sq3 f2 false (.plus a' b') (by simp only [Ty.atoms]; omega)) ?_
     simp only [↓zq,zs,hasK,zt,hasC,ty_has]
     unfold chk
     by_cases hle:(Ty.plus a' b').atoms<=400
     ·rw [if_pos hle]
      refine⟨f2,by omega,by simp only [bdF,Ty.atoms]; omega,?_,?_⟩
      ·simp [ckR,show ¬ 400 < (Ty.plus a' b').atoms by omega]
      ·simp [ckG,show ¬ 400 < (Ty.plus a' b').atoms by omega]
     ·rw [if_neg hle]
      refine⟨f2,by omega,by simp only [bdF,Ty.atoms]; omega,?_,?_⟩
      ·simp [ckR,show 400 < (Ty.plus a' b').atoms by omega]
      ·simp [ckG,show 400 < (Ty.plus a' b').atoms by omega]
  | times a b =>
   simp only [Ty.atoms] at hn h4 hb
   have pa:=atoms_pos a
   have pb:=atoms_pos b
   have fa:okF f a:=fun j hj=>by have:=hf j hj; simp only [hasN,Bool.or_eq_false_iff] at this; exact this.1
   have fb:okF f b:=fun j hj=>by have:=hf j hj; simp only [hasN,Bool.or_eq_false_iff] at this; exact this.2
   simp only [tqc,Ty.av,↓zq,zs,hasK,zt,ty_has]
   refine⟨fun h=>(by cases h),fun _=>⟨by omega,fun h=>by omega,fun _=>⟨fun h=>by omega,fun _=>⟨fun _=>?_,fun h=>absurd rfl h⟩⟩⟩⟩
   repeat refine⟨by omega,?_⟩
   rw [dvO_times]
   refine wp_call (Sqq n a (by omega) (by omega) s f fa hs (by omega)) (OfR.ne _ _ _) ?_
   rintro r ob ⟨f1,g1,g2,rfl,rfl⟩
   simp only [↓zq,zs,hasK,zt,hasC,ty_has]
   repeat refine⟨by omega,?_⟩
   refine wp_det (Sq5 42 _ _) ?_
   simp only [↓zq,zs,hasK,zt,has_ptr]
   repeat refine⟨by omega,?_⟩
   cases q1:dvO a s with
   | none =>
    rw [q1] at g2
    simp only [bdF] at g2
    simp only [Option.isNone_none,Option.getD_none,Option.bind_none]
    refine wp_detO (Sq4p b s f1) ?_
    simp only [↓zq,zs,hasK,zt,hasC,ty_has]
    repeat refine⟨by omega,?_⟩
    refine wp_det (Sq5 42 _ _) ?_
    simp only [↓zq,zs,hasK,zt,has_ptr]
    refine wp_det (Sq5 43 (.times .zero b) (.times a .zero)) ?_
    simp only [↓zq,zs,hasK,zt,has_ptr]
    refine wp_detO (Sq3 f1 true (.plus (.times .zero b) (.times a .zero)) (by simp only [Ty.atoms]; omega)) ?_
    simp only [↓zq,zs,hasK,zt,hasC,ty_has]
    exact⟨f1,g1,by simp only [bdF,Ty.atoms]; omega,rfl,rfl⟩
   | some a' =>
    rw [q1] at g2
    simp only [bdF] at g2
    have la:=(dvO_iff.1 q1).small
    simp only [Option.isNone_some,Option.getD_some,Option.bind_some]
    refine wp_call (Sqq n b (by omega) (by omega) s f1 (okF_mono fb g1) (fun j hj=>hs j (by omega)) (by omega)) (OfR.ne _ _ _) ?_
    rintro r ob ⟨f2,k1,k2,rfl,rfl⟩
    simp only [↓zq,zs,hasK,zt,hasC,ty_has]
    repeat refine⟨by omega,?_⟩
    refine wp_det (Sq5 42 _ _) ?_
    simp only [↓zq,zs,hasK,zt,has_ptr]
    cases q2:dvO b s with
    | none =>
     rw [q2] at k2
     simp only [bdF] at k2
     simp only [Option.isNone_none,Option.getD_none,Option.bind_none]
     refine wp_det (Sq5 43 (.times a' b) (.times a .zero)) ?_
     simp only [↓zq,zs,hasK,zt,has_ptr]
     refine wp_detO (Sq3 f2 true (.plus (.times a' b) (.times a .zero)) (by simp only [Ty.atoms]; omega)) ?_
     simp only [↓zq,zs,hasK,zt,hasC,ty_has]
     exact⟨f2,by omega,by simp only [bdF,Ty.atoms]; omega,rfl,rfl⟩
    | some b' =>
     rw [q2] at k2
     simp only [bdF] at k2
     have lb:=(dvO_iff.1 q2).small
     simp only [Option.isNone_some,Option.getD_some,Option.bind_some]
     refine wp_det (Sq5 43 (.times a' b) (.times a b')) ?_
     simp only [↓zq,zs,hasK,zt,has_ptr]
     refine wp_detO (Sq3 f2 false (.plus (.times a' b) (.times a b')) (by simp only [Ty.atoms]; omega)) ?_
     simp only [↓zq,zs,hasK,zt,hasC,ty_has]
     unfold chk
     by_cases hle:(Ty.plus (.times a' b) (.times a b')).atoms<=400
     ·rw [if_pos hle]
      refine⟨f2,by omega,by simp only [bdF,Ty.atoms]; omega,?_,?_⟩
      ·simp [ckR,show ¬ 400 < (Ty.plus (.times a' b) (.times a b')).atoms by omega]
      ·simp [ckG,show ¬ 400 < (Ty.plus (.times a' b) (.times a b')).atoms by omega]
     ·rw [if_neg hle]
      refine⟨f2,by omega,by simp only [bdF,Ty.atoms]; omega,?_,?_⟩
      ·simp [ckR,show 400 < (Ty.plus (.times a' b) (.times a b')).atoms by omega]
      ·simp [ckG,show 400 < (Ty.plus (.times a' b) (.times a b')).atoms by omega]
  | rc a =>
   simp only [Ty.atoms] at hn h4 hb
   have pa:=atoms_pos a
   have fa:okF f a:=fun j hj=>hf j hj
   have hxa:hasN (hN (f+1)) a = false:=fa _ (by omega)
   have hxs:hN (f+1)≠s:=fun e=>hs _ (by omega) e.symm
   have fo:okF (f+1) (opn (.name (hN (f+1))) a 0):=fun j hj=>by
    cases q:hasN (hN j) (opn (.name (hN (f+1))) a 0) with
    | false=>rfl
    | true =>
     rcases has_opn a 0 q with e | e
     ·have:=hN_inj e; omega
     ·rw [fa j (by omega)] at e; cases e
   have hoa:(opn (.name (hN (f+1))) a 0).atoms = a.atoms:=opn_atoms _ _ _
   have hop:=Squ (.name (hN (f+1))) a 0 (by omega)
   rw [dvO_rc hxa hxs]
   simp only [tqc,Ty.av,↓zq,zs,hasK,zt,ty_has]
   refine⟨fun h=>(by cases h),fun _=>⟨by omega,fun h=>by omega,fun _=>⟨fun h=>by omega,fun _=>⟨fun h=>by omega,fun _=>⟨fun _=>?_,fun h=>absurd rfl h⟩⟩⟩⟩⟩
   refine wp_detO (Sq8f f false (by omega)) ?_
   simp only [↓zq,zs,hasK,zt,hasC,ty_has]
   repeat refine⟨by omega,?_⟩
   simp only [Ty.av] at hop
   refine wp_det hop ?_
   simp only [↓zq,zs,hasK,zt,hasC,ty_has]
   refine wp_call (Sqq n (opn (.name (hN (f+1))) a 0) (by omega) (by omega) s (f+1) fo (fun j hj=>hs j (by omega)) (by omega)) (OfR.ne _ _ _) ?_
   rintro r ob ⟨f1,g1,g2,rfl,rfl⟩
   simp only [↓zq,zs,hasK,zt,hasC,ty_has]
   generalize hx:hN (f+1) = x at *
   generalize hin:opn (.name x) a 0 = i at *
   have hrc:(Ty.rc a).av = .ptr [.v (.int .u8 114),.v (.string (mk [])),.v (.int .i64 0),a.av,.v (.pointer none)]:=rfl
   cases q1:dvO i s with
   | none =>
    rw [q1] at g2
    simp only [bdF] at g2
    simp only [Option.isNone_none,Option.getD_none,Option.bind_none]
    refine wp_detO (Sq3 f1 true .zero (by simp [Ty.atoms])) ?_
    simp only [↓zq,zs,hasK,zt,hasC,ty_has]
    rw [<-hrc]
    refine wp_det (Sqa x (.rc a) _) ?_
    simp only [↓zq,zs,hasK,zt,ty_has]
    refine wp_detO (Sq4p i x f1) ?_
    simp only [↓zq,zs,hasK,zt,hasC,ty_has]
    refine wp_detO (Sq3 f1 true .zero (by simp [Ty.atoms])) ?_
    simp only [↓zq,zs,hasK,zt,hasC,ty_has]
    refine wp_det (Sqa x (.rc a) _) ?_
    simp only [↓zq,zs,hasK,zt,ty_has]
    refine wp_det (Sq5 42 _ (.bound 0)) ?_
    simp only [↓zq,zs,hasK,zt,has_ptr]
    refine wp_det (Sq5 43 (sub x (.rc a) (ckR true .zero)) (.times (sub x (.rc a) (ckR true .zero)) (.bound 0))) ?_
    simp only [↓zq,zs,hasK,zt,has_ptr,ckG_t]
    have hz:sub x (.rc a) (ckR true .zero) = .zero:=by rw [ckR_t]; rfl
    refine wp_detO (Sq3 f1 true (.rc (.plus (sub x (.rc a) (ckR true .zero)) (.times (sub x (.rc a) (ckR true .zero)) (.bound 0)))) (by rw [hz]; simp only [Ty.atoms]; omega)) ?_
    simp only [↓zq,zs,hasK,zt,hasC,ty_has]
    rw [ckR_t,ckG_t]
    exact⟨f1,by omega,by simp only [bdF,Ty.atoms]; omega,rfl,rfl⟩
   | some c =>
    rw [q1] at g2
    simp only [bdF] at g2
    have lc:=(dvO_iff.1 q1).small
    simp only [Option.isNone_some,Option.getD_some,Option.bind_some]
    refine wp_detO (Sq3 f1 false c (by omega)) ?_
    simp only [↓zq,zs,hasK,zt,hasC,ty_has]
    rw [ckR_f lc,ckG_f lc,<-hrc]
    refine wp_det (Sqa x (.rc a) c) ?_
    simp only [↓zq,zs,hasK,zt,ty_has]
    refine wp_call (Sqq n i (by omega) (by omega) x f1 (okF_mono fo g1) (fun j hj=>by rw [<-hx]; exact fun e=>by have:=hN_inj e; omega) (by omega)) (OfR.ne _ _ _) ?_
    rintro r ob ⟨f2,k1,k2,rfl,rfl⟩
    simp only [↓zq,zs,hasK,zt,hasC,ty_has]
    have hsc:(sub x (.rc a) c).atoms+cntN x c = c.atoms+cntN x c*(Ty.rc a).atoms:=sub_atoms_eq x (.rc a) c
    have hcc:∀t:Ty,cntN x t<=t.atoms:=fun t=>by
     have h1:=sub_atoms_eq x .zero t
     have h2:=sub_atoms x .zero t
     simp only [Ty.atoms,Nat.mul_one] at h1
     have h3:∀t:Ty,cntN x t<=t.atoms:=by
      intro t
      induction t with
      | name s=>simp only [cntN,Ty.atoms]; split<;>omega
      | plus a b i1 i2=>simp only [cntN,Ty.atoms]; omega
      | times a b i1 i2=>simp only [cntN,Ty.atoms]; omega
      | rc a i=>simp only [cntN,Ty.atoms]; omega
      | _=>simp [cntN,Ty.atoms]
     exact h3 t
    have hbig:∀t:Ty,t.atoms<=400->(sub x (.rc a) t).atoms<=400+400*402:=fun t ht=>by
     have h1:=sub_atoms_eq x (.rc a) t
     have h2:=hcc t
     have h3:cntN x t*(Ty.rc a).atoms<=400*402:=Nat.mul_le_mul (by omega) (by simp only [Ty.atoms]; omega)
     omega
    have b1:=hbig c lc
    cases q2:dvO i x with
    | none =>
     rw [q2] at k2
     simp only [bdF] at k2
     simp only [Option.isNone_none,Option.getD_none,Option.bind_none]
     refine wp_detO (Sq3 f2 true .zero (by simp [Ty.atoms])) ?_
     simp only [↓zq,zs,hasK,zt,hasC,ty_has]
     rw [ckR_t,ckG_t]
     refine wp_det (Sqa x (.rc a) .zero) ?_
     simp only [↓zq,zs,hasK,zt,ty_has]
     refine wp_det (Sq5 42 _ (.bound 0)) ?_
     simp only [↓zq,zs,hasK,zt,has_ptr]
     refine wp_det (Sq5 43 (sub x (.rc a) c) (.times (sub x (.rc a) .zero) (.bound 0))) ?_
     simp only [↓zq,zs,hasK,zt,has_ptr]
     refine wp_detO (Sq3 f2 true (.rc (.plus (sub x (.rc a) c) (.times (sub x (.rc a) .zero) (.bound 0)))) (by simp only [sub,Ty.atoms]; omega)) ?_
     simp only [↓zq,zs,hasK,zt,hasC,ty_has]
     rw [ckR_t,ckG_t]
     exact⟨f2,by omega,by simp only [bdF,Ty.atoms]; omega,rfl,rfl⟩
    | some d =>
     rw [q2] at k2
     simp only [bdF] at k2
     have ld:=(dvO_iff.1 q2).small
     have b2:=hbig d ld
     simp only [Option.isNone_some,Option.getD_some,Option.bind_some]
     refine wp_detO (Sq3 f2 false d (by omega)) ?_
     simp only [↓zq,zs,hasK,zt,hasC,ty_has]
     rw [ckR_f ld,ckG_f ld]
     refine wp_det (Sqa x (.rc a) d) ?_
     simp only [↓zq,zs,hasK,zt,ty_has]
     refine wp_det (Sq5 42 _ (.bound 0)) ?_
     simp only [↓zq,zs,hasK,zt,has_ptr]
     refine wp_det (Sq5 43 (sub x (.rc a) c) (.times (sub x (.rc a) d) (.bound 0))) ?_
     simp only [↓zq,zs,hasK,zt,has_ptr]
     have hdrc:drc a x c d = .rc (.plus (sub x (.rc a) c) (.times (sub x (.rc a) d) (.bound 0))):=rfl
     refine wp_detO (Sq3 f2 false (drc a x c d) (by rw [hdrc]; simp only [Ty.atoms]; omega)) ?_
     simp only [↓zq,zs,hasK,zt,hasC,ty_has]
     have s1:=sub_atoms x (.rc a) c
     have s2:=sub_atoms x (.rc a) d
     unfold chk
     by_cases hle:(drc a x c d).atoms<=400
     ·rw [if_pos hle,ckR_f hle,ckG_f hle]
      exact⟨f2,by omega,by simp only [bdF,hdrc,Ty.atoms]; omega,rfl,rfl⟩
     ·rw [if_neg hle,ckR_n hle,ckG_n hle]
      exact⟨f2,by omega,by simp only [bdF,Ty.atoms]; omega,rfl,rfl⟩
def LpR (o:Option Ty):AV->List Ob->Prop:=fun r ob=>ob = []/\∃p,LK.ptr.has p/\r = .tup [p,.v (.bool o.isSome)]/\∀d,o = some d->p = d.av
theorem LpR.ne (o:Option Ty):∃r ob,LpR o r ob:=by
 cases o with
 | none=>exact⟨_,_,rfl,nilp,(has_nil).mpr trivial,rfl,fun d h=>by cases h⟩
 | some d=>exact⟨_,_,rfl,d.av,(ty_has _).mpr trivial,rfl,fun d' h=>by cases h; rfl⟩
theorem hN_one:hN 1 = one1N:=by show (35::dd 1:Nm) = _; rw [dd_one (by omega)]; rfl
theorem Sqd5 (a:Ty) (h4:a.atoms+2<=400) (hf:∀j,hasN (hN j) a = false):FSpec Tryz.prog 59 [(Ty.rc a).av] [] (LpR (lpO a one1N)):=by
 have hxa:hasN (hN 1) a = false:=hf 1
 have fo:okF 1 (opn (.name (hN 1)) a 0):=fun j hj=>by
  cases q:hasN (hN j) (opn (.name (hN 1)) a 0) with
  | false=>rfl
  | true =>
   rcases has_opn a 0 q with e | e
   ·have:=hN_inj e; omega
   ·rw [hf j] at e; cases e
 have hoa:(opn (.name (hN 1)) a 0).atoms = a.atoms:=opn_atoms _ _ _
 have hop:=Squ (.name (hN 1)) a 0 (by omega)
 rw [<-hN_one]
 have hrc:(Ty.rc a).av = .ptr [.v (.int .u8 114),.v (.string (mk [])),.v (.int .i64 0),a.av,.v (.pointer none)]:=rfl
 refine Fqgd _ ((ty_has _).mpr trivial) ?_
 unfold tq9h
 refine wp_detO (Sq8f 0 false (by omega)) ?_
 simp only [Ty.av,↓zq,zs,hasK,zt,hasC,ty_has]
 repeat refine⟨by omega,?_⟩
 simp only [Ty.av] at hop
 refine wp_det hop ?_
 simp only [↓zq,zs,hasK,zt,hasC,ty_has]
 refine wp_call (Sqq 400 (opn (.name (hN 1)) a 0) (by omega) (by omega) (hN 1) 1 fo (fun j hj e=>by have:=hN_inj e; omega) (by omega)) (OfR.ne _ _ _) ?_
 rintro r ob ⟨f1,g1,g2,rfl,rfl⟩
 simp only [↓zq,zs,hasK,zt,hasC,ty_has]
 unfold lpO
 cases q1:dvO (opn (.name (hN 1)) a 0) (hN 1) with
 | none =>
  simp only [Option.isNone_none,Option.getD_none,Option.bind_none]
  refine wp_detO (Sq3 f1 true .zero (by simp [Ty.atoms])) ?_
  simp only [↓zq,zs,hasK,zt,hasC,ty_has,ckG_t]
  exact⟨fun _=>⟨rfl,nilp,(has_nil).mpr trivial,rfl,fun d h=>(by cases h)⟩,fun h=>(by cases h)⟩
 | some d =>
  have ld:=(dvO_iff.1 q1).small
  simp only [Option.isNone_some,Option.getD_some,Option.bind_some]
  refine wp_detO (Sq3 f1 false d (by omega)) ?_
  simp only [↓zq,zs,hasK,zt,hasC,ty_has]
  rw [ckR_f ld,ckG_f ld]
  refine⟨fun h=>(by cases h),fun _=>?_⟩
  rw [<-hrc]
  refine wp_det (Sqa (hN 1) (.rc a) d) ?_
  simp only [↓zq,zs,hasK,zt,ty_has]
  have h1:=sub_atoms_eq (hN 1) (.rc a) d
  have hcn:cntN (hN 1) d<=d.atoms:=by
   have h3:∀t:Ty,cntN (hN 1) t<=t.atoms:=by
    intro t
    induction t with
    | name s=>simp only [cntN,Ty.atoms]; split<;>omega
    | plus a b i1 i2=>simp only [cntN,Ty.atoms]; omega
    | times a b i1 i2=>simp only [cntN,Ty.atoms]; omega
    | rc a i=>simp only [cntN,Ty.atoms]; omega
    | _=>simp [cntN,Ty.atoms]
   exact h3 d
  have h3:cntN (hN 1) d*(Ty.rc a).atoms<=400*402:=Nat.mul_le_mul (by omega) (by simp only [Ty.atoms]; omega)
  refine wp_detO (Sq3 f1 false (sub (hN 1) (.rc a) d) (by omega)) ?_
  simp only [↓zq,zs,hasK,zt,hasC,ty_has]
  unfold chk
  by_cases hle:(sub (hN 1) (.rc a) d).atoms<=400
  ·rw [if_pos hle,ckR_f hle,ckG_f hle]
   exact⟨rfl,_,(ty_has _).mpr trivial,rfl,fun d' h=>by cases h; rfl⟩
  ·rw [if_neg hle,ckR_n hle,ckG_n hle]
   exact⟨rfl,_,(ty_has _).mpr trivial,rfl,fun d' h=>(by cases h)⟩
end Go.Proofs.Trees
namespace Go.Proofs.Trees
open Go Go.VL Go.RowKit
theorem txt_len3 (h:Nm) (a b:E):(txE (.list [.atom h,a,b])).length = h.length+(txE a).length+(txE b).length+4:=by
 simp only [txE,txEs,List.length_cons,List.length_append,List.length_nil]; omega
theorem cnT_txt (F:List Nm) (hF:F.length<=10000):∀(t:Ty) (to:List Nm) (k:Nat),shN t->(∀w,w∈to->w.length<=20)->k+(F.length+1)*t.atoms < 90000000->(txE (cnT F t to k).1).length<=50*t.atoms
 | .zero,_,_,_,_,_=>by simp [cnT,txE,Ty.atoms]
 | .one,_,_,_,_,_=>by simp [cnT,txE,Ty.atoms]
 | .name s,_,_,hn,_,_=>by have:=hn s (by simp [hasN]); simp only [cnT,txE,Ty.atoms]; omega
 | .bound u,to,_,_,ht,_=>by
  show (nmAt to u).length<=50*1
  unfold nmAt
  by_cases h:to.length - 1 - u < to.length
  ·rw [List.getD_eq_getElem?_getD,List.getElem?_eq_getElem h]; have:=ht _ (List.getElem_mem h); simp only [Option.getD_some]; omega
  ·rw [List.getD_eq_getElem?_getD,List.getElem?_eq_none (by omega)]; simp
 | .plus a b,to,k,hn,ht,hk=>by
  have h1:=cnT_le F a to k
  have:(F.length+1)*(1+a.atoms+b.atoms) = (F.length+1)+(F.length+1)*a.atoms+(F.length+1)*b.atoms:=by simp only [Nat.mul_add,Nat.mul_one]
  simp only [Ty.atoms] at hk
  have i1:=cnT_txt F hF a to k (fun y hy=>hn y (by simp [hasN,hy])) ht (by omega)
  have i2:=cnT_txt F hF b to _ (fun y hy=>hn y (by simp [hasN,hy])) ht (show (cnT F a to k).2+_ < _ by omega)
  simp only [cnT,txt_len3,Ty.atoms,List.length_cons,List.length_nil]; omega
 | .times a b,to,k,hn,ht,hk=>by
  have h1:=cnT_le F a to k
  have:(F.length+1)*(1+a.atoms+b.atoms) = (F.length+1)+(F.length+1)*a.atoms+(F.length+1)*b.atoms:=by simp only [Nat.mul_add,Nat.mul_one]
  simp only [Ty.atoms] at hk
  have i1:=cnT_txt F hF a to k (fun y hy=>hn y (by simp [hasN,hy])) ht (by omega)
  have i2:=cnT_txt F hF b to _ (fun y hy=>hn y (by simp [hasN,hy])) ht (show (cnT F a to k).2+_ < _ by omega)
  simp only [cnT,txt_len3,Ty.atoms,List.length_cons,List.length_nil]; omega
 | .rc a,to,k,hn,ht,hk=>by
  obtain⟨g1,g2,_,_⟩:=nx_spec F k
  have:(F.length+1)*(2+a.atoms) = (F.length+1)*2+(F.length+1)*a.atoms:=by simp only [Nat.mul_add]
  simp only [Ty.atoms] at hk
  have hl:=tN_len (k:=nx F k) (by omega)
  have i1:=cnT_txt F hF a (to++[tN (nx F k)]) (nx F k+1) hn (fun w hw=>by
   rcases List.mem_append.1 hw with hw | hw
   ·exact ht w hw
   ·simp only [List.mem_singleton] at hw; rw [hw]; exact hl) (by omega)
  simp only [cnT,txt_len3,Ty.atoms,List.length_cons,List.length_nil]
  simp only [txE]
  simp only [List.length_cons] at hl |-
  omega
theorem Lq8j (x0 a fv:AV) (F:List Nm) (h0:LK.ptr.has x0) (ha:LK.sl.has a) (hfv:StrsA fv F) (hF:F.length < 100000):∀(n j:Nat),nxt F n j < j+n->j+n < 100000000 ->
  Lq29 [x0,a,.v (.string (mk (tN j)))] [.cells [fv],.cells [.v (.int .i64 ((j+1:Nat):Int))]] (LIs 1 [x0,a,.v (.string (mk (tN (nxt F n j))))] [.cells [fv],.cells [.v (.int .i64 ((nxt F n j+1:Nat):Int))]])
 | 0,j,h,_=>by simp only [nxt] at h; omega
 | n+1,j,h,hj=>by
  refine Gqcj _ _ _ _ _ ?_
  simp only [rq4c,↓zq,zs,hasK,zt,hasK,hfv.1,h0,ha]
  refine⟨fun h=>(by simp at h),fun _=>?_⟩
  refine wp_det (Sq9i F fv hfv (tN j) (by omega)) ?_
  simp only [↓zq,zs,hasK,zt]
  rw [nxt] at h |-
  refine⟨fun hm=>?_,fun hm=>?_⟩
  ·rw [if_pos hm] at h |-
   refine wp_det (Sq3k (j+1) (by omega)) ?_
   have hd:=dd_len8 8 (j+1) (by omega)
   simp only [↓zq,zs,hasK,zt,List.cons_append,List.nil_append]
   rw [wrap_succ (j+1) (by omega)]
   exact⟨by simp [size_mk]; omega,Lq8j x0 a fv F h0 ha hfv hF n (j+1) (by omega) (by omega)⟩
  ·rw [if_neg hm]
   exact⟨rfl,rfl,rfl⟩
theorem Lqea (x0 a fv:AV) (F:List Nm) (h0:LK.ptr.has x0) (ha:LK.sl.has a) (hfv:StrsA fv F) (hF:F.length < 10000) (k:Nat) (hk:k < 90000000) :
  Lq29 [x0,a,.v (.string (mk []))] [.cells [fv],.cells [.v (.int .i64 (k:Int))]] (LIs 1 [x0,a,.v (.string (mk (tN (nx F k))))] [.cells [fv],.cells [.v (.int .i64 ((nx F k+1:Nat):Int))]]):=by
 obtain⟨g1,g2,_,_⟩:=nx_spec F k
 refine Gqcj _ _ _ _ _ ?_
 simp only [rq4c,↓zq,zs,hasK,zt,hasK,hfv.1,h0,ha]
 refine⟨fun _=>?_,fun h=>(by simp at h)⟩
 refine wp_det (Sq3k k (by omega)) ?_
 have hd:=dd_len8 8 k (by omega)
 simp only [↓zq,zs,hasK,zt,List.cons_append,List.nil_append]
 rw [wrap_succ k (by omega)]
 exact⟨by simp [size_mk]; omega,Lq8j x0 a fv F h0 ha hfv (by omega) (F.length+1) k (by show nx F k < _; omega) (by omega)⟩
theorem Sq1a (F:List Nm) (fv:AV) (hfv:StrsA fv F) (hF:F.length<=1000):∀(t:Ty) (to:List Nm) (a:AV) (k:Nat),StrsA a to->to.length+t.atoms < 10000->lcT t to.length->shN t->(∀w,w∈to->w.length<=20)->k+(F.length+1)*t.atoms < 80000000 ->
  FSpec Tryz.prog 123 [t.av,a,.cptr 123 [none,some 0,some 1],.ref 0 0,.ref 1 0] [.cells [fv],.cells [.v (.int .i64 (k:Int))]] (DetO (.v (.string (mk (txE (cnT F t to k).1)))) [.cells [fv],.cells [.v (.int .i64 ((cnT F t to k).2:Int))]])
 | .zero,to,a,k,ha,hl,hlc,hs,ht,hk=>by
  refine Fqv _ _ _ _ ((ty_has _).mpr trivial) ha.1 hfv.1 ?_
  simp only [tqm,Ty.av,↓zq,zs,hasK,zt,ty_has]
  refine⟨by omega,fun h=>by omega,fun _=>⟨fun h=>by omega,fun _=>⟨fun h=>by omega,fun _=>⟨fun h=>by omega,fun _=>⟨fun h=>by omega,fun _=>?_⟩⟩⟩⟩⟩
  repeat refine⟨by omega,?_⟩
  exact⟨⟨rfl,(has_int _ _).mpr trivial,trivial⟩,rfl,rfl⟩
 | .one,to,a,k,ha,hl,hlc,hs,ht,hk=>by
  refine Fqv _ _ _ _ ((ty_has _).mpr trivial) ha.1 hfv.1 ?_
  simp only [tqm,Ty.av,↓zq,zs,hasK,zt,ty_has]
  refine⟨by omega,fun h=>by omega,fun _=>⟨fun h=>by omega,fun _=>⟨fun h=>by omega,fun _=>⟨fun h=>by omega,fun _=>⟨fun h=>by omega,fun _=>?_⟩⟩⟩⟩⟩
  repeat refine⟨by omega,?_⟩
  exact⟨⟨rfl,(has_int _ _).mpr trivial,trivial⟩,rfl,rfl⟩
 | .name s,to,a,k,ha,hl,hlc,hs,ht,hk=>by
  refine Fqv _ _ _ _ ((ty_has _).mpr trivial) ha.1 hfv.1 ?_
  simp [tqm,Ty.av,↓zq,zs,hasK,DetO,cnT,txE]
 | .bound u,to,a,k,ha,hl,hlc,hs,ht,hk=>by
  have hu:u < to.length:=hlc
  refine Fqv _ _ _ _ ((ty_has _).mpr trivial) ha.1 hfv.1 ?_
  simp only [tqm,Ty.av,↓zq,zs,hasK,zt,ha.len]
  rw [wrap64 ((to.length:Int) - 1) (by omega) (by omega),wrap64 _ (by omega) (by omega)]
  have e1:(to.length:Int) - 1 - (u:Int) = ((to.length - 1 - u:Nat):Int):=by omega
  rw [e1]
  simp only [Int.toNat_natCast,ha.idx (show to.length - 1 - u < to.length by omega),↓zq,zs,hasK,zt]
  refine⟨by omega,fun h=>by omega,fun _=>⟨fun _=>⟨ha.1,by omega,⟨ha.1,by omega,by omega⟩,by omega,rfl,rfl⟩,fun h=>absurd rfl h⟩⟩
 | .plus x y,to,a,k,ha,hl,hlc,hs,ht,hk=>by
  simp only [Ty.atoms] at hl hk
  have h1:=cnT_le F x to k
  have hm:(F.length+1)*(1+x.atoms+y.atoms) = (F.length+1)+(F.length+1)*x.atoms+(F.length+1)*y.atoms:=by simp only [Nat.mul_add,Nat.mul_one]
  have sx:shN x:=fun z hz=>hs z (by simp [hasN,hz])
  have sy:shN y:=fun z hz=>hs z (by simp [hasN,hz])
  have t1:=cnT_txt F (by omega) x to k sx ht (by omega)
  have t2:=cnT_txt F (by omega) y to (cnT F x to k).2 sy ht (by omega)
  have hb:(⟨(bytesOf [[.v (.int .u8 43)]]).toArray⟩:ByteArray) = mk [43]:=rfl
  have h8:allU8 [[AV.v (.int .u8 43)]]:=⟨rfl,(has_int _ _).mpr trivial,trivial⟩
  refine Fqv _ _ _ _ ((ty_has _).mpr trivial) ha.1 hfv.1 ?_
  simp only [tqm,Ty.av,↓zq,zs,hasK,zt,ty_has,hb]
  refine⟨by omega,fun h=>by omega,fun _=>⟨fun h=>by omega,fun _=>⟨fun _=>?_,fun h=>absurd rfl h⟩⟩⟩
  repeat refine⟨by omega,?_⟩
  refine wp_detO (Sq1a F fv hfv hF x to a k ha (by omega) hlc.1 sx ht (by omega)) ?_
  simp only [↓zq,zs,hasK,zt,hasC,hfv.1,hb,List.cons_append,List.nil_append]
  repeat (first | refine⟨by omega,?_⟩ | refine⟨h8,?_⟩ | refine⟨by simp [size_mk]; omega,?_⟩)
  refine wp_detO (Sq1a F fv hfv hF y to a _ ha (by omega) hlc.2 sy ht (by omega)) ?_
  simp only [↓zq,zs,hasK,zt,hasC,hfv.1,hb,List.cons_append,List.nil_append]
  repeat (first | refine⟨by omega,?_⟩ | refine⟨h8,?_⟩ | refine⟨by simp [size_mk]; omega,?_⟩)
  refine⟨?_,rfl⟩
  simp [cnT,txE,txEs]
 | .times x y,to,a,k,ha,hl,hlc,hs,ht,hk=>by
  simp only [Ty.atoms] at hl hk
  have h1:=cnT_le F x to k
  have hm:(F.length+1)*(1+x.atoms+y.atoms) = (F.length+1)+(F.length+1)*x.atoms+(F.length+1)*y.atoms:=by simp only [Nat.mul_add,Nat.mul_one]
  have sx:shN x:=fun z hz=>hs z (by simp [hasN,hz])
  have sy:shN y:=fun z hz=>hs z (by simp [hasN,hz])
  have t1:=cnT_txt F (by omega) x to k sx ht (by omega)
  have t2:=cnT_txt F (by omega) y to (cnT F x to k).2 sy ht (by omega)
  have hb:(⟨(bytesOf [[.v (.int .u8 42)]]).toArray⟩:ByteArray) = mk [42]:=rfl
  have h8:allU8 [[AV.v (.int .u8 42)]]:=⟨rfl,(has_int _ _).mpr trivial,trivial⟩
  refine Fqv _ _ _ _ ((ty_has _).mpr trivial) ha.1 hfv.1 ?_
  simp only [tqm,Ty.av,↓zq,zs,hasK,zt,ty_has,hb]
  refine⟨by omega,fun h=>by omega,fun _=>⟨fun h=>by omega,fun _=>⟨fun h=>by omega,fun _=>⟨fun _=>?_,fun h=>absurd rfl h⟩⟩⟩⟩
  repeat refine⟨by omega,?_⟩
  refine wp_detO (Sq1a F fv hfv hF x to a k ha (by omega) hlc.1 sx ht (by omega)) ?_
  simp only [↓zq,zs,hasK,zt,hasC,hfv.1,hb,List.cons_append,List.nil_append]
  repeat (first | refine⟨by omega,?_⟩ | refine⟨h8,?_⟩ | refine⟨by simp [size_mk]; omega,?_⟩)
  refine wp_detO (Sq1a F fv hfv hF y to a _ ha (by omega) hlc.2 sy ht (by omega)) ?_
  simp only [↓zq,zs,hasK,zt,hasC,hfv.1,hb,List.cons_append,List.nil_append]
  repeat (first | refine⟨by omega,?_⟩ | refine⟨h8,?_⟩ | refine⟨by simp [size_mk]; omega,?_⟩)
  refine⟨?_,rfl⟩
  simp [cnT,txE,txEs]
 | .rc x,to,a,k,ha,hl,hlc,hs,ht,hk=>by
  simp only [Ty.atoms] at hl hk
  obtain⟨g1,g2,_,_⟩:=nx_spec F k
  have hm:(F.length+1)*(2+x.atoms) = (F.length+1)*2+(F.length+1)*x.atoms:=by simp only [Nat.mul_add]
  have hln:=tN_len (k:=nx F k) (by omega)
  have ht':∀w,w∈to++[tN (nx F k)]->w.length<=20:=fun w hw=>by
   rcases List.mem_append.1 hw with hw | hw
   ·exact ht w hw
   ·simp only [List.mem_singleton] at hw; rw [hw]; exact hln
  have t1:=cnT_txt F (by omega) x (to++[tN (nx F k)]) (nx F k+1) hs ht' (by omega)
  have hrc:(Ty.rc x).av = .ptr [.v (.int .u8 114),.v (.string (mk [])),.v (.int .i64 0),x.av,.v (.pointer none)]:=rfl
  refine Fqv _ _ _ _ ((ty_has _).mpr trivial) ha.1 hfv.1 ?_
  simp only [tqm,Ty.av,↓zq,zs,hasK,zt,ty_has]
  refine⟨by omega,fun h=>by omega,fun _=>⟨fun h=>by omega,fun _=>⟨fun h=>by omega,fun _=>⟨fun h=>by omega,fun _=>⟨fun _=>?_,fun h=>absurd rfl h⟩⟩⟩⟩⟩
  rw [<-hrc]
  repeat refine⟨by omega,?_⟩
  refine wp_loop1 (Lqea (Ty.rc x).av a fv F ((ty_has _).mpr trivial) ha.1 hfv (by omega) k (by omega)) ?_
  simp only [Ty.av,↓zq,zs,hasK,zt,hasK,hasC,hfv.1,ha.1,ty_has,ha.2,Sqr,List.nil_append,strsAV_len',allLen_strs]
  have hl2:(dd (nx F k)).length+1<=20:=hln
  have hl3:(tN (nx F k)).length = (dd (nx F k)).length+1:=rfl
  refine⟨by omega,by simp only [List.length_append,List.length_cons,List.length_nil,hl3]; omega,by omega,by omega,⟨fun c hc=>by simp at hc; rw [hc]; rfl,by omega⟩,?_⟩
  refine wp_detO (Sq1a F fv hfv hF x (to++[tN (nx F k)]) _ (nx F k+1) (.of _) (by simp; omega) (by rw [List.length_append]; exact hlc) hs ht' (by omega)) ?_
  simp only [↓zq,zs,hasK,zt,hasC,hfv.1]
  repeat refine⟨by omega,?_⟩
  refine⟨by simp only [List.length_append,List.length_cons,List.length_nil,hl3]; omega,by simp only [List.length_append,List.length_cons,List.length_nil,hl3]; omega,?_,rfl⟩
  simp [cnT,txE,txEs]
theorem Sqg2 (t:Ty) (g:goodT t) (hs:shN t) (h4:t.atoms<=400):FSpec Tryz.prog 98 [t.av] [] (Det (.v (.string (mk (cnX t))))):=by
 refine Fqg3 _ ((ty_has _).mpr trivial) ?_
 unfold tq7p
 have hn:=namesOf_len t []
 simp only [List.length_nil,Nat.zero_add] at hn
 have hm:((namesOf t []).length+1)*t.atoms<=401*400:=Nat.mul_le_mul (by omega) h4
 refine wp_det (Sq84 t (by omega)) ?_
 simp only [↓zq,zs,hasK,zt,has_sl]
 refine wp_detO (Sq1a (namesOf t []) _ (.of _) (by omega) t [] slz 0 .nil (by simp; omega) g.1 hs (fun w hw=>by cases hw) (by omega)) ?_
 simp only [↓zq,zs,hasK,zt,hasC,has_sl]
 exact⟨rfl,rfl⟩
theorem Sqel (t:Ty) (g:goodT t) (hs:shN t) (hl:t.atoms < 1000000):FSpec Tryz.prog 60 [t.av] [] (Det (optS (told t))):=by
 refine Fqf1 _ ((ty_has _).mpr trivial) ?_
 unfold tq7m
 refine wp_det (Sqk t hl) ?_
 simp only [↓zq,zs,hasK,zt]
 refine⟨fun h=>?_,fun h=>?_⟩
 ·have:told t = none:=by unfold told; rw [if_neg fun h'=>by have:=h'.1; omega]
  rw [this]; exact⟨rfl,rfl⟩
 ·have h4:t.atoms<=400:=by omega
  refine wp_det (Sqg2 t g hs h4) ?_
  simp only [↓zq,zs,hasK,zt]
  refine wp_det (Sq3h (cnX t)) ?_
  simp only [↓zq,zs,hasK,zt,optT_has]
  unfold told
  cases q:rdY (cnX t) with
  | none =>
   simp only [optT,↓zq,zs,hasK]
   rw [if_neg (by simp)]
   exact⟨fun _=>⟨rfl,rfl⟩,fun h=>(by cases h)⟩
  | some u =>
   simp only [optT,↓zq,zs,hasK,ty_nil]
   rw [if_pos ⟨h4,rfl⟩]
   exact⟨fun h=>(by cases h),fun _=>⟨rfl,rfl⟩⟩
theorem Sqdi (s:Nm):FSpec Tryz.prog 43 [.v (.string (mk s))] [] (Det (optS (derLoop s))):=by
 refine Fqer _ ?_
 unfold tq8g
 refine wp_det (Sq3h s) ?_
 simp only [↓zq,zs,hasK,zt,optT_has]
 cases q:rdY s with
 | none =>
  have:derLoop s = none:=by unfold derLoop; rw [q]
  rw [this]
  simp only [optT,↓zq,zs,hasK]
  exact⟨fun _=>⟨rfl,rfl⟩,fun h=>(by cases h)⟩
 | some t =>
  simp only [optT,↓zq,zs,hasK,ty_nil]
  have notRec:(∀a,t≠.rc a)->derLoop s = none:=fun hn=>by
   unfold derLoop; rw [q]
   cases t<;>first | rfl | exact absurd rfl (hn _)
  refine⟨fun h=>(by cases h),fun _=>?_⟩
  cases t with
  | rc a =>
   have h4:=rdY_atoms q
   simp only [Ty.atoms] at h4
   have hq:derLoop s = (lpO a one1N).bind told:=by unfold derLoop; rw [q]
   obtain⟨e,he,hw,hte,hats,hok⟩:=rdY_wf q
   have hgood:∀d,lpO a one1N = some d->goodT d/\(shN (.rc a)->shN d):=fun d hd=>lpO_good hw hte ⟨by simp,by simp,by simp⟩ hd
   rw [hq]
   simp only [Ty.av,↓zq,zs,hasK]
   refine⟨by omega,fun h=>by omega,fun _=>?_⟩
   have hld:=Sqd5 a (by omega) (fun j=>by
    cases q2:hasN (hN j) a with
    | false=>rfl
    | true=>exact absurd rfl ((rdN_ok (rdY_names q (hN j) q2)).2 (dd j)))
   simp only [Ty.av] at hld
   refine wp_call hld (LpR.ne _) ?_
   rintro r ob ⟨rfl,p,hp,rfl,hpe⟩
   simp only [↓zq,zs,hasK,zt,eq_true hp]
   cases q1:lpO a one1N with
   | none =>
    simp only [Option.isSome_none,Option.bind_none]
    exact⟨fun _=>⟨rfl,rfl⟩,fun h=>(by cases h)⟩
   | some d =>
    simp only [Option.isSome_some,Option.bind_some]
    refine⟨fun h=>(by cases h),fun _=>?_⟩
    rw [hpe d q1]
    have hl:d.atoms<=400:=by
     simp only [lpO,Option.bind_eq_some_iff,chk_some] at q1
     obtain⟨_,_,h1,h2⟩:=q1
     rw [<-h2]; exact h1
    refine wp_det (Sqel d (hgood d q1).1 ((hgood d q1).2 (rdY_sh q)) (by omega)) ?_
    cases told d<;>simp only [optS,↓zq,zs,hasK,zt]<;>exact⟨rfl,rfl⟩
  | _ =>
   rw [notRec fun a h=>by cases h]
   simp only [Ty.av,↓zq,zs,hasK]
   exact⟨by omega,fun _=>⟨rfl,rfl⟩,fun h=>by omega⟩
end Go.Proofs.Trees
namespace Go.Proofs.Trees
open Go Go.VL Go.RowKit
theorem Sqo:∀(m:Nat) (c:Vl),c.nodes<=m->∀(t:Ty) (v:Vl),ctxOk t c = true->∀(ea:AV) (ids:List Nat),EnvA ea ids->∀(s:List UInt8) (fr:AV),LK.has .ptr fr->FSpec Tryz.prog 72 [.agg [t.av,ea],c.iav,.agg [.v (.string (mk s)),fr],v.iav] [] (Det (plug t c v).iav)
 | 0,c,hm=>by have:=nodes_pos c; omega
 | m+1,c,hm=>by
  intro t v hc ea ids he s fr hf
  refine Fqfr _ _ _ _ _ _ ((ty_has _).mpr trivial) he.has ((vl_has _).mpr trivial) hf ((vl_has _).mpr trivial) ?_
  have fin:∀x:AV,LK.has .ptr x->LK.has .ptr x = True:=fun x h=>eq_true h
  cases t with
  | zero=>rw [plug_zero]; simp [tqb,Ty.av,↓zq,zs,hasK,Det]
  | one=>rw [plug_one]; simp [tqb,Ty.av,↓zq,zs,hasK,Det]
  | name n=>rw [plug_name]; simp [tqb,Ty.av,↓zq,zs,hasK,Det]
  | bound u=>rw [plug_bound]; simp [tqb,Ty.av,↓zq,zs,hasK,Det]
  | plus a b =>
   have hL:=Sq1b a.av b.av ea 43 (mk []) 0 ((ty_has _).mpr trivial) he.has
   have hR:=Sq1i a.av b.av ea 43 (mk []) 0 ((ty_has _).mpr trivial) he.has
   rcases ctx_plus hc with⟨x,rfl,hx⟩ | ⟨x,rfl,hx⟩
   ·simp only [Vl.nodes] at hm
    simp only [tqb,Ty.av,↓zq,zs,hasK]
    refine⟨by omega,fun _=>?_,fun h=>absurd rfl h⟩
    refine wp_det hL ?_
    simp only [↓zq,zs,hasK,hasL,ty_has,he.has,Vl.iav,vl_has]
    refine⟨by omega,fun h=>by omega,fun _=>⟨by omega,by omega,?_⟩⟩
    refine wp_det (Sqo m x (by omega) a v hx ea ids he s fr hf) ?_
    simp only [↓zq,zs,hasK,vl_has]
    refine wp_det (Sq7 108 _ ((vl_has _).mpr trivial)) ?_
    simp [↓zq,zs,hasK,Det,plug,Vl.iav,has_ptr]
   ·simp only [Vl.nodes] at hm
    simp only [tqb,Ty.av,↓zq,zs,hasK]
    refine⟨by omega,fun _=>?_,fun h=>absurd rfl h⟩
    refine wp_det hL ?_
    simp only [↓zq,zs,hasK,hasL,ty_has,he.has,Vl.iav,vl_has]
    refine⟨by omega,fun _=>?_,fun h=>absurd rfl h⟩
    refine wp_det hR ?_
    simp only [↓zq,zs,hasK,hasL,ty_has,he.has,Vl.iav,vl_has]
    refine⟨by omega,by omega,?_⟩
    refine wp_det (Sqo m x (by omega) b v hx ea ids he s fr hf) ?_
    simp only [↓zq,zs,hasK,vl_has]
    refine wp_det (Sq7 114 _ ((vl_has _).mpr trivial)) ?_
    simp [↓zq,zs,hasK,Det,plug,Vl.iav,has_ptr]
  | times a b =>
   have hL:=Sq1b a.av b.av ea 42 (mk []) 0 ((ty_has _).mpr trivial) he.has
   have hR:=Sq1i a.av b.av ea 42 (mk []) 0 ((ty_has _).mpr trivial) he.has
   rcases ctx_times hc with⟨x,y,rfl,hx⟩ | ⟨x,y,rfl,hx⟩
   ·simp only [Vl.nodes] at hm
    simp only [tqb,Ty.av,↓zq,zs,hasK,Vl.iav]
    refine⟨by omega,fun h=>by omega,fun _=>⟨fun _=>⟨by omega,fun _=>?_,fun h=>absurd rfl h⟩,fun h=>absurd rfl h⟩⟩
    refine wp_det hL ?_
    simp only [↓zq,zs,hasK,hasL,ty_has,he.has,Vl.iav,vl_has]
    repeat refine⟨by omega,?_⟩
    refine wp_det (Sqo m x (by omega) a v hx ea ids he s fr hf) ?_
    simp only [↓zq,zs,hasK,vl_has]
    repeat refine⟨by omega,?_⟩
    refine wp_det (Sq1l _ _ ((vl_has _).mpr trivial) ((vl_has _).mpr trivial)) ?_
    simp [↓zq,zs,hasK,Det,plug,Vl.iav,has_ptr]
   ·simp only [Vl.nodes] at hm
    simp only [tqb,Ty.av,↓zq,zs,hasK,Vl.iav,vl_has]
    refine⟨by omega,fun h=>by omega,fun _=>⟨fun _=>⟨by omega,fun h=>by omega,fun _=>?_⟩,fun h=>absurd rfl h⟩⟩
    repeat refine⟨by omega,?_⟩
    refine wp_det hR ?_
    simp only [↓zq,zs,hasK,hasL,ty_has,he.has,Vl.iav,vl_has]
    repeat refine⟨by omega,?_⟩
    refine wp_det (Sqo m y (by omega) b v hx ea ids he s fr hf) ?_
    simp only [↓zq,zs,hasK,vl_has]
    refine wp_det (Sq1l _ _ ((vl_has _).mpr trivial) ((vl_has _).mpr trivial)) ?_
    simp [↓zq,zs,hasK,Det,plug,Vl.iav,has_ptr]
  | rc a =>
   have hin:=Sq2k a ea ids he
   simp only [Ty.av] at hin
   rcases ctx_rc hc with⟨x,rfl,hx⟩ | ⟨x,y,rfl,hx,hy⟩
   ·simp only [Vl.nodes] at hm
    simp only [tqb,Ty.av,↓zq,zs,hasK,Vl.iav,vl_has]
    refine⟨by omega,fun h=>by omega,fun _=>⟨fun h=>by omega,fun _=>⟨fun _=>?_,fun h=>absurd rfl h⟩⟩⟩
    refine wp_call hin (by have:=InR.ne a ea ids; simpa only [InR,Ty.av] using this) ?_
    intro r o hr
    obtain⟨⟨q,hq,rfl⟩,rfl⟩:=hr
    have he2:EnvA (.ptr [.pid q [(Ty.rc a).av,ea],ea]) (q::ids):=.cons hq he
    have hfr:LK.ptr.has (.pid q [(Ty.rc a).av,ea]):=.inr (.inr ⟨_,_,rfl⟩)
    simp only [Ty.av] at he2 hfr
    simp only [↓zq,zs,hasK,hasL,ty_has,he2.has,hfr,Vl.iav,vl_has,Ty.av]
    repeat refine⟨by omega,?_⟩
    refine⟨fun _=>?_,fun h=>absurd rfl h⟩
    repeat refine⟨by omega,?_⟩
    refine wp_det (Sqo m x (by omega) a v hx _ _ he2 s fr hf) ?_
    simp only [↓zq,zs,hasK,vl_has]
    refine wp_det (Sq7 102 _ ((vl_has _).mpr trivial)) ?_
    simp [↓zq,zs,hasK,Det,plug,Vl.iav,has_ptr]
   ·simp only [Vl.nodes] at hm
    simp only [tqb,Ty.av,↓zq,zs,hasK,Vl.iav,vl_has]
    refine⟨by omega,fun h=>by omega,fun _=>⟨fun h=>by omega,fun _=>⟨fun _=>?_,fun h=>absurd rfl h⟩⟩⟩
    refine wp_call hin (by have:=InR.ne a ea ids; simpa only [InR,Ty.av] using this) ?_
    intro r o hr
    obtain⟨⟨q,hq,rfl⟩,rfl⟩:=hr
    have he2:EnvA (.ptr [.pid q [(Ty.rc a).av,ea],ea]) (q::ids):=.cons hq he
    have hfr:LK.ptr.has (.pid q [(Ty.rc a).av,ea]):=.inr (.inr ⟨_,_,rfl⟩)
    simp only [Ty.av] at he2 hfr
    simp only [↓zq,zs,hasK,hasL,ty_has,he2.has,hfr,Vl.iav,vl_has,Ty.av]
    repeat refine⟨by omega,?_⟩
    refine fun _=>?_
    repeat refine⟨by omega,?_⟩
    have i1:=Sqo m y (by omega) (.rc a) v hy ea ids he s fr hf
    simp only [Ty.av] at i1
    refine wp_det i1 ?_
    simp only [↓zq,zs,hasK,vl_has]
    repeat refine⟨by omega,?_⟩
    refine wp_det (Sqo m x (by omega) a (plug (.rc a) y v) hx _ _ he2 [] _ hfr) ?_
    simp only [↓zq,zs,hasK,vl_has]
    refine wp_det (Sq7 102 _ ((vl_has _).mpr trivial)) ?_
    simp [↓zq,zs,hasK,Det,plug,Vl.iav,has_ptr]
theorem Sqg9 (a:Ty) (c v:Vl) (hc:ctxOk a c = true):FSpec Tryz.prog 49 [(Ty.rc a).av,c.iav,v.iav] [] (Det (Vl.f (plug a c v)).iav):=by
 refine Fqd9 _ _ _ ((ty_has _).mpr trivial) ((vl_has _).mpr trivial) ((vl_has _).mpr trivial) ?_
 unfold tq68
 refine wp_call (Sq2k a nilp [] .nil) (InR.ne a nilp []) ?_
 rintro r o ⟨⟨m,hm,rfl⟩,rfl⟩
 have he2:EnvA (.ptr [.pid m [(Ty.rc a).av,nilp],nilp]) [m]:=.cons hm .nil
 have hfr:LK.ptr.has (.pid m [(Ty.rc a).av,nilp]):=.inr (.inr ⟨_,_,rfl⟩)
 simp only [Ty.av] at he2 hfr
 simp only [↓zq,zs,hasK,hasL,ty_has,he2.has,hfr,Ty.av]
 repeat refine⟨by omega,?_⟩
 refine wp_det (Sqo c.nodes c (Nat.le_refl _) a v hc _ _ he2 [] _ hfr) ?_
 simp only [↓zq,zs,hasK,vl_has]
 refine wp_det (Sq7 102 _ ((vl_has _).mpr trivial)) ?_
 simp [↓zq,zs,hasK,Det,Vl.iav,has_ptr]
end Go.Proofs.Trees
namespace Go.Proofs.Trees
open Go Go.VL Go.RowKit
def cAV (l:List Vl):List (List AV):=l.map fun c=>[c.iav]
theorem cAV_len (l:List Vl):(cAV l).length = l.length:=by simp [cAV]
theorem cAV_get {l:List Vl} {i:Nat} (h:i < l.length):(cAV l).getD i [] = [(l[i]).iav]:=by simp [cAV,List.getD_eq_getElem?_getD,h]
theorem cAV_one (l:List Vl) (c:Vl):cAV l++[[c.iav]] = cAV (l++[c]):=by simp [cAV]
def zAV (s:Nm) (a:Ty) (l:List Vl) (v:Vl):AV:=.ptr [.v (.string (mk s)),(Ty.rc a).av,.sl (cAV l),v.iav]
def oZ (s:Nm) (a:Ty):Option (List Vl×Vl)->AV
 | some r=>zAV s a r.1 r.2
 | none=>nilp
theorem oZ_has (s:Nm) (a:Ty) (o:Option (List Vl×Vl)):LK.has .ptr (oZ s a o) = True:=by cases o<;>simp [oZ,zAV,has_nil,has_ptr]
theorem Sqfj:FSpec Tryz.prog 37 [nilp] [] (Det nilp):=by
 refine Fq7f _ ((has_nil).mpr trivial) ?_
 simp only [tq57,↓zq,zs,hasK]
 exact⟨fun _=>⟨rfl,rfl⟩,fun h=>(by cases h)⟩
theorem f_nodes (v:Vl):(Vl.f v).nodes = v.nodes+1:=by simp only [Vl.nodes]; omega
theorem Sq3r (s:Nm) (a:Ty) (l:List Vl) (v:Vl) (h:ZI a l v) (hl:l.length<=50):FSpec Tryz.prog 37 [zAV s a l v] [] (Det (oZ s a (upF a l v))):=by
 refine Fq7f _ ((has_ptr _).mpr trivial) ?_
 simp only [tq57,zAV,↓zq,zs,hasK,cAV_len]
 refine⟨fun h=>(by cases h),fun _=>?_⟩
 repeat refine⟨by omega,?_⟩
 unfold upF
 refine⟨fun h0=>?_,fun h0=>?_⟩
 ·have:l = []:=List.eq_nil_of_length_eq_zero (by omega)
  subst this
  exact⟨rfl,rfl⟩
 ·have hpos:0 < l.length:=by omega
  have hne:l≠[]:=by rintro rfl; simp at hpos
  rw [wrap64 ((l.length:Int) - 1) (by omega) (by omega)]
  have e1:((l.length:Int) - 1).toNat = l.length - 1:=by omega
  have hlt:l.length - 1 < l.length:=by omega
  have hlast:l.getLast? = some (l[l.length - 1]):=by rw [List.getLast?_eq_some_getLast hne,List.getLast_eq_getElem]
  rw [hlast]
  have hC:=h.ctx _ (List.getElem_mem hlt)
  generalize hc:l[l.length - 1] = c at *
  simp only [e1,cAV_get hlt,hc,↓zq,zs,hasK,vl_has,ty_has]
  repeat refine⟨by omega,?_⟩
  refine wp_det (Sqg9 a c v hC.ok) ?_
  simp only [↓zq,zs,hasK,vl_has]
  have hn:=plug_nodes a c v
  have h1:=hC.nd
  have h2:=h.foc.nd
  refine wp_det (Sq11 (.f (plug a c v)) (by rw [f_nodes]; omega)) ?_
  simp only [↓zq,zs,hasK,vl_has,ty_has]
  refine⟨fun hb=>?_,fun hb=>?_⟩
  ·rw [if_neg (by omega)]; exact⟨rfl,rfl⟩
  ·rw [if_pos (by omega)]
   repeat refine⟨by omega,?_⟩
   refine⟨?_,rfl⟩
   have:(cAV l).take (l.length - 1) = cAV l.dropLast:=by rw [List.dropLast_eq_take]; simp [cAV]
   simp only [oZ,zAV,Int.toNat_zero,List.drop_zero,this]
theorem Lqae {s d:Nm} {a:Ty} {x A B:E} {D:Ty} (z:ZT s d a x A B D) (pa:AV) (p:List Nm) (hp:StrsA pa p) (hl:p.length<=50) (v:Vl):∀(k i:Nat) (l0:List Vl),i+k = p.length->l0.length<=i ->
  Lq5a [.v (.string (mk d)),pa,.v (.int .i64 (p.length:Int)),.v (.int .i64 (i:Int))] [.cells [.v (.string (mk s)),(Ty.rc a).av,.any,v.iav],.vec 1 (cAV l0)]
   (LBy (match rdPth d (p.drop i) with | some l=>(1,[],[.cells [.v (.string (mk s)),(Ty.rc a).av,.any,v.iav],.vec 1 (cAV (l0++l))]) | none=>(2,[nilp],[])))
 | 0,i,l0,hi,hl0=>by
  refine Gq5x _ _ _ _ _ _ _ _ ?_
  have:i = p.length:=by omega
  subst this
  simp only [rq35,↓zq,zs,hasK,hasK,ty_has,vl_has,List.drop_length]
  exact⟨hp.1,fun h=>by omega,fun _=>by simp [LBy,rdPth]⟩
 | k+1,i,l0,hi,hl0=>by
  have hlt:i < p.length:=by omega
  have hd:p.drop i = p.getD i []::p.drop (i+1):=by rw [List.drop_eq_getElem_cons hlt]; simp [List.getD_eq_getElem?_getD,hlt]
  refine Gq5x _ _ _ _ _ _ _ _ ?_
  simp only [rq35,↓zq,zs,hasK,zt,hasK,ty_has,vl_has,hp.len,hp.idx hlt,Int.toNat_natCast]
  refine⟨hp.1,fun _=>⟨⟨hp.1,by omega,by omega⟩,by omega,?_⟩,fun h=>by omega⟩
  refine wp_det (Sqb4 d (p.getD i []) 100) ?_
  rw [hd,rdPth]
  simp only [↓zq,zs,hasK,zt,optT_has,optV_has]
  cases q:vOK d (p.getD i []) 100 with
  | none =>
   simp only [optV,↓zq,zs,hasK]
   exact⟨fun _=>by first | trivial | rfl,fun h=>(by cases h)⟩
  | some w =>
   simp only [optV,↓zq,zs,hasK,vl_nil,cAV_one]
   refine⟨fun h=>(by cases h),fun _=>?_⟩
   rw [wrap_succ i (by omega)]
   have ih:=Lqae z pa p hp hl v k (i+1) (l0++[w]) (by omega) (by simp; omega)
   refine⟨⟨fun c hc=>by simp at hc; rw [hc]; rfl,by rw [cAV_len]; omega⟩,?_⟩
   cases q2:rdPth d (p.drop (i+1)) with
   | none=>rw [q2] at ih; exact ih
   | some l=>rw [q2] at ih; simp only [List.append_assoc,List.cons_append,List.nil_append] at ih; exact ih
theorem rdZ_some {s:Nm} {p:List Nm} {f:Nm} {l:List Vl} {v:Vl} (h:rdZ s p f = some (l,v)):∃d a x A B D,ZT s d a x A B D/\ZI a l v/\p = l.map (·.txt)/\f = v.txt/\p.length<=50/\zA s = a/\lvOK s f = some v/\rdPth d p = some l:=by
 unfold rdZ at h
 split at h
 ·rename_i v' d h1 h2
  split at h
  ·rename_i hl
   obtain⟨l',h3,h4⟩:=Option.map_eq_some_iff.1 h
   cases h4
   obtain⟨a,_,_,_,L⟩:=lvOK_some h1
   obtain⟨x,A,B,D,z⟩:=ZT.of L.l h2
   obtain⟨q1,q2⟩:=rdPth_some z p l h3
   obtain⟨q3,q4⟩:=z.foc h1
   exact⟨d,a,x,A,B,D,z,⟨q2,q3⟩,q1,q4,hl,by unfold zA; rw [L.l]; rfl,h1,h3⟩
  ·cases h
 ·cases h
theorem Sq6d (s:Nm) (pa:AV) (p:List Nm) (hp:StrsA pa p) (f:Nm):FSpec Tryz.prog 28 [.agg [.v (.string (mk s)),pa,.v (.string (mk f))]] [] (Det (oZ s (zA s) (rdZ s p f))):=by
 refine Fqeu _ _ _ hp.1 ?_
 unfold tq9d
 refine wp_det (Sqdt s f) ?_
 have hlt:LK.has .ptr (lvT s) = True:=by unfold lvT; split<;>simp [ty_has,has_nil]
 simp only [↓zq,zs,hasK,zt,hlt,optV_has]
 refine wp_det (Sqdi s) ?_
 have ho:∀o:Option Nm,optS o = .tup [.v (.string (mk (o.getD []))),.v (.bool o.isSome)]:=fun o=>by cases o<;>rfl
 rw [ho]
 simp only [↓zq,zs,hasK,zt]
 unfold rdZ
 cases h1:lvOK s f with
 | none =>
  simp only [optV,↓zq,zs,hasK]
  exact⟨fun _=>⟨rfl,rfl⟩,fun h=>(by cases h)⟩
 | some v =>
  simp only [optV,↓zq,zs,hasK,vl_nil]
  refine⟨fun h=>(by cases h),fun _=>?_⟩
  cases h2:derLoop s with
  | none =>
   simp only [Option.isSome_none]
   exact⟨fun _=>⟨rfl,rfl⟩,fun h=>(by cases h)⟩
  | some d =>
   simp only [Option.isSome_some,Option.getD_some,hp.len]
   refine⟨fun h=>(by cases h),fun _=>⟨hp.1,fun h=>?_,fun h=>?_⟩⟩
   ·rw [if_neg (by omega)]; exact⟨rfl,rfl⟩
   ·have hl:p.length<=50:=by omega
    rw [if_pos hl]
    obtain⟨a,_,_,_,L⟩:=lvOK_some h1
    obtain⟨x,A,B,D,z⟩:=ZT.of L.l h2
    have ht:lvT s = (Ty.rc a).av:=by unfold lvT; rw [L.l]
    have hza:zA s = a:=by unfold zA; rw [L.l]; rfl
    rw [ht,hza]
    refine⟨hp.1,?_⟩
    have hloop:=Lqae z pa p hp hl v p.length 0 [] (by omega) (by simp)
    rw [List.drop_zero] at hloop
    refine wp_loopB hloop (fun ys o e=>?_) (fun ys o e=>?_)
    ·cases q:rdPth d p with
     | none=>rw [q] at e; cases e
     | some l =>
      rw [q] at e
      cases e
      simp only [↓zq,zs,hasK,zt,hasK,hasC,ty_has,vl_has,Option.map_some]
      exact⟨rfl,rfl⟩
    ·cases q:rdPth d p with
     | none =>
      rw [q] at e
      cases e
      simp only [↓zq,zs,hasK,zt,hasK,hasC,Option.map_none]
      exact⟨rfl,rfl⟩
     | some l=>rw [q] at e; cases e
theorem Lqa9 (s:Nm) (a:Ty) (x3:AV) (h3:LK.ptr.has x3):∀(n:Nat) (l:List Vl) (v:Vl),l.length = n->ZI a l v->n<=50 ->
  Lq4w [x3,zAV s a l v] [] (LBy (if(cloN n a l v).isSome = true then(1,[x3],[]) else(2,[nilp],[])))
 | 0,l,v,hl,h,hn=>by
  refine Gq99 _ _ ?_
  simp only [rq3a,zAV,↓zq,zs,hasK,h3,cAV_len,hl,cloN]
  repeat refine⟨by omega,?_⟩
  exact fun _=>by simp [LBy]
 | n+1,l,v,hl,h,hn=>by
  refine Gq99 _ _ ?_
  have hup:=Sq3r s a l v h (by omega)
  simp only [rq3a,↓zq,zs,hasK,h3]
  simp only [zAV,↓zq,zs,hasK,cAV_len,hl] at hup |-
  repeat refine⟨by omega,?_⟩
  refine⟨fun _=>?_,fun h=>by omega⟩
  refine wp_det hup ?_
  simp only [↓zq,zs,hasK,oZ_has]
  rw [cloN]
  cases q:upF a l v with
  | none =>
   simp only [oZ,↓zq,zs,hasK,Option.bind_none]
   exact⟨fun _=>by simp [LBy],fun h=>(by cases h)⟩
  | some r =>
   obtain⟨hz,hlen,_⟩:=upF_ok h q
   have ih:=Lqa9 s a x3 h3 n r.1 r.2 (by omega) hz (by omega)
   simp only [oZ,zAV,↓zq,zs,hasK,Option.bind_some] at ih |-
   exact⟨fun h=>(by cases h),fun _=>ih⟩
theorem Sq1k (s:Nm) (pa:AV) (p:List Nm) (hp:StrsA pa p) (f:Nm):FSpec Tryz.prog 36 [.agg [.v (.string (mk s)),pa,.v (.string (mk f))]] [] (Det (oZ s (zA s) (rdVd s p f))):=by
 refine Fqdc _ _ _ hp.1 ?_
 unfold tq7s
 refine wp_det (Sq6d s pa p hp f) ?_
 simp only [↓zq,zs,hasK,zt,oZ_has]
 unfold rdVd
 cases q:rdZ s p f with
 | none =>
  simp only [oZ,↓zq,zs,hasK,Option.bind_none]
  exact⟨fun _=>⟨rfl,rfl⟩,fun h=>(by cases h)⟩
 | some r =>
  obtain⟨l,v⟩:=r
  obtain⟨d,a,x,A,B,D,z,hz,hpt,hft,hl,hza,_,_⟩:=rdZ_some q
  rw [hza]
  have hll:l.length<=50:=by rw [hpt] at hl; simpa using hl
  have hloop:=Lqa9 s a (zAV s a l v) ((has_ptr _).mpr trivial) l.length l v rfl hz hll
  simp only [oZ,Option.bind_some]
  refine⟨fun h=>(by cases h),fun _=>?_⟩
  unfold clo
  refine wp_loopB hloop (fun ys o e=>?_) (fun ys o e=>?_)
  ·split at e
   ·rename_i hc
    cases e
    rw [if_pos hc]
    simp only [↓zq,zs,hasK,zAV,has_ptr]
    exact⟨rfl,rfl⟩
   ·cases e
  ·split at e
   ·cases e
   ·rename_i hc
    cases e
    rw [if_neg hc]
    simp only [↓zq,zs,hasK]
    exact⟨rfl,rfl⟩
end Go.Proofs.Trees
namespace Go.Proofs.Trees
open Go Go.VL
theorem plain_strs (l:List (List UInt8)):∀x,x∈[Ob.vec 1 (strsAV l)]->plainOb x:=by
 intro x hx
 simp only [List.mem_singleton] at hx
 subst hx
 intro e he c hc
 simp only [strsAV,List.mem_map] at he
 obtain⟨k,_,rfl⟩:=he
 simp only [List.mem_singleton] at hc
 exact⟨_,hc⟩
def dz (k:Nat):List UInt8:=if k = 0 then [] else dd k
theorem dz_step {k:Nat} (h:0 < k) (s:List UInt8):dz (k / 10)++([UInt8.ofNat (48+k % 10)]++s) = dz k++s:=by
 have e:dz k = dd k:=if_neg (by omega)
 rw [e]
 by_cases hk:k < 10
 ·have e2:dz (k / 10) = []:=if_pos (by omega)
  rw [e2,dd_one hk,show k % 10 = k by omega]; rfl
 ·have e2:dz (k / 10) = dd (k / 10):=if_neg (by omega)
  rw [e2,dd_more hk,List.append_assoc]
def mtx (k:Nat):List UInt8:=109::(if k = 0 then [48] else dd k)
theorem Lq9v:∀(n k:Nat) (s:List UInt8),k < n->k < 1000000000->s.length+k<=2000000000->Lq26 [.v (.int .i64 (k:Int)),.v (.string (mk s))] [] (LIs 1 [.v (.string (mk (dz k++s)))] [])
 | 0,k,s,h,_,_=>by omega
 | n+1,k,s,h,hk,hs=>by
  refine Gqf7 _ _ ?_
  simp only [rqbw,↓zq,zs,hasK]
  have e1:IntKind.wrap .i64 (Int.tdiv (k:Int) 10) = ((k / 10:Nat):Int):=by
   rw [show Int.tdiv (k:Int) 10 = ((k / 10:Nat):Int) from (Int.ofNat_tdiv k 10).symm,wrap64 _ (by omega) (by omega)]
  have e2:Int.tmod (k:Int) 10 = ((k % 10:Nat):Int):=(Int.ofNat_tmod k 10).symm
  rw [e1,e2,byte_of (k % 10) (by omega)]
  refine⟨fun hp=>⟨by omega,allU8_one _,?_,by omega,?_⟩,fun hp=>?_⟩
  ·rw [bytesOf_one]
   show (mk [_]).size+(mk s).size<=_
   rw [size_mk,size_mk]; simp; omega
  ·rw [bytesOf_one]
   have:=Lq9v n (k / 10) ([UInt8.ofNat (48+k % 10)]++s) (by omega) (by omega) (by simp; omega)
   rw [dz_step (by omega)] at this
   show Lq26 [_,.v (.string (mk [_]++mk s))] [] _
   rw [append_mk]; exact this
  ·have:k = 0:=by omega
   subst this
   simp [LIs,dz]
theorem dd_len' (k:Nat):(dd k).length<=k+1:=dd_len (k+1) k (by omega)
theorem Sqbo (k:Nat) (hk:k < 1000000000):FSpec Tryz.prog 45 [.v (.int .i64 (k:Int))] [] (Det (.v (.string (mk (mtx k))))):=by
 refine Fqe4 _ ?_
 simp only [tqc6,↓zq,zs,hasK,Det]
 refine⟨fun h=>?_,fun h=>?_⟩
 ·have:k = 0:=by omega
  subst this; rfl
 ·refine wp_loop1 (Lq9v (k+1) k [] (by omega) hk (by simp; omega)) ?_
  have hl:=dd_len' k
  simp only [List.append_nil,dz,↓zq,zs,hasK,zt,if_neg (show ¬ k = 0 by omega)]
  refine⟨?_,?_⟩
  ·simp [size_mk]; omega
  ·rw [mtx,if_neg (by omega)]; rfl
def mks (k n:Nat):List (List UInt8):=(List.range' k n).map mtx
theorem mks_len (k n:Nat):(mks k n).length = n:=by simp [mks]
theorem mks_succ (k n:Nat):mks k (n+1) = mtx k::mks (k+1) n:=by simp [mks,List.range'_succ]
theorem mks_get {k n i:Nat} (h:i < n):(mks k n).getD i [] = mtx (k+i):=by simp [mks,List.getD_eq_getElem?_getD,h]
theorem strsAV_len (l:List (List UInt8)):(strsAV l).length = l.length:=by simp [strsAV]
theorem strsAV_set {l:List (List UInt8)} {i:Nat} (hi:i < l.length) (s:List UInt8):(strsAV l).set i (((strsAV l).getD i []).set 0 (.v (.string (mk s)))) = strsAV (l.set i s):=by
 have:(strsAV l).getD i [] = [.v (.string (mk (l[i])))]:=by simp [strsAV,List.getD_eq_getElem?_getD,hi]
 rw [this]; simp [strsAV,List.map_set]
theorem Lqa5:∀(m i k:Nat) (l:List (List UInt8)),i+m = l.length->l.length<=2000000->k+m<=4000000->Lq5l [.v (.int .i64 (k:Int)),.v (.int .i64 (i:Int))] [.vec 1 (strsAV l)] (LIs 1 [.v (.int .i64 ((k+m:Nat):Int))] [.vec 1 (strsAV (l.take i++mks k m))])
 | 0,i,k,l,hi,hl,hk=>by
  refine Gq8d _ _ _ ?_
  simp only [rq2p,↓zq,zs,hasK,strsAV_len]
  refine⟨fun h=>by omega,fun _=>?_⟩
  have:l.take i = l:=List.take_of_length_le (by omega)
  simp [LIs,this,mks]
 | m+1,i,k,l,hi,hl,hk=>by
  have hlt:i < l.length:=by omega
  refine Gq8d _ _ _ ?_
  simp only [rq2p,↓zq,zs,hasK,strsAV_len]
  refine⟨fun _=>?_,fun h=>by omega⟩
  refine wp_det (Sqbo k (by omega)) ?_
  simp only [↓zq,zs,hasK,zt,Int.toNat_natCast,strsAV_set hlt]
  refine⟨⟨by omega,by omega⟩,⟨hlt,by omega⟩,?_⟩
  have:=Lqa5 m (i+1) (k+1) (l.set i (mtx k)) (by simp; omega) (by simpa using hl) (by omega)
  rw [wrap_succ i (by omega),wrap_succ k (by omega)]
  have e:(l.set i (mtx k)).take (i+1)++mks (k+1) m = l.take i++mks k (m+1):=by
   rw [mks_succ,List.take_succ_eq_append_getElem (by simpa using hlt),List.take_set_of_le (Nat.le_refl _)]; simp
  rw [e,show k+1+m = k+(m+1) by omega] at this
  exact this
theorem Sqfv (k:Nat) (l:List (List UInt8)) (hl:l.length<=2000000) (hk:k<=1000000):FSpec Tryz.prog 30 [.vec 0,.v (.int .i64 (k:Int))] [.vec 1 (strsAV l)] (DetO (.v (.int .i64 ((k+l.length:Nat):Int))) [.kvec 1 (strsAV (mks k l.length))]):=by
 refine Fqgl _ _ ?_
 unfold tqav
 have:=Lqa5 l.length 0 k l (by omega) hl (by omega)
 rw [List.take_zero,List.nil_append] at this
 refine wp_loop1 this ?_
 simp [↓zq,zs,hasK,DetO,Ob.es]
theorem Lq5v (a:AV) (k n:Nat) (ha:StrsA a (mks k n)) (hn:n<=2000000) (hk:k<=1000000):∀(m i:Nat),i+m = n->Lq2x [a,.v (.int .i64 ((k+i:Nat):Int)),.v (.int .i64 (i:Int))] [] (LIs 1 [.v (.int .i64 ((k+n:Nat):Int))] [])
 | 0,i,hi=>by
  refine Gq8y _ _ _ ?_
  simp only [rq3e,↓zq,zs,hasK,ha.len,mks_len]
  refine⟨ha.1,ha.1,fun h=>by omega,fun _=>?_⟩
  rw [show i = n by omega]; exact⟨rfl,rfl,rfl⟩
 | m+1,i,hi=>by
  have hlt:i < n:=by omega
  refine Gq8y _ _ _ ?_
  simp only [rq3e,↓zq,zs,hasK,zt,ha.len,mks_len,ha.idx (show i < (mks k n).length by rw [mks_len]; exact hlt),mks_get hlt,Int.toNat_natCast]
  refine⟨ha.1,ha.1,fun _=>⟨⟨ha.1,by omega,by omega⟩,by omega,?_⟩,fun h=>by omega⟩
  refine wp_det (Sqbo (k+i) (by omega)) ?_
  simp only [↓zq,zs,hasK,zt]
  refine⟨fun h=>by simp at h,fun _=>?_⟩
  rw [wrap_succ i (by omega),wrap_succ (k+i) (by omega)]
  exact Lq5v a k n ha hn hk m (i+1) (by omega)
theorem Sqde (a:AV) (k n:Nat) (ha:StrsA a (mks k n)) (hn:n<=2000000) (hk:k<=1000000):FSpec Tryz.prog 31 [a,.v (.int .i64 (k:Int))] [] (Det (.v (.int .i64 ((k+n:Nat):Int)))):=by
 refine Fqg8 _ _ ha.1 ?_
 unfold tq9m
 have:=Lq5v a k n ha hn hk n 0 (by omega)
 refine wp_loop1 this ?_
 simp [↓zq,zs,hasK,Det]
theorem Lq82 (a b:AV) (l:List (List UInt8)) (ha:StrsA a l) (hb:StrsA b l) (hl:l.length<=2000000):∀(m i:Nat),i+m = l.length->Lq3f [a,b,.v (.int .i64 (i:Int))] [] (LIs 1 [] [])
 | 0,i,hi=>by
  refine Gqap _ _ _ ?_
  simp only [rq41,↓zq,zs,hasK,ha.len]
  exact⟨ha.1,hb.1,ha.1,fun h=>by omega,fun _=>⟨rfl,rfl,rfl⟩⟩
 | m+1,i,hi=>by
  have hlt:i < l.length:=by omega
  refine Gqap _ _ _ ?_
  simp only [rq41,↓zq,zs,hasK,zt,ha.len,hb.len,ha.idx hlt,hb.idx hlt,Int.toNat_natCast]
  refine⟨ha.1,hb.1,ha.1,fun _=>⟨⟨ha.1,by omega,by omega⟩,by omega,⟨hb.1,by omega,by omega⟩,by omega,fun h=>by simp at h,fun _=>?_⟩,fun h=>by omega⟩
  rw [wrap_succ i (by omega)]
  exact Lq82 a b l ha hb hl m (i+1) (by omega)
theorem Sqdn (a b:AV) (l:List (List UInt8)) (ha:StrsA a l) (hb:StrsA b l) (hl:l.length<=2000000):FSpec Tryz.prog 29 [a,b] [] (Det (.v (.bool true))):=by
 refine Fqek _ _ ha.1 hb.1 ?_
 simp only [tqau,↓zq,zs,hasK,ha.len,hb.len]
 refine⟨ha.1,hb.1,fun h=>by simp at h,fun _=>?_⟩
 refine wp_loop1 (Lq82 a b l ha hb hl l.length 0 (by omega)) ?_
 simp [Det,↓zq,zs,hasK]
end Go.Proofs.Trees
namespace Go.Proofs.Trees
open Go Go.VL Go.RowKit
abbrev tZ (s:Nm):Option (List Vl×Vl)->Nm×List Nm×Nm
 | some r=>(s,r.1.map (·.txt),r.2.txt)
 | none=>([],[],[])
def GZ (o:Option (List Vl×Vl)):Prop:=∀r,o = some r->(∀c,c∈r.1->c.txt.length<=900000)/\r.2.txt.length<=900000/\r.1.length<=51
theorem Cx.txt {a:Ty} {c:Vl} (h:Cx a c):c.txt.length<=900000:=by have:=txt_len c h.bel; have:=h.nd; omega
theorem Fo.txt {a:Ty} {c:Vl} (h:Fo a c):c.txt.length<=900000:=by have:=txt_len c h.bel; have:=h.nd; omega
theorem ZI.gz {a:Ty} {l:List Vl} {v:Vl} (h:ZI a l v) (hl:l.length<=51):GZ (some (l,v)):=fun r hr=>by
 cases hr; exact⟨fun c hc=>(h.ctx c hc).txt,h.foc.txt,hl⟩
theorem GZ.none:GZ none:=fun r hr=>by cases hr
theorem Lq5w (l:List Vl) (hl:l.length<=51) (ht:∀c,c∈l->c.txt.length<=900000) (s f:Nm):∀(k i:Nat) (out:List Nm),i+k = l.length->out.length<=i ->
  Lq2o [.sl (cAV l),.v (.int .i64 (l.length:Int)),.v (.int .i64 (i:Int))] [.cells [.v (.string (mk [])),slz,.v (.string (mk []))],.cells [.v (.string (mk s)),.any,.v (.string (mk f))],.vec 1 (strsAV out)]
   (LIs 1 [] [.cells [.v (.string (mk [])),slz,.v (.string (mk []))],.cells [.v (.string (mk s)),.any,.v (.string (mk f))],.vec 1 (strsAV (out++(l.drop i).map (·.txt)))])
 | 0,i,out,hi,ho=>by
  refine Gqas _ _ _ _ _ _ _ _ _ ?_
  have:i = l.length:=by omega
  subst this
  simp only [rq5p,↓zq,zs,hasK,zt,hasK,has_slnil,List.drop_length]
  exact⟨fun h=>by omega,fun _=>by simp [LIs]⟩
 | k+1,i,out,hi,ho=>by
  have hlt:i < l.length:=by omega
  refine Gqas _ _ _ _ _ _ _ _ _ ?_
  simp only [rq5p,↓zq,zs,hasK,zt,hasK,has_slnil,cAV_len,cAV_get hlt,vl_has,Int.toNat_natCast]
  refine⟨fun _=>?_,fun h=>by omega⟩
  repeat refine⟨by omega,?_⟩
  refine wp_det (Sqf (l[i]) (ht _ (List.getElem_mem hlt))) ?_
  simp only [↓zq,zs,hasK,zt,Sqr,strsAV_len']
  refine⟨⟨fun c hc=>by simp at hc; rw [hc]; rfl,by omega⟩,?_⟩
  rw [wrap_succ i (by omega),List.drop_eq_getElem_cons hlt,List.map_cons]
  have:=Lq5w l hl ht s f k (i+1) (out++[(l[i]).txt]) (by omega) (by simp; omega)
  rw [List.append_assoc] at this
  exact this
theorem Sq2v (s:Nm) (a:Ty) (o:Option (List Vl×Vl)) (h:GZ o):FSpec Tryz.prog 27 [oZ s a o] [] (DetO (.tup [.agg [.v (.string (mk (tZ s o).1)),.vec 0,.v (.string (mk (tZ s o).2.2))],.v (.bool o.isSome)]) [.vec 1 (strsAV (tZ s o).2.1)]):=by
 refine Fqfu _ (by rw [oZ_has]; trivial) ?_
 unfold tq7j
 cases o with
 | none =>
  simp only [oZ,↓zq,zs,hasK]
  exact⟨fun _=>⟨rfl,rfl⟩,fun h=>(by cases h)⟩
 | some r =>
  obtain⟨h1,h2,h3⟩:=h r rfl
  simp only [oZ,zAV,↓zq,zs,hasK,zt,ty_has,vl_has]
  refine⟨fun h=>(by cases h),fun _=>?_⟩
  repeat refine⟨by omega,?_⟩
  refine wp_det (Sqf r.2 h2) ?_
  simp only [↓zq,zs,hasK,zt,ty_has,vl_has,cAV_len]
  repeat refine⟨by omega,?_⟩
  have hlp:=Lq5w r.1 h3 h1 s r.2.txt r.1.length 0 [] (by omega) (by simp)
  rw [List.drop_zero,List.nil_append] at hlp
  refine wp_loop1 hlp ?_
  simp only [↓zq,zs,hasK,zt,hasK,hasC,has_slnil]
  exact⟨rfl,rfl⟩
theorem rdVd_some {s:Nm} {p:List Nm} {f:Nm} {l:List Vl} {v:Vl} (h:rdVd s p f = some (l,v)):rdZ s p f = some (l,v)/\(clo (zA s) l v).isSome = true:=by
 unfold rdVd at h
 obtain⟨r,h1,h2⟩:=Option.bind_eq_some_iff.1 h
 split at h2
 ·rename_i hc
  cases h2
  exact⟨h1,hc⟩
 ·cases h2
theorem rdVd_zi {s:Nm} {p:List Nm} {f:Nm} {l:List Vl} {v:Vl} (h:rdVd s p f = some (l,v)):ZI (zA s) l v/\l.length<=50/\p = l.map (·.txt)/\f = v.txt:=by
 obtain⟨h1,_⟩:=rdVd_some h
 obtain⟨d,a,x,A,B,D,z,hz,hp,hf,hl,hza,_,_⟩:=rdZ_some h1
 rw [hza]
 exact⟨hz,by rw [hp] at hl; simpa using hl,hp,hf⟩
noncomputable def mUp (s:Nm) (p:List Nm) (f:Nm):Option (List Vl×Vl):=(rdVd s p f).bind fun r=>upF (zA s) r.1 r.2
theorem mUp_gz (s:Nm) (p:List Nm) (f:Nm):GZ (mUp s p f):=fun r hr=>by
 obtain⟨q,h1,h2⟩:=Option.bind_eq_some_iff.1 hr
 obtain⟨hz,hl,_⟩:=rdVd_zi (l:=q.1) (v:=q.2) h1
 obtain⟨hz2,hl2,_⟩:=upF_ok (l':=r.1) (w:=r.2) hz h2
 exact hz2.gz (by omega) r rfl
abbrev ZipO (s:Nm) (o:Option (List Vl×Vl)):AV->List Ob->Prop:=DetO (.tup [.agg [.v (.string (mk (tZ s o).1)),.vec 0,.v (.string (mk (tZ s o).2.2))],.v (.bool o.isSome)]) [.vec 1 (strsAV (tZ s o).2.1)]
theorem Sqbu (s:Nm) (pa:AV) (p:List Nm) (hp:StrsA pa p) (f:Nm):FSpec Tryz.prog 21 [.agg [.v (.string (mk s)),pa,.v (.string (mk f))]] [] (ZipO s (mUp s p f)):=by
 refine Fqdq _ _ _ hp.1 ?_
 unfold tqcm
 refine wp_det (Sq1k s pa p hp f) ?_
 simp only [↓zq,zs,hasK,zt,oZ_has]
 have key:FSpec Tryz.prog 37 [oZ s (zA s) (rdVd s p f)] [] (Det (oZ s (zA s) (mUp s p f))):=by
  unfold mUp
  cases q:rdVd s p f with
  | none=>exact Sqfj
  | some r =>
   obtain⟨hz,hl,_⟩:=rdVd_zi (l:=r.1) (v:=r.2) q
   exact Sq3r s (zA s) r.1 r.2 hz hl
 refine wp_det key ?_
 simp only [↓zq,zs,hasK,zt,oZ_has]
 refine wp_detO (Sq2v s (zA s) (mUp s p f) (mUp_gz s p f)) ?_
 simp only [↓zq,zs,hasK,zt,hasC]
 exact⟨plain_strs _,rfl,rfl⟩
end Go.Proofs.Trees
namespace Go.Proofs.Trees
open Go Go.VL Go.RowKit
def recE:E->Option E
 | .list [x,a,b]=>if x.at = [114,101,99] then some (.list [x,a,b]) else none
 | _=>none
def rdLE (s:List UInt8):Option E:=match rdCE s with
 | some e=>recE e
 | none=>none
theorem Sq4v (s:List UInt8):FSpec Tryz.prog 47 [.v (.string (mk s))] [] (ParR (rdLE s) (rdLE s).isSome):=by
 refine Fqeo _ ?_
 unfold tq7t
 refine wp_call (Sq5t s) (ParR.ne _ _ (fun h=>h)) ?_
 rintro r o ⟨c,d,hd,rfl,hh⟩
 have hhas:hasL [.str,.sl] [.v (.string (mk c)),d] 0:=by simp [hasL,has_str,hd]
 simp only [↓zq,zs,hasK,zt]
 refine⟨hhas,fun h=>?_,fun h=>?_⟩
 ·obtain⟨e,he,hce⟩:=hh h
  obtain⟨t,h1,hA,h3,h4,h5,_⟩:=rdCE_full he
  have hce':=hce
  rw [sav_sp] at hce'
  simp only [AV.agg.injEq,List.cons.injEq,AV.v.injEq,Value.string.injEq,and_true] at hce'
  obtain⟨hc1,rfl⟩:=hce'
  have hc2:=mk_inj hc1
  subst hc2
  have head:∀w:List UInt8,FSpec Tryz.prog 65 [.agg [.v (.string (mk e.at)),e.sp]] [] (Det (.v (.string (mk w))))->(w = [114,101,99]↔(recE e).isSome = true)->((recE e).isSome = true->recE e = some e) ->
    wpT Tryz.prog 18 (Tree.call 65 [.agg [.v (.string (mk e.at)),e.sp]] [] fun r2 o2=>Tree.need (LK.str.has r2) (Tree.done 0 [.tup [.agg [.v (.string (mk e.at)),e.sp],.v (.bool (ByteArray.toList r2.toStr==[114,101,99]))]] [])) fun _ xs obs=>ParR (rdLE s) (rdLE s).isSome (xs.headD .any) obs:=by
   intro w hw h1 h2
   refine wp_det hw ?_
   simp only [↓zq,zs,hasK,zt]
   refine⟨e.at,e.sp,hd,?_,fun hs=>⟨e,?_,(sav_sp e).symm⟩⟩
   ·congr 3
    simp only [rdLE,he,AV.v.injEq,Value.bool.injEq,List.cons.injEq,and_true]
    rw [Bool.eq_iff_iff]; simpa using h1
   ·simp only [rdLE,he] at hs |-; exact h2 hs
  have hl:∀x l,e = .list (x::l)->FSpec Tryz.prog 65 [.agg [.v (.string (mk e.at)),e.sp]] [] (Det (.v (.string (mk x.at)))):=by
   rintro x l rfl; exact Sq2 x l
  have ha:∀s0,e = .atom s0->FSpec Tryz.prog 65 [.agg [.v (.string (mk e.at)),e.sp]] [] (Det (.v (.string (mk [])))):=by
   rintro s0 rfl; exact Sq2b s0 _ ((has_slnil).mpr trivial) hA.ok
  rcases ty_cases hA.wf hA.ty with⟨hb,_⟩ | ⟨u,g,rfl,_,hg⟩
  ·rcases ty_shapes hA.ty hb hA.cl with⟨rfl,rfl⟩ | ⟨rfl,rfl⟩ | ⟨s0,rfl,rfl,hp,h0,h1⟩ | ⟨x,a,b,t1,t2,rfl,hx,rfl,ha',hbb⟩ | ⟨x,a,b,t1,t2,rfl,hx,rfl,ha',hbb⟩ | ⟨x,a,b,t1,rfl,hx,rfl⟩
   ·exact head _ (ha _ rfl) (by simp [recE]) (by simp [recE])
   ·exact head _ (ha _ rfl) (by simp [recE]) (by simp [recE])
   ·exact head _ (ha _ rfl) (by simp [recE]) (by simp [recE])
   ·exact head _ (hl _ _ rfl) (by simp [recE,hx]) (by simp [recE,hx])
   ·exact head _ (hl _ _ rfl) (by simp [recE,hx]) (by simp [recE,hx])
   ·exact head _ (hl _ _ rfl) (by simp [recE,hx]) (by simp [recE,hx])
  ·simp at hg
 ·have hn:rdCE s = none:=by cases hq:rdCE s<;>simp [hq] at h |-
  refine⟨c,d,hd,?_,fun h=>?_⟩
  ·simp [rdLE,hn]
  ·simp [rdLE,hn] at h
theorem rdLE_rdL (s:List UInt8):(rdLE s).isSome = (rdLp s).isSome:=by
 unfold rdLE rdLp
 cases h:rdCE s with
 | none=>rw [rdCE_none h]; rfl
 | some e =>
  obtain⟨t,h1,hA,h3,h4,h5,_⟩:=rdCE_full h
  rw [h1]
  simp only
  rcases ty_cases hA.wf hA.ty with⟨hb,_⟩ | ⟨u,g,rfl,_,hg⟩
  ·rcases ty_shapes hA.ty hb hA.cl with⟨rfl,rfl⟩ | ⟨rfl,rfl⟩ | ⟨s0,rfl,rfl,hp,h0,h1⟩ | ⟨x,a,b,t1,t2,rfl,hx,rfl,ha',hbb⟩ | ⟨x,a,b,t1,t2,rfl,hx,rfl,ha',hbb⟩ | ⟨x,a,b,t1,rfl,hx,rfl⟩<;>simp_all [recE]
  ·simp at hg
theorem LV.le {s v:List UInt8} {w:Vl} {a:Ty} {x A B:E} (h:LV s v w a x A B):rdLE s = some (.list [x,A,B]):=by
 unfold rdLE; rw [h.ce]; simp [recE,h.hx]
end Go.Proofs.Trees
namespace Go.Proofs.Trees
open Go Go.VL Go.RowKit
def IHp (e:E) (s:List UInt8) (t:Ty) (c v:Vl):Prop:=FSpec Tryz.prog 75 [.agg [.v (.string (mk e.at)),e.sp],.v (.string (mk s)),.agg [.v (.string (mk c.toE.at)),c.toE.sp],.agg [.v (.string (mk v.toE.at)),v.toE.sp]] [] (Det (.agg [.v (.string (mk (plug t c v).toE.at)),(plug t c v).toE.sp]))
theorem Sqg:∀(m:Nat) (c:Vl),c.nodes<=m->∀(e:E) (env:List Fr) (t:Ty),Ask e env t->ctxOk t c = true->∀(s:List UInt8) (v:Vl),IHp e s t c v
 | 0,c,hm=>by have:=nodes_pos c; omega
 | m+1,c,hm=>by
  intro e env t A hc s v
  unfold IHp
  refine Fqf4 _ _ _ _ _ _ _ ((sp_has _).mpr trivial) ((sp_has _).mpr trivial) ((sp_has _).mpr trivial) ?_
  have atomCase:∀s0,e = .atom s0->plug t c v = v->wpT Tryz.prog 244 (tqd (mk e.at) e.sp (mk s) (mk c.toE.at) c.toE.sp (mk v.toE.at) v.toE.sp) fun _ xs obs=>Det (.agg [.v (.string (mk (plug t c v).toE.at)),(plug t c v).toE.sp]) (xs.headD .any) obs:=by
   rintro s0 rfl hp
   have hne:s0≠[]:=A.ok
   rw [hp]
   simp only [tqd,E.at,↓zq,zs,hasK,zt,Det]
   exact⟨fun _=>trivial,fun h=>absurd h hne⟩
  have hvh:=Sq1n c
  rw [sav_sp] at hvh
  rcases ty_cases A.wf A.ty with⟨hb,hq⟩ | ⟨u,g,rfl,hq,hu⟩
  ·rcases ty_shapes A.ty hb A.cl with⟨rfl,rfl⟩ | ⟨rfl,rfl⟩ | ⟨s0,rfl,rfl,hp,h0,h1⟩ | ⟨x,a,b,t1,t2,rfl,hx,rfl,ha,hbb⟩ | ⟨x,a,b,t1,t2,rfl,hx,rfl,ha,hbb⟩ | ⟨x,a,b,t1,rfl,hx,rfl⟩
   ·exact atomCase _ rfl (plug_zero _ _)
   ·exact atomCase _ rfl (plug_one _ _)
   ·exact atomCase _ rfl (plug_name _ _ _)
   ·obtain⟨ok1,ok2,ok3,_⟩:=A.ok
    obtain⟨f1,f2⟩:=freeLoo_plus A.cl
    have hP:=P3.of x a b
    have hH:FSpec Tryz.prog 65 [.agg [.v (.string (mk [])),(E.list [x,a,b]).sp]] [] (Det (.v (.string (mk [43])))):=by rw [<-hx]; exact Sq2 x [a,b]
    rcases ctx_plus hc with⟨y,rfl,hy⟩ | ⟨y,rfl,hy⟩
    ·simp only [Vl.nodes] at hm
     have hW:=P2.of (.atom [108]) y.toE
     simp only [Vl.toE,at_list] at hvh
     simp only [tqd,at_list,Vl.toE,toNat_one,toNat_two,↓zq,zs,hasK,zt,hP.1,hP.2.1,hP.2.2.1,hP.2.2.2,hW.1,hW.2.1,hW.2.2,sp_hasL]
     refine⟨fun h=>absurd rfl h,fun _=>?_⟩
     repeat refine⟨by omega,?_⟩
     refine wp_det hH ?_
     simp only [↓zq,zs,hasK,zt]
     refine wp_det hvh ?_
     simp only [vh,↓zq,zs,hasK,zt,List.cons_append,List.nil_append]
     refine⟨by simp [size_mk],fun _=>?_,fun h=>absurd rfl h⟩
     repeat refine⟨by omega,?_⟩
     refine wp_det (Sqg m y (by omega) a env t1 ⟨ok2,A.wf,ha,f1⟩ hy s v) ?_
     simp only [↓zq,zs,hasK,zt,sp_hasL]
     repeat refine⟨by omega,?_⟩
     refine wp_det (Sq8 _ _) ?_
     simp only [↓zq,zs,hasK,zt,sp_hasL]
     repeat refine⟨by omega,?_⟩
     exact⟨rfl,rfl⟩
    ·simp only [Vl.nodes] at hm
     have hW:=P2.of (.atom [114]) y.toE
     simp only [Vl.toE,at_list] at hvh
     simp only [tqd,at_list,Vl.toE,toNat_one,toNat_two,↓zq,zs,hasK,zt,hP.1,hP.2.1,hP.2.2.1,hP.2.2.2,hW.1,hW.2.1,hW.2.2,sp_hasL]
     refine⟨fun h=>absurd rfl h,fun _=>?_⟩
     repeat refine⟨by omega,?_⟩
     refine wp_det hH ?_
     simp only [↓zq,zs,hasK,zt]
     refine wp_det hvh ?_
     simp only [vh,↓zq,zs,hasK,zt,List.cons_append,List.nil_append]
     refine⟨by simp [size_mk],fun h=>by simp at h,fun _=>⟨fun _=>?_,fun h=>absurd rfl h⟩⟩
     repeat refine⟨by omega,?_⟩
     refine wp_det (Sqg m y (by omega) b env t2 ⟨ok3,A.wf,hbb,f2⟩ hy s v) ?_
     simp only [↓zq,zs,hasK,zt,sp_hasL]
     repeat refine⟨by omega,?_⟩
     refine wp_det (Sq8 _ _) ?_
     simp only [↓zq,zs,hasK,zt,sp_hasL]
     repeat refine⟨by omega,?_⟩
     exact⟨rfl,rfl⟩
   ·obtain⟨ok1,ok2,ok3,_⟩:=A.ok
    obtain⟨f1,f2⟩:=freeLoo_times A.cl
    have hP:=P3.of x a b
    have hH:FSpec Tryz.prog 65 [.agg [.v (.string (mk [])),(E.list [x,a,b]).sp]] [] (Det (.v (.string (mk [42])))):=by rw [<-hx]; exact Sq2 x [a,b]
    rcases ctx_times hc with⟨y,z,rfl,hy⟩ | ⟨y,z,rfl,hy⟩
    ·simp only [Vl.nodes] at hm
     have hW:=P2.of (.atom [108]) (E.list [.atom [112],y.toE,z.toE])
     have hQ:=P3.of (.atom [112]) y.toE z.toE
     simp only [Vl.toE,at_list] at hvh
     simp only [tqd,at_list,Vl.toE,toNat_one,toNat_two,↓zq,zs,hasK,zt,hP.1,hP.2.1,hP.2.2.1,hP.2.2.2,hW.1,hW.2.1,hW.2.2,hQ.1,hQ.2.1,hQ.2.2.1,hQ.2.2.2,sp_hasL]
     refine⟨fun h=>absurd rfl h,fun _=>?_⟩
     repeat refine⟨by omega,?_⟩
     refine wp_det hH ?_
     simp only [↓zq,zs,hasK,zt]
     refine wp_det hvh ?_
     simp only [vh,↓zq,zs,hasK,zt,List.cons_append,List.nil_append]
     refine⟨by simp [size_mk],fun h=>by simp at h,fun _=>⟨fun h=>by simp at h,fun _=>⟨fun _=>?_,fun h=>absurd rfl h⟩⟩⟩
     repeat refine⟨by omega,?_⟩
     refine wp_det (Sqg m y (by omega) a env t1 ⟨ok2,A.wf,ha,f1⟩ hy s v) ?_
     simp only [↓zq,zs,hasK,zt,sp_hasL]
     repeat refine⟨by omega,?_⟩
     refine wp_det (Sq6 _ _ _) ?_
     simp only [↓zq,zs,hasK,zt,sp_hasL]
     repeat refine⟨by omega,?_⟩
     exact⟨rfl,rfl⟩
    ·simp only [Vl.nodes] at hm
     have hW:=P2.of (.atom [114]) (E.list [.atom [112],y.toE,z.toE])
     have hQ:=P3.of (.atom [112]) y.toE z.toE
     simp only [Vl.toE,at_list] at hvh
     simp only [tqd,at_list,Vl.toE,toNat_one,toNat_two,↓zq,zs,hasK,zt,hP.1,hP.2.1,hP.2.2.1,hP.2.2.2,hW.1,hW.2.1,hW.2.2,hQ.1,hQ.2.1,hQ.2.2.1,hQ.2.2.2,sp_hasL]
     refine⟨fun h=>absurd rfl h,fun _=>?_⟩
     repeat refine⟨by omega,?_⟩
     refine wp_det hH ?_
     simp only [↓zq,zs,hasK,zt]
     refine wp_det hvh ?_
     simp only [vh,↓zq,zs,hasK,zt,List.cons_append,List.nil_append]
     refine⟨by simp [size_mk],fun h=>by simp at h,fun _=>⟨fun h=>by simp at h,fun _=>⟨fun h=>by simp at h,fun _=>⟨fun _=>?_,fun h=>absurd rfl h⟩⟩⟩⟩
     repeat refine⟨by omega,?_⟩
     refine wp_det (Sqg m z (by omega) b env t2 ⟨ok3,A.wf,hbb,f2⟩ hy s v) ?_
     simp only [↓zq,zs,hasK,zt,sp_hasL]
     repeat refine⟨by omega,?_⟩
     refine wp_det (Sq6 _ _ _) ?_
     simp only [↓zq,zs,hasK,zt,sp_hasL]
     repeat refine⟨by omega,?_⟩
     exact⟨rfl,rfl⟩
   ·obtain⟨t1',he1,h1,f1,hw1⟩:=wf_enter A.wf A.ok hx A.ty A.cl
    cases he1
    obtain⟨ok1,ok2,ok3,_⟩:=A.ok
    have A':Ask b (.mk a.at (.list [x,a,b]) env::env) t1:=⟨ok3,hw1,h1,f1⟩
    have hP:=P3.of x a b
    have hH:FSpec Tryz.prog 65 [.agg [.v (.string (mk [])),(E.list [x,a,b]).sp]] [] (Det (.v (.string (mk [114,101,99])))):=by rw [<-hx]; exact Sq2 x [a,b]
    rcases ctx_rc hc with⟨y,rfl,hy⟩ | ⟨y,z,rfl,hy,hz⟩
    ·simp only [Vl.nodes] at hm
     have hW:=P2.of (.atom [102]) (E.list [.atom [108],y.toE])
     have hQ:=P2.of (.atom [108]) y.toE
     have hvi:=Sq1n (.l y)
     rw [sav_sp] at hvi
     simp only [Vl.toE,at_list] at hvh hvi
     simp only [tqd,at_list,Vl.toE,toNat_one,toNat_two,↓zq,zs,hasK,zt,hP.1,hP.2.1,hP.2.2.1,hP.2.2.2,hW.1,hW.2.1,hW.2.2,hQ.1,hQ.2.1,hQ.2.2,sp_hasL]
     refine⟨fun h=>absurd rfl h,fun _=>?_⟩
     repeat refine⟨by omega,?_⟩
     refine wp_det hH ?_
     simp only [↓zq,zs,hasK,zt]
     refine wp_det hvh ?_
     simp only [vh,↓zq,zs,hasK,zt,List.cons_append,List.nil_append]
     refine⟨by simp [size_mk],fun h=>by simp at h,fun _=>⟨fun h=>by simp at h,fun _=>⟨fun h=>by simp at h,fun _=>⟨fun h=>by simp at h,fun _=>?_⟩⟩⟩⟩
     repeat refine⟨by omega,?_⟩
     refine wp_det hvi ?_
     simp only [vh,↓zq,zs,hasK,zt]
     refine⟨fun _=>?_,fun h=>absurd rfl h⟩
     repeat refine⟨by omega,?_⟩
     refine wp_det (Sqg m y (by omega) b _ t1 A' hy s v) ?_
     simp only [↓zq,zs,hasK,zt,sp_hasL]
     repeat refine⟨by omega,?_⟩
     refine wp_det (Sq8 _ _) ?_
     simp only [↓zq,zs,hasK,zt,sp_hasL]
     repeat refine⟨by omega,?_⟩
     exact⟨rfl,rfl⟩
    ·simp only [Vl.nodes] at hm
     have hW:=P2.of (.atom [102]) (E.list [.atom [114],E.list [.atom [112],y.toE,z.toE]])
     have hQ:=P2.of (.atom [114]) (E.list [.atom [112],y.toE,z.toE])
     have hR:=P3.of (.atom [112]) y.toE z.toE
     have hvi:=Sq1n (.r (.p y z))
     rw [sav_sp] at hvi
     simp only [Vl.toE,at_list] at hvh hvi
     simp only [tqd,at_list,Vl.toE,toNat_one,toNat_two,↓zq,zs,hasK,zt,hP.1,hP.2.1,hP.2.2.1,hP.2.2.2,hW.1,hW.2.1,hW.2.2,hQ.1,hQ.2.1,hQ.2.2,hR.1,hR.2.1,hR.2.2.1,hR.2.2.2,sp_hasL]
     refine⟨fun h=>absurd rfl h,fun _=>?_⟩
     repeat refine⟨by omega,?_⟩
     refine wp_det hH ?_
     simp only [↓zq,zs,hasK,zt]
     refine wp_det hvh ?_
     simp only [vh,↓zq,zs,hasK,zt,List.cons_append,List.nil_append]
     refine⟨by simp [size_mk],fun h=>by simp at h,fun _=>⟨fun h=>by simp at h,fun _=>⟨fun h=>by simp at h,fun _=>⟨fun h=>by simp at h,fun _=>?_⟩⟩⟩⟩
     repeat refine⟨by omega,?_⟩
     refine wp_det hvi ?_
     simp only [vh,↓zq,zs,hasK,zt]
     refine⟨fun h=>by simp at h,fun _=>?_⟩
     repeat refine⟨by omega,?_⟩
     have i1:=Sqg m z (by omega) (.list [x,a,b]) env (.rc t1) A hz s v
     unfold IHp at i1
     simp only [at_list] at i1
     refine wp_det i1 ?_
     simp only [↓zq,zs,hasK,zt,sp_hasL]
     repeat refine⟨by omega,?_⟩
     refine wp_det (Sqg m y (by omega) b _ t1 A' hy a.at (plug (.rc t1) z v)) ?_
     simp only [↓zq,zs,hasK,zt,sp_hasL]
     repeat refine⟨by omega,?_⟩
     refine wp_det (Sq8 _ _) ?_
     simp only [↓zq,zs,hasK,zt,sp_hasL]
     repeat refine⟨by omega,?_⟩
     exact⟨rfl,rfl⟩
  ·cases e with
   | atom s0=>exact atomCase _ rfl (plug_bound _ _ _)
   | list l=>exact absurd hq (by rw [show (E.list l).at = [] from rfl,findF_nil A.wf]; simp)
end Go.Proofs.Trees
namespace Go.Proofs.Trees
open Go Go.VL Go.RowKit
abbrev zzO:Ob:=.cells [.v (.string (mk [])),.v (.slice none 0 0),.v (.string (mk []))]
theorem ZT.le {s d:Nm} {a:Ty} {x A B:E} {D:Ty} (z:ZT s d a x A B D):rdLE s = some (.list [x,A,B]):=by
 unfold rdLE; rw [z.ce]; simp [recE,z.hx]
theorem optS_eq (o:Option Nm):optS o = .tup [.v (.string (mk (o.getD []))),.v (.bool o.isSome)]:=by cases o<;>rfl
theorem plugF_txt {a:Ty} {w v:Vl} (hw:Cx a w) (hv:Fo a v):(Vl.f (plug a w v)).txt.length<=900000:=by
 have h1:=txt_len (Vl.f (plug a w v)) (by exact plug_bel 100 a w v hw.bel hv.bel)
 have h2:=plug_nodes a w v
 have:=hw.nd
 have:=hv.nd
 simp only [Vl.nodes] at h1
 omega
abbrev plgN (a:Ty) (w v:Vl):Option Nm:=if(Vl.f (plug a w v)).nodes<=200 then some (Vl.f (plug a w v)).txt else none
theorem Sqdr {s d:Nm} {a:Ty} {x A B:E} {D:Ty} (z:ZT s d a x A B D) (w v:Vl) (hw:vOK d w.txt 100 = some w) (hv:Fo a v):FSpec Tryz.prog 51 [.v (.string (mk s)),.v (.string (mk w.txt)),.v (.string (mk v.txt))] [] (Det (optS (plgN a w v))):=by
 have hC:=z.ctx hw
 have hv2:vOK s v.txt 100 = some v:=by rw [z.txt hv.bel hv.ty,if_pos hv.nd]
 refine Fqen _ _ _ ?_
 unfold tq7r
 refine wp_call (Sq4v s) (ParR.ne _ _ (fun h=>h)) ?_
 rintro r o ⟨c,e,he,rfl,hh⟩
 rw [z.le] at hh
 obtain⟨e',he',hce⟩:=hh rfl
 cases he'
 rw [sav_sp] at hce
 simp only [AV.agg.injEq,List.cons.injEq,AV.v.injEq,Value.string.injEq,and_true] at hce
 obtain⟨hc1,rfl⟩:=hce
 rw [z.le,hc1]
 simp only [↓zq,zs,hasK,zt,sp_hasL,at_list]
 repeat refine⟨by omega,?_⟩
 refine wp_det (Sq7b s) ?_
 rw [optS_eq,z.dl]
 simp only [↓zq,zs,hasK,zt,Option.isSome_some,Option.getD_some]
 refine⟨fun h=>by simp at h,fun _=>⟨fun h=>by simp at h,fun _=>?_⟩⟩
 refine wp_det (Sq1h d w.txt 100) ?_
 rw [hw]
 simp only [↓zq,zs,hasK,Option.isSome_some]
 refine⟨fun h=>by simp at h,fun _=>?_⟩
 refine wp_det (Sq1h s v.txt 100) ?_
 rw [hv2]
 simp only [↓zq,zs,hasK,Option.isSome_some]
 refine⟨fun h=>by simp at h,fun _=>?_⟩
 have hP:=P3.of x A B
 have rd:∀q:Vl,q.bel 100->q.nodes<=200->∀{Q:AV->List Ob->Prop},(∀o,Q (.tup [.agg [.v (.string (mk q.toE.at)),q.toE.sp],.v (.bool true)]) o)->∀r o,ParR ((rdV q.txt).map Vl.toE) (rdV q.txt).isSome r o->Q r o:=by
  intro q hu hn Q hQ r o
  rw [rdV_txt hu hn]
  rintro⟨c,e,he,rfl,hh⟩
  obtain⟨e',he',hce⟩:=hh rfl
  cases he'
  rw [sav_sp] at hce
  rw [hce]
  exact hQ o
 refine wp_call (Sq23 w.txt) (ParR.ne _ _ (fun h=>by simpa using h)) (rd w hC.bel hC.nd fun o=>?_)
 simp only [↓zq,zs,hasK,zt,sp_hasL]
 repeat refine⟨by omega,?_⟩
 refine wp_call (Sq23 v.txt) (ParR.ne _ _ (fun h=>by simpa using h)) (rd v hv.bel hv.nd fun o=>?_)
 simp only [toNat_one,toNat_two,↓zq,zs,hasK,zt,hP.1,hP.2.1,hP.2.2.1,hP.2.2.2,sp_hasL,sp_has]
 repeat refine⟨by omega,?_⟩
 refine wp_det (Sqg w.nodes w (Nat.le_refl _) B _ a z.body hC.ok A.at v) ?_
 simp only [↓zq,zs,hasK,zt,sp_hasL]
 repeat refine⟨by omega,?_⟩
 refine wp_det (Sq8 _ _) ?_
 simp only [↓zq,zs,hasK,zt,sp_hasL]
 repeat refine⟨by omega,?_⟩
 have htx:=Sq2h (Vl.f (plug a w v)).toE (toE_ok _) (plugF_txt hC hv)
 rw [sav_sp] at htx
 simp only [Vl.toE,at_list] at htx
 refine wp_det htx ?_
 simp only [↓zq,zs,hasK,zt]
 refine wp_det (Sq1h s (Vl.f (plug a w v)).txt 100) ?_
 rw [z.txt (w:=Vl.f (plug a w v)) (by exact plug_bel 100 a w v hC.bel hv.bel) (hC.ty v hv.ty)]
 unfold plgN
 by_cases hn:(Vl.f (plug a w v)).nodes<=200
 ·rw [if_pos hn,if_pos hn]
  simp only [↓zq,zs,hasK,Option.isSome_some]
  exact⟨fun h=>by simp at h,fun _=>⟨rfl,rfl⟩⟩
 ·rw [if_neg hn,if_neg hn]
  simp only [↓zq,zs,hasK,Option.isSome_none]
  exact⟨fun _=>⟨rfl,rfl⟩,fun h=>by simp at h⟩
theorem rdPth_each {d:Nm}:∀{p:List Nm} {l:List Vl},rdPth d p = some l->p = l.map (·.txt)->∀c,c∈l->vOK d c.txt 100 = some c
 | [],l,h,_,c,hc=>by cases h; cases hc
 | q::r,l,h,hp,c,hc=>by
  simp only [rdPth] at h
  split at h
  ·rename_i w l' h1 h2
   cases h
   simp only [List.map_cons,List.cons.injEq] at hp
   rcases List.mem_cons.1 hc with rfl | hc
   ·rw [<-hp.1]; exact h1
   ·exact rdPth_each h2 hp.2 c hc
  ·cases h
structure St (s d:Nm) (a:Ty) (l:List Vl) (v:Vl):Prop where
 z:∃x A B D,ZT s d a x A B D
 i:ZI a l v
 each:∀c,c∈l->vOK d c.txt 100 = some c
 len:l.length<=50
def upAV (s:Nm) (pa:AV) (a:Ty) (l:List Vl) (v:Vl):AV:=match l.getLast? with
 | none=>.tup [.agg [.v (.string (mk s)),pa,.v (.string (mk v.txt))],.v (.bool false)]
 | some c=>.tup [.agg [.v (.string (mk s)),.sl (strsAV (l.dropLast.map (·.txt))),.v (.string (mk ((plgN a c v).getD [])))],.v (.bool (plgN a c v).isSome)]
theorem Sqao {s d:Nm} {a:Ty} {l:List Vl} {v:Vl} (h:St s d a l v) (pa:AV) (hp:StrsA pa (l.map (·.txt))):FSpec Tryz.prog 39 [.agg [.v (.string (mk s)),pa,.v (.string (mk v.txt))]] [] (Det (upAV s pa a l v)):=by
 refine Fqd2 _ _ _ hp.1 ?_
 unfold tq74
 have hlen:=h.len
 simp only [↓zq,zs,hasK,zt,hp.len,List.length_map,strsAV_len']
 unfold upAV
 refine⟨hp.1,fun h0=>?_,fun h0=>?_⟩
 ·have:l = []:=List.eq_nil_of_length_eq_zero (by omega)
  subst this
  exact⟨rfl,rfl⟩
 ·have hpos:0 < l.length:=by omega
  have hne:l≠[]:=by rintro rfl; simp at hpos
  rw [wrap64 ((l.length:Int) - 1) (by omega) (by omega)]
  have e1:((l.length:Int) - 1).toNat = l.length - 1:=by omega
  have hlt:l.length - 1 < (l.map (·.txt)).length:=by rw [List.length_map]; omega
  have hlt':l.length - 1 < l.length:=by omega
  have hlast:l.getLast? = some (l[l.length - 1]):=by rw [List.getLast?_eq_some_getLast hne,List.getLast_eq_getElem]
  rw [hlast]
  have hm:=List.getElem_mem hlt'
  have hg:(l.map (·.txt)).getD (l.length - 1) [] = (l[l.length - 1]).txt:=by rw [List.getD_eq_getElem?_getD,List.getElem?_eq_getElem hlt,List.getElem_map]; rfl
  obtain⟨x,A,B,D,z⟩:=h.z
  rw [e1,hp.idx hlt,hg]
  generalize l[l.length - 1] = c at *
  simp only [↓zq,zs,hasK,zt]
  refine⟨⟨hp.1,by omega⟩,by omega,?_⟩
  refine wp_det (Sqdr z c v (h.each c hm) h.i.foc) ?_
  rw [optS_eq]
  simp only [↓zq,zs,hasK,zt]
  refine⟨⟨hp.1,by omega⟩,⟨fun y hy=>?_,?_⟩,?_,rfl⟩
  ·rw [hp.2] at hy
   have:=List.mem_of_mem_take hy
   obtain⟨t,_,rfl⟩:=List.mem_map.1 this
   rfl
  ·rw [hp.2]; simp [strsAV]; omega
  ·have:pa.elems.take (l.length - 1) = strsAV (l.dropLast.map (·.txt)):=by
    rw [hp.2,List.dropLast_eq_take,List.map_take]; simp [strsAV,List.map_take]
   rw [this]; rfl
theorem St.up {s d:Nm} {a:Ty} {l l':List Vl} {v w:Vl} (h:St s d a l v) (hu:upF a l v = some (l',w)):St s d a l' w:=by
 obtain⟨h1,h2,c,h3,_⟩:=upF_ok h.i hu
 have hl:=h.len
 exact⟨h.z,h1,fun c' hc'=>h.each c' (by rw [h3]; exact List.mem_append_left _ hc'),by omega⟩
theorem upAV_some {s:Nm} {pa:AV} {a:Ty} {l l':List Vl} {v w:Vl} (hu:upF a l v = some (l',w)):upAV s pa a l v = .tup [.agg [.v (.string (mk s)),.sl (strsAV (l'.map (·.txt))),.v (.string (mk w.txt))],.v (.bool true)]:=by
 unfold upF at hu
 unfold upAV
 cases q:l.getLast? with
 | none=>rw [q] at hu; cases hu
 | some c =>
  rw [q] at hu
  simp only at hu |-
  unfold plgN
  split at hu
  ·rename_i hn
   cases hu
   rw [if_pos hn]; rfl
  ·cases hu
theorem upAV_none {s:Nm} {pa:AV} {a:Ty} {l:List Vl} {v:Vl} (hpa:LK.sl.has pa) (hu:upF a l v = none):∃p f,LK.sl.has p/\upAV s pa a l v = .tup [.agg [.v (.string (mk s)),p,.v (.string (mk f))],.v (.bool false)]:=by
 unfold upF at hu
 unfold upAV
 cases q:l.getLast? with
 | none=>exact⟨_,_,hpa,rfl⟩
 | some c =>
  rw [q] at hu
  simp only at hu |-
  unfold plgN
  split at hu
  ·cases hu
  ·rename_i hn
   rw [if_neg hn]; exact⟨_,_,(has_sl _).mpr trivial,rfl⟩
def CloP (s:Nm) (o:Option Vl):Nat->List AV->List Ob->Prop:=fun k ys ob=>match o with
 | some w=>k = 1/\ys = []/\∃pa,LK.sl.has pa/\ob = [.cells [.v (.string (mk s)),pa,.v (.string (mk w.txt))],zzO]
 | none=>k = 2/\ys = [.v (.bool false)]/\∃pa f,LK.sl.has pa/\ob = [.cells [.v (.string (mk s)),pa,.v (.string (mk f))]]
theorem Lq9l (s d:Nm) (a:Ty):∀(n:Nat) (l:List Vl) (v:Vl) (pa:AV),l.length = n->St s d a l v->StrsA pa (l.map (·.txt))->Lq4q [] [.cells [.v (.string (mk s)),pa,.v (.string (mk v.txt))],zzO] (CloP s (cloN n a l v))
 | 0,l,v,pa,hl,h,hp=>by
  refine Gqbz _ _ _ _ _ _ ?_
  simp only [rq2t,↓zq,zs,hasK,zt,hasK,has_slnil,hp.len,List.length_map,hl,cloN]
  refine⟨hp.1,hp.1,fun h=>by omega,fun _=>?_⟩
  exact⟨rfl,rfl,pa,hp.1,rfl⟩
 | n+1,l,v,pa,hl,h,hp=>by
  refine Gqbz _ _ _ _ _ _ ?_
  simp only [rq2t,↓zq,zs,hasK,zt,hasK,has_slnil,hp.len,List.length_map,hl]
  refine⟨hp.1,hp.1,fun _=>?_,fun h=>by omega⟩
  refine wp_det (Sqao h pa hp) ?_
  rw [cloN]
  cases q:upF a l v with
  | none =>
   obtain⟨p',f',h1,h2⟩:=upAV_none (s:=s) hp.1 q
   rw [h2]
   simp only [↓zq,zs,hasK,zt,hasL,Option.bind_none]
   exact⟨h1,fun _=>⟨rfl,rfl,pa,v.txt,hp.1,rfl⟩,fun h=>by simp at h⟩
  | some r =>
   obtain⟨l',w⟩:=r
   obtain⟨_,hlen,_⟩:=upF_ok h.i q
   rw [upAV_some q]
   simp only [↓zq,zs,hasK,zt,hasL,Option.bind_some,has_sl]
   refine⟨fun h=>by simp at h,fun _=>?_⟩
   exact Lq9l s d a n l' w _ (by omega) (h.up q) (StrsA.of _)
def CloR (o:Option Vl):AV->List Ob->Prop:=fun r ob=>ob = []/\∃c0 pa c2,LK.sl.has pa/\r = .tup [.agg [.v (.string c0),pa,.v (.string c2)],.v (.bool o.isSome)]/\∀w,o = some w->c2 = mk w.txt
theorem CloR.ne (o:Option Vl):∃r ob,CloR o r ob:=⟨_,[],rfl,mk [],.sl [],mk ((o.map (·.txt)).getD []),(has_sl _).mpr trivial,rfl,fun w h=>by rw [h]; rfl⟩
theorem Sq96 {s d:Nm} {a:Ty} {l:List Vl} {v:Vl} (h:St s d a l v) (pa:AV) (hp:StrsA pa (l.map (·.txt))):FSpec Tryz.prog 34 [.agg [.v (.string (mk s)),pa,.v (.string (mk v.txt))]] [] (CloR (clo a l v)):=by
 refine Fqd6 _ _ _ hp.1 ?_
 unfold tq94
 have hloop:=Lq9l s d a l.length l v pa rfl h hp
 refine wpt_loop hloop (fun ys o e=>?_) (fun ys o e=>?_)
 ·unfold CloP at e
  unfold clo
  cases q:cloN l.length a l v with
  | none=>rw [q] at e; exact absurd e.1 (by decide)
  | some w =>
   rw [q] at e
   obtain⟨_,rfl,p',h1,rfl⟩:=e
   simp only [↓zq,zs,hasK,zt,hasK,has_slnil]
   exact⟨h1,rfl,_,_,_,h1,rfl,fun w' h=>by cases h; rfl⟩
 ·unfold CloP at e
  unfold clo
  cases q:cloN l.length a l v with
  | some w=>rw [q] at e; exact absurd e.1 (by decide)
  | none =>
   rw [q] at e
   obtain⟨_,rfl,p',f',h1,rfl⟩:=e
   simp only [↓zq,zs,hasK,zt,hasK]
   exact⟨h1,rfl,_,_,_,h1,rfl,fun w' h=>by cases h⟩
theorem Lq61 (s d f:Nm) (pa:AV) (p:List Nm) (hp:StrsA pa p) (hl:p.length<=50):∀(k i:Nat),i+k = p.length->Lq2z [.v (.string (mk d)),.v (.int .i64 (i:Int))] [.cells [.v (.string (mk s)),pa,.v (.string (mk f))]] (LBy (if(rdPth d (p.drop i)).isSome = true then(1,[],[]) else(2,[.v (.bool false)],[])))
 | 0,i,hi=>by
  refine Gq5z _ _ _ _ _ ?_
  have:i = p.length:=by omega
  subst this
  simp only [rq44,↓zq,zs,hasK,zt,hasK,hp.len,List.drop_length]
  exact⟨hp.1,hp.1,fun h=>by omega,fun _=>rfl⟩
 | k+1,i,hi=>by
  have hlt:i < p.length:=by omega
  have hd:p.drop i = p.getD i []::p.drop (i+1):=by rw [List.drop_eq_getElem_cons hlt]; simp [List.getD_eq_getElem?_getD,hlt]
  refine Gq5z _ _ _ _ _ ?_
  simp only [rq44,↓zq,zs,hasK,zt,hasK,hp.len,hp.idx hlt,Int.toNat_natCast]
  refine⟨hp.1,hp.1,fun _=>⟨⟨hp.1,by omega,by omega⟩,by omega,?_⟩,fun h=>by omega⟩
  refine wp_det (Sq1h d (p.getD i []) 100) ?_
  rw [hd,rdPth]
  simp only [↓zq,zs,hasK]
  cases q:vOK d (p.getD i []) 100 with
  | none =>
   simp only [Option.isSome_none]
   exact⟨fun _=>rfl,fun h=>by simp at h⟩
  | some w =>
   simp only [Option.isSome_some]
   refine⟨fun h=>by simp at h,fun _=>?_⟩
   rw [wrap_succ i (by omega)]
   have ih:=Lq61 s d f pa p hp hl k (i+1) (by omega)
   cases q2:rdPth d (p.drop (i+1)) with
   | none=>rw [q2] at ih; exact ih
   | some l=>rw [q2] at ih; exact ih
theorem rdZ_eq (s:Nm) (p:List Nm) (f:Nm):rdZ s p f = (derLoop s).bind fun d=>(rdLp s).bind fun _=>(vOK s f 100).bind fun v=>if p.length<=50 then(rdPth d p).map fun l=>(l,v) else none:=by
 unfold rdZ lvOK
 cases rdLp s with
 | none=>cases derLoop s<;>rfl
 | some a=>cases vOK s f 100<;>cases derLoop s<;>rfl
theorem Sqgn (s:Nm) (pa:AV) (p:List Nm) (hp:StrsA pa p) (f:Nm):FSpec Tryz.prog 33 [.agg [.v (.string (mk s)),pa,.v (.string (mk f))]] [] (Det (.v (.bool (rdZ s p f).isSome))):=by
 refine Fqgy _ _ _ hp.1 ?_
 unfold tq8x
 refine wp_det (Sq7b s) ?_
 rw [optS_eq]
 simp only [↓zq,zs,hasK,zt]
 refine wp_call (Sq4v s) (ParR.ne _ _ (fun h=>h)) ?_
 rintro r o ⟨c,e,he,rfl,_⟩
 rw [rdLE_rdL]
 simp only [↓zq,zs,hasK,zt,hasL,hp.len]
 rw [rdZ_eq]
 refine⟨he,fun h=>?_,fun h=>⟨fun h'=>?_,fun h'=>⟨hp.1,fun h''=>?_,fun h''=>?_⟩⟩⟩
 ·have:derLoop s = none:=by cases q:derLoop s with | none=>rfl | some d=>simp [q] at h
  rw [this]
  exact⟨rfl,rfl⟩
 ·have:rdLp s = none:=by cases q:rdLp s with | none=>rfl | some d=>simp [q] at h'
  rw [this]
  cases derLoop s<;>exact⟨rfl,rfl⟩
 ·simp only [if_neg (show ¬ p.length<=50 by omega)]
  exact⟨by cases derLoop s<;>cases rdLp s<;>cases vOK s f 100<;>rfl,rfl⟩
 ·obtain⟨d,hd⟩:∃d,derLoop s = some d:=by cases q:derLoop s with | none=>simp [q] at h | some d=>exact⟨d,rfl⟩
  obtain⟨a,ha⟩:∃a,rdLp s = some a:=by cases q:rdLp s with | none=>simp [q] at h' | some d=>exact⟨d,rfl⟩
  rw [hd,ha]
  refine wp_det (Sq1h s f 100) ?_
  simp only [↓zq,zs,hasK]
  cases q:vOK s f 100 with
  | none=>simp only [Option.isSome_none]; exact⟨fun _=>⟨rfl,rfl⟩,fun h=>by simp at h⟩
  | some v =>
   simp only [Option.isSome_some,Option.getD_some,Option.bind_some]
   refine⟨fun h=>by simp at h,fun _=>?_⟩
   have hl:p.length<=50:=by omega
   have hloop:=Lq61 s d f pa p hp hl p.length 0 (by omega)
   rw [List.drop_zero] at hloop
   rw [if_pos hl]
   refine wp_loopB hloop (fun ys o e=>?_) (fun ys o e=>?_)
   ·cases q2:rdPth d p with
    | none=>rw [q2] at e; cases e
    | some l=>exact⟨rfl,rfl⟩
   ·cases q2:rdPth d p with
    | none=>rw [q2] at e; cases e; simp only [↓zq,zs,hasK]; exact⟨rfl,rfl⟩
    | some l=>rw [q2] at e; cases e
theorem rdZ_st {s:Nm} {p:List Nm} {f:Nm} {l:List Vl} {v:Vl} (h:rdZ s p f = some (l,v)):∃d,St s d (zA s) l v/\p = l.map (·.txt)/\f = v.txt:=by
 obtain⟨d,a,x,A,B,D,z,hz,hp,hf,hl,hza,_,hr⟩:=rdZ_some h
 rw [hza]
 exact⟨d,⟨⟨x,A,B,D,z⟩,hz,rdPth_each hr hp,by rw [hp] at hl; simpa using hl⟩,hp,hf⟩
theorem Sq1t (s:Nm) (pa:AV) (p:List Nm) (hp:StrsA pa p) (f:Nm):FSpec Tryz.prog 15 [.agg [.v (.string (mk s)),pa,.v (.string (mk f))]] [] (Det (.v (.bool (rdVd s p f).isSome))):=by
 refine Fqgm _ _ _ hp.1 ?_
 unfold tq8e
 refine wp_det (Sqgn s pa p hp f) ?_
 simp only [↓zq,zs,hasK]
 unfold rdVd
 cases q:rdZ s p f with
 | none=>simp only [Option.isSome_none]; exact⟨fun _=>⟨rfl,rfl⟩,fun h=>by simp at h⟩
 | some r =>
  obtain⟨l,v⟩:=r
  obtain⟨d,hs,rfl,rfl⟩:=rdZ_st q
  simp only [Option.isSome_some,Option.bind_some]
  refine⟨fun h=>by simp at h,fun _=>?_⟩
  refine wp_call (Sq96 hs pa hp) (CloR.ne _) ?_
  rintro r o ⟨rfl,c0,p',c2,h1,rfl,_⟩
  simp only [↓zq,zs,hasK,zt,hasL]
  refine⟨h1,?_,rfl⟩
  congr 2
  cases clo (zA s) l v<;>rfl
end Go.Proofs.Trees
namespace Go.Proofs.Trees
open Go Go.VL Go.RowKit
def ZSp (s:Nm) (o:Option (List Vl×Vl)):AV->List Ob->Prop:=fun r obs=>obs = []/\∃pa,StrsA pa (tZ s o).2.1/\r = .tup [.agg [.v (.string (mk (tZ s o).1)),pa,.v (.string (mk (tZ s o).2.2))],.v (.bool o.isSome)]
theorem tZ_len (s:Nm) {o:Option (List Vl×Vl)} (h:GZ o):(tZ s o).2.1.length<=51:=by
 cases o with
 | none=>simp
 | some r=>obtain⟨_,_,h3⟩:=h r rfl; simpa using h3
theorem ZSp.ne (s:Nm) (o:Option (List Vl×Vl)):∃r ob,ZSp s o r ob:=⟨_,[],rfl,_,StrsA.of _,rfl⟩
theorem ZSp.none (s:Nm):ZSp s none (.tup [.agg [.v (.string (mk [])),.v (.slice none 0 0),.v (.string (mk []))],.v (.bool false)]) []:=⟨rfl,_,StrsA.nil,rfl⟩
theorem rdVd_st {s:Nm} {p:List Nm} {f:Nm} {l:List Vl} {v:Vl} (h:rdVd s p f = some (l,v)):∃d,St s d (zA s) l v/\p = l.map (·.txt)/\f = v.txt:=rdZ_st (rdVd_some h).1
theorem Sqgw (s:Nm) (pa:AV) (p:List Nm) (hp:StrsA pa p) (f:Nm):FSpec Tryz.prog 20 [.agg [.v (.string (mk s)),pa,.v (.string (mk f))]] [] (ZSp s (mUp s p f)):=by
 refine Fqe1 _ _ _ hp.1 ?_
 unfold tq60
 refine wp_det (Sq1t s pa p hp f) ?_
 simp only [↓zq,zs,hasK]
 unfold mUp
 cases q:rdVd s p f with
 | none=>simp only [Option.isSome_none]; exact⟨fun _=>ZSp.none s,fun h=>by simp at h⟩
 | some r =>
  obtain⟨l,v⟩:=r
  obtain⟨d,hs,rfl,rfl⟩:=rdVd_st q
  simp only [Option.isSome_some,Option.bind_some]
  refine⟨fun h=>by simp at h,fun _=>?_⟩
  refine wp_det (Sqao hs pa hp) ?_
  cases q2:upF (zA s) l v with
  | none =>
   obtain⟨p',f',h1,h2⟩:=upAV_none (s:=s) hp.1 q2
   rw [h2]
   simp only [↓zq,zs,hasK,zt,hasL]
   exact⟨h1,fun _=>ZSp.none s,fun h=>by simp at h⟩
  | some r =>
   obtain⟨l',w⟩:=r
   rw [upAV_some q2]
   simp only [↓zq,zs,hasK,zt,hasL,has_sl]
   exact⟨fun h=>by simp at h,fun _=>⟨rfl,_,StrsA.of _,rfl⟩⟩
end Go.Proofs.Trees
namespace Go.Proofs.Trees
open Go Go.VL Go.RowKit
theorem Lqcp (x:AV) (l:List (List UInt8)) (hx:StrsA x l) (hl:l.length<=2000000):∀(m i:Nat) (q:List (List UInt8)),i+m = l.length->q.length = l.length->Lq2y [x,.v (.int .i64 (i:Int))] [.vec 1 (strsAV q)] (LIs 1 [] [.vec 1 (strsAV (q.take i++l.drop i))])
 | 0,i,q,hi,hq=>by
  refine Gqa0 _ _ _ ?_
  simp only [rq3w,↓zq,zs,hasK,hx.len]
  refine⟨hx.1,hx.1,fun h=>by omega,fun _=>?_⟩
  rw [List.drop_of_length_le (by omega),List.append_nil,List.take_of_length_le (by omega)]
  exact⟨rfl,rfl,rfl⟩
 | m+1,i,q,hi,hq=>by
  have hlt:i < l.length:=by omega
  have hlq:i < q.length:=by omega
  refine Gqa0 _ _ _ ?_
  simp only [rq3w,↓zq,zs,hasK,zt,hx.len,hx.idx hlt,Int.toNat_natCast,strsAV_len,strsAV_set hlq]
  refine⟨hx.1,hx.1,fun _=>⟨⟨hx.1,by omega,by omega⟩,by omega,⟨by omega,by omega⟩,⟨hlq,by omega⟩,?_⟩,fun h=>by omega⟩
  rw [wrap_succ i (by omega)]
  have:=Lqcp x l hx hl m (i+1) (q.set i (l.getD i [])) (by omega) (by simpa using hq)
  have e:(q.set i (l.getD i [])).take (i+1)++l.drop (i+1) = q.take i++l.drop i:=by
   rw [List.take_succ_eq_append_getElem (by simpa using hlq),List.take_set_of_le (Nat.le_refl _),List.drop_eq_getElem_cons hlt]
   simp [List.getD_eq_getElem?_getD,hlt]
  rw [e] at this
  exact this
theorem Sqgj (x:AV) (l:List (List UInt8)) (hx:StrsA x l) (hl:l.length<=2000000):FSpec Tryz.prog 35 [x] [] (DetO (.vec 0) [.vec 1 (strsAV l)]):=by
 refine Fqfw _ hx.1 ?_
 simp only [tqar,↓zq,zs,hasK,hx.len]
 refine⟨hx.1,⟨by omega,by omega⟩,?_⟩
 have:=Lqcp x l hx hl l.length 0 (List.replicate l.length []) (by omega) (by simp)
 rw [List.take_zero,List.drop_zero,List.nil_append] at this
 have e:strsAV (List.replicate l.length []) = List.replicate l.length [.v (.string (mk []))]:=by simp [strsAV]
 rw [e] at this
 rw [Int.toNat_natCast]
 refine wp_loop1 this ?_
 simp [↓zq,zs,hasK,DetO,Ob.es]
theorem Sqe0 (s f:(List UInt8)) (x:AV) (l:List (List UInt8)) (hx:StrsA x l) (hl:l.length<=2000000):FSpec Tryz.prog 16 [.agg [.v (.string (mk s)),x,.v (.string (mk f))]] [] (DetO (.agg [.v (.string (mk s)),.vec 0,.v (.string (mk f))]) [.vec 1 (strsAV l)]):=by
 refine Fqd8 _ _ _ hx.1 ?_
 unfold tqa6
 refine wp_detO (Sqgj x l hx hl) ?_
 simp only [↓zq,zs,hasK,zt,Ob.es,List.headD_cons]
 exact⟨plain_strs _,rfl,rfl⟩
theorem Sq9j (s f:(List UInt8)) (x y:AV) (l:List (List UInt8)) (hx:StrsA x l) (hy:StrsA y l) (hl:l.length<=2000000):FSpec Tryz.prog 11 [.agg [.v (.string (mk s)),x,.v (.string (mk f))],.agg [.v (.string (mk s)),y,.v (.string (mk f))]] [] (Det (.v (.bool true))):=by
 refine Fqeh _ _ _ _ _ _ hx.1 hy.1 ?_
 simp only [tq7y,↓zq,zs,hasK,zt]
 refine⟨fun h=>by simp at h,fun _=>?_⟩
 refine wp_det (Sqdn x y l hx hy hl) ?_
 simp [↓zq,zs,hasK,zt,Det]
theorem Sqay (s f:(List UInt8)) (k:Nat) (l:List (List UInt8)) (hl:l.length<=2000000) (hk:k<=1000000):FSpec Tryz.prog 12 [.agg [.v (.string (mk s)),.vec 0,.v (.string (mk f))],.v (.int .i64 (k:Int))] [.vec 1 (strsAV l)] (DetO (.v (.int .i64 ((k+l.length:Nat):Int))) [.kvec 1 (strsAV (mks k l.length))]):=by
 refine Fqdw _ _ _ _ ?_
 unfold tq9y
 refine wp_detO (Sqfv k l hl hk) ?_
 simp [↓zq,zs,hasK,DetO,Ob.es]
theorem Sqg4 (s f:(List UInt8)) (a:AV) (k n:Nat) (ha:StrsA a (mks k n)) (hn:n<=2000000) (hk:k<=1000000):FSpec Tryz.prog 13 [.agg [.v (.string (mk s)),a,.v (.string (mk f))],.v (.int .i64 (k:Int))] [] (Det (.v (.int .i64 ((k+n:Nat):Int)))):=by
 refine Fqgg _ _ _ _ ha.1 ?_
 unfold tqab
 refine wp_det (Sqde a k n ha hn hk) ?_
 simp only [↓zq,zs,hasK,zt]
 exact⟨fun h=>by omega,fun _=>⟨rfl,rfl⟩⟩
def SzR (n:Nat):AV->List Ob->Prop:=fun r o=>∃x:Int,r = .v (.int .i64 x)/\(0<=x->n<=1048576)
theorem SzR.ne (n:Nat):∃r o,SzR n r o:=⟨_,[],-1,rfl,fun h=>by omega⟩
theorem Lqat (x:AV) (l:List (List UInt8)) (hx:StrsA x l) (hl:l.length<=1048576):∀(m i:Nat) (n:Int),i+m = l.length->Lq5c [x,.v (.int .i64 n),.v (.int .i64 (i:Int))] [] (fun t ys o=>(t = 1\/t = 2)/\∃y:Int,ys = [.v (.int .i64 y)])
 | 0,i,n,hi=>by
  refine Gqc0 _ _ _ ?_
  simp only [rq3j,↓zq,zs,hasK,hx.len]
  exact⟨hx.1,hx.1,fun h=>by omega,fun _=>⟨.inl (by first | rfl | trivial),_,rfl⟩⟩
 | m+1,i,n,hi=>by
  have hlt:i < l.length:=by omega
  refine Gqc0 _ _ _ ?_
  simp only [rq3j,↓zq,zs,hasK,zt,hx.len,hx.idx hlt,Int.toNat_natCast]
  refine⟨hx.1,hx.1,fun _=>⟨⟨hx.1,by omega,by omega⟩,by omega,fun _=>⟨.inr (by first | rfl | trivial),_,rfl⟩,fun _=>?_⟩,fun h=>by omega⟩
  rw [wrap_succ i (by omega)]
  exact Lqat x l hx hl m (i+1) _ (by omega)
theorem Sqd0 (s f:(List UInt8)) (x:AV) (l:List (List UInt8)) (hx:StrsA x l) (hs:s.length<=9223372036854775807) (hl:l.length<=9223372036854775807):FSpec Tryz.prog 14 [.agg [.v (.string (mk s)),x,.v (.string (mk f))],.v (.int .i64 1048576)] [] (SzR l.length):=by
 refine Fqgb _ _ _ _ hx.1 ?_
 simp only [tq6g,↓zq,zs,hasK,zt,size_mk]
 rw [wrap64 (1048576 - (s.length:Int)) (by omega) (by omega)]
 refine⟨fun _=>⟨_,rfl,fun h=>by omega⟩,fun hp=>?_⟩
 have hsz:FSpec Tryz.prog 32 [x,.v (.int .i64 (1048576 - (s.length:Int)))] [] (SzR l.length):=by
  refine Fqgx _ _ hx.1 ?_
  simp only [tqcn,↓zq,zs,hasK,hx.len]
  rw [wrap64 (1048576 - (s.length:Int) - (l.length:Int)) (by omega) (by omega)]
  refine⟨hx.1,fun _=>⟨_,rfl,fun h=>by omega⟩,fun hq=>?_⟩
  have hl':l.length<=1048576:=by omega
  refine wpt_loop (Lqat x l hx hl' l.length 0 _ (by omega)) ?_ ?_
  ·rintro ys o ⟨_,y,rfl⟩
   simp only [↓zq,zs,hasK]
   exact⟨_,rfl,fun _=>hl'⟩
  ·rintro ys o ⟨_,y,rfl⟩
   simp only [↓zq,zs,hasK]
   exact⟨_,rfl,fun _=>hl'⟩
 refine wp_call hsz (SzR.ne _) ?_
 rintro r o ⟨n,rfl,hn⟩
 simp only [↓zq,zs,hasK,zt]
 exact⟨fun _=>⟨_,rfl,fun h=>by omega⟩,fun h1=>⟨fun _=>⟨_,rfl,fun h=>by omega⟩,fun h2=>⟨_,rfl,fun _=>hn (by omega)⟩⟩⟩
end Go.Proofs.Trees
namespace Go.Proofs.Trees
open Go Go.VL Go.RowKit
theorem Sqcv (s:Nm) (pa:AV) (p:List Nm) (hp:StrsA pa p) (f:Nm) (hs:s.length<=9223372036854775807) (hpl:p.length<=9223372036854775807):FSpec Tryz.prog 6 [.agg [.v (.string (mk s)),pa,.v (.string (mk f))]] [] (Det (.v (.bool true))):=by
 refine Fqeg _ _ _ hp.1 ?_
 simp only [tqaa,↓zq,zs,hasK,zt,Det]
 refine wp_call (Sqd0 s f pa p hp hs hpl) (SzR.ne _) ?_
 rintro r o ⟨n,rfl,hn⟩
 simp only [↓zq,zs,hasK]
 refine⟨fun _=>trivial,fun hn'=>?_⟩
 have hl:p.length<=1048576:=hn (by omega)
 have toz:=Sqe0 s f pa p hp (by omega)
 have eqz:=Sq9j s f _ _ p (StrsA.of p) (StrsA.of p) (by omega)
 refine wp_detO toz ?_
 simp only [↓zq,zs,hasK,zt,hasC,Ob.es,List.headD_cons]
 refine⟨plain_strs _,?_⟩
 have hgz:=tZ_len s (o:=mUp s p f) (mUp_gz s p f)
 have EQ:=fun(w:AV) hw=>Sq9j (tZ s (mUp s p f)).1 (tZ s (mUp s p f)).2.2 _ w _ (StrsA.of (tZ s (mUp s p f)).2.1) hw (by omega)
 have HE:=Sqg4 (tZ s (mUp s p f)).1 (tZ s (mUp s p f)).2.2 _ 1 (tZ s (mUp s p f)).2.1.length (StrsA.of _) (by omega) (by omega)
 refine wp_call (Sqgw s (.sl (strsAV p)) p (StrsA.of p) f) (ZSp.ne _ _) ?_
 rintro r o ⟨rfl,w,hw,rfl⟩
 simp only [↓zq,zs,hasK,zt,hasL]
 refine⟨hw.1,?_⟩
 refine wp_detO toz ?_
 simp only [↓zq,zs,hasK,zt,hasC,Ob.es,List.headD_cons]
 refine⟨plain_strs _,?_⟩
 refine wp_detO (Sqbu s (.sl (strsAV p)) p (StrsA.of p) f) ?_
 simp only [↓zq,zs,hasK,zt,hasC,Ob.es,List.headD_cons]
 refine⟨plain_strs _,?_⟩
 refine wp_det (EQ w hw) ?_
 simp only [↓zq,zs,hasK]
 refine⟨fun h=>by simp at h,fun _=>⟨fun h=>by simp at h,fun _=>?_⟩⟩
 refine wp_detO toz ?_
 simp only [↓zq,zs,hasK,zt,hasC,Ob.es,List.headD_cons]
 refine⟨plain_strs _,?_⟩
 refine wp_det eqz ?_
 simp only [↓zq,zs,hasK]
 refine⟨fun h=>by simp at h,fun _=>?_⟩
 refine wp_detO (Sqay s f 1 p (by omega) (by omega)) ?_
 simp only [↓zq,zs,hasK,Ob.es,List.headD_cons]
 refine⟨fun h=>by omega,fun _=>?_⟩
 refine wp_det (EQ w hw) ?_
 simp only [↓zq,zs,hasK]
 refine⟨fun h=>by simp at h,fun _=>⟨fun h=>by simp at h,fun _=>?_⟩⟩
 refine wp_detO (Sqay _ _ 1 _ (by omega) (by omega)) ?_
 simp only [↓zq,zs,hasK,Ob.es,List.headD_cons]
 refine wp_det HE ?_
 simp only [↓zq,zs,hasK]
 refine⟨fun h=>by omega,fun _=>⟨fun h=>by simp at h,fun _=>?_⟩⟩
 refine wp_detO toz ?_
 simp only [↓zq,zs,hasK,zt,hasC,Ob.es,List.headD_cons]
 refine⟨plain_strs _,?_⟩
 refine wp_detO (Sqbu s (.sl (strsAV p)) p (StrsA.of p) f) ?_
 simp only [↓zq,zs,hasK,zt,hasC,Ob.es,List.headD_cons]
 refine⟨plain_strs _,?_⟩
 refine wp_det (EQ w hw) ?_
 simp only [↓zq,zs,hasK]
 refine⟨fun h=>by simp at h,fun _=>⟨fun h=>by simp at h,fun _=>?_⟩⟩
 refine wp_det HE ?_
 simp only [↓zq,zs,hasK]
 refine⟨fun h=>by omega,fun _=>⟨fun h=>by simp at h,fun _=>?_⟩⟩
 first | rfl | trivial
end Go.Proofs.Trees
