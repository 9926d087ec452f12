/-
  Part of a proof: Go functions read by values, trees of functions, their contracts.
-/
import Derived.Test.YtfdpbglppfohhaaGreatDoorP4
set_option linter.unusedVariables false
set_option linter.unusedSimpArgs false
open And renaming intro→aH
open Bool renaming and_eq_true→aq,eq_iff_iff→cw,or_eq_true→bB,true_and→cm
open Int renaming cast_ofNat_Int→dh,ofNat_eq_natCast→cL,tmod→dC,toNat→bA,toNat_natCast→bK
open List renaming all_cons→cT,any_eq_true→cf,append_assoc→bC,append_nil→cS,cons_append→aZ,drop_eq_getElem_cons→aU,drop_eq_nil_of_le→bM,drop_zero→bx,eq_nil_of_length_eq_zero→bJ,getD_cons_zero→bj,getD_eq_getElem?_getD→aa,getElem?_eq_getElem→bf,getElem_mem→bD,headD_cons→a8,length_append→ap,length_cons→au,length_drop→cj,length_nil→aG,map_cons→bI,mem_append→aM,mem_append_left→aC,mem_cons→aI,mem_cons_of_mem→al,mem_cons_self→aj,mem_map→ci,mem_singleton→aQ,nil_append→aT,tail_cons→bS,takeWhile_append_dropWhile→bZ
open Nat renaming beq→aJ,le_add_right→cU,le_refl→aw,mod_lt→ep,mul_add→cM,mul_one→dD,zero_add→a6,zero_le→dO
open Option renaming bind_eq_some_iff→bc,isSome_iff_exists→cB,isSome_none→bz,map_some→cn
open UInt8 renaming ofNat→ba,toNat_inj→dP
namespace Go.Proofs.Trees
open Go Go.VL
theorem dZ(l:List E):(E.bm l).length=l.length:=by
 induction l with
 |nil=>rfl
 |cons e l ih=>simp[E.bm,ih]
def eT(b:UInt8):Bool:=decide ((97<=b.toNat/\b.toNat<=122)\/(48<=b.toNat/\b.toNat<=57)\/b.toNat=43\/b.toNat=42)
def rP(f:List UInt8->Option (E×List UInt8)):Nat->List UInt8->List E->Option (E×List UInt8)
 |0,_,_=>none
 |
  n+1,s,acc=>match f s with
  |some (p,c::r)=>if c.toNat=41 then some (.list (acc++[p]),r)else if c.toNat=32 then rP f n r (acc++[p])else none
  |_=>none
def rd:Nat->List UInt8->Option (E×List UInt8)
 |0,s=>if s.takeWhile eT=[]then none else some (.atom (s.takeWhile eT),s.dropWhile eT)
 |k+1,s=>if s.takeWhile eT=[]then(match s with
  |c::r=>if c.toNat=40 then rP (rd k) (r.length+1) r []else none
  |[]=>none)else some (.atom (s.takeWhile eT),s.dropWhile eT)
theorem Au{f:List UInt8->Option (E×List UInt8)}(hf:∀s e r,f s=some (e,r)->r.length<s.length):∀(n:Nat) (s:List UInt8) (acc:List E) (e:E) (r:List UInt8),rP f n s acc=some (e,r)->r.length<s.length
 |0,s,acc,e,r,h=>by cases h
 |
  n+1,s,acc,e,r,h=>by
  simp only[rP]at h
  split at h
  ·rename_i p c r' hs
   have:=hf _ _ _ hs
   simp only[au]at this
   split at h
   ·cases h;omega
   ·split at h
    ·have:=Au hf n _ _ _ _ h;omega
    ·cases h
  ·cases h
theorem oj{s:List UInt8}(h:¬s.takeWhile eT=[]):(s.dropWhile eT).length<s.length:=by
 have h1:=congrArg List.length (bZ (p:=eT) (l:=s))
 simp only[ap]at h1
 have:0<(s.takeWhile eT).length:=List.length_pos_iff.2 h
 omega
theorem xg:∀(k:Nat) (s:List UInt8) (e:E) (r:List UInt8),rd k s=some (e,r)->r.length<s.length
 |
  0,s,e,r,h=>by
  simp only[rd]at h
  split at h
  ·cases h
  ·rename_i hn;cases h;exact oj hn
 |
  k+1,s,e,r,h=>by
  simp only[rd]at h
  split at h
  ·split at h
   ·split at h
    ·have:=Au (xg k) _ _ _ _ _ h
     simp only[au];omega
    ·cases h
   ·cases h
  ·rename_i hn;cases h;exact oj hn
theorem Qf(b:UInt8):an Tryz.prog 183 [.v (.int .u8 (b.toNat:Int))] [] (bH (.v (.bool (eT b)))):=by
 refine OV _ ?_
 simp only[I9,↓zq,zs,ae,bH,eT]
 repeat' (apply aH<;>intro _)
 all_goals first|(congr 2;rw[cw];simp;omega)|(congr 2;simp;omega)
theorem yk{s:List UInt8}{i:Nat}(hi:i<s.length)(hb:eT (s.getD i 0)=true):((s.drop i).takeWhile eT).length=((s.drop (i+1)).takeWhile eT).length+1:=by
 have e:s.drop i=s.getD i 0::s.drop (i+1):=by
  rw[aU hi];simp[aa,hi]
 rw[e,List.takeWhile_cons_of_pos hb];simp
theorem qk{s:List UInt8}{i:Nat}(hi:i<s.length)(hb:eT (s.getD i 0)=false):(s.drop i).takeWhile eT=[]:=by
 have e:s.drop i=s.getD i 0::s.drop (i+1):=by
  rw[aU hi];simp[aa,hi]
 rw[e,List.takeWhile_cons_of_neg (by rw[hb];simp)]
theorem GJ(s:List UInt8)(hs:s.length<=8000)(d:Int):∀(k i:Nat),i+k=s.length->EI [.v (.string (mk s)),.v (.int .i64 d),.v (.int .i64 (i:Int))] [] (jq 1 [.v (.string (mk s)),.v (.int .i64 d),.v (.int .i64 ((i+((s.drop i).takeWhile eT).length:Nat):Int))] [])
 |
  0,i,hi=>by
  refine Lc _ _ _ ?_
  have hd:s.drop i=[]:=bM (by omega)
  simp only[EM,↓zq,zs,ae,zt]
  exact⟨fun h=>by omega,fun _=>by simp[jq,hd]⟩
 |
  k+1,i,hi=>by
  have hlt:i<s.length:=by omega
  refine Lc _ _ _ ?_
  simp only[EM,↓zq,zs,ae,zt,lP s i hlt]
  refine⟨fun _=>⟨by omega,?_⟩,fun h=>by omega⟩
  refine ai (Qf _) ?_
  simp only[↓zq,zs,ae]
  refine⟨fun hb=>?_,fun hb=>?_⟩
  ·rw[bN i (by omega)]
   have:=GJ s hs d k (i+1) (by omega)
   rw[yk hlt hb,show i+(((s.drop (i+1)).takeWhile eT).length+1)=i+1+((s.drop (i+1)).takeWhile eT).length by omega]
   exact this
  ·simp[jq,qk hlt hb]
def oq(s:List UInt8):Option (E×List UInt8)->AV
 |some (e,r)=>.cA [e.cr,.v (.string (mk r))]
 |none=>.cA [.v (.pointer none),.v (.string (mk s))]
theorem cO(e:E):LK.has .ptr e.cr=True:=by cases e<;>simp[E.cr,bU]
theorem ei(e:E):e.cr.isNil=false:=by cases e<;>rfl
theorem s7(s:List UInt8):s.take (s.takeWhile eT).length=s.takeWhile eT:=by
 have h:=bZ (p:=eT) (l:=s)
 have:(s.takeWhile eT++s.dropWhile eT).take (s.takeWhile eT).length=s.takeWhile eT:=List.take_left
 rw[h]at this;exact this
theorem xz(s:List UInt8):s.drop (s.takeWhile eT).length=s.dropWhile eT:=by
 have h:=bZ (p:=eT) (l:=s)
 have:(s.takeWhile eT++s.dropWhile eT).drop (s.takeWhile eT).length=s.dropWhile eT:=List.drop_left
 rw[h]at this;exact this
theorem Bm(c:UInt8)(r:List UInt8):(List.take (r.length+1) (c::r)).drop (bA 1)=r:=by simp
theorem Hp(s0:List UInt8)(k:Nat)(hk:k<300)(ih:∀s,s.length<=8000->an Tryz.prog 160 [.v (.string (mk s)),.v (.int .i64 ((300-k:Nat):Int))] [] (bH (oq s (rd k s)))) :
 ∀(n:Nat) (s:List UInt8) (acc:List E),s.length<n->s.length+acc.length<=8000->Gj [.v (.string (mk s0)),.v (.int .i64 ((300-(k+1):Nat):Int)),.v (.string (mk s))] [.cells [.v (.string (mk [])),.any],.vec 1 (E.lV acc)]
  (ou (match rP (rd k) n s acc with|some (e,r)=>(2,[e.cr,.v (.string (mk r))],[])|none=>(2,[.v (.pointer none),.v (.string (mk s0))],[])))
 |0,s,acc,hn,_=>by omega
 |
  n+1,s,acc,hn,hl=>by
  refine Na _ _ _ _ _ ?_
  simp only[IC,↓zq,zs,ae,zC]
  have hd:IntKind.wrap .i64 (((300-(k+1):Nat):Int)+1)=((300-k:Nat):Int):=by rw[wrap64]<;>omega
  rw[hd]
  refine ai (ih s (by omega)) ?_
  have hlt:=xg k s
  cases hr:rd k s with
  |
   none =>
   simp only[oq,↓zq,zs,ae,rP,hr]
   simp[ou]
  |
   some q =>
   obtain⟨e,r⟩:=q
   have:=hlt e r hr
   cases r with
   |
    nil =>
    simp only[oq,↓zq,zs,ae,zt,rP,hr,cO,ei]
    simp[ou]
   |
    cons c r =>
    simp only[au]at this
    have hb:=lP (c::r) 0 (by simp)
    simp only[cL,dh]at hb
    have e2:(List.take (c::r).length (c::r)).drop 1=r:=by simp
    simp only[oq,↓zq,zs,ae,zt,rP,hr,cO,ei,hb,e2,rz]
    refine⟨fun h=>(by cases h),fun _=>⟨fun h=>(by cases h),fun _=>⟨⟨fun c hc=>(by simp at hc;rw[hc];rfl),by omega⟩,by omega,by omega,fun h41=>?_,fun h41=>⟨by omega,fun h32=>?_,fun h32=>?_⟩⟩⟩⟩
    ·have h41':c.toNat=41:=by omega
     rw[Bm,if_pos h41']
     simp[ou,E.cr,uL,E.lV]
    ·have h41':¬c.toNat=41:=by omega
     have h32':¬c.toNat=32:=by omega
     rw[if_neg h41',if_neg h32']
    ·have h41':¬c.toNat=41:=by omega
     have h32':c.toNat=32:=by omega
     rw[Bm,if_neg h41',if_pos h32']
     have:=Hp s0 k hk ih n r (acc++[e]) (by omega) (by simp;omega)
     simpa[uL,E.lV]using this
theorem PA:∀(k:Nat),k<=300->∀s:List UInt8,s.length<=8000->an Tryz.prog 160 [.v (.string (mk s)),.v (.int .i64 ((300-k:Nat):Int))] [] (bH (oq s (rd k s))):=by
 intro k
 induction k with
 |
  zero =>
  intro hk s hs
  refine JT _ _ ?_
  unfold GP
  refine cR (GJ s hs _ s.length 0 (by omega)) ?_
  simp only[↓zq,zs,ae,zt,a6,bH]
  have hw:(s.takeWhile eT).length<=s.length:=by
   have:=congrArg List.length (bZ (p:=eT) (l:=s))
   simp only[ap]at this;omega
  refine⟨fun h=>⟨by omega,by omega,?_⟩,fun h=>?_⟩
  ·have hne:¬s.takeWhile eT=[]:=fun e=>by rw[e]at h;simp at h
   simp only[rd,if_neg hne,oq,E.cr,s7,xz]
  ·have hnil:s.takeWhile eT=[]:=bJ (by omega)
   simp only[rd,if_pos hnil,oq]
   refine⟨fun _=>trivial,fun hne=>⟨?_,?_⟩⟩
   ·cases s with
    |nil=>exact absurd rfl hne
    |cons c s=>simp
   ·exact⟨fun _=>trivial,fun _=>⟨fun _=>trivial,fun h=>absurd rfl h⟩⟩
 |
  succ k ih =>
  intro hk s hs
  refine JT _ _ ?_
  unfold GP
  refine cR (GJ s hs _ s.length 0 (by omega)) ?_
  simp only[↓zq,zs,ae,zt,a6,bH]
  have hw:(s.takeWhile eT).length<=s.length:=by
   have:=congrArg List.length (bZ (p:=eT) (l:=s))
   simp only[ap]at this;omega
  refine⟨fun h=>⟨by omega,by omega,?_⟩,fun h=>?_⟩
  ·have hne:¬s.takeWhile eT=[]:=fun e=>by rw[e]at h;simp at h
   simp only[rd,if_neg hne,oq,E.cr,s7,xz]
  ·have hnil:s.takeWhile eT=[]:=bJ (by omega)
   simp only[rd,if_pos hnil]
   cases s with
   |nil=>simp[oq]
   |
    cons c s =>
    have hb:=lP (c::s) 0 (by simp)
    simp only[cL,dh]at hb
    simp only[au]at hs
    simp only[↓zq,zs,ae,hb,Bm]
    refine⟨fun h=>(by cases h),fun _=>⟨by omega,fun h40=>?_,fun h40=>⟨fun h300=>?_,fun h300=>⟨by omega,?_⟩⟩⟩⟩
    ·have:¬c.toNat=40:=by omega
     rw[if_neg this];rfl
    ·omega
    ·have h40':c.toNat=40:=by omega
     rw[if_pos h40']
     refine fq (Hp (c::s) k (by omega) (ih (by omega)) (s.length+1) s [] (by omega) (by simp;omega)) (fun ys o e=>?_) (fun ys o e=>?_)
     ·split at e<;>cases e
     ·split at e<;>cases e
      ·rename_i e' r' hr
       simp only[↓zq,zs,ae,cO]
       simp only[hr,oq]
      ·rename_i hr
       simp only[↓zq,zs,ae]
       simp only[hr,oq]
end Go.Proofs.Trees
namespace Go.Proofs.Trees
open Go Go.VL
mutual
def E.sz:E->Nat
 | .atom _=>1
 | .list l=>1+E.iX l
def E.iX:List E->Nat
 |[]=>0
 |e::l=>e.sz+E.iX l
end
mutual
def E.ok:E->Prop
 | .atom s=>s≠[]
 | .list l=>E.Di l
def E.Di:List E->Prop
 |[]=>True
 |e::l=>e.ok/\E.Di l
end
theorem xS(l r:List E):E.iX (l++r)=E.iX l+E.iX r:=by
 induction l with
 |nil=>simp[E.iX]
 |cons e l ih=>simp[E.iX,ih];omega
theorem xj(l r:List E):E.Di (l++r)↔E.Di l/\E.Di r:=by
 induction l with
 |nil=>simp[E.Di]
 |cons e l ih=>simp[E.Di,ih,and_assoc]
theorem zN{f:List UInt8->Option (E×List UInt8)}(hf:∀s e r,f s=some (e,r)->e.ok/\e.sz+r.length<=s.length):∀(n:Nat) (s:List UInt8) (acc:List E) (e:E) (r:List UInt8),rP f n s acc=some (e,r)->E.Di acc->e.ok/\e.sz+r.length<=s.length+1+E.iX acc
 |0,s,acc,e,r,h,_=>by cases h
 |
  n+1,s,acc,e,r,h,ha=>by
  simp only[rP]at h
  split at h
  ·rename_i p c r' hs
   obtain⟨h1,h2⟩:=hf _ _ _ hs
   simp only[au]at h2
   split at h
   ·cases h
    refine⟨(xj _ _).2 ⟨ha,h1,trivial⟩,?_⟩
    simp only[E.sz,xS,E.iX];omega
   ·split at h
    ·have:=zN hf n _ _ _ _ h ((xj _ _).2 ⟨ha,h1,trivial⟩)
     refine⟨this.1,?_⟩
     have h3:=this.2
     simp only[xS,E.iX]at h3;omega
    ·cases h
  ·cases h
theorem tH(s:List UInt8):(s.takeWhile eT).length+(s.dropWhile eT).length=s.length:=by
 have:=congrArg List.length (bZ (p:=eT) (l:=s))
 simpa only[ap]using this
theorem DL:∀(k:Nat) (s:List UInt8) (e:E) (r:List UInt8),rd k s=some (e,r)->e.ok/\e.sz+r.length<=s.length
 |
  0,s,e,r,h=>by
  simp only[rd]at h
  split at h
  ·cases h
  ·rename_i hn;cases h
   have:=tH s
   have:0<(s.takeWhile eT).length:=List.length_pos_iff.2 hn
   exact⟨hn,by simp only[E.sz];omega⟩
 |
  k+1,s,e,r,h=>by
  simp only[rd]at h
  split at h
  ·split at h
   ·split at h
    ·have:=zN (DL k) _ _ _ _ _ h trivial
     refine⟨this.1,?_⟩
     have h3:=this.2
     simp only[E.iX,au]at h3 |-;omega
    ·cases h
   ·cases h
  ·rename_i hn;cases h
   have:=tH s
   have:0<(s.takeWhile eT).length:=List.length_pos_iff.2 hn
   exact⟨hn,by simp only[E.sz];omega⟩
def qb(s:List UInt8):Option E:=if s.length>8000 then none else match rd 300 s with|some (e,[])=>some e|_=>none
theorem nn{s:List UInt8}{e:E}(h:qb s=some e):e.ok/\e.sz<=8000:=by
 unfold qb at h
 split at h
 ·cases h
 ·split at h
  ·rename_i e' hr
   cases h
   have:=DL _ _ _ _ hr
   exact⟨this.1,by have:=this.2;simp at this;omega⟩
  ·cases h
def sZ:Option E->AV
 |some e=>e.cr
 |none=>.v (.pointer none)
theorem J9(s:List UInt8):an Tryz.prog 128 [.v (.string (mk s))] [] (bH (sZ (qb s))):=by
 refine NW _ ?_
 simp only[Iu,↓zq,zs,ae,zt,bH,qb]
 refine⟨fun h=>?_,fun h=>?_⟩
 ·rw[if_pos (by omega)];simp[sZ]
 ·rw[if_neg (by omega)]
  refine ai (PA 300 (by omega) s (by omega)) ?_
  cases hr:rd 300 s with
  |
   none =>
   simp only[oq,↓zq,zs,ae,zt,sZ]
   refine⟨fun _=>trivial,fun _=>trivial⟩
  |
   some q =>
   obtain⟨e,r⟩:=q
   cases r with
   |nil=>simp only[oq,↓zq,zs,ae,zt,sZ,cO];simp
   |cons c r=>simp only[oq,↓zq,zs,ae,zt,sZ,cO];simp
def gT(b:UInt8):Bool:=decide (48<=b.toNat/\b.toNat<=57)
def named(lo hi:Nat):List UInt8->Bool
 |[]=>false
 |c::r=>decide (r.length<=2)&&decide (lo<=c.toNat/\c.toNat<=hi)&&r.all gT
def io(s:List UInt8):Bool:=named 120 122 s
def dz(s:List UInt8):Bool:=named 116 116 s
def DS(v lo hi:Int):Bool:=decide (lo<=v/\v<=hi)
theorem Dc(v lo hi:Int):an Tryz.prog 56 [.v (.int .i64 v),.v (.int .i64 lo),.v (.int .i64 hi)] [] (bH (.v (.bool (DS v lo hi)))):=by
 refine Ok _ _ _ ?_
 simp only[K6,↓zq,zs,ae,bH,DS]
 constructor<;>intro h<;>simp at h<;>simp[h]
 omega
theorem HO(s:List UInt8)(hs:s.length<=3):∀(k i:Nat),i+k=s.length->Fg [.v (.string (mk s)),.v (.int .i64 (i:Int))] [] (ou (if(s.drop i).all gT=true then(1,[],[])else(2,[.v (.bool false)],[])))
 |
  0,i,hi=>by
  have hd:s.drop i=[]:=bM (by omega)
  refine Hq _ _ ?_
  simp only[Fl,↓zq,zs,ae,zt]
  exact⟨fun h=>by omega,fun _=>by simp[ou,hd]⟩
 |
  k+1,i,hi=>by
  have hlt:i<s.length:=by omega
  have e:s.drop i=s.getD i 0::s.drop (i+1):=by
   rw[aU hlt];simp[aa,hlt]
  refine Hq _ _ ?_
  simp only[Fl,↓zq,zs,ae,zt,lP s i hlt,e,cT]
  generalize hb:s.getD i 0=b
  refine⟨fun _=>⟨by omega,fun h=>?_,fun h=>⟨by omega,fun h2=>?_,fun h2=>?_⟩⟩,fun h=>by omega⟩
  ·have:gT b=false:=by simp[gT];omega
   simp only[this,zf,ou]
  ·have:gT b=false:=by simp[gT];omega
   simp only[this,zf,ou]
  ·have:gT b=true:=by simp[gT];omega
   rw[bN i (by omega),this,cm]
   exact HO s hs k (i+1) (by omega)
theorem Ho(s:List UInt8)(lo hi:Nat):an Tryz.prog 170 [.v (.string (mk s)),.v (.int .u8 (lo:Int)),.v (.int .u8 (hi:Int))] [] (bH (.v (.bool (named lo hi s)))):=by
 refine O3 _ _ _ ?_
 unfold KN
 rw[cD]
 refine ai (Dc _ _ _) ?_
 simp only[↓zq,zs,ae,zt,bH]
 refine⟨fun h=>?_,fun h=>?_⟩
 ·cases s with
  |nil=>rfl
  |
   cons c s =>
   simp[DS]at h
   have:¬s.length<=2:=by omega
   simp[named,this]
 ·cases s with
  |nil=>simp[DS]at h
  |
   cons c s =>
   simp[DS]at h
   have hl:s.length<=2:=by omega
   have hb:=lP (c::s) 0 (by simp)
   simp only[cL,dh]at hb
   simp only[↓zq,zs,ae,hb]
   refine⟨by omega,fun h1=>?_,fun h1=>⟨by omega,fun h2=>?_,fun h2=>?_⟩⟩
   ·have:¬lo<=c.toNat:=by omega
    simp[named,this]
   ·have:¬c.toNat<=hi:=by omega
    simp[named,this]
   ·refine fq (HO (c::s) (by simp;omega) s.length 1 (by simp;omega)) (fun ys o e=>?_) (fun ys o e=>?_)
    ·split at e<;>cases e
     rename_i ha
     simp at ha
     simp only[↓zq,zs,ae]
     simp[named,hl]
     exact⟨⟨by omega,by omega⟩,fun x hx=>by simpa using ha x hx⟩
    ·split at e<;>cases e
     rename_i ha
     simp only[↓zq,zs,ae]
     have:s.all gT=false:=by simpa using ha
     simp[named,this]
theorem GC(s:List UInt8):an Tryz.prog 155 [.v (.string (mk s))] [] (bH (.v (.bool (io s)))):=by
 refine M9 _ ?_
 unfold LJ
 refine ai (Ho s 120 122) ?_
 simp only[↓zq,zs,ae,bH,io]
theorem GN(s:List UInt8):an Tryz.prog 138 [.v (.string (mk s))] [] (bH (.v (.bool (dz s)))):=by
 refine PM _ ?_
 unfold Mt
 refine ai (Ho s 116 116) ?_
 simp only[↓zq,zs,ae,bH,dz]
end Go.Proofs.Trees
namespace Go.Proofs.Trees
open Go Go.VL Go.RowKit
theorem ND(l:List UInt8)(c:UInt8):an Tryz.prog 195 [.v (.string (mk l)),.v (.string (mk [c]))] [] (bH (.v (.bool (decide (0<=Lib.indexByte l c))))):=by
 refine an.QB (xs:=[.string (mk l),.string (mk [c])]) ⟨mS,by kernel_rfl,by kernel_rfl,by kernel_rfl⟩ fun w=>?_
 have:=Any.strings_Contains_one Tryz.Dl (mk l) c w
 refine Calls.mono this fun e w' ⟨h1,h2⟩=>?_
 rw[h2]
 have hd:(mk l).data.toList=l:=by simp[mk]
 exact⟨by rw[h1,hd],Below.refl _ _⟩
theorem Kp(l cs:List UInt8)(hl:l.length<=1000000)(hc:cs.length<=1000)(ha:∀b,b∈cs->b.toNat<128):an Tryz.prog 184 [.v (.string (mk l)),.v (.string (mk cs))] [] (bH (.v (.string (mk (Lib.trimS l cs))))):=by
 refine an.QB (xs:=[.string (mk l),.string (mk cs)]) ⟨pT,by kernel_rfl,by kernel_rfl,by kernel_rfl⟩ fun w=>?_
 have:=Any.strings_Trim_laid Tryz.CM (by kernel_rfl) (mk l) (mk cs) w (by rw[cD];omega) (by rw[cD];omega) (fun j b hj=>ha b (by
  have:(mk cs).data.toList=cs:=by simp[mk]
  rw[this]at hj
  exact List.mem_of_getElem? hj))
 refine Calls.mono this fun e w' ⟨h1,h2⟩=>⟨?_,h2⟩
 rw[h1]
 simp[mk]
theorem mU:∀(l:List UInt8) (c:UInt8),(0<=Lib.indexByte l c↔c∈l)/\-1<=Lib.indexByte l c
 |[],c=>by simp[Lib.indexByte]
 |
  b::l,c=>by
  obtain⟨h1,h2⟩:=mU l c
  unfold Lib.indexByte
  by_cases e:b=c
  ·subst e;simp
  ·have e':(b==c)=false:=by simp[e]
   rw[e']
   by_cases q:Lib.indexByte l c = -1
   ·have:c∉l:=fun h=>by have:=h1.2 h;omega
    simp[q,this,Ne.symm e]
   ·have q':(Lib.indexByte l c==-1)=false:=by simp[q]
    simp only[q',Bool.false_eq_true,if_false,aI]
    constructor
    ·constructor
     ·intro h;exact .inr (h1.1 (by omega))
     ·intro h
      rcases h with h|h
      ·exact absurd h.symm e
      ·have:=h1.2 h;omega
    ·omega
theorem dropWhile_nil{p:UInt8->Bool}:∀(l:List UInt8),l.dropWhile p=[]↔l.all p=true
 |[]=>by simp
 |
  b::l=>by
  cases h:p b with
  |true=>rw[List.dropWhile_cons_of_pos h,dropWhile_nil l];simp[h]
  |false=>rw[List.dropWhile_cons_of_neg (by rw[h];simp)];simp[h]
theorem sr(l cs:List UInt8):Lib.trimS l cs=[]↔l.all (cs.contains ·)=true:=by
 unfold Lib.trimS Lib.trimLeftS
 rw[dropWhile_nil]
 unfold Lib.trimRightS
 constructor
 ·intro h
  by_cases hn:l.reverse.dropWhile (cs.contains ·)=[]
  ·rw[dropWhile_nil]at hn
   simpa using hn
  ·exfalso
   rw[List.all_reverse]at h
   obtain⟨b,r,e⟩:=List.exists_cons_of_ne_nil hn
   have h1:cs.contains b=false:=by
    have:=List.head_dropWhile_not (p:=(cs.contains ·)) (l:=l.reverse) hn
    simp only[e,List.head_cons]at this
    exact this
   rw[e]at h
   simp only[cT,aq]at h
   rw[h1]at h;cases h.1
 ·intro h
  have:l.reverse.dropWhile (cs.contains ·)=[]:=by rw[dropWhile_nil];simpa using h
  rw[this];rfl
def F2:List UInt8:=[48,49,50,51,52,53,54,55,56,57]
theorem uK(b:UInt8):F2.contains b=gT b:=by
 have:∀n:Fin 256,F2.contains (ba n.val)=gT (ba n.val):=by decide +kernel
 have:=this ⟨b.toNat,b.toNat_lt⟩
 simpa using this
theorem Hu(s ls:List UInt8)(lo hi:Nat)(hls:∀c:UInt8,c∈ls↔lo<=c.toNat/\c.toNat<=hi):an Tryz.prog 182 [.v (.string (mk s)),.v (.string (mk ls))] [] (bH (.v (.bool (named lo hi s)))):=by
 refine N8 _ _ ?_
 simp only[L9,↓zq,zs,ae,zt,bH]
 cases s with
 |nil=>exact⟨fun h=>by simp at h,fun _=>rfl⟩
 |
  cons c s =>
  have e1:(List.take (bA 1) (c::s))=[c]:=rfl
  have e2:(List.take (s.length+1) (c::s)).drop (bA 1)=s:=by simp
  simp only[au,e1,e2]
  refine⟨fun _=>⟨fun h3=>⟨by omega,?_⟩,fun h3=>?_⟩,fun h=>by omega⟩
  ·have hl:s.length<=2:=by omega
   refine ai (ND ls c) ?_
   simp only[↓zq,zs,ae]
   have hi1:=(mU ls c).1
   refine⟨fun h=>⟨by omega,?_⟩,fun h=>?_⟩
   ·refine ai (Kp s F2 (by omega) (by decide) (by decide)) ?_
    simp only[↓zq,zs,ae,zt]
    have hc:=(hls c).1 (hi1.1 h)
    congr 2
    rw[cw,beq_iff_eq,sr]
    simp only[named,hl,hc,decide_true,cm,and_self]
    have:(fun x=>F2.contains x)=gT:=funext uK
    rw[this]
   ·have hc:¬(lo<=c.toNat/\c.toNat<=hi):=fun h'=>h (hi1.2 ((hls c).2 h'))
    simp only[named,hc,zf]
  ·have hl:¬s.length<=2:=by omega
   simp only[named,hl,zf]
theorem Mi(s:List UInt8):an Tryz.prog 173 [.v (.string (mk s))] [] (bH (.v (.bool (io s)))):=by
 refine OH _ ?_
 unfold Is
 have h:∀n:Fin 256,(ba n.val∈[(120:UInt8),121,122])↔120<=(ba n.val).toNat/\(ba n.val).toNat<=122:=by decide +kernel
 refine ai (Hu s [120,121,122] 120 122 fun c=>by simpa using h ⟨c.toNat,c.toNat_lt⟩) ?_
 simp only[↓zq,zs,ae,bH,io]
theorem Dw(s:List UInt8):an Tryz.prog 159 [.v (.string (mk s))] [] (bH (.v (.bool (dz s)))):=by
 refine Qj _ ?_
 unfold IN
 have h:∀n:Fin 256,(ba n.val∈[(116:UInt8)])↔116<=(ba n.val).toNat/\(ba n.val).toNat<=116:=by decide +kernel
 refine ai (Hu s [116] 116 116 fun c=>by simpa using h ⟨c.toNat,c.toNat_lt⟩) ?_
 simp only[↓zq,zs,ae,bH,dz]
end Go.Proofs.Trees
namespace Go.Proofs.Trees
open Go Go.VL
inductive Ty where
 |zero|one
 |name (s:List UInt8)
 |bP (up:Nat)
 |plus (a b:Ty)
 |times (a b:Ty)
 |rc (a:Ty)
def Ty.av:Ty->AV
 | .zero=>.ptr [.v (.int .u8 48),.v (.string (mk [])),.v (.int .i64 0),.v (.pointer none),.v (.pointer none)]
 | .one=>.ptr [.v (.int .u8 49),.v (.string (mk [])),.v (.int .i64 0),.v (.pointer none),.v (.pointer none)]
 | .name s=>.ptr [.v (.int .u8 110),.v (.string (mk s)),.v (.int .i64 0),.v (.pointer none),.v (.pointer none)]
 | .bP up=>.ptr [.v (.int .u8 98),.v (.string (mk [])),.v (.int .i64 (up:Int)),.v (.pointer none),.v (.pointer none)]
 | .plus a b=>.ptr [.v (.int .u8 43),.v (.string (mk [])),.v (.int .i64 0),a.av,b.av]
 | .times a b=>.ptr [.v (.int .u8 42),.v (.string (mk [])),.v (.int .i64 0),a.av,b.av]
 | .rc a=>.ptr [.v (.int .u8 114),.v (.string (mk [])),.v (.int .i64 0),a.av,.v (.pointer none)]
theorem aE(t:Ty):LK.has .ptr t.av=True:=by cases t<;>simp[Ty.av,bU]
theorem fB(t:Ty):t.av.isNil=false:=by cases t<;>rfl
def gS:Option Ty->AV
 |some t=>t.av
 |none=>.v (.pointer none)
theorem hJ(t:Option Ty):LK.has .ptr (gS t)=True:=by cases t<;>simp[gS,aE,gV]
def E.at:E->List UInt8
 | .atom s=>s
 | .list _=>[]
def cc(s:List UInt8)(ar:List (List UInt8)):Nat->Option Nat
 |0=>none
 |i+1=>if ar.getD i []=s then some (ar.length-1-i)else cc s ar i
def cZ:E->List (List UInt8)->Option Ty
 | .atom s,ar=>if s=[48]then some .zero else if s=[49]then some .one else if io s=true then some (.name s)else if dz s=true then(match cc s ar ar.length with|some u=>some (.bP u)|none=>some (.name s))else none
 |
  .list [x,a,b],ar =>
  if x.at=[43]then(match cZ a ar,cZ b ar with|some t,some u=>some (.plus t u)|_,_=>none)
  else if x.at=[42]then(match cZ a ar,cZ b ar with|some t,some u=>some (.times t u)|_,_=>none)
  else if x.at=[114,101,99]then(if dz a.at=true then(match cZ b (ar++[a.at])with|some t=>some (.rc t)|none=>none)else none)
  else none
 | .list _,_=>none
def bT(l:List (List UInt8)):List (List AV):=l.map fun s=>[.v (.string (mk s))]
def cu(a:AV)(l:List (List UInt8)):Prop:=LK.sl.has a/\a.aN=bT l
theorem cu.len{a:AV}{l:List (List UInt8)}(h:cu a l):a.aN.length=l.length:=by rw[h.2];simp[bT]
theorem cu.idx{a:AV}{l:List (List UInt8)}(h:cu a l){i:Nat}(hi:i<l.length):a.aN.getD i []=[.v (.string (mk (l.getD i [])))]:=by
 rw[h.2];simp[bT,aa,hi]
theorem cu.of(l:List (List UInt8)):cu (.sl (bT l)) l:=⟨(cg _).mpr trivial,rfl⟩
theorem cu.nil:cu (.v (.slice none 0 0)) []:=⟨(bi).mpr trivial,rfl⟩
theorem xF(e:E)(w:List UInt8):an Tryz.prog 162 [e.cr,.v (.string (mk w)),.v (.int .i64 3)] [] (bH (.v (.bool (match e with| .list [x,_,_]=>x.at==w|_=>false)))):=by
 refine HD _ _ _ ((cO e).mpr trivial) ?_
 cases e with
 |atom s=>simp only[AZ,E.cr,↓zq,zs,ae,zt,bH];exact⟨by omega,fun h=>by omega,fun _=>trivial⟩
 |
  list l =>
  simp only[AZ,E.cr,↓zq,zs,ae,zt,bH,rz]
  match l with
  |[]=>exact⟨by simp,fun h=>by simp at h,fun _=>rfl⟩
  |[_]=>exact⟨by simp,fun h=>by simp at h,fun _=>rfl⟩
  |[_,_]=>exact⟨by simp,fun h=>by simp at h,fun _=>rfl⟩
  |
   [x,y,z] =>
   refine⟨by simp,fun _=>?_,fun h=>by simp at h⟩
   cases x<;>simp[E.lV,E.cr,bU,oX,jt,ej,tQ,toList_mk,E.at]
  |_::_::_::_::l=>exact⟨by simp,fun h=>by simp at h;omega,fun _=>rfl⟩
theorem Hj(e:E)(a:AV)(ar:List (List UInt8))(ha:cu a ar)(hl:ar.length<1000000):∀(i:Nat),i<=ar.length->EC [e.cr,a,.v (.int .i64 ((i:Int)-1))] []
 (ou (match cc e.at ar i with|some u=>(2,[],[.cells [.v (.int .u8 98),.v (.string (mk [])),.v (.int .i64 (u:Int)),.v (.pointer none),.v (.pointer none)]])|none=>(1,[e.cr],[])))
 |
  0,hi=>by
  refine Jo _ _ _ ?_
  simp only[Ef,↓zq,zs,ae,cO]
  exact⟨ha.1,fun h=>by omega,fun _=>rfl⟩
 |
  i+1,hi=>by
  have hlt:i<ar.length:=by omega
  have e1:((i+1:Nat):Int)-1=(i:Int):=by omega
  rw[e1]
  refine Jo _ _ _ ?_
  have hd:e.cr.deref.headD .any=.v (.string (mk e.at)):=by cases e<;>rfl
  have hdl:1<=e.cr.deref.length:=by cases e<;>simp[E.cr,jt]
  simp only[Ef,↓zq,zs,ae,zt,cO,ei,ha.len,ha.idx hlt,hd,qZ]
  refine⟨ha.1,fun _=>⟨⟨ha.1,by omega,by omega⟩,by omega,hdl,fun h=>⟨ha.1,?_⟩,fun h=>?_⟩,fun h=>by omega⟩
  ·simp only[cc,h,if_true,ou]
   rw[wrap64 ((ar.length:Int)-1) (by omega) (by omega),wrap64 _ (by omega) (by omega)]
   have:(ar.length:Int)-1-(i:Int)=((ar.length-1-i:Nat):Int):=by omega
   rw[this]
  ·simp only[cc,h,if_false]
   rw[wrap64 _ (by omega) (by omega)]
   exact Hj e a ar ha hl i (by omega)
end Go.Proofs.Trees
namespace Go.Proofs.Trees
open Go Go.VL
theorem nq(e:E):e.cr.deref.headD .any=.v (.string (mk e.at)):=by cases e<;>rfl
theorem kT(e:E):1<=e.cr.deref.length:=by cases e<;>simp[E.cr,jt]
theorem toNat_one:bA 1=1:=rfl
theorem bo:bA 2=2:=rfl
theorem GR{ar:List (List UInt8)}(s:List UInt8):bT ar++[[.v (.string (mk s))]]=bT (ar++[s]):=by simp[bT]
theorem jW(ar:List (List UInt8)):cV 1 (bT ar):=fun c hc=>by
 obtain⟨s,_,rfl⟩:=ci.1 hc;rfl
theorem kB{x a b:E}(ar:List (List UInt8))(hx:x.at=[43]):cZ (.list [x,a,b]) ar=match cZ a ar,cZ b ar with|some t,some u=>some (.plus t u)|_,_=>none:=by rw[cZ,if_pos hx]<;>cases cZ a ar<;>cases cZ b ar<;>rfl
theorem jv{x a b:E}(ar:List (List UInt8))(hx:x.at=[42]):cZ (.list [x,a,b]) ar=match cZ a ar,cZ b ar with|some t,some u=>some (.times t u)|_,_=>none:=by rw[cZ,if_neg (by rw[hx];decide),if_pos hx]<;>cases cZ a ar<;>cases cZ b ar<;>rfl
theorem mr{x a b:E}(ar:List (List UInt8))(hx:x.at=[114,101,99]):cZ (.list [x,a,b]) ar=if dz a.at=true then(match cZ b (ar++[a.at])with|some t=>some (.rc t)|none=>none)else none:=by rw[cZ,if_neg (by rw[hx];decide),if_neg (by rw[hx];decide),if_pos hx]<;>cases cZ b (ar++[a.at])<;>rfl
theorem jm{x a b:E}(ar:List (List UInt8))(h1:x.at≠[43])(h2:x.at≠[42])(h3:x.at≠[114,101,99]):cZ (.list [x,a,b]) ar=none:=by rw[cZ,if_neg h1,if_neg h2,if_neg h3]
theorem Dg:∀(e:E) (ar:List (List UInt8)) (a:AV),e.ok->cu a ar->ar.length+e.sz<100000->an Tryz.prog 144 [e.cr,a] [] (bH (gS (cZ e ar)))
 |
  .atom s,ar,a,hok,ha,hl=>by
  simp only[E.sz]at hl
  refine Jt _ _ ((cO _).mpr trivial) ha.1 ?_
  have hd:=nq (.atom s)
  have hlen:=kT (.atom s)
  simp only[E.at]at hd
  simp only[G5,↓zq,zs,ae,zt,bH,cO,ei,hd,cZ]
  refine⟨hlen,fun h=>⟨hlen,?_,?_⟩,fun h=>⟨hlen,fun h1=>⟨hlen,?_,?_⟩,fun h1=>⟨hlen,?_⟩⟩⟩
  ·rw[h];decide
  ·rw[if_pos h,h];rfl
  ·rw[h1];decide
  ·rw[if_neg h,if_pos h1,h1];rfl
  ·rw[if_neg h,if_neg h1]
   refine ai (Mi s) ?_
   simp only[↓zq,zs,ae]
   refine⟨fun hp=>⟨hlen,?_⟩,fun hp=>⟨hlen,?_⟩⟩
   ·rw[if_pos hp];rfl
   ·rw[if_neg (by rw[hp];simp)]
    refine ai (Dw s) ?_
    simp only[↓zq,zs,ae,ha.len]
    refine⟨fun hq=>⟨ha.1,?_⟩,fun hq=>?_⟩
    ·rw[if_pos hq,wrap64 _ (by omega) (by omega)]
     refine fq (Hj (.atom s) a ar ha (by omega) ar.length (by omega)) (fun ys o e=>?_) (fun ys o e=>?_)
     ·simp only[E.at]at e
      cases hq2:cc s ar ar.length<;>rw[hq2]at e<;>cases e
      simp only[↓zq,zs,ae,zt,cO,ei,hd]
      exact⟨hlen,rfl⟩
     ·simp only[E.at]at e
      cases hq2:cc s ar ar.length<;>rw[hq2]at e<;>cases e
      simp only[↓zq,zs,ae,zt,LK.has]
      simp[gS,Ty.av,ae,LK.has]
    ·rw[if_neg (by rw[hq];simp)]
     refine ai (xF (.atom s) [43]) ?_
     simp only[↓zq,zs,ae]
     refine⟨fun h=>(by simp at h),fun _=>?_⟩
     refine ai (xF (.atom s) [42]) ?_
     simp only[↓zq,zs,ae]
     refine⟨fun h=>(by simp at h),fun _=>?_⟩
     refine ai (xF (.atom s) [114,101,99]) ?_
     simp only[↓zq,zs,ae]
     refine⟨fun h=>(by simp at h),fun _=>?_⟩
     trivial
 |
  .list l,ar,a,hok,ha,hl=>by
  simp only[E.sz]at hl
  refine Jt _ _ ((cO _).mpr trivial) ha.1 ?_
  have hd:=nq (.list l)
  have hlen:=kT (.list l)
  simp only[E.at]at hd
  have hp:io []=false:=rfl
  have hq:dz []=false:=rfl
  simp only[G5,↓zq,zs,ae,zt,bH,cO,ei,hd]
  refine⟨hlen,fun h=>(by simp at h),fun h=>⟨hlen,fun h1=>(by simp at h1),fun h1=>⟨hlen,?_⟩⟩⟩
  refine ai (Mi []) ?_
  simp only[↓zq,zs,ae,hp]
  refine⟨fun h=>(by simp at h),fun _=>⟨hlen,?_⟩⟩
  refine ai (Dw []) ?_
  simp only[↓zq,zs,ae,hq]
  refine⟨fun h=>(by simp at h),fun _=>?_⟩
  refine ai (xF (.list l) [43]) ?_
  match l,hok,hl with
  |
   [x,y,z],hok,hl =>
   simp only[E.iX]at hl
   obtain⟨ok1,ok2,ok3,_⟩:=hok
   have iy:=Dg y ar a ok2 ha (by omega)
   have iz:=Dg z ar a ok3 ha (by omega)
   have hds:((E.list [x,y,z]).cr.deref.drop 1).headD .any=.sl [[x.cr],[y.cr],[z.cr]]:=rfl
   have hdl:1<=((E.list [x,y,z]).cr.deref.drop 1).length:=by simp[E.cr,jt]
   have hxd:=nq x
   have hxl:=kT x
   have hyd:=nq y
   have hyl:=kT y
   have bin:∀(c:UInt8) (mkT:Ty->Ty->Ty),(∀t u:Ty,(mkT t u).av=.ptr [.v (.int .u8 (c.toNat:Int)),.v (.string (mk [])),.v (.int .i64 0),t.av,u.av])->x.at=[c]->bt (mk x.at) 0=(c.toNat:Int):=fun c _ _ hx=>by
    have:=lP x.at 0 (by rw[hx];simp)
    simp only[cL,dh]at this
    rw[this,hx];rfl
   simp only[↓zq,zs,ae,zt,hds,hdl,cO,ei,toNat_one,bo,hxd,hyd,qZ]
   refine⟨fun hx=>?_,fun hx=>?_⟩
   ·refine⟨by omega,by omega,?_⟩
    refine ai iy ?_
    simp only[↓zq,zs,ae,hJ]
    refine⟨by omega,by omega,?_⟩
    refine ai iz ?_
    have hb:=bin 43 Ty.plus (fun _ _=>rfl) hx
    rw[kB ar hx]
    simp only[↓zq,zs,ae,zt,hJ]
    cases h1:cZ y ar with
    |none=>simp[gS,jp]
    |
     some t =>
     cases h2:cZ z ar with
     |none=>simp[gS,jp,fB]
     |
      some u =>
      simp only[gS,fB,hb]
      refine⟨fun h=>(by cases h),fun _=>⟨fun h=>(by cases h),fun _=>⟨by omega,by omega,hxl,⟨by omega,by rw[hx];simp⟩,rfl⟩⟩⟩
   ·refine ai (xF (.list [x,y,z]) [42]) ?_
    simp only[↓zq,zs,ae,hds,hdl,cO,ei,toNat_one,bo,hxd,hyd,qZ]
    refine⟨fun hx2=>?_,fun hx2=>?_⟩
    ·refine⟨by omega,by omega,?_⟩
     refine ai iy ?_
     simp only[↓zq,zs,ae,hJ]
     refine⟨by omega,by omega,?_⟩
     refine ai iz ?_
     have hb:=bin 42 Ty.times (fun _ _=>rfl) hx2
     rw[jv ar hx2]
     simp only[↓zq,zs,ae,zt,hJ]
     cases h1:cZ y ar with
     |none=>simp[gS,jp]
     |
      some t =>
      cases h2:cZ z ar with
      |none=>simp[gS,jp,fB]
      |
       some u =>
       simp only[gS,fB,hb]
       refine⟨fun h=>(by cases h),fun _=>⟨fun h=>(by cases h),fun _=>⟨by omega,by omega,hxl,⟨by omega,by rw[hx2];simp⟩,rfl⟩⟩⟩
    ·refine ai (xF (.list [x,y,z]) [114,101,99]) ?_
     simp only[↓zq,zs,ae,zt,hds,hdl,cO,ei,toNat_one,bo,hxd,hyd,qZ]
     refine⟨fun hx3=>⟨by omega,by omega,hyl,?_⟩,fun hx3=>?_⟩
     ·refine ai (Dw y.at) ?_
      rw[mr ar hx3]
      simp only[↓zq,zs,ae]
      have hal:cV 1 a.aN:=by rw[ha.2];exact jW ar
      have hal1:cV 1 [[AV.v (.string (mk y.at))]]:=fun c hc=>by simp at hc;rw[hc];rfl
      refine⟨fun hlo=>⟨by omega,by omega,⟨ha.1,hal,by rw[ha.len];omega⟩,by omega,by omega,hyl,⟨hal1,by rw[aT,ha.len];omega⟩,?_⟩,fun hlo=>?_⟩
      ·rw[aT,ha.2,GR,if_pos hlo]
       refine ai (Dg z (ar++[y.at]) _ ok3 (.of _) (by simp;omega)) ?_
       simp only[↓zq,zs,ae,hJ]
       cases h2:cZ z (ar++[y.at])with
       |none=>simp[gS,jp]
       |
        some u =>
        simp only[gS,fB]
        refine⟨fun h=>(by cases h),fun _=>rfl⟩
      ·rw[if_neg (by rw[hlo];simp)];rfl
     ·rw[jm ar hx hx2 hx3];rfl
  |
   [],_,_ =>
   simp only[↓zq,zs,ae]
   refine⟨fun h=>(by cases h),fun _=>?_⟩
   refine ai (xF (.list []) [42]) ?_
   simp only[↓zq,zs,ae]
   refine⟨fun h=>(by cases h),fun _=>?_⟩
   refine ai (xF (.list []) [114,101,99]) ?_
   simp only[↓zq,zs,ae]
   refine⟨fun h=>(by cases h),fun _=>?_⟩
   rfl
  |
   [x1],_,_ =>
   simp only[↓zq,zs,ae]
   refine⟨fun h=>(by cases h),fun _=>?_⟩
   refine ai (xF (.list [x1]) [42]) ?_
   simp only[↓zq,zs,ae]
   refine⟨fun h=>(by cases h),fun _=>?_⟩
   refine ai (xF (.list [x1]) [114,101,99]) ?_
   simp only[↓zq,zs,ae]
   refine⟨fun h=>(by cases h),fun _=>?_⟩
   rfl
  |
   [x1,x2],_,_ =>
   simp only[↓zq,zs,ae]
   refine⟨fun h=>(by cases h),fun _=>?_⟩
   refine ai (xF (.list [x1,x2]) [42]) ?_
   simp only[↓zq,zs,ae]
   refine⟨fun h=>(by cases h),fun _=>?_⟩
   refine ai (xF (.list [x1,x2]) [114,101,99]) ?_
   simp only[↓zq,zs,ae]
   refine⟨fun h=>(by cases h),fun _=>?_⟩
   rfl
  |
   x1::x2::x3::x4::l,_,_ =>
   simp only[↓zq,zs,ae]
   refine⟨fun h=>(by cases h),fun _=>?_⟩
   refine ai (xF (.list (x1::x2::x3::x4::l)) [42]) ?_
   simp only[↓zq,zs,ae]
   refine⟨fun h=>(by cases h),fun _=>?_⟩
   refine ai (xF (.list (x1::x2::x3::x4::l)) [114,101,99]) ?_
   simp only[↓zq,zs,ae]
   refine⟨fun h=>(by cases h),fun _=>?_⟩
   rfl
end Go.Proofs.Trees
namespace Go.Proofs.Trees
open Go Go.VL
def dm(v:AV)(obs:List Ob):AV->List Ob->Prop:=fun r o=>r=v/\o=obs
theorem aY{P:Program}{n:Nat}{Q:Nat->List AV->List Ob->Prop}{f:Nat}{xs:List AV}{ins:List Ob}{k:AV->List Ob->Tree}{v:AV}{obs:List Ob}(h:an P f xs ins (dm v obs))(hk:eQ P n (k v obs) Q):eQ P n (.call f xs ins k) Q :=
 ⟨dm v obs,h,⟨v,obs,rfl,rfl⟩,fun r o ⟨h1,h2⟩=>by rw[h1,h2];exact hk⟩
def Ty.aD:Ty->Nat
 | .plus a b=>1+a.aD+b.aD
 | .times a b=>1+a.aD+b.aD
 | .rc a=>2+a.aD
 |_=>1
theorem Dy:∀(t:Ty),t.aD<1000000->an Tryz.prog 145 [t.av] [] (bH (.v (.int .i64 (t.aD:Int))))
 | .zero,h=>by refine wP _ ((aE _).mpr trivial) ?_;simp[DE,Ty.av,↓zq,zs,ae,bH,Ty.aD]
 | .one,h=>by refine wP _ ((aE _).mpr trivial) ?_;simp[DE,Ty.av,↓zq,zs,ae,bH,Ty.aD]
 | .name s,h=>by refine wP _ ((aE _).mpr trivial) ?_;simp[DE,Ty.av,↓zq,zs,ae,bH,Ty.aD]
 | .bP u,h=>by refine wP _ ((aE _).mpr trivial) ?_;simp[DE,Ty.av,↓zq,zs,ae,bH,Ty.aD]
 |
  .plus a b,h=>by
  simp only[Ty.aD]at h
  refine wP _ ((aE _).mpr trivial) ?_
  simp only[DE,Ty.av,↓zq,zs,ae,aE]
  refine⟨by omega,fun _=>⟨by omega,?_⟩,fun h=>absurd rfl h⟩
  refine ai (Dy a (by omega)) ?_
  simp only[↓zq,zs,ae,aE]
  refine⟨by omega,?_⟩
  refine ai (Dy b (by omega)) ?_
  simp only[↓zq,zs,ae,bH,Ty.aD]
  rw[wrap64 (1+(a.aD:Int)) (by omega) (by omega),wrap64 _ (by omega) (by omega)]
  congr 2
 |
  .times a b,h=>by
  simp only[Ty.aD]at h
  refine wP _ ((aE _).mpr trivial) ?_
  simp only[DE,Ty.av,↓zq,zs,ae,aE]
  refine⟨by omega,fun h=>by omega,fun _=>⟨fun _=>⟨by omega,?_⟩,fun h=>absurd rfl h⟩⟩
  refine ai (Dy a (by omega)) ?_
  simp only[↓zq,zs,ae,aE]
  refine⟨by omega,?_⟩
  refine ai (Dy b (by omega)) ?_
  simp only[↓zq,zs,ae,bH,Ty.aD]
  rw[wrap64 (1+(a.aD:Int)) (by omega) (by omega),wrap64 _ (by omega) (by omega)]
  congr 2
 |
  .rc a,h=>by
  simp only[Ty.aD]at h
  refine wP _ ((aE _).mpr trivial) ?_
  simp only[DE,Ty.av,↓zq,zs,ae,aE]
  refine⟨by omega,fun h=>by omega,fun _=>⟨fun h=>by omega,fun _=>⟨fun _=>⟨by omega,?_⟩,fun h=>absurd rfl h⟩⟩⟩
  refine ai (Dy a (by omega)) ?_
  simp only[↓zq,zs,ae,bH,Ty.aD]
  rw[wrap64 _ (by omega) (by omega)]
  congr 2
theorem iC:∀(e:E) (ar:List (List UInt8)) (t:Ty),cZ e ar=some t->t.aD<=e.sz
 |
  .atom s,ar,t,h=>by
  simp only[cZ]at h
  simp only[E.sz]
  split at h
  ·cases h;simp[Ty.aD]
  ·split at h
   ·cases h;simp[Ty.aD]
   ·split at h
    ·cases h;simp[Ty.aD]
    ·split at h
     ·split at h<;>cases h<;>simp[Ty.aD]
     ·cases h
 |
  .list [x,a,b],ar,t,h=>by
  have hs:∀e:E,1<=e.sz:=fun e=>by cases e<;>simp[E.sz];try omega
  have hx:=hs x
  have ha:=hs a
  simp only[E.sz,E.iX]
  by_cases h1:x.at=[43]
  ·rw[kB ar h1]at h
   split at h
   ·rename_i t1 t2 e1 e2
    cases h
    have:=iC a ar t1 e1
    have:=iC b ar t2 e2
    simp only[Ty.aD];omega
   ·cases h
  ·by_cases h2:x.at=[42]
   ·rw[jv ar h2]at h
    split at h
    ·rename_i t1 t2 e1 e2
     cases h
     have:=iC a ar t1 e1
     have:=iC b ar t2 e2
     simp only[Ty.aD];omega
    ·cases h
   ·by_cases h3:x.at=[114,101,99]
    ·rw[mr ar h3]at h
     split at h
     ·split at h
      ·rename_i t1 e1
       cases h
       have:=iC b _ t1 e1
       simp only[Ty.aD];omega
      ·cases h
     ·cases h
    ·rw[jm ar h1 h2 h3]at h;cases h
 | .list [],_,_,h=>by cases h
 | .list [_],_,_,h=>by cases h
 | .list [_,_],_,_,h=>by cases h
 | .list (_::_::_::_::_),_,_,h=>by cases h
def qi(s:List UInt8):Option Ty:=match qb s with
 |none=>none
 |
  some e=>match cZ e []with
  |none=>none
  |some t=>if t.aD>400 then none else some t
theorem Ea(s:List UInt8):an Tryz.prog 108 [.v (.string (mk s))] [] (bH (gS (qi s))):=by
 refine OL _ ?_
 unfold Ie
 refine ai (J9 s) ?_
 unfold qi
 cases he:qb s with
 |none=>simp only[sZ,↓zq,zs,ae,bH,gS];simp
 |
  some e =>
  obtain⟨h1,h2⟩:=nn he
  simp only[sZ,↓zq,zs,ae,cO,ei]
  refine⟨fun h=>(by cases h),fun _=>?_⟩
  refine ai (Dg e [] _ h1 .nil (by simp;omega)) ?_
  cases ht:cZ e []with
  |none=>simp only[gS,↓zq,zs,ae,bH];simp
  |
   some t =>
   have:=iC e [] t ht
   simp only[gS,↓zq,zs,ae,aE,fB]
   refine⟨fun h=>(by cases h),fun _=>?_⟩
   refine ai (Dy t (by omega)) ?_
   simp only[↓zq,zs,ae,bH]
   refine⟨fun h=>?_,fun h=>?_⟩
   ·rw[if_pos (by omega)]
   ·rw[if_neg (by omega)]
end Go.Proofs.Trees
namespace Go.Proofs.Trees
open Go Go.VL
def A1(p:Prop):Nat->List AV->List Ob->Prop:=fun t ys o=>(t=1/\¬p/\ys=[]/\o=[])\/(t=2/\p/\∃j:Nat,ys=[.v (.int .i64 (j:Int))]/\o=[])
theorem Lv(l:List (List UInt8))(a:AV)(ha:cu a l)(s:List UInt8)(hl:l.length<1000000):∀(k i:Nat),i+k=l.length->s∉l.take i->F6 [a,.v (.string (mk s)),.v (.int .i64 (l.length:Int)),.v (.int .i64 (i:Int))] []
 (A1 (s∈l))
 |
  0,i,hi,hn=>by
  refine Iy _ _ _ _ ?_
  simp only[Gi,↓zq,zs,ae]
  have:l.take i=l:=List.take_of_length_le (by omega)
  rw[this]at hn
  exact⟨ha.1,fun h=>by omega,fun _=>.inl ⟨rfl,hn,rfl,rfl⟩⟩
 |
  k+1,i,hi,hn=>by
  have hlt:i<l.length:=by omega
  refine Iy _ _ _ _ ?_
  simp only[Gi,↓zq,zs,ae,zt,ha.len,ha.idx hlt]
  have hm:l.getD i []∈l:=by simp[aa,hlt]
  refine⟨ha.1,fun _=>⟨⟨ha.1,by omega,by omega⟩,by omega,fun h=>?_,fun h=>?_⟩,fun h=>by omega⟩
  ·exact .inr ⟨rfl,by rw[h];exact hm,i,rfl,rfl⟩
  ·rw[bN i (by omega)]
   refine Lv l a ha s hl k (i+1) (by omega) ?_
   rw[List.take_add_one]
   simp only[aM,not_or]
   refine⟨hn,?_⟩
   have:l[i]?=some (l.getD i []):=by simp[aa,hlt]
   rw[this];simpa using h
theorem LP(l:List (List UInt8))(a:AV)(ha:cu a l)(s:List UInt8)(hl:l.length<1000000):an Tryz.prog 177 [a,.v (.string (mk s))] [] (bH (.v (.bool (decide (s∈l))))):=by
 have hI:an Tryz.prog 194 [a,.v (.string (mk s))] [] (fun r o=>∃n:Int,r=.v (.int .i64 n)/\(0<=n↔s∈l)/\o=[]):=by
  refine MY _ _ ha.1 ?_
  simp only[Lr,↓zq,zs,ae,ha.len]
  refine⟨ha.1,mz (Lv l a ha s hl l.length 0 (by omega) (by simp)) ?_ ?_⟩
  ·rintro ys o (⟨_,h1,rfl,rfl⟩|⟨h,_⟩)
   ·simp only[↓zq,zs,ae]
    exact⟨-1,rfl,⟨fun h=>(by omega),fun h=>absurd h h1⟩⟩
   ·cases h
  ·rintro ys o (⟨h,_⟩|⟨_,h1,j,rfl,rfl⟩)
   ·cases h
   ·simp only[↓zq,zs,ae]
    exact⟨j,rfl,⟨fun _=>h1,fun _=>(by omega)⟩⟩
 refine Nd _ _ ha.1 ?_
 unfold H5
 refine aO hI ⟨.v (.int .i64 (if s∈l then 0 else -1)),[],_,rfl,by split<;>simp_all,rfl⟩ ?_
 rintro r o ⟨n,rfl,hn,rfl⟩
 simp only[↓zq,zs,ae,bH]
 congr 2
 rw[cw];simp[hn]
def ph(out:List (List UInt8)):Ty->List (List UInt8)
 | .name s=>if s∈out then out else out++[s]
 |_=>out
theorem E6(t:Ty)(out:List (List UInt8))(hl:out.length<100000):an Tryz.prog 181 [t.av,.ref 0 0] [.cells [.vec 1],.vec 1 (bT out)] (dm .any [.cells [.vec 1],.vec 1 (bT (ph out t))]):=by
 refine PJ _ _ ((aE _).mpr trivial) ?_
 have hlen:(bT out).length=out.length:=by simp[bT]
 cases t with
 |
  name s =>
  simp only[Fx,Ty.av,↓zq,zs,ae,dm,hlen]
  refine⟨by omega,fun _=>⟨by omega,?_⟩,fun h=>absurd rfl h⟩
  refine ai (LP out _ (.of out) s (by omega)) ?_
  simp only[↓zq,zs,ae,ph]
  refine⟨fun h=>⟨by omega,⟨fun c hc=>(by simp at hc;rw[hc];rfl),by omega⟩,?_⟩,fun h=>?_⟩
  ·rw[GR,if_neg h]
  ·rw[if_pos h]
 |_=>simp[Fx,Ty.av,↓zq,zs,ae,dm,ph]
def bG:Ty->List (List UInt8)->List (List UInt8)
 | .name s,out=>ph out (.name s)
 | .plus a b,out=>bG b (bG a out)
 | .times a b,out=>bG b (bG a out)
 | .rc a,out=>bG a out
 |_,out=>out
theorem eA:∀(t:Ty) (out:List (List UInt8)),(bG t out).length<=out.length+t.aD
 | .name s,out=>by simp only[bG,ph,Ty.aD];split<;>simp
 |
  .plus a b,out=>by
  have:=eA a out
  have:=eA b (bG a out)
  simp only[bG,Ty.aD];omega
 |
  .times a b,out=>by
  have:=eA a out
  have:=eA b (bG a out)
  simp only[bG,Ty.aD];omega
 |
  .rc a,out=>by
  have:=eA a out
  simp only[bG,Ty.aD];omega
 | .zero,out=>by simp[bG]
 | .one,out=>by simp[bG]
 | .bP u,out=>by simp[bG]
theorem yR:∀(t:Ty) (out:List (List UInt8)),out.length+t.aD<100000->an Tryz.prog 180 [t.av,.fn 181 [.ref 0 0]] [.cells [.vec 1],.vec 1 (bT out)] (dm .any [.cells [.vec 1],.vec 1 (bT (bG t out))])
 |
  .plus a b,out,hl=>by
  simp only[Ty.aD]at hl
  have:=eA a out
  refine wN _ _ ((aE _).mpr trivial) ?_
  unfold D0
  refine aY (E6 (.plus a b) out (by omega)) ?_
  simp only[Ty.av,↓zq,zs,ae,aE,fB,ph,aL,dm]
  refine⟨by omega,fun _=>⟨by omega,?_⟩,fun h=>(by cases h)⟩
  refine aY (yR a out (by omega)) ?_
  simp only[↓zq,zs,ae,aE,fB,aL]
  refine⟨by omega,fun _=>⟨by omega,?_⟩,fun h=>(by cases h)⟩
  refine aY (yR b (bG a out) (by omega)) ?_
  simp only[↓zq,zs,ae,aL,bG]
 |
  .times a b,out,hl=>by
  simp only[Ty.aD]at hl
  have:=eA a out
  refine wN _ _ ((aE _).mpr trivial) ?_
  unfold D0
  refine aY (E6 (.times a b) out (by omega)) ?_
  simp only[Ty.av,↓zq,zs,ae,aE,fB,ph,aL,dm]
  refine⟨by omega,fun _=>⟨by omega,?_⟩,fun h=>(by cases h)⟩
  refine aY (yR a out (by omega)) ?_
  simp only[↓zq,zs,ae,aE,fB,aL]
  refine⟨by omega,fun _=>⟨by omega,?_⟩,fun h=>(by cases h)⟩
  refine aY (yR b (bG a out) (by omega)) ?_
  simp only[↓zq,zs,ae,aL,bG]
 |
  .rc a,out,hl=>by
  simp only[Ty.aD]at hl
  refine wN _ _ ((aE _).mpr trivial) ?_
  unfold D0
  refine aY (E6 (.rc a) out (by omega)) ?_
  simp only[Ty.av,↓zq,zs,ae,aE,fB,ph,aL,dm]
  refine⟨by omega,fun _=>⟨by omega,?_⟩,fun h=>(by cases h)⟩
  refine aY (yR a out (by omega)) ?_
  simp[↓zq,zs,ae,aE,fB,aL,bG]
 |
  .name s,out,hl=>by
  refine wN _ _ ((aE _).mpr trivial) ?_
  unfold D0
  refine aY (E6 (.name s) out (by omega)) ?_
  simp[Ty.av,↓zq,zs,ae,aL,dm,bG]
 |
  .zero,out,hl=>by
  refine wN _ _ ((aE _).mpr trivial) ?_
  unfold D0
  refine aY (E6 .zero out (by omega)) ?_
  simp[Ty.av,↓zq,zs,ae,aL,dm,bG,ph]
 |
  .one,out,hl=>by
  refine wN _ _ ((aE _).mpr trivial) ?_
  unfold D0
  refine aY (E6 .one out (by omega)) ?_
  simp[Ty.av,↓zq,zs,ae,aL,dm,bG,ph]
 |
  .bP u,out,hl=>by
  refine wN _ _ ((aE _).mpr trivial) ?_
  unfold D0
  refine aY (E6 (.bP u) out (by omega)) ?_
  simp[Ty.av,↓zq,zs,ae,aL,dm,bG,ph]
theorem Lp(t:Ty)(hl:t.aD<100000):an Tryz.prog 158 [t.av] [] (bH (.sl (bT (bG t [])))):=by
 refine Pt _ ((aE _).mpr trivial) ?_
 unfold IW
 refine aY (yR t [] (by simpa using hl)) ?_
 simp[↓zq,zs,ae,aL,bH]
theorem Mg(l:List (List UInt8))(a:AV)(ha:cu a l)(hl:l.length<1000000):∀(k i:Nat),i+k=l.length->(∀s,s∈l.take i->dz s=false)->GQ [a,.v (.func (.func 159) #[] #[]),.v (.int .i64 (l.length:Int)),.v (.int .i64 (i:Int))] []
 (A1 (l.any dz=true))
 |
  0,i,hi,hn=>by
  refine JZ _ _ _ ?_
  simp only[F0,↓zq,zs,ae]
  have:l.take i=l:=List.take_of_length_le (by omega)
  rw[this]at hn
  exact⟨ha.1,fun h=>by omega,fun _=>.inl ⟨rfl,fun hh=>(by obtain⟨x,hx,hy⟩:=cf.1 hh;rw[hn x hx]at hy;cases hy),rfl,rfl⟩⟩
 |
  k+1,i,hi,hn=>by
  have hlt:i<l.length:=by omega
  refine JZ _ _ _ ?_
  simp only[F0,↓zq,zs,ae,zt,ha.len,ha.idx hlt]
  have hm:l.getD i []∈l:=by simp[aa,hlt]
  refine⟨ha.1,fun _=>⟨⟨ha.1,by omega,by omega⟩,by omega,?_⟩,fun h=>by omega⟩
  refine ai (Dw _) ?_
  simp only[↓zq,zs,ae]
  refine⟨fun h=>?_,fun h=>?_⟩
  ·exact .inr ⟨rfl,cf.2 ⟨_,hm,h⟩,i,rfl,rfl⟩
  ·rw[bN i (by omega)]
   refine Mg l a ha hl k (i+1) (by omega) ?_
   intro s hs
   rw[List.take_add_one]at hs
   have:l[i]?=some (l.getD i []):=by simp[aa,hlt]
   rw[this]at hs
   rcases aM.1 hs with hs|hs
   ·exact hn s hs
   ·simp at hs;rw[hs];simpa using h
theorem MN(l:List (List UInt8))(a:AV)(ha:cu a l)(hl:l.length<1000000):an Tryz.prog 157 [a,.v (.func (.func 159) #[] #[])] [] (bH (.v (.bool (l.any dz)))):=by
 have hI:an Tryz.prog 179 [a,.v (.func (.func 159) #[] #[])] [] (fun r o=>∃n:Int,r=.v (.int .i64 n)/\(0<=n↔l.any dz=true)/\o=[]):=by
  refine Oh _ ha.1 ?_
  simp only[Ms,↓zq,zs,ae,ha.len]
  refine⟨ha.1,mz (Mg l a ha hl l.length 0 (by omega) (by simp)) ?_ ?_⟩
  ·rintro ys o (⟨_,h1,rfl,rfl⟩|⟨h,_⟩)
   ·simp only[↓zq,zs,ae]
    exact⟨-1,rfl,⟨fun h=>(by omega),fun h=>absurd h h1⟩⟩
   ·cases h
  ·rintro ys o (⟨h,_⟩|⟨_,h1,j,rfl,rfl⟩)
   ·cases h
   ·simp only[↓zq,zs,ae]
    exact⟨j,rfl,⟨fun _=>h1,fun _=>(by omega)⟩⟩
 refine PS _ ha.1 ?_
 unfold Jd
 refine aO hI ⟨.v (.int .i64 (if l.any dz=true then 0 else -1)),[],_,rfl,by split<;>simp_all,rfl⟩ ?_
 rintro r o ⟨n,rfl,hn,rfl⟩
 simp only[↓zq,zs,ae,bH]
 congr 2
 rw[cw];simp only[decide_eq_true_eq,ge_iff_le,hn]
def Ty.closed(t:Ty):Bool:=!((bG t []).any dz)
theorem Om(t:Ty)(hl:t.aD<100000):an Tryz.prog 127 [t.av] [] (bH (.v (.bool t.closed))):=by
 refine Pr _ ((aE _).mpr trivial) ?_
 unfold Hm
 refine ai (Lp t hl) ?_
 simp only[↓zq,zs,ae]
 have:=eA t []
 refine ai (MN _ _ (.of _) (by simp at this;omega)) ?_
 simp only[↓zq,zs,ae,bH,Ty.closed]
def wE(s:List UInt8):Option Ty:=match qi s with
 |none=>none
 |some t=>if t.closed=true then some t else none
theorem sc{s:List UInt8}{t:Ty}(h:qi s=some t):t.aD<=400:=by
 unfold qi at h
 split at h
 ·cases h
 ·split at h
  ·cases h
  ·split at h<;>cases h
   omega
theorem KS(s:List UInt8):an Tryz.prog 93 [.v (.string (mk s))] [] (bH (gS (wE s))):=by
 refine NY _ ?_
 unfold L3
 refine ai (Ea s) ?_
 unfold wE
 cases ht:qi s with
 |none=>simp[gS,↓zq,zs,ae,bH]
 |
  some t =>
  have:=sc ht
  simp only[gS,↓zq,zs,ae,aE,fB]
  refine⟨fun h=>(by cases h),fun _=>?_⟩
  refine ai (Om t (by omega)) ?_
  simp only[↓zq,zs,ae,bH]
  refine⟨fun h=>?_,fun h=>?_⟩
  ·rw[if_neg (by rw[h];simp)]
  ·rw[if_pos h]
end Go.Proofs.Trees
namespace Go.Proofs.Trees
open Go Go.VL Go.RowKit
abbrev Nm:=List UInt8
def dI(u:Ty):Ty->Nat->Ty
 | .bP k,i=>if k=i then u else .bP k
 | .plus a b,i=>.plus (dI u a i) (dI u b i)
 | .times a b,i=>.times (dI u a i) (dI u b i)
 | .rc a,i=>.rc (dI u a (i+1))
 |t,_=>t
def sub(x:Nm)(u:Ty):Ty->Ty
 | .name s=>if s=x then u else .name s
 | .plus a b=>.plus (sub x u a) (sub x u b)
 | .times a b=>.times (sub x u a) (sub x u b)
 | .rc a=>.rc (sub x u a)
 |t=>t
def bh(x:Nm):Ty->Bool
 | .name s=>decide (s=x)
 | .plus a b=>bh x a||bh x b
 | .times a b=>bh x a||bh x b
 | .rc a=>bh x a
 |_=>false
def jr(f:Nm->Nm):Ty->Ty
 | .name s=>.name (f s)
 | .plus a b=>.plus (jr f a) (jr f b)
 | .times a b=>.times (jr f a) (jr f b)
 | .rc a=>.rc (jr f a)
 |t=>t
def JC(f:Nm->Nm):Prop:=∀x y,f x=f y->x=y
theorem lC(f:Nm->Nm)(x:Nm):∀(t:Ty) (i:Nat),jr f (dI (.name x) t i)=dI (.name (f x)) (jr f t) i
 | .bP k,i=>by simp only[dI,jr];split<;>rfl
 | .plus a b,i=>by simp only[dI,jr,lC f x a i,lC f x b i]
 | .times a b,i=>by simp only[dI,jr,lC f x a i,lC f x b i]
 | .rc a,i=>by simp only[dI,jr,lC f x a (i+1)]
 | .zero,i=>rfl
 | .one,i=>rfl
 | .name s,i=>rfl
theorem kZ{f:Nm->Nm}(hf:JC f)(x:Nm)(u:Ty):∀t:Ty,jr f (sub x u t)=sub (f x) (jr f u) (jr f t)
 |
  .name s=>by
  simp only[sub,jr]
  by_cases h:s=x
  ·subst h;simp
  ·rw[if_neg h,if_neg fun e=>h (hf _ _ e)];rfl
 | .plus a b=>by simp only[sub,jr,kZ hf x u a,kZ hf x u b]
 | .times a b=>by simp only[sub,jr,kZ hf x u a,kZ hf x u b]
 | .rc a=>by simp only[sub,jr,kZ hf x u a]
 | .zero=>rfl
 | .one=>rfl
 | .bP k=>rfl
theorem mL{f:Nm->Nm}(hf:JC f)(x:Nm):∀t:Ty,bh (f x) (jr f t)=bh x t
 | .name s=>by simp only[bh,jr];rw[cw];simp only[decide_eq_true_eq];exact⟨fun e=>hf _ _ e,fun e=>by rw[e]⟩
 | .plus a b=>by simp only[bh,jr,mL hf x a,mL hf x b]
 | .times a b=>by simp only[bh,jr,mL hf x a,mL hf x b]
 | .rc a=>by simp only[bh,jr,mL hf x a]
 | .zero=>rfl
 | .one=>rfl
 | .bP k=>rfl
theorem gO(f:Nm->Nm):∀t:Ty,(jr f t).aD=t.aD
 | .plus a b=>by simp only[Ty.aD,jr,gO f a,gO f b]
 | .times a b=>by simp only[Ty.aD,jr,gO f a,gO f b]
 | .rc a=>by simp only[Ty.aD,jr,gO f a]
 | .name s=>rfl
 | .zero=>rfl
 | .one=>rfl
 | .bP k=>rfl
theorem pd{f:Nm->Nm}:∀t:Ty,(∀x,bh x t=true->f x=x)->jr f t=t
 | .name s,h=>by simp only[jr];rw[h s (by simp[bh])]
 | .plus a b,h=>by simp only[jr];rw[pd a fun x hx=>h x (by simp[bh,hx]),pd b fun x hx=>h x (by simp[bh,hx])]
 | .times a b,h=>by simp only[jr];rw[pd a fun x hx=>h x (by simp[bh,hx]),pd b fun x hx=>h x (by simp[bh,hx])]
 | .rc a,h=>by simp only[jr];rw[pd a fun x hx=>h x hx]
 | .zero,_=>rfl
 | .one,_=>rfl
 | .bP k,_=>rfl
theorem fw(x:Nm):∀(t:Ty) (i:Nat),(dI (.name x) t i).aD=t.aD
 | .bP k,i=>by simp only[dI];split<;>rfl
 | .plus a b,i=>by simp only[dI,Ty.aD,fw x a i,fw x b i]
 | .times a b,i=>by simp only[dI,Ty.aD,fw x a i,fw x b i]
 | .rc a,i=>by simp only[dI,Ty.aD,fw x a (i+1)]
 | .zero,i=>rfl
 | .one,i=>rfl
 | .name s,i=>rfl
theorem ek(t:Ty):1<=t.aD:=by cases t<;>simp only[Ty.aD]<;>omega
theorem gP(x:Nm)(u:Ty):∀t:Ty,t.aD<=(sub x u t).aD
 | .name s=>by simp only[sub];split<;>simp only[Ty.aD];exact ek u;omega
 | .plus a b=>by have:=gP x u a;have:=gP x u b;simp only[sub,Ty.aD];omega
 | .times a b=>by have:=gP x u a;have:=gP x u b;simp only[sub,Ty.aD];omega
 | .rc a=>by have:=gP x u a;simp only[sub,Ty.aD];omega
 | .zero=>aw _
 | .one=>aw _
 | .bP k=>aw _
theorem gq{x y:Nm}:∀(t:Ty) (i:Nat),bh y (dI (.name x) t i)=true->y=x\/bh y t=true
 |
  .bP k,i,h=>by
  simp only[dI]at h
  split at h
  ·left;simp only[bh,decide_eq_true_eq]at h;exact h.symm
  ·cases h
 |
  .plus a b,i,h=>by
  simp only[dI,bh,bB]at h |-
  rcases h with h|h
  ·rcases gq a i h with h|h<;>simp[h]
  ·rcases gq b i h with h|h<;>simp[h]
 |
  .times a b,i,h=>by
  simp only[dI,bh,bB]at h |-
  rcases h with h|h
  ·rcases gq a i h with h|h<;>simp[h]
  ·rcases gq b i h with h|h<;>simp[h]
 | .rc a,i,h=>gq a (i+1) h
 | .zero,i,h=>by cases h
 | .one,i,h=>by cases h
 | .name s,i,h=>.inr h
theorem iM{x y:Nm}{u:Ty}:∀t:Ty,bh y (sub x u t)=true->bh y u=true\/(y≠x/\bh y t=true)
 |
  .name s,h=>by
  simp only[sub]at h
  split at h
  ·exact .inl h
  ·rename_i hs
   simp only[bh,decide_eq_true_eq]at h
   subst h
   exact .inr ⟨hs,by simp[bh]⟩
 |
  .plus a b,h=>by
  simp only[sub,bh,bB]at h |-
  rcases h with h|h
  ·rcases iM a h with h|h<;>simp[h]
  ·rcases iM b h with h|h<;>simp[h]
 |
  .times a b,h=>by
  simp only[sub,bh,bB]at h |-
  rcases h with h|h
  ·rcases iM a h with h|h<;>simp[h]
  ·rcases iM b h with h|h<;>simp[h]
 |
  .rc a,h=>by
  simp only[sub,bh]at h |-
  exact iM a h
 | .zero,h=>by cases h
 | .one,h=>by cases h
 | .bP k,h=>by cases h
def swp(x y:Nm):Nm->Nm:=fun s=>if s=x then y else if s=y then x else s
theorem xt(x y:Nm):JC (swp x y):=by
 intro a b h
 unfold swp at h
 by_cases h1:a=x<;>by_cases h2:a=y<;>by_cases h3:b=x<;>by_cases h4:b=y<;>simp_all
theorem vw(x y:Nm):swp x y x=y:=by simp[swp]
theorem BA{x y s:Nm}(h:s≠x)(h':s≠y):swp x y s=s:=by simp[swp,h,h']
theorem tW{x y:Nm}{t:Ty}(h:bh x t=false)(h':bh y t=false):jr (swp x y) t=t :=
 pd t fun z hz=>BA (fun e=>by subst e;rw[h]at hz;cases hz) (fun e=>by subst e;rw[h']at hz;cases hz)
def pg(a:Ty)(x:Nm)(c d:Ty):Ty:=.rc (.plus (sub x (.rc a) c) (.times (sub x (.rc a) d) (.bP 0)))
inductive Dv:Ty->Nm->Ty->Prop
 |zero (s):Dv .zero s .zero
 |one (s):Dv .one s .zero
 |bP (k s):Dv (.bP k) s .zero
 |hit (s):Dv (.name s) s .one
 |rj {n s} (h:n≠s):Dv (.name n) s .zero
 |plus {a b s a' b'} (h1:Dv a s a') (h2:Dv b s b') (hl:(Ty.plus a' b').aD<=400):Dv (.plus a b) s (.plus a' b')
 |times {a b s a' b'} (h1:Dv a s a') (h2:Dv b s b') (hl:(Ty.plus (.times a' b) (.times a b')).aD<=400):Dv (.times a b) s (.plus (.times a' b) (.times a b'))
 |rc {a s c d} (x:Nm) (hx:bh x a=false) (hs:x≠s) (h1:Dv (dI (.name x) a 0) s c) (h2:Dv (dI (.name x) a 0) x d) (hl:(pg a x c d).aD<=400):Dv (.rc a) s (pg a x c d)
theorem xf{f:Nm->Nm}(hf:JC f)(a:Ty)(x:Nm)(c d:Ty):jr f (pg a x c d)=pg (jr f a) (f x) (jr f c) (jr f d):=by
 simp only[pg,jr,kZ hf]
theorem Dv.jr{f:Nm->Nm}(hf:JC f){t d:Ty}{s:Nm}(h:Dv t s d):Dv (jr f t) (f s) (jr f d):=by
 induction h with
 |zero s=>exact .zero _
 |one s=>exact .one _
 |bP k s=>exact .bP _ _
 |hit s=>exact .hit _
 |rj h=>exact .rj fun e=>h (hf _ _ e)
 |plus h1 h2 hl i1 i2=>exact .plus i1 i2 (by rw[<-gO f]at hl;exact hl)
 |times h1 h2 hl i1 i2=>exact .times i1 i2 (by rw[<-gO f]at hl;exact hl)
 |
  rc x hx hs h1 h2 hl i1 i2 =>
  rw[xf hf]
  rw[lC]at i1 i2
  exact .rc (f x) (by rw[mL hf];exact hx) (fun e=>hs (hf _ _ e)) i1 i2 (by rw[<-xf hf,gO];exact hl)
theorem Dv.names{t d:Ty}{s:Nm}(h:Dv t s d):∀y,bh y d=true->bh y t=true:=by
 induction h with
 |zero s=>intro y hy;cases hy
 |one s=>intro y hy;cases hy
 |bP k s=>intro y hy;cases hy
 |hit s=>intro y hy;cases hy
 |rj h=>intro y hy;cases hy
 |
  plus h1 h2 hl i1 i2 =>
  intro y hy
  simp only[bh,bB]at hy |-
  rcases hy with hy|hy
  ·exact .inl (i1 y hy)
  ·exact .inr (i2 y hy)
 |
  times h1 h2 hl i1 i2 =>
  intro y hy
  simp only[bh,bB]at hy |-
  rcases hy with(hy|hy)|(hy|hy)
  ·exact .inl (i1 y hy)
  ·exact .inr hy
  ·exact .inl hy
  ·exact .inr (i2 y hy)
 |
  rc x hx hs h1 h2 hl i1 i2 =>
  intro y hy
  simp only[pg,bh,bB,Bool.or_false]at hy |-
  have key:∀{a c:Ty},(∀y,bh y c=true->bh y (dI (.name x) a 0)=true)->bh y (sub x (.rc a) c)=true->bh y a=true:=fun i h=>by
   rcases iM _ h with h|⟨h,h'⟩
   ·exact h
   ·rcases gq _ _ (i y h')with e|e
    ·exact absurd e h
    ·exact e
  rcases hy with hy|hy
  ·exact key i1 hy
  ·exact key i2 hy
theorem Dv.fresh{t d:Ty}{s y:Nm}(h:Dv t s d)(hy:bh y t=false):bh y d=false:=by
 cases e:bh y d with
 |false=>rfl
 |true=>rw[h.names y e]at hy;cases hy
theorem Dv.move{a c:Ty}{x y s:Nm}(hx:bh x a=false)(hy:bh y a=false)(h:Dv (dI (.name x) a 0) s c):Dv (dI (.name y) a 0) (swp x y s) (Go.Proofs.Trees.jr (swp x y) c):=by
 have:=h.jr (xt x y)
 rw[lC,vw,tW hx hy]at this
 exact this
theorem l4{a c:Ty}{x y s:Nm}(hx:bh x a=false)(hy:bh y a=false)(h:Dv (dI (.name x) a 0) s c):sub y (.rc a) (jr (swp x y) c)=sub x (.rc a) c:=by
 have e:=kZ (xt x y) x (.rc a) c
 rw[vw,tW (t:=.rc a) hx hy]at e
 rw[<-e]
 have key:∀z,(z=x\/z=y)->bh z (sub x (.rc a) c)=false:=fun z hz=>by
  cases q:bh z (sub x (.rc a) c)with
  |false=>rfl
  |
   true =>
   exfalso
   have hz':bh z a=false:=by rcases hz with rfl|rfl<;>assumption
   rcases iM _ q with h1|⟨h1,h2⟩
   ·rw[show bh z (.rc a)=bh z a from rfl,hz']at h1;cases h1
   ·rcases gq _ _ (h.names z h2)with e|e
    ·exact h1 e
    ·rw[hz']at e;cases e
 exact tW (key x (.inl rfl)) (key y (.inr rfl))
theorem Dv.wJ:∀(n:Nat) (t:Ty),t.aD<=n->∀{s:Nm} {d d':Ty},Dv t s d->Dv t s d'->d=d'
 |0,t,h,_,_,_,_,_=>by have:=ek t;omega
 |
  n+1,t,hn,s,d,d',h,h'=>by
  cases h with
  |zero=>cases h';rfl
  |one=>cases h';rfl
  |bP=>cases h';rfl
  |
   hit =>
   cases h' with
   |hit=>rfl
   |rj h=>exact absurd rfl h
  |
   rj h =>
   cases h' with
   |hit=>exact absurd rfl h
   |rj _=>rfl
  |
   plus h1 h2 =>
   simp only[Ty.aD]at hn
   cases h' with
   |plus g1 g2=>rw[Dv.wJ n _ (by omega) h1 g1,Dv.wJ n _ (by omega) h2 g2]
  |
   times h1 h2 =>
   simp only[Ty.aD]at hn
   cases h' with
   |times g1 g2=>rw[Dv.wJ n _ (by omega) h1 g1,Dv.wJ n _ (by omega) h2 g2]
  |
   rc x hx hs h1 h2 =>
   simp only[Ty.aD]at hn
   cases h' with
   |
    rc y hy hs' g1 g2 =>
    rename_i a _ _ _ _ _ _
    have m1:=h1.move hx hy
    have m2:=h2.move hx hy
    rw[BA (Ne.symm hs) (Ne.symm hs')]at m1
    rw[vw]at m2
    have e1:=Dv.wJ n _ (by rw[fw];omega) m1 g1
    have e2:=Dv.wJ n _ (by rw[fw];omega) m2 g2
    rw[pg,pg,<-e1,<-e2,l4 hx hy h1,l4 hx hy h2]
theorem Dv.small{t d:Ty}{s:Nm}(h:Dv t s d):d.aD<=400:=by
 cases h<;>first|assumption|simp[Ty.aD]
open Classical in
noncomputable def kN (t:Ty) (s:Nm):Option Ty:=if h:∃d,Dv t s d then some (Classical.choose h)else none
theorem cP{t:Ty}{s:Nm}{d:Ty}:kN t s=some d↔Dv t s d:=by
 unfold kN
 by_cases h:∃d,Dv t s d
 ·rw[dif_pos h]
  have:=Classical.choose_spec h
  constructor
  ·intro e;cases e;exact this
  ·intro g;rw[Dv.wJ _ t (aw _) this g]
 ·rw[dif_neg h]
  exact⟨fun e=>(by cases e),fun g=>absurd ⟨d,g⟩ h⟩
def mV(t:Ty):Option Ty:=if t.aD<=400 then some t else none
theorem e9{t d:Ty}:mV t=some d↔t.aD<=400/\t=d:=by
 unfold mV
 split
 ·rename_i h;simp[h]
 ·rename_i h;simp[h]
theorem qo{α:Type}{a b:Option α}(h:∀d,a=some d↔b=some d):a=b:=by
 cases a with
 |
  none=>cases b with
  |none=>rfl
  |some x=>have:=(h x).2 rfl;cases this
 |some x=>exact((h x).1 rfl).symm
theorem vj(s:Nm):kN .zero s=some .zero:=cP.2 (.zero _)
theorem xG(s:Nm):kN .one s=some .zero:=cP.2 (.one _)
theorem yS(k:Nat)(s:Nm):kN (.bP k) s=some .zero:=cP.2 (.bP _ _)
theorem nS(n s:Nm):kN (.name n) s=some (if n=s then .one else .zero):=by
 split
 ·rename_i h;subst h;exact cP.2 (.hit _)
 ·rename_i h;exact cP.2 (.rj h)
theorem uR(a b:Ty)(s:Nm):kN (.plus a b) s=(kN a s).bind fun a'=>(kN b s).bind fun b'=>mV (.plus a' b'):=by
 refine qo fun d=>?_
 rw[cP]
 simp only[bc,cP,e9]
 constructor
 ·intro h;cases h with|plus h1 h2 hl=>exact⟨_,h1,_,h2,hl,rfl⟩
 ·rintro⟨a',h1,b',h2,hl,rfl⟩;exact .plus h1 h2 hl
theorem sQ(a b:Ty)(s:Nm):kN (.times a b) s=(kN a s).bind fun a'=>(kN b s).bind fun b'=>mV (.plus (.times a' b) (.times a b')):=by
 refine qo fun d=>?_
 rw[cP]
 simp only[bc,cP,e9]
 constructor
 ·intro h;cases h with|times h1 h2 hl=>exact⟨_,h1,_,h2,hl,rfl⟩
 ·rintro⟨a',h1,b',h2,hl,rfl⟩;exact .times h1 h2 hl
theorem zM{a:Ty}{s x:Nm}(hx:bh x a=false)(hs:x≠s):kN (.rc a) s=(kN (dI (.name x) a 0) s).bind fun c=>(kN (dI (.name x) a 0) x).bind fun d=>mV (pg a x c d):=by
 refine qo fun d=>?_
 rw[cP]
 simp only[bc,cP,e9]
 constructor
 ·intro h
  cases h with
  |
   rc y hy hs' h1 h2 hl =>
   have m1:=h1.move hy hx
   have m2:=h2.move hy hx
   rw[BA (Ne.symm hs') (Ne.symm hs)]at m1
   rw[vw]at m2
   refine⟨_,m1,_,m2,?_⟩
   have e:∀c d,sub x (.rc a) (jr (swp y x) c)=sub y (.rc a) c->sub x (.rc a) (jr (swp y x) d)=sub y (.rc a) d->pg a x (jr (swp y x) c) (jr (swp y x) d)=pg a y c d:=fun c d e1 e2=>by rw[pg,pg,e1,e2]
   rw[e _ _ (l4 hy hx h1) (l4 hy hx h2)]
   exact⟨hl,rfl⟩
 ·rintro⟨c,h1,d',h2,hl,rfl⟩;exact .rc x hx hs h1 h2 hl
noncomputable def oJ (a:Ty) (x:Nm):Option Ty:=(kN (dI (.name x) a 0) x).bind fun d=>mV (sub x (.rc a) d)
theorem Gg{a:Ty}{x y:Nm}(hx:bh x a=false)(hy:bh y a=false):oJ a x=oJ a y:=by
 have key:∀{x y:Nm} {d:Ty},bh x a=false->bh y a=false->oJ a x=some d->oJ a y=some d:=fun {x y d} hx hy h=>by
  simp only[oJ,bc,cP,e9]at h |-
  obtain⟨d',h1,hl,rfl⟩:=h
  have m1:=h1.move hx hy
  rw[vw]at m1
  exact⟨_,m1,by rw[l4 hx hy h1];exact⟨hl,rfl⟩⟩
 exact qo fun d=>⟨key hx hy,key hy hx⟩
end Go.Proofs.Trees
namespace Go.Proofs.Trees
open Go Go.VL
theorem Qc(b:UInt8):an Tryz.prog 178 [.v (.int .u8 (b.toNat:Int))] [] (bH (.v (.bool (eT b)))):=by
 refine PP _ ?_
 simp only[IZ,↓zq,zs,ae,bH,eT]
 repeat' (apply aH<;>intro _)
 all_goals first|(congr 2;rw[cw];simp;omega)|(congr 2;simp;omega)
def C3(s:List UInt8)(x:Option (E×List UInt8)):AV->List Ob->Prop:=fun r o=>o=[] /\
 match x with
 |some (e,u)=>r=.cA [e.j5,.v (.int .i64 ((s.length-u.length:Nat):Int))]
 |none=>∃(c:List UInt8) (d:AV),LK.sl.has d/\r=.cA [.agg [.v (.string (mk c)),d],.v (.int .i64 (-1))]
theorem C3.ne(s:List UInt8)(x:Option (E×List UInt8)):∃r o,C3 s x r o:=by
 cases x with
 |some q=>exact⟨_,_,rfl,rfl⟩
 |none=>exact⟨_,_,rfl,[],.v (.slice none 0 0),(bi).mpr trivial,rfl⟩
def jc(c:List UInt8)(d:AV):Ob:=.cells [.v (.string (mk c)),d]
theorem J8(s:List UInt8)(hs:s.length<=8000)(from_:Int)(c1 c2:List UInt8)(d1 d2:AV)(h1:LK.sl.has d1)(h2:LK.sl.has d2):∀(k i:Nat),i+k=s.length->FE [.v (.string (mk s)),.v (.int .i64 (i:Int)),.v (.int .i64 from_)] [jc c1 d1,jc c2 d2]
 (jq 1 [.v (.string (mk s)),.v (.int .i64 ((i+((s.drop i).takeWhile eT).length:Nat):Int)),.v (.int .i64 from_)] [jc c1 d1,jc c2 d2])
 |
  0,i,hi=>by
  refine Jb _ _ _ _ _ _ _ ?_
  have hd:s.drop i=[]:=bM (by omega)
  simp only[G6,↓zq,zs,ae,zt]
  exact⟨h1,h2,fun h=>by omega,fun _=>by simp[jq,hd,jc]⟩
 |
  k+1,i,hi=>by
  have hlt:i<s.length:=by omega
  refine Jb _ _ _ _ _ _ _ ?_
  simp only[G6,↓zq,zs,ae,zt,lP s i hlt]
  refine⟨h1,h2,fun _=>⟨by omega,?_⟩,fun h=>by omega⟩
  refine ai (Qc _) ?_
  simp only[↓zq,zs,ae]
  refine⟨fun hb=>?_,fun hb=>?_⟩
  ·rw[bN i (by omega)]
   have:=J8 s hs from_ c1 c2 d1 d2 h1 h2 k (i+1) (by omega)
   rw[yk hlt hb,show i+(((s.drop (i+1)).takeWhile eT).length+1)=i+1+((s.drop (i+1)).takeWhile eT).length by omega]
   exact this
  ·simp[jq,qk hlt hb,jc]
def QX(s:List UInt8)(x:Option (E×List UInt8)):Nat->List AV->List Ob->Prop:=fun t ys o=>t=2 /\
 match x with
 |some (e,u)=>∃l,e=.list l/\ys=[.v (.int .i64 ((s.length-u.length:Nat):Int))]/\o=[jc [] .any,.vec 2 (E.bm l)]
 |none=>∃es,ys=[.v (.int .i64 (-1))]/\o=[jc [] .any,.vec 2 es]
theorem xb(e:E):(e.j5=.agg e.j5.cs/\e.j5.cs.length=2/\bw [.str,.sl] e.j5.cs 0)=True:=by
 apply eq_true
 cases e<;>simp[E.j5,E.gX,Ac,bw,ej,bi,cg]
theorem vJ(e:E):[AV.v (.string ((e.j5.cs.getD 0 .any).ah)),e.j5.cs.getD 1 .any]=e.gX:=by
 cases e<;>rfl
theorem drop_cons{s:List UInt8}{j:Nat}(hj:j<s.length):s.drop j=s.getD j 0::s.drop (j+1):=by
 rw[aU hj];simp[aa,hj]
theorem Ky(s:List UInt8)(hs:s.length<=8000)(d:Nat)(hd:d<=300)(f:List UInt8->Option (E×List UInt8))(hf:∀u e r,f u=some (e,r)->∃j,r=u.drop j/\0<j/\j<=u.length)
 (ih:∀j,j<=s.length->an Tryz.prog 152 [.v (.string (mk s)),.v (.int .i64 (j:Int)),.v (.int .i64 ((d+1:Nat):Int))] [] (C3 s (f (s.drop j)))) :
 ∀(n i:Nat) (acc:List E) (c1:List UInt8) (d1:AV),LK.sl.has d1->s.length-(i+1)<n->i<s.length->s.length-i+acc.length<=8001->Ha [.v (.string (mk s)),.v (.int .i64 (i:Int)),.v (.int .i64 (d:Int))] [jc c1 d1,jc [] .any,.vec 2 (E.bm acc)]
  (QX s (rP f n (s.drop (i+1)) acc))
 |0,i,acc,c1,d1,h1,hn,_,_=>by omega
 |
  n+1,i,acc,c1,d1,h1,hn,hi,hl=>by
  refine Pm _ _ _ _ _ _ _ ?_
  simp only[LY,↓zq,zs,ae,jc]
  refine⟨h1,?_⟩
  rw[bN i (by omega),bN d (by omega)]
  refine aO (ih (i+1) (by omega)) (C3.ne _ _) ?_
  rintro r o ⟨rfl,hr⟩
  have hff:=hf (s.drop (i+1))
  unfold rP
  cases hq:f (s.drop (i+1))with
  |
   none =>
   rw[hq]at hr
   obtain⟨c,d',hd',rfl⟩:=hr
   simp only[↓zq,zs,ae,zt,bw]
   refine⟨hd',fun _=>⟨rfl,_,rfl,rfl⟩,fun h=>by omega⟩
  |
   some q =>
   obtain⟨e,u⟩:=q
   rw[hq]at hr
   subst hr
   obtain⟨j,hu,hj0,hj⟩:=hff e u hq
   rw[List.drop_drop]at hu
   simp only[cj]at hj
   have hul:u.length=s.length-(i+1+j):=by rw[hu,cj]
   have hpos:s.length-u.length=i+1+j:=by omega
   simp only[↓zq,zs,ae,zt,xb,hpos,vJ,dZ]
   refine⟨fun h=>by omega,fun _=>⟨fun h=>?_,fun h=>⟨⟨fun c hc=>(by simp at hc;rw[hc];cases e<;>rfl),by omega⟩,?_⟩⟩⟩
   ·have:u=[]:=by rw[hu];exact bM (by omega)
    subst this
    exact⟨rfl,_,rfl,rfl⟩
   ·have hlt:i+1+j<s.length:=by omega
    rw[drop_cons hlt]at hu
    subst hu
    rw[lP s _ hlt]
    generalize hb:s.getD (i+1+j) 0=b
    refine⟨by omega,fun h41=>?_,fun h41=>⟨by omega,fun h32=>?_,fun h32=>?_⟩⟩
    ·have h41':b.toNat=41:=by omega
     dsimp only
     rw[if_pos h41',bN _ (by omega)]
     refine⟨rfl,acc++[e],rfl,?_,?_⟩
     ·rw[cj];congr 3;omega
     ·simp[jc,pF,E.bm]
    ·have h41':¬b.toNat=41:=by omega
     have h32':¬b.toNat=32:=by omega
     dsimp only
     rw[if_neg h41',if_neg h32']
     exact⟨rfl,_,rfl,rfl⟩
    ·have h41':¬b.toNat=41:=by omega
     have h32':b.toNat=32:=by omega
     dsimp only
     rw[if_neg h41',if_pos h32']
     have:=Ky s hs d hd f hf ih n (i+1+j) (acc++[e]) c1 d1 h1 (by omega) hlt (by simp;omega)
     simpa[jc,pF,E.bm]using this
theorem CZ(k:Nat)(u:List UInt8)(e:E)(r:List UInt8)(h:rd k u=some (e,r)):∃j,r=u.drop j/\0<j/\j<=u.length:=by
 have suf:∀(k:Nat) (u:List UInt8) (e:E) (r:List UInt8),rd k u=some (e,r)->r <:+ u:=by
  intro k
  have tw:∀u:List UInt8,u.dropWhile eT <:+ u:=fun u=>List.dropWhile_suffix _
  have ll:∀(f:List UInt8->Option (E×List UInt8)),(∀u e r,f u=some (e,r)->r <:+ u)->∀(n:Nat) (u:List UInt8) (acc:List E) (e:E) (r:List UInt8),rP f n u acc=some (e,r)->r <:+ u:=by
   intro f hf n
   induction n with
   |zero=>intro u acc e r h;cases h
   |
    succ n ih =>
    intro u acc e r h
    simp only[rP]at h
    split at h
    ·rename_i p c r' hs
     have h1:r' <:+ u:=(List.suffix_cons c r').trans (hf _ _ _ hs)
     split at h
     ·cases h;exact h1
     ·split at h
      ·exact(ih _ _ _ _ h).trans h1
      ·cases h
    ·cases h
  induction k with
  |
   zero =>
   intro u e r h
   simp only[rd]at h
   split at h
   ·cases h
   ·cases h;exact tw u
  |
   succ k ih =>
   intro u e r h
   simp only[rd]at h
   split at h
   ·split at h
    ·split at h
     ·exact(ll _ ih _ _ _ _ _ h).trans (List.suffix_cons _ _)
     ·cases h
    ·cases h
   ·cases h;exact tw u
 obtain⟨p,hp⟩:=suf k u e r h
 have hlt:=xg k u e r h
 have:=congrArg List.length hp
 simp only[ap]at this
 exact⟨p.length,by rw[<-hp];simp,by omega,by omega⟩
theorem AH(n:Nat)(u:List UInt8)(acc:List E):rP (fun _=>none) n u acc=none:=by
 cases n<;>rfl
theorem Nn(s:List UInt8)(j:Nat):an Tryz.prog 152 [.v (.string (mk s)),.v (.int .i64 (j:Int)),.v (.int .i64 ((300+1:Nat):Int))] [] (C3 s none):=by
 refine IF _ _ _ ?_
 simp only[F5,↓zq,zs,ae]
 exact⟨fun _=>⟨rfl,[],_,(bi).mpr trivial,rfl⟩,fun h=>by omega⟩
theorem py(s:List UInt8)(hs:s.length<=8000)(d i:Nat)(hd:d<=300)(hi:i<=s.length)(f:List UInt8->Option (E×List UInt8))(hf:∀u e r,f u=some (e,r)->∃j,r=u.drop j/\0<j/\j<=u.length)
 (ih:∀j,j<=s.length->an Tryz.prog 152 [.v (.string (mk s)),.v (.int .i64 (j:Int)),.v (.int .i64 ((d+1:Nat):Int))] [] (C3 s (f (s.drop j)))) (x:Option (E×List UInt8))
 (h0:i=s.length->x=none)
 (h1:i<s.length->(s.drop i).takeWhile eT≠[]->x=some (.atom ((s.drop i).takeWhile eT),(s.drop i).dropWhile eT))
 (h2:i<s.length->(s.drop i).takeWhile eT=[]->¬(s.getD i 0).toNat=40->x=none)
 (h3:i<s.length->(s.getD i 0).toNat=40->x=rP f (s.length-(i+1)+1) (s.drop (i+1)) []) :
 an Tryz.prog 152 [.v (.string (mk s)),.v (.int .i64 (i:Int)),.v (.int .i64 (d:Int))] [] (C3 s x):=by
 refine IF _ _ _ ?_
 simp only[F5,↓zq,zs,ae,zt]
 refine⟨fun h=>by omega,fun _=>⟨fun h=>?_,fun h=>⟨by omega,?_⟩⟩⟩
 ·rw[h0 (by omega)]
  exact⟨rfl,[],_,(bi).mpr trivial,rfl⟩
 ·have hlt:i<s.length:=by omega
  rw[lP s i hlt]
  refine⟨fun h40=>?_,fun h40=>?_⟩
  ·have h40':¬(s.getD i 0).toNat=40:=by omega
   refine cR (J8 s hs _ [] [] _ _ ((bi).mpr trivial) ((bi).mpr trivial) (s.length-i) i (by omega)) ?_
   have hex:(List.take (i+((s.drop i).takeWhile eT).length) s).drop i=(s.drop i).takeWhile eT:=by
    rw[List.drop_take,Nat.add_sub_cancel_left];exact s7 _
   have hle:i+((s.drop i).takeWhile eT).length<=s.length:=by
    have:=tH (s.drop i);simp only[cj]at this;omega
   simp only[jc,↓zq,zs,ae,zt,hex]
   refine⟨by omega,fun hnil=>?_,fun hnil=>?_⟩
   ·rw[h2 hlt hnil h40',hnil]
    exact⟨rfl,[],_,(bi).mpr trivial,rfl⟩
   ·rw[h1 hlt hnil]
    refine⟨rfl,?_⟩
    have:=tH (s.drop i)
    simp only[cj]at this
    show _=AV.cA [E.j5 (.atom _),_]
    have e:s.length-((s.drop i).dropWhile eT).length=i+((s.drop i).takeWhile eT).length:=by omega
    rw[e];rfl
  ·have h40':(s.getD i 0).toNat=40:=by omega
   rw[h3 hlt h40']
   refine mz (Ky s hs d hd f hf ih (s.length-(i+1)+1) i [] [] _ ((bi).mpr trivial) (by omega) hlt (by simp;omega)) ?_ ?_
   ·rintro ys o ⟨h,_⟩;cases h
   ·rintro ys o ⟨_,hr⟩
    cases hq:rP f (s.length-(i+1)+1) (s.drop (i+1)) []with
    |
     none =>
     rw[hq]at hr
     obtain⟨es,rfl,rfl⟩:=hr
     simp only[jc,↓zq,zs,ae]
     exact⟨rfl,[],_,(cg _).mpr trivial,rfl⟩
    |
     some q =>
     obtain⟨e,u⟩:=q
     rw[hq]at hr
     obtain⟨l,rfl,rfl,rfl⟩:=hr
     simp only[jc,↓zq,zs,ae]
     exact⟨rfl,rfl⟩
theorem Pz(s:List UInt8)(hs:s.length<=8000):∀(k:Nat),k<=300->∀i,i<=s.length->an Tryz.prog 152 [.v (.string (mk s)),.v (.int .i64 (i:Int)),.v (.int .i64 ((300-k:Nat):Int))] [] (C3 s (rd k (s.drop i))):=by
 intro k
 have hnil:∀k,rd k []=none:=fun k=>by cases k<;>simp[rd]
 have ha40:∀b:UInt8,b.toNat=40->eT b=false:=fun b hb=>by simp[eT,hb]
 induction k with
 |
  zero =>
  intro hk i hi
  refine py s hs 300 i (by omega) hi (fun _=>none) (fun _ _ _ h=>by cases h) (fun j _=>Nn s j) _ (fun h=>?_) (fun hlt h=>?_) (fun hlt h h40=>?_) (fun hlt h40=>?_)
  ·rw[bM (by omega)];exact hnil 0
  ·simp only[rd,if_neg h]
  ·simp only[rd,if_pos h]
  ·rw[AH]
   have:(s.drop i).takeWhile eT=[]:=qk hlt (ha40 _ h40)
   simp only[rd,if_pos this]
 |
  succ k ih =>
  intro hk i hi
  have hd:300-(k+1)+1=300-k:=by omega
  refine py s hs (300-(k+1)) i (by omega) hi (rd k) (CZ k) (fun j hj=>by rw[hd];exact ih (by omega) j hj) _ (fun h=>?_) (fun hlt h=>?_) (fun hlt h h40=>?_) (fun hlt h40=>?_)
  ·rw[bM (by omega)];exact hnil _
  ·simp only[rd,if_neg h]
  ·rw[drop_cons hlt]at h |-
   simp only[rd,if_pos h,if_neg h40]
  ·have h:=qk hlt (ha40 _ h40)
   rw[drop_cons hlt]at h |-
   simp only[rd,if_pos h,if_pos h40,cj]
end Go.Proofs.Trees
namespace Go.Proofs.Trees
open Go Go.VL
theorem iv(e:E):AV.agg [.v (.string ((e.gX.getD 0 .any).ah)),e.gX.getD 1 .any]=e.j5:=by cases e<;>rfl
theorem fW(e:E):e.gX.length=2:=by cases e<;>rfl
theorem iA(e:E):bw [.str,.sl] e.gX 0=True:=by
 apply eq_true
 cases e<;>simp[E.gX,bw,ej,bi,cg]
theorem lZ(e:E):e.gX.headD .any=.v (.string (mk e.at)):=by cases e<;>rfl
theorem um(x:E)(l:List E):an Tryz.prog 121 [.agg [.v (.string (mk [])),.sl (E.bm (x::l))]] [] (bH (.v (.string (mk x.at)))):=by
 refine Eh _ _ ((cg _).mpr trivial) ?_
 simp only[C6,E.bm,↓zq,zs,ae,zt,bH,fW,lZ,aw]
 refine⟨fun h=>absurd rfl h,fun _=>⟨fun h=>by omega,fun _=>⟨by omega,by omega⟩⟩⟩
theorem PB:an Tryz.prog 121 [.agg [.v (.string (mk [])),.sl (E.bm [])]] [] (bH (.v (.string (mk [])))):=by
 refine Eh _ _ ((cg _).mpr trivial) ?_
 simp only[C6,E.bm,↓zq,zs,ae,zt,bH,fW,lZ,aw]
 simp
def jE:E->Bool
 | .atom s=>(s==[48])||(s==[49])||io s||dz s
 | .list [x,a,b]=>if x.at=[43]then jE a&&jE b else if x.at=[42]then jE a&&jE b else if x.at=[114,101,99]then dz a.at&&jE b else false
 | .list _=>false
theorem yB:∀(e:E),e.ok->an Tryz.prog 165 [e.j5] [] (bH (.v (.bool (jE e))))
 |
  .atom s,hok=>by
  refine HA _ _ ((bi).mpr trivial) ?_
  have hne:s≠[]:=hok
  simp only[wt,↓zq,zs,ae,zt,bH,jE]
  refine⟨fun _=>⟨fun h=>?_,fun h=>⟨fun h1=>?_,fun h1=>?_⟩⟩,fun h=>absurd h hne⟩
  ·simp[h]
  ·simp[h1]
  ·refine ai (GC s) ?_
   simp only[↓zq,zs,ae]
   refine⟨fun hp=>?_,fun hp=>?_⟩
   ·simp[hp]
   ·refine ai (GN s) ?_
    simp[↓zq,zs,ae,hp,h,h1]
 |
  .list l,hok=>by
  refine HA _ _ ((cg _).mpr trivial) ?_
  match l,hok with
  |[],hok=>simp[wt,E.bm,↓zq,zs,ae,zt,bH,jE]
  |[x],hok=>simp[wt,E.bm,↓zq,zs,ae,zt,bH,jE]
  |[x,y],hok=>simp[wt,E.bm,↓zq,zs,ae,zt,bH,jE]
  |
   x::y::z::w::l,hok =>
   simp only[wt,E.bm,↓zq,zs,ae,zt,bH,jE]
   exact⟨fun h=>absurd rfl h,fun _=>⟨fun _=>trivial,fun h=>by omega⟩⟩
  |
   [x,y,z],hok =>
   obtain⟨ok1,ok2,ok3,_⟩:=hok
   simp only[wt,↓zq,zs,ae,zt,bH]
   refine⟨fun h=>absurd rfl h,fun _=>⟨fun h=>absurd rfl h,fun _=>?_⟩⟩
   refine ai (um x _) ?_
   simp only[E.bm,toNat_one,bo,↓zq,zs,ae,zt,iv,fW,iA,lZ,aw,jE]
   refine⟨fun h=>?_,fun h=>⟨fun h1=>?_,fun h1=>⟨fun h2=>?_,fun h2=>?_⟩⟩⟩
   ·rw[if_pos h]
    refine⟨by omega,ai (yB y ok2) ?_⟩
    simp only[↓zq,zs,ae]
    refine⟨fun hy=>⟨by omega,ai (yB z ok3) ?_⟩,fun hy=>?_⟩
    ·simp only[↓zq,zs,ae,hy,cm]
    ·rw[hy];rfl
   ·rw[if_neg h,if_pos h1]
    refine⟨by omega,ai (yB y ok2) ?_⟩
    simp only[↓zq,zs,ae]
    refine⟨fun hy=>⟨by omega,ai (yB z ok3) ?_⟩,fun hy=>?_⟩
    ·simp only[↓zq,zs,ae,hy,cm]
    ·rw[hy];rfl
   ·rw[if_neg h,if_neg h1,if_pos h2]
    refine⟨by omega,by omega,ai (GN _) ?_⟩
    simp only[↓zq,zs,ae]
    refine⟨fun hy=>⟨by omega,ai (yB z ok3) ?_⟩,fun hy=>?_⟩
    ·simp only[↓zq,zs,ae,hy,cm]
    ·rw[hy];rfl
   ·rw[if_neg h,if_neg h1,if_neg h2]
theorem iD:∀(e:E) (ar:List (List UInt8)),(cZ e ar).isSome=jE e
 |
  .atom s,ar=>by
  simp only[cZ,jE]
  by_cases h:s=[48]
  ·simp[h]
  ·by_cases h1:s=[49]
   ·simp[h1]
   ·rw[if_neg h,if_neg h1]
    by_cases h2:io s=true
    ·simp[h2]
    ·rw[if_neg h2]
     by_cases h3:dz s=true
     ·rw[if_pos h3];cases cc s ar ar.length<;>simp[h3]
     ·rw[if_neg h3];simp[h,h1,h2,h3]
 | .list [],_=>rfl
 | .list [_],_=>rfl
 | .list [_,_],_=>rfl
 | .list (_::_::_::_::_),_=>rfl
 |
  .list [x,a,b],ar=>by
  have ha:=iD a ar
  have hb:=iD b ar
  have hb2:=iD b (ar++[a.at])
  rw[jE]
  by_cases h:x.at=[43]
  ·rw[kB ar h,if_pos h,<-ha,<-hb];cases cZ a ar<;>cases cZ b ar<;>rfl
  ·by_cases h1:x.at=[42]
   ·rw[jv ar h1,if_neg h,if_pos h1,<-ha,<-hb];cases cZ a ar<;>cases cZ b ar<;>rfl
   ·by_cases h2:x.at=[114,101,99]
    ·rw[mr ar h2,if_neg h,if_neg h1,if_pos h2,<-hb2]
     cases dz a.at<;>cases cZ b (ar++[a.at])<;>rfl
    ·rw[jm ar h h1 h2,if_neg h,if_neg h1,if_neg h2];rfl
mutual
def E.cX:E->Nat
 | .atom _=>1
 | .list l=>E.eN l
def E.eN:List E->Nat
 |[]=>0
 |e::l=>e.cX+E.eN l
end
mutual
theorem iI:∀e:E,e.cX<=e.sz
 | .atom s=>by simp[E.cX,E.sz]
 | .list l=>by have:=s5 l;simp only[E.cX,E.sz];omega
theorem s5:∀l:List E,E.eN l<=E.iX l
 |[]=>by simp[E.eN,E.iX]
 |e::l=>by have:=iI e;have:=s5 l;simp only[E.eN,E.iX];omega
end
theorem jh:∀(l:List E) (i:Nat) (h:i<l.length),(E.bm l).getD i []=(l[i]).gX
 |e::l,0,_=>rfl
 |
  e::l,i+1,h=>by
  have:=jh l i (by simpa using h)
  simp only[E.bm,List.getD_cons_succ,List.getElem_cons_succ];exact this
theorem zc:∀(l:List E) (i:Nat) (h:i<l.length),E.eN (l.drop i)=(l[i]).cX+E.eN (l.drop (i+1)):=by
 intro l i h
 rw[aU h];rfl
theorem tz:∀(l:List E) (i:Nat) (h:i<l.length),E.Di l->(l[i]).ok
 |e::l,0,_,h=>h.1
 |e::l,i+1,hi,h=>tz l i (by simpa using hi) h.2
theorem LW(l:List E)(hl:E.eN l<1000000)(hll:l.length<1000000)(ih:∀i (h:i<l.length),an Tryz.prog 140 [(l[i]).j5] [] (bH (.v (.int .i64 ((l[i]).cX:Int))))) :
 ∀(k i n:Nat),i+k=l.length->n+E.eN (l.drop i)<=E.eN l->EB [.v (.int .i64 (n:Int)),.v (.int .i64 (i:Int))] [.cells [.v (.string (mk [])),.sl (E.bm l)]] (jq 1 [.v (.int .i64 ((n+E.eN (l.drop i):Nat):Int))] [])
 |
  0,i,n,hi,hn=>by
  refine Lb _ _ _ _ ?_
  simp only[FJ,↓zq,zs,ae,dZ]
  have:l.drop i=[]:=bM (by omega)
  refine⟨fun h=>by omega,fun _=>?_⟩
  simp[jq,this,E.eN]
 |
  k+1,i,n,hi,hn=>by
  have hlt:i<l.length:=by omega
  refine Lb _ _ _ _ ?_
  simp only[FJ,↓zq,zs,ae,zt,dZ,jh l i hlt,fW,iA,iv,aw]
  refine⟨fun _=>⟨by omega,?_⟩,fun h=>by omega⟩
  refine ai (ih i hlt) ?_
  have h1:=zc l i hlt
  simp only[↓zq,zs,ae]
  rw[bN i (by omega),wrap64 _ (by omega) (by omega)]
  have:=LW l hl hll ih k (i+1) (n+(l[i]).cX) (by omega) (by omega)
  rw[h1,<-Nat.add_assoc]
  simpa using this
theorem tJ:∀l:List E,l.length<=E.iX l
 |[]=>by simp[E.iX]
 |
  e::l=>by
  have:=tJ l
  have:1<=e.sz:=by cases e<;>simp[E.sz]
  simp only[E.iX,au];omega
theorem s3:∀(l:List E) (i:Nat) (h:i<l.length),(l[i]).sz<=E.iX l
 |e::l,0,_=>by simp[E.iX]
 |e::l,i+1,h=>by have:=s3 l i (by simpa using h);simp only[E.iX,List.getElem_cons_succ];omega
theorem J4:∀(n:Nat) (e:E),e.sz<n->e.ok->e.sz<1000000->an Tryz.prog 140 [e.j5] [] (bH (.v (.int .i64 (e.cX:Int))))
 |0,e,hn,_,_=>by omega
 |
  n+1,.atom s,hn,hok,hl=>by
  refine Mh _ _ ((bi).mpr trivial) ?_
  have hne:s≠[]:=hok
  simp only[EK,↓zq,zs,ae,zt,bH]
  exact⟨fun _=>rfl,fun h=>absurd h hne⟩
 |
  n+1,.list l,hn,hok,hl=>by
  refine Mh _ _ ((cg _).mpr trivial) ?_
  simp only[E.sz]at hn hl
  have h1:=s5 l
  have h2:=tJ l
  simp only[EK,↓zq,zs,ae,zt,bH]
  refine⟨fun h=>absurd rfl h,fun _=>?_⟩
  refine cR (LW l (by omega) (by omega) (fun i hi=>?_) l.length 0 0 (by omega) (by simp)) ?_
  ·have:=s3 l i hi
   exact J4 n (l[i]) (by omega) (tz l i hi hok) (by omega)
  ·simp[↓zq,zs,ae,E.cX]
theorem BI(e:E)(h:e.ok)(hl:e.sz<1000000):an Tryz.prog 140 [e.j5] [] (bH (.v (.int .i64 (e.cX:Int)))):=J4 (e.sz+1) e (by omega) h hl
theorem tt{x:E}(h:x.at≠[]):x.cX=1:=by cases x<;>simp[E.at,E.cX]at h |-
theorem AI{s:List UInt8}(h:dz s=true):s≠[]:=by rintro rfl;cases h
theorem jJ:∀(e:E) (ar:List (List UInt8)) (t:Ty),cZ e ar=some t->e.cX=t.aD
 |
  .atom s,ar,t,h=>by
  simp only[cZ]at h
  simp only[E.cX]
  split at h
  ·cases h;rfl
  ·split at h
   ·cases h;rfl
   ·split at h
    ·cases h;rfl
    ·split at h
     ·split at h<;>cases h<;>rfl
     ·cases h
 | .list [],_,_,h=>by cases h
 | .list [_],_,_,h=>by cases h
 | .list [_,_],_,_,h=>by cases h
 | .list (_::_::_::_::_),_,_,h=>by cases h
 |
  .list [x,a,b],ar,t,h=>by
  simp only[E.cX,E.eN]
  by_cases h0:x.at=[43]
  ·rw[kB ar h0]at h
   have:=tt (x:=x) (by rw[h0];simp)
   split at h
   ·rename_i t1 t2 e1 e2
    cases h
    have:=jJ a ar _ e1
    have:=jJ b ar _ e2
    simp only[Ty.aD];omega
   ·cases h
  ·by_cases h1:x.at=[42]
   ·rw[jv ar h1]at h
    have:=tt (x:=x) (by rw[h1];simp)
    split at h
    ·rename_i t1 t2 e1 e2
     cases h
     have:=jJ a ar _ e1
     have:=jJ b ar _ e2
     simp only[Ty.aD];omega
    ·cases h
   ·by_cases h2:x.at=[114,101,99]
    ·rw[mr ar h2]at h
     have:=tt (x:=x) (by rw[h2];simp)
     split at h
     ·rename_i hl
      have:=tt (AI hl)
      split at h
      ·rename_i t1 e1
       cases h
       have:=jJ b _ _ e1
       simp only[Ty.aD];omega
      ·cases h
     ·cases h
    ·rw[jm ar h0 h1 h2]at h;cases h
def jQ(x:Option E)(b:Bool):AV->List Ob->Prop:=fun r o=>∃c:List UInt8,∃d:AV,LK.sl.has d/\r=.cA [.agg [.v (.string (mk c)),d],.v (.bool b)]/\(b=true->∃e,x=some e/\AV.agg [.v (.string (mk c)),d]=e.j5)
theorem zL(e:E):∃c:List UInt8,∃d:AV,LK.sl.has d/\e.j5=AV.agg [.v (.string (mk c)),d]:=by
 cases e with
 |atom s=>exact⟨s,_,(bi).mpr trivial,rfl⟩
 |list l=>exact⟨[],_,(cg _).mpr trivial,rfl⟩
theorem jQ.ne(x:Option E)(b:Bool)(h:b=true->x.isSome=true):∃r o,jQ x b r o:=by
 cases b with
 |false=>exact⟨_,[],[],.v (.slice none 0 0),(bi).mpr trivial,rfl,fun h=>by cases h⟩
 |
  true =>
  cases x with
  |none=>cases h rfl
  |
   some e =>
   obtain⟨c,d,hd,he⟩:=zL e
   exact⟨_,[],c,d,hd,rfl,fun _=>⟨e,rfl,he.symm⟩⟩
theorem Mn(s:List UInt8):an Tryz.prog 122 [.v (.string (mk s))] [] (jQ (qb s) (qb s).isSome):=by
 refine NH _ ?_
 simp only[H6,↓zq,zs,ae,zt,qb]
 refine⟨fun h=>?_,fun h=>?_⟩
 ·rw[if_pos (by omega)]
  exact⟨[],_,(bi).mpr trivial,rfl,fun h=>by cases h⟩
 ·rw[if_neg (by omega)]
  refine aO (Pz s (by omega) 300 (by omega) 0 (by omega)) (C3.ne _ _) ?_
  rintro r o ⟨rfl,hr⟩
  rw[bx]at hr
  cases hq:rd 300 s with
  |
   none =>
   rw[hq]at hr
   obtain⟨c,d,hd,rfl⟩:=hr
   simp only[↓zq,zs,ae,zt,bw]
   refine⟨hd,c,d,hd,?_,fun h=>by cases h⟩
   have:((-1:Int)==(s.length:Int))=false:=by
    rw[beq_eq_false_iff_ne];omega
   rw[this];rfl
  |
   some q =>
   obtain⟨e,u⟩:=q
   rw[hq]at hr
   subst hr
   have hlt:=xg _ _ _ _ hq
   obtain⟨c,d,hd,he⟩:=zL e
   simp only[he,↓zq,zs,ae,zt,bw]
   cases u with
   |
    nil =>
    refine⟨hd,c,d,hd,?_,fun _=>⟨e,rfl,he.symm⟩⟩
    simp
   |
    cons b u =>
    simp only[au]at hlt |-
    refine⟨hd,c,d,hd,?_,fun h=>by cases h⟩
    have:(((s.length-(u.length+1):Nat):Int)==(s.length:Int))=false:=by simp;omega
    rw[this];rfl
def vF(s:List UInt8):Option E:=match qb s with
 |none=>none
 |some e=>if jE e=true/\e.cX<=400 then some e else none
theorem Fh(s:List UInt8):an Tryz.prog 132 [.v (.string (mk s))] [] (jQ (vF s) (vF s).isSome):=by
 refine Og _ ?_
 unfold LH
 refine aO (Mn s) (jQ.ne _ _ (fun h=>h)) ?_
 rintro r o ⟨c,d,hd,rfl,hh⟩
 simp only[↓zq,zs,ae,zt,bw,vF]
 refine⟨hd,fun h=>?_,fun h=>?_⟩
 ·obtain⟨e,he,hce⟩:=hh h
  obtain⟨hok,hsz⟩:=nn he
  rw[he,hce]
  refine ai (yB e hok) ?_
  simp only[↓zq,zs,ae]
  refine⟨fun hi=>?_,fun hi=>?_⟩
  ·refine ai (BI e hok (by omega)) ?_
   simp only[↓zq,zs,ae,hi]
   refine⟨c,d,hd,?_,?_⟩
   ·rw[hce]
    by_cases h4:e.cX<=400
    ·rw[if_pos h4];exact congrArg (fun b=>AV.cA [e.j5,.v (.bool b)]) (decide_eq_true (show ((e.cX:Nat):Int)<=400 by omega))
    ·rw[if_neg h4];exact congrArg (fun b=>AV.cA [e.j5,.v (.bool b)]) (decide_eq_false (show ¬((e.cX:Nat):Int)<=400 by omega))
   ·split
    ·exact fun _=>⟨e,rfl,hce⟩
    ·exact fun h=>by cases h
  ·refine⟨c,d,hd,?_,?_⟩
   ·rw[hce,if_neg (by rw[hi];simp)];rfl
   ·rw[if_neg (by rw[hi];simp)];exact fun h=>by cases h
 ·have hn:qb s=none:=by cases hq:qb s<;>simp[hq]at h |-
  rw[hn]
  exact⟨c,d,hd,rfl,fun h=>by cases h⟩
theorem oU{s:List UInt8}{e:E}(h:vF s=some e):qb s=some e/\jE e=true/\e.cX<=400:=by
 unfold vF at h
 split at h
 ·cases h
 ·split at h
  ·rename_i e' h1 h2;cases h;exact⟨h1,h2⟩
  ·cases h
end Go.Proofs.Trees
namespace Go.Proofs.Trees
open Go Go.VL
def bV:Ty->Bool
 | .name s=>dz s
 | .plus a b=>bV a||bV b
 | .times a b=>bV a||bV b
 | .rc a=>bV a
 |_=>false
theorem gK:∀(t:Ty) (out:List (List UInt8)),(bG t out).any dz=(out.any dz||bV t)
 |
  .name s,out=>by
  simp only[bG,ph,bV]
  split
  ·rename_i h
   cases hs:dz s with
   |false=>simp
   |true=>rw[Bool.or_true,cf];exact⟨s,h,hs⟩
  ·simp
 | .plus a b,out=>by simp only[bG,bV,gK a,gK b,Bool.or_assoc]
 | .times a b,out=>by simp only[bG,bV,gK a,gK b,Bool.or_assoc]
 | .rc a,out=>by simp only[bG,bV,gK a]
 | .zero,out=>by simp[bG,bV]
 | .one,out=>by simp[bG,bV]
 | .bP u,out=>by simp[bG,bV]
theorem sS(t:Ty):t.closed = !bV t:=by simp[Ty.closed,gK]
def pl:Ty->Bool
 | .name s=>decide (s.length<=1)
 | .plus a b=>pl a&&pl b
 | .times a b=>pl a&&pl b
 | .rc a=>false
 |_=>true
theorem kY{lo hi:Nat}{s:List UInt8}(h:named lo hi s=true):∃c r,s=c::r/\lo<=c.toNat/\c.toNat<=hi:=by
 cases s with
 |nil=>cases h
 |cons c r=>simp only[named,aq,decide_eq_true_eq]at h;exact⟨c,r,rfl,by omega,by omega⟩
theorem ga{x a b:E}{ar:List (List UInt8)}{t:Ty}(hx:x.at=[43])(h:cZ (.list [x,a,b]) ar=some t):∃t1 t2,cZ a ar=some t1/\cZ b ar=some t2/\t=.plus t1 t2:=by
 rw[kB ar hx]at h
 split at h
 ·rename_i t1 t2 e1 e2;cases h;exact⟨t1,t2,e1,e2,rfl⟩
 ·cases h
theorem fN{x a b:E}{ar:List (List UInt8)}{t:Ty}(hx:x.at=[42])(h:cZ (.list [x,a,b]) ar=some t):∃t1 t2,cZ a ar=some t1/\cZ b ar=some t2/\t=.times t1 t2:=by
 rw[jv ar hx]at h
 split at h
 ·rename_i t1 t2 e1 e2;cases h;exact⟨t1,t2,e1,e2,rfl⟩
 ·cases h
theorem dV{x a b:E}{ar:List (List UInt8)}{t:Ty}(hx:x.at=[114,101,99])(h:cZ (.list [x,a,b]) ar=some t):∃t1,dz a.at=true/\cZ b (ar++[a.at])=some t1/\t=.rc t1:=by
 rw[mr ar hx]at h
 split at h
 ·rename_i hl
  split at h
  ·rename_i t1 e1;cases h;exact⟨t1,hl,e1,rfl⟩
  ·cases h
 ·cases h
theorem ud{s:List UInt8}:qi s=match vF s with|none=>none|some e=>cZ e []:=by
 unfold qi vF
 cases he:qb s with
 |none=>rfl
 |
  some e =>
  have hs:=iD e []
  simp only
  cases ht:cZ e []with
  |
   none =>
   rw[ht]at hs
   rw[if_neg (by rw[<-hs];simp)]
  |
   some t =>
   rw[ht]at hs
   have ha:=jJ e [] t ht
   by_cases h4:e.cX<=400
   ·rw[if_pos ⟨hs.symm,h4⟩];dsimp only;rw[if_neg (by omega)];exact ht.symm
   ·rw[if_neg (fun h=>h4 h.2)];dsimp only;rw[if_pos (by omega)]
end Go.Proofs.Trees
namespace Go.Proofs.Trees
open Go Go.VL
def pure:Ty->Bool
 | .zero=>true
 | .one=>true
 | .name s=>(s==[120])||(s==[121])||(s==[122])
 | .plus a b=>pure a&&pure b
 | .times a b=>pure a&&pure b
 |_=>false
def L0(v:Nat):Option Nat:=if v<=1000000000 then some v else none
def He(n:Nat):Ty->Option Nat
 | .zero=>some 0
 | .one=>some 1
 | .name _=>some n
 | .plus a b=>match He n a,He n b with|some x,some y=>L0 (x+y)|_,_=>none
 | .times a b=>match He n a,He n b with|some x,some y=>L0 (x*y)|_,_=>none
 |_=>none
def Ir(x:Option Nat):AV->List Ob->Prop:=fun r o=>∃v:Int,r=.cA [.v (.int .i64 v),.v (.bool x.isSome)]/\∀c,x=some c->v=(c:Int)
theorem Ir.ne(x:Option Nat):∃r o,Ir x r o:=by
 cases x with
 |none=>exact⟨_,[],0,rfl,fun c h=>by cases h⟩
 |some c=>exact⟨_,[],(c:Int),rfl,fun c' h=>by cases h;rfl⟩
end Go.Proofs.Trees
namespace Go.Proofs.Trees
open Go Go.VL Go.RowKit
abbrev dd(n:Nat):List UInt8:=Lib.decDigits n
theorem eG{k:Nat}(h:k<10):dd k=[ba (48+k)]:=by rw[dd,Lib.decDigits,dif_pos h]
theorem fE{k:Nat}(h:¬k<10):dd k=dd (k/10)++[ba (48+k%10)]:=by rw[dd,Lib.decDigits,dif_neg h]
theorem l8:∀(n k:Nat),k<n->(dd k).length<=k+1
 |0,k,h=>by omega
 |
  n+1,k,h=>by
  by_cases h1:k<10
  ·rw[eG h1];simp
  ·rw[fE h1]
   have:=l8 n (k/10) (by omega)
   simp only[ap,au,aG];omega
theorem xJ(d:Nat)(h:d<10):(Value.int .u8 (IntKind.wrap .u8 (IntKind.wrap .i64 (48+(d:Int)))))=.int .u8 ((ba (48+d)).toNat:Int):=by
 have:d=0\/d=1\/d=2\/d=3\/d=4\/d=5\/d=6\/d=7\/d=8\/d=9:=by omega
 rcases this with rfl|rfl|rfl|rfl|rfl|rfl|rfl|rfl|rfl|rfl<;>rfl
theorem px(b:UInt8):bytesOf [[.v (.int .u8 (b.toNat:Int))]]=[b]:=by simp[bytesOf,wU]
theorem km(b:UInt8):jd [[.v (.int .u8 (b.toNat:Int))]]:=⟨rfl,(kQ _ _).mpr trivial,trivial⟩
theorem yG:∀(n k:Nat),k<n->k<1000000000->an Tryz.prog 142 [.v (.int .i64 (k:Int))] [] (bH (.v (.string (mk (dd k)))))
 |0,k,h,_=>by omega
 |
  n+1,k,h,hk=>by
  refine Oc _ ?_
  simp only[KJ,↓zq,zs,ae,bH]
  refine⟨fun h=>by omega,fun _=>⟨fun h=>by omega,fun _=>⟨fun h1=>?_,fun h1=>⟨by omega,?_⟩⟩⟩⟩
  ·rw[xJ k (by omega)]
   refine⟨km _,?_⟩
   rw[px,eG (by omega)];rfl
  ·have e1:IntKind.wrap .i64 (Int.tdiv (k:Int) 10)=((k/10:Nat):Int):=by
    rw[show Int.tdiv (k:Int) 10=((k/10:Nat):Int) from (Int.ofNat_tdiv k 10).symm,wrap64 _ (by omega) (by omega)]
   have e2:dC (k:Int) 10=((k%10:Nat):Int):=(Int.ofNat_tmod k 10).symm
   rw[e1,e2,xJ (k%10) (by omega)]
   refine ai (yG n (k/10) (by omega) (by omega)) ?_
   have hl:=l8 (k+1) (k/10) (by omega)
   simp only[↓zq,zs,ae,zt,px]
   have h9:(k:Int)<1000000000:=by omega
   refine⟨by omega,km _,?_,?_⟩
   ·show (mk (dd (k/10))).size+(mk [ba (48+k%10)]).size<=_
    rw[cD,cD];simp;omega
   ·show AV.v (.string (mk (dd (k/10))++mk [ba (48+k%10)]))=_
    rw[kF,fE (k:=k) (by omega)]
theorem yO(s:List UInt8)(d:AV)(hd:LK.sl.has d)(h:s≠[]):an Tryz.prog 121 [.agg [.v (.string (mk s)),d]] [] (bH (.v (.string (mk [])))):=by
 refine Eh _ _ hd ?_
 simp only[C6,↓zq,zs,ae,zt,bH]
 exact⟨fun _=>trivial,fun h'=>absurd h' h⟩
theorem CC(e:E):AV.agg [.v (.string ((e.j5.cs.getD 0 .any).ah)),e.j5.cs.getD 1 .any]=e.j5:=by cases e<;>rfl
mutual
def eS:E->List UInt8
 | .atom s=>s
 | .list []=>[40,41]
 | .list (e::l)=>40::(eS e++(eg l++[41]))
def eg:List E->List UInt8
 |[]=>[]
 |e::l=>32::(eS e++eg l)
end
theorem zj:∀(l:List E) (i:Nat) (h:i<l.length),eg (l.drop i)=32::(eS l[i]++eg (l.drop (i+1))):=by
 intro l i h
 rw[aU h,eg]
theorem LL(l:List E)(hll:l.length<1000000000000)(ih:∀i (h:i<l.length),an Tryz.prog 97 [(l[i]).j5] [] (bH (.v (.string (mk (eS l[i])))))) :
 ∀(k i:Nat) (out:List UInt8),i+k=l.length->1<=i->out.length+(eg (l.drop i)).length<=1000000000000->A0 [.v (.string (mk out)),.v (.int .i64 (i:Int))] [.cells [.v (.string (mk [])),.sl (E.bm l)]] (jq 1 [.v (.string (mk (out++eg (l.drop i))))] [])
 |
  0,i,out,hi,h1,hn=>by
  refine BY _ _ _ _ ?_
  simp only[zH,↓zq,zs,ae,dZ]
  have:l.drop i=[]:=bM (by omega)
  refine⟨fun h=>by omega,fun _=>?_⟩
  simp[jq,this,eg]
 |
  k+1,i,out,hi,h1,hn=>by
  have hlt:i<l.length:=by omega
  have hd:=zj l i hlt
  rw[hd]at hn
  simp only[au,ap]at hn
  refine BY _ _ _ _ ?_
  simp only[zH,↓zq,zs,ae,zt,dZ,jh l i hlt,fW,iA,iv,aw]
  refine⟨fun _=>⟨fun _=>⟨by omega,by omega,?_⟩,fun h=>by omega⟩,fun h=>by omega⟩
  refine ai (ih i hlt) ?_
  simp only[↓zq,zs,ae,zt]
  refine⟨by simp;omega,?_⟩
  rw[bN i (by omega),hd]
  have:=LL l hll ih k (i+1) (out++[32]++eS l[i]) (by omega) (by omega) (by simp;omega)
  simpa using this
theorem w6:∀(l:List E) (i:Nat) (h:i<l.length),(eS l[i]).length<=(eg l).length
 |e::l,0,_=>by simp only[eg,List.getElem_cons_zero,au,ap];omega
 |e::l,i+1,h=>by have:=w6 l i (by simpa using h);simp only[eg,List.getElem_cons_succ,au,ap];omega
theorem qB:∀l:List E,l.length<=(eg l).length
 |[]=>by simp[eg]
 |e::l=>by have:=qB l;simp only[eg,au,ap];omega
theorem C0:∀(n:Nat) (e:E),e.sz<n->e.ok->(eS e).length<=900000000000->an Tryz.prog 97 [e.j5] [] (bH (.v (.string (mk (eS e)))))
 |0,e,hn,_,_=>by omega
 |
  n+1,.atom s,hn,hok,hl=>by
  refine Ed _ _ ((bi).mpr trivial) ?_
  have hne:s≠[]:=hok
  simp only[Dx,↓zq,zs,ae,zt,bH]
  exact⟨fun _=>rfl,fun h=>absurd h hne⟩
 |
  n+1,.list [],hn,hok,hl=>by
  refine Ed _ _ ((cg _).mpr trivial) ?_
  simp only[Dx,↓zq,zs,ae,zt,bH]
  refine⟨fun h=>absurd rfl h,fun _=>?_⟩
  have h1:A0 [.v (.string (mk [40])),.v (.int .i64 0)] [.cells [.v (.string (mk [])),.sl (E.bm [])]] (jq 1 [.v (.string (mk [40]))] []):=by
   refine BY _ _ _ _ ?_
   simp[zH,↓zq,zs,ae,E.bm,jq]
  refine cR h1 ?_
  simp only[↓zq,zs,ae,zt]
  exact⟨by simp,rfl⟩
 |
  n+1,.list (x::l),hn,hok,hl=>by
  refine Ed _ _ ((cg _).mpr trivial) ?_
  simp only[E.sz,E.iX]at hn
  simp only[eS,au,ap,aG]at hl
  have h2:=qB l
  simp only[Dx,↓zq,zs,ae,zt,bH]
  refine⟨fun h=>absurd rfl h,fun _=>?_⟩
  have hL:A0 [.v (.string (mk [40])),.v (.int .i64 0)] [.cells [.v (.string (mk [])),.sl (E.bm (x::l))]] (jq 1 [.v (.string (mk ([40]++eS x++eg l)))] []):=by
   refine BY _ _ _ _ ?_
   simp only[zH,E.bm,Int.toNat_zero,↓zq,zs,ae,zt,dZ,fW,iA,iv,aw]
   refine⟨fun _=>⟨fun h=>by omega,fun _=>⟨by omega,?_⟩⟩,fun h=>by omega⟩
   refine ai (C0 n x (by omega) hok.1 (by omega)) ?_
   simp only[↓zq,zs,ae,zt]
   refine⟨by simp;omega,?_⟩
   have:=LL (x::l) (by simp;omega) (fun i hi=>by
    have h3:=s3 (x::l) i hi
    simp only[E.iX]at h3
    refine C0 n _ (by omega) (tz _ i hi hok) ?_
    have h4:=w6 (x::l) i hi
    simp only[eg,au,ap]at h4
    omega) l.length 1 ([40]++eS x) (by simp;omega) (by omega) (by simp;omega)
   rw[show IntKind.wrap .i64 (0+1)=1 from rfl]
   simpa[E.bm]using this
  refine cR hL ?_
  simp only[↓zq,zs,ae,zt]
  refine⟨by simp;omega,?_⟩
  simp[eS]
theorem JK(e:E)(h:e.ok)(hl:(eS e).length<=900000):an Tryz.prog 97 [e.j5] [] (bH (.v (.string (mk (eS e))))):=C0 (e.sz+1) e (by omega) h (by omega)
mutual
def E.nd:E->Nat
 | .atom _=>1
 | .list []=>1
 | .list (_::l)=>1+E.uj l
def E.uj:List E->Nat
 |[]=>0
 |e::l=>e.nd+E.uj l
end
mutual
theorem Bg:∀e:E,e.nd<=e.sz
 | .atom s=>by simp[E.nd,E.sz]
 | .list []=>by simp[E.nd,E.sz,E.iX]
 | .list (x::l)=>by have:=wK l;simp only[E.nd,E.sz,E.iX];omega
theorem wK:∀l:List E,E.uj l<=E.iX l
 |[]=>by simp[E.uj,E.iX]
 |e::l=>by have:=Bg e;have:=wK l;simp only[E.uj,E.iX];omega
end
theorem As:∀(l:List E) (i:Nat) (h:i<l.length),E.uj (l.drop i)=(l[i]).nd+E.uj (l.drop (i+1)):=by
 intro l i h
 rw[aU h];rfl
theorem KG(l:List E)(hl:E.uj l<1000000)(hll:l.length<1000000)(ih:∀i (h:i<l.length),an Tryz.prog 124 [(l[i]).j5] [] (bH (.v (.int .i64 ((l[i]).nd:Int))))) :
 ∀(k i n:Nat),i+k=l.length->n+E.uj (l.drop i)<=1+E.uj l->Bc [.v (.int .i64 (n:Int)),.v (.int .i64 (i:Int))] [.cells [.v (.string (mk [])),.sl (E.bm l)]] (jq 1 [.v (.int .i64 ((n+E.uj (l.drop i):Nat):Int))] [])
 |
  0,i,n,hi,hn=>by
  refine Ca _ _ _ _ ?_
  simp only[zF,↓zq,zs,ae,dZ]
  have:l.drop i=[]:=bM (by omega)
  refine⟨fun h=>by omega,fun _=>?_⟩
  simp[jq,this,E.uj]
 |
  k+1,i,n,hi,hn=>by
  have hlt:i<l.length:=by omega
  refine Ca _ _ _ _ ?_
  simp only[zF,↓zq,zs,ae,zt,dZ,jh l i hlt,fW,iA,iv,aw]
  refine⟨fun _=>⟨by omega,?_⟩,fun h=>by omega⟩
  refine ai (ih i hlt) ?_
  have h1:=As l i hlt
  simp only[↓zq,zs,ae]
  rw[bN i (by omega),wrap64 _ (by omega) (by omega)]
  have:=KG l hl hll ih k (i+1) (n+(l[i]).nd) (by omega) (by omega)
  rw[h1,<-Nat.add_assoc]
  simpa using this
theorem Kk:∀(n:Nat) (e:E),e.sz<n->e.sz<900000->an Tryz.prog 124 [e.j5] [] (bH (.v (.int .i64 (e.nd:Int))))
 |0,e,hn,_=>by omega
 |
  n+1,.atom s,hn,hl=>by
  refine Mm _ _ ((bi).mpr trivial) ?_
  simp only[Ec]
  have hL:Bc [.v (.int .i64 1),.v (.int .i64 1)] [.cells [.v (.string (mk s)),.v (.slice none 0 0)]] (jq 1 [.v (.int .i64 1)] []):=by
   refine Ca _ _ _ _ ?_
   simp[zF,↓zq,zs,ae,jq]
  refine cR hL ?_
  simp[↓zq,zs,ae,bH,E.nd]
 |
  n+1,.list l,hn,hl=>by
  refine Mm _ _ ((cg _).mpr trivial) ?_
  simp only[E.sz]at hn hl
  simp only[Ec]
  match l,hn,hl with
  |
   [],hn,hl =>
   have hL:Bc [.v (.int .i64 1),.v (.int .i64 1)] [.cells [.v (.string (mk [])),.sl (E.bm [])]] (jq 1 [.v (.int .i64 1)] []):=by
    refine Ca _ _ _ _ ?_
    simp[zF,↓zq,zs,ae,jq,E.bm]
   refine cR hL ?_
   simp[↓zq,zs,ae,bH,E.nd]
  |
   x::l,hn,hl =>
   simp only[E.iX]at hn hl
   have h1:=wK l
   have h2:=tJ l
   have h0:=Bg x
   refine cR (KG (x::l) (by simp only[E.uj];omega) (by simp;omega) (fun i hi=>?_) l.length 1 1 (by simp;omega) (by simp[E.uj])) ?_
   ·have:=s3 (x::l) i hi
    simp only[E.iX]at this
    exact Kk n _ (by omega) (by omega)
   ·simp[↓zq,zs,ae,E.nd,bH]
theorem PT(e:E)(hl:e.sz<900000):an Tryz.prog 124 [e.j5] [] (bH (.v (.int .i64 (e.nd:Int)))):=Kk (e.sz+1) e (by omega) hl
inductive Vl where
 |u
 |el (k:Nat)
 |l (v:Vl)
 |r (v:Vl)
 |f (v:Vl)
 |p (a b:Vl)
abbrev wk(k:Nat):List UInt8:=101::dd k
abbrev gy:AV:=.v (.pointer none)
def Vl.cr:Vl->AV
 | .u=>.ptr [.v (.int .u8 117),.v (.string (mk [])),gy,gy]
 | .el k=>.ptr [.v (.int .u8 101),.v (.string (mk (wk k))),gy,gy]
 | .l v=>.ptr [.v (.int .u8 108),.v (.string (mk [])),v.cr,gy]
 | .r v=>.ptr [.v (.int .u8 114),.v (.string (mk [])),v.cr,gy]
 | .f v=>.ptr [.v (.int .u8 102),.v (.string (mk [])),v.cr,gy]
 | .p a b=>.ptr [.v (.int .u8 112),.v (.string (mk [])),a.cr,b.cr]
def Vl.dM:Vl->E
 | .u=>.atom [117]
 | .el k=>.atom (wk k)
 | .l v=>.list [.atom [108],v.dM]
 | .r v=>.list [.atom [114],v.dM]
 | .f v=>.list [.atom [102],v.dM]
 | .p a b=>.list [.atom [112],a.dM,b.dM]
def Vl.nodes:Vl->Nat
 | .l v=>1+v.nodes
 | .r v=>1+v.nodes
 | .f v=>1+v.nodes
 | .p a b=>1+a.nodes+b.nodes
 |_=>1
def Vl.iE(n:Nat):Vl->Prop
 | .el k=>k<n
 | .l v=>v.iE n
 | .r v=>v.iE n
 | .f v=>v.iE n
 | .p a b=>a.iE n/\b.iE n
 | .u=>True
abbrev Vl.cY(v:Vl):List UInt8:=eS v.dM
theorem aK(v:Vl):LK.has .ptr v.cr=True:=by cases v<;>simp[Vl.cr,bU]
theorem fj(v:Vl):v.cr.isNil=false:=by cases v<;>rfl
theorem po:∀v:Vl,v.dM.ok
 | .u=>by simp[Vl.dM,E.ok]
 | .el k=>by simp[Vl.dM,E.ok]
 | .l v=>⟨by simp[E.ok],po v,trivial⟩
 | .r v=>⟨by simp[E.ok],po v,trivial⟩
 | .f v=>⟨by simp[E.ok],po v,trivial⟩
 | .p a b=>⟨by simp[E.ok],po a,po b,trivial⟩
theorem na:∀v:Vl,v.dM.nd=v.nodes
 | .u=>rfl
 | .el k=>rfl
 | .l v=>by simp[Vl.dM,E.nd,E.uj,Vl.nodes,na v]
 | .r v=>by simp[Vl.dM,E.nd,E.uj,Vl.nodes,na v]
 | .f v=>by simp[Vl.dM,E.nd,E.uj,Vl.nodes,na v]
 | .p a b=>by simp[Vl.dM,E.nd,E.uj,Vl.nodes,na a,na b,Nat.add_assoc]
theorem iO:∀v:Vl,v.iE 100->v.cY.length<=200*v.nodes
 | .u,_=>by simp[Vl.cY,Vl.dM,eS,Vl.nodes]
 |
  .el k,h=>by
  have h':k<100:=h
  have:=l8 1000 k (by omega)
  simp only[Vl.cY,Vl.dM,eS,Vl.nodes,au];omega
 | .l v,h=>by have:=iO v h;simp only[Vl.cY,Vl.dM,eS,eg,Vl.nodes,au,ap,aG]at this |-;omega
 | .r v,h=>by have:=iO v h;simp only[Vl.cY,Vl.dM,eS,eg,Vl.nodes,au,ap,aG]at this |-;omega
 | .f v,h=>by have:=iO v h;simp only[Vl.cY,Vl.dM,eS,eg,Vl.nodes,au,ap,aG]at this |-;omega
 | .p a b,h=>by have:=iO a h.1;have:=iO b h.2;simp only[Vl.cY,Vl.dM,eS,eg,Vl.nodes,au,ap,aG]at *;omega
theorem yP(a b:AV)(h:LK.ptr.has a)(h':LK.ptr.has b):an Tryz.prog 117 [a,b] [] (bH (.ptr [.v (.int .u8 112),.v (.string (mk [])),a,b])):=by
 refine O7 _ _ h h' ?_
 simp[Jk,↓zq,zs,ae,bH]
theorem dT(v:Vl):1<=v.nodes:=by cases v<;>simp[Vl.nodes]<;>omega
theorem Ep:∀(v:Vl),v.nodes<1000000->an Tryz.prog 75 [v.cr] [] (bH (.v (.int .i64 (v.nodes:Int))))
 | .u,h=>by refine y7 _ ((aK _).mpr trivial) ?_;simp[wh,Vl.cr,↓zq,zs,ae,bH,Vl.nodes]
 | .el k,h=>by refine y7 _ ((aK _).mpr trivial) ?_;simp[wh,Vl.cr,↓zq,zs,ae,bH,Vl.nodes]
 |
  .l v,h=>by
  simp only[Vl.nodes]at h
  refine y7 _ ((aK _).mpr trivial) ?_
  simp only[wh,Vl.cr,↓zq,zs,ae,aK,fj]
  refine⟨by omega,fun _=>⟨by omega,?_⟩,fun h=>(by cases h)⟩
  refine ai (Ep v (by omega)) ?_
  simp only[↓zq,zs,ae,bH,Vl.nodes]
  rw[wrap64 _ (by omega) (by omega)]
  simp
 |
  .r v,h=>by
  simp only[Vl.nodes]at h
  refine y7 _ ((aK _).mpr trivial) ?_
  simp only[wh,Vl.cr,↓zq,zs,ae,aK,fj]
  refine⟨by omega,fun _=>⟨by omega,?_⟩,fun h=>(by cases h)⟩
  refine ai (Ep v (by omega)) ?_
  simp only[↓zq,zs,ae,bH,Vl.nodes]
  rw[wrap64 _ (by omega) (by omega)]
  simp
 |
  .f v,h=>by
  simp only[Vl.nodes]at h
  refine y7 _ ((aK _).mpr trivial) ?_
  simp only[wh,Vl.cr,↓zq,zs,ae,aK,fj]
  refine⟨by omega,fun _=>⟨by omega,?_⟩,fun h=>(by cases h)⟩
  refine ai (Ep v (by omega)) ?_
  simp only[↓zq,zs,ae,bH,Vl.nodes]
  rw[wrap64 _ (by omega) (by omega)]
  simp
 |
  .p a b,h=>by
  simp only[Vl.nodes]at h
  refine y7 _ ((aK _).mpr trivial) ?_
  simp only[wh,Vl.cr,↓zq,zs,ae,aK,fj]
  refine⟨by omega,fun _=>⟨by omega,?_⟩,fun h=>(by cases h)⟩
  refine ai (Ep a (by omega)) ?_
  simp only[↓zq,zs,ae,aK,fj]
  rw[wrap64 (1+(a.nodes:Int)) (by omega) (by omega)]
  refine⟨by omega,fun _=>⟨by omega,?_⟩,fun h=>(by cases h)⟩
  refine ai (Ep b (by omega)) ?_
  simp only[↓zq,zs,ae,bH,Vl.nodes]
  rw[wrap64 _ (by omega) (by omega)]
  congr 2
end Go.Proofs.Trees
namespace Go.Proofs.Trees
open Go Go.VL Go.RowKit
def zd:List UInt8->Nat->Option Nat
 |[],n=>some n
 |b::r,n=>if gT b=true then zd r (10*n+(b.toNat-48))else none
def fF(s:List UInt8):Option Nat :=
 if s.length=2\/s.length=3 then(if s.getD 0 0=101/\¬(s.length=3/\s.getD 1 0=48)then zd (s.drop 1) 0 else none)else none
def At(s:List UInt8):Int:=match fF s with|some k=>(k:Int)|none=>-1
theorem IS(s:List UInt8)(hs:s.length<=3):∀(k i n:Nat),i+k=s.length->1<=i->(n+1)*10 ^ k<=1000->D8 [.v (.string (mk s)),.v (.int .i64 (n:Int)),.v (.int .i64 (i:Int))] []
 (ou (match zd (s.drop i) n with|some m=>(1,[.v (.int .i64 (m:Int))],[])|none=>(2,[.v (.int .i64 (-1))],[])))
 |
  0,i,n,hi,h1,hn=>by
  refine Iq _ _ _ ?_
  have hd:s.drop i=[]:=bM (by omega)
  simp only[Gd,↓zq,zs,ae,zt,hd,zd]
  exact⟨fun h=>by omega,fun _=>by first|trivial|rfl⟩
 |
  k+1,i,n,hi,h1,hn=>by
  have hlt:i<s.length:=by omega
  refine Iq _ _ _ ?_
  rw[drop_cons hlt,zd]
  simp only[Gd,↓zq,zs,ae,zt,lP s i hlt]
  generalize s.getD i 0=b
  have hb:=b.toNat_lt
  refine⟨fun _=>⟨by omega,fun h48=>?_,fun h48=>⟨by omega,fun h57=>?_,fun h57=>⟨by omega,?_⟩⟩⟩,fun h=>by omega⟩
  ·have:gT b=false:=by simp only[gT,decide_eq_false_iff_not];omega
   rw[this];rfl
  ·have:gT b=false:=by simp only[gT,decide_eq_false_iff_not];omega
   rw[this];rfl
  ·have:gT b=true:=by simp only[gT,decide_eq_true_eq];omega
   rw[if_pos this]
   have hk:k=0\/k=1:=by omega
   have hn2:n*10<=1000:=by
    rcases hk with rfl|rfl<;>simp at hn<;>omega
   have e8:IntKind.wrap .u8 ((b.toNat:Int)-48)=((b.toNat-48:Nat):Int):=by
    have:b.toNat=48\/b.toNat=49\/b.toNat=50\/b.toNat=51\/b.toNat=52\/b.toNat=53\/b.toNat=54\/b.toNat=55\/b.toNat=56\/b.toNat=57:=by omega
    rcases this with h|h|h|h|h|h|h|h|h|h<;>rw[h]<;>rfl
   rw[e8,bN i (by omega),wrap64 ((b.toNat-48:Nat):Int) (by omega) (by omega),wrap64 (10*(n:Int)) (by omega) (by omega),wrap64 _ (by omega) (by omega)]
   have e:(10*(n:Int)+((b.toNat-48:Nat):Int))=((10*n+(b.toNat-48):Nat):Int):=by omega
   rw[e]
   exact IS s hs k (i+1) _ (by omega) (by omega) (by rcases hk with rfl|rfl<;>simp at hn |-<;>omega)
theorem IX(s:List UInt8):an Tryz.prog 153 [.v (.string (mk s))] [] (bH (.v (.int .i64 (At s)))):=by
 refine Nv _ ?_
 unfold Jy
 refine ai (Dc _ _ _) ?_
 simp only[↓zq,zs,ae,zt,DS,bH]
 have hL:∀(Q:Nat->List AV->List Ob->Prop),(s.length=2\/s.length=3)->s.getD 0 0=101->¬(s.length=3/\s.getD 1 0=48)->(Q 0 [.v (.int .i64 (At s))] []) ->
  eQ Tryz.prog 49 (.loop BS Ax [.v (.string (mk s)),.v (.int .i64 0),.v (.int .i64 1)] [] (fun y2 q2=>.ak (LK.has (.int .i64) (y2.headD .any))<|.done 0 [.v (.int .i64 ((y2.headD .any).toInt))] []) (fun y2 q2=>.ak (LK.has (.int .i64) (y2.headD .any))<|.done 0 [.v (.int .i64 ((y2.headD .any).toInt))] [])) Q:=by
  intro Q hl h0 h1 hQ
  have e:fF s=zd (s.drop 1) 0:=by rw[fF,if_pos hl,if_pos ⟨h0,h1⟩]
  refine fq (IS s (by omega) (s.length-1) 1 0 (by omega) (by omega) (by rcases hl with h|h<;>rw[h]<;>decide)) (fun ys o e'=>?_) (fun ys o e'=>?_)
  ·cases hq:zd (s.drop 1) 0<;>rw[hq]at e'<;>cases e'
   rw[hq]at e
   simp only[At,e]at hQ
   simp only[↓zq,zs,ae];exact hQ
  ·cases hq:zd (s.drop 1) 0<;>rw[hq]at e'<;>cases e'
   rw[hq]at e
   simp only[At,e]at hQ
   simp only[↓zq,zs,ae];exact hQ
 have hz:∀{i:Nat},i<s.length->bt (mk s) (i:Int)=((s.getD i 0).toNat:Int):=fun h=>lP s _ h
 refine⟨fun h=>?_,fun h=>⟨?_,fun h0=>?_,fun h0=>⟨fun h3=>⟨by omega,fun h1=>?_,fun h1=>?_⟩,fun h3=>?_⟩⟩⟩
 ·have h':¬(2<=(s.length:Int)/\(s.length:Int)<=3):=by simpa using h
  rw[At,fF,if_neg (by omega)]
 ·have h':2<=(s.length:Int)/\(s.length:Int)<=3:=by simpa using h
  omega
 ·have h':2<=(s.length:Int)/\(s.length:Int)<=3:=by simpa using h
  have e0:=hz (i:=0) (by omega)
  simp only[cL,dh]at e0
  rw[e0]at h0
  rw[At,fF,if_pos (by omega),if_neg]
  rintro⟨e,_⟩
  rw[e]at h0;exact h0 rfl
 ·have h':2<=(s.length:Int)/\(s.length:Int)<=3:=by simpa using h
  have e1:=hz (i:=1) (by omega)
  simp only[cL,dh]at e1
  rw[e1]at h1
  rw[At,fF,if_pos (by omega),if_neg]
  rintro⟨_,e⟩
  refine e ⟨by omega,?_⟩
  rw[<-dP];show (s.getD 1 0).toNat=48;omega
 ·have h':2<=(s.length:Int)/\(s.length:Int)<=3:=by simpa using h
  have e0:=hz (i:=0) (by omega)
  have e1:=hz (i:=1) (by omega)
  simp only[cL,dh]at e0 e1
  rw[e0]at h0;rw[e1]at h1
  refine hL _ (by omega) ?_ ?_ ⟨rfl,rfl⟩
  ·rw[<-dP];show (s.getD 0 0).toNat=101;omega
  ·rintro⟨_,e⟩;rw[e]at h1;exact h1 rfl
 ·have h':2<=(s.length:Int)/\(s.length:Int)<=3:=by simpa using h
  have e0:=hz (i:=0) (by omega)
  simp only[cL,dh]at e0
  rw[e0]at h0
  refine hL _ (by omega) ?_ ?_ ⟨rfl,rfl⟩
  ·rw[<-dP];show (s.getD 0 0).toNat=101;omega
  ·rintro⟨e,_⟩;omega
theorem og:∀(l:List UInt8) (n:Nat),(zd l n).isSome=l.all gT
 |[],n=>rfl
 |
  b::l,n=>by
  rw[zd]
  cases hb:gT b with
  |true=>rw[if_pos rfl,og l];simp[hb]
  |false=>rw[if_neg (by simp)];simp[hb]
theorem Ld(s:List UInt8):an Tryz.prog 161 [.v (.string (mk s))] [] (bH (.v (.bool (fF s).isSome))):=by
 refine Ni _ ?_
 simp only[KL,↓zq,zs,ae,zt,bH]
 have hz:∀{i:Nat},i<s.length->bt (mk s) (i:Int)=((s.getD i 0).toNat:Int):=fun h=>lP s _ h
 refine⟨fun h=>?_,fun h=>⟨fun h3=>?_,fun h3=>?_⟩⟩
 ·rw[fF,if_neg (by omega)];rfl
 ·rw[fF,if_neg (by omega)];rfl
 ·have e0:=hz (i:=0) (by omega)
  have e1:=hz (i:=1) (by omega)
  simp only[cL,dh]at e0 e1
  rw[e0,e1]
  have hx:s.drop (bA 1)=s.drop 1:=rfl
  refine⟨by omega,fun h0=>?_,fun h0=>⟨by omega,?_⟩⟩
  ·rw[fF,if_pos (by omega),if_neg]
   ·rfl
   ·rintro⟨e,_⟩;rw[e]at h0;exact h0 rfl
  ·rw[hx]
   refine ai (Kp (s.drop 1) F2 (by simp;omega) (by decide) (by decide)) ?_
   simp only[↓zq,zs,ae,zt]
   have h101:s.getD 0 0=101:=by rw[<-dP];show (s.getD 0 0).toNat=101;omega
   have hall:Lib.trimS (s.drop 1) F2=[]↔(s.drop 1).all gT=true:=by
    rw[sr]
    have:(fun x=>F2.contains x)=gT:=funext uK
    rw[this]
   refine⟨fun ht=>?_,fun ht=>⟨fun h2=>?_,fun h2=>⟨by omega,?_⟩⟩⟩
   ·have:(s.drop 1).all gT=false:=by
     cases hq:(s.drop 1).all gT with
     |false=>rfl
     |true=>exact absurd (hall.2 hq) ht
    rw[fF,if_pos (by omega)]
    split
    ·rw[og,this]
    ·rfl
   ·have hq:=hall.1 ht
    rw[fF,if_pos (by omega),if_pos ⟨h101,by omega⟩,og,hq]
   ·have hq:=hall.1 ht
    rw[fF,if_pos (by omega)]
    by_cases h48:s.getD 1 0=48
    ·rw[if_neg (by rintro⟨_,e⟩;exact e ⟨by omega,h48⟩),h48];rfl
    ·rw[if_pos ⟨h101,fun e=>h48 e.2⟩,og,hq]
     have:¬((s.getD 1 0).toNat:Int)=48:=fun e=>h48 (by rw[<-dP];show (s.getD 1 0).toNat=48;omega)
     rw[bne_iff_ne.2 this]
theorem rZ{s:List UInt8}{k:Nat}(h:fF s=some k):s=wk k/\k<100:=by
 have key1:∀a:Fin 256,gT (ba a.val)=true->zd [ba a.val] 0=some ((ba a.val).toNat-48)/\(ba a.val).toNat-48<10/\[ba a.val]=[ba (48+((ba a.val).toNat-48))]:=by decide +kernel
 unfold fF at h
 split at h
 ·rename_i hl
  split at h
  ·rename_i hh
   obtain⟨h0,h1⟩:=hh
   rcases hl with hl|hl
   ·match s,hl with
    |
     [c,a],_ =>
     simp only[bj]at h0
     subst h0
     simp only[List.drop_succ_cons,bx,zd]at h
     split at h
     ·rename_i ha
      have:=key1 ⟨a.toNat,a.toNat_lt⟩ (by simpa using ha)
      simp only[UInt8.ofNat_toNat]at this
      cases h
      refine⟨?_,by omega⟩
      rw[wk,eG (by omega)]
      simp only[Nat.mul_zero,a6]
      rw[<-this.2.2]
     ·cases h
   ·match s,hl with
    |
     [c,a,b],_ =>
     simp only[bj,List.getD_cons_succ,au,aG,true_and]at h0 h1
     subst h0
     simp only[List.drop_succ_cons,bx,zd]at h
     split at h
     ·rename_i ha
      split at h
      ·rename_i hb
       have k1:=key1 ⟨a.toNat,a.toNat_lt⟩ (by simpa using ha)
       have k2:=key1 ⟨b.toNat,b.toNat_lt⟩ (by simpa using hb)
       simp only[UInt8.ofNat_toNat]at k1 k2
       have ha':48<=a.toNat/\a.toNat<=57:=by simpa[gT]using ha
       have hb':48<=b.toNat/\b.toNat<=57:=by simpa[gT]using hb
       have h48:a.toNat≠48:=fun e=>h1 (by rw[<-dP];simpa using e)
       cases h
       simp only[Nat.mul_zero,a6]
       refine⟨?_,by omega⟩
       rw[wk,fE (by omega),eG (by omega)]
       have e1:(10*(a.toNat-48)+(b.toNat-48))/10=a.toNat-48:=by omega
       have e2:(10*(a.toNat-48)+(b.toNat-48))%10=b.toNat-48:=by omega
       rw[e1,e2,<-k1.2.2,<-k2.2.2];rfl
      ·cases h
     ·cases h
  ·cases h
 ·cases h
theorem vz(k:Nat)(h:k<100):fF (wk k)=some k:=by
 have e:∀k,k<100->dd k=if k<10 then [ba (48+k)]else [ba (48+k/10),ba (48+k%10)]:=by
  intro k hk
  by_cases h1:k<10
  ·rw[eG h1,if_pos h1]
  ·rw[fE h1,eG (by omega),if_neg h1];rfl
 have key:∀k:Fin 100,fF (101::(if k.val<10 then [ba (48+k.val)]else [ba (48+k.val/10),ba (48+k.val%10)]))=some k.val:=by decide +kernel
 rw[wk,e k h];exact key ⟨k,h⟩
theorem F8(k:Nat)(h:k<100):At (wk k)=(k:Int):=by rw[At,vz k h]
def w4:E->Bool
 | .atom s=>(s==[117])||(fF s).isSome
 | .list [x,a]=>((x.at==[108])||(x.at==[114])||(x.at==[102]))&&w4 a
 | .list [x,a,b]=>(x.at==[112])&&(w4 a&&w4 b)
 | .list _=>false
def fC:E->Option Vl
 | .atom s=>if s=[117]then some .u else match fF s with|some k=>some (.el k)|none=>none
 |
  .list [x,a]=>match fC a with
  |none=>none
  |some v=>if x.at=[108]then some (.l v)else if x.at=[114]then some (.r v)else if x.at=[102]then some (.f v)else none
 | .list [x,a,b]=>if x.at=[112]then(match fC a,fC b with|some v,some w=>some (.p v w)|_,_=>none)else none
 | .list _=>none
theorem oB:∀e:E,(fC e).isSome=w4 e
 |
  .atom s=>by
  simp only[fC,w4]
  by_cases h:s=[117]
  ·simp[h]
  ·rw[if_neg h];cases fF s<;>simp[h]
 | .list []=>rfl
 | .list [_]=>rfl
 |
  .list [x,a]=>by
  have ha:=oB a
  rw[fC,w4,<-ha]
  cases fC a with
  |none=>simp
  |
   some v =>
   by_cases h1:x.at=[108]
   ·simp[h1]
   ·by_cases h2:x.at=[114]
    ·simp[h2]
    ·by_cases h3:x.at=[102]
     ·simp[h3]
     ·simp[h1,h2,h3]
 |
  .list [x,a,b]=>by
  have ha:=oB a
  have hb:=oB b
  rw[fC,w4,<-ha,<-hb]
  by_cases h1:x.at=[112]
  ·rw[if_pos h1,h1];cases fC a<;>cases fC b<;>rfl
  ·simp[h1]
 | .list (_::_::_::_::_)=>rfl
theorem jU{x:E}{w:List UInt8}(h:x.at=w)(hw:w≠[]):x=.atom w:=by
 cases x with
 |atom s=>exact congrArg E.atom h
 |list l=>exact absurd h.symm hw
theorem kI:∀(e:E) (v:Vl),fC e=some v->v.dM=e/\v.iE 100
 |
  .atom s,v,h=>by
  simp only[fC]at h
  split at h
  ·rename_i h1;cases h;exact⟨by rw[h1];rfl,trivial⟩
  ·split at h
   ·rename_i k hk
    cases h
    obtain⟨h1,h2⟩:=rZ hk
    exact⟨by rw[h1];rfl,h2⟩
   ·cases h
 | .list [],_,h=>by cases h
 | .list [_],_,h=>by cases h
 | .list (_::_::_::_::_),_,h=>by cases h
 |
  .list [x,a],v,h=>by
  rw[fC]at h
  split at h
  ·cases h
  ·rename_i w hw
   obtain⟨h1,h2⟩:=kI a w hw
   split at h
   ·rename_i hx;cases h;rw[jU hx (by simp)];exact⟨by rw[Vl.dM,h1],h2⟩
   ·split at h
    ·rename_i hx;cases h;rw[jU hx (by simp)];exact⟨by rw[Vl.dM,h1],h2⟩
    ·split at h
     ·rename_i hx;cases h;rw[jU hx (by simp)];exact⟨by rw[Vl.dM,h1],h2⟩
     ·cases h
 |
  .list [x,a,b],v,h=>by
  rw[fC]at h
  split at h
  ·rename_i hx
   split at h
   ·rename_i w1 w2 hw1 hw2
    cases h
    obtain⟨h1,h2⟩:=kI a w1 hw1
    obtain⟨h3,h4⟩:=kI b w2 hw2
    rw[jU hx (by simp)]
    exact⟨by rw[Vl.dM,h1,h3],h2,h4⟩
   ·cases h
  ·cases h
def pA(e:E)(w:List UInt8)(k:Nat):Bool:=match e with| .list (x::l)=>decide (l.length+1=k)&&(x.at==w)|_=>false
theorem sH(e:E)(w:List UInt8)(k:Nat)(hk:1<=k):an Tryz.prog 162 [e.cr,.v (.string (mk w)),.v (.int .i64 (k:Int))] [] (bH (.v (.bool (pA e w k)))):=by
 refine HD _ _ _ ((cO e).mpr trivial) ?_
 cases e with
 |atom s=>simp only[AZ,E.cr,↓zq,zs,ae,zt,bH,pA];exact⟨by omega,fun h=>by omega,fun _=>trivial⟩
 |
  list l =>
  simp only[AZ,E.cr,↓zq,zs,ae,zt,bH,rz]
  cases l with
  |nil=>exact⟨by simp,fun h=>by simp at h;omega,fun _=>rfl⟩
  |
   cons x l =>
   simp only[au]
   refine⟨by simp,fun h=>?_,fun h=>?_⟩
   ·have:decide (l.length+1=k)=true:=by rw[decide_eq_true_eq];omega
    simp only[pA,this]
    cases x<;>simp[E.lV,E.cr,bU,oX,jt,ej,tQ,toList_mk,E.at]
   ·have:decide (l.length+1=k)=false:=by rw[decide_eq_false_iff_not];omega
    simp only[pA,this];rfl
def iS:Option Vl->AV
 |some v=>v.cr
 |none=>.v (.pointer none)
end Go.Proofs.Trees
namespace Go.Proofs.Trees
open Go Go.VL Go.RowKit
theorem gh(v:Option Vl):LK.has .ptr (iS v)=True:=by cases v<;>simp[iS,aK,gV]
theorem yN:∀(e:E),e.ok->an Tryz.prog 129 [e.cr] [] (bH (iS (fC e)))
 |
  .atom s,hok=>by
  refine JR _ ((cO _).mpr trivial) ?_
  have hd:=nq (.atom s)
  have hlen:=kT (.atom s)
  simp only[E.at]at hd
  simp only[G4,↓zq,zs,ae,zt,bH,cO,ei,hd,fC]
  refine⟨hlen,fun h=>?_,fun h=>⟨hlen,?_⟩⟩
  ·rw[if_pos h];rfl
  ·rw[if_neg h]
   refine ai (Ld s) ?_
   simp only[↓zq,zs,ae,zt]
   refine⟨fun he=>⟨hlen,?_⟩,fun he=>?_⟩
   ·obtain⟨k,hk⟩:=cB.1 he
    obtain⟨h1,h2⟩:=rZ hk
    rw[hk,h1];rfl
   ·have hn:fF s=none:=by cases hq:fF s<;>simp[hq]at he |-
    rw[hn]
    refine ai (sH (.atom s) [108] 2 (by omega)) ?_
    simp only[pA,↓zq,zs,ae,zf]
    refine⟨fun h=>(by cases h),fun _=>ai (sH (.atom s) [114] 2 (by omega)) ?_⟩
    simp only[pA,↓zq,zs,ae,zf]
    refine⟨fun h=>(by cases h),fun _=>ai (sH (.atom s) [102] 2 (by omega)) ?_⟩
    simp only[pA,↓zq,zs,ae,zf]
    refine⟨fun h=>(by cases h),fun _=>ai (sH (.atom s) [112] 3 (by omega)) ?_⟩
    simp only[pA,↓zq,zs,ae,zf]
    exact⟨fun h=>(by cases h),fun _=>rfl⟩
 |
  .list l,hok=>by
  refine JR _ ((cO _).mpr trivial) ?_
  have hd:=nq (.list l)
  have hlen:=kT (.list l)
  have hlen2:∀{l:List E},((AV.v (.string (mk [])))::[AV.sl (E.lV l)]).length=2:=rfl
  simp only[E.at]at hd
  have he:fF []=none:=rfl
  simp only[G4,↓zq,zs,ae,zt,bH,cO,ei,hd]
  refine⟨hlen,fun h=>(by cases h),fun h=>⟨hlen,?_⟩⟩
  refine ai (Ld []) ?_
  rw[he]
  simp only[↓zq,zs,ae,zt,zf,bz]
  refine⟨fun h=>(by cases h),fun _=>ai (sH (.list l) [108] 2 (by omega)) ?_⟩
  have hno:∀w:List UInt8,(∀x a,l≠[x,a])->pA (.list l) w 2=false:=by
   intro w h2
   match l,h2 with
   |[],_=>rfl
   |[x],_=>rfl
   |[x,a],h2=>exact absurd rfl (h2 x a)
   |x::y::z::l,_=>simp[pA]
  match l,hok,hno,hlen with
  |
   [x,a],hok,hno,hlen =>
   clear hno
   obtain⟨ok1,ok2,_⟩:=hok
   have e2:∀w:List UInt8,pA (.list [x,a]) w 2=(x.at==w):=fun w=>rfl
   have e3:pA (.list [x,a]) [112] 3=false:=rfl
   have hx:=nq x
   have hxl:=kT x
   rw[fC]
   simp only[e2,↓zq,zs,ae]
   refine⟨fun h1=>?_,fun h1=>ai (sH (.list [x,a]) [114] 2 (by omega)) ?_⟩
   ·simp only[E.cr,E.lV,toNat_one,↓zq,zs,ae,zt,cO,ei]
    refine⟨by omega,by omega,by omega,ai (yN a ok2) ?_⟩
    cases hv:fC a with
    |none=>simp only[iS,↓zq,zs,ae,gh];exact⟨fun _=>trivial,fun h=>(by cases h)⟩
    |
     some v =>
     simp only[iS,↓zq,zs,ae,zt,aK,fj,hx,h1,cO,ei]
     refine⟨fun h=>(by cases h),fun _=>⟨by omega,by omega,by omega,hxl,by simp,?_⟩⟩
     rfl
   ·simp only[e2,↓zq,zs,ae]
    refine⟨fun h2=>?_,fun h2=>ai (sH (.list [x,a]) [102] 2 (by omega)) ?_⟩
    ·simp only[E.cr,E.lV,toNat_one,↓zq,zs,ae,zt,cO,ei]
     refine⟨by omega,by omega,by omega,ai (yN a ok2) ?_⟩
     cases hv:fC a with
     |none=>simp only[iS,↓zq,zs,ae,gh];exact⟨fun _=>trivial,fun h=>(by cases h)⟩
     |
      some v =>
      simp only[iS,↓zq,zs,ae,zt,aK,fj,hx,h2,cO,ei]
      refine⟨fun h=>(by cases h),fun _=>⟨by omega,by omega,by omega,hxl,by simp,?_⟩⟩
      rfl
    ·simp only[e2,↓zq,zs,ae]
     refine⟨fun h3=>?_,fun h3=>ai (sH (.list [x,a]) [112] 3 (by omega)) ?_⟩
     ·simp only[E.cr,E.lV,toNat_one,↓zq,zs,ae,zt,cO,ei]
      refine⟨by omega,by omega,by omega,ai (yN a ok2) ?_⟩
      cases hv:fC a with
      |none=>simp only[iS,↓zq,zs,ae,gh];exact⟨fun _=>trivial,fun h=>(by cases h)⟩
      |
       some v =>
       simp only[iS,↓zq,zs,ae,zt,aK,fj,hx,h3,cO,ei]
       refine⟨fun h=>(by cases h),fun _=>⟨by omega,by omega,by omega,hxl,by simp,?_⟩⟩
       rfl
     ·rw[e3]
      simp only[↓zq,zs,ae]
      refine⟨fun h=>(by cases h),fun _=>?_⟩
      cases fC a with
      |none=>rfl
      |some v=>simp only[if_neg h1,if_neg h2,if_neg h3];rfl
  |
   [x,a,b],hok,hno,hlen =>
   obtain⟨ok1,ok2,ok3,_⟩:=hok
   have h2:=fun w=>hno w (fun x a h=>(by cases h))
   rw[h2]
   simp only[↓zq,zs,ae]
   refine⟨fun h=>(by cases h),fun _=>ai (sH (.list [x,a,b]) [114] 2 (by omega)) ?_⟩
   rw[h2]
   simp only[↓zq,zs,ae]
   refine⟨fun h=>(by cases h),fun _=>ai (sH (.list [x,a,b]) [102] 2 (by omega)) ?_⟩
   rw[h2]
   simp only[↓zq,zs,ae]
   refine⟨fun h=>(by cases h),fun _=>ai (sH (.list [x,a,b]) [112] 3 (by omega)) ?_⟩
   have e3:pA (.list [x,a,b]) [112] 3=(x.at==[112]):=rfl
   rw[e3,fC]
   simp only[↓zq,zs,ae]
   refine⟨fun h1=>?_,fun h1=>?_⟩
   ·rw[if_pos h1]
    simp only[E.cr,E.lV,toNat_one,bo,↓zq,zs,ae,zt,cO,ei]
    refine⟨by omega,by omega,by omega,ai (yN a ok2) ?_⟩
    simp only[↓zq,zs,ae,gh,cO]
    refine⟨by omega,by omega,by omega,ai (yN b ok3) ?_⟩
    cases hv:fC a with
    |none=>cases hw:fC b<;>simp only[iS,↓zq,zs,ae,gh,aK]<;>exact⟨fun _=>trivial,fun h=>(by cases h)⟩
    |
     some v =>
     cases hw:fC b with
     |
      none =>
      simp only[iS,↓zq,zs,ae,gh,aK,fj]
      exact⟨fun h=>(by cases h),fun _=>⟨fun _=>trivial,fun h=>(by cases h)⟩⟩
     |
      some w =>
      simp only[iS,↓zq,zs,ae,aK,fj]
      refine⟨fun h=>(by cases h),fun _=>⟨fun h=>(by cases h),fun _=>?_⟩⟩
      refine ai (yP _ _ ((aK _).mpr trivial) ((aK _).mpr trivial)) ?_
      simp only[↓zq,zs,ae];rfl
   ·rw[if_neg h1];rfl
  |
   [],hok,hno,hlen =>
   have h2:=fun w=>hno w (fun x a h=>(by cases h))
   have e3:pA (.list []) [112] 3=false:=rfl
   rw[h2]
   simp only[↓zq,zs,ae]
   refine⟨fun h=>(by cases h),fun _=>ai (sH (.list []) [114] 2 (by omega)) ?_⟩
   rw[h2]
   simp only[↓zq,zs,ae]
   refine⟨fun h=>(by cases h),fun _=>ai (sH (.list []) [102] 2 (by omega)) ?_⟩
   rw[h2]
   simp only[↓zq,zs,ae]
   refine⟨fun h=>(by cases h),fun _=>ai (sH (.list []) [112] 3 (by omega)) ?_⟩
   rw[e3]
   simp only[↓zq,zs,ae]
   exact⟨fun h=>(by cases h),fun _=>rfl⟩
  |
   [x],hok,hno,hlen =>
   have h2:=fun w=>hno w (fun x a h=>(by cases h))
   have e3:pA (.list [x]) [112] 3=false:=rfl
   rw[h2]
   simp only[↓zq,zs,ae]
   refine⟨fun h=>(by cases h),fun _=>ai (sH (.list [x]) [114] 2 (by omega)) ?_⟩
   rw[h2]
   simp only[↓zq,zs,ae]
   refine⟨fun h=>(by cases h),fun _=>ai (sH (.list [x]) [102] 2 (by omega)) ?_⟩
   rw[h2]
   simp only[↓zq,zs,ae]
   refine⟨fun h=>(by cases h),fun _=>ai (sH (.list [x]) [112] 3 (by omega)) ?_⟩
   rw[e3]
   simp only[↓zq,zs,ae]
   exact⟨fun h=>(by cases h),fun _=>rfl⟩
  |
   x::y::z::w::l,hok,hno,hlen =>
   have h2:=fun w=>hno w (fun x a h=>(by cases h))
   have e3:pA (.list (x::y::z::w::l)) [112] 3=false:=by simp[pA]
   rw[h2]
   simp only[↓zq,zs,ae]
   refine⟨fun h=>(by cases h),fun _=>ai (sH (.list (x::y::z::w::l)) [114] 2 (by omega)) ?_⟩
   rw[h2]
   simp only[↓zq,zs,ae]
   refine⟨fun h=>(by cases h),fun _=>ai (sH (.list (x::y::z::w::l)) [102] 2 (by omega)) ?_⟩
   rw[h2]
   simp only[↓zq,zs,ae]
   refine⟨fun h=>(by cases h),fun _=>ai (sH (.list (x::y::z::w::l)) [112] 3 (by omega)) ?_⟩
   rw[e3]
   simp only[↓zq,zs,ae]
   exact⟨fun h=>(by cases h),fun _=>rfl⟩
def rO(s:List UInt8):Option Vl:=match qb s with
 |none=>none
 |
  some e=>match fC e with
  |none=>none
  |some v=>if v.nodes>200 then none else some v
theorem lA{s:List UInt8}{v:Vl}(h:rO s=some v):qb s=some v.dM/\v.iE 100/\v.nodes<=200:=by
 unfold rO at h
 split at h
 ·cases h
 ·rename_i e he
  split at h
  ·cases h
  ·rename_i w hw
   split at h
   ·cases h
   ·cases h
    obtain⟨h1,h2⟩:=kI e _ hw
    rw[h1]
    exact⟨he,h2,by omega⟩
theorem wi{e:E}{v:Vl}(h:fC e=some v):v.nodes<=e.sz:=by
 obtain⟨h1,_⟩:=kI e v h
 rw[<-na,h1];exact Bg e
theorem Qt(s:List UInt8):an Tryz.prog 94 [.v (.string (mk s))] [] (bH (iS (rO s))):=by
 refine O8 _ ?_
 unfold HK
 refine ai (J9 s) ?_
 unfold rO
 cases he:qb s with
 |none=>simp only[sZ,↓zq,zs,ae,bH,iS];simp
 |
  some e =>
  obtain⟨h1,h2⟩:=nn he
  simp only[sZ,↓zq,zs,ae,cO,ei]
  refine⟨fun h=>(by cases h),fun _=>?_⟩
  refine ai (yN e h1) ?_
  cases hv:fC e with
  |none=>simp only[iS,↓zq,zs,ae,bH];simp
  |
   some v =>
   have hn:=wi hv
   simp only[iS,↓zq,zs,ae,aK,fj]
   refine⟨fun h=>(by cases h),fun _=>?_⟩
   refine ai (Ep v (by omega)) ?_
   simp only[↓zq,zs,ae,bH]
   refine⟨fun h=>?_,fun h=>?_⟩
   ·rw[if_pos (by omega)]
   ·rw[if_neg (by omega)]
theorem yE:∀(e:E),e.ok->an Tryz.prog 123 [e.j5] [] (bH (.v (.bool (w4 e))))
 |
  .atom s,hok=>by
  refine yU _ _ ((bi).mpr trivial) ?_
  have hne:s≠[]:=hok
  simp only[Fk,↓zq,zs,ae,zt,bH,w4]
  refine⟨fun _=>⟨fun h=>?_,fun h=>?_⟩,fun h=>absurd h hne⟩
  ·simp[h]
  ·refine ai (IX s) ?_
   have h':(s==[117])=false:=by simpa using h
   simp only[↓zq,zs,ae,h',Bool.false_or]
   congr 2
   rw[At]
   cases fF s with
   |none=>rfl
   |some k=>simp
 |
  .list [],hok=>by
  refine yU _ _ ((cg _).mpr trivial) ?_
  simp only[Fk,↓zq,zs,ae,zt,bH,w4]
  refine⟨fun h=>absurd rfl h,fun _=>?_⟩
  refine ai PB ?_
  simp[↓zq,zs,ae,zt]
 |
  .list [x],hok=>by
  refine yU _ _ ((cg _).mpr trivial) ?_
  simp only[Fk,↓zq,zs,ae,zt,bH,w4]
  refine⟨fun h=>absurd rfl h,fun _=>?_⟩
  refine ai (um x _) ?_
  simp[↓zq,zs,ae,zt,E.bm]
 |
  .list (x::y::z::w::l),hok=>by
  refine yU _ _ ((cg _).mpr trivial) ?_
  simp only[Fk,↓zq,zs,ae,zt,bH,w4]
  refine⟨fun h=>absurd rfl h,fun _=>?_⟩
  refine ai (um x _) ?_
  simp only[↓zq,zs,ae,zt,E.bm]
  refine⟨fun _=>⟨fun h=>by omega,fun _=>trivial⟩,fun _=>⟨fun _=>⟨fun h=>by omega,fun _=>trivial⟩,fun _=>⟨fun _=>⟨fun h=>by omega,fun _=>trivial⟩,fun _=>⟨fun _=>⟨fun h=>by omega,fun _=>trivial⟩,fun _=>trivial⟩⟩⟩⟩
 |
  .list [x,a],hok=>by
  refine yU _ _ ((cg _).mpr trivial) ?_
  obtain⟨ok1,ok2,_⟩:=hok
  simp only[Fk,↓zq,zs,ae,zt,bH,w4]
  refine⟨fun h=>absurd rfl h,fun _=>?_⟩
  refine ai (um x _) ?_
  simp only[E.bm,toNat_one,bo,↓zq,zs,ae,zt,iv,fW,iA,lZ,aw]
  refine⟨fun h=>⟨fun _=>⟨by omega,?_⟩,fun h=>by omega⟩,fun h1=>⟨fun h=>⟨fun _=>⟨by omega,?_⟩,fun h=>by omega⟩,fun h2=>⟨fun h=>⟨fun _=>⟨by omega,?_⟩,fun h=>by omega⟩,fun h3=>⟨fun h=>⟨fun h=>by omega,fun _=>?_⟩,fun h=>?_⟩⟩⟩⟩
  ·refine ai (yE a ok2) ?_
   simp[↓zq,zs,ae,h]
  ·refine ai (yE a ok2) ?_
   simp[↓zq,zs,ae,h]
  ·refine ai (yE a ok2) ?_
   simp[↓zq,zs,ae,h]
  ·simp[h]
  ·simp[h1,h2,h3]
 |
  .list [x,a,b],hok=>by
  refine yU _ _ ((cg _).mpr trivial) ?_
  obtain⟨ok1,ok2,ok3,_⟩:=hok
  simp only[Fk,↓zq,zs,ae,zt,bH,w4]
  refine⟨fun h=>absurd rfl h,fun _=>?_⟩
  refine ai (um x _) ?_
  simp only[E.bm,toNat_one,bo,↓zq,zs,ae,zt,iv,fW,iA,lZ,aw]
  refine⟨fun h=>⟨fun h=>by omega,fun _=>?_⟩,fun h1=>⟨fun h=>⟨fun h=>by omega,fun _=>?_⟩,fun h2=>⟨fun h=>⟨fun h=>by omega,fun _=>?_⟩,fun h3=>⟨fun h=>⟨fun _=>⟨by omega,?_⟩,fun h=>by omega⟩,fun h=>?_⟩⟩⟩⟩
  ·simp[h]
  ·simp[h]
  ·simp[h]
  ·refine ai (yE a ok2) ?_
   simp only[↓zq,zs,ae,h]
   refine⟨fun ha=>⟨by omega,ai (yE b ok3) ?_⟩,fun ha=>?_⟩
   ·simp[↓zq,zs,ae,ha]
   ·simp[ha]
  ·simp[h]
theorem E2(s:List UInt8):an Tryz.prog 89 [.v (.string (mk s))] [] (jQ ((rO s).map Vl.dM) (rO s).isSome):=by
 refine O1 _ ?_
 unfold Lu
 refine aO (Mn s) (jQ.ne _ _ (fun h=>h)) ?_
 rintro r o ⟨c,d,hd,rfl,hh⟩
 simp only[↓zq,zs,ae,zt,bw,rO]
 refine⟨hd,fun h=>?_,fun h=>?_⟩
 ·obtain⟨e,he,hce⟩:=hh h
  obtain⟨hok,hsz⟩:=nn he
  rw[he,hce]
  refine ai (yE e hok) ?_
  simp only[↓zq,zs,ae]
  have hs:=oB e
  refine⟨fun hi=>?_,fun hi=>?_⟩
  ·rw[hi]at hs
   obtain⟨v,hv⟩:=cB.1 hs
   obtain⟨h1,h2⟩:=kI e v hv
   refine ai (PT e (by omega)) ?_
   simp only[↓zq,zs,ae,hv]
   have hnd:e.nd=v.nodes:=by rw[<-h1,na]
   rw[hnd]
   refine⟨c,d,hd,?_,?_⟩
   ·rw[hce]
    by_cases h4:v.nodes>200
    ·rw[if_pos h4];exact congrArg (fun b=>AV.cA [e.j5,.v (.bool b)]) (decide_eq_false (show ¬((v.nodes:Nat):Int)<=200 by omega))
    ·rw[if_neg h4];exact congrArg (fun b=>AV.cA [e.j5,.v (.bool b)]) (decide_eq_true (show ((v.nodes:Nat):Int)<=200 by omega))
   ·split
    ·exact fun h=>by cases h
    ·exact fun _=>⟨e,by simp[h1],hce⟩
  ·rw[hi]at hs
   have hn:fC e=none:=by cases hq:fC e<;>simp[hq]at hs |-
   rw[hn]
   exact⟨c,d,hd,by rw[hce];rfl,fun h=>by cases h⟩
 ·have hn:qb s=none:=by cases hq:qb s<;>simp[hq]at h |-
  rw[hn]
  exact⟨c,d,hd,rfl,fun h=>by cases h⟩
end Go.Proofs.Trees
namespace Go.Proofs.Trees
open Go Go.VL Go.RowKit
inductive Fr where
 |mk (s:List UInt8) (e:E) (o:List Fr)
def Fr.nm:Fr->List UInt8| .mk s _ _=>s
def Fr.ex:Fr->E| .mk _ e _=>e
def Fr.out:Fr->List Fr| .mk _ _ o=>o
def names:List Fr->List (List UInt8)
 |[]=>[]
 |f::r=>names r++[f.nm]
def xQ(e:E)(o:List Fr):Ty:=(cZ e (names o)).getD .zero
def E.sp:E->AV
 | .atom _=>.v (.slice none 0 0)
 | .list l=>.sl (E.bm l)
theorem fA(e:E):e.gX=[.v (.string (mk e.at)),e.sp]:=by cases e<;>rfl
theorem dx(e:E):e.j5=.agg [.v (.string (mk e.at)),e.sp]:=by cases e<;>rfl
theorem bg(e:E):LK.has .sl e.sp=True:=by cases e<;>simp[E.sp,bi,cg]
mutual
def Fr.cells:Fr->List AV
 | .mk s e o=>[.v (.string (mk s)),.v (.string (mk e.at)),e.sp,.sl (jP o)]
def jP:List Fr->List (List AV)
 |[]=>[]
 |f::r=>jP r++[f.cells]
end
mutual
def Fr.cr:Fr->AV
 | .mk s e o=>.ptr [(xQ e o).av,nQ o]
def nQ:List Fr->AV
 |[]=>gy
 |f::r=>.ptr [f.cr,nQ r]
end
inductive WF:List Fr->Prop
 |nil:WF []
 |cons {s:List UInt8} {x a b:E} {t:Ty} {r:List Fr} (hs:dz s=true) (hok:(E.list [x,a,b]).ok) (hx:x.at=[114,101,99]) (ht:cZ (.list [x,a,b]) (names r)=some t) (hf:bV t=false) (hr:WF r):WF (.mk s (.list [x,a,b]) r::r)
theorem kq:∀env:List Fr,(jP env).length=env.length
 |[]=>rfl
 |f::r=>by simp[jP,kq r]
theorem eu(env:List Fr):LK.has .ptr (nQ env)=True:=by cases env<;>simp[nQ,gV,bU]
theorem zQ(f:Fr):LK.has .ptr f.cr=True:=by cases f;simp[Fr.cr,bU]
def fK(s:List UInt8):List Fr->Option Fr
 |[]=>none
 |f::r=>if f.nm=s then some f else fK s r
def hd(e:E)(env:List Fr):E×List Fr:=match fK e.at env with|some f=>(f.ex,f.out)|none=>(e,env)
theorem mM{env:List Fr}(h:WF env):fK [] env=none:=by
 induction h with
 |nil=>rfl
 |
  @cons s x a b t r hs hok hx ht hf hr ih =>
  rw[fK,if_neg (show ¬(Fr.mk s (.list [x,a,b]) r).nm=[] from AI hs)];exact ih
theorem yq{env:List Fr}(h:WF env){s:List UInt8}{f:Fr}(hf:fK s env=some f):dz s=true:=by
 induction h with
 |nil=>cases hf
 |
  cons hs hok hx ht hf' hr ih =>
  rw[fK]at hf
  split at hf
  ·rename_i e;exact e ▸ hs
  ·exact ih hf
theorem ol{env:List Fr}(h:WF env){s:List UInt8}{f:Fr}(hf:fK s env=some f):∃x a b t,f.ex=.list [x,a,b]/\(E.list [x,a,b]).ok/\x.at=[114,101,99]/\cZ f.ex (names f.out)=some t/\bV t=false/\WF f.out/\f.out.length<env.length:=by
 induction h with
 |nil=>cases hf
 |
  cons hs hok hx ht hf' hr ih =>
  rw[fK]at hf
  split at hf
  ·cases hf;exact⟨_,_,_,_,rfl,hok,hx,ht,hf',hr,by simp[Fr.out]⟩
  ·obtain⟨x,a,b,t,h1,h2,h3,h4,h5,h6,h7⟩:=ih hf
   exact⟨x,a,b,t,h1,h2,h3,h4,h5,h6,by simp;omega⟩
theorem mn(s w:List UInt8)(ar:List (List UInt8)):∀i,i<=ar.length->cc s (ar++[w]) i=(cc s ar i).map (·+1)
 |0,_=>rfl
 |
  i+1,hi=>by
  have hlt:i<ar.length:=by omega
  have e:(ar++[w]).getD i []=ar.getD i []:=by simp[aa,List.getElem?_append_left hlt]
  rw[cc,cc,e,mn s w ar i (by omega)]
  split
  ·simp only[ap,au,aG,cn,Option.some.injEq];omega
  ·rfl
theorem uS(s:List UInt8)(f:Fr)(r:List Fr):cc s (names (f::r)) (names (f::r)).length=if f.nm=s then some 0 else(cc s (names r) (names r).length).map (·+1):=by
 have e:(names (f::r)).length=(names r).length+1:=by simp[names]
 rw[e,cc]
 have e2:(names (f::r)).getD (names r).length []=f.nm:=by simp[names,aa]
 rw[e2]
 split
 ·rw[e];simp
 ·rw[names,mn _ _ _ _ (aw _)]
theorem ov(s:List UInt8):∀env:List Fr,cc s (names env) (names env).length=none/\fK s env=none\/∃(u:Nat) (f:Fr),cc s (names env) (names env).length=some u/\fK s env=some f/\env[u]?=some f
 |[]=>.inl ⟨rfl,rfl⟩
 |
  f::r=>by
  rw[uS,fK]
  split
  ·exact .inr ⟨0,f,rfl,rfl,rfl⟩
  ·rcases ov s r with⟨h1,h2⟩|⟨u,g,h1,h2,h3⟩
   ·exact .inl ⟨by rw[h1];rfl,h2⟩
   ·exact .inr ⟨u+1,g,by rw[h1];rfl,h2,by simpa using h3⟩
def Ty.ML:Ty->Bool
 | .bP _=>true
 |_=>false
theorem gZ{e:E}{env:List Fr}{t:Ty}(hw:WF env)(ht:cZ e (names env)=some t) :
 (t.ML=false/\fK e.at env=none)\/∃(u:Nat) (f:Fr),t=.bP u/\fK e.at env=some f/\env[u]?=some f:=by
 cases e with
 |
  list l =>
  left
  refine⟨?_,mM hw⟩
  match l,ht with
  |
   [x,a,b],ht =>
   by_cases h0:x.at=[43]
   ·obtain⟨t1,t2,_,_,rfl⟩:=ga h0 ht;rfl
   ·by_cases h1:x.at=[42]
    ·obtain⟨t1,t2,_,_,rfl⟩:=fN h1 ht;rfl
    ·by_cases h2:x.at=[114,101,99]
     ·obtain⟨t1,_,_,rfl⟩:=dV h2 ht;rfl
     ·rw[jm _ h0 h1 h2]at ht;cases ht
  |[],ht=>cases ht
  |[_],ht=>cases ht
  |[_,_],ht=>cases ht
  |_::_::_::_::_,ht=>cases ht
 |
  atom s =>
  simp only[cZ]at ht
  have hno:dz s=false->fK s env=none:=fun h=>by
   cases hq:fK s env with
   |none=>rfl
   |some f=>rw[yq hw hq]at h;cases h
  split at ht
  ·rename_i h;cases ht;subst h;exact .inl ⟨rfl,hno rfl⟩
  ·split at ht
   ·rename_i h;cases ht;subst h;exact .inl ⟨rfl,hno rfl⟩
   ·split at ht
    ·rename_i h
     cases ht
     refine .inl ⟨rfl,hno ?_⟩
     cases hq:dz s with
     |false=>rfl
     |
      true =>
      obtain⟨c,r,rfl,h1,h2⟩:=kY h
      obtain⟨c',r',he,h3,h4⟩:=kY hq
      cases he;omega
    ·split at ht
     ·rcases ov s env with⟨h1,h2⟩|⟨u,f,h1,h2,h3⟩
      ·rw[h1]at ht;cases ht;exact .inl ⟨rfl,h2⟩
      ·rw[h1]at ht;cases ht;exact .inr ⟨u,f,rfl,h2,h3⟩
     ·cases ht
def fD(n:Nat):Vl->E×List Fr->Bool
 | .u,p=>match hd p.1 p.2 with|(.atom s,_)=>s==[49]|_=>false
 | .el k,p=>match hd p.1 p.2 with|(.atom s,_)=>!(s==[49])&&(io s&&decide (k<n))|_=>false
 | .l w,p=>match hd p.1 p.2 with|(.list [x,a,b],o)=>(x.at==[43])&&fD n w (a,o)|_=>false
 | .r w,p=>match hd p.1 p.2 with|(.list [x,a,b],o)=>(x.at==[43])&&fD n w (b,o)|_=>false
 | .f w,p=>match hd p.1 p.2 with|(.list [x,a,b],o)=>(x.at==[114,101,99])&&fD n w (b,.mk a.at (.list [x,a,b]) o::o)|_=>false
 | .p v w,p=>match hd p.1 p.2 with|(.list [x,a,b],o)=>(x.at==[42])&&(fD n v (a,o)&&fD n w (b,o))|_=>false
theorem lm{e:E}{env:List Fr}(h:fK e.at env=none):hd e env=(e,env):=by rw[hd,h]
theorem qp{e:E}{env:List Fr}{f:Fr}(h:fK e.at env=some f):hd e env=(f.ex,f.out):=by rw[hd,h]
theorem oT{x a b:E}{o:List Fr}(h:WF o):hd (.list [x,a,b]) o=(.list [x,a,b],o):=lm (mM h)
theorem tG(n:Nat)(v:Vl){e e':E}{env o:List Fr}(h:hd e env=(e',o))(h':hd e' o=(e',o)):fD n v (e,env)=fD n v (e',o):=by
 cases v<;>simp only[fD,h,h']
theorem jG{x a b:E}{env:List Fr}{t:Ty}(hw:WF env)(hok:(E.list [x,a,b]).ok)(hx:x.at=[114,101,99])(ht:cZ (.list [x,a,b]) (names env)=some t)(hf:bV t=false) :
 ∃t1,t=.rc t1/\cZ b (names (.mk a.at (.list [x,a,b]) env::env))=some t1/\bV t1=false/\WF (.mk a.at (.list [x,a,b]) env::env):=by
 obtain⟨t1,hl,h1,rfl⟩:=dV hx ht
 exact⟨t1,rfl,h1,hf,.cons hl hok hx ht hf hw⟩
theorem yQ(a b env:AV)(n:Int)(s:ByteArray)(u:Int)(ha:LK.ptr.has a)(he:LK.ptr.has env):an Tryz.prog 113 [.agg [.ptr [.v (.int .u8 n),.v (.string s),.v (.int .i64 u),a,b],env]] [] (bH (.agg [a,env])):=by
 refine OW _ _ ((bU _).mpr trivial) he ?_
 simp only[Hh,↓zq,zs,ae,bH]
 exact⟨ha,by omega⟩
theorem yL(a b env:AV)(n:Int)(s:ByteArray)(u:Int)(hb:LK.ptr.has b)(he:LK.ptr.has env):an Tryz.prog 114 [.agg [.ptr [.v (.int .u8 n),.v (.string s),.v (.int .i64 u),a,b],env]] [] (bH (.agg [b,env])):=by
 refine OE _ _ ((bU _).mpr trivial) he ?_
 simp only[Ij,↓zq,zs,ae,bH]
 exact⟨hb,by omega⟩
theorem Nf(t:Ty)(env:List Fr)(s:List UInt8)(e:E)(ht:xQ e env=.rc t):an Tryz.prog 86 [.agg [(Ty.rc t).av,nQ env]] [] (bH (.cA [.agg [t.av,nQ (.mk s e env::env)],(Fr.mk s e env).cr])):=by
 refine Qg _ _ ((aE _).mpr trivial) ((eu _).mpr trivial) ?_
 simp only[J7,Ty.av,↓zq,zs,ae,aE,bH,nQ,Fr.cr,ht]
 omega
theorem sk(env:List Fr)(i:Nat)(f:Fr)(h:env[i]?=some f):nQ (env.drop i)=.ptr [f.cr,nQ (env.drop (i+1))]:=by
 obtain⟨hlt,he⟩:=List.getElem?_eq_some_iff.1 h
 rw[aU hlt,he,nQ]
theorem Jp(env:List Fr)(u:Nat)(hu:u<env.length)(hl:env.length<1000000):∀(k i:Nat),i+k=u->Cl [nQ (env.drop i),.v (.int .i64 (u:Int)),.v (.int .i64 (i:Int))] [] (jq 1 [nQ (env.drop u)] [])
 |
  0,i,hi=>by
  refine C7 _ _ _ ?_
  have:i=u:=by omega
  subst this
  simp only[AD,↓zq,zs,ae,eu]
  exact⟨fun h=>by omega,fun _=>by simp[jq]⟩
 |
  k+1,i,hi=>by
  refine C7 _ _ _ ?_
  have hlt:i<env.length:=by omega
  have hg:env[i]?=some env[i]:=bf hlt
  have hd:=sk env i _ hg
  rw[hd]
  simp only[AD,↓zq,zs,ae,eu]
  refine⟨fun _=>⟨by omega,?_⟩,fun h=>by omega⟩
  rw[bN i (by omega)]
  exact Jp env u hu hl k (i+1) (by omega)
theorem OS(env:List Fr)(u:Nat)(f:Fr)(hf:env[u]?=some f)(hl:env.length<1000000):an Tryz.prog 131 [.agg [(Ty.bP u).av,nQ env]] [] (bH f.cr):=by
 refine Jq _ _ ((aE _).mpr trivial) ((eu _).mpr trivial) ?_
 obtain⟨hlt,he⟩:=List.getElem?_eq_some_iff.1 hf
 simp only[D3,Ty.av,↓zq,zs,ae]
 refine⟨by omega,?_⟩
 have h:=Jp env u hlt hl u 0 (by omega)
 simp only[bx]at h
 refine cR h ?_
 rw[sk env u f hf]
 simp only[↓zq,zs,ae,zQ,bH]
 omega
theorem B8(k:Nat)(h:k<100):Lib.atoi (dd k)=some (k:Int):=by
 have e:∀k,k<100->dd k=if k<10 then [ba (48+k)]else [ba (48+k/10),ba (48+k%10)]:=by
  intro k hk
  by_cases h1:k<10
  ·rw[eG h1,if_pos h1]
  ·rw[fE h1,eG (by omega),if_neg h1];rfl
 have key:∀k:Fin 100,Lib.atoi (if k.val<10 then [ba (48+k.val)]else [ba (48+k.val/10),ba (48+k.val%10)])=some (k.val:Int):=by decide +kernel
 rw[e k h];exact key ⟨k,h⟩
theorem O9(k:Nat)(hk:k<100):an Tryz.prog 130 [.v (.string (mk (dd k)))] [] (bH (.cA [.v (.int .i64 (k:Int)),.v .nilIface])):=by
 have hl:=l8 1000 k (by omega)
 have hl2:(dd k).length<=18:=by
  have e:(dd k).length<=2:=by
   by_cases h1:k<10
   ·rw[eG h1];simp
   ·rw[fE h1,eG (by omega)];simp
  omega
 refine an.MS (xs:=[.string (mk (dd k))]) (v:=.tuple #[.int .i64 (k:Int),.nilIface]) ⟨p6,by kernel_rfl,by kernel_rfl,by kernel_rfl⟩ (fun M=>?_) fun w=>?_
 ·refine bu.cA _ _ [.int .i64 (k:Int),.nilIface] rfl fun i hi=>?_
  match i,hi with
  |0,_=>exact .v _ _
  |1,_=>exact .v _ _
 ·have:=Any.strconv_Atoi Tryz.BL (mk (dd k)) (k:Int) (by rw[cD];exact hl2) (by
   have:(mk (dd k)).data.toList=dd k:=by simp[mk]
   rw[this];exact B8 k hk) w
  refine Calls.mono this fun e w' ⟨h1,t,h2⟩=>⟨h1,?_⟩
  subst h2
  refine⟨rfl,rfl,rfl,?_,fun b hb=>Lib.bytesWorld_at_old _ _ _ _ hb⟩
  simp[Lib.bytesWorld,World.freeze]
end Go.Proofs.Trees
namespace Go.Proofs.Trees
open Go Go.VL Go.RowKit
theorem fR{a b:Ty}(h:bV (.plus a b)=false):bV a=false/\bV b=false:=by simpa[bV]using h
theorem fu{a b:Ty}(h:bV (.times a b)=false):bV a=false/\bV b=false:=by simpa[bV]using h
theorem fU{e:E}{ar:List (List UInt8)}{t:Ty}(ht:cZ e ar=some t)(hb:t.ML=false)(hf:bV t=false) :
 (e=.atom [48]/\t=.zero)\/(e=.atom [49]/\t=.one)\/(∃s,e=.atom s/\t=.name s/\io s=true/\s≠[48]/\s≠[49]) ∨
 (∃x a b t1 t2,e=.list [x,a,b]/\x.at=[43]/\t=.plus t1 t2/\cZ a ar=some t1/\cZ b ar=some t2) ∨
 (∃x a b t1 t2,e=.list [x,a,b]/\x.at=[42]/\t=.times t1 t2/\cZ a ar=some t1/\cZ b ar=some t2) ∨
 (∃x a b t1,e=.list [x,a,b]/\x.at=[114,101,99]/\t=.rc t1):=by
 cases e with
 |
  list l =>
  match l,ht with
  |
   [x,a,b],ht =>
   by_cases h0:x.at=[43]
   ·obtain⟨t1,t2,h1,h2,rfl⟩:=ga h0 ht
    exact .inr (.inr (.inr (.inl ⟨x,a,b,t1,t2,rfl,h0,rfl,h1,h2⟩)))
   ·by_cases h1:x.at=[42]
    ·obtain⟨t1,t2,h3,h2,rfl⟩:=fN h1 ht
     exact .inr (.inr (.inr (.inr (.inl ⟨x,a,b,t1,t2,rfl,h1,rfl,h3,h2⟩))))
    ·by_cases h2:x.at=[114,101,99]
     ·obtain⟨t1,_,_,rfl⟩:=dV h2 ht
      exact .inr (.inr (.inr (.inr (.inr ⟨x,a,b,t1,rfl,h2,rfl⟩))))
     ·rw[jm _ h0 h1 h2]at ht;cases ht
  |[],ht=>cases ht
  |[_],ht=>cases ht
  |[_,_],ht=>cases ht
  |_::_::_::_::_,ht=>cases ht
 |
  atom s =>
  simp only[cZ]at ht
  split at ht
  ·rename_i h;cases ht;subst h;exact .inl ⟨rfl,rfl⟩
  ·rename_i h0
   split at ht
   ·rename_i h;cases ht;subst h;exact .inr (.inl ⟨rfl,rfl⟩)
   ·rename_i h1
    split at ht
    ·rename_i h;cases ht;exact .inr (.inr (.inl ⟨s,rfl,rfl,h,h0,h1⟩))
    ·split at ht
     ·rename_i h
      split at ht
      ·cases ht;cases hb
      ·cases ht;simp only[bV]at hf;rw[h]at hf;cases hf
     ·cases ht
def pw(n:Nat)(v:Vl)(e:E)(env:List Fr)(t:Ty):Prop:=an Tryz.prog 95 [.agg [t.av,nQ env],v.cr,.v (.int .i64 (n:Int))] [] (bH (.v (.bool (fD n v (e,env)))))
structure Ask(e:E)(env:List Fr)(t:Ty):Prop where
 ok:e.ok
 wf:WF env
 ty:cZ e (names env)=some t
 cl:bV t=false
theorem KF(n:Nat)(hn:n<=100)(v:Vl)(hv:v.iE 100)(IH:∀w:Vl,w.nodes<v.nodes->w.iE 100->∀e env t,Ask e env t->env.length+w.nodes<100000->pw n w e env t)
 (e:E) (env:List Fr) (t:Ty) (A:Ask e env t) (hl:env.length+v.nodes<100000) (hb:t.ML=false) (hh:fK e.at env=none):pw n v e env t:=by
 have hhd:hd e env=(e,env):=lm hh
 unfold pw
 refine KK _ _ _ _ ((aE _).mpr trivial) ((eu _).mpr trivial) ((aK _).mpr trivial) ?_
 rcases fU A.ty hb A.cl with⟨rfl,rfl⟩|⟨rfl,rfl⟩|⟨s,rfl,rfl,hp,h0,h1⟩|⟨x,a,b,t1,t2,rfl,hx,rfl,ha,hbb⟩|⟨x,a,b,t1,t2,rfl,hx,rfl,ha,hbb⟩|⟨x,a,b,t1,rfl,hx,rfl⟩
 ·have hp0:io [48]=false:=rfl
  cases v<;>simp[zy,Ty.av,↓zq,zs,ae,bH,fD,hhd,hp0]
 ·have hp0:io [49]=false:=rfl
  cases v<;>simp[zy,Ty.av,Vl.cr,↓zq,zs,ae,bH,fD,hhd,hp0]
 ·have h1':(s==[49])=false:=by simpa using h1
  cases v with
  |
   el k =>
   have hk:k<100:=hv
   simp only[zy,Ty.av,Vl.cr,↓zq,zs,ae,zt]
   refine⟨by omega,fun h=>by omega,fun _=>⟨fun _=>⟨by omega,fun h=>absurd rfl h,fun _=>⟨by omega,by omega,?_⟩⟩,fun h=>absurd rfl h⟩⟩
   have e1:(List.take ((dd k).length+1) (wk k)).drop (bA 1)=dd k:=by simp[wk]
   rw[e1]
   refine ai (O9 k hk) ?_
   simp only[↓zq,zs,ae,bH,fD,hhd,h1',hp,zf]
   refine⟨rfl,?_⟩
   congr 2
   rw[cw];simp
  |
   _ =>
   simp only[zy,Ty.av,Vl.cr,↓zq,zs,ae,zt,fD,hhd,h1',bH]
   exact⟨by omega,fun h=>by omega,fun _=>⟨fun _=>⟨by omega,fun _=>trivial,fun h=>by omega⟩,fun h=>absurd rfl h⟩⟩
 ·have hok:=A.ok
  obtain⟨ok1,ok2,ok3,_⟩:=hok
  obtain⟨f1,f2⟩:=fR A.cl
  cases v with
  |
   l w =>
   simp only[Vl.nodes]at hl
   simp only[zy,Ty.av,Vl.cr,↓zq,zs,ae]
   refine⟨by omega,fun h=>by omega,fun _=>⟨fun h=>by omega,fun _=>⟨fun h=>by omega,fun _=>⟨fun _=>⟨by omega,fun _=>?_,fun h=>absurd rfl h⟩,fun h=>absurd rfl h⟩⟩⟩⟩
   refine ai (yQ _ _ _ _ _ _ ((aE _).mpr trivial) ((eu _).mpr trivial)) ?_
   simp only[↓zq,zs,ae,bw,aE,eu,aK]
   refine⟨by omega,?_⟩
   refine ai (IH w (by simp only[Vl.nodes];omega) hv a env t1 ⟨ok2,A.wf,ha,f1⟩ (by omega)) ?_
   simp only[↓zq,zs,ae,bH,fD,hhd,hx]
   refine⟨fun h=>?_,fun h=>⟨by omega,fun h=>by omega,fun _=>?_⟩⟩
   ·simp[h]
   ·simp[h]
  |
   r w =>
   simp only[Vl.nodes]at hl
   simp only[zy,Ty.av,Vl.cr,↓zq,zs,ae]
   refine⟨by omega,fun h=>by omega,fun _=>⟨fun h=>by omega,fun _=>⟨fun h=>by omega,fun _=>⟨fun _=>⟨by omega,fun h=>by omega,fun _=>⟨by omega,fun _=>?_,fun h=>absurd rfl h⟩⟩,fun h=>absurd rfl h⟩⟩⟩⟩
   refine ai (yL _ _ _ _ _ _ ((aE _).mpr trivial) ((eu _).mpr trivial)) ?_
   simp only[↓zq,zs,ae,bw,aE,eu,aK]
   refine⟨by omega,?_⟩
   refine ai (IH w (by simp only[Vl.nodes];omega) hv b env t2 ⟨ok3,A.wf,hbb,f2⟩ (by omega)) ?_
   simp[↓zq,zs,ae,bH,fD,hhd,hx]
  |
   _ =>
   simp only[zy,Ty.av,Vl.cr,↓zq,zs,ae,fD,hhd,bH]
   exact⟨by omega,fun h=>by omega,fun _=>⟨fun h=>by omega,fun _=>⟨fun h=>by omega,fun _=>⟨fun _=>⟨by omega,fun h=>by omega,fun _=>⟨by omega,fun h=>by omega,fun _=>by simp[hx]⟩⟩,fun h=>absurd rfl h⟩⟩⟩⟩
 ·have hok:=A.ok
  obtain⟨ok1,ok2,ok3,_⟩:=hok
  obtain⟨f1,f2⟩:=fu A.cl
  cases v with
  |
   p v w =>
   simp only[Vl.nodes]at hl
   simp only[zy,Ty.av,Vl.cr,↓zq,zs,ae]
   refine⟨by omega,fun h=>by omega,fun _=>⟨fun h=>by omega,fun _=>⟨fun h=>by omega,fun _=>⟨fun h=>by omega,fun _=>⟨fun _=>⟨by omega,fun _=>?_,fun h=>absurd rfl h⟩,fun h=>absurd rfl h⟩⟩⟩⟩⟩
   refine ai (yQ _ _ _ _ _ _ ((aE _).mpr trivial) ((eu _).mpr trivial)) ?_
   simp only[↓zq,zs,ae,bw,aE,eu,aK]
   refine⟨by omega,?_⟩
   refine ai (IH v (by simp only[Vl.nodes];omega) hv.1 a env t1 ⟨ok2,A.wf,ha,f1⟩ (by omega)) ?_
   simp only[↓zq,zs,ae,bH,fD,hhd,hx]
   refine⟨fun h=>?_,fun h=>?_⟩
   ·refine ai (yL _ _ _ _ _ _ ((aE _).mpr trivial) ((eu _).mpr trivial)) ?_
    simp only[↓zq,zs,ae,bw,aE,eu,aK]
    refine⟨by omega,?_⟩
    refine ai (IH w (by simp only[Vl.nodes];omega) hv.2 b env t2 ⟨ok3,A.wf,hbb,f2⟩ (by omega)) ?_
    simp[↓zq,zs,ae,h]
   ·simp[h]
  |
   _ =>
   simp only[zy,Ty.av,Vl.cr,↓zq,zs,ae,fD,hhd,bH]
   exact⟨by omega,fun h=>by omega,fun _=>⟨fun h=>by omega,fun _=>⟨fun h=>by omega,fun _=>⟨fun h=>by omega,fun _=>⟨fun _=>⟨by omega,fun h=>by omega,fun _=>by simp[hx]⟩,fun h=>absurd rfl h⟩⟩⟩⟩⟩
 ·obtain⟨t1',he1,h1,f1,hw1⟩:=jG A.wf A.ok hx A.ty A.cl
  cases he1
  have hok:=A.ok
  obtain⟨ok1,ok2,ok3,_⟩:=hok
  have htD:xQ (.list [x,a,b]) env=.rc t1:=by rw[xQ,A.ty];rfl
  have hin:=Nf t1 env a.at (.list [x,a,b]) htD
  simp only[Ty.av]at hin
  simp only[zy,Ty.av,↓zq,zs,ae]
  refine⟨by omega,fun h=>by omega,fun _=>⟨fun h=>by omega,fun _=>⟨fun h=>by omega,fun _=>⟨fun h=>by omega,fun _=>⟨fun h=>by omega,fun _=>⟨fun _=>?_,fun h=>absurd rfl h⟩⟩⟩⟩⟩⟩
  refine ai hin ?_
  simp only[↓zq,zs,ae,bw,aE,eu,zQ,aK,fj]
  cases v with
  |
   f w =>
   simp only[Vl.nodes]at hl
   simp only[Vl.cr,↓zq,zs,ae,aK]
   refine⟨by omega,fun _=>⟨by omega,?_⟩,fun h=>absurd rfl h⟩
   refine ai (IH w (by simp only[Vl.nodes];omega) hv b (.mk a.at (.list [x,a,b]) env::env) t1 ⟨ok3,hw1,h1,f1⟩ (by simp;omega)) ?_
   simp[↓zq,zs,ae,bH,fD,hhd,hx]
  |
   _ =>
   simp only[Vl.cr,↓zq,zs,ae,fD,hhd,bH]
   exact⟨by omega,fun h=>by omega,fun _=>by simp[hx]⟩
theorem Lz(n:Nat)(hn:n<=100):∀(m:Nat) (v:Vl),v.nodes<m->v.iE 100->∀e env t,Ask e env t->env.length+v.nodes<100000->pw n v e env t
 |0,v,h,_=>by omega
 |
  m+1,v,h,hv=>by
  intro e env t A hl
  have IH:∀w:Vl,w.nodes<v.nodes->w.iE 100->∀e env t,Ask e env t->env.length+w.nodes<100000->pw n w e env t:=fun w hw hb=>Lz n hn m w (by omega) hb
  rcases gZ A.wf A.ty with⟨hb,hh⟩|⟨u,f,rfl,hh,hu⟩
  ·exact KF n hn v hv IH e env t A hl hb hh
  ·obtain⟨x,a,b,t',hfe,hok,hx,ht',hf',hwf,hlt⟩:=ol A.wf hh
   obtain⟨t1,hl1,h1,rfl⟩:=dV hx (hfe ▸ ht')
   have hvis:fD n v (e,env)=fD n v (f.ex,f.out):=tG n v (qp hh) (by rw[hfe];exact oT hwf)
   unfold pw
   refine KK _ _ _ _ ((aE _).mpr trivial) ((eu _).mpr trivial) ((aK _).mpr trivial) ?_
   have hbd:=OS env u f hu (by omega)
   simp only[Ty.av]at hbd
   simp only[zy,Ty.av,↓zq,zs,ae]
   refine⟨by omega,fun h=>by omega,fun _=>⟨fun h=>by omega,fun _=>⟨fun _=>?_,fun h=>absurd rfl h⟩⟩⟩
   refine ai hbd ?_
   cases f with
   |
    mk s ee oo =>
    simp only[Fr.ex,Fr.out]at hfe ht' hf' hwf hvis hlt
    have htD:xQ ee oo=.rc t1:=by rw[xQ,ht'];rfl
    simp only[Fr.cr,htD,↓zq,zs,ae,bw,aE,eu]
    refine⟨by omega,?_⟩
    have hs:=KF n hn v hv IH ee oo (.rc t1) ⟨by rw[hfe];exact hok,hwf,ht',hf'⟩ (by omega) rfl (by rw[hfe];exact mM hwf)
    unfold pw at hs
    refine ai hs ?_
    simp[↓zq,zs,ae,bH,hvis]
end Go.Proofs.Trees
namespace Go.Proofs.Trees
open Go Go.VL Go.RowKit
theorem sW:∀(env:List Fr) (k:Nat) (f:Fr),env[k]?=some f->(jP env).getD (env.length-1-k) []=f.cells
 |[],k,f,h=>by cases h
 |
  g::r,0,f,h=>by
  cases h
  have:(g::r).length-1-0=(jP r).length:=by simp[kq]
  rw[this,jP];simp[aa]
 |
  g::r,k+1,f,h=>by
  have h':r[k]?=some f:=by simpa using h
  have hlt:=(List.getElem?_eq_some_iff.1 h').1
  have e:(g::r).length-1-(k+1)=r.length-1-k:=by simp;omega
  have:=sW r k f h'
  rw[e,jP,aa,List.getElem?_append_left (by rw[kq];omega),<-aa]
  exact this
theorem rN(f:Fr):f.cells=[.v (.string (mk f.nm)),.v (.string (mk f.ex.at)),f.ex.sp,.sl (jP f.out)]:=by cases f;rfl
theorem Kl(e:E)(env:List Fr)(hl:env.length<1000000):∀(j k:Nat),k+j=env.length->GD [.sl (jP env),.v (.int .i64 ((env.length:Int)-1-(k:Int)))] [.cells [.v (.string (mk e.at)),e.sp],.cells [.v (.string (mk [])),.v (.slice none 0 0)]]
 (ou (match fK e.at (env.drop k)with|some f=>(2,[.sl (jP f.out)],[.cells [.v (.string (mk f.ex.at)),f.ex.sp]])|none=>(1,[.sl (jP env)],[.cells [.v (.string (mk e.at)),e.sp],.cells [.v (.string (mk [])),.v (.slice none 0 0)]])))
 |
  0,k,hk=>by
  refine I0 _ _ _ _ _ _ ?_
  have hd:env.drop k=[]:=bM (by omega)
  simp only[G7,↓zq,zs,ae,bg,hd,fK]
  exact⟨fun h=>by omega,fun _=>by first|trivial|rfl⟩
 |
  j+1,k,hk=>by
  refine I0 _ _ _ _ _ _ ?_
  have hlt:k<env.length:=by omega
  have hg:env[k]?=some env[k]:=bf hlt
  have hc:=sW env k _ hg
  have e1:((env.length:Int)-1-(k:Int))=((env.length-1-k:Nat):Int):=by omega
  have hdr:env.drop k=env[k]::env.drop (k+1):=aU hlt
  rw[hdr,fK,e1]
  simp only[G7,bK,hc,rN,↓zq,zs,ae,zt,bg,kq,bw]
  refine⟨fun _=>⟨by omega,by omega,fun h=>⟨by omega,by omega,by omega,by omega,?_⟩,fun h=>?_⟩,fun h=>by omega⟩
  ·rw[if_pos h]
  ·rw[if_neg h]
   have e2:IntKind.wrap .i64 (((env.length-1-k:Nat):Int)-1)=(env.length:Int)-1-((k+1:Nat):Int):=by
    have:IntKind.wrap .i64 (((env.length-1-k:Nat):Int)-1)=((env.length-1-k:Nat):Int)-1:=wrap64 _ (by omega) (by omega)
    omega
   rw[e2]
   exact Kl e env hl j (k+1) (by omega)
theorem PL(e:E)(env:List Fr)(hl:env.length<1000000):an Tryz.prog 154 [e.j5,.sl (jP env)] [] (bH (.cA [(hd e env).1.j5,.sl (jP (hd e env).2)])):=by
 rw[dx e]
 refine PO _ _ _ ((bg _).mpr trivial) ((cg _).mpr trivial) ?_
 simp only[Jv,↓zq,zs,ae,kq,bH]
 have h:=Kl e env hl env.length 0 (by omega)
 simp only[bx]at h
 rw[wrap64 _ (by omega) (by omega)]
 rw[show (env.length:Int)-1-((0:Nat):Int)=(env.length:Int)-1 by omega]at h
 refine fq h (fun ys o e'=>?_) (fun ys o e'=>?_)
 ·unfold hd
  cases hq:fK e.at env<;>rw[hq]at e'<;>cases e'
  simp only[↓zq,zs,ae,zt,bg,dx]
 ·unfold hd
  cases hq:fK e.at env<;>rw[hq]at e'<;>cases e'
  simp only[↓zq,zs,ae,zt,bg,dx]
theorem pD:∀env:List Fr,cV 4 (jP env)
 |[]=>fun c hc=>by cases hc
 |
  f::r=>fun c hc=>by
  simp only[jP,aM,aQ]at hc
  rcases hc with hc|rfl
  ·exact pD r c hc
  ·rw[rN];rfl
theorem OI(x a b:E)(env:List Fr)(hl:env.length<1000000):an Tryz.prog 156 [(E.list [x,a,b]).j5,.sl (jP env)] [] (bH (.cA [b.j5,.sl (jP (.mk a.at (.list [x,a,b]) env::env))])):=by
 refine Pw _ _ _ ((cg _).mpr trivial) ((cg _).mpr trivial) ?_
 simp only[I6,E.bm,toNat_one,bo,↓zq,zs,ae,zt,iv,fW,iA,lZ,aw,kq,bH,aT]
 refine⟨by omega,⟨pD env,by omega⟩,by omega,by omega,⟨fun c hc=>(by simp at hc;rw[hc];rfl),by omega⟩,?_⟩
 simp only[jP,rN,Fr.nm,Fr.ex,Fr.out,E.at,E.sp,E.bm]
theorem CV(s:ByteArray)(e:E):bw [.str,.sl] [.v (.string s),e.sp] 0=True:=by apply eq_true;simp[bw,ej,bg]
theorem Ev{e:E}{env:List Fr}{t:Ty}(A:Ask e env t):∃e' o t',hd e env=(e',o)/\Ask e' o t'/\t'.ML=false/\hd e' o=(e',o)/\o.length<=env.length:=by
 rcases gZ A.wf A.ty with⟨hb,hh⟩|⟨u,f,rfl,hh,hu⟩
 ·exact⟨e,env,t,lm hh,A,hb,lm hh,aw _⟩
 ·obtain⟨x,a,b,t',hfe,hok,hx,ht',hf',hwf,hlt⟩:=ol A.wf hh
  refine⟨f.ex,f.out,t',qp hh,⟨by rw[hfe];exact hok,hwf,ht',hf'⟩,?_,?_,by omega⟩
  ·obtain⟨t1,_,_,rfl⟩:=dV hx (hfe ▸ ht');rfl
  ·rw[hfe];exact oT hwf
def vh:Vl->List UInt8
 | .l _=>[108]
 | .r _=>[114]
 | .f _=>[102]
 | .p _ _=>[112]
 |_=>[]
theorem C4(v:Vl):an Tryz.prog 121 [v.dM.j5] [] (bH (.v (.string (mk (vh v))))):=by
 cases v with
 |u=>exact yO _ _ ((bi).mpr trivial) (by simp)
 |el k=>exact yO _ _ ((bi).mpr trivial) (by simp)
 |l v=>exact um _ _
 |r v=>exact um _ _
 |f v=>exact um _ _
 |p v w=>exact um _ _
theorem QS(v:Vl)(hv:v.iE 100):v.dM.at=(match v with| .u=>[117]| .el k=>wk k|_=>[])/\At v.dM.at=(match v with| .el k=>(k:Int)|_=>-1):=by
 cases v with
 |el k=>exact⟨rfl,F8 k hv⟩
 |u=>exact⟨rfl,rfl⟩
 |_=>exact⟨rfl,rfl⟩
theorem yC(n:Nat)(hn:n<=100):∀(m:Nat) (v:Vl),v.nodes<m->v.iE 100->∀e env t,Ask e env t->env.length+v.nodes<100000->an Tryz.prog 125 [e.j5,.sl (jP env),v.dM.j5,.v (.int .i64 (n:Int))] [] (bH (.v (.bool (fD n v (e,env)))))
 |0,v,hm,hv,e,env,t,A,hl=>by omega
 |
  m+1,v,hm,hv,e,env,t,A,hl=>by
  obtain⟨e',o,t',hhd,A',hb,hh',hlen⟩:=Ev A
  rw[tG n v hhd hh',dx e,dx v.dM]
  refine Nw _ _ _ _ _ _ ((bg _).mpr trivial) ((cg _).mpr trivial) ((bg _).mpr trivial) ?_
  have hf:=PL e env (by omega)
  rw[dx e,hhd]at hf
  have hvh:=C4 v
  rw[dx]at hvh
  unfold HR
  refine ai hf ?_
  simp only[dx e',↓zq,zs,ae,zt,bg,CV,bH]
  rcases fU A'.ty hb A'.cl with⟨rfl,rfl⟩|⟨rfl,rfl⟩|⟨s,rfl,rfl,hp,h0,h1⟩|⟨x,a,b,t1,t2,rfl,hx,rfl,ha,hbb⟩|⟨x,a,b,t1,t2,rfl,hx,rfl,ha,hbb⟩|⟨x,a,b,t1,rfl,hx,rfl⟩
  ·refine⟨fun _=>⟨fun h=>by simp[E.at]at h,fun _=>ai (GC _) ?_⟩,fun h=>by simp[E.at]at h⟩
   have hp0:io (E.atom [48]).at=false:=rfl
   have hp1:io [48]=false:=rfl
   cases v<;>simp[↓zq,zs,ae,hp0,fD,hh',hp1]
  ·refine⟨fun _=>⟨fun _=>?_,fun h=>absurd rfl h⟩,fun h=>by simp[E.at]at h⟩
   have hp1:io [49]=false:=rfl
   cases v<;>simp[fD,hh',hp1,Vl.dM,E.at]
  ·have hne:s≠[]:=A'.ok
   have h1':(s==[49])=false:=by simpa using h1
   refine⟨fun _=>⟨fun h=>absurd h h1,fun _=>ai (GC _) ?_⟩,fun h=>absurd h hne⟩
   have hat:(E.atom s).at=s:=rfl
   simp only[hat,hp,↓zq,zs,ae]
   refine⟨fun _=>ai (IX _) ?_,fun h=>by cases h⟩
   simp only[↓zq,zs,ae]
   rw[wrap64 _ (by omega) (by omega)]
   refine ai (Dc _ _ _) ?_
   simp only[↓zq,zs,ae,DS,(QS v hv).2]
   cases v with
   |
    el k =>
    simp only[fD,hh',h1',hp,zf]
    congr 2
    rw[cw];simp;omega
   |_=>simp[fD,hh',h1']
  ·have hok:=A'.ok
   obtain⟨ok1,ok2,ok3,_⟩:=hok
   obtain⟨f1,f2⟩:=fR A'.cl
   refine⟨fun h=>absurd rfl h,fun _=>ai (um x [a,b]) ?_⟩
   simp only[↓zq,zs,ae]
   refine ai hvh ?_
   rw[hx]
   cases v with
   |
    l w =>
    simp only[Vl.nodes]at hl
    simp only[vh,Vl.dM,E.sp,E.bm,toNat_one,bo,↓zq,zs,ae,zt,iv,fW,iA,lZ,aw]
    refine⟨by simp,fun _=>⟨by omega,by omega,ai (yC n hn m w (by simp only[Vl.nodes]at hm;omega) hv a o t1 ⟨ok2,A'.wf,ha,f1⟩ (by omega)) ?_⟩,fun h=>absurd rfl h⟩
    simp[↓zq,zs,ae,fD,hh',hx]
   |
    r w =>
    simp only[Vl.nodes]at hl
    simp only[vh,Vl.dM,E.sp,E.bm,toNat_one,bo,↓zq,zs,ae,zt,iv,fW,iA,lZ,aw]
    refine⟨by simp,fun h=>by simp at h,fun _=>⟨fun _=>⟨by omega,by omega,ai (yC n hn m w (by simp only[Vl.nodes]at hm;omega) hv b o t2 ⟨ok3,A'.wf,hbb,f2⟩ (by omega)) ?_⟩,fun h=>absurd rfl h⟩⟩
    simp[↓zq,zs,ae,fD,hh',hx]
   |_=>simp[vh,↓zq,zs,ae,zt,fD,hh',hx]
  ·have hok:=A'.ok
   obtain⟨ok1,ok2,ok3,_⟩:=hok
   obtain⟨f1,f2⟩:=fu A'.cl
   refine⟨fun h=>absurd rfl h,fun _=>ai (um x [a,b]) ?_⟩
   simp only[↓zq,zs,ae]
   refine ai hvh ?_
   rw[hx]
   cases v with
   |
    p w z =>
    simp only[Vl.nodes]at hl
    simp only[vh,Vl.dM,E.sp,E.bm,toNat_one,bo,↓zq,zs,ae,zt,iv,fW,iA,lZ,aw]
    refine⟨by simp,fun h=>by simp at h,fun _=>⟨fun h=>by simp at h,fun _=>⟨fun _=>⟨by omega,by omega,ai (yC n hn m w (by simp only[Vl.nodes]at hm;omega) hv.1 a o t1 ⟨ok2,A'.wf,ha,f1⟩ (by omega)) ?_⟩,fun h=>absurd rfl h⟩⟩⟩
    simp only[↓zq,zs,ae,fD,hh',hx]
    refine⟨fun h=>⟨by omega,by omega,ai (yC n hn m z (by simp only[Vl.nodes]at hm;omega) hv.2 b o t2 ⟨ok3,A'.wf,hbb,f2⟩ (by omega)) ?_⟩,fun h=>?_⟩
    ·simp[↓zq,zs,ae,h]
    ·simp[h]
   |_=>simp[vh,↓zq,zs,ae,zt,fD,hh',hx]
  ·obtain⟨t1',he1,h1,f1,hw1⟩:=jG A'.wf A'.ok hx A'.ty A'.cl
   cases he1
   have hok:=A'.ok
   obtain⟨ok1,ok2,ok3,_⟩:=hok
   refine⟨fun h=>absurd rfl h,fun _=>ai (um x [a,b]) ?_⟩
   simp only[↓zq,zs,ae]
   refine ai hvh ?_
   rw[hx]
   cases v with
   |
    f w =>
    simp only[Vl.nodes]at hl
    simp only[vh,Vl.dM,E.sp,E.bm,toNat_one,bo,↓zq,zs,ae,zt,iv,fW,iA,lZ,aw]
    refine⟨by simp,fun h=>by simp at h,fun _=>⟨fun h=>by simp at h,fun _=>⟨fun h=>by simp at h,fun _=>⟨fun _=>ai (OI x a b o (by omega)) ?_,fun h=>absurd rfl h⟩⟩⟩⟩
    simp only[↓zq,zs,ae,xb,CC]
    refine⟨by omega,ai (yC n hn m w (by simp only[Vl.nodes]at hm;omega) hv b (.mk a.at (.list [x,a,b]) o::o) t1 ⟨ok3,hw1,h1,f1⟩ (by simp;omega)) ?_⟩
    simp[↓zq,zs,ae,fD,hh',hx]
   |_=>simp[vh,↓zq,zs,ae,zt,fD,hh',hx]
theorem Qq(n:Nat)(hn:n<=100)(v:Vl)(hv:v.iE 100)(e:E)(env:List Fr)(t:Ty)(A:Ask e env t)(hl:env.length+v.nodes<100000):an Tryz.prog 125 [e.j5,.sl (jP env),v.dM.j5,.v (.int .i64 (n:Int))] [] (bH (.v (.bool (fD n v (e,env))))):=yC n hn (v.nodes+1) v (by omega) hv e env t A hl
end Go.Proofs.Trees
namespace Go.Proofs.Trees
open Go Go.VL Go.RowKit
theorem LZ(l:List (List UInt8))(a:AV)(ha:cu a l)(s:List UInt8)(hl:l.length<1000000):∀(k i:Nat),i+k=l.length->Gz [a,.v (.string (mk s)),.v (.int .i64 (i:Int))] []
 (ou (if s∈l.drop i then(2,[.v (.bool true)],[])else(1,[],[])))
 |
  0,i,hi=>by
  refine JO _ _ _ ?_
  have hd:l.drop i=[]:=bM (by omega)
  simp only[GO,↓zq,zs,ae,hd,ha.len]
  exact⟨ha.1,ha.1,fun h=>by omega,fun _=>by simp[ou]⟩
 |
  k+1,i,hi=>by
  have hlt:i<l.length:=by omega
  have hdr:l.drop i=l.getD i []::l.drop (i+1):=by
   rw[aU hlt];simp[aa,hlt]
  refine JO _ _ _ ?_
  simp only[GO,↓zq,zs,ae,zt,ha.len,ha.idx hlt]
  refine⟨ha.1,ha.1,fun _=>⟨⟨ha.1,by omega,by omega⟩,by omega,fun h=>?_,fun h=>?_⟩,fun h=>by omega⟩
  ·rw[hdr,h];simp[ou]
  ·rw[bN i (by omega)]
   have:=LZ l a ha s hl k (i+1) (by omega)
   have e:s∈l.drop i↔s∈l.drop (i+1):=by
    rw[hdr,aI];exact⟨fun q=>q.resolve_left (fun q=>h q.symm),.inr⟩
   simp only[e];exact this
theorem vQ(l:List (List UInt8))(a:AV)(ha:cu a l)(s:List UInt8)(hl:l.length<1000000):an Tryz.prog 169 [a,.v (.string (mk s))] [] (bH (.v (.bool (decide (s∈l))))):=by
 refine OR _ _ ha.1 ?_
 unfold JQ
 refine fq (LZ l a ha s hl l.length 0 (by omega)) (fun ys o e=>?_) (fun ys o e=>?_)
 ·simp only[bx]at e
  split at e<;>cases e
  rename_i h
  simp[↓zq,zs,ae,bH,h]
 ·simp only[bx]at e
  split at e<;>cases e
  rename_i h
  simp[↓zq,zs,ae,bH,h]
theorem zk(l:List (List UInt8))(a:AV)(ha:cu a l)(s:List UInt8)(hl:l.length<1000000):an Tryz.prog 79 [a,.v (.string (mk s))] [] (bH (.sl (bT (l++[s])))):=by
 refine OJ _ _ ha.1 ?_
 simp only[KT,↓zq,zs,ae,ha.2,bH,aT]
 have:(bT l).length=l.length:=by simp[bT]
 refine⟨⟨ha.1,jW l,by omega⟩,⟨fun c hc=>(by simp at hc;rw[hc];rfl),by omega⟩,?_⟩
 rw[GR]
def jX:E->List (List UInt8)->List (List UInt8)->List (List UInt8)
 | .atom s,bd,l=>if s=[48]\/s=[49]\/s∈bd\/s∈l then l else l++[s]
 | .list [x,a,b],bd,l=>if x.at=[114,101,99]then jX b (bd++[a.at]) l else jX b bd (jX a bd l)
 | .list _,_,l=>l
theorem fQ:∀(e:E) (bd l:List (List UInt8)),(jX e bd l).length<=l.length+e.sz
 | .atom s,bd,l=>by rw[jX];split<;>simp[E.sz]
 | .list [],bd,l=>by simp[jX]
 | .list [_],bd,l=>by simp[jX]
 | .list [_,_],bd,l=>by simp[jX]
 | .list (_::_::_::_::_),bd,l=>by simp[jX]
 |
  .list [x,a,b],bd,l=>by
  rw[jX]
  simp only[E.sz,E.iX]
  split
  ·have:=fQ b (bd++[a.at]) l;omega
  ·have:=fQ a bd l
   have:=fQ b bd (jX a bd l)
   omega
theorem Dt:∀(e:E) (bd l:List (List UInt8)) (a:AV),e.ok->jE e=true->cu a bd->bd.length+l.length+e.sz<100000->an Tryz.prog 137 [e.j5,a,.vec 0] [.vec 1 (bT l)] (dm (.vec 1) [.dead,.vec 1 (bT (jX e bd l))])
 |
  .atom s,bd,l,a,hok,hty,ha,hl=>by
  simp only[E.sz]at hl
  refine yW _ _ _ _ ((bi).mpr trivial) ha.1 ?_
  have hne:s≠[]:=hok
  have hll:(bT l).length=l.length:=by simp[bT]
  simp only[Eg,↓zq,zs,ae,zt,dm,jX]
  refine⟨fun _=>⟨fun h=>?_,fun h=>⟨fun h1=>?_,fun h1=>?_⟩⟩,fun h=>absurd h hne⟩
  ·rw[if_pos (.inl h)]
  ·rw[if_pos (.inr (.inl h1))]
  ·refine ai (vQ bd a ha s (by omega)) ?_
   simp only[↓zq,zs,ae]
   refine⟨fun h2=>?_,fun h2=>ai (vQ l _ (.of l) s (by omega)) ?_⟩
   ·rw[if_pos (.inr (.inr (.inl h2)))]
   ·simp only[↓zq,zs,ae]
    refine⟨fun h3=>?_,fun h3=>⟨⟨fun c hc=>(by simp at hc;rw[hc];rfl),by omega⟩,?_⟩⟩
    ·rw[if_pos (.inr (.inr (.inr h3)))]
    ·rw[GR,if_neg]
     rintro(q|q|q|q)
     ·exact h q
     ·exact h1 q
     ·exact h2 q
     ·exact h3 q
 | .list [],_,_,_,_,h,_,_=>by cases h
 | .list [_],_,_,_,_,h,_,_=>by cases h
 | .list [_,_],_,_,_,_,h,_,_=>by cases h
 | .list (_::_::_::_::_),_,_,_,_,h,_,_=>by cases h
 |
  .list [x,y,z],bd,l,a,hok,hty,ha,hl=>by
  simp only[E.sz,E.iX]at hl
  obtain⟨ok1,ok2,ok3,_⟩:=hok
  refine yW _ _ _ _ ((cg _).mpr trivial) ha.1 ?_
  simp only[Eg,E.bm,toNat_one,bo,↓zq,zs,ae,zt,iv,fW,iA,lZ,aw,dm]
  refine⟨fun h=>absurd rfl h,fun _=>ai (um x [y,z]) ?_⟩
  simp only[↓zq,zs,ae,zt]
  have hyl:=fQ y bd l
  rw[jE]at hty
  refine⟨fun h=>⟨by omega,by omega,by omega,ai (zk bd a ha y.at (by omega)) ?_⟩,fun h=>⟨by omega,by omega,?_⟩⟩
  ·have hz:jE z=true:=by
    rw[if_neg (by rw[h];decide),if_neg (by rw[h];decide),if_pos h]at hty
    simp only[aq]at hty;exact hty.2
   simp only[↓zq,zs,ae]
   refine aY (Dt z (bd++[y.at]) l _ ok3 hz (.of _) (by simp;omega)) ?_
   simp only[↓zq,zs,ae]
   rw[jX,if_pos h]
  ·have hyz:jE y=true/\jE z=true:=by
    split at hty
    ·simpa using hty
    ·split at hty
     ·simpa using hty
     ·cases hty
   refine aY (Dt y bd l a ok2 hyz.1 ha (by omega)) ?_
   simp only[↓zq,zs,ae]
   refine aY (Dt z bd (jX y bd l) a ok3 hyz.2 ha (by omega)) ?_
   simp only[↓zq,zs,ae]
   rw[jX,if_neg h]
theorem pL{s:List UInt8}(h:io s=true):dz s=false:=by
 cases hq:dz s with
 |false=>rfl
 |
  true =>
  obtain⟨c,r,rfl,h1,h2⟩:=kY h
  obtain⟨c',r',he,h3,h4⟩:=kY hq
  cases he;omega
theorem mi(s:List UInt8)(ar:List (List UInt8)):∀i,i<=ar.length->(cc s ar i=none↔s∉ar.take i)
 |0,_=>by simp[cc]
 |
  i+1,hi=>by
  have hlt:i<ar.length:=by omega
  have e:ar.getD i []=ar[i]:=by simp[aa,hlt]
  have e2:s∈ar.take (i+1)↔s∈ar.take i\/s=ar[i]:=by
   rw[show ar.take (i+1)=ar.take i++[ar[i]] from (List.take_append_getElem hlt).symm]
   simp only[aM,aQ]
  rw[cc,e,e2]
  by_cases h:ar[i]=s
  ·rw[if_pos h]
   exact⟨fun h=>(by cases h),fun h'=>absurd (.inr h.symm) h'⟩
  ·rw[if_neg h,mi s ar i (by omega)]
   exact⟨fun h1 h2=>h2.elim h1 (fun h3=>h h3.symm),fun h1 h2=>h1 (.inl h2)⟩
theorem k9:∀(e:E) (ar l:List (List UInt8)) (t:Ty),cZ e ar=some t->(∀w,w∈ar->dz w=true)->(jX e ar l).any dz=(l.any dz||bV t)
 |
  .atom s,ar,l,t,h,har=>by
  simp only[cZ]at h
  rw[jX]
  split at h
  ·rename_i h0;cases h;rw[if_pos (.inl h0)];simp[bV]
  ·rename_i h0
   split at h
   ·rename_i h1;cases h;rw[if_pos (.inr (.inl h1))];simp[bV]
   ·rename_i h1
    split at h
    ·rename_i h2
     cases h
     have hn:=pL h2
     simp only[bV,hn]
     split
     ·simp
     ·simp[hn]
    ·split at h
     ·rename_i h2 h3
      have hlo:=mi s ar ar.length (aw _)
      rw[List.take_length]at hlo
      cases hq:cc s ar ar.length with
      |
       some u =>
       rw[hq]at h;cases h
       have hm:s∈ar:=Classical.byContradiction fun hm=>by rw[hlo.2 hm]at hq;cases hq
       rw[if_pos (.inr (.inr (.inl hm)))];simp[bV]
      |
       none =>
       rw[hq]at h;cases h
       have hm:=hlo.1 hq
       simp only[bV,h3,Bool.or_true]
       split
       ·rename_i hh
        rcases hh with q|q|q|q
        ·exact absurd q h0
        ·exact absurd q h1
        ·exact absurd q hm
        ·rw[cf];exact⟨s,q,h3⟩
       ·simp[h3]
     ·cases h
 | .list [],_,_,_,h,_=>by cases h
 | .list [_],_,_,_,h,_=>by cases h
 | .list [_,_],_,_,_,h,_=>by cases h
 | .list (_::_::_::_::_),_,_,_,h,_=>by cases h
 |
  .list [x,a,b],ar,l,t,h,har=>by
  rw[jX]
  by_cases h0:x.at=[43]
  ·obtain⟨t1,t2,e1,e2,rfl⟩:=ga h0 h
   rw[if_neg (by rw[h0];decide),k9 b ar _ t2 e2 har,k9 a ar l t1 e1 har,bV,Bool.or_assoc]
  ·by_cases h1:x.at=[42]
   ·obtain⟨t1,t2,e1,e2,rfl⟩:=fN h1 h
    rw[if_neg (by rw[h1];decide),k9 b ar _ t2 e2 har,k9 a ar l t1 e1 har,bV,Bool.or_assoc]
   ·by_cases h2:x.at=[114,101,99]
    ·obtain⟨t1,hl,e1,rfl⟩:=dV h2 h
     rw[if_pos h2,k9 b _ l t1 e1 (fun w hw=>by
      simp only[aM,aQ]at hw
      rcases hw with hw|rfl
      ·exact har w hw
      ·exact hl),bV]
    ·rw[jm _ h0 h1 h2]at h;cases h
def ji(s:List UInt8):Option E:=match vF s with
 |none=>none
 |some e=>if(jX e [] []).any dz=true then none else some e
theorem AR{s:List UInt8}:wE s=match ji s with|none=>none|some e=>cZ e []:=by
 unfold wE ji
 rw[ud]
 cases he:vF s with
 |none=>rfl
 |
  some e =>
  obtain⟨h1,h2,h3⟩:=oU he
  have hs:=iD e []
  rw[h2]at hs
  obtain⟨t,ht⟩:=cB.1 hs
  have ha:=k9 e [] [] t ht (fun w hw=>by cases hw)
  simp only[ht,sS,ha,List.any_nil,Bool.false_or]
  cases hf:bV t<;>simp[ht]
theorem gM{s:List UInt8}{e:E}(h:ji s=some e):∃t,wE s=some t/\Ask e [] t/\jE e=true/\e.sz<=8000/\t.aD<=400/\qb s=some e:=by
 have h0:=h
 unfold ji at h
 split at h
 ·cases h
 ·rename_i e' he
  split at h
  ·cases h
  ·rename_i hn
   cases h
   obtain⟨h1,h2,h3⟩:=oU he
   obtain⟨hok,hsz⟩:=nn h1
   have hs:=iD e []
   rw[h2]at hs
   obtain⟨t,ht⟩:=cB.1 hs
   have ha:=k9 e [] [] t ht (fun w hw=>by cases hw)
   rw[ha]at hn
   refine⟨t,by rw[AR,h0];exact ht,⟨hok,.nil,ht,by simpa using hn⟩,h2,hsz,?_,h1⟩
   rw[<-jJ e [] t ht];exact h3
theorem mG{s:List UInt8}(h:ji s=none):wE s=none:=by rw[AR,h]
theorem K0(e:E)(l:List (List UInt8))(hl:l.length<1000000):∀(k i:Nat),i+k=l.length->Fm [.v (.int .i64 (i:Int))] [.cells [.v (.string (mk [])),.v (.slice none 0 0)],.cells [.v (.string (mk e.at)),e.sp],.vec 1 (bT l)]
 (ou (if(l.drop i).any dz=true then(2,[.v (.bool false)],[.cells [.v (.string (mk e.at)),e.sp]])else(1,[],[.cells [.v (.string (mk [])),.v (.slice none 0 0)],.cells [.v (.string (mk e.at)),e.sp]])))
 |
  0,i,hi=>by
  refine J5 _ _ _ _ _ _ ?_
  have hd:l.drop i=[]:=bM (by omega)
  have hll:(bT l).length=l.length:=by simp[bT]
  simp only[FL,↓zq,zs,ae,hd,hll,bg]
  exact⟨fun h=>by omega,fun _=>by simp[ou]⟩
 |
  k+1,i,hi=>by
  have hlt:i<l.length:=by omega
  have hll:(bT l).length=l.length:=by simp[bT]
  have hdr:l.drop i=l.getD i []::l.drop (i+1):=by
   rw[aU hlt];simp[aa,hlt]
  have hg:=(cu.of l).idx hlt
  simp only[gf]at hg
  refine J5 _ _ _ _ _ _ ?_
  simp only[FL,↓zq,zs,ae,zt,hll,hg,bg]
  refine⟨fun _=>⟨by omega,by omega,ai (GN _) ?_⟩,fun h=>by omega⟩
  simp only[↓zq,zs,ae,hdr,List.any_cons]
  refine⟨fun h=>?_,fun h=>?_⟩
  ·rw[h];simp[ou]
  ·rw[h,bN i (by omega)]
   simp only[Bool.false_or]
   exact K0 e l hl k (i+1) (by omega)
theorem D7(s:List UInt8):an Tryz.prog 104 [.v (.string (mk s))] [] (jQ (ji s) (ji s).isSome):=by
 refine OT _ ?_
 unfold MD
 refine aO (Fh s) (jQ.ne _ _ (fun h=>h)) ?_
 rintro r o ⟨c,d,hd,rfl,hh⟩
 have hhas:bw [.str,.sl] [.v (.string (mk c)),d] 0:=by simp[bw,ej,hd]
 simp only[↓zq,zs,ae,zt]
 refine⟨hhas,fun h=>?_,fun h=>?_⟩
 ·have hn:vF s=none:=by cases hq:vF s<;>simp[hq]at h |-
  unfold ji
  rw[hn]
  exact⟨c,d,hd,rfl,fun h=>by cases h⟩
 ·obtain⟨e,he,hce⟩:=hh h
  obtain⟨h1,h2,h3⟩:=oU he
  obtain⟨hok,hsz⟩:=nn h1
  have hce':=hce
  rw[dx]at hce'
  simp only[AV.agg.injEq,List.cons.injEq,AV.v.injEq,Value.string.injEq,and_true]at hce'
  obtain⟨hc1,rfl⟩:=hce'
  have hc2:=wI hc1
  subst hc2
  rw[<-dx]
  refine aY (Dt e [] [] _ hok h2 (.of []) (by simp;omega)) ?_
  have hfl:=fQ e [] []
  simp only[↓zq,zs,ae]
  have hLS:=K0 e (jX e [] []) (by simp at hfl;omega) (jX e [] []).length 0 (by omega)
  simp only[bx]at hLS
  unfold ji
  rw[he]
  refine fq hLS (fun ys o e'=>?_) (fun ys o e'=>?_)
  ·split at e'<;>cases e'
   rename_i hn
   simp only[↓zq,zs,ae,bg,if_neg hn]
   exact⟨e.at,e.sp,hd,rfl,fun _=>⟨e,rfl,(dx e).symm⟩⟩
  ·split at e'<;>cases e'
   rename_i hn
   simp only[↓zq,zs,ae,bg,if_pos hn]
   exact⟨e.at,e.sp,hd,rfl,fun h=>by cases h⟩
def oz(s v:List UInt8)(n:Int):Option Vl:=match ji s,rO v with
 |some e,some w=>if(0<=n/\n<=100)/\fD n.toNat w (e,[])=true then some w else none
 |_,_=>none
theorem qD{s v:List UInt8}{n:Int}{w:Vl}(h:oz s v n=some w):∃e t m,ji s=some e/\rO v=some w/\wE s=some t/\Ask e [] t/\n=(m:Nat)/\m<=100/\fD m w (e,[])=true:=by
 unfold oz at h
 split at h
 ·rename_i e w' he hw
  split at h
  ·rename_i hh
   cases h
   obtain⟨t,h1,h2,_⟩:=gM he
   exact⟨e,t,n.toNat,he,hw,h1,h2,by omega,by omega,hh.2⟩
  ·cases h
 ·cases h
theorem LN(s v:List UInt8)(n:Int):an Tryz.prog 71 [.v (.string (mk s)),.v (.string (mk v)),.v (.int .i64 n)] [] (bH (.cA [gS (wE s),iS (oz s v n)])):=by
 refine Ou _ _ _ ?_
 unfold Kq
 refine ai (KS s) ?_
 simp only[↓zq,zs,ae,hJ]
 refine ai (Qt v) ?_
 simp only[↓zq,zs,ae,gh,bH]
 unfold oz
 cases he:ji s with
 |none=>rw[mG he];cases rO v<;>simp[gS,iS,↓zq,zs,ae]
 |
  some e =>
  obtain⟨t,h1,h2,h3,h4,h5,_⟩:=gM he
  rw[h1]
  cases hv:rO v with
  |none=>simp only[gS,iS,aE,fB,↓zq,zs,ae];exact⟨fun h=>(by cases h),fun _=>⟨fun _=>trivial,fun h=>(by cases h)⟩⟩
  |
   some w =>
   obtain⟨h6,h7,h8⟩:=lA hv
   simp only[gS,iS,aE,fB,aK,fj,↓zq,zs,ae]
   refine⟨fun h=>(by cases h),fun _=>⟨fun h=>(by cases h),fun _=>⟨fun h=>?_,fun h=>⟨fun h'=>?_,fun h'=>?_⟩⟩⟩⟩
   ·rw[if_neg (by omega)]
   ·rw[if_neg (by omega)]
   ·obtain⟨m,rfl⟩:∃m:Nat,n=(m:Int):=⟨n.toNat,by omega⟩
    have hi:=Lz m (by omega) (w.nodes+1) w (by omega) h7 e [] t h2 (by simp;omega)
    unfold pw at hi
    refine ai hi ?_
    simp only[↓zq,zs,ae,bK]
    refine⟨fun hq=>?_,fun hq=>?_⟩
    ·rw[if_neg (by rw[hq];simp)]
    ·rw[if_pos ⟨by omega,hq⟩]
theorem Br(s v:List UInt8)(n:Int):an Tryz.prog 90 [.v (.string (mk s)),.v (.string (mk v)),.v (.int .i64 n)] [] (bH (.v (.bool (oz s v n).isSome))):=by
 refine PU _ _ _ ?_
 unfold Jf
 refine aO (D7 s) (jQ.ne _ _ (fun h=>h)) ?_
 rintro r o ⟨c,d,hd,rfl,hh⟩
 have hhas:bw [.str,.sl] [.v (.string (mk c)),d] 0:=by simp[bw,ej,hd]
 simp only[↓zq,zs,ae,zt]
 refine⟨hhas,?_⟩
 refine aO (E2 v) (jQ.ne _ _ (fun h=>by cases hq:rO v<;>simp[hq]at h |-)) ?_
 rintro r o ⟨c',d',hd',rfl,hh'⟩
 have hhas':bw [.str,.sl] [.v (.string (mk c')),d'] 0:=by simp[bw,ej,hd']
 simp only[↓zq,zs,ae,zt,bH]
 refine⟨hhas',fun h=>⟨fun h2=>?_,fun h2=>?_⟩,fun h=>?_⟩
 ·obtain⟨e,he,hce⟩:=hh h
  obtain⟨t,h1,hA,h3,h4,h5,_⟩:=gM he
  obtain⟨w,hw⟩:=cB.1 h2
  obtain⟨e2,he2,hce2⟩:=hh' h2
  rw[hw]at he2
  cases he2
  obtain⟨h6,h7,h8⟩:=lA hw
  refine ai (Dc _ _ _) ?_
  simp only[↓zq,zs,ae,DS,oz,he,hw]
  refine⟨fun hq=>?_,fun hq=>?_⟩
  ·have hq':0<=n/\n<=100:=by simpa using hq
   obtain⟨m,rfl⟩:∃m:Nat,n=(m:Int):=⟨n.toNat,by omega⟩
   rw[hce,hce2]
   have:=Qq m (by omega) w h7 e [] t hA (by simp;omega)
   rw[show jP []=[] from rfl]at this
   refine ai this ?_
   simp only[↓zq,zs,ae,bK]
   by_cases hb:fD m w (e,[])=true
   ·rw[if_pos ⟨hq',hb⟩,hb];rfl
   ·rw[if_neg (fun h=>hb h.2)]
    rw[Bool.not_eq_true]at hb
    rw[hb];rfl
  ·have hq':¬(0<=n/\n<=100):=by simpa using hq
   rw[if_neg (fun h=>hq' h.1)];rfl
 ·have hn:rO v=none:=by cases hq:rO v<;>simp[hq]at h2 |-
  unfold oz
  rw[hn];cases ji s<;>rfl
 ·have hn:ji s=none:=by cases hq:ji s<;>simp[hq]at h |-
  unfold oz
  rw[hn];rfl
end Go.Proofs.Trees
namespace Go.Proofs.Trees
open Go Go.VL Go.RowKit
inductive Tg where
 |nm (s:List UInt8)
 |bd (k:Nat)
 deriving DecidableEq
def Tg.up:Tg->Tg
 | .nm s=>.nm s
 | .bd k=>.bd (k+1)
def fP:Ty->Tg->Bool
 | .name s,.nm s'=>decide (s=s')
 | .bP u,.bd k=>decide (u=k)
 |_,_=>false
abbrev Hl:=Vl×Vl
def lU(g:Vl->Vl)(l:List Hl):List Hl:=l.map fun h=>(g h.1,h.2)
def j6(f:Ty->Tg->Vl->List Hl)(tg:Tg):Ty->Vl->List Hl
 | .plus a _,.l w=>lU .l (f a tg w)
 | .plus _ b,.r w=>lU .r (f b tg w)
 | .times a b,.p x y=>lU (fun c=>.l (.p c y)) (f a tg x)++lU (fun c=>.r (.p x c)) (f b tg y)
 | .rc a,.f w=>lU (fun c=>.f (.l c)) (f a tg.up w)++(f a (.bd 0) w).flatMap fun h=>lU (fun c=>.f (.r (.p h.1 c))) (f (.rc a) tg h.2)
 |_,_=>[]
def eD:Nat->Ty->Tg->Vl->List Hl
 |0,_,_,_=>[]
 |n+1,t,tg,v=>if fP t tg=true then [(.u,v)]else j6 (eD n) tg t v
def stuck:Ty->Vl->Bool
 | .plus _ _,.l _=>false
 | .plus _ _,.r _=>false
 | .times _ _,.p _ _=>false
 | .rc _,.f _=>false
 |_,_=>true
def cK(t:Ty)(tg:Tg)(v:Vl):List Hl:=eD v.nodes t tg v
theorem dE{g:Vl->Vl}{l:List Hl}{h:Hl}(hm:h∈lU g l):∃k,k∈l/\h=(g k.1,k.2):=by
 obtain⟨k,h1,h2⟩:=ci.1 hm
 exact⟨k,h1,h2.symm⟩
theorem k8{f g:Hl->List Hl}:∀{l:List Hl},(∀h,h∈l->f h=g h)->l.flatMap f=l.flatMap g
 |[],_=>rfl
 |h::l,hl=>by rw[List.flatMap_cons,List.flatMap_cons,hl h aj,k8 (l:=l) fun k hk=>hl k (al _ hk)]
theorem fy:∀(n:Nat) (t:Ty) (tg:Tg) (v:Vl) (h:Hl),h∈eD n t tg v->h.2.nodes<=v.nodes/\h.1.nodes+4*h.2.nodes<=4*v.nodes+1
 |0,t,tg,v,h,hm=>by simp[eD]at hm
 |
  n+1,t,tg,v,h,hm=>by
  unfold eD at hm
  split at hm
  ·simp only[aQ]at hm
   subst hm
   simp only[Vl.nodes];omega
  ·unfold j6 at hm
   split at hm
   ·obtain⟨k,h1,rfl⟩:=dE hm
    have:=fy n _ _ _ k h1
    simp only[Vl.nodes];omega
   ·obtain⟨k,h1,rfl⟩:=dE hm
    have:=fy n _ _ _ k h1
    simp only[Vl.nodes];omega
   ·rcases aM.1 hm with hm|hm
    ·obtain⟨k,h1,rfl⟩:=dE hm
     have:=fy n _ _ _ k h1
     simp only[Vl.nodes];omega
    ·obtain⟨k,h1,rfl⟩:=dE hm
     have:=fy n _ _ _ k h1
     simp only[Vl.nodes];omega
   ·rcases aM.1 hm with hm|hm
    ·obtain⟨k,h1,rfl⟩:=dE hm
     have:=fy n _ _ _ k h1
     simp only[Vl.nodes];omega
    ·obtain⟨k,h1,h2⟩:=List.mem_flatMap.1 hm
     obtain⟨k2,h3,rfl⟩:=dE h2
     have:=fy n _ _ _ k h1
     have:=fy n _ _ _ k2 h3
     simp only[Vl.nodes];omega
   ·simp at hm
theorem gG:∀(n m:Nat) (t:Ty) (tg:Tg) (v:Vl),v.nodes<=n->v.nodes<=m->eD n t tg v=eD m t tg v
 |0,m,t,tg,v,h,_=>by have:=dT v;omega
 |n+1,0,t,tg,v,_,h=>by have:=dT v;omega
 |
  n+1,m+1,t,tg,v,hn,hm=>by
  rw[eD,eD]
  split
  ·rfl
  ·unfold j6
   split
   ·simp only[Vl.nodes]at hn hm;rw[gG n m _ _ _ (by omega) (by omega)]
   ·simp only[Vl.nodes]at hn hm;rw[gG n m _ _ _ (by omega) (by omega)]
   ·simp only[Vl.nodes]at hn hm;rw[gG n m _ _ _ (by omega) (by omega),gG n m _ _ _ (by omega) (by omega)]
   ·rename_i a w
    simp only[Vl.nodes]at hn hm;rw[gG n m _ _ _ (by omega) (by omega),gG n m _ (.bd 0) _ (by omega) (by omega)]
    congr 1
    apply k8
    intro h hh
    have:=(fy _ _ _ _ _ hh).1
    rw[gG n m _ _ _ (by omega) (by omega)]
   ·rfl
theorem nZ{n:Nat}(t:Ty)(tg:Tg){v:Vl}(h:v.nodes<=n):eD n t tg v=cK t tg v:=gG _ _ _ _ _ h (aw _)
theorem n8{t:Ty}{tg:Tg}(v:Vl)(h:fP t tg=true):cK t tg v=[(.u,v)]:=by
 have:=dT v
 unfold cK
 cases e:v.nodes with
 |zero=>omega
 |succ n=>rw[eD,if_pos h]
theorem qw(a b:Ty)(tg:Tg)(w:Vl):cK (.plus a b) tg (.l w)=lU .l (cK a tg w):=by
 unfold cK;rw[show (Vl.l w).nodes=w.nodes+1 by simp[Vl.nodes];omega,eD,if_neg (by simp[fP])];rfl
theorem qf(a b:Ty)(tg:Tg)(w:Vl):cK (.plus a b) tg (.r w)=lU .r (cK b tg w):=by
 unfold cK;rw[show (Vl.r w).nodes=w.nodes+1 by simp[Vl.nodes];omega,eD,if_neg (by simp[fP])];rfl
theorem qt(a b:Ty)(tg:Tg)(x y:Vl):cK (.times a b) tg (.p x y)=lU (fun c=>.l (.p c y)) (cK a tg x)++lU (fun c=>.r (.p x c)) (cK b tg y):=by
 rw[cK,show (Vl.p x y).nodes=(x.nodes+y.nodes)+1 by simp[Vl.nodes];omega,eD,if_neg (by simp[fP])]
 rw[j6,nZ a tg (by omega),nZ b tg (by omega)]
theorem qg(a:Ty)(tg:Tg)(w:Vl):cK (.rc a) tg (.f w)=lU (fun c=>.f (.l c)) (cK a tg.up w)++(cK a (.bd 0) w).flatMap fun h=>lU (fun c=>.f (.r (.p h.1 c))) (cK (.rc a) tg h.2):=by
 rw[cK,show (Vl.f w).nodes=w.nodes+1 by simp[Vl.nodes];omega,eD,if_neg (by simp[fP])]
 rw[j6,nZ a tg.up (aw _),nZ a (.bd 0) (aw _)]
 congr 1
 apply k8
 intro h hh
 have:=(fy _ _ _ _ _ hh).1
 rw[nZ (.rc a) tg this]
theorem er{t:Ty}{tg:Tg}{v:Vl}(h:fP t tg=false)(h2:stuck t v=true):cK t tg v=[]:=by
 unfold cK
 cases e:v.nodes with
 |zero=>rfl
 |
  succ n =>
  rw[eD,if_neg (by rw[h];simp)]
  unfold j6
  split<;>first|(simp[stuck]at h2;done)|rfl
theorem kE{t:Ty}{tg:Tg}{v:Vl}{h:Hl}(hm:h∈cK t tg v):h.2.nodes<=v.nodes/\h.1.nodes+4*h.2.nodes<=4*v.nodes+1:=fy _ _ _ _ _ hm
theorem gH(n:Nat):∀(m:Nat) (t:Ty) (tg:Tg) (v:Vl) (h:Hl),v.iE n->h∈eD m t tg v->h.1.iE n/\h.2.iE n
 |0,t,tg,v,h,hv,hm=>by simp[eD]at hm
 |
  m+1,t,tg,v,h,hv,hm=>by
  unfold eD at hm
  split at hm
  ·simp only[aQ]at hm
   subst hm
   exact⟨trivial,hv⟩
  ·unfold j6 at hm
   split at hm
   ·obtain⟨k,h1,rfl⟩:=dE hm
    exact(fun q=>gH n m _ _ _ k q h1) hv
   ·obtain⟨k,h1,rfl⟩:=dE hm
    exact(fun q=>gH n m _ _ _ k q h1) hv
   ·rcases aM.1 hm with hm|hm
    ·obtain⟨k,h1,rfl⟩:=dE hm
     obtain⟨q1,q2⟩:=gH n m _ _ _ k hv.1 h1
     exact⟨⟨q1,hv.2⟩,q2⟩
    ·obtain⟨k,h1,rfl⟩:=dE hm
     obtain⟨q1,q2⟩:=gH n m _ _ _ k hv.2 h1
     exact⟨⟨hv.1,q1⟩,q2⟩
   ·rcases aM.1 hm with hm|hm
    ·obtain⟨k,h1,rfl⟩:=dE hm
     exact(fun q=>gH n m _ _ _ k q h1) hv
    ·obtain⟨k,h1,h2⟩:=List.mem_flatMap.1 hm
     obtain⟨k2,h3,rfl⟩:=dE h2
     obtain⟨q1,q2⟩:=(fun q=>gH n m _ _ _ k q h1) hv
     obtain⟨q3,q4⟩:=gH n m _ _ _ k2 q2 h3
     exact⟨⟨q1,q3⟩,q4⟩
   ·simp at hm
def kJ(l:List Hl):Nat:=(l.map fun h=>h.2.nodes).sum
theorem rb(l r:List Hl):kJ (l++r)=kJ l+kJ r:=by simp[kJ]
theorem nG(g:Vl->Vl)(l:List Hl):kJ (lU g l)=kJ l:=by simp[kJ,lU,Function.comp_def]
def kf(f:Tg->Nat)(T:List Tg):Nat:=(T.map f).sum
theorem nJ(f g:Tg->Nat):∀T:List Tg,kf (fun x=>f x+g x) T=kf f T+kf g T
 |[]=>rfl
 |x::T=>by have:=nJ f g T;simp only[kf,bI,List.sum_cons]at this |-;omega
theorem xB{f g:Tg->Nat}:∀{T:List Tg},(∀x,x∈T->f x<=g x)->kf f T<=kf g T
 |[],_=>aw _
 |
  x::T,h=>by
  have:=xB (T:=T) fun y hy=>h y (al _ hy)
  have:=h x aj
  simp only[kf,bI,List.sum_cons]at *;omega
theorem pq{f:Tg->Nat}:∀{T:List Tg},(∀x,x∈T->f x=0)->kf f T=0
 |[],_=>rfl
 |
  x::T,h=>by
  have:=pq (T:=T) fun y hy=>h y (al _ hy)
  have:=h x aj
  simp only[kf,bI,List.sum_cons]at *;omega
theorem sE(g:Hl->Tg->Nat)(T:List Tg):∀l:List Hl,kf (fun x=>(l.map fun h=>g h x).sum) T=(l.map fun h=>kf (g h) T).sum
 |[]=>pq fun _ _=>rfl
 |
  h::l=>by
  have:=sE g T l
  simp only[bI,List.sum_cons]
  rw[nJ,this]
theorem sG(f:Hl->List Hl):∀l:List Hl,kJ (l.flatMap f)=(l.map fun h=>kJ (f h)).sum
 |[]=>rfl
 |h::l=>by rw[List.flatMap_cons,rb,sG f l];simp
theorem z6{f g:Hl->Nat}:∀{l:List Hl},(∀x,x∈l->f x<=g x)->(l.map f).sum<=(l.map g).sum
 |[],_=>aw _
 |
  x::l,h=>by
  have:=z6 (l:=l) fun y hy=>h y (al _ hy)
  have:=h x aj
  simp only[bI,List.sum_cons]at *;omega
theorem Bx{t:Ty}{x y:Tg}(h:fP t x=true)(h':fP t y=true):x=y:=by
 cases t<;>cases x<;>cases y<;>simp[fP]at h h'<;>simp_all
theorem ye{t:Ty}(n:Nat):∀{T:List Tg},T.Nodup->kf (fun x=>if fP t x=true then n else 0) T<=n
 |[],_=>dO _
 |
  x::T,h=>by
  obtain⟨h1,h2⟩:=List.nodup_cons.1 h
  have ih:=ye (t:=t) n h2
  by_cases hx:fP t x=true
  ·have:kf (fun x=>if fP t x=true then n else 0) T=0:=pq fun y hy=>by
    rw[if_neg fun hy'=>h1 (by rw[Bx hx hy'];exact hy)]
   simp only[kf,bI,List.sum_cons]at *
   rw[if_pos hx];omega
  ·simp only[kf,bI,List.sum_cons]at *
   rw[if_neg hx];omega
theorem zV{T:List Tg}(h:T.Nodup):(Tg.bd 0::T.map Tg.up).Nodup:=by
 refine List.nodup_cons.2 ⟨fun hm=>?_,?_⟩
 ·obtain⟨x,_,e⟩:=ci.1 hm
  cases x<;>simp[Tg.up]at e
 ·refine List.Pairwise.map _ (fun a b hab e=>hab ?_) h
  cases a<;>cases b<;>simp[Tg.up]at e<;>simp_all
theorem apart:∀(n:Nat) (v:Vl),v.nodes<=n->∀(t:Ty) (T:List Tg),T.Nodup->kf (fun x=>kJ (cK t x v)) T<=v.nodes
 |0,v,h=>by have:=dT v;omega
 |
  n+1,v,hn=>by
  intro t T hT
  have base:∀(hno:∀x,fP t x=false->cK t x v=[]),kf (fun x=>kJ (cK t x v)) T<=v.nodes:=fun hno=>by
   refine Nat.le_trans (xB fun x _=>?_) (ye (t:=t) v.nodes hT)
   cases e:fP t x with
   |true=>rw[n8 v e];simp[kJ]
   |false=>rw[hno x e];simp[kJ]
  cases hm:stuck t v with
  |true=>exact base fun x hx=>er hx hm
  |
   false =>
   unfold stuck at hm
   split at hm
   ·rename_i a b w
    simp only[Vl.nodes]at hn |-
    simp only[qw,nG]
    have:=apart n w (by omega) a T hT
    omega
   ·rename_i a b w
    simp only[Vl.nodes]at hn |-
    simp only[qf,nG]
    have:=apart n w (by omega) b T hT
    omega
   ·rename_i a b x y
    simp only[Vl.nodes]at hn |-
    simp only[qt,rb,nG]
    rw[nJ]
    have:=apart n x (by omega) a T hT
    have:=apart n y (by omega) b T hT
    omega
   ·rename_i a w
    simp only[Vl.nodes]at hn |-
    simp only[qg,rb,nG,sG]
    rw[nJ,sE]
    have h1:=apart n w (by omega) a _ (zV hT)
    simp only[kf,bI,List.sum_cons,List.map_map]at h1
    have h2:((cK a (.bd 0) w).map fun h=>kf (fun x=>kJ (cK (.rc a) x h.2)) T).sum<=kJ (cK a (.bd 0) w):=z6 fun h hh=>by
     have:=(kE hh).1
     exact apart n h.2 (by omega) (.rc a) T hT
    simp only[kf,Function.comp_def]at h1 h2 |-
    omega
   ·cases hm
theorem rM(t:Ty)(tg:Tg)(v:Vl):kJ (cK t tg v)<=v.nodes:=by
 have:=apart v.nodes v (aw _) t [tg] (by simp)
 simpa[kf]using this
theorem rm:∀l:List Hl,l.length<=kJ l
 |[]=>dO _
 |
  h::l=>by
  have:=rm l
  have:=dT h.2
  simp only[kJ,bI,List.sum_cons,au]at *;omega
theorem sJ(t:Ty)(tg:Tg)(v:Vl):(cK t tg v).length<=v.nodes:=Nat.le_trans (rm _) (rM t tg v)
end Go.Proofs.Trees
namespace Go.Proofs.Trees
open Go Go.VL Go.RowKit
def jB(ar:List (List UInt8))(k:Nat):List UInt8:=ar.getD (ar.length-1-k) []
theorem kp{s:List UInt8}{ar:List (List UInt8)}:∀(i u:Nat),i<=ar.length->cc s ar i=some u->u<ar.length/\jB ar u=s
 |0,u,_,h=>by cases h
 |
  i+1,u,hi,h=>by
  rw[cc]at h
  split at h
  ·rename_i e
   cases h
   refine⟨by omega,?_⟩
   rw[jB,show ar.length-1-(ar.length-1-i)=i by omega];exact e
  ·exact kp i u (by omega) h
theorem jZ(w:List UInt8)(ar:List (List UInt8)):cc w (ar++[w]) (ar++[w]).length=some 0:=by
 have e2:(ar++[w]).length=ar.length+1:=by simp
 rw[e2,cc,if_pos (by simp[aa]),e2];simp
theorem nW{s w:List UInt8}(ar:List (List UInt8))(h:w≠s):cc s (ar++[w]) (ar++[w]).length=(cc s ar ar.length).map (·+1):=by
 have e2:(ar++[w]).length=ar.length+1:=by simp
 rw[e2,cc,if_neg (by simpa[aa]using h),mn _ _ _ _ (aw _)]
theorem iZ(n:Nat):∀(m:Nat) (v:Vl),v.nodes<=m->∀(e:E) (env:List Fr) (t:Ty),Ask e env t->fD n v (e,env)=true->∀(k:Nat) (f:Fr),env[k]?=some f->∀h,h∈cK t (.bd k) v->fD n h.2 (f.ex,f.out)=true
 |0,v,hm=>by have:=dT v;omega
 |
  m+1,v,hm=>by
  intro e env t A hv k f hf h hh
  rcases gZ A.wf A.ty with⟨hb,hq⟩|⟨u,g,rfl,hq,hu⟩
  ·have hhd:hd e env=(e,env):=lm hq
   rcases fU A.ty hb A.cl with⟨rfl,rfl⟩|⟨rfl,rfl⟩|⟨s,rfl,rfl,hp,h0,h1⟩|⟨x,a,b,t1,t2,rfl,hx,rfl,ha,hbb⟩|⟨x,a,b,t1,t2,rfl,hx,rfl,ha,hbb⟩|⟨x,a,b,t1,rfl,hx,rfl⟩
   ·rw[er rfl (by cases v<;>rfl)]at hh;cases hh
   ·rw[er rfl (by cases v<;>rfl)]at hh;cases hh
   ·rw[er rfl (by cases v<;>rfl)]at hh;cases hh
   ·obtain⟨ok1,ok2,ok3,_⟩:=A.ok
    obtain⟨f1,f2⟩:=fR A.cl
    cases v with
    |
     l w =>
     simp only[fD,hhd,hx,beq_self_eq_true,cm]at hv
     simp only[Vl.nodes]at hm
     rw[qw]at hh
     obtain⟨h2,h3,rfl⟩:=dE hh
     exact iZ n m w (by omega) a env t1 ⟨ok2,A.wf,ha,f1⟩ hv k f hf h2 h3
    |
     r w =>
     simp only[fD,hhd,hx,beq_self_eq_true,cm]at hv
     simp only[Vl.nodes]at hm
     rw[qf]at hh
     obtain⟨h2,h3,rfl⟩:=dE hh
     exact iZ n m w (by omega) b env t2 ⟨ok3,A.wf,hbb,f2⟩ hv k f hf h2 h3
    |_=>rw[er rfl rfl]at hh;cases hh
   ·obtain⟨ok1,ok2,ok3,_⟩:=A.ok
    obtain⟨f1,f2⟩:=fu A.cl
    cases v with
    |
     p w w' =>
     simp only[fD,hhd,hx,beq_self_eq_true,cm,aq]at hv
     simp only[Vl.nodes]at hm
     rw[qt]at hh
     rcases aM.1 hh with hh|hh
     ·obtain⟨h2,h3,rfl⟩:=dE hh
      exact iZ n m w (by omega) a env t1 ⟨ok2,A.wf,ha,f1⟩ hv.1 k f hf h2 h3
     ·obtain⟨h2,h3,rfl⟩:=dE hh
      exact iZ n m w' (by omega) b env t2 ⟨ok3,A.wf,hbb,f2⟩ hv.2 k f hf h2 h3
    |_=>rw[er rfl rfl]at hh;cases hh
   ·obtain⟨t1',he1,h1,f1,hw1⟩:=jG A.wf A.ok hx A.ty A.cl
    cases he1
    obtain⟨ok1,ok2,ok3,_⟩:=A.ok
    cases v with
    |
     f w =>
     simp only[fD,hhd,hx,beq_self_eq_true,cm]at hv
     simp only[Vl.nodes]at hm
     rw[qg]at hh
     have A':Ask b (.mk a.at (.list [x,a,b]) env::env) t1:=⟨ok3,hw1,h1,f1⟩
     rcases aM.1 hh with hh|hh
     ·obtain⟨h2,h3,rfl⟩:=dE hh
      exact iZ n m w (by omega) b _ t1 A' hv (k+1) f (by simpa using hf) h2 h3
     ·obtain⟨kd,h2,h3⟩:=List.mem_flatMap.1 hh
      obtain⟨h4,h5,rfl⟩:=dE h3
      have hkd:=iZ n m w (by omega) b _ t1 A' hv 0 _ rfl kd h2
      have:=(kE h2).1
      exact iZ n m kd.2 (by omega) (.list [x,a,b]) env _ A hkd k f hf h4 h5
    |_=>rw[er rfl rfl]at hh;cases hh
  ·by_cases huk:u=k
   ·subst huk
    rw[hu]at hf;cases hf
    rw[n8 v (by simp[fP])]at hh
    simp only[aQ]at hh
    subst hh
    obtain⟨x,a,b,t',hfe,hok,hx,ht',hf',hwf,hlt⟩:=ol A.wf hq
    rw[<-tG n v (qp hq) (by rw[hfe];exact oT hwf)];exact hv
   ·rw[er (by simpa[fP]using huk) (by cases v<;>rfl)]at hh;cases hh
end Go.Proofs.Trees
namespace Go.Proofs.Trees
open Go Go.VL Go.RowKit
def cJ:E->List Nm->Ty
 | .atom s,ar=>if s=[48]then .zero else if s=[49]then .one else match cc s ar ar.length with|some u=>.bP u|none=>.name s
 | .list [x,a,b],ar=>if x.at=[43]then .plus (cJ a ar) (cJ b ar)else if x.at=[42]then .times (cJ a ar) (cJ b ar)else .rc (cJ b (ar++[a.at]))
 | .list _,_=>.zero
def qh(s:Nm):Prop:=s≠[]/\s≠[48]/\s≠[49]
inductive Wf:E->Prop
 |atom {s} (h:s≠[]):Wf (.atom s)
 |plus {a b} (ha:Wf a) (hb:Wf b):Wf (.list [.atom [43],a,b])
 |times {a b} (ha:Wf a) (hb:Wf b):Wf (.list [.atom [42],a,b])
 |rc {n b} (hn:qh n) (hb:Wf b):Wf (.list [.atom [114,101,99],.atom n,b])
theorem dL(a b:E)(ar:List Nm):cJ (.list [.atom [43],a,b]) ar=.plus (cJ a ar) (cJ b ar):=by rw[cJ,if_pos (show (E.atom [43]).at=[43] from rfl)]
theorem dj(a b:E)(ar:List Nm):cJ (.list [.atom [42],a,b]) ar=.times (cJ a ar) (cJ b ar):=by rw[cJ,if_neg (by decide),if_pos (show (E.atom [42]).at=[42] from rfl)]
theorem eX(a b:E)(ar:List Nm):cJ (.list [.atom [114,101,99],a,b]) ar=.rc (cJ b (ar++[a.at])):=by rw[cJ,if_neg (by decide),if_neg (by decide)]
theorem Wf.ok{e:E}(h:Wf e):e.ok:=by
 induction h with
 |atom h=>exact h
 |plus ha hb i1 i2=>exact⟨by simp[E.ok],i1,i2,trivial⟩
 |times ha hb i1 i2=>exact⟨by simp[E.ok],i1,i2,trivial⟩
 |rc hn hb i=>exact⟨by simp[E.ok],hn.1,i,trivial⟩
theorem Wf.cX{e:E}(h:Wf e):∀ar,e.cX=(cJ e ar).aD:=by
 induction h with
 |
  @atom s h =>
  intro ar
  simp only[E.cX,cJ]
  split
  ·rfl
  ·split
   ·rfl
   ·split<;>rfl
 |plus ha hb i1 i2=>intro ar;rw[dL];simp only[E.cX,E.eN,Ty.aD,<-i1 ar,<-i2 ar];omega
 |times ha hb i1 i2=>intro ar;rw[dj];simp only[E.cX,E.eN,Ty.aD,<-i1 ar,<-i2 ar];omega
 |@rc n b hn hb i=>intro ar;rw[eX];simp only[E.cX,E.eN,Ty.aD,<-i];omega
theorem Wf.sz{e:E}(h:Wf e):e.sz<=3*e.cX:=by
 induction h with
 |atom h=>simp[E.sz,E.cX]
 |plus ha hb i1 i2=>simp only[E.sz,E.iX,E.cX,E.eN];omega
 |times ha hb i1 i2=>simp only[E.sz,E.iX,E.cX,E.eN];omega
 |rc hn hb i=>simp only[E.sz,E.iX,E.cX,E.eN];omega
theorem jS:∀(e:E) (ar:List Nm) (t:Ty),e.ok->(∀w,w∈ar->dz w=true)->cZ e ar=some t->Wf e/\cJ e ar=t
 |
  .atom s,ar,t,hok,hl,ht=>by
  refine⟨.atom hok,?_⟩
  simp only[cZ,cJ]at ht |-
  split at ht
  ·rename_i h;rw[if_pos h];simpa using ht
  ·rename_i h;rw[if_neg h]
   split at ht
   ·rename_i h1;rw[if_pos h1];simpa using ht
   ·rename_i h1;rw[if_neg h1]
    split at ht
    ·rename_i hp
     cases q:cc s ar ar.length with
     |none=>simpa using ht
     |
      some u =>
      obtain⟨h1,h2⟩:=kp _ _ (aw _) q
      have:=hl (jB ar u) (by
       unfold jB
       have:ar.length-1-u<ar.length:=by omega
       simp[aa,this])
      rw[h2,pL hp]at this;cases this
    ·split at ht
     ·split at ht<;>rename_i q<;>rw[q]<;>simpa using ht
     ·cases ht
 |
  .list [x,a,b],ar,t,hok,hl,ht=>by
  obtain⟨ok1,ok2,ok3,_⟩:=hok
  by_cases h0:x.at=[43]
  ·obtain⟨t1,t2,h1,h2,rfl⟩:=ga h0 ht
   obtain rfl:=jU h0 (by simp)
   obtain⟨w1,e1⟩:=jS a ar t1 ok2 hl h1
   obtain⟨w2,e2⟩:=jS b ar t2 ok3 hl h2
   exact⟨.plus w1 w2,by rw[dL,e1,e2]⟩
  ·by_cases h1:x.at=[42]
   ·obtain⟨t1,t2,h2,h3,rfl⟩:=fN h1 ht
    obtain rfl:=jU h1 (by simp)
    obtain⟨w1,e1⟩:=jS a ar t1 ok2 hl h2
    obtain⟨w2,e2⟩:=jS b ar t2 ok3 hl h3
    exact⟨.times w1 w2,by rw[dj,e1,e2]⟩
   ·by_cases h2:x.at=[114,101,99]
    ·obtain⟨t1,hla,h3,rfl⟩:=dV h2 ht
     obtain rfl:=jU h2 (by simp)
     have hne:a.at≠[]:=by intro e;rw[e]at hla;cases hla
     have ha:a=.atom a.at:=jU rfl hne
     obtain⟨w1,e1⟩:=jS b (ar++[a.at]) t1 ok3 (fun w hw=>by
      rcases aM.1 hw with hw|hw
      ·exact hl w hw
      ·simp only[aQ]at hw;rw[hw];exact hla) h3
     have hN:qh a.at:=⟨hne,fun e=>by rw[e]at hla;revert hla;decide,fun e=>by rw[e]at hla;revert hla;decide⟩
     refine⟨?_,by rw[eX,e1]⟩
     rw[ha];exact .rc hN w1
    ·rw[jm _ h0 h1 h2]at ht;cases ht
 | .list [],ar,t,_,_,ht=>by cases ht
 | .list [_],ar,t,_,_,ht=>by cases ht
 | .list [_,_],ar,t,_,_,ht=>by cases ht
 | .list (_::_::_::_::_),ar,t,_,_,ht=>by cases ht
theorem fk(s:Nm)(ar:List Nm):cc s ar ar.length=none↔s∉ar:=by
 have:=mi s ar ar.length (aw _)
 rwa[List.take_length]at this
theorem nu(s:Nm)(ar:List Nm):∀(n:Nat) (br:List Nm),br.length=n->cc s (ar++br) (ar++br).length=match cc s br br.length with|some u=>some u|none=>(cc s ar ar.length).map (·+br.length)
 |
  0,br,h=>by
  obtain rfl:=bJ h
  rw[cS]
  cases h:cc s ar ar.length<;>simp[cc]
 |
  n+1,br,h=>by
  obtain⟨b2,w,rfl⟩:∃b2 w,br=b2++[w]:=⟨br.dropLast,br.getLast (by intro e;rw[e]at h;cases h),(List.dropLast_concat_getLast _).symm⟩
  rw[<-bC]
  by_cases hw:w=s
  ·subst hw;rw[jZ,jZ]
  ·rw[nW _ hw,nW _ hw,nu s ar n b2 (by simpa using h)]
   cases cc s b2 b2.length with
   |some u=>rfl
   |
    none =>
    cases cc s ar ar.length with
    |none=>rfl
    |some u=>simp only[Option.map_none,cn,ap,au,aG];congr 1
theorem tR(ar:List Nm){e:E}(h:Wf e):∀br,(∀y,bh y (cJ e br)=true->y∉ar)->cJ e (ar++br)=cJ e br:=by
 induction h with
 |
  @atom s h =>
  intro br hy
  simp only[cJ]at hy |-
  split
  ·rfl
  ·rename_i h0
   split
   ·rfl
   ·rename_i h1
    rw[if_neg h0,if_neg h1]at hy
    rw[nu s ar _ br rfl]
    cases q:cc s br br.length with
    |some u=>rfl
    |
     none =>
     rw[q]at hy
     have:=(fk s ar).2 (hy s (by simp[bh]))
     rw[this];rfl
 |
  plus ha hb i1 i2 =>
  intro br hy
  rw[dL]at hy |-
  rw[dL,i1 br fun y h=>hy y (by simp[bh,h]),i2 br fun y h=>hy y (by simp[bh,h])]
 |
  times ha hb i1 i2 =>
  intro br hy
  rw[dj]at hy |-
  rw[dj,i1 br fun y h=>hy y (by simp[bh,h]),i2 br fun y h=>hy y (by simp[bh,h])]
 |
  @rc n b hn hb i =>
  intro br hy
  rw[eX]at hy |-
  rw[eX,bC,i _ hy]
theorem xp(x:Nm){e:E}(h:Wf e):∀ar,cJ e ar=dI (.name x) (cJ e ([x]++ar)) ar.length:=by
 induction h with
 |
  @atom s h =>
  intro ar
  simp only[cJ]
  split
  ·rfl
  ·split
   ·rfl
   ·rw[nu s [x] _ ar rfl]
    cases q:cc s ar ar.length with
    |
     some u =>
     have:=(kp _ _ (aw _) q).1
     simp only[dI];rw[if_neg (by omega)]
    |
     none =>
     by_cases hx:x=s
     ·subst hx
      have:cc x [x] [x].length=some 0:=jZ x []
      rw[this];simp[dI]
     ·have:cc s [x] [x].length=none:=(fk s [x]).2 (by simpa using fun e=>hx e.symm)
      rw[this];rfl
 |plus ha hb i1 i2=>intro ar;rw[dL,dL,dI,<-i1 ar,<-i2 ar]
 |times ha hb i1 i2=>intro ar;rw[dj,dj,dI,<-i1 ar,<-i2 ar]
 |
  @rc n b hn hb i =>
  intro ar
  rw[eX,eX,dI,i (ar++[E.at (.atom n)]),bC]
  simp
theorem mK{e:E}(h:Wf e):∀ar y,bh y (cJ e ar)=true->qh y/\y∉ar:=by
 induction h with
 |
  @atom s h =>
  intro ar y hy
  simp only[cJ]at hy
  split at hy
  ·cases hy
  ·rename_i h0
   split at hy
   ·cases hy
   ·rename_i h1
    split at hy
    ·cases hy
    ·rename_i q
     simp only[bh,decide_eq_true_eq]at hy
     subst hy
     exact⟨⟨h,h0,h1⟩,(fk _ _).1 q⟩
 |
  plus ha hb i1 i2 =>
  intro ar y hy
  rw[dL]at hy
  simp only[bh,bB]at hy
  rcases hy with hy|hy
  ·exact i1 ar y hy
  ·exact i2 ar y hy
 |
  times ha hb i1 i2 =>
  intro ar y hy
  rw[dj]at hy
  simp only[bh,bB]at hy
  rcases hy with hy|hy
  ·exact i1 ar y hy
  ·exact i2 ar y hy
 |
  rc hn hb i =>
  intro ar y hy
  rw[eX]at hy
  obtain⟨h1,h2⟩:=i _ y hy
  exact⟨h1,fun h=>h2 (aC _ h)⟩
theorem kU{e:E}(h:Wf e):∀(bd l:List Nm) (y:Nm),y∈jX e bd l↔y∈l\/bh y (cJ e bd)=true:=by
 induction h with
 |
  @atom s h =>
  intro bd l y
  simp only[jX,cJ]
  by_cases h0:s=[48]
  ·simp[h0,bh]
  ·by_cases h1:s=[49]
   ·simp[h1,bh]
   ·rw[if_neg h0,if_neg h1]
    by_cases h2:s∈bd
    ·cases q:cc s bd bd.length with
     |none=>exact absurd h2 ((fk _ _).1 q)
     |some u=>simp[h2,bh]
    ·rw[(fk _ _).2 h2]
     simp only[h0,h1,h2,false_or,bh,decide_eq_true_eq]
     by_cases h3:s∈l
     ·simp only[h3,if_true]
      exact⟨fun h=>.inl h,fun h=>by rcases h with h|rfl<;>assumption⟩
     ·simp only[h3,if_false,aM,aQ,eq_comm]
 |
  plus ha hb i1 i2 =>
  intro bd l y
  rw[jX,if_neg (by decide),dL,i2,i1]
  simp[bh,or_assoc]
 |
  times ha hb i1 i2 =>
  intro bd l y
  rw[jX,if_neg (by decide),dj,i2,i1]
  simp[bh,or_assoc]
 |
  rc hn hb i =>
  intro bd l y
  rw[jX,if_pos (show (E.atom [114,101,99]).at=[114,101,99] from rfl),eX,i]
  rfl
theorem eK:∀(t:Ty) (out:List Nm) (y:Nm),y∈bG t out↔y∈out\/bh y t=true
 |
  .name s,out,y=>by
  simp only[bG,ph,bh,decide_eq_true_eq]
  split
  ·rename_i h;exact⟨fun h=>.inl h,fun h'=>by rcases h' with h'|rfl<;>assumption⟩
  ·simp[eq_comm]
 | .plus a b,out,y=>by rw[bG,eK b,eK a];simp[bh,or_assoc]
 | .times a b,out,y=>by rw[bG,eK b,eK a];simp[bh,or_assoc]
 | .rc a,out,y=>by rw[bG,eK a];rfl
 | .zero,out,y=>by simp[bG,bh]
 | .one,out,y=>by simp[bG,bh]
 | .bP k,out,y=>by simp[bG,bh]
end Go.Proofs.Trees
namespace Go.Proofs.Trees
open Go Go.VL Go.RowKit
abbrev dA:Nm:=[114,101,99]
theorem dR(s:Nm):(E.atom s).at=s:=rfl
def ri(x:Nm)(u:E):E->E
 | .atom s=>if s=x then u else .atom s
 | .list [h,a,b]=>if h.at=dA then(if a.at=x then .list [h,a,b]else .list [.atom dA,a,ri x u b])else .list [.atom h.at,ri x u a,ri x u b]
 | .list l=>.list l
def mJ(x:Nm):E->Nat
 | .atom s=>if s=x then 1 else 0
 | .list [h,a,b]=>if h.at=dA then(if a.at=x then 0 else mJ x b)else mJ x a+mJ x b
 | .list _=>0
def tX(p:Nm->Prop):E->Prop
 | .atom _=>True
 | .list [h,a,b]=>(if h.at=dA then p a.at else tX p a)/\tX p b
 | .list _=>True
def fh(x:Nm):Ty->Nat
 | .name s=>if s=x then 1 else 0
 | .plus a b=>fh x a+fh x b
 | .times a b=>fh x a+fh x b
 | .rc a=>fh x a
 |_=>0
theorem uI(x:Nm)(u a b:E):ri x u (.list [.atom [43],a,b])=.list [.atom [43],ri x u a,ri x u b]:=by rw[ri,if_neg (by decide)];rfl
theorem sg(x:Nm)(u a b:E):ri x u (.list [.atom [42],a,b])=.list [.atom [42],ri x u a,ri x u b]:=by rw[ri,if_neg (by decide)];rfl
theorem AO(x:Nm)(u:E)(n:Nm)(b:E):ri x u (.list [.atom dA,.atom n,b])=if n=x then .list [.atom dA,.atom n,b]else .list [.atom dA,.atom n,ri x u b]:=by rw[ri,if_pos (dR _)];rfl
theorem qV(x:Nm)(a b:E):mJ x (.list [.atom [43],a,b])=mJ x a+mJ x b:=by rw[mJ,if_neg (by decide)]
theorem oL(x:Nm)(a b:E):mJ x (.list [.atom [42],a,b])=mJ x a+mJ x b:=by rw[mJ,if_neg (by decide)]
theorem v8(x:Nm)(n:Nm)(b:E):mJ x (.list [.atom dA,.atom n,b])=if n=x then 0 else mJ x b:=by rw[mJ,if_pos (dR _)];rfl
theorem n9(p:Nm->Prop)(a b:E):tX p (.list [.atom [43],a,b])↔tX p a/\tX p b:=by rw[tX,if_neg (by decide)]
theorem mN(p:Nm->Prop)(a b:E):tX p (.list [.atom [42],a,b])↔tX p a/\tX p b:=by rw[tX,if_neg (by decide)]
theorem tF(p:Nm->Prop)(n:Nm)(b:E):tX p (.list [.atom dA,.atom n,b])↔p n/\tX p b:=by rw[tX,if_pos (dR _)];rfl
theorem AC{p q:Nm->Prop}(h:∀n,p n->q n){e:E}(hw:Wf e):tX p e->tX q e:=by
 induction hw with
 |atom _=>exact fun _=>trivial
 |plus _ _ i1 i2=>rw[n9,n9];exact fun g=>⟨i1 g.1,i2 g.2⟩
 |times _ _ i1 i2=>rw[mN,mN];exact fun g=>⟨i1 g.1,i2 g.2⟩
 |rc _ _ i=>rw[tF,tF];exact fun g=>⟨h _ g.1,i g.2⟩
theorem iR{s:Nm}(hs:qh s){ar:List Nm}(h:s∉ar):cJ (.atom s) ar=.name s:=by
 simp only[cJ];rw[if_neg hs.2.1,if_neg hs.2.2,(fk s ar).2 h]
theorem CY{x:Nm}(hx:qh x){u:E}(hu:Wf u){e:E}(h:Wf e):tX (fun n=>n≠x/\bh n (cJ u [])=false) e->∀ar,x∉ar->(∀y,y∈ar->bh y (cJ u [])=false)->Wf (ri x u e)/\cJ (ri x u e) ar=sub x (cJ u []) (cJ e ar):=by
 induction h with
 |
  @atom s hs =>
  intro _ ar har hy
  by_cases e:s=x
  ·subst e
   have:cJ u (ar++[])=cJ u []:=tR ar hu [] fun y hy' hm=>by rw[hy y hm]at hy';cases hy'
   rw[cS]at this
   rw[iR hx har]
   simp only[ri,sub,if_true]
   exact⟨hu,this⟩
  ·simp only[ri,if_neg e]
   refine⟨.atom hs,?_⟩
   simp only[cJ]
   split
   ·rfl
   ·split
    ·rfl
    ·split
     ·rfl
     ·simp only[sub,if_neg e]
 |
  plus ha hb i1 i2 =>
  intro hap ar har hy
  rw[n9]at hap
  obtain⟨w1,e1⟩:=i1 hap.1 ar har hy
  obtain⟨w2,e2⟩:=i2 hap.2 ar har hy
  rw[uI,dL,dL,e1,e2]
  exact⟨.plus w1 w2,rfl⟩
 |
  times ha hb i1 i2 =>
  intro hap ar har hy
  rw[mN]at hap
  obtain⟨w1,e1⟩:=i1 hap.1 ar har hy
  obtain⟨w2,e2⟩:=i2 hap.2 ar har hy
  rw[sg,dj,dj,e1,e2]
  exact⟨.times w1 w2,rfl⟩
 |
  @rc n b hn hb i =>
  intro hap ar har hy
  rw[tF]at hap
  obtain⟨w1,e1⟩:=i hap.2 (ar++[n]) (by
   simp only[aM,aQ]
   rintro(h|h)
   ·exact har h
   ·exact hap.1.1 h.symm) (fun y hm=>by
   simp only[aM,aQ]at hm
   rcases hm with hm|rfl
   ·exact hy y hm
   ·exact hap.1.2)
  rw[AO,if_neg hap.1.1,eX,eX]
  refine⟨.rc hn w1,?_⟩
  show Ty.rc (cJ (ri x u b) (ar++[n]))=_
  rw[e1];rfl
theorem Dr{x:Nm}(hx:qh x){e:E}(h:Wf e):∀ar,fh x (cJ e ar)=if x∈ar then 0 else mJ x e:=by
 induction h with
 |
  @atom s hs =>
  intro ar
  by_cases e:s=x
  ·subst e
   by_cases hm:s∈ar
   ·rw[if_pos hm]
    simp only[cJ];rw[if_neg hx.2.1,if_neg hx.2.2]
    cases q:cc s ar ar.length with
    |none=>exact absurd hm ((fk _ _).1 q)
    |some u=>rfl
   ·rw[if_neg hm,iR hx hm];simp[fh,mJ]
  ·have:fh x (cJ (.atom s) ar)=0:=by
    simp only[cJ]
    split
    ·rfl
    ·split
     ·rfl
     ·split
      ·rfl
      ·simp[fh,e]
   rw[this];simp[mJ,e]
 |plus ha hb i1 i2=>intro ar;rw[dL,qV,fh,i1,i2];split<;>simp
 |times ha hb i1 i2=>intro ar;rw[dj,oL,fh,i1,i2];split<;>simp
 |
  @rc n b hn hb i =>
  intro ar
  rw[eX,v8,fh,i]
  simp only[dR,aM,aQ]
  by_cases h1:x∈ar
  ·simp[h1]
  ·by_cases h2:x=n
   ·simp[h2]
   ·simp[h1,h2,Ne.symm h2]
theorem dU(x:Nm)(u:Ty):∀t:Ty,(sub x u t).aD+fh x t=t.aD+fh x t*u.aD
 | .name s=>by simp only[sub,fh];split<;>simp[Ty.aD];omega
 | .plus a b=>by have:=dU x u a;have:=dU x u b;simp only[sub,Ty.aD,fh,Nat.add_mul];omega
 | .times a b=>by have:=dU x u a;have:=dU x u b;simp only[sub,Ty.aD,fh,Nat.add_mul];omega
 | .rc a=>by have:=dU x u a;simp only[sub,Ty.aD,fh];omega
 | .zero=>by simp[sub,fh]
 | .one=>by simp[sub,fh]
 | .bP k=>by simp[sub,fh]
abbrev tN(m:Nat):Nm:=116::dd m
theorem DI(m:Nat):dd m≠[]:=by
 by_cases h:m<10
 ·rw[eG h];simp
 ·rw[fE h];simp
theorem wy:∀(n m k:Nat),m<n->dd m=dd k->m=k
 |0,m,k,h,_=>by omega
 |
  n+1,m,k,h,e=>by
  have d10:∀{a b:Nat},a<10->b<10->ba (48+a)=ba (48+b)->a=b:=fun {a b} ha hb h=>by
   have:=congrArg UInt8.toNat h
   simp only[UInt8.toNat_ofNat']at this
   omega
  by_cases h1:m<10<;>by_cases h2:k<10
  ·rw[eG h1,eG h2]at e
   simp only[List.cons.injEq,and_true]at e
   exact d10 h1 h2 e
  ·rw[eG h1,fE h2]at e
   have:=congrArg List.length e
   have:dd (k/10)=[]:=by
    apply bJ
    simp at this;simpa using this
   exact absurd this (DI _)
  ·rw[fE h1,eG h2]at e
   have:=congrArg List.length e
   have:dd (m/10)=[]:=by
    apply bJ
    simp at this;simpa using this
   exact absurd this (DI _)
  ·rw[fE h1,fE h2]at e
   obtain⟨e1,e2⟩:=List.append_inj' e rfl
   have:=wy n (m/10) (k/10) (by omega) e1
   simp only[List.cons.injEq,and_true]at e2
   have:=d10 (ep _ (by omega)) (ep _ (by omega)) e2
   omega
theorem Ah{m k:Nat}(h:tN m=tN k):m=k:=wy (m+1) m k (by omega) (List.cons.inj h).2
theorem yi(m:Nat):qh (tN m):=⟨by simp,by simp,by simp⟩
theorem Qv:∀(l F:List Nm),l.Nodup->(∀x,x∈l->x∈F)->l.length<=F.length
 |[],_,_,_=>dO _
 |
  x::l,F,hn,hs=>by
  obtain⟨h1,h2⟩:=List.nodup_cons.1 hn
  have hx:=hs x aj
  have:=Qv l (F.erase x) h2 fun y hy=>(List.mem_erase_of_ne (fun e=>h1 (by rw[<-e];exact hy))).2 (hs y (al _ hy))
  rw[List.length_erase_of_mem hx]at this
  have:0<F.length:=List.length_pos_of_mem hx
  simp only[au];omega
def pz(F:List Nm):Nat->Nat->Nat
 |0,k=>k
 |n+1,k=>if tN k∈F then pz F n (k+1)else k
theorem uM(F:List Nm):∀(n k:Nat),k<=pz F n k/\pz F n k<=k+n/\(∀j,k<=j->j<pz F n k->tN j∈F)/\(pz F n k<k+n->tN (pz F n k)∉F)
 |0,k=>⟨aw _,aw _,fun j h1 h2=>by simp only[pz]at h2;omega,fun h=>by simp only[pz]at h;omega⟩
 |
  n+1,k=>by
  rw[pz]
  split
  ·rename_i hm
   obtain⟨h1,h2,h3,h4⟩:=uM F n (k+1)
   refine⟨by omega,by omega,fun j hj hl=>?_,fun h=>h4 (by omega)⟩
   by_cases e:j=k
   ·subst e;exact hm
   ·exact h3 j (by omega) hl
  ·rename_i hm
   exact⟨aw _,by omega,fun j h1 h2=>by omega,fun _=>hm⟩
def nx(F:List Nm)(k:Nat):Nat:=pz F (F.length+1) k
theorem gk(F:List Nm)(k:Nat):k<=nx F k/\nx F k<=k+F.length/\(∀j,k<=j->j<nx F k->tN j∈F)/\tN (nx F k)∉F:=by
 obtain⟨h1,h2,h3,h4⟩:=uM F (F.length+1) k
 have hlt:nx F k<k+(F.length+1):=by
  rcases Nat.lt_or_ge (nx F k) (k+(F.length+1))with h|h
  ·exact h
  ·exfalso
   have:=Qv ((List.range' k (F.length+1)).map tN) F (by
    refine List.Pairwise.map _ (fun a b hab e=>hab (Ah e)) List.nodup_range') (fun x hx=>by
    obtain⟨j,hj,rfl⟩:=ci.1 hx
    obtain⟨i,hi,rfl⟩:=List.mem_range'.1 hj
    exact h3 _ (by omega) (by show _<nx F k;omega))
   simp at this
   omega
 exact⟨h1,by unfold nx at hlt |-;omega,h3,h4 hlt⟩
theorem Af{F F':List Nm}(h:∀y,y∈F↔y∈F')(k:Nat):nx F k=nx F' k:=by
 obtain⟨a1,a2,a3,a4⟩:=gk F k
 obtain⟨b1,b2,b3,b4⟩:=gk F' k
 rcases Nat.lt_trichotomy (nx F k) (nx F' k)with hl|he|hl
 ·exact absurd ((h _).2 (b3 _ a1 hl)) a4
 ·exact he
 ·exact absurd ((h _).1 (a3 _ b1 hl)) b4
def gF(F:List Nm):Ty->List Nm->Nat->E×Nat
 | .zero,_,k=>(.atom [48],k)
 | .one,_,k=>(.atom [49],k)
 | .name s,_,k=>(.atom s,k)
 | .bP u,to,k=>(.atom (jB to u),k)
 | .plus a b,to,k=>(.list [.atom [43],(gF F a to k).1,(gF F b to (gF F a to k).2).1],(gF F b to (gF F a to k).2).2)
 | .times a b,to,k=>(.list [.atom [42],(gF F a to k).1,(gF F b to (gF F a to k).2).1],(gF F b to (gF F a to k).2).2)
 | .rc a,to,k=>(.list [.atom dA,.atom (tN (nx F k)),(gF F a (to++[tN (nx F k)]) (nx F k+1)).1],(gF F a (to++[tN (nx F k)]) (nx F k+1)).2)
theorem jo{F F':List Nm}(h:∀y,y∈F↔y∈F'):∀(t:Ty) (to:List Nm) (k:Nat),gF F t to k=gF F' t to k
 | .zero,_,_=>rfl
 | .one,_,_=>rfl
 | .name _,_,_=>rfl
 | .bP _,_,_=>rfl
 | .plus a b,to,k=>by simp only[gF];rw[jo h a,jo h b]
 | .times a b,to,k=>by simp only[gF];rw[jo h a,jo h b]
 | .rc a,to,k=>by simp only[gF];rw[Af h,jo h a]
def jO:Ty->Nat->Prop
 | .bP u,i=>u<i
 | .plus a b,i=>jO a i/\jO b i
 | .times a b,i=>jO a i/\jO b i
 | .rc a,i=>jO a (i+1)
 |_,_=>True
theorem tq{e:E}(h:Wf e):∀ar,jO (cJ e ar) ar.length:=by
 induction h with
 |
  @atom s hs =>
  intro ar
  simp only[cJ]
  split
  ·trivial
  ·split
   ·trivial
   ·split
    ·rename_i u q;exact(kp _ _ (aw _) q).1
    ·trivial
 |plus ha hb i1 i2=>intro ar;rw[dL];exact⟨i1 ar,i2 ar⟩
 |times ha hb i1 i2=>intro ar;rw[dj];exact⟨i1 ar,i2 ar⟩
 |
  @rc n b hn hb i =>
  intro ar;rw[eX]
  have:=i (ar++[(E.atom n).at])
  rw[ap]at this
  exact this
structure Gn(F to:List Nm)(k:Nat):Prop where
 out:∀w,w∈to->w∉F
 lt:∀w,w∈to->∃j,j<k/\w=tN j
 nd:to.Nodup
theorem Gn.nil(F:List Nm)(k:Nat):Gn F [] k:=⟨fun _ h=>(by cases h),fun _ h=>(by cases h),by simp⟩
theorem Gn.mono{F to:List Nm}{k k':Nat}(h:Gn F to k)(hk:k<=k'):Gn F to k':=⟨h.out,fun w hw=>by obtain⟨j,h1,h2⟩:=h.lt w hw;exact⟨j,by omega,h2⟩,h.nd⟩
theorem Gn.push{F to:List Nm}{k:Nat}(h:Gn F to k):Gn F (to++[tN (nx F k)]) (nx F k+1):=by
 obtain⟨h1,h2,h3,h4⟩:=gk F k
 refine⟨fun w hw=>?_,fun w hw=>?_,?_⟩
 ·rcases aM.1 hw with hw|hw
  ·exact h.out w hw
  ·simp only[aQ]at hw;rw[hw];exact h4
 ·rcases aM.1 hw with hw|hw
  ·obtain⟨j,g1,g2⟩:=h.lt w hw;exact⟨j,by omega,g2⟩
  ·simp only[aQ]at hw;exact⟨_,by omega,hw⟩
 ·refine List.nodup_append.2 ⟨h.nd,by simp,fun a ha b hb e=>?_⟩
  simp only[aQ]at hb
  obtain⟨j,g1,g2⟩:=h.lt a ha
  rw[e,hb]at g2
  have:=Ah g2
  omega
theorem ue{to:List Nm}(hn:to.Nodup){u:Nat}(hu:u<to.length):cc (jB to u) to to.length=some u:=by
 have hm:jB to u∈to:=by
  unfold jB
  have:to.length-1-u<to.length:=by omega
  simp[aa,this]
 cases q:cc (jB to u) to to.length with
 |none=>exact absurd hm ((fk _ _).1 q)
 |
  some v =>
  obtain⟨h1,h2⟩:=kp _ _ (aw _) q
  unfold jB at h2
  have e1:to.length-1-v<to.length:=by omega
  have e2:to.length-1-u<to.length:=by omega
  rw[aa,aa,bf e1,bf e2]at h2
  have hp:=List.pairwise_iff_getElem.1 hn
  have h3:to[to.length-1-v]=to[to.length-1-u]:=by simpa using h2
  rcases Nat.lt_trichotomy (to.length-1-v) (to.length-1-u)with hl|he|hl
  ·exact absurd h3 (hp _ _ e1 e2 hl)
  ·congr 1;omega
  ·exact absurd h3.symm (hp _ _ e2 e1 hl)
theorem kb(F:List Nm):∀(t:Ty) (to:List Nm) (k:Nat),Gn F to k->jO t to.length->(∀y,bh y t=true->y∈F/\qh y) ->
 Wf (gF F t to k).1/\cJ (gF F t to k).1 to=t/\k<=(gF F t to k).2/\(gF F t to k).2<=k+(F.length+1)*t.aD/\tX (·∉F) (gF F t to k).1
 | .zero,to,k,_,_,_=>⟨.atom (by simp),rfl,aw _,cU _ _,trivial⟩
 | .one,to,k,_,_,_=>⟨.atom (by simp),rfl,aw _,cU _ _,trivial⟩
 |
  .name s,to,k,g,hl,hn=>by
  obtain⟨h1,h2⟩:=hn s (by simp[bh])
  exact⟨.atom h2.1,iR h2 (fun h=>g.out s h h1),aw _,cU _ _,trivial⟩
 |
  .bP u,to,k,g,hl,hn=>by
  have hm:jB to u∈to:=by
   unfold jB
   have:to.length-1-u<to.length:=by have:u<to.length:=hl;omega
   simp[aa,this]
  obtain⟨j,_,e⟩:=g.lt _ hm
  have hok:qh (jB to u):=by rw[e];exact yi j
  refine⟨.atom hok.1,?_,aw _,cU _ _,trivial⟩
  simp only[gF,cJ]
  rw[if_neg hok.2.1,if_neg hok.2.2,ue g.nd hl]
 |
  .plus a b,to,k,g,hl,hn=>by
  obtain⟨a1,a2,a3,a4,a5⟩:=kb F a to k g hl.1 fun y hy=>hn y (by simp[bh,hy])
  obtain⟨b1,b2,b3,b4,b5⟩:=kb F b to _ (g.mono a3) hl.2 fun y hy=>hn y (by simp[bh,hy])
  simp only[gF,dL,a2,b2,n9,Ty.aD]
  refine⟨.plus a1 b1,trivial,by omega,?_,a5,b5⟩
  have:(F.length+1)*(1+a.aD+b.aD)=(F.length+1)+(F.length+1)*a.aD+(F.length+1)*b.aD:=by simp only[cM,dD]
  omega
 |
  .times a b,to,k,g,hl,hn=>by
  obtain⟨a1,a2,a3,a4,a5⟩:=kb F a to k g hl.1 fun y hy=>hn y (by simp[bh,hy])
  obtain⟨b1,b2,b3,b4,b5⟩:=kb F b to _ (g.mono a3) hl.2 fun y hy=>hn y (by simp[bh,hy])
  simp only[gF,dj,a2,b2,mN,Ty.aD]
  refine⟨.times a1 b1,trivial,by omega,?_,a5,b5⟩
  have:(F.length+1)*(1+a.aD+b.aD)=(F.length+1)+(F.length+1)*a.aD+(F.length+1)*b.aD:=by simp only[cM,dD]
  omega
 |
  .rc a,to,k,g,hl,hn=>by
  obtain⟨h1,h2,h3,h4⟩:=gk F k
  obtain⟨a1,a2,a3,a4,a5⟩:=kb F a (to++[tN (nx F k)]) (nx F k+1) g.push (by rw[ap];exact hl) hn
  simp only[gF,eX,dR,a2,tF,Ty.aD]
  refine⟨.rc (yi _) a1,trivial,by omega,?_,h4,a5⟩
  have:(F.length+1)*(2+a.aD)=(F.length+1)*2+(F.length+1)*a.aD:=by simp only[cM]
  omega
end Go.Proofs.Trees
namespace Go.Proofs.Trees
open Go Go.VL Go.RowKit
inductive ki:AV->List Nat->Prop
 |nil:ki gy []
 |cons {m:Nat} {cs:List AV} {e:AV} {ids:List Nat} (hm:m∉ids) (h:ki e ids):ki (.ptr [.pid m cs,e]) (m::ids)
theorem ki.has{a:AV}{ids:List Nat}(h:ki a ids):LK.has .ptr a:=by
 cases h
 ·exact(gV).mpr trivial
 ·exact(bU _).mpr trivial
theorem ki.QQ{M:Mem}{a:AV}{ids:List Nat}(h:ki a ids):∀{v:Value},bu M dw a v->∀b,b∈ids->M.p b:=by
 induction h with
 |nil=>intro v _ b hb;cases hb
 |
  @cons m cs e ids hm h ih =>
  intro v hr b hb
  cases hr with
  |
   ptr _ _ _ off us hc hr =>
   have h0:=hr 0 (by simp)
   have h1:=hr 1 (by simp)
   simp only[bj,List.getD_cons_succ]at h0 h1
   rcases aI.1 hb with rfl|hb
   ·generalize us 0=u0 at h0
    cases h0 with
    |pid _ _ _ us hp _ _=>exact hp
   ·exact ih h1 b hb
theorem ki.nodup{a:AV}{ids:List Nat}(h:ki a ids):ids.Nodup:=by
 induction h with
 |nil=>simp
 |cons hm h ih=>exact List.nodup_cons.2 ⟨hm,ih⟩
theorem zl(a b:AV)(S:Nat->Prop)(R:AV->Prop):Ap LA cC ez (cN ez) [.agg [.x a,.x b]] S (fun o=>aJ o 7) R =
 .ak (LK.has .ptr a/\a.isNil=false) (.ak (LK.has .ptr a/\a.isNil=false) (.ak (LK.has .ptr ((a.deref.drop 3).headD .any)/\1<=(a.deref.drop 3).length)
  (.ak (∀ids:Nat->Nat,(∀o,¬S (ids o))->(True/\R (.cA [.agg [(a.deref.drop 3).headD .any,.ptr [.pid (ids 7) [a,b],b]],.pid (ids 7) [a,b]]))) (.done 0 [] [])))):=by kernel_rfl
def AU(t:Ty)(ea:AV)(ids:List Nat):AV->List Ob->Prop:=fun r o=>(∃m,m∉ids/\r=.cA [.agg [t.av,.ptr [.pid m [(Ty.rc t).av,ea],ea]],.pid m [(Ty.rc t).av,ea]])/\o=[]
theorem AU.ne(t:Ty)(ea:AV)(ids:List Nat):∃r o,AU t ea ids r o:=by
 have:∃m,m∉ids:=⟨ids.foldr max 0+1,fun h=>by
  have key:∀(l:List Nat) (x:Nat),x∈l->x<=l.foldr max 0:=by
   intro l
   induction l with
   |nil=>intro x hx;cases hx
   |
    cons y l ih =>
    intro x hx
    rcases aI.1 hx with rfl|hx
    ·simp only[List.foldr_cons];omega
    ·have:=ih x hx;simp only[List.foldr_cons];omega
  have:=key _ _ h
  omega⟩
 obtain⟨m,hm⟩:=this
 exact⟨_,_,⟨m,hm,rfl⟩,rfl⟩
theorem Ck(t:Ty)(ea:AV)(ids:List Nat)(he:ki ea ids):an Tryz.prog 86 [.agg [(Ty.rc t).av,ea]] [] (AU t ea ids):=by
 have hup:wA [.agg [(Ty.rc t).av,ea]] [.agg [.x (Ty.rc t).av,.x ea]]:=ag (bY (ag (bp ((aE _).mpr trivial)) (ag (bp he.has) aB))) aB
 refine an.up hup ?_
 refine an.QT (cC:=cC) (F:=ez) (S:=fun b=>b∈ids) (sel:=fun o=>aJ o 7) tM mixed (by kernel_rfl) (by kernel_rfl) (c:=cN ez) (by kernel_rfl) (by kernel_rfl) (fun M β vs hr b hb=>?_) ?_
 ·have h0:=hr 0 (by simp)
  simp only[bj]at h0
  obtain⟨us,_,hl,hq,_⟩:=gp h0
  have h1:=hq 1 (by simp at hl |-)
  simp only[List.getD_cons_succ,bj]at h1
  cases h1 with
  |x _ _ _ _ h=>exact he.QQ h b hb
 ·rw[zl]
  simp only[Ty.av,↓zq,zs,ae,aE]
  exact⟨by omega,fun ids' hf=>⟨ids' 7,hf 7,rfl⟩⟩
theorem Hn(u:Nat)(hu:u<1000000):∀(k i:Nat) (ea:AV) (ids:List Nat),i+k=u->ki ea ids->k<=ids.length->Cl [ea,.v (.int .i64 (u:Int)),.v (.int .i64 (i:Int))] [] (fun t ys o=>t=1/\∃e',ki e' (ids.drop k)/\ys=[e']/\o=[])
 |
  0,i,ea,ids,hi,he,hk=>by
  refine C7 _ _ _ ?_
  have:i=u:=by omega
  subst this
  simp only[AD,↓zq,zs,ae]
  exact⟨he.has,fun h=>by omega,fun _=>⟨ea,he,rfl⟩⟩
 |
  k+1,i,ea,ids,hi,he,hk=>by
  refine C7 _ _ _ ?_
  cases he with
  |nil=>simp at hk
  |
   @cons m cs e ids' hm h =>
   simp only[AD,↓zq,zs,ae,h.has]
   refine⟨fun _=>⟨by omega,?_⟩,fun h=>by omega⟩
   rw[bN i (by omega)]
   exact Hn u hu k (i+1) e ids' (by omega) h (by simpa using hk)
theorem Nh(u:Nat)(ea:AV)(ids:List Nat)(he:ki ea ids)(hu:u<ids.length)(hl:ids.length<1000000):an Tryz.prog 131 [.agg [(Ty.bP u).av,ea]] [] (fun r o=>(∃cs,r=.pid (ids.getD u 0) cs)/\o=[]):=by
 refine Jq _ _ ((aE _).mpr trivial) he.has ?_
 simp only[D3,Ty.av,↓zq,zs,ae,he.has]
 refine⟨by omega,mz (Hn u (by omega) u 0 ea ids (by omega) he (by omega)) ?_ (fun ys o h=>by cases h.1)⟩
 rintro ys o ⟨_,e',he',rfl,rfl⟩
 have hd:ids.drop u=ids.getD u 0::ids.drop (u+1):=by
  rw[aU hu];simp[aa,hu]
 rw[hd]at he'
 cases he' with
 |
  @cons m cs e ids' hm h =>
  have hp:LK.has .ptr (AV.pid (ids.getD u 0) cs):=.inr (.inr ⟨_,_,rfl⟩)
  simp only[↓zq,zs,ae,hp]
  exact⟨by omega,cs,rfl⟩
inductive zz:Tg->List Nat->List UInt8->AV->Prop
 |nm (s:List UInt8) (ids:List Nat):zz (.nm s) ids s gy
 |bd {k:Nat} {ids:List Nat} (hk:k<ids.length) (cs:List AV) (s:List UInt8):zz (.bd k) ids s (.pid (ids.getD k 0) cs)
theorem zz.has{tg:Tg}{ids:List Nat}{s:List UInt8}{fr:AV}(h:zz tg ids s fr):LK.has .ptr fr:=by
 cases h
 ·exact(gV).mpr trivial
 ·exact .inr (.inr ⟨_,_,rfl⟩)
theorem zz.push{tg:Tg}{ids:List Nat}{s:List UInt8}{fr:AV}(h:zz tg ids s fr)(m:Nat):zz tg.up (m::ids) s fr:=by
 cases h with
 |nm=>exact .nm _ _
 |
  @bd k _ hk cs =>
  have:=zz.bd (k:=k+1) (ids:=m::ids) (by simpa using hk) cs s
  simpa[Tg.up]using this
theorem yw{ids:List Nat}(h:ids.Nodup){i j:Nat}(hi:i<ids.length)(hj:j<ids.length)(he:ids.getD i 0=ids.getD j 0):i=j:=by
 have e1:ids.getD i 0=ids[i]:=by simp[aa,hi]
 have e2:ids.getD j 0=ids[j]:=by simp[aa,hj]
 rw[e1,e2]at he
 have hp:=List.pairwise_iff_getElem.1 h
 rcases Nat.lt_trichotomy i j with hlt|rfl|hlt
 ·exact absurd he (hp i j hi hj hlt)
 ·rfl
 ·exact absurd he.symm (hp j i hj hi hlt)
theorem P4(t:Ty)(tg:Tg)(ea:AV)(ids:List Nat)(s:List UInt8)(fr:AV)(he:ki ea ids)(ht:zz tg ids s fr)(hu:∀u,t=.bP u->u<ids.length)(hl:ids.length<1000000) :
 an Tryz.prog 111 [.agg [.v (.string (mk s)),fr],.agg [t.av,ea]] [] (bH (.v (.bool (fP t tg)))):=by
 refine O0 _ _ _ _ ht.has ((aE _).mpr trivial) he.has ?_
 cases ht with
 |
  nm s =>
  cases t<;>simp[Dd,Ty.av,↓zq,zs,ae,zt,bH,fP]
  rw[cw];simp
 |
  @bd k _ hk cs s =>
  generalize hm0:ids.getD k 0=m0
  have hp:LK.has .ptr (AV.pid m0 cs):=.inr (.inr ⟨_,_,rfl⟩)
  have hn:(AV.pid m0 cs).isNil=false:=rfl
  cases t with
  |
   bP u =>
   have hu:=hu u rfl
   simp only[Dd,Ty.av,↓zq,zs,ae,hp,hn]
   refine⟨fun _=>⟨by omega,fun _=>?_,fun h=>absurd rfl h⟩,fun h=>by cases h⟩
   have hb:=Nh u ea ids he hu hl
   simp only[Ty.av]at hb
   refine aO hb ⟨_,_,⟨[],rfl⟩,rfl⟩ ?_
   rintro r o ⟨⟨cs',rfl⟩,rfl⟩
   have hp':LK.has .ptr (AV.pid (ids.getD u 0) cs'):=.inr (.inr ⟨_,_,rfl⟩)
   simp only[↓zq,zs,ae,hp',AV.ry,AV.zY,bH,fP]
   congr 2
   rw[cw,Nat.beq_eq,decide_eq_true_eq,<-hm0]
   exact⟨fun h=>yw he.nodup hu hk h,fun h=>by rw[h]⟩
  |_=>simp[Dd,Ty.av,↓zq,zs,ae,hp,hn,bH,fP]
end Go.Proofs.Trees
namespace Go.Proofs.Trees
open Go Go.VL Go.RowKit
theorem yt(b:Int)(a:AV)(h:LK.ptr.has a):an Tryz.prog 100 [.v (.int .u8 b),a] [] (bH (.ptr [.v (.int .u8 b),.v (.string (mk [])),a,gy])):=by
 refine MX _ _ h ?_
 simp[Hi,↓zq,zs,ae,bH]
end Go.Proofs.Trees
namespace Go.Proofs.Trees
open Go Go.VL Go.RowKit
def ib(l:List Hl):List (List AV):=l.map fun h=>[h.1.cr,h.2.cr]
theorem eh(l:List Hl):(ib l).length=l.length:=by simp[ib]
theorem lE{l:List Hl}{i:Nat}(hi:i<l.length):(ib l).getD i []=[(l[i]).1.cr,(l[i]).2.cr]:=by simp[ib,aa,hi]
theorem nR(out:List Hl)(a b:Vl):ib out++[[a.cr,b.cr]]=ib (out++[(a,b)]):=by simp[ib]
theorem me(g:Vl->Vl)(l:List Hl){i:Nat}(hi:i<l.length):lU g (l.drop i)=(g (l[i]).1,(l[i]).2)::lU g (l.drop (i+1)):=by
 rw[aU hi];rfl
theorem lz(g:Vl->Vl)(l:List Hl):(lU g l).length=l.length:=by simp[lU]
theorem A9(a b:AV):cV 2 [[a,b]]:=fun c hc=>by simp at hc;rw[hc];rfl
theorem H2(x0:AV)(hx0:LK.ptr.has x0)(g:Vl->Vl)(hg:∀c:Vl,an Tryz.prog 115 [c.cr,.ref 0 0] [.cells [x0]] (dm (g c).cr [.cells [x0]]))(l:List Hl):∀(k i:Nat) (out:List Hl),i+k=l.length->out.length+k<=1000000->l.length<=1000000 ->
 Fu [.sl (ib l),.v (.int .i64 (l.length:Int)),.v (.int .i64 (i:Int))] [.cells [x0],.cells [.any],.vec 2 (ib out)] (jq 1 [] [.cells [x0],.cells [.any],.vec 2 (ib (out++lU g (l.drop i)))])
 |
  0,i,out,hi,ho,hl=>by
  refine Kz _ _ _ _ _ ?_
  have:i=l.length:=by omega
  subst this
  simp only[EJ,↓zq,zs,ae,eh,hx0]
  exact⟨fun h=>by omega,fun _=>by simp[jq,lU]⟩
 |
  k+1,i,out,hi,ho,hl=>by
  have hlt:i<l.length:=by omega
  refine Kz _ _ _ _ _ ?_
  simp only[EJ,↓zq,zs,ae,zt,eh,lE hlt,aK,bw,hx0]
  refine⟨fun _=>⟨by omega,by omega,?_⟩,fun h=>by omega⟩
  refine aY (hg _) ?_
  simp only[↓zq,zs,ae,aK,aL,bH,dm,hx0]
  refine⟨⟨A9 _ _,by omega⟩,?_⟩
  rw[bN i (by omega)]
  have:=H2 x0 hx0 g hg l k (i+1) (out++[(g (l[i]).1,(l[i]).2)]) (by omega) (by simp;omega) hl
  rw[bC]at this
  rw[me g l hlt,nR]
  exact this
theorem JW(x0:AV)(hx0:LK.ptr.has x0)(g:Vl->Vl)(hg:∀c:Vl,an Tryz.prog 115 [c.cr,.ref 0 0] [.cells [x0]] (dm (g c).cr [.cells [x0]]))(l out:List Hl)(hl:out.length+l.length<=1000000) :
 an Tryz.prog 112 [.sl (ib l),.fn 115 [.ref 0 0],.ref 1 0] [.cells [x0],.cells [.vec 2],.vec 2 (ib out)] (dm .any [.cells [x0],.cells [.vec 2],.vec 2 (ib (out++lU g l))]):=by
 refine MV _ _ _ ((cg _).mpr trivial) hx0 ?_
 simp only[JA,↓zq,zs,ae,eh]
 have h:=H2 x0 hx0 g hg l l.length 0 out (by omega) (by omega) (by omega)
 rw[bx]at h
 refine cR h ?_
 simp[↓zq,zs,ae,dm,aL,hx0]
theorem Kr(x0:AV)(hx0:LK.ptr.has x0)(g:Vl->Vl)(hg:∀c:Vl,an Tryz.prog 116 [c.cr,.ref 0 0] [.cells [x0]] (dm (g c).cr [.cells [x0]]))(l:List Hl):∀(k i:Nat) (out:List Hl),i+k=l.length->out.length+k<=1000000->l.length<=1000000 ->
 FA [.sl (ib l),.v (.int .i64 (l.length:Int)),.v (.int .i64 (i:Int))] [.cells [x0],.cells [.any],.vec 2 (ib out)] (jq 1 [] [.cells [x0],.cells [.any],.vec 2 (ib (out++lU g (l.drop i)))])
 |
  0,i,out,hi,ho,hl=>by
  refine JX _ _ _ _ _ ?_
  have:i=l.length:=by omega
  subst this
  simp only[FU,↓zq,zs,ae,eh,hx0]
  exact⟨fun h=>by omega,fun _=>by simp[jq,lU]⟩
 |
  k+1,i,out,hi,ho,hl=>by
  have hlt:i<l.length:=by omega
  refine JX _ _ _ _ _ ?_
  simp only[FU,↓zq,zs,ae,zt,eh,lE hlt,aK,bw,hx0]
  refine⟨fun _=>⟨by omega,by omega,?_⟩,fun h=>by omega⟩
  refine aY (hg _) ?_
  simp only[↓zq,zs,ae,aK,aL,bH,dm,hx0]
  refine⟨⟨A9 _ _,by omega⟩,?_⟩
  rw[bN i (by omega)]
  have:=Kr x0 hx0 g hg l k (i+1) (out++[(g (l[i]).1,(l[i]).2)]) (by omega) (by simp;omega) hl
  rw[bC]at this
  rw[me g l hlt,nR]
  exact this
theorem Pc(x0:AV)(hx0:LK.ptr.has x0)(g:Vl->Vl)(hg:∀c:Vl,an Tryz.prog 116 [c.cr,.ref 0 0] [.cells [x0]] (dm (g c).cr [.cells [x0]]))(l out:List Hl)(hl:out.length+l.length<=1000000) :
 an Tryz.prog 112 [.sl (ib l),.fn 116 [.ref 0 0],.ref 1 0] [.cells [x0],.cells [.vec 2],.vec 2 (ib out)] (dm .any [.cells [x0],.cells [.vec 2],.vec 2 (ib (out++lU g l))]):=by
 refine M7 _ _ _ ((cg _).mpr trivial) hx0 ?_
 simp only[KZ,↓zq,zs,ae,eh]
 have h:=Kr x0 hx0 g hg l l.length 0 out (by omega) (by omega) (by omega)
 rw[bx]at h
 refine cR h ?_
 simp[↓zq,zs,ae,dm,aL,hx0]
theorem Io(x0:AV)(hx0:LK.ptr.has x0)(g:Vl->Vl)(hg:∀c:Vl,an Tryz.prog 118 [c.cr,.ref 0 0] [.cells [x0]] (dm (g c).cr [.cells [x0]]))(l:List Hl):∀(k i:Nat) (out:List Hl),i+k=l.length->out.length+k<=1000000->l.length<=1000000 ->
 Gl [.sl (ib l),.v (.int .i64 (l.length:Int)),.v (.int .i64 (i:Int))] [.cells [x0],.cells [.any],.vec 2 (ib out)] (jq 1 [] [.cells [x0],.cells [.any],.vec 2 (ib (out++lU g (l.drop i)))])
 |
  0,i,out,hi,ho,hl=>by
  refine Ma _ _ _ _ _ ?_
  have:i=l.length:=by omega
  subst this
  simp only[Fp,↓zq,zs,ae,eh,hx0]
  exact⟨fun h=>by omega,fun _=>by simp[jq,lU]⟩
 |
  k+1,i,out,hi,ho,hl=>by
  have hlt:i<l.length:=by omega
  refine Ma _ _ _ _ _ ?_
  simp only[Fp,↓zq,zs,ae,zt,eh,lE hlt,aK,bw,hx0]
  refine⟨fun _=>⟨by omega,by omega,?_⟩,fun h=>by omega⟩
  refine aY (hg _) ?_
  simp only[↓zq,zs,ae,aK,aL,bH,dm,hx0]
  refine⟨⟨A9 _ _,by omega⟩,?_⟩
  rw[bN i (by omega)]
  have:=Io x0 hx0 g hg l k (i+1) (out++[(g (l[i]).1,(l[i]).2)]) (by omega) (by simp;omega) hl
  rw[bC]at this
  rw[me g l hlt,nR]
  exact this
theorem OO(x0:AV)(hx0:LK.ptr.has x0)(g:Vl->Vl)(hg:∀c:Vl,an Tryz.prog 118 [c.cr,.ref 0 0] [.cells [x0]] (dm (g c).cr [.cells [x0]]))(l out:List Hl)(hl:out.length+l.length<=1000000) :
 an Tryz.prog 112 [.sl (ib l),.fn 118 [.ref 0 0],.ref 1 0] [.cells [x0],.cells [.vec 2],.vec 2 (ib out)] (dm .any [.cells [x0],.cells [.vec 2],.vec 2 (ib (out++lU g l))]):=by
 refine Qo _ _ _ ((cg _).mpr trivial) hx0 ?_
 simp only[Jj,↓zq,zs,ae,eh]
 have h:=Io x0 hx0 g hg l l.length 0 out (by omega) (by omega) (by omega)
 rw[bx]at h
 refine cR h ?_
 simp[↓zq,zs,ae,dm,aL,hx0]
theorem LQ(g:Vl->Vl)(hg:∀c:Vl,an Tryz.prog 119 [c.cr] [] (bH (g c).cr))(l:List Hl):∀(k i:Nat) (out:List Hl),i+k=l.length->out.length+k<=1000000->l.length<=1000000 ->
 Fw [.v (.func (.func 119) #[] #[]),.sl (ib l),.v (.int .i64 (l.length:Int)),.v (.int .i64 (i:Int))] [.cells [.any],.vec 2 (ib out)] (jq 1 [] [.cells [.any],.vec 2 (ib (out++lU g (l.drop i)))])
 |
  0,i,out,hi,ho,hl=>by
  refine KA _ _ _ _ ?_
  have:i=l.length:=by omega
  subst this
  simp only[Ey,↓zq,zs,ae,eh]
  exact⟨fun h=>by omega,fun _=>by simp[jq,lU]⟩
 |
  k+1,i,out,hi,ho,hl=>by
  have hlt:i<l.length:=by omega
  refine KA _ _ _ _ ?_
  simp only[Ey,↓zq,zs,ae,zt,eh,lE hlt,aK,bw]
  refine⟨fun _=>⟨by omega,by omega,?_⟩,fun h=>by omega⟩
  refine ai (hg _) ?_
  simp only[↓zq,zs,ae,aK,aL,bH,dm]
  refine⟨⟨A9 _ _,by omega⟩,?_⟩
  rw[bN i (by omega)]
  have:=LQ g hg l k (i+1) (out++[(g (l[i]).1,(l[i]).2)]) (by omega) (by simp;omega) hl
  rw[bC]at this
  rw[me g l hlt,nR]
  exact this
theorem OF(g:Vl->Vl)(hg:∀c:Vl,an Tryz.prog 119 [c.cr] [] (bH (g c).cr))(l out:List Hl)(hl:out.length+l.length<=1000000) :
 an Tryz.prog 112 [.sl (ib l),.v (.func (.func 119) #[] #[]),.ref 0 0] [.cells [.vec 1],.vec 2 (ib out)] (dm .any [.cells [.vec 1],.vec 2 (ib (out++lU g l))]):=by
 refine Oo _ _ ((cg _).mpr trivial) ?_
 simp only[Ls,↓zq,zs,ae,eh]
 have h:=LQ g hg l l.length 0 out (by omega) (by omega) (by omega)
 rw[bx]at h
 refine cR h ?_
 simp[↓zq,zs,ae,dm,aL]
theorem IP(x0:AV)(x1:AV)(hx0:LK.ptr.has x0)(hx1:LK.ptr.has x1)(g:Vl->Vl)(hg:∀c:Vl,an Tryz.prog 120 [c.cr,.ref 0 0] [.cells [x0,x1]] (dm (g c).cr [.cells [x0,x1]]))(l:List Hl):∀(k i:Nat) (out:List Hl),i+k=l.length->out.length+k<=1000000->l.length<=1000000 ->
 ER [.sl (ib l),.v (.int .i64 (l.length:Int)),.v (.int .i64 (i:Int))] [.cells [x0,x1],.cells [.any],.vec 2 (ib out)] (jq 1 [] [.cells [x0,x1],.cells [.any],.vec 2 (ib (out++lU g (l.drop i)))])
 |
  0,i,out,hi,ho,hl=>by
  refine Jm _ _ _ _ _ _ ?_
  have:i=l.length:=by omega
  subst this
  simp only[E9,↓zq,zs,ae,eh,hx0,hx1]
  exact⟨fun h=>by omega,fun _=>by simp[jq,lU]⟩
 |
  k+1,i,out,hi,ho,hl=>by
  have hlt:i<l.length:=by omega
  refine Jm _ _ _ _ _ _ ?_
  simp only[E9,↓zq,zs,ae,zt,eh,lE hlt,aK,bw,hx0,hx1]
  refine⟨fun _=>⟨by omega,by omega,?_⟩,fun h=>by omega⟩
  refine aY (hg _) ?_
  simp only[↓zq,zs,ae,aK,aL,bH,dm,hx0,hx1]
  refine⟨⟨A9 _ _,by omega⟩,?_⟩
  rw[bN i (by omega)]
  have:=IP x0 x1 hx0 hx1 g hg l k (i+1) (out++[(g (l[i]).1,(l[i]).2)]) (by omega) (by simp;omega) hl
  rw[bC]at this
  rw[me g l hlt,nR]
  exact this
theorem Ot(x0:AV)(x1:AV)(hx0:LK.ptr.has x0)(hx1:LK.ptr.has x1)(g:Vl->Vl)(hg:∀c:Vl,an Tryz.prog 120 [c.cr,.ref 0 0] [.cells [x0,x1]] (dm (g c).cr [.cells [x0,x1]]))(l out:List Hl)(hl:out.length+l.length<=1000000) :
 an Tryz.prog 112 [.sl (ib l),.fn 120 [.ref 0 0],.ref 1 0] [.cells [x0,x1],.cells [.vec 2],.vec 2 (ib out)] (dm .any [.cells [x0,x1],.cells [.vec 2],.vec 2 (ib (out++lU g l))]):=by
 refine P0 _ _ _ _ ((cg _).mpr trivial) hx0 hx1 ?_
 simp only[Le,↓zq,zs,ae,eh]
 have h:=IP x0 x1 hx0 hx1 g hg l l.length 0 out (by omega) (by omega) (by omega)
 rw[bx]at h
 refine cR h ?_
 simp[↓zq,zs,ae,dm,aL,hx0,hx1]
theorem Ps(w c:Vl):an Tryz.prog 115 [c.cr,.ref 0 0] [.cells [(Vl.l w).cr]] (dm (Vl.l c).cr [.cells [(Vl.l w).cr]]):=by
 refine Ik _ _ ((aK _).mpr trivial) ((aK _).mpr trivial) ?_
 simp only[FY,Vl.cr,↓zq,zs,ae,aK]
 refine⟨by omega,?_⟩
 refine ai (yt _ _ ((aK _).mpr trivial)) ?_
 simp[↓zq,zs,ae,dm,Vl.cr]
theorem Pp(w c:Vl):an Tryz.prog 115 [c.cr,.ref 0 0] [.cells [(Vl.r w).cr]] (dm (Vl.r c).cr [.cells [(Vl.r w).cr]]):=by
 refine Ik _ _ ((aK _).mpr trivial) ((aK _).mpr trivial) ?_
 simp only[FY,Vl.cr,↓zq,zs,ae,aK]
 refine⟨by omega,?_⟩
 refine ai (yt _ _ ((aK _).mpr trivial)) ?_
 simp[↓zq,zs,ae,dm,Vl.cr]
theorem Np(x y c:Vl):an Tryz.prog 116 [c.cr,.ref 0 0] [.cells [(Vl.p x y).cr]] (dm (Vl.l (.p c y)).cr [.cells [(Vl.p x y).cr]]):=by
 refine M5 _ _ ((aK _).mpr trivial) ((aK _).mpr trivial) ?_
 simp only[Ku,Vl.cr,↓zq,zs,ae,aK]
 refine⟨by omega,?_⟩
 refine ai (yP _ _ ((aK _).mpr trivial) ((aK _).mpr trivial)) ?_
 simp only[↓zq,zs,ae]
 refine ai (yt _ _ ((bU _).mpr trivial)) ?_
 simp[↓zq,zs,ae,dm,Vl.cr]
theorem Qa(x y c:Vl):an Tryz.prog 118 [c.cr,.ref 0 0] [.cells [(Vl.p x y).cr]] (dm (Vl.r (.p x c)).cr [.cells [(Vl.p x y).cr]]):=by
 refine Oe _ _ ((aK _).mpr trivial) ((aK _).mpr trivial) ?_
 simp only[Ll,Vl.cr,↓zq,zs,ae,aK]
 refine⟨by omega,?_⟩
 refine ai (yP _ _ ((aK _).mpr trivial) ((aK _).mpr trivial)) ?_
 simp only[↓zq,zs,ae]
 refine ai (yt _ _ ((bU _).mpr trivial)) ?_
 simp[↓zq,zs,ae,dm,Vl.cr]
theorem Pb(kc kv c:Vl):an Tryz.prog 120 [c.cr,.ref 0 0] [.cells [kc.cr,kv.cr]] (dm (Vl.f (.r (.p kc c))).cr [.cells [kc.cr,kv.cr]]):=by
 refine PF _ _ _ ((aK _).mpr trivial) ((aK _).mpr trivial) ((aK _).mpr trivial) ?_
 simp only[LU,Vl.cr,↓zq,zs,ae,aK]
 refine ai (yP _ _ ((aK _).mpr trivial) ((aK _).mpr trivial)) ?_
 simp only[↓zq,zs,ae]
 refine ai (yt _ _ ((bU _).mpr trivial)) ?_
 simp only[↓zq,zs,ae]
 refine ai (yt _ _ ((bU _).mpr trivial)) ?_
 simp[↓zq,zs,ae,dm,Vl.cr,aK]
theorem N5(c:Vl):an Tryz.prog 119 [c.cr] [] (bH (Vl.f (.l c)).cr):=by
 refine Nz _ ((aK _).mpr trivial) ?_
 simp only[K1,↓zq,zs,ae]
 refine ai (yt _ _ ((aK _).mpr trivial)) ?_
 simp only[↓zq,zs,ae]
 refine ai (yt _ _ ((bU _).mpr trivial)) ?_
 simp[↓zq,zs,ae,bH,Vl.cr]
end Go.Proofs.Trees
namespace Go.Proofs.Trees
open Go Go.VL Go.RowKit
abbrev Hf(a:Ty)(tg:Tg):Hl->List Hl:=fun h=>lU (fun c=>.f (.r (.p h.1 c))) (cK (.rc a) tg h.2)
theorem F1(l:List Hl){i:Nat}(hi:i<l.length):l[i]∈l:=bD _
def Gq(t:Ty)(ea:AV)(s:List UInt8)(fr:AV)(tg:Tg)(v:Vl):Prop:=an Tryz.prog 87 [.agg [t.av,ea],v.cr,.agg [.v (.string (mk s)),fr]] [] (bH (.sl (ib (cK t tg v))))
theorem Hx(a:Ty)(ea:AV)(s:List UInt8)(fr:AV)(tg:Tg)(he:LK.ptr.has ea)(hf:LK.ptr.has fr)(l:List Hl)(hl:l.length<=1000000)(ih:∀h,h∈l->Gq (.rc a) ea s fr tg h.2) :
 ∀(k i:Nat) (out:List Hl),i+k=l.length->(out++(l.drop i).flatMap (Hf a tg)).length<=1000000 ->
 G9 [.sl (ib l),.v (.int .i64 (l.length:Int)),.v (.int .i64 (i:Int))] [.cells [(Ty.rc a).av,ea],.cells [.v (.string (mk s)),fr],.cells [.any],.vec 2 (ib out)] (jq 1 [] [.cells [.any],.vec 2 (ib (out++(l.drop i).flatMap (Hf a tg)))])
 |
  0,i,out,hi,ho=>by
  refine JV _ _ _ _ _ _ _ _ ?_
  have:i=l.length:=by omega
  subst this
  simp only[D4,↓zq,zs,ae,eh,aE,he,hf]
  exact⟨fun h=>by omega,fun _=>by simp[jq]⟩
 |
  k+1,i,out,hi,ho=>by
  have hlt:i<l.length:=by omega
  have hd:(l.drop i).flatMap (Hf a tg)=Hf a tg (l[i])++(l.drop (i+1)).flatMap (Hf a tg):=by rw[aU hlt,List.flatMap_cons]
  rw[hd]at ho |-
  refine JV _ _ _ _ _ _ _ _ ?_
  simp only[D4,↓zq,zs,ae,zt,eh,lE hlt,aE,aK,bw,he,hf]
  refine⟨fun _=>⟨by omega,by omega,?_⟩,fun h=>by omega⟩
  refine ai (ih _ (F1 l hlt)) ?_
  simp only[↓zq,zs,ae]
  have hb:out.length+(cK (.rc a) tg (l[i]).2).length<=1000000:=by
   simp only[ap,lz]at ho;omega
  refine aY (Ot _ _ ((aK _).mpr trivial) ((aK _).mpr trivial) (fun c=>.f (.r (.p (l[i]).1 c))) (fun c=>Pb (l[i]).1 (l[i]).2 c) (cK (.rc a) tg (l[i]).2) out hb) ?_
  simp only[↓zq,zs,ae,aL,aK]
  rw[bN i (by omega),<-bC]
  exact Hx a ea s fr tg he hf l hl ih k (i+1) _ (by omega) (by rw[bC];exact ho)
theorem DX(n:Nat):∀(m:Nat) (v:Vl),v.nodes<=m->∀(e:E) (env:List Fr) (t:Ty),Ask e env t->fD n v (e,env)=true->env.length+v.nodes<100000->∀(ea:AV) (ids:List Nat),ki ea ids->ids.length=env.length->∀(tg:Tg) (s:List UInt8) (fr:AV),zz tg ids s fr->Gq t ea s fr tg v
 |0,v,hm=>by have:=dT v;omega
 |
  m+1,v,hm=>by
  intro e env t A hv hl ea ids he hids tg s fr ht
  unfold Gq
  refine Pe _ _ _ _ _ ((aE _).mpr trivial) he.has ((aK _).mpr trivial) ht.has ?_
  unfold Mq
  refine ai (P4 t tg ea ids s fr he ht (fun u hu=>by
   rcases gZ A.wf A.ty with⟨hb,_⟩|⟨u',g,rfl,_,hg⟩
   ·rw[hu]at hb;cases hb
   ·cases hu;rw[hids];exact(List.getElem?_eq_some_iff.1 hg).1) (by omega)) ?_
  have hlen:=sJ t tg v
  cases hat:fP t tg with
  |
   true =>
   rw[n8 v hat]
   simp only[↓zq,zs,ae,bH,ib,bI,List.map_nil,Vl.cr]
   exact⟨fun _=>trivial,fun h=>(by cases h)⟩
  |false =>
  simp only[↓zq,zs,ae]
  refine⟨fun h=>(by cases h),fun _=>?_⟩
  rcases gZ A.wf A.ty with⟨hb,hq⟩|⟨u,g,rfl,hq,hu⟩
  ·have hhd:hd e env=(e,env):=lm hq
   rcases fU A.ty hb A.cl with⟨rfl,rfl⟩|⟨rfl,rfl⟩|⟨s,rfl,rfl,hp,h0,h1⟩|⟨x,a,b,t1,t2,rfl,hx,rfl,ha,hbb⟩|⟨x,a,b,t1,t2,rfl,hx,rfl,ha,hbb⟩|⟨x,a,b,t1,rfl,hx,rfl⟩
   ·rw[er hat (by cases v<;>rfl)]
    simp[Ty.av,↓zq,zs,ae,bH,ib]
   ·rw[er hat (by cases v<;>rfl)]
    simp[Ty.av,↓zq,zs,ae,bH,ib]
   ·rw[er hat (by cases v<;>rfl)]
    simp[Ty.av,↓zq,zs,ae,bH,ib]
   ·obtain⟨ok1,ok2,ok3,_⟩:=A.ok
    obtain⟨f1,f2⟩:=fR A.cl
    have hL:=yQ t1.av t2.av ea 43 (mk []) 0 ((aE _).mpr trivial) he.has
    have hR:=yL t1.av t2.av ea 43 (mk []) 0 ((aE _).mpr trivial) he.has
    cases v with
    |
     l w =>
     simp only[fD,hhd,hx,beq_self_eq_true,cm]at hv
     simp only[Vl.nodes]at hm hl hlen
     rw[qw]at hlen |-
     rw[lz]at hlen
     simp only[Ty.av,↓zq,zs,ae]
     refine⟨by omega,fun _=>?_,fun h=>absurd rfl h⟩
     refine ai hL ?_
     simp only[↓zq,zs,ae,bw,aE,he.has,Vl.cr,aK]
     refine⟨by omega,fun h=>by omega,fun _=>⟨by omega,?_⟩⟩
     refine ai (DX n m w (by omega) a env t1 ⟨ok2,A.wf,ha,f1⟩ hv (by omega) ea ids he hids tg s fr ht) ?_
     simp only[↓zq,zs,ae]
     have hadd:=JW (Vl.l w).cr ((aK _).mpr trivial) Vl.l (fun c=>Ps w c) (cK t1 tg w) [] (by simp;omega)
     simp only[Vl.cr,ib,List.map_nil,aT]at hadd
     refine aY hadd ?_
     simp[↓zq,zs,ae,aL,bH,aK,ib,bU]
    |
     r w =>
     simp only[fD,hhd,hx,beq_self_eq_true,cm]at hv
     simp only[Vl.nodes]at hm hl hlen
     rw[qf]at hlen |-
     rw[lz]at hlen
     simp only[Ty.av,↓zq,zs,ae]
     refine⟨by omega,fun _=>?_,fun h=>absurd rfl h⟩
     refine ai hL ?_
     simp only[↓zq,zs,ae,bw,aE,he.has,Vl.cr,aK]
     refine⟨by omega,fun _=>?_,fun h=>absurd rfl h⟩
     refine ai hR ?_
     simp only[↓zq,zs,ae,bw,aE,he.has,aK]
     refine⟨by omega,?_⟩
     refine ai (DX n m w (by omega) b env t2 ⟨ok3,A.wf,hbb,f2⟩ hv (by omega) ea ids he hids tg s fr ht) ?_
     simp only[↓zq,zs,ae]
     have hadd:=JW (Vl.r w).cr ((aK _).mpr trivial) Vl.r (fun c=>Pp w c) (cK t2 tg w) [] (by simp;omega)
     simp only[Vl.cr,ib,List.map_nil,aT]at hadd
     refine aY hadd ?_
     simp[↓zq,zs,ae,aL,bH,aK,ib,bU]
    |_=>simp[fD,hhd,hx]at hv
   ·obtain⟨ok1,ok2,ok3,_⟩:=A.ok
    obtain⟨f1,f2⟩:=fu A.cl
    have hL:=yQ t1.av t2.av ea 42 (mk []) 0 ((aE _).mpr trivial) he.has
    have hR:=yL t1.av t2.av ea 42 (mk []) 0 ((aE _).mpr trivial) he.has
    cases v with
    |
     p w w' =>
     simp only[fD,hhd,hx,beq_self_eq_true,cm,aq]at hv
     simp only[Vl.nodes]at hm hl hlen
     rw[qt]at hlen |-
     simp only[ap,lz]at hlen
     simp only[Ty.av,↓zq,zs,ae]
     refine⟨by omega,fun h=>by omega,fun _=>⟨fun _=>?_,fun h=>absurd rfl h⟩⟩
     refine ai hL ?_
     simp only[↓zq,zs,ae,bw,aE,he.has,Vl.cr,aK]
     refine⟨by omega,?_⟩
     refine ai (DX n m w (by omega) a env t1 ⟨ok2,A.wf,ha,f1⟩ hv.1 (by omega) ea ids he hids tg s fr ht) ?_
     simp only[↓zq,zs,ae]
     have hadd:=Pc (Vl.p w w').cr ((aK _).mpr trivial) (fun c=>.l (.p c w')) (fun c=>Np w w' c) (cK t1 tg w) [] (by simp;omega)
     simp only[Vl.cr,ib,List.map_nil,aT]at hadd
     refine aY hadd ?_
     simp only[↓zq,zs,ae,aL,aK]
     refine ai hR ?_
     simp only[↓zq,zs,ae,bw,aE,he.has,aK]
     refine⟨by omega,?_⟩
     refine ai (DX n m w' (by omega) b env t2 ⟨ok3,A.wf,hbb,f2⟩ hv.2 (by omega) ea ids he hids tg s fr ht) ?_
     simp only[↓zq,zs,ae]
     have hadd2:=OO (Vl.p w w').cr ((aK _).mpr trivial) (fun c=>.r (.p w c)) (fun c=>Qa w w' c) (cK t2 tg w') (lU (fun c=>.l (.p c w')) (cK t1 tg w)) (by rw[lz];omega)
     simp only[Vl.cr,ib]at hadd2
     refine aY hadd2 ?_
     simp[↓zq,zs,ae,aL,bH,aK,ib,bU]
    |_=>simp[fD,hhd,hx]at hv
   ·obtain⟨t1',he1,h1,f1,hw1⟩:=jG A.wf A.ok hx A.ty A.cl
    cases he1
    obtain⟨ok1,ok2,ok3,_⟩:=A.ok
    have A':Ask b (.mk a.at (.list [x,a,b]) env::env) t1:=⟨ok3,hw1,h1,f1⟩
    cases v with
    |
     f w =>
     simp only[fD,hhd,hx,beq_self_eq_true,cm]at hv
     simp only[Vl.nodes]at hm hl hlen
     rw[qg]at hlen |-
     simp only[ap,lz]at hlen
     have hin:=Ck t1 ea ids he
     simp only[Ty.av]at hin
     simp only[Ty.av,↓zq,zs,ae]
     refine⟨by omega,fun h=>by omega,fun _=>⟨fun h=>by omega,fun _=>⟨fun _=>?_,fun h=>absurd rfl h⟩⟩⟩
     refine aO hin (by have:=AU.ne t1 ea ids;simpa only[AU,Ty.av]using this) ?_
     intro r o hr
     obtain⟨⟨mm,hmm,rfl⟩,rfl⟩:=hr
     have he2:ki (.ptr [.pid mm [(Ty.rc t1).av,ea],ea]) (mm::ids):=.cons hmm he
     have hfr:LK.ptr.has (.pid mm [(Ty.rc t1).av,ea]):=.inr (.inr ⟨_,_,rfl⟩)
     simp only[Ty.av]at he2 hfr
     simp only[↓zq,zs,ae,bw,aE,he2.has,hfr,Vl.cr,aK,Ty.av]
     refine⟨by omega,?_⟩
     have i1:=DX n m w (by omega) b _ t1 A' hv (by simp;omega) _ _ he2 (by simp[hids]) tg.up s fr (ht.push mm)
     unfold Gq at i1
     refine ai i1 ?_
     simp only[↓zq,zs,ae]
     have hadd:=OF (fun c=>.f (.l c)) (fun c=>N5 c) (cK t1 tg.up w) [] (by simp;omega)
     simp only[Vl.cr,ib,List.map_nil,aT]at hadd
     refine aY hadd ?_
     simp only[↓zq,zs,ae,aL,aK]
     have i2:=DX n m w (by omega) b _ t1 A' hv (by simp;omega) _ _ he2 (by simp[hids]) (.bd 0) [] _ (by have:=zz.bd (k:=0) (ids:=mm::ids) (by simp) [(Ty.rc t1).av,ea] [];simpa only[bj,Ty.av]using this)
     unfold Gq at i2
     refine⟨by omega,?_⟩
     refine ai i2 ?_
     simp only[↓zq,zs,ae,eh]
     have hl2:=sJ t1 (.bd 0) w
     have ih3:∀h,h∈cK t1 (.bd 0) w->Gq (.rc t1) ea s fr tg h.2:=fun h hh=>by
      have h3:=(kE hh).1
      have h4:=iZ n m w (by omega) b _ t1 A' hv 0 _ rfl h hh
      exact DX n m h.2 (by omega) (.list [x,a,b]) env (.rc t1) A h4 (by omega) ea ids he hids tg s fr ht
     have hloop:=Hx t1 ea s fr tg he.has ht.has (cK t1 (.bd 0) w) (by omega) ih3 (cK t1 (.bd 0) w).length 0 (lU (fun c=>.f (.l c)) (cK t1 tg.up w)) (by omega) (by
      simp only[bx,ap,lz]
      have hlen2:(cK t1 tg.up w).length+((cK t1 (.bd 0) w).flatMap (Hf t1 tg)).length<=1+w.nodes:=hlen
      omega)
     simp only[Ty.av,ib,bx]at hloop
     refine cR hloop ?_
     simp[↓zq,zs,ae,ae,bH,ib]
    |_=>simp[fD,hhd,hx]at hv
  ·rw[er hat (by cases v<;>rfl)]
   simp[Ty.av,↓zq,zs,ae,bH,ib]
end Go.Proofs.Trees
namespace Go.Proofs.Trees
open Go Go.VL Go.RowKit
theorem BE:∀(v:Vl),v.cY.length<=900000->an Tryz.prog 66 [v.cr] [] (bH (.v (.string (mk v.cY))))
 | .u,h=>by refine zr _ ((aK _).mpr trivial) ?_;simp[wm,Vl.cr,↓zq,zs,ae,bH,Vl.cY,Vl.dM,eS]
 | .el k,h=>by refine zr _ ((aK _).mpr trivial) ?_;simp[wm,Vl.cr,↓zq,zs,ae,bH,Vl.cY,Vl.dM,eS]
 |
  .l v,h=>by
  simp only[Vl.cY,Vl.dM,eS,eg,au,ap,aG]at h
  refine zr _ ((aK _).mpr trivial) ?_
  have hb:(⟨(bytesOf [[.v (.int .u8 108)]]).toArray⟩:ByteArray)=mk [108]:=rfl
  have ha:jd [[.v (.int .u8 108)]]:=km 108
  simp only[wm,Vl.cr,↓zq,zs,ae,aK,fj,hb]
  refine⟨by omega,fun h=>by omega,fun _=>⟨fun h=>by omega,fun _=>⟨fun h=>by omega,fun _=>⟨by omega,ha,by simp[cD],by rw[kF,cD,cD];simp,by omega,?_⟩⟩⟩⟩
  refine ai (BE v (by simp only[Vl.cY];omega)) ?_
  simp only[↓zq,zs,ae,zt,bH,Vl.cY,Vl.dM,eS,eg]
  refine⟨by simp;omega,by simp;omega,by simp⟩
 |
  .r v,h=>by
  simp only[Vl.cY,Vl.dM,eS,eg,au,ap,aG]at h
  refine zr _ ((aK _).mpr trivial) ?_
  have hb:(⟨(bytesOf [[.v (.int .u8 114)]]).toArray⟩:ByteArray)=mk [114]:=rfl
  have ha:jd [[.v (.int .u8 114)]]:=km 114
  simp only[wm,Vl.cr,↓zq,zs,ae,aK,fj,hb]
  refine⟨by omega,fun h=>by omega,fun _=>⟨fun h=>by omega,fun _=>⟨fun h=>by omega,fun _=>⟨by omega,ha,by simp[cD],by rw[kF,cD,cD];simp,by omega,?_⟩⟩⟩⟩
  refine ai (BE v (by simp only[Vl.cY];omega)) ?_
  simp only[↓zq,zs,ae,zt,bH,Vl.cY,Vl.dM,eS,eg]
  refine⟨by simp;omega,by simp;omega,by simp⟩
 |
  .f v,h=>by
  simp only[Vl.cY,Vl.dM,eS,eg,au,ap,aG]at h
  refine zr _ ((aK _).mpr trivial) ?_
  have hb:(⟨(bytesOf [[.v (.int .u8 102)]]).toArray⟩:ByteArray)=mk [102]:=rfl
  have ha:jd [[.v (.int .u8 102)]]:=km 102
  simp only[wm,Vl.cr,↓zq,zs,ae,aK,fj,hb]
  refine⟨by omega,fun h=>by omega,fun _=>⟨fun h=>by omega,fun _=>⟨fun h=>by omega,fun _=>⟨by omega,ha,by simp[cD],by rw[kF,cD,cD];simp,by omega,?_⟩⟩⟩⟩
  refine ai (BE v (by simp only[Vl.cY];omega)) ?_
  simp only[↓zq,zs,ae,zt,bH,Vl.cY,Vl.dM,eS,eg]
  refine⟨by simp;omega,by simp;omega,by simp⟩
 |
  .p a b,h=>by
  simp only[Vl.cY,Vl.dM,eS,eg,au,ap,aG]at h
  refine zr _ ((aK _).mpr trivial) ?_
  simp only[wm,Vl.cr,↓zq,zs,ae,aK,fj]
  refine⟨by omega,fun h=>by omega,fun _=>⟨fun h=>by omega,fun _=>⟨fun _=>⟨by omega,?_⟩,fun h=>absurd rfl h⟩⟩⟩
  refine ai (BE a (by simp only[Vl.cY];omega)) ?_
  simp only[↓zq,zs,ae,zt,aK,Vl.cY]
  refine⟨by simp;omega,by simp;omega,by omega,?_⟩
  refine ai (BE b (by simp only[Vl.cY];omega)) ?_
  simp only[↓zq,zs,ae,zt,bH,Vl.cY,Vl.dM,eS,eg]
  refine⟨by simp;omega,by simp;omega,by simp⟩
def qP:Option (List UInt8)->AV
 |some s=>.cA [.v (.string (mk s)),.v (.bool true)]
 |none=>.cA [.v (.string (mk [])),.v (.bool false)]
end Go.Proofs.Trees
namespace Go.Proofs.Trees
open Go Go.VL Go.RowKit
def back(n:Nat):Ty->Nat->Vl
 | .name _,c=>.el c
 | .plus a b,c=>match He n a with|some x=>if c<x then .l (back n a c)else .r (back n b (c-x))|none=>.u
 | .times a b,c=>match He n b with|some y=>.p (back n a (c/y)) (back n b (c%y))|none=>.u
 |_,_=>.u
theorem xh:∀l:List E,cV 2 (E.bm l)
 |[]=>fun c hc=>by cases hc
 |
  e::l=>fun c hc=>by
  simp only[E.bm,aI]at hc
  rcases hc with rfl|hc
  ·exact fW e
  ·exact xh l c hc
theorem Mx(w:List UInt8)(l:List E)(hl:l.length<1000000):an Tryz.prog 98 [.v (.string (mk w)),.sl (E.bm l)] [] (bH (E.j5 (.list (.atom w::l)))):=by
 refine Km _ _ ((cg _).mpr trivial) ?_
 simp only[GM,↓zq,zs,ae,dZ,bH,E.j5,E.gX,E.bm]
 exact⟨⟨xh l,by omega⟩,rfl⟩
end Go.Proofs.Trees
namespace Go.Proofs.Trees
open Go Go.VL Go.RowKit
theorem aS(s:ByteArray)(e:E):bw [.str,.sl] [.v (.string s),e.sp] 0=True:=by simp[bw,ej,bg]
theorem DZ(w:List UInt8)(e:E):an Tryz.prog 98 [.v (.string (mk w)),.sl [[.v (.string (mk e.at)),e.sp]]] [] (bH (.agg [.v (.string (mk [])),(E.list [.atom w,e]).sp])):=by
 have:=Mx w [e] (by simp)
 simpa only[E.bm,fA,dx,E.at]using this
theorem zv(w:List UInt8)(e e':E):an Tryz.prog 98 [.v (.string (mk w)),.sl [[.v (.string (mk e.at)),e.sp],[.v (.string (mk e'.at)),e'.sp]]] [] (bH (.agg [.v (.string (mk [])),(E.list [.atom w,e,e']).sp])):=by
 have:=Mx w [e,e'] (by simp)
 simpa only[E.bm,fA,dx,E.at]using this
def P3(pv:AV)(a b:E):Prop:=LK.sl.has pv/\pv.aN.length=3/\pv.aN.getD 1 []=[.v (.string (mk a.at)),a.sp]/\pv.aN.getD 2 []=[.v (.string (mk b.at)),b.sp]
theorem P3.of(x a b:E):P3 (E.list [x,a,b]).sp a b:=⟨by simp[E.sp,cg],by simp[E.sp,E.bm,gf],by simp[E.sp,E.bm,gf,fA],by simp[E.sp,E.bm,gf,fA]⟩
def P2(pv:AV)(a:E):Prop:=LK.sl.has pv/\pv.aN.length=2/\pv.aN.getD 1 []=[.v (.string (mk a.at)),a.sp]
theorem P2.of(x a:E):P2 (E.list [x,a]).sp a:=⟨by simp[E.sp,cg],by simp[E.sp,E.bm,gf],by simp[E.sp,E.bm,gf,fA]⟩
end Go.Proofs.Trees
namespace Go.Proofs.Trees
open Go Go.VL Go.RowKit
def kids(a:Ty):Vl->List Hl
 | .f w=>cK a (.bd 0) w
 |_=>[]
theorem zn(a:Ty)(v:Vl):kJ (kids a v)+1<=v.nodes:=by
 cases v with
 |f w=>have:=rM a (.bd 0) w;simp only[kids,Vl.nodes];omega
 |_=>simp only[kids,kJ,Vl.nodes,List.map_nil,List.sum_nil];omega
theorem wR{a:Ty}{v:Vl}{h:Hl}(hh:h∈kids a v):h.2.nodes<v.nodes:=by
 cases v with
 |f w=>have:=(kE hh).1;simp only[Vl.nodes];omega
 |_=>cases hh
theorem n0{n:Nat}{a:Ty}{v:Vl}{h:Hl}(hv:v.iE n)(hh:h∈kids a v):h.1.iE n/\h.2.iE n:=by
 cases v with
 |f w=>exact gH n _ _ _ w h hv hh
 |_=>cases hh
end Go.Proofs.Trees
namespace Go.Proofs.Trees
open Go Go.VL
mutual
def E.pr:E->Prop
 | .atom s=>s≠[]/\s.all eT=true
 | .list l=>l≠[]/\E.Az l
def E.Az:List E->Prop
 |[]=>True
 |e::l=>e.pr/\E.Az l
end
mutual
def E.dp:E->Nat
 | .atom _=>0
 | .list l=>1+E.ur l
def E.ur:List E->Nat
 |[]=>0
 |e::l=>max e.dp (E.ur l)
end
def Mr(r:List UInt8):Prop:=∀c t,r=c::t->eT c=false
theorem tB:Mr []:=by intro c t h;cases h
theorem AX{s r:List UInt8}(hs:s.all eT=true)(hr:Mr r):(s++r).takeWhile eT=s/\(s++r).dropWhile eT=r:=by
 induction s with
 |
  nil =>
  cases r with
  |nil=>exact⟨rfl,rfl⟩
  |cons c t=>have:=hr c t rfl;simp[List.takeWhile,List.dropWhile,this]
 |
  cons c s ih =>
  simp only[cT,aq]at hs
  have:=ih hs.2
  simp[List.takeWhile,List.dropWhile,hs.1,this.1,this.2]
theorem uV(l:List E)(r:List UInt8):Mr (eg l++41::r):=by
 intro c t h
 cases l with
 |nil=>simp only[eg,aT,List.cons.injEq]at h;rw[<-h.1];decide
 |cons e l=>simp only[eg,aZ,List.cons.injEq]at h;rw[<-h.1];decide
theorem A7{f:List UInt8->Option (E×List UInt8)}(r:List UInt8):∀(l:List E) (e:E) (acc:List E) (n:Nat),l.length<n->(∀x,x=e\/x∈l->∀r,Mr r->f (eS x++r)=some (x,r)) ->
 rP f n (eS e++(eg l++41::r)) acc=some (.list (acc++e::l),r)
 |l,e,acc,0,hn,hf=>by omega
 |
  [],e,acc,n+1,hn,hf=>by
  simp only[rP]
  rw[hf e (.inl rfl) _ (uV [] r)]
  simp[eg]
 |
  x::l,e,acc,n+1,hn,hf=>by
  simp only[rP]
  rw[hf e (.inl rfl) _ (uV (x::l) r)]
  simp only[au]at hn
  have ih:=A7 r l x (acc++[e]) n (by omega) (fun y hy=>hf y (.inr (by cases hy with|inl h=>rw[h];exact aj|inr h=>exact al _ h)))
  simp only[bC,aZ,aT]at ih
  simp only[eg,aZ,bC]
  simp[ih]
theorem B3{l:List E}{k:Nat}:E.Az l->E.ur l<=k->∀x,x∈l->x.pr/\x.dp<=k:=by
 induction l with
 |nil=>intro _ _ x h;cases h
 |
  cons e l ih =>
  intro h hd x hx
  simp only[E.Az,E.ur]at h hd
  cases hx with
  |head=>exact⟨h.1,by omega⟩
  |tail _ hx=>exact ih h.2 (by omega) x hx
theorem xH:∀(k:Nat) (e:E) (r:List UInt8),e.pr->e.dp<=k->Mr r->rd k (eS e++r)=some (e,r)
 |
  0,.atom s,r,hp,hd,hr=>by
  have h:=AX hp.2 hr
  simp only[eS,rd,h.1,h.2,hp.1,if_false]
 |
  k+1,.atom s,r,hp,hd,hr=>by
  have h:=AX hp.2 hr
  simp only[eS,rd,h.1,h.2,hp.1,if_false]
 |0,.list l,r,hp,hd,hr=>by simp only[E.dp]at hd;omega
 |k+1,.list [],r,hp,hd,hr=>by exact absurd rfl hp.1
 |
  k+1,.list (e::l),r,hp,hd,hr=>by
  have hs:eT 40=false:=by decide
  simp only[E.dp,E.pr]at hd hp
  have hm:=B3 (k:=k) hp.2 (by omega)
  have:=A7 (f:=rd k) r l e [] ((eS e++(eg l++41::r)).length+1) (by have:=qB l;simp only[ap,au];omega)
   (fun x hx r hr=>xH k x r (hm x (by cases hx with|inl h=>rw[h];exact aj|inr h=>exact al _ h)).1 (hm x (by cases hx with|inl h=>rw[h];exact aj|inr h=>exact al _ h)).2 hr)
  simp only[eS,aZ,bC,aT]at *
  simp only[rd,List.takeWhile,hs,if_true]
  simpa using this
theorem Ao{e e':E}(h:e.pr)(h':e'.pr)(ht:eS e=eS e'):e=e':=by
 have a:=xH (max e.dp e'.dp) e [] h (by omega) tB
 have b:=xH (max e.dp e'.dp) e' [] h' (by omega) tB
 rw[ht,b]at a;cases a;rfl
theorem Ew{e:E}(h:e.pr)(hd:e.dp<=300)(hl:(eS e).length<=8000):qb (eS e)=some e:=by
 have:=xH 300 e [] h hd tB
 rw[cS]at this
 rw[qb,this];simp;omega
theorem Bi(s:List UInt8):(s.takeWhile eT).all eT=true:=by
 induction s with
 |nil=>rfl
 |cons c s ih =>
  cases h:eT c
  ·simp[List.takeWhile,h]
  ·simp only[List.takeWhile,h,cT,ih];rfl
theorem Du(l r:List E):E.Az (l++r)↔E.Az l/\E.Az r:=by
 induction l with
 |nil=>simp[E.Az]
 |cons e l ih=>simp[E.Az,ih,and_assoc]
theorem Dm(l r:List E):E.ur (l++r)=max (E.ur l) (E.ur r):=by
 induction l with
 |nil=>simp[E.ur]
 |cons e l ih=>simp[E.ur,ih,Nat.max_assoc]
theorem xZ{k:Nat}{f:List UInt8->Option (E×List UInt8)}(hf:∀s e r,f s=some (e,r)->s=eS e++r/\e.pr/\e.dp<=k):∀(n:Nat) (s:List UInt8) (acc:List E) (e:E) (r:List UInt8),rP f n s acc=some (e,r)->E.Az acc->E.ur acc<=k ->
 ∃l,e=.list (acc++l)/\l≠[]/\32::s=eg l++41::r/\E.Az l/\E.ur l<=k
 |0,s,acc,e,r,h,hp,hd=>by cases h
 |
  n+1,s,acc,e,r,h,hp,hd=>by
  simp only[rP]at h
  split at h
  ·rename_i p c r' hs
   obtain⟨h1,h2,h3⟩:=hf _ _ _ hs
   split at h
   ·rename_i hc
    have hc:c=41:=dP.mp hc
    cases h
    exact⟨[p],rfl,by simp,by simp[eg,h1,hc],⟨h2,trivial⟩,by simp[E.ur];omega⟩
   ·split at h
    ·rename_i hc
     have hc:c=32:=dP.mp hc
     obtain⟨l,g1,g2,g3,g4,g5⟩:=xZ hf n _ _ _ _ h ((Du _ _).mpr ⟨hp,h2,trivial⟩) (by rw[Dm];simp[E.ur];omega)
     refine⟨p::l,by simpa using g1,by simp,?_,⟨h2,g4⟩,by simp only[E.ur];omega⟩
     rw[h1,hc,g3];simp[eg]
    ·cases h
  ·cases h
theorem Ar:∀(k:Nat) (s:List UInt8) (e:E) (r:List UInt8),rd k s=some (e,r)->s=eS e++r/\e.pr/\e.dp<=k
 |
  0,s,e,r,h=>by
  simp only[rd]at h
  split at h
  ·cases h
  ·rename_i hs;cases h
   exact⟨(bZ).symm,⟨hs,Bi s⟩,aw _⟩
 |
  k+1,s,e,r,h=>by
  simp only[rd]at h
  split at h
  ·split at h
   ·rename_i c r' _
    split at h
    ·rename_i hc
     have hc:c=40:=dP.mp hc
     obtain⟨l,g1,g2,g3,g4,g5⟩:=xZ (k:=k) (fun s e r h=>Ar k s e r h) _ _ _ _ _ h trivial (dO _)
     simp only[aT]at g1
     subst g1;subst hc
     refine⟨?_,⟨g2,g4⟩,by simp only[E.dp];omega⟩
     cases l with
     |nil=>exact absurd rfl g2
     |
      cons x l =>
      simp only[eg,aZ,bC,List.cons.injEq,true_and]at g3
      rw[g3];simp[eS]
    ·cases h
   ·cases h
  ·rename_i hs;cases h
   exact⟨(bZ).symm,⟨hs,Bi s⟩,by simp[E.dp]⟩
theorem w7{s:List UInt8}{e:E}(h:qb s=some e):s=eS e/\e.pr/\e.dp<=300/\s.length<=8000:=by
 unfold qb at h
 split at h
 ·cases h
 ·rename_i hl
  split at h
  ·rename_i e' hr
   cases h
   have:=Ar _ _ _ _ hr
   exact⟨by simpa using this.1,this.2.1,this.2.2,by omega⟩
  ·cases h
theorem Bb{k:Nat}(h:k<10):eT (ba (48+k))=true:=by
 have:∀k:Fin 10,eT (ba (48+k.val))=true:=by decide
 exact this ⟨k,h⟩
theorem vS:∀(n k:Nat),k<n->(dd k).all eT=true
 |0,k,h=>by omega
 |
  n+1,k,h=>by
  by_cases hk:k<10
  ·rw[eG hk,cT,Bb hk];rfl
  ·rw[fE hk]
   have:=vS n (k/10) (by omega)
   rw[List.all_append,this,cT,Bb (ep k (by omega:0<10))];rfl
theorem G1(k:Nat):(E.atom (wk k)).pr:=⟨by simp,by have:=vS (k+1) k (by omega);simp only[wk,cT,this];decide⟩
theorem mg:∀v:Vl,v.dM.pr
 | .u=>⟨by simp,by decide⟩
 | .el k=>G1 k
 | .l v=>⟨by simp,⟨by simp,by decide⟩,mg v,trivial⟩
 | .r v=>⟨by simp,⟨by simp,by decide⟩,mg v,trivial⟩
 | .f v=>⟨by simp,⟨by simp,by decide⟩,mg v,trivial⟩
 | .p a b=>⟨by simp,⟨by simp,by decide⟩,mg a,mg b,trivial⟩
theorem pn:∀v:Vl,v.dM.dp<v.nodes+1
 | .u=>by simp[Vl.dM,E.dp,Vl.nodes]
 | .el k=>by simp[Vl.dM,E.dp,Vl.nodes]
 | .l v=>by have:=pn v;simp only[Vl.dM,E.dp,E.ur,Vl.nodes]at *;omega
 | .r v=>by have:=pn v;simp only[Vl.dM,E.dp,E.ur,Vl.nodes]at *;omega
 | .f v=>by have:=pn v;simp only[Vl.dM,E.dp,E.ur,Vl.nodes]at *;omega
 | .p a b=>by have:=pn a;have:=pn b;simp only[Vl.dM,E.dp,E.ur,Vl.nodes]at *;omega
theorem CD(k:Nat)(h:k<100):(dd k).length<=2:=by
 by_cases hk:k<10
 ·rw[eG hk];simp
 ·rw[fE hk,eG (by omega:k/10<10)];simp
theorem kK:∀v:Vl,v.iE 100->v.cY.length<=5*v.nodes
 | .u,_=>by simp[Vl.cY,Vl.dM,eS,Vl.nodes]
 |
  .el k,h=>by
  have:=CD k h
  simp only[Vl.cY,Vl.dM,eS,Vl.nodes,au];omega
 | .l v,h=>by have:=kK v h;simp only[Vl.cY,Vl.dM,eS,eg,Vl.nodes,au,ap,aG]at this |-;omega
 | .r v,h=>by have:=kK v h;simp only[Vl.cY,Vl.dM,eS,eg,Vl.nodes,au,ap,aG]at this |-;omega
 | .f v,h=>by have:=kK v h;simp only[Vl.cY,Vl.dM,eS,eg,Vl.nodes,au,ap,aG]at this |-;omega
 | .p a b,h=>by have:=kK a h.1;have:=kK b h.2;simp only[Vl.cY,Vl.dM,eS,eg,Vl.nodes,au,ap,aG]at *;omega
theorem E3(k:Nat):wk k≠[117]:=by simp[wk]
theorem j4:∀v:Vl,v.iE 100->fC v.dM=some v
 | .u,_=>by simp[Vl.dM,fC]
 | .el k,h=>by simp only[Vl.dM,fC,E3,if_false,vz k h]
 | .l v,h=>by simp only[Vl.dM,fC,j4 v h,E.at];simp
 | .r v,h=>by simp only[Vl.dM,fC,j4 v h,E.at];simp
 | .f v,h=>by simp only[Vl.dM,fC,j4 v h,E.at];simp
 | .p a b,h=>by simp only[Vl.dM,fC,j4 a h.1,j4 b h.2,E.at];simp
theorem tC{v:Vl}(h:v.iE 100)(hn:v.nodes<=200):rO v.cY=some v:=by
 have hd:=pn v
 have hl:=kK v h
 rw[rO,Ew (mg v) (by omega) (by show v.cY.length<=8000;omega)]
 simp only[j4 v h]
 rw[if_neg (by omega)]
theorem ym{v w:Vl}(h:v.iE 100)(h':w.iE 100)(ht:v.cY=w.cY):v=w:=by
 have:=Ao (mg v) (mg w) ht
 have a:=j4 v h
 rw[this,j4 w h']at a;cases a;rfl
theorem qc{s:List UInt8}{v:Vl}(h:rO s=some v):s=v.cY:=(w7 (lA h).1).1
end Go.Proofs.Trees
namespace Go.Proofs.Trees
open Go Go.VL Go.RowKit
theorem bF(l:List E):(E.list l).at=[]:=rfl
def dy:Ty->Vl->Vl->Vl
 | .plus a _,.l c,v=>.l (dy a c v)
 | .plus _ b,.r c,v=>.r (dy b c v)
 | .times a _,.l (.p x y),v=>.p (dy a x v) y
 | .times _ b,.r (.p x y),v=>.p x (dy b y v)
 | .rc a,.f (.l x),v=>.f (dy a x v)
 | .rc a,.f (.r (.p x y)),v=>.f (dy a x (dy (.rc a) y v))
 |_,_,v=>v
def dG:Ty->Vl->Bool
 | .plus a _,.l c=>dG a c
 | .plus _ b,.r c=>dG b c
 | .times a _,.l (.p x _)=>dG a x
 | .times _ b,.r (.p _ y)=>dG b y
 | .rc a,.f (.l x)=>dG a x
 | .rc a,.f (.r (.p x y))=>dG a x&&dG (.rc a) y
 | .plus _ _,_=>false
 | .times _ _,_=>false
 | .rc _,_=>false
 |_,_=>true
theorem se(c v:Vl):dy .zero c v=v:=by cases c<;>rfl
theorem vx(c v:Vl):dy .one c v=v:=by cases c<;>rfl
theorem mH(s:List UInt8)(c v:Vl):dy (.name s) c v=v:=by cases c<;>rfl
theorem qK(u:Nat)(c v:Vl):dy (.bP u) c v=v:=by cases c<;>rfl
theorem u4{a b:Ty}{c:Vl}(h:dG (.plus a b) c=true):(∃x,c=.l x/\dG a x=true)\/∃x,c=.r x/\dG b x=true:=by
 cases c<;>simp[dG]at h<;>simp[h]
theorem sB{a b:Ty}{c:Vl}(h:dG (.times a b) c=true):(∃x y,c=.l (.p x y)/\dG a x=true)\/∃x y,c=.r (.p x y)/\dG b y=true:=by
 cases c with
 |l c=>cases c<;>simp[dG]at h<;>simp[h]
 |r c=>cases c<;>simp[dG]at h<;>exact .inr ⟨_,_,rfl,h⟩
 |_=>simp[dG]at h
theorem zJ{a:Ty}{c:Vl}(h:dG (.rc a) c=true):(∃x,c=.f (.l x)/\dG a x=true)\/∃x y,c=.f (.r (.p x y))/\dG a x=true/\dG (.rc a) y=true:=by
 cases c with
 |
  f c =>
  cases c with
  |l c=>simp[dG]at h;simp[h]
  |r c=>cases c<;>simp[dG]at h<;>exact .inr ⟨_,_,rfl,h⟩
  |_=>simp[dG]at h
 |_=>simp[dG]at h
theorem rr(t:Ty)(c v:Vl):(dy t c v).nodes<=c.nodes+v.nodes:=by
 induction t,c,v using dy.induct<;>simp only[dy,Vl.nodes]at*<;> omega
theorem rE(m:Nat)(t:Ty)(c v:Vl):c.iE m->v.iE m->(dy t c v).iE m:=by
 induction t,c,v using dy.induct with
 |case1 a b c v ih=>exact fun h h'=>ih h h'
 |case2 a b c v ih=>exact fun h h'=>ih h h'
 |case3 a b x y v ih=>exact fun h h'=>⟨ih h.1 h',h.2⟩
 |case4 a b x y v ih=>exact fun h h'=>⟨h.1,ih h.2 h'⟩
 |case5 a x v ih=>exact fun h h'=>ih h h'
 |case6 a x y v ih1 ih2=>exact fun h h'=>ih2 h.1 (ih1 h.2 h')
 |case7=>intro h h';simpa only[dy]using h'
def Hd:Hl:=(.u,.u)
end Go.Proofs.Trees
namespace Go.Proofs.Trees
open Go Go.VL Go.RowKit
theorem nC(s:Nm)(a b:E):an Tryz.prog 121 [.agg [.v (.string (mk [])),(E.list [.atom s,a,b]).sp]] [] (bH (.v (.string (mk s)))):=um (.atom s) [a,b]
theorem Ci{e:E}(h:Wf e):∀(bd l:List Nm) (a:AV),cu a bd->bd.length+l.length+e.sz<100000->an Tryz.prog 137 [.agg [.v (.string (mk e.at)),e.sp],a,.vec 0] [.vec 1 (bT l)] (dm (.vec 1) [.dead,.vec 1 (bT (jX e bd l))]):=by
 induction h with
 |
  @atom s hs =>
  intro bd l a ha hl
  simp only[E.sz]at hl
  refine yW _ _ _ _ ((bg _).mpr trivial) ha.1 ?_
  have hll:(bT l).length=l.length:=by simp[bT]
  simp only[Eg,dR,↓zq,zs,ae,zt,dm,jX]
  refine⟨fun _=>⟨fun h=>?_,fun h=>⟨fun h1=>?_,fun h1=>?_⟩⟩,fun h=>absurd h hs⟩
  ·rw[if_pos (.inl h)]
  ·rw[if_pos (.inr (.inl h1))]
  ·refine ai (vQ bd a ha s (by omega)) ?_
   simp only[↓zq,zs,ae]
   refine⟨fun h2=>?_,fun h2=>ai (vQ l _ (.of l) s (by omega)) ?_⟩
   ·rw[if_pos (.inr (.inr (.inl h2)))]
   ·simp only[↓zq,zs,ae]
    refine⟨fun h3=>?_,fun h3=>⟨⟨fun c hc=>(by simp at hc;rw[hc];rfl),by omega⟩,?_⟩⟩
    ·rw[if_pos (.inr (.inr (.inr h3)))]
    ·rw[GR,if_neg]
     rintro(q|q|q|q)
     ·exact h q
     ·exact h1 q
     ·exact h2 q
     ·exact h3 q
 |
  @plus x y hx hy i1 i2 =>
  intro bd l a ha hl
  simp only[E.sz,E.iX]at hl
  have hfl:=fQ x bd l
  refine yW _ _ _ _ ((bg _).mpr trivial) ha.1 ?_
  have hP:=P3.of (.atom [43]) x y
  simp only[Eg,bF,toNat_one,bo,↓zq,zs,ae,zt,hP.1,hP.2.1,hP.2.2.1,hP.2.2.2,aS,dm]
  refine⟨fun h=>absurd rfl h,fun _=>?_⟩
  refine ai (nC [43] x y) ?_
  simp only[↓zq,zs,ae,zt]
  refine⟨fun h=>by simp at h,fun _=>?_⟩
  repeat refine⟨by omega,?_⟩
  refine aY (i1 bd l a ha (by omega)) ?_
  simp only[↓zq,zs,ae,zt,a8,bS,Ob.es]
  repeat refine⟨by omega,?_⟩
  refine aY (i2 bd (jX x bd l) a ha (by omega)) ?_
  simp only[↓zq,zs,ae,zt,a8,bS,Ob.es]
  rw[jX,if_neg (by decide)]
 |
  @times x y hx hy i1 i2 =>
  intro bd l a ha hl
  simp only[E.sz,E.iX]at hl
  have hfl:=fQ x bd l
  refine yW _ _ _ _ ((bg _).mpr trivial) ha.1 ?_
  have hP:=P3.of (.atom [42]) x y
  simp only[Eg,bF,toNat_one,bo,↓zq,zs,ae,zt,hP.1,hP.2.1,hP.2.2.1,hP.2.2.2,aS,dm]
  refine⟨fun h=>absurd rfl h,fun _=>?_⟩
  refine ai (nC [42] x y) ?_
  simp only[↓zq,zs,ae,zt]
  refine⟨fun h=>by simp at h,fun _=>?_⟩
  repeat refine⟨by omega,?_⟩
  refine aY (i1 bd l a ha (by omega)) ?_
  simp only[↓zq,zs,ae,zt,a8,bS,Ob.es]
  repeat refine⟨by omega,?_⟩
  refine aY (i2 bd (jX x bd l) a ha (by omega)) ?_
  simp only[↓zq,zs,ae,zt,a8,bS,Ob.es]
  rw[jX,if_neg (by decide)]
 |
  @rc n y hn hy i =>
  intro bd l a ha hl
  simp only[E.sz,E.iX]at hl
  refine yW _ _ _ _ ((bg _).mpr trivial) ha.1 ?_
  have hP:=P3.of (.atom dA) (.atom n) y
  simp only[Eg,bF,toNat_one,bo,↓zq,zs,ae,zt,hP.1,hP.2.1,hP.2.2.1,hP.2.2.2,aS,dm]
  refine⟨fun h=>absurd rfl h,fun _=>?_⟩
  refine ai (nC dA (.atom n) y) ?_
  simp only[↓zq,zs,ae,zt]
  refine⟨fun _=>?_,fun h=>absurd rfl h⟩
  repeat refine⟨by omega,?_⟩
  refine ai (zk bd a ha n (by omega)) ?_
  simp only[↓zq,zs,ae]
  refine aY (i (bd++[n]) l _ (.of _) (by simp;omega)) ?_
  simp only[↓zq,zs,ae,a8,bS,Ob.es]
  rw[jX,if_pos (dR _)];rfl
theorem Nt(x:Nm)(u:E){e:E}(h:Wf e):an Tryz.prog 192 [.agg [.v (.string (mk e.at)),e.sp],.v (.string (mk x)),.agg [.v (.string (mk u.at)),u.sp]] [] (bH (.agg [.v (.string (mk (ri x u e).at)),(ri x u e).sp])):=by
 induction h with
 |
  @atom s hs =>
  refine Cr _ _ _ _ _ ((bg _).mpr trivial) ((bg _).mpr trivial) ?_
  simp only[Bv,dR,↓zq,zs,ae,zt,bH,ri]
  refine⟨fun _=>⟨fun h=>?_,fun h=>?_⟩,fun h=>absurd h hs⟩
  ·rw[if_pos h]
  ·rw[if_neg h];rfl
 |
  @plus a b ha hb i1 i2 =>
  refine Cr _ _ _ _ _ ((bg _).mpr trivial) ((bg _).mpr trivial) ?_
  have hP:=P3.of (.atom [43]) a b
  simp only[Bv,bF,toNat_one,bo,↓zq,zs,ae,zt,hP.1,hP.2.1,hP.2.2.1,hP.2.2.2,aS]
  refine⟨fun h=>absurd rfl h,fun _=>?_⟩
  refine ai (nC [43] a b) ?_
  simp only[↓zq,zs,ae,zt]
  refine⟨fun h=>by simp at h,fun _=>?_⟩
  refine ai (nC [43] a b) ?_
  simp only[↓zq,zs,ae,zt]
  repeat refine⟨by omega,?_⟩
  refine ai i1 ?_
  simp only[↓zq,zs,ae,zt,aS]
  repeat refine⟨by omega,?_⟩
  refine ai i2 ?_
  simp only[↓zq,zs,ae,zt,aS]
  repeat refine⟨by omega,?_⟩
  refine ai (zv _ _ _) ?_
  simp only[↓zq,zs,ae,zt,aS,uI,bF]
  repeat refine⟨by omega,?_⟩
  exact⟨rfl,rfl⟩
 |
  @times a b ha hb i1 i2 =>
  refine Cr _ _ _ _ _ ((bg _).mpr trivial) ((bg _).mpr trivial) ?_
  have hP:=P3.of (.atom [42]) a b
  simp only[Bv,bF,toNat_one,bo,↓zq,zs,ae,zt,hP.1,hP.2.1,hP.2.2.1,hP.2.2.2,aS]
  refine⟨fun h=>absurd rfl h,fun _=>?_⟩
  refine ai (nC [42] a b) ?_
  simp only[↓zq,zs,ae,zt]
  refine⟨fun h=>by simp at h,fun _=>?_⟩
  refine ai (nC [42] a b) ?_
  simp only[↓zq,zs,ae,zt]
  repeat refine⟨by omega,?_⟩
  refine ai i1 ?_
  simp only[↓zq,zs,ae,zt,aS]
  repeat refine⟨by omega,?_⟩
  refine ai i2 ?_
  simp only[↓zq,zs,ae,zt,aS]
  repeat refine⟨by omega,?_⟩
  refine ai (zv _ _ _) ?_
  simp only[↓zq,zs,ae,zt,aS,sg,bF]
  repeat refine⟨by omega,?_⟩
  exact⟨rfl,rfl⟩
 |
  @rc n b hn hb i =>
  refine Cr _ _ _ _ _ ((bg _).mpr trivial) ((bg _).mpr trivial) ?_
  have hP:=P3.of (.atom dA) (.atom n) b
  simp only[Bv,bF,toNat_one,bo,↓zq,zs,ae,zt,hP.1,hP.2.1,hP.2.2.1,hP.2.2.2,aS]
  refine⟨fun h=>absurd rfl h,fun _=>?_⟩
  refine ai (nC dA (.atom n) b) ?_
  simp only[↓zq,zs,ae,zt]
  refine⟨fun _=>?_,fun h=>absurd rfl h⟩
  repeat refine⟨by omega,?_⟩
  rw[AO]
  refine⟨fun h=>?_,fun h=>?_⟩
  ·have hh:n=x:=h
   rw[if_pos hh];exact⟨rfl,rfl⟩
  ·have hh:¬n=x:=h
   rw[if_neg hh]
   repeat refine⟨by omega,?_⟩
   refine ai i ?_
   simp only[↓zq,zs,ae,zt,aS]
   repeat refine⟨by omega,?_⟩
   refine ai (zv dA (.atom n) (ri x u b)) ?_
   simp only[↓zq,zs,ae,zt,aS,bF]
   repeat refine⟨by omega,?_⟩
   exact⟨rfl,rfl⟩
theorem qL(x:Nm){e:E}(h:Wf e):mJ x e<=e.cX:=by
 induction h with
 |atom hs=>simp only[mJ,E.cX];split<;>omega
 |plus ha hb i1 i2=>rw[qV];simp only[E.cX,E.eN];omega
 |times ha hb i1 i2=>rw[oL];simp only[E.cX,E.eN];omega
 |rc hn hb i=>rw[v8];simp only[E.cX,E.eN];split<;>omega
theorem NC(x:Nm){e:E}(h:Wf e):e.cX<1000000->an Tryz.prog 191 [.agg [.v (.string (mk e.at)),e.sp],.v (.string (mk x))] [] (bH (.v (.int .i64 (mJ x e:Int)))):=by
 induction h with
 |
  @atom s hs =>
  intro hl
  refine BN _ _ _ ((bg _).mpr trivial) ?_
  simp only[Ag,dR,↓zq,zs,ae,zt,bH,mJ]
  refine⟨fun _=>⟨fun h=>?_,fun h=>?_⟩,fun h=>absurd h hs⟩
  ·rw[if_pos h];rfl
  ·rw[if_neg h];rfl
 |
  @plus a b ha hb i1 i2 =>
  intro hl
  simp only[E.cX,E.eN]at hl
  have u1:=qL x ha
  have u2:=qL x hb
  refine BN _ _ _ ((bg _).mpr trivial) ?_
  have hP:=P3.of (.atom [43]) a b
  simp only[Ag,bF,toNat_one,bo,↓zq,zs,ae,zt,hP.1,hP.2.1,hP.2.2.1,hP.2.2.2,aS]
  refine⟨fun h=>absurd rfl h,fun _=>?_⟩
  refine ai (nC [43] a b) ?_
  simp only[↓zq,zs,ae,zt]
  refine⟨fun h=>by simp at h,fun _=>?_⟩
  repeat refine⟨by omega,?_⟩
  refine ai (i1 (by omega)) ?_
  simp only[↓zq,zs,ae,zt]
  repeat refine⟨by omega,?_⟩
  refine ai (i2 (by omega)) ?_
  simp only[↓zq,zs,ae,zt]
  rw[qV,wrap64 _ (by omega) (by omega)]
  exact⟨by simp,rfl⟩
 |
  @times a b ha hb i1 i2 =>
  intro hl
  simp only[E.cX,E.eN]at hl
  have u1:=qL x ha
  have u2:=qL x hb
  refine BN _ _ _ ((bg _).mpr trivial) ?_
  have hP:=P3.of (.atom [42]) a b
  simp only[Ag,bF,toNat_one,bo,↓zq,zs,ae,zt,hP.1,hP.2.1,hP.2.2.1,hP.2.2.2,aS]
  refine⟨fun h=>absurd rfl h,fun _=>?_⟩
  refine ai (nC [42] a b) ?_
  simp only[↓zq,zs,ae,zt]
  refine⟨fun h=>by simp at h,fun _=>?_⟩
  repeat refine⟨by omega,?_⟩
  refine ai (i1 (by omega)) ?_
  simp only[↓zq,zs,ae,zt]
  repeat refine⟨by omega,?_⟩
  refine ai (i2 (by omega)) ?_
  simp only[↓zq,zs,ae,zt]
  rw[oL,wrap64 _ (by omega) (by omega)]
  exact⟨by simp,rfl⟩
 |
  @rc n b hn hb i =>
  intro hl
  simp only[E.cX,E.eN]at hl
  refine BN _ _ _ ((bg _).mpr trivial) ?_
  have hP:=P3.of (.atom dA) (.atom n) b
  simp only[Ag,bF,toNat_one,bo,↓zq,zs,ae,zt,hP.1,hP.2.1,hP.2.2.1,hP.2.2.2,aS]
  refine⟨fun h=>absurd rfl h,fun _=>?_⟩
  refine ai (nC dA (.atom n) b) ?_
  simp only[↓zq,zs,ae,zt]
  refine⟨fun _=>?_,fun h=>absurd rfl h⟩
  repeat refine⟨by omega,?_⟩
  rw[v8]
  refine⟨fun h=>?_,fun h=>?_⟩
  ·have hh:n=x:=h
   rw[if_pos hh];exact⟨rfl,rfl⟩
  ·have hh:¬n=x:=h
   rw[if_neg hh]
   repeat refine⟨by omega,?_⟩
   refine ai (i (by omega)) ?_
   simp only[↓zq,zs,ae,zt]
   exact⟨rfl,rfl⟩
theorem LO{x:Nm}(hx:qh x){e u:E}(h:Wf e)(hu:Wf u)(hl:e.cX<=1000)(hlu:u.cX<=1000):an Tryz.prog 171 [.agg [.v (.string (mk e.at)),e.sp],.v (.string (mk x)),.agg [.v (.string (mk u.at)),u.sp]] [] (bH (.v (.bool (decide ((sub x (cJ u []) (cJ e [])).aD<=400))))):=by
 refine OD _ _ _ _ _ ((bg _).mpr trivial) ((bg _).mpr trivial) ?_
 unfold Jw
 have a1:=BI e h.ok (by have:=h.sz;omega)
 have a2:=BI u hu.ok (by have:=hu.sz;omega)
 rw[dx]at a1 a2
 have hle:=qL x h
 have hpos:1<=u.cX:=by rw[hu.cX []];exact ek _
 refine ai a1 ?_
 simp only[↓zq,zs,ae,zt]
 refine ai (NC x h (by omega)) ?_
 simp only[↓zq,zs,ae,zt]
 refine ai a2 ?_
 simp only[↓zq,zs,ae,zt]
 have e1:=dU x (cJ u []) (cJ e [])
 have e2:=Dr hx h []
 rw[if_neg (by simp)]at e2
 rw[e2,<-h.cX [],<-hu.cX []]at e1
 have hm:mJ x e*(u.cX-1)<=1000*1000:=Nat.mul_le_mul (by omega) (by omega)
 have e3:(mJ x e:Int)*((u.cX:Int)-1)=((mJ x e*(u.cX-1):Nat):Int):=by
  rw[Int.natCast_mul];congr 1;omega
 have e4:mJ x e*(u.cX-1)+mJ x e=mJ x e*u.cX:=by
  rw[Nat.mul_sub,dD]
  have:=Nat.le_mul_of_pos_right (mJ x e) hpos
  omega
 rw[wrap64 ((u.cX:Int)-1) (by omega) (by omega),e3,wrap64 ((mJ x e*(u.cX-1):Nat):Int) (by omega) (by omega),wrap64 _ (by omega) (by omega)]
 refine⟨?_,rfl⟩
 congr 2
 rw[cw,decide_eq_true_eq,decide_eq_true_eq]
 omega
end Go.Proofs.Trees
namespace Go.Proofs.Trees
open Go Go.VL Go.RowKit
abbrev xI:AV:=.v (.slice none 0 0)
abbrev zE:Ob:=.cells [.v (.string (mk [])),xI]
theorem HQ(s:Nm)(p a b:AV)(hp:LK.sl.has p)(F fr to:List Nm)(k:Int)(ha:cu a fr)(hb:cu b to)(hft:fr.length=to.length)(hl:fr.length<1000000):∀(i:Nat),i<=fr.length ->
 Ff [a,b,.v (.int .i64 ((i:Int)-1))] [.cells [.v (.string (mk s)),p],zE,.cells [.any,.v (.int .i64 k)],.vec 1 (bT F)]
  (ou (match cc s fr i with|some u=>(2,[],[.cells [.v (.string (mk (jB to u))),xI],.cells [.any,.v (.int .i64 k)],.vec 1 (bT F)])|none=>(1,[],[.cells [.v (.string (mk s)),p],zE,.cells [.any,.v (.int .i64 k)],.vec 1 (bT F)])))
 |
  0,hi=>by
  refine Ju _ _ _ _ _ _ _ _ _ ?_
  simp only[Eu,↓zq,zs,ae,ae,hp,bi]
  exact⟨ha.1,hb.1,fun h=>by omega,fun _=>rfl⟩
 |
  i+1,hi=>by
  have hlt:i<fr.length:=by omega
  have hlt':i<to.length:=by omega
  have e1:((i+1:Nat):Int)-1=(i:Int):=by omega
  rw[e1]
  refine Ju _ _ _ _ _ _ _ _ _ ?_
  simp only[Eu,↓zq,zs,ae,zt,ae,hp,bi,ha.len,hb.len,ha.idx hlt,hb.idx hlt',bK]
  refine⟨ha.1,hb.1,fun _=>⟨⟨ha.1,by omega,by omega⟩,by omega,fun h=>?_,fun h=>?_⟩,fun h=>by omega⟩
  ·refine⟨⟨hb.1,by omega,by omega⟩,by omega,?_⟩
   have hh:fr.getD i []=s:=h
   simp only[cc,hh,if_true,ou]
   have:jB to (fr.length-1-i)=to.getD i []:=by unfold jB;congr 1;omega
   rw[this]
  ·have hh:¬fr.getD i []=s:=h
   simp only[cc,hh,if_false]
   rw[wrap64 _ (by omega) (by omega)]
   exact HQ s p a b hp F fr to k ha hb hft hl i (by omega)
theorem IK(a b:AV)(ha:LK.sl.has a)(hb:LK.sl.has b)(F:List Nm)(hF:F.length<100000)(t:ByteArray)(p:AV)(hp:LK.sl.has p):∀(n j:Nat),pz F n j<j+n->j+n<100000000 ->
 EU [a,b,.v (.string (mk (tN j)))] [.cells [.any,.v (.int .i64 (j:Int))],.vec 1 (bT F),.cells [.v (.string t),p],zE] (jq 1 [a,b,.v (.string (mk (tN (pz F n j))))] [.cells [.any,.v (.int .i64 (pz F n j:Int))],.vec 1 (bT F),.cells [.v (.string t),p],zE])
 |0,j,h,_=>by simp only[pz]at h;omega
 |
  n+1,j,h,hj=>by
  refine Ol _ _ _ _ _ _ _ _ _ ?_
  simp only[My,↓zq,zs,ae,zt,ae,hp,bi]
  refine⟨ha,hb,?_⟩
  refine ai (vQ F _ (.of F) (tN j) (by omega)) ?_
  simp only[↓zq,zs,ae,zt]
  rw[pz]at h |-
  refine⟨fun hm=>?_,fun hm=>?_⟩
  ·rw[if_pos hm]at h |-
   rw[bN j (by omega)]
   refine ai (yG (j+2) (j+1) (by omega) (by omega)) ?_
   have hd:=l8 (j+2) (j+1) (by omega)
   simp only[↓zq,zs,ae,zt,aZ,aT]
   refine⟨by simp[cD];omega,?_⟩
   exact IK a b ha hb F hF t p hp n (j+1) (by omega) (by omega)
  ·rw[if_neg hm]
   exact⟨rfl,rfl,rfl⟩
theorem ig(F:List Nm):∀(t:Ty) (to:List Nm) (k:Nat),k<=(gF F t to k).2/\(gF F t to k).2<=k+(F.length+1)*t.aD
 | .zero,_,k=>⟨aw _,cU _ _⟩
 | .one,_,k=>⟨aw _,cU _ _⟩
 | .name _,_,k=>⟨aw _,cU _ _⟩
 | .bP _,_,k=>⟨aw _,cU _ _⟩
 |
  .plus a b,to,k=>by
  have h1:=ig F a to k
  have h2:=ig F b to (gF F a to k).2
  simp only[gF,Ty.aD]
  have:(F.length+1)*(1+a.aD+b.aD)=(F.length+1)+(F.length+1)*a.aD+(F.length+1)*b.aD:=by simp only[cM,dD]
  omega
 |
  .times a b,to,k=>by
  have h1:=ig F a to k
  have h2:=ig F b to (gF F a to k).2
  simp only[gF,Ty.aD]
  have:(F.length+1)*(1+a.aD+b.aD)=(F.length+1)+(F.length+1)*a.aD+(F.length+1)*b.aD:=by simp only[cM,dD]
  omega
 |
  .rc a,to,k=>by
  obtain⟨g1,g2,_,_⟩:=gk F k
  have h1:=ig F a (to++[tN (nx F k)]) (nx F k+1)
  simp only[gF,Ty.aD]
  have:(F.length+1)*(2+a.aD)=(F.length+1)*2+(F.length+1)*a.aD:=by simp only[cM]
  omega
theorem j3(l:List Nm):(bT l).length=l.length:=by simp[bT]
end Go.Proofs.Trees
