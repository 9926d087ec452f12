/-
  Part of a proof: Go functions read by values, trees of functions, their contracts.
-/
import Derived.Test.YtphdaefkjfbfoaaGreatDoorP4
import Derived.Lib.Atoi
set_option linter.unusedVariables false
set_option linter.unusedSimpArgs false
open And renaming intro→aH
open Bool renaming and_eq_true→au,eq_iff_iff→cn,or_eq_false_iff→bU,or_eq_true→bo,true_and→bO
open Int renaming cast_ofNat_Int→dj,ofNat_eq_natCast→cO,tmod→dF,toNat→bW,toNat_natCast→cb
open List renaming all_cons→cV,any_eq_true→bS,append_assoc→bb,append_nil→cH,cons_append→ba,drop_eq_getElem_cons→aY,drop_eq_nil_of_le→bM,drop_zero→bp,getD_cons_zero→bn,getD_eq_getElem?_getD→aa,getElem?_eq_getElem→bm,getElem_mem→bQ,headD_cons→bi,length_append→an,length_cons→aw,length_drop→cg,length_nil→aG,map_cons→bL,mem_append→aL,mem_append_left→aA,mem_cons→aI,mem_cons_of_mem→al,mem_cons_self→aj,mem_map→cm,mem_singleton→aS,nil_append→aT,tail_cons→bB,takeWhile_append_dropWhile→bV
open Nat renaming beq→aJ,le_add_right→cW,le_refl→aq,mod_lt→eu,mul_add→cP,mul_one→dG,zero_add→aV,zero_le→dS
open Option renaming bind_eq_some_iff→a6,isSome_iff_exists→bq,isSome_none→cj,map_some→cv
open UInt8 renaming ofNat→be,toNat_inj→dT
namespace Go.Proofs.Trees
open Go Go.VL
theorem Ir(s0:List UInt8)(k:Nat)(hk:k<300)(ih:∀s,s.length<=8000->ap Tryz.prog 147 [.v (.string (mk s)),.v (.int .i64 ((300-k:Nat):Int))] [] (bD (ol s (rd k s)))) :
 ∀(n:Nat) (s:List UInt8) (acc:List E),s.length<n->s.length+acc.length<=8000->GR [.v (.string (mk s0)),.v (.int .i64 ((300-(k+1):Nat):Int)),.v (.string (mk s))] [.cells [.v (.string (mk [])),.any],.vec 1 (E.l8 acc)]
  (rW (match rQ (rd k) n s acc with|some (e,r)=>(2,[e.ct,.v (.string (mk r))],[])|none=>(2,[.v (.pointer none),.v (.string (mk s0))],[])))
 |0,s,acc,hn,_=>by omega
 |
  n+1,s,acc,hn,hl=>by
  refine MT _ _ _ _ _ ?_
  simp only[Hx,↓zq,zs,af,Bt]
  have hd:IntKind.wrap .i64 (((300-(k+1):Nat):Int)+1)=((300-k:Nat):Int):=by rw[wrap64]<;>omega
  rw[hd]
  refine ai (ih s (by omega)) ?_
  have hlt:=w6 k s
  cases hr:rd k s with
  |
   none =>
   simp only[ol,↓zq,zs,af,rQ,hr]
   simp[rW]
  |
   some q =>
   obtain⟨e,r⟩:=q
   have:=hlt e r hr
   cases r with
   |
    nil =>
    simp only[ol,↓zq,zs,af,zt,rQ,hr,cQ,en]
    simp[rW]
   |
    cons c r =>
    simp only[aw]at this
    have hb:=lU (c::r) 0 (by simp)
    simp only[cO,dj]at hb
    have e2:(List.take (c::r).length (c::r)).drop 1=r:=by simp
    simp only[ol,↓zq,zs,af,zt,rQ,hr,cQ,en,hb,e2,qO]
    refine⟨fun h=>(by cases h),fun _=>⟨fun h=>(by cases h),fun _=>⟨⟨fun c hc=>(by simp at hc;rw[hc];rfl),by omega⟩,by omega,by omega,fun h41=>?_,fun h41=>⟨by omega,fun h32=>?_,fun h32=>?_⟩⟩⟩⟩
    ·have h41':c.toNat=41:=by omega
     rw[zO,if_pos h41']
     simp[rW,E.ct,vq,E.l8]
    ·have h41':¬c.toNat=41:=by omega
     have h32':¬c.toNat=32:=by omega
     rw[if_neg h41',if_neg h32']
    ·have h41':¬c.toNat=41:=by omega
     have h32':c.toNat=32:=by omega
     rw[zO,if_neg h41',if_pos h32']
     have:=Ir s0 k hk ih n r (acc++[e]) (by omega) (by simp;omega)
     simpa[vq,E.l8]using this
theorem MN:∀(k:Nat),k<=300->∀s:List UInt8,s.length<=8000->ap Tryz.prog 147 [.v (.string (mk s)),.v (.int .i64 ((300-k:Nat):Int))] [] (bD (ol s (rd k s))):=by
 intro k
 induction k with
 |
  zero =>
  intro hk s hs
  refine Kh _ _ ?_
  unfold Fc
  refine cw (F7 s hs _ s.length 0 (by omega)) ?_
  simp only[↓zq,zs,af,zt,aV,bD]
  have hw:(s.takeWhile eZ).length<=s.length:=by
   have:=congrArg List.length (bV (p:=eZ) (l:=s))
   simp only[an]at this;omega
  refine⟨fun h=>⟨by omega,by omega,?_⟩,fun h=>?_⟩
  ·have hne:¬s.takeWhile eZ=[]:=fun e=>by rw[e]at h;simp at h
   simp only[rd,if_neg hne,ol,E.ct,tL,yp]
  ·have hnil:s.takeWhile eZ=[]:=List.eq_nil_of_length_eq_zero (by omega)
   simp only[rd,if_pos hnil,ol]
   refine⟨fun _=>trivial,fun hne=>⟨?_,?_⟩⟩
   ·cases s with
    |nil=>exact absurd rfl hne
    |cons c s=>simp
   ·exact⟨fun _=>trivial,fun _=>⟨fun _=>trivial,fun h=>absurd rfl h⟩⟩
 |
  succ k ih =>
  intro hk s hs
  refine Kh _ _ ?_
  unfold Fc
  refine cw (F7 s hs _ s.length 0 (by omega)) ?_
  simp only[↓zq,zs,af,zt,aV,bD]
  have hw:(s.takeWhile eZ).length<=s.length:=by
   have:=congrArg List.length (bV (p:=eZ) (l:=s))
   simp only[an]at this;omega
  refine⟨fun h=>⟨by omega,by omega,?_⟩,fun h=>?_⟩
  ·have hne:¬s.takeWhile eZ=[]:=fun e=>by rw[e]at h;simp at h
   simp only[rd,if_neg hne,ol,E.ct,tL,yp]
  ·have hnil:s.takeWhile eZ=[]:=List.eq_nil_of_length_eq_zero (by omega)
   simp only[rd,if_pos hnil]
   cases s with
   |nil=>simp[ol]
   |
    cons c s =>
    have hb:=lU (c::s) 0 (by simp)
    simp only[cO,dj]at hb
    simp only[aw]at hs
    simp only[↓zq,zs,af,hb,zO]
    refine⟨fun h=>(by cases h),fun _=>⟨by omega,fun h40=>?_,fun h40=>⟨fun h300=>?_,fun h300=>⟨by omega,?_⟩⟩⟩⟩
    ·have:¬c.toNat=40:=by omega
     rw[if_neg this];rfl
    ·omega
    ·have h40':c.toNat=40:=by omega
     rw[if_pos h40']
     refine jq (Ir (c::s) k (by omega) (ih (by omega)) (s.length+1) s [] (by omega) (by simp;omega)) (fun ys o e=>?_) (fun ys o e=>?_)
     ·split at e<;>cases e
     ·split at e<;>cases e
      ·rename_i e' r' hr
       simp only[↓zq,zs,af,cQ]
       simp only[hr,ol]
      ·rename_i hr
       simp only[↓zq,zs,af]
       simp only[hr,ol]
end Go.Proofs.Trees
namespace Go.Proofs.Trees
open Go Go.VL
mutual
def E.sz:E->Nat
 | .atom _=>1
 | .list l=>1+E.jt l
def E.jt:List E->Nat
 |[]=>0
 |e::l=>e.sz+E.jt l
end
mutual
def E.ok:E->Prop
 | .atom s=>s≠[]
 | .list l=>E.Cm l
def E.Cm:List E->Prop
 |[]=>True
 |e::l=>e.ok/\E.Cm l
end
theorem w9(l r:List E):E.jt (l++r)=E.jt l+E.jt r:=by
 induction l with
 |nil=>simp[E.jt]
 |cons e l ih=>simp[E.jt,ih];omega
theorem xE(l r:List E):E.Cm (l++r)↔E.Cm l/\E.Cm r:=by
 induction l with
 |nil=>simp[E.Cm]
 |cons e l ih=>simp[E.Cm,ih,and_assoc]
theorem zS{f:List UInt8->Option (E×List UInt8)}(hf:∀s e r,f s=some (e,r)->e.ok/\e.sz+r.length<=s.length):∀(n:Nat) (s:List UInt8) (acc:List E) (e:E) (r:List UInt8),rQ f n s acc=some (e,r)->E.Cm acc->e.ok/\e.sz+r.length<=s.length+1+E.jt acc
 |0,s,acc,e,r,h,_=>by cases h
 |
  n+1,s,acc,e,r,h,ha=>by
  simp only[rQ]at h
  split at h
  ·rename_i p c r' hs
   obtain⟨h1,h2⟩:=hf _ _ _ hs
   simp only[aw]at h2
   split at h
   ·cases h
    refine⟨(xE _ _).2 ⟨ha,h1,trivial⟩,?_⟩
    simp only[E.sz,w9,E.jt];omega
   ·split at h
    ·have:=zS hf n _ _ _ _ h ((xE _ _).2 ⟨ha,h1,trivial⟩)
     refine⟨this.1,?_⟩
     have h3:=this.2
     simp only[w9,E.jt]at h3;omega
    ·cases h
  ·cases h
theorem tz(s:List UInt8):(s.takeWhile eZ).length+(s.dropWhile eZ).length=s.length:=by
 have:=congrArg List.length (bV (p:=eZ) (l:=s))
 simpa only[an]using this
theorem DV:∀(k:Nat) (s:List UInt8) (e:E) (r:List UInt8),rd k s=some (e,r)->e.ok/\e.sz+r.length<=s.length
 |
  0,s,e,r,h=>by
  simp only[rd]at h
  split at h
  ·cases h
  ·rename_i hn;cases h
   have:=tz s
   have:0<(s.takeWhile eZ).length:=List.length_pos_iff.2 hn
   exact⟨hn,by simp only[E.sz];omega⟩
 |
  k+1,s,e,r,h=>by
  simp only[rd]at h
  split at h
  ·split at h
   ·split at h
    ·have:=zS (DV k) _ _ _ _ _ h trivial
     refine⟨this.1,?_⟩
     have h3:=this.2
     simp only[E.jt,aw]at h3 |-;omega
    ·cases h
   ·cases h
  ·rename_i hn;cases h
   have:=tz s
   have:0<(s.takeWhile eZ).length:=List.length_pos_iff.2 hn
   exact⟨hn,by simp only[E.sz];omega⟩
def qA(s:List UInt8):Option E:=if s.length>8000 then none else match rd 300 s with|some (e,[])=>some e|_=>none
theorem nH{s:List UInt8}{e:E}(h:qA s=some e):e.ok/\e.sz<=8000:=by
 unfold qA at h
 split at h
 ·cases h
 ·split at h
  ·rename_i e' hr
   cases h
   have:=DV _ _ _ _ hr
   exact⟨this.1,by have:=this.2;simp at this;omega⟩
  ·cases h
def tH:Option E->AV
 |some e=>e.ct
 |none=>.v (.pointer none)
theorem JC(s:List UInt8):ap Tryz.prog 103 [.v (.string (mk s))] [] (bD (tH (qA s))):=by
 refine N7 _ ?_
 simp only[Kf,↓zq,zs,af,zt,bD,qA]
 refine⟨fun h=>?_,fun h=>?_⟩
 ·rw[if_pos (by omega)];simp[tH]
 ·rw[if_neg (by omega)]
  refine ai (MN 300 (by omega) s (by omega)) ?_
  cases hr:rd 300 s with
  |
   none =>
   simp only[ol,↓zq,zs,af,zt,tH]
   refine⟨fun _=>trivial,fun _=>trivial⟩
  |
   some q =>
   obtain⟨e,r⟩:=q
   cases r with
   |nil=>simp only[ol,↓zq,zs,af,zt,tH,cQ];simp
   |cons c r=>simp only[ol,↓zq,zs,af,zt,tH,cQ];simp
def ib(b:UInt8):Bool:=decide (48<=b.toNat/\b.toNat<=57)
def named(lo hi:Nat):List UInt8->Bool
 |[]=>false
 |c::r=>decide (r.length<=2)&&decide (lo<=c.toNat/\c.toNat<=hi)&&r.all ib
def gV(s:List UInt8):Bool:=named 120 122 s
def db(s:List UInt8):Bool:=named 116 116 s
def DP(v lo hi:Int):Bool:=decide (lo<=v/\v<=hi)
theorem CO(v lo hi:Int):ap Tryz.prog 87 [.v (.int .i64 v),.v (.int .i64 lo),.v (.int .i64 hi)] [] (bD (.v (.bool (DP v lo hi)))):=by
 refine PL _ _ _ ?_
 simp only[Io,↓zq,zs,af,bD,DP]
 constructor<;>intro h<;>simp at h<;>simp[h]
 omega
theorem JI(s:List UInt8)(hs:s.length<=3):∀(k i:Nat),i+k=s.length->E3 [.v (.string (mk s)),.v (.int .i64 (i:Int))] [] (rW (if(s.drop i).all ib=true then(1,[],[])else(2,[.v (.bool false)],[])))
 |
  0,i,hi=>by
  have hd:s.drop i=[]:=bM (by omega)
  refine Ji _ _ ?_
  simp only[Hi,↓zq,zs,af,zt]
  exact⟨fun h=>by omega,fun _=>by simp[rW,hd]⟩
 |
  k+1,i,hi=>by
  have hlt:i<s.length:=by omega
  have e:s.drop i=s.getD i 0::s.drop (i+1):=by
   rw[aY hlt];simp[aa,hlt]
  refine Ji _ _ ?_
  simp only[Hi,↓zq,zs,af,zt,lU s i hlt,e,cV]
  generalize hb:s.getD i 0=b
  refine⟨fun _=>⟨by omega,fun h=>?_,fun h=>⟨by omega,fun h2=>?_,fun h2=>?_⟩⟩,fun h=>by omega⟩
  ·have:ib b=false:=by simp[ib];omega
   simp only[this,zf,rW]
  ·have:ib b=false:=by simp[ib];omega
   simp only[this,zf,rW]
  ·have:ib b=true:=by simp[ib];omega
   rw[bE i (by omega),this,bO]
   exact JI s hs k (i+1) (by omega)
theorem KL(s:List UInt8)(lo hi:Nat):ap Tryz.prog 144 [.v (.string (mk s)),.v (.int .u8 (lo:Int)),.v (.int .u8 (hi:Int))] [] (bD (.v (.bool (named lo hi s)))):=by
 refine MF _ _ _ ?_
 unfold Ik
 rw[cB]
 refine ai (CO _ _ _) ?_
 simp only[↓zq,zs,af,zt,bD]
 refine⟨fun h=>?_,fun h=>?_⟩
 ·cases s with
  |nil=>rfl
  |
   cons c s =>
   simp[DP]at h
   have:¬s.length<=2:=by omega
   simp[named,this]
 ·cases s with
  |nil=>simp[DP]at h
  |
   cons c s =>
   simp[DP]at h
   have hl:s.length<=2:=by omega
   have hb:=lU (c::s) 0 (by simp)
   simp only[cO,dj]at hb
   simp only[↓zq,zs,af,hb]
   refine⟨by omega,fun h1=>?_,fun h1=>⟨by omega,fun h2=>?_,fun h2=>?_⟩⟩
   ·have:¬lo<=c.toNat:=by omega
    simp[named,this]
   ·have:¬c.toNat<=hi:=by omega
    simp[named,this]
   ·refine jq (JI (c::s) (by simp;omega) s.length 1 (by simp;omega)) (fun ys o e=>?_) (fun ys o e=>?_)
    ·split at e<;>cases e
     rename_i ha
     simp at ha
     simp only[↓zq,zs,af]
     simp[named,hl]
     exact⟨⟨by omega,by omega⟩,fun x hx=>by simpa using ha x hx⟩
    ·split at e<;>cases e
     rename_i ha
     simp only[↓zq,zs,af]
     have:s.all ib=false:=by simpa using ha
     simp[named,this]
theorem EY(s:List UInt8):ap Tryz.prog 100 [.v (.string (mk s))] [] (bD (.v (.bool (gV s)))):=by
 refine MS _ ?_
 unfold HM
 refine ai (KL s 120 122) ?_
 simp only[↓zq,zs,af,bD,gV]
theorem FV(s:List UInt8):ap Tryz.prog 99 [.v (.string (mk s))] [] (bD (.v (.bool (db s)))):=by
 refine NW _ ?_
 unfold JN
 refine ai (KL s 116 116) ?_
 simp only[↓zq,zs,af,bD,db]
end Go.Proofs.Trees
namespace Go.Proofs.Trees
open Go Go.VL Go.RowKit
theorem MO(l:List UInt8)(c:UInt8):ap Tryz.prog 151 [.v (.string (mk l)),.v (.string (mk [c]))] [] (bD (.v (.bool (decide (0<=Lib.indexByte l c))))):=by
 refine ap.PU (xs:=[.string (mk l),.string (mk [c])]) ⟨nj,by kernel_rfl,by kernel_rfl,by kernel_rfl⟩ fun w=>?_
 have:=Any.strings_Contains_one Tryz.Cu (mk l) c w
 refine Calls.mono this fun e w' ⟨h1,h2⟩=>?_
 rw[h2]
 have hd:(mk l).data.toList=l:=by simp[mk]
 exact⟨by rw[h1,hd],Below.refl _ _⟩
theorem HW(l cs:List UInt8)(hl:l.length<=1000000)(hc:cs.length<=1000)(ha:∀b,b∈cs->b.toNat<128):ap Tryz.prog 152 [.v (.string (mk l)),.v (.string (mk cs))] [] (bD (.v (.string (mk (Lib.trimS l cs))))):=by
 refine ap.PU (xs:=[.string (mk l),.string (mk cs)]) ⟨qa,by kernel_rfl,by kernel_rfl,by kernel_rfl⟩ fun w=>?_
 have:=Any.strings_Trim_laid Tryz.Cw (by kernel_rfl) (mk l) (mk cs) w (by rw[cB];omega) (by rw[cB];omega) (fun j b hj=>ha b (by
  have:(mk cs).data.toList=cs:=by simp[mk]
  rw[this]at hj
  exact List.mem_of_getElem? hj))
 refine Calls.mono this fun e w' ⟨h1,h2⟩=>⟨?_,h2⟩
 rw[h1]
 simp[mk]
theorem nq:∀(l:List UInt8) (c:UInt8),(0<=Lib.indexByte l c↔c∈l)/\-1<=Lib.indexByte l c
 |[],c=>by simp[Lib.indexByte]
 |
  b::l,c=>by
  obtain⟨h1,h2⟩:=nq l c
  unfold Lib.indexByte
  by_cases e:b=c
  ·subst e;simp
  ·have e':(b==c)=false:=by simp[e]
   rw[e']
   by_cases q:Lib.indexByte l c = -1
   ·have:c∉l:=fun h=>by have:=h1.2 h;omega
    simp[q,this,Ne.symm e]
   ·have q':(Lib.indexByte l c==-1)=false:=by simp[q]
    simp only[q',Bool.false_eq_true,if_false,aI]
    constructor
    ·constructor
     ·intro h;exact .inr (h1.1 (by omega))
     ·intro h
      rcases h with h|h
      ·exact absurd h.symm e
      ·have:=h1.2 h;omega
    ·omega
theorem dropWhile_nil{p:UInt8->Bool}:∀(l:List UInt8),l.dropWhile p=[]↔l.all p=true
 |[]=>by simp
 |
  b::l=>by
  cases h:p b with
  |true=>rw[List.dropWhile_cons_of_pos h,dropWhile_nil l];simp[h]
  |false=>rw[List.dropWhile_cons_of_neg (by rw[h];simp)];simp[h]
theorem si(l cs:List UInt8):Lib.trimS l cs=[]↔l.all (cs.contains ·)=true:=by
 unfold Lib.trimS Lib.trimLeftS
 rw[dropWhile_nil]
 unfold Lib.trimRightS
 constructor
 ·intro h
  by_cases hn:l.reverse.dropWhile (cs.contains ·)=[]
  ·rw[dropWhile_nil]at hn
   simpa using hn
  ·exfalso
   rw[List.all_reverse]at h
   obtain⟨b,r,e⟩:=List.exists_cons_of_ne_nil hn
   have h1:cs.contains b=false:=by
    have:=List.head_dropWhile_not (p:=(cs.contains ·)) (l:=l.reverse) hn
    simp only[e,List.head_cons]at this
    exact this
   rw[e]at h
   simp only[cV,au]at h
   rw[h1]at h;cases h.1
 ·intro h
  have:l.reverse.dropWhile (cs.contains ·)=[]:=by rw[dropWhile_nil];simpa using h
  rw[this];rfl
def FU:List UInt8:=[48,49,50,51,52,53,54,55,56,57]
theorem uC(b:UInt8):FU.contains b=ib b:=by
 have:∀n:Fin 256,FU.contains (be n.val)=ib (be n.val):=by decide +kernel
 have:=this ⟨b.toNat,b.toNat_lt⟩
 simpa using this
theorem Mg(s ls:List UInt8)(lo hi:Nat)(hls:∀c:UInt8,c∈ls↔lo<=c.toNat/\c.toNat<=hi):ap Tryz.prog 111 [.v (.string (mk s)),.v (.string (mk ls))] [] (bD (.v (.bool (named lo hi s)))):=by
 refine Od _ _ ?_
 simp only[Li,↓zq,zs,af,zt,bD]
 cases s with
 |nil=>exact⟨fun h=>by simp at h,fun _=>rfl⟩
 |
  cons c s =>
  have e1:(List.take (bW 1) (c::s))=[c]:=rfl
  have e2:(List.take (s.length+1) (c::s)).drop (bW 1)=s:=by simp
  simp only[aw,e1,e2]
  refine⟨fun _=>⟨fun h3=>⟨by omega,?_⟩,fun h3=>?_⟩,fun h=>by omega⟩
  ·have hl:s.length<=2:=by omega
   refine ai (MO ls c) ?_
   simp only[↓zq,zs,af]
   have hi1:=(nq ls c).1
   refine⟨fun h=>⟨by omega,?_⟩,fun h=>?_⟩
   ·refine ai (HW s FU (by omega) (by decide) (by decide)) ?_
    simp only[↓zq,zs,af,zt]
    have hc:=(hls c).1 (hi1.1 h)
    congr 2
    rw[cn,beq_iff_eq,si]
    simp only[named,hl,hc,decide_true,bO,and_self]
    have:(fun x=>FU.contains x)=ib:=funext uC
    rw[this]
   ·have hc:¬(lo<=c.toNat/\c.toNat<=hi):=fun h'=>h (hi1.2 ((hls c).2 h'))
    simp only[named,hc,zf]
  ·have hl:¬s.length<=2:=by omega
   simp only[named,hl,zf]
theorem JK(s:List UInt8):ap Tryz.prog 59 [.v (.string (mk s))] [] (bD (.v (.bool (gV s)))):=by
 refine Py _ ?_
 unfold HA
 have h:∀n:Fin 256,(be n.val∈[(120:UInt8),121,122])↔120<=(be n.val).toNat/\(be n.val).toNat<=122:=by decide +kernel
 refine ai (Mg s [120,121,122] 120 122 fun c=>by simpa using h ⟨c.toNat,c.toNat_lt⟩) ?_
 simp only[↓zq,zs,af,bD,gV]
theorem CT(s:List UInt8):ap Tryz.prog 166 [.v (.string (mk s))] [] (bD (.v (.bool (db s)))):=by
 refine Pq _ ?_
 unfold KS
 have h:∀n:Fin 256,(be n.val∈[(116:UInt8)])↔116<=(be n.val).toNat/\(be n.val).toNat<=116:=by decide +kernel
 refine ai (Mg s [116] 116 116 fun c=>by simpa using h ⟨c.toNat,c.toNat_lt⟩) ?_
 simp only[↓zq,zs,af,bD,db]
end Go.Proofs.Trees
namespace Go.Proofs.Trees
open Go Go.VL
inductive Ty where
 |zero|one
 |name (s:List UInt8)
 |bJ (up:Nat)
 |plus (a b:Ty)
 |times (a b:Ty)
 |rc (a:Ty)
def Ty.av:Ty->AV
 | .zero=>.ptr [.v (.int .u8 48),.v (.string (mk [])),.v (.int .i64 0),.v (.pointer none),.v (.pointer none)]
 | .one=>.ptr [.v (.int .u8 49),.v (.string (mk [])),.v (.int .i64 0),.v (.pointer none),.v (.pointer none)]
 | .name s=>.ptr [.v (.int .u8 110),.v (.string (mk s)),.v (.int .i64 0),.v (.pointer none),.v (.pointer none)]
 | .bJ up=>.ptr [.v (.int .u8 98),.v (.string (mk [])),.v (.int .i64 (up:Int)),.v (.pointer none),.v (.pointer none)]
 | .plus a b=>.ptr [.v (.int .u8 43),.v (.string (mk [])),.v (.int .i64 0),a.av,b.av]
 | .times a b=>.ptr [.v (.int .u8 42),.v (.string (mk [])),.v (.int .i64 0),a.av,b.av]
 | .rc a=>.ptr [.v (.int .u8 114),.v (.string (mk [])),.v (.int .i64 0),a.av,.v (.pointer none)]
theorem aF(t:Ty):LK.has .ptr t.av=True:=by cases t<;>simp[Ty.av,ck]
theorem fM(t:Ty):t.av.isNil=false:=by cases t<;>rfl
def ia:Option Ty->AV
 |some t=>t.av
 |none=>.v (.pointer none)
theorem gm(t:Option Ty):LK.has .ptr (ia t)=True:=by cases t<;>simp[ia,aF,jd]
def E.at:E->List UInt8
 | .atom s=>s
 | .list _=>[]
def bG(s:List UInt8)(ar:List (List UInt8)):Nat->Option Nat
 |0=>none
 |i+1=>if ar.getD i []=s then some (ar.length-1-i)else bG s ar i
def cN:E->List (List UInt8)->Option Ty
 | .atom s,ar=>if s=[48]then some .zero else if s=[49]then some .one else if gV s=true then some (.name s)else if db s=true then(match bG s ar ar.length with|some u=>some (.bJ u)|none=>some (.name s))else none
 |
  .list [x,a,b],ar =>
  if x.at=[43]then(match cN a ar,cN b ar with|some t,some u=>some (.plus t u)|_,_=>none)
  else if x.at=[42]then(match cN a ar,cN b ar with|some t,some u=>some (.times t u)|_,_=>none)
  else if x.at=[114,101,99]then(if db a.at=true then(match cN b (ar++[a.at])with|some t=>some (.rc t)|none=>none)else none)
  else none
 | .list _,_=>none
def cq(l:List (List UInt8)):List (List AV):=l.map fun s=>[.v (.string (mk s))]
def dV(a:AV)(l:List (List UInt8)):Prop:=LK.sl.has a/\a.aR=cq l
theorem dV.len{a:AV}{l:List (List UInt8)}(h:dV a l):a.aR.length=l.length:=by rw[h.2];simp[cq]
theorem dV.idx{a:AV}{l:List (List UInt8)}(h:dV a l){i:Nat}(hi:i<l.length):a.aR.getD i []=[.v (.string (mk (l.getD i [])))]:=by
 rw[h.2];simp[cq,aa,hi]
theorem dV.of(l:List (List UInt8)):dV (.sl (cq l)) l:=⟨(cd _).mpr trivial,rfl⟩
theorem dV.nil:dV (.v (.slice none 0 0)) []:=⟨(bu).mpr trivial,rfl⟩
theorem w8(e:E)(w:List UInt8):ap Tryz.prog 149 [e.ct,.v (.string (mk w)),.v (.int .i64 3)] [] (bD (.v (.bool (match e with| .list [x,_,_]=>x.at==w|_=>false)))):=by
 refine HN _ _ _ ((cQ e).mpr trivial) ?_
 cases e with
 |atom s=>simp only[BL,E.ct,↓zq,zs,af,zt,bD];exact⟨by omega,fun h=>by omega,fun _=>trivial⟩
 |
  list l =>
  simp only[BL,E.ct,↓zq,zs,af,zt,bD,qO]
  match l with
  |[]=>exact⟨by simp,fun h=>by simp at h,fun _=>rfl⟩
  |[_]=>exact⟨by simp,fun h=>by simp at h,fun _=>rfl⟩
  |[_,_]=>exact⟨by simp,fun h=>by simp at h,fun _=>rfl⟩
  |
   [x,y,z] =>
   refine⟨by simp,fun _=>?_,fun h=>by simp at h⟩
   cases x<;>simp[E.l8,E.ct,ck,pz,jJ,dI,tB,toList_mk,E.at]
  |_::_::_::_::l=>exact⟨by simp,fun h=>by simp at h;omega,fun _=>rfl⟩
theorem JZ(e:E)(a:AV)(ar:List (List UInt8))(ha:dV a ar)(hl:ar.length<1000000):∀(i:Nat),i<=ar.length->EV [e.ct,a,.v (.int .i64 ((i:Int)-1))] []
 (rW (match bG e.at ar i with|some u=>(2,[],[.cells [.v (.int .u8 98),.v (.string (mk [])),.v (.int .i64 (u:Int)),.v (.pointer none),.v (.pointer none)]])|none=>(1,[e.ct],[])))
 |
  0,hi=>by
  refine JL _ _ _ ?_
  simp only[F1,↓zq,zs,af,cQ]
  exact⟨ha.1,fun h=>by omega,fun _=>rfl⟩
 |
  i+1,hi=>by
  have hlt:i<ar.length:=by omega
  have e1:((i+1:Nat):Int)-1=(i:Int):=by omega
  rw[e1]
  refine JL _ _ _ ?_
  have hd:e.ct.deref.headD .any=.v (.string (mk e.at)):=by cases e<;>rfl
  have hdl:1<=e.ct.deref.length:=by cases e<;>simp[E.ct,jJ]
  simp only[F1,↓zq,zs,af,zt,cQ,en,ha.len,ha.idx hlt,hd,rF]
  refine⟨ha.1,fun _=>⟨⟨ha.1,by omega,by omega⟩,by omega,hdl,fun h=>⟨ha.1,?_⟩,fun h=>?_⟩,fun h=>by omega⟩
  ·simp only[bG,h,if_true,rW]
   rw[wrap64 ((ar.length:Int)-1) (by omega) (by omega),wrap64 _ (by omega) (by omega)]
   have:(ar.length:Int)-1-(i:Int)=((ar.length-1-i:Nat):Int):=by omega
   rw[this]
  ·simp only[bG,h,if_false]
   rw[wrap64 _ (by omega) (by omega)]
   exact JZ e a ar ha hl i (by omega)
end Go.Proofs.Trees
namespace Go.Proofs.Trees
open Go Go.VL
theorem nB(e:E):e.ct.deref.headD .any=.v (.string (mk e.at)):=by cases e<;>rfl
theorem lR(e:E):1<=e.ct.deref.length:=by cases e<;>simp[E.ct,jJ]
theorem toNat_one:bW 1=1:=rfl
theorem a7:bW 2=2:=rfl
theorem yR{ar:List (List UInt8)}(s:List UInt8):cq ar++[[.v (.string (mk s))]]=cq (ar++[s]):=by simp[cq]
theorem j6(ar:List (List UInt8)):cE 1 (cq ar):=fun c hc=>by
 obtain⟨s,_,rfl⟩:=cm.1 hc;rfl
theorem kz{x a b:E}(ar:List (List UInt8))(hx:x.at=[43]):cN (.list [x,a,b]) ar=match cN a ar,cN b ar with|some t,some u=>some (.plus t u)|_,_=>none:=by rw[cN,if_pos hx]<;>cases cN a ar<;>cases cN b ar<;>rfl
theorem jV{x a b:E}(ar:List (List UInt8))(hx:x.at=[42]):cN (.list [x,a,b]) ar=match cN a ar,cN b ar with|some t,some u=>some (.times t u)|_,_=>none:=by rw[cN,if_neg (by rw[hx];decide),if_pos hx]<;>cases cN a ar<;>cases cN b ar<;>rfl
theorem mi{x a b:E}(ar:List (List UInt8))(hx:x.at=[114,101,99]):cN (.list [x,a,b]) ar=if db a.at=true then(match cN b (ar++[a.at])with|some t=>some (.rc t)|none=>none)else none:=by rw[cN,if_neg (by rw[hx];decide),if_neg (by rw[hx];decide),if_pos hx]<;>cases cN b (ar++[a.at])<;>rfl
theorem jb{x a b:E}(ar:List (List UInt8))(h1:x.at≠[43])(h2:x.at≠[42])(h3:x.at≠[114,101,99]):cN (.list [x,a,b]) ar=none:=by rw[cN,if_neg h1,if_neg h2,if_neg h3]
theorem CU:∀(e:E) (ar:List (List UInt8)) (a:AV),e.ok->dV a ar->ar.length+e.sz<100000->ap Tryz.prog 153 [e.ct,a] [] (bD (ia (cN e ar)))
 |
  .atom s,ar,a,hok,ha,hl=>by
  simp only[E.sz]at hl
  refine Iy _ _ ((cQ _).mpr trivial) ha.1 ?_
  have hd:=nB (.atom s)
  have hlen:=lR (.atom s)
  simp only[E.at]at hd
  simp only[Fa,↓zq,zs,af,zt,bD,cQ,en,hd,cN]
  refine⟨hlen,fun h=>⟨hlen,?_,?_⟩,fun h=>⟨hlen,fun h1=>⟨hlen,?_,?_⟩,fun h1=>⟨hlen,?_⟩⟩⟩
  ·rw[h];decide
  ·rw[if_pos h,h];rfl
  ·rw[h1];decide
  ·rw[if_neg h,if_pos h1,h1];rfl
  ·rw[if_neg h,if_neg h1]
   refine ai (JK s) ?_
   simp only[↓zq,zs,af]
   refine⟨fun hp=>⟨hlen,?_⟩,fun hp=>⟨hlen,?_⟩⟩
   ·rw[if_pos hp];rfl
   ·rw[if_neg (by rw[hp];simp)]
    refine ai (CT s) ?_
    simp only[↓zq,zs,af,ha.len]
    refine⟨fun hq=>⟨ha.1,?_⟩,fun hq=>?_⟩
    ·rw[if_pos hq,wrap64 _ (by omega) (by omega)]
     refine jq (JZ (.atom s) a ar ha (by omega) ar.length (by omega)) (fun ys o e=>?_) (fun ys o e=>?_)
     ·simp only[E.at]at e
      cases hq2:bG s ar ar.length<;>rw[hq2]at e<;>cases e
      simp only[↓zq,zs,af,zt,cQ,en,hd]
      exact⟨hlen,rfl⟩
     ·simp only[E.at]at e
      cases hq2:bG s ar ar.length<;>rw[hq2]at e<;>cases e
      simp only[↓zq,zs,af,zt,LK.has]
      simp[ia,Ty.av,af,LK.has]
    ·rw[if_neg (by rw[hq];simp)]
     refine ai (w8 (.atom s) [43]) ?_
     simp only[↓zq,zs,af]
     refine⟨fun h=>(by simp at h),fun _=>?_⟩
     refine ai (w8 (.atom s) [42]) ?_
     simp only[↓zq,zs,af]
     refine⟨fun h=>(by simp at h),fun _=>?_⟩
     refine ai (w8 (.atom s) [114,101,99]) ?_
     simp only[↓zq,zs,af]
     refine⟨fun h=>(by simp at h),fun _=>?_⟩
     trivial
 |
  .list l,ar,a,hok,ha,hl=>by
  simp only[E.sz]at hl
  refine Iy _ _ ((cQ _).mpr trivial) ha.1 ?_
  have hd:=nB (.list l)
  have hlen:=lR (.list l)
  simp only[E.at]at hd
  have hp:gV []=false:=rfl
  have hq:db []=false:=rfl
  simp only[Fa,↓zq,zs,af,zt,bD,cQ,en,hd]
  refine⟨hlen,fun h=>(by simp at h),fun h=>⟨hlen,fun h1=>(by simp at h1),fun h1=>⟨hlen,?_⟩⟩⟩
  refine ai (JK []) ?_
  simp only[↓zq,zs,af,hp]
  refine⟨fun h=>(by simp at h),fun _=>⟨hlen,?_⟩⟩
  refine ai (CT []) ?_
  simp only[↓zq,zs,af,hq]
  refine⟨fun h=>(by simp at h),fun _=>?_⟩
  refine ai (w8 (.list l) [43]) ?_
  match l,hok,hl with
  |
   [x,y,z],hok,hl =>
   simp only[E.jt]at hl
   obtain⟨ok1,ok2,ok3,_⟩:=hok
   have iy:=CU y ar a ok2 ha (by omega)
   have iz:=CU z ar a ok3 ha (by omega)
   have hds:((E.list [x,y,z]).ct.deref.drop 1).headD .any=.sl [[x.ct],[y.ct],[z.ct]]:=rfl
   have hdl:1<=((E.list [x,y,z]).ct.deref.drop 1).length:=by simp[E.ct,jJ]
   have hxd:=nB x
   have hxl:=lR x
   have hyd:=nB y
   have hyl:=lR y
   have bin:∀(c:UInt8) (mkT:Ty->Ty->Ty),(∀t u:Ty,(mkT t u).av=.ptr [.v (.int .u8 (c.toNat:Int)),.v (.string (mk [])),.v (.int .i64 0),t.av,u.av])->x.at=[c]->bt (mk x.at) 0=(c.toNat:Int):=fun c _ _ hx=>by
    have:=lU x.at 0 (by rw[hx];simp)
    simp only[cO,dj]at this
    rw[this,hx];rfl
   simp only[↓zq,zs,af,zt,hds,hdl,cQ,en,toNat_one,a7,hxd,hyd,rF]
   refine⟨fun hx=>?_,fun hx=>?_⟩
   ·refine⟨by omega,by omega,?_⟩
    refine ai iy ?_
    simp only[↓zq,zs,af,gm]
    refine⟨by omega,by omega,?_⟩
    refine ai iz ?_
    have hb:=bin 43 Ty.plus (fun _ _=>rfl) hx
    rw[kz ar hx]
    simp only[↓zq,zs,af,zt,gm]
    cases h1:cN y ar with
    |none=>simp[ia,jG]
    |
     some t =>
     cases h2:cN z ar with
     |none=>simp[ia,jG,fM]
     |
      some u =>
      simp only[ia,fM,hb]
      refine⟨fun h=>(by cases h),fun _=>⟨fun h=>(by cases h),fun _=>⟨by omega,by omega,hxl,⟨by omega,by rw[hx];simp⟩,rfl⟩⟩⟩
   ·refine ai (w8 (.list [x,y,z]) [42]) ?_
    simp only[↓zq,zs,af,hds,hdl,cQ,en,toNat_one,a7,hxd,hyd,rF]
    refine⟨fun hx2=>?_,fun hx2=>?_⟩
    ·refine⟨by omega,by omega,?_⟩
     refine ai iy ?_
     simp only[↓zq,zs,af,gm]
     refine⟨by omega,by omega,?_⟩
     refine ai iz ?_
     have hb:=bin 42 Ty.times (fun _ _=>rfl) hx2
     rw[jV ar hx2]
     simp only[↓zq,zs,af,zt,gm]
     cases h1:cN y ar with
     |none=>simp[ia,jG]
     |
      some t =>
      cases h2:cN z ar with
      |none=>simp[ia,jG,fM]
      |
       some u =>
       simp only[ia,fM,hb]
       refine⟨fun h=>(by cases h),fun _=>⟨fun h=>(by cases h),fun _=>⟨by omega,by omega,hxl,⟨by omega,by rw[hx2];simp⟩,rfl⟩⟩⟩
    ·refine ai (w8 (.list [x,y,z]) [114,101,99]) ?_
     simp only[↓zq,zs,af,zt,hds,hdl,cQ,en,toNat_one,a7,hxd,hyd,rF]
     refine⟨fun hx3=>⟨by omega,by omega,hyl,?_⟩,fun hx3=>?_⟩
     ·refine ai (CT y.at) ?_
      rw[mi ar hx3]
      simp only[↓zq,zs,af]
      have hal:cE 1 a.aR:=by rw[ha.2];exact j6 ar
      have hal1:cE 1 [[AV.v (.string (mk y.at))]]:=fun c hc=>by simp at hc;rw[hc];rfl
      refine⟨fun hlo=>⟨by omega,by omega,⟨ha.1,hal,by rw[ha.len];omega⟩,by omega,by omega,hyl,⟨hal1,by rw[aT,ha.len];omega⟩,?_⟩,fun hlo=>?_⟩
      ·rw[aT,ha.2,yR,if_pos hlo]
       refine ai (CU z (ar++[y.at]) _ ok3 (.of _) (by simp;omega)) ?_
       simp only[↓zq,zs,af,gm]
       cases h2:cN z (ar++[y.at])with
       |none=>simp[ia,jG]
       |
        some u =>
        simp only[ia,fM]
        refine⟨fun h=>(by cases h),fun _=>rfl⟩
      ·rw[if_neg (by rw[hlo];simp)];rfl
     ·rw[jb ar hx hx2 hx3];rfl
  |
   [],_,_ =>
   simp only[↓zq,zs,af]
   refine⟨fun h=>(by cases h),fun _=>?_⟩
   refine ai (w8 (.list []) [42]) ?_
   simp only[↓zq,zs,af]
   refine⟨fun h=>(by cases h),fun _=>?_⟩
   refine ai (w8 (.list []) [114,101,99]) ?_
   simp only[↓zq,zs,af]
   refine⟨fun h=>(by cases h),fun _=>?_⟩
   rfl
  |
   [x1],_,_ =>
   simp only[↓zq,zs,af]
   refine⟨fun h=>(by cases h),fun _=>?_⟩
   refine ai (w8 (.list [x1]) [42]) ?_
   simp only[↓zq,zs,af]
   refine⟨fun h=>(by cases h),fun _=>?_⟩
   refine ai (w8 (.list [x1]) [114,101,99]) ?_
   simp only[↓zq,zs,af]
   refine⟨fun h=>(by cases h),fun _=>?_⟩
   rfl
  |
   [x1,x2],_,_ =>
   simp only[↓zq,zs,af]
   refine⟨fun h=>(by cases h),fun _=>?_⟩
   refine ai (w8 (.list [x1,x2]) [42]) ?_
   simp only[↓zq,zs,af]
   refine⟨fun h=>(by cases h),fun _=>?_⟩
   refine ai (w8 (.list [x1,x2]) [114,101,99]) ?_
   simp only[↓zq,zs,af]
   refine⟨fun h=>(by cases h),fun _=>?_⟩
   rfl
  |
   x1::x2::x3::x4::l,_,_ =>
   simp only[↓zq,zs,af]
   refine⟨fun h=>(by cases h),fun _=>?_⟩
   refine ai (w8 (.list (x1::x2::x3::x4::l)) [42]) ?_
   simp only[↓zq,zs,af]
   refine⟨fun h=>(by cases h),fun _=>?_⟩
   refine ai (w8 (.list (x1::x2::x3::x4::l)) [114,101,99]) ?_
   simp only[↓zq,zs,af]
   refine⟨fun h=>(by cases h),fun _=>?_⟩
   rfl
end Go.Proofs.Trees
namespace Go.Proofs.Trees
open Go Go.VL
def dA(v:AV)(obs:List Ob):AV->List Ob->Prop:=fun r o=>r=v/\o=obs
theorem bc{P:Program}{n:Nat}{Q:Nat->List AV->List Ob->Prop}{f:Nat}{xs:List AV}{ins:List Ob}{k:AV->List Ob->Tree}{v:AV}{obs:List Ob}(h:ap P f xs ins (dA v obs))(hk:eT P n (k v obs) Q):eT P n (.call f xs ins k) Q :=
 ⟨dA v obs,h,⟨v,obs,rfl,rfl⟩,fun r o ⟨h1,h2⟩=>by rw[h1,h2];exact hk⟩
def Ty.aC:Ty->Nat
 | .plus a b=>1+a.aC+b.aC
 | .times a b=>1+a.aC+b.aC
 | .rc a=>2+a.aC
 |_=>1
theorem D4:∀(t:Ty),t.aC<1000000->ap Tryz.prog 154 [t.av] [] (bD (.v (.int .i64 (t.aC:Int))))
 | .zero,h=>by refine vQ _ ((aF _).mpr trivial) ?_;simp[DL,Ty.av,↓zq,zs,af,bD,Ty.aC]
 | .one,h=>by refine vQ _ ((aF _).mpr trivial) ?_;simp[DL,Ty.av,↓zq,zs,af,bD,Ty.aC]
 | .name s,h=>by refine vQ _ ((aF _).mpr trivial) ?_;simp[DL,Ty.av,↓zq,zs,af,bD,Ty.aC]
 | .bJ u,h=>by refine vQ _ ((aF _).mpr trivial) ?_;simp[DL,Ty.av,↓zq,zs,af,bD,Ty.aC]
 |
  .plus a b,h=>by
  simp only[Ty.aC]at h
  refine vQ _ ((aF _).mpr trivial) ?_
  simp only[DL,Ty.av,↓zq,zs,af,aF]
  refine⟨by omega,fun _=>⟨by omega,?_⟩,fun h=>absurd rfl h⟩
  refine ai (D4 a (by omega)) ?_
  simp only[↓zq,zs,af,aF]
  refine⟨by omega,?_⟩
  refine ai (D4 b (by omega)) ?_
  simp only[↓zq,zs,af,bD,Ty.aC]
  rw[wrap64 (1+(a.aC:Int)) (by omega) (by omega),wrap64 _ (by omega) (by omega)]
  congr 2
 |
  .times a b,h=>by
  simp only[Ty.aC]at h
  refine vQ _ ((aF _).mpr trivial) ?_
  simp only[DL,Ty.av,↓zq,zs,af,aF]
  refine⟨by omega,fun h=>by omega,fun _=>⟨fun _=>⟨by omega,?_⟩,fun h=>absurd rfl h⟩⟩
  refine ai (D4 a (by omega)) ?_
  simp only[↓zq,zs,af,aF]
  refine⟨by omega,?_⟩
  refine ai (D4 b (by omega)) ?_
  simp only[↓zq,zs,af,bD,Ty.aC]
  rw[wrap64 (1+(a.aC:Int)) (by omega) (by omega),wrap64 _ (by omega) (by omega)]
  congr 2
 |
  .rc a,h=>by
  simp only[Ty.aC]at h
  refine vQ _ ((aF _).mpr trivial) ?_
  simp only[DL,Ty.av,↓zq,zs,af,aF]
  refine⟨by omega,fun h=>by omega,fun _=>⟨fun h=>by omega,fun _=>⟨fun _=>⟨by omega,?_⟩,fun h=>absurd rfl h⟩⟩⟩
  refine ai (D4 a (by omega)) ?_
  simp only[↓zq,zs,af,bD,Ty.aC]
  rw[wrap64 _ (by omega) (by omega)]
  congr 2
theorem iU:∀(e:E) (ar:List (List UInt8)) (t:Ty),cN e ar=some t->t.aC<=e.sz
 |
  .atom s,ar,t,h=>by
  simp only[cN]at h
  simp only[E.sz]
  split at h
  ·cases h;simp[Ty.aC]
  ·split at h
   ·cases h;simp[Ty.aC]
   ·split at h
    ·cases h;simp[Ty.aC]
    ·split at h
     ·split at h<;>cases h<;>simp[Ty.aC]
     ·cases h
 |
  .list [x,a,b],ar,t,h=>by
  have hs:∀e:E,1<=e.sz:=fun e=>by cases e<;>simp[E.sz];try omega
  have hx:=hs x
  have ha:=hs a
  simp only[E.sz,E.jt]
  by_cases h1:x.at=[43]
  ·rw[kz ar h1]at h
   split at h
   ·rename_i t1 t2 e1 e2
    cases h
    have:=iU a ar t1 e1
    have:=iU b ar t2 e2
    simp only[Ty.aC];omega
   ·cases h
  ·by_cases h2:x.at=[42]
   ·rw[jV ar h2]at h
    split at h
    ·rename_i t1 t2 e1 e2
     cases h
     have:=iU a ar t1 e1
     have:=iU b ar t2 e2
     simp only[Ty.aC];omega
    ·cases h
   ·by_cases h3:x.at=[114,101,99]
    ·rw[mi ar h3]at h
     split at h
     ·split at h
      ·rename_i t1 e1
       cases h
       have:=iU b _ t1 e1
       simp only[Ty.aC];omega
      ·cases h
     ·cases h
    ·rw[jb ar h1 h2 h3]at h;cases h
 | .list [],_,_,h=>by cases h
 | .list [_],_,_,h=>by cases h
 | .list [_,_],_,_,h=>by cases h
 | .list (_::_::_::_::_),_,_,h=>by cases h
def qy(s:List UInt8):Option Ty:=match qA s with
 |none=>none
 |
  some e=>match cN e []with
  |none=>none
  |some t=>if t.aC>400 then none else some t
theorem Gx(s:List UInt8):ap Tryz.prog 121 [.v (.string (mk s))] [] (bD (ia (qy s))):=by
 refine NR _ ?_
 unfold LM
 refine ai (JC s) ?_
 unfold qy
 cases he:qA s with
 |none=>simp only[tH,↓zq,zs,af,bD,ia];simp
 |
  some e =>
  obtain⟨h1,h2⟩:=nH he
  simp only[tH,↓zq,zs,af,cQ,en]
  refine⟨fun h=>(by cases h),fun _=>?_⟩
  refine ai (CU e [] _ h1 .nil (by simp;omega)) ?_
  cases ht:cN e []with
  |none=>simp only[ia,↓zq,zs,af,bD];simp
  |
   some t =>
   have:=iU e [] t ht
   simp only[ia,↓zq,zs,af,aF,fM]
   refine⟨fun h=>(by cases h),fun _=>?_⟩
   refine ai (D4 t (by omega)) ?_
   simp only[↓zq,zs,af,bD]
   refine⟨fun h=>?_,fun h=>?_⟩
   ·rw[if_pos (by omega)]
   ·rw[if_neg (by omega)]
end Go.Proofs.Trees
namespace Go.Proofs.Trees
open Go Go.VL
def Ba(p:Prop):Nat->List AV->List Ob->Prop:=fun t ys o=>(t=1/\¬p/\ys=[]/\o=[])\/(t=2/\p/\∃j:Nat,ys=[.v (.int .i64 (j:Int))]/\o=[])
theorem Kt(l:List (List UInt8))(a:AV)(ha:dV a l)(s:List UInt8)(hl:l.length<1000000):∀(k i:Nat),i+k=l.length->s∉l.take i->EK [a,.v (.string (mk s)),.v (.int .i64 (l.length:Int)),.v (.int .i64 (i:Int))] []
 (Ba (s∈l))
 |
  0,i,hi,hn=>by
  refine Lh _ _ _ _ ?_
  simp only[Er,↓zq,zs,af]
  have:l.take i=l:=List.take_of_length_le (by omega)
  rw[this]at hn
  exact⟨ha.1,fun h=>by omega,fun _=>.inl ⟨rfl,hn,rfl,rfl⟩⟩
 |
  k+1,i,hi,hn=>by
  have hlt:i<l.length:=by omega
  refine Lh _ _ _ _ ?_
  simp only[Er,↓zq,zs,af,zt,ha.len,ha.idx hlt]
  have hm:l.getD i []∈l:=by simp[aa,hlt]
  refine⟨ha.1,fun _=>⟨⟨ha.1,by omega,by omega⟩,by omega,fun h=>?_,fun h=>?_⟩,fun h=>by omega⟩
  ·exact .inr ⟨rfl,by rw[h];exact hm,i,rfl,rfl⟩
  ·rw[bE i (by omega)]
   refine Kt l a ha s hl k (i+1) (by omega) ?_
   rw[List.take_add_one]
   simp only[aL,not_or]
   refine⟨hn,?_⟩
   have:l[i]?=some (l.getD i []):=by simp[aa,hlt]
   rw[this];simpa using h
theorem J6(l:List (List UInt8))(a:AV)(ha:dV a l)(s:List UInt8)(hl:l.length<1000000):ap Tryz.prog 185 [a,.v (.string (mk s))] [] (bD (.v (.bool (decide (s∈l))))):=by
 have hI:ap Tryz.prog 202 [a,.v (.string (mk s))] [] (fun r o=>∃n:Int,r=.v (.int .i64 n)/\(0<=n↔s∈l)/\o=[]):=by
  refine MZ _ _ ha.1 ?_
  simp only[LN,↓zq,zs,af,ha.len]
  refine⟨ha.1,oI (Kt l a ha s hl l.length 0 (by omega) (by simp)) ?_ ?_⟩
  ·rintro ys o (⟨_,h1,rfl,rfl⟩|⟨h,_⟩)
   ·simp only[↓zq,zs,af]
    exact⟨-1,rfl,⟨fun h=>(by omega),fun h=>absurd h h1⟩⟩
   ·cases h
  ·rintro ys o (⟨h,_⟩|⟨_,h1,j,rfl,rfl⟩)
   ·cases h
   ·simp only[↓zq,zs,af]
    exact⟨j,rfl,⟨fun _=>h1,fun _=>(by omega)⟩⟩
 refine Px _ _ ha.1 ?_
 unfold Je
 refine aO hI ⟨.v (.int .i64 (if s∈l then 0 else -1)),[],_,rfl,by split<;>simp_all,rfl⟩ ?_
 rintro r o ⟨n,rfl,hn,rfl⟩
 simp only[↓zq,zs,af,bD]
 congr 2
 rw[cn];simp[hn]
def pE(out:List (List UInt8)):Ty->List (List UInt8)
 | .name s=>if s∈out then out else out++[s]
 |_=>out
theorem GW(t:Ty)(out:List (List UInt8))(hl:out.length<100000):ap Tryz.prog 189 [t.av,.ref 0 0] [.cells [.vec 1],.vec 1 (cq out)] (dA .any [.cells [.vec 1],.vec 1 (cq (pE out t))]):=by
 refine Pd _ _ ((aF _).mpr trivial) ?_
 have hlen:(cq out).length=out.length:=by simp[cq]
 cases t with
 |
  name s =>
  simp only[EN,Ty.av,↓zq,zs,af,dA,hlen]
  refine⟨by omega,fun _=>⟨by omega,?_⟩,fun h=>absurd rfl h⟩
  refine ai (J6 out _ (.of out) s (by omega)) ?_
  simp only[↓zq,zs,af,pE]
  refine⟨fun h=>⟨by omega,⟨fun c hc=>(by simp at hc;rw[hc];rfl),by omega⟩,?_⟩,fun h=>?_⟩
  ·rw[yR,if_neg h]
  ·rw[if_pos h]
 |_=>simp[EN,Ty.av,↓zq,zs,af,dA,pE]
def bF:Ty->List (List UInt8)->List (List UInt8)
 | .name s,out=>pE out (.name s)
 | .plus a b,out=>bF b (bF a out)
 | .times a b,out=>bF b (bF a out)
 | .rc a,out=>bF a out
 |_,out=>out
theorem eC:∀(t:Ty) (out:List (List UInt8)),(bF t out).length<=out.length+t.aC
 | .name s,out=>by simp only[bF,pE,Ty.aC];split<;>simp
 |
  .plus a b,out=>by
  have:=eC a out
  have:=eC b (bF a out)
  simp only[bF,Ty.aC];omega
 |
  .times a b,out=>by
  have:=eC a out
  have:=eC b (bF a out)
  simp only[bF,Ty.aC];omega
 |
  .rc a,out=>by
  have:=eC a out
  simp only[bF,Ty.aC];omega
 | .zero,out=>by simp[bF]
 | .one,out=>by simp[bF]
 | .bJ u,out=>by simp[bF]
theorem zC:∀(t:Ty) (out:List (List UInt8)),out.length+t.aC<100000->ap Tryz.prog 91 [t.av,.fn 189 [.ref 0 0]] [.cells [.vec 1],.vec 1 (cq out)] (dA .any [.cells [.vec 1],.vec 1 (cq (bF t out))])
 |
  .plus a b,out,hl=>by
  simp only[Ty.aC]at hl
  have:=eC a out
  refine F2 _ _ ((aF _).mpr trivial) ?_
  unfold DU
  refine bc (GW (.plus a b) out (by omega)) ?_
  simp only[Ty.av,↓zq,zs,af,aF,fM,pE,aM,dA]
  refine⟨by omega,fun _=>⟨by omega,?_⟩,fun h=>(by cases h)⟩
  refine bc (zC a out (by omega)) ?_
  simp only[↓zq,zs,af,aF,fM,aM]
  refine⟨by omega,fun _=>⟨by omega,?_⟩,fun h=>(by cases h)⟩
  refine bc (zC b (bF a out) (by omega)) ?_
  simp only[↓zq,zs,af,aM,bF]
 |
  .times a b,out,hl=>by
  simp only[Ty.aC]at hl
  have:=eC a out
  refine F2 _ _ ((aF _).mpr trivial) ?_
  unfold DU
  refine bc (GW (.times a b) out (by omega)) ?_
  simp only[Ty.av,↓zq,zs,af,aF,fM,pE,aM,dA]
  refine⟨by omega,fun _=>⟨by omega,?_⟩,fun h=>(by cases h)⟩
  refine bc (zC a out (by omega)) ?_
  simp only[↓zq,zs,af,aF,fM,aM]
  refine⟨by omega,fun _=>⟨by omega,?_⟩,fun h=>(by cases h)⟩
  refine bc (zC b (bF a out) (by omega)) ?_
  simp only[↓zq,zs,af,aM,bF]
 |
  .rc a,out,hl=>by
  simp only[Ty.aC]at hl
  refine F2 _ _ ((aF _).mpr trivial) ?_
  unfold DU
  refine bc (GW (.rc a) out (by omega)) ?_
  simp only[Ty.av,↓zq,zs,af,aF,fM,pE,aM,dA]
  refine⟨by omega,fun _=>⟨by omega,?_⟩,fun h=>(by cases h)⟩
  refine bc (zC a out (by omega)) ?_
  simp[↓zq,zs,af,aF,fM,aM,bF]
 |
  .name s,out,hl=>by
  refine F2 _ _ ((aF _).mpr trivial) ?_
  unfold DU
  refine bc (GW (.name s) out (by omega)) ?_
  simp[Ty.av,↓zq,zs,af,aM,dA,bF]
 |
  .zero,out,hl=>by
  refine F2 _ _ ((aF _).mpr trivial) ?_
  unfold DU
  refine bc (GW .zero out (by omega)) ?_
  simp[Ty.av,↓zq,zs,af,aM,dA,bF,pE]
 |
  .one,out,hl=>by
  refine F2 _ _ ((aF _).mpr trivial) ?_
  unfold DU
  refine bc (GW .one out (by omega)) ?_
  simp[Ty.av,↓zq,zs,af,aM,dA,bF,pE]
 |
  .bJ u,out,hl=>by
  refine F2 _ _ ((aF _).mpr trivial) ?_
  unfold DU
  refine bc (GW (.bJ u) out (by omega)) ?_
  simp[Ty.av,↓zq,zs,af,aM,dA,bF,pE]
theorem IJ(t:Ty)(hl:t.aC<100000):ap Tryz.prog 165 [t.av] [] (bD (.sl (cq (bF t [])))):=by
 refine PO _ ((aF _).mpr trivial) ?_
 unfold J5
 refine bc (zC t [] (by simpa using hl)) ?_
 simp[↓zq,zs,af,aM,bD]
theorem LQ(l:List (List UInt8))(a:AV)(ha:dV a l)(hl:l.length<1000000):∀(k i:Nat),i+k=l.length->(∀s,s∈l.take i->db s=false)->Gv [a,.v (.func (.func 166) #[] #[]),.v (.int .i64 (l.length:Int)),.v (.int .i64 (i:Int))] []
 (Ba (l.any db=true))
 |
  0,i,hi,hn=>by
  refine JJ _ _ _ ?_
  simp only[FB,↓zq,zs,af]
  have:l.take i=l:=List.take_of_length_le (by omega)
  rw[this]at hn
  exact⟨ha.1,fun h=>by omega,fun _=>.inl ⟨rfl,fun hh=>(by obtain⟨x,hx,hy⟩:=bS.1 hh;rw[hn x hx]at hy;cases hy),rfl,rfl⟩⟩
 |
  k+1,i,hi,hn=>by
  have hlt:i<l.length:=by omega
  refine JJ _ _ _ ?_
  simp only[FB,↓zq,zs,af,zt,ha.len,ha.idx hlt]
  have hm:l.getD i []∈l:=by simp[aa,hlt]
  refine⟨ha.1,fun _=>⟨⟨ha.1,by omega,by omega⟩,by omega,?_⟩,fun h=>by omega⟩
  refine ai (CT _) ?_
  simp only[↓zq,zs,af]
  refine⟨fun h=>?_,fun h=>?_⟩
  ·exact .inr ⟨rfl,bS.2 ⟨_,hm,h⟩,i,rfl,rfl⟩
  ·rw[bE i (by omega)]
   refine LQ l a ha hl k (i+1) (by omega) ?_
   intro s hs
   rw[List.take_add_one]at hs
   have:l[i]?=some (l.getD i []):=by simp[aa,hlt]
   rw[this]at hs
   rcases aL.1 hs with hs|hs
   ·exact hn s hs
   ·simp at hs;rw[hs];simpa using h
theorem Pg(l:List (List UInt8))(a:AV)(ha:dV a l)(hl:l.length<1000000):ap Tryz.prog 164 [a,.v (.func (.func 166) #[] #[])] [] (bD (.v (.bool (l.any db)))):=by
 have hI:ap Tryz.prog 188 [a,.v (.func (.func 166) #[] #[])] [] (fun r o=>∃n:Int,r=.v (.int .i64 n)/\(0<=n↔l.any db=true)/\o=[]):=by
  refine Nk _ ha.1 ?_
  simp only[Ip,↓zq,zs,af,ha.len]
  refine⟨ha.1,oI (LQ l a ha hl l.length 0 (by omega) (by simp)) ?_ ?_⟩
  ·rintro ys o (⟨_,h1,rfl,rfl⟩|⟨h,_⟩)
   ·simp only[↓zq,zs,af]
    exact⟨-1,rfl,⟨fun h=>(by omega),fun h=>absurd h h1⟩⟩
   ·cases h
  ·rintro ys o (⟨h,_⟩|⟨_,h1,j,rfl,rfl⟩)
   ·cases h
   ·simp only[↓zq,zs,af]
    exact⟨j,rfl,⟨fun _=>h1,fun _=>(by omega)⟩⟩
 refine ML _ ha.1 ?_
 unfold Jm
 refine aO hI ⟨.v (.int .i64 (if l.any db=true then 0 else -1)),[],_,rfl,by split<;>simp_all,rfl⟩ ?_
 rintro r o ⟨n,rfl,hn,rfl⟩
 simp only[↓zq,zs,af,bD]
 congr 2
 rw[cn];simp only[decide_eq_true_eq,ge_iff_le,hn]
def Ty.closed(t:Ty):Bool:=!((bF t []).any db)
theorem Nv(t:Ty)(hl:t.aC<100000):ap Tryz.prog 132 [t.av] [] (bD (.v (.bool t.closed))):=by
 refine MI _ ((aF _).mpr trivial) ?_
 unfold Mf
 refine ai (IJ t hl) ?_
 simp only[↓zq,zs,af]
 have:=eC t []
 refine ai (Pg _ _ (.of _) (by simp at this;omega)) ?_
 simp only[↓zq,zs,af,bD,Ty.closed]
def wh(s:List UInt8):Option Ty:=match qy s with
 |none=>none
 |some t=>if t.closed=true then some t else none
theorem sK{s:List UInt8}{t:Ty}(h:qy s=some t):t.aC<=400:=by
 unfold qy at h
 split at h
 ·cases h
 ·split at h
  ·cases h
  ·split at h<;>cases h
   omega
theorem Jo(s:List UInt8):ap Tryz.prog 79 [.v (.string (mk s))] [] (bD (ia (wh s))):=by
 refine Nt _ ?_
 unfold Ko
 refine ai (Gx s) ?_
 unfold wh
 cases ht:qy s with
 |none=>simp[ia,↓zq,zs,af,bD]
 |
  some t =>
  have:=sK ht
  simp only[ia,↓zq,zs,af,aF,fM]
  refine⟨fun h=>(by cases h),fun _=>?_⟩
  refine ai (Nv t (by omega)) ?_
  simp only[↓zq,zs,af,bD]
  refine⟨fun h=>?_,fun h=>?_⟩
  ·rw[if_neg (by rw[h];simp)]
  ·rw[if_pos h]
end Go.Proofs.Trees
namespace Go.Proofs.Trees
open Go Go.VL Go.RowKit
abbrev Nm:=List UInt8
def dy(u:Ty):Ty->Nat->Ty
 | .bJ k,i=>if k=i then u else .bJ k
 | .plus a b,i=>.plus (dy u a i) (dy u b i)
 | .times a b,i=>.times (dy u a i) (dy u b i)
 | .rc a,i=>.rc (dy u a (i+1))
 |t,_=>t
def sub(x:Nm)(u:Ty):Ty->Ty
 | .name s=>if s=x then u else .name s
 | .plus a b=>.plus (sub x u a) (sub x u b)
 | .times a b=>.times (sub x u a) (sub x u b)
 | .rc a=>.rc (sub x u a)
 |t=>t
def bg(x:Nm):Ty->Bool
 | .name s=>decide (s=x)
 | .plus a b=>bg x a||bg x b
 | .times a b=>bg x a||bg x b
 | .rc a=>bg x a
 |_=>false
def jH(f:Nm->Nm):Ty->Ty
 | .name s=>.name (f s)
 | .plus a b=>.plus (jH f a) (jH f b)
 | .times a b=>.times (jH f a) (jH f b)
 | .rc a=>.rc (jH f a)
 |t=>t
def L3(f:Nm->Nm):Prop:=∀x y,f x=f y->x=y
theorem kX(f:Nm->Nm)(x:Nm):∀(t:Ty) (i:Nat),jH f (dy (.name x) t i)=dy (.name (f x)) (jH f t) i
 | .bJ k,i=>by simp only[dy,jH];split<;>rfl
 | .plus a b,i=>by simp only[dy,jH,kX f x a i,kX f x b i]
 | .times a b,i=>by simp only[dy,jH,kX f x a i,kX f x b i]
 | .rc a,i=>by simp only[dy,jH,kX f x a (i+1)]
 | .zero,i=>rfl
 | .one,i=>rfl
 | .name s,i=>rfl
theorem lC{f:Nm->Nm}(hf:L3 f)(x:Nm)(u:Ty):∀t:Ty,jH f (sub x u t)=sub (f x) (jH f u) (jH f t)
 |
  .name s=>by
  simp only[sub,jH]
  by_cases h:s=x
  ·subst h;simp
  ·rw[if_neg h,if_neg fun e=>h (hf _ _ e)];rfl
 | .plus a b=>by simp only[sub,jH,lC hf x u a,lC hf x u b]
 | .times a b=>by simp only[sub,jH,lC hf x u a,lC hf x u b]
 | .rc a=>by simp only[sub,jH,lC hf x u a]
 | .zero=>rfl
 | .one=>rfl
 | .bJ k=>rfl
theorem mK{f:Nm->Nm}(hf:L3 f)(x:Nm):∀t:Ty,bg (f x) (jH f t)=bg x t
 | .name s=>by simp only[bg,jH];rw[cn];simp only[decide_eq_true_eq];exact⟨fun e=>hf _ _ e,fun e=>by rw[e]⟩
 | .plus a b=>by simp only[bg,jH,mK hf x a,mK hf x b]
 | .times a b=>by simp only[bg,jH,mK hf x a,mK hf x b]
 | .rc a=>by simp only[bg,jH,mK hf x a]
 | .zero=>rfl
 | .one=>rfl
 | .bJ k=>rfl
theorem gN(f:Nm->Nm):∀t:Ty,(jH f t).aC=t.aC
 | .plus a b=>by simp only[Ty.aC,jH,gN f a,gN f b]
 | .times a b=>by simp only[Ty.aC,jH,gN f a,gN f b]
 | .rc a=>by simp only[Ty.aC,jH,gN f a]
 | .name s=>rfl
 | .zero=>rfl
 | .one=>rfl
 | .bJ k=>rfl
theorem pB{f:Nm->Nm}:∀t:Ty,(∀x,bg x t=true->f x=x)->jH f t=t
 | .name s,h=>by simp only[jH];rw[h s (by simp[bg])]
 | .plus a b,h=>by simp only[jH];rw[pB a fun x hx=>h x (by simp[bg,hx]),pB b fun x hx=>h x (by simp[bg,hx])]
 | .times a b,h=>by simp only[jH];rw[pB a fun x hx=>h x (by simp[bg,hx]),pB b fun x hx=>h x (by simp[bg,hx])]
 | .rc a,h=>by simp only[jH];rw[pB a fun x hx=>h x hx]
 | .zero,_=>rfl
 | .one,_=>rfl
 | .bJ k,_=>rfl
theorem fJ(x:Nm):∀(t:Ty) (i:Nat),(dy (.name x) t i).aC=t.aC
 | .bJ k,i=>by simp only[dy];split<;>rfl
 | .plus a b,i=>by simp only[dy,Ty.aC,fJ x a i,fJ x b i]
 | .times a b,i=>by simp only[dy,Ty.aC,fJ x a i,fJ x b i]
 | .rc a,i=>by simp only[dy,Ty.aC,fJ x a (i+1)]
 | .zero,i=>rfl
 | .one,i=>rfl
 | .name s,i=>rfl
theorem ep(t:Ty):1<=t.aC:=by cases t<;>simp only[Ty.aC]<;>omega
theorem gT(x:Nm)(u:Ty):∀t:Ty,t.aC<=(sub x u t).aC
 | .name s=>by simp only[sub];split<;>simp only[Ty.aC];exact ep u;omega
 | .plus a b=>by have:=gT x u a;have:=gT x u b;simp only[sub,Ty.aC];omega
 | .times a b=>by have:=gT x u a;have:=gT x u b;simp only[sub,Ty.aC];omega
 | .rc a=>by have:=gT x u a;simp only[sub,Ty.aC];omega
 | .zero=>aq _
 | .one=>aq _
 | .bJ k=>aq _
theorem gA{x y:Nm}:∀(t:Ty) (i:Nat),bg y (dy (.name x) t i)=true->y=x\/bg y t=true
 |
  .bJ k,i,h=>by
  simp only[dy]at h
  split at h
  ·left;simp only[bg,decide_eq_true_eq]at h;exact h.symm
  ·cases h
 |
  .plus a b,i,h=>by
  simp only[dy,bg,bo]at h |-
  rcases h with h|h
  ·rcases gA a i h with h|h<;>simp[h]
  ·rcases gA b i h with h|h<;>simp[h]
 |
  .times a b,i,h=>by
  simp only[dy,bg,bo]at h |-
  rcases h with h|h
  ·rcases gA a i h with h|h<;>simp[h]
  ·rcases gA b i h with h|h<;>simp[h]
 | .rc a,i,h=>gA a (i+1) h
 | .zero,i,h=>by cases h
 | .one,i,h=>by cases h
 | .name s,i,h=>.inr h
theorem i6{x y:Nm}{u:Ty}:∀t:Ty,bg y (sub x u t)=true->bg y u=true\/(y≠x/\bg y t=true)
 |
  .name s,h=>by
  simp only[sub]at h
  split at h
  ·exact .inl h
  ·rename_i hs
   simp only[bg,decide_eq_true_eq]at h
   subst h
   exact .inr ⟨hs,by simp[bg]⟩
 |
  .plus a b,h=>by
  simp only[sub,bg,bo]at h |-
  rcases h with h|h
  ·rcases i6 a h with h|h<;>simp[h]
  ·rcases i6 b h with h|h<;>simp[h]
 |
  .times a b,h=>by
  simp only[sub,bg,bo]at h |-
  rcases h with h|h
  ·rcases i6 a h with h|h<;>simp[h]
  ·rcases i6 b h with h|h<;>simp[h]
 |
  .rc a,h=>by
  simp only[sub,bg]at h |-
  exact i6 a h
 | .zero,h=>by cases h
 | .one,h=>by cases h
 | .bJ k,h=>by cases h
def swp(x y:Nm):Nm->Nm:=fun s=>if s=x then y else if s=y then x else s
theorem xT(x y:Nm):L3 (swp x y):=by
 intro a b h
 unfold swp at h
 by_cases h1:a=x<;>by_cases h2:a=y<;>by_cases h3:b=x<;>by_cases h4:b=y<;>simp_all
theorem uU(x y:Nm):swp x y x=y:=by simp[swp]
theorem BE{x y s:Nm}(h:s≠x)(h':s≠y):swp x y s=s:=by simp[swp,h,h']
theorem tT{x y:Nm}{t:Ty}(h:bg x t=false)(h':bg y t=false):jH (swp x y) t=t :=
 pB t fun z hz=>BE (fun e=>by subst e;rw[h]at hz;cases hz) (fun e=>by subst e;rw[h']at hz;cases hz)
def pg(a:Ty)(x:Nm)(c d:Ty):Ty:=.rc (.plus (sub x (.rc a) c) (.times (sub x (.rc a) d) (.bJ 0)))
inductive Dv:Ty->Nm->Ty->Prop
 |zero (s):Dv .zero s .zero
 |one (s):Dv .one s .zero
 |bJ (k s):Dv (.bJ k) s .zero
 |hit (s):Dv (.name s) s .one
 |qf {n s} (h:n≠s):Dv (.name n) s .zero
 |plus {a b s a' b'} (h1:Dv a s a') (h2:Dv b s b') (hl:(Ty.plus a' b').aC<=400):Dv (.plus a b) s (.plus a' b')
 |times {a b s a' b'} (h1:Dv a s a') (h2:Dv b s b') (hl:(Ty.plus (.times a' b) (.times a b')).aC<=400):Dv (.times a b) s (.plus (.times a' b) (.times a b'))
 |rc {a s c d} (x:Nm) (hx:bg x a=false) (hs:x≠s) (h1:Dv (dy (.name x) a 0) s c) (h2:Dv (dy (.name x) a 0) x d) (hl:(pg a x c d).aC<=400):Dv (.rc a) s (pg a x c d)
theorem xM{f:Nm->Nm}(hf:L3 f)(a:Ty)(x:Nm)(c d:Ty):jH f (pg a x c d)=pg (jH f a) (f x) (jH f c) (jH f d):=by
 simp only[pg,jH,lC hf]
theorem Dv.jH{f:Nm->Nm}(hf:L3 f){t d:Ty}{s:Nm}(h:Dv t s d):Dv (jH f t) (f s) (jH f d):=by
 induction h with
 |zero s=>exact .zero _
 |one s=>exact .one _
 |bJ k s=>exact .bJ _ _
 |hit s=>exact .hit _
 |qf h=>exact .qf fun e=>h (hf _ _ e)
 |plus h1 h2 hl i1 i2=>exact .plus i1 i2 (by rw[<-gN f]at hl;exact hl)
 |times h1 h2 hl i1 i2=>exact .times i1 i2 (by rw[<-gN f]at hl;exact hl)
 |
  rc x hx hs h1 h2 hl i1 i2 =>
  rw[xM hf]
  rw[kX]at i1 i2
  exact .rc (f x) (by rw[mK hf];exact hx) (fun e=>hs (hf _ _ e)) i1 i2 (by rw[<-xM hf,gN];exact hl)
theorem Dv.names{t d:Ty}{s:Nm}(h:Dv t s d):∀y,bg y d=true->bg y t=true:=by
 induction h with
 |zero s=>intro y hy;cases hy
 |one s=>intro y hy;cases hy
 |bJ k s=>intro y hy;cases hy
 |hit s=>intro y hy;cases hy
 |qf h=>intro y hy;cases hy
 |
  plus h1 h2 hl i1 i2 =>
  intro y hy
  simp only[bg,bo]at hy |-
  rcases hy with hy|hy
  ·exact .inl (i1 y hy)
  ·exact .inr (i2 y hy)
 |
  times h1 h2 hl i1 i2 =>
  intro y hy
  simp only[bg,bo]at hy |-
  rcases hy with(hy|hy)|(hy|hy)
  ·exact .inl (i1 y hy)
  ·exact .inr hy
  ·exact .inl hy
  ·exact .inr (i2 y hy)
 |
  rc x hx hs h1 h2 hl i1 i2 =>
  intro y hy
  simp only[pg,bg,bo,Bool.or_false]at hy |-
  have key:∀{a c:Ty},(∀y,bg y c=true->bg y (dy (.name x) a 0)=true)->bg y (sub x (.rc a) c)=true->bg y a=true:=fun i h=>by
   rcases i6 _ h with h|⟨h,h'⟩
   ·exact h
   ·rcases gA _ _ (i y h')with e|e
    ·exact absurd e h
    ·exact e
  rcases hy with hy|hy
  ·exact key i1 hy
  ·exact key i2 hy
theorem Dv.fresh{t d:Ty}{s y:Nm}(h:Dv t s d)(hy:bg y t=false):bg y d=false:=by
 cases e:bg y d with
 |false=>rfl
 |true=>rw[h.names y e]at hy;cases hy
theorem Dv.move{a c:Ty}{x y s:Nm}(hx:bg x a=false)(hy:bg y a=false)(h:Dv (dy (.name x) a 0) s c):Dv (dy (.name y) a 0) (swp x y s) (Go.Proofs.Trees.jH (swp x y) c):=by
 have:=h.jH (xT x y)
 rw[kX,uU,tT hx hy]at this
 exact this
theorem mw{a c:Ty}{x y s:Nm}(hx:bg x a=false)(hy:bg y a=false)(h:Dv (dy (.name x) a 0) s c):sub y (.rc a) (jH (swp x y) c)=sub x (.rc a) c:=by
 have e:=lC (xT x y) x (.rc a) c
 rw[uU,tT (t:=.rc a) hx hy]at e
 rw[<-e]
 have key:∀z,(z=x\/z=y)->bg z (sub x (.rc a) c)=false:=fun z hz=>by
  cases q:bg z (sub x (.rc a) c)with
  |false=>rfl
  |
   true =>
   exfalso
   have hz':bg z a=false:=by rcases hz with rfl|rfl<;>assumption
   rcases i6 _ q with h1|⟨h1,h2⟩
   ·rw[show bg z (.rc a)=bg z a from rfl,hz']at h1;cases h1
   ·rcases gA _ _ (h.names z h2)with e|e
    ·exact h1 e
    ·rw[hz']at e;cases e
 exact tT (key x (.inl rfl)) (key y (.inr rfl))
theorem Dv.wi:∀(n:Nat) (t:Ty),t.aC<=n->∀{s:Nm} {d d':Ty},Dv t s d->Dv t s d'->d=d'
 |0,t,h,_,_,_,_,_=>by have:=ep t;omega
 |
  n+1,t,hn,s,d,d',h,h'=>by
  cases h with
  |zero=>cases h';rfl
  |one=>cases h';rfl
  |bJ=>cases h';rfl
  |
   hit =>
   cases h' with
   |hit=>rfl
   |qf h=>exact absurd rfl h
  |
   qf h =>
   cases h' with
   |hit=>exact absurd rfl h
   |qf _=>rfl
  |
   plus h1 h2 =>
   simp only[Ty.aC]at hn
   cases h' with
   |plus g1 g2=>rw[Dv.wi n _ (by omega) h1 g1,Dv.wi n _ (by omega) h2 g2]
  |
   times h1 h2 =>
   simp only[Ty.aC]at hn
   cases h' with
   |times g1 g2=>rw[Dv.wi n _ (by omega) h1 g1,Dv.wi n _ (by omega) h2 g2]
  |
   rc x hx hs h1 h2 =>
   simp only[Ty.aC]at hn
   cases h' with
   |
    rc y hy hs' g1 g2 =>
    rename_i a _ _ _ _ _ _
    have m1:=h1.move hx hy
    have m2:=h2.move hx hy
    rw[BE (Ne.symm hs) (Ne.symm hs')]at m1
    rw[uU]at m2
    have e1:=Dv.wi n _ (by rw[fJ];omega) m1 g1
    have e2:=Dv.wi n _ (by rw[fJ];omega) m2 g2
    rw[pg,pg,<-e1,<-e2,mw hx hy h1,mw hx hy h2]
theorem Dv.small{t d:Ty}{s:Nm}(h:Dv t s d):d.aC<=400:=by
 cases h<;>first|assumption|simp[Ty.aC]
open Classical in
noncomputable def lf (t:Ty) (s:Nm):Option Ty:=if h:∃d,Dv t s d then some (Classical.choose h)else none
theorem cK{t:Ty}{s:Nm}{d:Ty}:lf t s=some d↔Dv t s d:=by
 unfold lf
 by_cases h:∃d,Dv t s d
 ·rw[dif_pos h]
  have:=Classical.choose_spec h
  constructor
  ·intro e;cases e;exact this
  ·intro g;rw[Dv.wi _ t (aq _) this g]
 ·rw[dif_neg h]
  exact⟨fun e=>(by cases e),fun g=>absurd ⟨d,g⟩ h⟩
def nl(t:Ty):Option Ty:=if t.aC<=400 then some t else none
theorem eJ{t d:Ty}:nl t=some d↔t.aC<=400/\t=d:=by
 unfold nl
 split
 ·rename_i h;simp[h]
 ·rename_i h;simp[h]
theorem ql{α:Type}{a b:Option α}(h:∀d,a=some d↔b=some d):a=b:=by
 cases a with
 |
  none=>cases b with
  |none=>rfl
  |some x=>have:=(h x).2 rfl;cases this
 |some x=>exact((h x).1 rfl).symm
theorem uB(s:Nm):lf .zero s=some .zero:=cK.2 (.zero _)
theorem yl(s:Nm):lf .one s=some .zero:=cK.2 (.one _)
theorem zD(k:Nat)(s:Nm):lf (.bJ k) s=some .zero:=cK.2 (.bJ _ _)
theorem n8(n s:Nm):lf (.name n) s=some (if n=s then .one else .zero):=by
 split
 ·rename_i h;subst h;exact cK.2 (.hit _)
 ·rename_i h;exact cK.2 (.qf h)
theorem vC(a b:Ty)(s:Nm):lf (.plus a b) s=(lf a s).bind fun a'=>(lf b s).bind fun b'=>nl (.plus a' b'):=by
 refine ql fun d=>?_
 rw[cK]
 simp only[a6,cK,eJ]
 constructor
 ·intro h;cases h with|plus h1 h2 hl=>exact⟨_,h1,_,h2,hl,rfl⟩
 ·rintro⟨a',h1,b',h2,hl,rfl⟩;exact .plus h1 h2 hl
theorem sX(a b:Ty)(s:Nm):lf (.times a b) s=(lf a s).bind fun a'=>(lf b s).bind fun b'=>nl (.plus (.times a' b) (.times a b')):=by
 refine ql fun d=>?_
 rw[cK]
 simp only[a6,cK,eJ]
 constructor
 ·intro h;cases h with|times h1 h2 hl=>exact⟨_,h1,_,h2,hl,rfl⟩
 ·rintro⟨a',h1,b',h2,hl,rfl⟩;exact .times h1 h2 hl
theorem A5{a:Ty}{s x:Nm}(hx:bg x a=false)(hs:x≠s):lf (.rc a) s=(lf (dy (.name x) a 0) s).bind fun c=>(lf (dy (.name x) a 0) x).bind fun d=>nl (pg a x c d):=by
 refine ql fun d=>?_
 rw[cK]
 simp only[a6,cK,eJ]
 constructor
 ·intro h
  cases h with
  |
   rc y hy hs' h1 h2 hl =>
   have m1:=h1.move hy hx
   have m2:=h2.move hy hx
   rw[BE (Ne.symm hs') (Ne.symm hs)]at m1
   rw[uU]at m2
   refine⟨_,m1,_,m2,?_⟩
   have e:∀c d,sub x (.rc a) (jH (swp y x) c)=sub y (.rc a) c->sub x (.rc a) (jH (swp y x) d)=sub y (.rc a) d->pg a x (jH (swp y x) c) (jH (swp y x) d)=pg a y c d:=fun c d e1 e2=>by rw[pg,pg,e1,e2]
   rw[e _ _ (mw hy hx h1) (mw hy hx h2)]
   exact⟨hl,rfl⟩
 ·rintro⟨c,h1,d',h2,hl,rfl⟩;exact .rc x hx hs h1 h2 hl
noncomputable def nN (a:Ty) (x:Nm):Option Ty:=(lf (dy (.name x) a 0) x).bind fun d=>nl (sub x (.rc a) d)
theorem ET{a:Ty}{x y:Nm}(hx:bg x a=false)(hy:bg y a=false):nN a x=nN a y:=by
 have key:∀{x y:Nm} {d:Ty},bg x a=false->bg y a=false->nN a x=some d->nN a y=some d:=fun {x y d} hx hy h=>by
  simp only[nN,a6,cK,eJ]at h |-
  obtain⟨d',h1,hl,rfl⟩:=h
  have m1:=h1.move hx hy
  rw[uU]at m1
  exact⟨_,m1,by rw[mw hx hy h1];exact⟨hl,rfl⟩⟩
 exact ql fun d=>⟨key hx hy,key hy hx⟩
end Go.Proofs.Trees
namespace Go.Proofs.Trees
open Go Go.VL
theorem PM(b:UInt8):ap Tryz.prog 172 [.v (.int .u8 (b.toNat:Int))] [] (bD (.v (.bool (eZ b)))):=by
 refine Ph _ ?_
 simp only[J7,↓zq,zs,af,bD,eZ]
 repeat' (apply aH<;>intro _)
 all_goals first|(congr 2;rw[cn];simp;omega)|(congr 2;simp;omega)
def CS(s:List UInt8)(x:Option (E×List UInt8)):AV->List Ob->Prop:=fun r o=>o=[] /\
 match x with
 |some (e,u)=>r=.cA [e.km,.v (.int .i64 ((s.length-u.length:Nat):Int))]
 |none=>∃(c:List UInt8) (d:AV),LK.sl.has d/\r=.cA [.agg [.v (.string (mk c)),d],.v (.int .i64 (-1))]
theorem CS.ne(s:List UInt8)(x:Option (E×List UInt8)):∃r o,CS s x r o:=by
 cases x with
 |some q=>exact⟨_,_,rfl,rfl⟩
 |none=>exact⟨_,_,rfl,[],.v (.slice none 0 0),(bu).mpr trivial,rfl⟩
def jc(c:List UInt8)(d:AV):Ob:=.cells [.v (.string (mk c)),d]
theorem JW(s:List UInt8)(hs:s.length<=8000)(from_:Int)(c1 c2:List UInt8)(d1 d2:AV)(h1:LK.sl.has d1)(h2:LK.sl.has d2):∀(k i:Nat),i+k=s.length->GN [.v (.string (mk s)),.v (.int .i64 (i:Int)),.v (.int .i64 from_)] [jc c1 d1,jc c2 d2]
 (iF 1 [.v (.string (mk s)),.v (.int .i64 ((i+((s.drop i).takeWhile eZ).length:Nat):Int)),.v (.int .i64 from_)] [jc c1 d1,jc c2 d2])
 |
  0,i,hi=>by
  refine J8 _ _ _ _ _ _ _ ?_
  have hd:s.drop i=[]:=bM (by omega)
  simp only[EU,↓zq,zs,af,zt]
  exact⟨h1,h2,fun h=>by omega,fun _=>by simp[iF,hd,jc]⟩
 |
  k+1,i,hi=>by
  have hlt:i<s.length:=by omega
  refine J8 _ _ _ _ _ _ _ ?_
  simp only[EU,↓zq,zs,af,zt,lU s i hlt]
  refine⟨h1,h2,fun _=>⟨by omega,?_⟩,fun h=>by omega⟩
  refine ai (PM _) ?_
  simp only[↓zq,zs,af]
  refine⟨fun hb=>?_,fun hb=>?_⟩
  ·rw[bE i (by omega)]
   have:=JW s hs from_ c1 c2 d1 d2 h1 h2 k (i+1) (by omega)
   rw[xm hlt hb,show i+(((s.drop (i+1)).takeWhile eZ).length+1)=i+1+((s.drop (i+1)).takeWhile eZ).length by omega]
   exact this
  ·simp[iF,qB hlt hb,jc]
def P1(s:List UInt8)(x:Option (E×List UInt8)):Nat->List AV->List Ob->Prop:=fun t ys o=>t=2 /\
 match x with
 |some (e,u)=>∃l,e=.list l/\ys=[.v (.int .i64 ((s.length-u.length:Nat):Int))]/\o=[jc [] .any,.vec 2 (E.bj l)]
 |none=>∃es,ys=[.v (.int .i64 (-1))]/\o=[jc [] .any,.vec 2 es]
theorem yg(e:E):(e.km=.agg e.km.cs/\e.km.cs.length=2/\bz [.str,.sl] e.km.cs 0)=True:=by
 apply eq_true
 cases e<;>simp[E.km,E.ic,AM,bz,dI,bu,cd]
theorem wb(e:E):[AV.v (.string ((e.km.cs.getD 0 .any).ag)),e.km.cs.getD 1 .any]=e.ic:=by
 cases e<;>rfl
theorem drop_cons{s:List UInt8}{j:Nat}(hj:j<s.length):s.drop j=s.getD j 0::s.drop (j+1):=by
 rw[aY hj];simp[aa,hj]
theorem Kc(s:List UInt8)(hs:s.length<=8000)(d:Nat)(hd:d<=300)(f:List UInt8->Option (E×List UInt8))(hf:∀u e r,f u=some (e,r)->∃j,r=u.drop j/\0<j/\j<=u.length)
 (ih:∀j,j<=s.length->ap Tryz.prog 137 [.v (.string (mk s)),.v (.int .i64 (j:Int)),.v (.int .i64 ((d+1:Nat):Int))] [] (CS s (f (s.drop j)))) :
 ∀(n i:Nat) (acc:List E) (c1:List UInt8) (d1:AV),LK.sl.has d1->s.length-(i+1)<n->i<s.length->s.length-i+acc.length<=8001->Fm [.v (.string (mk s)),.v (.int .i64 (i:Int)),.v (.int .i64 (d:Int))] [jc c1 d1,jc [] .any,.vec 2 (E.bj acc)]
  (P1 s (rQ f n (s.drop (i+1)) acc))
 |0,i,acc,c1,d1,h1,hn,_,_=>by omega
 |
  n+1,i,acc,c1,d1,h1,hn,hi,hl=>by
  refine Oc _ _ _ _ _ _ _ ?_
  simp only[Ku,↓zq,zs,af,jc]
  refine⟨h1,?_⟩
  rw[bE i (by omega),bE d (by omega)]
  refine aO (ih (i+1) (by omega)) (CS.ne _ _) ?_
  rintro r o ⟨rfl,hr⟩
  have hff:=hf (s.drop (i+1))
  unfold rQ
  cases hq:f (s.drop (i+1))with
  |
   none =>
   rw[hq]at hr
   obtain⟨c,d',hd',rfl⟩:=hr
   simp only[↓zq,zs,af,zt,bz]
   refine⟨hd',fun _=>⟨rfl,_,rfl,rfl⟩,fun h=>by omega⟩
  |
   some q =>
   obtain⟨e,u⟩:=q
   rw[hq]at hr
   subst hr
   obtain⟨j,hu,hj0,hj⟩:=hff e u hq
   rw[List.drop_drop]at hu
   simp only[cg]at hj
   have hul:u.length=s.length-(i+1+j):=by rw[hu,cg]
   have hpos:s.length-u.length=i+1+j:=by omega
   simp only[↓zq,zs,af,zt,yg,hpos,wb,ei]
   refine⟨fun h=>by omega,fun _=>⟨fun h=>?_,fun h=>⟨⟨fun c hc=>(by simp at hc;rw[hc];cases e<;>rfl),by omega⟩,?_⟩⟩⟩
   ·have:u=[]:=by rw[hu];exact bM (by omega)
    subst this
    exact⟨rfl,_,rfl,rfl⟩
   ·have hlt:i+1+j<s.length:=by omega
    rw[drop_cons hlt]at hu
    subst hu
    rw[lU s _ hlt]
    generalize hb:s.getD (i+1+j) 0=b
    refine⟨by omega,fun h41=>?_,fun h41=>⟨by omega,fun h32=>?_,fun h32=>?_⟩⟩
    ·have h41':b.toNat=41:=by omega
     dsimp only
     rw[if_pos h41',bE _ (by omega)]
     refine⟨rfl,acc++[e],rfl,?_,?_⟩
     ·rw[cg];congr 3;omega
     ·simp[jc,p5,E.bj]
    ·have h41':¬b.toNat=41:=by omega
     have h32':¬b.toNat=32:=by omega
     dsimp only
     rw[if_neg h41',if_neg h32']
     exact⟨rfl,_,rfl,rfl⟩
    ·have h41':¬b.toNat=41:=by omega
     have h32':b.toNat=32:=by omega
     dsimp only
     rw[if_neg h41',if_pos h32']
     have:=Kc s hs d hd f hf ih n (i+1+j) (acc++[e]) c1 d1 h1 (by omega) hlt (by simp;omega)
     simpa[jc,p5,E.bj]using this
theorem Dr(k:Nat)(u:List UInt8)(e:E)(r:List UInt8)(h:rd k u=some (e,r)):∃j,r=u.drop j/\0<j/\j<=u.length:=by
 have suf:∀(k:Nat) (u:List UInt8) (e:E) (r:List UInt8),rd k u=some (e,r)->r <:+ u:=by
  intro k
  have tw:∀u:List UInt8,u.dropWhile eZ <:+ u:=fun u=>List.dropWhile_suffix _
  have ll:∀(f:List UInt8->Option (E×List UInt8)),(∀u e r,f u=some (e,r)->r <:+ u)->∀(n:Nat) (u:List UInt8) (acc:List E) (e:E) (r:List UInt8),rQ f n u acc=some (e,r)->r <:+ u:=by
   intro f hf n
   induction n with
   |zero=>intro u acc e r h;cases h
   |
    succ n ih =>
    intro u acc e r h
    simp only[rQ]at h
    split at h
    ·rename_i p c r' hs
     have h1:r' <:+ u:=(List.suffix_cons c r').trans (hf _ _ _ hs)
     split at h
     ·cases h;exact h1
     ·split at h
      ·exact(ih _ _ _ _ h).trans h1
      ·cases h
    ·cases h
  induction k with
  |
   zero =>
   intro u e r h
   simp only[rd]at h
   split at h
   ·cases h
   ·cases h;exact tw u
  |
   succ k ih =>
   intro u e r h
   simp only[rd]at h
   split at h
   ·split at h
    ·split at h
     ·exact(ll _ ih _ _ _ _ _ h).trans (List.suffix_cons _ _)
     ·cases h
    ·cases h
   ·cases h;exact tw u
 obtain⟨p,hp⟩:=suf k u e r h
 have hlt:=w6 k u e r h
 have:=congrArg List.length hp
 simp only[an]at this
 exact⟨p.length,by rw[<-hp];simp,by omega,by omega⟩
theorem A1(n:Nat)(u:List UInt8)(acc:List E):rQ (fun _=>none) n u acc=none:=by
 cases n<;>rfl
theorem N6(s:List UInt8)(j:Nat):ap Tryz.prog 137 [.v (.string (mk s)),.v (.int .i64 (j:Int)),.v (.int .i64 ((300+1:Nat):Int))] [] (CS s none):=by
 refine HR _ _ _ ?_
 simp only[EL,↓zq,zs,af]
 exact⟨fun _=>⟨rfl,[],_,(bu).mpr trivial,rfl⟩,fun h=>by omega⟩
theorem pP(s:List UInt8)(hs:s.length<=8000)(d i:Nat)(hd:d<=300)(hi:i<=s.length)(f:List UInt8->Option (E×List UInt8))(hf:∀u e r,f u=some (e,r)->∃j,r=u.drop j/\0<j/\j<=u.length)
 (ih:∀j,j<=s.length->ap Tryz.prog 137 [.v (.string (mk s)),.v (.int .i64 (j:Int)),.v (.int .i64 ((d+1:Nat):Int))] [] (CS s (f (s.drop j)))) (x:Option (E×List UInt8))
 (h0:i=s.length->x=none)
 (h1:i<s.length->(s.drop i).takeWhile eZ≠[]->x=some (.atom ((s.drop i).takeWhile eZ),(s.drop i).dropWhile eZ))
 (h2:i<s.length->(s.drop i).takeWhile eZ=[]->¬(s.getD i 0).toNat=40->x=none)
 (h3:i<s.length->(s.getD i 0).toNat=40->x=rQ f (s.length-(i+1)+1) (s.drop (i+1)) []) :
 ap Tryz.prog 137 [.v (.string (mk s)),.v (.int .i64 (i:Int)),.v (.int .i64 (d:Int))] [] (CS s x):=by
 refine HR _ _ _ ?_
 simp only[EL,↓zq,zs,af,zt]
 refine⟨fun h=>by omega,fun _=>⟨fun h=>?_,fun h=>⟨by omega,?_⟩⟩⟩
 ·rw[h0 (by omega)]
  exact⟨rfl,[],_,(bu).mpr trivial,rfl⟩
 ·have hlt:i<s.length:=by omega
  rw[lU s i hlt]
  refine⟨fun h40=>?_,fun h40=>?_⟩
  ·have h40':¬(s.getD i 0).toNat=40:=by omega
   refine cw (JW s hs _ [] [] _ _ ((bu).mpr trivial) ((bu).mpr trivial) (s.length-i) i (by omega)) ?_
   have hex:(List.take (i+((s.drop i).takeWhile eZ).length) s).drop i=(s.drop i).takeWhile eZ:=by
    rw[List.drop_take,Nat.add_sub_cancel_left];exact tL _
   have hle:i+((s.drop i).takeWhile eZ).length<=s.length:=by
    have:=tz (s.drop i);simp only[cg]at this;omega
   simp only[jc,↓zq,zs,af,zt,hex]
   refine⟨by omega,fun hnil=>?_,fun hnil=>?_⟩
   ·rw[h2 hlt hnil h40',hnil]
    exact⟨rfl,[],_,(bu).mpr trivial,rfl⟩
   ·rw[h1 hlt hnil]
    refine⟨rfl,?_⟩
    have:=tz (s.drop i)
    simp only[cg]at this
    show _=AV.cA [E.km (.atom _),_]
    have e:s.length-((s.drop i).dropWhile eZ).length=i+((s.drop i).takeWhile eZ).length:=by omega
    rw[e];rfl
  ·have h40':(s.getD i 0).toNat=40:=by omega
   rw[h3 hlt h40']
   refine oI (Kc s hs d hd f hf ih (s.length-(i+1)+1) i [] [] _ ((bu).mpr trivial) (by omega) hlt (by simp;omega)) ?_ ?_
   ·rintro ys o ⟨h,_⟩;cases h
   ·rintro ys o ⟨_,hr⟩
    cases hq:rQ f (s.length-(i+1)+1) (s.drop (i+1)) []with
    |
     none =>
     rw[hq]at hr
     obtain⟨es,rfl,rfl⟩:=hr
     simp only[jc,↓zq,zs,af]
     exact⟨rfl,[],_,(cd _).mpr trivial,rfl⟩
    |
     some q =>
     obtain⟨e,u⟩:=q
     rw[hq]at hr
     obtain⟨l,rfl,rfl,rfl⟩:=hr
     simp only[jc,↓zq,zs,af]
     exact⟨rfl,rfl⟩
theorem MX(s:List UInt8)(hs:s.length<=8000):∀(k:Nat),k<=300->∀i,i<=s.length->ap Tryz.prog 137 [.v (.string (mk s)),.v (.int .i64 (i:Int)),.v (.int .i64 ((300-k:Nat):Int))] [] (CS s (rd k (s.drop i))):=by
 intro k
 have hnil:∀k,rd k []=none:=fun k=>by cases k<;>simp[rd]
 have ha40:∀b:UInt8,b.toNat=40->eZ b=false:=fun b hb=>by simp[eZ,hb]
 induction k with
 |
  zero =>
  intro hk i hi
  refine pP s hs 300 i (by omega) hi (fun _=>none) (fun _ _ _ h=>by cases h) (fun j _=>N6 s j) _ (fun h=>?_) (fun hlt h=>?_) (fun hlt h h40=>?_) (fun hlt h40=>?_)
  ·rw[bM (by omega)];exact hnil 0
  ·simp only[rd,if_neg h]
  ·simp only[rd,if_pos h]
  ·rw[A1]
   have:(s.drop i).takeWhile eZ=[]:=qB hlt (ha40 _ h40)
   simp only[rd,if_pos this]
 |
  succ k ih =>
  intro hk i hi
  have hd:300-(k+1)+1=300-k:=by omega
  refine pP s hs (300-(k+1)) i (by omega) hi (rd k) (Dr k) (fun j hj=>by rw[hd];exact ih (by omega) j hj) _ (fun h=>?_) (fun hlt h=>?_) (fun hlt h h40=>?_) (fun hlt h40=>?_)
  ·rw[bM (by omega)];exact hnil _
  ·simp only[rd,if_neg h]
  ·rw[drop_cons hlt]at h |-
   simp only[rd,if_pos h,if_neg h40]
  ·have h:=qB hlt (ha40 _ h40)
   rw[drop_cons hlt]at h |-
   simp only[rd,if_pos h,if_pos h40,cg]
end Go.Proofs.Trees
namespace Go.Proofs.Trees
open Go Go.VL
theorem iS(e:E):AV.agg [.v (.string ((e.ic.getD 0 .any).ag)),e.ic.getD 1 .any]=e.km:=by cases e<;>rfl
theorem gj(e:E):e.ic.length=2:=by cases e<;>rfl
theorem iV(e:E):bz [.str,.sl] e.ic 0=True:=by
 apply eq_true
 cases e<;>simp[E.ic,bz,dI,bu,cd]
theorem mI(e:E):e.ic.headD .any=.v (.string (mk e.at)):=by cases e<;>rfl
theorem uw(x:E)(l:List E):ap Tryz.prog 90 [.agg [.v (.string (mk [])),.sl (E.bj (x::l))]] [] (bD (.v (.string (mk x.at)))):=by
 refine Fj _ _ ((cd _).mpr trivial) ?_
 simp only[Du,E.bj,↓zq,zs,af,zt,bD,gj,mI,aq]
 refine⟨fun h=>absurd rfl h,fun _=>⟨fun h=>by omega,fun _=>⟨by omega,by omega⟩⟩⟩
theorem MQ:ap Tryz.prog 90 [.agg [.v (.string (mk [])),.sl (E.bj [])]] [] (bD (.v (.string (mk [])))):=by
 refine Fj _ _ ((cd _).mpr trivial) ?_
 simp only[Du,E.bj,↓zq,zs,af,zt,bD,gj,mI,aq]
 simp
def j1:E->Bool
 | .atom s=>(s==[48])||(s==[49])||gV s||db s
 | .list [x,a,b]=>if x.at=[43]then j1 a&&j1 b else if x.at=[42]then j1 a&&j1 b else if x.at=[114,101,99]then db a.at&&j1 b else false
 | .list _=>false
theorem zm:∀(e:E),e.ok->ap Tryz.prog 136 [e.km] [] (bD (.v (.bool (j1 e))))
 |
  .atom s,hok=>by
  refine LG _ _ ((bu).mpr trivial) ?_
  have hne:s≠[]:=hok
  simp only[wV,↓zq,zs,af,zt,bD,j1]
  refine⟨fun _=>⟨fun h=>?_,fun h=>⟨fun h1=>?_,fun h1=>?_⟩⟩,fun h=>absurd h hne⟩
  ·simp[h]
  ·simp[h1]
  ·refine ai (EY s) ?_
   simp only[↓zq,zs,af]
   refine⟨fun hp=>?_,fun hp=>?_⟩
   ·simp[hp]
   ·refine ai (FV s) ?_
    simp[↓zq,zs,af,hp,h,h1]
 |
  .list l,hok=>by
  refine LG _ _ ((cd _).mpr trivial) ?_
  match l,hok with
  |[],hok=>simp[wV,E.bj,↓zq,zs,af,zt,bD,j1]
  |[x],hok=>simp[wV,E.bj,↓zq,zs,af,zt,bD,j1]
  |[x,y],hok=>simp[wV,E.bj,↓zq,zs,af,zt,bD,j1]
  |
   x::y::z::w::l,hok =>
   simp only[wV,E.bj,↓zq,zs,af,zt,bD,j1]
   exact⟨fun h=>absurd rfl h,fun _=>⟨fun _=>trivial,fun h=>by omega⟩⟩
  |
   [x,y,z],hok =>
   obtain⟨ok1,ok2,ok3,_⟩:=hok
   simp only[wV,↓zq,zs,af,zt,bD]
   refine⟨fun h=>absurd rfl h,fun _=>⟨fun h=>absurd rfl h,fun _=>?_⟩⟩
   refine ai (uw x _) ?_
   simp only[E.bj,toNat_one,a7,↓zq,zs,af,zt,iS,gj,iV,mI,aq,j1]
   refine⟨fun h=>?_,fun h=>⟨fun h1=>?_,fun h1=>⟨fun h2=>?_,fun h2=>?_⟩⟩⟩
   ·rw[if_pos h]
    refine⟨by omega,ai (zm y ok2) ?_⟩
    simp only[↓zq,zs,af]
    refine⟨fun hy=>⟨by omega,ai (zm z ok3) ?_⟩,fun hy=>?_⟩
    ·simp only[↓zq,zs,af,hy,bO]
    ·rw[hy];rfl
   ·rw[if_neg h,if_pos h1]
    refine⟨by omega,ai (zm y ok2) ?_⟩
    simp only[↓zq,zs,af]
    refine⟨fun hy=>⟨by omega,ai (zm z ok3) ?_⟩,fun hy=>?_⟩
    ·simp only[↓zq,zs,af,hy,bO]
    ·rw[hy];rfl
   ·rw[if_neg h,if_neg h1,if_pos h2]
    refine⟨by omega,by omega,ai (FV _) ?_⟩
    simp only[↓zq,zs,af]
    refine⟨fun hy=>⟨by omega,ai (zm z ok3) ?_⟩,fun hy=>?_⟩
    ·simp only[↓zq,zs,af,hy,bO]
    ·rw[hy];rfl
   ·rw[if_neg h,if_neg h1,if_neg h2]
theorem iO:∀(e:E) (ar:List (List UInt8)),(cN e ar).isSome=j1 e
 |
  .atom s,ar=>by
  simp only[cN,j1]
  by_cases h:s=[48]
  ·simp[h]
  ·by_cases h1:s=[49]
   ·simp[h1]
   ·rw[if_neg h,if_neg h1]
    by_cases h2:gV s=true
    ·simp[h2]
    ·rw[if_neg h2]
     by_cases h3:db s=true
     ·rw[if_pos h3];cases bG s ar ar.length<;>simp[h3]
     ·rw[if_neg h3];simp[h,h1,h2,h3]
 | .list [],_=>rfl
 | .list [_],_=>rfl
 | .list [_,_],_=>rfl
 | .list (_::_::_::_::_),_=>rfl
 |
  .list [x,a,b],ar=>by
  have ha:=iO a ar
  have hb:=iO b ar
  have hb2:=iO b (ar++[a.at])
  rw[j1]
  by_cases h:x.at=[43]
  ·rw[kz ar h,if_pos h,<-ha,<-hb];cases cN a ar<;>cases cN b ar<;>rfl
  ·by_cases h1:x.at=[42]
   ·rw[jV ar h1,if_neg h,if_pos h1,<-ha,<-hb];cases cN a ar<;>cases cN b ar<;>rfl
   ·by_cases h2:x.at=[114,101,99]
    ·rw[mi ar h2,if_neg h,if_neg h1,if_pos h2,<-hb2]
     cases db a.at<;>cases cN b (ar++[a.at])<;>rfl
    ·rw[jb ar h h1 h2,if_neg h,if_neg h1,if_neg h2];rfl
mutual
def E.cX:E->Nat
 | .atom _=>1
 | .list l=>E.eW l
def E.eW:List E->Nat
 |[]=>0
 |e::l=>e.cX+E.eW l
end
mutual
theorem iL:∀e:E,e.cX<=e.sz
 | .atom s=>by simp[E.cX,E.sz]
 | .list l=>by have:=tA l;simp only[E.cX,E.sz];omega
theorem tA:∀l:List E,E.eW l<=E.jt l
 |[]=>by simp[E.eW,E.jt]
 |e::l=>by have:=iL e;have:=tA l;simp only[E.eW,E.jt];omega
end
theorem jA:∀(l:List E) (i:Nat) (h:i<l.length),(E.bj l).getD i []=(l[i]).ic
 |e::l,0,_=>rfl
 |
  e::l,i+1,h=>by
  have:=jA l i (by simpa using h)
  simp only[E.bj,List.getD_cons_succ,List.getElem_cons_succ];exact this
theorem zr:∀(l:List E) (i:Nat) (h:i<l.length),E.eW (l.drop i)=(l[i]).cX+E.eW (l.drop (i+1)):=by
 intro l i h
 rw[aY h];rfl
theorem tU:∀(l:List E) (i:Nat) (h:i<l.length),E.Cm l->(l[i]).ok
 |e::l,0,_,h=>h.1
 |e::l,i+1,hi,h=>tU l i (by simpa using hi) h.2
theorem Lg(l:List E)(hl:E.eW l<1000000)(hll:l.length<1000000)(ih:∀i (h:i<l.length),ap Tryz.prog 129 [(l[i]).km] [] (bD (.v (.int .i64 ((l[i]).cX:Int))))) :
 ∀(k i n:Nat),i+k=l.length->n+E.eW (l.drop i)<=E.eW l->Eg [.v (.int .i64 (n:Int)),.v (.int .i64 (i:Int))] [.cells [.v (.string (mk [])),.sl (E.bj l)]] (iF 1 [.v (.int .i64 ((n+E.eW (l.drop i):Nat):Int))] [])
 |
  0,i,n,hi,hn=>by
  refine LF _ _ _ _ ?_
  simp only[Hb,↓zq,zs,af,ei]
  have:l.drop i=[]:=bM (by omega)
  refine⟨fun h=>by omega,fun _=>?_⟩
  simp[iF,this,E.eW]
 |
  k+1,i,n,hi,hn=>by
  have hlt:i<l.length:=by omega
  refine LF _ _ _ _ ?_
  simp only[Hb,↓zq,zs,af,zt,ei,jA l i hlt,gj,iV,iS,aq]
  refine⟨fun _=>⟨by omega,?_⟩,fun h=>by omega⟩
  refine ai (ih i hlt) ?_
  have h1:=zr l i hlt
  simp only[↓zq,zs,af]
  rw[bE i (by omega),wrap64 _ (by omega) (by omega)]
  have:=Lg l hl hll ih k (i+1) (n+(l[i]).cX) (by omega) (by omega)
  rw[h1,<-Nat.add_assoc]
  simpa using this
theorem ui:∀l:List E,l.length<=E.jt l
 |[]=>by simp[E.jt]
 |
  e::l=>by
  have:=ui l
  have:1<=e.sz:=by cases e<;>simp[E.sz]
  simp only[E.jt,aw];omega
theorem tb:∀(l:List E) (i:Nat) (h:i<l.length),(l[i]).sz<=E.jt l
 |e::l,0,_=>by simp[E.jt]
 |e::l,i+1,h=>by have:=tb l i (by simpa using h);simp only[E.jt,List.getElem_cons_succ];omega
theorem IZ:∀(n:Nat) (e:E),e.sz<n->e.ok->e.sz<1000000->ap Tryz.prog 129 [e.km] [] (bD (.v (.int .i64 (e.cX:Int))))
 |0,e,hn,_,_=>by omega
 |
  n+1,.atom s,hn,hok,hl=>by
  refine H8 _ _ ((bu).mpr trivial) ?_
  have hne:s≠[]:=hok
  simp only[Hf,↓zq,zs,af,zt,bD]
  exact⟨fun _=>rfl,fun h=>absurd h hne⟩
 |
  n+1,.list l,hn,hok,hl=>by
  refine H8 _ _ ((cd _).mpr trivial) ?_
  simp only[E.sz]at hn hl
  have h1:=tA l
  have h2:=ui l
  simp only[Hf,↓zq,zs,af,zt,bD]
  refine⟨fun h=>absurd rfl h,fun _=>?_⟩
  refine cw (Lg l (by omega) (by omega) (fun i hi=>?_) l.length 0 0 (by omega) (by simp)) ?_
  ·have:=tb l i hi
   exact IZ n (l[i]) (by omega) (tU l i hi hok) (by omega)
  ·simp[↓zq,zs,af,E.cX]
theorem CH(e:E)(h:e.ok)(hl:e.sz<1000000):ap Tryz.prog 129 [e.km] [] (bD (.v (.int .i64 (e.cX:Int)))):=IZ (e.sz+1) e (by omega) h hl
theorem th{x:E}(h:x.at≠[]):x.cX=1:=by cases x<;>simp[E.at,E.cX]at h |-
theorem AX{s:List UInt8}(h:db s=true):s≠[]:=by rintro rfl;cases h
theorem j0:∀(e:E) (ar:List (List UInt8)) (t:Ty),cN e ar=some t->e.cX=t.aC
 |
  .atom s,ar,t,h=>by
  simp only[cN]at h
  simp only[E.cX]
  split at h
  ·cases h;rfl
  ·split at h
   ·cases h;rfl
   ·split at h
    ·cases h;rfl
    ·split at h
     ·split at h<;>cases h<;>rfl
     ·cases h
 | .list [],_,_,h=>by cases h
 | .list [_],_,_,h=>by cases h
 | .list [_,_],_,_,h=>by cases h
 | .list (_::_::_::_::_),_,_,h=>by cases h
 |
  .list [x,a,b],ar,t,h=>by
  simp only[E.cX,E.eW]
  by_cases h0:x.at=[43]
  ·rw[kz ar h0]at h
   have:=th (x:=x) (by rw[h0];simp)
   split at h
   ·rename_i t1 t2 e1 e2
    cases h
    have:=j0 a ar _ e1
    have:=j0 b ar _ e2
    simp only[Ty.aC];omega
   ·cases h
  ·by_cases h1:x.at=[42]
   ·rw[jV ar h1]at h
    have:=th (x:=x) (by rw[h1];simp)
    split at h
    ·rename_i t1 t2 e1 e2
     cases h
     have:=j0 a ar _ e1
     have:=j0 b ar _ e2
     simp only[Ty.aC];omega
    ·cases h
   ·by_cases h2:x.at=[114,101,99]
    ·rw[mi ar h2]at h
     have:=th (x:=x) (by rw[h2];simp)
     split at h
     ·rename_i hl
      have:=th (AX hl)
      split at h
      ·rename_i t1 e1
       cases h
       have:=j0 b _ _ e1
       simp only[Ty.aC];omega
      ·cases h
     ·cases h
    ·rw[jb ar h0 h1 h2]at h;cases h
def jn(x:Option E)(b:Bool):AV->List Ob->Prop:=fun r o=>∃c:List UInt8,∃d:AV,LK.sl.has d/\r=.cA [.agg [.v (.string (mk c)),d],.v (.bool b)]/\(b=true->∃e,x=some e/\AV.agg [.v (.string (mk c)),d]=e.km)
theorem AI(e:E):∃c:List UInt8,∃d:AV,LK.sl.has d/\e.km=AV.agg [.v (.string (mk c)),d]:=by
 cases e with
 |atom s=>exact⟨s,_,(bu).mpr trivial,rfl⟩
 |list l=>exact⟨[],_,(cd _).mpr trivial,rfl⟩
theorem jn.ne(x:Option E)(b:Bool)(h:b=true->x.isSome=true):∃r o,jn x b r o:=by
 cases b with
 |false=>exact⟨_,[],[],.v (.slice none 0 0),(bu).mpr trivial,rfl,fun h=>by cases h⟩
 |
  true =>
  cases x with
  |none=>cases h rfl
  |
   some e =>
   obtain⟨c,d,hd,he⟩:=AI e
   exact⟨_,[],c,d,hd,rfl,fun _=>⟨e,rfl,he.symm⟩⟩
theorem Ma(s:List UInt8):ap Tryz.prog 84 [.v (.string (mk s))] [] (jn (qA s) (qA s).isSome):=by
 refine Ny _ ?_
 simp only[JP,↓zq,zs,af,zt,qA]
 refine⟨fun h=>?_,fun h=>?_⟩
 ·rw[if_pos (by omega)]
  exact⟨[],_,(bu).mpr trivial,rfl,fun h=>by cases h⟩
 ·rw[if_neg (by omega)]
  refine aO (MX s (by omega) 300 (by omega) 0 (by omega)) (CS.ne _ _) ?_
  rintro r o ⟨rfl,hr⟩
  rw[bp]at hr
  cases hq:rd 300 s with
  |
   none =>
   rw[hq]at hr
   obtain⟨c,d,hd,rfl⟩:=hr
   simp only[↓zq,zs,af,zt,bz]
   refine⟨hd,c,d,hd,?_,fun h=>by cases h⟩
   have:((-1:Int)==(s.length:Int))=false:=by
    rw[beq_eq_false_iff_ne];omega
   rw[this];rfl
  |
   some q =>
   obtain⟨e,u⟩:=q
   rw[hq]at hr
   subst hr
   have hlt:=w6 _ _ _ _ hq
   obtain⟨c,d,hd,he⟩:=AI e
   simp only[he,↓zq,zs,af,zt,bz]
   cases u with
   |
    nil =>
    refine⟨hd,c,d,hd,?_,fun _=>⟨e,rfl,he.symm⟩⟩
    simp
   |
    cons b u =>
    simp only[aw]at hlt |-
    refine⟨hd,c,d,hd,?_,fun h=>by cases h⟩
    have:(((s.length-(u.length+1):Nat):Int)==(s.length:Int))=false:=by simp;omega
    rw[this];rfl
def vM(s:List UInt8):Option E:=match qA s with
 |none=>none
 |some e=>if j1 e=true/\e.cX<=400 then some e else none
theorem Gw(s:List UInt8):ap Tryz.prog 82 [.v (.string (mk s))] [] (jn (vM s) (vM s).isSome):=by
 refine Ou _ ?_
 unfold IR
 refine aO (Ma s) (jn.ne _ _ (fun h=>h)) ?_
 rintro r o ⟨c,d,hd,rfl,hh⟩
 simp only[↓zq,zs,af,zt,bz,vM]
 refine⟨hd,fun h=>?_,fun h=>?_⟩
 ·obtain⟨e,he,hce⟩:=hh h
  obtain⟨hok,hsz⟩:=nH he
  rw[he,hce]
  refine ai (zm e hok) ?_
  simp only[↓zq,zs,af]
  refine⟨fun hi=>?_,fun hi=>?_⟩
  ·refine ai (CH e hok (by omega)) ?_
   simp only[↓zq,zs,af,hi]
   refine⟨c,d,hd,?_,?_⟩
   ·rw[hce]
    by_cases h4:e.cX<=400
    ·rw[if_pos h4];exact congrArg (fun b=>AV.cA [e.km,.v (.bool b)]) (decide_eq_true (show ((e.cX:Nat):Int)<=400 by omega))
    ·rw[if_neg h4];exact congrArg (fun b=>AV.cA [e.km,.v (.bool b)]) (decide_eq_false (show ¬((e.cX:Nat):Int)<=400 by omega))
   ·split
    ·exact fun _=>⟨e,rfl,hce⟩
    ·exact fun h=>by cases h
  ·refine⟨c,d,hd,?_,?_⟩
   ·rw[hce,if_neg (by rw[hi];simp)];rfl
   ·rw[if_neg (by rw[hi];simp)];exact fun h=>by cases h
 ·have hn:qA s=none:=by cases hq:qA s<;>simp[hq]at h |-
  rw[hn]
  exact⟨c,d,hd,rfl,fun h=>by cases h⟩
theorem pw{s:List UInt8}{e:E}(h:vM s=some e):qA s=some e/\j1 e=true/\e.cX<=400:=by
 unfold vM at h
 split at h
 ·cases h
 ·split at h
  ·rename_i e' h1 h2;cases h;exact⟨h1,h2⟩
  ·cases h
end Go.Proofs.Trees
namespace Go.Proofs.Trees
open Go Go.VL
def bR:Ty->Bool
 | .name s=>db s
 | .plus a b=>bR a||bR b
 | .times a b=>bR a||bR b
 | .rc a=>bR a
 |_=>false
theorem gZ:∀(t:Ty) (out:List (List UInt8)),(bF t out).any db=(out.any db||bR t)
 |
  .name s,out=>by
  simp only[bF,pE,bR]
  split
  ·rename_i h
   cases hs:db s with
   |false=>simp
   |true=>rw[Bool.or_true,bS];exact⟨s,h,hs⟩
  ·simp
 | .plus a b,out=>by simp only[bF,bR,gZ a,gZ b,Bool.or_assoc]
 | .times a b,out=>by simp only[bF,bR,gZ a,gZ b,Bool.or_assoc]
 | .rc a,out=>by simp only[bF,bR,gZ a]
 | .zero,out=>by simp[bF,bR]
 | .one,out=>by simp[bF,bR]
 | .bJ u,out=>by simp[bF,bR]
theorem sk(t:Ty):t.closed = !bR t:=by simp[Ty.closed,gZ]
def pl:Ty->Bool
 | .name s=>decide (s.length<=1)
 | .plus a b=>pl a&&pl b
 | .times a b=>pl a&&pl b
 | .rc a=>false
 |_=>true
theorem lD{lo hi:Nat}{s:List UInt8}(h:named lo hi s=true):∃c r,s=c::r/\lo<=c.toNat/\c.toNat<=hi:=by
 cases s with
 |nil=>cases h
 |cons c r=>simp only[named,au,decide_eq_true_eq]at h;exact⟨c,r,rfl,by omega,by omega⟩
theorem fH{x a b:E}{ar:List (List UInt8)}{t:Ty}(hx:x.at=[43])(h:cN (.list [x,a,b]) ar=some t):∃t1 t2,cN a ar=some t1/\cN b ar=some t2/\t=.plus t1 t2:=by
 rw[kz ar hx]at h
 split at h
 ·rename_i t1 t2 e1 e2;cases h;exact⟨t1,t2,e1,e2,rfl⟩
 ·cases h
theorem fk{x a b:E}{ar:List (List UInt8)}{t:Ty}(hx:x.at=[42])(h:cN (.list [x,a,b]) ar=some t):∃t1 t2,cN a ar=some t1/\cN b ar=some t2/\t=.times t1 t2:=by
 rw[jV ar hx]at h
 split at h
 ·rename_i t1 t2 e1 e2;cases h;exact⟨t1,t2,e1,e2,rfl⟩
 ·cases h
theorem dw{x a b:E}{ar:List (List UInt8)}{t:Ty}(hx:x.at=[114,101,99])(h:cN (.list [x,a,b]) ar=some t):∃t1,db a.at=true/\cN b (ar++[a.at])=some t1/\t=.rc t1:=by
 rw[mi ar hx]at h
 split at h
 ·rename_i hl
  split at h
  ·rename_i t1 e1;cases h;exact⟨t1,hl,e1,rfl⟩
  ·cases h
 ·cases h
theorem tR{s:List UInt8}:qy s=match vM s with|none=>none|some e=>cN e []:=by
 unfold qy vM
 cases he:qA s with
 |none=>rfl
 |
  some e =>
  have hs:=iO e []
  simp only
  cases ht:cN e []with
  |
   none =>
   rw[ht]at hs
   rw[if_neg (by rw[<-hs];simp)]
  |
   some t =>
   rw[ht]at hs
   have ha:=j0 e [] t ht
   by_cases h4:e.cX<=400
   ·rw[if_pos ⟨hs.symm,h4⟩];dsimp only;rw[if_neg (by omega)];exact ht.symm
   ·rw[if_neg (fun h=>h4 h.2)];dsimp only;rw[if_pos (by omega)]
end Go.Proofs.Trees
namespace Go.Proofs.Trees
open Go Go.VL
def pure:Ty->Bool
 | .zero=>true
 | .one=>true
 | .name s=>(s==[120])||(s==[121])||(s==[122])
 | .plus a b=>pure a&&pure b
 | .times a b=>pure a&&pure b
 |_=>false
def J1(v:Nat):Option Nat:=if v<=1000000000 then some v else none
def Hn(n:Nat):Ty->Option Nat
 | .zero=>some 0
 | .one=>some 1
 | .name _=>some n
 | .plus a b=>match Hn n a,Hn n b with|some x,some y=>J1 (x+y)|_,_=>none
 | .times a b=>match Hn n a,Hn n b with|some x,some y=>J1 (x*y)|_,_=>none
 |_=>none
def JA(x:Option Nat):AV->List Ob->Prop:=fun r o=>∃v:Int,r=.cA [.v (.int .i64 v),.v (.bool x.isSome)]/\∀c,x=some c->v=(c:Int)
theorem JA.ne(x:Option Nat):∃r o,JA x r o:=by
 cases x with
 |none=>exact⟨_,[],0,rfl,fun c h=>by cases h⟩
 |some c=>exact⟨_,[],(c:Int),rfl,fun c' h=>by cases h;rfl⟩
end Go.Proofs.Trees
namespace Go.Proofs.Trees
open Go Go.VL Go.RowKit
abbrev dd(n:Nat):List UInt8:=Lib.decDigits n
theorem eH{k:Nat}(h:k<10):dd k=[be (48+k)]:=by rw[dd,Lib.decDigits,dif_pos h]
theorem fP{k:Nat}(h:¬k<10):dd k=dd (k/10)++[be (48+k%10)]:=by rw[dd,Lib.decDigits,dif_neg h]
theorem mD:∀(n k:Nat),k<n->(dd k).length<=k+1
 |0,k,h=>by omega
 |
  n+1,k,h=>by
  by_cases h1:k<10
  ·rw[eH h1];simp
  ·rw[fP h1]
   have:=mD n (k/10) (by omega)
   simp only[an,aw,aG];omega
theorem xY(d:Nat)(h:d<10):(Value.int .u8 (IntKind.wrap .u8 (IntKind.wrap .i64 (48+(d:Int)))))=.int .u8 ((be (48+d)).toNat:Int):=by
 have:d=0\/d=1\/d=2\/d=3\/d=4\/d=5\/d=6\/d=7\/d=8\/d=9:=by omega
 rcases this with rfl|rfl|rfl|rfl|rfl|rfl|rfl|rfl|rfl|rfl<;>rfl
theorem pH(b:UInt8):bytesOf [[.v (.int .u8 (b.toNat:Int))]]=[b]:=by simp[bytesOf,yc]
theorem kV(b:UInt8):jy [[.v (.int .u8 (b.toNat:Int))]]:=⟨rfl,(lN _ _).mpr trivial,trivial⟩
theorem za:∀(n k:Nat),k<n->k<1000000000->ap Tryz.prog 54 [.v (.int .i64 (k:Int))] [] (bD (.v (.string (mk (dd k)))))
 |0,k,h,_=>by omega
 |
  n+1,k,h,hk=>by
  refine Nr _ ?_
  simp only[I1,↓zq,zs,af,bD]
  refine⟨fun h=>by omega,fun _=>⟨fun h=>by omega,fun _=>⟨fun h1=>?_,fun h1=>⟨by omega,?_⟩⟩⟩⟩
  ·rw[xY k (by omega)]
   refine⟨kV _,?_⟩
   rw[pH,eH (by omega)];rfl
  ·have e1:IntKind.wrap .i64 (Int.tdiv (k:Int) 10)=((k/10:Nat):Int):=by
    rw[show Int.tdiv (k:Int) 10=((k/10:Nat):Int) from (Int.ofNat_tdiv k 10).symm,wrap64 _ (by omega) (by omega)]
   have e2:dF (k:Int) 10=((k%10:Nat):Int):=(Int.ofNat_tmod k 10).symm
   rw[e1,e2,xY (k%10) (by omega)]
   refine ai (za n (k/10) (by omega) (by omega)) ?_
   have hl:=mD (k+1) (k/10) (by omega)
   simp only[↓zq,zs,af,zt,pH]
   have h9:(k:Int)<1000000000:=by omega
   refine⟨by omega,kV _,?_,?_⟩
   ·show (mk (dd (k/10))).size+(mk [be (48+k%10)]).size<=_
    rw[cB,cB];simp;omega
   ·show AV.v (.string (mk (dd (k/10))++mk [be (48+k%10)]))=_
    rw[kQ,fP (k:=k) (by omega)]
theorem yW(s:List UInt8)(d:AV)(hd:LK.sl.has d)(h:s≠[]):ap Tryz.prog 90 [.agg [.v (.string (mk s)),d]] [] (bD (.v (.string (mk [])))):=by
 refine Fj _ _ hd ?_
 simp only[Du,↓zq,zs,af,zt,bD]
 exact⟨fun _=>trivial,fun h'=>absurd h' h⟩
theorem CM(e:E):AV.agg [.v (.string ((e.km.cs.getD 0 .any).ag)),e.km.cs.getD 1 .any]=e.km:=by cases e<;>rfl
mutual
def eY:E->List UInt8
 | .atom s=>s
 | .list []=>[40,41]
 | .list (e::l)=>40::(eY e++(ek l++[41]))
def ek:List E->List UInt8
 |[]=>[]
 |e::l=>32::(eY e++ek l)
end
theorem zk:∀(l:List E) (i:Nat) (h:i<l.length),ek (l.drop i)=32::(eY l[i]++ek (l.drop (i+1))):=by
 intro l i h
 rw[aY h,ek]
theorem Lj(l:List E)(hll:l.length<1000000000000)(ih:∀i (h:i<l.length),ap Tryz.prog 57 [(l[i]).km] [] (bD (.v (.string (mk (eY l[i])))))) :
 ∀(k i:Nat) (out:List UInt8),i+k=l.length->1<=i->out.length+(ek (l.drop i)).length<=1000000000000->Ar [.v (.string (mk out)),.v (.int .i64 (i:Int))] [.cells [.v (.string (mk [])),.sl (E.bj l)]] (iF 1 [.v (.string (mk (out++ek (l.drop i))))] [])
 |
  0,i,out,hi,h1,hn=>by
  refine CN _ _ _ _ ?_
  simp only[Bi,↓zq,zs,af,ei]
  have:l.drop i=[]:=bM (by omega)
  refine⟨fun h=>by omega,fun _=>?_⟩
  simp[iF,this,ek]
 |
  k+1,i,out,hi,h1,hn=>by
  have hlt:i<l.length:=by omega
  have hd:=zk l i hlt
  rw[hd]at hn
  simp only[aw,an]at hn
  refine CN _ _ _ _ ?_
  simp only[Bi,↓zq,zs,af,zt,ei,jA l i hlt,gj,iV,iS,aq]
  refine⟨fun _=>⟨fun _=>⟨by omega,by omega,?_⟩,fun h=>by omega⟩,fun h=>by omega⟩
  refine ai (ih i hlt) ?_
  simp only[↓zq,zs,af,zt]
  refine⟨by simp;omega,?_⟩
  rw[bE i (by omega),hd]
  have:=Lj l hll ih k (i+1) (out++[32]++eY l[i]) (by omega) (by omega) (by simp;omega)
  simpa using this
theorem xH:∀(l:List E) (i:Nat) (h:i<l.length),(eY l[i]).length<=(ek l).length
 |e::l,0,_=>by simp only[ek,List.getElem_cons_zero,aw,an];omega
 |e::l,i+1,h=>by have:=xH l i (by simpa using h);simp only[ek,List.getElem_cons_succ,aw,an];omega
theorem rh:∀l:List E,l.length<=(ek l).length
 |[]=>by simp[ek]
 |e::l=>by have:=rh l;simp only[ek,aw,an];omega
theorem Cc:∀(n:Nat) (e:E),e.sz<n->e.ok->(eY e).length<=900000000000->ap Tryz.prog 57 [e.km] [] (bD (.v (.string (mk (eY e)))))
 |0,e,hn,_,_=>by omega
 |
  n+1,.atom s,hn,hok,hl=>by
  refine FP _ _ ((bu).mpr trivial) ?_
  have hne:s≠[]:=hok
  simp only[C6,↓zq,zs,af,zt,bD]
  exact⟨fun _=>rfl,fun h=>absurd h hne⟩
 |
  n+1,.list [],hn,hok,hl=>by
  refine FP _ _ ((cd _).mpr trivial) ?_
  simp only[C6,↓zq,zs,af,zt,bD]
  refine⟨fun h=>absurd rfl h,fun _=>?_⟩
  have h1:Ar [.v (.string (mk [40])),.v (.int .i64 0)] [.cells [.v (.string (mk [])),.sl (E.bj [])]] (iF 1 [.v (.string (mk [40]))] []):=by
   refine CN _ _ _ _ ?_
   simp[Bi,↓zq,zs,af,E.bj,iF]
  refine cw h1 ?_
  simp only[↓zq,zs,af,zt]
  exact⟨by simp,rfl⟩
 |
  n+1,.list (x::l),hn,hok,hl=>by
  refine FP _ _ ((cd _).mpr trivial) ?_
  simp only[E.sz,E.jt]at hn
  simp only[eY,aw,an,aG]at hl
  have h2:=rh l
  simp only[C6,↓zq,zs,af,zt,bD]
  refine⟨fun h=>absurd rfl h,fun _=>?_⟩
  have hL:Ar [.v (.string (mk [40])),.v (.int .i64 0)] [.cells [.v (.string (mk [])),.sl (E.bj (x::l))]] (iF 1 [.v (.string (mk ([40]++eY x++ek l)))] []):=by
   refine CN _ _ _ _ ?_
   simp only[Bi,E.bj,Int.toNat_zero,↓zq,zs,af,zt,ei,gj,iV,iS,aq]
   refine⟨fun _=>⟨fun h=>by omega,fun _=>⟨by omega,?_⟩⟩,fun h=>by omega⟩
   refine ai (Cc n x (by omega) hok.1 (by omega)) ?_
   simp only[↓zq,zs,af,zt]
   refine⟨by simp;omega,?_⟩
   have:=Lj (x::l) (by simp;omega) (fun i hi=>by
    have h3:=tb (x::l) i hi
    simp only[E.jt]at h3
    refine Cc n _ (by omega) (tU _ i hi hok) ?_
    have h4:=xH (x::l) i hi
    simp only[ek,aw,an]at h4
    omega) l.length 1 ([40]++eY x) (by simp;omega) (by omega) (by simp;omega)
   rw[show IntKind.wrap .i64 (0+1)=1 from rfl]
   simpa[E.bj]using this
  refine cw hL ?_
  simp only[↓zq,zs,af,zt]
  refine⟨by simp;omega,?_⟩
  simp[eY]
theorem DF(e:E)(h:e.ok)(hl:(eY e).length<=900000):ap Tryz.prog 57 [e.km] [] (bD (.v (.string (mk (eY e))))):=Cc (e.sz+1) e (by omega) h (by omega)
mutual
def E.nd:E->Nat
 | .atom _=>1
 | .list []=>1
 | .list (_::l)=>1+E.ur l
def E.ur:List E->Nat
 |[]=>0
 |e::l=>e.nd+E.ur l
end
mutual
theorem Bx:∀e:E,e.nd<=e.sz
 | .atom s=>by simp[E.nd,E.sz]
 | .list []=>by simp[E.nd,E.sz,E.jt]
 | .list (x::l)=>by have:=wH l;simp only[E.nd,E.sz,E.jt];omega
theorem wH:∀l:List E,E.ur l<=E.jt l
 |[]=>by simp[E.ur,E.jt]
 |e::l=>by have:=Bx e;have:=wH l;simp only[E.ur,E.jt];omega
end
theorem A9:∀(l:List E) (i:Nat) (h:i<l.length),E.ur (l.drop i)=(l[i]).nd+E.ur (l.drop (i+1)):=by
 intro l i h
 rw[aY h];rfl
theorem LB(l:List E)(hl:E.ur l<1000000)(hll:l.length<1000000)(ih:∀i (h:i<l.length),ap Tryz.prog 86 [(l[i]).km] [] (bD (.v (.int .i64 ((l[i]).nd:Int))))) :
 ∀(k i n:Nat),i+k=l.length->n+E.ur (l.drop i)<=1+E.ur l->zU [.v (.int .i64 (n:Int)),.v (.int .i64 (i:Int))] [.cells [.v (.string (mk [])),.sl (E.bj l)]] (iF 1 [.v (.int .i64 ((n+E.ur (l.drop i):Nat):Int))] [])
 |
  0,i,n,hi,hn=>by
  refine DB _ _ _ _ ?_
  simp only[Bm,↓zq,zs,af,ei]
  have:l.drop i=[]:=bM (by omega)
  refine⟨fun h=>by omega,fun _=>?_⟩
  simp[iF,this,E.ur]
 |
  k+1,i,n,hi,hn=>by
  have hlt:i<l.length:=by omega
  refine DB _ _ _ _ ?_
  simp only[Bm,↓zq,zs,af,zt,ei,jA l i hlt,gj,iV,iS,aq]
  refine⟨fun _=>⟨by omega,?_⟩,fun h=>by omega⟩
  refine ai (ih i hlt) ?_
  have h1:=A9 l i hlt
  simp only[↓zq,zs,af]
  rw[bE i (by omega),wrap64 _ (by omega) (by omega)]
  have:=LB l hl hll ih k (i+1) (n+(l[i]).nd) (by omega) (by omega)
  rw[h1,<-Nat.add_assoc]
  simpa using this
theorem K4:∀(n:Nat) (e:E),e.sz<n->e.sz<900000->ap Tryz.prog 86 [e.km] [] (bD (.v (.int .i64 (e.nd:Int))))
 |0,e,hn,_=>by omega
 |
  n+1,.atom s,hn,hl=>by
  refine Kv _ _ ((bu).mpr trivial) ?_
  simp only[G7]
  have hL:zU [.v (.int .i64 1),.v (.int .i64 1)] [.cells [.v (.string (mk s)),.v (.slice none 0 0)]] (iF 1 [.v (.int .i64 1)] []):=by
   refine DB _ _ _ _ ?_
   simp[Bm,↓zq,zs,af,iF]
  refine cw hL ?_
  simp[↓zq,zs,af,bD,E.nd]
 |
  n+1,.list l,hn,hl=>by
  refine Kv _ _ ((cd _).mpr trivial) ?_
  simp only[E.sz]at hn hl
  simp only[G7]
  match l,hn,hl with
  |
   [],hn,hl =>
   have hL:zU [.v (.int .i64 1),.v (.int .i64 1)] [.cells [.v (.string (mk [])),.sl (E.bj [])]] (iF 1 [.v (.int .i64 1)] []):=by
    refine DB _ _ _ _ ?_
    simp[Bm,↓zq,zs,af,iF,E.bj]
   refine cw hL ?_
   simp[↓zq,zs,af,bD,E.nd]
  |
   x::l,hn,hl =>
   simp only[E.jt]at hn hl
   have h1:=wH l
   have h2:=ui l
   have h0:=Bx x
   refine cw (LB (x::l) (by simp only[E.ur];omega) (by simp;omega) (fun i hi=>?_) l.length 1 1 (by simp;omega) (by simp[E.ur])) ?_
   ·have:=tb (x::l) i hi
    simp only[E.jt]at this
    exact K4 n _ (by omega) (by omega)
   ·simp[↓zq,zs,af,E.nd,bD]
theorem NU(e:E)(hl:e.sz<900000):ap Tryz.prog 86 [e.km] [] (bD (.v (.int .i64 (e.nd:Int)))):=K4 (e.sz+1) e (by omega) hl
inductive Vl where
 |u
 |el (k:Nat)
 |l (v:Vl)
 |r (v:Vl)
 |f (v:Vl)
 |p (a b:Vl)
abbrev wY(k:Nat):List UInt8:=101::dd k
abbrev jh:AV:=.v (.pointer none)
def Vl.ct:Vl->AV
 | .u=>.ptr [.v (.int .u8 117),.v (.string (mk [])),jh,jh]
 | .el k=>.ptr [.v (.int .u8 101),.v (.string (mk (wY k))),jh,jh]
 | .l v=>.ptr [.v (.int .u8 108),.v (.string (mk [])),v.ct,jh]
 | .r v=>.ptr [.v (.int .u8 114),.v (.string (mk [])),v.ct,jh]
 | .f v=>.ptr [.v (.int .u8 102),.v (.string (mk [])),v.ct,jh]
 | .p a b=>.ptr [.v (.int .u8 112),.v (.string (mk [])),a.ct,b.ct]
def Vl.cz:Vl->E
 | .u=>.atom [117]
 | .el k=>.atom (wY k)
 | .l v=>.list [.atom [108],v.cz]
 | .r v=>.list [.atom [114],v.cz]
 | .f v=>.list [.atom [102],v.cz]
 | .p a b=>.list [.atom [112],a.cz,b.cz]
def Vl.nodes:Vl->Nat
 | .l v=>1+v.nodes
 | .r v=>1+v.nodes
 | .f v=>1+v.nodes
 | .p a b=>1+a.nodes+b.nodes
 |_=>1
def Vl.gz(n:Nat):Vl->Prop
 | .el k=>k<n
 | .l v=>v.gz n
 | .r v=>v.gz n
 | .f v=>v.gz n
 | .p a b=>a.gz n/\b.gz n
 | .u=>True
abbrev Vl.dq(v:Vl):List UInt8:=eY v.cz
theorem aN(v:Vl):LK.has .ptr v.ct=True:=by cases v<;>simp[Vl.ct,ck]
theorem fg(v:Vl):v.ct.isNil=false:=by cases v<;>rfl
theorem mh:∀v:Vl,v.cz.ok
 | .u=>by simp[Vl.cz,E.ok]
 | .el k=>by simp[Vl.cz,E.ok]
 | .l v=>⟨by simp[E.ok],mh v,trivial⟩
 | .r v=>⟨by simp[E.ok],mh v,trivial⟩
 | .f v=>⟨by simp[E.ok],mh v,trivial⟩
 | .p a b=>⟨by simp[E.ok],mh a,mh b,trivial⟩
theorem nM:∀v:Vl,v.cz.nd=v.nodes
 | .u=>rfl
 | .el k=>rfl
 | .l v=>by simp[Vl.cz,E.nd,E.ur,Vl.nodes,nM v]
 | .r v=>by simp[Vl.cz,E.nd,E.ur,Vl.nodes,nM v]
 | .f v=>by simp[Vl.cz,E.nd,E.ur,Vl.nodes,nM v]
 | .p a b=>by simp[Vl.cz,E.nd,E.ur,Vl.nodes,nM a,nM b,Nat.add_assoc]
theorem iq:∀v:Vl,v.gz 100->v.dq.length<=200*v.nodes
 | .u,_=>by simp[Vl.dq,Vl.cz,eY,Vl.nodes]
 |
  .el k,h=>by
  have h':k<100:=h
  have:=mD 1000 k (by omega)
  simp only[Vl.dq,Vl.cz,eY,Vl.nodes,aw];omega
 | .l v,h=>by have:=iq v h;simp only[Vl.dq,Vl.cz,eY,ek,Vl.nodes,aw,an,aG]at this |-;omega
 | .r v,h=>by have:=iq v h;simp only[Vl.dq,Vl.cz,eY,ek,Vl.nodes,aw,an,aG]at this |-;omega
 | .f v,h=>by have:=iq v h;simp only[Vl.dq,Vl.cz,eY,ek,Vl.nodes,aw,an,aG]at this |-;omega
 | .p a b,h=>by have:=iq a h.1;have:=iq b h.2;simp only[Vl.dq,Vl.cz,eY,ek,Vl.nodes,aw,an,aG]at *;omega
theorem yH(a b:AV)(h:LK.ptr.has a)(h':LK.ptr.has b):ap Tryz.prog 96 [a,b] [] (bD (.ptr [.v (.int .u8 112),.v (.string (mk [])),a,b])):=by
 refine MY _ _ h h' ?_
 simp[Iq,↓zq,zs,af,bD]
theorem dr(v:Vl):1<=v.nodes:=by cases v<;>simp[Vl.nodes]<;>omega
theorem vR:∀(v:Vl),v.nodes<1000000->ap Tryz.prog 50 [v.ct] [] (bD (.v (.int .i64 (v.nodes:Int))))
 | .u,h=>by refine zo _ ((aN _).mpr trivial) ?_;simp[wF,Vl.ct,↓zq,zs,af,bD,Vl.nodes]
 | .el k,h=>by refine zo _ ((aN _).mpr trivial) ?_;simp[wF,Vl.ct,↓zq,zs,af,bD,Vl.nodes]
 |
  .l v,h=>by
  simp only[Vl.nodes]at h
  refine zo _ ((aN _).mpr trivial) ?_
  simp only[wF,Vl.ct,↓zq,zs,af,aN,fg]
  refine⟨by omega,fun _=>⟨by omega,?_⟩,fun h=>(by cases h)⟩
  refine ai (vR v (by omega)) ?_
  simp only[↓zq,zs,af,bD,Vl.nodes]
  rw[wrap64 _ (by omega) (by omega)]
  simp
 |
  .r v,h=>by
  simp only[Vl.nodes]at h
  refine zo _ ((aN _).mpr trivial) ?_
  simp only[wF,Vl.ct,↓zq,zs,af,aN,fg]
  refine⟨by omega,fun _=>⟨by omega,?_⟩,fun h=>(by cases h)⟩
  refine ai (vR v (by omega)) ?_
  simp only[↓zq,zs,af,bD,Vl.nodes]
  rw[wrap64 _ (by omega) (by omega)]
  simp
 |
  .f v,h=>by
  simp only[Vl.nodes]at h
  refine zo _ ((aN _).mpr trivial) ?_
  simp only[wF,Vl.ct,↓zq,zs,af,aN,fg]
  refine⟨by omega,fun _=>⟨by omega,?_⟩,fun h=>(by cases h)⟩
  refine ai (vR v (by omega)) ?_
  simp only[↓zq,zs,af,bD,Vl.nodes]
  rw[wrap64 _ (by omega) (by omega)]
  simp
 |
  .p a b,h=>by
  simp only[Vl.nodes]at h
  refine zo _ ((aN _).mpr trivial) ?_
  simp only[wF,Vl.ct,↓zq,zs,af,aN,fg]
  refine⟨by omega,fun _=>⟨by omega,?_⟩,fun h=>(by cases h)⟩
  refine ai (vR a (by omega)) ?_
  simp only[↓zq,zs,af,aN,fg]
  rw[wrap64 (1+(a.nodes:Int)) (by omega) (by omega)]
  refine⟨by omega,fun _=>⟨by omega,?_⟩,fun h=>(by cases h)⟩
  refine ai (vR b (by omega)) ?_
  simp only[↓zq,zs,af,bD,Vl.nodes]
  rw[wrap64 _ (by omega) (by omega)]
  congr 2
end Go.Proofs.Trees
namespace Go.Proofs.Trees
open Go Go.VL Go.RowKit
def yU:List UInt8->Nat->Option Nat
 |[],n=>some n
 |b::r,n=>if ib b=true then yU r (10*n+(b.toNat-48))else none
def fO(s:List UInt8):Option Nat :=
 if s.length=2\/s.length=3 then(if s.getD 0 0=101/\¬(s.length=3/\s.getD 1 0=48)then yU (s.drop 1) 0 else none)else none
def BA(s:List UInt8):Int:=match fO s with|some k=>(k:Int)|none=>-1
theorem Kp(s:List UInt8)(hs:s.length<=3):∀(k i n:Nat),i+k=s.length->1<=i->(n+1)*10 ^ k<=1000->Fs [.v (.string (mk s)),.v (.int .i64 (n:Int)),.v (.int .i64 (i:Int))] []
 (rW (match yU (s.drop i) n with|some m=>(1,[.v (.int .i64 (m:Int))],[])|none=>(2,[.v (.int .i64 (-1))],[])))
 |
  0,i,n,hi,h1,hn=>by
  refine L5 _ _ _ ?_
  have hd:s.drop i=[]:=bM (by omega)
  simp only[En,↓zq,zs,af,zt,hd,yU]
  exact⟨fun h=>by omega,fun _=>by first|trivial|rfl⟩
 |
  k+1,i,n,hi,h1,hn=>by
  have hlt:i<s.length:=by omega
  refine L5 _ _ _ ?_
  rw[drop_cons hlt,yU]
  simp only[En,↓zq,zs,af,zt,lU s i hlt]
  generalize s.getD i 0=b
  have hb:=b.toNat_lt
  refine⟨fun _=>⟨by omega,fun h48=>?_,fun h48=>⟨by omega,fun h57=>?_,fun h57=>⟨by omega,?_⟩⟩⟩,fun h=>by omega⟩
  ·have:ib b=false:=by simp only[ib,decide_eq_false_iff_not];omega
   rw[this];rfl
  ·have:ib b=false:=by simp only[ib,decide_eq_false_iff_not];omega
   rw[this];rfl
  ·have:ib b=true:=by simp only[ib,decide_eq_true_eq];omega
   rw[if_pos this]
   have hk:k=0\/k=1:=by omega
   have hn2:n*10<=1000:=by
    rcases hk with rfl|rfl<;>simp at hn<;>omega
   have e8:IntKind.wrap .u8 ((b.toNat:Int)-48)=((b.toNat-48:Nat):Int):=by
    have:b.toNat=48\/b.toNat=49\/b.toNat=50\/b.toNat=51\/b.toNat=52\/b.toNat=53\/b.toNat=54\/b.toNat=55\/b.toNat=56\/b.toNat=57:=by omega
    rcases this with h|h|h|h|h|h|h|h|h|h<;>rw[h]<;>rfl
   rw[e8,bE i (by omega),wrap64 ((b.toNat-48:Nat):Int) (by omega) (by omega),wrap64 (10*(n:Int)) (by omega) (by omega),wrap64 _ (by omega) (by omega)]
   have e:(10*(n:Int)+((b.toNat-48:Nat):Int))=((10*n+(b.toNat-48):Nat):Int):=by omega
   rw[e]
   exact Kp s hs k (i+1) _ (by omega) (by omega) (by rcases hk with rfl|rfl<;>simp at hn |-<;>omega)
theorem Jp(s:List UInt8):ap Tryz.prog 56 [.v (.string (mk s))] [] (bD (.v (.int .i64 (BA s)))):=by
 refine PE _ ?_
 unfold HZ
 refine ai (CO _ _ _) ?_
 simp only[↓zq,zs,af,zt,DP,bD]
 have hL:∀(Q:Nat->List AV->List Ob->Prop),(s.length=2\/s.length=3)->s.getD 0 0=101->¬(s.length=3/\s.getD 1 0=48)->(Q 0 [.v (.int .i64 (BA s))] []) ->
  eT Tryz.prog 49 (.loop CV Bk [.v (.string (mk s)),.v (.int .i64 0),.v (.int .i64 1)] [] (fun y2 q2=>.ak (LK.has (.int .i64) (y2.headD .any))<|.done 0 [.v (.int .i64 ((y2.headD .any).toInt))] []) (fun y2 q2=>.ak (LK.has (.int .i64) (y2.headD .any))<|.done 0 [.v (.int .i64 ((y2.headD .any).toInt))] [])) Q:=by
  intro Q hl h0 h1 hQ
  have e:fO s=yU (s.drop 1) 0:=by rw[fO,if_pos hl,if_pos ⟨h0,h1⟩]
  refine jq (Kp s (by omega) (s.length-1) 1 0 (by omega) (by omega) (by rcases hl with h|h<;>rw[h]<;>decide)) (fun ys o e'=>?_) (fun ys o e'=>?_)
  ·cases hq:yU (s.drop 1) 0<;>rw[hq]at e'<;>cases e'
   rw[hq]at e
   simp only[BA,e]at hQ
   simp only[↓zq,zs,af];exact hQ
  ·cases hq:yU (s.drop 1) 0<;>rw[hq]at e'<;>cases e'
   rw[hq]at e
   simp only[BA,e]at hQ
   simp only[↓zq,zs,af];exact hQ
 have hz:∀{i:Nat},i<s.length->bt (mk s) (i:Int)=((s.getD i 0).toNat:Int):=fun h=>lU s _ h
 refine⟨fun h=>?_,fun h=>⟨?_,fun h0=>?_,fun h0=>⟨fun h3=>⟨by omega,fun h1=>?_,fun h1=>?_⟩,fun h3=>?_⟩⟩⟩
 ·have h':¬(2<=(s.length:Int)/\(s.length:Int)<=3):=by simpa using h
  rw[BA,fO,if_neg (by omega)]
 ·have h':2<=(s.length:Int)/\(s.length:Int)<=3:=by simpa using h
  omega
 ·have h':2<=(s.length:Int)/\(s.length:Int)<=3:=by simpa using h
  have e0:=hz (i:=0) (by omega)
  simp only[cO,dj]at e0
  rw[e0]at h0
  rw[BA,fO,if_pos (by omega),if_neg]
  rintro⟨e,_⟩
  rw[e]at h0;exact h0 rfl
 ·have h':2<=(s.length:Int)/\(s.length:Int)<=3:=by simpa using h
  have e1:=hz (i:=1) (by omega)
  simp only[cO,dj]at e1
  rw[e1]at h1
  rw[BA,fO,if_pos (by omega),if_neg]
  rintro⟨_,e⟩
  refine e ⟨by omega,?_⟩
  rw[<-dT];show (s.getD 1 0).toNat=48;omega
 ·have h':2<=(s.length:Int)/\(s.length:Int)<=3:=by simpa using h
  have e0:=hz (i:=0) (by omega)
  have e1:=hz (i:=1) (by omega)
  simp only[cO,dj]at e0 e1
  rw[e0]at h0;rw[e1]at h1
  refine hL _ (by omega) ?_ ?_ ⟨rfl,rfl⟩
  ·rw[<-dT];show (s.getD 0 0).toNat=101;omega
  ·rintro⟨_,e⟩;rw[e]at h1;exact h1 rfl
 ·have h':2<=(s.length:Int)/\(s.length:Int)<=3:=by simpa using h
  have e0:=hz (i:=0) (by omega)
  simp only[cO,dj]at e0
  rw[e0]at h0
  refine hL _ (by omega) ?_ ?_ ⟨rfl,rfl⟩
  ·rw[<-dT];show (s.getD 0 0).toNat=101;omega
  ·rintro⟨e,_⟩;omega
theorem oh:∀(l:List UInt8) (n:Nat),(yU l n).isSome=l.all ib
 |[],n=>rfl
 |
  b::l,n=>by
  rw[yU]
  cases hb:ib b with
  |true=>rw[if_pos rfl,oh l];simp[hb]
  |false=>rw[if_neg (by simp)];simp[hb]
theorem IP(s:List UInt8):ap Tryz.prog 148 [.v (.string (mk s))] [] (bD (.v (.bool (fO s).isSome))):=by
 refine Nf _ ?_
 simp only[Jz,↓zq,zs,af,zt,bD]
 have hz:∀{i:Nat},i<s.length->bt (mk s) (i:Int)=((s.getD i 0).toNat:Int):=fun h=>lU s _ h
 refine⟨fun h=>?_,fun h=>⟨fun h3=>?_,fun h3=>?_⟩⟩
 ·rw[fO,if_neg (by omega)];rfl
 ·rw[fO,if_neg (by omega)];rfl
 ·have e0:=hz (i:=0) (by omega)
  have e1:=hz (i:=1) (by omega)
  simp only[cO,dj]at e0 e1
  rw[e0,e1]
  have hx:s.drop (bW 1)=s.drop 1:=rfl
  refine⟨by omega,fun h0=>?_,fun h0=>⟨by omega,?_⟩⟩
  ·rw[fO,if_pos (by omega),if_neg]
   ·rfl
   ·rintro⟨e,_⟩;rw[e]at h0;exact h0 rfl
  ·rw[hx]
   refine ai (HW (s.drop 1) FU (by simp;omega) (by decide) (by decide)) ?_
   simp only[↓zq,zs,af,zt]
   have h101:s.getD 0 0=101:=by rw[<-dT];show (s.getD 0 0).toNat=101;omega
   have hall:Lib.trimS (s.drop 1) FU=[]↔(s.drop 1).all ib=true:=by
    rw[si]
    have:(fun x=>FU.contains x)=ib:=funext uC
    rw[this]
   refine⟨fun ht=>?_,fun ht=>⟨fun h2=>?_,fun h2=>⟨by omega,?_⟩⟩⟩
   ·have:(s.drop 1).all ib=false:=by
     cases hq:(s.drop 1).all ib with
     |false=>rfl
     |true=>exact absurd (hall.2 hq) ht
    rw[fO,if_pos (by omega)]
    split
    ·rw[oh,this]
    ·rfl
   ·have hq:=hall.1 ht
    rw[fO,if_pos (by omega),if_pos ⟨h101,by omega⟩,oh,hq]
   ·have hq:=hall.1 ht
    rw[fO,if_pos (by omega)]
    by_cases h48:s.getD 1 0=48
    ·rw[if_neg (by rintro⟨_,e⟩;exact e ⟨by omega,h48⟩),h48];rfl
    ·rw[if_pos ⟨h101,fun e=>h48 e.2⟩,oh,hq]
     have:¬((s.getD 1 0).toNat:Int)=48:=fun e=>h48 (by rw[<-dT];show (s.getD 1 0).toNat=48;omega)
     rw[bne_iff_ne.2 this]
theorem sG{s:List UInt8}{k:Nat}(h:fO s=some k):s=wY k/\k<100:=by
 have key1:∀a:Fin 256,ib (be a.val)=true->yU [be a.val] 0=some ((be a.val).toNat-48)/\(be a.val).toNat-48<10/\[be a.val]=[be (48+((be a.val).toNat-48))]:=by decide +kernel
 unfold fO at h
 split at h
 ·rename_i hl
  split at h
  ·rename_i hh
   obtain⟨h0,h1⟩:=hh
   rcases hl with hl|hl
   ·match s,hl with
    |
     [c,a],_ =>
     simp only[bn]at h0
     subst h0
     simp only[List.drop_succ_cons,bp,yU]at h
     split at h
     ·rename_i ha
      have:=key1 ⟨a.toNat,a.toNat_lt⟩ (by simpa using ha)
      simp only[UInt8.ofNat_toNat]at this
      cases h
      refine⟨?_,by omega⟩
      rw[wY,eH (by omega)]
      simp only[Nat.mul_zero,aV]
      rw[<-this.2.2]
     ·cases h
   ·match s,hl with
    |
     [c,a,b],_ =>
     simp only[bn,List.getD_cons_succ,aw,aG,true_and]at h0 h1
     subst h0
     simp only[List.drop_succ_cons,bp,yU]at h
     split at h
     ·rename_i ha
      split at h
      ·rename_i hb
       have k1:=key1 ⟨a.toNat,a.toNat_lt⟩ (by simpa using ha)
       have k2:=key1 ⟨b.toNat,b.toNat_lt⟩ (by simpa using hb)
       simp only[UInt8.ofNat_toNat]at k1 k2
       have ha':48<=a.toNat/\a.toNat<=57:=by simpa[ib]using ha
       have hb':48<=b.toNat/\b.toNat<=57:=by simpa[ib]using hb
       have h48:a.toNat≠48:=fun e=>h1 (by rw[<-dT];simpa using e)
       cases h
       simp only[Nat.mul_zero,aV]
       refine⟨?_,by omega⟩
       rw[wY,fP (by omega),eH (by omega)]
       have e1:(10*(a.toNat-48)+(b.toNat-48))/10=a.toNat-48:=by omega
       have e2:(10*(a.toNat-48)+(b.toNat-48))%10=b.toNat-48:=by omega
       rw[e1,e2,<-k1.2.2,<-k2.2.2];rfl
      ·cases h
     ·cases h
  ·cases h
 ·cases h
theorem vr(k:Nat)(h:k<100):fO (wY k)=some k:=by
 have e:∀k,k<100->dd k=if k<10 then [be (48+k)]else [be (48+k/10),be (48+k%10)]:=by
  intro k hk
  by_cases h1:k<10
  ·rw[eH h1,if_pos h1]
  ·rw[fP h1,eH (by omega),if_neg h1];rfl
 have key:∀k:Fin 100,fO (101::(if k.val<10 then [be (48+k.val)]else [be (48+k.val/10),be (48+k.val%10)]))=some k.val:=by decide +kernel
 rw[wY,e k h];exact key ⟨k,h⟩
theorem G6(k:Nat)(h:k<100):BA (wY k)=(k:Int):=by rw[BA,vr k h]
def yq:E->Bool
 | .atom s=>(s==[117])||(fO s).isSome
 | .list [x,a]=>((x.at==[108])||(x.at==[114])||(x.at==[102]))&&yq a
 | .list [x,a,b]=>(x.at==[112])&&(yq a&&yq b)
 | .list _=>false
def fL:E->Option Vl
 | .atom s=>if s=[117]then some .u else match fO s with|some k=>some (.el k)|none=>none
 |
  .list [x,a]=>match fL a with
  |none=>none
  |some v=>if x.at=[108]then some (.l v)else if x.at=[114]then some (.r v)else if x.at=[102]then some (.f v)else none
 | .list [x,a,b]=>if x.at=[112]then(match fL a,fL b with|some v,some w=>some (.p v w)|_,_=>none)else none
 | .list _=>none
theorem oA:∀e:E,(fL e).isSome=yq e
 |
  .atom s=>by
  simp only[fL,yq]
  by_cases h:s=[117]
  ·simp[h]
  ·rw[if_neg h];cases fO s<;>simp[h]
 | .list []=>rfl
 | .list [_]=>rfl
 |
  .list [x,a]=>by
  have ha:=oA a
  rw[fL,yq,<-ha]
  cases fL a with
  |none=>simp
  |
   some v =>
   by_cases h1:x.at=[108]
   ·simp[h1]
   ·by_cases h2:x.at=[114]
    ·simp[h2]
    ·by_cases h3:x.at=[102]
     ·simp[h3]
     ·simp[h1,h2,h3]
 |
  .list [x,a,b]=>by
  have ha:=oA a
  have hb:=oA b
  rw[fL,yq,<-ha,<-hb]
  by_cases h1:x.at=[112]
  ·rw[if_pos h1,h1];cases fL a<;>cases fL b<;>rfl
  ·simp[h1]
 | .list (_::_::_::_::_)=>rfl
theorem ka{x:E}{w:List UInt8}(h:x.at=w)(hw:w≠[]):x=.atom w:=by
 cases x with
 |atom s=>exact congrArg E.atom h
 |list l=>exact absurd h.symm hw
theorem kC:∀(e:E) (v:Vl),fL e=some v->v.cz=e/\v.gz 100
 |
  .atom s,v,h=>by
  simp only[fL]at h
  split at h
  ·rename_i h1;cases h;exact⟨by rw[h1];rfl,trivial⟩
  ·split at h
   ·rename_i k hk
    cases h
    obtain⟨h1,h2⟩:=sG hk
    exact⟨by rw[h1];rfl,h2⟩
   ·cases h
 | .list [],_,h=>by cases h
 | .list [_],_,h=>by cases h
 | .list (_::_::_::_::_),_,h=>by cases h
 |
  .list [x,a],v,h=>by
  rw[fL]at h
  split at h
  ·cases h
  ·rename_i w hw
   obtain⟨h1,h2⟩:=kC a w hw
   split at h
   ·rename_i hx;cases h;rw[ka hx (by simp)];exact⟨by rw[Vl.cz,h1],h2⟩
   ·split at h
    ·rename_i hx;cases h;rw[ka hx (by simp)];exact⟨by rw[Vl.cz,h1],h2⟩
    ·split at h
     ·rename_i hx;cases h;rw[ka hx (by simp)];exact⟨by rw[Vl.cz,h1],h2⟩
     ·cases h
 |
  .list [x,a,b],v,h=>by
  rw[fL]at h
  split at h
  ·rename_i hx
   split at h
   ·rename_i w1 w2 hw1 hw2
    cases h
    obtain⟨h1,h2⟩:=kC a w1 hw1
    obtain⟨h3,h4⟩:=kC b w2 hw2
    rw[ka hx (by simp)]
    exact⟨by rw[Vl.cz,h1,h3],h2,h4⟩
   ·cases h
  ·cases h
def pO(e:E)(w:List UInt8)(k:Nat):Bool:=match e with| .list (x::l)=>decide (l.length+1=k)&&(x.at==w)|_=>false
theorem sH(e:E)(w:List UInt8)(k:Nat)(hk:1<=k):ap Tryz.prog 149 [e.ct,.v (.string (mk w)),.v (.int .i64 (k:Int))] [] (bD (.v (.bool (pO e w k)))):=by
 refine HN _ _ _ ((cQ e).mpr trivial) ?_
 cases e with
 |atom s=>simp only[BL,E.ct,↓zq,zs,af,zt,bD,pO];exact⟨by omega,fun h=>by omega,fun _=>trivial⟩
 |
  list l =>
  simp only[BL,E.ct,↓zq,zs,af,zt,bD,qO]
  cases l with
  |nil=>exact⟨by simp,fun h=>by simp at h;omega,fun _=>rfl⟩
  |
   cons x l =>
   simp only[aw]
   refine⟨by simp,fun h=>?_,fun h=>?_⟩
   ·have:decide (l.length+1=k)=true:=by rw[decide_eq_true_eq];omega
    simp only[pO,this]
    cases x<;>simp[E.l8,E.ct,ck,pz,jJ,dI,tB,toList_mk,E.at]
   ·have:decide (l.length+1=k)=false:=by rw[decide_eq_false_iff_not];omega
    simp only[pO,this];rfl
def iD:Option Vl->AV
 |some v=>v.ct
 |none=>.v (.pointer none)
end Go.Proofs.Trees
namespace Go.Proofs.Trees
open Go Go.VL Go.RowKit
theorem jl(v:Option Vl):LK.has .ptr (iD v)=True:=by cases v<;>simp[iD,aN,jd]
theorem zz:∀(e:E),e.ok->ap Tryz.prog 104 [e.ct] [] (bD (iD (fL e)))
 |
  .atom s,hok=>by
  refine Mp _ ((cQ _).mpr trivial) ?_
  have hd:=nB (.atom s)
  have hlen:=lR (.atom s)
  simp only[E.at]at hd
  simp only[GS,↓zq,zs,af,zt,bD,cQ,en,hd,fL]
  refine⟨hlen,fun h=>?_,fun h=>⟨hlen,?_⟩⟩
  ·rw[if_pos h];rfl
  ·rw[if_neg h]
   refine ai (IP s) ?_
   simp only[↓zq,zs,af,zt]
   refine⟨fun he=>⟨hlen,?_⟩,fun he=>?_⟩
   ·obtain⟨k,hk⟩:=bq.1 he
    obtain⟨h1,h2⟩:=sG hk
    rw[hk,h1];rfl
   ·have hn:fO s=none:=by cases hq:fO s<;>simp[hq]at he |-
    rw[hn]
    refine ai (sH (.atom s) [108] 2 (by omega)) ?_
    simp only[pO,↓zq,zs,af,zf]
    refine⟨fun h=>(by cases h),fun _=>ai (sH (.atom s) [114] 2 (by omega)) ?_⟩
    simp only[pO,↓zq,zs,af,zf]
    refine⟨fun h=>(by cases h),fun _=>ai (sH (.atom s) [102] 2 (by omega)) ?_⟩
    simp only[pO,↓zq,zs,af,zf]
    refine⟨fun h=>(by cases h),fun _=>ai (sH (.atom s) [112] 3 (by omega)) ?_⟩
    simp only[pO,↓zq,zs,af,zf]
    exact⟨fun h=>(by cases h),fun _=>rfl⟩
 |
  .list l,hok=>by
  refine Mp _ ((cQ _).mpr trivial) ?_
  have hd:=nB (.list l)
  have hlen:=lR (.list l)
  have hlen2:∀{l:List E},((AV.v (.string (mk [])))::[AV.sl (E.l8 l)]).length=2:=rfl
  simp only[E.at]at hd
  have he:fO []=none:=rfl
  simp only[GS,↓zq,zs,af,zt,bD,cQ,en,hd]
  refine⟨hlen,fun h=>(by cases h),fun h=>⟨hlen,?_⟩⟩
  refine ai (IP []) ?_
  rw[he]
  simp only[↓zq,zs,af,zt,zf,cj]
  refine⟨fun h=>(by cases h),fun _=>ai (sH (.list l) [108] 2 (by omega)) ?_⟩
  have hno:∀w:List UInt8,(∀x a,l≠[x,a])->pO (.list l) w 2=false:=by
   intro w h2
   match l,h2 with
   |[],_=>rfl
   |[x],_=>rfl
   |[x,a],h2=>exact absurd rfl (h2 x a)
   |x::y::z::l,_=>simp[pO]
  match l,hok,hno,hlen with
  |
   [x,a],hok,hno,hlen =>
   clear hno
   obtain⟨ok1,ok2,_⟩:=hok
   have e2:∀w:List UInt8,pO (.list [x,a]) w 2=(x.at==w):=fun w=>rfl
   have e3:pO (.list [x,a]) [112] 3=false:=rfl
   have hx:=nB x
   have hxl:=lR x
   rw[fL]
   simp only[e2,↓zq,zs,af]
   refine⟨fun h1=>?_,fun h1=>ai (sH (.list [x,a]) [114] 2 (by omega)) ?_⟩
   ·simp only[E.ct,E.l8,toNat_one,↓zq,zs,af,zt,cQ,en]
    refine⟨by omega,by omega,by omega,ai (zz a ok2) ?_⟩
    cases hv:fL a with
    |none=>simp only[iD,↓zq,zs,af,jl];exact⟨fun _=>trivial,fun h=>(by cases h)⟩
    |
     some v =>
     simp only[iD,↓zq,zs,af,zt,aN,fg,hx,h1,cQ,en]
     refine⟨fun h=>(by cases h),fun _=>⟨by omega,by omega,by omega,hxl,by simp,?_⟩⟩
     rfl
   ·simp only[e2,↓zq,zs,af]
    refine⟨fun h2=>?_,fun h2=>ai (sH (.list [x,a]) [102] 2 (by omega)) ?_⟩
    ·simp only[E.ct,E.l8,toNat_one,↓zq,zs,af,zt,cQ,en]
     refine⟨by omega,by omega,by omega,ai (zz a ok2) ?_⟩
     cases hv:fL a with
     |none=>simp only[iD,↓zq,zs,af,jl];exact⟨fun _=>trivial,fun h=>(by cases h)⟩
     |
      some v =>
      simp only[iD,↓zq,zs,af,zt,aN,fg,hx,h2,cQ,en]
      refine⟨fun h=>(by cases h),fun _=>⟨by omega,by omega,by omega,hxl,by simp,?_⟩⟩
      rfl
    ·simp only[e2,↓zq,zs,af]
     refine⟨fun h3=>?_,fun h3=>ai (sH (.list [x,a]) [112] 3 (by omega)) ?_⟩
     ·simp only[E.ct,E.l8,toNat_one,↓zq,zs,af,zt,cQ,en]
      refine⟨by omega,by omega,by omega,ai (zz a ok2) ?_⟩
      cases hv:fL a with
      |none=>simp only[iD,↓zq,zs,af,jl];exact⟨fun _=>trivial,fun h=>(by cases h)⟩
      |
       some v =>
       simp only[iD,↓zq,zs,af,zt,aN,fg,hx,h3,cQ,en]
       refine⟨fun h=>(by cases h),fun _=>⟨by omega,by omega,by omega,hxl,by simp,?_⟩⟩
       rfl
     ·rw[e3]
      simp only[↓zq,zs,af]
      refine⟨fun h=>(by cases h),fun _=>?_⟩
      cases fL a with
      |none=>rfl
      |some v=>simp only[if_neg h1,if_neg h2,if_neg h3];rfl
  |
   [x,a,b],hok,hno,hlen =>
   obtain⟨ok1,ok2,ok3,_⟩:=hok
   have h2:=fun w=>hno w (fun x a h=>(by cases h))
   rw[h2]
   simp only[↓zq,zs,af]
   refine⟨fun h=>(by cases h),fun _=>ai (sH (.list [x,a,b]) [114] 2 (by omega)) ?_⟩
   rw[h2]
   simp only[↓zq,zs,af]
   refine⟨fun h=>(by cases h),fun _=>ai (sH (.list [x,a,b]) [102] 2 (by omega)) ?_⟩
   rw[h2]
   simp only[↓zq,zs,af]
   refine⟨fun h=>(by cases h),fun _=>ai (sH (.list [x,a,b]) [112] 3 (by omega)) ?_⟩
   have e3:pO (.list [x,a,b]) [112] 3=(x.at==[112]):=rfl
   rw[e3,fL]
   simp only[↓zq,zs,af]
   refine⟨fun h1=>?_,fun h1=>?_⟩
   ·rw[if_pos h1]
    simp only[E.ct,E.l8,toNat_one,a7,↓zq,zs,af,zt,cQ,en]
    refine⟨by omega,by omega,by omega,ai (zz a ok2) ?_⟩
    simp only[↓zq,zs,af,jl,cQ]
    refine⟨by omega,by omega,by omega,ai (zz b ok3) ?_⟩
    cases hv:fL a with
    |none=>cases hw:fL b<;>simp only[iD,↓zq,zs,af,jl,aN]<;>exact⟨fun _=>trivial,fun h=>(by cases h)⟩
    |
     some v =>
     cases hw:fL b with
     |
      none =>
      simp only[iD,↓zq,zs,af,jl,aN,fg]
      exact⟨fun h=>(by cases h),fun _=>⟨fun _=>trivial,fun h=>(by cases h)⟩⟩
     |
      some w =>
      simp only[iD,↓zq,zs,af,aN,fg]
      refine⟨fun h=>(by cases h),fun _=>⟨fun h=>(by cases h),fun _=>?_⟩⟩
      refine ai (yH _ _ ((aN _).mpr trivial) ((aN _).mpr trivial)) ?_
      simp only[↓zq,zs,af];rfl
   ·rw[if_neg h1];rfl
  |
   [],hok,hno,hlen =>
   have h2:=fun w=>hno w (fun x a h=>(by cases h))
   have e3:pO (.list []) [112] 3=false:=rfl
   rw[h2]
   simp only[↓zq,zs,af]
   refine⟨fun h=>(by cases h),fun _=>ai (sH (.list []) [114] 2 (by omega)) ?_⟩
   rw[h2]
   simp only[↓zq,zs,af]
   refine⟨fun h=>(by cases h),fun _=>ai (sH (.list []) [102] 2 (by omega)) ?_⟩
   rw[h2]
   simp only[↓zq,zs,af]
   refine⟨fun h=>(by cases h),fun _=>ai (sH (.list []) [112] 3 (by omega)) ?_⟩
   rw[e3]
   simp only[↓zq,zs,af]
   exact⟨fun h=>(by cases h),fun _=>rfl⟩
  |
   [x],hok,hno,hlen =>
   have h2:=fun w=>hno w (fun x a h=>(by cases h))
   have e3:pO (.list [x]) [112] 3=false:=rfl
   rw[h2]
   simp only[↓zq,zs,af]
   refine⟨fun h=>(by cases h),fun _=>ai (sH (.list [x]) [114] 2 (by omega)) ?_⟩
   rw[h2]
   simp only[↓zq,zs,af]
   refine⟨fun h=>(by cases h),fun _=>ai (sH (.list [x]) [102] 2 (by omega)) ?_⟩
   rw[h2]
   simp only[↓zq,zs,af]
   refine⟨fun h=>(by cases h),fun _=>ai (sH (.list [x]) [112] 3 (by omega)) ?_⟩
   rw[e3]
   simp only[↓zq,zs,af]
   exact⟨fun h=>(by cases h),fun _=>rfl⟩
  |
   x::y::z::w::l,hok,hno,hlen =>
   have h2:=fun w=>hno w (fun x a h=>(by cases h))
   have e3:pO (.list (x::y::z::w::l)) [112] 3=false:=by simp[pO]
   rw[h2]
   simp only[↓zq,zs,af]
   refine⟨fun h=>(by cases h),fun _=>ai (sH (.list (x::y::z::w::l)) [114] 2 (by omega)) ?_⟩
   rw[h2]
   simp only[↓zq,zs,af]
   refine⟨fun h=>(by cases h),fun _=>ai (sH (.list (x::y::z::w::l)) [102] 2 (by omega)) ?_⟩
   rw[h2]
   simp only[↓zq,zs,af]
   refine⟨fun h=>(by cases h),fun _=>ai (sH (.list (x::y::z::w::l)) [112] 3 (by omega)) ?_⟩
   rw[e3]
   simp only[↓zq,zs,af]
   exact⟨fun h=>(by cases h),fun _=>rfl⟩
def rR(s:List UInt8):Option Vl:=match qA s with
 |none=>none
 |
  some e=>match fL e with
  |none=>none
  |some v=>if v.nodes>200 then none else some v
theorem lh{s:List UInt8}{v:Vl}(h:rR s=some v):qA s=some v.cz/\v.gz 100/\v.nodes<=200:=by
 unfold rR at h
 split at h
 ·cases h
 ·rename_i e he
  split at h
  ·cases h
  ·rename_i w hw
   split at h
   ·cases h
   ·cases h
    obtain⟨h1,h2⟩:=kC e _ hw
    rw[h1]
    exact⟨he,h2,by omega⟩
theorem vX{e:E}{v:Vl}(h:fL e=some v):v.nodes<=e.sz:=by
 obtain⟨h1,_⟩:=kC e v h
 rw[<-nM,h1];exact Bx e
theorem PI(s:List UInt8):ap Tryz.prog 48 [.v (.string (mk s))] [] (bD (iD (rR s))):=by
 refine N2 _ ?_
 unfold JF
 refine ai (JC s) ?_
 unfold rR
 cases he:qA s with
 |none=>simp only[tH,↓zq,zs,af,bD,iD];simp
 |
  some e =>
  obtain⟨h1,h2⟩:=nH he
  simp only[tH,↓zq,zs,af,cQ,en]
  refine⟨fun h=>(by cases h),fun _=>?_⟩
  refine ai (zz e h1) ?_
  cases hv:fL e with
  |none=>simp only[iD,↓zq,zs,af,bD];simp
  |
   some v =>
   have hn:=vX hv
   simp only[iD,↓zq,zs,af,aN,fg]
   refine⟨fun h=>(by cases h),fun _=>?_⟩
   refine ai (vR v (by omega)) ?_
   simp only[↓zq,zs,af,bD]
   refine⟨fun h=>?_,fun h=>?_⟩
   ·rw[if_pos (by omega)]
   ·rw[if_neg (by omega)]
theorem zv:∀(e:E),e.ok->ap Tryz.prog 85 [e.km] [] (bD (.v (.bool (yq e))))
 |
  .atom s,hok=>by
  refine yB _ _ ((bu).mpr trivial) ?_
  have hne:s≠[]:=hok
  simp only[wA,↓zq,zs,af,zt,bD,yq]
  refine⟨fun _=>⟨fun h=>?_,fun h=>?_⟩,fun h=>absurd h hne⟩
  ·simp[h]
  ·refine ai (Jp s) ?_
   have h':(s==[117])=false:=by simpa using h
   simp only[↓zq,zs,af,h',Bool.false_or]
   congr 2
   rw[BA]
   cases fO s with
   |none=>rfl
   |some k=>simp
 |
  .list [],hok=>by
  refine yB _ _ ((cd _).mpr trivial) ?_
  simp only[wA,↓zq,zs,af,zt,bD,yq]
  refine⟨fun h=>absurd rfl h,fun _=>?_⟩
  refine ai MQ ?_
  simp[↓zq,zs,af,zt]
 |
  .list [x],hok=>by
  refine yB _ _ ((cd _).mpr trivial) ?_
  simp only[wA,↓zq,zs,af,zt,bD,yq]
  refine⟨fun h=>absurd rfl h,fun _=>?_⟩
  refine ai (uw x _) ?_
  simp[↓zq,zs,af,zt,E.bj]
 |
  .list (x::y::z::w::l),hok=>by
  refine yB _ _ ((cd _).mpr trivial) ?_
  simp only[wA,↓zq,zs,af,zt,bD,yq]
  refine⟨fun h=>absurd rfl h,fun _=>?_⟩
  refine ai (uw x _) ?_
  simp only[↓zq,zs,af,zt,E.bj]
  refine⟨fun _=>⟨fun h=>by omega,fun _=>trivial⟩,fun _=>⟨fun _=>⟨fun h=>by omega,fun _=>trivial⟩,fun _=>⟨fun _=>⟨fun h=>by omega,fun _=>trivial⟩,fun _=>⟨fun _=>⟨fun h=>by omega,fun _=>trivial⟩,fun _=>trivial⟩⟩⟩⟩
 |
  .list [x,a],hok=>by
  refine yB _ _ ((cd _).mpr trivial) ?_
  obtain⟨ok1,ok2,_⟩:=hok
  simp only[wA,↓zq,zs,af,zt,bD,yq]
  refine⟨fun h=>absurd rfl h,fun _=>?_⟩
  refine ai (uw x _) ?_
  simp only[E.bj,toNat_one,a7,↓zq,zs,af,zt,iS,gj,iV,mI,aq]
  refine⟨fun h=>⟨fun _=>⟨by omega,?_⟩,fun h=>by omega⟩,fun h1=>⟨fun h=>⟨fun _=>⟨by omega,?_⟩,fun h=>by omega⟩,fun h2=>⟨fun h=>⟨fun _=>⟨by omega,?_⟩,fun h=>by omega⟩,fun h3=>⟨fun h=>⟨fun h=>by omega,fun _=>?_⟩,fun h=>?_⟩⟩⟩⟩
  ·refine ai (zv a ok2) ?_
   simp[↓zq,zs,af,h]
  ·refine ai (zv a ok2) ?_
   simp[↓zq,zs,af,h]
  ·refine ai (zv a ok2) ?_
   simp[↓zq,zs,af,h]
  ·simp[h]
  ·simp[h1,h2,h3]
 |
  .list [x,a,b],hok=>by
  refine yB _ _ ((cd _).mpr trivial) ?_
  obtain⟨ok1,ok2,ok3,_⟩:=hok
  simp only[wA,↓zq,zs,af,zt,bD,yq]
  refine⟨fun h=>absurd rfl h,fun _=>?_⟩
  refine ai (uw x _) ?_
  simp only[E.bj,toNat_one,a7,↓zq,zs,af,zt,iS,gj,iV,mI,aq]
  refine⟨fun h=>⟨fun h=>by omega,fun _=>?_⟩,fun h1=>⟨fun h=>⟨fun h=>by omega,fun _=>?_⟩,fun h2=>⟨fun h=>⟨fun h=>by omega,fun _=>?_⟩,fun h3=>⟨fun h=>⟨fun _=>⟨by omega,?_⟩,fun h=>by omega⟩,fun h=>?_⟩⟩⟩⟩
  ·simp[h]
  ·simp[h]
  ·simp[h]
  ·refine ai (zv a ok2) ?_
   simp only[↓zq,zs,af,h]
   refine⟨fun ha=>⟨by omega,ai (zv b ok3) ?_⟩,fun ha=>?_⟩
   ·simp[↓zq,zs,af,ha]
   ·simp[ha]
  ·simp[h]
theorem zV(s:List UInt8):ap Tryz.prog 37 [.v (.string (mk s))] [] (jn ((rR s).map Vl.cz) (rR s).isSome):=by
 refine MD _ ?_
 unfold I9
 refine aO (Ma s) (jn.ne _ _ (fun h=>h)) ?_
 rintro r o ⟨c,d,hd,rfl,hh⟩
 simp only[↓zq,zs,af,zt,bz,rR]
 refine⟨hd,fun h=>?_,fun h=>?_⟩
 ·obtain⟨e,he,hce⟩:=hh h
  obtain⟨hok,hsz⟩:=nH he
  rw[he,hce]
  refine ai (zv e hok) ?_
  simp only[↓zq,zs,af]
  have hs:=oA e
  refine⟨fun hi=>?_,fun hi=>?_⟩
  ·rw[hi]at hs
   obtain⟨v,hv⟩:=bq.1 hs
   obtain⟨h1,h2⟩:=kC e v hv
   refine ai (NU e (by omega)) ?_
   simp only[↓zq,zs,af,hv]
   have hnd:e.nd=v.nodes:=by rw[<-h1,nM]
   rw[hnd]
   refine⟨c,d,hd,?_,?_⟩
   ·rw[hce]
    by_cases h4:v.nodes>200
    ·rw[if_pos h4];exact congrArg (fun b=>AV.cA [e.km,.v (.bool b)]) (decide_eq_false (show ¬((v.nodes:Nat):Int)<=200 by omega))
    ·rw[if_neg h4];exact congrArg (fun b=>AV.cA [e.km,.v (.bool b)]) (decide_eq_true (show ((v.nodes:Nat):Int)<=200 by omega))
   ·split
    ·exact fun h=>by cases h
    ·exact fun _=>⟨e,by simp[h1],hce⟩
  ·rw[hi]at hs
   have hn:fL e=none:=by cases hq:fL e<;>simp[hq]at hs |-
   rw[hn]
   exact⟨c,d,hd,by rw[hce];rfl,fun h=>by cases h⟩
 ·have hn:qA s=none:=by cases hq:qA s<;>simp[hq]at h |-
  rw[hn]
  exact⟨c,d,hd,rfl,fun h=>by cases h⟩
end Go.Proofs.Trees
namespace Go.Proofs.Trees
open Go Go.VL Go.RowKit
inductive Fr where
 |mk (s:List UInt8) (e:E) (o:List Fr)
def Fr.nm:Fr->List UInt8| .mk s _ _=>s
def Fr.ex:Fr->E| .mk _ e _=>e
def Fr.out:Fr->List Fr| .mk _ _ o=>o
def names:List Fr->List (List UInt8)
 |[]=>[]
 |f::r=>names r++[f.nm]
def yn(e:E)(o:List Fr):Ty:=(cN e (names o)).getD .zero
def E.sp:E->AV
 | .atom _=>.v (.slice none 0 0)
 | .list l=>.sl (E.bj l)
theorem fF(e:E):e.ic=[.v (.string (mk e.at)),e.sp]:=by cases e<;>rfl
theorem dh(e:E):e.km=.agg [.v (.string (mk e.at)),e.sp]:=by cases e<;>rfl
theorem aU(e:E):LK.has .sl e.sp=True:=by cases e<;>simp[E.sp,bu,cd]
mutual
def Fr.cells:Fr->List AV
 | .mk s e o=>[.v (.string (mk s)),.v (.string (mk e.at)),e.sp,.sl (j2 o)]
def j2:List Fr->List (List AV)
 |[]=>[]
 |f::r=>j2 r++[f.cells]
end
mutual
def Fr.ct:Fr->AV
 | .mk s e o=>.ptr [(yn e o).av,oR o]
def oR:List Fr->AV
 |[]=>jh
 |f::r=>.ptr [f.ct,oR r]
end
inductive WF:List Fr->Prop
 |nil:WF []
 |cons {s:List UInt8} {x a b:E} {t:Ty} {r:List Fr} (hs:db s=true) (hok:(E.list [x,a,b]).ok) (hx:x.at=[114,101,99]) (ht:cN (.list [x,a,b]) (names r)=some t) (hf:bR t=false) (hr:WF r):WF (.mk s (.list [x,a,b]) r::r)
theorem kT:∀env:List Fr,(j2 env).length=env.length
 |[]=>rfl
 |f::r=>by simp[j2,kT r]
theorem ew(env:List Fr):LK.has .ptr (oR env)=True:=by cases env<;>simp[oR,jd,ck]
theorem zP(f:Fr):LK.has .ptr f.ct=True:=by cases f;simp[Fr.ct,ck]
def fW(s:List UInt8):List Fr->Option Fr
 |[]=>none
 |f::r=>if f.nm=s then some f else fW s r
def hd(e:E)(env:List Fr):E×List Fr:=match fW e.at env with|some f=>(f.ex,f.out)|none=>(e,env)
theorem kN{env:List Fr}(h:WF env):fW [] env=none:=by
 induction h with
 |nil=>rfl
 |
  @cons s x a b t r hs hok hx ht hf hr ih =>
  rw[fW,if_neg (show ¬(Fr.mk s (.list [x,a,b]) r).nm=[] from AX hs)];exact ih
theorem zg{env:List Fr}(h:WF env){s:List UInt8}{f:Fr}(hf:fW s env=some f):db s=true:=by
 induction h with
 |nil=>cases hf
 |
  cons hs hok hx ht hf' hr ih =>
  rw[fW]at hf
  split at hf
  ·rename_i e;exact e ▸ hs
  ·exact ih hf
theorem oC{env:List Fr}(h:WF env){s:List UInt8}{f:Fr}(hf:fW s env=some f):∃x a b t,f.ex=.list [x,a,b]/\(E.list [x,a,b]).ok/\x.at=[114,101,99]/\cN f.ex (names f.out)=some t/\bR t=false/\WF f.out/\f.out.length<env.length:=by
 induction h with
 |nil=>cases hf
 |
  cons hs hok hx ht hf' hr ih =>
  rw[fW]at hf
  split at hf
  ·cases hf;exact⟨_,_,_,_,rfl,hok,hx,ht,hf',hr,by simp[Fr.out]⟩
  ·obtain⟨x,a,b,t,h1,h2,h3,h4,h5,h6,h7⟩:=ih hf
   exact⟨x,a,b,t,h1,h2,h3,h4,h5,h6,by simp;omega⟩
theorem kg(s w:List UInt8)(ar:List (List UInt8)):∀i,i<=ar.length->bG s (ar++[w]) i=(bG s ar i).map (·+1)
 |0,_=>rfl
 |
  i+1,hi=>by
  have hlt:i<ar.length:=by omega
  have e:(ar++[w]).getD i []=ar.getD i []:=by simp[aa,List.getElem?_append_left hlt]
  rw[bG,bG,e,kg s w ar i (by omega)]
  split
  ·simp only[an,aw,aG,cv,Option.some.injEq];omega
  ·rfl
theorem uS(s:List UInt8)(f:Fr)(r:List Fr):bG s (names (f::r)) (names (f::r)).length=if f.nm=s then some 0 else(bG s (names r) (names r).length).map (·+1):=by
 have e:(names (f::r)).length=(names r).length+1:=by simp[names]
 rw[e,bG]
 have e2:(names (f::r)).getD (names r).length []=f.nm:=by simp[names,aa]
 rw[e2]
 split
 ·rw[e];simp
 ·rw[names,kg _ _ _ _ (aq _)]
theorem oM(s:List UInt8):∀env:List Fr,bG s (names env) (names env).length=none/\fW s env=none\/∃(u:Nat) (f:Fr),bG s (names env) (names env).length=some u/\fW s env=some f/\env[u]?=some f
 |[]=>.inl ⟨rfl,rfl⟩
 |
  f::r=>by
  rw[uS,fW]
  split
  ·exact .inr ⟨0,f,rfl,rfl,rfl⟩
  ·rcases oM s r with⟨h1,h2⟩|⟨u,g,h1,h2,h3⟩
   ·exact .inl ⟨by rw[h1];rfl,h2⟩
   ·exact .inr ⟨u+1,g,by rw[h1];rfl,h2,by simpa using h3⟩
def Ty.Mu:Ty->Bool
 | .bJ _=>true
 |_=>false
theorem gq{e:E}{env:List Fr}{t:Ty}(hw:WF env)(ht:cN e (names env)=some t) :
 (t.Mu=false/\fW e.at env=none)\/∃(u:Nat) (f:Fr),t=.bJ u/\fW e.at env=some f/\env[u]?=some f:=by
 cases e with
 |
  list l =>
  left
  refine⟨?_,kN hw⟩
  match l,ht with
  |
   [x,a,b],ht =>
   by_cases h0:x.at=[43]
   ·obtain⟨t1,t2,_,_,rfl⟩:=fH h0 ht;rfl
   ·by_cases h1:x.at=[42]
    ·obtain⟨t1,t2,_,_,rfl⟩:=fk h1 ht;rfl
    ·by_cases h2:x.at=[114,101,99]
     ·obtain⟨t1,_,_,rfl⟩:=dw h2 ht;rfl
     ·rw[jb _ h0 h1 h2]at ht;cases ht
  |[],ht=>cases ht
  |[_],ht=>cases ht
  |[_,_],ht=>cases ht
  |_::_::_::_::_,ht=>cases ht
 |
  atom s =>
  simp only[cN]at ht
  have hno:db s=false->fW s env=none:=fun h=>by
   cases hq:fW s env with
   |none=>rfl
   |some f=>rw[zg hw hq]at h;cases h
  split at ht
  ·rename_i h;cases ht;subst h;exact .inl ⟨rfl,hno rfl⟩
  ·split at ht
   ·rename_i h;cases ht;subst h;exact .inl ⟨rfl,hno rfl⟩
   ·split at ht
    ·rename_i h
     cases ht
     refine .inl ⟨rfl,hno ?_⟩
     cases hq:db s with
     |false=>rfl
     |
      true =>
      obtain⟨c,r,rfl,h1,h2⟩:=lD h
      obtain⟨c',r',he,h3,h4⟩:=lD hq
      cases he;omega
    ·split at ht
     ·rcases oM s env with⟨h1,h2⟩|⟨u,f,h1,h2,h3⟩
      ·rw[h1]at ht;cases ht;exact .inl ⟨rfl,h2⟩
      ·rw[h1]at ht;cases ht;exact .inr ⟨u,f,rfl,h2,h3⟩
     ·cases ht
def eV(n:Nat):Vl->E×List Fr->Bool
 | .u,p=>match hd p.1 p.2 with|(.atom s,_)=>s==[49]|_=>false
 | .el k,p=>match hd p.1 p.2 with|(.atom s,_)=>!(s==[49])&&(gV s&&decide (k<n))|_=>false
 | .l w,p=>match hd p.1 p.2 with|(.list [x,a,b],o)=>(x.at==[43])&&eV n w (a,o)|_=>false
 | .r w,p=>match hd p.1 p.2 with|(.list [x,a,b],o)=>(x.at==[43])&&eV n w (b,o)|_=>false
 | .f w,p=>match hd p.1 p.2 with|(.list [x,a,b],o)=>(x.at==[114,101,99])&&eV n w (b,.mk a.at (.list [x,a,b]) o::o)|_=>false
 | .p v w,p=>match hd p.1 p.2 with|(.list [x,a,b],o)=>(x.at==[42])&&(eV n v (a,o)&&eV n w (b,o))|_=>false
theorem kj{e:E}{env:List Fr}(h:fW e.at env=none):hd e env=(e,env):=by rw[hd,h]
theorem qv{e:E}{env:List Fr}{f:Fr}(h:fW e.at env=some f):hd e env=(f.ex,f.out):=by rw[hd,h]
theorem po{x a b:E}{o:List Fr}(h:WF o):hd (.list [x,a,b]) o=(.list [x,a,b],o):=kj (kN h)
theorem ue(n:Nat)(v:Vl){e e':E}{env o:List Fr}(h:hd e env=(e',o))(h':hd e' o=(e',o)):eV n v (e,env)=eV n v (e',o):=by
 cases v<;>simp only[eV,h,h']
theorem jm{x a b:E}{env:List Fr}{t:Ty}(hw:WF env)(hok:(E.list [x,a,b]).ok)(hx:x.at=[114,101,99])(ht:cN (.list [x,a,b]) (names env)=some t)(hf:bR t=false) :
 ∃t1,t=.rc t1/\cN b (names (.mk a.at (.list [x,a,b]) env::env))=some t1/\bR t1=false/\WF (.mk a.at (.list [x,a,b]) env::env):=by
 obtain⟨t1,hl,h1,rfl⟩:=dw hx ht
 exact⟨t1,rfl,h1,hf,.cons hl hok hx ht hf hw⟩
theorem yY(a b env:AV)(n:Int)(s:ByteArray)(u:Int)(ha:LK.ptr.has a)(he:LK.ptr.has env):ap Tryz.prog 105 [.agg [.ptr [.v (.int .u8 n),.v (.string s),.v (.int .i64 u),a,b],env]] [] (bD (.agg [a,env])):=by
 refine Pw _ _ ((ck _).mpr trivial) he ?_
 simp only[Jc,↓zq,zs,af,bD]
 exact⟨ha,by omega⟩
theorem y7(a b env:AV)(n:Int)(s:ByteArray)(u:Int)(hb:LK.ptr.has b)(he:LK.ptr.has env):ap Tryz.prog 106 [.agg [.ptr [.v (.int .u8 n),.v (.string s),.v (.int .i64 u),a,b],env]] [] (bD (.agg [b,env])):=by
 refine M7 _ _ ((ck _).mpr trivial) he ?_
 simp only[H7,↓zq,zs,af,bD]
 exact⟨hb,by omega⟩
theorem OT(t:Ty)(env:List Fr)(s:List UInt8)(e:E)(ht:yn e env=.rc t):ap Tryz.prog 107 [.agg [(Ty.rc t).av,oR env]] [] (bD (.cA [.agg [t.av,oR (.mk s e env::env)],(Fr.mk s e env).ct])):=by
 refine OS _ _ ((aF _).mpr trivial) ((ew _).mpr trivial) ?_
 simp only[K1,Ty.av,↓zq,zs,af,aF,bD,oR,Fr.ct,ht]
 omega
theorem s6(env:List Fr)(i:Nat)(f:Fr)(h:env[i]?=some f):oR (env.drop i)=.ptr [f.ct,oR (env.drop (i+1))]:=by
 obtain⟨hlt,he⟩:=List.getElem?_eq_some_iff.1 h
 rw[aY hlt,he,oR]
theorem KX(env:List Fr)(u:Nat)(hu:u<env.length)(hl:env.length<1000000):∀(k i:Nat),i+k=u->B3 [oR (env.drop i),.v (.int .i64 (u:Int)),.v (.int .i64 (i:Int))] [] (iF 1 [oR (env.drop u)] [])
 |
  0,i,hi=>by
  refine B7 _ _ _ ?_
  have:i=u:=by omega
  subst this
  simp only[zY,↓zq,zs,af,ew]
  exact⟨fun h=>by omega,fun _=>by simp[iF]⟩
 |
  k+1,i,hi=>by
  refine B7 _ _ _ ?_
  have hlt:i<env.length:=by omega
  have hg:env[i]?=some env[i]:=bm hlt
  have hd:=s6 env i _ hg
  rw[hd]
  simp only[zY,↓zq,zs,af,ew]
  refine⟨fun _=>⟨by omega,?_⟩,fun h=>by omega⟩
  rw[bE i (by omega)]
  exact KX env u hu hl k (i+1) (by omega)
theorem Oi(env:List Fr)(u:Nat)(f:Fr)(hf:env[u]?=some f)(hl:env.length<1000000):ap Tryz.prog 133 [.agg [(Ty.bJ u).av,oR env]] [] (bD f.ct):=by
 refine H9 _ _ ((aF _).mpr trivial) ((ew _).mpr trivial) ?_
 obtain⟨hlt,he⟩:=List.getElem?_eq_some_iff.1 hf
 simp only[F8,Ty.av,↓zq,zs,af]
 refine⟨by omega,?_⟩
 have h:=KX env u hlt hl u 0 (by omega)
 simp only[bp]at h
 refine cw h ?_
 rw[s6 env u f hf]
 simp only[↓zq,zs,af,zP,bD]
 omega
theorem Dt(k:Nat)(h:k<100):Lib.atoi (dd k)=some (k:Int):=by
 have e:∀k,k<100->dd k=if k<10 then [be (48+k)]else [be (48+k/10),be (48+k%10)]:=by
  intro k hk
  by_cases h1:k<10
  ·rw[eH h1,if_pos h1]
  ·rw[fP h1,eH (by omega),if_neg h1];rfl
 have key:∀k:Fin 100,Lib.atoi (if k.val<10 then [be (48+k.val)]else [be (48+k.val/10),be (48+k.val%10)])=some (k.val:Int):=by decide +kernel
 rw[e k h];exact key ⟨k,h⟩
theorem PP(k:Nat)(hk:k<100):ap Tryz.prog 81 [.v (.string (mk (dd k)))] [] (bD (.cA [.v (.int .i64 (k:Int)),.v .nilIface])):=by
 have hl:=mD 1000 k (by omega)
 have hl2:(dd k).length<=18:=by
  have e:(dd k).length<=2:=by
   by_cases h1:k<10
   ·rw[eH h1];simp
   ·rw[fP h1,eH (by omega)];simp
  omega
 refine ap.OQ (xs:=[.string (mk (dd k))]) (v:=.tuple #[.int .i64 (k:Int),.nilIface]) ⟨p8,by kernel_rfl,by kernel_rfl,by kernel_rfl⟩ (fun M=>?_) fun w=>?_
 ·refine bx.cA _ _ [.int .i64 (k:Int),.nilIface] rfl fun i hi=>?_
  match i,hi with
  |0,_=>exact .v _ _
  |1,_=>exact .v _ _
 ·have:=Any.strconv_Atoi Tryz.BZ (mk (dd k)) (k:Int) (by rw[cB];exact hl2) (by
   have:(mk (dd k)).data.toList=dd k:=by simp[mk]
   rw[this];exact Dt k hk) w
  refine Calls.mono this fun e w' ⟨h1,t,h2⟩=>⟨h1,?_⟩
  subst h2
  refine⟨rfl,rfl,rfl,?_,fun b hb=>Lib.bytesWorld_at_old _ _ _ _ hb⟩
  simp[Lib.bytesWorld,World.freeze]
end Go.Proofs.Trees
namespace Go.Proofs.Trees
open Go Go.VL Go.RowKit
theorem fB{a b:Ty}(h:bR (.plus a b)=false):bR a=false/\bR b=false:=by simpa[bR]using h
theorem eU{a b:Ty}(h:bR (.times a b)=false):bR a=false/\bR b=false:=by simpa[bR]using h
theorem fI{e:E}{ar:List (List UInt8)}{t:Ty}(ht:cN e ar=some t)(hb:t.Mu=false)(hf:bR t=false) :
 (e=.atom [48]/\t=.zero)\/(e=.atom [49]/\t=.one)\/(∃s,e=.atom s/\t=.name s/\gV s=true/\s≠[48]/\s≠[49]) ∨
 (∃x a b t1 t2,e=.list [x,a,b]/\x.at=[43]/\t=.plus t1 t2/\cN a ar=some t1/\cN b ar=some t2) ∨
 (∃x a b t1 t2,e=.list [x,a,b]/\x.at=[42]/\t=.times t1 t2/\cN a ar=some t1/\cN b ar=some t2) ∨
 (∃x a b t1,e=.list [x,a,b]/\x.at=[114,101,99]/\t=.rc t1):=by
 cases e with
 |
  list l =>
  match l,ht with
  |
   [x,a,b],ht =>
   by_cases h0:x.at=[43]
   ·obtain⟨t1,t2,h1,h2,rfl⟩:=fH h0 ht
    exact .inr (.inr (.inr (.inl ⟨x,a,b,t1,t2,rfl,h0,rfl,h1,h2⟩)))
   ·by_cases h1:x.at=[42]
    ·obtain⟨t1,t2,h3,h2,rfl⟩:=fk h1 ht
     exact .inr (.inr (.inr (.inr (.inl ⟨x,a,b,t1,t2,rfl,h1,rfl,h3,h2⟩))))
    ·by_cases h2:x.at=[114,101,99]
     ·obtain⟨t1,_,_,rfl⟩:=dw h2 ht
      exact .inr (.inr (.inr (.inr (.inr ⟨x,a,b,t1,rfl,h2,rfl⟩))))
     ·rw[jb _ h0 h1 h2]at ht;cases ht
  |[],ht=>cases ht
  |[_],ht=>cases ht
  |[_,_],ht=>cases ht
  |_::_::_::_::_,ht=>cases ht
 |
  atom s =>
  simp only[cN]at ht
  split at ht
  ·rename_i h;cases ht;subst h;exact .inl ⟨rfl,rfl⟩
  ·rename_i h0
   split at ht
   ·rename_i h;cases ht;subst h;exact .inr (.inl ⟨rfl,rfl⟩)
   ·rename_i h1
    split at ht
    ·rename_i h;cases ht;exact .inr (.inr (.inl ⟨s,rfl,rfl,h,h0,h1⟩))
    ·split at ht
     ·rename_i h
      split at ht
      ·cases ht;cases hb
      ·cases ht;simp only[bR]at hf;rw[h]at hf;cases hf
     ·cases ht
def pL(n:Nat)(v:Vl)(e:E)(env:List Fr)(t:Ty):Prop:=ap Tryz.prog 80 [.agg [t.av,oR env],v.ct,.v (.int .i64 (n:Int))] [] (bD (.v (.bool (eV n v (e,env)))))
structure Ask(e:E)(env:List Fr)(t:Ty):Prop where
 ok:e.ok
 wf:WF env
 ty:cN e (names env)=some t
 cl:bR t=false
theorem Iw(n:Nat)(hn:n<=100)(v:Vl)(hv:v.gz 100)(IH:∀w:Vl,w.nodes<v.nodes->w.gz 100->∀e env t,Ask e env t->env.length+w.nodes<100000->pL n w e env t)
 (e:E) (env:List Fr) (t:Ty) (A:Ask e env t) (hl:env.length+v.nodes<100000) (hb:t.Mu=false) (hh:fW e.at env=none):pL n v e env t:=by
 have hhd:hd e env=(e,env):=kj hh
 unfold pL
 refine J3 _ _ _ _ ((aF _).mpr trivial) ((ew _).mpr trivial) ((aN _).mpr trivial) ?_
 rcases fI A.ty hb A.cl with⟨rfl,rfl⟩|⟨rfl,rfl⟩|⟨s,rfl,rfl,hp,h0,h1⟩|⟨x,a,b,t1,t2,rfl,hx,rfl,ha,hbb⟩|⟨x,a,b,t1,t2,rfl,hx,rfl,ha,hbb⟩|⟨x,a,b,t1,rfl,hx,rfl⟩
 ·have hp0:gV [48]=false:=rfl
  cases v<;>simp[zH,Ty.av,↓zq,zs,af,bD,eV,hhd,hp0]
 ·have hp0:gV [49]=false:=rfl
  cases v<;>simp[zH,Ty.av,Vl.ct,↓zq,zs,af,bD,eV,hhd,hp0]
 ·have h1':(s==[49])=false:=by simpa using h1
  cases v with
  |
   el k =>
   have hk:k<100:=hv
   simp only[zH,Ty.av,Vl.ct,↓zq,zs,af,zt]
   refine⟨by omega,fun h=>by omega,fun _=>⟨fun _=>⟨by omega,fun h=>absurd rfl h,fun _=>⟨by omega,by omega,?_⟩⟩,fun h=>absurd rfl h⟩⟩
   have e1:(List.take ((dd k).length+1) (wY k)).drop (bW 1)=dd k:=by simp[wY]
   rw[e1]
   refine ai (PP k hk) ?_
   simp only[↓zq,zs,af,bD,eV,hhd,h1',hp,zf]
   refine⟨rfl,?_⟩
   congr 2
   rw[cn];simp
  |
   _ =>
   simp only[zH,Ty.av,Vl.ct,↓zq,zs,af,zt,eV,hhd,h1',bD]
   exact⟨by omega,fun h=>by omega,fun _=>⟨fun _=>⟨by omega,fun _=>trivial,fun h=>by omega⟩,fun h=>absurd rfl h⟩⟩
 ·have hok:=A.ok
  obtain⟨ok1,ok2,ok3,_⟩:=hok
  obtain⟨f1,f2⟩:=fB A.cl
  cases v with
  |
   l w =>
   simp only[Vl.nodes]at hl
   simp only[zH,Ty.av,Vl.ct,↓zq,zs,af]
   refine⟨by omega,fun h=>by omega,fun _=>⟨fun h=>by omega,fun _=>⟨fun h=>by omega,fun _=>⟨fun _=>⟨by omega,fun _=>?_,fun h=>absurd rfl h⟩,fun h=>absurd rfl h⟩⟩⟩⟩
   refine ai (yY _ _ _ _ _ _ ((aF _).mpr trivial) ((ew _).mpr trivial)) ?_
   simp only[↓zq,zs,af,bz,aF,ew,aN]
   refine⟨by omega,?_⟩
   refine ai (IH w (by simp only[Vl.nodes];omega) hv a env t1 ⟨ok2,A.wf,ha,f1⟩ (by omega)) ?_
   simp only[↓zq,zs,af,bD,eV,hhd,hx]
   refine⟨fun h=>?_,fun h=>⟨by omega,fun h=>by omega,fun _=>?_⟩⟩
   ·simp[h]
   ·simp[h]
  |
   r w =>
   simp only[Vl.nodes]at hl
   simp only[zH,Ty.av,Vl.ct,↓zq,zs,af]
   refine⟨by omega,fun h=>by omega,fun _=>⟨fun h=>by omega,fun _=>⟨fun h=>by omega,fun _=>⟨fun _=>⟨by omega,fun h=>by omega,fun _=>⟨by omega,fun _=>?_,fun h=>absurd rfl h⟩⟩,fun h=>absurd rfl h⟩⟩⟩⟩
   refine ai (y7 _ _ _ _ _ _ ((aF _).mpr trivial) ((ew _).mpr trivial)) ?_
   simp only[↓zq,zs,af,bz,aF,ew,aN]
   refine⟨by omega,?_⟩
   refine ai (IH w (by simp only[Vl.nodes];omega) hv b env t2 ⟨ok3,A.wf,hbb,f2⟩ (by omega)) ?_
   simp[↓zq,zs,af,bD,eV,hhd,hx]
  |
   _ =>
   simp only[zH,Ty.av,Vl.ct,↓zq,zs,af,eV,hhd,bD]
   exact⟨by omega,fun h=>by omega,fun _=>⟨fun h=>by omega,fun _=>⟨fun h=>by omega,fun _=>⟨fun _=>⟨by omega,fun h=>by omega,fun _=>⟨by omega,fun h=>by omega,fun _=>by simp[hx]⟩⟩,fun h=>absurd rfl h⟩⟩⟩⟩
 ·have hok:=A.ok
  obtain⟨ok1,ok2,ok3,_⟩:=hok
  obtain⟨f1,f2⟩:=eU A.cl
  cases v with
  |
   p v w =>
   simp only[Vl.nodes]at hl
   simp only[zH,Ty.av,Vl.ct,↓zq,zs,af]
   refine⟨by omega,fun h=>by omega,fun _=>⟨fun h=>by omega,fun _=>⟨fun h=>by omega,fun _=>⟨fun h=>by omega,fun _=>⟨fun _=>⟨by omega,fun _=>?_,fun h=>absurd rfl h⟩,fun h=>absurd rfl h⟩⟩⟩⟩⟩
   refine ai (yY _ _ _ _ _ _ ((aF _).mpr trivial) ((ew _).mpr trivial)) ?_
   simp only[↓zq,zs,af,bz,aF,ew,aN]
   refine⟨by omega,?_⟩
   refine ai (IH v (by simp only[Vl.nodes];omega) hv.1 a env t1 ⟨ok2,A.wf,ha,f1⟩ (by omega)) ?_
   simp only[↓zq,zs,af,bD,eV,hhd,hx]
   refine⟨fun h=>?_,fun h=>?_⟩
   ·refine ai (y7 _ _ _ _ _ _ ((aF _).mpr trivial) ((ew _).mpr trivial)) ?_
    simp only[↓zq,zs,af,bz,aF,ew,aN]
    refine⟨by omega,?_⟩
    refine ai (IH w (by simp only[Vl.nodes];omega) hv.2 b env t2 ⟨ok3,A.wf,hbb,f2⟩ (by omega)) ?_
    simp[↓zq,zs,af,h]
   ·simp[h]
  |
   _ =>
   simp only[zH,Ty.av,Vl.ct,↓zq,zs,af,eV,hhd,bD]
   exact⟨by omega,fun h=>by omega,fun _=>⟨fun h=>by omega,fun _=>⟨fun h=>by omega,fun _=>⟨fun h=>by omega,fun _=>⟨fun _=>⟨by omega,fun h=>by omega,fun _=>by simp[hx]⟩,fun h=>absurd rfl h⟩⟩⟩⟩⟩
 ·obtain⟨t1',he1,h1,f1,hw1⟩:=jm A.wf A.ok hx A.ty A.cl
  cases he1
  have hok:=A.ok
  obtain⟨ok1,ok2,ok3,_⟩:=hok
  have htD:yn (.list [x,a,b]) env=.rc t1:=by rw[yn,A.ty];rfl
  have hin:=OT t1 env a.at (.list [x,a,b]) htD
  simp only[Ty.av]at hin
  simp only[zH,Ty.av,↓zq,zs,af]
  refine⟨by omega,fun h=>by omega,fun _=>⟨fun h=>by omega,fun _=>⟨fun h=>by omega,fun _=>⟨fun h=>by omega,fun _=>⟨fun h=>by omega,fun _=>⟨fun _=>?_,fun h=>absurd rfl h⟩⟩⟩⟩⟩⟩
  refine ai hin ?_
  simp only[↓zq,zs,af,bz,aF,ew,zP,aN,fg]
  cases v with
  |
   f w =>
   simp only[Vl.nodes]at hl
   simp only[Vl.ct,↓zq,zs,af,aN]
   refine⟨by omega,fun _=>⟨by omega,?_⟩,fun h=>absurd rfl h⟩
   refine ai (IH w (by simp only[Vl.nodes];omega) hv b (.mk a.at (.list [x,a,b]) env::env) t1 ⟨ok3,hw1,h1,f1⟩ (by simp;omega)) ?_
   simp[↓zq,zs,af,bD,eV,hhd,hx]
  |
   _ =>
   simp only[Vl.ct,↓zq,zs,af,eV,hhd,bD]
   exact⟨by omega,fun h=>by omega,fun _=>by simp[hx]⟩
theorem Kl(n:Nat)(hn:n<=100):∀(m:Nat) (v:Vl),v.nodes<m->v.gz 100->∀e env t,Ask e env t->env.length+v.nodes<100000->pL n v e env t
 |0,v,h,_=>by omega
 |
  m+1,v,h,hv=>by
  intro e env t A hl
  have IH:∀w:Vl,w.nodes<v.nodes->w.gz 100->∀e env t,Ask e env t->env.length+w.nodes<100000->pL n w e env t:=fun w hw hb=>Kl n hn m w (by omega) hb
  rcases gq A.wf A.ty with⟨hb,hh⟩|⟨u,f,rfl,hh,hu⟩
  ·exact Iw n hn v hv IH e env t A hl hb hh
  ·obtain⟨x,a,b,t',hfe,hok,hx,ht',hf',hwf,hlt⟩:=oC A.wf hh
   obtain⟨t1,hl1,h1,rfl⟩:=dw hx (hfe ▸ ht')
   have hvis:eV n v (e,env)=eV n v (f.ex,f.out):=ue n v (qv hh) (by rw[hfe];exact po hwf)
   unfold pL
   refine J3 _ _ _ _ ((aF _).mpr trivial) ((ew _).mpr trivial) ((aN _).mpr trivial) ?_
   have hbd:=Oi env u f hu (by omega)
   simp only[Ty.av]at hbd
   simp only[zH,Ty.av,↓zq,zs,af]
   refine⟨by omega,fun h=>by omega,fun _=>⟨fun h=>by omega,fun _=>⟨fun _=>?_,fun h=>absurd rfl h⟩⟩⟩
   refine ai hbd ?_
   cases f with
   |
    mk s ee oo =>
    simp only[Fr.ex,Fr.out]at hfe ht' hf' hwf hvis hlt
    have htD:yn ee oo=.rc t1:=by rw[yn,ht'];rfl
    simp only[Fr.ct,htD,↓zq,zs,af,bz,aF,ew]
    refine⟨by omega,?_⟩
    have hs:=Iw n hn v hv IH ee oo (.rc t1) ⟨by rw[hfe];exact hok,hwf,ht',hf'⟩ (by omega) rfl (by rw[hfe];exact kN hwf)
    unfold pL at hs
    refine ai hs ?_
    simp[↓zq,zs,af,bD,hvis]
end Go.Proofs.Trees
namespace Go.Proofs.Trees
open Go Go.VL Go.RowKit
theorem sM:∀(env:List Fr) (k:Nat) (f:Fr),env[k]?=some f->(j2 env).getD (env.length-1-k) []=f.cells
 |[],k,f,h=>by cases h
 |
  g::r,0,f,h=>by
  cases h
  have:(g::r).length-1-0=(j2 r).length:=by simp[kT]
  rw[this,j2];simp[aa]
 |
  g::r,k+1,f,h=>by
  have h':r[k]?=some f:=by simpa using h
  have hlt:=(List.getElem?_eq_some_iff.1 h').1
  have e:(g::r).length-1-(k+1)=r.length-1-k:=by simp;omega
  have:=sM r k f h'
  rw[e,j2,aa,List.getElem?_append_left (by rw[kT];omega),<-aa]
  exact this
theorem qP(f:Fr):f.cells=[.v (.string (mk f.nm)),.v (.string (mk f.ex.at)),f.ex.sp,.sl (j2 f.out)]:=by cases f;rfl
theorem IK(e:E)(env:List Fr)(hl:env.length<1000000):∀(j k:Nat),k+j=env.length->GQ [.sl (j2 env),.v (.int .i64 ((env.length:Int)-1-(k:Int)))] [.cells [.v (.string (mk e.at)),e.sp],.cells [.v (.string (mk [])),.v (.slice none 0 0)]]
 (rW (match fW e.at (env.drop k)with|some f=>(2,[.sl (j2 f.out)],[.cells [.v (.string (mk f.ex.at)),f.ex.sp]])|none=>(1,[.sl (j2 env)],[.cells [.v (.string (mk e.at)),e.sp],.cells [.v (.string (mk [])),.v (.slice none 0 0)]])))
 |
  0,k,hk=>by
  refine Lc _ _ _ _ _ _ ?_
  have hd:env.drop k=[]:=bM (by omega)
  simp only[Gj,↓zq,zs,af,aU,hd,fW]
  exact⟨fun h=>by omega,fun _=>by first|trivial|rfl⟩
 |
  j+1,k,hk=>by
  refine Lc _ _ _ _ _ _ ?_
  have hlt:k<env.length:=by omega
  have hg:env[k]?=some env[k]:=bm hlt
  have hc:=sM env k _ hg
  have e1:((env.length:Int)-1-(k:Int))=((env.length-1-k:Nat):Int):=by omega
  have hdr:env.drop k=env[k]::env.drop (k+1):=aY hlt
  rw[hdr,fW,e1]
  simp only[Gj,cb,hc,qP,↓zq,zs,af,zt,aU,kT,bz]
  refine⟨fun _=>⟨by omega,by omega,fun h=>⟨by omega,by omega,by omega,by omega,?_⟩,fun h=>?_⟩,fun h=>by omega⟩
  ·rw[if_pos h]
  ·rw[if_neg h]
   have e2:IntKind.wrap .i64 (((env.length-1-k:Nat):Int)-1)=(env.length:Int)-1-((k+1:Nat):Int):=by
    have:IntKind.wrap .i64 (((env.length-1-k:Nat):Int)-1)=((env.length-1-k:Nat):Int)-1:=wrap64 _ (by omega) (by omega)
    omega
   rw[e2]
   exact IK e env hl j (k+1) (by omega)
theorem Nc(e:E)(env:List Fr)(hl:env.length<1000000):ap Tryz.prog 138 [e.km,.sl (j2 env)] [] (bD (.cA [(hd e env).1.km,.sl (j2 (hd e env).2)])):=by
 rw[dh e]
 refine Pk _ _ _ ((aU _).mpr trivial) ((cd _).mpr trivial) ?_
 simp only[II,↓zq,zs,af,kT,bD]
 have h:=IK e env hl env.length 0 (by omega)
 simp only[bp]at h
 rw[wrap64 _ (by omega) (by omega)]
 rw[show (env.length:Int)-1-((0:Nat):Int)=(env.length:Int)-1 by omega]at h
 refine jq h (fun ys o e'=>?_) (fun ys o e'=>?_)
 ·unfold hd
  cases hq:fW e.at env<;>rw[hq]at e'<;>cases e'
  simp only[↓zq,zs,af,zt,aU,dh]
 ·unfold hd
  cases hq:fW e.at env<;>rw[hq]at e'<;>cases e'
  simp only[↓zq,zs,af,zt,aU,dh]
theorem pS:∀env:List Fr,cE 4 (j2 env)
 |[]=>fun c hc=>by cases hc
 |
  f::r=>fun c hc=>by
  simp only[j2,aL,aS]at hc
  rcases hc with hc|rfl
  ·exact pS r c hc
  ·rw[qP];rfl
theorem Nn(x a b:E)(env:List Fr)(hl:env.length<1000000):ap Tryz.prog 139 [(E.list [x,a,b]).km,.sl (j2 env)] [] (bD (.cA [b.km,.sl (j2 (.mk a.at (.list [x,a,b]) env::env))])):=by
 refine NJ _ _ _ ((cd _).mpr trivial) ((cd _).mpr trivial) ?_
 simp only[Ke,E.bj,toNat_one,a7,↓zq,zs,af,zt,iS,gj,iV,mI,aq,kT,bD,aT]
 refine⟨by omega,⟨pS env,by omega⟩,by omega,by omega,⟨fun c hc=>(by simp at hc;rw[hc];rfl),by omega⟩,?_⟩
 simp only[j2,qP,Fr.nm,Fr.ex,Fr.out,E.at,E.sp,E.bj]
theorem CJ(s:ByteArray)(e:E):bz [.str,.sl] [.v (.string s),e.sp] 0=True:=by apply eq_true;simp[bz,dI,aU]
theorem G5{e:E}{env:List Fr}{t:Ty}(A:Ask e env t):∃e' o t',hd e env=(e',o)/\Ask e' o t'/\t'.Mu=false/\hd e' o=(e',o)/\o.length<=env.length:=by
 rcases gq A.wf A.ty with⟨hb,hh⟩|⟨u,f,rfl,hh,hu⟩
 ·exact⟨e,env,t,kj hh,A,hb,kj hh,aq _⟩
 ·obtain⟨x,a,b,t',hfe,hok,hx,ht',hf',hwf,hlt⟩:=oC A.wf hh
  refine⟨f.ex,f.out,t',qv hh,⟨by rw[hfe];exact hok,hwf,ht',hf'⟩,?_,?_,by omega⟩
  ·obtain⟨t1,_,_,rfl⟩:=dw hx (hfe ▸ ht');rfl
  ·rw[hfe];exact po hwf
def vh:Vl->List UInt8
 | .l _=>[108]
 | .r _=>[114]
 | .f _=>[102]
 | .p _ _=>[112]
 |_=>[]
theorem AD(v:Vl):ap Tryz.prog 90 [v.cz.km] [] (bD (.v (.string (mk (vh v))))):=by
 cases v with
 |u=>exact yW _ _ ((bu).mpr trivial) (by simp)
 |el k=>exact yW _ _ ((bu).mpr trivial) (by simp)
 |l v=>exact uw _ _
 |r v=>exact uw _ _
 |f v=>exact uw _ _
 |p v w=>exact uw _ _
theorem Qd(v:Vl)(hv:v.gz 100):v.cz.at=(match v with| .u=>[117]| .el k=>wY k|_=>[])/\BA v.cz.at=(match v with| .el k=>(k:Int)|_=>-1):=by
 cases v with
 |el k=>exact⟨rfl,G6 k hv⟩
 |u=>exact⟨rfl,rfl⟩
 |_=>exact⟨rfl,rfl⟩
theorem zb(n:Nat)(hn:n<=100):∀(m:Nat) (v:Vl),v.nodes<m->v.gz 100->∀e env t,Ask e env t->env.length+v.nodes<100000->ap Tryz.prog 89 [e.km,.sl (j2 env),v.cz.km,.v (.int .i64 (n:Int))] [] (bD (.v (.bool (eV n v (e,env)))))
 |0,v,hm,hv,e,env,t,A,hl=>by omega
 |
  m+1,v,hm,hv,e,env,t,A,hl=>by
  obtain⟨e',o,t',hhd,A',hb,hh',hlen⟩:=G5 A
  rw[ue n v hhd hh',dh e,dh v.cz]
  refine NN _ _ _ _ _ _ ((aU _).mpr trivial) ((cd _).mpr trivial) ((aU _).mpr trivial) ?_
  have hf:=Nc e env (by omega)
  rw[dh e,hhd]at hf
  have hvh:=AD v
  rw[dh]at hvh
  unfold Ia
  refine ai hf ?_
  simp only[dh e',↓zq,zs,af,zt,aU,CJ,bD]
  rcases fI A'.ty hb A'.cl with⟨rfl,rfl⟩|⟨rfl,rfl⟩|⟨s,rfl,rfl,hp,h0,h1⟩|⟨x,a,b,t1,t2,rfl,hx,rfl,ha,hbb⟩|⟨x,a,b,t1,t2,rfl,hx,rfl,ha,hbb⟩|⟨x,a,b,t1,rfl,hx,rfl⟩
  ·refine⟨fun _=>⟨fun h=>by simp[E.at]at h,fun _=>ai (EY _) ?_⟩,fun h=>by simp[E.at]at h⟩
   have hp0:gV (E.atom [48]).at=false:=rfl
   have hp1:gV [48]=false:=rfl
   cases v<;>simp[↓zq,zs,af,hp0,eV,hh',hp1]
  ·refine⟨fun _=>⟨fun _=>?_,fun h=>absurd rfl h⟩,fun h=>by simp[E.at]at h⟩
   have hp1:gV [49]=false:=rfl
   cases v<;>simp[eV,hh',hp1,Vl.cz,E.at]
  ·have hne:s≠[]:=A'.ok
   have h1':(s==[49])=false:=by simpa using h1
   refine⟨fun _=>⟨fun h=>absurd h h1,fun _=>ai (EY _) ?_⟩,fun h=>absurd h hne⟩
   have hat:(E.atom s).at=s:=rfl
   simp only[hat,hp,↓zq,zs,af]
   refine⟨fun _=>ai (Jp _) ?_,fun h=>by cases h⟩
   simp only[↓zq,zs,af]
   rw[wrap64 _ (by omega) (by omega)]
   refine ai (CO _ _ _) ?_
   simp only[↓zq,zs,af,DP,(Qd v hv).2]
   cases v with
   |
    el k =>
    simp only[eV,hh',h1',hp,zf]
    congr 2
    rw[cn];simp;omega
   |_=>simp[eV,hh',h1']
  ·have hok:=A'.ok
   obtain⟨ok1,ok2,ok3,_⟩:=hok
   obtain⟨f1,f2⟩:=fB A'.cl
   refine⟨fun h=>absurd rfl h,fun _=>ai (uw x [a,b]) ?_⟩
   simp only[↓zq,zs,af]
   refine ai hvh ?_
   rw[hx]
   cases v with
   |
    l w =>
    simp only[Vl.nodes]at hl
    simp only[vh,Vl.cz,E.sp,E.bj,toNat_one,a7,↓zq,zs,af,zt,iS,gj,iV,mI,aq]
    refine⟨by simp,fun _=>⟨by omega,by omega,ai (zb n hn m w (by simp only[Vl.nodes]at hm;omega) hv a o t1 ⟨ok2,A'.wf,ha,f1⟩ (by omega)) ?_⟩,fun h=>absurd rfl h⟩
    simp[↓zq,zs,af,eV,hh',hx]
   |
    r w =>
    simp only[Vl.nodes]at hl
    simp only[vh,Vl.cz,E.sp,E.bj,toNat_one,a7,↓zq,zs,af,zt,iS,gj,iV,mI,aq]
    refine⟨by simp,fun h=>by simp at h,fun _=>⟨fun _=>⟨by omega,by omega,ai (zb n hn m w (by simp only[Vl.nodes]at hm;omega) hv b o t2 ⟨ok3,A'.wf,hbb,f2⟩ (by omega)) ?_⟩,fun h=>absurd rfl h⟩⟩
    simp[↓zq,zs,af,eV,hh',hx]
   |_=>simp[vh,↓zq,zs,af,zt,eV,hh',hx]
  ·have hok:=A'.ok
   obtain⟨ok1,ok2,ok3,_⟩:=hok
   obtain⟨f1,f2⟩:=eU A'.cl
   refine⟨fun h=>absurd rfl h,fun _=>ai (uw x [a,b]) ?_⟩
   simp only[↓zq,zs,af]
   refine ai hvh ?_
   rw[hx]
   cases v with
   |
    p w z =>
    simp only[Vl.nodes]at hl
    simp only[vh,Vl.cz,E.sp,E.bj,toNat_one,a7,↓zq,zs,af,zt,iS,gj,iV,mI,aq]
    refine⟨by simp,fun h=>by simp at h,fun _=>⟨fun h=>by simp at h,fun _=>⟨fun _=>⟨by omega,by omega,ai (zb n hn m w (by simp only[Vl.nodes]at hm;omega) hv.1 a o t1 ⟨ok2,A'.wf,ha,f1⟩ (by omega)) ?_⟩,fun h=>absurd rfl h⟩⟩⟩
    simp only[↓zq,zs,af,eV,hh',hx]
    refine⟨fun h=>⟨by omega,by omega,ai (zb n hn m z (by simp only[Vl.nodes]at hm;omega) hv.2 b o t2 ⟨ok3,A'.wf,hbb,f2⟩ (by omega)) ?_⟩,fun h=>?_⟩
    ·simp[↓zq,zs,af,h]
    ·simp[h]
   |_=>simp[vh,↓zq,zs,af,zt,eV,hh',hx]
  ·obtain⟨t1',he1,h1,f1,hw1⟩:=jm A'.wf A'.ok hx A'.ty A'.cl
   cases he1
   have hok:=A'.ok
   obtain⟨ok1,ok2,ok3,_⟩:=hok
   refine⟨fun h=>absurd rfl h,fun _=>ai (uw x [a,b]) ?_⟩
   simp only[↓zq,zs,af]
   refine ai hvh ?_
   rw[hx]
   cases v with
   |
    f w =>
    simp only[Vl.nodes]at hl
    simp only[vh,Vl.cz,E.sp,E.bj,toNat_one,a7,↓zq,zs,af,zt,iS,gj,iV,mI,aq]
    refine⟨by simp,fun h=>by simp at h,fun _=>⟨fun h=>by simp at h,fun _=>⟨fun h=>by simp at h,fun _=>⟨fun _=>ai (Nn x a b o (by omega)) ?_,fun h=>absurd rfl h⟩⟩⟩⟩
    simp only[↓zq,zs,af,yg,CM]
    refine⟨by omega,ai (zb n hn m w (by simp only[Vl.nodes]at hm;omega) hv b (.mk a.at (.list [x,a,b]) o::o) t1 ⟨ok3,hw1,h1,f1⟩ (by simp;omega)) ?_⟩
    simp[↓zq,zs,af,eV,hh',hx]
   |_=>simp[vh,↓zq,zs,af,zt,eV,hh',hx]
theorem NO(n:Nat)(hn:n<=100)(v:Vl)(hv:v.gz 100)(e:E)(env:List Fr)(t:Ty)(A:Ask e env t)(hl:env.length+v.nodes<100000):ap Tryz.prog 89 [e.km,.sl (j2 env),v.cz.km,.v (.int .i64 (n:Int))] [] (bD (.v (.bool (eV n v (e,env))))):=zb n hn (v.nodes+1) v (by omega) hv e env t A hl
end Go.Proofs.Trees
namespace Go.Proofs.Trees
open Go Go.VL Go.RowKit
theorem H6(l:List (List UInt8))(a:AV)(ha:dV a l)(s:List UInt8)(hl:l.length<1000000):∀(k i:Nat),i+k=l.length->EI [a,.v (.string (mk s)),.v (.int .i64 (i:Int))] []
 (rW (if s∈l.drop i then(2,[.v (.bool true)],[])else(1,[],[])))
 |
  0,i,hi=>by
  refine Mn _ _ _ ?_
  have hd:l.drop i=[]:=bM (by omega)
  simp only[Fi,↓zq,zs,af,hd,ha.len]
  exact⟨ha.1,ha.1,fun h=>by omega,fun _=>by simp[rW]⟩
 |
  k+1,i,hi=>by
  have hlt:i<l.length:=by omega
  have hdr:l.drop i=l.getD i []::l.drop (i+1):=by
   rw[aY hlt];simp[aa,hlt]
  refine Mn _ _ _ ?_
  simp only[Fi,↓zq,zs,af,zt,ha.len,ha.idx hlt]
  refine⟨ha.1,ha.1,fun _=>⟨⟨ha.1,by omega,by omega⟩,by omega,fun h=>?_,fun h=>?_⟩,fun h=>by omega⟩
  ·rw[hdr,h];simp[rW]
  ·rw[bE i (by omega)]
   have:=H6 l a ha s hl k (i+1) (by omega)
   have e:s∈l.drop i↔s∈l.drop (i+1):=by
    rw[hdr,aI];exact⟨fun q=>q.resolve_left (fun q=>h q.symm),.inr⟩
   simp only[e];exact this
theorem vY(l:List (List UInt8))(a:AV)(ha:dV a l)(s:List UInt8)(hl:l.length<1000000):ap Tryz.prog 142 [a,.v (.string (mk s))] [] (bD (.v (.bool (decide (s∈l))))):=by
 refine Nl _ _ ha.1 ?_
 unfold Jr
 refine jq (H6 l a ha s hl l.length 0 (by omega)) (fun ys o e=>?_) (fun ys o e=>?_)
 ·simp only[bp]at e
  split at e<;>cases e
  rename_i h
  simp[↓zq,zs,af,bD,h]
 ·simp only[bp]at e
  split at e<;>cases e
  rename_i h
  simp[↓zq,zs,af,bD,h]
theorem yG(l:List (List UInt8))(a:AV)(ha:dV a l)(s:List UInt8)(hl:l.length<1000000):ap Tryz.prog 143 [a,.v (.string (mk s))] [] (bD (.sl (cq (l++[s])))):=by
 refine M5 _ _ ha.1 ?_
 simp only[IY,↓zq,zs,af,ha.2,bD,aT]
 have:(cq l).length=l.length:=by simp[cq]
 refine⟨⟨ha.1,j6 l,by omega⟩,⟨fun c hc=>(by simp at hc;rw[hc];rfl),by omega⟩,?_⟩
 rw[yR]
def j9:E->List (List UInt8)->List (List UInt8)->List (List UInt8)
 | .atom s,bd,l=>if s=[48]\/s=[49]\/s∈bd\/s∈l then l else l++[s]
 | .list [x,a,b],bd,l=>if x.at=[114,101,99]then j9 b (bd++[a.at]) l else j9 b bd (j9 a bd l)
 | .list _,_,l=>l
theorem ga:∀(e:E) (bd l:List (List UInt8)),(j9 e bd l).length<=l.length+e.sz
 | .atom s,bd,l=>by rw[j9];split<;>simp[E.sz]
 | .list [],bd,l=>by simp[j9]
 | .list [_],bd,l=>by simp[j9]
 | .list [_,_],bd,l=>by simp[j9]
 | .list (_::_::_::_::_),bd,l=>by simp[j9]
 |
  .list [x,a,b],bd,l=>by
  rw[j9]
  simp only[E.sz,E.jt]
  split
  ·have:=ga b (bd++[a.at]) l;omega
  ·have:=ga a bd l
   have:=ga b bd (j9 a bd l)
   omega
theorem C4:∀(e:E) (bd l:List (List UInt8)) (a:AV),e.ok->j1 e=true->dV a bd->bd.length+l.length+e.sz<100000->ap Tryz.prog 98 [e.km,a,.vec 0] [.vec 1 (cq l)] (dA (.vec 1) [.dead,.vec 1 (cq (j9 e bd l))])
 |
  .atom s,bd,l,a,hok,hty,ha,hl=>by
  simp only[E.sz]at hl
  refine yZ _ _ _ _ ((bu).mpr trivial) ha.1 ?_
  have hne:s≠[]:=hok
  have hll:(cq l).length=l.length:=by simp[cq]
  simp only[wX,↓zq,zs,af,zt,dA,j9]
  refine⟨fun _=>⟨fun h=>?_,fun h=>⟨fun h1=>?_,fun h1=>?_⟩⟩,fun h=>absurd h hne⟩
  ·rw[if_pos (.inl h)]
  ·rw[if_pos (.inr (.inl h1))]
  ·refine ai (vY bd a ha s (by omega)) ?_
   simp only[↓zq,zs,af]
   refine⟨fun h2=>?_,fun h2=>ai (vY l _ (.of l) s (by omega)) ?_⟩
   ·rw[if_pos (.inr (.inr (.inl h2)))]
   ·simp only[↓zq,zs,af]
    refine⟨fun h3=>?_,fun h3=>⟨⟨fun c hc=>(by simp at hc;rw[hc];rfl),by omega⟩,?_⟩⟩
    ·rw[if_pos (.inr (.inr (.inr h3)))]
    ·rw[yR,if_neg]
     rintro(q|q|q|q)
     ·exact h q
     ·exact h1 q
     ·exact h2 q
     ·exact h3 q
 | .list [],_,_,_,_,h,_,_=>by cases h
 | .list [_],_,_,_,_,h,_,_=>by cases h
 | .list [_,_],_,_,_,_,h,_,_=>by cases h
 | .list (_::_::_::_::_),_,_,_,_,h,_,_=>by cases h
 |
  .list [x,y,z],bd,l,a,hok,hty,ha,hl=>by
  simp only[E.sz,E.jt]at hl
  obtain⟨ok1,ok2,ok3,_⟩:=hok
  refine yZ _ _ _ _ ((cd _).mpr trivial) ha.1 ?_
  simp only[wX,E.bj,toNat_one,a7,↓zq,zs,af,zt,iS,gj,iV,mI,aq,dA]
  refine⟨fun h=>absurd rfl h,fun _=>ai (uw x [y,z]) ?_⟩
  simp only[↓zq,zs,af,zt]
  have hyl:=ga y bd l
  rw[j1]at hty
  refine⟨fun h=>⟨by omega,by omega,by omega,ai (yG bd a ha y.at (by omega)) ?_⟩,fun h=>⟨by omega,by omega,?_⟩⟩
  ·have hz:j1 z=true:=by
    rw[if_neg (by rw[h];decide),if_neg (by rw[h];decide),if_pos h]at hty
    simp only[au]at hty;exact hty.2
   simp only[↓zq,zs,af]
   refine bc (C4 z (bd++[y.at]) l _ ok3 hz (.of _) (by simp;omega)) ?_
   simp only[↓zq,zs,af]
   rw[j9,if_pos h]
  ·have hyz:j1 y=true/\j1 z=true:=by
    split at hty
    ·simpa using hty
    ·split at hty
     ·simpa using hty
     ·cases hty
   refine bc (C4 y bd l a ok2 hyz.1 ha (by omega)) ?_
   simp only[↓zq,zs,af]
   refine bc (C4 z bd (j9 y bd l) a ok3 hyz.2 ha (by omega)) ?_
   simp only[↓zq,zs,af]
   rw[j9,if_neg h]
theorem j3{s:List UInt8}(h:gV s=true):db s=false:=by
 cases hq:db s with
 |false=>rfl
 |
  true =>
  obtain⟨c,r,rfl,h1,h2⟩:=lD h
  obtain⟨c',r',he,h3,h4⟩:=lD hq
  cases he;omega
theorem ml(s:List UInt8)(ar:List (List UInt8)):∀i,i<=ar.length->(bG s ar i=none↔s∉ar.take i)
 |0,_=>by simp[bG]
 |
  i+1,hi=>by
  have hlt:i<ar.length:=by omega
  have e:ar.getD i []=ar[i]:=by simp[aa,hlt]
  have e2:s∈ar.take (i+1)↔s∈ar.take i\/s=ar[i]:=by
   rw[show ar.take (i+1)=ar.take i++[ar[i]] from (List.take_append_getElem hlt).symm]
   simp only[aL,aS]
  rw[bG,e,e2]
  by_cases h:ar[i]=s
  ·rw[if_pos h]
   exact⟨fun h=>(by cases h),fun h'=>absurd (.inr h.symm) h'⟩
  ·rw[if_neg h,ml s ar i (by omega)]
   exact⟨fun h1 h2=>h2.elim h1 (fun h3=>h h3.symm),fun h1 h2=>h1 (.inl h2)⟩
theorem lq:∀(e:E) (ar l:List (List UInt8)) (t:Ty),cN e ar=some t->(∀w,w∈ar->db w=true)->(j9 e ar l).any db=(l.any db||bR t)
 |
  .atom s,ar,l,t,h,har=>by
  simp only[cN]at h
  rw[j9]
  split at h
  ·rename_i h0;cases h;rw[if_pos (.inl h0)];simp[bR]
  ·rename_i h0
   split at h
   ·rename_i h1;cases h;rw[if_pos (.inr (.inl h1))];simp[bR]
   ·rename_i h1
    split at h
    ·rename_i h2
     cases h
     have hn:=j3 h2
     simp only[bR,hn]
     split
     ·simp
     ·simp[hn]
    ·split at h
     ·rename_i h2 h3
      have hlo:=ml s ar ar.length (aq _)
      rw[List.take_length]at hlo
      cases hq:bG s ar ar.length with
      |
       some u =>
       rw[hq]at h;cases h
       have hm:s∈ar:=Classical.byContradiction fun hm=>by rw[hlo.2 hm]at hq;cases hq
       rw[if_pos (.inr (.inr (.inl hm)))];simp[bR]
      |
       none =>
       rw[hq]at h;cases h
       have hm:=hlo.1 hq
       simp only[bR,h3,Bool.or_true]
       split
       ·rename_i hh
        rcases hh with q|q|q|q
        ·exact absurd q h0
        ·exact absurd q h1
        ·exact absurd q hm
        ·rw[bS];exact⟨s,q,h3⟩
       ·simp[h3]
     ·cases h
 | .list [],_,_,_,h,_=>by cases h
 | .list [_],_,_,_,h,_=>by cases h
 | .list [_,_],_,_,_,h,_=>by cases h
 | .list (_::_::_::_::_),_,_,_,h,_=>by cases h
 |
  .list [x,a,b],ar,l,t,h,har=>by
  rw[j9]
  by_cases h0:x.at=[43]
  ·obtain⟨t1,t2,e1,e2,rfl⟩:=fH h0 h
   rw[if_neg (by rw[h0];decide),lq b ar _ t2 e2 har,lq a ar l t1 e1 har,bR,Bool.or_assoc]
  ·by_cases h1:x.at=[42]
   ·obtain⟨t1,t2,e1,e2,rfl⟩:=fk h1 h
    rw[if_neg (by rw[h1];decide),lq b ar _ t2 e2 har,lq a ar l t1 e1 har,bR,Bool.or_assoc]
   ·by_cases h2:x.at=[114,101,99]
    ·obtain⟨t1,hl,e1,rfl⟩:=dw h2 h
     rw[if_pos h2,lq b _ l t1 e1 (fun w hw=>by
      simp only[aL,aS]at hw
      rcases hw with hw|rfl
      ·exact har w hw
      ·exact hl),bR]
    ·rw[jb _ h0 h1 h2]at h;cases h
def jC(s:List UInt8):Option E:=match vM s with
 |none=>none
 |some e=>if(j9 e [] []).any db=true then none else some e
theorem AT{s:List UInt8}:wh s=match jC s with|none=>none|some e=>cN e []:=by
 unfold wh jC
 rw[tR]
 cases he:vM s with
 |none=>rfl
 |
  some e =>
  obtain⟨h1,h2,h3⟩:=pw he
  have hs:=iO e []
  rw[h2]at hs
  obtain⟨t,ht⟩:=bq.1 hs
  have ha:=lq e [] [] t ht (fun w hw=>by cases hw)
  simp only[ht,sk,ha,List.any_nil,Bool.false_or]
  cases hf:bR t<;>simp[ht]
theorem gU{s:List UInt8}{e:E}(h:jC s=some e):∃t,wh s=some t/\Ask e [] t/\j1 e=true/\e.sz<=8000/\t.aC<=400/\qA s=some e:=by
 have h0:=h
 unfold jC at h
 split at h
 ·cases h
 ·rename_i e' he
  split at h
  ·cases h
  ·rename_i hn
   cases h
   obtain⟨h1,h2,h3⟩:=pw he
   obtain⟨hok,hsz⟩:=nH h1
   have hs:=iO e []
   rw[h2]at hs
   obtain⟨t,ht⟩:=bq.1 hs
   have ha:=lq e [] [] t ht (fun w hw=>by cases hw)
   rw[ha]at hn
   refine⟨t,by rw[AT,h0];exact ht,⟨hok,.nil,ht,by simpa using hn⟩,h2,hsz,?_,h1⟩
   rw[<-j0 e [] t ht];exact h3
theorem mN{s:List UInt8}(h:jC s=none):wh s=none:=by rw[AT,h]
theorem KI(e:E)(l:List (List UInt8))(hl:l.length<1000000):∀(k i:Nat),i+k=l.length->EC [.v (.int .i64 (i:Int))] [.cells [.v (.string (mk [])),.v (.slice none 0 0)],.cells [.v (.string (mk e.at)),e.sp],.vec 1 (cq l)]
 (rW (if(l.drop i).any db=true then(2,[.v (.bool false)],[.cells [.v (.string (mk e.at)),e.sp]])else(1,[],[.cells [.v (.string (mk [])),.v (.slice none 0 0)],.cells [.v (.string (mk e.at)),e.sp]])))
 |
  0,i,hi=>by
  refine K8 _ _ _ _ _ _ ?_
  have hd:l.drop i=[]:=bM (by omega)
  have hll:(cq l).length=l.length:=by simp[cq]
  simp only[EM,↓zq,zs,af,hd,hll,aU]
  exact⟨fun h=>by omega,fun _=>by simp[rW]⟩
 |
  k+1,i,hi=>by
  have hlt:i<l.length:=by omega
  have hll:(cq l).length=l.length:=by simp[cq]
  have hdr:l.drop i=l.getD i []::l.drop (i+1):=by
   rw[aY hlt];simp[aa,hlt]
  have hg:=(dV.of l).idx hlt
  simp only[fD]at hg
  refine K8 _ _ _ _ _ _ ?_
  simp only[EM,↓zq,zs,af,zt,hll,hg,aU]
  refine⟨fun _=>⟨by omega,by omega,ai (FV _) ?_⟩,fun h=>by omega⟩
  simp only[↓zq,zs,af,hdr,List.any_cons]
  refine⟨fun h=>?_,fun h=>?_⟩
  ·rw[h];simp[rW]
  ·rw[h,bE i (by omega)]
   simp only[Bool.false_or]
   exact KI e l hl k (i+1) (by omega)
theorem FQ(s:List UInt8):ap Tryz.prog 46 [.v (.string (mk s))] [] (jn (jC s) (jC s).isSome):=by
 refine Of _ ?_
 unfold Hr
 refine aO (Gw s) (jn.ne _ _ (fun h=>h)) ?_
 rintro r o ⟨c,d,hd,rfl,hh⟩
 have hhas:bz [.str,.sl] [.v (.string (mk c)),d] 0:=by simp[bz,dI,hd]
 simp only[↓zq,zs,af,zt]
 refine⟨hhas,fun h=>?_,fun h=>?_⟩
 ·have hn:vM s=none:=by cases hq:vM s<;>simp[hq]at h |-
  unfold jC
  rw[hn]
  exact⟨c,d,hd,rfl,fun h=>by cases h⟩
 ·obtain⟨e,he,hce⟩:=hh h
  obtain⟨h1,h2,h3⟩:=pw he
  obtain⟨hok,hsz⟩:=nH h1
  have hce':=hce
  rw[dh]at hce'
  simp only[AV.agg.injEq,List.cons.injEq,AV.v.injEq,Value.string.injEq,and_true]at hce'
  obtain⟨hc1,rfl⟩:=hce'
  have hc2:=vV hc1
  subst hc2
  rw[<-dh]
  refine bc (C4 e [] [] _ hok h2 (.of []) (by simp;omega)) ?_
  have hfl:=ga e [] []
  simp only[↓zq,zs,af]
  have hLS:=KI e (j9 e [] []) (by simp at hfl;omega) (j9 e [] []).length 0 (by omega)
  simp only[bp]at hLS
  unfold jC
  rw[he]
  refine jq hLS (fun ys o e'=>?_) (fun ys o e'=>?_)
  ·split at e'<;>cases e'
   rename_i hn
   simp only[↓zq,zs,af,aU,if_neg hn]
   exact⟨e.at,e.sp,hd,rfl,fun _=>⟨e,rfl,(dh e).symm⟩⟩
  ·split at e'<;>cases e'
   rename_i hn
   simp only[↓zq,zs,af,aU,if_pos hn]
   exact⟨e.at,e.sp,hd,rfl,fun h=>by cases h⟩
def mG(s v:List UInt8)(n:Int):Option Vl:=match jC s,rR v with
 |some e,some w=>if(0<=n/\n<=100)/\eV n.toNat w (e,[])=true then some w else none
 |_,_=>none
theorem kI{s v:List UInt8}{n:Int}{w:Vl}(h:mG s v n=some w):∃e t m,jC s=some e/\rR v=some w/\wh s=some t/\Ask e [] t/\n=(m:Nat)/\m<=100/\eV m w (e,[])=true:=by
 unfold mG at h
 split at h
 ·rename_i e w' he hw
  split at h
  ·rename_i hh
   cases h
   obtain⟨t,h1,h2,_⟩:=gU he
   exact⟨e,t,n.toNat,he,hw,h1,h2,by omega,by omega,hh.2⟩
  ·cases h
 ·cases h
theorem I3(s v:List UInt8)(n:Int):ap Tryz.prog 34 [.v (.string (mk s)),.v (.string (mk v)),.v (.int .i64 n)] [] (bD (.cA [ia (wh s),iD (mG s v n)])):=by
 refine Nq _ _ _ ?_
 unfold Jt
 refine ai (Jo s) ?_
 simp only[↓zq,zs,af,gm]
 refine ai (PI v) ?_
 simp only[↓zq,zs,af,jl,bD]
 unfold mG
 cases he:jC s with
 |none=>rw[mN he];cases rR v<;>simp[ia,iD,↓zq,zs,af]
 |
  some e =>
  obtain⟨t,h1,h2,h3,h4,h5,_⟩:=gU he
  rw[h1]
  cases hv:rR v with
  |none=>simp only[ia,iD,aF,fM,↓zq,zs,af];exact⟨fun h=>(by cases h),fun _=>⟨fun _=>trivial,fun h=>(by cases h)⟩⟩
  |
   some w =>
   obtain⟨h6,h7,h8⟩:=lh hv
   simp only[ia,iD,aF,fM,aN,fg,↓zq,zs,af]
   refine⟨fun h=>(by cases h),fun _=>⟨fun h=>(by cases h),fun _=>⟨fun h=>?_,fun h=>⟨fun h'=>?_,fun h'=>?_⟩⟩⟩⟩
   ·rw[if_neg (by omega)]
   ·rw[if_neg (by omega)]
   ·obtain⟨m,rfl⟩:∃m:Nat,n=(m:Int):=⟨n.toNat,by omega⟩
    have hi:=Kl m (by omega) (w.nodes+1) w (by omega) h7 e [] t h2 (by simp;omega)
    unfold pL at hi
    refine ai hi ?_
    simp only[↓zq,zs,af,cb]
    refine⟨fun hq=>?_,fun hq=>?_⟩
    ·rw[if_neg (by rw[hq];simp)]
    ·rw[if_pos ⟨by omega,hq⟩]
theorem Gp(s v:List UInt8)(n:Int):ap Tryz.prog 39 [.v (.string (mk s)),.v (.string (mk v)),.v (.int .i64 n)] [] (bD (.v (.bool (mG s v n).isSome))):=by
 refine M4 _ _ _ ?_
 unfold Jh
 refine aO (FQ s) (jn.ne _ _ (fun h=>h)) ?_
 rintro r o ⟨c,d,hd,rfl,hh⟩
 have hhas:bz [.str,.sl] [.v (.string (mk c)),d] 0:=by simp[bz,dI,hd]
 simp only[↓zq,zs,af,zt]
 refine⟨hhas,?_⟩
 refine aO (zV v) (jn.ne _ _ (fun h=>by cases hq:rR v<;>simp[hq]at h |-)) ?_
 rintro r o ⟨c',d',hd',rfl,hh'⟩
 have hhas':bz [.str,.sl] [.v (.string (mk c')),d'] 0:=by simp[bz,dI,hd']
 simp only[↓zq,zs,af,zt,bD]
 refine⟨hhas',fun h=>⟨fun h2=>?_,fun h2=>?_⟩,fun h=>?_⟩
 ·obtain⟨e,he,hce⟩:=hh h
  obtain⟨t,h1,hA,h3,h4,h5,_⟩:=gU he
  obtain⟨w,hw⟩:=bq.1 h2
  obtain⟨e2,he2,hce2⟩:=hh' h2
  rw[hw]at he2
  cases he2
  obtain⟨h6,h7,h8⟩:=lh hw
  refine ai (CO _ _ _) ?_
  simp only[↓zq,zs,af,DP,mG,he,hw]
  refine⟨fun hq=>?_,fun hq=>?_⟩
  ·have hq':0<=n/\n<=100:=by simpa using hq
   obtain⟨m,rfl⟩:∃m:Nat,n=(m:Int):=⟨n.toNat,by omega⟩
   rw[hce,hce2]
   have:=NO m (by omega) w h7 e [] t hA (by simp;omega)
   rw[show j2 []=[] from rfl]at this
   refine ai this ?_
   simp only[↓zq,zs,af,cb]
   by_cases hb:eV m w (e,[])=true
   ·rw[if_pos ⟨hq',hb⟩,hb];rfl
   ·rw[if_neg (fun h=>hb h.2)]
    rw[Bool.not_eq_true]at hb
    rw[hb];rfl
  ·have hq':¬(0<=n/\n<=100):=by simpa using hq
   rw[if_neg (fun h=>hq' h.1)];rfl
 ·have hn:rR v=none:=by cases hq:rR v<;>simp[hq]at h2 |-
  unfold mG
  rw[hn];cases jC s<;>rfl
 ·have hn:jC s=none:=by cases hq:jC s<;>simp[hq]at h |-
  unfold mG
  rw[hn];rfl
end Go.Proofs.Trees
namespace Go.Proofs.Trees
open Go Go.VL Go.RowKit
inductive Tg where
 |nm (s:List UInt8)
 |bd (k:Nat)
 deriving DecidableEq
def Tg.up:Tg->Tg
 | .nm s=>.nm s
 | .bd k=>.bd (k+1)
def eF:Ty->Tg->Bool
 | .name s,.nm s'=>decide (s=s')
 | .bJ u,.bd k=>decide (u=k)
 |_,_=>false
abbrev Hl:=Vl×Vl
def iK(g:Vl->Vl)(l:List Hl):List Hl:=l.map fun h=>(g h.1,h.2)
def ju(f:Ty->Tg->Vl->List Hl)(tg:Tg):Ty->Vl->List Hl
 | .plus a _,.l w=>iK .l (f a tg w)
 | .plus _ b,.r w=>iK .r (f b tg w)
 | .times a b,.p x y=>iK (fun c=>.l (.p c y)) (f a tg x)++iK (fun c=>.r (.p x c)) (f b tg y)
 | .rc a,.f w=>iK (fun c=>.f (.l c)) (f a tg.up w)++(f a (.bd 0) w).flatMap fun h=>iK (fun c=>.f (.r (.p h.1 c))) (f (.rc a) tg h.2)
 |_,_=>[]
def dN:Nat->Ty->Tg->Vl->List Hl
 |0,_,_,_=>[]
 |n+1,t,tg,v=>if eF t tg=true then [(.u,v)]else ju (dN n) tg t v
def stuck:Ty->Vl->Bool
 | .plus _ _,.l _=>false
 | .plus _ _,.r _=>false
 | .times _ _,.p _ _=>false
 | .rc _,.f _=>false
 |_,_=>true
def bZ(t:Ty)(tg:Tg)(v:Vl):List Hl:=dN v.nodes t tg v
theorem dH{g:Vl->Vl}{l:List Hl}{h:Hl}(hm:h∈iK g l):∃k,k∈l/\h=(g k.1,k.2):=by
 obtain⟨k,h1,h2⟩:=cm.1 hm
 exact⟨k,h1,h2.symm⟩
theorem iR{f g:Hl->List Hl}:∀{l:List Hl},(∀h,h∈l->f h=g h)->l.flatMap f=l.flatMap g
 |[],_=>rfl
 |h::l,hl=>by rw[List.flatMap_cons,List.flatMap_cons,hl h aj,iR (l:=l) fun k hk=>hl k (al _ hk)]
theorem fh:∀(n:Nat) (t:Ty) (tg:Tg) (v:Vl) (h:Hl),h∈dN n t tg v->h.2.nodes<=v.nodes/\h.1.nodes+4*h.2.nodes<=4*v.nodes+1
 |0,t,tg,v,h,hm=>by simp[dN]at hm
 |
  n+1,t,tg,v,h,hm=>by
  unfold dN at hm
  split at hm
  ·simp only[aS]at hm
   subst hm
   simp only[Vl.nodes];omega
  ·unfold ju at hm
   split at hm
   ·obtain⟨k,h1,rfl⟩:=dH hm
    have:=fh n _ _ _ k h1
    simp only[Vl.nodes];omega
   ·obtain⟨k,h1,rfl⟩:=dH hm
    have:=fh n _ _ _ k h1
    simp only[Vl.nodes];omega
   ·rcases aL.1 hm with hm|hm
    ·obtain⟨k,h1,rfl⟩:=dH hm
     have:=fh n _ _ _ k h1
     simp only[Vl.nodes];omega
    ·obtain⟨k,h1,rfl⟩:=dH hm
     have:=fh n _ _ _ k h1
     simp only[Vl.nodes];omega
   ·rcases aL.1 hm with hm|hm
    ·obtain⟨k,h1,rfl⟩:=dH hm
     have:=fh n _ _ _ k h1
     simp only[Vl.nodes];omega
    ·obtain⟨k,h1,h2⟩:=List.mem_flatMap.1 hm
     obtain⟨k2,h3,rfl⟩:=dH h2
     have:=fh n _ _ _ k h1
     have:=fh n _ _ _ k2 h3
     simp only[Vl.nodes];omega
   ·simp at hm
theorem gS:∀(n m:Nat) (t:Ty) (tg:Tg) (v:Vl),v.nodes<=n->v.nodes<=m->dN n t tg v=dN m t tg v
 |0,m,t,tg,v,h,_=>by have:=dr v;omega
 |n+1,0,t,tg,v,_,h=>by have:=dr v;omega
 |
  n+1,m+1,t,tg,v,hn,hm=>by
  rw[dN,dN]
  split
  ·rfl
  ·unfold ju
   split
   ·simp only[Vl.nodes]at hn hm;rw[gS n m _ _ _ (by omega) (by omega)]
   ·simp only[Vl.nodes]at hn hm;rw[gS n m _ _ _ (by omega) (by omega)]
   ·simp only[Vl.nodes]at hn hm;rw[gS n m _ _ _ (by omega) (by omega),gS n m _ _ _ (by omega) (by omega)]
   ·rename_i a w
    simp only[Vl.nodes]at hn hm;rw[gS n m _ _ _ (by omega) (by omega),gS n m _ (.bd 0) _ (by omega) (by omega)]
    congr 1
    apply iR
    intro h hh
    have:=(fh _ _ _ _ _ hh).1
    rw[gS n m _ _ _ (by omega) (by omega)]
   ·rfl
theorem oU{n:Nat}(t:Ty)(tg:Tg){v:Vl}(h:v.nodes<=n):dN n t tg v=bZ t tg v:=gS _ _ _ _ _ h (aq _)
theorem mz{t:Ty}{tg:Tg}(v:Vl)(h:eF t tg=true):bZ t tg v=[(.u,v)]:=by
 have:=dr v
 unfold bZ
 cases e:v.nodes with
 |zero=>omega
 |succ n=>rw[dN,if_pos h]
theorem mS(a b:Ty)(tg:Tg)(w:Vl):bZ (.plus a b) tg (.l w)=iK .l (bZ a tg w):=by
 unfold bZ;rw[show (Vl.l w).nodes=w.nodes+1 by simp[Vl.nodes];omega,dN,if_neg (by simp[eF])];rfl
theorem mO(a b:Ty)(tg:Tg)(w:Vl):bZ (.plus a b) tg (.r w)=iK .r (bZ b tg w):=by
 unfold bZ;rw[show (Vl.r w).nodes=w.nodes+1 by simp[Vl.nodes];omega,dN,if_neg (by simp[eF])];rfl
theorem mU(a b:Ty)(tg:Tg)(x y:Vl):bZ (.times a b) tg (.p x y)=iK (fun c=>.l (.p c y)) (bZ a tg x)++iK (fun c=>.r (.p x c)) (bZ b tg y):=by
 rw[bZ,show (Vl.p x y).nodes=(x.nodes+y.nodes)+1 by simp[Vl.nodes];omega,dN,if_neg (by simp[eF])]
 rw[ju,oU a tg (by omega),oU b tg (by omega)]
theorem mX(a:Ty)(tg:Tg)(w:Vl):bZ (.rc a) tg (.f w)=iK (fun c=>.f (.l c)) (bZ a tg.up w)++(bZ a (.bd 0) w).flatMap fun h=>iK (fun c=>.f (.r (.p h.1 c))) (bZ (.rc a) tg h.2):=by
 rw[bZ,show (Vl.f w).nodes=w.nodes+1 by simp[Vl.nodes];omega,dN,if_neg (by simp[eF])]
 rw[ju,oU a tg.up (aq _),oU a (.bd 0) (aq _)]
 congr 1
 apply iR
 intro h hh
 have:=(fh _ _ _ _ _ hh).1
 rw[oU (.rc a) tg this]
theorem dW{t:Ty}{tg:Tg}{v:Vl}(h:eF t tg=false)(h2:stuck t v=true):bZ t tg v=[]:=by
 unfold bZ
 cases e:v.nodes with
 |zero=>rfl
 |
  succ n =>
  rw[dN,if_neg (by rw[h];simp)]
  unfold ju
  split<;>first|(simp[stuck]at h2;done)|rfl
theorem jp{t:Ty}{tg:Tg}{v:Vl}{h:Hl}(hm:h∈bZ t tg v):h.2.nodes<=v.nodes/\h.1.nodes+4*h.2.nodes<=4*v.nodes+1:=fh _ _ _ _ _ hm
theorem gO(n:Nat):∀(m:Nat) (t:Ty) (tg:Tg) (v:Vl) (h:Hl),v.gz n->h∈dN m t tg v->h.1.gz n/\h.2.gz n
 |0,t,tg,v,h,hv,hm=>by simp[dN]at hm
 |
  m+1,t,tg,v,h,hv,hm=>by
  unfold dN at hm
  split at hm
  ·simp only[aS]at hm
   subst hm
   exact⟨trivial,hv⟩
  ·unfold ju at hm
   split at hm
   ·obtain⟨k,h1,rfl⟩:=dH hm
    exact(fun q=>gO n m _ _ _ k q h1) hv
   ·obtain⟨k,h1,rfl⟩:=dH hm
    exact(fun q=>gO n m _ _ _ k q h1) hv
   ·rcases aL.1 hm with hm|hm
    ·obtain⟨k,h1,rfl⟩:=dH hm
     obtain⟨q1,q2⟩:=gO n m _ _ _ k hv.1 h1
     exact⟨⟨q1,hv.2⟩,q2⟩
    ·obtain⟨k,h1,rfl⟩:=dH hm
     obtain⟨q1,q2⟩:=gO n m _ _ _ k hv.2 h1
     exact⟨⟨hv.1,q1⟩,q2⟩
   ·rcases aL.1 hm with hm|hm
    ·obtain⟨k,h1,rfl⟩:=dH hm
     exact(fun q=>gO n m _ _ _ k q h1) hv
    ·obtain⟨k,h1,h2⟩:=List.mem_flatMap.1 hm
     obtain⟨k2,h3,rfl⟩:=dH h2
     obtain⟨q1,q2⟩:=(fun q=>gO n m _ _ _ k q h1) hv
     obtain⟨q3,q4⟩:=gO n m _ _ _ k2 q2 h3
     exact⟨⟨q1,q3⟩,q4⟩
   ·simp at hm
def kS(l:List Hl):Nat:=(l.map fun h=>h.2.nodes).sum
theorem qG(l r:List Hl):kS (l++r)=kS l+kS r:=by simp[kS]
theorem oN(g:Vl->Vl)(l:List Hl):kS (iK g l)=kS l:=by simp[kS,iK,Function.comp_def]
def kk(f:Tg->Nat)(T:List Tg):Nat:=(T.map f).sum
theorem nR(f g:Tg->Nat):∀T:List Tg,kk (fun x=>f x+g x) T=kk f T+kk g T
 |[]=>rfl
 |x::T=>by have:=nR f g T;simp only[kk,bL,List.sum_cons]at this |-;omega
theorem ye{f g:Tg->Nat}:∀{T:List Tg},(∀x,x∈T->f x<=g x)->kk f T<=kk g T
 |[],_=>aq _
 |
  x::T,h=>by
  have:=ye (T:=T) fun y hy=>h y (al _ hy)
  have:=h x aj
  simp only[kk,bL,List.sum_cons]at *;omega
theorem pG{f:Tg->Nat}:∀{T:List Tg},(∀x,x∈T->f x=0)->kk f T=0
 |[],_=>rfl
 |
  x::T,h=>by
  have:=pG (T:=T) fun y hy=>h y (al _ hy)
  have:=h x aj
  simp only[kk,bL,List.sum_cons]at *;omega
theorem sC(g:Hl->Tg->Nat)(T:List Tg):∀l:List Hl,kk (fun x=>(l.map fun h=>g h x).sum) T=(l.map fun h=>kk (g h) T).sum
 |[]=>pG fun _ _=>rfl
 |
  h::l=>by
  have:=sC g T l
  simp only[bL,List.sum_cons]
  rw[nR,this]
theorem sT(f:Hl->List Hl):∀l:List Hl,kS (l.flatMap f)=(l.map fun h=>kS (f h)).sum
 |[]=>rfl
 |h::l=>by rw[List.flatMap_cons,qG,sT f l];simp
theorem Aw{f g:Hl->Nat}:∀{l:List Hl},(∀x,x∈l->f x<=g x)->(l.map f).sum<=(l.map g).sum
 |[],_=>aq _
 |
  x::l,h=>by
  have:=Aw (l:=l) fun y hy=>h y (al _ hy)
  have:=h x aj
  simp only[bL,List.sum_cons]at *;omega
theorem Ad{t:Ty}{x y:Tg}(h:eF t x=true)(h':eF t y=true):x=y:=by
 cases t<;>cases x<;>cases y<;>simp[eF]at h h'<;>simp_all
theorem yi{t:Ty}(n:Nat):∀{T:List Tg},T.Nodup->kk (fun x=>if eF t x=true then n else 0) T<=n
 |[],_=>dS _
 |
  x::T,h=>by
  obtain⟨h1,h2⟩:=List.nodup_cons.1 h
  have ih:=yi (t:=t) n h2
  by_cases hx:eF t x=true
  ·have:kk (fun x=>if eF t x=true then n else 0) T=0:=pG fun y hy=>by
    rw[if_neg fun hy'=>h1 (by rw[Ad hx hy'];exact hy)]
   simp only[kk,bL,List.sum_cons]at *
   rw[if_pos hx];omega
  ·simp only[kk,bL,List.sum_cons]at *
   rw[if_neg hx];omega
theorem AE{T:List Tg}(h:T.Nodup):(Tg.bd 0::T.map Tg.up).Nodup:=by
 refine List.nodup_cons.2 ⟨fun hm=>?_,?_⟩
 ·obtain⟨x,_,e⟩:=cm.1 hm
  cases x<;>simp[Tg.up]at e
 ·refine List.Pairwise.map _ (fun a b hab e=>hab ?_) h
  cases a<;>cases b<;>simp[Tg.up]at e<;>simp_all
theorem apart:∀(n:Nat) (v:Vl),v.nodes<=n->∀(t:Ty) (T:List Tg),T.Nodup->kk (fun x=>kS (bZ t x v)) T<=v.nodes
 |0,v,h=>by have:=dr v;omega
 |
  n+1,v,hn=>by
  intro t T hT
  have base:∀(hno:∀x,eF t x=false->bZ t x v=[]),kk (fun x=>kS (bZ t x v)) T<=v.nodes:=fun hno=>by
   refine Nat.le_trans (ye fun x _=>?_) (yi (t:=t) v.nodes hT)
   cases e:eF t x with
   |true=>rw[mz v e];simp[kS]
   |false=>rw[hno x e];simp[kS]
  cases hm:stuck t v with
  |true=>exact base fun x hx=>dW hx hm
  |
   false =>
   unfold stuck at hm
   split at hm
   ·rename_i a b w
    simp only[Vl.nodes]at hn |-
    simp only[mS,oN]
    have:=apart n w (by omega) a T hT
    omega
   ·rename_i a b w
    simp only[Vl.nodes]at hn |-
    simp only[mO,oN]
    have:=apart n w (by omega) b T hT
    omega
   ·rename_i a b x y
    simp only[Vl.nodes]at hn |-
    simp only[mU,qG,oN]
    rw[nR]
    have:=apart n x (by omega) a T hT
    have:=apart n y (by omega) b T hT
    omega
   ·rename_i a w
    simp only[Vl.nodes]at hn |-
    simp only[mX,qG,oN,sT]
    rw[nR,sC]
    have h1:=apart n w (by omega) a _ (AE hT)
    simp only[kk,bL,List.sum_cons,List.map_map]at h1
    have h2:((bZ a (.bd 0) w).map fun h=>kk (fun x=>kS (bZ (.rc a) x h.2)) T).sum<=kS (bZ a (.bd 0) w):=Aw fun h hh=>by
     have:=(jp hh).1
     exact apart n h.2 (by omega) (.rc a) T hT
    simp only[kk,Function.comp_def]at h1 h2 |-
    omega
   ·cases hm
theorem qI(t:Ty)(tg:Tg)(v:Vl):kS (bZ t tg v)<=v.nodes:=by
 have:=apart v.nodes v (aq _) t [tg] (by simp)
 simpa[kk]using this
theorem oy:∀l:List Hl,l.length<=kS l
 |[]=>dS _
 |
  h::l=>by
  have:=oy l
  have:=dr h.2
  simp only[kS,bL,List.sum_cons,aw]at *;omega
theorem mP(t:Ty)(tg:Tg)(v:Vl):(bZ t tg v).length<=v.nodes:=Nat.le_trans (oy _) (qI t tg v)
end Go.Proofs.Trees
namespace Go.Proofs.Trees
open Go Go.VL Go.RowKit
def gh(ar:List (List UInt8))(k:Nat):List UInt8:=ar.getD (ar.length-1-k) []
theorem fG{s:List UInt8}{ar:List (List UInt8)}:∀(i u:Nat),i<=ar.length->bG s ar i=some u->u<ar.length/\gh ar u=s
 |0,u,_,h=>by cases h
 |
  i+1,u,hi,h=>by
  rw[bG]at h
  split at h
  ·rename_i e
   cases h
   refine⟨by omega,?_⟩
   rw[gh,show ar.length-1-(ar.length-1-i)=i by omega];exact e
  ·exact fG i u (by omega) h
def uz:Ty->Tg->Bool
 | .plus a b,tg=>uz a tg||uz b tg
 | .times a b,tg=>uz a tg||uz b tg
 | .rc a,tg=>uz a tg.up
 |t,tg=>eF t tg
theorem iQ:∀(n:Nat) (v:Vl),v.nodes<=n->∀(t:Ty) (tg:Tg),uz t tg=false->bZ t tg v=[]
 |0,v,h=>by have:=dr v;omega
 |
  n+1,v,hn=>by
  intro t tg ho
  cases hm:stuck t v with
  |
   true =>
   refine dW ?_ hm
   cases t<;>first|exact ho|rfl
  |
   false =>
   unfold stuck at hm
   split at hm
   ·simp only[Vl.nodes]at hn
    simp only[uz,bU]at ho
    rw[mS,iQ n _ (by omega) _ _ ho.1];rfl
   ·simp only[Vl.nodes]at hn
    simp only[uz,bU]at ho
    rw[mO,iQ n _ (by omega) _ _ ho.2];rfl
   ·simp only[Vl.nodes]at hn
    simp only[uz,bU]at ho
    rw[mU,iQ n _ (by omega) _ _ ho.1,iQ n _ (by omega) _ _ ho.2];rfl
   ·rename_i a w
    simp only[Vl.nodes]at hn
    have ho':uz a tg.up=false:=ho
    rw[mX,iQ n _ (by omega) _ _ ho']
    have:(bZ a (.bd 0) w).flatMap (fun h=>iK (fun c=>.f (.r (.p h.1 c))) (bZ (.rc a) tg h.2))=(bZ a (.bd 0) w).flatMap (fun _=>[]):=iR fun h hh=>by
     have:=(jp hh).1
     rw[iQ n h.2 (by omega) (.rc a) tg ho];rfl
    rw[this]
    induction bZ a (.bd 0) w<;>simp_all[iK]
   ·cases hm
theorem kA:∀(e:E) (ar:List (List UInt8)) (t:Ty) (k:Nat),cN e ar=some t->uz t (.bd k)=true->k<ar.length/\bG (gh ar k) ar ar.length=some k
 |
  .atom s,ar,t,k,ht,ho=>by
  simp only[cN]at ht
  split at ht
  ·cases ht;cases ho
  ·split at ht
   ·cases ht;cases ho
   ·split at ht
    ·cases ht;cases ho
    ·split at ht
     ·split at ht
      ·rename_i u hu
       cases ht
       have:u=k:=by simpa[uz,eF]using ho
       subst this
       obtain⟨h1,h2⟩:=fG _ _ (aq _) hu
       exact⟨h1,by rw[h2];exact hu⟩
      ·cases ht;cases ho
     ·cases ht
 |
  .list [x,a,b],ar,t,k,ht,ho=>by
  by_cases h0:x.at=[43]
  ·obtain⟨t1,t2,h1,h2,rfl⟩:=fH h0 ht
   simp only[uz,bo]at ho
   rcases ho with ho|ho
   ·exact kA a ar t1 k h1 ho
   ·exact kA b ar t2 k h2 ho
  ·by_cases h1:x.at=[42]
   ·obtain⟨t1,t2,h1,h2,rfl⟩:=fk h1 ht
    simp only[uz,bo]at ho
    rcases ho with ho|ho
    ·exact kA a ar t1 k h1 ho
    ·exact kA b ar t2 k h2 ho
   ·by_cases h2:x.at=[114,101,99]
    ·obtain⟨t1,_,h3,rfl⟩:=dw h2 ht
     obtain⟨q1,q2⟩:=kA b (ar++[a.at]) t1 (k+1) h3 ho
     simp only[an,aw,aG]at q1
     have hk:k<ar.length:=by omega
     have e:gh (ar++[a.at]) (k+1)=gh ar k:=by
      unfold gh
      rw[an,show ar.length+[a.at].length-1-(k+1)=ar.length-1-k by simp;omega]
      simp[aa,List.getElem?_append_left (show ar.length-1-k<ar.length by omega)]
     rw[e]at q2
     refine⟨hk,?_⟩
     have e2:(ar++[a.at]).length=ar.length+1:=by simp
     rw[e2,bG]at q2
     split at q2
     ·rw[e2]at q2;simp at q2
     ·rw[kg _ _ _ _ (aq _)]at q2
      cases hq:bG (gh ar k) ar ar.length with
      |none=>rw[hq]at q2;cases q2
      |some u=>rw[hq]at q2;simpa using q2
    ·rw[jb _ h0 h1 h2]at ht;cases ht
 | .list [],ar,t,k,ht,ho=>by cases ht
 | .list [_],ar,t,k,ht,ho=>by cases ht
 | .list [_,_],ar,t,k,ht,ho=>by cases ht
 | .list (_::_::_::_::_),ar,t,k,ht,ho=>by cases ht
theorem fm(w:List UInt8)(ar:List (List UInt8)):bG w (ar++[w]) (ar++[w]).length=some 0:=by
 have e2:(ar++[w]).length=ar.length+1:=by simp
 rw[e2,bG,if_pos (by simp[aa]),e2];simp
theorem jD{s w:List UInt8}(ar:List (List UInt8))(h:w≠s):bG s (ar++[w]) (ar++[w]).length=(bG s ar ar.length).map (·+1):=by
 have e2:(ar++[w]).length=ar.length+1:=by simp
 rw[e2,bG,if_neg (by simpa[aa]using h),kg _ _ _ _ (aq _)]
theorem Ga{b:E}{ar:List (List UInt8)}{w:List UInt8}{t:Ty}{k:Nat}(hb:cN b (ar++[w])=some t)(hk:bG w ar ar.length=some k):uz t (.bd (k+1))=false:=by
 cases h:uz t (.bd (k+1))with
 |false=>rfl
 |
  true =>
  obtain⟨_,q2⟩:=kA _ _ _ _ hb h
  obtain⟨h1,h2⟩:=fG _ _ (aq _) hk
  have e:gh (ar++[w]) (k+1)=gh ar k:=by
   unfold gh
   rw[an,show ar.length+[w].length-1-(k+1)=ar.length-1-k by simp;omega]
   simp[aa,List.getElem?_append_left (show ar.length-1-k<ar.length by omega)]
  rw[e,h2,fm]at q2
  cases q2
def oz(s:List UInt8)(ar:List (List UInt8)):Tg:=match bG s ar ar.length with|some u=>.bd u|none=>.nm s
theorem ve(w:List UInt8)(ar:List (List UInt8)):oz w (ar++[w])=.bd 0:=by rw[oz,fm]
theorem zh{s w:List UInt8}(ar:List (List UInt8))(h:w≠s):oz s (ar++[w])=(oz s ar).up:=by
 rw[oz,oz,jD ar h]
 cases bG s ar ar.length<;>rfl
theorem io(n:Nat):∀(m:Nat) (v:Vl),v.nodes<=m->∀(e:E) (env:List Fr) (t:Ty),Ask e env t->eV n v (e,env)=true->∀(k:Nat) (f:Fr),env[k]?=some f->∀h,h∈bZ t (.bd k) v->eV n h.2 (f.ex,f.out)=true
 |0,v,hm=>by have:=dr v;omega
 |
  m+1,v,hm=>by
  intro e env t A hv k f hf h hh
  rcases gq A.wf A.ty with⟨hb,hq⟩|⟨u,g,rfl,hq,hu⟩
  ·have hhd:hd e env=(e,env):=kj hq
   rcases fI A.ty hb A.cl with⟨rfl,rfl⟩|⟨rfl,rfl⟩|⟨s,rfl,rfl,hp,h0,h1⟩|⟨x,a,b,t1,t2,rfl,hx,rfl,ha,hbb⟩|⟨x,a,b,t1,t2,rfl,hx,rfl,ha,hbb⟩|⟨x,a,b,t1,rfl,hx,rfl⟩
   ·rw[dW rfl (by cases v<;>rfl)]at hh;cases hh
   ·rw[dW rfl (by cases v<;>rfl)]at hh;cases hh
   ·rw[dW rfl (by cases v<;>rfl)]at hh;cases hh
   ·obtain⟨ok1,ok2,ok3,_⟩:=A.ok
    obtain⟨f1,f2⟩:=fB A.cl
    cases v with
    |
     l w =>
     simp only[eV,hhd,hx,beq_self_eq_true,bO]at hv
     simp only[Vl.nodes]at hm
     rw[mS]at hh
     obtain⟨h2,h3,rfl⟩:=dH hh
     exact io n m w (by omega) a env t1 ⟨ok2,A.wf,ha,f1⟩ hv k f hf h2 h3
    |
     r w =>
     simp only[eV,hhd,hx,beq_self_eq_true,bO]at hv
     simp only[Vl.nodes]at hm
     rw[mO]at hh
     obtain⟨h2,h3,rfl⟩:=dH hh
     exact io n m w (by omega) b env t2 ⟨ok3,A.wf,hbb,f2⟩ hv k f hf h2 h3
    |_=>rw[dW rfl rfl]at hh;cases hh
   ·obtain⟨ok1,ok2,ok3,_⟩:=A.ok
    obtain⟨f1,f2⟩:=eU A.cl
    cases v with
    |
     p w w' =>
     simp only[eV,hhd,hx,beq_self_eq_true,bO,au]at hv
     simp only[Vl.nodes]at hm
     rw[mU]at hh
     rcases aL.1 hh with hh|hh
     ·obtain⟨h2,h3,rfl⟩:=dH hh
      exact io n m w (by omega) a env t1 ⟨ok2,A.wf,ha,f1⟩ hv.1 k f hf h2 h3
     ·obtain⟨h2,h3,rfl⟩:=dH hh
      exact io n m w' (by omega) b env t2 ⟨ok3,A.wf,hbb,f2⟩ hv.2 k f hf h2 h3
    |_=>rw[dW rfl rfl]at hh;cases hh
   ·obtain⟨t1',he1,h1,f1,hw1⟩:=jm A.wf A.ok hx A.ty A.cl
    cases he1
    obtain⟨ok1,ok2,ok3,_⟩:=A.ok
    cases v with
    |
     f w =>
     simp only[eV,hhd,hx,beq_self_eq_true,bO]at hv
     simp only[Vl.nodes]at hm
     rw[mX]at hh
     have A':Ask b (.mk a.at (.list [x,a,b]) env::env) t1:=⟨ok3,hw1,h1,f1⟩
     rcases aL.1 hh with hh|hh
     ·obtain⟨h2,h3,rfl⟩:=dH hh
      exact io n m w (by omega) b _ t1 A' hv (k+1) f (by simpa using hf) h2 h3
     ·obtain⟨kd,h2,h3⟩:=List.mem_flatMap.1 hh
      obtain⟨h4,h5,rfl⟩:=dH h3
      have hkd:=io n m w (by omega) b _ t1 A' hv 0 _ rfl kd h2
      have:=(jp h2).1
      exact io n m kd.2 (by omega) (.list [x,a,b]) env _ A hkd k f hf h4 h5
    |_=>rw[dW rfl rfl]at hh;cases hh
  ·by_cases huk:u=k
   ·subst huk
    rw[hu]at hf;cases hf
    rw[mz v (by simp[eF])]at hh
    simp only[aS]at hh
    subst hh
    obtain⟨x,a,b,t',hfe,hok,hx,ht',hf',hwf,hlt⟩:=oC A.wf hq
    rw[<-ue n v (qv hq) (by rw[hfe];exact po hwf)];exact hv
   ·rw[dW (by simpa[eF]using huk) (by cases v<;>rfl)]at hh;cases hh
end Go.Proofs.Trees
namespace Go.Proofs.Trees
open Go Go.VL Go.RowKit
def cL:E->List Nm->Ty
 | .atom s,ar=>if s=[48]then .zero else if s=[49]then .one else match bG s ar ar.length with|some u=>.bJ u|none=>.name s
 | .list [x,a,b],ar=>if x.at=[43]then .plus (cL a ar) (cL b ar)else if x.at=[42]then .times (cL a ar) (cL b ar)else .rc (cL b (ar++[a.at]))
 | .list _,_=>.zero
def qx(s:Nm):Prop:=s≠[]/\s≠[48]/\s≠[49]
inductive Wf:E->Prop
 |atom {s} (h:s≠[]):Wf (.atom s)
 |plus {a b} (ha:Wf a) (hb:Wf b):Wf (.list [.atom [43],a,b])
 |times {a b} (ha:Wf a) (hb:Wf b):Wf (.list [.atom [42],a,b])
 |rc {n b} (hn:qx n) (hb:Wf b):Wf (.list [.atom [114,101,99],.atom n,b])
theorem dK(a b:E)(ar:List Nm):cL (.list [.atom [43],a,b]) ar=.plus (cL a ar) (cL b ar):=by rw[cL,if_pos (show (E.atom [43]).at=[43] from rfl)]
theorem dm(a b:E)(ar:List Nm):cL (.list [.atom [42],a,b]) ar=.times (cL a ar) (cL b ar):=by rw[cL,if_neg (by decide),if_pos (show (E.atom [42]).at=[42] from rfl)]
theorem fj(a b:E)(ar:List Nm):cL (.list [.atom [114,101,99],a,b]) ar=.rc (cL b (ar++[a.at])):=by rw[cL,if_neg (by decide),if_neg (by decide)]
theorem Wf.ok{e:E}(h:Wf e):e.ok:=by
 induction h with
 |atom h=>exact h
 |plus ha hb i1 i2=>exact⟨by simp[E.ok],i1,i2,trivial⟩
 |times ha hb i1 i2=>exact⟨by simp[E.ok],i1,i2,trivial⟩
 |rc hn hb i=>exact⟨by simp[E.ok],hn.1,i,trivial⟩
theorem Wf.cX{e:E}(h:Wf e):∀ar,e.cX=(cL e ar).aC:=by
 induction h with
 |
  @atom s h =>
  intro ar
  simp only[E.cX,cL]
  split
  ·rfl
  ·split
   ·rfl
   ·split<;>rfl
 |plus ha hb i1 i2=>intro ar;rw[dK];simp only[E.cX,E.eW,Ty.aC,<-i1 ar,<-i2 ar];omega
 |times ha hb i1 i2=>intro ar;rw[dm];simp only[E.cX,E.eW,Ty.aC,<-i1 ar,<-i2 ar];omega
 |@rc n b hn hb i=>intro ar;rw[fj];simp only[E.cX,E.eW,Ty.aC,<-i];omega
theorem Wf.sz{e:E}(h:Wf e):e.sz<=3*e.cX:=by
 induction h with
 |atom h=>simp[E.sz,E.cX]
 |plus ha hb i1 i2=>simp only[E.sz,E.jt,E.cX,E.eW];omega
 |times ha hb i1 i2=>simp only[E.sz,E.jt,E.cX,E.eW];omega
 |rc hn hb i=>simp only[E.sz,E.jt,E.cX,E.eW];omega
theorem ki:∀(e:E) (ar:List Nm) (t:Ty),e.ok->(∀w,w∈ar->db w=true)->cN e ar=some t->Wf e/\cL e ar=t
 |
  .atom s,ar,t,hok,hl,ht=>by
  refine⟨.atom hok,?_⟩
  simp only[cN,cL]at ht |-
  split at ht
  ·rename_i h;rw[if_pos h];simpa using ht
  ·rename_i h;rw[if_neg h]
   split at ht
   ·rename_i h1;rw[if_pos h1];simpa using ht
   ·rename_i h1;rw[if_neg h1]
    split at ht
    ·rename_i hp
     cases q:bG s ar ar.length with
     |none=>simpa using ht
     |
      some u =>
      obtain⟨h1,h2⟩:=fG _ _ (aq _) q
      have:=hl (gh ar u) (by
       unfold gh
       have:ar.length-1-u<ar.length:=by omega
       simp[aa,this])
      rw[h2,j3 hp]at this;cases this
    ·split at ht
     ·split at ht<;>rename_i q<;>rw[q]<;>simpa using ht
     ·cases ht
 |
  .list [x,a,b],ar,t,hok,hl,ht=>by
  obtain⟨ok1,ok2,ok3,_⟩:=hok
  by_cases h0:x.at=[43]
  ·obtain⟨t1,t2,h1,h2,rfl⟩:=fH h0 ht
   obtain rfl:=ka h0 (by simp)
   obtain⟨w1,e1⟩:=ki a ar t1 ok2 hl h1
   obtain⟨w2,e2⟩:=ki b ar t2 ok3 hl h2
   exact⟨.plus w1 w2,by rw[dK,e1,e2]⟩
  ·by_cases h1:x.at=[42]
   ·obtain⟨t1,t2,h2,h3,rfl⟩:=fk h1 ht
    obtain rfl:=ka h1 (by simp)
    obtain⟨w1,e1⟩:=ki a ar t1 ok2 hl h2
    obtain⟨w2,e2⟩:=ki b ar t2 ok3 hl h3
    exact⟨.times w1 w2,by rw[dm,e1,e2]⟩
   ·by_cases h2:x.at=[114,101,99]
    ·obtain⟨t1,hla,h3,rfl⟩:=dw h2 ht
     obtain rfl:=ka h2 (by simp)
     have hne:a.at≠[]:=by intro e;rw[e]at hla;cases hla
     have ha:a=.atom a.at:=ka rfl hne
     obtain⟨w1,e1⟩:=ki b (ar++[a.at]) t1 ok3 (fun w hw=>by
      rcases aL.1 hw with hw|hw
      ·exact hl w hw
      ·simp only[aS]at hw;rw[hw];exact hla) h3
     have hN:qx a.at:=⟨hne,fun e=>by rw[e]at hla;revert hla;decide,fun e=>by rw[e]at hla;revert hla;decide⟩
     refine⟨?_,by rw[fj,e1]⟩
     rw[ha];exact .rc hN w1
    ·rw[jb _ h0 h1 h2]at ht;cases ht
 | .list [],ar,t,_,_,ht=>by cases ht
 | .list [_],ar,t,_,_,ht=>by cases ht
 | .list [_,_],ar,t,_,_,ht=>by cases ht
 | .list (_::_::_::_::_),ar,t,_,_,ht=>by cases ht
theorem fp(s:Nm)(ar:List Nm):bG s ar ar.length=none↔s∉ar:=by
 have:=ml s ar ar.length (aq _)
 rwa[List.take_length]at this
theorem nI(s:Nm)(ar:List Nm):∀(n:Nat) (br:List Nm),br.length=n->bG s (ar++br) (ar++br).length=match bG s br br.length with|some u=>some u|none=>(bG s ar ar.length).map (·+br.length)
 |
  0,br,h=>by
  obtain rfl:=List.eq_nil_of_length_eq_zero h
  rw[cH]
  cases h:bG s ar ar.length<;>simp[bG]
 |
  n+1,br,h=>by
  obtain⟨b2,w,rfl⟩:∃b2 w,br=b2++[w]:=⟨br.dropLast,br.getLast (by intro e;rw[e]at h;cases h),(List.dropLast_concat_getLast _).symm⟩
  rw[<-bb]
  by_cases hw:w=s
  ·subst hw;rw[fm,fm]
  ·rw[jD _ hw,jD _ hw,nI s ar n b2 (by simpa using h)]
   cases bG s b2 b2.length with
   |some u=>rfl
   |
    none =>
    cases bG s ar ar.length with
    |none=>rfl
    |some u=>simp only[Option.map_none,cv,an,aw,aG];congr 1
theorem uh(ar:List Nm){e:E}(h:Wf e):∀br,(∀y,bg y (cL e br)=true->y∉ar)->cL e (ar++br)=cL e br:=by
 induction h with
 |
  @atom s h =>
  intro br hy
  simp only[cL]at hy |-
  split
  ·rfl
  ·rename_i h0
   split
   ·rfl
   ·rename_i h1
    rw[if_neg h0,if_neg h1]at hy
    rw[nI s ar _ br rfl]
    cases q:bG s br br.length with
    |some u=>rfl
    |
     none =>
     rw[q]at hy
     have:=(fp s ar).2 (hy s (by simp[bg]))
     rw[this];rfl
 |
  plus ha hb i1 i2 =>
  intro br hy
  rw[dK]at hy |-
  rw[dK,i1 br fun y h=>hy y (by simp[bg,h]),i2 br fun y h=>hy y (by simp[bg,h])]
 |
  times ha hb i1 i2 =>
  intro br hy
  rw[dm]at hy |-
  rw[dm,i1 br fun y h=>hy y (by simp[bg,h]),i2 br fun y h=>hy y (by simp[bg,h])]
 |
  @rc n b hn hb i =>
  intro br hy
  rw[fj]at hy |-
  rw[fj,bb,i _ hy]
theorem xD(x:Nm){e:E}(h:Wf e):∀ar,cL e ar=dy (.name x) (cL e ([x]++ar)) ar.length:=by
 induction h with
 |
  @atom s h =>
  intro ar
  simp only[cL]
  split
  ·rfl
  ·split
   ·rfl
   ·rw[nI s [x] _ ar rfl]
    cases q:bG s ar ar.length with
    |
     some u =>
     have:=(fG _ _ (aq _) q).1
     simp only[dy];rw[if_neg (by omega)]
    |
     none =>
     by_cases hx:x=s
     ·subst hx
      have:bG x [x] [x].length=some 0:=fm x []
      rw[this];simp[dy]
     ·have:bG s [x] [x].length=none:=(fp s [x]).2 (by simpa using fun e=>hx e.symm)
      rw[this];rfl
 |plus ha hb i1 i2=>intro ar;rw[dK,dK,dy,<-i1 ar,<-i2 ar]
 |times ha hb i1 i2=>intro ar;rw[dm,dm,dy,<-i1 ar,<-i2 ar]
 |
  @rc n b hn hb i =>
  intro ar
  rw[fj,fj,dy,i (ar++[E.at (.atom n)]),bb]
  simp
theorem na{e:E}(h:Wf e):∀ar y,bg y (cL e ar)=true->qx y/\y∉ar:=by
 induction h with
 |
  @atom s h =>
  intro ar y hy
  simp only[cL]at hy
  split at hy
  ·cases hy
  ·rename_i h0
   split at hy
   ·cases hy
   ·rename_i h1
    split at hy
    ·cases hy
    ·rename_i q
     simp only[bg,decide_eq_true_eq]at hy
     subst hy
     exact⟨⟨h,h0,h1⟩,(fp _ _).1 q⟩
 |
  plus ha hb i1 i2 =>
  intro ar y hy
  rw[dK]at hy
  simp only[bg,bo]at hy
  rcases hy with hy|hy
  ·exact i1 ar y hy
  ·exact i2 ar y hy
 |
  times ha hb i1 i2 =>
  intro ar y hy
  rw[dm]at hy
  simp only[bg,bo]at hy
  rcases hy with hy|hy
  ·exact i1 ar y hy
  ·exact i2 ar y hy
 |
  rc hn hb i =>
  intro ar y hy
  rw[fj]at hy
  obtain⟨h1,h2⟩:=i _ y hy
  exact⟨h1,fun h=>h2 (aA _ h)⟩
theorem lP{e:E}(h:Wf e):∀(bd l:List Nm) (y:Nm),y∈j9 e bd l↔y∈l\/bg y (cL e bd)=true:=by
 induction h with
 |
  @atom s h =>
  intro bd l y
  simp only[j9,cL]
  by_cases h0:s=[48]
  ·simp[h0,bg]
  ·by_cases h1:s=[49]
   ·simp[h1,bg]
   ·rw[if_neg h0,if_neg h1]
    by_cases h2:s∈bd
    ·cases q:bG s bd bd.length with
     |none=>exact absurd h2 ((fp _ _).1 q)
     |some u=>simp[h2,bg]
    ·rw[(fp _ _).2 h2]
     simp only[h0,h1,h2,false_or,bg,decide_eq_true_eq]
     by_cases h3:s∈l
     ·simp only[h3,if_true]
      exact⟨fun h=>.inl h,fun h=>by rcases h with h|rfl<;>assumption⟩
     ·simp only[h3,if_false,aL,aS,eq_comm]
 |
  plus ha hb i1 i2 =>
  intro bd l y
  rw[j9,if_neg (by decide),dK,i2,i1]
  simp[bg,or_assoc]
 |
  times ha hb i1 i2 =>
  intro bd l y
  rw[j9,if_neg (by decide),dm,i2,i1]
  simp[bg,or_assoc]
 |
  rc hn hb i =>
  intro bd l y
  rw[j9,if_pos (show (E.atom [114,101,99]).at=[114,101,99] from rfl),fj,i]
  rfl
theorem eM:∀(t:Ty) (out:List Nm) (y:Nm),y∈bF t out↔y∈out\/bg y t=true
 |
  .name s,out,y=>by
  simp only[bF,pE,bg,decide_eq_true_eq]
  split
  ·rename_i h;exact⟨fun h=>.inl h,fun h'=>by rcases h' with h'|rfl<;>assumption⟩
  ·simp[eq_comm]
 | .plus a b,out,y=>by rw[bF,eM b,eM a];simp[bg,or_assoc]
 | .times a b,out,y=>by rw[bF,eM b,eM a];simp[bg,or_assoc]
 | .rc a,out,y=>by rw[bF,eM a];rfl
 | .zero,out,y=>by simp[bF,bg]
 | .one,out,y=>by simp[bF,bg]
 | .bJ k,out,y=>by simp[bF,bg]
end Go.Proofs.Trees
namespace Go.Proofs.Trees
open Go Go.VL Go.RowKit
abbrev dD:Nm:=[114,101,99]
theorem dX(s:Nm):(E.atom s).at=s:=rfl
def rj(x:Nm)(u:E):E->E
 | .atom s=>if s=x then u else .atom s
 | .list [h,a,b]=>if h.at=dD then(if a.at=x then .list [h,a,b]else .list [.atom dD,a,rj x u b])else .list [.atom h.at,rj x u a,rj x u b]
 | .list l=>.list l
def mV(x:Nm):E->Nat
 | .atom s=>if s=x then 1 else 0
 | .list [h,a,b]=>if h.at=dD then(if a.at=x then 0 else mV x b)else mV x a+mV x b
 | .list _=>0
def tS(p:Nm->Prop):E->Prop
 | .atom _=>True
 | .list [h,a,b]=>(if h.at=dD then p a.at else tS p a)/\tS p b
 | .list _=>True
def fA(x:Nm):Ty->Nat
 | .name s=>if s=x then 1 else 0
 | .plus a b=>fA x a+fA x b
 | .times a b=>fA x a+fA x b
 | .rc a=>fA x a
 |_=>0
theorem u4(x:Nm)(u a b:E):rj x u (.list [.atom [43],a,b])=.list [.atom [43],rj x u a,rj x u b]:=by rw[rj,if_neg (by decide)];rfl
theorem sL(x:Nm)(u a b:E):rj x u (.list [.atom [42],a,b])=.list [.atom [42],rj x u a,rj x u b]:=by rw[rj,if_neg (by decide)];rfl
theorem Br(x:Nm)(u:E)(n:Nm)(b:E):rj x u (.list [.atom dD,.atom n,b])=if n=x then .list [.atom dD,.atom n,b]else .list [.atom dD,.atom n,rj x u b]:=by rw[rj,if_pos (dX _)];rfl
theorem qU(x:Nm)(a b:E):mV x (.list [.atom [43],a,b])=mV x a+mV x b:=by rw[mV,if_neg (by decide)]
theorem pd(x:Nm)(a b:E):mV x (.list [.atom [42],a,b])=mV x a+mV x b:=by rw[mV,if_neg (by decide)]
theorem wk(x:Nm)(n:Nm)(b:E):mV x (.list [.atom dD,.atom n,b])=if n=x then 0 else mV x b:=by rw[mV,if_pos (dX _)];rfl
theorem oK(p:Nm->Prop)(a b:E):tS p (.list [.atom [43],a,b])↔tS p a/\tS p b:=by rw[tS,if_neg (by decide)]
theorem mQ(p:Nm->Prop)(a b:E):tS p (.list [.atom [42],a,b])↔tS p a/\tS p b:=by rw[tS,if_neg (by decide)]
theorem ud(p:Nm->Prop)(n:Nm)(b:E):tS p (.list [.atom dD,.atom n,b])↔p n/\tS p b:=by rw[tS,if_pos (dX _)];rfl
theorem BJ{p q:Nm->Prop}(h:∀n,p n->q n){e:E}(hw:Wf e):tS p e->tS q e:=by
 induction hw with
 |atom _=>exact fun _=>trivial
 |plus _ _ i1 i2=>rw[oK,oK];exact fun g=>⟨i1 g.1,i2 g.2⟩
 |times _ _ i1 i2=>rw[mQ,mQ];exact fun g=>⟨i1 g.1,i2 g.2⟩
 |rc _ _ i=>rw[ud,ud];exact fun g=>⟨h _ g.1,i g.2⟩
theorem iX{s:Nm}(hs:qx s){ar:List Nm}(h:s∉ar):cL (.atom s) ar=.name s:=by
 simp only[cL];rw[if_neg hs.2.1,if_neg hs.2.2,(fp s ar).2 h]
theorem Ci{x:Nm}(hx:qx x){u:E}(hu:Wf u){e:E}(h:Wf e):tS (fun n=>n≠x/\bg n (cL u [])=false) e->∀ar,x∉ar->(∀y,y∈ar->bg y (cL u [])=false)->Wf (rj x u e)/\cL (rj x u e) ar=sub x (cL u []) (cL e ar):=by
 induction h with
 |
  @atom s hs =>
  intro _ ar har hy
  by_cases e:s=x
  ·subst e
   have:cL u (ar++[])=cL u []:=uh ar hu [] fun y hy' hm=>by rw[hy y hm]at hy';cases hy'
   rw[cH]at this
   rw[iX hx har]
   simp only[rj,sub,if_true]
   exact⟨hu,this⟩
  ·simp only[rj,if_neg e]
   refine⟨.atom hs,?_⟩
   simp only[cL]
   split
   ·rfl
   ·split
    ·rfl
    ·split
     ·rfl
     ·simp only[sub,if_neg e]
 |
  plus ha hb i1 i2 =>
  intro hap ar har hy
  rw[oK]at hap
  obtain⟨w1,e1⟩:=i1 hap.1 ar har hy
  obtain⟨w2,e2⟩:=i2 hap.2 ar har hy
  rw[u4,dK,dK,e1,e2]
  exact⟨.plus w1 w2,rfl⟩
 |
  times ha hb i1 i2 =>
  intro hap ar har hy
  rw[mQ]at hap
  obtain⟨w1,e1⟩:=i1 hap.1 ar har hy
  obtain⟨w2,e2⟩:=i2 hap.2 ar har hy
  rw[sL,dm,dm,e1,e2]
  exact⟨.times w1 w2,rfl⟩
 |
  @rc n b hn hb i =>
  intro hap ar har hy
  rw[ud]at hap
  obtain⟨w1,e1⟩:=i hap.2 (ar++[n]) (by
   simp only[aL,aS]
   rintro(h|h)
   ·exact har h
   ·exact hap.1.1 h.symm) (fun y hm=>by
   simp only[aL,aS]at hm
   rcases hm with hm|rfl
   ·exact hy y hm
   ·exact hap.1.2)
  rw[Br,if_neg hap.1.1,fj,fj]
  refine⟨.rc hn w1,?_⟩
  show Ty.rc (cL (rj x u b) (ar++[n]))=_
  rw[e1];rfl
theorem CI{x:Nm}(hx:qx x){e:E}(h:Wf e):∀ar,fA x (cL e ar)=if x∈ar then 0 else mV x e:=by
 induction h with
 |
  @atom s hs =>
  intro ar
  by_cases e:s=x
  ·subst e
   by_cases hm:s∈ar
   ·rw[if_pos hm]
    simp only[cL];rw[if_neg hx.2.1,if_neg hx.2.2]
    cases q:bG s ar ar.length with
    |none=>exact absurd hm ((fp _ _).1 q)
    |some u=>rfl
   ·rw[if_neg hm,iX hx hm];simp[fA,mV]
  ·have:fA x (cL (.atom s) ar)=0:=by
    simp only[cL]
    split
    ·rfl
    ·split
     ·rfl
     ·split
      ·rfl
      ·simp[fA,e]
   rw[this];simp[mV,e]
 |plus ha hb i1 i2=>intro ar;rw[dK,qU,fA,i1,i2];split<;>simp
 |times ha hb i1 i2=>intro ar;rw[dm,pd,fA,i1,i2];split<;>simp
 |
  @rc n b hn hb i =>
  intro ar
  rw[fj,wk,fA,i]
  simp only[dX,aL,aS]
  by_cases h1:x∈ar
  ·simp[h1]
  ·by_cases h2:x=n
   ·simp[h2]
   ·simp[h1,h2,Ne.symm h2]
theorem ef(x:Nm)(u:Ty):∀t:Ty,(sub x u t).aC+fA x t=t.aC+fA x t*u.aC
 | .name s=>by simp only[sub,fA];split<;>simp[Ty.aC];omega
 | .plus a b=>by have:=ef x u a;have:=ef x u b;simp only[sub,Ty.aC,fA,Nat.add_mul];omega
 | .times a b=>by have:=ef x u a;have:=ef x u b;simp only[sub,Ty.aC,fA,Nat.add_mul];omega
 | .rc a=>by have:=ef x u a;simp only[sub,Ty.aC,fA];omega
 | .zero=>by simp[sub,fA]
 | .one=>by simp[sub,fA]
 | .bJ k=>by simp[sub,fA]
abbrev tN(m:Nat):Nm:=116::dd m
theorem Ef(m:Nat):dd m≠[]:=by
 by_cases h:m<10
 ·rw[eH h];simp
 ·rw[fP h];simp
theorem wN:∀(n m k:Nat),m<n->dd m=dd k->m=k
 |0,m,k,h,_=>by omega
 |
  n+1,m,k,h,e=>by
  have d10:∀{a b:Nat},a<10->b<10->be (48+a)=be (48+b)->a=b:=fun {a b} ha hb h=>by
   have:=congrArg UInt8.toNat h
   simp only[UInt8.toNat_ofNat']at this
   omega
  by_cases h1:m<10<;>by_cases h2:k<10
  ·rw[eH h1,eH h2]at e
   simp only[List.cons.injEq,and_true]at e
   exact d10 h1 h2 e
  ·rw[eH h1,fP h2]at e
   have:=congrArg List.length e
   have:dd (k/10)=[]:=by
    apply List.eq_nil_of_length_eq_zero
    simp at this;simpa using this
   exact absurd this (Ef _)
  ·rw[fP h1,eH h2]at e
   have:=congrArg List.length e
   have:dd (m/10)=[]:=by
    apply List.eq_nil_of_length_eq_zero
    simp at this;simpa using this
   exact absurd this (Ef _)
  ·rw[fP h1,fP h2]at e
   obtain⟨e1,e2⟩:=List.append_inj' e rfl
   have:=wN n (m/10) (k/10) (by omega) e1
   simp only[List.cons.injEq,and_true]at e2
   have:=d10 (eu _ (by omega)) (eu _ (by omega)) e2
   omega
theorem Bj{m k:Nat}(h:tN m=tN k):m=k:=wN (m+1) m k (by omega) (List.cons.inj h).2
theorem xI(m:Nat):qx (tN m):=⟨by simp,by simp,by simp⟩
theorem PV:∀(l F:List Nm),l.Nodup->(∀x,x∈l->x∈F)->l.length<=F.length
 |[],_,_,_=>dS _
 |
  x::l,F,hn,hs=>by
  obtain⟨h1,h2⟩:=List.nodup_cons.1 hn
  have hx:=hs x aj
  have:=PV l (F.erase x) h2 fun y hy=>(List.mem_erase_of_ne (fun e=>h1 (by rw[<-e];exact hy))).2 (hs y (al _ hy))
  rw[List.length_erase_of_mem hx]at this
  have:0<F.length:=List.length_pos_of_mem hx
  simp only[aw];omega
def pK(F:List Nm):Nat->Nat->Nat
 |0,k=>k
 |n+1,k=>if tN k∈F then pK F n (k+1)else k
theorem vu(F:List Nm):∀(n k:Nat),k<=pK F n k/\pK F n k<=k+n/\(∀j,k<=j->j<pK F n k->tN j∈F)/\(pK F n k<k+n->tN (pK F n k)∉F)
 |0,k=>⟨aq _,aq _,fun j h1 h2=>by simp only[pK]at h2;omega,fun h=>by simp only[pK]at h;omega⟩
 |
  n+1,k=>by
  rw[pK]
  split
  ·rename_i hm
   obtain⟨h1,h2,h3,h4⟩:=vu F n (k+1)
   refine⟨by omega,by omega,fun j hj hl=>?_,fun h=>h4 (by omega)⟩
   by_cases e:j=k
   ·subst e;exact hm
   ·exact h3 j (by omega) hl
  ·rename_i hm
   exact⟨aq _,by omega,fun j h1 h2=>by omega,fun _=>hm⟩
def nx(F:List Nm)(k:Nat):Nat:=pK F (F.length+1) k
theorem gx(F:List Nm)(k:Nat):k<=nx F k/\nx F k<=k+F.length/\(∀j,k<=j->j<nx F k->tN j∈F)/\tN (nx F k)∉F:=by
 obtain⟨h1,h2,h3,h4⟩:=vu F (F.length+1) k
 have hlt:nx F k<k+(F.length+1):=by
  rcases Nat.lt_or_ge (nx F k) (k+(F.length+1))with h|h
  ·exact h
  ·exfalso
   have:=PV ((List.range' k (F.length+1)).map tN) F (by
    refine List.Pairwise.map _ (fun a b hab e=>hab (Bj e)) List.nodup_range') (fun x hx=>by
    obtain⟨j,hj,rfl⟩:=cm.1 hx
    obtain⟨i,hi,rfl⟩:=List.mem_range'.1 hj
    exact h3 _ (by omega) (by show _<nx F k;omega))
   simp at this
   omega
 exact⟨h1,by unfold nx at hlt |-;omega,h3,h4 hlt⟩
theorem zR{F F':List Nm}(h:∀y,y∈F↔y∈F')(k:Nat):nx F k=nx F' k:=by
 obtain⟨a1,a2,a3,a4⟩:=gx F k
 obtain⟨b1,b2,b3,b4⟩:=gx F' k
 rcases Nat.lt_trichotomy (nx F k) (nx F' k)with hl|he|hl
 ·exact absurd ((h _).2 (b3 _ a1 hl)) a4
 ·exact he
 ·exact absurd ((h _).1 (a3 _ b1 hl)) b4
def gP(F:List Nm):Ty->List Nm->Nat->E×Nat
 | .zero,_,k=>(.atom [48],k)
 | .one,_,k=>(.atom [49],k)
 | .name s,_,k=>(.atom s,k)
 | .bJ u,to,k=>(.atom (gh to u),k)
 | .plus a b,to,k=>(.list [.atom [43],(gP F a to k).1,(gP F b to (gP F a to k).2).1],(gP F b to (gP F a to k).2).2)
 | .times a b,to,k=>(.list [.atom [42],(gP F a to k).1,(gP F b to (gP F a to k).2).1],(gP F b to (gP F a to k).2).2)
 | .rc a,to,k=>(.list [.atom dD,.atom (tN (nx F k)),(gP F a (to++[tN (nx F k)]) (nx F k+1)).1],(gP F a (to++[tN (nx F k)]) (nx F k+1)).2)
theorem jI{F F':List Nm}(h:∀y,y∈F↔y∈F'):∀(t:Ty) (to:List Nm) (k:Nat),gP F t to k=gP F' t to k
 | .zero,_,_=>rfl
 | .one,_,_=>rfl
 | .name _,_,_=>rfl
 | .bJ _,_,_=>rfl
 | .plus a b,to,k=>by simp only[gP];rw[jI h a,jI h b]
 | .times a b,to,k=>by simp only[gP];rw[jI h a,jI h b]
 | .rc a,to,k=>by simp only[gP];rw[zR h,jI h a]
def jv:Ty->Nat->Prop
 | .bJ u,i=>u<i
 | .plus a b,i=>jv a i/\jv b i
 | .times a b,i=>jv a i/\jv b i
 | .rc a,i=>jv a (i+1)
 |_,_=>True
theorem tK{e:E}(h:Wf e):∀ar,jv (cL e ar) ar.length:=by
 induction h with
 |
  @atom s hs =>
  intro ar
  simp only[cL]
  split
  ·trivial
  ·split
   ·trivial
   ·split
    ·rename_i u q;exact(fG _ _ (aq _) q).1
    ·trivial
 |plus ha hb i1 i2=>intro ar;rw[dK];exact⟨i1 ar,i2 ar⟩
 |times ha hb i1 i2=>intro ar;rw[dm];exact⟨i1 ar,i2 ar⟩
 |
  @rc n b hn hb i =>
  intro ar;rw[fj]
  have:=i (ar++[(E.atom n).at])
  rw[an]at this
  exact this
structure Gn(F to:List Nm)(k:Nat):Prop where
 out:∀w,w∈to->w∉F
 lt:∀w,w∈to->∃j,j<k/\w=tN j
 nd:to.Nodup
theorem Gn.nil(F:List Nm)(k:Nat):Gn F [] k:=⟨fun _ h=>(by cases h),fun _ h=>(by cases h),by simp⟩
theorem Gn.mono{F to:List Nm}{k k':Nat}(h:Gn F to k)(hk:k<=k'):Gn F to k':=⟨h.out,fun w hw=>by obtain⟨j,h1,h2⟩:=h.lt w hw;exact⟨j,by omega,h2⟩,h.nd⟩
theorem Gn.push{F to:List Nm}{k:Nat}(h:Gn F to k):Gn F (to++[tN (nx F k)]) (nx F k+1):=by
 obtain⟨h1,h2,h3,h4⟩:=gx F k
 refine⟨fun w hw=>?_,fun w hw=>?_,?_⟩
 ·rcases aL.1 hw with hw|hw
  ·exact h.out w hw
  ·simp only[aS]at hw;rw[hw];exact h4
 ·rcases aL.1 hw with hw|hw
  ·obtain⟨j,g1,g2⟩:=h.lt w hw;exact⟨j,by omega,g2⟩
  ·simp only[aS]at hw;exact⟨_,by omega,hw⟩
 ·refine List.nodup_append.2 ⟨h.nd,by simp,fun a ha b hb e=>?_⟩
  simp only[aS]at hb
  obtain⟨j,g1,g2⟩:=h.lt a ha
  rw[e,hb]at g2
  have:=Bj g2
  omega
theorem tG{to:List Nm}(hn:to.Nodup){u:Nat}(hu:u<to.length):bG (gh to u) to to.length=some u:=by
 have hm:gh to u∈to:=by
  unfold gh
  have:to.length-1-u<to.length:=by omega
  simp[aa,this]
 cases q:bG (gh to u) to to.length with
 |none=>exact absurd hm ((fp _ _).1 q)
 |
  some v =>
  obtain⟨h1,h2⟩:=fG _ _ (aq _) q
  unfold gh at h2
  have e1:to.length-1-v<to.length:=by omega
  have e2:to.length-1-u<to.length:=by omega
  rw[aa,aa,bm e1,bm e2]at h2
  have hp:=List.pairwise_iff_getElem.1 hn
  have h3:to[to.length-1-v]=to[to.length-1-u]:=by simpa using h2
  rcases Nat.lt_trichotomy (to.length-1-v) (to.length-1-u)with hl|he|hl
  ·exact absurd h3 (hp _ _ e1 e2 hl)
  ·congr 1;omega
  ·exact absurd h3.symm (hp _ _ e2 e1 hl)
theorem ku(F:List Nm):∀(t:Ty) (to:List Nm) (k:Nat),Gn F to k->jv t to.length->(∀y,bg y t=true->y∈F/\qx y) ->
 Wf (gP F t to k).1/\cL (gP F t to k).1 to=t/\k<=(gP F t to k).2/\(gP F t to k).2<=k+(F.length+1)*t.aC/\tS (·∉F) (gP F t to k).1
 | .zero,to,k,_,_,_=>⟨.atom (by simp),rfl,aq _,cW _ _,trivial⟩
 | .one,to,k,_,_,_=>⟨.atom (by simp),rfl,aq _,cW _ _,trivial⟩
 |
  .name s,to,k,g,hl,hn=>by
  obtain⟨h1,h2⟩:=hn s (by simp[bg])
  exact⟨.atom h2.1,iX h2 (fun h=>g.out s h h1),aq _,cW _ _,trivial⟩
 |
  .bJ u,to,k,g,hl,hn=>by
  have hm:gh to u∈to:=by
   unfold gh
   have:to.length-1-u<to.length:=by have:u<to.length:=hl;omega
   simp[aa,this]
  obtain⟨j,_,e⟩:=g.lt _ hm
  have hok:qx (gh to u):=by rw[e];exact xI j
  refine⟨.atom hok.1,?_,aq _,cW _ _,trivial⟩
  simp only[gP,cL]
  rw[if_neg hok.2.1,if_neg hok.2.2,tG g.nd hl]
 |
  .plus a b,to,k,g,hl,hn=>by
  obtain⟨a1,a2,a3,a4,a5⟩:=ku F a to k g hl.1 fun y hy=>hn y (by simp[bg,hy])
  obtain⟨b1,b2,b3,b4,b5⟩:=ku F b to _ (g.mono a3) hl.2 fun y hy=>hn y (by simp[bg,hy])
  simp only[gP,dK,a2,b2,oK,Ty.aC]
  refine⟨.plus a1 b1,trivial,by omega,?_,a5,b5⟩
  have:(F.length+1)*(1+a.aC+b.aC)=(F.length+1)+(F.length+1)*a.aC+(F.length+1)*b.aC:=by simp only[cP,dG]
  omega
 |
  .times a b,to,k,g,hl,hn=>by
  obtain⟨a1,a2,a3,a4,a5⟩:=ku F a to k g hl.1 fun y hy=>hn y (by simp[bg,hy])
  obtain⟨b1,b2,b3,b4,b5⟩:=ku F b to _ (g.mono a3) hl.2 fun y hy=>hn y (by simp[bg,hy])
  simp only[gP,dm,a2,b2,mQ,Ty.aC]
  refine⟨.times a1 b1,trivial,by omega,?_,a5,b5⟩
  have:(F.length+1)*(1+a.aC+b.aC)=(F.length+1)+(F.length+1)*a.aC+(F.length+1)*b.aC:=by simp only[cP,dG]
  omega
 |
  .rc a,to,k,g,hl,hn=>by
  obtain⟨h1,h2,h3,h4⟩:=gx F k
  obtain⟨a1,a2,a3,a4,a5⟩:=ku F a (to++[tN (nx F k)]) (nx F k+1) g.push (by rw[an];exact hl) hn
  simp only[gP,fj,dX,a2,ud,Ty.aC]
  refine⟨.rc (xI _) a1,trivial,by omega,?_,h4,a5⟩
  have:(F.length+1)*(2+a.aC)=(F.length+1)*2+(F.length+1)*a.aC:=by simp only[cP]
  omega
end Go.Proofs.Trees
namespace Go.Proofs.Trees
open Go Go.VL Go.RowKit
inductive kl:AV->List Nat->Prop
 |nil:kl jh []
 |cons {m:Nat} {cs:List AV} {e:AV} {ids:List Nat} (hm:m∉ids) (h:kl e ids):kl (.ptr [.pid m cs,e]) (m::ids)
theorem kl.has{a:AV}{ids:List Nat}(h:kl a ids):LK.has .ptr a:=by
 cases h
 ·exact(jd).mpr trivial
 ·exact(ck _).mpr trivial
theorem kl.Qf{M:Mem}{a:AV}{ids:List Nat}(h:kl a ids):∀{v:Value},bx M dB a v->∀b,b∈ids->M.p b:=by
 induction h with
 |nil=>intro v _ b hb;cases hb
 |
  @cons m cs e ids hm h ih =>
  intro v hr b hb
  cases hr with
  |
   ptr _ _ _ off us hc hr =>
   have h0:=hr 0 (by simp)
   have h1:=hr 1 (by simp)
   simp only[bn,List.getD_cons_succ]at h0 h1
   rcases aI.1 hb with rfl|hb
   ·generalize us 0=u0 at h0
    cases h0 with
    |pid _ _ _ us hp _ _=>exact hp
   ·exact ih h1 b hb
theorem kl.nodup{a:AV}{ids:List Nat}(h:kl a ids):ids.Nodup:=by
 induction h with
 |nil=>simp
 |cons hm h ih=>exact List.nodup_cons.2 ⟨hm,ih⟩
theorem zi(a b:AV)(S:Nat->Prop)(R:AV->Prop):Ax KD cC eA (cS eA) [.agg [.x a,.x b]] S (fun o=>aJ o 7) R =
 .ak (LK.has .ptr a/\a.isNil=false) (.ak (LK.has .ptr a/\a.isNil=false) (.ak (LK.has .ptr ((a.deref.drop 3).headD .any)/\1<=(a.deref.drop 3).length)
  (.ak (∀ids:Nat->Nat,(∀o,¬S (ids o))->(True/\R (.cA [.agg [(a.deref.drop 3).headD .any,.ptr [.pid (ids 7) [a,b],b]],.pid (ids 7) [a,b]]))) (.done 0 [] [])))):=by kernel_rfl
def zZ(t:Ty)(ea:AV)(ids:List Nat):AV->List Ob->Prop:=fun r o=>(∃m,m∉ids/\r=.cA [.agg [t.av,.ptr [.pid m [(Ty.rc t).av,ea],ea]],.pid m [(Ty.rc t).av,ea]])/\o=[]
theorem zZ.ne(t:Ty)(ea:AV)(ids:List Nat):∃r o,zZ t ea ids r o:=by
 have:∃m,m∉ids:=⟨ids.foldr max 0+1,fun h=>by
  have key:∀(l:List Nat) (x:Nat),x∈l->x<=l.foldr max 0:=by
   intro l
   induction l with
   |nil=>intro x hx;cases hx
   |
    cons y l ih =>
    intro x hx
    rcases aI.1 hx with rfl|hx
    ·simp only[List.foldr_cons];omega
    ·have:=ih x hx;simp only[List.foldr_cons];omega
  have:=key _ _ h
  omega⟩
 obtain⟨m,hm⟩:=this
 exact⟨_,_,⟨m,hm,rfl⟩,rfl⟩
theorem Cp(t:Ty)(ea:AV)(ids:List Nat)(he:kl ea ids):ap Tryz.prog 107 [.agg [(Ty.rc t).av,ea]] [] (zZ t ea ids):=by
 have hup:v8 [.agg [(Ty.rc t).av,ea]] [.agg [.x (Ty.rc t).av,.x ea]]:=ah (cr (ah (bA ((aF _).mpr trivial)) (ah (bA he.has) aD))) aD
 refine ap.up hup ?_
 refine ap.Qg (cC:=cC) (F:=eA) (S:=fun b=>b∈ids) (sel:=fun o=>aJ o 7) ua mixed (by kernel_rfl) (by kernel_rfl) (c:=cS eA) (by kernel_rfl) (by kernel_rfl) (fun M β vs hr b hb=>?_) ?_
 ·have h0:=hr 0 (by simp)
  simp only[bn]at h0
  obtain⟨us,_,hl,hq,_⟩:=gB h0
  have h1:=hq 1 (by simp at hl |-)
  simp only[List.getD_cons_succ,bn]at h1
  cases h1 with
  |x _ _ _ _ h=>exact he.Qf h b hb
 ·rw[zi]
  simp only[Ty.av,↓zq,zs,af,aF]
  exact⟨by omega,fun ids' hf=>⟨ids' 7,hf 7,rfl⟩⟩
theorem LS(u:Nat)(hu:u<1000000):∀(k i:Nat) (ea:AV) (ids:List Nat),i+k=u->kl ea ids->k<=ids.length->B3 [ea,.v (.int .i64 (u:Int)),.v (.int .i64 (i:Int))] [] (fun t ys o=>t=1/\∃e',kl e' (ids.drop k)/\ys=[e']/\o=[])
 |
  0,i,ea,ids,hi,he,hk=>by
  refine B7 _ _ _ ?_
  have:i=u:=by omega
  subst this
  simp only[zY,↓zq,zs,af]
  exact⟨he.has,fun h=>by omega,fun _=>⟨ea,he,rfl⟩⟩
 |
  k+1,i,ea,ids,hi,he,hk=>by
  refine B7 _ _ _ ?_
  cases he with
  |nil=>simp at hk
  |
   @cons m cs e ids' hm h =>
   simp only[zY,↓zq,zs,af,h.has]
   refine⟨fun _=>⟨by omega,?_⟩,fun h=>by omega⟩
   rw[bE i (by omega)]
   exact LS u hu k (i+1) e ids' (by omega) h (by simpa using hk)
theorem Om(u:Nat)(ea:AV)(ids:List Nat)(he:kl ea ids)(hu:u<ids.length)(hl:ids.length<1000000):ap Tryz.prog 133 [.agg [(Ty.bJ u).av,ea]] [] (fun r o=>(∃cs,r=.pid (ids.getD u 0) cs)/\o=[]):=by
 refine H9 _ _ ((aF _).mpr trivial) he.has ?_
 simp only[F8,Ty.av,↓zq,zs,af,he.has]
 refine⟨by omega,oI (LS u (by omega) u 0 ea ids (by omega) he (by omega)) ?_ (fun ys o h=>by cases h.1)⟩
 rintro ys o ⟨_,e',he',rfl,rfl⟩
 have hd:ids.drop u=ids.getD u 0::ids.drop (u+1):=by
  rw[aY hu];simp[aa,hu]
 rw[hd]at he'
 cases he' with
 |
  @cons m cs e ids' hm h =>
  have hp:LK.has .ptr (AV.pid (ids.getD u 0) cs):=.inr (.inr ⟨_,_,rfl⟩)
  simp only[↓zq,zs,af,hp]
  exact⟨by omega,cs,rfl⟩
inductive zK:Tg->List Nat->List UInt8->AV->Prop
 |nm (s:List UInt8) (ids:List Nat):zK (.nm s) ids s jh
 |bd {k:Nat} {ids:List Nat} (hk:k<ids.length) (cs:List AV) (s:List UInt8):zK (.bd k) ids s (.pid (ids.getD k 0) cs)
theorem zK.has{tg:Tg}{ids:List Nat}{s:List UInt8}{fr:AV}(h:zK tg ids s fr):LK.has .ptr fr:=by
 cases h
 ·exact(jd).mpr trivial
 ·exact .inr (.inr ⟨_,_,rfl⟩)
theorem zK.push{tg:Tg}{ids:List Nat}{s:List UInt8}{fr:AV}(h:zK tg ids s fr)(m:Nat):zK tg.up (m::ids) s fr:=by
 cases h with
 |nm=>exact .nm _ _
 |
  @bd k _ hk cs =>
  have:=zK.bd (k:=k+1) (ids:=m::ids) (by simpa using hk) cs s
  simpa[Tg.up]using this
theorem yx{ids:List Nat}(h:ids.Nodup){i j:Nat}(hi:i<ids.length)(hj:j<ids.length)(he:ids.getD i 0=ids.getD j 0):i=j:=by
 have e1:ids.getD i 0=ids[i]:=by simp[aa,hi]
 have e2:ids.getD j 0=ids[j]:=by simp[aa,hj]
 rw[e1,e2]at he
 have hp:=List.pairwise_iff_getElem.1 h
 rcases Nat.lt_trichotomy i j with hlt|rfl|hlt
 ·exact absurd he (hp i j hi hj hlt)
 ·rfl
 ·exact absurd he.symm (hp j i hj hi hlt)
theorem MM(t:Ty)(tg:Tg)(ea:AV)(ids:List Nat)(s:List UInt8)(fr:AV)(he:kl ea ids)(ht:zK tg ids s fr)(hu:∀u,t=.bJ u->u<ids.length)(hl:ids.length<1000000) :
 ap Tryz.prog 112 [.agg [.v (.string (mk s)),fr],.agg [t.av,ea]] [] (bD (.v (.bool (eF t tg)))):=by
 refine PD _ _ _ _ ht.has ((aF _).mpr trivial) he.has ?_
 cases ht with
 |
  nm s =>
  cases t<;>simp[CY,Ty.av,↓zq,zs,af,zt,bD,eF]
  rw[cn];simp
 |
  @bd k _ hk cs s =>
  generalize hm0:ids.getD k 0=m0
  have hp:LK.has .ptr (AV.pid m0 cs):=.inr (.inr ⟨_,_,rfl⟩)
  have hn:(AV.pid m0 cs).isNil=false:=rfl
  cases t with
  |
   bJ u =>
   have hu:=hu u rfl
   simp only[CY,Ty.av,↓zq,zs,af,hp,hn]
   refine⟨fun _=>⟨by omega,fun _=>?_,fun h=>absurd rfl h⟩,fun h=>by cases h⟩
   have hb:=Om u ea ids he hu hl
   simp only[Ty.av]at hb
   refine aO hb ⟨_,_,⟨[],rfl⟩,rfl⟩ ?_
   rintro r o ⟨⟨cs',rfl⟩,rfl⟩
   have hp':LK.has .ptr (AV.pid (ids.getD u 0) cs'):=.inr (.inr ⟨_,_,rfl⟩)
   simp only[↓zq,zs,af,hp',AV.qK,AV.BO,bD,eF]
   congr 2
   rw[cn,Nat.beq_eq,decide_eq_true_eq,<-hm0]
   exact⟨fun h=>yx he.nodup hu hk h,fun h=>by rw[h]⟩
  |_=>simp[CY,Ty.av,↓zq,zs,af,hp,hn,bD,eF]
end Go.Proofs.Trees
namespace Go.Proofs.Trees
open Go Go.VL Go.RowKit
theorem yE(b:Int)(a:AV)(h:LK.ptr.has a):ap Tryz.prog 95 [.v (.int .u8 b),a] [] (bD (.ptr [.v (.int .u8 b),.v (.string (mk [])),a,jh])):=by
 refine O6 _ _ h ?_
 simp[IB,↓zq,zs,af,bD]
end Go.Proofs.Trees
namespace Go.Proofs.Trees
open Go Go.VL Go.RowKit
def iv(l:List Hl):List (List AV):=l.map fun h=>[h.1.ct,h.2.ct]
theorem dZ(l:List Hl):(iv l).length=l.length:=by simp[iv]
theorem k8{l:List Hl}{i:Nat}(hi:i<l.length):(iv l).getD i []=[(l[i]).1.ct,(l[i]).2.ct]:=by simp[iv,aa,hi]
theorem ox(out:List Hl)(a b:Vl):iv out++[[a.ct,b.ct]]=iv (out++[(a,b)]):=by simp[iv]
theorem gp(g:Vl->Vl)(l:List Hl){i:Nat}(hi:i<l.length):iK g (l.drop i)=(g (l[i]).1,(l[i]).2)::iK g (l.drop (i+1)):=by
 rw[aY hi];rfl
theorem fQ(g:Vl->Vl)(l:List Hl):(iK g l).length=l.length:=by simp[iK]
theorem An(a b:AV):cE 2 [[a,b]]:=fun c hc=>by simp at hc;rw[hc];rfl
theorem JD(x0:AV)(hx0:LK.ptr.has x0)(g:Vl->Vl)(hg:∀c:Vl,ap Tryz.prog 114 [c.ct,.ref 0 0] [.cells [x0]] (dA (g c).ct [.cells [x0]]))(l:List Hl):∀(k i:Nat) (out:List Hl),i+k=l.length->out.length+k<=1000000->l.length<=1000000 ->
 Gc [.sl (iv l),.v (.int .i64 (l.length:Int)),.v (.int .i64 (i:Int))] [.cells [x0],.cells [.any],.vec 2 (iv out)] (iF 1 [] [.cells [x0],.cells [.any],.vec 2 (iv (out++iK g (l.drop i)))])
 |
  0,i,out,hi,ho,hl=>by
  refine I2 _ _ _ _ _ ?_
  have:i=l.length:=by omega
  subst this
  simp only[GU,↓zq,zs,af,dZ,hx0]
  exact⟨fun h=>by omega,fun _=>by simp[iF,iK]⟩
 |
  k+1,i,out,hi,ho,hl=>by
  have hlt:i<l.length:=by omega
  refine I2 _ _ _ _ _ ?_
  simp only[GU,↓zq,zs,af,zt,dZ,k8 hlt,aN,bz,hx0]
  refine⟨fun _=>⟨by omega,by omega,?_⟩,fun h=>by omega⟩
  refine bc (hg _) ?_
  simp only[↓zq,zs,af,aN,aM,bD,dA,hx0]
  refine⟨⟨An _ _,by omega⟩,?_⟩
  rw[bE i (by omega)]
  have:=JD x0 hx0 g hg l k (i+1) (out++[(g (l[i]).1,(l[i]).2)]) (by omega) (by simp;omega) hl
  rw[bb]at this
  rw[gp g l hlt,ox]
  exact this
theorem LA(x0:AV)(hx0:LK.ptr.has x0)(g:Vl->Vl)(hg:∀c:Vl,ap Tryz.prog 114 [c.ct,.ref 0 0] [.cells [x0]] (dA (g c).ct [.cells [x0]]))(l out:List Hl)(hl:out.length+l.length<=1000000) :
 ap Tryz.prog 113 [.sl (iv l),.fn 114 [.ref 0 0],.ref 1 0] [.cells [x0],.cells [.vec 2],.vec 2 (iv out)] (dA .any [.cells [x0],.cells [.vec 2],.vec 2 (iv (out++iK g l))]):=by
 refine OI _ _ _ ((cd _).mpr trivial) hx0 ?_
 simp only[JE,↓zq,zs,af,dZ]
 have h:=JD x0 hx0 g hg l l.length 0 out (by omega) (by omega) (by omega)
 rw[bp]at h
 refine cw h ?_
 simp[↓zq,zs,af,dA,aM,hx0]
theorem JM(x0:AV)(hx0:LK.ptr.has x0)(g:Vl->Vl)(hg:∀c:Vl,ap Tryz.prog 115 [c.ct,.ref 0 0] [.cells [x0]] (dA (g c).ct [.cells [x0]]))(l:List Hl):∀(k i:Nat) (out:List Hl),i+k=l.length->out.length+k<=1000000->l.length<=1000000 ->
 EX [.sl (iv l),.v (.int .i64 (l.length:Int)),.v (.int .i64 (i:Int))] [.cells [x0],.cells [.any],.vec 2 (iv out)] (iF 1 [] [.cells [x0],.cells [.any],.vec 2 (iv (out++iK g (l.drop i)))])
 |
  0,i,out,hi,ho,hl=>by
  refine Jb _ _ _ _ _ ?_
  have:i=l.length:=by omega
  subst this
  simp only[FI,↓zq,zs,af,dZ,hx0]
  exact⟨fun h=>by omega,fun _=>by simp[iF,iK]⟩
 |
  k+1,i,out,hi,ho,hl=>by
  have hlt:i<l.length:=by omega
  refine Jb _ _ _ _ _ ?_
  simp only[FI,↓zq,zs,af,zt,dZ,k8 hlt,aN,bz,hx0]
  refine⟨fun _=>⟨by omega,by omega,?_⟩,fun h=>by omega⟩
  refine bc (hg _) ?_
  simp only[↓zq,zs,af,aN,aM,bD,dA,hx0]
  refine⟨⟨An _ _,by omega⟩,?_⟩
  rw[bE i (by omega)]
  have:=JM x0 hx0 g hg l k (i+1) (out++[(g (l[i]).1,(l[i]).2)]) (by omega) (by simp;omega) hl
  rw[bb]at this
  rw[gp g l hlt,ox]
  exact this
theorem Pm(x0:AV)(hx0:LK.ptr.has x0)(g:Vl->Vl)(hg:∀c:Vl,ap Tryz.prog 115 [c.ct,.ref 0 0] [.cells [x0]] (dA (g c).ct [.cells [x0]]))(l out:List Hl)(hl:out.length+l.length<=1000000) :
 ap Tryz.prog 113 [.sl (iv l),.fn 115 [.ref 0 0],.ref 1 0] [.cells [x0],.cells [.vec 2],.vec 2 (iv out)] (dA .any [.cells [x0],.cells [.vec 2],.vec 2 (iv (out++iK g l))]):=by
 refine PH _ _ _ ((cd _).mpr trivial) hx0 ?_
 simp only[IN,↓zq,zs,af,dZ]
 have h:=JM x0 hx0 g hg l l.length 0 out (by omega) (by omega) (by omega)
 rw[bp]at h
 refine cw h ?_
 simp[↓zq,zs,af,dA,aM,hx0]
theorem JG(x0:AV)(hx0:LK.ptr.has x0)(g:Vl->Vl)(hg:∀c:Vl,ap Tryz.prog 116 [c.ct,.ref 0 0] [.cells [x0]] (dA (g c).ct [.cells [x0]]))(l:List Hl):∀(k i:Nat) (out:List Hl),i+k=l.length->out.length+k<=1000000->l.length<=1000000 ->
 EO [.sl (iv l),.v (.int .i64 (l.length:Int)),.v (.int .i64 (i:Int))] [.cells [x0],.cells [.any],.vec 2 (iv out)] (iF 1 [] [.cells [x0],.cells [.any],.vec 2 (iv (out++iK g (l.drop i)))])
 |
  0,i,out,hi,ho,hl=>by
  refine L8 _ _ _ _ _ ?_
  have:i=l.length:=by omega
  subst this
  simp only[F9,↓zq,zs,af,dZ,hx0]
  exact⟨fun h=>by omega,fun _=>by simp[iF,iK]⟩
 |
  k+1,i,out,hi,ho,hl=>by
  have hlt:i<l.length:=by omega
  refine L8 _ _ _ _ _ ?_
  simp only[F9,↓zq,zs,af,zt,dZ,k8 hlt,aN,bz,hx0]
  refine⟨fun _=>⟨by omega,by omega,?_⟩,fun h=>by omega⟩
  refine bc (hg _) ?_
  simp only[↓zq,zs,af,aN,aM,bD,dA,hx0]
  refine⟨⟨An _ _,by omega⟩,?_⟩
  rw[bE i (by omega)]
  have:=JG x0 hx0 g hg l k (i+1) (out++[(g (l[i]).1,(l[i]).2)]) (by omega) (by simp;omega) hl
  rw[bb]at this
  rw[gp g l hlt,ox]
  exact this
theorem OC(x0:AV)(hx0:LK.ptr.has x0)(g:Vl->Vl)(hg:∀c:Vl,ap Tryz.prog 116 [c.ct,.ref 0 0] [.cells [x0]] (dA (g c).ct [.cells [x0]]))(l out:List Hl)(hl:out.length+l.length<=1000000) :
 ap Tryz.prog 113 [.sl (iv l),.fn 116 [.ref 0 0],.ref 1 0] [.cells [x0],.cells [.vec 2],.vec 2 (iv out)] (dA .any [.cells [x0],.cells [.vec 2],.vec 2 (iv (out++iK g l))]):=by
 refine O8 _ _ _ ((cd _).mpr trivial) hx0 ?_
 simp only[L6,↓zq,zs,af,dZ]
 have h:=JG x0 hx0 g hg l l.length 0 out (by omega) (by omega) (by omega)
 rw[bp]at h
 refine cw h ?_
 simp[↓zq,zs,af,dA,aM,hx0]
theorem Jl(g:Vl->Vl)(hg:∀c:Vl,ap Tryz.prog 117 [c.ct] [] (bD (g c).ct))(l:List Hl):∀(k i:Nat) (out:List Hl),i+k=l.length->out.length+k<=1000000->l.length<=1000000 ->
 Hj [.v (.func (.func 117) #[] #[]),.sl (iv l),.v (.int .i64 (l.length:Int)),.v (.int .i64 (i:Int))] [.cells [.any],.vec 2 (iv out)] (iF 1 [] [.cells [.any],.vec 2 (iv (out++iK g (l.drop i)))])
 |
  0,i,out,hi,ho,hl=>by
  refine Lv _ _ _ _ ?_
  have:i=l.length:=by omega
  subst this
  simp only[GK,↓zq,zs,af,dZ]
  exact⟨fun h=>by omega,fun _=>by simp[iF,iK]⟩
 |
  k+1,i,out,hi,ho,hl=>by
  have hlt:i<l.length:=by omega
  refine Lv _ _ _ _ ?_
  simp only[GK,↓zq,zs,af,zt,dZ,k8 hlt,aN,bz]
  refine⟨fun _=>⟨by omega,by omega,?_⟩,fun h=>by omega⟩
  refine ai (hg _) ?_
  simp only[↓zq,zs,af,aN,aM,bD,dA]
  refine⟨⟨An _ _,by omega⟩,?_⟩
  rw[bE i (by omega)]
  have:=Jl g hg l k (i+1) (out++[(g (l[i]).1,(l[i]).2)]) (by omega) (by simp;omega) hl
  rw[bb]at this
  rw[gp g l hlt,ox]
  exact this
theorem Nu(g:Vl->Vl)(hg:∀c:Vl,ap Tryz.prog 117 [c.ct] [] (bD (g c).ct))(l out:List Hl)(hl:out.length+l.length<=1000000) :
 ap Tryz.prog 113 [.sl (iv l),.v (.func (.func 117) #[] #[]),.ref 0 0] [.cells [.vec 1],.vec 2 (iv out)] (dA .any [.cells [.vec 1],.vec 2 (iv (out++iK g l))]):=by
 refine NQ _ _ ((cd _).mpr trivial) ?_
 simp only[LX,↓zq,zs,af,dZ]
 have h:=Jl g hg l l.length 0 out (by omega) (by omega) (by omega)
 rw[bp]at h
 refine cw h ?_
 simp[↓zq,zs,af,dA,aM]
theorem Jq(x0:AV)(x1:AV)(hx0:LK.ptr.has x0)(hx1:LK.ptr.has x1)(g:Vl->Vl)(hg:∀c:Vl,ap Tryz.prog 118 [c.ct,.ref 0 0] [.cells [x0,x1]] (dA (g c).ct [.cells [x0,x1]]))(l:List Hl):∀(k i:Nat) (out:List Hl),i+k=l.length->out.length+k<=1000000->l.length<=1000000 ->
 FN [.sl (iv l),.v (.int .i64 (l.length:Int)),.v (.int .i64 (i:Int))] [.cells [x0,x1],.cells [.any],.vec 2 (iv out)] (iF 1 [] [.cells [x0,x1],.cells [.any],.vec 2 (iv (out++iK g (l.drop i)))])
 |
  0,i,out,hi,ho,hl=>by
  refine IG _ _ _ _ _ _ ?_
  have:i=l.length:=by omega
  subst this
  simp only[GI,↓zq,zs,af,dZ,hx0,hx1]
  exact⟨fun h=>by omega,fun _=>by simp[iF,iK]⟩
 |
  k+1,i,out,hi,ho,hl=>by
  have hlt:i<l.length:=by omega
  refine IG _ _ _ _ _ _ ?_
  simp only[GI,↓zq,zs,af,zt,dZ,k8 hlt,aN,bz,hx0,hx1]
  refine⟨fun _=>⟨by omega,by omega,?_⟩,fun h=>by omega⟩
  refine bc (hg _) ?_
  simp only[↓zq,zs,af,aN,aM,bD,dA,hx0,hx1]
  refine⟨⟨An _ _,by omega⟩,?_⟩
  rw[bE i (by omega)]
  have:=Jq x0 x1 hx0 hx1 g hg l k (i+1) (out++[(g (l[i]).1,(l[i]).2)]) (by omega) (by simp;omega) hl
  rw[bb]at this
  rw[gp g l hlt,ox]
  exact this
theorem Oq(x0:AV)(x1:AV)(hx0:LK.ptr.has x0)(hx1:LK.ptr.has x1)(g:Vl->Vl)(hg:∀c:Vl,ap Tryz.prog 118 [c.ct,.ref 0 0] [.cells [x0,x1]] (dA (g c).ct [.cells [x0,x1]]))(l out:List Hl)(hl:out.length+l.length<=1000000) :
 ap Tryz.prog 113 [.sl (iv l),.fn 118 [.ref 0 0],.ref 1 0] [.cells [x0,x1],.cells [.vec 2],.vec 2 (iv out)] (dA .any [.cells [x0,x1],.cells [.vec 2],.vec 2 (iv (out++iK g l))]):=by
 refine Og _ _ _ _ ((cd _).mpr trivial) hx0 hx1 ?_
 simp only[Ju,↓zq,zs,af,dZ]
 have h:=Jq x0 x1 hx0 hx1 g hg l l.length 0 out (by omega) (by omega) (by omega)
 rw[bp]at h
 refine cw h ?_
 simp[↓zq,zs,af,dA,aM,hx0,hx1]
theorem M3(w c:Vl):ap Tryz.prog 114 [c.ct,.ref 0 0] [.cells [(Vl.l w).ct]] (dA (Vl.l c).ct [.cells [(Vl.l w).ct]]):=by
 refine IF _ _ ((aN _).mpr trivial) ((aN _).mpr trivial) ?_
 simp only[GD,Vl.ct,↓zq,zs,af,aN]
 refine⟨by omega,?_⟩
 refine ai (yE _ _ ((aN _).mpr trivial)) ?_
 simp[↓zq,zs,af,dA,Vl.ct]
theorem Pu(w c:Vl):ap Tryz.prog 114 [c.ct,.ref 0 0] [.cells [(Vl.r w).ct]] (dA (Vl.r c).ct [.cells [(Vl.r w).ct]]):=by
 refine IF _ _ ((aN _).mpr trivial) ((aN _).mpr trivial) ?_
 simp only[GD,Vl.ct,↓zq,zs,af,aN]
 refine⟨by omega,?_⟩
 refine ai (yE _ _ ((aN _).mpr trivial)) ?_
 simp[↓zq,zs,af,dA,Vl.ct]
theorem Ok(x y c:Vl):ap Tryz.prog 115 [c.ct,.ref 0 0] [.cells [(Vl.p x y).ct]] (dA (Vl.l (.p c y)).ct [.cells [(Vl.p x y).ct]]):=by
 refine NH _ _ ((aN _).mpr trivial) ((aN _).mpr trivial) ?_
 simp only[LO,Vl.ct,↓zq,zs,af,aN]
 refine⟨by omega,?_⟩
 refine ai (yH _ _ ((aN _).mpr trivial) ((aN _).mpr trivial)) ?_
 simp only[↓zq,zs,af]
 refine ai (yE _ _ ((ck _).mpr trivial)) ?_
 simp[↓zq,zs,af,dA,Vl.ct]
theorem Nx(x y c:Vl):ap Tryz.prog 116 [c.ct,.ref 0 0] [.cells [(Vl.p x y).ct]] (dA (Vl.r (.p x c)).ct [.cells [(Vl.p x y).ct]]):=by
 refine MR _ _ ((aN _).mpr trivial) ((aN _).mpr trivial) ?_
 simp only[HH,Vl.ct,↓zq,zs,af,aN]
 refine⟨by omega,?_⟩
 refine ai (yH _ _ ((aN _).mpr trivial) ((aN _).mpr trivial)) ?_
 simp only[↓zq,zs,af]
 refine ai (yE _ _ ((ck _).mpr trivial)) ?_
 simp[↓zq,zs,af,dA,Vl.ct]
theorem NF(kc kv c:Vl):ap Tryz.prog 118 [c.ct,.ref 0 0] [.cells [kc.ct,kv.ct]] (dA (Vl.f (.r (.p kc c))).ct [.cells [kc.ct,kv.ct]]):=by
 refine O1 _ _ _ ((aN _).mpr trivial) ((aN _).mpr trivial) ((aN _).mpr trivial) ?_
 simp only[Ic,Vl.ct,↓zq,zs,af,aN]
 refine ai (yH _ _ ((aN _).mpr trivial) ((aN _).mpr trivial)) ?_
 simp only[↓zq,zs,af]
 refine ai (yE _ _ ((ck _).mpr trivial)) ?_
 simp only[↓zq,zs,af]
 refine ai (yE _ _ ((ck _).mpr trivial)) ?_
 simp[↓zq,zs,af,dA,Vl.ct,aN]
theorem Ps(c:Vl):ap Tryz.prog 117 [c.ct] [] (bD (Vl.f (.l c)).ct):=by
 refine N4 _ ((aN _).mpr trivial) ?_
 simp only[KT,↓zq,zs,af]
 refine ai (yE _ _ ((aN _).mpr trivial)) ?_
 simp only[↓zq,zs,af]
 refine ai (yE _ _ ((ck _).mpr trivial)) ?_
 simp[↓zq,zs,af,bD,Vl.ct]
end Go.Proofs.Trees
namespace Go.Proofs.Trees
open Go Go.VL Go.RowKit
abbrev zL(a:Ty)(tg:Tg):Hl->List Hl:=fun h=>iK (fun c=>.f (.r (.p h.1 c))) (bZ (.rc a) tg h.2)
theorem zT(l:List Hl){i:Nat}(hi:i<l.length):l[i]∈l:=bQ _
def Gr(t:Ty)(ea:AV)(s:List UInt8)(fr:AV)(tg:Tg)(v:Vl):Prop:=ap Tryz.prog 61 [.agg [t.av,ea],v.ct,.agg [.v (.string (mk s)),fr]] [] (bD (.sl (iv (bZ t tg v))))
theorem Kz(a:Ty)(ea:AV)(s:List UInt8)(fr:AV)(tg:Tg)(he:LK.ptr.has ea)(hf:LK.ptr.has fr)(l:List Hl)(hl:l.length<=1000000)(ih:∀h,h∈l->Gr (.rc a) ea s fr tg h.2) :
 ∀(k i:Nat) (out:List Hl),i+k=l.length->(out++(l.drop i).flatMap (zL a tg)).length<=1000000 ->
 GA [.sl (iv l),.v (.int .i64 (l.length:Int)),.v (.int .i64 (i:Int))] [.cells [(Ty.rc a).av,ea],.cells [.v (.string (mk s)),fr],.cells [.any],.vec 2 (iv out)] (iF 1 [] [.cells [.any],.vec 2 (iv (out++(l.drop i).flatMap (zL a tg)))])
 |
  0,i,out,hi,ho=>by
  refine Jf _ _ _ _ _ _ _ _ ?_
  have:i=l.length:=by omega
  subst this
  simp only[ED,↓zq,zs,af,dZ,aF,he,hf]
  exact⟨fun h=>by omega,fun _=>by simp[iF]⟩
 |
  k+1,i,out,hi,ho=>by
  have hlt:i<l.length:=by omega
  have hd:(l.drop i).flatMap (zL a tg)=zL a tg (l[i])++(l.drop (i+1)).flatMap (zL a tg):=by rw[aY hlt,List.flatMap_cons]
  rw[hd]at ho |-
  refine Jf _ _ _ _ _ _ _ _ ?_
  simp only[ED,↓zq,zs,af,zt,dZ,k8 hlt,aF,aN,bz,he,hf]
  refine⟨fun _=>⟨by omega,by omega,?_⟩,fun h=>by omega⟩
  refine ai (ih _ (zT l hlt)) ?_
  simp only[↓zq,zs,af]
  have hb:out.length+(bZ (.rc a) tg (l[i]).2).length<=1000000:=by
   simp only[an,fQ]at ho;omega
  refine bc (Oq _ _ ((aN _).mpr trivial) ((aN _).mpr trivial) (fun c=>.f (.r (.p (l[i]).1 c))) (fun c=>NF (l[i]).1 (l[i]).2 c) (bZ (.rc a) tg (l[i]).2) out hb) ?_
  simp only[↓zq,zs,af,aM,aN]
  rw[bE i (by omega),<-bb]
  exact Kz a ea s fr tg he hf l hl ih k (i+1) _ (by omega) (by rw[bb];exact ho)
theorem DT(n:Nat):∀(m:Nat) (v:Vl),v.nodes<=m->∀(e:E) (env:List Fr) (t:Ty),Ask e env t->eV n v (e,env)=true->env.length+v.nodes<100000->∀(ea:AV) (ids:List Nat),kl ea ids->ids.length=env.length->∀(tg:Tg) (s:List UInt8) (fr:AV),zK tg ids s fr->Gr t ea s fr tg v
 |0,v,hm=>by have:=dr v;omega
 |
  m+1,v,hm=>by
  intro e env t A hv hl ea ids he hids tg s fr ht
  unfold Gr
  refine OE _ _ _ _ _ ((aF _).mpr trivial) he.has ((aN _).mpr trivial) ht.has ?_
  unfold HS
  refine ai (MM t tg ea ids s fr he ht (fun u hu=>by
   rcases gq A.wf A.ty with⟨hb,_⟩|⟨u',g,rfl,_,hg⟩
   ·rw[hu]at hb;cases hb
   ·cases hu;rw[hids];exact(List.getElem?_eq_some_iff.1 hg).1) (by omega)) ?_
  have hlen:=mP t tg v
  cases hat:eF t tg with
  |
   true =>
   rw[mz v hat]
   simp only[↓zq,zs,af,bD,iv,bL,List.map_nil,Vl.ct]
   exact⟨fun _=>trivial,fun h=>(by cases h)⟩
  |false =>
  simp only[↓zq,zs,af]
  refine⟨fun h=>(by cases h),fun _=>?_⟩
  rcases gq A.wf A.ty with⟨hb,hq⟩|⟨u,g,rfl,hq,hu⟩
  ·have hhd:hd e env=(e,env):=kj hq
   rcases fI A.ty hb A.cl with⟨rfl,rfl⟩|⟨rfl,rfl⟩|⟨s,rfl,rfl,hp,h0,h1⟩|⟨x,a,b,t1,t2,rfl,hx,rfl,ha,hbb⟩|⟨x,a,b,t1,t2,rfl,hx,rfl,ha,hbb⟩|⟨x,a,b,t1,rfl,hx,rfl⟩
   ·rw[dW hat (by cases v<;>rfl)]
    simp[Ty.av,↓zq,zs,af,bD,iv]
   ·rw[dW hat (by cases v<;>rfl)]
    simp[Ty.av,↓zq,zs,af,bD,iv]
   ·rw[dW hat (by cases v<;>rfl)]
    simp[Ty.av,↓zq,zs,af,bD,iv]
   ·obtain⟨ok1,ok2,ok3,_⟩:=A.ok
    obtain⟨f1,f2⟩:=fB A.cl
    have hL:=yY t1.av t2.av ea 43 (mk []) 0 ((aF _).mpr trivial) he.has
    have hR:=y7 t1.av t2.av ea 43 (mk []) 0 ((aF _).mpr trivial) he.has
    cases v with
    |
     l w =>
     simp only[eV,hhd,hx,beq_self_eq_true,bO]at hv
     simp only[Vl.nodes]at hm hl hlen
     rw[mS]at hlen |-
     rw[fQ]at hlen
     simp only[Ty.av,↓zq,zs,af]
     refine⟨by omega,fun _=>?_,fun h=>absurd rfl h⟩
     refine ai hL ?_
     simp only[↓zq,zs,af,bz,aF,he.has,Vl.ct,aN]
     refine⟨by omega,fun h=>by omega,fun _=>⟨by omega,?_⟩⟩
     refine ai (DT n m w (by omega) a env t1 ⟨ok2,A.wf,ha,f1⟩ hv (by omega) ea ids he hids tg s fr ht) ?_
     simp only[↓zq,zs,af]
     have hadd:=LA (Vl.l w).ct ((aN _).mpr trivial) Vl.l (fun c=>M3 w c) (bZ t1 tg w) [] (by simp;omega)
     simp only[Vl.ct,iv,List.map_nil,aT]at hadd
     refine bc hadd ?_
     simp[↓zq,zs,af,aM,bD,aN,iv,ck]
    |
     r w =>
     simp only[eV,hhd,hx,beq_self_eq_true,bO]at hv
     simp only[Vl.nodes]at hm hl hlen
     rw[mO]at hlen |-
     rw[fQ]at hlen
     simp only[Ty.av,↓zq,zs,af]
     refine⟨by omega,fun _=>?_,fun h=>absurd rfl h⟩
     refine ai hL ?_
     simp only[↓zq,zs,af,bz,aF,he.has,Vl.ct,aN]
     refine⟨by omega,fun _=>?_,fun h=>absurd rfl h⟩
     refine ai hR ?_
     simp only[↓zq,zs,af,bz,aF,he.has,aN]
     refine⟨by omega,?_⟩
     refine ai (DT n m w (by omega) b env t2 ⟨ok3,A.wf,hbb,f2⟩ hv (by omega) ea ids he hids tg s fr ht) ?_
     simp only[↓zq,zs,af]
     have hadd:=LA (Vl.r w).ct ((aN _).mpr trivial) Vl.r (fun c=>Pu w c) (bZ t2 tg w) [] (by simp;omega)
     simp only[Vl.ct,iv,List.map_nil,aT]at hadd
     refine bc hadd ?_
     simp[↓zq,zs,af,aM,bD,aN,iv,ck]
    |_=>simp[eV,hhd,hx]at hv
   ·obtain⟨ok1,ok2,ok3,_⟩:=A.ok
    obtain⟨f1,f2⟩:=eU A.cl
    have hL:=yY t1.av t2.av ea 42 (mk []) 0 ((aF _).mpr trivial) he.has
    have hR:=y7 t1.av t2.av ea 42 (mk []) 0 ((aF _).mpr trivial) he.has
    cases v with
    |
     p w w' =>
     simp only[eV,hhd,hx,beq_self_eq_true,bO,au]at hv
     simp only[Vl.nodes]at hm hl hlen
     rw[mU]at hlen |-
     simp only[an,fQ]at hlen
     simp only[Ty.av,↓zq,zs,af]
     refine⟨by omega,fun h=>by omega,fun _=>⟨fun _=>?_,fun h=>absurd rfl h⟩⟩
     refine ai hL ?_
     simp only[↓zq,zs,af,bz,aF,he.has,Vl.ct,aN]
     refine⟨by omega,?_⟩
     refine ai (DT n m w (by omega) a env t1 ⟨ok2,A.wf,ha,f1⟩ hv.1 (by omega) ea ids he hids tg s fr ht) ?_
     simp only[↓zq,zs,af]
     have hadd:=Pm (Vl.p w w').ct ((aN _).mpr trivial) (fun c=>.l (.p c w')) (fun c=>Ok w w' c) (bZ t1 tg w) [] (by simp;omega)
     simp only[Vl.ct,iv,List.map_nil,aT]at hadd
     refine bc hadd ?_
     simp only[↓zq,zs,af,aM,aN]
     refine ai hR ?_
     simp only[↓zq,zs,af,bz,aF,he.has,aN]
     refine⟨by omega,?_⟩
     refine ai (DT n m w' (by omega) b env t2 ⟨ok3,A.wf,hbb,f2⟩ hv.2 (by omega) ea ids he hids tg s fr ht) ?_
     simp only[↓zq,zs,af]
     have hadd2:=OC (Vl.p w w').ct ((aN _).mpr trivial) (fun c=>.r (.p w c)) (fun c=>Nx w w' c) (bZ t2 tg w') (iK (fun c=>.l (.p c w')) (bZ t1 tg w)) (by rw[fQ];omega)
     simp only[Vl.ct,iv]at hadd2
     refine bc hadd2 ?_
     simp[↓zq,zs,af,aM,bD,aN,iv,ck]
    |_=>simp[eV,hhd,hx]at hv
   ·obtain⟨t1',he1,h1,f1,hw1⟩:=jm A.wf A.ok hx A.ty A.cl
    cases he1
    obtain⟨ok1,ok2,ok3,_⟩:=A.ok
    have A':Ask b (.mk a.at (.list [x,a,b]) env::env) t1:=⟨ok3,hw1,h1,f1⟩
    cases v with
    |
     f w =>
     simp only[eV,hhd,hx,beq_self_eq_true,bO]at hv
     simp only[Vl.nodes]at hm hl hlen
     rw[mX]at hlen |-
     simp only[an,fQ]at hlen
     have hin:=Cp t1 ea ids he
     simp only[Ty.av]at hin
     simp only[Ty.av,↓zq,zs,af]
     refine⟨by omega,fun h=>by omega,fun _=>⟨fun h=>by omega,fun _=>⟨fun _=>?_,fun h=>absurd rfl h⟩⟩⟩
     refine aO hin (by have:=zZ.ne t1 ea ids;simpa only[zZ,Ty.av]using this) ?_
     intro r o hr
     obtain⟨⟨mm,hmm,rfl⟩,rfl⟩:=hr
     have he2:kl (.ptr [.pid mm [(Ty.rc t1).av,ea],ea]) (mm::ids):=.cons hmm he
     have hfr:LK.ptr.has (.pid mm [(Ty.rc t1).av,ea]):=.inr (.inr ⟨_,_,rfl⟩)
     simp only[Ty.av]at he2 hfr
     simp only[↓zq,zs,af,bz,aF,he2.has,hfr,Vl.ct,aN,Ty.av]
     refine⟨by omega,?_⟩
     have i1:=DT n m w (by omega) b _ t1 A' hv (by simp;omega) _ _ he2 (by simp[hids]) tg.up s fr (ht.push mm)
     unfold Gr at i1
     refine ai i1 ?_
     simp only[↓zq,zs,af]
     have hadd:=Nu (fun c=>.f (.l c)) (fun c=>Ps c) (bZ t1 tg.up w) [] (by simp;omega)
     simp only[Vl.ct,iv,List.map_nil,aT]at hadd
     refine bc hadd ?_
     simp only[↓zq,zs,af,aM,aN]
     have i2:=DT n m w (by omega) b _ t1 A' hv (by simp;omega) _ _ he2 (by simp[hids]) (.bd 0) [] _ (by have:=zK.bd (k:=0) (ids:=mm::ids) (by simp) [(Ty.rc t1).av,ea] [];simpa only[bn,Ty.av]using this)
     unfold Gr at i2
     refine⟨by omega,?_⟩
     refine ai i2 ?_
     simp only[↓zq,zs,af,dZ]
     have hl2:=mP t1 (.bd 0) w
     have ih3:∀h,h∈bZ t1 (.bd 0) w->Gr (.rc t1) ea s fr tg h.2:=fun h hh=>by
      have h3:=(jp hh).1
      have h4:=io n m w (by omega) b _ t1 A' hv 0 _ rfl h hh
      exact DT n m h.2 (by omega) (.list [x,a,b]) env (.rc t1) A h4 (by omega) ea ids he hids tg s fr ht
     have hloop:=Kz t1 ea s fr tg he.has ht.has (bZ t1 (.bd 0) w) (by omega) ih3 (bZ t1 (.bd 0) w).length 0 (iK (fun c=>.f (.l c)) (bZ t1 tg.up w)) (by omega) (by
      simp only[bp,an,fQ]
      have hlen2:(bZ t1 tg.up w).length+((bZ t1 (.bd 0) w).flatMap (zL t1 tg)).length<=1+w.nodes:=hlen
      omega)
     simp only[Ty.av,iv,bp]at hloop
     refine cw hloop ?_
     simp[↓zq,zs,af,af,bD,iv]
    |_=>simp[eV,hhd,hx]at hv
  ·rw[dW hat (by cases v<;>rfl)]
   simp[Ty.av,↓zq,zs,af,bD,iv]
end Go.Proofs.Trees
namespace Go.Proofs.Trees
open Go Go.VL Go.RowKit
theorem D7:∀(v:Vl),v.dq.length<=900000->ap Tryz.prog 93 [v.ct] [] (bD (.v (.string (mk v.dq))))
 | .u,h=>by refine yA _ ((aN _).mpr trivial) ?_;simp[ER,Vl.ct,↓zq,zs,af,bD,Vl.dq,Vl.cz,eY]
 | .el k,h=>by refine yA _ ((aN _).mpr trivial) ?_;simp[ER,Vl.ct,↓zq,zs,af,bD,Vl.dq,Vl.cz,eY]
 |
  .l v,h=>by
  simp only[Vl.dq,Vl.cz,eY,ek,aw,an,aG]at h
  refine yA _ ((aN _).mpr trivial) ?_
  have hb:(⟨(bytesOf [[.v (.int .u8 108)]]).toArray⟩:ByteArray)=mk [108]:=rfl
  have ha:jy [[.v (.int .u8 108)]]:=kV 108
  simp only[ER,Vl.ct,↓zq,zs,af,aN,fg,hb]
  refine⟨by omega,fun h=>by omega,fun _=>⟨fun h=>by omega,fun _=>⟨fun h=>by omega,fun _=>⟨by omega,ha,by simp[cB],by rw[kQ,cB,cB];simp,by omega,?_⟩⟩⟩⟩
  refine ai (D7 v (by simp only[Vl.dq];omega)) ?_
  simp only[↓zq,zs,af,zt,bD,Vl.dq,Vl.cz,eY,ek]
  refine⟨by simp;omega,by simp;omega,by simp⟩
 |
  .r v,h=>by
  simp only[Vl.dq,Vl.cz,eY,ek,aw,an,aG]at h
  refine yA _ ((aN _).mpr trivial) ?_
  have hb:(⟨(bytesOf [[.v (.int .u8 114)]]).toArray⟩:ByteArray)=mk [114]:=rfl
  have ha:jy [[.v (.int .u8 114)]]:=kV 114
  simp only[ER,Vl.ct,↓zq,zs,af,aN,fg,hb]
  refine⟨by omega,fun h=>by omega,fun _=>⟨fun h=>by omega,fun _=>⟨fun h=>by omega,fun _=>⟨by omega,ha,by simp[cB],by rw[kQ,cB,cB];simp,by omega,?_⟩⟩⟩⟩
  refine ai (D7 v (by simp only[Vl.dq];omega)) ?_
  simp only[↓zq,zs,af,zt,bD,Vl.dq,Vl.cz,eY,ek]
  refine⟨by simp;omega,by simp;omega,by simp⟩
 |
  .f v,h=>by
  simp only[Vl.dq,Vl.cz,eY,ek,aw,an,aG]at h
  refine yA _ ((aN _).mpr trivial) ?_
  have hb:(⟨(bytesOf [[.v (.int .u8 102)]]).toArray⟩:ByteArray)=mk [102]:=rfl
  have ha:jy [[.v (.int .u8 102)]]:=kV 102
  simp only[ER,Vl.ct,↓zq,zs,af,aN,fg,hb]
  refine⟨by omega,fun h=>by omega,fun _=>⟨fun h=>by omega,fun _=>⟨fun h=>by omega,fun _=>⟨by omega,ha,by simp[cB],by rw[kQ,cB,cB];simp,by omega,?_⟩⟩⟩⟩
  refine ai (D7 v (by simp only[Vl.dq];omega)) ?_
  simp only[↓zq,zs,af,zt,bD,Vl.dq,Vl.cz,eY,ek]
  refine⟨by simp;omega,by simp;omega,by simp⟩
 |
  .p a b,h=>by
  simp only[Vl.dq,Vl.cz,eY,ek,aw,an,aG]at h
  refine yA _ ((aN _).mpr trivial) ?_
  simp only[ER,Vl.ct,↓zq,zs,af,aN,fg]
  refine⟨by omega,fun h=>by omega,fun _=>⟨fun h=>by omega,fun _=>⟨fun _=>⟨by omega,?_⟩,fun h=>absurd rfl h⟩⟩⟩
  refine ai (D7 a (by simp only[Vl.dq];omega)) ?_
  simp only[↓zq,zs,af,zt,aN,Vl.dq]
  refine⟨by simp;omega,by simp;omega,by omega,?_⟩
  refine ai (D7 b (by simp only[Vl.dq];omega)) ?_
  simp only[↓zq,zs,af,zt,bD,Vl.dq,Vl.cz,eY,ek]
  refine⟨by simp;omega,by simp;omega,by simp⟩
def lu:Option (List UInt8)->AV
 |some s=>.cA [.v (.string (mk s)),.v (.bool true)]
 |none=>.cA [.v (.string (mk [])),.v (.bool false)]
theorem Pc(v:Vl)(hb:v.gz 100)(hn:v.nodes<100000):ap Tryz.prog 43 [v.ct] [] (bD (lu (if v.nodes<=200 then some v.dq else none))):=by
 refine Ox _ ((aN _).mpr trivial) ?_
 unfold Ih
 refine ai (vR v (by omega)) ?_
 simp only[↓zq,zs,af,bD]
 refine⟨fun h=>?_,fun h=>?_⟩
 ·rw[if_neg (by omega)];rfl
 ·have:=iq v hb
  refine ai (D7 v (by omega)) ?_
  rw[if_pos (by omega)]
  simp only[↓zq,zs,af,lu]
end Go.Proofs.Trees
namespace Go.Proofs.Trees
open Go Go.VL Go.RowKit
def back(n:Nat):Ty->Nat->Vl
 | .name _,c=>.el c
 | .plus a b,c=>match Hn n a with|some x=>if c<x then .l (back n a c)else .r (back n b (c-x))|none=>.u
 | .times a b,c=>match Hn n b with|some y=>.p (back n a (c/y)) (back n b (c%y))|none=>.u
 |_,_=>.u
theorem xk:∀l:List E,cE 2 (E.bj l)
 |[]=>fun c hc=>by cases hc
 |
  e::l=>fun c hc=>by
  simp only[E.bj,aI]at hc
  rcases hc with rfl|hc
  ·exact gj e
  ·exact xk l c hc
theorem Ij(w:List UInt8)(l:List E)(hl:l.length<1000000):ap Tryz.prog 69 [.v (.string (mk w)),.sl (E.bj l)] [] (bD (E.km (.list (.atom w::l)))):=by
 refine KC _ _ ((cd _).mpr trivial) ?_
 simp only[Fg,↓zq,zs,af,ei,bD,E.km,E.ic,E.bj]
 exact⟨⟨xk l,by omega⟩,rfl⟩
end Go.Proofs.Trees
namespace Go.Proofs.Trees
open Go Go.VL Go.RowKit
def lY(l:List Hl):List (List AV):=l.map fun h=>[.v (.string (mk h.1.cz.at)),h.1.cz.sp,.v (.string (mk h.2.cz.at)),h.2.cz.sp]
theorem fu(l:List Hl):(lY l).length=l.length:=by simp[lY]
theorem gC{l:List Hl}{i:Nat}(hi:i<l.length):(lY l).getD i []=[.v (.string (mk (l[i]).1.cz.at)),(l[i]).1.cz.sp,.v (.string (mk (l[i]).2.cz.at)),(l[i]).2.cz.sp]:=by simp[lY,aa,hi]
theorem oq(out:List Hl)(a b:Vl):lY out++[[.v (.string (mk a.cz.at)),a.cz.sp,.v (.string (mk b.cz.at)),b.cz.sp]]=lY (out++[(a,b)]):=by simp[lY]
theorem yO(a b c d:AV):cE 4 [[a,b,c,d]]:=fun x hx=>by simp at hx;rw[hx];rfl
theorem aK(s:ByteArray)(e:E):bz [.str,.sl] [.v (.string s),e.sp] 0=True:=by simp[bz,dI,aU]
theorem kM(s:ByteArray)(e:E)(x y:AV):bz [.str,.sl] [.v (.string s),e.sp,x,y] 0=True:=by simp[bz,dI,aU]
theorem wJ(w:List UInt8)(e:E):ap Tryz.prog 69 [.v (.string (mk w)),.sl [[.v (.string (mk e.at)),e.sp]]] [] (bD (.agg [.v (.string (mk [])),(E.list [.atom w,e]).sp])):=by
 have:=Ij w [e] (by simp)
 simpa only[E.bj,fF,dh,E.at]using this
theorem wL(w:List UInt8)(e e':E):ap Tryz.prog 69 [.v (.string (mk w)),.sl [[.v (.string (mk e.at)),e.sp],[.v (.string (mk e'.at)),e'.sp]]] [] (bD (.agg [.v (.string (mk [])),(E.list [.atom w,e,e']).sp])):=by
 have:=Ij w [e,e'] (by simp)
 simpa only[E.bj,fF,dh,E.at]using this
def P3(pv:AV)(a b:E):Prop:=LK.sl.has pv/\pv.aR.length=3/\pv.aR.getD 1 []=[.v (.string (mk a.at)),a.sp]/\pv.aR.getD 2 []=[.v (.string (mk b.at)),b.sp]
theorem P3.of(x a b:E):P3 (E.list [x,a,b]).sp a b:=⟨by simp[E.sp,cd],by simp[E.sp,E.bj,fD],by simp[E.sp,E.bj,fD,fF],by simp[E.sp,E.bj,fD,fF]⟩
def P2(pv:AV)(a:E):Prop:=LK.sl.has pv/\pv.aR.length=2/\pv.aR.getD 1 []=[.v (.string (mk a.at)),a.sp]
theorem P2.of(x a:E):P2 (E.list [x,a]).sp a:=⟨by simp[E.sp,cd],by simp[E.sp,E.bj,fD],by simp[E.sp,E.bj,fD,fF]⟩
theorem LD(w:List UInt8)(g:Vl->Vl)(hg:∀c,(g c).cz=.list [.atom w,c.cz])(l:List Hl)(hl:l.length<=1000000):∀(k i:Nat) (out:List Hl),i+k=l.length->out.length+k<=1000000 ->
 Eu [.sl (lY l),.v (.string (mk w)),.v (.int .i64 (i:Int))] [.vec 4 (lY out)] (iF 1 [] [.vec 4 (lY (out++iK g (l.drop i)))])
 |
  0,i,out,hi,ho=>by
  refine Jv _ _ _ _ ?_
  have:i=l.length:=by omega
  subst this
  simp only[Gk,↓zq,zs,af,fu]
  exact⟨fun h=>by omega,fun _=>by simp[iF,iK]⟩
 |
  k+1,i,out,hi,ho=>by
  have hlt:i<l.length:=by omega
  refine Jv _ _ _ _ ?_
  simp only[Gk,↓zq,zs,af,zt,fu,gC hlt,kM,aK]
  refine⟨fun _=>?_,fun h=>by omega⟩
  repeat refine⟨by omega,?_⟩
  refine ai (wJ _ _) ?_
  simp only[↓zq,zs,af,aK]
  repeat refine⟨by omega,?_⟩
  refine⟨⟨yO _ _ _ _,by omega⟩,?_⟩
  rw[bE i (by omega)]
  have:=LD w g hg l hl k (i+1) (out++[(g (l[i]).1,(l[i]).2)]) (by omega) (by simp;omega)
  rw[bb,<-oq,hg]at this
  rw[gp g l hlt]
  exact this
theorem Lf(w:List UInt8)(g:Vl->Vl)(hg:∀c,(g c).cz=.list [.atom w,c.cz])(l out:List Hl)(hl:out.length+l.length<=1000000) :
 ap Tryz.prog 150 [.sl (lY l),.v (.string (mk w)),.vec 0] [.vec 4 (lY out)] (dA (.vec 1) [.dead,.vec 4 (lY (out++iK g l))]):=by
 refine OR _ _ _ ((cd _).mpr trivial) ?_
 simp only[HJ,↓zq,zs,af]
 have h:=LD w g hg l (by omega) l.length 0 out (by omega) (by omega)
 rw[bp]at h
 refine cw h ?_
 simp[↓zq,zs,af,dA]
theorem Mj(s:List UInt8)(ta:ByteArray)(tp:AV)(ht:LK.sl.has tp)(va:ByteArray)(vp:AV)(x y:Vl)(hp:P3 vp x.cz y.cz)(l:List Hl)(hl:l.length<=1000000):∀(k i:Nat) (out:List Hl),i+k=l.length->out.length+k<=1000000 ->
 G1 [.v (.string (mk s)),.sl (lY l),.v (.int .i64 (i:Int))] [.cells [.v (.string ta),tp],.cells [.v (.string va),vp],.vec 4 (lY out)] (iF 1 [.v (.string (mk s))] [.cells [.v (.string ta),tp],.cells [.v (.string va),vp],.vec 4 (lY (out++iK (fun c=>Vl.l (.p c y)) (l.drop i)))])
 |
  0,i,out,hi,ho=>by
  refine Ks _ _ _ _ _ _ _ _ ?_
  have:i=l.length:=by omega
  subst this
  simp only[GG,↓zq,zs,af,fu,ht,aU,af,hp.1]
  exact⟨fun h=>by omega,fun _=>by simp[iF,iK]⟩
 |
  k+1,i,out,hi,ho=>by
  have hlt:i<l.length:=by omega
  refine Ks _ _ _ _ _ _ _ _ ?_
  simp only[GG,↓zq,zs,af,zt,fu,gC hlt,kM,aK,gC,ht,aU,af,hp.1,toNat_one,a7,hp.1,hp.2.1,hp.2.2.1,hp.2.2.2]
  refine⟨fun _=>?_,fun h=>by omega⟩
  repeat refine⟨by omega,?_⟩
  refine ai (wL _ _ _) ?_
  simp only[↓zq,zs,af,aK]
  repeat refine⟨by omega,?_⟩
  refine ai (wJ [108] (E.list [.atom [112],(l[i]).1.cz,y.cz])) ?_
  simp only[↓zq,zs,af,aK]
  repeat refine⟨by omega,?_⟩
  refine⟨⟨yO _ _ _ _,by omega⟩,?_⟩
  rw[bE i (by omega)]
  have:=Mj s ta tp ht va vp x y hp l hl k (i+1) (out++[((fun c=>Vl.l (.p c y)) (l[i]).1,(l[i]).2)]) (by omega) (by simp;omega)
  rw[bb,<-oq]at this
  rw[gp (fun c=>Vl.l (.p c y)) l hlt]
  exact this
theorem HD(va:ByteArray)(vp:AV)(x y:Vl)(hp:P3 vp x.cz y.cz)(l:List Hl)(hl:l.length<=1000000):∀(k i:Nat) (out:List Hl),i+k=l.length->out.length+k<=1000000 ->
 Eh [.sl (lY l),.v (.int .i64 (i:Int))] [.cells [.v (.string va),vp],.vec 4 (lY out)] (iF 1 [] [.vec 4 (lY (out++iK (fun c=>Vl.r (.p x c)) (l.drop i)))])
 |
  0,i,out,hi,ho=>by
  refine HC _ _ _ _ _ ?_
  have:i=l.length:=by omega
  subst this
  simp only[Gy,↓zq,zs,af,fu,aU,af,hp.1]
  exact⟨fun h=>by omega,fun _=>by simp[iF,iK]⟩
 |
  k+1,i,out,hi,ho=>by
  have hlt:i<l.length:=by omega
  refine HC _ _ _ _ _ ?_
  simp only[Gy,↓zq,zs,af,zt,fu,gC hlt,kM,aK,gC,aU,af,hp.1,toNat_one,a7,hp.1,hp.2.1,hp.2.2.1,hp.2.2.2]
  refine⟨fun _=>?_,fun h=>by omega⟩
  repeat refine⟨by omega,?_⟩
  refine ai (wL _ _ _) ?_
  simp only[↓zq,zs,af,aK]
  repeat refine⟨by omega,?_⟩
  refine ai (wJ [114] (E.list [.atom [112],x.cz,(l[i]).1.cz])) ?_
  simp only[↓zq,zs,af,aK]
  repeat refine⟨by omega,?_⟩
  refine⟨⟨yO _ _ _ _,by omega⟩,?_⟩
  rw[bE i (by omega)]
  have:=HD va vp x y hp l hl k (i+1) (out++[((fun c=>Vl.r (.p x c)) (l[i]).1,(l[i]).2)]) (by omega) (by simp;omega)
  rw[bb,<-oq]at this
  rw[gp (fun c=>Vl.r (.p x c)) l hlt]
  exact this
theorem LL(s s2:List UInt8)(ta:ByteArray)(tp:AV)(ht:LK.sl.has tp)(va:ByteArray)(vp:AV)(hp:LK.sl.has vp)(l:List Hl)(hl:l.length<=1000000):∀(k i:Nat) (out:List Hl),i+k=l.length->out.length+k<=1000000 ->
 GJ [.v (.string (mk s)),.v (.string (mk s2)),.sl (lY l),.v (.int .i64 (i:Int))] [.cells [.v (.string ta),tp],.cells [.v (.string va),vp],.vec 4 (lY out)] (iF 1 [.v (.string (mk s)),.v (.string (mk s2))] [.cells [.v (.string ta),tp],.cells [.v (.string va),vp],.vec 4 (lY (out++iK (fun c=>Vl.f (.l c)) (l.drop i)))])
 |
  0,i,out,hi,ho=>by
  refine KY _ _ _ _ _ _ _ _ _ ?_
  have:i=l.length:=by omega
  subst this
  simp only[Hd,↓zq,zs,af,fu,ht,aU,af,hp]
  exact⟨fun h=>by omega,fun _=>by simp[iF,iK]⟩
 |
  k+1,i,out,hi,ho=>by
  have hlt:i<l.length:=by omega
  refine KY _ _ _ _ _ _ _ _ _ ?_
  simp only[Hd,↓zq,zs,af,zt,fu,gC hlt,kM,aK,gC,ht,aU,af,hp]
  refine⟨fun _=>?_,fun h=>by omega⟩
  repeat refine⟨by omega,?_⟩
  refine ai (wJ _ _) ?_
  simp only[↓zq,zs,af,aK]
  repeat refine⟨by omega,?_⟩
  refine ai (wJ [102] (E.list [.atom [108],(l[i]).1.cz])) ?_
  simp only[↓zq,zs,af,aK]
  repeat refine⟨by omega,?_⟩
  refine⟨⟨yO _ _ _ _,by omega⟩,?_⟩
  rw[bE i (by omega)]
  have:=LL s s2 ta tp ht va vp hp l hl k (i+1) (out++[((fun c=>Vl.f (.l c)) (l[i]).1,(l[i]).2)]) (by omega) (by simp;omega)
  rw[bb,<-oq]at this
  rw[gp (fun c=>Vl.f (.l c)) l hlt]
  exact this
theorem Lz(s:List UInt8)(L:AV)(q:Nat)(kc:Vl)(kv:Vl)(hL:LK.sl.has L)(hq:q<L.aR.length)(hg:L.aR.getD q []=[.v (.string (mk kc.cz.at)),kc.cz.sp,.v (.string (mk kv.cz.at)),kv.cz.sp])(ta:ByteArray)(tp:AV)(ht:LK.sl.has tp)(l:List Hl)(hl:l.length<=1000000):∀(k i:Nat) (out:List Hl),i+k=l.length->out.length+k<=1000000 ->
 Fw [.v (.string (mk s)),L,.v (.int .i64 (q:Int)),.sl (lY l),.v (.int .i64 (i:Int))] [.cells [.v (.string ta),tp],.vec 4 (lY out)] (iF 1 [.v (.string (mk s)),L,.v (.int .i64 (q:Int))] [.cells [.v (.string ta),tp],.vec 4 (lY (out++iK (fun c=>Vl.f (.r (.p kc c))) (l.drop i)))])
 |
  0,i,out,hi,ho=>by
  refine IE _ _ _ _ _ _ _ _ ?_
  have:i=l.length:=by omega
  subst this
  simp only[FX,↓zq,zs,af,fu,ht,aU,af,hL]
  exact⟨fun h=>by omega,fun _=>by simp[iF,iK]⟩
 |
  k+1,i,out,hi,ho=>by
  have hlt:i<l.length:=by omega
  refine IE _ _ _ _ _ _ _ _ ?_
  simp only[FX,↓zq,zs,af,zt,fu,gC hlt,kM,aK,gC,ht,aU,af,hL,hg]
  refine⟨fun _=>?_,fun h=>by omega⟩
  repeat refine⟨by omega,?_⟩
  refine ai (wL _ _ _) ?_
  simp only[↓zq,zs,af,aK]
  repeat refine⟨by omega,?_⟩
  refine ai (wJ [114] (E.list [.atom [112],kc.cz,(l[i]).1.cz])) ?_
  simp only[↓zq,zs,af,aK]
  repeat refine⟨by omega,?_⟩
  refine ai (wJ [102] (E.list [.atom [114],E.list [.atom [112],kc.cz,(l[i]).1.cz]])) ?_
  simp only[↓zq,zs,af,aK]
  repeat refine⟨by omega,?_⟩
  refine⟨⟨yO _ _ _ _,by omega⟩,?_⟩
  rw[bE i (by omega)]
  have:=Lz s L q kc kv hL hq hg ta tp ht l hl k (i+1) (out++[((fun c=>Vl.f (.r (.p kc c))) (l[i]).1,(l[i]).2)]) (by omega) (by simp;omega)
  rw[bb,<-oq]at this
  rw[gp (fun c=>Vl.f (.r (.p kc c))) l hlt]
  exact this
theorem Jn(s:List UInt8)(te:E)(a:Ty)(tg:Tg)(l:List Hl)(hl:l.length<=1000000)(ih:∀h,h∈l->ap Tryz.prog 110 [.agg [.v (.string (mk te.at)),te.sp],.v (.string (mk s)),.agg [.v (.string (mk h.2.cz.at)),h.2.cz.sp]] [] (bD (.sl (lY (bZ (.rc a) tg h.2))))) :
 ∀(k i:Nat) (out:List Hl),i+k=l.length->(out++(l.drop i).flatMap (zL a tg)).length<=1000000 ->
 EE [.v (.string (mk s)),.sl (lY l),.v (.int .i64 (i:Int))] [.cells [.v (.string (mk te.at)),te.sp],.vec 4 (lY out)] (iF 1 [] [.vec 4 (lY (out++(l.drop i).flatMap (zL a tg)))])
 |
  0,i,out,hi,ho=>by
  refine I0 _ _ _ _ _ _ ?_
  have:i=l.length:=by omega
  subst this
  simp only[E6,↓zq,zs,af,fu,aU,af]
  exact⟨fun h=>by omega,fun _=>by simp[iF]⟩
 |
  k+1,i,out,hi,ho=>by
  have hlt:i<l.length:=by omega
  have hd:(l.drop i).flatMap (zL a tg)=zL a tg (l[i])++(l.drop (i+1)).flatMap (zL a tg):=by rw[aY hlt,List.flatMap_cons]
  rw[hd]at ho |-
  refine I0 _ _ _ _ _ _ ?_
  simp only[E6,↓zq,zs,af,zt,fu,gC hlt,kM,aK,aU,af]
  refine⟨fun _=>?_,fun h=>by omega⟩
  repeat refine⟨by omega,?_⟩
  refine ai (ih _ (zT l hlt)) ?_
  simp only[↓zq,zs,af]
  have hb:out.length+(bZ (.rc a) tg (l[i]).2).length<=1000000:=by
   simp only[an,fQ]at ho;omega
  have h5:=Lz s (.sl (lY l)) i (l[i]).1 (l[i]).2 ((cd _).mpr trivial) (by rw[fD,fu];omega) (by rw[fD,gC hlt]) (mk te.at) te.sp ((aU _).mpr trivial) (bZ (.rc a) tg (l[i]).2) (by omega) (bZ (.rc a) tg (l[i]).2).length 0 out (by omega) (by omega)
  rw[bp]at h5
  refine cw h5 ?_
  simp only[↓zq,zs,af,aU,af]
  repeat refine⟨by omega,?_⟩
  rw[bE i (by omega),<-bb]
  exact Jn s te a tg l hl ih k (i+1) _ (by omega) (by rw[bb];exact ho)
end Go.Proofs.Trees
namespace Go.Proofs.Trees
open Go Go.VL Go.RowKit
def kids(a:Ty):Vl->List Hl
 | .f w=>bZ a (.bd 0) w
 |_=>[]
theorem sg(a:Ty)(v:Vl):kS (kids a v)+1<=v.nodes:=by
 cases v with
 |f w=>have:=qI a (.bd 0) w;simp only[kids,Vl.nodes];omega
 |_=>simp only[kids,kS,Vl.nodes,List.map_nil,List.sum_nil];omega
theorem yf{a:Ty}{v:Vl}{h:Hl}(hh:h∈kids a v):h.2.nodes<v.nodes:=by
 cases v with
 |f w=>have:=(jp hh).1;simp only[Vl.nodes];omega
 |_=>cases hh
theorem nQ{n:Nat}{a:Ty}{v:Vl}{h:Hl}(hv:v.gz n)(hh:h∈kids a v):h.1.gz n/\h.2.gz n:=by
 cases v with
 |f w=>exact gO n _ _ _ w h hv hh
 |_=>cases hh
end Go.Proofs.Trees
namespace Go.Proofs.Trees
open Go Go.VL
mutual
def E.pr:E->Prop
 | .atom s=>s≠[]/\s.all eZ=true
 | .list l=>l≠[]/\E.Bs l
def E.Bs:List E->Prop
 |[]=>True
 |e::l=>e.pr/\E.Bs l
end
mutual
def E.dp:E->Nat
 | .atom _=>0
 | .list l=>1+E.ux l
def E.ux:List E->Nat
 |[]=>0
 |e::l=>max e.dp (E.ux l)
end
def JT(r:List UInt8):Prop:=∀c t,r=c::t->eZ c=false
theorem tE:JT []:=by intro c t h;cases h
theorem A4{s r:List UInt8}(hs:s.all eZ=true)(hr:JT r):(s++r).takeWhile eZ=s/\(s++r).dropWhile eZ=r:=by
 induction s with
 |
  nil =>
  cases r with
  |nil=>exact⟨rfl,rfl⟩
  |cons c t=>have:=hr c t rfl;simp[List.takeWhile,List.dropWhile,this]
 |
  cons c s ih =>
  simp only[cV,au]at hs
  have:=ih hs.2
  simp[List.takeWhile,List.dropWhile,hs.1,this.1,this.2]
theorem vE(l:List E)(r:List UInt8):JT (ek l++41::r):=by
 intro c t h
 cases l with
 |nil=>simp only[ek,aT,List.cons.injEq]at h;rw[<-h.1];decide
 |cons e l=>simp only[ek,ba,List.cons.injEq]at h;rw[<-h.1];decide
theorem Ab{f:List UInt8->Option (E×List UInt8)}(r:List UInt8):∀(l:List E) (e:E) (acc:List E) (n:Nat),l.length<n->(∀x,x=e\/x∈l->∀r,JT r->f (eY x++r)=some (x,r)) ->
 rQ f n (eY e++(ek l++41::r)) acc=some (.list (acc++e::l),r)
 |l,e,acc,0,hn,hf=>by omega
 |
  [],e,acc,n+1,hn,hf=>by
  simp only[rQ]
  rw[hf e (.inl rfl) _ (vE [] r)]
  simp[ek]
 |
  x::l,e,acc,n+1,hn,hf=>by
  simp only[rQ]
  rw[hf e (.inl rfl) _ (vE (x::l) r)]
  simp only[aw]at hn
  have ih:=Ab r l x (acc++[e]) n (by omega) (fun y hy=>hf y (.inr (by cases hy with|inl h=>rw[h];exact aj|inr h=>exact al _ h)))
  simp only[bb,ba,aT]at ih
  simp only[ek,ba,bb]
  simp[ih]
theorem Ch{l:List E}{k:Nat}:E.Bs l->E.ux l<=k->∀x,x∈l->x.pr/\x.dp<=k:=by
 induction l with
 |nil=>intro _ _ x h;cases h
 |
  cons e l ih =>
  intro h hd x hx
  simp only[E.Bs,E.ux]at h hd
  cases hx with
  |head=>exact⟨h.1,by omega⟩
  |tail _ hx=>exact ih h.2 (by omega) x hx
theorem yb:∀(k:Nat) (e:E) (r:List UInt8),e.pr->e.dp<=k->JT r->rd k (eY e++r)=some (e,r)
 |
  0,.atom s,r,hp,hd,hr=>by
  have h:=A4 hp.2 hr
  simp only[eY,rd,h.1,h.2,hp.1,if_false]
 |
  k+1,.atom s,r,hp,hd,hr=>by
  have h:=A4 hp.2 hr
  simp only[eY,rd,h.1,h.2,hp.1,if_false]
 |0,.list l,r,hp,hd,hr=>by simp only[E.dp]at hd;omega
 |k+1,.list [],r,hp,hd,hr=>by exact absurd rfl hp.1
 |
  k+1,.list (e::l),r,hp,hd,hr=>by
  have hs:eZ 40=false:=by decide
  simp only[E.dp,E.pr]at hd hp
  have hm:=Ch (k:=k) hp.2 (by omega)
  have:=Ab (f:=rd k) r l e [] ((eY e++(ek l++41::r)).length+1) (by have:=rh l;simp only[an,aw];omega)
   (fun x hx r hr=>yb k x r (hm x (by cases hx with|inl h=>rw[h];exact aj|inr h=>exact al _ h)).1 (hm x (by cases hx with|inl h=>rw[h];exact aj|inr h=>exact al _ h)).2 hr)
  simp only[eY,ba,bb,aT]at *
  simp only[rd,List.takeWhile,hs,if_true]
  simpa using this
theorem AG{e e':E}(h:e.pr)(h':e'.pr)(ht:eY e=eY e'):e=e':=by
 have a:=yb (max e.dp e'.dp) e [] h (by omega) tE
 have b:=yb (max e.dp e'.dp) e' [] h' (by omega) tE
 rw[ht,b]at a;cases a;rfl
theorem GB{e:E}(h:e.pr)(hd:e.dp<=300)(hl:(eY e).length<=8000):qA (eY e)=some e:=by
 have:=yb 300 e [] h hd tE
 rw[cH]at this
 rw[qA,this];simp;omega
theorem AO(s:List UInt8):(s.takeWhile eZ).all eZ=true:=by
 induction s with
 |nil=>rfl
 |cons c s ih =>
  cases h:eZ c
  ·simp[List.takeWhile,h]
  ·simp only[List.takeWhile,h,cV,ih];rfl
theorem Df(l r:List E):E.Bs (l++r)↔E.Bs l/\E.Bs r:=by
 induction l with
 |nil=>simp[E.Bs]
 |cons e l ih=>simp[E.Bs,ih,and_assoc]
theorem CG(l r:List E):E.ux (l++r)=max (E.ux l) (E.ux r):=by
 induction l with
 |nil=>simp[E.ux]
 |cons e l ih=>simp[E.ux,ih,Nat.max_assoc]
theorem xc{k:Nat}{f:List UInt8->Option (E×List UInt8)}(hf:∀s e r,f s=some (e,r)->s=eY e++r/\e.pr/\e.dp<=k):∀(n:Nat) (s:List UInt8) (acc:List E) (e:E) (r:List UInt8),rQ f n s acc=some (e,r)->E.Bs acc->E.ux acc<=k ->
 ∃l,e=.list (acc++l)/\l≠[]/\32::s=ek l++41::r/\E.Bs l/\E.ux l<=k
 |0,s,acc,e,r,h,hp,hd=>by cases h
 |
  n+1,s,acc,e,r,h,hp,hd=>by
  simp only[rQ]at h
  split at h
  ·rename_i p c r' hs
   obtain⟨h1,h2,h3⟩:=hf _ _ _ hs
   split at h
   ·rename_i hc
    have hc:c=41:=dT.mp hc
    cases h
    exact⟨[p],rfl,by simp,by simp[ek,h1,hc],⟨h2,trivial⟩,by simp[E.ux];omega⟩
   ·split at h
    ·rename_i hc
     have hc:c=32:=dT.mp hc
     obtain⟨l,g1,g2,g3,g4,g5⟩:=xc hf n _ _ _ _ h ((Df _ _).mpr ⟨hp,h2,trivial⟩) (by rw[CG];simp[E.ux];omega)
     refine⟨p::l,by simpa using g1,by simp,?_,⟨h2,g4⟩,by simp only[E.ux];omega⟩
     rw[h1,hc,g3];simp[ek]
    ·cases h
  ·cases h
theorem BK:∀(k:Nat) (s:List UInt8) (e:E) (r:List UInt8),rd k s=some (e,r)->s=eY e++r/\e.pr/\e.dp<=k
 |
  0,s,e,r,h=>by
  simp only[rd]at h
  split at h
  ·cases h
  ·rename_i hs;cases h
   exact⟨(bV).symm,⟨hs,AO s⟩,aq _⟩
 |
  k+1,s,e,r,h=>by
  simp only[rd]at h
  split at h
  ·split at h
   ·rename_i c r' _
    split at h
    ·rename_i hc
     have hc:c=40:=dT.mp hc
     obtain⟨l,g1,g2,g3,g4,g5⟩:=xc (k:=k) (fun s e r h=>BK k s e r h) _ _ _ _ _ h trivial (dS _)
     simp only[aT]at g1
     subst g1;subst hc
     refine⟨?_,⟨g2,g4⟩,by simp only[E.dp];omega⟩
     cases l with
     |nil=>exact absurd rfl g2
     |
      cons x l =>
      simp only[ek,ba,bb,List.cons.injEq,true_and]at g3
      rw[g3];simp[eY]
    ·cases h
   ·cases h
  ·rename_i hs;cases h
   exact⟨(bV).symm,⟨hs,AO s⟩,by simp[E.dp]⟩
theorem xq{s:List UInt8}{e:E}(h:qA s=some e):s=eY e/\e.pr/\e.dp<=300/\s.length<=8000:=by
 unfold qA at h
 split at h
 ·cases h
 ·rename_i hl
  split at h
  ·rename_i e' hr
   cases h
   have:=BK _ _ _ _ hr
   exact⟨by simpa using this.1,this.2.1,this.2.2,by omega⟩
  ·cases h
theorem Ai{k:Nat}(h:k<10):eZ (be (48+k))=true:=by
 have:∀k:Fin 10,eZ (be (48+k.val))=true:=by decide
 exact this ⟨k,h⟩
theorem wS:∀(n k:Nat),k<n->(dd k).all eZ=true
 |0,k,h=>by omega
 |
  n+1,k,h=>by
  by_cases hk:k<10
  ·rw[eH hk,cV,Ai hk];rfl
  ·rw[fP hk]
   have:=wS n (k/10) (by omega)
   rw[List.all_append,this,cV,Ai (eu k (by omega:0<10))];rfl
theorem E2(k:Nat):(E.atom (wY k)).pr:=⟨by simp,by have:=wS (k+1) k (by omega);simp only[wY,cV,this];decide⟩
theorem mb:∀v:Vl,v.cz.pr
 | .u=>⟨by simp,by decide⟩
 | .el k=>E2 k
 | .l v=>⟨by simp,⟨by simp,by decide⟩,mb v,trivial⟩
 | .r v=>⟨by simp,⟨by simp,by decide⟩,mb v,trivial⟩
 | .f v=>⟨by simp,⟨by simp,by decide⟩,mb v,trivial⟩
 | .p a b=>⟨by simp,⟨by simp,by decide⟩,mb a,mb b,trivial⟩
theorem pn:∀v:Vl,v.cz.dp<v.nodes+1
 | .u=>by simp[Vl.cz,E.dp,Vl.nodes]
 | .el k=>by simp[Vl.cz,E.dp,Vl.nodes]
 | .l v=>by have:=pn v;simp only[Vl.cz,E.dp,E.ux,Vl.nodes]at *;omega
 | .r v=>by have:=pn v;simp only[Vl.cz,E.dp,E.ux,Vl.nodes]at *;omega
 | .f v=>by have:=pn v;simp only[Vl.cz,E.dp,E.ux,Vl.nodes]at *;omega
 | .p a b=>by have:=pn a;have:=pn b;simp only[Vl.cz,E.dp,E.ux,Vl.nodes]at *;omega
theorem CE(k:Nat)(h:k<100):(dd k).length<=2:=by
 by_cases hk:k<10
 ·rw[eH hk];simp
 ·rw[fP hk,eH (by omega:k/10<10)];simp
theorem kG:∀v:Vl,v.gz 100->v.dq.length<=5*v.nodes
 | .u,_=>by simp[Vl.dq,Vl.cz,eY,Vl.nodes]
 |
  .el k,h=>by
  have:=CE k h
  simp only[Vl.dq,Vl.cz,eY,Vl.nodes,aw];omega
 | .l v,h=>by have:=kG v h;simp only[Vl.dq,Vl.cz,eY,ek,Vl.nodes,aw,an,aG]at this |-;omega
 | .r v,h=>by have:=kG v h;simp only[Vl.dq,Vl.cz,eY,ek,Vl.nodes,aw,an,aG]at this |-;omega
 | .f v,h=>by have:=kG v h;simp only[Vl.dq,Vl.cz,eY,ek,Vl.nodes,aw,an,aG]at this |-;omega
 | .p a b,h=>by have:=kG a h.1;have:=kG b h.2;simp only[Vl.dq,Vl.cz,eY,ek,Vl.nodes,aw,an,aG]at *;omega
theorem G8(k:Nat):wY k≠[117]:=by simp[wY]
theorem j5:∀v:Vl,v.gz 100->fL v.cz=some v
 | .u,_=>by simp[Vl.cz,fL]
 | .el k,h=>by simp only[Vl.cz,fL,G8,if_false,vr k h]
 | .l v,h=>by simp only[Vl.cz,fL,j5 v h,E.at];simp
 | .r v,h=>by simp only[Vl.cz,fL,j5 v h,E.at];simp
 | .f v,h=>by simp only[Vl.cz,fL,j5 v h,E.at];simp
 | .p a b,h=>by simp only[Vl.cz,fL,j5 a h.1,j5 b h.2,E.at];simp
theorem qn{v:Vl}(h:v.gz 100)(hn:v.nodes<=200):rR v.dq=some v:=by
 have hd:=pn v
 have hl:=kG v h
 rw[rR,GB (mb v) (by omega) (by show v.dq.length<=8000;omega)]
 simp only[j5 v h]
 rw[if_neg (by omega)]
theorem yd{v w:Vl}(h:v.gz 100)(h':w.gz 100)(ht:v.dq=w.dq):v=w:=by
 have:=AG (mb v) (mb w) ht
 have a:=j5 v h
 rw[this,j5 w h']at a;cases a;rfl
theorem lg{s:List UInt8}{v:Vl}(h:rR s=some v):s=v.dq:=(xq (lh h).1).1
end Go.Proofs.Trees
namespace Go.Proofs.Trees
open Go Go.VL Go.RowKit
theorem bC(l:List E):(E.list l).at=[]:=rfl
def cM:Ty->Vl->Vl->Vl
 | .plus a _,.l c,v=>.l (cM a c v)
 | .plus _ b,.r c,v=>.r (cM b c v)
 | .times a _,.l (.p x y),v=>.p (cM a x v) y
 | .times _ b,.r (.p x y),v=>.p x (cM b y v)
 | .rc a,.f (.l x),v=>.f (cM a x v)
 | .rc a,.f (.r (.p x y)),v=>.f (cM a x (cM (.rc a) y v))
 |_,_,v=>v
def dP:Ty->Vl->Bool
 | .plus a _,.l c=>dP a c
 | .plus _ b,.r c=>dP b c
 | .times a _,.l (.p x _)=>dP a x
 | .times _ b,.r (.p _ y)=>dP b y
 | .rc a,.f (.l x)=>dP a x
 | .rc a,.f (.r (.p x y))=>dP a x&&dP (.rc a) y
 | .plus _ _,_=>false
 | .times _ _,_=>false
 | .rc _,_=>false
 |_,_=>true
theorem s5(c v:Vl):cM .zero c v=v:=by cases c<;>rfl
theorem vL(c v:Vl):cM .one c v=v:=by cases c<;>rfl
theorem ky(s:List UInt8)(c v:Vl):cM (.name s) c v=v:=by cases c<;>rfl
theorem qJ(u:Nat)(c v:Vl):cM (.bJ u) c v=v:=by cases c<;>rfl
theorem vy{a b:Ty}{c:Vl}(h:dP (.plus a b) c=true):(∃x,c=.l x/\dP a x=true)\/∃x,c=.r x/\dP b x=true:=by
 cases c<;>simp[dP]at h<;>simp[h]
theorem sq{a b:Ty}{c:Vl}(h:dP (.times a b) c=true):(∃x y,c=.l (.p x y)/\dP a x=true)\/∃x y,c=.r (.p x y)/\dP b y=true:=by
 cases c with
 |l c=>cases c<;>simp[dP]at h<;>simp[h]
 |r c=>cases c<;>simp[dP]at h<;>exact .inr ⟨_,_,rfl,h⟩
 |_=>simp[dP]at h
theorem BP{a:Ty}{c:Vl}(h:dP (.rc a) c=true):(∃x,c=.f (.l x)/\dP a x=true)\/∃x y,c=.f (.r (.p x y))/\dP a x=true/\dP (.rc a) y=true:=by
 cases c with
 |
  f c =>
  cases c with
  |l c=>simp[dP]at h;simp[h]
  |r c=>cases c<;>simp[dP]at h<;>exact .inr ⟨_,_,rfl,h⟩
  |_=>simp[dP]at h
 |_=>simp[dP]at h
theorem rB(t:Ty)(c v:Vl):(cM t c v).nodes<=c.nodes+v.nodes:=by
 induction t,c,v using cM.induct<;>simp only[cM,Vl.nodes]at*<;> omega
theorem mn(m:Nat)(t:Ty)(c v:Vl):c.gz m->v.gz m->(cM t c v).gz m:=by
 induction t,c,v using cM.induct with
 |case1 a b c v ih=>exact fun h h'=>ih h h'
 |case2 a b c v ih=>exact fun h h'=>ih h h'
 |case3 a b x y v ih=>exact fun h h'=>⟨ih h.1 h',h.2⟩
 |case4 a b x y v ih=>exact fun h h'=>⟨h.1,ih h.2 h'⟩
 |case5 a x v ih=>exact fun h h'=>ih h h'
 |case6 a x y v ih1 ih2=>exact fun h h'=>ih2 h.1 (ih1 h.2 h')
 |case7=>intro h h';simpa only[cM]using h'
def Mt:Hl:=(.u,.u)
end Go.Proofs.Trees
namespace Go.Proofs.Trees
open Go Go.VL Go.RowKit
theorem nO(s:Nm)(a b:E):ap Tryz.prog 90 [.agg [.v (.string (mk [])),(E.list [.atom s,a,b]).sp]] [] (bD (.v (.string (mk s)))):=uw (.atom s) [a,b]
theorem CX{e:E}(h:Wf e):∀(bd l:List Nm) (a:AV),dV a bd->bd.length+l.length+e.sz<100000->ap Tryz.prog 98 [.agg [.v (.string (mk e.at)),e.sp],a,.vec 0] [.vec 1 (cq l)] (dA (.vec 1) [.dead,.vec 1 (cq (j9 e bd l))]):=by
 induction h with
 |
  @atom s hs =>
  intro bd l a ha hl
  simp only[E.sz]at hl
  refine yZ _ _ _ _ ((aU _).mpr trivial) ha.1 ?_
  have hll:(cq l).length=l.length:=by simp[cq]
  simp only[wX,dX,↓zq,zs,af,zt,dA,j9]
  refine⟨fun _=>⟨fun h=>?_,fun h=>⟨fun h1=>?_,fun h1=>?_⟩⟩,fun h=>absurd h hs⟩
  ·rw[if_pos (.inl h)]
  ·rw[if_pos (.inr (.inl h1))]
  ·refine ai (vY bd a ha s (by omega)) ?_
   simp only[↓zq,zs,af]
   refine⟨fun h2=>?_,fun h2=>ai (vY l _ (.of l) s (by omega)) ?_⟩
   ·rw[if_pos (.inr (.inr (.inl h2)))]
   ·simp only[↓zq,zs,af]
    refine⟨fun h3=>?_,fun h3=>⟨⟨fun c hc=>(by simp at hc;rw[hc];rfl),by omega⟩,?_⟩⟩
    ·rw[if_pos (.inr (.inr (.inr h3)))]
    ·rw[yR,if_neg]
     rintro(q|q|q|q)
     ·exact h q
     ·exact h1 q
     ·exact h2 q
     ·exact h3 q
 |
  @plus x y hx hy i1 i2 =>
  intro bd l a ha hl
  simp only[E.sz,E.jt]at hl
  have hfl:=ga x bd l
  refine yZ _ _ _ _ ((aU _).mpr trivial) ha.1 ?_
  have hP:=P3.of (.atom [43]) x y
  simp only[wX,bC,toNat_one,a7,↓zq,zs,af,zt,hP.1,hP.2.1,hP.2.2.1,hP.2.2.2,aK,dA]
  refine⟨fun h=>absurd rfl h,fun _=>?_⟩
  refine ai (nO [43] x y) ?_
  simp only[↓zq,zs,af,zt]
  refine⟨fun h=>by simp at h,fun _=>?_⟩
  repeat refine⟨by omega,?_⟩
  refine bc (i1 bd l a ha (by omega)) ?_
  simp only[↓zq,zs,af,zt,bi,bB,Ob.es]
  repeat refine⟨by omega,?_⟩
  refine bc (i2 bd (j9 x bd l) a ha (by omega)) ?_
  simp only[↓zq,zs,af,zt,bi,bB,Ob.es]
  rw[j9,if_neg (by decide)]
 |
  @times x y hx hy i1 i2 =>
  intro bd l a ha hl
  simp only[E.sz,E.jt]at hl
  have hfl:=ga x bd l
  refine yZ _ _ _ _ ((aU _).mpr trivial) ha.1 ?_
  have hP:=P3.of (.atom [42]) x y
  simp only[wX,bC,toNat_one,a7,↓zq,zs,af,zt,hP.1,hP.2.1,hP.2.2.1,hP.2.2.2,aK,dA]
  refine⟨fun h=>absurd rfl h,fun _=>?_⟩
  refine ai (nO [42] x y) ?_
  simp only[↓zq,zs,af,zt]
  refine⟨fun h=>by simp at h,fun _=>?_⟩
  repeat refine⟨by omega,?_⟩
  refine bc (i1 bd l a ha (by omega)) ?_
  simp only[↓zq,zs,af,zt,bi,bB,Ob.es]
  repeat refine⟨by omega,?_⟩
  refine bc (i2 bd (j9 x bd l) a ha (by omega)) ?_
  simp only[↓zq,zs,af,zt,bi,bB,Ob.es]
  rw[j9,if_neg (by decide)]
 |
  @rc n y hn hy i =>
  intro bd l a ha hl
  simp only[E.sz,E.jt]at hl
  refine yZ _ _ _ _ ((aU _).mpr trivial) ha.1 ?_
  have hP:=P3.of (.atom dD) (.atom n) y
  simp only[wX,bC,toNat_one,a7,↓zq,zs,af,zt,hP.1,hP.2.1,hP.2.2.1,hP.2.2.2,aK,dA]
  refine⟨fun h=>absurd rfl h,fun _=>?_⟩
  refine ai (nO dD (.atom n) y) ?_
  simp only[↓zq,zs,af,zt]
  refine⟨fun _=>?_,fun h=>absurd rfl h⟩
  repeat refine⟨by omega,?_⟩
  refine ai (yG bd a ha n (by omega)) ?_
  simp only[↓zq,zs,af]
  refine bc (i (bd++[n]) l _ (.of _) (by simp;omega)) ?_
  simp only[↓zq,zs,af,bi,bB,Ob.es]
  rw[j9,if_pos (dX _)];rfl
theorem Oj(x:Nm)(u:E){e:E}(h:Wf e):ap Tryz.prog 187 [.agg [.v (.string (mk e.at)),e.sp],.v (.string (mk x)),.agg [.v (.string (mk u.at)),u.sp]] [] (bD (.agg [.v (.string (mk (rj x u e).at)),(rj x u e).sp])):=by
 induction h with
 |
  @atom s hs =>
  refine CL _ _ _ _ _ ((aU _).mpr trivial) ((aU _).mpr trivial) ?_
  simp only[AJ,dX,↓zq,zs,af,zt,bD,rj]
  refine⟨fun _=>⟨fun h=>?_,fun h=>?_⟩,fun h=>absurd h hs⟩
  ·rw[if_pos h]
  ·rw[if_neg h];rfl
 |
  @plus a b ha hb i1 i2 =>
  refine CL _ _ _ _ _ ((aU _).mpr trivial) ((aU _).mpr trivial) ?_
  have hP:=P3.of (.atom [43]) a b
  simp only[AJ,bC,toNat_one,a7,↓zq,zs,af,zt,hP.1,hP.2.1,hP.2.2.1,hP.2.2.2,aK]
  refine⟨fun h=>absurd rfl h,fun _=>?_⟩
  refine ai (nO [43] a b) ?_
  simp only[↓zq,zs,af,zt]
  refine⟨fun h=>by simp at h,fun _=>?_⟩
  refine ai (nO [43] a b) ?_
  simp only[↓zq,zs,af,zt]
  repeat refine⟨by omega,?_⟩
  refine ai i1 ?_
  simp only[↓zq,zs,af,zt,aK]
  repeat refine⟨by omega,?_⟩
  refine ai i2 ?_
  simp only[↓zq,zs,af,zt,aK]
  repeat refine⟨by omega,?_⟩
  refine ai (wL _ _ _) ?_
  simp only[↓zq,zs,af,zt,aK,u4,bC]
  repeat refine⟨by omega,?_⟩
  exact⟨rfl,rfl⟩
 |
  @times a b ha hb i1 i2 =>
  refine CL _ _ _ _ _ ((aU _).mpr trivial) ((aU _).mpr trivial) ?_
  have hP:=P3.of (.atom [42]) a b
  simp only[AJ,bC,toNat_one,a7,↓zq,zs,af,zt,hP.1,hP.2.1,hP.2.2.1,hP.2.2.2,aK]
  refine⟨fun h=>absurd rfl h,fun _=>?_⟩
  refine ai (nO [42] a b) ?_
  simp only[↓zq,zs,af,zt]
  refine⟨fun h=>by simp at h,fun _=>?_⟩
  refine ai (nO [42] a b) ?_
  simp only[↓zq,zs,af,zt]
  repeat refine⟨by omega,?_⟩
  refine ai i1 ?_
  simp only[↓zq,zs,af,zt,aK]
  repeat refine⟨by omega,?_⟩
  refine ai i2 ?_
  simp only[↓zq,zs,af,zt,aK]
  repeat refine⟨by omega,?_⟩
  refine ai (wL _ _ _) ?_
  simp only[↓zq,zs,af,zt,aK,sL,bC]
  repeat refine⟨by omega,?_⟩
  exact⟨rfl,rfl⟩
 |
  @rc n b hn hb i =>
  refine CL _ _ _ _ _ ((aU _).mpr trivial) ((aU _).mpr trivial) ?_
  have hP:=P3.of (.atom dD) (.atom n) b
  simp only[AJ,bC,toNat_one,a7,↓zq,zs,af,zt,hP.1,hP.2.1,hP.2.2.1,hP.2.2.2,aK]
  refine⟨fun h=>absurd rfl h,fun _=>?_⟩
  refine ai (nO dD (.atom n) b) ?_
  simp only[↓zq,zs,af,zt]
  refine⟨fun _=>?_,fun h=>absurd rfl h⟩
  repeat refine⟨by omega,?_⟩
  rw[Br]
  refine⟨fun h=>?_,fun h=>?_⟩
  ·have hh:n=x:=h
   rw[if_pos hh];exact⟨rfl,rfl⟩
  ·have hh:¬n=x:=h
   rw[if_neg hh]
   repeat refine⟨by omega,?_⟩
   refine ai i ?_
   simp only[↓zq,zs,af,zt,aK]
   repeat refine⟨by omega,?_⟩
   refine ai (wL dD (.atom n) (rj x u b)) ?_
   simp only[↓zq,zs,af,zt,aK,bC]
   repeat refine⟨by omega,?_⟩
   exact⟨rfl,rfl⟩
theorem qS(x:Nm){e:E}(h:Wf e):mV x e<=e.cX:=by
 induction h with
 |atom hs=>simp only[mV,E.cX];split<;>omega
 |plus ha hb i1 i2=>rw[qU];simp only[E.cX,E.eW];omega
 |times ha hb i1 i2=>rw[pd];simp only[E.cX,E.eW];omega
 |rc hn hb i=>rw[wk];simp only[E.cX,E.eW];split<;>omega
end Go.Proofs.Trees
