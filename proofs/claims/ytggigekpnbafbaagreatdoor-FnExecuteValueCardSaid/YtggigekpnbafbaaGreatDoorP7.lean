/-
  Part of a proof: Go functions read by values, trees of functions, their contracts.
-/
import Derived.Test.YtggigekpnbafbaaGreatDoorP6
set_option linter.unusedVariables false
set_option linter.unusedSimpArgs false
open List renaming headD_cons→aP
namespace Go.Proofs.Trees
open Go Go.VL Go.RowKit
theorem Qn(a:AV)(ha:xK a):an Tryz.prog 3 [a] [] (bB (.v (.bool true))):=by
 refine Oi _ ha.1 ?_
 simp only[LB,↓zq,zs,ag,zt,bB]
 refine⟨ha.1,fun _=>trivial,fun _=>?_⟩
 refine aO (P7 a ha) ⟨_,_,rfl,[],[],rfl⟩ ?_
 rintro r o ⟨rfl,s,f,rfl⟩
 simp only[↓zq,zs,ag,zt]
 have hgz:=Bn s (o:=l8 s [] f) (wF s [] f)
 have EQ:=Pr (tZ s (l8 s [] f)).1 (tZ s (l8 s [] f)).2.2 _ _ _ (cw.of (tZ s (l8 s [] f)).2.1) (cw.of (tZ s (l8 s [] f)).2.1) (by omega)
 refine aU (CU s f) ?_
 simp only[↓zq,zs,ag,zt,aL,Ob.es,aP]
 refine⟨ej _,?_⟩
 refine aU (Pz s f) ?_
 simp only[↓zq,zs,ag,zt,aL,Ob.es,aP]
 refine⟨ej _,fun h=>by simp at h,fun _=>ak EQ ?_⟩
 simp only[↓zq,zs,ag]
 refine⟨fun h=>by simp at h,fun _=>?_⟩
 cases hr:l8 s [] f with
 |
  none =>
  rw[hr]at EQ
  refine⟨fun _=>⟨fun _=>ak EQ ?_,fun h=>absurd rfl h⟩,fun h=>by simp at h⟩
  simp only[↓zq,zs,ag]
 |
  some r =>
  have e1:=(kR hr).1
  rw[e1]
  refine⟨fun h=>by simp at h,fun _=>ak PZ ?_⟩
  simp only[↓zq,zs,ag,zt]
  have hgz2:=Bn gN (o:=l8 gN [] f) (wF gN [] f)
  obtain⟨l,v⟩:=r
  obtain⟨d,a',x,A,B,D,z,hz,hp,hf,_⟩:=gS hr
  have hb:=hz.qu.gX
  have hn:=hz.qu.nd
  have hft:=jo v hb
  have hfl:f.length<=2000000:=by rw[hf];omega
  refine aU (CU gN f) ?_
  simp only[↓zq,zs,ag,zt,aL,Ob.es,aP]
  refine⟨ej _,by simp;omega,by simp;omega,fun _=>by simp,fun h=>⟨fun _=>by simp,fun hlen=>?_⟩⟩
  obtain⟨q,hq⟩:∃q,l8 gN [] f=some q:=by
   cases hq:l8 gN [] f with
   |none=>rw[hq]at h;cases h
   |some q=>exact⟨q,rfl⟩
  rw[hq,(kR hq).1]
  have hmk:=Bb gN [] f
  have hlen':(mb++32::f++[10,97,108,108,10,107,105,100,115,10]).length<=900:=by
   simp at hlen |-;omega
  have hfl2:f.length<=890:=by
   simp at hlen';omega
  obtain⟨q1,q2⟩:=q
  obtain⟨d2,a2,x2,A2,B2,D2,z2,hz2,hp2,hf2,_⟩:=gS hq
  have hq1:q1=[]:=List.map_eq_nil_iff.1 hp2.symm
  subst hq1
  have hrd:pY f=some q2:=by rw[hf2];exact qC hz2.qu.gX (by have:=hz2.qu.nd;omega)
  have hkp:∃k:Nat,oA gN [] f=(k:Int)/\k<=1000:=by
   have hv:=hq
   rw[<-rm]at hv
   have h2:=hmk.2
   unfold oA at h2 |-
   rw[hv]at h2 |-
   have h3:((kids (zA gN) q2).length:Int)<=1000:=h2
   exact⟨(kids (zA gN) q2).length,rfl,Int.ofNat_le.1 h3⟩
  obtain⟨k,hk,hk2⟩:=hkp
  have hnd:=(jy hrd).2.2
  have WE:=QB f hq hfl2 hk hk2 (by rw[hf2];exact oY q2) (m:=q2.nodes) ⟨hrd,rfl⟩ (by omega) hlen'
  have WK:=JN gN (.sl (bn [])) [] (cw.of []) f
  rw[hk]at WK
  have WV:=Jg f
  rw[hrd]at WV
  have hd:=iw (k+1) k (by omega)
  have hd2:=iw (q2.nodes+1) q2.nodes (by omega)
  refine ak WE ?_
  simp only[↓zq,zs,ag,zt]
  refine⟨by simp;omega,by simp;omega,ak WK ?_⟩
  simp only[↓zq,zs,ag,zt]
  refine ak (FD (k+1) k (by omega) (by omega)) ?_
  simp only[↓zq,zs,ag,zt]
  refine⟨by simp;omega,by simp;omega,ak WV ?_⟩
  simp only[↓zq,zs,ag,zt]
  refine ak (FD (q2.nodes+1) q2.nodes (by omega) (by omega)) ?_
  simp only[↓zq,zs,ag,zt]
  refine⟨by simp;omega,by simp;omega,?_⟩
  simp[bB]
end Go.Proofs.Trees
