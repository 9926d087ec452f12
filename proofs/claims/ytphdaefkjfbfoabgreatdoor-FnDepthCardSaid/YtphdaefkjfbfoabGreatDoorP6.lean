/-
  Part of a proof: Go functions read by values, trees of functions, their contracts.
-/
import Derived.Test.YtphdaefkjfbfoabGreatDoorP5
set_option linter.unusedVariables false
set_option linter.unusedSimpArgs false
open And renaming intro→aE
open Bool renaming eq_iff_iff→bV
open Int renaming toNat_natCast→cc
open List renaming any_eq_true→bu,getD_eq_getElem?_getD→aa,getElem_mem→cy,headD_cons→bc,length_append→an,length_cons→aB,length_nil→aI,mem_append→aL,mem_cons→aF,mem_cons_of_mem→aj,mem_cons_self→af,tail_cons→bm
open Nat renaming le_refl→au,mul_le_mul_right→aR,zero_add→aP
open UInt8 renaming ofNat→aY
namespace Go.Proofs.Trees
open Go Go.VL Go.RowKit
def iq(b:AV)(d:Int)(e:E)(B C:Nat):Prop:=∀p:Nat,p+C<nS->ap Tryz.prog 27 [.ref 0 0,.agg [.v (.string (mk e.at)),e.sp],.v (.int .i64 d)] [.cells [b,.v (.int .i64 (p:Int))]] (dO b p C (ic B))
theorem iq.mono{b:AV}{d:Int}{e:E}{B C B' C':Nat}(h:iq b d e B C)(hB:B<=B')(hC:C<=C'):iq b d e B' C':=fun p hp=>ap.mono (h p (by omega)) fun r o ⟨q,h1,h2,⟨g,h3,h4,h5⟩,h6⟩=>⟨q,h1,by omega,⟨g,h3,h4,by omega⟩,h6⟩
theorem lV(b:AV)(p C B:Nat)(h:1<=B):∃r o,dO b p C (ic B) r o:=dO.ne (ic.u B h)
theorem K8(w:Nm)(e:E)(h:w.length=1):(kB (.list [.atom w,e])).length=(kB e).length+4:=by
 simp[kB,iF];omega
theorem Lh(w:Nm)(e f:E)(h:w.length=1):(kB (.list [.atom w,e,f])).length=(kB e).length+(kB f).length+5:=by
 simp[kB,iF];omega
theorem F3{b:AV}{p q q' C B:Nat}{w:Nm}{e:E}(hw:w.length=1)(h1:p<=q)(h2:q<=p+1)(h3:q<=q')(h4:q'<=q+C)(ho:e.ok)(hl:(kB e).length<=B) :
 dO b p (C+1) (ic (B+5)) (.agg [.v (.string (mk [])),(E.list [.atom w,e]).sp]) [.cells [b,.v (.int .i64 (q':Int))]] :=
 ⟨q',by omega,by omega,⟨.list [.atom w,e],rfl,⟨by intro h;rw[h]at hw;simp at hw,ho,trivial⟩,by rw[K8 w e hw];omega⟩,rfl⟩
theorem EW(b:AV)(l:List UInt8)(hb:pA b l)(d:Int){s:Nm}(hs:s≠[]):iq b d (.atom s) 5 1:=by
 intro p hp
 refine yC _ _ _ _ _ ((a6 (.atom s)).mpr trivial) hb.has ?_
 simp only[xL,dI,↓zq,zs,ae]
 refine al (vS s _ ((a6 (.atom s)).mpr trivial) hs) ?_
 simp only[↓zq,zs,ae,zt]
 refine⟨fun h=>(by cases h),fun _=>⟨fun h=>(by cases h),fun _=>⟨fun h=>(by cases h),fun _=>⟨fun _=>?_,fun _=>?_⟩⟩⟩⟩
 ·exact⟨p,au _,by omega,ic.u 5 (by omega),rfl⟩
 ·refine aT (tX b l hb p 3 (by omega) (by decide)) (dO.ne ⟨0,rfl,fun h=>by omega,by omega⟩) ?_
  rintro r o ⟨q,h1,h2,⟨k,rfl,h3,h4⟩,rfl⟩
  have hk:k<3:=h3 (by omega)
  simp only[↓zq,zs,ae,aN,hb.has]
  refine al (yU (k+1) k (by omega) (by omega)) ?_
  have hd:dd k=[aY (48+k)]:=eM (by omega)
  simp only[↓zq,zs,ae,zt,hd]
  refine⟨by simp,q,h1,h2,⟨.atom ([101]++[aY (48+k)]),rfl,by simp[E.ok],by simp[kB]⟩,rfl⟩
theorem EC(b:AV)(l:List UInt8)(hb:pA b l)(d:Int)(hd:-100000<=d/\d<=100000){n:Nm}{e:E}(hn:sD n)(he:Wf e)(hl:(E.list [.atom fN,.atom n,e]).dN<=400)(B C:Nat)(ih:-12<=d->∀g,Wf g->g.dN<=400->iq b (d-1) g B C)(hB:1<=B):iq b d (.list [.atom fN,.atom n,e]) (B+5) (C+1):=by
 intro p hp
 refine yC _ _ _ _ _ ((a6 _).mpr trivial) hb.has ?_
 have ed:IntKind.wrap .i64 (d-1)=d-1:=VL.wrap64 _ (by omega) (by omega)
 simp only[xL,cK,↓zq,zs,ae,ed]
 refine al (ph fN (.atom n) e) ?_
 simp only[↓zq,zs,ae,zt]
 have hu:=K2 hn he hl
 refine⟨fun h=>(by cases h),fun _=>⟨fun h=>(by cases h),fun _=>⟨fun _=>?_,fun h=>absurd rfl h⟩⟩⟩
 refine aT hu ⟨_,_,rfl,.atom [117],true,rfl,.atom (by simp),by simp[E.dN]⟩ ?_
 rintro r o ⟨rfl,g,c,rfl,g1,g2⟩
 have u:dO b p (C+1) (ic (B+5)) (.agg [.v (.string (mk [117])),.v (.slice none 0 0)]) [.cells [b,.v (.int .i64 (p:Int))]]:=⟨p,au _,by omega,ic.u _ (by omega),rfl⟩
 simp only[↓zq,zs,ae,zt,aM]
 refine⟨fun _=>u,fun _=>⟨fun _=>u,fun hd2=>?_⟩⟩
 refine aT (ih (by omega) g g1 g2 p (by omega)) (lV b p C B hB) ?_
 rintro r o ⟨q,h1,h2,⟨f,rfl,h4,h5⟩,rfl⟩
 simp only[↓zq,zs,ae,zt,aN,hb.has,aM]
 repeat refine⟨by omega,?_⟩
 refine al (xN [102] f) ?_
 simp only[↓zq,zs,ae,zt,aN,hb.has,aM]
 have fin:=F3 (b:=b) (w:=[102]) rfl (au p) (by omega) h1 h2 h4 h5
 first|exact fin|exact⟨by omega,fin⟩
theorem Fg(b:AV)(l:List UInt8)(hb:pA b l)(d:Int)(hd:-100000<=d/\d<=100000){x y:E}(hx:Wf x)(hy:Wf y)(B1 C1 B2 C2:Nat)(ix:iq b (d-1) x B1 C1)(iy:iq b (d-1) y B2 C2)(hB:1<=B1)(hB2:1<=B2):iq b d (.list [.atom [42],x,y]) (B1+B2+5) (C1+C2+1):=by
 intro p hp
 refine yC _ _ _ _ _ ((a6 _).mpr trivial) hb.has ?_
 have ed:IntKind.wrap .i64 (d-1)=d-1:=VL.wrap64 _ (by omega) (by omega)
 have hP:=P3.of (.atom [42]) x y
 simp only[xL,cK,toNat_one,bf,↓zq,zs,ae,zt,hP.1,hP.2.1,hP.2.2.1,hP.2.2.2,aM,ed]
 refine al (ph [42] x y) ?_
 simp only[↓zq,zs,ae,zt]
 refine⟨fun h=>(by cases h),fun _=>⟨fun _=>?_,fun h=>absurd rfl h⟩⟩
 refine⟨by omega,by omega,aT (ix p (by omega)) (lV b p C1 B1 hB) ?_⟩
 rintro r o ⟨q,h1,h2,⟨f,rfl,h4,h5⟩,rfl⟩
 simp only[↓zq,zs,ae,zt,aN,hb.has,aM]
 repeat refine⟨by omega,?_⟩
 refine aT (iy q (by omega)) (lV b q C2 B2 hB2) ?_
 rintro r o ⟨q',g1,g2,⟨g,rfl,g4,g5⟩,rfl⟩
 simp only[↓zq,zs,ae,zt,aN,hb.has,aM]
 repeat refine⟨by omega,?_⟩
 refine al (xP [112] f g) ?_
 simp only[↓zq,zs,ae,zt,aN,hb.has,aM]
 have fin:dO b p (C1+C2+1) (ic (B1+B2+5)) (.agg [.v (.string (mk [])),(E.list [.atom [112],f,g]).sp]) [.cells [b,.v (.int .i64 (q':Int))]]:=⟨q',by omega,by omega,⟨.list [.atom [112],f,g],rfl,⟨by simp[E.ok],h4,g4,trivial⟩,by rw[Lh [112] f g rfl];omega⟩,rfl⟩
 first|exact fin|exact⟨by omega,fin⟩
theorem Gu(b:AV)(l:List UInt8)(hb:pA b l)(d:Int)(hd:-100000<=d/\d<=100000){x y:E}(hx:Wf x)(hy:Wf y)(hl:(E.list [.atom [43],x,y]).dN<=400)(B C:Nat)(ix:iq b (d-1) x B C)(iy:iq b (d-1) y B C)(hB:1<=B):iq b d (.list [.atom [43],x,y]) (B+5) (C+1):=by
 intro p hp
 refine yC _ _ _ _ _ ((a6 _).mpr trivial) hb.has ?_
 have ed:IntKind.wrap .i64 (d-1)=d-1:=VL.wrap64 _ (by omega) (by omega)
 have hP:=P3.of (.atom [43]) x y
 simp only[E.dN,E.eJ]at hl
 have s1:=hx.sz
 have s2:=hy.sz
 simp only[xL,cK,toNat_one,bf,↓zq,zs,ae,zt,hP.1,hP.2.1,hP.2.2.1,hP.2.2.2,aM,ed]
 refine al (ph [43] x y) ?_
 simp only[↓zq,zs,ae,zt]
 refine⟨fun _=>?_,fun h=>absurd rfl h⟩
 refine aT (tX b l hb p 2 (by omega) (by decide)) (dO.ne ⟨0,rfl,fun h=>by omega,by omega⟩) ?_
 rintro r o ⟨q,h1,h2,⟨k,rfl,_,_⟩,rfl⟩
 simp only[↓zq,zs,ae,zt,aN,hb.has,aM]
 have ex:=Ef hx [] (.sl []) (.of []) (by simp;omega)
 have ey:=Ef hy [] (.sl []) (.of []) (by simp;omega)
 have ax:=wN x hx.ok (by omega)
 have ay:=wN y hy.ok (by omega)
 rw[dz]at ax ay
 have lx:=ix q (by omega)
 have ly:=iy q (by omega)
 have t:=lV b q C B hB
 have leaf:∀(w:Nm) (q':Nat) (f:E),w.length=1->q<=q'->q'<=q+C->f.ok->(kB f).length<=B->dO b p (C+1) (ic (B+5)) (.agg [.v (.string (mk [])),(E.list [.atom w,f]).sp]) [.cells [b,.v (.int .i64 (q':Int))]]:=fun w q' f hw g1 g2 h4 h5=>F3 hw h1 h2 g1 g2 h4 h5
 repeat' first
  |intro _
  |refine⟨by omega,?_⟩
  |(
   with_reducible refine aT lx t ?_
   rintro r o ⟨q',g1,g2,⟨f,rfl,h4,h5⟩,rfl⟩
   simp only[↓zq,zs,ae,zt,aN,hb.has,aM]
   repeat refine⟨by omega,?_⟩
   refine al (xN _ f) ?_
   simp only[↓zq,zs,ae,zt,aN,hb.has,aM]
   have fin:=leaf [108] q' f rfl g1 g2 h4 h5
   first|exact fin|exact⟨by omega,fin⟩)
  |(
   with_reducible refine aT ly t ?_
   rintro r o ⟨q',g1,g2,⟨f,rfl,h4,h5⟩,rfl⟩
   simp only[↓zq,zs,ae,zt,aN,hb.has,aM]
   repeat refine⟨by omega,?_⟩
   refine al (xN _ f) ?_
   simp only[↓zq,zs,ae,zt,aN,hb.has,aM]
   have fin:=leaf [114] q' f rfl g1 g2 h4 h5
   first|exact fin|exact⟨by omega,fin⟩)
  |(with_reducible refine il.call ex fun _=>?_;simp only[↓zq,zs,ae,zt,aM])
  |(with_reducible refine il.call ey fun _=>?_;simp only[↓zq,zs,ae,zt,aM])
  |(with_reducible refine al ax ?_;simp only[↓zq,zs,ae,zt,aM])
  |(with_reducible refine al ay ?_;simp only[↓zq,zs,ae,zt,aM])
  |with_reducible refine aE ?_ ?_
  |(exfalso;omega)
end Go.Proofs.Trees
namespace Go.Proofs.Trees
open Go Go.VL Go.RowKit
def k8:Nat->Nat
 |0=>2
 |d+1=>2*k8 d+15
def la:Nat->Nat
 |0=>3
 |d+1=>2*la d+8
theorem Iu(d:Nat):2<=k8 d:=by cases d<;>simp only[k8]<;>omega
theorem I4(d:Nat):3<=la d:=by cases d<;>simp only[la]<;>omega
theorem CS:∀d:Nat,d<=10->k8 d<=100000000
 |0,_=>by decide
 |1,_=>by decide
 |2,_=>by decide
 |3,_=>by decide
 |4,_=>by decide
 |5,_=>by decide
 |6,_=>by decide
 |7,_=>by decide
 |8,_=>by decide
 |9,_=>by decide
 |10,_=>by decide
 |d+11,h=>by omega
theorem w6(b:AV)(l:List UInt8)(hb:pA b l)(p:Nat)(hp:p<2*nS):ap Tryz.prog 12 [.ref 0 0] [.cells [b,.v (.int .i64 (p:Int))]] (dO b p 1 (eZ 60)):=by
 refine Iw _ _ hb.has ?_
 unfold FZ
 refine aT (yB b l hb p hp _ _ (.of [_,_,_,_,_,_,_]) (by simp) (by simp)) (dO.ne ⟨_,af,rfl⟩) ?_
 rintro r o ⟨q,h1,h2,hr,rfl⟩
 obtain⟨s,rfl,hs⟩:=jl.pr (n:=60) (by decide) hr
 simp only[↓zq,zs,ae,aN,hb.has]
 exact⟨q,h1,h2,⟨s,rfl,hs⟩,rfl⟩
theorem AE(b:AV)(l:List UInt8)(hb:pA b l):∀(d:Nat),d<=10->∀(p:Nat) (ls:List (List UInt8)) (a:AV),dD a ls->(∀s,s∈ls->s.length<=2)->ls.length+d<=100->p+la d<2*nS ->
 ap Tryz.prog 41 [.ref 0 0,a,.v (.int .i64 (d:Int))] [.cells [b,.v (.int .i64 (p:Int))]] (dO b p (la d) (eZ (k8 d))):=by
 intro d
 induction d with
 |
  zero =>
  intro hd p ls a ha hls hll hp
  simp only[la]at hp
  refine EZ _ _ _ _ ha.1 hb.has ?_
  simp only[Ay,↓zq,zs,ae,ha.len]
  refine⟨fun _=>⟨ha.1,fun hpos=>?_,fun _=>?_⟩,fun h=>by omega⟩
  ·refine aT (tX b l hb p 3 (by omega) (by decide)) (dO.ne ⟨0,rfl,fun h=>by omega,by omega⟩) ?_
   rintro r o ⟨q1,h1,h2,⟨k,rfl,h3,h4⟩,rfl⟩
   simp only[↓zq,zs,ae,aN,hb.has]
   refine⟨fun _=>⟨ha.1,?_⟩,fun _=>?_⟩
   ·refine aT (tX b l hb q1 ls.length (by omega) (by simp[nS];omega)) (dO.ne ⟨0,rfl,fun h=>by omega,by omega⟩) ?_
    rintro r o ⟨q2,g1,g2,⟨k2,rfl,g3,g4⟩,rfl⟩
    have hk:=g3 (by omega)
    simp only[↓zq,zs,ae,aN,hb.has,cc,ha.idx hk]
    have:dO b p (la 0) (eZ (k8 0)) (.v (.string (mk (ls.getD k2 [])))) [.cells [b,.v (.int .i64 (q2:Int))]]:=⟨q2,by omega,by simp only[la];omega,⟨_,rfl,by
     have:=hls (ls.getD k2 []) (by simp[aa,hk]);simp only[k8];omega⟩,rfl⟩
    refine⟨⟨ha.1,by omega⟩,?_⟩
    repeat (first|exact this|refine⟨by omega,?_⟩)
   ·refine aT (yB b l hb q1 (by omega) _ _ (.of [_,_,_,_,_,_]) (by simp) (by simp)) (dO.ne ⟨_,af,rfl⟩) ?_
    rintro r o ⟨q2,g1,g2,hr,rfl⟩
    obtain⟨s,rfl,hs⟩:=jl.pr (n:=2) (by decide) hr
    simp only[↓zq,zs,ae,aN,hb.has]
    exact⟨q2,by omega,by simp only[la];omega,⟨s,rfl,by simp only[k8];omega⟩,rfl⟩
  ·refine aT (yB b l hb p (by omega) _ _ (.of [_,_,_,_,_,_]) (by simp) (by simp)) (dO.ne ⟨_,af,rfl⟩) ?_
   rintro r o ⟨q2,g1,g2,hr,rfl⟩
   obtain⟨s,rfl,hs⟩:=jl.pr (n:=2) (by decide) hr
   simp only[↓zq,zs,ae,aN,hb.has]
   exact⟨q2,by omega,by simp only[la];omega,⟨s,rfl,by simp only[k8];omega⟩,rfl⟩
 |
  succ d ih =>
  intro hd p ls a ha hls hll hp
  simp only[la]at hp
  have hL:=Iu d
  have hC:=I4 d
  have ih:=ih (by omega)
  have hL8:=CS d (by omega)
  have ed:IntKind.wrap .i64 (((d+1:Nat):Int)-1)=(d:Int):=by rw[VL.wrap64]<;>omega
  refine EZ _ _ _ _ ha.1 hb.has ?_
  simp only[Ay,↓zq,zs,ae,ha.len,ed]
  refine⟨fun h=>by omega,fun _=>?_⟩
  refine aT (tX b l hb p 4 (by omega) (by decide)) (dO.ne ⟨0,rfl,fun h=>by omega,by omega⟩) ?_
  rintro r o ⟨q0,a1,a2,⟨k0,rfl,_,_⟩,rfl⟩
  simp only[↓zq,zs,ae,aN,hb.has]
  refine⟨fun _=>⟨ha.1,fun hpos=>?_,fun _=>?_⟩,fun _=>?_⟩
  ·refine aT (tX b l hb q0 3 (by omega) (by decide)) (dO.ne ⟨0,rfl,fun h=>by omega,by omega⟩) ?_
   rintro r o ⟨q1,h1,h2,⟨k,rfl,h3,h4⟩,rfl⟩
   simp only[↓zq,zs,ae,aN,hb.has]
   refine⟨fun _=>⟨ha.1,?_⟩,fun _=>?_⟩
   ·refine aT (tX b l hb q1 ls.length (by omega) (by simp[nS];omega)) (dO.ne ⟨0,rfl,fun h=>by omega,by omega⟩) ?_
    rintro r o ⟨q2,g1,g2,⟨k2,rfl,g3,g4⟩,rfl⟩
    have hk:=g3 (by omega)
    simp only[↓zq,zs,ae,aN,hb.has,cc,ha.idx hk]
    have:dO b p (la (d+1)) (eZ (k8 (d+1))) (.v (.string (mk (ls.getD k2 [])))) [.cells [b,.v (.int .i64 (q2:Int))]]:=⟨q2,by omega,by simp only[la];omega,⟨_,rfl,by
     have:=hls (ls.getD k2 []) (by simp[aa,hk]);simp only[k8];omega⟩,rfl⟩
    refine⟨⟨ha.1,by omega⟩,?_⟩
    repeat (first|exact this|refine⟨by omega,?_⟩)
   ·refine aT (yB b l hb q1 (by omega) _ _ (.of [_,_,_,_,_,_]) (by simp) (by simp)) (dO.ne ⟨_,af,rfl⟩) ?_
    rintro r o ⟨q2,g1,g2,hr,rfl⟩
    obtain⟨s,rfl,hs⟩:=jl.pr (n:=2) (by decide) hr
    simp only[↓zq,zs,ae,aN,hb.has]
    exact⟨q2,by omega,by simp only[la];omega,⟨s,rfl,by simp only[k8];omega⟩,rfl⟩
  ·refine aT (yB b l hb q0 (by omega) _ _ (.of [_,_,_,_,_,_]) (by simp) (by simp)) (dO.ne ⟨_,af,rfl⟩) ?_
   rintro r o ⟨q2,g1,g2,hr,rfl⟩
   obtain⟨s,rfl,hs⟩:=jl.pr (n:=2) (by decide) hr
   simp only[↓zq,zs,ae,aN,hb.has]
   exact⟨q2,by omega,by simp only[la];omega,⟨s,rfl,by simp only[k8];omega⟩,rfl⟩
  ·refine aT (tX b l hb q0 5 (by omega) (by decide)) (dO.ne ⟨0,rfl,fun h=>by omega,by omega⟩) ?_
   rintro r o ⟨q1,b1,b2,⟨k1,rfl,c3,_⟩,rfl⟩
   have hk1:=c3 (by omega)
   obtain rfl|rfl|rfl|rfl|rfl:k1=0\/k1=1\/k1=2\/k1=3\/k1=4:=by omega
   ·simp only[↓zq,zs,ae,aN,hb.has]
    refine⟨fun _=>?_,fun h=>absurd rfl h⟩
    refine aT (ih q1 ls a ha hls (by omega) (by omega)) (dO.ne ⟨[],rfl,by simp⟩) ?_
    rintro r o ⟨q2,d1,d2,⟨s1,rfl,d3⟩,rfl⟩
    simp only[↓zq,zs,ae,zt,aN,hb.has,an]
    repeat refine⟨by first|omega|(simp only[an,aB,aI];omega),?_⟩
    refine aT (ih q2 ls a ha hls (by omega) (by omega)) (dO.ne ⟨[],rfl,by simp⟩) ?_
    rintro r o ⟨q3,e1,e2,⟨s2,rfl,e3⟩,rfl⟩
    simp only[↓zq,zs,ae,zt,aN,hb.has,an]
    have fin:∀s:List UInt8,s.length<=k8 (d+1)->dO b p (la (d+1)) (eZ (k8 (d+1))) (.v (.string (mk s))) [.cells [b,.v (.int .i64 (q3:Int))]]:=fun s hs=>⟨q3,by omega,by simp only[la];omega,⟨s,rfl,hs⟩,rfl⟩
    repeat (first|exact fin _ (by simp only[an,aB,aI,k8];omega)|refine⟨by first|omega|(simp only[an,aB,aI];omega),?_⟩)
   ·simp only[↓zq,zs,ae,aN,hb.has]
    refine⟨fun h=>by omega,fun _=>⟨fun _=>?_,fun h=>absurd rfl h⟩⟩
    refine aT (ih q1 ls a ha hls (by omega) (by omega)) (dO.ne ⟨[],rfl,by simp⟩) ?_
    rintro r o ⟨q2,d1,d2,⟨s1,rfl,d3⟩,rfl⟩
    simp only[↓zq,zs,ae,zt,aN,hb.has,an]
    repeat refine⟨by first|omega|(simp only[an,aB,aI];omega),?_⟩
    refine aT (ih q2 ls a ha hls (by omega) (by omega)) (dO.ne ⟨[],rfl,by simp⟩) ?_
    rintro r o ⟨q3,e1,e2,⟨s2,rfl,e3⟩,rfl⟩
    simp only[↓zq,zs,ae,zt,aN,hb.has,an]
    have fin:∀s:List UInt8,s.length<=k8 (d+1)->dO b p (la (d+1)) (eZ (k8 (d+1))) (.v (.string (mk s))) [.cells [b,.v (.int .i64 (q3:Int))]]:=fun s hs=>⟨q3,by omega,by simp only[la];omega,⟨s,rfl,hs⟩,rfl⟩
    repeat (first|exact fin _ (by simp only[an,aB,aI,k8];omega)|refine⟨by first|omega|(simp only[an,aB,aI];omega),?_⟩)
   ·simp only[↓zq,zs,ae,aN,hb.has]
    refine⟨fun h=>by omega,fun _=>⟨fun h=>by omega,fun _=>⟨fun _=>?_,fun h=>absurd rfl h⟩⟩⟩
    refine aT (ih q1 ls a ha hls (by omega) (by omega)) (dO.ne ⟨[],rfl,by simp⟩) ?_
    rintro r o ⟨q2,d1,d2,⟨s1,rfl,d3⟩,rfl⟩
    simp only[↓zq,zs,ae,zt,aN,hb.has,an]
    repeat refine⟨by first|omega|(simp only[an,aB,aI];omega),?_⟩
    refine aT (ih q2 ls a ha hls (by omega) (by omega)) (dO.ne ⟨[],rfl,by simp⟩) ?_
    rintro r o ⟨q3,e1,e2,⟨s2,rfl,e3⟩,rfl⟩
    simp only[↓zq,zs,ae,zt,aN,hb.has,an]
    have fin:∀s:List UInt8,s.length<=k8 (d+1)->dO b p (la (d+1)) (eZ (k8 (d+1))) (.v (.string (mk s))) [.cells [b,.v (.int .i64 (q3:Int))]]:=fun s hs=>⟨q3,by omega,by simp only[la];omega,⟨s,rfl,hs⟩,rfl⟩
    repeat (first|exact fin _ (by simp only[an,aB,aI,k8];omega)|refine⟨by first|omega|(simp only[an,aB,aI];omega),?_⟩)
   ·simp only[↓zq,zs,ae,aN,hb.has]
    refine⟨fun h=>by omega,fun _=>⟨fun h=>by omega,fun _=>⟨fun h=>by omega,fun _=>⟨fun _=>?_,fun h=>absurd rfl h⟩⟩⟩⟩
    refine aT (ih q1 ls a ha hls (by omega) (by omega)) (dO.ne ⟨[],rfl,by simp⟩) ?_
    rintro r o ⟨q2,d1,d2,⟨s1,rfl,d3⟩,rfl⟩
    simp only[↓zq,zs,ae,zt,aN,hb.has,an]
    repeat refine⟨by first|omega|(simp only[an,aB,aI];omega),?_⟩
    refine aT (ih q2 ls a ha hls (by omega) (by omega)) (dO.ne ⟨[],rfl,by simp⟩) ?_
    rintro r o ⟨q3,e1,e2,⟨s2,rfl,e3⟩,rfl⟩
    simp only[↓zq,zs,ae,zt,aN,hb.has,an]
    have fin:∀s:List UInt8,s.length<=k8 (d+1)->dO b p (la (d+1)) (eZ (k8 (d+1))) (.v (.string (mk s))) [.cells [b,.v (.int .i64 (q3:Int))]]:=fun s hs=>⟨q3,by omega,by simp only[la];omega,⟨s,rfl,hs⟩,rfl⟩
    repeat (first|exact fin _ (by simp only[an,aB,aI,k8];omega)|refine⟨by first|omega|(simp only[an,aB,aI];omega),?_⟩)
   ·simp only[↓zq,zs,ae,aN,hb.has]
    refine⟨fun h=>by omega,fun _=>⟨fun h=>by omega,fun _=>⟨fun h=>by omega,fun _=>⟨fun h=>by omega,fun _=>?_⟩⟩⟩⟩
    refine aT (yB b l hb q1 (by omega) _ _ (.of [_,_,_]) (by simp) (by simp)) (dO.ne ⟨_,af,rfl⟩) ?_
    rintro r o ⟨q2,g1,g2,hr,rfl⟩
    obtain⟨s,rfl,hs⟩:=jl.pr (n:=2) (by decide) hr
    simp only[↓zq,zs,ae,zt,aN,hb.has]
    repeat refine⟨by first|omega|(simp only[an,aB,aI];omega),?_⟩
    refine al (Dh ls a ha s (by omega)) ?_
    simp only[↓zq,zs,ae]
    refine aT (ih q2 (ls++[s]) _ (.of _) (fun w hw=>by
     rcases aL.1 hw with hw|hw
     ·exact hls w hw
     ·simp at hw;rw[hw];exact hs) (by simp;omega) (by omega)) (dO.ne ⟨[],rfl,by simp⟩) ?_
    rintro r o ⟨q3,e1,e2,⟨s2,rfl,e3⟩,rfl⟩
    simp only[↓zq,zs,ae,zt,aN,hb.has,an]
    have fin:∀s:List UInt8,s.length<=k8 (d+1)->dO b p (la (d+1)) (eZ (k8 (d+1))) (.v (.string (mk s))) [.cells [b,.v (.int .i64 (q3:Int))]]:=fun s hs=>⟨q3,by omega,by simp only[la];omega,⟨s,rfl,hs⟩,rfl⟩
    repeat (first|exact fin _ (by simp only[an,aB,aI,k8];omega)|refine⟨by first|omega|(simp only[an,aB,aI];omega),?_⟩)
end Go.Proofs.Trees
namespace Go.Proofs.Trees
open Go Go.VL Go.RowKit
theorem dO.mono{b:AV}{p c c':Nat}{X Y:AV->Prop}(hc:c<=c')(h:∀r,X r->Y r){r:AV}{o:List Ob}(hr:dO b p c X r o):dO b p c' Y r o:=by
 obtain⟨q,h1,h2,h3,h4⟩:=hr;exact⟨q,h1,by omega,h r h3,h4⟩
theorem eZ.le{n m:Nat}(h:n<=m){r:AV}(hr:eZ n r):eZ m r:=by obtain⟨s,h1,h2⟩:=hr;exact⟨s,h1,by omega⟩
theorem JC(b:AV)(l:List UInt8)(hb:pA b l)(p:Nat)(hp:p<nS):ap Tryz.prog 40 [.ref 0 0] [.cells [b,.v (.int .i64 (p:Int))]] (dO b p 100 (eZ 200)):=by
 refine IP _ _ hb.has ?_
 unfold Hq
 have hfar:nS=1000000000000000:=rfl
 refine aT (tX b l hb p 12 (by omega) (by decide)) (dO.ne ⟨0,rfl,fun h=>by omega,by omega⟩) ?_
 rintro r o ⟨q,h1,h2,⟨k,rfl,_,_⟩,rfl⟩
 have kn:∀(c m:Nat) (r:AV) (o:List Ob),c<=90->m<=200->dO b q c (eZ m) r o->∃q':Nat,∃s:List UInt8,r=.v (.string (mk s))/\o=[.cells [b,.v (.int .i64 (q':Int))]]/\dO b p 100 (eZ 200) (.v (.string (mk s))) [.cells [b,.v (.int .i64 (q':Int))]]:=by
  rintro c m r o hc hm ⟨q',g1,g2,⟨s,rfl,hs⟩,rfl⟩
  exact⟨q',s,rfl,rfl,q',by omega,by omega,⟨s,rfl,by omega⟩,rfl⟩
 simp only[↓zq,zs,ae,aN,hb.has]
 refine⟨fun _=>?_,fun _=>⟨fun _=>?_,fun _=>⟨fun _=>?_,fun _=>⟨fun _=>?_,fun _=>⟨fun _=>?_,fun _=>?_⟩⟩⟩⟩⟩
 ·refine aT (yB b l hb q (by omega) _ _ (.of [_,_,_,_,_,_,_,_,_]) (by simp) (by simp)) (dO.ne ⟨_,af,rfl⟩) ?_
  intro r o hr
  obtain⟨q',s,rfl,rfl,hd⟩:=kn 1 20 r o (by omega) (by omega) (hr.mono (au _) fun r h=>jl.pr (n:=20) (by decide) h)
  simp only[↓zq,zs,ae,aN,hb.has];exact hd
 ·refine aT (w6 b l hb q (by omega)) (dO.ne ⟨[],rfl,by simp⟩) ?_
  intro r o hr
  obtain⟨q',s,rfl,rfl,hd⟩:=kn _ _ r o (by omega) (by omega) hr
  simp only[↓zq,zs,ae,aN,hb.has];exact hd
 ·refine aT (w6 b l hb q (by omega)) (dO.ne ⟨[],rfl,by simp⟩) ?_
  intro r o hr
  obtain⟨q',s,rfl,rfl,hd⟩:=kn _ _ r o (by omega) (by omega) hr
  simp only[↓zq,zs,ae,aN,hb.has];exact hd
 ·refine aT (w6 b l hb q (by omega)) (dO.ne ⟨[],rfl,by simp⟩) ?_
  intro r o hr
  obtain⟨q',s,rfl,rfl,hd⟩:=kn _ _ r o (by omega) (by omega) hr
  simp only[↓zq,zs,ae,aN,hb.has];exact hd
 ·refine aT (AE b l hb 2 (by omega) q [[116],[116,49]] _ (dD.of [[116],[116,49]]) (by decide) (by simp) (by simp[la];omega)) (dO.ne ⟨[],rfl,by simp⟩) ?_
  intro r o hr
  obtain⟨q',s,rfl,rfl,hd⟩:=kn _ _ r o (by simp[la]) (by simp[k8]) hr
  simp only[↓zq,zs,ae,aN,hb.has];exact hd
 ·refine aT (AE b l hb 3 (by omega) q [] _ (dD.of []) (by simp) (by simp) (by simp[la];omega)) (dO.ne ⟨[],rfl,by simp⟩) ?_
  intro r o hr
  obtain⟨q',s,rfl,rfl,hd⟩:=kn _ _ r o (by simp[la]) (by simp[k8]) hr
  simp only[↓zq,zs,ae,aN,hb.has];exact hd
def uq(a:AV):Prop:=LK.sl.has a/\∃l:List UInt8,a.aO=ns l
def Ij(r:AV)(o:List Ob):Prop:=∃(b:AV) (l:List UInt8),pA b l/\r=.ref 0 0/\o=[.cells [b,.v (.int .i64 0)]]
theorem Ij.ne:∃r o,Ij r o:=⟨_,_,.v (.slice none 0 0),[],⟨(bi).mpr trivial,rfl,by simp⟩,rfl,rfl⟩
theorem Kz(a:AV)(ha:uq a):ap Tryz.prog 9 [a] [] Ij:=by
 obtain⟨hs,l,hl⟩:=ha
 have hln:a.aO.length=l.length:=by rw[hl];simp[ns]
 refine Is _ hs ?_
 simp only[GK,↓zq,zs,ae,hln]
 refine⟨hs,fun h=>⟨⟨hs,by omega⟩,?_⟩,fun h=>?_⟩
 ·refine⟨_,l.take 2000,⟨(ca _).mpr trivial,?_,?_⟩,rfl,rfl⟩
  ·rw[eE,hl];simp[ns]
  ·simp;omega
 ·exact⟨a,l,⟨hs,hl,by omega⟩,rfl,rfl⟩
end Go.Proofs.Trees
namespace Go.Proofs.Trees
open Go Go.VL Go.RowKit
theorem xE(b:AV)(l:List UInt8)(hb:pA b l){e:E}(h:Wf e):∀d:Int,d<=-13->-50000+(e.sz:Int)<=d->e.dN<=400->iq b d e (5*e.sz) e.sz:=by
 induction h with
 |
  @atom s hs =>
  intro d h1 h2 h3
  exact(EW b l hb d hs).mono (by simp[E.sz]) (by simp[E.sz])
 |
  @plus x y hx hy i1 i2 =>
  intro d h1 h2 h3
  have h4:=h3
  simp only[E.sz,E.gT,E.dN,E.eJ]at h2 h4 |-
  exact(Gu b l hb d (by omega) hx hy h3 (5*(x.sz+y.sz)+1) (x.sz+y.sz) ((i1 (d-1) (by omega) (by omega) (by omega)).mono (by omega) (by omega)) ((i2 (d-1) (by omega) (by omega) (by omega)).mono (by omega) (by omega)) (by omega)).mono (by omega) (by omega)
 |
  @times x y hx hy i1 i2 =>
  intro d h1 h2 h3
  have h4:=h3
  simp only[E.sz,E.gT,E.dN,E.eJ]at h2 h4 |-
  exact(Fg b l hb d (by omega) hx hy (5*x.sz+1) x.sz (5*y.sz+1) y.sz ((i1 (d-1) (by omega) (by omega) (by omega)).mono (by omega) (by omega)) ((i2 (d-1) (by omega) (by omega) (by omega)).mono (by omega) (by omega)) (by omega) (by omega)).mono (by omega) (by omega)
 |
  @rc n x hn hx i =>
  intro d h1 h2 h3
  simp only[E.sz,E.gT]at h2 |-
  exact(EC b l hb d (by omega) hn hx h3 1 0 (fun h=>absurd h (by omega)) (by omega)).mono (by omega) (by omega)
def mL:Nat->Nat
 |0=>6100
 |n+1=>2*mL n+5
theorem Av:∀n,6100<=mL n
 |0=>au _
 |n+1=>by have:=Av n;simp only[mL];omega
theorem s4:∀n k:Nat,mL (n+k)+5=2 ^ k*(mL n+5)
 |n,0=>by simp
 |
  n,k+1=>by
  have:=s4 n k
  rw[show n+(k+1)=n+k+1 from rfl,mL,Nat.pow_succ,Nat.mul_comm (2 ^ k) 2,Nat.mul_assoc,<-this];omega
theorem wT{n m:Nat}(h:n<=m):mL n<=mL m:=by
 obtain⟨k,rfl⟩:=Nat.exists_eq_add_of_le h
 have:=s4 n k
 have h2:1*(mL n+5)<=2 ^ k*(mL n+5):=aR _ Nat.one_le_two_pow
 omega
theorem GH:mL 22<=30000000000:=by
 have:=s4 0 22
 simp only[aP]at this
 have h0:mL 0=6100:=rfl
 rw[h0]at this
 omega
theorem uo(b:AV)(l:List UInt8)(hb:pA b l):∀n:Nat,n<=40->∀e,Wf e->e.dN<=400->iq b ((n:Int)-13) e (mL n) (mL n)
 |
  0,hn,e,h,hl=>by
  have:=h.sz
  exact(xE b l hb h _ (by simp) (by simp;omega) hl).mono (by simp only[mL];omega) (by simp only[mL];omega)
 |
  n+1,hn,e,h,hl=>by
  have hb1:=Av n
  have ih:∀g,Wf g->g.dN<=400->iq b (((n+1:Nat):Int)-13-1) g (mL n) (mL n):=by
   rw[show ((n+1:Nat):Int)-13-1=(n:Int)-13 by omega];exact uo b l hb n (by omega)
  cases h with
  |@atom s hs=>exact(EW b l hb _ hs).mono (by simp only[mL];omega) (by simp only[mL];omega)
  |
   @plus x y hx hy =>
   have h4:=hl
   simp only[E.dN,E.eJ]at h4
   exact(Gu b l hb _ (by omega) hx hy hl _ _ (ih x hx (by omega)) (ih y hy (by omega)) (by omega)).mono (by simp only[mL];omega) (by simp only[mL];omega)
  |
   @times x y hx hy =>
   simp only[E.dN,E.eJ]at hl
   exact(Fg b l hb _ (by omega) hx hy _ _ _ _ (ih x hx (by omega)) (ih y hy (by omega)) (by omega) (by omega)).mono (by simp only[mL];omega) (by simp only[mL];omega)
  |@rc m x hm hx=>exact(EC b l hb _ (by omega) hm hx hl _ _ (fun _=>ih) (by omega)).mono (by simp only[mL];omega) (by simp only[mL];omega)
theorem DH(b:AV)(l:List UInt8)(hb:pA b l)(p:Nat)(hp:p<100000000000000)(s:Nm):ap Tryz.prog 15 [.ref 0 0,.v (.string (mk s))] [.cells [b,.v (.int .i64 (p:Int))]] (dO b p 40000000000 (eZ 40000000000)):=by
 refine KE _ _ _ hb.has ?_
 have hfar:nS=1000000000000000:=rfl
 have oneL:∀(q:Nat) (r:AV) (o:List Ob),p<=q->q<=p+1->dO b q 1 (jl [[],[117],[101,48],[101,48,48],[101,49,48,48],[40,108,32,117,41],[40,112,32,117,41],[40,102,32,40,108,32,117,41,41],[40,120,32,117,41],[40,108,32,32,117,41]]) r o->∃q':Nat,∃t:List UInt8,r=.v (.string (mk t))/\o=[.cells [b,.v (.int .i64 (q':Int))]]/\dO b p 40000000000 (eZ 40000000000) (.v (.string (mk t))) [.cells [b,.v (.int .i64 (q':Int))]]:=by
  rintro q r o h1 h2 ⟨q',g1,g2,hr,rfl⟩
  obtain⟨t,rfl,ht⟩:=jl.pr (n:=20) (by decide) hr
  exact⟨q',t,rfl,rfl,q',by omega,by omega,⟨t,rfl,by omega⟩,rfl⟩
 unfold DG
 refine aT (A0 s) (kz.ne _ _ (fun h=>h)) ?_
 rintro r o ⟨c,d,hd,rfl,hh⟩
 have hhas:bJ [.str,.sl] [.v (.string (mk c)),d] 0:=by simp[bJ,dV,hd]
 simp only[↓zq,zs,ae,zt]
 refine⟨hhas,fun h=>?_,fun h=>?_⟩
 ·refine aT (yB b l hb p (by omega) _ _ (.of [_,_,_,_,_,_,_,_,_,_]) (by simp) (by simp)) (dO.ne ⟨_,af,rfl⟩) ?_
  intro r o hr
  obtain⟨q',t,rfl,rfl,hd⟩:=oneL p r o (au _) (by omega) hr
  simp only[↓zq,zs,ae,aN,hb.has];exact hd
 ·obtain⟨e,he,hce⟩:=hh (by simpa using h)
  obtain⟨t,h1,hA,h3,h4,h5,_⟩:=hZ he
  rw[dz]at hce
  simp only[AV.agg.injEq,List.cons.injEq,AV.v.injEq,Value.string.injEq,and_true]at hce
  obtain⟨hc1,rfl⟩:=hce
  have hc2:=s5 hc1
  subst hc2
  obtain⟨hw,hwt⟩:=kR e [] t hA.ok (by simp) hA.ty
  have hats:e.dN<=400:=by rw[hw.dN [],hwt];exact h5
  have hsz:=hw.sz
  refine aT (tX b l hb p 16 (by omega) (by decide)) (dO.ne ⟨0,rfl,fun h=>by omega,by omega⟩) ?_
  rintro r o ⟨q,h1,h2,⟨k,rfl,_,_⟩,rfl⟩
  simp only[↓zq,zs,ae,aN,hb.has]
  refine⟨fun _=>?_,fun _=>?_⟩
  ·refine aT (yB b l hb q (by omega) _ _ (.of [_,_,_,_,_,_,_,_,_,_]) (by simp) (by simp)) (dO.ne ⟨_,af,rfl⟩) ?_
   intro r o hr
   obtain⟨q',t,rfl,rfl,hd⟩:=oneL q r o h1 h2 hr
   simp only[↓zq,zs,ae,aN,hb.has];exact hd
  ·obtain⟨w1,w2,_⟩:=xp (os:=[]) hw
   have hap:=FT hw (.v (.slice none 0 0)) [] ⟨(bi).mpr trivial,rfl⟩ (by omega) (by simp) (by simp)
   refine al hap ?_
   simp only[↓zq,zs,ae,zt,aM]
   repeat refine⟨by omega,?_⟩
   have hats2:(zF e []).dN<=400:=by rw[w1.dN [],w2,<-hw.dN []];exact hats
   refine aT (tX b l hb q 5 (by omega) (by decide)) (dO.ne ⟨0,rfl,fun h=>by omega,by omega⟩) ?_
   rintro r o ⟨q1,g1,g2,⟨k1,rfl,c3,_⟩,rfl⟩
   have hk1:=c3 (by omega)
   simp only[↓zq,zs,ae,zt,aN,hb.has,aM]
   have ed:IntKind.wrap .i64 (5+(k1:Int))=((18+k1:Nat):Int)-13:=by rw[VL.wrap64 _ (by omega) (by omega)];omega
   have hB:=GH
   have hB2:mL (18+k1)<=mL 22:=wT (by omega)
   have hB3:=Av (18+k1)
   rw[ed]
   refine aT (uo b l hb (18+k1) (by omega) (zF e []) w1 hats2 q1 (by omega)) (lV b q1 _ _ (by omega)) ?_
   rintro r o ⟨q2,d1,d2,⟨f,rfl,f1,f2⟩,rfl⟩
   simp only[↓zq,zs,ae,zt,aN,hb.has,aM]
   repeat refine⟨by omega,?_⟩
   have ht:=yh (f.sz+1) f (by omega) f1 (by omega)
   rw[dz]at ht
   refine al ht ?_
   simp only[↓zq,zs,ae,zt,aN,hb.has,aM]
   exact⟨q2,by omega,by omega,⟨kB f,rfl,by omega⟩,rfl⟩
theorem IE(b:AV)(l:List UInt8)(hb:pA b l)(p:Nat)(hp:p<100000000000000):ap Tryz.prog 24 [.ref 0 0] [.cells [b,.v (.int .i64 (p:Int))]] (dO b p 200 (eZ 200)):=by
 refine Jh _ _ hb.has ?_
 unfold Gl
 have hfar:nS=1000000000000000:=rfl
 refine aT (tX b l hb p 8 (by omega) (by decide)) (dO.ne ⟨0,rfl,fun h=>by omega,by omega⟩) ?_
 rintro r o ⟨q,h1,h2,⟨k,rfl,_,_⟩,rfl⟩
 have kn:∀(c m:Nat) (r:AV) (o:List Ob),c<=190->m<=200->dO b q c (eZ m) r o->∃q':Nat,∃s:List UInt8,r=.v (.string (mk s))/\o=[.cells [b,.v (.int .i64 (q':Int))]]/\dO b p 200 (eZ 200) (.v (.string (mk s))) [.cells [b,.v (.int .i64 (q':Int))]]:=by
  rintro c m r o hc hm ⟨q',g1,g2,⟨s,rfl,hs⟩,rfl⟩
  exact⟨q',s,rfl,rfl,q',by omega,by omega,⟨s,rfl,by omega⟩,rfl⟩
 have sh:=AE b l hb 3 (by omega) q [] _ (dD.of []) (by simp) (by simp) (by simp[la];omega)
 have ty:=JC b l hb q (by omega)
 have kw:=w6 b l hb q (by omega)
 simp only[↓zq,zs,ae,aN,hb.has]
 refine⟨fun _=>?_,fun _=>⟨fun _=>?_,fun _=>⟨fun _=>?_,fun _=>⟨fun _=>?_,fun _=>?_⟩⟩⟩⟩
 ·refine aT ty (dO.ne ⟨[],rfl,by simp⟩) ?_
  intro r o hr
  obtain⟨q',s,rfl,rfl,hd⟩:=kn _ _ r o (by omega) (by omega) hr
  simp only[↓zq,zs,ae,aN,hb.has];exact hd
 ·refine aT sh (dO.ne ⟨[],rfl,by simp⟩) ?_
  intro r o hr
  obtain⟨q',s,rfl,rfl,hd⟩:=kn _ _ r o (by simp[la]) (by simp[k8]) hr
  simp only[↓zq,zs,ae,aN,hb.has];exact hd
 ·refine aT sh (dO.ne ⟨[],rfl,by simp⟩) ?_
  intro r o hr
  obtain⟨q',s,rfl,rfl,hd⟩:=kn _ _ r o (by simp[la]) (by simp[k8]) hr
  simp only[↓zq,zs,ae,aN,hb.has];exact hd
 ·refine aT sh (dO.ne ⟨[],rfl,by simp⟩) ?_
  intro r o hr
  obtain⟨q',s,rfl,rfl,hd⟩:=kn _ _ r o (by simp[la]) (by simp[k8]) hr
  simp only[↓zq,zs,ae,aN,hb.has];exact hd
 ·refine aT kw (dO.ne ⟨[],rfl,by simp⟩) ?_
  intro r o hr
  obtain⟨q',s,rfl,rfl,hd⟩:=kn _ _ r o (by omega) (by omega) hr
  simp only[↓zq,zs,ae,aN,hb.has];exact hd
def Bu:AV->Prop:=fun r=>∃s t:Nm,r=.cV [.v (.string (mk s)),.v (.string (mk t))]
theorem JR(b:AV)(l:List UInt8)(hb:pA b l)(p:Nat)(hp:p<10000000000000):ap Tryz.prog 14 [.ref 0 0] [.cells [b,.v (.int .i64 (p:Int))]] (dO b p 50000000000 Bu):=by
 refine IQ _ _ hb.has ?_
 unfold GI
 refine aT (IE b l hb p (by omega)) (dO.ne ⟨[],rfl,by simp⟩) ?_
 rintro r o ⟨q,h1,h2,⟨s,rfl,_⟩,rfl⟩
 simp only[↓zq,zs,ae,aN,hb.has]
 refine aT (DH b l hb q (by omega) s) (dO.ne ⟨[],rfl,by simp⟩) ?_
 rintro r o ⟨q1,g1,g2,⟨t,rfl,_⟩,rfl⟩
 simp only[↓zq,zs,ae,aN,hb.has]
 exact⟨q1,by omega,by omega,⟨s,t,rfl⟩,rfl⟩
theorem JU(b:AV)(l:List UInt8)(hb:pA b l)(p:Nat)(hp:p<1000000000000):ap Tryz.prog 8 [.ref 0 0] [.cells [b,.v (.int .i64 (p:Int))]] (dO b p 60000000000 Bu):=by
 refine I5 _ _ hb.has ?_
 unfold Gg
 have hfar:nS=1000000000000000:=rfl
 refine aT (w6 b l hb p (by omega)) (dO.ne ⟨[],rfl,by simp⟩) ?_
 rintro r o ⟨q,h1,h2,⟨s,rfl,_⟩,rfl⟩
 simp only[↓zq,zs,ae,aN,hb.has]
 refine aT (tX b l hb q 12 (by omega) (by decide)) (dO.ne ⟨0,rfl,fun h=>by omega,by omega⟩) ?_
 rintro r o ⟨q1,g1,g2,⟨k,rfl,_,_⟩,rfl⟩
 simp only[↓zq,zs,ae,aN,hb.has]
 refine⟨fun _=>?_,fun _=>?_⟩
 ·refine aT (JR b l hb q1 (by omega)) (dO.ne ⟨[],[],rfl⟩) ?_
  rintro r o ⟨q2,e1,e2,⟨x,y,rfl⟩,rfl⟩
  simp only[↓zq,zs,ae,zt,aN,hb.has]
  exact⟨q2,by omega,by omega,⟨x,y,rfl⟩,rfl⟩
 ·refine aT (DH b l hb q1 (by omega) s) (dO.ne ⟨[],rfl,by simp⟩) ?_
  rintro r o ⟨q2,e1,e2,⟨t,rfl,_⟩,rfl⟩
  simp only[↓zq,zs,ae,aN,hb.has]
  exact⟨q2,by omega,by omega,⟨s,t,rfl⟩,rfl⟩
end Go.Proofs.Trees
namespace Go.Proofs.Trees
open Go Go.VL Go.RowKit
theorem uy:∀(l:List Pt) (d:Nat),d<=deep l d/\∀p,p∈l->p.2.length<=deep l d
 |[],d=>⟨au _,fun p h=>(by cases h)⟩
 |
  q::l,d=>by
  obtain⟨h1,h2⟩:=uy l (if q.2.length>d then q.2.length else d)
  rw[deep]
  have h3:d<=(if q.2.length>d then q.2.length else d)/\q.2.length<=(if q.2.length>d then q.2.length else d):=by split<;>omega
  refine⟨by omega,fun p hp=>?_⟩
  rcases aF.1 hp with rfl|hp
  ·omega
  ·exact h2 p hp
theorem uc:∀(l:List Pt) (d:Nat),deep l d=d\/∃p,p∈l/\p.2.length=deep l d
 |[],d=>.inl rfl
 |
  q::l,d=>by
  rw[deep]
  rcases uc l (if q.2.length>d then q.2.length else d)with h|⟨p,h1,h2⟩
  ·by_cases hq:q.2.length>d
   ·rw[if_pos hq]at h |-
    exact .inr ⟨q,af,h.symm⟩
   ·rw[if_neg hq]at h |-
    exact .inl h
  ·exact .inr ⟨p,aj _ h1,h2⟩
theorem rQ{s v:Nm}{l:List Pt}(h:dp s v=some l):∃w l',nL s v=some w/\l=(w,[])::l':=by
 unfold dp at h
 split at h
 ·rename_i a w h1 h2
  have hp:∃l',parts a w=(w,[])::l':=by
   unfold parts
   obtain⟨n,hn⟩:∃n,w.nodes=n+1:=⟨w.nodes-1,by have:=cZ w;omega⟩
   rw[hn,fj]
   exact⟨_,rfl⟩
  obtain⟨l',hl'⟩:=hp
  split at h
  ·cases h;exact⟨w,l',h2,hl'⟩
  ·cases h
 ·cases h
theorem wg{s v:Nm}{l:List Pt}(h:dp s v=some l):∃p,p∈l/\p.2.length=deep l 0:=by
 obtain⟨w,l',_,rfl⟩:=rQ h
 rcases uc ((w,[])::l') 0 with h1|h1
 ·exact⟨_,af,h1.symm⟩
 ·exact h1
def tq(d:Nat)(l:List Pt):Bool:=l.any fun p=>decide (p.2.length=d)
theorem qN{l:List Pt}{i:Nat}(hi:i<l.length):(ew lF l).getD i []=[lF (l[i]).2]:=by simp[ew,aa,hi]
theorem BB(d:Nat)(l:List Pt)(hl:l.length<=1000)(hle:∀p,p∈l->p.2.length<=d)(p:Bool):∀(k i:Nat) (b:Bool),i+k=l.length->b=tq d (l.take i) ->
 CI [.v (.int .i64 (d:Int)),.sl (ew lF l),.v (.bool p),.v (.bool b),.v (.int .i64 (i:Int))] [] (fI 1 [.v (.bool p),.v (.bool (tq d l))] [])
 |
  0,i,b,hi,hb=>by
  have:i=l.length:=by omega
  subst this
  refine GU _ _ _ _ _ ?_
  simp only[An,↓zq,zs,ae,jD]
  rw[List.take_length]at hb
  exact⟨fun h=>by omega,fun _=>⟨rfl,by rw[hb],rfl⟩⟩
 |
  k+1,i,b,hi,hb=>by
  have hlt:i<l.length:=by omega
  have hd:=hle _ (cy hlt)
  have step:tq d (l.take (i+1))=(b||decide ((l[i]).2.length=d)):=by
   rw[hb];unfold tq
   rw[List.take_succ_eq_append_getElem hlt,List.any_append]
   simp only[List.any_cons,List.any_nil,Bool.or_false]
  refine GU _ _ _ _ _ ?_
  simp only[An,↓zq,zs,ae,zt,jD,qN hlt,iW,ri,io,cc]
  rw[bk i (by omega)]
  refine⟨fun _=>?_,fun h=>by omega⟩
  repeat refine⟨by omega,?_⟩
  refine fun _=>⟨fun hbt=>?_,fun hbf=>?_⟩
  ·exact BB d l hl hle p k (i+1) true (by omega) (by rw[step,hbt];rfl)
  ·repeat refine⟨by omega,?_⟩
   refine BB d l hl hle p k (i+1) _ (by omega) ?_
   rw[step,hbf,bV]
   simp
   omega
theorem Iy(a:AV)(ha:uq a):ap Tryz.prog 4 [a] [] (fun r o=>o=[]/\Bu r):=by
 refine J4 _ ha.1 ?_
 unfold Fb
 refine aT (Kz a ha) Ij.ne ?_
 rintro r o ⟨b,l,hb,rfl,rfl⟩
 simp only[↓zq,zs,ae,zt,hb.has]
 refine⟨by simp[bJ,hb.has,qE],aT (JU b l hb 0 (by omega)) (dO.ne ⟨[],[],rfl⟩) ?_⟩
 rintro r o ⟨q,_,_,⟨s,t,rfl⟩,rfl⟩
 simp only[↓zq,zs,ae,zt,aN,hb.has]
 first|exact⟨rfl,s,t,rfl⟩|exact⟨s,t,rfl⟩|exact⟨trivial,s,t,rfl⟩
theorem JH(a:AV)(ha:uq a):ap Tryz.prog 3 [a] [] (bA (.v (.bool true))):=by
 refine IG _ ha.1 ?_
 simp only[Ff,↓zq,zs,ae,zt,bA]
 refine⟨ha.1,fun _=>trivial,fun _=>?_⟩
 refine aT (Iy a ha) ⟨_,_,rfl,[],[],rfl⟩ ?_
 rintro r o ⟨rfl,s,v,rfl⟩
 simp only[↓zq,zs,ae,zt]
 refine al (Jy s v) ?_
 simp only[↓zq,zs,ae,zt]
 refine al (Iq s v) ?_
 simp only[↓zq,zs,ae,zt]
 refine⟨fun h=>absurd rfl h,fun _=>⟨fun h=>by simp,fun h=>?_⟩⟩
 refine al (Kf s v) ?_
 cases q:dp s v with
 |none=>exact absurd (show pk s v<0 by unfold pk;rw[q];decide) h
 |
  some l =>
  have hd:pk s v=((deep l 0:Nat):Int):=by unfold pk;rw[q]
  have hl:=(jE q).1
  obtain⟨p,hp1,hp2⟩:=wg q
  rw[hd]
  simp only[xS,↓zq,zs,ae,zt]
  refine bY (BB (deep l 0) l (by omega) (uy l 0).2 true l.length 0 false (by omega) (by simp[tq])) ?_
  have hh:tq (deep l 0) l=true:=by
   unfold tq
   rw[bu]
   exact⟨p,hp1,by simp[hp2]⟩
  simp only[↓zq,zs,ae,zt,hh,bc,bm]
  simp
end Go.Proofs.Trees
