/-
  Part of a proof: Go functions read by values, trees of functions, their contracts.
-/
import Derived.Test.YtoakmmapeedenaaGreatDoorP2
import Derived.ChangeArms
import Derived.Deep.Slices
import Derived.WideKeyArgs
import Derived.ChangeSame
import Derived.OpenShut
import Derived.Shelf.Strings.Search3
set_option linter.unusedVariables false
set_option linter.unusedSimpArgs false
open And renaming intro→aA
open Bool renaming and_eq_true→ai,not_eq_true'→bx,true_and→bI
open ByteArray renaming extract→bz,size→ag,toList→ab
open List renaming all_cons→cn,drop_zero→bw,getD_cons_succ→cF,getD_cons_zero→aQ,getD_eq_getElem?_getD→aa,headD_cons→ba,length_cons→aw,length_map→bQ,length_nil→aM,mem_append_left→ao,mem_append_right→ak,tail_cons→bD
namespace Go.VL
open Go Go.RowKit Go.WideShapes Go.ChangeShapes
def nO(w:World):Mem where
 c b k:=match w.cell? ⟨b,k,none⟩with|some v=>if v.oneCell'=true then some v else none|none=>none
 one b k v h:=by
  split at h
  ·split at h
   ·cases h;assumption
   ·cases h
  ·cases h
 p _:=False
 pc b h:=h.elim
theorem sf(w:World):fL (nO w) w where
 c b k v h:=by
  simp only[nO]at h
  split at h
  ·split at h
   ·cases h;assumption
   ·cases h
  ·cases h
 p b h:=h.elim
section
variable {H:Type} {enc:TypeId×Value->H} {P:Program} {w:World} {base:Nat} {spare:Nat->Bool} {held:Bool}
theorem lu(hl:laidOutB P=true){W W':World}{sp:Nat->Bool}:∀{ts:List TypeId} {vs:List Value} {ds:List (DataW H)} {ps:List MemPlace},(ts.all fun t=>P.readableRec t&&decide (t<P.types.size))=true ->
 DataW.TrodAll enc P W 0 (fun _=>true) true ts vs ds ps->Below W.heap.size W W'->(∀p,p∈ps->p.block<W.heap.size)->(∀p,p∈ps->sp p.block=true)->DataW.TrodAll enc P W' 0 sp true ts vs ds ps
 |[],[],[],ps,_,h,_,_,_=>h
 |
  t::ts,v::vs,d::ds,ps,ht,h,hb,hlt,hs=>by
  obtain⟨p,q,h1,h2,rfl⟩:=h
  simp only[cn,ai,decide_eq_true_eq]at ht
  exact⟨p,q,WideElems.Trod_stays hl ht.1.1 ht.1.2 h1 (fun x hx=>hb.same (hlt x (ao _ hx))) (fun x hx=>hs x (ao _ hx)),
   lu hl ht.2 h2 hb (fun x hx=>hlt x (ak _ hx)) (fun x hx=>hs x (ak _ hx)),rfl⟩
 |[],[],_::_,_,_,h,_,_,_=>h.elim
 |[],_::_,_,_,_,h,_,_,_=>h.elim
 |_::_,[],_,_,_,h,_,_,_=>h.elim
 |_::_,_::_,[],_,_,h,_,_,_=>h.elim
end
theorem yJ{H:Type}{enc:TypeId×Value->H}{P:Program}{f:Func}{s:ChangeSpec}{apart fresh handsOn:Bool}{W W':World}{args:Array Value}{ds gs:List (DataW H)}{ps:List MemPlace}{t:TypeId}
 (hW:DataW.Whole enc P f.params.toList s.vars apart W args.toList ds gs ps) (hl:laidOutB P=true)
 (hp:(f.params.toList.all fun t=>P.readableRec t&&decide (t<P.types.size))=true) (hv:s.vars=[]) (hfn:s.fn H ds = {results:=[.lit (.bool true)],args:=ds}) (hr:f.resultTypes = #[t]) (ht:P.underlying t=some .bool) (hb:Below W.heap.size W W') :
 s.post enc P f apart fresh handsOn false W args (.bool true) W':=by
 have hlt:∀p,p∈ps->p.block<W.heap.size:=fun p hp=>hW.lt p hp
 have hW':=hW
 obtain⟨p,q,hA,hV,e,_,_⟩:=hW
 rw[hv]at hV
 obtain⟨rfl,rfl⟩:=trodVars_none hV
 rw[List.append_nil]at e
 subst e
 refine⟨ds,[],ps,[],ps,[],hW',?_,?_,?_,World.keptBut_mono (fun x hx=>⟨hx,.inr (.inl hx)⟩) (hb.frame (·∈ps)),fun h=>(by cases h)⟩
 ·rw[hr,List.append_nil,hfn]
  exact trodAll_mk1 (shut_bool ht _)
 ·rw[List.append_nil,hfn]
  exact lu hl hp hA hb hlt fun x hx=>by simpa using hlt x hx
 ·rw[List.append_nil,hfn,hv]
  rfl
theorem ay.law{P:Program}{f:Nat}{asq:List AV}{vs:List Value}{W:World}(h:ay P f asq [] (bK (.v (.bool true))))(hlen:vs.length=asq.length)(hr:∀i,i<asq.length->aW (nO W) cR (asq.getD i .any) (vs.getD i undef))(hW:pg P (nO W) W:=by trivial) :
 Calls P f vs.toArray W fun e w'=>e=.returned (.bool true)/\Below W.heap.size W w':=by
 refine Calls.mono (h.2 W (nO W) cR vs hW ⟨hlen,hr,sf W,fun j hj=>(by cases hj),fun _ _=>rfl,fun i j b _ hi=>(by cases hi)⟩) ?_
 rintro e w' ⟨v,r,obs,M',β',rfl,⟨rfl,rfl⟩,ho⟩
 have hv:=ho.rep
 cases hv
 exact⟨rfl,ho.cb.os,ho.cb.tape,ho.cb.output,ho.cb.size,fun b hb=>ho.cb.block b hb (fun⟨i,hi,_⟩=>by cases hi)⟩
end Go.VL
namespace Go.VL
open Go Go.RowKit
theorem mk_inj{l r:List UInt8}(h:mk l=mk r):l=r:=by
 have:(mk l).data.toList=(mk r).data.toList:=by rw[h]
 simpa[mk]using this
theorem cY(l:List UInt8):(mk l).size=l.length:=by simp[mk,ag]
theorem toList_mk(l:List UInt8):ab (mk l)=l:=by rw[Lib.toList_data];simp[mk]
theorem mk_data(s:ByteArray):mk s.data.toList=s:=by cases s;simp[mk]
theorem ke(l:List UInt8)(i:Nat)(h:i<l.length):bt (mk l) (i:Int)=((l.getD i 0).toNat:Int):=by
 unfold bt
 rw[dif_pos (by rw[cY];simpa using h)]
 have:(mk l)[(i:Int).toNat]'(by rw[cY];simpa using h)=l[i]:=by
  show (mk l).data[i]'_=_
  simp[mk]
 rw[this];simp[aa,h]
theorem extract_mk(l:List UInt8)(a b:Nat):bz (mk l) a b=mk ((l.take b).drop a):=by
 have:(bz (mk l) a b).data.toList=(l.take b).drop a:=by
  rw[ByteArray.data_extract]
  simp[mk,List.extract_eq_take_drop,List.drop_take]
 rw[<-mk_data (bz (mk l) a b),this]
theorem k8(l r:List UInt8):(mk l:ByteArray)++mk r=mk (l++r):=by
 have:((mk l:ByteArray)++mk r).data.toList=l++r:=by
  rw[ByteArray.data_append];simp[mk]
 rw[<-mk_data (mk l++mk r),this]
theorem pB:(⟨#[]⟩:ByteArray)=mk []:=rfl
theorem ay.I2{P:Program}{f:Nat}{xs:List Value}{v:Value}(hE:Ew P f)(h:∀w,Calls P f xs.toArray w fun e w'=>e=.returned v/\Below w.heap.size w w'):ay P f (xs.map .v) [] (bK (.v v)):=by
 refine⟨hE,fun w M β vs hB hin=>?_⟩
 have hl:vs.length=xs.length:=by rw[hin.len,bQ]
 have e:vs=xs:=by
  apply List.ext_getElem hl
  intro i h1 h2
  have:=hin.rep i (by simpa using h2)
  have e1:(xs.map AV.v).getD i .any=.v xs[i]:=by simp[aa,h2]
  have e2:vs.getD i undef=vs[i]:=by simp[aa,h1]
  rw[e1,e2]at this
  exact cT this
 subst e
 refine Calls.mono (h w) fun e w' ⟨he,hb⟩=>⟨v,.v v,[],M,cR,he,⟨rfl,rfl⟩,?_⟩
 have hlt:∀b k u,M.c b k=some u->b<w.heap.size:=fun b k u hc=>hin.agree.lt hc
 exact {
  le:=Mem.le.refl _,agree:=⟨fun b k u hc=>by
   rw[<-hin.agree _ _ _ hc];exact hb.cell (p:=⟨b,k,none⟩) (hlt b k u hc),fun b hp=>by
   obtain⟨k,u,hc⟩:=M.pc b hp
   rw[hb.block b (hlt b k u hc)];exact hin.agree.p b hp⟩
  rep:=.v _ _,own:=fun j hj=>by simp at hj,same:=fun j b hj=>by simp at hj,wY:=fun j l sz es hj=>(by simp at hj),apart:=fun i j b _ hi=>by simp at hi,place:=fun j b hj=>by simp at hj
  new:=fun b k u hc=>.inl hc,cb:=⟨hb.os,hb.tape,hb.output,hb.size,fun b hlt _=>hb.block b hlt⟩}
theorem ay.H4{P:Program}{f:Nat}{xs:List Value}{v:Value}{a:AV}(hE:Ew P f)(hr:∀M,aW M cR a v)(h:∀w,Calls P f xs.toArray w fun e w'=>e=.returned v/\Below w.heap.size w w'):ay P f (xs.map .v) [] (bK a):=by
 refine⟨hE,fun w M β vs hB hin=>?_⟩
 have hl:vs.length=xs.length:=by rw[hin.len,bQ]
 have e:vs=xs:=by
  apply List.ext_getElem hl
  intro i h1 h2
  have:=hin.rep i (by simpa using h2)
  have e1:(xs.map AV.v).getD i .any=.v xs[i]:=by simp[aa,h2]
  have e2:vs.getD i undef=vs[i]:=by simp[aa,h1]
  rw[e1,e2]at this
  exact cT this
 subst e
 refine Calls.mono (h w) fun e w' ⟨he,hb⟩=>⟨v,a,[],M,cR,he,⟨rfl,rfl⟩,?_⟩
 have hlt:∀b k u,M.c b k=some u->b<w.heap.size:=fun b k u hc=>hin.agree.lt hc
 exact {
  le:=Mem.le.refl _,agree:=⟨fun b k u hc=>by
   rw[<-hin.agree _ _ _ hc];exact hb.cell (p:=⟨b,k,none⟩) (hlt b k u hc),fun b hp=>by
   obtain⟨k,u,hc⟩:=M.pc b hp
   rw[hb.block b (hlt b k u hc)];exact hin.agree.p b hp⟩
  rep:=hr M,own:=fun j hj=>by simp at hj,same:=fun j b hj=>by simp at hj,wY:=fun j l sz es hj=>(by simp at hj),apart:=fun i j b _ hi=>by simp at hi,place:=fun j b hj=>by simp at hj
  new:=fun b k u hc=>.inl hc,cb:=⟨hb.os,hb.tape,hb.output,hb.size,fun b hlt _=>hb.block b hlt⟩}
end Go.VL
namespace Go.VL
open Go Go.RowKit
theorem pg.law{P:Program}{W:World}{g:Nat}(hg:P.globalNamed wi=some g)(h:Lib.TabIs P W wi .u64 Lib.pow10Tab):pg P (nO W) W:=by
 have:=h.cell hg 0 (by rw[Lib.pow10Tab_length];omega)
 exact⟨h,g,.int .u64 (Lib.pow10Tab.getD 0 0),hg,by simp only[nO,this];rfl⟩
theorem wB{P:Program}{W:World}{x:String×DataW Unit}{l:List (String×DataW Unit)}(h:laidMet P (x::l) W):laidMet P l W:=by
 obtain⟨ps,⟨g,t,cs,fuel,p,q,_,_,_,_,hq,rfl⟩,hn,hr⟩:=h
 exact⟨q,hq,(List.nodup_append.1 hn).2.1,fun b off hb=>hr b off (ak _ hb)⟩
theorem vy{P:Program}{W:World}{x:String×DataW Unit}:∀{l:List (String×DataW Unit)} (i:Nat),laidMet P l W->l[i]?=some x->∃rest,laidMet P (x::rest) W
 |[],i,_,h=>by simp at h
 |y::l,0,hm,h=>by simp at h;subst h;exact⟨l,hm⟩
 |y::l,i+1,hm,h=>vy i (wB hm) (by simpa using h)
theorem pg.laid{P:Program}{W:World}{l:List (String×DataW Unit)}{g:Nat}{t e:TypeId}{n:Nat}(i:Nat)(hg:P.globalNamed wi=some g)(hty:(P.globals[g]?).map (·.type)=some t)(ht:P.underlying t=some (.array n e))(he:P.underlying e=some (.int .u64))(hce:P.cellsOf e=1)(hct:P.cellsOf t=n)
 (hi:l[i]?=some (wi,Lib.tabData .u64 Lib.pow10Tab)) (h:laidMet P l W):pg P (nO W) W:=by
 obtain⟨rest,h⟩:=vy i h hi
 exact pg.law hg (Lib.tabIs_of_head hg hty ht he hce hct h)
end Go.VL
set_option linter.defProp false
namespace Go.VL
open Go
def zp:=aA @yY (aA @zX (aA @zC (aA @yt (aA @yV (aA @zr (aA @CS (@CU)))))))
def zs:=aA @BI (aA @DB (aA @step1 (aA @step2 (aA @uS (aA @wX (aA @dU (aA @cG (aA @bF (aA @fK (aA @j1 (aA @true_and (aA @and_true (aA @ba.{0} (aA @bD.{0} (aA @zx (aA @re (aA @xU (aA @w5 (aA @fR (aA @vK (aA @im (aA @ny (aA @ik (aA @xI (aA @xl (aA @yu (aA @aQ.{0} (aA @cF.{0} (aA @bw.{0} (aA @List.drop_succ_cons.{0} (aA @decide_eq_true_eq (aA @decide_eq_false_iff_not (aA @bne_iff_ne.{0} (aA @bne_eq_false_iff_eq.{0} (aA @beq_iff_eq.{0} (aA @beq_eq_false_iff_ne.{0} (aA @bx (aA @Bool.not_eq_false' (aA @aw.{0} (@aM.{0}))))))))))))))))))))))))))))))))))))))))
def zt:=aA @cY (aA @toList_mk (aA @extract_mk (aA @pB (aA @k8 (aA @Int.toNat_natCast (aA @List.take_length.{0} (aA @bw.{0} (@Int.toNat_zero))))))))
def zf:=aA @Bool.false_and (aA @Bool.and_false (aA @Bool.false_eq_true (aA @if_false.{1} (aA @bI (aA @Bool.and_true (aA @Bool.and_self (aA @Bool.true_or (aA @Bool.false_or (aA @Bool.or_true (aA @Bool.or_false (aA @decide_true (aA @decide_false (aA @not_true_eq_false (aA @not_false_eq_true (aA @if_true.{1} (aA @Bool.not_true (aA @Bool.not_false (@eq_self_iff_true.{1}))))))))))))))))))
end Go.VL
