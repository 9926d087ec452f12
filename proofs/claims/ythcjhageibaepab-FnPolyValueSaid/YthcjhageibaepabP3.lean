/-
  Part of a proof: Go functions read by values, trees of functions, their contracts.
-/
import Derived.Test.YthcjhageibaepabP2
import Derived.ChangeArms
import Derived.Deep.Slices
import Derived.WideKeyArgs
import Derived.ChangeSame
import Derived.OpenShut
import Derived.Shelf.Strings.Search3
import Derived.Test.YthcjhageibaepabProg
set_option linter.unusedVariables false
set_option linter.unusedSimpArgs false
open And renaming intro→an
open Bool renaming and_eq_true→ag,and_self→c0,false_eq_true→cx,not_eq_true'→aY,or_assoc→cf,true_and→bF
open ByteArray renaming extract→cI,size→aj,toList→au
open Int renaming tmod→cr,toNat→aP,toNat_natCast→aM
open List renaming all_cons→dC,any_eq_true→bj,drop_eq_getElem_cons→bX,drop_eq_nil_of_le→bC,drop_zero→cT,getD_cons_zero→a7,getD_eq_getElem?_getD→aa,getElem?_drop→br,getElem?_eq_getElem→bE,getElem?_map→dc,getElem?_range→bT,getElem?_take→cW,getElem_of_mem→cL,headD_cons→aV,length→dW,length_append→ax,length_cons→aB,length_drop→bc,length_map→aN,length_nil→aL,map→dp,mem_append→a8,mem_append_left→ak,mem_append_right→ah,mem_cons→az,mem_cons_of_mem→af,mem_cons_self→ae,mem_map→bf,mem_singleton→cy,range→aK,tail_cons→bS
open Nat renaming add_assoc→dB,add_mul→dn,beq→aq,le_refl→aF,mod_lt→cX
open Option renaming map_some→bI
namespace Go.VL
open Go Go.RowKit Go.WideShapes Go.ChangeShapes
def iV(w:World):Mem where
 c b k:=match w.cell? ⟨b,k,none⟩with|some v=>if v.oneCell'=true then some v else none|none=>none
 one b k v h:=by
  split at h
  ·split at h
   ·cases h;assumption
   ·cases h
  ·cases h
 p _:=False
 pc b h:=h.elim
theorem nj(w:World):ep (iV w) w where
 c b k v h:=by
  simp only[iV]at h
  split at h
  ·split at h
   ·cases h;assumption
   ·cases h
  ·cases h
 p b h:=h.elim
theorem rF{w:World}{b k:Nat}{v:Value}(h:w.cell? ⟨b,k,none⟩=some v)(ho:v.oneCell'=true):(iV w).c b k=some v:=by
 simp only[iV,h,ho,if_true]
def iG:LK->Value->Prop
 | .int k,v=>∃n,v=.int k n/\(Lit.int k n).wf=true
 | .bool,v=>∃b,v=.bool b
 | .str,v=>∃s,v=.string s/\s.size<=maxLen
 |_,_=>False
theorem n6{k:LK}{v:Value}(h:iG k v):v.oneCell'=true:=by
 cases k<;>first|exact h.elim|skip
 ·obtain⟨n,rfl,_⟩:=h;rfl
 ·obtain⟨n,rfl⟩:=h;rfl
 ·obtain⟨n,rfl,_⟩:=h;rfl
def mq(f:TypeId->Option (List LK))(P:Program):List Field->Nat->Option (List LK)
 |[],_=>some []
 |fd::r,off=>if fd.offset=off then match f fd.type,mq f P r (off+P.cellsOf fd.type)with
  |some ks,some ks'=>if ks.length=P.cellsOf fd.type then some (ks++ks')else none
  |_,_=>none else none
def rM(P:Program):Nat->TypeId->Option (List LK)
 |0,_=>none
 |
  n+1,t=>match P.underlying t with
  |some (.int k)=>some [.int k]
  |some .bool=>some [.bool]
  |some .string=>some [.str]
  |
   some (.struct fs)=>match mq (rM P n) P fs.toList 0 with
   |some ks=>if ks.length=P.cellsOf t then some ks else none
   |none=>none
  |_=>none
section
variable {H:Type} {enc:TypeId×Value->H} {P:Program} {w:World} {base:Nat} {spare:Nat->Bool} {held:Bool}
theorem lQ{f:TypeId->Option (List LK)}{m:Nat}{cs:List Value}
 (hf:∀t ks cs' x,f t=some ks->DataW.trod enc P w base spare held m t cs'=some x->cs'.length=ks.length/\∀i,i<ks.length->iG (ks.getD i .oth) (cs'.getD i undef)) :
 ∀(fs:List Field) (off:Nat) (ks:List LK),mq f P fs off=some ks->(∀fd,fd∈fs->∃x,DataW.trod enc P w base spare held m fd.type ((cs.drop fd.offset).take (P.cellsOf fd.type))=some x)->∀i,i<ks.length->iG (ks.getD i .oth) (cs.getD (off+i) undef)
 |[],off,ks,h,hx,i,hi=>by cases h;simp at hi
 |
  fd::r,off,ks,h,hx,i,hi=>by
  unfold mq at h
  split at h
  ·rename_i ho
   split at h
   ·rename_i ks1 ks2 h1 h2
    split at h
    ·rename_i hl
     cases h
     obtain⟨x,hx1⟩:=hx fd ae
     obtain⟨q1,q2⟩:=hf _ _ _ _ h1 hx1
     by_cases hi':i<ks1.length
     ·have:=q2 i hi'
      have e1:(ks1++ks2).getD i .oth=ks1.getD i .oth:=by simp[aa,List.getElem?_append_left hi']
      have e2:((cs.drop fd.offset).take (P.cellsOf fd.type)).getD i undef=cs.getD (off+i) undef:=by
       simp[aa,cW,br,ho,show i<P.cellsOf fd.type by omega]
      rw[e1,<-e2];exact this
     ·have:=lQ hf r _ _ h2 (fun g hg=>hx g (af _ hg)) (i-ks1.length) (by simp at hi;omega)
      have e1:(ks1++ks2).getD i .oth=ks2.getD (i-ks1.length) .oth:=by simp[aa,List.getElem?_append_right (show ks1.length<=i by omega)]
      rw[e1]
      rw[show off+P.cellsOf fd.type+(i-ks1.length)=off+i by omega]at this
      exact this
    ·cases h
   ·cases h
  ·cases h
theorem pa:∀(n:Nat) (t:TypeId) (ks:List LK) {m:Nat} {cs:List Value} {x:DataW H×List MemPlace},rM P n t=some ks->DataW.trod enc P w base spare held m t cs=some x->cs.length=ks.length/\∀i,i<ks.length->iG (ks.getD i .oth) (cs.getD i undef)
 |0,t,ks,m,cs,x,h,hx=>by cases h
 |
  n+1,t,ks,m,cs,x,h,hx=>by
  unfold rM at h
  split at h
  ·rename_i k hu
   cases h
   obtain⟨z,rfl,_,hw⟩:=DataW.trod_int hu hx
   refine⟨rfl,fun i hi=>?_⟩
   have:i=0:=by simpa using hi
   subst this
   exact⟨z,rfl,hw⟩
  ·rename_i hu
   cases h
   obtain⟨z,rfl,_⟩:=DataW.trod_bool hu hx
   refine⟨rfl,fun i hi=>?_⟩
   have:i=0:=by simpa using hi
   subst this
   exact⟨z,rfl⟩
  ·rename_i hu
   cases h
   obtain⟨z,rfl,_,hw⟩:=DataW.trod_string hu hx
   refine⟨rfl,fun i hi=>?_⟩
   have:i=0:=by simpa using hi
   subst this
   exact⟨z,rfl,hw⟩
  ·rename_i fs hu
   split at h
   ·rename_i ks' hs
    split at h
    ·rename_i hl
     cases h
     obtain⟨xs,m',rfl,_,h1,h2,h3⟩:=DataW.trod_struct hu hx
     refine⟨by omega,fun i hi=>?_⟩
     have:=lQ (m:=m') (cs:=cs) (fun t ks cs' x h1 h2=>pa n t ks h1 h2) fs.toList 0 ks hs (fun fd hfd=>by
      obtain⟨j,hj,e⟩:=cL hfd
      have hj':j<fs.size:=by simpa using hj
      have e':fs[j]?=some fd:=by simp[hj',<-e]
      have h4:=h3 j fd e'
      rw[bE (by omega)]at h4
      exact⟨_,h4⟩) i hi
     simpa using this
    ·cases h
   ·cases h
  ·cases h
theorem pP{r:Reach}{b0:Nat}{t e:TypeId}{n:Nat}{ks:List LK}{v:Value}{d:DataW H}{ps:List MemPlace}(ht:P.underlying t=some (.slice e))(hs:rM P n e=some ks)(hc:P.cellsOf e=ks.length)
 (hval:Value.okWide P w r b0 t v) (hd:DataW.Trod enc P w base (fun _=>true) held t v d ps) :
 ∃a,aR (iV w) cd a v/\(a=.v (.slice none 0 0)\/∃es,a=.sl es/\es.length<=maxLen/\∀c,c∈es->c.length=ks.length/\∀i,i<ks.length->∃x,c.getD i .any=.v x/\iG (ks.getD i .oth) x):=by
 obtain⟨m,hd⟩:=hd
 rcases Deep.open_slice ht hd with⟨h,_⟩|⟨a,len,cap,m',n',D,Pl,h,hb,hl,hm,hmm,hx',hx⟩
 ·have:v=.slice none 0 0:=by
   cases v<;>first|(simp[Value.okWide,ht,Cell.okWide,Cell.ok]at hval;done)|simpa[Value.cells]using h
  subst this
  exact⟨_,.v _ _,.inl rfl⟩
 ·have hv:v=.slice (some a) len cap:=by
   cases v<;>first|(simp[Value.okWide,ht,Cell.okWide,Cell.ok]at hval;done)|simpa[Value.cells]using h
  subst hv
  have hspot:a.spot=none:=by
   simp only[Value.okWide,ht,Cell.okWide,Cell.ok]at hval
   exact hval.2.2.2.1
  obtain⟨ab,ao,asp⟩:=a
  simp only at hspot
  subst hspot
  simp only[if_true]at hmm
  have hadd:∀o i,(Addr.add ⟨ab,o,none⟩ i)=⟨ab,o+i,none⟩:=fun o i=>by unfold Addr.add;split<;>simp_all
  let us:Nat->Value:=fun j=>(w.cell? ⟨ab,ao+j,none⟩).getD undef
  have key:∀i,i<len->∀j,j<ks.length->w.cell? ⟨ab,ao+(i*ks.length+j),none⟩=some (us (i*ks.length+j))/\iG (ks.getD j .oth) (us (i*ks.length+j)):=fun i hi j hj=>by
   obtain⟨cs',h1,h2⟩:=hx i (by omega)
   obtain⟨q1,q2⟩:=pa n e ks hs h2
   obtain⟨_,q3,q4⟩:=World.cells?_some h1
   have q5:=q4 j (by omega)
   rw[hc,hadd,hadd,bE (by omega)]at q5
   have e0:ao+i*ks.length+j=ao+(i*ks.length+j):=by omega
   rw[e0]at q5
   have e1:us (i*ks.length+j)=cs'.getD j undef:=by simp[us,q5,aa,show j<cs'.length by omega]
   refine⟨by rw[e1,q5];simp[aa,show j<cs'.length by omega],by rw[e1];exact q2 j hj⟩
  let es:List (List AV):=(aK len).map fun i=>(aK ks.length).map fun j=>.v (us (i*ks.length+j))
  have hel:es.length=len:=by simp[es]
  have hg:∀i,i<len->es.getD i []=(aK ks.length).map fun j=>.v (us (i*ks.length+j)):=fun i hi=>by
   simp[es,aa,hi]
  refine⟨.sl es,?_,.inr ⟨es,rfl,by omega,fun c hcm=>?_⟩⟩
  ·have:=aR.sl (M:=iV w) cd es ab ao cap ks.length us (by omega) (fun i hi=>by rw[hg i (by omega)];simp) (fun i hi=>by
    rw[hel]at hi
    have hk:0<ks.length:=by
     rcases Nat.eq_zero_or_pos ks.length with h|h
     ·rw[h]at hi;omega
     ·exact h
    have h1:i/ks.length<len:=Nat.div_lt_of_lt_mul (by rw[Nat.mul_comm];exact hi)
    have h2:=cX i hk
    have e0:i/ks.length*ks.length+i%ks.length=i:=by rw[Nat.mul_comm];exact Nat.div_add_mod i _
    have:=key _ h1 _ h2
    rw[e0]at this
    exact rF this.1 (n6 this.2)) (fun i j hi hj=>by
    rw[hg i (by omega)]
    simp only[aa,dc,bT hj,bI,Option.getD_some]
    exact .v _ _)
   rw[hel]at this
   exact this
  ·obtain⟨i,hi,rfl⟩:=bf.1 hcm
   have hi:=List.mem_range.1 hi
   refine⟨by simp,fun j hj=>⟨us (i*ks.length+j),by simp[aa,hj],(key i hi j hj).2⟩⟩
theorem im(hl:laidOutB P=true){W W':World}{sp:Nat->Bool}:∀{ts:List TypeId} {vs:List Value} {ds:List (DataW H)} {ps:List MemPlace},(ts.all fun t=>P.readableRec t&&decide (t<P.types.size))=true ->
 DataW.TrodAll enc P W 0 (fun _=>true) true ts vs ds ps->Below W.heap.size W W'->(∀p,p∈ps->p.block<W.heap.size)->(∀p,p∈ps->sp p.block=true)->DataW.TrodAll enc P W' 0 sp true ts vs ds ps
 |[],[],[],ps,_,h,_,_,_=>h
 |
  t::ts,v::vs,d::ds,ps,ht,h,hb,hlt,hs=>by
  obtain⟨p,q,h1,h2,rfl⟩:=h
  simp only[dC,ag,decide_eq_true_eq]at ht
  exact⟨p,q,WideElems.Trod_stays hl ht.1.1 ht.1.2 h1 (fun x hx=>hb.same (hlt x (ak _ hx))) (fun x hx=>hs x (ak _ hx)),
   im hl ht.2 h2 hb (fun x hx=>hlt x (ah _ hx)) (fun x hx=>hs x (ah _ hx)),rfl⟩
 |[],[],_::_,_,_,h,_,_,_=>h.elim
 |[],_::_,_,_,_,h,_,_,_=>h.elim
 |_::_,[],_,_,_,h,_,_,_=>h.elim
 |_::_,_::_,[],_,_,h,_,_,_=>h.elim
end
theorem p7{H:Type}{enc:TypeId×Value->H}{P:Program}{f:Func}{s:ChangeSpec}{apart fresh handsOn:Bool}{W W':World}{args:Array Value}{ds gs:List (DataW H)}{ps:List MemPlace}{t:TypeId}
 (hW:DataW.Whole enc P f.params.toList s.vars apart W args.toList ds gs ps) (hl:laidOutB P=true)
 (hp:(f.params.toList.all fun t=>P.readableRec t&&decide (t<P.types.size))=true) (hv:s.vars=[]) (hfn:s.fn H ds = {results:=[.lit (.bool true)],args:=ds}) (hr:f.resultTypes = #[t]) (ht:P.underlying t=some .bool) (hb:Below W.heap.size W W') :
 s.post enc P f apart fresh handsOn false W args (.bool true) W':=by
 have hlt:∀p,p∈ps->p.block<W.heap.size:=fun p hp=>hW.lt p hp
 have hW':=hW
 obtain⟨p,q,hA,hV,e,_,_⟩:=hW
 rw[hv]at hV
 obtain⟨rfl,rfl⟩:=trodVars_none hV
 rw[List.append_nil]at e
 subst e
 refine⟨ds,[],ps,[],ps,[],hW',?_,?_,?_,World.keptBut_mono (fun x hx=>⟨hx,.inr (.inl hx)⟩) (hb.frame (·∈ps)),fun h=>(by cases h)⟩
 ·rw[hr,List.append_nil,hfn]
  exact trodAll_mk1 (shut_bool ht _)
 ·rw[List.append_nil,hfn]
  exact im hl hp hA hb hlt fun x hx=>by simpa using hlt x hx
 ·rw[List.append_nil,hfn,hv]
  rfl
theorem aI.law{P:Program}{f:Nat}{asq:List AV}{vs:List Value}{W:World}(h:aI P f asq [] (dL (.v (.bool true))))(hlen:vs.length=asq.length)(hr:∀i,i<asq.length->aR (iV W) cd (asq.getD i .any) (vs.getD i undef))(hW:sG P (iV W) W:=by trivial) :
 Calls P f vs.toArray W fun e w'=>e=.returned (.bool true)/\Below W.heap.size W w':=by
 refine Calls.mono (h.2 W (iV W) cd vs hW ⟨hlen,hr,nj W,fun j hj=>(by cases hj),fun _ _=>rfl,fun i j b _ hi=>(by cases hi)⟩) ?_
 rintro e w' ⟨v,r,obs,M',β',rfl,⟨rfl,rfl⟩,ho⟩
 have hv:=ho.rep
 cases hv
 exact⟨rfl,ho.bu.os,ho.bu.tape,ho.bu.output,ho.bu.size,fun b hb=>ho.bu.block b hb (fun⟨i,hi,_⟩=>by cases hi)⟩
end Go.VL
namespace Go.VL
open Go Go.RowKit
theorem jY(l:List UInt8):(mk l).size=l.length:=by simp[mk,aj]
theorem toList_mk(l:List UInt8):au (mk l)=l:=by rw[Lib.toList_data];simp[mk]
theorem mk_data(s:ByteArray):mk s.data.toList=s:=by cases s;simp[mk]
theorem nk(l:List UInt8)(i:Nat)(h:i<l.length):bt (mk l) (i:Int)=((l.getD i 0).toNat:Int):=by
 unfold bt
 rw[dif_pos (by rw[jY];simpa using h)]
 have:(mk l)[(i:Int).toNat]'(by rw[jY];simpa using h)=l[i]:=by
  show (mk l).data[i]'_=_
  simp[mk]
 rw[this];simp[aa,h]
theorem extract_mk(l:List UInt8)(a b:Nat):cI (mk l) a b=mk ((l.take b).drop a):=by
 have:(cI (mk l) a b).data.toList=(l.take b).drop a:=by
  rw[ByteArray.data_extract]
  simp[mk,List.extract_eq_take_drop,List.drop_take]
 rw[<-mk_data (cI (mk l) a b),this]
theorem pH(l r:List UInt8):(mk l:ByteArray)++mk r=mk (l++r):=by
 have:((mk l:ByteArray)++mk r).data.toList=l++r:=by
  rw[ByteArray.data_append];simp[mk]
 rw[<-mk_data (mk l++mk r),this]
theorem uH:(⟨#[]⟩:ByteArray)=mk []:=rfl
end Go.VL
set_option linter.defProp false
namespace Go.VL
open Go
def zp:=an @rp (an @sh (an @sn (an @qy (an @rz (an @rV (an @qH (@uP)))))))
def zs:=an @ue (an @wh (an @step1 (an @step2 (an @j1 (an @kA (an @mn (an @dm (an @bx (an @sw (an @sx (an @true_and (an @and_true (an @aV.{0} (an @bS.{0} (an @sC (an @rX (an @qL (an @qh (an @mH (an @po (an @pR (an @pT (an @pI (an @qG (an @qj (an @tD (an @a7.{0} (an @List.getD_cons_succ.{0} (an @cT.{0} (an @List.drop_succ_cons.{0} (an @decide_eq_true_eq (an @decide_eq_false_iff_not (an @bne_iff_ne.{0} (an @bne_eq_false_iff_eq.{0} (an @beq_iff_eq.{0} (an @beq_eq_false_iff_ne.{0} (an @aY (an @Bool.not_eq_false' (an @aB.{0} (@aL.{0}))))))))))))))))))))))))))))))))))))))))
def zt:=an @jY (an @toList_mk (an @extract_mk (an @uH (an @pH (an @aM (an @List.take_length.{0} (an @cT.{0} (@Int.toNat_zero))))))))
def zf:=an @Bool.false_and (an @Bool.and_false (an @cx (an @if_false.{1} (an @bF (an @Bool.and_true (an @c0 (an @Bool.true_or (an @Bool.false_or (an @Bool.or_true (an @Bool.or_false (an @decide_true (an @decide_false (an @not_true_eq_false (an @not_false_eq_true (an @if_true.{1} (an @Bool.not_true (an @Bool.not_false (@eq_self_iff_true.{1}))))))))))))))))))
end Go.VL
namespace Go.Proofs.Trees
open Go Go.VL
noncomputable section
def wG:List (Nat×TI):=[
 (0,⟨false,[],false,0,.tuple [],false⟩),
 (3,⟨true,[.int .i64],false,8,.num .i64,false⟩),
 (4,⟨true,[.bool],false,1,.bl,false⟩),
 (5,⟨true,[.int .u8],false,1,.num .u8,false⟩),
 (9,⟨true,[.str],false,16,.str,false⟩),
 (22,⟨true,[.sl],false,24,.slice 5,false⟩),
 (23,⟨true,[.sl],false,24,.slice 36,false⟩),
 (24,⟨false,[],false,0,.tuple [23,3,3,3],false⟩),
 (26,⟨false,[],false,0,.tuple [3,4],false⟩),
 (29,⟨true,[.ptr],false,8,.pt,true⟩),
 (34,⟨true,[.int .i64,.int .i64,.int .i64],true,24,.array 3 3,false⟩),
 (36,⟨true,[.int .i64,.int .i64,.int .i64,.int .i64],true,32,.struct [(0,3),(1,3),(2,3),(3,3)],true⟩),
 (40,⟨true,[.sl,.int .i64],true,32,.struct [(0,22),(1,3)],false⟩),
 (41,⟨false,[],false,0,.tuple [23,4],false⟩),
 (45,⟨true,[.sl],false,24,.slice 3,false⟩),
 (47,⟨true,[.sl],false,24,.slice 49,false⟩),
 (49,⟨true,[.str,.sl],true,40,.struct [(0,9),(1,47)],false⟩),
 (50,⟨false,[],false,0,.tuple [49,4],false⟩),
 (54,⟨true,[.sl],false,24,.slice 9,false⟩),
 (65,⟨false,[],false,0,.tuple [49,3],false⟩)]
def xQ(t:Nat):TI:=ov wG t
def yi:List (Nat×FC):=[(9,{mu:=[(0,.one (.obj [.lk .sl,.lk (.int .i64)]))],own:=[]}),(20,{mu:=[(0,.one (.obj [.lk .sl,.lk (.int .i64)]))],own:=[]}),(7,{mu:=[],own:=[0],ow:=[.sl,.int .i64]}),(30,{mu:=[(0,.one (.obj [.lk .sl,.lk (.int .i64)]))],own:=[]}),(29,{mu:=[(0,.one (.obj [.lk .sl,.lk (.int .i64)]))],own:=[]}),(21,{mu:=[(0,.one (.obj [.lk .sl,.lk (.int .i64)]))],own:=[]}),(15,{mu:=[(0,.one (.obj [.lk .sl,.lk (.int .i64)]))],own:=[]}),(8,{mu:=[(0,.one (.obj [.lk .sl,.lk (.int .i64)]))],own:=[0]}),(35,{mu:=[],own:=[0]}),(27,{mu:=[],own:=[0]}),(19,{mu:=[],own:=[0]}),(14,{mu:=[],own:=[0]})]
def cfg(f:Nat):FC:=qR yi f
theorem sf:(wG.all fun p=>!p.2.kn||p.2.xI Try.prog p.1)=true:=by kernel_rfl
theorem nQ:bz Try.prog xQ:=np sf
theorem mixed:Try.prog.follows .mixedOrders=true:=by kernel_rfl
abbrev NZ(r:AV)(k:Tree):Tree:=.aw (LK.has .ptr r/\r.isNil=false) k
abbrev NP(r:AV)(k:Tree):Tree:=.aw (LK.has .ptr r) k
abbrev NS(r:AV)(k:Tree):Tree:=.aw (LK.has .str r) k
abbrev NB(r:AV)(k:Tree):Tree:=.aw (LK.has .bool r) k
abbrev NL(r:AV)(k:Tree):Tree:=.aw (LK.has .sl r) k
abbrev NI(r:AV)(k:Tree):Tree:=.aw (LK.has (.int .i64) r) k
abbrev Aj(l:List AV)(k:Tree):Tree:=.aw (LK.has .ptr (l.headD .any)/\1<=l.length) k
abbrev uR(l:List AV)(k:Tree):Tree:=.aw (LK.has .str (l.headD .any)/\1<=l.length) k
abbrev Ao(l:List AV)(k:Tree):Tree:=.aw (LK.has .sl (l.headD .any)/\1<=l.length) k
abbrev NT(r:AV)(k:Tree):Tree:=.aw (r=.cz [r.comp 0,r.comp 1]) k
abbrev NA(r:AV)(k:Tree):Tree:=.aw (r=.agg r.cs/\r.cs.length=2/\bV [.str,.sl] r.cs 0) k
abbrev NE(l:List AV)(k:Tree):Tree:=.aw (bV [.str,.sl] l 0/\2<=l.length) k
abbrev NG(r:AV)(i:Int)(z:Nat)(k:Tree):Tree:=.aw (LK.has .sl r/\0<=i/\i<r.elems.length/\(r.elems.getD i.toNat []).length=z) k
abbrev RL:Type:=Nat->List AV->List Ob->Prop
abbrev VS(x:ByteArray):AV:=.v (.string x)
abbrev VI(x:Int):AV:=.v (.int .i64 x)
abbrev VB(x:Bool):AV:=.v (.bool x)
abbrev _root_.List.hA(l:List AV):AV:=l.headD .any
abbrev _root_.List.hO(l:List Ob):Ob:=l.headD .dead
abbrev _root_.Go.VL.AV.ix(a:AV)(i:Int):List AV:=a.elems.getD i.toNat []
abbrev gI(n:Nat)(t:Tree)(R:AV->List Ob->Prop):Prop:=cK Try.prog n t fun _ xs obs=>R (xs.headD .any) obs
abbrev lN(n:Nat)(t:Tree)(S:List AV->List Ob->RL->Prop)(R:RL):Prop:=cK Try.prog n t (sW (fun ys o=>S ys o R) R)
theorem gQ{n:Nat}{c:Code}{li:LI}{xs:List AV}{obs:List Ob}{R:RL}{t:Tree}(lis:List (Nat×LI))(h:cK Try.prog n t (sW (fun ys o=>bP Try.prog n c li ys o R) R))(e:round xQ cfg n lis c li xs obs=t:=by kernel_rfl):bP Try.prog n c li xs obs R:=bP.xH (cfg:=cfg) (lis:=lis) nQ mixed e h
theorem Ad(x:ByteArray):VS x=.v (.string x):=rfl
theorem Ah(x:Int):VI x=.v (.int .i64 x):=rfl
theorem Ag(x:Bool):VB x=.v (.bool x):=rfl
theorem Aq(l:List AV):l.hA=l.headD .any:=rfl
theorem At(l:List Ob):l.hO=l.headD .dead:=rfl
theorem Ak(a:AV)(i:Int):a.ix i=a.elems.getD i.toNat []:=rfl
theorem oQ{f:Nat}{asq:List AV}{ins:List Ob}{R:AV->List Ob->Prop}{t:Tree}(lis:List (Nat×LI))(F:Func)(h:cK Try.prog F.ntmps t fun _ xs obs=>R (xs.headD .any) obs)(hf:Try.prog.funcs[f]?=some F:=by kernel_rfl)(hnm:(F.name=="runtime.NumGoroutine")=false:=by kernel_rfl)(e:main xQ cfg lis {} F asq ins=t:=by kernel_rfl):aI Try.prog f asq ins R:=aI.xH (cfg:=cfg) (lis:=lis) (fc:={}) nQ mixed hf hnm e h
theorem oF{f:Nat}{asq:List AV}{ins:List Ob}{R:AV->List Ob->Prop}{t:Tree}(lis:List (Nat×LI))(fc:FC)(F:Func)(h:cK Try.prog F.ntmps t fun _ xs obs=>R (xs.headD .any) obs)(hf:Try.prog.funcs[f]?=some F:=by kernel_rfl)(hnm:(F.name=="runtime.NumGoroutine")=false:=by kernel_rfl)(e:main xQ cfg lis fc F asq ins=t:=by kernel_rfl):aI Try.prog f asq ins R:=aI.xH (cfg:=cfg) (lis:=lis) (fc:=fc) nQ mixed hf hnm e h
theorem uQ{P:Program}{f:Nat}{asq bs:List AV}{R:AV->List Ob->Prop}(h:om asq bs)(hf:aI P f bs [] R):aI P f asq [] R:=aI.s4 e9 (aI.up h hf)
theorem Ai(r:AV)(k:Tree):NZ r k=.aw (LK.has .ptr r/\r.isNil=false) k:=rfl
theorem Ar(r:AV)(k:Tree):NP r k=.aw (LK.has .ptr r) k:=rfl
theorem Ac(r:AV)(k:Tree):NS r k=.aw (LK.has .str r) k:=rfl
theorem Ab(r:AV)(k:Tree):NB r k=.aw (LK.has .bool r) k:=rfl
theorem Am(r:AV)(k:Tree):NL r k=.aw (LK.has .sl r) k:=rfl
theorem Ae(r:AV)(k:Tree):NI r k=.aw (LK.has (.int .i64) r) k:=rfl
theorem yx(l:List AV)(k:Tree):Aj l k=.aw (LK.has .ptr (l.headD .any)/\1<=l.length) k:=rfl
theorem zR(l:List AV)(k:Tree):uR l k=.aw (LK.has .str (l.headD .any)/\1<=l.length) k:=rfl
theorem yR(l:List AV)(k:Tree):Ao l k=.aw (LK.has .sl (l.headD .any)/\1<=l.length) k:=rfl
theorem Af(r:AV)(k:Tree):NT r k=.aw (r=.cz [r.comp 0,r.comp 1]) k:=rfl
theorem Av(r:AV)(k:Tree):NA r k=.aw (r=.agg r.cs/\r.cs.length=2/\bV [.str,.sl] r.cs 0) k:=rfl
theorem Ap(l:List AV)(k:Tree):NE l k=.aw (bV [.str,.sl] l 0/\2<=l.length) k:=rfl
theorem An(r:AV)(i:Int)(z:Nat)(k:Tree):NG r i z k=.aw (LK.has .sl r/\0<=i/\i<r.elems.length/\(r.elems.getD i.toNat []).length=z) k:=rfl
set_option linter.defProp false in
def zq:=an @Ai (an @Ar (an @Ac (an @Ab (an @Am (an @Ae (an @yx (an @zR (an @yR (an @Af (an @Av (an @Ap (an @An (an @Ad (an @Ah (an @Ag (an @Aq (an @At (an @Ak @zp))))))))))))))))))
variable {R:AV->List Ob->Prop} {U:RL}
def uM:LI:={hd:={bm:=[(3,.k .sl),(4,.k (.int .i64)),(5,.k (.int .i64)),(6,.k (.int .i64)),(7,.k (.int .i64)),(11,.k (.int .i64)),(12,.k (.int .i64))]},xs:={bm:=[(7,.k (.int .i64)),(11,.k (.int .i64))]},rt:={bm:=[(2,.k .bool)]},ex:=0}
def vM:Code:=cS (cP Try.f3) 10
def wA:List (Nat×LI):=[(10,uM)]
def wy(a0:AV):Tree :=
 NL a0<|.test (decide ((a0.elems.length:Int)>(1048576:Int))) (.done 0 [VB true] []) (.call 4 [a0] [] fun r1 o1=>.aw (r1=.cz [r1.comp 0,r1.comp 1,r1.comp 2,r1.comp 3])<|NL (r1.comp 0)<|NI (r1.comp 1)<|NI (r1.comp 2)<|NI (r1.comp 3)<|.call 5 [(r1.comp 0),VI ((r1.comp 1).toInt),VI ((r1.comp 2).toInt),VI ((r1.comp 3).toInt)] [] fun r2 o2=>NT r2<|NI (r2.comp 0)<|NB (r2.comp 1)<|.call 6 [(r1.comp 0),VI ((r1.comp 1).toInt),VI ((r1.comp 2).toInt),VI ((r1.comp 3).toInt)] [] fun r3 o3=>NT r3<|NI (r3.comp 0)<|NB (r3.comp 1)<|.test (!(((r2.comp 1).toBool)==((r3.comp 1).toBool))) (.test (((r2.comp 1).toBool)==((r3.comp 1).toBool)) (.done 0 [VB (((r2.comp 0).toInt)==((r3.comp 0).toInt))] []) (.done 0 [VB false] [])) (.test (((r2.comp 0).toInt) != ((r3.comp 0).toInt)) (.test (((r2.comp 1).toBool)==((r3.comp 1).toBool)) (.done 0 [VB (((r2.comp 0).toInt)==((r3.comp 0).toInt))] []) (.done 0 [VB false] [])) (.test (!((r2.comp 1).toBool)) (.test (((r2.comp 1).toBool)==((r3.comp 1).toBool)) (.done 0 [VB (((r2.comp 0).toInt)==((r3.comp 0).toInt))] []) (.done 0 [VB false] [])) (.loop vM uM [(r1.comp 0),VI ((r1.comp 1).toInt),VI ((r1.comp 2).toInt),VI ((r1.comp 3).toInt),VI ((r2.comp 0).toInt),VI 0,VI 0] [] (fun y5 q5=>NI (y5.hA)<|NI (y5.tail.hA)<|.done 0 [VB (((y5.tail.hA).toInt)==((y5.hA).toInt))] []) (fun y5 q5=>NB (y5.hA)<|.done 0 [VB ((y5.hA).toBool)] [])))))
theorem yC(a0:AV)(ha0:LK.has .sl a0)(h:gI 87 (wy a0) R):aI Try.prog 3 [a0] [] R :=
 uQ (aD (cZ ha0) bd) (oQ wA Try.f3 h)
def zZ(x3:AV)(x4:Int)(x5:Int)(x6:Int)(x7:Int)(x11:Int)(x12:Int):Tree :=
 NL x3<|NI (VI x4)<|NI (VI x5)<|NI (VI x6)<|NI (VI x7)<|NI (VI x11)<|NI (VI x12)<|NL x3<|.test (decide (x12<(x3.elems.length:Int))) (.aw (LK.has .sl x3/\bO 4 x3.elems/\0<=x12/\x12<=(IntKind.wrap .i64 (x12+1))/\(IntKind.wrap .i64 (x12+1))<=(x3.elems.length:Int))<|.call 5 [.sl ((x3.elems.take (aP (IntKind.wrap .i64 (x12+1)))).drop (aP x12)),VI x4,VI x5,VI x6] [] fun r1 o1=>NT r1<|NI (r1.comp 0)<|NB (r1.comp 1)<|.test (!((r1.comp 1).toBool)) (.done 2 [VB false] []) (.done 0 [x3,VI x4,VI x5,VI x6,VI x7,VI (IntKind.wrap .i64 (x11+((r1.comp 0).toInt))),VI (IntKind.wrap .i64 (x12+1))] [])) (.done 1 [VI x7,VI x11] [])
abbrev tN:=bP Try.prog 87 vM uM
theorem vq(x3:AV)(x4:Int)(x5:Int)(x6:Int)(x7:Int)(x11:Int)(x12:Int)(h:lN 87 (zZ x3 x4 x5 x6 x7 x11 x12) tN U):tN [x3,VI x4,VI x5,VI x6,VI x7,VI x11,VI x12] [] U :=
 gQ wA h
def vB(a0:AV):Tree :=
 .call 7 [a0] [] fun r1 o1=>.aw (r1=.ref 0 0/\(o1.hO)=.cells (o1.hO).cs/\(o1.hO).cs.length=2/\bV [.sl,.int .i64] ((o1.hO).cs) 0)<|.call 8 [.ref 0 0] [.cells [((o1.hO).cs.getD 0 .any),VI (((o1.hO).cs.getD 1 .any).toInt)]] fun r2 o2=>.aw ((o2.hO)=.cells (o2.hO).cs)<|.aw (aZ [.lk .sl,.lk (.int .i64)] ((o2.hO).cs) 0 1 o2.tail)<|.aw (r2=.vec 1/\(o2.tail.hO)=.vec 4 (o2.tail.hO).es)<|.call 9 [.ref 0 0,VI 5] [.cells [((o2.hO).cs.getD 0 .any),VI (((o2.hO).cs.getD 1 .any).toInt)]] fun r3 o3=>.aw ((o3.hO)=.cells (o3.hO).cs)<|.aw (aZ [.lk .sl,.lk (.int .i64)] ((o3.hO).cs) 0 1 o3.tail)<|NI r3<|.call 9 [.ref 0 0,VI 5] [.cells [((o3.hO).cs.getD 0 .any),VI (((o3.hO).cs.getD 1 .any).toInt)]] fun r4 o4=>.aw ((o4.hO)=.cells (o4.hO).cs)<|.aw (aZ [.lk .sl,.lk (.int .i64)] ((o4.hO).cs) 0 1 o4.tail)<|NI r4<|.call 9 [.ref 0 0,VI 5] [.cells [((o4.hO).cs.getD 0 .any),VI (((o4.hO).cs.getD 1 .any).toInt)]] fun r5 o5=>.aw ((o5.hO)=.cells (o5.hO).cs)<|.aw (aZ [.lk .sl,.lk (.int .i64)] ((o5.hO).cs) 0 1 o5.tail)<|NI r5<|.call 9 [.ref 0 0,VI 20] [.cells [((o5.hO).cs.getD 0 .any),VI (((o5.hO).cs.getD 1 .any).toInt)]] fun r6 o6=>.aw ((o6.hO)=.cells (o6.hO).cs)<|.aw (aZ [.lk .sl,.lk (.int .i64)] ((o6.hO).cs) 0 1 o6.tail)<|NI r6<|.aw (¬(19:Int)=0)<|.call 9 [.ref 0 0,VI 20] [.cells [((o6.hO).cs.getD 0 .any),VI (((o6.hO).cs.getD 1 .any).toInt)]] fun r7 o7=>.aw ((o7.hO)=.cells (o7.hO).cs)<|.aw (aZ [.lk .sl,.lk (.int .i64)] ((o7.hO).cs) 0 1 o7.tail)<|NI r7<|.aw (¬(19:Int)=0)<|.done 0 [.cz [.sl ((o2.tail.hO).es),VI r3.toInt,VI r4.toInt,VI (IntKind.wrap .i64 ((IntKind.wrap .i64 (r5.toInt-(IntKind.wrap .i64 ((IntKind.wrap .i64 (Int.tdiv r6.toInt 19))*6))))+(IntKind.wrap .i64 ((IntKind.wrap .i64 (Int.tdiv r7.toInt 19))*96))))]] []
theorem zl(a0:AV)(ha0:LK.has .sl a0)(h:gI 33 (vB a0) R):aI Try.prog 4 [a0] [] R :=
 uQ (aD (cZ ha0) bd) (oQ [] Try.f4 h)
def tj:LI:={hd:={bm:=[(0,.k .sl),(26,.agg [.int .i64,.int .i64,.int .i64]),(27,.k (.int .i64))],refs:=[(10,10)],bZ:=[(10,[.lk (.int .i64),.lk (.int .i64),.lk (.int .i64)])]},xs:={bm:=[(0,.k .sl)],refs:=[(10,10)],bZ:=[(10,[.lk (.int .i64),.lk (.int .i64),.lk (.int .i64)])]},rt:={bm:=[(8,.k (.int .i64)),(9,.k .bool)]},ex:=0}
def wB:Code:=cS (cP Try.f5) 5
def ui:LI:={hd:={bm:=[(13,.k (.int .i64)),(37,.k .sl),(38,.k (.int .i64)),(39,.k (.int .i64))],refs:=[(10,10)],bZ:=[(10,[.lk (.int .i64),.lk (.int .i64),.lk (.int .i64)])]},xs:={bm:=[(13,.k (.int .i64))]},rt:={bm:=[(8,.k (.int .i64)),(9,.k .bool)]},ex:=2}
def vA:Code:=cS (cP Try.f5) 12
def tK:LI:={hd:={bm:=[(13,.k (.int .i64)),(16,.k (.int .i64)),(37,.k .sl),(38,.k (.int .i64)),(39,.k (.int .i64)),(51,.agg [.int .i64,.int .i64,.int .i64]),(52,.k (.int .i64))],refs:=[(10,10)],bZ:=[(10,[.lk (.int .i64),.lk (.int .i64),.lk (.int .i64)])]},xs:={bm:=[(13,.k (.int .i64)),(16,.k (.int .i64)),(37,.k .sl),(38,.k (.int .i64)),(39,.k (.int .i64))],refs:=[(10,10)],bZ:=[(10,[.lk (.int .i64),.lk (.int .i64),.lk (.int .i64)])]},rt:={},ex:=4}
def xg:Code:=cS (cP Try.f5) 16
def tC:LI:={hd:={bm:=[(13,.k (.int .i64)),(16,.k (.int .i64)),(17,.k (.int .i64)),(18,.k (.int .i64)),(37,.k .sl),(38,.k (.int .i64)),(39,.k (.int .i64)),(51,.agg [.int .i64,.int .i64,.int .i64]),(52,.k (.int .i64)),(56,.k (.int .i64)),(57,.k (.int .i64))],refs:=[(10,10)],bZ:=[(10,[.lk (.int .i64),.lk (.int .i64),.lk (.int .i64)])]},xs:={bm:=[(13,.k (.int .i64)),(16,.k (.int .i64)),(17,.k (.int .i64)),(18,.k (.int .i64)),(37,.k .sl),(38,.k (.int .i64)),(39,.k (.int .i64)),(51,.agg [.int .i64,.int .i64,.int .i64]),(52,.k (.int .i64))],refs:=[(10,10)],bZ:=[(10,[.lk (.int .i64),.lk (.int .i64),.lk (.int .i64)])]},rt:={},ex:=6}
def vt:Code:=cS (cP Try.f5) 19
def vo:List (Nat×LI):=[(5,tj),(12,ui),(16,tK),(19,tC)]
def wR(a0:AV)(a1:Int)(a2:Int)(a3:Int):Tree :=
 .call 10 [a0] [] fun r1 o1=>NB r1<|.test (!r1.toBool) (.done 0 [.cz [VI 0,VB false]] []) (.loop wB tj [a0,.agg [VI a1,VI a2,VI a3],VI 0] [.cells [VI a1,VI a2,VI a3]] (fun y2 q2=>NL (y2.hA)<|.aw ((q2.hO)=.cells (q2.hO).cs)<|.aw (aA [.lk (.int .i64),.lk (.int .i64),.lk (.int .i64)] ((q2.hO).cs) 0 q2.tail)<|NL (y2.hA)<|.loop vA ui [VI 0,(y2.hA),VI (((y2.hA).elems).length:Int),VI 0] [.cells [VI (((q2.hO).cs.getD 0 .any).toInt),VI (((q2.hO).cs.getD 1 .any).toInt),VI (((q2.hO).cs.getD 2 .any).toInt)]] (fun y5 q5=>NI (y5.hA)<|.done 0 [.cz [VI ((y5.hA).toInt),VB true]] []) (fun y5 q5=>NI (y5.hA)<|NB (y5.tail.hA)<|.done 0 [.cz [VI ((y5.hA).toInt),VB ((y5.tail.hA).toBool)]] [])) (fun y2 q2=>NI (y2.hA)<|NB (y2.tail.hA)<|.done 0 [.cz [VI ((y2.hA).toInt),VB ((y2.tail.hA).toBool)]] []))
theorem yo(a0:AV)(a1:Int)(a2:Int)(a3:Int)(ha0:LK.has .sl a0)(h:gI 88 (wR a0 a1 a2 a3) R):aI Try.prog 5 [a0,VI a1,VI a2,VI a3] [] R :=
 uQ (aD (cZ ha0) (aD (aS _) (aD (aS _) (aD (aS _) bd)))) (oQ vo Try.f5 h)
def uJ(x0:AV)(x26_0:Int)(x26_1:Int)(x26_2:Int)(x27:Int)(o10_0:Int)(o10_1:Int)(o10_2:Int):Tree :=
 NL x0<|.aw (AV.agg [VI x26_0,VI x26_1,VI x26_2]=.agg [VI x26_0,VI x26_1,VI x26_2]/\dW ([VI x26_0,VI x26_1,VI x26_2]:List AV)=3/\bV [.int .i64,.int .i64,.int .i64] [VI x26_0,VI x26_1,VI x26_2] 0)<|NI (VI x27)<|.aw (Ob.cells [VI o10_0,VI o10_1,VI o10_2]=.cells [VI o10_0,VI o10_1,VI o10_2])<|.aw (aA [.lk (.int .i64),.lk (.int .i64),.lk (.int .i64)] [VI o10_0,VI o10_1,VI o10_2] 0 [])<|.test (decide (x27<(3:Int))) (.aw ((0<=x27/\x27<3)/\x27.toNat*1<([VI x26_0,VI x26_1,VI x26_2]:List AV).length/\LK.has (.int .i64) (([VI x26_0,VI x26_1,VI x26_2]:List AV).getD (x27.toNat*1) .any))<|.test (decide (((([VI x26_0,VI x26_1,VI x26_2]:List AV).getD (x27.toNat*1) .any).toInt)<(0:Int))) (.done 2 [VI 0,VB false] []) (.test (decide (((([VI x26_0,VI x26_1,VI x26_2]:List AV).getD (x27.toNat*1) .any).toInt)>(100:Int))) (.done 2 [VI 0,VB false] []) (.done 0 [x0,.agg [VI x26_0,VI x26_1,VI x26_2],VI (IntKind.wrap .i64 (x27+1))] [.cells [VI o10_0,VI o10_1,VI o10_2]]))) (.done 1 [x0] [.cells [VI o10_0,VI o10_1,VI o10_2]])
abbrev xX:=bP Try.prog 88 wB tj
theorem u5(x0:AV)(x26_0:Int)(x26_1:Int)(x26_2:Int)(x27:Int)(o10_0:Int)(o10_1:Int)(o10_2:Int)(h:lN 88 (uJ x0 x26_0 x26_1 x26_2 x27 o10_0 o10_1 o10_2) xX U):xX [x0,.agg [VI x26_0,VI x26_1,VI x26_2],VI x27] [.cells [VI o10_0,VI o10_1,VI o10_2]] U :=
 gQ vo h
def tW(x13:Int)(x37:AV)(x38:Int)(x39:Int)(o10_0:Int)(o10_1:Int)(o10_2:Int):Tree :=
 NI (VI x13)<|NL x37<|NI (VI x38)<|NI (VI x39)<|.aw (Ob.cells [VI o10_0,VI o10_1,VI o10_2]=.cells [VI o10_0,VI o10_1,VI o10_2])<|.aw (aA [.lk (.int .i64),.lk (.int .i64),.lk (.int .i64)] [VI o10_0,VI o10_1,VI o10_2] 0 [])<|.test (decide (x39<x38)) (NG x37 x39 4<|.aw (bV [.int .i64,.int .i64,.int .i64,.int .i64] (x37.ix x39) 0/\4<=(x37.ix x39).length)<|.loop xg tK [VI x13,VI (((x37.ix x39).getD 0 .any).toInt),x37,VI x38,VI x39,.agg [VI (((x37.ix x39).getD 1 .any).toInt),VI (((x37.ix x39).getD 2 .any).toInt),VI (((x37.ix x39).getD 3 .any).toInt)],VI 0] [.cells [VI o10_0,VI o10_1,VI o10_2]] (fun y1 q1=>NI (y1.hA)<|NI (y1.tail.hA)<|NL (y1.tail.tail.hA)<|NI (y1.tail.tail.tail.hA)<|NI (y1.tail.tail.tail.tail.hA)<|.aw ((q1.hO)=.cells (q1.hO).cs)<|.aw (aA [.lk (.int .i64),.lk (.int .i64),.lk (.int .i64)] ((q1.hO).cs) 0 q1.tail)<|.test (decide (((y1.tail.hA).toInt)>(1000000000:Int))) (.done 2 [VI 0,VB false] []) (.test (decide ((IntKind.wrap .i64 (((y1.hA).toInt)+((y1.tail.hA).toInt)))>(1000000000:Int))) (.done 2 [VI 0,VB false] []) (.done 0 [VI (IntKind.wrap .i64 (((y1.hA).toInt)+((y1.tail.hA).toInt))),(y1.tail.tail.hA),VI ((y1.tail.tail.tail.hA).toInt),VI (IntKind.wrap .i64 (((y1.tail.tail.tail.tail.hA).toInt)+1))] [.cells [VI (((q1.hO).cs.getD 0 .any).toInt),VI (((q1.hO).cs.getD 1 .any).toInt),VI (((q1.hO).cs.getD 2 .any).toInt)]]))) (fun y1 q1=>.done 2 [.any,.any] [])) (.done 1 [VI x13] [])
abbrev uE:=bP Try.prog 88 vA ui
theorem vj(x13:Int)(x37:AV)(x38:Int)(x39:Int)(o10_0:Int)(o10_1:Int)(o10_2:Int)(h:lN 88 (tW x13 x37 x38 x39 o10_0 o10_1 o10_2) uE U):uE [VI x13,x37,VI x38,VI x39] [.cells [VI o10_0,VI o10_1,VI o10_2]] U :=
 gQ vo h
def tZ(x13:Int)(x16:Int)(x37:AV)(x38:Int)(x39:Int)(x51_0:Int)(x51_1:Int)(x51_2:Int)(x52:Int)(o10_0:Int)(o10_1:Int)(o10_2:Int):Tree :=
 NI (VI x13)<|NI (VI x16)<|NL x37<|NI (VI x38)<|NI (VI x39)<|.aw (AV.agg [VI x51_0,VI x51_1,VI x51_2]=.agg [VI x51_0,VI x51_1,VI x51_2]/\dW ([VI x51_0,VI x51_1,VI x51_2]:List AV)=3/\bV [.int .i64,.int .i64,.int .i64] [VI x51_0,VI x51_1,VI x51_2] 0)<|NI (VI x52)<|.aw (Ob.cells [VI o10_0,VI o10_1,VI o10_2]=.cells [VI o10_0,VI o10_1,VI o10_2])<|.aw (aA [.lk (.int .i64),.lk (.int .i64),.lk (.int .i64)] [VI o10_0,VI o10_1,VI o10_2] 0 [])<|.test (decide (x52<(3:Int))) (.aw ((0<=x52/\x52<3)/\x52.toNat*1<([VI x51_0,VI x51_1,VI x51_2]:List AV).length/\LK.has (.int .i64) (([VI x51_0,VI x51_1,VI x51_2]:List AV).getD (x52.toNat*1) .any))<|.loop vt tC [VI x13,VI x16,VI x52,VI ((([VI x51_0,VI x51_1,VI x51_2]:List AV).getD (x52.toNat*1) .any).toInt),x37,VI x38,VI x39,.agg [VI x51_0,VI x51_1,VI x51_2],VI x52,VI ((([VI x51_0,VI x51_1,VI x51_2]:List AV).getD (x52.toNat*1) .any).toInt),VI 0] [.cells [VI o10_0,VI o10_1,VI o10_2]] (fun y1 q1=>NI (y1.hA)<|NI (y1.tail.hA)<|NI (y1.tail.tail.hA)<|NI (y1.tail.tail.tail.hA)<|NL (y1.tail.tail.tail.tail.hA)<|NI (y1.tail.tail.tail.tail.tail.hA)<|NI (y1.tail.tail.tail.tail.tail.tail.hA)<|.aw ((y1.tail.tail.tail.tail.tail.tail.tail.hA)=.agg (y1.tail.tail.tail.tail.tail.tail.tail.hA).cs/\((y1.tail.tail.tail.tail.tail.tail.tail.hA).cs).length=3/\bV [.int .i64,.int .i64,.int .i64] ((y1.tail.tail.tail.tail.tail.tail.tail.hA).cs) 0)<|NI (y1.tail.tail.tail.tail.tail.tail.tail.tail.hA)<|.aw ((q1.hO)=.cells (q1.hO).cs)<|.aw (aA [.lk (.int .i64),.lk (.int .i64),.lk (.int .i64)] ((q1.hO).cs) 0 q1.tail)<|.aw (0<=((y1.tail.tail.hA).toInt)/\((y1.tail.tail.hA).toInt)<3)<|.aw (0+((y1.tail.tail.hA).toInt).toNat*1<([VI (((q1.hO).cs.getD 0 .any).toInt),VI (((q1.hO).cs.getD 1 .any).toInt),VI (((q1.hO).cs.getD 2 .any).toInt)]:List AV).length/\LK.has (.int .i64) (([VI (((q1.hO).cs.getD 0 .any).toInt),VI (((q1.hO).cs.getD 1 .any).toInt),VI (((q1.hO).cs.getD 2 .any).toInt)]:List AV).getD (0+((y1.tail.tail.hA).toInt).toNat*1) .any))<|.test (((([VI (((q1.hO).cs.getD 0 .any).toInt),VI (((q1.hO).cs.getD 1 .any).toInt),VI (((q1.hO).cs.getD 2 .any).toInt)]:List AV).getD (0+((y1.tail.tail.hA).toInt).toNat*1) .any).toInt)==(0:Int)) (.test (decide (((y1.tail.tail.tail.hA).toInt)>(0:Int))) (.done 0 [VI ((y1.hA).toInt),VI 0,(y1.tail.tail.tail.tail.hA),VI ((y1.tail.tail.tail.tail.tail.hA).toInt),VI ((y1.tail.tail.tail.tail.tail.tail.hA).toInt),.agg [VI (((y1.tail.tail.tail.tail.tail.tail.tail.hA).cs.getD 0 .any).toInt),VI (((y1.tail.tail.tail.tail.tail.tail.tail.hA).cs.getD 1 .any).toInt),VI (((y1.tail.tail.tail.tail.tail.tail.tail.hA).cs.getD 2 .any).toInt)],VI (IntKind.wrap .i64 (((y1.tail.tail.tail.tail.tail.tail.tail.tail.hA).toInt)+1))] [.cells [VI (((q1.hO).cs.getD 0 .any).toInt),VI (((q1.hO).cs.getD 1 .any).toInt),VI (((q1.hO).cs.getD 2 .any).toInt)]]) (.done 0 [VI ((y1.hA).toInt),VI ((y1.tail.hA).toInt),(y1.tail.tail.tail.tail.hA),VI ((y1.tail.tail.tail.tail.tail.hA).toInt),VI ((y1.tail.tail.tail.tail.tail.tail.hA).toInt),.agg [VI (((y1.tail.tail.tail.tail.tail.tail.tail.hA).cs.getD 0 .any).toInt),VI (((y1.tail.tail.tail.tail.tail.tail.tail.hA).cs.getD 1 .any).toInt),VI (((y1.tail.tail.tail.tail.tail.tail.tail.hA).cs.getD 2 .any).toInt)],VI (IntKind.wrap .i64 (((y1.tail.tail.tail.tail.tail.tail.tail.tail.hA).toInt)+1))] [.cells [VI (((q1.hO).cs.getD 0 .any).toInt),VI (((q1.hO).cs.getD 1 .any).toInt),VI (((q1.hO).cs.getD 2 .any).toInt)]])) (.done 0 [VI ((y1.hA).toInt),VI ((y1.tail.hA).toInt),(y1.tail.tail.tail.tail.hA),VI ((y1.tail.tail.tail.tail.tail.hA).toInt),VI ((y1.tail.tail.tail.tail.tail.tail.hA).toInt),.agg [VI (((y1.tail.tail.tail.tail.tail.tail.tail.hA).cs.getD 0 .any).toInt),VI (((y1.tail.tail.tail.tail.tail.tail.tail.hA).cs.getD 1 .any).toInt),VI (((y1.tail.tail.tail.tail.tail.tail.tail.hA).cs.getD 2 .any).toInt)],VI (IntKind.wrap .i64 (((y1.tail.tail.tail.tail.tail.tail.tail.tail.hA).toInt)+1))] [.cells [VI (((q1.hO).cs.getD 0 .any).toInt),VI (((q1.hO).cs.getD 1 .any).toInt),VI (((q1.hO).cs.getD 2 .any).toInt)]])) (fun y1 q1=>.done 2 [] [])) (.done 1 [VI x13,VI x16,x37,VI x38,VI x39] [.cells [VI o10_0,VI o10_1,VI o10_2]])
abbrev uV:=bP Try.prog 88 xg tK
theorem vX(x13:Int)(x16:Int)(x37:AV)(x38:Int)(x39:Int)(x51_0:Int)(x51_1:Int)(x51_2:Int)(x52:Int)(o10_0:Int)(o10_1:Int)(o10_2:Int)(h:lN 88 (tZ x13 x16 x37 x38 x39 x51_0 x51_1 x51_2 x52 o10_0 o10_1 o10_2) uV U):uV [VI x13,VI x16,x37,VI x38,VI x39,.agg [VI x51_0,VI x51_1,VI x51_2],VI x52] [.cells [VI o10_0,VI o10_1,VI o10_2]] U :=
 gQ vo h
def tT(x13:Int)(x16:Int)(x17:Int)(x18:Int)(x37:AV)(x38:Int)(x39:Int)(x51_0:Int)(x51_1:Int)(x51_2:Int)(x52:Int)(x56:Int)(x57:Int)(o10_0:Int)(o10_1:Int)(o10_2:Int):Tree :=
 NI (VI x13)<|NI (VI x16)<|NI (VI x17)<|NI (VI x18)<|NL x37<|NI (VI x38)<|NI (VI x39)<|.aw (AV.agg [VI x51_0,VI x51_1,VI x51_2]=.agg [VI x51_0,VI x51_1,VI x51_2]/\dW ([VI x51_0,VI x51_1,VI x51_2]:List AV)=3/\bV [.int .i64,.int .i64,.int .i64] [VI x51_0,VI x51_1,VI x51_2] 0)<|NI (VI x52)<|NI (VI x56)<|NI (VI x57)<|.aw (Ob.cells [VI o10_0,VI o10_1,VI o10_2]=.cells [VI o10_0,VI o10_1,VI o10_2])<|.aw (aA [.lk (.int .i64),.lk (.int .i64),.lk (.int .i64)] [VI o10_0,VI o10_1,VI o10_2] 0 [])<|.test (decide (x57<x56)) (.aw (0<=x17/\x17<3)<|.aw (0+x17.toNat*1<([VI o10_0,VI o10_1,VI o10_2]:List AV).length/\LK.has (.int .i64) (([VI o10_0,VI o10_1,VI o10_2]:List AV).getD (0+x17.toNat*1) .any))<|.test ((if 1000000001<(IntKind.wrap .i64 (x16*((([VI o10_0,VI o10_1,VI o10_2]:List AV).getD (0+x17.toNat*1) .any).toInt)))then 1000000001 else(IntKind.wrap .i64 (x16*((([VI o10_0,VI o10_1,VI o10_2]:List AV).getD (0+x17.toNat*1) .any).toInt))))==(0:Int)) (.done 1 [VI x13,VI (if 1000000001<(IntKind.wrap .i64 (x16*((([VI o10_0,VI o10_1,VI o10_2]:List AV).getD (0+x17.toNat*1) .any).toInt)))then 1000000001 else(IntKind.wrap .i64 (x16*((([VI o10_0,VI o10_1,VI o10_2]:List AV).getD (0+x17.toNat*1) .any).toInt)))),VI x17,VI x18,x37,VI x38,VI x39,.agg [VI x51_0,VI x51_1,VI x51_2],VI x52] [.cells [VI o10_0,VI o10_1,VI o10_2]]) (.done 0 [VI x13,VI (if 1000000001<(IntKind.wrap .i64 (x16*((([VI o10_0,VI o10_1,VI o10_2]:List AV).getD (0+x17.toNat*1) .any).toInt)))then 1000000001 else(IntKind.wrap .i64 (x16*((([VI o10_0,VI o10_1,VI o10_2]:List AV).getD (0+x17.toNat*1) .any).toInt)))),VI x17,VI x18,x37,VI x38,VI x39,.agg [VI x51_0,VI x51_1,VI x51_2],VI x52,VI x56,VI (IntKind.wrap .i64 (x57+1))] [.cells [VI o10_0,VI o10_1,VI o10_2]])) (.done 1 [VI x13,VI x16,VI x17,VI x18,x37,VI x38,VI x39,.agg [VI x51_0,VI x51_1,VI x51_2],VI x52] [.cells [VI o10_0,VI o10_1,VI o10_2]])
abbrev um:=bP Try.prog 88 vt tC
theorem xx(x13:Int)(x16:Int)(x17:Int)(x18:Int)(x37:AV)(x38:Int)(x39:Int)(x51_0:Int)(x51_1:Int)(x51_2:Int)(x52:Int)(x56:Int)(x57:Int)(o10_0:Int)(o10_1:Int)(o10_2:Int)(h:lN 88 (tT x13 x16 x17 x18 x37 x38 x39 x51_0 x51_1 x51_2 x52 x56 x57 o10_0 o10_1 o10_2) um U):um [VI x13,VI x16,VI x17,VI x18,x37,VI x38,VI x39,.agg [VI x51_0,VI x51_1,VI x51_2],VI x52,VI x56,VI x57] [.cells [VI o10_0,VI o10_1,VI o10_2]] U :=
 gQ vo h
def zr:LI:={hd:={bm:=[(0,.k .sl),(1,.k (.int .i64)),(2,.k (.int .i64)),(3,.k (.int .i64)),(10,.k (.int .i64)),(11,.k (.int .i64))]},xs:={bm:=[(10,.k (.int .i64))]},rt:={bm:=[(8,.k (.int .i64)),(9,.k .bool)]},ex:=0}
def vF:Code:=cS (cP Try.f6) 5
def xp:List (Nat×LI):=[(5,zr)]
def vK(a0:AV)(a1:Int)(a2:Int)(a3:Int):Tree :=
 .call 11 [a0] [] fun r1 o1=>NB r1<|.test (!r1.toBool) (.done 0 [.cz [VI 0,VB false]] []) (.call 12 [VI a1,VI 0,VI 100] [] fun r2 o2=>NB r2<|.test (!r2.toBool) (.done 0 [.cz [VI 0,VB false]] []) (.call 12 [VI a2,VI 0,VI 100] [] fun r3 o3=>NB r3<|.test (!r3.toBool) (.done 0 [.cz [VI 0,VB false]] []) (.call 12 [VI a3,VI 0,VI 100] [] fun r4 o4=>NB r4<|.test (!r4.toBool) (.done 0 [.cz [VI 0,VB false]] []) (.loop vF zr [a0,VI a1,VI a2,VI a3,VI 0,VI 0] [] (fun y29 q29=>NI (y29.hA)<|.done 0 [.cz [VI ((y29.hA).toInt),VB true]] []) (fun y29 q29=>NI (y29.hA)<|NB (y29.tail.hA)<|.done 0 [.cz [VI ((y29.hA).toInt),VB ((y29.tail.hA).toBool)]] [])))))
theorem yE(a0:AV)(a1:Int)(a2:Int)(a3:Int)(ha0:LK.has .sl a0)(h:gI 85 (vK a0 a1 a2 a3) R):aI Try.prog 6 [a0,VI a1,VI a2,VI a3] [] R :=
 uQ (aD (cZ ha0) (aD (aS _) (aD (aS _) (aD (aS _) bd)))) (oQ xp Try.f6 h)
def tI(x0:AV)(x1:Int)(x2:Int)(x3:Int)(x10:Int)(x11:Int):Tree :=
 NL x0<|NI (VI x1)<|NI (VI x2)<|NI (VI x3)<|NI (VI x10)<|NI (VI x11)<|NL x0<|.test (decide (x11<(x0.elems.length:Int))) (NG x0 x11 4<|.aw (bV [.int .i64,.int .i64,.int .i64,.int .i64] (x0.ix x11) 0/\4<=(x0.ix x11).length)<|.test (x1==(0:Int)) (.test (decide ((((x0.ix x11).getD 1 .any).toInt)>(0:Int))) (.done 0 [x0,VI x1,VI x2,VI x3,VI x10,VI (IntKind.wrap .i64 (x11+1))] []) (.test (x2==(0:Int)) (.test (decide ((((x0.ix x11).getD 2 .any).toInt)>(0:Int))) (.done 0 [x0,VI x1,VI x2,VI x3,VI x10,VI (IntKind.wrap .i64 (x11+1))] []) (.test (x3==(0:Int)) (.test (decide ((((x0.ix x11).getD 3 .any).toInt)>(0:Int))) (.done 0 [x0,VI x1,VI x2,VI x3,VI x10,VI (IntKind.wrap .i64 (x11+1))] []) (.call 13 [VI (((x0.ix x11).getD 0 .any).toInt),VI x1,VI (((x0.ix x11).getD 1 .any).toInt)] [] fun r1 o1=>NI r1<|.call 13 [VI r1.toInt,VI x2,VI (((x0.ix x11).getD 2 .any).toInt)] [] fun r2 o2=>NI r2<|.call 13 [VI r2.toInt,VI x3,VI (((x0.ix x11).getD 3 .any).toInt)] [] fun r3 o3=>NI r3<|.test (decide ((IntKind.wrap .i64 (x10+r3.toInt))>(1000000000:Int))) (.done 2 [VI 0,VB false] []) (.done 0 [x0,VI x1,VI x2,VI x3,VI (IntKind.wrap .i64 (x10+r3.toInt)),VI (IntKind.wrap .i64 (x11+1))] []))) (.call 13 [VI (((x0.ix x11).getD 0 .any).toInt),VI x1,VI (((x0.ix x11).getD 1 .any).toInt)] [] fun r4 o4=>NI r4<|.call 13 [VI r4.toInt,VI x2,VI (((x0.ix x11).getD 2 .any).toInt)] [] fun r5 o5=>NI r5<|.call 13 [VI r5.toInt,VI x3,VI (((x0.ix x11).getD 3 .any).toInt)] [] fun r6 o6=>NI r6<|.test (decide ((IntKind.wrap .i64 (x10+r6.toInt))>(1000000000:Int))) (.done 2 [VI 0,VB false] []) (.done 0 [x0,VI x1,VI x2,VI x3,VI (IntKind.wrap .i64 (x10+r6.toInt)),VI (IntKind.wrap .i64 (x11+1))] [])))) (.test (x3==(0:Int)) (.test (decide ((((x0.ix x11).getD 3 .any).toInt)>(0:Int))) (.done 0 [x0,VI x1,VI x2,VI x3,VI x10,VI (IntKind.wrap .i64 (x11+1))] []) (.call 13 [VI (((x0.ix x11).getD 0 .any).toInt),VI x1,VI (((x0.ix x11).getD 1 .any).toInt)] [] fun r7 o7=>NI r7<|.call 13 [VI r7.toInt,VI x2,VI (((x0.ix x11).getD 2 .any).toInt)] [] fun r8 o8=>NI r8<|.call 13 [VI r8.toInt,VI x3,VI (((x0.ix x11).getD 3 .any).toInt)] [] fun r9 o9=>NI r9<|.test (decide ((IntKind.wrap .i64 (x10+r9.toInt))>(1000000000:Int))) (.done 2 [VI 0,VB false] []) (.done 0 [x0,VI x1,VI x2,VI x3,VI (IntKind.wrap .i64 (x10+r9.toInt)),VI (IntKind.wrap .i64 (x11+1))] []))) (.call 13 [VI (((x0.ix x11).getD 0 .any).toInt),VI x1,VI (((x0.ix x11).getD 1 .any).toInt)] [] fun r10 o10=>NI r10<|.call 13 [VI r10.toInt,VI x2,VI (((x0.ix x11).getD 2 .any).toInt)] [] fun r11 o11=>NI r11<|.call 13 [VI r11.toInt,VI x3,VI (((x0.ix x11).getD 3 .any).toInt)] [] fun r12 o12=>NI r12<|.test (decide ((IntKind.wrap .i64 (x10+r12.toInt))>(1000000000:Int))) (.done 2 [VI 0,VB false] []) (.done 0 [x0,VI x1,VI x2,VI x3,VI (IntKind.wrap .i64 (x10+r12.toInt)),VI (IntKind.wrap .i64 (x11+1))] []))))) (.test (x2==(0:Int)) (.test (decide ((((x0.ix x11).getD 2 .any).toInt)>(0:Int))) (.done 0 [x0,VI x1,VI x2,VI x3,VI x10,VI (IntKind.wrap .i64 (x11+1))] []) (.test (x3==(0:Int)) (.test (decide ((((x0.ix x11).getD 3 .any).toInt)>(0:Int))) (.done 0 [x0,VI x1,VI x2,VI x3,VI x10,VI (IntKind.wrap .i64 (x11+1))] []) (.call 13 [VI (((x0.ix x11).getD 0 .any).toInt),VI x1,VI (((x0.ix x11).getD 1 .any).toInt)] [] fun r13 o13=>NI r13<|.call 13 [VI r13.toInt,VI x2,VI (((x0.ix x11).getD 2 .any).toInt)] [] fun r14 o14=>NI r14<|.call 13 [VI r14.toInt,VI x3,VI (((x0.ix x11).getD 3 .any).toInt)] [] fun r15 o15=>NI r15<|.test (decide ((IntKind.wrap .i64 (x10+r15.toInt))>(1000000000:Int))) (.done 2 [VI 0,VB false] []) (.done 0 [x0,VI x1,VI x2,VI x3,VI (IntKind.wrap .i64 (x10+r15.toInt)),VI (IntKind.wrap .i64 (x11+1))] []))) (.call 13 [VI (((x0.ix x11).getD 0 .any).toInt),VI x1,VI (((x0.ix x11).getD 1 .any).toInt)] [] fun r16 o16=>NI r16<|.call 13 [VI r16.toInt,VI x2,VI (((x0.ix x11).getD 2 .any).toInt)] [] fun r17 o17=>NI r17<|.call 13 [VI r17.toInt,VI x3,VI (((x0.ix x11).getD 3 .any).toInt)] [] fun r18 o18=>NI r18<|.test (decide ((IntKind.wrap .i64 (x10+r18.toInt))>(1000000000:Int))) (.done 2 [VI 0,VB false] []) (.done 0 [x0,VI x1,VI x2,VI x3,VI (IntKind.wrap .i64 (x10+r18.toInt)),VI (IntKind.wrap .i64 (x11+1))] [])))) (.test (x3==(0:Int)) (.test (decide ((((x0.ix x11).getD 3 .any).toInt)>(0:Int))) (.done 0 [x0,VI x1,VI x2,VI x3,VI x10,VI (IntKind.wrap .i64 (x11+1))] []) (.call 13 [VI (((x0.ix x11).getD 0 .any).toInt),VI x1,VI (((x0.ix x11).getD 1 .any).toInt)] [] fun r19 o19=>NI r19<|.call 13 [VI r19.toInt,VI x2,VI (((x0.ix x11).getD 2 .any).toInt)] [] fun r20 o20=>NI r20<|.call 13 [VI r20.toInt,VI x3,VI (((x0.ix x11).getD 3 .any).toInt)] [] fun r21 o21=>NI r21<|.test (decide ((IntKind.wrap .i64 (x10+r21.toInt))>(1000000000:Int))) (.done 2 [VI 0,VB false] []) (.done 0 [x0,VI x1,VI x2,VI x3,VI (IntKind.wrap .i64 (x10+r21.toInt)),VI (IntKind.wrap .i64 (x11+1))] []))) (.call 13 [VI (((x0.ix x11).getD 0 .any).toInt),VI x1,VI (((x0.ix x11).getD 1 .any).toInt)] [] fun r22 o22=>NI r22<|.call 13 [VI r22.toInt,VI x2,VI (((x0.ix x11).getD 2 .any).toInt)] [] fun r23 o23=>NI r23<|.call 13 [VI r23.toInt,VI x3,VI (((x0.ix x11).getD 3 .any).toInt)] [] fun r24 o24=>NI r24<|.test (decide ((IntKind.wrap .i64 (x10+r24.toInt))>(1000000000:Int))) (.done 2 [VI 0,VB false] []) (.done 0 [x0,VI x1,VI x2,VI x3,VI (IntKind.wrap .i64 (x10+r24.toInt)),VI (IntKind.wrap .i64 (x11+1))] []))))) (.done 1 [VI x10] [])
abbrev xT:=bP Try.prog 85 vF zr
theorem wN(x0:AV)(x1:Int)(x2:Int)(x3:Int)(x10:Int)(x11:Int)(h:lN 85 (tI x0 x1 x2 x3 x10 x11) xT U):xT [x0,VI x1,VI x2,VI x3,VI x10,VI x11] [] U :=
 gQ xp h
def wk(a0:AV):Tree :=
 NL a0<|.test (decide ((a0.elems.length:Int)>(2000:Int))) (.aw (LK.has .sl a0/\0<=(0:Int)/\(0:Int)<=(2000:Int)/\(2000:Int)<=(a0.elems.length:Int))<|.done 0 [.ref 0 0] [.cells [.sl ((a0.elems.take (aP 2000)).drop (aP 0)),VI 0]]) (.done 0 [.ref 0 0] [.cells [a0,VI 0]])
theorem yA(a0:AV)(ha0:LK.has .sl a0)(h:gI 11 (wk a0) R):aI Try.prog 7 [a0] [] R :=
 uQ (aD (cZ ha0) bd) (oF [] {mu:=[],own:=[0],ow:=[.sl,.int .i64]} Try.f7 h)
def xj(a0_0:AV)(a0_1:Int):Tree :=
 .call 15 [.ref 0 0,VI 4] [.cells [a0_0,VI a0_1]] fun r1 o1=>.aw ((o1.hO)=.cells (o1.hO).cs)<|.aw (aZ [.lk .sl,.lk (.int .i64)] ((o1.hO).cs) 0 1 o1.tail)<|NS r1<|.call 14 [VS r1.toStr] [] fun r2 o2=>NT r2<|.aw (r2.comp 0=.vec 0/\(o2.hO)=.vec 4 (o2.hO).es)<|NB (r2.comp 1)<|.aw (∀x,x∈o2->dF x)<|.test (!((r2.comp 1).toBool)) (.done 0 [.vec 1] [.cells [((o1.hO).cs.getD 0 .any),VI (((o1.hO).cs.getD 1 .any).toInt)],.vec 4 [[VI 2,VI 1,VI 0,VI 0]]]) (.call 9 [.ref 0 0,VI 12] [.cells [((o1.hO).cs.getD 0 .any),VI (((o1.hO).cs.getD 1 .any).toInt)]] fun r3 o3=>.aw ((o3.hO)=.cells (o3.hO).cs)<|.aw (aZ [.lk .sl,.lk (.int .i64)] ((o3.hO).cs) 0 1 o3.tail)<|NI r3<|.test (r3.toInt==(0:Int)) (.aw (bO 4 [[VI 3,VI 2,VI 0,VI 0]]/\((((o2.hO).es).length)+([[VI 3,VI 2,VI 0,VI 0]]:List (List AV)).length)*32<=140737488355328)<|.done 0 [.vec 1] [.cells [((o3.hO).cs.getD 0 .any),VI (((o3.hO).cs.getD 1 .any).toInt)],.vec 4 (((o2.hO).es)++([[VI 3,VI 2,VI 0,VI 0]]:List (List AV)))]) (.test (r3.toInt==(1:Int)) (.aw (bO 4 [[VI 0,VI 0,VI 0,VI 0]]/\((((o2.hO).es).length)+([[VI 0,VI 0,VI 0,VI 0]]:List (List AV)).length)*32<=140737488355328)<|.done 0 [.vec 1] [.cells [((o3.hO).cs.getD 0 .any),VI (((o3.hO).cs.getD 1 .any).toInt)],.vec 4 (((o2.hO).es)++([[VI 0,VI 0,VI 0,VI 0]]:List (List AV)))]) (.test (r3.toInt==(2:Int)) (.done 0 [.vec 1] [.cells [((o3.hO).cs.getD 0 .any),VI (((o3.hO).cs.getD 1 .any).toInt)],.vec 4 [[VI 900000000,VI 2,VI 1,VI 0]]]) (.done 0 [.vec 1] [.cells [((o3.hO).cs.getD 0 .any),VI (((o3.hO).cs.getD 1 .any).toInt)],.vec 4 ((o2.hO).es)]))))
theorem zh(a0_0:AV)(a0_1:Int)(ha0_0:LK.has .sl a0_0)(h:gI 34 (xj a0_0 a0_1) R):aI Try.prog 8 [.ref 0 0] [.cells [a0_0,VI a0_1]] R :=
 aI.s4 (eN (eI (aD (cZ ha0_0) (aD (aS _) bd))) e9) (aI.up (aD (aS _) bd) (oF [] {mu:=[(0,.one (.obj [.lk .sl,.lk (.int .i64)]))],own:=[0]} Try.f8 h))
def vJ(a0_0:AV)(a0_1:Int)(a1:Int):Tree :=
 .test (decide (a1<(1:Int))) (.done 0 [VI 0] [.cells [a0_0,VI (IntKind.wrap .i64 (a0_1+1))]]) (NL a0_0<|.test ((a0_0.elems.length:Int)==(0:Int)) (.done 0 [VI 0] [.cells [a0_0,VI (IntKind.wrap .i64 (a0_1+1))]]) (NL a0_0<|.test (decide ((IntKind.wrap .i64 ((IntKind.wrap .i64 (a0_1+1))-1))<(a0_0.elems.length:Int))) (.aw (LK.has .sl a0_0/\0<=(IntKind.wrap .i64 ((IntKind.wrap .i64 (a0_1+1))-1))/\(IntKind.wrap .i64 ((IntKind.wrap .i64 (a0_1+1))-1))<a0_0.elems.length/\(a0_0.ix (IntKind.wrap .i64 ((IntKind.wrap .i64 (a0_1+1))-1))).length=1)<|.aw (LK.has (.int .u8) ((a0_0.ix (IntKind.wrap .i64 ((IntKind.wrap .i64 (a0_1+1))-1))).hA)/\1<=(a0_0.ix (IntKind.wrap .i64 ((IntKind.wrap .i64 (a0_1+1))-1))).length)<|.aw (¬a1=0)<|.done 0 [VI (cr (IntKind.wrap .i64 (((a0_0.ix (IntKind.wrap .i64 ((IntKind.wrap .i64 (a0_1+1))-1))).hA).toInt)) a1)] [.cells [a0_0,VI (IntKind.wrap .i64 (a0_1+1))]]) (NL a0_0<|.aw (¬(a0_0.elems.length:Int)=0)<|.aw (LK.has .sl a0_0/\0<=(cr (IntKind.wrap .i64 ((IntKind.wrap .i64 (a0_1+1))-1)) (a0_0.elems.length:Int))/\(cr (IntKind.wrap .i64 ((IntKind.wrap .i64 (a0_1+1))-1)) (a0_0.elems.length:Int))<a0_0.elems.length/\(a0_0.ix (cr (IntKind.wrap .i64 ((IntKind.wrap .i64 (a0_1+1))-1)) (a0_0.elems.length:Int))).length=1)<|.aw (LK.has (.int .u8) ((a0_0.ix (cr (IntKind.wrap .i64 ((IntKind.wrap .i64 (a0_1+1))-1)) (a0_0.elems.length:Int))).hA)/\1<=(a0_0.ix (cr (IntKind.wrap .i64 ((IntKind.wrap .i64 (a0_1+1))-1)) (a0_0.elems.length:Int))).length)<|NL a0_0<|.aw (¬(a0_0.elems.length:Int)=0)<|.aw (LK.has .sl a0_0/\0<=(cr (IntKind.wrap .i64 ((IntKind.wrap .i64 ((IntKind.wrap .i64 ((IntKind.wrap .i64 (a0_1+1))-1))*7))+3)) (a0_0.elems.length:Int))/\(cr (IntKind.wrap .i64 ((IntKind.wrap .i64 ((IntKind.wrap .i64 ((IntKind.wrap .i64 (a0_1+1))-1))*7))+3)) (a0_0.elems.length:Int))<a0_0.elems.length/\(a0_0.ix (cr (IntKind.wrap .i64 ((IntKind.wrap .i64 ((IntKind.wrap .i64 ((IntKind.wrap .i64 (a0_1+1))-1))*7))+3)) (a0_0.elems.length:Int))).length=1)<|.aw (LK.has (.int .u8) ((a0_0.ix (cr (IntKind.wrap .i64 ((IntKind.wrap .i64 ((IntKind.wrap .i64 ((IntKind.wrap .i64 (a0_1+1))-1))*7))+3)) (a0_0.elems.length:Int))).hA)/\1<=(a0_0.ix (cr (IntKind.wrap .i64 ((IntKind.wrap .i64 ((IntKind.wrap .i64 ((IntKind.wrap .i64 (a0_1+1))-1))*7))+3)) (a0_0.elems.length:Int))).length)<|NL a0_0<|.aw (¬(a0_0.elems.length:Int)=0)<|.aw (¬(64:Int)=0)<|.aw (¬a1=0)<|.done 0 [VI (cr (qZ .i64 (IntKind.wrap .i64 ((IntKind.wrap .i64 ((IntKind.wrap .i64 ((IntKind.wrap .i64 ((IntKind.wrap .i64 (((a0_0.ix (cr (IntKind.wrap .i64 ((IntKind.wrap .i64 (a0_1+1))-1)) (a0_0.elems.length:Int))).hA).toInt))*131))+(IntKind.wrap .i64 ((IntKind.wrap .i64 (((a0_0.ix (cr (IntKind.wrap .i64 ((IntKind.wrap .i64 ((IntKind.wrap .i64 ((IntKind.wrap .i64 (a0_1+1))-1))*7))+3)) (a0_0.elems.length:Int))).hA).toInt))*1117))))+(IntKind.wrap .i64 ((IntKind.wrap .i64 ((IntKind.wrap .i64 (a0_1+1))-1))*29))))+(IntKind.wrap .i64 ((IntKind.wrap .i64 (Int.tdiv (IntKind.wrap .i64 ((IntKind.wrap .i64 (a0_1+1))-1)) (a0_0.elems.length:Int)))*53)))) (IntKind.wrap .i64 (Int.tdiv (IntKind.wrap .i64 ((IntKind.wrap .i64 ((IntKind.wrap .i64 ((IntKind.wrap .i64 ((IntKind.wrap .i64 (((a0_0.ix (cr (IntKind.wrap .i64 ((IntKind.wrap .i64 (a0_1+1))-1)) (a0_0.elems.length:Int))).hA).toInt))*131))+(IntKind.wrap .i64 ((IntKind.wrap .i64 (((a0_0.ix (cr (IntKind.wrap .i64 ((IntKind.wrap .i64 ((IntKind.wrap .i64 ((IntKind.wrap .i64 (a0_1+1))-1))*7))+3)) (a0_0.elems.length:Int))).hA).toInt))*1117))))+(IntKind.wrap .i64 ((IntKind.wrap .i64 ((IntKind.wrap .i64 (a0_1+1))-1))*29))))+(IntKind.wrap .i64 ((IntKind.wrap .i64 (Int.tdiv (IntKind.wrap .i64 ((IntKind.wrap .i64 (a0_1+1))-1)) (a0_0.elems.length:Int)))*53)))) 64))) a1)] [.cells [a0_0,VI (IntKind.wrap .i64 (a0_1+1))]])))
theorem zA(a0_0:AV)(a0_1:Int)(a1:Int)(ha0_0:LK.has .sl a0_0)(h:gI 99 (vJ a0_0 a0_1 a1) R):aI Try.prog 9 [.ref 0 0,VI a1] [.cells [a0_0,VI a0_1]] R :=
 aI.s4 (eN (eI (aD (cZ ha0_0) (aD (aS _) bd))) e9) (aI.up (aD (aS _) (aD (aS _) bd)) (oF [] {mu:=[(0,.one (.obj [.lk .sl,.lk (.int .i64)]))],own:=[]} Try.f9 h))
def yJ:LI:={hd:={bm:=[(0,.k .sl),(7,.k .sl),(8,.k (.int .i64)),(9,.k (.int .i64))]},xs:={bm:=[(0,.k .sl)]},rt:={bm:=[(2,.k .bool)]},ex:=0}
def xB:Code:=cS (cP Try.f10) 2
def xJ:LI:={hd:={bm:=[(0,.k .sl),(7,.k .sl),(8,.k (.int .i64)),(9,.k (.int .i64)),(43,.k (.int .i64)),(44,.k (.int .i64))],dG:=[(42,1)]},xs:={bm:=[(0,.k .sl),(7,.k .sl),(8,.k (.int .i64)),(9,.k (.int .i64))]},rt:={bm:=[(2,.k .bool)]},ex:=2}
def yK:Code:=cS (cP Try.f10) 7
def zg:List (Nat×LI):=[(2,yJ),(7,xJ)]
def v8(a0:AV):Tree :=
 NL a0<|.loop xB yJ [a0,a0,VI (a0.elems.length:Int),VI 0] [] (fun y4 q4=>NL (y4.hA)<|NL (y4.hA)<|.done 0 [VB (decide ((((y4.hA).elems).length:Int)<=(60:Int)))] []) (fun y4 q4=>NB (y4.hA)<|.done 0 [VB ((y4.hA).toBool)] [])
theorem yW(a0:AV)(ha0:LK.has .sl a0)(h:gI 59 (v8 a0) R):aI Try.prog 10 [a0] [] R :=
 uQ (aD (cZ ha0) bd) (oQ zg Try.f10 h)
def zN(x0:AV)(x7:AV)(x8:Int)(x9:Int):Tree :=
 NL x0<|NL x7<|NI (VI x8)<|NI (VI x9)<|.test (decide (x9<x8)) (NG x7 x9 4<|.aw (bV [.int .i64,.int .i64,.int .i64,.int .i64] (x7.ix x9) 0/\4<=(x7.ix x9).length)<|.test (decide ((((x7.ix x9).getD 0 .any).toInt)<(1:Int))) (.done 2 [VB false] []) (.test (decide ((((x7.ix x9).getD 0 .any).toInt)>(1000000000:Int))) (.done 2 [VB false] []) (.test (decide (x9>(0:Int))) (.aw (LK.has .sl x0/\0<=(IntKind.wrap .i64 (x9-1))/\(IntKind.wrap .i64 (x9-1))<x0.elems.length/\(x0.ix (IntKind.wrap .i64 (x9-1))).length=4)<|.aw (bV [.int .i64,.int .i64,.int .i64,.int .i64] (x0.ix (IntKind.wrap .i64 (x9-1))) 0/\4<=(x0.ix (IntKind.wrap .i64 (x9-1))).length)<|.call 16 [.agg [VI (((x0.ix (IntKind.wrap .i64 (x9-1))).getD 0 .any).toInt),VI (((x0.ix (IntKind.wrap .i64 (x9-1))).getD 1 .any).toInt),VI (((x0.ix (IntKind.wrap .i64 (x9-1))).getD 2 .any).toInt),VI (((x0.ix (IntKind.wrap .i64 (x9-1))).getD 3 .any).toInt)],.agg [VI (((x7.ix x9).getD 0 .any).toInt),VI (((x7.ix x9).getD 1 .any).toInt),VI (((x7.ix x9).getD 2 .any).toInt),VI (((x7.ix x9).getD 3 .any).toInt)]] [] fun r1 o1=>NI r1<|.test (decide (r1.toInt≥(0:Int))) (.done 2 [VB false] []) (.loop yK xJ [x0,x7,VI x8,VI x9,VI (([[VI (((x7.ix x9).getD 1 .any).toInt)],[VI (((x7.ix x9).getD 2 .any).toInt)],[VI (((x7.ix x9).getD 3 .any).toInt)]]:List (List AV)).length:Int),VI 0] [.vec 1 [[VI (((x7.ix x9).getD 1 .any).toInt)],[VI (((x7.ix x9).getD 2 .any).toInt)],[VI (((x7.ix x9).getD 3 .any).toInt)]]] (fun y2 q2=>NL (y2.hA)<|NL (y2.tail.hA)<|NI (y2.tail.tail.hA)<|NI (y2.tail.tail.tail.hA)<|.done 0 [(y2.hA),(y2.tail.hA),VI ((y2.tail.tail.hA).toInt),VI (IntKind.wrap .i64 (((y2.tail.tail.tail.hA).toInt)+1))] []) (fun y2 q2=>NB (y2.hA)<|.done 2 [VB ((y2.hA).toBool)] []))) (.loop yK xJ [x0,x7,VI x8,VI x9,VI (([[VI (((x7.ix x9).getD 1 .any).toInt)],[VI (((x7.ix x9).getD 2 .any).toInt)],[VI (((x7.ix x9).getD 3 .any).toInt)]]:List (List AV)).length:Int),VI 0] [.vec 1 [[VI (((x7.ix x9).getD 1 .any).toInt)],[VI (((x7.ix x9).getD 2 .any).toInt)],[VI (((x7.ix x9).getD 3 .any).toInt)]]] (fun y3 q3=>NL (y3.hA)<|NL (y3.tail.hA)<|NI (y3.tail.tail.hA)<|NI (y3.tail.tail.tail.hA)<|.done 0 [(y3.hA),(y3.tail.hA),VI ((y3.tail.tail.hA).toInt),VI (IntKind.wrap .i64 (((y3.tail.tail.tail.hA).toInt)+1))] []) (fun y3 q3=>NB (y3.hA)<|.done 2 [VB ((y3.hA).toBool)] []))))) (.done 1 [x0] [])
abbrev tY:=bP Try.prog 59 xB yJ
theorem xc(x0:AV)(x7:AV)(x8:Int)(x9:Int)(h:lN 59 (zN x0 x7 x8 x9) tY U):tY [x0,x7,VI x8,VI x9] [] U :=
 gQ zg h
def ux(x0:AV)(x7:AV)(x8:Int)(x9:Int)(x43:Int)(x44:Int)(e42:List (List AV)):Tree :=
 NL x0<|NL x7<|NI (VI x8)<|NI (VI x9)<|NI (VI x43)<|NI (VI x44)<|.aw (Ob.vec 1 e42=.vec 1 e42)<|.test (decide (x44<x43)) (.aw (0<=x44/\x44<e42.length)<|.aw (x44.toNat<e42.length/\0<(e42.getD x44.toNat []).length/\LK.has (.int .i64) ((e42.getD x44.toNat []).getD 0 .any))<|.test (decide ((((e42.getD x44.toNat []).getD 0 .any).toInt)<(0:Int))) (.done 2 [VB false] []) (.test (decide ((((e42.getD x44.toNat []).getD 0 .any).toInt)>(400:Int))) (.done 2 [VB false] []) (.done 0 [x0,x7,VI x8,VI x9,VI x43,VI (IntKind.wrap .i64 (x44+1))] [.vec 1 e42]))) (.done 1 [x0,x7,VI x8,VI x9] [])
abbrev zn:=bP Try.prog 59 yK xJ
theorem xz(x0:AV)(x7:AV)(x8:Int)(x9:Int)(x43:Int)(x44:Int)(e42:List (List AV))(h:lN 59 (ux x0 x7 x8 x9 x43 x44 e42) zn U):zn [x0,x7,VI x8,VI x9,VI x43,VI x44] [.vec 1 e42] U :=
 gQ zg h
def yX:LI:={hd:={bm:=[(0,.k .sl),(3,.k (.int .i64))]},xs:={bm:=[(0,.k .sl)]},rt:={bm:=[(2,.k .bool)]},ex:=0}
def vH:Code:=cS (cP Try.f11) 2
def vr:List (Nat×LI):=[(2,yX)]
def w8(a0:AV):Tree :=
 .loop vH yX [a0,VI 0] [] (fun y6 q6=>NL (y6.hA)<|NL (y6.hA)<|.done 0 [VB (decide ((((y6.hA).elems).length:Int)<=(60:Int)))] []) (fun y6 q6=>NB (y6.hA)<|.done 0 [VB ((y6.hA).toBool)] [])
theorem yd(a0:AV)(ha0:LK.has .sl a0)(h:gI 52 (w8 a0) R):aI Try.prog 11 [a0] [] R :=
 uQ (aD (cZ ha0) bd) (oQ vr Try.f11 h)
def uK(x0:AV)(x3:Int):Tree :=
 NL x0<|NI (VI x3)<|NL x0<|.test (decide (x3<(x0.elems.length:Int))) (NG x0 x3 4<|.aw (bV [.int .i64,.int .i64,.int .i64,.int .i64] (x0.ix x3) 0/\4<=(x0.ix x3).length)<|.call 12 [VI (((x0.ix x3).getD 0 .any).toInt),VI 1,VI 1000000000] [] fun r1 o1=>NB r1<|.test (!r1.toBool) (.done 2 [VB false] []) (.call 12 [VI (((x0.ix x3).getD 1 .any).toInt),VI 0,VI 400] [] fun r2 o2=>NB r2<|.test (!r2.toBool) (.done 2 [VB false] []) (.call 12 [VI (((x0.ix x3).getD 2 .any).toInt),VI 0,VI 400] [] fun r3 o3=>NB r3<|.test (!r3.toBool) (.done 2 [VB false] []) (.call 12 [VI (((x0.ix x3).getD 3 .any).toInt),VI 0,VI 400] [] fun r4 o4=>NB r4<|.test (!r4.toBool) (.done 2 [VB false] []) (.test (decide (x3>(0:Int))) (.aw (LK.has .sl x0/\0<=(IntKind.wrap .i64 (x3-1))/\(IntKind.wrap .i64 (x3-1))<x0.elems.length/\(x0.ix (IntKind.wrap .i64 (x3-1))).length=4)<|.aw (bV [.int .i64,.int .i64,.int .i64,.int .i64] (x0.ix (IntKind.wrap .i64 (x3-1))) 0/\4<=(x0.ix (IntKind.wrap .i64 (x3-1))).length)<|.call 17 [.agg [VI (((x0.ix (IntKind.wrap .i64 (x3-1))).getD 0 .any).toInt),VI (((x0.ix (IntKind.wrap .i64 (x3-1))).getD 1 .any).toInt),VI (((x0.ix (IntKind.wrap .i64 (x3-1))).getD 2 .any).toInt),VI (((x0.ix (IntKind.wrap .i64 (x3-1))).getD 3 .any).toInt)],.agg [VI (((x0.ix x3).getD 0 .any).toInt),VI (((x0.ix x3).getD 1 .any).toInt),VI (((x0.ix x3).getD 2 .any).toInt),VI (((x0.ix x3).getD 3 .any).toInt)]] [] fun r5 o5=>NB r5<|.test (!r5.toBool) (.done 2 [VB false] []) (.done 0 [x0,VI (IntKind.wrap .i64 (x3+1))] [])) (.done 0 [x0,VI (IntKind.wrap .i64 (x3+1))] [])))))) (.done 1 [x0] [])
abbrev uu:=bP Try.prog 52 vH yX
theorem u9(x0:AV)(x3:Int)(h:lN 52 (uK x0 x3) uu U):uu [x0,VI x3] [] U :=
 gQ vr h
def u7(a0:Int)(a1:Int)(a2:Int):Tree :=
 .test (decide (a0≥a1)) (.done 0 [VB (decide (a0<=a2))] []) (.done 0 [VB false] [])
theorem yF(a0:Int)(a1:Int)(a2:Int)(h:gI 15 (u7 a0 a1 a2) R):aI Try.prog 12 [VI a0,VI a1,VI a2] [] R :=
 uQ (aD (aS _) (aD (aS _) (aD (aS _) bd))) (oQ [] Try.f12 h)
def zI:LI:={hd:={bm:=[(0,.k (.int .i64)),(1,.k (.int .i64)),(2,.k (.int .i64)),(7,.k (.int .i64))]},xs:={bm:=[(0,.k (.int .i64))]},rt:={},ex:=0}
def wP:Code:=cS (cP Try.f13) 2
def wO:List (Nat×LI):=[(2,zI)]
def vw(a0:Int)(a1:Int)(a2:Int):Tree :=
 .loop wP zI [VI a0,VI a1,VI a2,VI 0] [] (fun y1 q1=>NI (y1.hA)<|.done 0 [VI (if 1000000001<((y1.hA).toInt)then 1000000001 else((y1.hA).toInt))] []) (fun y1 q1=>.done 0 [.any] [])
theorem yI(a0:Int)(a1:Int)(a2:Int)(h:gI 26 (vw a0 a1 a2) R):aI Try.prog 13 [VI a0,VI a1,VI a2] [] R :=
 uQ (aD (aS _) (aD (aS _) (aD (aS _) bd))) (oQ wO Try.f13 h)
def uf(x0:Int)(x1:Int)(x2:Int)(x7:Int):Tree :=
 NI (VI x0)<|NI (VI x1)<|NI (VI x2)<|NI (VI x7)<|.test (decide (x7<x2)) (.test (decide (x0>(0:Int))) (.test (decide (x0<=(1000000000:Int))) (.done 0 [VI (IntKind.wrap .i64 (x0*x1)),VI x1,VI x2,VI (IntKind.wrap .i64 (x7+1))] []) (.done 1 [VI x0] [])) (.done 1 [VI x0] [])) (.done 1 [VI x0] [])
abbrev tV:=bP Try.prog 26 wP zI
theorem uX(x0:Int)(x1:Int)(x2:Int)(x7:Int)(h:lN 26 (uf x0 x1 x2 x7) tV U):tV [VI x0,VI x1,VI x2,VI x7] [] U :=
 gQ wO h
def wc(a0:ByteArray):Tree :=
 .call 18 [VS a0] [] fun r1 o1=>NT r1<|.aw ((r1.comp 0)=.agg (r1.comp 0).cs/\(r1.comp 0).cs.length=2/\bV [.str,.sl] ((r1.comp 0).cs) 0)<|NB (r1.comp 1)<|.test (!((r1.comp 1).toBool)) (.done 0 [.cz [.vec 0,VB false]] [.vec 4 []]) (.call 19 [.agg [VS (((r1.comp 0).cs.getD 0 .any).toStr),((r1.comp 0).cs.getD 1 .any)]] [] fun r2 o2=>NT r2<|.aw (r2.comp 0=.vec 0/\(o2.hO)=.vec 4 (o2.hO).es)<|NB (r2.comp 1)<|.aw (∀x,x∈o2->dF x)<|.test (!((r2.comp 1).toBool)) (.done 0 [.cz [.vec 0,VB false]] [.vec 4 []]) (.done 0 [.cz [.vec 0,VB true]] [.vec 4 ((o2.hO).es)]))
theorem yl(a0:ByteArray)(h:gI 25 (wc a0) R):aI Try.prog 14 [VS a0] [] R :=
 uQ (aD (aS _) bd) (oF [] {mu:=[],own:=[0]} Try.f14 h)
def tu(a0_0:AV)(a0_1:Int)(a1:Int):Tree :=
 .test (decide (a1<=(0:Int))) (.call 20 [.ref 0 0,.sl [[VS (mk [120])],[VS (mk [49])],[VS (mk [121])],[VS (mk [120])],[VS (mk [122])],[VS (mk [48])],[VS (mk [49])]]] [.cells [a0_0,VI a0_1]] fun r1 o1=>.aw ((o1.hO)=.cells (o1.hO).cs)<|.aw (aZ [.lk .sl,.lk (.int .i64)] ((o1.hO).cs) 0 1 o1.tail)<|NS r1<|.done 0 [VS r1.toStr] [.cells [((o1.hO).cs.getD 0 .any),VI (((o1.hO).cs.getD 1 .any).toInt)]]) (.call 9 [.ref 0 0,VI 4] [.cells [a0_0,VI a0_1]] fun r2 o2=>.aw ((o2.hO)=.cells (o2.hO).cs)<|.aw (aZ [.lk .sl,.lk (.int .i64)] ((o2.hO).cs) 0 1 o2.tail)<|NI r2<|.test (r2.toInt==(0:Int)) (.call 20 [.ref 0 0,.sl [[VS (mk [120])],[VS (mk [49])],[VS (mk [121])],[VS (mk [120])],[VS (mk [122])],[VS (mk [48])],[VS (mk [49])]]] [.cells [((o2.hO).cs.getD 0 .any),VI (((o2.hO).cs.getD 1 .any).toInt)]] fun r3 o3=>.aw ((o3.hO)=.cells (o3.hO).cs)<|.aw (aZ [.lk .sl,.lk (.int .i64)] ((o3.hO).cs) 0 1 o3.tail)<|NS r3<|.done 0 [VS r3.toStr] [.cells [((o3.hO).cs.getD 0 .any),VI (((o3.hO).cs.getD 1 .any).toInt)]]) (.call 9 [.ref 0 0,VI 24] [.cells [((o2.hO).cs.getD 0 .any),VI (((o2.hO).cs.getD 1 .any).toInt)]] fun r4 o4=>.aw ((o4.hO)=.cells (o4.hO).cs)<|.aw (aZ [.lk .sl,.lk (.int .i64)] ((o4.hO).cs) 0 1 o4.tail)<|NI r4<|.test (r4.toInt==(0:Int)) (.call 21 [.ref 0 0] [.cells [((o4.hO).cs.getD 0 .any),VI (((o4.hO).cs.getD 1 .any).toInt)]] fun r5 o5=>.aw ((o5.hO)=.cells (o5.hO).cs)<|.aw (aZ [.lk .sl,.lk (.int .i64)] ((o5.hO).cs) 0 1 o5.tail)<|NS r5<|.done 0 [VS r5.toStr] [.cells [((o5.hO).cs.getD 0 .any),VI (((o5.hO).cs.getD 1 .any).toInt)]]) (.call 20 [.ref 0 0,.sl [[VS (mk [40,43,32])],[VS (mk [40,42,32])]]] [.cells [((o4.hO).cs.getD 0 .any),VI (((o4.hO).cs.getD 1 .any).toInt)]] fun r6 o6=>.aw ((o6.hO)=.cells (o6.hO).cs)<|.aw (aZ [.lk .sl,.lk (.int .i64)] ((o6.hO).cs) 0 1 o6.tail)<|NS r6<|.call 15 [.ref 0 0,VI (IntKind.wrap .i64 (a1-1))] [.cells [((o6.hO).cs.getD 0 .any),VI (((o6.hO).cs.getD 1 .any).toInt)]] fun r7 o7=>.aw ((o7.hO)=.cells (o7.hO).cs)<|.aw (aZ [.lk .sl,.lk (.int .i64)] ((o7.hO).cs) 0 1 o7.tail)<|NS r7<|.aw (aj r6.toStr+aj r7.toStr<=9223372036854775807)<|.aw (aj ((r6.toStr:ByteArray)++r7.toStr)+aj (mk [32])<=9223372036854775807)<|.call 15 [.ref 0 0,VI (IntKind.wrap .i64 (a1-1))] [.cells [((o7.hO).cs.getD 0 .any),VI (((o7.hO).cs.getD 1 .any).toInt)]] fun r8 o8=>.aw ((o8.hO)=.cells (o8.hO).cs)<|.aw (aZ [.lk .sl,.lk (.int .i64)] ((o8.hO).cs) 0 1 o8.tail)<|NS r8<|.aw (aj ((((r6.toStr:ByteArray)++r7.toStr):ByteArray)++(mk [32]))+aj r8.toStr<=9223372036854775807)<|.aw (aj ((((((r6.toStr:ByteArray)++r7.toStr):ByteArray)++(mk [32])):ByteArray)++r8.toStr)+aj (mk [41])<=9223372036854775807)<|.done 0 [VS ((((((((r6.toStr:ByteArray)++r7.toStr):ByteArray)++(mk [32])):ByteArray)++r8.toStr):ByteArray)++(mk [41]))] [.cells [((o8.hO).cs.getD 0 .any),VI (((o8.hO).cs.getD 1 .any).toInt)]])))
theorem xt(a0_0:AV)(a0_1:Int)(a1:Int)(ha0_0:LK.has .sl a0_0)(h:gI 35 (tu a0_0 a0_1 a1) R):aI Try.prog 15 [.ref 0 0,VI a1] [.cells [a0_0,VI a0_1]] R :=
 aI.s4 (eN (eI (aD (cZ ha0_0) (aD (aS _) bd))) e9) (aI.up (aD (aS _) (aD (aS _) bd)) (oF [] {mu:=[(0,.one (.obj [.lk .sl,.lk (.int .i64)]))],own:=[]} Try.f15 h))
def xE(a0_0:Int)(a0_1:Int)(a0_2:Int)(a0_3:Int)(a1_0:Int)(a1_1:Int)(a1_2:Int)(a1_3:Int):Tree :=
 .call 23 [VI a1_1,VI a0_1] [] fun r1 o1=>NI r1<|.call 23 [VI a1_2,VI a0_2] [] fun r2 o2=>NI r2<|.call 23 [VI a1_3,VI a0_3] [] fun r3 o3=>NI r3<|.call 22 [.sl [[VI r1.toInt],[VI r2.toInt],[VI r3.toInt]]] [] fun r4 o4=>NI r4<|.done 0 [VI r4.toInt] []
theorem zV(a0_0:Int)(a0_1:Int)(a0_2:Int)(a0_3:Int)(a1_0:Int)(a1_1:Int)(a1_2:Int)(a1_3:Int)(h:gI 22 (xE a0_0 a0_1 a0_2 a0_3 a1_0 a1_1 a1_2 a1_3) R):aI Try.prog 16 [.agg [VI a0_0,VI a0_1,VI a0_2,VI a0_3],.agg [VI a1_0,VI a1_1,VI a1_2,VI a1_3]] [] R :=
 uQ (aD (aS _) (aD (aS _) bd)) (oQ [] Try.f16 h)
def vV(a0_0:Int)(a0_1:Int)(a0_2:Int)(a0_3:Int)(a1_0:Int)(a1_1:Int)(a1_2:Int)(a1_3:Int):Tree :=
 .test (a0_1 != a1_1) (.done 0 [VB (decide (a0_1>a1_1))] []) (.test (a0_2 != a1_2) (.done 0 [VB (decide (a0_2>a1_2))] []) (.done 0 [VB (decide (a0_3>a1_3))] []))
theorem yh(a0_0:Int)(a0_1:Int)(a0_2:Int)(a0_3:Int)(a1_0:Int)(a1_1:Int)(a1_2:Int)(a1_3:Int)(h:gI 30 (vV a0_0 a0_1 a0_2 a0_3 a1_0 a1_1 a1_2 a1_3) R):aI Try.prog 17 [.agg [VI a0_0,VI a0_1,VI a0_2,VI a0_3],.agg [VI a1_0,VI a1_1,VI a1_2,VI a1_3]] [] R :=
 uQ (aD (aS _) (aD (aS _) bd)) (oQ [] Try.f17 h)
def wH(a0:ByteArray):Tree :=
 .call 24 [VS a0] [] fun r1 o1=>NT r1<|.aw ((r1.comp 0)=.agg (r1.comp 0).cs/\(r1.comp 0).cs.length=2/\bV [.str,.sl] ((r1.comp 0).cs) 0)<|NB (r1.comp 1)<|.test ((r1.comp 1).toBool) (.call 25 [.agg [VS (((r1.comp 0).cs.getD 0 .any).toStr),((r1.comp 0).cs.getD 1 .any)]] [] fun r2 o2=>NB r2<|.done 0 [.cz [.agg [VS (((r1.comp 0).cs.getD 0 .any).toStr),((r1.comp 0).cs.getD 1 .any)],VB r2.toBool]] []) (.done 0 [.cz [.agg [VS (((r1.comp 0).cs.getD 0 .any).toStr),((r1.comp 0).cs.getD 1 .any)],VB false]] [])
theorem yc(a0:ByteArray)(h:gI 17 (wH a0) R):aI Try.prog 18 [VS a0] [] R :=
 uQ (aD (aS _) bd) (oQ [] Try.f18 h)
def uA:LI:={hd:={bm:=[(9,.k (.int .i64))],dG:=[(6,4),(8,4)]},xs:={dG:=[(8,4)]},rt:={},ex:=1}
def xh:Code:=cS (cP Try.f19) 20
def tF:LI:={hd:={bm:=[(10,.k (.int .i64))],dG:=[(4,4),(6,4),(8,4)]},xs:={dG:=[(8,4)]},rt:={},ex:=3}
def xC:Code:=cS (cP Try.f19) 25
def yH:LI:={hd:={bm:=[(10,.k (.int .i64)),(11,.k (.int .i64))],dG:=[(4,4),(6,4),(8,4)]},xs:={bm:=[(10,.k (.int .i64))],dG:=[(4,4),(6,4),(8,4)]},rt:={},ex:=5}
def vL:Code:=cS (cP Try.f19) 28
def xN:List (Nat×LI):=[(20,uA),(25,tF),(28,yH)]
def uz(a0_0:ByteArray)(a0_1:AV):Tree :=
 .test (au a0_0==au (mk [48])) (.done 0 [.cz [.vec 0,VB true]] [.vec 4 []]) (.test (au a0_0==au (mk [49])) (.done 0 [.cz [.vec 0,VB true]] [.vec 4 [[VI 1,VI 0,VI 0,VI 0]]]) (.test (au a0_0==au (mk [120])) (.done 0 [.cz [.vec 0,VB true]] [.vec 4 [[VI 1,VI 1,VI 0,VI 0]]]) (.test (au a0_0==au (mk [121])) (.done 0 [.cz [.vec 0,VB true]] [.vec 4 [[VI 1,VI 0,VI 1,VI 0]]]) (.test (au a0_0==au (mk [122])) (.done 0 [.cz [.vec 0,VB true]] [.vec 4 [[VI 1,VI 0,VI 0,VI 1]]]) (NG a0_1 1 2<|NE (a0_1.ix (1:Int))<|.call 19 [.agg [VS (((a0_1.ix (1:Int)).getD 0 .any).toStr),((a0_1.ix (1:Int)).getD 1 .any)]] [] fun r1 o1=>NT r1<|.aw (r1.comp 0=.vec 0/\(o1.hO)=.vec 4 (o1.hO).es)<|NB (r1.comp 1)<|.aw (∀x,x∈o1->dF x)<|NG a0_1 2 2<|NE (a0_1.ix (2:Int))<|.call 19 [.agg [VS (((a0_1.ix (2:Int)).getD 0 .any).toStr),((a0_1.ix (2:Int)).getD 1 .any)]] [] fun r2 o2=>NT r2<|.aw (r2.comp 0=.vec 0/\(o2.hO)=.vec 4 (o2.hO).es)<|NB (r2.comp 1)<|.aw (∀x,x∈o2->dF x)<|.test (!((r1.comp 1).toBool)) (.done 0 [.cz [.vec 0,VB false]] [.vec 4 ((o1.hO).es)]) (.test (!((r2.comp 1).toBool)) (.done 0 [.cz [.vec 0,VB false]] [.vec 4 ((o1.hO).es)]) (.call 26 [.agg [VS a0_0,a0_1]] [] fun r3 o3=>NS r3<|.test (au r3.toStr==au (mk [43])) (.aw (bO 4 ((o1.hO).es)/\((([]:List (List AV)).length)+((o1.hO).es).length)*32<=140737488355328)<|.loop xh uA [VI 0] [.vec 4 ((o2.hO).es),.vec 4 (([]:List (List AV))++((o1.hO).es))] (fun y5 q5=>.aw (((q5.drop 0).hO)=.vec 4 ((q5.drop 0).hO).es)<|.call 28 [.sl ((q5.hO).es)] [] fun r6 o6=>NB r6<|.done 0 [.cz [.vec 0,VB r6.toBool]] [.vec 4 ((q5.hO).es)]) (fun y5 q5=>.fail)) (.loop xC tF [VI 0] [.vec 4 ((o1.hO).es),.vec 4 ((o2.hO).es),.vec 4 []] (fun y9 q9=>.aw (((q9.drop 0).hO)=.vec 4 ((q9.drop 0).hO).es)<|.call 28 [.sl ((q9.hO).es)] [] fun r10 o10=>NB r10<|.done 0 [.cz [.vec 0,VB r10.toBool]] [.vec 4 ((q9.hO).es)]) (fun y9 q9=>.fail)))))))))
theorem vy(a0_0:ByteArray)(a0_1:AV)(ha0_1:LK.has .sl a0_1)(h:gI 143 (uz a0_0 a0_1) R):aI Try.prog 19 [.agg [VS a0_0,a0_1]] [] R :=
 uQ (aD (kk (aD (aS _) (aD (cZ ha0_1) bd))) bd) (oF xN {mu:=[],own:=[0]} Try.f19 h)
def zQ(x9:Int)(e6:List (List AV))(e8:List (List AV)):Tree :=
 NI (VI x9)<|.aw (Ob.vec 4 e6=.vec 4 e6)<|.aw (Ob.vec 4 e8=.vec 4 e8)<|.test (decide (x9<(e6.length:Int))) (.aw (0<=x9/\x9<e6.length)<|.aw (x9.toNat<e6.length/\0+4<=(e6.getD x9.toNat []).length/\bV [.int .i64,.int .i64,.int .i64,.int .i64] (e6.getD x9.toNat []) 0)<|.call 27 [.sl e8,.agg [VI (((e6.getD x9.toNat []).getD (0) .any).toInt),VI (((e6.getD x9.toNat []).getD (0+1) .any).toInt),VI (((e6.getD x9.toNat []).getD (0+1+1) .any).toInt),VI (((e6.getD x9.toNat []).getD (0+1+1+1) .any).toInt)]] [] fun r1 o1=>.aw (r1=.vec 0/\(o1.hO)=.vec 4 (o1.hO).es)<|.aw (∀x,x∈o1->dF x)<|.done 0 [VI (IntKind.wrap .i64 (x9+1))] [.vec 4 e6,.vec 4 ((o1.hO).es)]) (.done 1 [] [.vec 4 e8])
abbrev uC:=bP Try.prog 143 xh uA
theorem xi(x9:Int)(e6:List (List AV))(e8:List (List AV))(h:lN 143 (zQ x9 e6 e8) uC U):uC [VI x9] [.vec 4 e6,.vec 4 e8] U :=
 gQ xN h
def xY(x10:Int)(e4:List (List AV))(e6:List (List AV))(e8:List (List AV)):Tree :=
 NI (VI x10)<|.aw (Ob.vec 4 e4=.vec 4 e4)<|.aw (Ob.vec 4 e6=.vec 4 e6)<|.aw (Ob.vec 4 e8=.vec 4 e8)<|.test (decide (x10<(e4.length:Int))) (.loop vL yH [VI x10,VI 0] [.vec 4 e4,.vec 4 e6,.vec 4 e8] (fun y1 q1=>NI (y1.hA)<|.aw (((q1.drop 0).hO)=.vec 4 ((q1.drop 0).hO).es)<|.aw (((q1.drop 0).tail.hO)=.vec 4 ((q1.drop 0).tail.hO).es)<|.aw (((q1.drop 0).tail.tail.hO)=.vec 4 ((q1.drop 0).tail.tail.hO).es)<|.done 0 [VI (IntKind.wrap .i64 (((y1.hA).toInt)+1))] [.vec 4 ((q1.hO).es),.vec 4 ((q1.tail.hO).es),.vec 4 ((q1.tail.tail.hO).es)]) (fun y1 q1=>.done 2 [] [])) (.done 1 [] [.vec 4 e8])
abbrev xZ:=bP Try.prog 143 xC tF
theorem wM(x10:Int)(e4:List (List AV))(e6:List (List AV))(e8:List (List AV))(h:lN 143 (xY x10 e4 e6 e8) xZ U):xZ [VI x10] [.vec 4 e4,.vec 4 e6,.vec 4 e8] U :=
 gQ xN h
def uO(x10:Int)(x11:Int)(e4:List (List AV))(e6:List (List AV))(e8:List (List AV)):Tree :=
 NI (VI x10)<|NI (VI x11)<|.aw (Ob.vec 4 e4=.vec 4 e4)<|.aw (Ob.vec 4 e6=.vec 4 e6)<|.aw (Ob.vec 4 e8=.vec 4 e8)<|.test (decide (x11<(e6.length:Int))) (.aw (0<=x10/\x10<e4.length)<|.aw (x10.toNat<e4.length/\0<(e4.getD x10.toNat []).length/\LK.has (.int .i64) ((e4.getD x10.toNat []).getD 0 .any))<|.aw (0<=x11/\x11<e6.length)<|.aw (x11.toNat<e6.length/\0<(e6.getD x11.toNat []).length/\LK.has (.int .i64) ((e6.getD x11.toNat []).getD 0 .any))<|.aw (0<=x10/\x10<e4.length)<|.aw (x10.toNat<e4.length/\1<(e4.getD x10.toNat []).length/\LK.has (.int .i64) ((e4.getD x10.toNat []).getD 1 .any))<|.aw (0<=x11/\x11<e6.length)<|.aw (x11.toNat<e6.length/\1<(e6.getD x11.toNat []).length/\LK.has (.int .i64) ((e6.getD x11.toNat []).getD 1 .any))<|.aw (0<=x10/\x10<e4.length)<|.aw (x10.toNat<e4.length/\2<(e4.getD x10.toNat []).length/\LK.has (.int .i64) ((e4.getD x10.toNat []).getD 2 .any))<|.aw (0<=x11/\x11<e6.length)<|.aw (x11.toNat<e6.length/\2<(e6.getD x11.toNat []).length/\LK.has (.int .i64) ((e6.getD x11.toNat []).getD 2 .any))<|.aw (0<=x10/\x10<e4.length)<|.aw (x10.toNat<e4.length/\3<(e4.getD x10.toNat []).length/\LK.has (.int .i64) ((e4.getD x10.toNat []).getD 3 .any))<|.aw (0<=x11/\x11<e6.length)<|.aw (x11.toNat<e6.length/\3<(e6.getD x11.toNat []).length/\LK.has (.int .i64) ((e6.getD x11.toNat []).getD 3 .any))<|.call 27 [.sl e8,.agg [VI (if(IntKind.wrap .i64 ((((e4.getD x10.toNat []).getD 0 .any).toInt)*(((e6.getD x11.toNat []).getD 0 .any).toInt)))<1000000001 then(IntKind.wrap .i64 ((((e4.getD x10.toNat []).getD 0 .any).toInt)*(((e6.getD x11.toNat []).getD 0 .any).toInt)))else 1000000001),VI (IntKind.wrap .i64 ((((e4.getD x10.toNat []).getD 1 .any).toInt)+(((e6.getD x11.toNat []).getD 1 .any).toInt))),VI (IntKind.wrap .i64 ((((e4.getD x10.toNat []).getD 2 .any).toInt)+(((e6.getD x11.toNat []).getD 2 .any).toInt))),VI (IntKind.wrap .i64 ((((e4.getD x10.toNat []).getD 3 .any).toInt)+(((e6.getD x11.toNat []).getD 3 .any).toInt)))]] [] fun r1 o1=>.aw (r1=.vec 0/\(o1.hO)=.vec 4 (o1.hO).es)<|.aw (∀x,x∈o1->dF x)<|.done 0 [VI x10,VI (IntKind.wrap .i64 (x11+1))] [.vec 4 e4,.vec 4 e6,.vec 4 ((o1.hO).es)]) (.done 1 [VI x10] [.vec 4 e4,.vec 4 e6,.vec 4 e8])
abbrev tA:=bP Try.prog 143 vL yH
theorem wQ(x10:Int)(x11:Int)(e4:List (List AV))(e6:List (List AV))(e8:List (List AV))(h:lN 143 (uO x10 x11 e4 e6 e8) tA U):tA [VI x10,VI x11] [.vec 4 e4,.vec 4 e6,.vec 4 e8] U :=
 gQ xN h
def vh(a0_0:AV)(a0_1:Int)(a1:AV):Tree :=
 NL a1<|.call 9 [.ref 0 0,VI (a1.elems.length:Int)] [.cells [a0_0,VI a0_1]] fun r1 o1=>.aw ((o1.hO)=.cells (o1.hO).cs)<|.aw (aZ [.lk .sl,.lk (.int .i64)] ((o1.hO).cs) 0 1 o1.tail)<|NI r1<|.aw (LK.has .sl a1/\0<=r1.toInt/\r1.toInt<a1.elems.length/\(a1.elems.getD r1.toInt.toNat []).length=1)<|uR (a1.elems.getD r1.toInt.toNat [])<|.done 0 [VS (((a1.elems.getD r1.toInt.toNat []).hA).toStr)] [.cells [((o1.hO).cs.getD 0 .any),VI (((o1.hO).cs.getD 1 .any).toInt)]]
theorem yz(a0_0:AV)(a0_1:Int)(a1:AV)(ha1:LK.has .sl a1)(ha0_0:LK.has .sl a0_0)(h:gI 12 (vh a0_0 a0_1 a1) R):aI Try.prog 20 [.ref 0 0,a1] [.cells [a0_0,VI a0_1]] R :=
 aI.s4 (eN (eI (aD (cZ ha0_0) (aD (aS _) bd))) e9) (aI.up (aD (aS _) (aD (cZ ha1) bd)) (oF [] {mu:=[(0,.one (.obj [.lk .sl,.lk (.int .i64)]))],own:=[]} Try.f20 h))
def vQ(a0_0:AV)(a0_1:Int):Tree :=
 .call 9 [.ref 0 0,VI 12] [.cells [a0_0,VI a0_1]] fun r1 o1=>.aw ((o1.hO)=.cells (o1.hO).cs)<|.aw (aZ [.lk .sl,.lk (.int .i64)] ((o1.hO).cs) 0 1 o1.tail)<|NI r1<|.test (r1.toInt==(0:Int)) (.call 20 [.ref 0 0,.sl [[VS (mk [])],[VS (mk [97])],[VS (mk [40,43,32,49,41])],[VS (mk [40,114,101,99,32,120,32,49,41])],[VS (mk [40,114,101,99,32,116,41])],[VS (mk [40,43,32,32,49,32,49,41])],[VS (mk [40,42,32,49,32,49,32,49,41])],[VS (mk [116,49,48,48])],[VS (mk [120,32,49])]]] [.cells [((o1.hO).cs.getD 0 .any),VI (((o1.hO).cs.getD 1 .any).toInt)]] fun r2 o2=>.aw ((o2.hO)=.cells (o2.hO).cs)<|.aw (aZ [.lk .sl,.lk (.int .i64)] ((o2.hO).cs) 0 1 o2.tail)<|NS r2<|.done 0 [VS r2.toStr] [.cells [((o2.hO).cs.getD 0 .any),VI (((o2.hO).cs.getD 1 .any).toInt)]]) (.test (r1.toInt==(1:Int)) (.call 29 [.ref 0 0] [.cells [((o1.hO).cs.getD 0 .any),VI (((o1.hO).cs.getD 1 .any).toInt)]] fun r3 o3=>.aw ((o3.hO)=.cells (o3.hO).cs)<|.aw (aZ [.lk .sl,.lk (.int .i64)] ((o3.hO).cs) 0 1 o3.tail)<|NS r3<|.done 0 [VS r3.toStr] [.cells [((o3.hO).cs.getD 0 .any),VI (((o3.hO).cs.getD 1 .any).toInt)]]) (.test (r1.toInt==(2:Int)) (.call 29 [.ref 0 0] [.cells [((o1.hO).cs.getD 0 .any),VI (((o1.hO).cs.getD 1 .any).toInt)]] fun r4 o4=>.aw ((o4.hO)=.cells (o4.hO).cs)<|.aw (aZ [.lk .sl,.lk (.int .i64)] ((o4.hO).cs) 0 1 o4.tail)<|NS r4<|.done 0 [VS r4.toStr] [.cells [((o4.hO).cs.getD 0 .any),VI (((o4.hO).cs.getD 1 .any).toInt)]]) (.test (r1.toInt==(3:Int)) (.call 29 [.ref 0 0] [.cells [((o1.hO).cs.getD 0 .any),VI (((o1.hO).cs.getD 1 .any).toInt)]] fun r5 o5=>.aw ((o5.hO)=.cells (o5.hO).cs)<|.aw (aZ [.lk .sl,.lk (.int .i64)] ((o5.hO).cs) 0 1 o5.tail)<|NS r5<|.done 0 [VS r5.toStr] [.cells [((o5.hO).cs.getD 0 .any),VI (((o5.hO).cs.getD 1 .any).toInt)]]) (.test (r1.toInt==(4:Int)) (.call 30 [.ref 0 0,.sl [[VS (mk [116])],[VS (mk [116,49])]],VI 2] [.cells [((o1.hO).cs.getD 0 .any),VI (((o1.hO).cs.getD 1 .any).toInt)]] fun r6 o6=>.aw ((o6.hO)=.cells (o6.hO).cs)<|.aw (aZ [.lk .sl,.lk (.int .i64)] ((o6.hO).cs) 0 1 o6.tail)<|NS r6<|.done 0 [VS r6.toStr] [.cells [((o6.hO).cs.getD 0 .any),VI (((o6.hO).cs.getD 1 .any).toInt)]]) (.call 30 [.ref 0 0,.sl [],VI 3] [.cells [((o1.hO).cs.getD 0 .any),VI (((o1.hO).cs.getD 1 .any).toInt)]] fun r7 o7=>.aw ((o7.hO)=.cells (o7.hO).cs)<|.aw (aZ [.lk .sl,.lk (.int .i64)] ((o7.hO).cs) 0 1 o7.tail)<|NS r7<|.done 0 [VS r7.toStr] [.cells [((o7.hO).cs.getD 0 .any),VI (((o7.hO).cs.getD 1 .any).toInt)]])))))
theorem zm(a0_0:AV)(a0_1:Int)(ha0_0:LK.has .sl a0_0)(h:gI 24 (vQ a0_0 a0_1) R):aI Try.prog 21 [.ref 0 0] [.cells [a0_0,VI a0_1]] R :=
 aI.s4 (eN (eI (aD (cZ ha0_0) (aD (aS _) bd))) e9) (aI.up (aD (aS _) bd) (oF [] {mu:=[(0,.one (.obj [.lk .sl,.lk (.int .i64)]))],own:=[]} Try.f21 h))
def yL:LI:={hd:={bm:=[(3,.k (.int .i64)),(6,.k .sl),(7,.k (.int .i64)),(8,.k (.int .i64))]},xs:={bm:=[(3,.k (.int .i64))]},rt:={bm:=[(2,.k (.int .i64))]},ex:=0}
def w7:Code:=cS (cP Try.f22) 3
def wa:List (Nat×LI):=[(3,yL)]
def vZ(a0:AV):Tree :=
 NL a0<|.loop w7 yL [VI 0,a0,VI (a0.elems.length:Int),VI 0] [] (fun y1 q1=>NI (y1.hA)<|.done 0 [VI ((y1.hA).toInt)] []) (fun y1 q1=>NI (y1.hA)<|.done 0 [VI ((y1.hA).toInt)] [])
theorem zL(a0:AV)(ha0:LK.has .sl a0)(h:gI 18 (vZ a0) R):aI Try.prog 22 [a0] [] R :=
 uQ (aD (cZ ha0) bd) (oQ wa Try.f22 h)
def uj(x3:Int)(x6:AV)(x7:Int)(x8:Int):Tree :=
 NI (VI x3)<|NL x6<|NI (VI x7)<|NI (VI x8)<|.test (decide (x8<x7)) (NG x6 x8 1<|.aw (LK.has (.int .i64) ((x6.ix x8).hA)/\1<=(x6.ix x8).length)<|.test ((((x6.ix x8).hA).toInt) != x3) (.done 2 [VI (((x6.ix x8).hA).toInt)] []) (.done 0 [VI x3,x6,VI x7,VI (IntKind.wrap .i64 (x8+1))] [])) (.done 1 [VI x3] [])
abbrev tc:=bP Try.prog 18 w7 yL
theorem vS(x3:Int)(x6:AV)(x7:Int)(x8:Int)(h:lN 18 (uj x3 x6 x7 x8) tc U):tc [VI x3,x6,VI x7,VI x8] [] U :=
 gQ wa h
def wu(a0:Int)(a1:Int):Tree :=
 .call 31 [VI a0] [] fun r1 o1=>NB r1<|.call 31 [VI a1] [] fun r2 o2=>NB r2<|.test r1.toBool (.test r2.toBool (.done 0 [VI 0] []) (.done 0 [VI (-1)] [])) (.test r2.toBool (.done 0 [VI 1] []) (.test (decide (a0<a1)) (.done 0 [VI (-1)] []) (.test (decide (a0>a1)) (.done 0 [VI 1] []) (.done 0 [VI 0] []))))
theorem zF(a0:Int)(a1:Int)(h:gI 20 (wu a0 a1) R):aI Try.prog 23 [VI a0,VI a1] [] R :=
 uQ (aD (aS _) (aD (aS _) bd)) (oQ [] Try.f23 h)
def wJ(a0:ByteArray):Tree :=
 .call 32 [VS a0] [] fun r1 o1=>NT r1<|.aw ((r1.comp 0)=.agg (r1.comp 0).cs/\(r1.comp 0).cs.length=2/\bV [.str,.sl] ((r1.comp 0).cs) 0)<|NB (r1.comp 1)<|.test ((r1.comp 1).toBool) (.call 33 [.agg [VS (((r1.comp 0).cs.getD 0 .any).toStr),((r1.comp 0).cs.getD 1 .any)]] [] fun r2 o2=>NB r2<|.test r2.toBool (.call 34 [.agg [VS (((r1.comp 0).cs.getD 0 .any).toStr),((r1.comp 0).cs.getD 1 .any)]] [] fun r3 o3=>NI r3<|.done 0 [.cz [.agg [VS (((r1.comp 0).cs.getD 0 .any).toStr),((r1.comp 0).cs.getD 1 .any)],VB (decide (r3.toInt<=(400:Int)))]] []) (.done 0 [.cz [.agg [VS (((r1.comp 0).cs.getD 0 .any).toStr),((r1.comp 0).cs.getD 1 .any)],VB false]] [])) (.done 0 [.cz [.agg [VS (((r1.comp 0).cs.getD 0 .any).toStr),((r1.comp 0).cs.getD 1 .any)],VB false]] [])
theorem yM(a0:ByteArray)(h:gI 22 (wJ a0) R):aI Try.prog 24 [VS a0] [] R :=
 uQ (aD (aS _) bd) (oQ [] Try.f24 h)
def s9(a0_0:ByteArray)(a0_1:AV):Tree :=
 .test (!(au a0_0==au (mk []))) (.test (au a0_0==au (mk [48])) (.done 0 [VB true] []) (.test (au a0_0==au (mk [49])) (.done 0 [VB true] []) (.test (au a0_0==au (mk [120])) (.done 0 [VB true] []) (.test (au a0_0==au (mk [121])) (.done 0 [VB true] []) (.done 0 [VB (au a0_0==au (mk [122]))] []))))) (.call 26 [.agg [VS a0_0,a0_1]] [] fun r1 o1=>NS r1<|.test (!(au r1.toStr==au (mk [114,101,99]))) (NG a0_1 1 2<|NE (a0_1.ix (1:Int))<|.call 25 [.agg [VS (((a0_1.ix (1:Int)).getD 0 .any).toStr),((a0_1.ix (1:Int)).getD 1 .any)]] [] fun r2 o2=>NB r2<|.test r2.toBool (NG a0_1 2 2<|NE (a0_1.ix (2:Int))<|.call 25 [.agg [VS (((a0_1.ix (2:Int)).getD 0 .any).toStr),((a0_1.ix (2:Int)).getD 1 .any)]] [] fun r3 o3=>NB r3<|.done 0 [VB r3.toBool] []) (.done 0 [VB false] [])) (.done 0 [VB false] []))
theorem vf(a0_0:ByteArray)(a0_1:AV)(ha0_1:LK.has .sl a0_1)(h:gI 46 (s9 a0_0 a0_1) R):aI Try.prog 25 [.agg [VS a0_0,a0_1]] [] R :=
 uQ (aD (kk (aD (aS _) (aD (cZ ha0_1) bd))) bd) (oQ [] Try.f25 h)
def wL(a0_0:ByteArray)(a0_1:AV):Tree :=
 .test (!(au a0_0==au (mk []))) (.done 0 [VS (mk [])] []) (NL a0_1<|.test ((a0_1.elems.length:Int)==(0:Int)) (.done 0 [VS (mk [])] []) (NG a0_1 0 2<|uR (a0_1.ix (0:Int))<|.done 0 [VS (((a0_1.ix (0:Int)).hA).toStr)] []))
theorem yB(a0_0:ByteArray)(a0_1:AV)(ha0_1:LK.has .sl a0_1)(h:gI 17 (wL a0_0 a0_1) R):aI Try.prog 26 [.agg [VS a0_0,a0_1]] [] R :=
 uQ (aD (kk (aD (aS _) (aD (cZ ha0_1) bd))) bd) (oQ [] Try.f26 h)
def tB:LI:={hd:={bm:=[(0,.k .sl),(5,.k (.int .i64))],refs:=[(3,3)],bZ:=[(3,[.lk (.int .i64),.lk (.int .i64),.lk (.int .i64),.lk (.int .i64)])]},xs:={bm:=[(0,.k .sl),(5,.k (.int .i64))],refs:=[(3,3)],bZ:=[(3,[.lk (.int .i64),.lk (.int .i64),.lk (.int .i64),.lk (.int .i64)])]},rt:={},ex:=0}
def wt:Code:=cS (cP Try.f27) 2
def xw:List (Nat×LI):=[(2,tB)]
def vE(a0:AV)(a1_0:Int)(a1_1:Int)(a1_2:Int)(a1_3:Int):Tree :=
 .loop wt tB [a0,VI 0] [.cells [VI a1_0,VI a1_1,VI a1_2,VI a1_3]] (fun y2 q2=>NL (y2.hA)<|NI (y2.tail.hA)<|.aw ((q2.hO)=.cells (q2.hO).cs)<|.aw (aA [.lk (.int .i64),.lk (.int .i64),.lk (.int .i64),.lk (.int .i64)] ((q2.hO).cs) 0 q2.tail)<|NL (y2.hA)<|.test (decide (((y2.tail.hA).toInt)<(((y2.hA).elems).length:Int))) (.aw (LK.has .sl (y2.hA)/\0<=((y2.tail.hA).toInt)/\((y2.tail.hA).toInt)<(y2.hA).elems.length/\((y2.hA).ix ((y2.tail.hA).toInt)).length=4)<|.aw (bV [.int .i64,.int .i64,.int .i64,.int .i64] ((y2.hA).ix ((y2.tail.hA).toInt)) 0/\4<=((y2.hA).ix ((y2.tail.hA).toInt)).length)<|.call 17 [.agg [VI (((q2.hO).cs.getD 0 .any).toInt),VI (((q2.hO).cs.getD 1 .any).toInt),VI (((q2.hO).cs.getD 2 .any).toInt),VI (((q2.hO).cs.getD 3 .any).toInt)],.agg [VI ((((y2.hA).ix ((y2.tail.hA).toInt)).getD 0 .any).toInt),VI ((((y2.hA).ix ((y2.tail.hA).toInt)).getD 1 .any).toInt),VI ((((y2.hA).ix ((y2.tail.hA).toInt)).getD 2 .any).toInt),VI ((((y2.hA).ix ((y2.tail.hA).toInt)).getD 3 .any).toInt)]] [] fun r3 o3=>NB r3<|.test (!r3.toBool) (.aw (LK.has .sl (y2.hA)/\bO 4 ((y2.hA).elems)/\((([]:List (List AV)).length)+((y2.hA).elems).length)*32<=140737488355328)<|.aw (LK.has .sl (y2.hA)/\0<=((y2.tail.hA).toInt)/\((y2.tail.hA).toInt)<(y2.hA).elems.length/\((y2.hA).ix ((y2.tail.hA).toInt)).length=4)<|.aw (LK.has (.int .i64) (((y2.hA).ix ((y2.tail.hA).toInt)).hA)/\1<=((y2.hA).ix ((y2.tail.hA).toInt)).length)<|.aw (0<=((y2.tail.hA).toInt)/\((y2.tail.hA).toInt)<(([]:List (List AV))++((y2.hA).elems)).length)<|.aw (((y2.tail.hA).toInt).toNat<(([]:List (List AV))++((y2.hA).elems)).length/\0+4<=4)<|.done 0 [.vec 0] [.vec 4 ((([]:List (List AV))++((y2.hA).elems)).set (((y2.tail.hA).toInt).toNat) ((((((([]:List (List AV))++((y2.hA).elems)).getD (((y2.tail.hA).toInt).toNat) []).set 0 (VI (if(IntKind.wrap .i64 (((((y2.hA).ix ((y2.tail.hA).toInt)).hA).toInt)+(((q2.hO).cs.getD 0 .any).toInt)))<1000000001 then(IntKind.wrap .i64 (((((y2.hA).ix ((y2.tail.hA).toInt)).hA).toInt)+(((q2.hO).cs.getD 0 .any).toInt)))else 1000000001))).set 1 (VI (((q2.hO).cs.getD 1 .any).toInt))).set 2 (VI (((q2.hO).cs.getD 2 .any).toInt))).set 3 (VI (((q2.hO).cs.getD 3 .any).toInt))))]) (.aw (LK.has .sl (y2.hA)/\0<=(0:Int)/\(0:Int)<=((y2.tail.hA).toInt)/\((y2.tail.hA).toInt)<=(((y2.hA).elems).length:Int))<|.aw (bO 4 ((((y2.hA).elems).take (aP ((y2.tail.hA).toInt))).drop (aP 0))/\((([]:List (List AV)).length)+((((y2.hA).elems).take (aP ((y2.tail.hA).toInt))).drop (aP 0)).length)*32<=140737488355328)<|.aw (bO 4 [[VI (((q2.hO).cs.getD 0 .any).toInt),VI (((q2.hO).cs.getD 1 .any).toInt),VI (((q2.hO).cs.getD 2 .any).toInt),VI (((q2.hO).cs.getD 3 .any).toInt)]]/\(((([]:List (List AV))++((((y2.hA).elems).take (aP ((y2.tail.hA).toInt))).drop (aP 0))).length)+([[VI (((q2.hO).cs.getD 0 .any).toInt),VI (((q2.hO).cs.getD 1 .any).toInt),VI (((q2.hO).cs.getD 2 .any).toInt),VI (((q2.hO).cs.getD 3 .any).toInt)]]:List (List AV)).length)*32<=140737488355328)<|.aw (LK.has .sl (y2.hA)/\bO 4 ((y2.hA).elems)/\0<=((y2.tail.hA).toInt)/\((y2.tail.hA).toInt)<=(((y2.hA).elems).length:Int)/\(((y2.hA).elems).length:Int)<=(((y2.hA).elems).length:Int))<|.aw (bO 4 ((((y2.hA).elems).take (aP (((y2.hA).elems).length:Int))).drop (aP ((y2.tail.hA).toInt)))/\((((([]:List (List AV))++((((y2.hA).elems).take (aP ((y2.tail.hA).toInt))).drop (aP 0)))++([[VI (((q2.hO).cs.getD 0 .any).toInt),VI (((q2.hO).cs.getD 1 .any).toInt),VI (((q2.hO).cs.getD 2 .any).toInt),VI (((q2.hO).cs.getD 3 .any).toInt)]]:List (List AV))).length)+((((y2.hA).elems).take (aP (((y2.hA).elems).length:Int))).drop (aP ((y2.tail.hA).toInt))).length)*32<=140737488355328)<|.done 0 [.vec 0] [.vec 4 (((([]:List (List AV))++((((y2.hA).elems).take (aP ((y2.tail.hA).toInt))).drop (aP 0)))++([[VI (((q2.hO).cs.getD 0 .any).toInt),VI (((q2.hO).cs.getD 1 .any).toInt),VI (((q2.hO).cs.getD 2 .any).toInt),VI (((q2.hO).cs.getD 3 .any).toInt)]]:List (List AV)))++((((y2.hA).elems).take (aP (((y2.hA).elems).length:Int))).drop (aP ((y2.tail.hA).toInt))))])) (.aw (LK.has .sl (y2.hA)/\0<=(0:Int)/\(0:Int)<=((y2.tail.hA).toInt)/\((y2.tail.hA).toInt)<=(((y2.hA).elems).length:Int))<|.aw (bO 4 ((((y2.hA).elems).take (aP ((y2.tail.hA).toInt))).drop (aP 0))/\((([]:List (List AV)).length)+((((y2.hA).elems).take (aP ((y2.tail.hA).toInt))).drop (aP 0)).length)*32<=140737488355328)<|.aw (bO 4 [[VI (((q2.hO).cs.getD 0 .any).toInt),VI (((q2.hO).cs.getD 1 .any).toInt),VI (((q2.hO).cs.getD 2 .any).toInt),VI (((q2.hO).cs.getD 3 .any).toInt)]]/\(((([]:List (List AV))++((((y2.hA).elems).take (aP ((y2.tail.hA).toInt))).drop (aP 0))).length)+([[VI (((q2.hO).cs.getD 0 .any).toInt),VI (((q2.hO).cs.getD 1 .any).toInt),VI (((q2.hO).cs.getD 2 .any).toInt),VI (((q2.hO).cs.getD 3 .any).toInt)]]:List (List AV)).length)*32<=140737488355328)<|.aw (LK.has .sl (y2.hA)/\bO 4 ((y2.hA).elems)/\0<=((y2.tail.hA).toInt)/\((y2.tail.hA).toInt)<=(((y2.hA).elems).length:Int)/\(((y2.hA).elems).length:Int)<=(((y2.hA).elems).length:Int))<|.aw (bO 4 ((((y2.hA).elems).take (aP (((y2.hA).elems).length:Int))).drop (aP ((y2.tail.hA).toInt)))/\((((([]:List (List AV))++((((y2.hA).elems).take (aP ((y2.tail.hA).toInt))).drop (aP 0)))++([[VI (((q2.hO).cs.getD 0 .any).toInt),VI (((q2.hO).cs.getD 1 .any).toInt),VI (((q2.hO).cs.getD 2 .any).toInt),VI (((q2.hO).cs.getD 3 .any).toInt)]]:List (List AV))).length)+((((y2.hA).elems).take (aP (((y2.hA).elems).length:Int))).drop (aP ((y2.tail.hA).toInt))).length)*32<=140737488355328)<|.done 0 [.vec 0] [.vec 4 (((([]:List (List AV))++((((y2.hA).elems).take (aP ((y2.tail.hA).toInt))).drop (aP 0)))++([[VI (((q2.hO).cs.getD 0 .any).toInt),VI (((q2.hO).cs.getD 1 .any).toInt),VI (((q2.hO).cs.getD 2 .any).toInt),VI (((q2.hO).cs.getD 3 .any).toInt)]]:List (List AV)))++((((y2.hA).elems).take (aP (((y2.hA).elems).length:Int))).drop (aP ((y2.tail.hA).toInt))))])) (fun y2 q2=>.fail)
theorem zO(a0:AV)(a1_0:Int)(a1_1:Int)(a1_2:Int)(a1_3:Int)(ha0:LK.has .sl a0)(h:gI 69 (vE a0 a1_0 a1_1 a1_2 a1_3) R):aI Try.prog 27 [a0,.agg [VI a1_0,VI a1_1,VI a1_2,VI a1_3]] [] R :=
 uQ (aD (cZ ha0) (aD (aS _) bd)) (oF xw {mu:=[],own:=[0]} Try.f27 h)
def zi(x0:AV)(x5:Int)(o3_0:Int)(o3_1:Int)(o3_2:Int)(o3_3:Int):Tree :=
 NL x0<|NI (VI x5)<|.aw (Ob.cells [VI o3_0,VI o3_1,VI o3_2,VI o3_3]=.cells [VI o3_0,VI o3_1,VI o3_2,VI o3_3])<|.aw (aA [.lk (.int .i64),.lk (.int .i64),.lk (.int .i64),.lk (.int .i64)] [VI o3_0,VI o3_1,VI o3_2,VI o3_3] 0 [])<|NL x0<|.test (decide (x5<(x0.elems.length:Int))) (NG x0 x5 4<|.aw (bV [.int .i64,.int .i64,.int .i64,.int .i64] (x0.ix x5) 0/\4<=(x0.ix x5).length)<|.call 17 [.agg [VI (((x0.ix x5).getD 0 .any).toInt),VI (((x0.ix x5).getD 1 .any).toInt),VI (((x0.ix x5).getD 2 .any).toInt),VI (((x0.ix x5).getD 3 .any).toInt)],.agg [VI o3_0,VI o3_1,VI o3_2,VI o3_3]] [] fun r1 o1=>NB r1<|.test r1.toBool (.done 0 [x0,VI (IntKind.wrap .i64 (x5+1))] [.cells [VI o3_0,VI o3_1,VI o3_2,VI o3_3]]) (.done 1 [x0,VI x5] [.cells [VI o3_0,VI o3_1,VI o3_2,VI o3_3]])) (.done 1 [x0,VI x5] [.cells [VI o3_0,VI o3_1,VI o3_2,VI o3_3]])
abbrev tx:=bP Try.prog 69 wt tB
theorem vT(x0:AV)(x5:Int)(o3_0:Int)(o3_1:Int)(o3_2:Int)(o3_3:Int)(h:lN 69 (zi x0 x5 o3_0 o3_1 o3_2 o3_3) tx U):tx [x0,VI x5] [.cells [VI o3_0,VI o3_1,VI o3_2,VI o3_3]] U :=
 gQ xw h
def tn:LI:={hd:={bm:=[(0,.k .sl),(3,.k (.int .i64))]},xs:={bm:=[(0,.k .sl)]},rt:={bm:=[(2,.k .bool)]},ex:=0}
def xn:Code:=cS (cP Try.f28) 2
def xr:List (Nat×LI):=[(2,tn)]
def vc(a0:AV):Tree :=
 .loop xn tn [a0,VI 0] [] (fun y1 q1=>NL (y1.hA)<|NL (y1.hA)<|.done 0 [VB (decide ((((y1.hA).elems).length:Int)<=(60:Int)))] []) (fun y1 q1=>NB (y1.hA)<|.done 0 [VB ((y1.hA).toBool)] [])
theorem zb(a0:AV)(ha0:LK.has .sl a0)(h:gI 19 (vc a0) R):aI Try.prog 28 [a0] [] R :=
 uQ (aD (cZ ha0) bd) (oQ xr Try.f28 h)
def uI(x0:AV)(x3:Int):Tree :=
 NL x0<|NI (VI x3)<|NL x0<|.test (decide (x3<(x0.elems.length:Int))) (NG x0 x3 4<|.aw (LK.has (.int .i64) ((x0.ix x3).hA)/\1<=(x0.ix x3).length)<|.test (decide ((((x0.ix x3).hA).toInt)>(1000000000:Int))) (.done 2 [VB false] []) (.done 0 [x0,VI (IntKind.wrap .i64 (x3+1))] [])) (.done 1 [x0] [])
abbrev uq:=bP Try.prog 19 xn tn
theorem wo(x0:AV)(x3:Int)(h:lN 19 (uI x0 x3) uq U):uq [x0,VI x3] [] U :=
 gQ xr h
def vu(a0_0:AV)(a0_1:Int):Tree :=
 .call 20 [.ref 0 0,.sl [[VS (mk [40,114,101,99,32,116,32,40,43,32,49,32,40,42,32,120,32,116,41,41,41])],[VS (mk [40,114,101,99,32,116,32,40,43,32,120,32,40,42,32,116,32,116,41,41,41])],[VS (mk [40,114,101,99,32,116,32,40,43,32,49,32,40,42,32,116,32,40,42,32,120,32,116,41,41,41,41])],[VS (mk [40,114,101,99,32,116,32,40,43,32,49,32,116,41,41])],[VS (mk [40,114,101,99,32,116,32,40,42,32,120,32,40,114,101,99,32,116,49,32,40,43,32,49,32,40,42,32,116,32,116,49,41,41,41,41,41])],[VS (mk [40,114,101,99,32,116,48,32,40,43,32,40,42,32,120,32,121,41,32,40,43,32,116,48,32,40,42,32,116,48,32,116,48,41,41,41,41])],[VS (mk [40,114,101,99,32,116,32,40,43,32,121,32,40,42,32,116,32,40,42,32,116,32,116,41,41,41,41])]]] [.cells [a0_0,VI a0_1]] fun r1 o1=>.aw ((o1.hO)=.cells (o1.hO).cs)<|.aw (aZ [.lk .sl,.lk (.int .i64)] ((o1.hO).cs) 0 1 o1.tail)<|NS r1<|.done 0 [VS r1.toStr] [.cells [((o1.hO).cs.getD 0 .any),VI (((o1.hO).cs.getD 1 .any).toInt)]]
theorem za(a0_0:AV)(a0_1:Int)(ha0_0:LK.has .sl a0_0)(h:gI 6 (vu a0_0 a0_1) R):aI Try.prog 29 [.ref 0 0] [.cells [a0_0,VI a0_1]] R :=
 aI.s4 (eN (eI (aD (cZ ha0_0) (aD (aS _) bd))) e9) (aI.up (aD (aS _) bd) (oF [] {mu:=[(0,.one (.obj [.lk .sl,.lk (.int .i64)]))],own:=[]} Try.f29 h))
def uD(a0_0:AV)(a0_1:Int)(a1:AV)(a2:Int):Tree :=
 .test (decide (a2<=(0:Int))) (NL a1<|.test (decide ((a1.elems.length:Int)>(0:Int))) (.call 9 [.ref 0 0,VI 3] [.cells [a0_0,VI a0_1]] fun r1 o1=>.aw ((o1.hO)=.cells (o1.hO).cs)<|.aw (aZ [.lk .sl,.lk (.int .i64)] ((o1.hO).cs) 0 1 o1.tail)<|NI r1<|.test (r1.toInt==(0:Int)) (NL a1<|.call 9 [.ref 0 0,VI (a1.elems.length:Int)] [.cells [((o1.hO).cs.getD 0 .any),VI (((o1.hO).cs.getD 1 .any).toInt)]] fun r2 o2=>.aw ((o2.hO)=.cells (o2.hO).cs)<|.aw (aZ [.lk .sl,.lk (.int .i64)] ((o2.hO).cs) 0 1 o2.tail)<|NI r2<|.aw (LK.has .sl a1/\0<=r2.toInt/\r2.toInt<a1.elems.length/\(a1.elems.getD r2.toInt.toNat []).length=1)<|uR (a1.elems.getD r2.toInt.toNat [])<|.done 0 [VS (((a1.elems.getD r2.toInt.toNat []).hA).toStr)] [.cells [((o2.hO).cs.getD 0 .any),VI (((o2.hO).cs.getD 1 .any).toInt)]]) (.call 20 [.ref 0 0,.sl [[VS (mk [120])],[VS (mk [49])],[VS (mk [120])],[VS (mk [121])],[VS (mk [48])],[VS (mk [49])]]] [.cells [((o1.hO).cs.getD 0 .any),VI (((o1.hO).cs.getD 1 .any).toInt)]] fun r3 o3=>.aw ((o3.hO)=.cells (o3.hO).cs)<|.aw (aZ [.lk .sl,.lk (.int .i64)] ((o3.hO).cs) 0 1 o3.tail)<|NS r3<|.done 0 [VS r3.toStr] [.cells [((o3.hO).cs.getD 0 .any),VI (((o3.hO).cs.getD 1 .any).toInt)]])) (.call 20 [.ref 0 0,.sl [[VS (mk [120])],[VS (mk [49])],[VS (mk [120])],[VS (mk [121])],[VS (mk [48])],[VS (mk [49])]]] [.cells [a0_0,VI a0_1]] fun r4 o4=>.aw ((o4.hO)=.cells (o4.hO).cs)<|.aw (aZ [.lk .sl,.lk (.int .i64)] ((o4.hO).cs) 0 1 o4.tail)<|NS r4<|.done 0 [VS r4.toStr] [.cells [((o4.hO).cs.getD 0 .any),VI (((o4.hO).cs.getD 1 .any).toInt)]])) (.call 9 [.ref 0 0,VI 4] [.cells [a0_0,VI a0_1]] fun r5 o5=>.aw ((o5.hO)=.cells (o5.hO).cs)<|.aw (aZ [.lk .sl,.lk (.int .i64)] ((o5.hO).cs) 0 1 o5.tail)<|NI r5<|.test (r5.toInt==(0:Int)) (NL a1<|.test (decide ((a1.elems.length:Int)>(0:Int))) (.call 9 [.ref 0 0,VI 3] [.cells [((o5.hO).cs.getD 0 .any),VI (((o5.hO).cs.getD 1 .any).toInt)]] fun r6 o6=>.aw ((o6.hO)=.cells (o6.hO).cs)<|.aw (aZ [.lk .sl,.lk (.int .i64)] ((o6.hO).cs) 0 1 o6.tail)<|NI r6<|.test (r6.toInt==(0:Int)) (NL a1<|.call 9 [.ref 0 0,VI (a1.elems.length:Int)] [.cells [((o6.hO).cs.getD 0 .any),VI (((o6.hO).cs.getD 1 .any).toInt)]] fun r7 o7=>.aw ((o7.hO)=.cells (o7.hO).cs)<|.aw (aZ [.lk .sl,.lk (.int .i64)] ((o7.hO).cs) 0 1 o7.tail)<|NI r7<|.aw (LK.has .sl a1/\0<=r7.toInt/\r7.toInt<a1.elems.length/\(a1.elems.getD r7.toInt.toNat []).length=1)<|uR (a1.elems.getD r7.toInt.toNat [])<|.done 0 [VS (((a1.elems.getD r7.toInt.toNat []).hA).toStr)] [.cells [((o7.hO).cs.getD 0 .any),VI (((o7.hO).cs.getD 1 .any).toInt)]]) (.call 20 [.ref 0 0,.sl [[VS (mk [120])],[VS (mk [49])],[VS (mk [120])],[VS (mk [121])],[VS (mk [48])],[VS (mk [49])]]] [.cells [((o6.hO).cs.getD 0 .any),VI (((o6.hO).cs.getD 1 .any).toInt)]] fun r8 o8=>.aw ((o8.hO)=.cells (o8.hO).cs)<|.aw (aZ [.lk .sl,.lk (.int .i64)] ((o8.hO).cs) 0 1 o8.tail)<|NS r8<|.done 0 [VS r8.toStr] [.cells [((o8.hO).cs.getD 0 .any),VI (((o8.hO).cs.getD 1 .any).toInt)]])) (.call 20 [.ref 0 0,.sl [[VS (mk [120])],[VS (mk [49])],[VS (mk [120])],[VS (mk [121])],[VS (mk [48])],[VS (mk [49])]]] [.cells [((o5.hO).cs.getD 0 .any),VI (((o5.hO).cs.getD 1 .any).toInt)]] fun r9 o9=>.aw ((o9.hO)=.cells (o9.hO).cs)<|.aw (aZ [.lk .sl,.lk (.int .i64)] ((o9.hO).cs) 0 1 o9.tail)<|NS r9<|.done 0 [VS r9.toStr] [.cells [((o9.hO).cs.getD 0 .any),VI (((o9.hO).cs.getD 1 .any).toInt)]])) (.call 9 [.ref 0 0,VI 5] [.cells [((o5.hO).cs.getD 0 .any),VI (((o5.hO).cs.getD 1 .any).toInt)]] fun r10 o10=>.aw ((o10.hO)=.cells (o10.hO).cs)<|.aw (aZ [.lk .sl,.lk (.int .i64)] ((o10.hO).cs) 0 1 o10.tail)<|NI r10<|.test (r10.toInt==(0:Int)) (.call 30 [.ref 0 0,a1,VI (IntKind.wrap .i64 (a2-1))] [.cells [((o10.hO).cs.getD 0 .any),VI (((o10.hO).cs.getD 1 .any).toInt)]] fun r11 o11=>.aw ((o11.hO)=.cells (o11.hO).cs)<|.aw (aZ [.lk .sl,.lk (.int .i64)] ((o11.hO).cs) 0 1 o11.tail)<|NS r11<|.aw (aj (mk [40,43,32])+aj r11.toStr<=9223372036854775807)<|.aw (aj (((mk [40,43,32]):ByteArray)++r11.toStr)+aj (mk [32])<=9223372036854775807)<|.call 30 [.ref 0 0,a1,VI (IntKind.wrap .i64 (a2-1))] [.cells [((o11.hO).cs.getD 0 .any),VI (((o11.hO).cs.getD 1 .any).toInt)]] fun r12 o12=>.aw ((o12.hO)=.cells (o12.hO).cs)<|.aw (aZ [.lk .sl,.lk (.int .i64)] ((o12.hO).cs) 0 1 o12.tail)<|NS r12<|.aw (aj (((((mk [40,43,32]):ByteArray)++r11.toStr):ByteArray)++(mk [32]))+aj r12.toStr<=9223372036854775807)<|.aw (aj (((((((mk [40,43,32]):ByteArray)++r11.toStr):ByteArray)++(mk [32])):ByteArray)++r12.toStr)+aj (mk [41])<=9223372036854775807)<|.done 0 [VS (((((((((mk [40,43,32]):ByteArray)++r11.toStr):ByteArray)++(mk [32])):ByteArray)++r12.toStr):ByteArray)++(mk [41]))] [.cells [((o12.hO).cs.getD 0 .any),VI (((o12.hO).cs.getD 1 .any).toInt)]]) (.test (r10.toInt==(1:Int)) (.call 30 [.ref 0 0,a1,VI (IntKind.wrap .i64 (a2-1))] [.cells [((o10.hO).cs.getD 0 .any),VI (((o10.hO).cs.getD 1 .any).toInt)]] fun r13 o13=>.aw ((o13.hO)=.cells (o13.hO).cs)<|.aw (aZ [.lk .sl,.lk (.int .i64)] ((o13.hO).cs) 0 1 o13.tail)<|NS r13<|.aw (aj (mk [40,43,32])+aj r13.toStr<=9223372036854775807)<|.aw (aj (((mk [40,43,32]):ByteArray)++r13.toStr)+aj (mk [32])<=9223372036854775807)<|.call 30 [.ref 0 0,a1,VI (IntKind.wrap .i64 (a2-1))] [.cells [((o13.hO).cs.getD 0 .any),VI (((o13.hO).cs.getD 1 .any).toInt)]] fun r14 o14=>.aw ((o14.hO)=.cells (o14.hO).cs)<|.aw (aZ [.lk .sl,.lk (.int .i64)] ((o14.hO).cs) 0 1 o14.tail)<|NS r14<|.aw (aj (((((mk [40,43,32]):ByteArray)++r13.toStr):ByteArray)++(mk [32]))+aj r14.toStr<=9223372036854775807)<|.aw (aj (((((((mk [40,43,32]):ByteArray)++r13.toStr):ByteArray)++(mk [32])):ByteArray)++r14.toStr)+aj (mk [41])<=9223372036854775807)<|.done 0 [VS (((((((((mk [40,43,32]):ByteArray)++r13.toStr):ByteArray)++(mk [32])):ByteArray)++r14.toStr):ByteArray)++(mk [41]))] [.cells [((o14.hO).cs.getD 0 .any),VI (((o14.hO).cs.getD 1 .any).toInt)]]) (.test (r10.toInt==(2:Int)) (.call 30 [.ref 0 0,a1,VI (IntKind.wrap .i64 (a2-1))] [.cells [((o10.hO).cs.getD 0 .any),VI (((o10.hO).cs.getD 1 .any).toInt)]] fun r15 o15=>.aw ((o15.hO)=.cells (o15.hO).cs)<|.aw (aZ [.lk .sl,.lk (.int .i64)] ((o15.hO).cs) 0 1 o15.tail)<|NS r15<|.aw (aj (mk [40,42,32])+aj r15.toStr<=9223372036854775807)<|.aw (aj (((mk [40,42,32]):ByteArray)++r15.toStr)+aj (mk [32])<=9223372036854775807)<|.call 30 [.ref 0 0,a1,VI (IntKind.wrap .i64 (a2-1))] [.cells [((o15.hO).cs.getD 0 .any),VI (((o15.hO).cs.getD 1 .any).toInt)]] fun r16 o16=>.aw ((o16.hO)=.cells (o16.hO).cs)<|.aw (aZ [.lk .sl,.lk (.int .i64)] ((o16.hO).cs) 0 1 o16.tail)<|NS r16<|.aw (aj (((((mk [40,42,32]):ByteArray)++r15.toStr):ByteArray)++(mk [32]))+aj r16.toStr<=9223372036854775807)<|.aw (aj (((((((mk [40,42,32]):ByteArray)++r15.toStr):ByteArray)++(mk [32])):ByteArray)++r16.toStr)+aj (mk [41])<=9223372036854775807)<|.done 0 [VS (((((((((mk [40,42,32]):ByteArray)++r15.toStr):ByteArray)++(mk [32])):ByteArray)++r16.toStr):ByteArray)++(mk [41]))] [.cells [((o16.hO).cs.getD 0 .any),VI (((o16.hO).cs.getD 1 .any).toInt)]]) (.test (r10.toInt==(3:Int)) (.call 30 [.ref 0 0,a1,VI (IntKind.wrap .i64 (a2-1))] [.cells [((o10.hO).cs.getD 0 .any),VI (((o10.hO).cs.getD 1 .any).toInt)]] fun r17 o17=>.aw ((o17.hO)=.cells (o17.hO).cs)<|.aw (aZ [.lk .sl,.lk (.int .i64)] ((o17.hO).cs) 0 1 o17.tail)<|NS r17<|.aw (aj (mk [40,42,32])+aj r17.toStr<=9223372036854775807)<|.aw (aj (((mk [40,42,32]):ByteArray)++r17.toStr)+aj (mk [32])<=9223372036854775807)<|.call 30 [.ref 0 0,a1,VI (IntKind.wrap .i64 (a2-1))] [.cells [((o17.hO).cs.getD 0 .any),VI (((o17.hO).cs.getD 1 .any).toInt)]] fun r18 o18=>.aw ((o18.hO)=.cells (o18.hO).cs)<|.aw (aZ [.lk .sl,.lk (.int .i64)] ((o18.hO).cs) 0 1 o18.tail)<|NS r18<|.aw (aj (((((mk [40,42,32]):ByteArray)++r17.toStr):ByteArray)++(mk [32]))+aj r18.toStr<=9223372036854775807)<|.aw (aj (((((((mk [40,42,32]):ByteArray)++r17.toStr):ByteArray)++(mk [32])):ByteArray)++r18.toStr)+aj (mk [41])<=9223372036854775807)<|.done 0 [VS (((((((((mk [40,42,32]):ByteArray)++r17.toStr):ByteArray)++(mk [32])):ByteArray)++r18.toStr):ByteArray)++(mk [41]))] [.cells [((o18.hO).cs.getD 0 .any),VI (((o18.hO).cs.getD 1 .any).toInt)]]) (.call 20 [.ref 0 0,.sl [[VS (mk [116])],[VS (mk [116,49])],[VS (mk [116,48])]]] [.cells [((o10.hO).cs.getD 0 .any),VI (((o10.hO).cs.getD 1 .any).toInt)]] fun r19 o19=>.aw ((o19.hO)=.cells (o19.hO).cs)<|.aw (aZ [.lk .sl,.lk (.int .i64)] ((o19.hO).cs) 0 1 o19.tail)<|NS r19<|.aw (aj (mk [40,114,101,99,32])+aj r19.toStr<=9223372036854775807)<|.aw (aj (((mk [40,114,101,99,32]):ByteArray)++r19.toStr)+aj (mk [32,40,43,32,49,32])<=9223372036854775807)<|.call 35 [a1,VS r19.toStr] [] fun r20 o20=>.aw (r20=.vec 0/\(o20.hO)=.vec 1 (o20.hO).es)<|.aw (∀x,x∈o20->dF x)<|.call 30 [.ref 0 0,.sl ((o20.hO).es),VI (IntKind.wrap .i64 (a2-1))] [.cells [((o19.hO).cs.getD 0 .any),VI (((o19.hO).cs.getD 1 .any).toInt)]] fun r21 o21=>.aw ((o21.hO)=.cells (o21.hO).cs)<|.aw (aZ [.lk .sl,.lk (.int .i64)] ((o21.hO).cs) 0 1 o21.tail)<|NS r21<|.aw (aj (((((mk [40,114,101,99,32]):ByteArray)++r19.toStr):ByteArray)++(mk [32,40,43,32,49,32]))+aj r21.toStr<=9223372036854775807)<|.aw (aj (((((((mk [40,114,101,99,32]):ByteArray)++r19.toStr):ByteArray)++(mk [32,40,43,32,49,32])):ByteArray)++r21.toStr)+aj (mk [41,41])<=9223372036854775807)<|.done 0 [VS (((((((((mk [40,114,101,99,32]):ByteArray)++r19.toStr):ByteArray)++(mk [32,40,43,32,49,32])):ByteArray)++r21.toStr):ByteArray)++(mk [41,41]))] [.cells [((o21.hO).cs.getD 0 .any),VI (((o21.hO).cs.getD 1 .any).toInt)]]))))))
theorem u0(a0_0:AV)(a0_1:Int)(a1:AV)(a2:Int)(ha1:LK.has .sl a1)(ha0_0:LK.has .sl a0_0)(h:gI 82 (uD a0_0 a0_1 a1 a2) R):aI Try.prog 30 [.ref 0 0,a1,VI a2] [.cells [a0_0,VI a0_1]] R :=
 aI.s4 (eN (eI (aD (cZ ha0_0) (aD (aS _) bd))) e9) (aI.up (aD (aS _) (aD (cZ ha1) (aD (aS _) bd))) (oF [] {mu:=[(0,.one (.obj [.lk .sl,.lk (.int .i64)]))],own:=[]} Try.f30 h))
def wm(a0:Int):Tree :=
 .done 0 [VB (a0 != a0)] []
theorem yw(a0:Int)(h:gI 6 (wm a0) R):aI Try.prog 31 [VI a0] [] R :=
 uQ (aD (aS _) bd) (oQ [] Try.f31 h)
def vO(a0:ByteArray):Tree :=
 .test (decide ((aj a0:Int)>(8000:Int))) (.done 0 [.cz [.agg [VS (mk []),.v (.slice none 0 0)],VB false]] []) (.call 36 [VS a0,VI 0,VI 0] [] fun r1 o1=>NT r1<|.aw ((r1.comp 0)=.agg (r1.comp 0).cs/\(r1.comp 0).cs.length=2/\bV [.str,.sl] ((r1.comp 0).cs) 0)<|NI (r1.comp 1)<|.done 0 [.cz [.agg [VS (((r1.comp 0).cs.getD 0 .any).toStr),((r1.comp 0).cs.getD 1 .any)],VB (((r1.comp 1).toInt)==(aj a0:Int))]] [])
theorem zX(a0:ByteArray)(h:gI 20 (vO a0) R):aI Try.prog 32 [VS a0] [] R :=
 uQ (aD (aS _) bd) (oQ [] Try.f32 h)
def th(a0_0:ByteArray)(a0_1:AV):Tree :=
 .test (!(au a0_0==au (mk []))) (.test (au a0_0==au (mk [48])) (.done 0 [VB true] []) (.test (au a0_0==au (mk [49])) (.done 0 [VB true] []) (.call 37 [VS a0_0] [] fun r1 o1=>NB r1<|.test r1.toBool (.done 0 [VB true] []) (.call 38 [VS a0_0] [] fun r2 o2=>NB r2<|.done 0 [VB r2.toBool] [])))) (NL a0_1<|.test ((a0_1.elems.length:Int) != (3:Int)) (.done 0 [VB false] []) (.call 26 [.agg [VS a0_0,a0_1]] [] fun r3 o3=>NS r3<|.test (au r3.toStr==au (mk [43])) (NG a0_1 1 2<|NE (a0_1.ix (1:Int))<|.call 33 [.agg [VS (((a0_1.ix (1:Int)).getD 0 .any).toStr),((a0_1.ix (1:Int)).getD 1 .any)]] [] fun r4 o4=>NB r4<|.test r4.toBool (NG a0_1 2 2<|NE (a0_1.ix (2:Int))<|.call 33 [.agg [VS (((a0_1.ix (2:Int)).getD 0 .any).toStr),((a0_1.ix (2:Int)).getD 1 .any)]] [] fun r5 o5=>NB r5<|.done 0 [VB r5.toBool] []) (.done 0 [VB false] [])) (.test (au r3.toStr==au (mk [42])) (NG a0_1 1 2<|NE (a0_1.ix (1:Int))<|.call 33 [.agg [VS (((a0_1.ix (1:Int)).getD 0 .any).toStr),((a0_1.ix (1:Int)).getD 1 .any)]] [] fun r6 o6=>NB r6<|.test r6.toBool (NG a0_1 2 2<|NE (a0_1.ix (2:Int))<|.call 33 [.agg [VS (((a0_1.ix (2:Int)).getD 0 .any).toStr),((a0_1.ix (2:Int)).getD 1 .any)]] [] fun r7 o7=>NB r7<|.done 0 [VB r7.toBool] []) (.done 0 [VB false] [])) (.test (au r3.toStr==au (mk [114,101,99])) (NG a0_1 1 2<|uR (a0_1.ix (1:Int))<|.call 38 [VS (((a0_1.ix (1:Int)).hA).toStr)] [] fun r8 o8=>NB r8<|.test r8.toBool (NG a0_1 2 2<|NE (a0_1.ix (2:Int))<|.call 33 [.agg [VS (((a0_1.ix (2:Int)).getD 0 .any).toStr),((a0_1.ix (2:Int)).getD 1 .any)]] [] fun r9 o9=>NB r9<|.done 0 [VB r9.toBool] []) (.done 0 [VB false] [])) (.done 0 [VB false] [])))))
theorem u3(a0_0:ByteArray)(a0_1:AV)(ha0_1:LK.has .sl a0_1)(h:gI 60 (th a0_0 a0_1) R):aI Try.prog 33 [.agg [VS a0_0,a0_1]] [] R :=
 uQ (aD (kk (aD (aS _) (aD (cZ ha0_1) bd))) bd) (oQ [] Try.f33 h)
def yO:LI:={hd:={bm:=[(3,.k (.int .i64)),(4,.k (.int .i64))],refs:=[(1,1)],bZ:=[(1,[.lk .str,.lk .sl])]},xs:={bm:=[(3,.k (.int .i64))]},rt:={},ex:=0}
def wW:Code:=cS (cP Try.f34) 5
def u4:List (Nat×LI):=[(5,yO)]
def tJ(a0_0:ByteArray)(a0_1:AV):Tree :=
 .test (!(au a0_0==au (mk []))) (.done 0 [VI 1] []) (.loop wW yO [VI 0,VI 0] [.cells [VS a0_0,a0_1]] (fun y2 q2=>NI (y2.hA)<|.done 0 [VI ((y2.hA).toInt)] []) (fun y2 q2=>.done 0 [.any] []))
theorem vx(a0_0:ByteArray)(a0_1:AV)(ha0_1:LK.has .sl a0_1)(h:gI 24 (tJ a0_0 a0_1) R):aI Try.prog 34 [.agg [VS a0_0,a0_1]] [] R :=
 uQ (aD (kk (aD (aS _) (aD (cZ ha0_1) bd))) bd) (oQ u4 Try.f34 h)
def yj(x3:Int)(x4:Int)(o1_0:ByteArray)(o1_1:AV):Tree :=
 NI (VI x3)<|NI (VI x4)<|.aw (Ob.cells [VS o1_0,o1_1]=.cells [VS o1_0,o1_1])<|.aw (aA [.lk .str,.lk .sl] [VS o1_0,o1_1] 0 [])<|NL o1_1<|.test (decide (x4<(o1_1.elems.length:Int))) (NG o1_1 x4 2<|NE (o1_1.ix x4)<|.call 34 [.agg [VS (((o1_1.ix x4).getD 0 .any).toStr),((o1_1.ix x4).getD 1 .any)]] [] fun r1 o1=>NI r1<|.done 0 [VI (IntKind.wrap .i64 (x3+r1.toInt)),VI (IntKind.wrap .i64 (x4+1))] [.cells [VS o1_0,o1_1]]) (.done 1 [VI x3] [])
abbrev zS:=bP Try.prog 24 wW yO
theorem wT(x3:Int)(x4:Int)(o1_0:ByteArray)(o1_1:AV)(h:lN 24 (yj x3 x4 o1_0 o1_1) zS U):zS [VI x3,VI x4] [.cells [VS o1_0,o1_1]] U :=
 gQ u4 h
def xy(a0:AV)(a1:ByteArray):Tree :=
 .aw (LK.has .sl a0/\bO 1 a0.elems/\((([]:List (List AV)).length)+a0.elems.length)*16<=140737488355328)<|.aw (bO 1 [[VS a1]]/\(((([]:List (List AV))++a0.elems).length)+([[VS a1]]:List (List AV)).length)*16<=140737488355328)<|.done 0 [.vec 0] [.vec 1 ((([]:List (List AV))++a0.elems)++([[VS a1]]:List (List AV)))]
theorem yy(a0:AV)(a1:ByteArray)(ha0:LK.has .sl a0)(h:gI 11 (xy a0 a1) R):aI Try.prog 35 [a0,VS a1] [] R :=
 uQ (aD (cZ ha0) (aD (aS _) bd)) (oF [] {mu:=[],own:=[0]} Try.f35 h)
def tf:LI:={hd:={bm:=[(0,.k .str),(1,.k (.int .i64)),(9,.k (.int .i64))],refs:=[(6,6),(8,8)],bZ:=[(6,[.lk .str,.lk .sl]),(8,[.lk .str,.lk .sl])]},xs:={bm:=[(0,.k .str),(1,.k (.int .i64)),(9,.k (.int .i64))],refs:=[(6,6),(8,8)],bZ:=[(6,[.lk .str,.lk .sl]),(8,[.lk .str,.lk .sl])]},rt:={},ex:=0}
def u6:Code:=cS (cP Try.f36) 6
def tR:LI:={hd:={bm:=[(0,.k .str),(1,.k (.int .i64)),(2,.k (.int .i64))],refs:=[(6,6),(8,8)],bZ:=[(6,[.lk .str,.lk .sl]),(8,[.lk .str,.vec 2])]},xs:={},rt:={bm:=[(7,.k (.int .i64))],refs:=[(6,6)],bZ:=[(6,[.lk .str,.vec 2])]},ex:=999}
def vg:Code:=cS (cP Try.f36) 12
def tO:List (Nat×LI):=[(6,tf),(12,tR)]
def tt(a0:ByteArray)(a1:Int)(a2:Int):Tree :=
 .test (decide (a2>(300:Int))) (.done 0 [.cz [.agg [VS (mk []),.v (.slice none 0 0)],VI (-1)]] []) (.test (decide (a1≥(aj a0:Int))) (.done 0 [.cz [.agg [VS (mk []),.v (.slice none 0 0)],VI (-1)]] []) (.aw (0<=a1/\a1<aj a0)<|.test ((bt a0 a1) != (40:Int)) (.loop u6 tf [VS a0,VI a1,VI a1] [.cells [VS (mk []),.v (.slice none 0 0)],.cells [VS (mk []),.v (.slice none 0 0)]] (fun y2 q2=>NS (y2.hA)<|NI (y2.tail.hA)<|NI (y2.tail.tail.hA)<|.aw ((q2.hO)=.cells (q2.hO).cs)<|.aw (aA [.lk .str,.lk .sl] ((q2.hO).cs) 0 q2.tail)<|.aw (((q2.tail.drop 0).hO)=.cells ((q2.tail.drop 0).hO).cs)<|.aw (aA [.lk .str,.lk .sl] (((q2.tail.drop 0).hO).cs) 0 ((q2.tail.drop 0).tail))<|.aw (0<=((y2.tail.tail.hA).toInt)/\((y2.tail.tail.hA).toInt)<=((y2.tail.hA).toInt)/\((y2.tail.hA).toInt)<=(aj ((y2.hA).toStr):Int))<|.test (au (cI ((y2.hA).toStr) (aP ((y2.tail.tail.hA).toInt)) (aP ((y2.tail.hA).toInt)))==au (mk [])) (.done 0 [.cz [.agg [VS (cI ((y2.hA).toStr) (aP ((y2.tail.tail.hA).toInt)) (aP ((y2.tail.hA).toInt))),((q2.tail.hO).cs.getD 1 .any)],VI (-1)]] []) (.done 0 [.cz [.agg [VS (cI ((y2.hA).toStr) (aP ((y2.tail.tail.hA).toInt)) (aP ((y2.tail.hA).toInt))),((q2.tail.hO).cs.getD 1 .any)],VI ((y2.tail.hA).toInt)]] [])) (fun y2 q2=>.fail)) (.loop vg tR [VS a0,VI a1,VI a2] [.cells [VS (mk []),.v (.slice none 0 0)],.cells [VS (mk []),.any],.vec 2 []] (fun y5 q5=>.fail) (fun y5 q5=>NI (y5.hA)<|.aw ((q5.hO)=.cells (q5.hO).cs)<|.aw (aA [.lk .str,.vec 2] ((q5.hO).cs) 0 q5.tail)<|.done 0 [.cz [.agg [VS (((q5.hO).cs.getD 0 .any).toStr),.sl ((q5.tail.hO).es)],VI ((y5.hA).toInt)]] []))))
theorem xb(a0:ByteArray)(a1:Int)(a2:Int)(h:gI 87 (tt a0 a1 a2) R):aI Try.prog 36 [VS a0,VI a1,VI a2] [] R :=
 uQ (aD (aS _) (aD (aS _) (aD (aS _) bd))) (oQ tO Try.f36 h)
def uL(x0:ByteArray)(x1:Int)(x9:Int)(o6_0:ByteArray)(o6_1:AV)(o8_0:ByteArray)(o8_1:AV):Tree :=
 NS (VS x0)<|NI (VI x1)<|NI (VI x9)<|.aw (Ob.cells [VS o6_0,o6_1]=.cells [VS o6_0,o6_1])<|.aw (aA [.lk .str,.lk .sl] [VS o6_0,o6_1] 0 [.cells [VS o8_0,o8_1]])<|.aw (Ob.cells [VS o8_0,o8_1]=.cells [VS o8_0,o8_1])<|.aw (aA [.lk .str,.lk .sl] [VS o8_0,o8_1] 0 [])<|.test (decide (x1<(aj x0:Int))) (.aw (0<=x1/\x1<aj x0)<|.call 39 [.v (.int .u8 (bt x0 x1))] [] fun r1 o1=>NB r1<|.test r1.toBool (.done 0 [VS x0,VI (IntKind.wrap .i64 (x1+1)),VI x9] [.cells [VS o6_0,o6_1],.cells [VS o8_0,o8_1]]) (.done 1 [VS x0,VI x1,VI x9] [.cells [VS o6_0,o6_1],.cells [VS o8_0,o8_1]])) (.done 1 [VS x0,VI x1,VI x9] [.cells [VS o6_0,o6_1],.cells [VS o8_0,o8_1]])
abbrev zd:=bP Try.prog 87 u6 tf
theorem vd(x0:ByteArray)(x1:Int)(x9:Int)(o6_0:ByteArray)(o6_1:AV)(o8_0:ByteArray)(o8_1:AV)(h:lN 87 (uL x0 x1 x9 o6_0 o6_1 o8_0 o8_1) zd U):zd [VS x0,VI x1,VI x9] [.cells [VS o6_0,o6_1],.cells [VS o8_0,o8_1]] U :=
 gQ tO h
def vk(x0:ByteArray)(x1:Int)(x2:Int)(o6_0:ByteArray)(o6_1:AV)(o8_0:ByteArray)(o8_1:List (List AV)):Tree :=
 NS (VS x0)<|NI (VI x1)<|NI (VI x2)<|.aw (Ob.cells [VS o6_0,o6_1]=.cells [VS o6_0,o6_1])<|.aw (aA [.lk .str,.lk .sl] [VS o6_0,o6_1] 0 [.cells [VS o8_0,.any],.vec 2 o8_1])<|.aw (Ob.cells [VS o8_0,.any]=.cells [VS o8_0,.any])<|.aw (aA [.lk .str,.vec 2] [VS o8_0,.any] 0 [.vec 2 o8_1])<|.call 36 [VS x0,VI (IntKind.wrap .i64 (x1+1)),VI (IntKind.wrap .i64 (x2+1))] [] fun r1 o1=>NT r1<|.aw ((r1.comp 0)=.agg (r1.comp 0).cs/\(r1.comp 0).cs.length=2/\bV [.str,.sl] ((r1.comp 0).cs) 0)<|NI (r1.comp 1)<|.test (decide (((r1.comp 1).toInt)<(0:Int))) (.done 2 [VI (-1)] [.cells [VS o8_0,.any],.vec 2 o8_1]) (.test (decide (((r1.comp 1).toInt)≥(aj x0:Int))) (.done 2 [VI (-1)] [.cells [VS o8_0,.any],.vec 2 o8_1]) (.aw (bO 2 [[VS (((r1.comp 0).cs.getD 0 .any).toStr),((r1.comp 0).cs.getD 1 .any)]]/\((o8_1.length)+([[VS (((r1.comp 0).cs.getD 0 .any).toStr),((r1.comp 0).cs.getD 1 .any)]]:List (List AV)).length)*40<=140737488355328)<|.aw (0<=((r1.comp 1).toInt)/\((r1.comp 1).toInt)<aj x0)<|.test ((bt x0 ((r1.comp 1).toInt))==(41:Int)) (.done 2 [VI (IntKind.wrap .i64 (((r1.comp 1).toInt)+1))] [.cells [VS o8_0,.any],.vec 2 (o8_1++([[VS (((r1.comp 0).cs.getD 0 .any).toStr),((r1.comp 0).cs.getD 1 .any)]]:List (List AV)))]) (.aw (0<=((r1.comp 1).toInt)/\((r1.comp 1).toInt)<aj x0)<|.test ((bt x0 ((r1.comp 1).toInt)) != (32:Int)) (.done 2 [VI (-1)] [.cells [VS o8_0,.any],.vec 2 (o8_1++([[VS (((r1.comp 0).cs.getD 0 .any).toStr),((r1.comp 0).cs.getD 1 .any)]]:List (List AV)))]) (.done 0 [VS x0,VI ((r1.comp 1).toInt),VI x2] [.cells [VS o6_0,o6_1],.cells [VS o8_0,.any],.vec 2 (o8_1++([[VS (((r1.comp 0).cs.getD 0 .any).toStr),((r1.comp 0).cs.getD 1 .any)]]:List (List AV)))]))))
abbrev zJ:=bP Try.prog 87 vg tR
theorem zy(x0:ByteArray)(x1:Int)(x2:Int)(o6_0:ByteArray)(o6_1:AV)(o8_0:ByteArray)(o8_1:List (List AV))(h:lN 87 (vk x0 x1 x2 o6_0 o6_1 o8_0 o8_1) zJ U):zJ [VS x0,VI x1,VI x2] [.cells [VS o6_0,o6_1],.cells [VS o8_0,.any],.vec 2 o8_1] U :=
 gQ tO h
def wU(a0:ByteArray):Tree :=
 .call 40 [VS a0,.v (.int .u8 120),.v (.int .u8 122)] [] fun r1 o1=>NB r1<|.done 0 [VB r1.toBool] []
theorem yu(a0:ByteArray)(h:gI 5 (wU a0) R):aI Try.prog 37 [VS a0] [] R :=
 uQ (aD (aS _) bd) (oQ [] Try.f37 h)
def vY(a0:ByteArray):Tree :=
 .call 40 [VS a0,.v (.int .u8 116),.v (.int .u8 116)] [] fun r1 o1=>NB r1<|.done 0 [VB r1.toBool] []
theorem yU(a0:ByteArray)(h:gI 5 (vY a0) R):aI Try.prog 38 [VS a0] [] R :=
 uQ (aD (aS _) bd) (oQ [] Try.f38 h)
def vn(a0:Int):Tree :=
 .test (decide (a0≥(97:Int))) (.test (decide (a0<=(122:Int))) (.done 0 [VB true] []) (.test (decide (a0≥(48:Int))) (.test (decide (a0<=(57:Int))) (.done 0 [VB true] []) (.test (a0==(42:Int)) (.done 0 [VB true] []) (.done 0 [VB (a0==(43:Int))] []))) (.test (a0==(42:Int)) (.done 0 [VB true] []) (.done 0 [VB (a0==(43:Int))] [])))) (.test (decide (a0≥(48:Int))) (.test (decide (a0<=(57:Int))) (.done 0 [VB true] []) (.test (a0==(42:Int)) (.done 0 [VB true] []) (.done 0 [VB (a0==(43:Int))] []))) (.test (a0==(42:Int)) (.done 0 [VB true] []) (.done 0 [VB (a0==(43:Int))] [])))
theorem y0(a0:Int)(h:gI 25 (vn a0) R):aI Try.prog 39 [.v (.int .u8 a0)] [] R :=
 uQ (aD (aS _) bd) (oQ [] Try.f39 h)
def z7:LI:={hd:={bm:=[(0,.k .str),(7,.k (.int .i64))]},xs:={},rt:={bm:=[(6,.k .bool)]},ex:=0}
def vG:Code:=cS (cP Try.f40) 4
def vU:List (Nat×LI):=[(4,z7)]
def wI(a0:ByteArray)(a1:Int)(a2:Int):Tree :=
 .call 12 [VI (aj a0:Int),VI 1,VI 3] [] fun r1 o1=>NB r1<|.test (!r1.toBool) (.done 0 [VB false] []) (.aw (0<=(0:Int)/\(0:Int)<aj a0)<|.test (decide ((bt a0 0)<a1)) (.done 0 [VB false] []) (.aw (0<=(0:Int)/\(0:Int)<aj a0)<|.test (decide ((bt a0 0)>a2)) (.done 0 [VB false] []) (.loop vG z7 [VS a0,VI 1] [] (fun y2 q2=>.done 0 [VB true] []) (fun y2 q2=>NB (y2.hA)<|.done 0 [VB ((y2.hA).toBool)] []))))
theorem zT(a0:ByteArray)(a1:Int)(a2:Int)(h:gI 40 (wI a0 a1 a2) R):aI Try.prog 40 [VS a0,.v (.int .u8 a1),.v (.int .u8 a2)] [] R :=
 uQ (aD (aS _) (aD (aS _) (aD (aS _) bd))) (oQ vU Try.f40 h)
def tM(x0:ByteArray)(x7:Int):Tree :=
 NS (VS x0)<|NI (VI x7)<|.test (decide (x7<(aj x0:Int))) (.aw (0<=x7/\x7<aj x0)<|.test (decide ((bt x0 x7)<(48:Int))) (.done 2 [VB false] []) (.aw (0<=x7/\x7<aj x0)<|.test (decide ((bt x0 x7)>(57:Int))) (.done 2 [VB false] []) (.done 0 [VS x0,VI (IntKind.wrap .i64 (x7+1))] []))) (.done 1 [] [])
abbrev yT:=bP Try.prog 40 vG z7
theorem xe(x0:ByteArray)(x7:Int)(h:lN 40 (tM x0 x7) yT U):yT [VS x0,VI x7] [] U :=
 gQ vU h
end
end Go.Proofs.Trees
namespace Go.Proofs.Trees
open Go Go.VL
theorem bq(i:Nat)(h:i<1000000000000):IntKind.wrap .i64 ((i:Int)+1)=((i+1:Nat):Int):=by rw[wrap64]<;>omega
inductive E where
 |atom (s:List UInt8)
 |list (l:List E)
mutual
def E.fA:E->List AV
 | .atom s=>[.v (.string (mk s)),.v (.slice none 0 0)]
 | .list l=>[.v (.string (mk [])),.sl (E.bN l)]
def E.bN:List E->List (List AV)
 |[]=>[]
 |e::l=>e.fA::E.bN l
end
def E.lK(e:E):AV:=.agg e.fA
theorem jE(l r:List E):E.bN (l++r)=E.bN l++E.bN r:=by
 induction l with
 |nil=>rfl
 |cons e l ih=>simp[E.bN,ih]
theorem gW(l:List E):(E.bN l).length=l.length:=by
 induction l with
 |nil=>rfl
 |cons e l ih=>simp[E.bN,ih]
def fJ(b:UInt8):Bool:=decide ((97<=b.toNat/\b.toNat<=122)\/(48<=b.toNat/\b.toNat<=57)\/b.toNat=43\/b.toNat=42)
def pj(f:List UInt8->Option (E×List UInt8)):Nat->List UInt8->List E->Option (E×List UInt8)
 |0,_,_=>none
 |
  n+1,s,acc=>match f s with
  |some (p,c::r)=>if c.toNat=41 then some (.list (acc++[p]),r)else if c.toNat=32 then pj f n r (acc++[p])else none
  |_=>none
def rd:Nat->List UInt8->Option (E×List UInt8)
 |0,s=>if s.takeWhile fJ=[]then none else some (.atom (s.takeWhile fJ),s.dropWhile fJ)
 |k+1,s=>if s.takeWhile fJ=[]then(match s with
  |c::r=>if c.toNat=40 then pj (rd k) (r.length+1) r []else none
  |[]=>none)else some (.atom (s.takeWhile fJ),s.dropWhile fJ)
theorem qP{f:List UInt8->Option (E×List UInt8)}(hf:∀s e r,f s=some (e,r)->r.length<s.length):∀(n:Nat) (s:List UInt8) (acc:List E) (e:E) (r:List UInt8),pj f n s acc=some (e,r)->r.length<s.length
 |0,s,acc,e,r,h=>by cases h
 |
  n+1,s,acc,e,r,h=>by
  simp only[pj]at h
  split at h
  ·rename_i p c r' hs
   have:=hf _ _ _ hs
   simp only[aB]at this
   split at h
   ·cases h;omega
   ·split at h
    ·have:=qP hf n _ _ _ _ h;omega
    ·cases h
  ·cases h
theorem i5{s:List UInt8}(h:¬s.takeWhile fJ=[]):(s.dropWhile fJ).length<s.length:=by
 have h1:=congrArg dW (List.takeWhile_append_dropWhile (p:=fJ) (l:=s))
 simp only[ax]at h1
 have:0<(s.takeWhile fJ).length:=List.length_pos_iff.2 h
 omega
theorem qm:∀(k:Nat) (s:List UInt8) (e:E) (r:List UInt8),rd k s=some (e,r)->r.length<s.length
 |
  0,s,e,r,h=>by
  simp only[rd]at h
  split at h
  ·cases h
  ·rename_i hn;cases h;exact i5 hn
 |
  k+1,s,e,r,h=>by
  simp only[rd]at h
  split at h
  ·split at h
   ·split at h
    ·have:=qP (qm k) _ _ _ _ _ h
     simp only[aB];omega
    ·cases h
   ·cases h
  ·rename_i hn;cases h;exact i5 hn
theorem so{s:List UInt8}{i:Nat}(hi:i<s.length)(hb:fJ (s.getD i 0)=true):((s.drop i).takeWhile fJ).length=((s.drop (i+1)).takeWhile fJ).length+1:=by
 have e:s.drop i=s.getD i 0::s.drop (i+1):=by
  rw[bX hi];simp[aa,hi]
 rw[e,List.takeWhile_cons_of_pos hb];simp
theorem me{s:List UInt8}{i:Nat}(hi:i<s.length)(hb:fJ (s.getD i 0)=false):(s.drop i).takeWhile fJ=[]:=by
 have e:s.drop i=s.getD i 0::s.drop (i+1):=by
  rw[bX hi];simp[aa,hi]
 rw[e,List.takeWhile_cons_of_neg (by rw[hb];simp)]
theorem sD(s:List UInt8):s.take (s.takeWhile fJ).length=s.takeWhile fJ:=by
 have h:=List.takeWhile_append_dropWhile (p:=fJ) (l:=s)
 have:(s.takeWhile fJ++s.dropWhile fJ).take (s.takeWhile fJ).length=s.takeWhile fJ:=List.take_left
 rw[h]at this;exact this
end Go.Proofs.Trees
namespace Go.Proofs.Trees
open Go Go.VL
mutual
def E.sz:E->Nat
 | .atom _=>1
 | .list l=>1+E.kY l
def E.kY:List E->Nat
 |[]=>0
 |e::l=>e.sz+E.kY l
end
mutual
def E.ok:E->Prop
 | .atom s=>s≠[]
 | .list l=>E.sJ l
def E.sJ:List E->Prop
 |[]=>True
 |e::l=>e.ok/\E.sJ l
end
theorem oC(l r:List E):E.kY (l++r)=E.kY l+E.kY r:=by
 induction l with
 |nil=>simp[E.kY]
 |cons e l ih=>simp[E.kY,ih];omega
theorem oB(l r:List E):E.sJ (l++r)↔E.sJ l/\E.sJ r:=by
 induction l with
 |nil=>simp[E.sJ]
 |cons e l ih=>simp[E.sJ,ih,and_assoc]
theorem qN{f:List UInt8->Option (E×List UInt8)}(hf:∀s e r,f s=some (e,r)->e.ok/\e.sz+r.length<=s.length):∀(n:Nat) (s:List UInt8) (acc:List E) (e:E) (r:List UInt8),pj f n s acc=some (e,r)->E.sJ acc->e.ok/\e.sz+r.length<=s.length+1+E.kY acc
 |0,s,acc,e,r,h,_=>by cases h
 |
  n+1,s,acc,e,r,h,ha=>by
  simp only[pj]at h
  split at h
  ·rename_i p c r' hs
   obtain⟨h1,h2⟩:=hf _ _ _ hs
   simp only[aB]at h2
   split at h
   ·cases h
    refine⟨(oB _ _).2 ⟨ha,h1,trivial⟩,?_⟩
    simp only[E.sz,oC,E.kY];omega
   ·split at h
    ·have:=qN hf n _ _ _ _ h ((oB _ _).2 ⟨ha,h1,trivial⟩)
     refine⟨this.1,?_⟩
     have h3:=this.2
     simp only[oC,E.kY]at h3;omega
    ·cases h
  ·cases h
theorem ml(s:List UInt8):(s.takeWhile fJ).length+(s.dropWhile fJ).length=s.length:=by
 have:=congrArg dW (List.takeWhile_append_dropWhile (p:=fJ) (l:=s))
 simpa only[ax]using this
theorem sP:∀(k:Nat) (s:List UInt8) (e:E) (r:List UInt8),rd k s=some (e,r)->e.ok/\e.sz+r.length<=s.length
 |
  0,s,e,r,h=>by
  simp only[rd]at h
  split at h
  ·cases h
  ·rename_i hn;cases h
   have:=ml s
   have:0<(s.takeWhile fJ).length:=List.length_pos_iff.2 hn
   exact⟨hn,by simp only[E.sz];omega⟩
 |
  k+1,s,e,r,h=>by
  simp only[rd]at h
  split at h
  ·split at h
   ·split at h
    ·have:=qN (sP k) _ _ _ _ _ h trivial
     refine⟨this.1,?_⟩
     have h3:=this.2
     simp only[E.kY,aB]at h3 |-;omega
    ·cases h
   ·cases h
  ·rename_i hn;cases h
   have:=ml s
   have:0<(s.takeWhile fJ).length:=List.length_pos_iff.2 hn
   exact⟨hn,by simp only[E.sz];omega⟩
def pW(s:List UInt8):Option E:=if s.length>8000 then none else match rd 300 s with|some (e,[])=>some e|_=>none
theorem nM{s:List UInt8}{e:E}(h:pW s=some e):e.ok/\e.sz<=8000:=by
 unfold pW at h
 split at h
 ·cases h
 ·split at h
  ·rename_i e' hr
   cases h
   have:=sP _ _ _ _ hr
   exact⟨this.1,by have:=this.2;simp at this;omega⟩
  ·cases h
def mz(b:UInt8):Bool:=decide (48<=b.toNat/\b.toNat<=57)
def named(lo hi:Nat):List UInt8->Bool
 |[]=>false
 |c::r=>decide (r.length<=2)&&decide (lo<=c.toNat/\c.toNat<=hi)&&r.all mz
def lD(s:List UInt8):Bool:=named 120 122 s
def dS(s:List UInt8):Bool:=named 116 116 s
def fK(v lo hi:Int):Bool:=decide (lo<=v/\v<=hi)
theorem sR(v lo hi:Int):aI Try.prog 12 [.v (.int .i64 v),.v (.int .i64 lo),.v (.int .i64 hi)] [] (dL (.v (.bool (fK v lo hi)))):=by
 refine yF _ _ _ ?_
 simp only[u7,↓zq,zs,aA,dL,fK]
 constructor<;>intro h<;>simp at h<;>simp[h]
 omega
theorem we(s:List UInt8)(hs:s.length<=3):∀(k i:Nat),i+k=s.length->yT [.v (.string (mk s)),.v (.int .i64 (i:Int))] [] (ib (if(s.drop i).all mz=true then(1,[],[])else(2,[.v (.bool false)],[])))
 |
  0,i,hi=>by
  have hd:s.drop i=[]:=bC (by omega)
  refine xe _ _ ?_
  simp only[tM,↓zq,zs,aA,zt]
  exact⟨fun h=>by omega,fun _=>by simp[ib,hd]⟩
 |
  k+1,i,hi=>by
  have hlt:i<s.length:=by omega
  have e:s.drop i=s.getD i 0::s.drop (i+1):=by
   rw[bX hlt];simp[aa,hlt]
  refine xe _ _ ?_
  simp only[tM,↓zq,zs,aA,zt,nk s i hlt,e,dC]
  generalize hb:s.getD i 0=b
  refine⟨fun _=>⟨by omega,fun h=>?_,fun h=>⟨by omega,fun h2=>?_,fun h2=>?_⟩⟩,fun h=>by omega⟩
  ·have:mz b=false:=by simp[mz];omega
   simp only[this,zf,ib]
  ·have:mz b=false:=by simp[mz];omega
   simp only[this,zf,ib]
  ·have:mz b=true:=by simp[mz];omega
   rw[bq i (by omega),this,bF]
   exact we s hs k (i+1) (by omega)
theorem xf(s:List UInt8)(lo hi:Nat):aI Try.prog 40 [.v (.string (mk s)),.v (.int .u8 (lo:Int)),.v (.int .u8 (hi:Int))] [] (dL (.v (.bool (named lo hi s)))):=by
 refine zT _ _ _ ?_
 unfold wI
 rw[jY]
 refine bg (sR _ _ _) ?_
 simp only[↓zq,zs,aA,zt,dL]
 refine⟨fun h=>?_,fun h=>?_⟩
 ·cases s with
  |nil=>rfl
  |
   cons c s =>
   simp[fK]at h
   have:¬s.length<=2:=by omega
   simp[named,this]
 ·cases s with
  |nil=>simp[fK]at h
  |
   cons c s =>
   simp[fK]at h
   have hl:s.length<=2:=by omega
   have hb:=nk (c::s) 0 (by simp)
   simp only[Int.ofNat_eq_natCast,Int.cast_ofNat_Int]at hb
   simp only[↓zq,zs,aA,hb]
   refine⟨by omega,fun h1=>?_,fun h1=>⟨by omega,fun h2=>?_,fun h2=>?_⟩⟩
   ·have:¬lo<=c.toNat:=by omega
    simp[named,this]
   ·have:¬c.toNat<=hi:=by omega
    simp[named,this]
   ·refine ek (we (c::s) (by simp;omega) s.length 1 (by simp;omega)) (fun ys o e=>?_) (fun ys o e=>?_)
    ·split at e<;>cases e
     rename_i ha
     simp at ha
     simp only[↓zq,zs,aA]
     simp[named,hl]
     exact⟨⟨by omega,by omega⟩,fun x hx=>by simpa using ha x hx⟩
    ·split at e<;>cases e
     rename_i ha
     simp only[↓zq,zs,aA]
     have:s.all mz=false:=by simpa using ha
     simp[named,this]
theorem yD(s:List UInt8):aI Try.prog 37 [.v (.string (mk s))] [] (dL (.v (.bool (lD s)))):=by
 refine yu _ ?_
 unfold wU
 refine bg (xf s 120 122) ?_
 simp only[↓zq,zs,aA,dL,lD]
theorem xD(s:List UInt8):aI Try.prog 38 [.v (.string (mk s))] [] (dL (.v (.bool (dS s)))):=by
 refine yU _ ?_
 unfold vY
 refine bg (xf s 116 116) ?_
 simp only[↓zq,zs,aA,dL,dS]
end Go.Proofs.Trees
namespace Go.Proofs.Trees
open Go Go.VL
structure T4 where
 c:Int
 x:Int
 y:Int
 z:Int
 deriving DecidableEq
def t0:T4:=⟨0,0,0,0⟩
def T4.cells(t:T4):List AV:=[.v (.int .i64 t.c),.v (.int .i64 t.x),.v (.int .i64 t.y),.v (.int .i64 t.z)]
def T4.av(t:T4):AV:=.agg t.cells
def ew(a:AV)(l:List T4):Prop:=LK.sl.has a/\a.elems=l.map T4.cells
theorem ew.len{a:AV}{l:List T4}(h:ew a l):a.elems.length=l.length:=by rw[h.2,aN]
theorem fP(l:List T4){i:Nat}(hi:i<l.length):(l.map T4.cells).getD i []=(l.getD i t0).cells:=by
 simp[aa,hi]
theorem ew.idx{a:AV}{l:List T4}(h:ew a l){i:Nat}(hi:i<l.length):a.elems.getD i []=(l.getD i t0).cells:=by
 rw[h.2,fP l hi]
theorem cO(t:T4):t.cells.length=4:=rfl
theorem cR(t:T4):bV [.int .i64,.int .i64,.int .i64,.int .i64] t.cells 0=True:=by simp[bV,T4.cells,j1]
theorem ei(t:T4):(t.cells.getD 0 .any).toInt=t.c:=rfl
theorem er(t:T4):(t.cells.getD 1 .any).toInt=t.x:=rfl
theorem ey(t:T4):(t.cells.getD 2 .any).toInt=t.y:=rfl
theorem ef(t:T4):(t.cells.getD 3 .any).toInt=t.z:=rfl
theorem lj(i:Nat)(h0:0<i)(h:i<1000000000000):IntKind.wrap .i64 ((i:Int)-1)=((i-1:Nat):Int):=by rw[wrap64]<;>omega
def before(a b:T4):Bool:=if a.x≠b.x then decide (a.x>b.x)else if a.y≠b.y then decide (a.y>b.y)else decide (a.z>b.z)
theorem ta(a b:T4):aI Try.prog 17 [a.av,b.av] [] (dL (.v (.bool (before a b)))):=by
 refine yh _ _ _ _ _ _ _ _ ?_
 simp only[vV,↓zq,zs,aA,dL,before]
 refine⟨fun h=>?_,fun h=>⟨fun h2=>?_,fun h2=>?_⟩⟩<;>simp[*]
def pw:Nat->Int->Int->Int
 |0,o,n=>o
 |k+1,o,n=>if 0<o/\o<=1000000000 then pw k (o*n) n else o
theorem wC(n:Int)(hn:0<=n/\n<=100)(t:Int)(ht:t<=400):∀(k:Nat) (o i:Int),0<=i->(t-i).toNat=k->tV [.v (.int .i64 o),.v (.int .i64 n),.v (.int .i64 t),.v (.int .i64 i)] [] (mr 1 [.v (.int .i64 (pw k o n))] [])
 |
  0,o,i,h0,hk=>by
  refine uX _ _ _ _ ?_
  simp only[uf,↓zq,zs,aA,mr]
  refine⟨fun h=>?_,fun h=>?_⟩
  ·omega
  ·simp[pw]
 |
  k+1,o,i,h0,hk=>by
  refine uX _ _ _ _ ?_
  simp only[uf,↓zq,zs,aA]
  refine⟨fun h=>⟨fun h2=>⟨fun h3=>?_,fun h3=>?_⟩,fun h2=>?_⟩,fun h=>?_⟩
  ·have hb:0<=o*n:=Int.mul_nonneg (by omega) hn.1
   have hc:o*n<=1000000000*100:=Int.mul_le_mul h3 hn.2 hn.1 (by omega)
   rw[wrap64 (o*n) (by omega) (by omega),wrap64 (i+1) (by omega) (by omega)]
   have h2':0<o:=h2
   simp only[pw,h2',h3,and_self,if_true]
   exact wC n hn t ht k (o*n) (i+1) (by omega) (by omega)
  ·simp[mr,pw];omega
  ·simp[mr,pw];omega
  ·omega
def fQ(o n t:Int):Int:=if 1000000001<pw t.toNat o n then 1000000001 else pw t.toNat o n
theorem yr(o n t:Int)(hn:0<=n/\n<=100)(ht:t<=400):aI Try.prog 13 [.v (.int .i64 o),.v (.int .i64 n),.v (.int .i64 t)] [] (dL (.v (.int .i64 (fQ o n t)))):=by
 refine yI _ _ _ ?_
 unfold vw
 refine fU (wC n hn t ht t.toNat o 0 (by omega) (by omega)) ?_
 simp[cK,j1,AV.toInt,dL,fQ]
theorem vR(a:Int):aI Try.prog 31 [.v (.int .i64 a)] [] (dL (.v (.bool false))):=by
 refine yw _ ?_
 simp[wm,cK,dL]
def mg(a b:Int):Int:=if a<b then -1 else if a>b then 1 else 0
theorem uw(a b:Int):aI Try.prog 23 [.v (.int .i64 a),.v (.int .i64 b)] [] (dL (.v (.int .i64 (mg a b)))):=by
 refine zF _ _ ?_
 unfold wu
 refine bg (vR a) ?_
 simp only[↓zq,zs,aA]
 refine bg (vR b) ?_
 simp only[↓zq,zs,aA,dL,mg]
 refine⟨fun h=>(by cases h),fun _=>⟨fun h=>(by cases h),fun _=>⟨fun h=>?_,fun h=>⟨fun h2=>?_,fun h2=>?_⟩⟩⟩⟩<;>simp[*]
def rl:List Int->Int
 |[]=>0
 |a::r=>if a≠0 then a else rl r
def cM(l:List Int):List (List AV):=l.map fun n=>[.v (.int .i64 n)]
theorem vz(l:List Int)(hl:l.length<1000):∀(r:List Int) (i:Nat),l.drop i=r->i<=l.length->tc [.v (.int .i64 0),.sl (cM l),.v (.int .i64 (l.length:Int)),.v (.int .i64 (i:Int))] [] (ib (if rl r=0 then(1,[.v (.int .i64 0)],[])else(2,[.v (.int .i64 (rl r))],[])))
 |
  [],i,hr,hi=>by
  have:l.length<=i:=by simpa using hr
  refine vS _ _ _ _ ?_
  simp only[uj,↓zq,zs,aA]
  refine⟨fun h=>by omega,fun h=>by simp[ib,rl]⟩
 |
  a::r,i,hr,hi=>by
  have hlt:i<l.length:=by
   rcases Nat.lt_or_ge i l.length with h|h
   ·exact h
   ·rw[bC h]at hr;cases hr
  have hg:(cM l).getD i []=[.v (.int .i64 a)]:=by
   have:l[i]?=some a:=by rw[<-List.head?_drop,hr];rfl
   simp[cM,aa,this]
  have hd:l.drop (i+1)=r:=by rw[<-List.tail_drop,hr];rfl
  refine vS _ _ _ _ ?_
  have hlen:(cM l).length=l.length:=by simp[cM]
  simp only[uj,↓zq,zs,aA,aM,hg,hlen]
  refine⟨fun h=>⟨⟨by omega,by omega⟩,by omega,fun h2=>?_,fun h2=>?_⟩,fun h=>by omega⟩
  ·simp[ib,rl,h2]
  ·rw[bq i (by omega)]
   simp only[rl,h2,ne_eq,not_true_eq_false,if_false]
   exact vz l hl r (i+1) hd (by omega)
theorem yP(l:List Int)(hl:l.length<1000):aI Try.prog 22 [.sl (cM l)] [] (dL (.v (.int .i64 (rl l)))):=by
 refine zL _ (dm _ ▸ trivial) ?_
 simp only[vZ,↓zq,zs,aA]
 have hlen:(cM l).length=l.length:=by simp[cM]
 rw[hlen]
 refine ek (vz l hl l 0 rfl (by omega)) (fun ys o e=>?_) (fun ys o e=>?_)
 ·split at e<;>cases e
  simp_all[↓zq,zs,aA,dL]
 ·split at e<;>cases e
  simp_all[↓zq,zs,aA,dL]
def rS(a b:T4):Int:=rl [mg b.x a.x,mg b.y a.y,mg b.z a.z]
theorem y7(a b:T4):aI Try.prog 16 [a.av,b.av] [] (dL (.v (.int .i64 (rS a b)))):=by
 refine zV _ _ _ _ _ _ _ _ ?_
 unfold xE
 refine bg (uw _ _) ?_
 simp only[↓zq,zs,aA]
 refine bg (uw _ _) ?_
 simp only[↓zq,zs,aA]
 refine bg (uw _ _) ?_
 simp only[↓zq,zs,aA]
 refine bg (yP [mg b.x a.x,mg b.y a.y,mg b.z a.z] (by simp)) ?_
 simp only[↓zq,zs,aA,dL,rS]
theorem jG(a b:T4):before a b=decide (rS a b<0):=by
 simp only[before,rS,rl,mg]
 rcases Int.lt_trichotomy a.x b.x with h1|h1|h1<;>rcases Int.lt_trichotomy a.y b.y with h2|h2|h2<;>rcases Int.lt_trichotomy a.z b.z with h3|h3|h3 <;>
  simp[h1,h2,h3,Int.ne_of_lt,Int.ne_of_gt,Int.lt_asymm]<;>omega
end Go.Proofs.Trees
namespace Go.Proofs.Trees
open Go Go.VL
def kQ(t:T4):Bool:=fK t.c 1 1000000000&&fK t.x 0 400&&fK t.y 0 400&&fK t.z 0 400
def mw(l:List T4)(i:Nat):Bool:=aq i 0||before (l.getD (i-1) t0) (l.getD i t0)
def fm(l:List T4):Nat->Nat->Bool
 |0,_=>true
 |k+1,i=>kQ (l.getD i t0)&&mw l i&&fm l k (i+1)
theorem tH(a:AV)(l:List T4)(ha:ew a l)(hl:l.length<1000000000000):∀(k i:Nat),i+k=l.length->uu [a,.v (.int .i64 (i:Int))] [] (ib (if fm l k i=true then(1,[a],[])else(2,[.v (.bool false)],[])))
 |
  0,i,hi=>by
  refine u9 _ _ ?_
  simp only[uK,↓zq,zs,aA,ha.len]
  exact⟨ha.1,ha.1,fun h=>by omega,fun _=>by simp[ib,fm]⟩
 |
  k+1,i,hi=>by
  have hlt:i<l.length:=by omega
  refine u9 _ _ ?_
  simp only[uK,↓zq,zs,aA,ha.len,aM,ha.idx hlt,cO,cR,ei,er,ey,ef]
  refine⟨ha.1,ha.1,fun _=>⟨⟨ha.1,by omega,by omega⟩,by omega,?_⟩,fun h=>by omega⟩
  refine bg (sR _ _ _) ?_
  simp only[↓zq,zs,aA]
  refine⟨fun h=>by simp only[ib,fm,kQ,h,zf],fun h1=>?_⟩
  refine bg (sR _ _ _) ?_
  simp only[↓zq,zs,aA]
  refine⟨fun h=>by simp only[ib,fm,kQ,h,zf],fun h2=>?_⟩
  refine bg (sR _ _ _) ?_
  simp only[↓zq,zs,aA]
  refine⟨fun h=>by simp only[ib,fm,kQ,h,zf],fun h3=>?_⟩
  refine bg (sR _ _ _) ?_
  simp only[↓zq,zs,aA]
  refine⟨fun h=>by simp only[ib,fm,kQ,h,zf],fun h4=>⟨fun h=>?_,fun h=>?_⟩⟩
  ·have h0:0<i:=by omega
   have hlt':i-1<l.length:=by omega
   simp only[↓zq,zs,aA,lj i h0 (by omega),aM,ha.idx hlt',cO,cR,ei,er,ey,ef]
   refine⟨⟨ha.1,by omega,by omega⟩,by omega,?_⟩
   refine bg (ta (l.getD (i-1) t0) (l.getD i t0)) ?_
   have hb:aq i 0=false:=by cases i with|zero=>omega|succ i=>rfl
   simp only[↓zq,zs,aA]
   refine⟨fun h5=>by simp only[ib,fm,kQ,mw,hb,h5,zf],fun h5=>?_⟩
   rw[bq i (by omega)]
   have:=tH a l ha hl k (i+1) (by omega)
   simpa only[fm,kQ,h1,h2,h3,h4,mw,hb,h5,c0,bF,Bool.false_or]using this
  ·have h0:i=0:=by omega
   subst h0
   rw[bq 0 (by omega)]
   have:=tH a l ha hl k (0+1) (by omega)
   have hb:aq 0 0=true:=rfl
   simpa only[fm,kQ,h1,h2,h3,h4,mw,hb,c0,bF,Bool.true_or]using this
def valid(l:List T4):Bool:=fm l l.length 0&&decide (l.length<=60)
theorem zP(a:AV)(l:List T4)(ha:ew a l)(hl:l.length<1000000000000):aI Try.prog 11 [a] [] (dL (.v (.bool (valid l)))):=by
 refine yd _ ha.1 ?_
 unfold w8
 refine ek (tH a l ha hl l.length 0 (by omega)) (fun ys o e=>?_) (fun ys o e=>?_)
 ·split at e<;>cases e
  rename_i h
  simp only[↓zq,zs,aA,ha.len,dL,valid,h]
  refine⟨ha.1,ha.1,?_⟩
  congr 3
  simp;omega
 ·split at e<;>cases e
  rename_i h
  simp[cK,kA,AV.toBool,dL,valid,h]
def l4(es:List Int):Nat->Nat->Bool
 |0,_=>true
 |k+1,i=>decide (¬es.getD i 0<0)&&decide (¬es.getD i 0>400)&&l4 es k (i+1)
theorem lY(l:List Int){i:Nat}(hi:i<l.length):(cM l).getD i []=[.v (.int .i64 (l.getD i 0))]:=by
 simp[cM,aa,hi]
theorem wi(a b:AV)(ha:LK.sl.has a)(hb:LK.sl.has b)(x8 x9:Int)(es:List Int)(hl:es.length<1000):∀(k i:Nat),i+k=es.length->zn [a,b,.v (.int .i64 x8),.v (.int .i64 x9),.v (.int .i64 (es.length:Int)),.v (.int .i64 (i:Int))] [.vec 1 (cM es)]
 (ib (if l4 es k i=true then(1,[a,b,.v (.int .i64 x8),.v (.int .i64 x9)],[])else(2,[.v (.bool false)],[])))
 |
  0,i,hi=>by
  refine xz _ _ _ _ _ _ _ ?_
  simp only[ux,↓zq,zs,aA]
  exact⟨ha,hb,fun h=>by omega,fun _=>by simp[ib,l4]⟩
 |
  k+1,i,hi=>by
  have hlt:i<es.length:=by omega
  have hlen:(cM es).length=es.length:=by simp[cM]
  refine xz _ _ _ _ _ _ _ ?_
  simp only[ux,↓zq,zs,aA,aM,lY es hlt,hlen]
  refine⟨ha,hb,fun _=>⟨by omega,⟨hlt,by omega⟩,fun h=>by simp only[ib,l4,h,zf],fun h=>⟨fun h2=>by simp only[ib,l4,h2,zf],fun h2=>?_⟩⟩,fun h=>by omega⟩
  rw[bq i (by omega)]
  have:=wi a b ha hb x8 x9 es hl k (i+1) (by omega)
  simpa only[l4,h,h2,decide_true,not_false_eq_true,bF]using this
theorem gD(t:T4):kQ t=(decide (¬t.c<1)&&(decide (¬t.c>1000000000)&&l4 [t.x,t.y,t.z] 3 0)):=by
 rw[Bool.eq_iff_iff]
 simp[kQ,fK,l4]
 omega
theorem yZ(a:AV)(l:List T4)(ha:ew a l)(hl:l.length<1000000000000):∀(k i:Nat),i+k=l.length->tY [a,a,.v (.int .i64 (l.length:Int)),.v (.int .i64 (i:Int))] [] (ib (if fm l k i=true then(1,[a],[])else(2,[.v (.bool false)],[])))
 |
  0,i,hi=>by
  refine xc _ _ _ _ ?_
  simp only[zN,↓zq,zs,aA]
  exact⟨ha.1,ha.1,fun h=>by omega,fun _=>by simp[ib,fm]⟩
 |
  k+1,i,hi=>by
  have hlt:i<l.length:=by omega
  refine xc _ _ _ _ ?_
  have key:(kQ (l.getD i t0)&&mw l i)=true->l4 [(l.getD i t0).x,(l.getD i t0).y,(l.getD i t0).z] 3 0=true:=fun h=>by
   rw[gD]at h;simp at h;simp[h]
  have rec1:=wi a a ha.1 ha.1 (l.length:Int) (i:Int) [(l.getD i t0).x,(l.getD i t0).y,(l.getD i t0).z] (by simp) 3 0 rfl
  simp only[zN,↓zq,zs,aA,ha.len,aM,ha.idx hlt,cO,cR,ei,er,ey,ef]
  refine⟨ha.1,ha.1,fun _=>⟨⟨ha.1,by omega,by omega⟩,by omega,fun h=>?_,fun h1=>⟨fun h=>?_,fun h2=>⟨fun h=>?_,fun h=>?_⟩⟩⟩,fun h=>by omega⟩
  ·simp only[ib,fm,gD,h,zf]
  ·simp only[ib,fm,gD,h,zf]
  ·have h0:0<i:=by omega
   have hlt':i-1<l.length:=by omega
   have hb:aq i 0=false:=by cases i with|zero=>omega|succ i=>rfl
   simp only[↓zq,zs,aA,lj i h0 (by omega),aM,ha.idx hlt',cO,cR,ei,er,ey,ef]
   refine⟨⟨ha.1,by omega,by omega⟩,by omega,?_⟩
   refine bg (y7 (l.getD (i-1) t0) (l.getD i t0)) ?_
   simp only[↓zq,zs,aA]
   refine⟨fun h5=>?_,fun h5=>?_⟩
   ·have:before (l.getD (i-1) t0) (l.getD i t0)=false:=by rw[jG];exact decide_eq_false (by omega)
    simp only[ib,fm,mw,hb,this,zf]
   ·have hbf:before (l.getD (i-1) t0) (l.getD i t0)=true:=by rw[jG];exact decide_eq_true (by omega)
    refine ek rec1 (fun ys o e=>?_) (fun ys o e=>?_)
    ·split at e<;>cases e
     rename_i hp
     simp only[↓zq,zs,aA]
     refine⟨ha.1,ha.1,?_⟩
     rw[bq i (by omega)]
     have:=yZ a l ha hl k (i+1) (by omega)
     simpa only[fm,gD,h1,h2,hp,mw,hb,hbf,decide_true,not_false_eq_true,c0,bF,Bool.false_or]using this
    ·split at e<;>cases e
     rename_i hp
     simp only[↓zq,zs,aA]
     simp only[ib,fm,gD,hp,zf]
  ·have h0:i=0:=by omega
   subst h0
   have hb:aq 0 0=true:=rfl
   refine ek rec1 (fun ys o e=>?_) (fun ys o e=>?_)
   ·split at e<;>cases e
    rename_i hp
    simp only[↓zq,zs,aA]
    refine⟨ha.1,ha.1,?_⟩
    rw[bq 0 (by omega)]
    have:=yZ a l ha hl k (0+1) (by omega)
    simpa only[fm,gD,h1,h2,hp,mw,hb,decide_true,not_false_eq_true,c0,bF,Bool.true_or]using this
   ·split at e<;>cases e
    rename_i hp
    simp only[↓zq,zs,aA]
    simp only[ib,fm,gD,hp,zf]
theorem yY(a:AV)(l:List T4)(ha:ew a l)(hl:l.length<1000000000000):aI Try.prog 10 [a] [] (dL (.v (.bool (valid l)))):=by
 refine yW _ ha.1 ?_
 simp only[v8,qH,ha.len]
 refine⟨ha.1,ek (yZ a l ha hl l.length 0 (by omega)) (fun ys o e=>?_) (fun ys o e=>?_)⟩
 ·split at e<;>cases e
  rename_i h
  simp only[↓zq,zs,aA,ha.len,dL,valid,h]
  refine⟨ha.1,ha.1,?_⟩
  congr 3
  simp;omega
 ·split at e<;>cases e
  rename_i h
  simp[cK,kA,AV.toBool,dL,valid,h]
end Go.Proofs.Trees
namespace Go.Proofs.Trees
open Go Go.VL
theorem lM{n:Int}(hn:0<=n):∀(k:Nat) {o:Int},0<=o->0<=pw k o n
 |0,o,h=>h
 |
  k+1,o,h=>by
  unfold pw
  split
  ·exact lM hn k (Int.mul_nonneg h hn)
  ·exact h
theorem eu{o n t:Int}(hn:0<=n)(h:0<=o):0<=fQ o n t/\fQ o n t<=1000000001:=by
 have:=lM hn t.toNat h
 unfold fQ
 split<;>omega
def dP(t:T4)(x y z:Int):Int:=if(x=0/\t.x>0)\/(y=0/\t.y>0)\/(z=0/\t.z>0)then 0 else fQ (fQ (fQ t.c x t.x) y t.y) z t.z
theorem jx{t:T4}{x y z:Int}(ht:kQ t=true)(hx:0<=x)(hy:0<=y)(hz:0<=z):0<=dP t x y z/\dP t x y z<=1000000001:=by
 unfold dP
 split
 ·omega
 ·have hc:0<=t.c:=by simp[kQ,fK]at ht;omega
  exact eu hz (eu hy (eu hx hc).1).1
def fG(l:List T4)(x y z:Int):Nat->Nat->Int->Option Int
 |0,_,s=>some s
 |k+1,i,s=>if s+dP (l.getD i t0) x y z>1000000000 then none else fG l x y z k (i+1) (s+dP (l.getD i t0) x y z)
def uv:Option Int->Nat×List AV×List Ob
 |some r=>(1,[.v (.int .i64 r)],[])
 |none=>(2,[.v (.int .i64 0),.v (.bool false)],[])
theorem oe{l:List T4}:∀(k i:Nat),fm l k i=true->∀j,i<=j->j<i+k->kQ (l.getD j t0)=true
 |0,i,h,j,h1,h2=>by omega
 |
  k+1,i,h,j,h1,h2=>by
  simp only[fm,ag]at h
  by_cases e:j=i
  ·subst e;exact h.1.1
  ·exact oe k (i+1) h.2 j (by omega) (by omega)
theorem kd{l:List T4}(h:valid l=true):l.length<=60/\∀j,j<l.length->kQ (l.getD j t0)=true:=by
 simp only[valid,ag,decide_eq_true_eq]at h
 exact⟨h.2,fun j hj=>oe l.length 0 h.1 j (by omega) (by omega)⟩
theorem w6(a:AV)(l:List T4)(ha:ew a l)(hl:l.length<=60)(hok:∀j,j<l.length->kQ (l.getD j t0)=true)(x y z:Int)(hx:0<=x/\x<=100)(hy:0<=y/\y<=100)(hz:0<=z/\z<=100) :
 ∀(k i:Nat) (s:Int),i+k=l.length->0<=s->s<=1000000000->xT [a,.v (.int .i64 x),.v (.int .i64 y),.v (.int .i64 z),.v (.int .i64 s),.v (.int .i64 (i:Int))] [] (ib (uv (fG l x y z k i s)))
 |
  0,i,s,hi,h0,h1=>by
  refine wN _ _ _ _ _ _ ?_
  simp only[tI,↓zq,zs,aA,ha.len]
  exact⟨ha.1,ha.1,fun h=>by omega,fun _=>rfl⟩
 |
  k+1,i,s,hi,h0,h1=>by
  have hlt:i<l.length:=by omega
  refine wN _ _ _ _ _ _ ?_
  simp only[tI,↓zq,zs,aA,ha.len,aM,ha.idx hlt,cO,cR,ei,er,ey,ef,bq i (show i<1000000000000 by omega)]
  have hk:=hok i hlt
  have hp:=jx hk hx.1 hy.1 hz.1
  refine⟨ha.1,ha.1,fun _=>⟨⟨ha.1,by omega,by omega⟩,by omega,?_⟩,fun h=>by omega⟩
  have hb:fG l x y z (k+1) i s=if s+dP (l.getD i t0) x y z>1000000000 then none else fG l x y z k (i+1) (s+dP (l.getD i t0) x y z):=rfl
  have ih:=fun s'=>w6 a l ha hl hok x y z hx hy hz k (i+1) s' (by omega)
  generalize l.getD i t0=t at *
  have ht:1<=t.c/\t.c<=1000000000/\0<=t.x/\t.x<=400/\0<=t.y/\t.y<=400/\0<=t.z/\t.z<=400:=by simp[kQ,fK]at hk;omega
  have skip:((x=0/\t.x>0)\/(y=0/\t.y>0)\/(z=0/\t.z>0))->xT [a,.v (.int .i64 x),.v (.int .i64 y),.v (.int .i64 z),.v (.int .i64 s),.v (.int .i64 ((i+1:Nat):Int))] [] (ib (uv (fG l x y z (k+1) i s))):=fun hc=>by
   have:dP t x y z=0:=by unfold dP;rw[if_pos hc]
   rw[hb,this,Int.add_zero,if_neg (by omega)]
   exact ih s h0 h1
  have ev:¬((x=0/\t.x>0)\/(y=0/\t.y>0)\/(z=0/\t.z>0))->fQ (fQ (fQ t.c x t.x) y t.y) z t.z=dP t x y z:=fun hc=>by unfold dP;rw[if_neg hc]
  repeat' (apply an<;>intro _)
  all_goals first
   |exact skip (by omega)
   |(
    refine bg (yr _ _ _ hx (by omega)) ?_
    simp only[↓zq,zs,aA]
    refine bg (yr _ _ _ hy (by omega)) ?_
    simp only[↓zq,zs,aA]
    refine bg (yr _ _ _ hz (by omega)) ?_
    simp only[↓zq,zs,aA]
    rw[ev (by omega),wrap64 _ (by omega) (by omega)]
    refine⟨fun h=>?_,fun h=>?_⟩
    ·rw[hb,if_pos h];rfl
    ·rw[hb,if_neg h];exact ih _ (by omega) (by omega))
def eh(l:List T4)(x y z:Int):AV :=
 if valid l=true/\fK x 0 100=true/\fK y 0 100=true/\fK z 0 100=true then
  match fG l x y z l.length 0 0 with
  |some r=>.cz [.v (.int .i64 r),.v (.bool true)]
  |none=>.cz [.v (.int .i64 0),.v (.bool false)]
 else .cz [.v (.int .i64 0),.v (.bool false)]
theorem zH(a:AV)(l:List T4)(ha:ew a l)(hl:l.length<1000000000000)(x y z:Int):aI Try.prog 6 [a,.v (.int .i64 x),.v (.int .i64 y),.v (.int .i64 z)] [] (dL (eh l x y z)):=by
 refine yE _ _ _ _ ha.1 ?_
 unfold vK
 refine bg (zP a l ha hl) ?_
 simp only[↓zq,zs,aA]
 refine⟨fun h=>by simp[eh,h,dL],fun h1=>?_⟩
 refine bg (sR _ _ _) ?_
 simp only[↓zq,zs,aA]
 refine⟨fun h=>by simp[eh,h,dL],fun h2=>?_⟩
 refine bg (sR _ _ _) ?_
 simp only[↓zq,zs,aA]
 refine⟨fun h=>by simp[eh,h,dL],fun h3=>?_⟩
 refine bg (sR _ _ _) ?_
 simp only[↓zq,zs,aA]
 refine⟨fun h=>by simp[eh,h,dL],fun h4=>?_⟩
 obtain⟨v1,v2⟩:=kd h1
 refine ek (w6 a l ha v1 v2 x y z (by simpa[fK]using h2) (by simpa[fK]using h3) (by simpa[fK]using h4) l.length 0 0 (by omega) (by omega) (by omega)) (fun ys o e=>?_) (fun ys o e=>?_)
 ·cases hs:fG l x y z l.length 0 0<;>rw[hs]at e<;>cases e
  simp only[↓zq,zs,aA,dL,eh,h1,h2,h3,h4,hs,zf,and_self]
 ·cases hs:fG l x y z l.length 0 0<;>rw[hs]at e<;>cases e
  simp only[↓zq,zs,aA,dL,eh,h1,h2,h3,h4,hs,zf,and_self]
end Go.Proofs.Trees
namespace Go.Proofs.Trees
open Go Go.VL
def clip(n:Int):Int:=if 1000000001<n then 1000000001 else n
def pi:Nat->Int->Int->Int
 |0,t,n=>t
 |k+1,t,n=>if clip (t*n)=0 then 0 else pi k (clip (t*n)) n
theorem wx(s:Int)(i:Nat)(p:Int)(a:AV)(ha:LK.sl.has a)(len j p0 p1 p2 x y z n:Int)(hi:(i=0/\n=x)\/(i=1/\n=y)\/(i=2/\n=z))(hn:0<=n/\n<=100)(hp:p<=400) :
 ∀(k:Nat) (t c:Int),0<=c->(p-c).toNat=k->0<=t->t<=1000000001 ->
 um [.v (.int .i64 s),.v (.int .i64 t),.v (.int .i64 (i:Int)),.v (.int .i64 p),a,.v (.int .i64 len),.v (.int .i64 j),.agg [.v (.int .i64 p0),.v (.int .i64 p1),.v (.int .i64 p2)],.v (.int .i64 (i:Int)),.v (.int .i64 p),.v (.int .i64 c)] [.cells [.v (.int .i64 x),.v (.int .i64 y),.v (.int .i64 z)]]
  (mr 1 [.v (.int .i64 s),.v (.int .i64 (pi k t n)),.v (.int .i64 (i:Int)),.v (.int .i64 p),a,.v (.int .i64 len),.v (.int .i64 j),.agg [.v (.int .i64 p0),.v (.int .i64 p1),.v (.int .i64 p2)],.v (.int .i64 (i:Int))] [.cells [.v (.int .i64 x),.v (.int .i64 y),.v (.int .i64 z)]])
 |
  0,t,c,h0,hk,ht0,ht1=>by
  refine xx _ _ _ _ _ _ _ _ _ _ _ _ _ _ _ _ ?_
  simp only[tT,↓zq,zs,aA,bV]
  exact⟨ha,fun h=>by omega,fun _=>by simp[mr,pi]⟩
 |
  k+1,t,c,h0,hk,ht0,ht1=>by
  have ih:=fun t'=>wx s i p a ha len j p0 p1 p2 x y z n hi hn hp k t' (c+1) (by omega) (by omega)
  have hb:0<=t*n:=Int.mul_nonneg (by omega) hn.1
  have hc:t*n<=1000000001*100:=Int.mul_le_mul ht1 hn.2 hn.1 (by omega)
  have hcl:(if 1000000001<t*n then 1000000001 else t*n)=clip (t*n):=rfl
  have hg:([.v (.int .i64 x),.v (.int .i64 y),.v (.int .i64 z)]:List AV).getD (0+i*1) .any=.v (.int .i64 n):=by rcases hi with⟨rfl,rfl⟩|⟨rfl,rfl⟩|⟨rfl,rfl⟩<;>rfl
  refine xx _ _ _ _ _ _ _ _ _ _ _ _ _ _ _ _ ?_
  simp only[tT,↓zq,zs,aA,bV,aM,hg,wrap64 (t*n) (by omega) (by omega),hcl,wrap64 (c+1) (by omega) (by omega)]
  refine⟨ha,fun _=>⟨by omega,by omega,fun h=>?_,fun h=>?_⟩,fun h=>by omega⟩
  ·simp[mr,pi,h]
  ·have hp:pi (k+1) t n=pi k (clip (t*n)) n:=by simp only[pi,h,if_false]
   rw[hp]
   exact ih _ (by unfold clip;split<;>omega) (by unfold clip;split<;>omega)
def jR(t n p:Int):Int:=if n=0/\p>0 then 0 else pi p.toNat t n
theorem qJ{n:Int}(hn:0<=n):∀(k:Nat) {t:Int},0<=t->t<=1000000001->0<=pi k t n/\pi k t n<=1000000001
 |0,t,h,h'=>⟨h,h'⟩
 |
  k+1,t,h,h'=>by
  have:=Int.mul_nonneg h hn
  unfold pi
  split
  ·omega
  ·exact qJ hn k (by unfold clip;split<;>omega) (by unfold clip;split<;>omega)
theorem oK{t n p:Int}(hn:0<=n)(h:0<=t)(h':t<=1000000001):0<=jR t n p/\jR t n p<=1000000001:=by
 unfold jR
 split
 ·omega
 ·exact qJ hn _ h h'
theorem yt(s:Int)(a:AV)(ha:LK.sl.has a)(len j p0 p1 p2 x y z:Int)(t:Int):uV [.v (.int .i64 s),.v (.int .i64 t),a,.v (.int .i64 len),.v (.int .i64 j),.agg [.v (.int .i64 p0),.v (.int .i64 p1),.v (.int .i64 p2)],.v (.int .i64 ((3:Nat):Int))] [.cells [.v (.int .i64 x),.v (.int .i64 y),.v (.int .i64 z)]]
 (mr 1 [.v (.int .i64 s),.v (.int .i64 t),a,.v (.int .i64 len),.v (.int .i64 j)] [.cells [.v (.int .i64 x),.v (.int .i64 y),.v (.int .i64 z)]]):=by
 refine vX _ _ _ _ _ _ _ _ _ _ _ _ ?_
 simp only[tZ,↓zq,zs,aA,bV]
 exact⟨ha,fun h=>by omega,fun _=>by simp[mr]⟩
theorem tv(s:Int)(a:AV)(ha:LK.sl.has a)(len j p0 p1 p2 x y z:Int)(hx:0<=x/\x<=100)(hy:0<=y/\y<=100)(hz:0<=z/\z<=100)(h0:p0<=400)(h1:p1<=400)(h2:p2<=400)(i:Nat)(n p:Int)(hi:(i=0/\n=x/\p=p0)\/(i=1/\n=y/\p=p1)\/(i=2/\n=z/\p=p2))(t:Int)(ht:0<=t/\t<=1000000001){r:Int}
 (hr:uV [.v (.int .i64 s),.v (.int .i64 (jR t n p)),a,.v (.int .i64 len),.v (.int .i64 j),.agg [.v (.int .i64 p0),.v (.int .i64 p1),.v (.int .i64 p2)],.v (.int .i64 ((i+1:Nat):Int))] [.cells [.v (.int .i64 x),.v (.int .i64 y),.v (.int .i64 z)]]
  (mr 1 [.v (.int .i64 s),.v (.int .i64 r),a,.v (.int .i64 len),.v (.int .i64 j)] [.cells [.v (.int .i64 x),.v (.int .i64 y),.v (.int .i64 z)]])) :
 uV [.v (.int .i64 s),.v (.int .i64 t),a,.v (.int .i64 len),.v (.int .i64 j),.agg [.v (.int .i64 p0),.v (.int .i64 p1),.v (.int .i64 p2)],.v (.int .i64 (i:Int))] [.cells [.v (.int .i64 x),.v (.int .i64 y),.v (.int .i64 z)]]
  (mr 1 [.v (.int .i64 s),.v (.int .i64 r),a,.v (.int .i64 len),.v (.int .i64 j)] [.cells [.v (.int .i64 x),.v (.int .i64 y),.v (.int .i64 z)]]):=by
 have hn:0<=n/\n<=100:=by omega
 have hp:p<=400:=by omega
 have hg:([.v (.int .i64 x),.v (.int .i64 y),.v (.int .i64 z)]:List AV).getD (0+i*1) .any=.v (.int .i64 n):=by rcases hi with⟨rfl,rfl,rfl⟩|⟨rfl,rfl,rfl⟩|⟨rfl,rfl,rfl⟩<;>rfl
 have hg2:([.v (.int .i64 p0),.v (.int .i64 p1),.v (.int .i64 p2)]:List AV).getD (i*1) .any=.v (.int .i64 p):=by rcases hi with⟨rfl,rfl,rfl⟩|⟨rfl,rfl,rfl⟩|⟨rfl,rfl,rfl⟩<;>rfl
 refine vX _ _ _ _ _ _ _ _ _ _ _ _ ?_
 simp only[tZ,↓zq,zs,aA,bV,aM,hg2]
 refine⟨ha,fun _=>⟨⟨by omega,by omega⟩,?_⟩,fun h=>by omega⟩
 refine fU (wx s i p a ha len j p0 p1 p2 x y z n (by omega) hn hp p.toNat t 0 (by omega) (by omega) ht.1 ht.2) ?_
 simp only[↓zq,zs,aA,bV,aM,hg,a7,List.getD_cons_succ,bq i (by omega)]
 refine⟨ha,by omega,by omega,fun e=>⟨fun e2=>?_,fun e2=>?_⟩,fun e=>?_⟩
 ·have:jR t n p=0:=by unfold jR;rw[if_pos ⟨e,e2⟩]
  rw[this]at hr
  exact hr
 ·have:jR t n p=pi p.toNat t n:=by unfold jR;rw[if_neg (by omega)]
  rw[this]at hr
  exact hr
 ·have:jR t n p=pi p.toNat t n:=by unfold jR;rw[if_neg (by omega)]
  rw[this]at hr
  exact hr
theorem yq(s:Int)(a:AV)(ha:LK.sl.has a)(len j p0 p1 p2 x y z:Int)(hx:0<=x/\x<=100)(hy:0<=y/\y<=100)(hz:0<=z/\z<=100)(h0:p0<=400)(h1:p1<=400)(h2:p2<=400)(t:Int)(ht:0<=t/\t<=1000000001):uV [.v (.int .i64 s),.v (.int .i64 t),a,.v (.int .i64 len),.v (.int .i64 j),.agg [.v (.int .i64 p0),.v (.int .i64 p1),.v (.int .i64 p2)],.v (.int .i64 0)] [.cells [.v (.int .i64 x),.v (.int .i64 y),.v (.int .i64 z)]]
 (mr 1 [.v (.int .i64 s),.v (.int .i64 (jR (jR (jR t x p0) y p1) z p2)),a,.v (.int .i64 len),.v (.int .i64 j)] [.cells [.v (.int .i64 x),.v (.int .i64 y),.v (.int .i64 z)]]):=by
 have f1:=oK (p:=p0) hx.1 ht.1 ht.2
 have f2:=oK (p:=p1) hy.1 f1.1 f1.2
 exact tv s a ha len j p0 p1 p2 x y z hx hy hz h0 h1 h2 0 x p0 (by omega) t ht
  (tv s a ha len j p0 p1 p2 x y z hx hy hz h0 h1 h2 1 y p1 (by omega) _ f1
   (tv s a ha len j p0 p1 p2 x y z hx hy hz h0 h1 h2 2 z p2 (by omega) _ f2 (yt s a ha len j p0 p1 p2 x y z _)))
theorem oO(n:Int):∀k,pi k 0 n=0
 |0=>rfl
 |k+1=>by simp[pi,clip]
theorem nC{n:Int}(hn:1<=n):∀k,pi k 1000000001 n=1000000001
 |0=>rfl
 |
  k+1=>by
  have:1000000001*1<=1000000001*n:=Int.mul_le_mul_of_nonneg_left hn (by omega)
  have e:clip (1000000001*n)=1000000001:=by unfold clip;split<;>omega
  unfold pi
  rw[e,nC hn k];simp
theorem rr(n:Int):∀k,pw k 0 n=0
 |0=>rfl
 |k+1=>by simp[pw]
theorem qx{n o:Int}(h:1000000000<o):∀k,pw k o n=o
 |0=>rfl
 |k+1=>by simp[pw];omega
theorem sU{n:Int}(hn:1<=n):∀(k:Nat) {t:Int},0<=t->t<=1000000001->pi k t n=clip (pw k t n)
 |0,t,h,h'=>by show t=clip t;unfold clip;rw[if_neg (by omega)]
 |
  k+1,t,h,h'=>by
  by_cases h0:t=0
  ·subst h0;rw[oO,rr];rfl
  ·by_cases hb:t=1000000001
   ·subst hb;rw[nC hn,qx (by omega)];rfl
   ·have hm:t*1<=t*n:=Int.mul_le_mul_of_nonneg_left hn h
    have hc:¬clip (t*n)=0:=by unfold clip;split<;>omega
    simp only[pi,pw,hc,if_false]
    rw[if_pos (by omega)]
    by_cases hl:t*n<=1000000001
    ·have:clip (t*n)=t*n:=by unfold clip;rw[if_neg (by omega)]
     rw[this];exact sU hn k (by omega) hl
    ·have:clip (t*n)=1000000001:=by unfold clip;rw[if_pos (by omega)]
     rw[this,nC hn,qx (by omega),this]
theorem jB{t n p:Int}(hn:0<=n)(hp:0<=p)(h:0<=t)(h':t<=1000000001)(hc:¬(n=0/\p>0)):jR t n p=fQ t n p:=by
 unfold jR
 rw[if_neg hc]
 by_cases h0:n=0
 ·have:p=0:=by omega
  subst this
  simp only[Int.toNat_zero,pi,fQ,pw]
  split<;>omega
 ·exact sU (by omega) _ h h'
theorem kJ(n p:Int):jR 0 n p=0:=by
 unfold jR
 split
 ·rfl
 ·exact oO _ _
theorem qv{t:T4}{x y z:Int}(ht:kQ t=true)(hx:0<=x)(hy:0<=y)(hz:0<=z):jR (jR (jR t.c x t.x) y t.y) z t.z=dP t x y z:=by
 have hb:1<=t.c/\t.c<=1000000000/\0<=t.x/\t.x<=400/\0<=t.y/\t.y<=400/\0<=t.z/\t.z<=400:=by simp[kQ,fK]at ht;omega
 unfold dP
 by_cases h1:x=0/\t.x>0
 ·rw[if_pos (.inl h1)]
  have:jR t.c x t.x=0:=by unfold jR;rw[if_pos h1]
  rw[this,kJ,kJ]
 ·rw[jB hx (by omega) (by omega) (by omega) h1]
  have q1:=eu (o:=t.c) (n:=x) (t:=t.x) hx (by omega)
  by_cases h2:y=0/\t.y>0
  ·rw[if_pos (.inr (.inl h2))]
   have:∀u,jR u y t.y=0:=fun u=>by unfold jR;rw[if_pos h2]
   rw[this,kJ]
  ·rw[jB hy (by omega) q1.1 q1.2 h2]
   have q2:=eu (o:=fQ t.c x t.x) (n:=y) (t:=t.y) hy q1.1
   by_cases h3:z=0/\t.z>0
   ·rw[if_pos (.inr (.inr h3))]
    unfold jR;rw[if_pos h3]
   ·rw[jB hz (by omega) q2.1 q2.2 h3,if_neg (by omega)]
end Go.Proofs.Trees
namespace Go.Proofs.Trees
open Go Go.VL
def nt(es:List Int):Nat->Nat->Bool
 |0,_=>true
 |k+1,i=>decide (¬es.getD i 0<0)&&decide (¬es.getD i 0>100)&&nt es k (i+1)
theorem xk(a:AV)(ha:LK.sl.has a)(x y z:Int):∀(k i:Nat),i+k=3->xX [a,.agg [.v (.int .i64 x),.v (.int .i64 y),.v (.int .i64 z)],.v (.int .i64 (i:Int))] [.cells [.v (.int .i64 x),.v (.int .i64 y),.v (.int .i64 z)]]
 (ib (if nt [x,y,z] k i=true then(1,[a],[.cells [.v (.int .i64 x),.v (.int .i64 y),.v (.int .i64 z)]])else(2,[.v (.int .i64 0),.v (.bool false)],[])))
 |
  0,i,hi=>by
  refine u5 _ _ _ _ _ _ _ _ ?_
  simp only[uJ,↓zq,zs,aA,bV]
  exact⟨ha,fun h=>by omega,fun _=>by simp[nt,ib]⟩
 |
  k+1,i,hi=>by
  have hg:([.v (.int .i64 x),.v (.int .i64 y),.v (.int .i64 z)]:List AV).getD (i*1) .any=.v (.int .i64 ([x,y,z].getD i 0)):=by
   have:i=0\/i=1\/i=2:=by omega
   rcases this with rfl|rfl|rfl<;>rfl
  refine u5 _ _ _ _ _ _ _ _ ?_
  simp only[uJ,↓zq,zs,aA,bV,aM,hg]
  refine⟨ha,fun _=>⟨⟨by omega,by omega⟩,fun h=>?_,fun h1=>⟨fun h=>?_,fun h2=>?_⟩⟩,fun h=>by omega⟩
  ·simp only[ib,nt,h,zf]
  ·simp only[ib,nt,h,zf]
  ·rw[bq i (by omega)]
   have ih:=xk a ha x y z k (i+1) (by omega)
   simpa only[nt,h1,h2,zf]using ih
theorem mV(x y z:Int):nt [x,y,z] 3 0=true↔fK x 0 100=true/\fK y 0 100=true/\fK z 0 100=true:=by
 simp[nt,fK]
theorem vD(a:AV)(l:List T4)(ha:ew a l)(hl:l.length<=60)(hok:∀j,j<l.length->kQ (l.getD j t0)=true)(x y z:Int)(hx:0<=x/\x<=100)(hy:0<=y/\y<=100)(hz:0<=z/\z<=100) :
 ∀(k i:Nat) (s:Int),i+k=l.length->0<=s->s<=1000000000->uE [.v (.int .i64 s),a,.v (.int .i64 (l.length:Int)),.v (.int .i64 (i:Int))] [.cells [.v (.int .i64 x),.v (.int .i64 y),.v (.int .i64 z)]] (ib (uv (fG l x y z k i s)))
 |
  0,i,s,hi,h0,h1=>by
  refine vj _ _ _ _ _ _ _ ?_
  simp only[tW,↓zq,zs,aA,bV]
  exact⟨ha.1,fun h=>by omega,fun _=>rfl⟩
 |
  k+1,i,s,hi,h0,h1=>by
  have hlt:i<l.length:=by omega
  refine vj _ _ _ _ _ _ _ ?_
  simp only[tW,↓zq,zs,aA,ha.len,aM,ha.idx hlt,cO,cR,ei,er,ey,ef]
  have hk:=hok i hlt
  have hp:=jx hk hx.1 hy.1 hz.1
  refine⟨ha.1,fun _=>⟨⟨ha.1,by omega,by omega⟩,by omega,?_⟩,fun h=>by omega⟩
  have hb:fG l x y z (k+1) i s=if s+dP (l.getD i t0) x y z>1000000000 then none else fG l x y z k (i+1) (s+dP (l.getD i t0) x y z):=rfl
  have ih:=fun s'=>vD a l ha hl hok x y z hx hy hz k (i+1) s' (by omega)
  have ht:1<=(l.getD i t0).c/\(l.getD i t0).c<=1000000000/\0<=(l.getD i t0).x/\(l.getD i t0).x<=400/\0<=(l.getD i t0).y/\(l.getD i t0).y<=400/\0<=(l.getD i t0).z/\(l.getD i t0).z<=400:=by
   have:=hk
   simp only[kQ,fK,ag,decide_eq_true_eq]at this;omega
  refine fU (yq s a ha.1 (l.length:Int) (i:Int) (l.getD i t0).x (l.getD i t0).y (l.getD i t0).z x y z hx hy hz (by omega) (by omega) (by omega) (l.getD i t0).c (by omega)) ?_
  rw[qv hk hx.1 hy.1 hz.1]
  simp only[↓zq,zs,aA,bV,bq i (show i<1000000000000 by omega)]
  rw[wrap64 _ (by omega) (by omega)]
  refine⟨ha.1,fun h=>?_,fun h=>⟨fun h2=>?_,fun h2=>?_⟩⟩
  ·rw[hb,if_pos (by omega)];rfl
  ·rw[hb,if_pos h2];rfl
  ·rw[hb,if_neg h2];exact ih _ (by omega) (by omega)
theorem xu(a:AV)(l:List T4)(ha:ew a l)(hl:l.length<1000000000000)(x y z:Int):aI Try.prog 5 [a,.v (.int .i64 x),.v (.int .i64 y),.v (.int .i64 z)] [] (dL (eh l x y z)):=by
 refine yo _ _ _ _ ha.1 ?_
 unfold wR
 refine bg (yY a l ha hl) ?_
 simp only[↓zq,zs,aA]
 refine⟨fun h=>by simp[eh,h,dL],fun h1=>?_⟩
 obtain⟨v1,v2⟩:=kd h1
 refine ek (xk a ha.1 x y z 3 0 rfl) (fun ys o e=>?_) (fun ys o e=>?_)
 ·split at e<;>cases e
  rename_i hr
  obtain⟨h2,h3,h4⟩:=(mV x y z).1 hr
  have b0:0<=x/\x<=100:=by simpa[fK]using h2
  have b1:0<=y/\y<=100:=by simpa[fK]using h3
  have b2:0<=z/\z<=100:=by simpa[fK]using h4
  simp only[↓zq,zs,aA,bV,ha.len]
  refine⟨ha.1,ha.1,?_⟩
  refine ek (vD a l ha v1 v2 x y z b0 b1 b2 l.length 0 0 (by omega) (by omega) (by omega)) (fun ys o e=>?_) (fun ys o e=>?_)
  ·cases hs:fG l x y z l.length 0 0<;>rw[hs]at e<;>cases e
   simp only[↓zq,zs,aA,dL,eh,h1,h2,h3,h4,hs,zf,and_self]
  ·cases hs:fG l x y z l.length 0 0<;>rw[hs]at e<;>cases e
   simp only[↓zq,zs,aA,dL,eh,h1,h2,h3,h4,hs,zf,and_self]
 ·split at e<;>cases e
  rename_i hr
  have:¬(valid l=true/\fK x 0 100=true/\fK y 0 100=true/\fK z 0 100=true):=fun h=>hr ((mV x y z).2 h.2)
  simp only[↓zq,zs,aA,dL,eh,this,if_false]
def zc:List AV:=[.v (.int .i64 0),.v (.int .i64 0),.v (.int .i64 0),.v (.int .i64 0)]
def part(l:List T4)(i:Nat):List (List AV):=(l.take i).map T4.cells++List.replicate (l.length-i) zc
theorem ew.of(l:List T4):ew (.sl (l.map T4.cells)) l:=⟨(dm _).mpr trivial,rfl⟩
theorem pF(l:List T4)(x y z:Int):∃n b,eh l x y z=.cz [.v (.int .i64 n),.v (.bool b)]:=by
 unfold eh
 split
 ·split<;>exact⟨_,_,rfl⟩
 ·exact⟨_,_,rfl⟩
end Go.Proofs.Trees
namespace Go.Proofs.Trees
open Go Go.VL
theorem n7{l:List T4}{x y z n:Int}(h:eh l x y z=.cz [.v (.int .i64 n),.v (.bool true)]):valid l=true/\(fK x 0 100=true/\fK y 0 100=true/\fK z 0 100=true)/\fG l x y z l.length 0 0=some n:=by
 unfold eh at h
 split at h
 ·rename_i hc
  split at h
  ·rename_i r hr
   refine⟨hc.1,hc.2,?_⟩
   injection h with h
   injection h with h1 _
   injection h1 with h1
   injection h1 with _ h1
   rw[hr,h1]
  ·injection h with h
   injection h with _ h2
   injection h2 with h2 _
   injection h2 with h2
   injection h2 with h2
   cases h2
 ·injection h with h
  injection h with _ h2
  injection h2 with h2 _
  injection h2 with h2
  injection h2 with h2
  cases h2
theorem pD(l:List T4)(x y z:Int):∃n b,eh l x y z=.cz [.v (.int .i64 n),.v (.bool b)]/\(b=true->valid l=true/\(fK x 0 100=true/\fK y 0 100=true/\fK z 0 100=true)/\fG l x y z l.length 0 0=some n):=by
 obtain⟨n,b,e⟩:=pF l x y z
 exact⟨n,b,e,fun hb=>n7 (by rw[e,hb])⟩
theorem pN{t:T4}{x y z:Int}(ht:kQ t=true)(hr:fK x 0 100=true/\fK y 0 100=true/\fK z 0 100=true)(hs:dP t x y z<=1000000000):eh [t] x y z=.cz [.v (.int .i64 (dP t x y z)),.v (.bool true)]:=by
 have hv:valid [t]=true:=by simp[valid,fm,mw,ht]
 have e:fG [t] x y z [t].length 0 0=some (dP t x y z):=by
  show fG [t] x y z 1 0 0=_
  simp only[fG]
  rw[if_neg (by simp;omega)]
  simp
 unfold eh
 rw[if_pos ⟨hv,hr⟩,e]
theorem pQ{l:List T4}{x y z:Int}{k i:Nat}{s n:Int}(h:fG l x y z (k+1) i s=some n):s+dP (l.getD i t0) x y z<=1000000000/\fG l x y z k (i+1) (s+dP (l.getD i t0) x y z)=some n:=by
 simp only[fG]at h
 split at h
 ·cases h
 ·exact⟨by omega,h⟩
end Go.Proofs.Trees
namespace Go.Proofs.Trees
open Go Go.VL
inductive Ty where
 |zero|one
 |name (s:List UInt8)
 |bound (up:Nat)
 |plus (a b:Ty)
 |times (a b:Ty)
 |rc (a:Ty)
def Ty.av:Ty->AV
 | .zero=>.ptr [.v (.int .u8 48),.v (.string (mk [])),.v (.int .i64 0),.v (.pointer none),.v (.pointer none)]
 | .one=>.ptr [.v (.int .u8 49),.v (.string (mk [])),.v (.int .i64 0),.v (.pointer none),.v (.pointer none)]
 | .name s=>.ptr [.v (.int .u8 110),.v (.string (mk s)),.v (.int .i64 0),.v (.pointer none),.v (.pointer none)]
 | .bound up=>.ptr [.v (.int .u8 98),.v (.string (mk [])),.v (.int .i64 (up:Int)),.v (.pointer none),.v (.pointer none)]
 | .plus a b=>.ptr [.v (.int .u8 43),.v (.string (mk [])),.v (.int .i64 0),a.av,b.av]
 | .times a b=>.ptr [.v (.int .u8 42),.v (.string (mk [])),.v (.int .i64 0),a.av,b.av]
 | .rc a=>.ptr [.v (.int .u8 114),.v (.string (mk [])),.v (.int .i64 0),a.av,.v (.pointer none)]
def E.at:E->List UInt8
 | .atom s=>s
 | .list _=>[]
def ku(s:List UInt8)(ar:List (List UInt8)):Nat->Option Nat
 |0=>none
 |i+1=>if ar.getD i []=s then some (ar.length-1-i)else ku s ar i
def ct:E->List (List UInt8)->Option Ty
 | .atom s,ar=>if s=[48]then some .zero else if s=[49]then some .one else if lD s=true then some (.name s)else if dS s=true then(match ku s ar ar.length with|some u=>some (.bound u)|none=>some (.name s))else none
 |
  .list [x,a,b],ar =>
  if x.at=[43]then(match ct a ar,ct b ar with|some t,some u=>some (.plus t u)|_,_=>none)
  else if x.at=[42]then(match ct a ar,ct b ar with|some t,some u=>some (.times t u)|_,_=>none)
  else if x.at=[114,101,99]then(if dS a.at=true then(match ct b (ar++[a.at])with|some t=>some (.rc t)|none=>none)else none)
  else none
 | .list _,_=>none
def eK(l:List (List UInt8)):List (List AV):=l.map fun s=>[.v (.string (mk s))]
def gh(a:AV)(l:List (List UInt8)):Prop:=LK.sl.has a/\a.elems=eK l
theorem gh.len{a:AV}{l:List (List UInt8)}(h:gh a l):a.elems.length=l.length:=by rw[h.2];simp[eK]
theorem gh.idx{a:AV}{l:List (List UInt8)}(h:gh a l){i:Nat}(hi:i<l.length):a.elems.getD i []=[.v (.string (mk (l.getD i [])))]:=by
 rw[h.2];simp[eK,aa,hi]
theorem gh.of(l:List (List UInt8)):gh (.sl (eK l)) l:=⟨(dm _).mpr trivial,rfl⟩
theorem gh.nil:gh (.v (.slice none 0 0)) []:=⟨(bx).mpr trivial,rfl⟩
end Go.Proofs.Trees
namespace Go.Proofs.Trees
open Go Go.VL
theorem toNat_one:aP 1=1:=rfl
theorem jD:aP 2=2:=rfl
theorem w4{ar:List (List UInt8)}(s:List UInt8):eK ar++[[.v (.string (mk s))]]=eK (ar++[s]):=by simp[eK]
theorem mL(ar:List (List UInt8)):bO 1 (eK ar):=fun c hc=>by
 obtain⟨s,_,rfl⟩:=bf.1 hc;rfl
theorem jv{x a b:E}(ar:List (List UInt8))(hx:x.at=[43]):ct (.list [x,a,b]) ar=match ct a ar,ct b ar with|some t,some u=>some (.plus t u)|_,_=>none:=by rw[ct,if_pos hx]<;>cases ct a ar<;>cases ct b ar<;>rfl
theorem iv{x a b:E}(ar:List (List UInt8))(hx:x.at=[42]):ct (.list [x,a,b]) ar=match ct a ar,ct b ar with|some t,some u=>some (.times t u)|_,_=>none:=by rw[ct,if_neg (by rw[hx];decide),if_pos hx]<;>cases ct a ar<;>cases ct b ar<;>rfl
theorem kb{x a b:E}(ar:List (List UInt8))(hx:x.at=[114,101,99]):ct (.list [x,a,b]) ar=if dS a.at=true then(match ct b (ar++[a.at])with|some t=>some (.rc t)|none=>none)else none:=by rw[ct,if_neg (by rw[hx];decide),if_neg (by rw[hx];decide),if_pos hx]<;>cases ct b (ar++[a.at])<;>rfl
theorem j7{x a b:E}(ar:List (List UInt8))(h1:x.at≠[43])(h2:x.at≠[42])(h3:x.at≠[114,101,99]):ct (.list [x,a,b]) ar=none:=by rw[ct,if_neg h1,if_neg h2,if_neg h3]
end Go.Proofs.Trees
namespace Go.Proofs.Trees
open Go Go.VL
def sc(v:AV)(obs:List Ob):AV->List Ob->Prop:=fun r o=>r=v/\o=obs
theorem rT{P:Program}{n:Nat}{Q:Nat->List AV->List Ob->Prop}{f:Nat}{xs:List AV}{ins:List Ob}{k:AV->List Ob->Tree}{v:AV}{obs:List Ob}(h:aI P f xs ins (sc v obs))(hk:cK P n (k v obs) Q):cK P n (.call f xs ins k) Q :=
 ⟨sc v obs,h,⟨v,obs,rfl,rfl⟩,fun r o ⟨h1,h2⟩=>by rw[h1,h2];exact hk⟩
def Ty.atoms:Ty->Nat
 | .plus a b=>1+a.atoms+b.atoms
 | .times a b=>1+a.atoms+b.atoms
 | .rc a=>2+a.atoms
 |_=>1
def y8(s:List UInt8):Option Ty:=match pW s with
 |none=>none
 |
  some e=>match ct e []with
  |none=>none
  |some t=>if t.atoms>400 then none else some t
end Go.Proofs.Trees
namespace Go.Proofs.Trees
open Go Go.VL
def wj(out:List (List UInt8)):Ty->List (List UInt8)
 | .name s=>if s∈out then out else out++[s]
 |_=>out
def da:Ty->List (List UInt8)->List (List UInt8)
 | .name s,out=>wj out (.name s)
 | .plus a b,out=>da b (da a out)
 | .times a b,out=>da b (da a out)
 | .rc a,out=>da a out
 |_,out=>out
def Ty.closed(t:Ty):Bool:=!((da t []).any dS)
def Aa(s:List UInt8):Option Ty:=match y8 s with
 |none=>none
 |some t=>if t.closed=true then some t else none
def dY:Ty->Bool->Bool
 | .plus a c,b=>dY c (dY a b)
 | .times a c,b=>dY c (dY a b)
 | .rc a,b=>dY a false
 | .name s,b=>b&&decide (s.length<=1)
 |_,b=>b
def yG(s:List UInt8):Option Ty:=match Aa s with
 |none=>none
 |some t=>if dY t true=true then some t else none
theorem nE(l:List (List UInt8)):∀x,x∈[Ob.vec 1 (eK l)]->dF x:=by
 intro x hx
 simp only[cy]at hx
 subst hx
 intro e he c hc
 simp only[eK,bf]at he
 obtain⟨k,_,rfl⟩:=he
 simp only[cy]at hc
 exact⟨_,hc⟩
end Go.Proofs.Trees
namespace Go.Proofs.Trees
open Go Go.VL
theorem zK(b:UInt8):aI Try.prog 39 [.v (.int .u8 (b.toNat:Int))] [] (dL (.v (.bool (fJ b)))):=by
 refine y0 _ ?_
 simp only[vn,↓zq,zs,aA,dL,fJ]
 repeat' (apply an<;>intro _)
 all_goals first|(congr 2;rw[Bool.eq_iff_iff];simp;omega)|(congr 2;simp;omega)
def sH(s:List UInt8)(x:Option (E×List UInt8)):AV->List Ob->Prop:=fun r o=>o=[] /\
 match x with
 |some (e,u)=>r=.cz [e.lK,.v (.int .i64 ((s.length-u.length:Nat):Int))]
 |none=>∃(c:List UInt8) (d:AV),LK.sl.has d/\r=.cz [.agg [.v (.string (mk c)),d],.v (.int .i64 (-1))]
theorem sH.ne(s:List UInt8)(x:Option (E×List UInt8)):∃r o,sH s x r o:=by
 cases x with
 |some q=>exact⟨_,_,rfl,rfl⟩
 |none=>exact⟨_,_,rfl,[],.v (.slice none 0 0),(bx).mpr trivial,rfl⟩
def jc(c:List UInt8)(d:AV):Ob:=.cells [.v (.string (mk c)),d]
theorem xq(s:List UInt8)(hs:s.length<=8000)(from_:Int)(c1 c2:List UInt8)(d1 d2:AV)(h1:LK.sl.has d1)(h2:LK.sl.has d2):∀(k i:Nat),i+k=s.length->zd [.v (.string (mk s)),.v (.int .i64 (i:Int)),.v (.int .i64 from_)] [jc c1 d1,jc c2 d2]
 (mr 1 [.v (.string (mk s)),.v (.int .i64 ((i+((s.drop i).takeWhile fJ).length:Nat):Int)),.v (.int .i64 from_)] [jc c1 d1,jc c2 d2])
 |
  0,i,hi=>by
  refine vd _ _ _ _ _ _ _ ?_
  have hd:s.drop i=[]:=bC (by omega)
  simp only[uL,↓zq,zs,aA,zt]
  exact⟨h1,h2,fun h=>by omega,fun _=>by simp[mr,hd,jc]⟩
 |
  k+1,i,hi=>by
  have hlt:i<s.length:=by omega
  refine vd _ _ _ _ _ _ _ ?_
  simp only[uL,↓zq,zs,aA,zt,nk s i hlt]
  refine⟨h1,h2,fun _=>⟨by omega,?_⟩,fun h=>by omega⟩
  refine bg (zK _) ?_
  simp only[↓zq,zs,aA]
  refine⟨fun hb=>?_,fun hb=>?_⟩
  ·rw[bq i (by omega)]
   have:=xq s hs from_ c1 c2 d1 d2 h1 h2 k (i+1) (by omega)
   rw[so hlt hb,show i+(((s.drop (i+1)).takeWhile fJ).length+1)=i+1+((s.drop (i+1)).takeWhile fJ).length by omega]
   exact this
  ·simp[mr,me hlt hb,jc]
def As(s:List UInt8)(x:Option (E×List UInt8)):Nat->List AV->List Ob->Prop:=fun t ys o=>t=2 /\
 match x with
 |some (e,u)=>∃l,e=.list l/\ys=[.v (.int .i64 ((s.length-u.length:Nat):Int))]/\o=[jc [] .any,.vec 2 (E.bN l)]
 |none=>∃es,ys=[.v (.int .i64 (-1))]/\o=[jc [] .any,.vec 2 es]
theorem rY(e:E):(e.lK=.agg e.lK.cs/\e.lK.cs.length=2/\bV [.str,.sl] e.lK.cs 0)=True:=by
 apply eq_true
 cases e<;>simp[E.lK,E.fA,qG,bV,mn,bx,dm]
theorem nZ(e:E):[AV.v (.string ((e.lK.cs.getD 0 .any).toStr)),e.lK.cs.getD 1 .any]=e.fA:=by
 cases e<;>rfl
theorem drop_cons{s:List UInt8}{j:Nat}(hj:j<s.length):s.drop j=s.getD j 0::s.drop (j+1):=by
 rw[bX hj];simp[aa,hj]
theorem wY(s:List UInt8)(hs:s.length<=8000)(d:Nat)(hd:d<=300)(f:List UInt8->Option (E×List UInt8))(hf:∀u e r,f u=some (e,r)->∃j,r=u.drop j/\0<j/\j<=u.length)
 (ih:∀j,j<=s.length->aI Try.prog 36 [.v (.string (mk s)),.v (.int .i64 (j:Int)),.v (.int .i64 ((d+1:Nat):Int))] [] (sH s (f (s.drop j)))) :
 ∀(n i:Nat) (acc:List E) (c1:List UInt8) (d1:AV),LK.sl.has d1->s.length-(i+1)<n->i<s.length->s.length-i+acc.length<=8001->zJ [.v (.string (mk s)),.v (.int .i64 (i:Int)),.v (.int .i64 (d:Int))] [jc c1 d1,jc [] .any,.vec 2 (E.bN acc)]
  (As s (pj f n (s.drop (i+1)) acc))
 |0,i,acc,c1,d1,h1,hn,_,_=>by omega
 |
  n+1,i,acc,c1,d1,h1,hn,hi,hl=>by
  refine zy _ _ _ _ _ _ _ ?_
  simp only[vk,↓zq,zs,aA,jc]
  refine⟨h1,?_⟩
  rw[bq i (by omega),bq d (by omega)]
  refine aQ (ih (i+1) (by omega)) (sH.ne _ _) ?_
  rintro r o ⟨rfl,hr⟩
  have hff:=hf (s.drop (i+1))
  unfold pj
  cases hq:f (s.drop (i+1))with
  |
   none =>
   rw[hq]at hr
   obtain⟨c,d',hd',rfl⟩:=hr
   simp only[↓zq,zs,aA,zt,bV]
   refine⟨hd',fun _=>⟨rfl,_,rfl,rfl⟩,fun h=>by omega⟩
  |
   some q =>
   obtain⟨e,u⟩:=q
   rw[hq]at hr
   subst hr
   obtain⟨j,hu,hj0,hj⟩:=hff e u hq
   rw[List.drop_drop]at hu
   simp only[bc]at hj
   have hul:u.length=s.length-(i+1+j):=by rw[hu,bc]
   have hpos:s.length-u.length=i+1+j:=by omega
   simp only[↓zq,zs,aA,zt,rY,hpos,nZ,gW]
   refine⟨fun h=>by omega,fun _=>⟨fun h=>?_,fun h=>⟨⟨fun c hc=>(by simp at hc;rw[hc];cases e<;>rfl),by omega⟩,?_⟩⟩⟩
   ·have:u=[]:=by rw[hu];exact bC (by omega)
    subst this
    exact⟨rfl,_,rfl,rfl⟩
   ·have hlt:i+1+j<s.length:=by omega
    rw[drop_cons hlt]at hu
    subst hu
    rw[nk s _ hlt]
    generalize hb:s.getD (i+1+j) 0=b
    refine⟨by omega,fun h41=>?_,fun h41=>⟨by omega,fun h32=>?_,fun h32=>?_⟩⟩
    ·have h41':b.toNat=41:=by omega
     dsimp only
     rw[if_pos h41',bq _ (by omega)]
     refine⟨rfl,acc++[e],rfl,?_,?_⟩
     ·rw[bc];congr 3;omega
     ·simp[jc,jE,E.bN]
    ·have h41':¬b.toNat=41:=by omega
     have h32':¬b.toNat=32:=by omega
     dsimp only
     rw[if_neg h41',if_neg h32']
     exact⟨rfl,_,rfl,rfl⟩
    ·have h41':¬b.toNat=41:=by omega
     have h32':b.toNat=32:=by omega
     dsimp only
     rw[if_neg h41',if_pos h32']
     have:=wY s hs d hd f hf ih n (i+1+j) (acc++[e]) c1 d1 h1 (by omega) hlt (by simp;omega)
     simpa[jc,jE,E.bN]using this
theorem rH(k:Nat)(u:List UInt8)(e:E)(r:List UInt8)(h:rd k u=some (e,r)):∃j,r=u.drop j/\0<j/\j<=u.length:=by
 have suf:∀(k:Nat) (u:List UInt8) (e:E) (r:List UInt8),rd k u=some (e,r)->r <:+ u:=by
  intro k
  have tw:∀u:List UInt8,u.dropWhile fJ <:+ u:=fun u=>List.dropWhile_suffix _
  have ll:∀(f:List UInt8->Option (E×List UInt8)),(∀u e r,f u=some (e,r)->r <:+ u)->∀(n:Nat) (u:List UInt8) (acc:List E) (e:E) (r:List UInt8),pj f n u acc=some (e,r)->r <:+ u:=by
   intro f hf n
   induction n with
   |zero=>intro u acc e r h;cases h
   |
    succ n ih =>
    intro u acc e r h
    simp only[pj]at h
    split at h
    ·rename_i p c r' hs
     have h1:r' <:+ u:=(List.suffix_cons c r').trans (hf _ _ _ hs)
     split at h
     ·cases h;exact h1
     ·split at h
      ·exact(ih _ _ _ _ h).trans h1
      ·cases h
    ·cases h
  induction k with
  |
   zero =>
   intro u e r h
   simp only[rd]at h
   split at h
   ·cases h
   ·cases h;exact tw u
  |
   succ k ih =>
   intro u e r h
   simp only[rd]at h
   split at h
   ·split at h
    ·split at h
     ·exact(ll _ ih _ _ _ _ _ h).trans (List.suffix_cons _ _)
     ·cases h
    ·cases h
   ·cases h;exact tw u
 obtain⟨p,hp⟩:=suf k u e r h
 have hlt:=qm k u e r h
 have:=congrArg dW hp
 simp only[ax]at this
 exact⟨p.length,by rw[<-hp];simp,by omega,by omega⟩
theorem qW(n:Nat)(u:List UInt8)(acc:List E):pj (fun _=>none) n u acc=none:=by
 cases n<;>rfl
theorem xU(s:List UInt8)(j:Nat):aI Try.prog 36 [.v (.string (mk s)),.v (.int .i64 (j:Int)),.v (.int .i64 ((300+1:Nat):Int))] [] (sH s none):=by
 refine xb _ _ _ ?_
 simp only[tt,↓zq,zs,aA]
 exact⟨fun _=>⟨rfl,[],_,(bx).mpr trivial,rfl⟩,fun h=>by omega⟩
theorem jL(s:List UInt8)(hs:s.length<=8000)(d i:Nat)(hd:d<=300)(hi:i<=s.length)(f:List UInt8->Option (E×List UInt8))(hf:∀u e r,f u=some (e,r)->∃j,r=u.drop j/\0<j/\j<=u.length)
 (ih:∀j,j<=s.length->aI Try.prog 36 [.v (.string (mk s)),.v (.int .i64 (j:Int)),.v (.int .i64 ((d+1:Nat):Int))] [] (sH s (f (s.drop j)))) (x:Option (E×List UInt8))
 (h0:i=s.length->x=none)
 (h1:i<s.length->(s.drop i).takeWhile fJ≠[]->x=some (.atom ((s.drop i).takeWhile fJ),(s.drop i).dropWhile fJ))
 (h2:i<s.length->(s.drop i).takeWhile fJ=[]->¬(s.getD i 0).toNat=40->x=none)
 (h3:i<s.length->(s.getD i 0).toNat=40->x=pj f (s.length-(i+1)+1) (s.drop (i+1)) []) :
 aI Try.prog 36 [.v (.string (mk s)),.v (.int .i64 (i:Int)),.v (.int .i64 (d:Int))] [] (sH s x):=by
 refine xb _ _ _ ?_
 simp only[tt,↓zq,zs,aA,zt]
 refine⟨fun h=>by omega,fun _=>⟨fun h=>?_,fun h=>⟨by omega,?_⟩⟩⟩
 ·rw[h0 (by omega)]
  exact⟨rfl,[],_,(bx).mpr trivial,rfl⟩
 ·have hlt:i<s.length:=by omega
  rw[nk s i hlt]
  refine⟨fun h40=>?_,fun h40=>?_⟩
  ·have h40':¬(s.getD i 0).toNat=40:=by omega
   refine fU (xq s hs _ [] [] _ _ ((bx).mpr trivial) ((bx).mpr trivial) (s.length-i) i (by omega)) ?_
   have hex:(List.take (i+((s.drop i).takeWhile fJ).length) s).drop i=(s.drop i).takeWhile fJ:=by
    rw[List.drop_take,Nat.add_sub_cancel_left];exact sD _
   have hle:i+((s.drop i).takeWhile fJ).length<=s.length:=by
    have:=ml (s.drop i);simp only[bc]at this;omega
   simp only[jc,↓zq,zs,aA,zt,hex]
   refine⟨by omega,fun hnil=>?_,fun hnil=>?_⟩
   ·rw[h2 hlt hnil h40',hnil]
    exact⟨rfl,[],_,(bx).mpr trivial,rfl⟩
   ·rw[h1 hlt hnil]
    refine⟨rfl,?_⟩
    have:=ml (s.drop i)
    simp only[bc]at this
    show _=AV.cz [E.lK (.atom _),_]
    have e:s.length-((s.drop i).dropWhile fJ).length=i+((s.drop i).takeWhile fJ).length:=by omega
    rw[e];rfl
  ·have h40':(s.getD i 0).toNat=40:=by omega
   rw[h3 hlt h40']
   refine gj (wY s hs d hd f hf ih (s.length-(i+1)+1) i [] [] _ ((bx).mpr trivial) (by omega) hlt (by simp;omega)) ?_ ?_
   ·rintro ys o ⟨h,_⟩;cases h
   ·rintro ys o ⟨_,hr⟩
    cases hq:pj f (s.length-(i+1)+1) (s.drop (i+1)) []with
    |
     none =>
     rw[hq]at hr
     obtain⟨es,rfl,rfl⟩:=hr
     simp only[jc,↓zq,zs,aA]
     exact⟨rfl,[],_,(dm _).mpr trivial,rfl⟩
    |
     some q =>
     obtain⟨e,u⟩:=q
     rw[hq]at hr
     obtain⟨l,rfl,rfl,rfl⟩:=hr
     simp only[jc,↓zq,zs,aA]
     exact⟨rfl,rfl⟩
theorem zW(s:List UInt8)(hs:s.length<=8000):∀(k:Nat),k<=300->∀i,i<=s.length->aI Try.prog 36 [.v (.string (mk s)),.v (.int .i64 (i:Int)),.v (.int .i64 ((300-k:Nat):Int))] [] (sH s (rd k (s.drop i))):=by
 intro k
 have hnil:∀k,rd k []=none:=fun k=>by cases k<;>simp[rd]
 have ha40:∀b:UInt8,b.toNat=40->fJ b=false:=fun b hb=>by simp[fJ,hb]
 induction k with
 |
  zero =>
  intro hk i hi
  refine jL s hs 300 i (by omega) hi (fun _=>none) (fun _ _ _ h=>by cases h) (fun j _=>xU s j) _ (fun h=>?_) (fun hlt h=>?_) (fun hlt h h40=>?_) (fun hlt h40=>?_)
  ·rw[bC (by omega)];exact hnil 0
  ·simp only[rd,if_neg h]
  ·simp only[rd,if_pos h]
  ·rw[qW]
   have:(s.drop i).takeWhile fJ=[]:=me hlt (ha40 _ h40)
   simp only[rd,if_pos this]
 |
  succ k ih =>
  intro hk i hi
  have hd:300-(k+1)+1=300-k:=by omega
  refine jL s hs (300-(k+1)) i (by omega) hi (rd k) (rH k) (fun j hj=>by rw[hd];exact ih (by omega) j hj) _ (fun h=>?_) (fun hlt h=>?_) (fun hlt h h40=>?_) (fun hlt h40=>?_)
  ·rw[bC (by omega)];exact hnil _
  ·simp only[rd,if_neg h]
  ·rw[drop_cons hlt]at h |-
   simp only[rd,if_pos h,if_neg h40]
  ·have h:=me hlt (ha40 _ h40)
   rw[drop_cons hlt]at h |-
   simp only[rd,if_pos h,if_pos h40,bc]
end Go.Proofs.Trees
namespace Go.Proofs.Trees
open Go Go.VL
theorem l9(e:E):AV.agg [.v (.string ((e.fA.getD 0 .any).toStr)),e.fA.getD 1 .any]=e.lK:=by cases e<;>rfl
theorem kp(e:E):e.fA.length=2:=by cases e<;>rfl
theorem mC(e:E):bV [.str,.sl] e.fA 0=True:=by
 apply eq_true
 cases e<;>simp[E.fA,bV,mn,bx,dm]
theorem oR(e:E):e.fA.headD .any=.v (.string (mk e.at)):=by cases e<;>rfl
theorem ur(x:E)(l:List E):aI Try.prog 26 [.agg [.v (.string (mk [])),.sl (E.bN (x::l))]] [] (dL (.v (.string (mk x.at)))):=by
 refine yB _ _ ((dm _).mpr trivial) ?_
 simp only[wL,E.bN,↓zq,zs,aA,zt,dL,kp,oR,aF]
 refine⟨fun h=>absurd rfl h,fun _=>⟨fun h=>by omega,fun _=>⟨by omega,by omega⟩⟩⟩
def fI:E->Bool
 | .atom s=>(s==[48])||(s==[49])||lD s||dS s
 | .list [x,a,b]=>if x.at=[43]then fI a&&fI b else if x.at=[42]then fI a&&fI b else if x.at=[114,101,99]then dS a.at&&fI b else false
 | .list _=>false
theorem uS:∀(e:E),e.ok->aI Try.prog 33 [e.lK] [] (dL (.v (.bool (fI e))))
 |
  .atom s,hok=>by
  refine u3 _ _ ((bx).mpr trivial) ?_
  have hne:s≠[]:=hok
  simp only[th,↓zq,zs,aA,zt,dL,fI]
  refine⟨fun _=>⟨fun h=>?_,fun h=>⟨fun h1=>?_,fun h1=>?_⟩⟩,fun h=>absurd h hne⟩
  ·simp[h]
  ·simp[h1]
  ·refine bg (yD s) ?_
   simp only[↓zq,zs,aA]
   refine⟨fun hp=>?_,fun hp=>?_⟩
   ·simp[hp]
   ·refine bg (xD s) ?_
    simp[↓zq,zs,aA,hp,h,h1]
 |
  .list l,hok=>by
  refine u3 _ _ ((dm _).mpr trivial) ?_
  match l,hok with
  |[],hok=>simp[th,E.bN,↓zq,zs,aA,zt,dL,fI]
  |[x],hok=>simp[th,E.bN,↓zq,zs,aA,zt,dL,fI]
  |[x,y],hok=>simp[th,E.bN,↓zq,zs,aA,zt,dL,fI]
  |
   x::y::z::w::l,hok =>
   simp only[th,E.bN,↓zq,zs,aA,zt,dL,fI]
   exact⟨fun h=>absurd rfl h,fun _=>⟨fun _=>trivial,fun h=>by omega⟩⟩
  |
   [x,y,z],hok =>
   obtain⟨ok1,ok2,ok3,_⟩:=hok
   simp only[th,↓zq,zs,aA,zt,dL]
   refine⟨fun h=>absurd rfl h,fun _=>⟨fun h=>absurd rfl h,fun _=>?_⟩⟩
   refine bg (ur x _) ?_
   simp only[E.bN,toNat_one,jD,↓zq,zs,aA,zt,l9,kp,mC,oR,aF,fI]
   refine⟨fun h=>?_,fun h=>⟨fun h1=>?_,fun h1=>⟨fun h2=>?_,fun h2=>?_⟩⟩⟩
   ·rw[if_pos h]
    refine⟨by omega,bg (uS y ok2) ?_⟩
    simp only[↓zq,zs,aA]
    refine⟨fun hy=>⟨by omega,bg (uS z ok3) ?_⟩,fun hy=>?_⟩
    ·simp only[↓zq,zs,aA,hy,bF]
    ·rw[hy];rfl
   ·rw[if_neg h,if_pos h1]
    refine⟨by omega,bg (uS y ok2) ?_⟩
    simp only[↓zq,zs,aA]
    refine⟨fun hy=>⟨by omega,bg (uS z ok3) ?_⟩,fun hy=>?_⟩
    ·simp only[↓zq,zs,aA,hy,bF]
    ·rw[hy];rfl
   ·rw[if_neg h,if_neg h1,if_pos h2]
    refine⟨by omega,by omega,bg (xD _) ?_⟩
    simp only[↓zq,zs,aA]
    refine⟨fun hy=>⟨by omega,bg (uS z ok3) ?_⟩,fun hy=>?_⟩
    ·simp only[↓zq,zs,aA,hy,bF]
    ·rw[hy];rfl
   ·rw[if_neg h,if_neg h1,if_neg h2]
theorem fh:∀(e:E) (ar:List (List UInt8)),(ct e ar).isSome=fI e
 |
  .atom s,ar=>by
  simp only[ct,fI]
  by_cases h:s=[48]
  ·simp[h]
  ·by_cases h1:s=[49]
   ·simp[h1]
   ·rw[if_neg h,if_neg h1]
    by_cases h2:lD s=true
    ·simp[h2]
    ·rw[if_neg h2]
     by_cases h3:dS s=true
     ·rw[if_pos h3];cases ku s ar ar.length<;>simp[h3]
     ·rw[if_neg h3];simp[h,h1,h2,h3]
 | .list [],_=>rfl
 | .list [_],_=>rfl
 | .list [_,_],_=>rfl
 | .list (_::_::_::_::_),_=>rfl
 |
  .list [x,a,b],ar=>by
  have ha:=fh a ar
  have hb:=fh b ar
  have hb2:=fh b (ar++[a.at])
  rw[fI]
  by_cases h:x.at=[43]
  ·rw[jv ar h,if_pos h,<-ha,<-hb];cases ct a ar<;>cases ct b ar<;>rfl
  ·by_cases h1:x.at=[42]
   ·rw[iv ar h1,if_neg h,if_pos h1,<-ha,<-hb];cases ct a ar<;>cases ct b ar<;>rfl
   ·by_cases h2:x.at=[114,101,99]
    ·rw[kb ar h2,if_neg h,if_neg h1,if_pos h2,<-hb2]
     cases dS a.at<;>cases ct b (ar++[a.at])<;>rfl
    ·rw[j7 ar h h1 h2,if_neg h,if_neg h1,if_neg h2];rfl
mutual
def E.kX:E->Nat
 | .atom _=>1
 | .list l=>E.jy l
def E.jy:List E->Nat
 |[]=>0
 |e::l=>e.kX+E.jy l
end
mutual
theorem tp:∀e:E,e.kX<=e.sz
 | .atom s=>by simp[E.kX,E.sz]
 | .list l=>by have:=mA l;simp only[E.kX,E.sz];omega
theorem mA:∀l:List E,E.jy l<=E.kY l
 |[]=>by simp[E.jy,E.kY]
 |e::l=>by have:=tp e;have:=mA l;simp only[E.jy,E.kY];omega
end
theorem jk:∀(l:List E) (i:Nat) (h:i<l.length),(E.bN l).getD i []=(l[i]).fA
 |e::l,0,_=>rfl
 |
  e::l,i+1,h=>by
  have:=jk l i (by simpa using h)
  simp only[E.bN,List.getD_cons_succ,List.getElem_cons_succ];exact this
theorem pz:∀(l:List E) (i:Nat) (h:i<l.length),E.jy (l.drop i)=(l[i]).kX+E.jy (l.drop (i+1)):=by
 intro l i h
 rw[bX h];rfl
theorem oH:∀(l:List E) (i:Nat) (h:i<l.length),E.sJ l->(l[i]).ok
 |e::l,0,_,h=>h.1
 |e::l,i+1,hi,h=>oH l i (by simpa using hi) h.2
theorem vC(l:List E)(hl:E.jy l<1000000)(hll:l.length<1000000)(ih:∀i (h:i<l.length),aI Try.prog 34 [(l[i]).lK] [] (dL (.v (.int .i64 ((l[i]).kX:Int))))) :
 ∀(k i n:Nat),i+k=l.length->n+E.jy (l.drop i)<=E.jy l->zS [.v (.int .i64 (n:Int)),.v (.int .i64 (i:Int))] [.cells [.v (.string (mk [])),.sl (E.bN l)]] (mr 1 [.v (.int .i64 ((n+E.jy (l.drop i):Nat):Int))] [])
 |
  0,i,n,hi,hn=>by
  refine wT _ _ _ _ ?_
  simp only[yj,↓zq,zs,aA,gW]
  have:l.drop i=[]:=bC (by omega)
  refine⟨fun h=>by omega,fun _=>?_⟩
  simp[mr,this,E.jy]
 |
  k+1,i,n,hi,hn=>by
  have hlt:i<l.length:=by omega
  refine wT _ _ _ _ ?_
  simp only[yj,↓zq,zs,aA,zt,gW,jk l i hlt,kp,mC,l9,aF]
  refine⟨fun _=>⟨by omega,?_⟩,fun h=>by omega⟩
  refine bg (ih i hlt) ?_
  have h1:=pz l i hlt
  simp only[↓zq,zs,aA]
  rw[bq i (by omega),wrap64 _ (by omega) (by omega)]
  have:=vC l hl hll ih k (i+1) (n+(l[i]).kX) (by omega) (by omega)
  rw[h1,<-dB]
  simpa using this
theorem oJ:∀l:List E,l.length<=E.kY l
 |[]=>by simp[E.kY]
 |
  e::l=>by
  have:=oJ l
  have:1<=e.sz:=by cases e<;>simp[E.sz]
  simp only[E.kY,aB];omega
theorem pZ:∀(l:List E) (i:Nat) (h:i<l.length),(l[i]).sz<=E.kY l
 |e::l,0,_=>by simp[E.kY]
 |e::l,i+1,h=>by have:=pZ l i (by simpa using h);simp only[E.kY,List.getElem_cons_succ];omega
theorem vW:∀(n:Nat) (e:E),e.sz<n->e.ok->e.sz<1000000->aI Try.prog 34 [e.lK] [] (dL (.v (.int .i64 (e.kX:Int))))
 |0,e,hn,_,_=>by omega
 |
  n+1,.atom s,hn,hok,hl=>by
  refine vx _ _ ((bx).mpr trivial) ?_
  have hne:s≠[]:=hok
  simp only[tJ,↓zq,zs,aA,zt,dL]
  exact⟨fun _=>rfl,fun h=>absurd h hne⟩
 |
  n+1,.list l,hn,hok,hl=>by
  refine vx _ _ ((dm _).mpr trivial) ?_
  simp only[E.sz]at hn hl
  have h1:=mA l
  have h2:=oJ l
  simp only[tJ,↓zq,zs,aA,zt,dL]
  refine⟨fun h=>absurd rfl h,fun _=>?_⟩
  refine fU (vC l (by omega) (by omega) (fun i hi=>?_) l.length 0 0 (by omega) (by simp)) ?_
  ·have:=pZ l i hi
   exact vW n (l[i]) (by omega) (oH l i hi hok) (by omega)
  ·simp[↓zq,zs,aA,E.kX]
theorem zv(e:E)(h:e.ok)(hl:e.sz<1000000):aI Try.prog 34 [e.lK] [] (dL (.v (.int .i64 (e.kX:Int)))):=vW (e.sz+1) e (by omega) h hl
theorem mm{x:E}(h:x.at≠[]):x.kX=1:=by cases x<;>simp[E.at,E.kX]at h |-
theorem tE{s:List UInt8}(h:dS s=true):s≠[]:=by rintro rfl;cases h
theorem fv:∀(e:E) (ar:List (List UInt8)) (t:Ty),ct e ar=some t->e.kX=t.atoms
 |
  .atom s,ar,t,h=>by
  simp only[ct]at h
  simp only[E.kX]
  split at h
  ·cases h;rfl
  ·split at h
   ·cases h;rfl
   ·split at h
    ·cases h;rfl
    ·split at h
     ·split at h<;>cases h<;>rfl
     ·cases h
 | .list [],_,_,h=>by cases h
 | .list [_],_,_,h=>by cases h
 | .list [_,_],_,_,h=>by cases h
 | .list (_::_::_::_::_),_,_,h=>by cases h
 |
  .list [x,a,b],ar,t,h=>by
  simp only[E.kX,E.jy]
  by_cases h0:x.at=[43]
  ·rw[jv ar h0]at h
   have:=mm (x:=x) (by rw[h0];simp)
   split at h
   ·rename_i t1 t2 e1 e2
    cases h
    have:=fv a ar _ e1
    have:=fv b ar _ e2
    simp only[Ty.atoms];omega
   ·cases h
  ·by_cases h1:x.at=[42]
   ·rw[iv ar h1]at h
    have:=mm (x:=x) (by rw[h1];simp)
    split at h
    ·rename_i t1 t2 e1 e2
     cases h
     have:=fv a ar _ e1
     have:=fv b ar _ e2
     simp only[Ty.atoms];omega
    ·cases h
   ·by_cases h2:x.at=[114,101,99]
    ·rw[kb ar h2]at h
     have:=mm (x:=x) (by rw[h2];simp)
     split at h
     ·rename_i hl
      have:=mm (tE hl)
      split at h
      ·rename_i t1 e1
       cases h
       have:=fv b _ _ e1
       simp only[Ty.atoms];omega
      ·cases h
     ·cases h
    ·rw[j7 ar h0 h1 h2]at h;cases h
def jX:E->Bool
 | .atom s=>(s==[48])||(s==[49])||(s==[120])||(s==[121])||(s==[122])
 | .list [x,a,b]=>!(x.at==[114,101,99])&&(jX a&&jX b)
 | .list _=>false
theorem tg:∀(e:E),e.ok->fI e=true->aI Try.prog 25 [e.lK] [] (dL (.v (.bool (jX e))))
 |
  .atom s,hok,_=>by
  refine vf _ _ ((bx).mpr trivial) ?_
  have hne:s≠[]:=hok
  simp only[s9,↓zq,zs,aA,zt,dL,jX]
  refine⟨fun _=>⟨fun h=>?_,fun h=>⟨fun h1=>?_,fun h1=>⟨fun h2=>?_,fun h2=>⟨fun h3=>?_,fun h3=>?_⟩⟩⟩⟩,fun h=>absurd h hne⟩<;>simp[*]
 | .list [],_,h=>by cases h
 | .list [_],_,h=>by cases h
 | .list [_,_],_,h=>by cases h
 | .list (_::_::_::_::_),_,h=>by cases h
 |
  .list [x,y,z],hok,hty=>by
  refine vf _ _ ((dm _).mpr trivial) ?_
  obtain⟨ok1,ok2,ok3,_⟩:=hok
  simp only[s9,↓zq,zs,aA,zt,dL]
  refine⟨fun h=>absurd rfl h,fun _=>?_⟩
  refine bg (ur x _) ?_
  simp only[E.bN,toNat_one,jD,↓zq,zs,aA,zt,l9,kp,mC,oR,aF,jX]
  refine⟨fun h=>?_,fun h=>?_⟩
  ·have hyz:fI y=true/\fI z=true:=by
    rw[fI]at hty
    split at hty
    ·simpa using hty
    ·split at hty
     ·simpa using hty
     ·cases hty
   refine⟨by omega,bg (tg y ok2 hyz.1) ?_⟩
   simp only[↓zq,zs,aA]
   have h':(x.at==[114,101,99])=false:=by simpa using h
   refine⟨fun hy=>⟨by omega,bg (tg z ok3 hyz.2) ?_⟩,fun hy=>?_⟩
   ·simp only[↓zq,zs,aA,hy,h'];rfl
   ·rw[hy,h'];rfl
  ·rw[h];rfl
def mM(x:Option E)(b:Bool):AV->List Ob->Prop:=fun r o=>∃c:List UInt8,∃d:AV,LK.sl.has d/\r=.cz [.agg [.v (.string (mk c)),d],.v (.bool b)]/\(b=true->∃e,x=some e/\AV.agg [.v (.string (mk c)),d]=e.lK)
theorem qT(e:E):∃c:List UInt8,∃d:AV,LK.sl.has d/\e.lK=AV.agg [.v (.string (mk c)),d]:=by
 cases e with
 |atom s=>exact⟨s,_,(bx).mpr trivial,rfl⟩
 |list l=>exact⟨[],_,(dm _).mpr trivial,rfl⟩
theorem mM.ne(x:Option E)(b:Bool)(h:b=true->x.isSome=true):∃r o,mM x b r o:=by
 cases b with
 |false=>exact⟨_,[],[],.v (.slice none 0 0),(bx).mpr trivial,rfl,fun h=>by cases h⟩
 |
  true =>
  cases x with
  |none=>cases h rfl
  |
   some e =>
   obtain⟨c,d,hd,he⟩:=qT e
   exact⟨_,[],c,d,hd,rfl,fun _=>⟨e,rfl,he.symm⟩⟩
theorem yp(s:List UInt8):aI Try.prog 32 [.v (.string (mk s))] [] (mM (pW s) (pW s).isSome):=by
 refine zX _ ?_
 simp only[vO,↓zq,zs,aA,zt,pW]
 refine⟨fun h=>?_,fun h=>?_⟩
 ·rw[if_pos (by omega)]
  exact⟨[],_,(bx).mpr trivial,rfl,fun h=>by cases h⟩
 ·rw[if_neg (by omega)]
  refine aQ (zW s (by omega) 300 (by omega) 0 (by omega)) (sH.ne _ _) ?_
  rintro r o ⟨rfl,hr⟩
  rw[cT]at hr
  cases hq:rd 300 s with
  |
   none =>
   rw[hq]at hr
   obtain⟨c,d,hd,rfl⟩:=hr
   simp only[↓zq,zs,aA,zt,bV]
   refine⟨hd,c,d,hd,?_,fun h=>by cases h⟩
   have:((-1:Int)==(s.length:Int))=false:=by
    rw[beq_eq_false_iff_ne];omega
   rw[this];rfl
  |
   some q =>
   obtain⟨e,u⟩:=q
   rw[hq]at hr
   subst hr
   have hlt:=qm _ _ _ _ hq
   obtain⟨c,d,hd,he⟩:=qT e
   simp only[he,↓zq,zs,aA,zt,bV]
   cases u with
   |
    nil =>
    refine⟨hd,c,d,hd,?_,fun _=>⟨e,rfl,he.symm⟩⟩
    simp
   |
    cons b u =>
    simp only[aB]at hlt |-
    refine⟨hd,c,d,hd,?_,fun h=>by cases h⟩
    have:(((s.length-(u.length+1):Nat):Int)==(s.length:Int))=false:=by simp;omega
    rw[this];rfl
def pU(s:List UInt8):Option E:=match pW s with
 |none=>none
 |some e=>if fI e=true/\e.kX<=400 then some e else none
theorem yN(s:List UInt8):aI Try.prog 24 [.v (.string (mk s))] [] (mM (pU s) (pU s).isSome):=by
 refine yM _ ?_
 unfold wJ
 refine aQ (yp s) (mM.ne _ _ (fun h=>h)) ?_
 rintro r o ⟨c,d,hd,rfl,hh⟩
 simp only[↓zq,zs,aA,zt,bV,pU]
 refine⟨hd,fun h=>?_,fun h=>?_⟩
 ·obtain⟨e,he,hce⟩:=hh h
  obtain⟨hok,hsz⟩:=nM he
  rw[he,hce]
  refine bg (uS e hok) ?_
  simp only[↓zq,zs,aA]
  refine⟨fun hi=>?_,fun hi=>?_⟩
  ·refine bg (zv e hok (by omega)) ?_
   simp only[↓zq,zs,aA,hi]
   refine⟨c,d,hd,?_,?_⟩
   ·rw[hce]
    by_cases h4:e.kX<=400
    ·rw[if_pos h4];exact congrArg (fun b=>AV.cz [e.lK,.v (.bool b)]) (decide_eq_true (show ((e.kX:Nat):Int)<=400 by omega))
    ·rw[if_neg h4];exact congrArg (fun b=>AV.cz [e.lK,.v (.bool b)]) (decide_eq_false (show ¬((e.kX:Nat):Int)<=400 by omega))
   ·split
    ·exact fun _=>⟨e,rfl,hce⟩
    ·exact fun h=>by cases h
  ·refine⟨c,d,hd,?_,?_⟩
   ·rw[hce,if_neg (by rw[hi];simp)];rfl
   ·rw[if_neg (by rw[hi];simp)];exact fun h=>by cases h
 ·have hn:pW s=none:=by cases hq:pW s<;>simp[hq]at h |-
  rw[hn]
  exact⟨c,d,hd,rfl,fun h=>by cases h⟩
def m8(s:List UInt8):Option E:=match pU s with
 |none=>none
 |some e=>if jX e=true then some e else none
theorem nA{s:List UInt8}{e:E}(h:pU s=some e):pW s=some e/\fI e=true/\e.kX<=400:=by
 unfold pU at h
 split at h
 ·cases h
 ·split at h
  ·rename_i e' h1 h2;cases h;exact⟨h1,h2⟩
  ·cases h
theorem zj(s:List UInt8):aI Try.prog 18 [.v (.string (mk s))] [] (mM (m8 s) (m8 s).isSome):=by
 refine yc _ ?_
 unfold wH
 refine aQ (yN s) (mM.ne _ _ (fun h=>h)) ?_
 rintro r o ⟨c,d,hd,rfl,hh⟩
 simp only[↓zq,zs,aA,zt,bV,m8]
 refine⟨hd,fun h=>?_,fun h=>?_⟩
 ·obtain⟨e,he,hce⟩:=hh h
  obtain⟨h1,h2,h3⟩:=nA he
  obtain⟨hok,hsz⟩:=nM h1
  rw[he,hce]
  refine bg (tg e hok h2) ?_
  simp only[↓zq,zs,aA]
  refine⟨c,d,hd,?_,?_⟩
  ·rw[hce];cases jX e<;>rfl
  ·split
   ·exact fun _=>⟨e,rfl,hce⟩
   ·exact fun h=>by cases h
 ·have hn:pU s=none:=by cases hq:pU s<;>simp[hq]at h |-
  rw[hn]
  exact⟨c,d,hd,rfl,fun h=>by cases h⟩
end Go.Proofs.Trees
namespace Go.Proofs.Trees
open Go Go.VL Go.RowKit
def jO(l:List UInt8):List (List AV):=l.map fun(x:UInt8)=>[.v (.int .u8 (x.toNat:Int))]
structure pX(b:AV)(l:List UInt8):Prop where
 has:LK.sl.has b
 el:b.elems=jO l
 len:l.length<=2000
theorem pX.ln{b:AV}{l:List UInt8}(h:pX b l):b.elems.length=l.length:=by rw[h.el];simp[jO]
theorem pX.get{b:AV}{l:List UInt8}(h:pX b l){i:Nat}(hi:i<l.length):b.elems.getD i []=[.v (.int .u8 ((l[i]).toNat:Int))]:=by rw[h.el];simp[jO,aa,hi]
def dx(b:AV)(p c:Nat)(X:AV->Prop):AV->List Ob->Prop:=fun r o=>∃q:Nat,p<=q/\q<=p+c/\X r/\o=[.cells [b,.v (.int .i64 (q:Int))]]
theorem dx.ne{b:AV}{p c:Nat}{X:AV->Prop}{r:AV}(h:X r):∃r o,dx b p c X r o:=⟨r,_,p,aF _,Nat.le_add_right _ _,h,rfl⟩
theorem rK{a b:Int}(ha:0<=a)(hb:0<=b)(ha':a<9223372036854775808)(hb':b<9223372036854775808):∃W:Nat,qZ .i64 a b=(W:Int):=by
 obtain⟨x,rfl⟩:∃x:Nat,a=(x:Int):=⟨a.toNat,by omega⟩
 obtain⟨y,rfl⟩:∃y:Nat,b=(y:Int):=⟨b.toNat,by omega⟩
 have e1:(BitVec.ofInt 64 (x:Int)).toNat=x:=by simp;omega
 have e2:(BitVec.ofInt 64 (y:Int)).toNat=y:=by simp;omega
 have hlt:x ^^^ y<2 ^ 63:=Nat.xor_lt_two_pow (by omega) (by omega)
 refine⟨x ^^^ y,?_⟩
 unfold qZ
 have e3:(BitVec.ofInt (IntKind.bits .i64) (x:Int) ^^^ BitVec.ofInt (IntKind.bits .i64) (y:Int)).toNat=x ^^^ y:=by
  show (BitVec.ofInt 64 (x:Int) ^^^ BitVec.ofInt 64 (y:Int)).toNat=_
  rw[BitVec.toNat_xor,e1,e2]
 rw[e3,VL.wrap64]<;>omega
theorem oX(a b:Nat):Int.tdiv (a:Int) (b:Int)=((a/b:Nat):Int):=(Int.ofNat_tdiv a b).symm
theorem jZ(a b:Nat):cr (a:Int) (b:Int)=((a%b:Nat):Int):=(Int.ofNat_tmod a b).symm
theorem mT(n:Nat)(h:n<9223372036854775808):IntKind.wrap .i64 (n:Int)=(n:Int):=VL.wrap64 _ (by omega) (by omega)
def isNum(n:Nat):AV->Prop:=fun r=>∃k:Nat,r=.v (.int .i64 (k:Int))/\(1<=n->k<n)/\k<=n
abbrev ka:Nat:=1000000000000000
theorem pV(b:AV)(l:List UInt8)(hb:pX b l)(p n:Nat)(hp:p<2*ka)(hn:n<ka):aI Try.prog 9 [.ref 0 0,.v (.int .i64 (n:Int))] [.cells [b,.v (.int .i64 (p:Int))]] (dx b p 1 (isNum n)):=by
 refine zA _ _ _ hb.has ?_
 have e1:IntKind.wrap .i64 ((p:Int)+1)=((p+1:Nat):Int):=by rw[VL.wrap64]<;>simp[ka]at hp<;>omega
 have e2:IntKind.wrap .i64 (((p+1:Nat):Int)-1)=(p:Int):=by rw[VL.wrap64]<;>simp[ka]at hp<;>omega
 have fin:∀k:Nat,(1<=n->k<n)->k<=n->dx b p 1 (isNum n) (.v (.int .i64 (k:Int))) [.cells [b,.v (.int .i64 ((p+1:Nat):Int))]]:=fun k h h'=>⟨p+1,by omega,aF _,⟨k,rfl,h,h'⟩,rfl⟩
 simp only[vJ,↓zq,zs,aA,e1,e2,hb.ln,oX,jZ]
 refine⟨fun h=>fin 0 (fun h'=>by omega) (Nat.zero_le _),fun h=>⟨hb.has,fun h0=>fin 0 (fun h'=>by omega) (Nat.zero_le _),fun h0=>?_⟩⟩
 have hl:0<l.length:=by omega
 have hll:=hb.len
 refine⟨hb.has,fun hlt=>?_,fun hge=>?_⟩
 ·have hlt:p<l.length:=by omega
  have hx:=(l[p]).toNat_lt
  simp only[aM,hb.get hlt,hb.has,↓zq,zs,aA]
  rw[mT _ (by omega),jZ]
  have:=fin ((l[p]).toNat%n) (fun h'=>cX _ (by omega)) (Nat.le_of_lt (cX _ (by omega)))
  repeat (first|exact this|refine⟨by omega,?_⟩)
 ·have h1:p%l.length<l.length:=cX _ hl
  have e3:IntKind.wrap .i64 ((p:Int)*7)=((p*7:Nat):Int):=by rw[VL.wrap64]<;>simp[ka]at hp<;>omega
  have e4:IntKind.wrap .i64 (((p*7:Nat):Int)+3)=((p*7+3:Nat):Int):=by rw[VL.wrap64]<;>simp[ka]at hp<;>omega
  have h2:(p*7+3)%l.length<l.length:=cX _ hl
  have hx:=(l[p%l.length]).toNat_lt
  have hy:=(l[(p*7+3)%l.length]).toNat_lt
  have hq:p/l.length<=p:=Nat.div_le_self _ _
  simp only[e3,e4,jZ,aM,hb.get h1,hb.get h2,hb.has,↓zq,zs,aA]
  generalize hxx:(l[p%l.length]).toNat=x at hx |-
  generalize hyy:(l[(p*7+3)%l.length]).toNat=y at hy |-
  generalize hqq:p/l.length=q at hq |-
  have f1:IntKind.wrap .i64 ((x:Int))=(x:Int):=mT _ (by omega)
  have f2:IntKind.wrap .i64 ((y:Int))=(y:Int):=mT _ (by omega)
  have f3:IntKind.wrap .i64 ((x:Int)*131)=((x*131:Nat):Int):=by rw[VL.wrap64]<;>omega
  have f4:IntKind.wrap .i64 ((y:Int)*1117)=((y*1117:Nat):Int):=by rw[VL.wrap64]<;>omega
  have f5:IntKind.wrap .i64 (((x*131:Nat):Int)+((y*1117:Nat):Int))=((x*131+y*1117:Nat):Int):=by rw[VL.wrap64]<;>omega
  have f6:IntKind.wrap .i64 ((p:Int)*29)=((p*29:Nat):Int):=by rw[VL.wrap64]<;>simp[ka]at hp<;>omega
  have f7:IntKind.wrap .i64 (((x*131+y*1117:Nat):Int)+((p*29:Nat):Int))=((x*131+y*1117+p*29:Nat):Int):=by rw[VL.wrap64]<;>simp[ka]at hp<;>omega
  have f8:IntKind.wrap .i64 ((q:Int))=(q:Int):=mT _ (by simp[ka]at hp;omega)
  have f9:IntKind.wrap .i64 ((q:Int)*53)=((q*53:Nat):Int):=by rw[VL.wrap64]<;>simp[ka]at hp<;>omega
  have f10:IntKind.wrap .i64 (((x*131+y*1117+p*29:Nat):Int)+((q*53:Nat):Int))=((x*131+y*1117+p*29+q*53:Nat):Int):=by rw[VL.wrap64]<;>simp[ka]at hp<;>omega
  simp only[f1,f2,f3,f4,f5,f6,f7,f8,f9,f10]
  generalize hV:x*131+y*1117+p*29+q*53=V
  have hVl:V<1000000000000000000:=by simp[ka]at hp;omega
  have f11:IntKind.wrap .i64 (Int.tdiv (V:Int) 64)=((V/64:Nat):Int):=by
   have:Int.tdiv (V:Int) 64=((V/64:Nat):Int):=oX V 64
   rw[this,mT _ (by omega)]
  rw[f11]
  obtain⟨W,hW⟩:=rK (a:=(V:Int)) (b:=((V/64:Nat):Int)) (by omega) (by omega) (by omega) (by omega)
  rw[hW,jZ]
  have:=fin (W%n) (fun h'=>cX _ (by omega)) (Nat.le_of_lt (cX _ (by omega)))
  repeat (first|exact this|refine⟨by omega,?_⟩)
def fL(L:List (List UInt8)):AV->Prop:=fun r=>∃s,s∈L/\r=.v (.string (mk s))
theorem rh(b:AV)(l:List UInt8)(hb:pX b l)(p:Nat)(hp:p<2*ka)(L:List (List UInt8))(a:AV)(ha:gh a L)(hL:0<L.length)(hLl:L.length<1000000):aI Try.prog 20 [.ref 0 0,a] [.cells [b,.v (.int .i64 (p:Int))]] (dx b p 1 (fL L)):=by
 refine yz _ _ _ ha.1 hb.has ?_
 unfold vh
 simp only[↓zq,zs,aA,ha.len]
 refine⟨ha.1,?_⟩
 have hpk:=pV b l hb p L.length hp (by simp[ka];omega)
 refine aQ hpk (dx.ne ⟨0,rfl,fun h=>h,Nat.zero_le _⟩) ?_
 rintro r o ⟨q,h1,h2,⟨k,rfl,h3,h4⟩,rfl⟩
 have hk:=h3 hL
 simp only[↓zq,zs,aA,zt,aZ,hb.has,ha.idx hk,aM]
 refine⟨⟨ha.1,by omega⟩,?_⟩
 have:dx b p 1 (fL L) (.v (.string (mk (L.getD k [])))) [.cells [b,.v (.int .i64 (q:Int))]]:=⟨q,h1,h2,⟨_,by simp[aa,hk],rfl⟩,rfl⟩
 repeat (first|exact this|refine⟨by omega,?_⟩)
def ej(n:Nat):AV->Prop:=fun r=>∃s:List UInt8,r=.v (.string (mk s))/\s.length<=n
theorem fL.rQ{L:List (List UInt8)}{n:Nat}(h:∀s,s∈L->s.length<=n){r:AV}(hr:fL L r):ej n r:=by
 obtain⟨s,h1,h2⟩:=hr;exact⟨s,h2,h s h1⟩
end Go.Proofs.Trees
namespace Go.Proofs.Trees
open Go Go.VL
def bM:Ty->Bool
 | .name s=>dS s
 | .plus a b=>bM a||bM b
 | .times a b=>bM a||bM b
 | .rc a=>bM a
 |_=>false
theorem dO:∀(t:Ty) (out:List (List UInt8)),(da t out).any dS=(out.any dS||bM t)
 |
  .name s,out=>by
  simp only[da,wj,bM]
  split
  ·rename_i h
   cases hs:dS s with
   |false=>simp
   |true=>rw[Bool.or_true,bj];exact⟨s,h,hs⟩
  ·simp
 | .plus a b,out=>by simp only[da,bM,dO a,dO b,cf]
 | .times a b,out=>by simp only[da,bM,dO a,dO b,cf]
 | .rc a,out=>by simp only[da,bM,dO a]
 | .zero,out=>by simp[da,bM]
 | .one,out=>by simp[da,bM]
 | .bound u,out=>by simp[da,bM]
theorem ph(t:Ty):t.closed = !bM t:=by simp[Ty.closed,dO]
def pl:Ty->Bool
 | .name s=>decide (s.length<=1)
 | .plus a b=>pl a&&pl b
 | .times a b=>pl a&&pl b
 | .rc a=>false
 |_=>true
theorem eJ:∀(t:Ty) (b:Bool),dY t b=(b&&pl t)
 | .name s,b=>by simp[dY,pl]
 | .plus a c,b=>by simp only[dY,pl,eJ a,eJ c,Bool.and_assoc]
 | .times a c,b=>by simp only[dY,pl,eJ a,eJ c,Bool.and_assoc]
 | .rc a,b=>by simp[dY,pl,eJ a]
 | .zero,b=>by simp[dY,pl]
 | .one,b=>by simp[dY,pl]
 | .bound u,b=>by simp[dY,pl]
theorem iB{lo hi:Nat}{s:List UInt8}(h:named lo hi s=true):∃c r,s=c::r/\lo<=c.toNat/\c.toNat<=hi:=by
 cases s with
 |nil=>cases h
 |cons c r=>simp only[named,ag,decide_eq_true_eq]at h;exact⟨c,r,rfl,by omega,by omega⟩
theorem nf{s:List UInt8}(h0:s≠[48])(h1:s≠[49])(h:lD s=true\/dS s=true):jX (.atom s)=(decide (s.length<=1)&&!dS s):=by
 have key:∀c:UInt8,([c]==[(120:UInt8)]||[c]==[121]||[c]==[122])=decide (120<=c.toNat/\c.toNat<=122):=by
  intro c
  rw[Bool.eq_iff_iff]
  simp[<-UInt8.toNat_inj]
  omega
 rcases h with h|h
 ·obtain⟨c,r,rfl,hc1,hc2⟩:=iB h
  have hl:dS (c::r)=false:=by
   cases hq:dS (c::r)with
   |false=>rfl
   |true=>obtain⟨c',r',he,h3,h4⟩:=iB hq;cases he;omega
  rw[hl]
  cases r with
  |
   nil =>
   have:=key c
   simp only[jX]
   rw[beq_eq_false_iff_ne.2 h0,beq_eq_false_iff_ne.2 h1,cf,cf,cf,<-cf ([c]==[120]),this]
   simp;omega
  |cons d r=>simp[jX]
 ·obtain⟨c,r,rfl,hc1,hc2⟩:=iB h
  rw[h]
  cases r with
  |
   nil =>
   have:=key c
   simp only[jX]
   rw[beq_eq_false_iff_ne.2 h0,beq_eq_false_iff_ne.2 h1,cf,cf,cf,<-cf ([c]==[120]),this]
   simp;omega
  |cons d r=>simp[jX]
theorem ij{x a b:E}{ar:List (List UInt8)}{t:Ty}(hx:x.at=[43])(h:ct (.list [x,a,b]) ar=some t):∃t1 t2,ct a ar=some t1/\ct b ar=some t2/\t=.plus t1 t2:=by
 rw[jv ar hx]at h
 split at h
 ·rename_i t1 t2 e1 e2;cases h;exact⟨t1,t2,e1,e2,rfl⟩
 ·cases h
theorem gK{x a b:E}{ar:List (List UInt8)}{t:Ty}(hx:x.at=[42])(h:ct (.list [x,a,b]) ar=some t):∃t1 t2,ct a ar=some t1/\ct b ar=some t2/\t=.times t1 t2:=by
 rw[iv ar hx]at h
 split at h
 ·rename_i t1 t2 e1 e2;cases h;exact⟨t1,t2,e1,e2,rfl⟩
 ·cases h
theorem l8{x a b:E}{ar:List (List UInt8)}{t:Ty}(hx:x.at=[114,101,99])(h:ct (.list [x,a,b]) ar=some t):∃t1,dS a.at=true/\ct b (ar++[a.at])=some t1/\t=.rc t1:=by
 rw[kb ar hx]at h
 split at h
 ·rename_i hl
  split at h
  ·rename_i t1 e1;cases h;exact⟨t1,hl,e1,rfl⟩
  ·cases h
 ·cases h
theorem kI:∀(e:E) (t:Ty),ct e []=some t->jX e=(pl t&&!bM t)
 |
  .atom s,t,h=>by
  simp only[ct]at h
  split at h
  ·rename_i h0;cases h;simp[jX,h0,pl,bM]
  ·rename_i h0
   split at h
   ·rename_i h1;cases h;simp[jX,h1,pl,bM]
   ·rename_i h1
    split at h
    ·rename_i h2;cases h;exact nf h0 h1 (.inl h2)
    ·split at h
     ·rename_i h2
      simp only[aL,ku]at h
      cases h;exact nf h0 h1 (.inr h2)
     ·cases h
 | .list [],_,h=>by cases h
 | .list [_],_,h=>by cases h
 | .list [_,_],_,h=>by cases h
 | .list (_::_::_::_::_),_,h=>by cases h
 |
  .list [x,a,b],t,h=>by
  rw[jX]
  by_cases h0:x.at=[43]
  ·obtain⟨t1,t2,e1,e2,rfl⟩:=ij h0 h
   rw[kI a t1 e1,kI b t2 e2,h0,pl,bM]
   cases pl t1<;>cases pl t2<;>cases bM t1<;>cases bM t2<;>rfl
  ·by_cases h1:x.at=[42]
   ·obtain⟨t1,t2,e1,e2,rfl⟩:=gK h1 h
    rw[kI a t1 e1,kI b t2 e2,h1,pl,bM]
    cases pl t1<;>cases pl t2<;>cases bM t1<;>cases bM t2<;>rfl
   ·by_cases h2:x.at=[114,101,99]
    ·obtain⟨t1,hl,e1,rfl⟩:=l8 h2 h
     rw[h2];rfl
    ·rw[j7 [] h0 h1 h2]at h;cases h
theorem tX{s:List UInt8}:y8 s=match pU s with|none=>none|some e=>ct e []:=by
 unfold y8 pU
 cases he:pW s with
 |none=>rfl
 |
  some e =>
  have hs:=fh e []
  simp only
  cases ht:ct e []with
  |
   none =>
   rw[ht]at hs
   rw[if_neg (by rw[<-hs];simp)]
  |
   some t =>
   rw[ht]at hs
   have ha:=fv e [] t ht
   by_cases h4:e.kX<=400
   ·rw[if_pos ⟨hs.symm,h4⟩];dsimp only;rw[if_neg (by omega)];exact ht.symm
   ·rw[if_neg (fun h=>h4 h.2)];dsimp only;rw[if_pos (by omega)]
theorem uN(s:List UInt8):yG s=match m8 s with|none=>none|some e=>ct e []:=by
 unfold yG Aa m8
 rw[tX]
 cases he:pU s with
 |none=>rfl
 |
  some e =>
  obtain⟨h1,h2,h3⟩:=nA he
  have hs:=fh e []
  rw[h2]at hs
  obtain⟨t,ht⟩:=Option.isSome_iff_exists.1 hs
  have hp:=kI e t ht
  simp only[ht,ph,eJ,bF,hp]
  cases hf:bM t<;>cases hpl:pl t<;>simp[ht,eJ,hpl]
end Go.Proofs.Trees
namespace Go.Proofs.Trees
open Go Go.VL
def pure:Ty->Bool
 | .zero=>true
 | .one=>true
 | .name s=>(s==[120])||(s==[121])||(s==[122])
 | .plus a b=>pure a&&pure b
 | .times a b=>pure a&&pure b
 |_=>false
theorem iP:∀(e:E) (t:Ty),ct e []=some t->jX e=true->pure t=true
 |
  .atom s,t,h,hp=>by
  simp only[ct]at h
  simp only[jX]at hp
  split at h
  ·cases h;rfl
  ·rename_i h0
   split at h
   ·cases h;rfl
   ·rename_i h1
    rw[beq_eq_false_iff_ne.2 h0,beq_eq_false_iff_ne.2 h1]at hp
    split at h
    ·cases h;simpa[pure]using hp
    ·split at h
     ·simp only[aL,ku]at h
      cases h;simpa[pure]using hp
     ·cases h
 | .list [],_,h,_=>by cases h
 | .list [_],_,h,_=>by cases h
 | .list [_,_],_,h,_=>by cases h
 | .list (_::_::_::_::_),_,h,_=>by cases h
 |
  .list [x,a,b],t,h,hp=>by
  rw[jX]at hp
  simp only[ag]at hp
  by_cases h0:x.at=[43]
  ·obtain⟨t1,t2,e1,e2,rfl⟩:=ij h0 h
   simp only[pure,iP a t1 e1 hp.2.1,iP b t2 e2 hp.2.2,c0]
  ·by_cases h1:x.at=[42]
   ·obtain⟨t1,t2,e1,e2,rfl⟩:=gK h1 h
    simp only[pure,iP a t1 e1 hp.2.1,iP b t2 e2 hp.2.2,c0]
   ·by_cases h2:x.at=[114,101,99]
    ·rw[h2]at hp;simp at hp
    ·rw[j7 [] h0 h1 h2]at h;cases h
theorem sM{s:List UInt8}{e:E}(h:m8 s=some e):pU s=some e/\jX e=true:=by
 unfold m8 at h
 split at h
 ·cases h
 ·split at h
  ·rename_i h1 h2;cases h;exact⟨h1,h2⟩
  ·cases h
theorem py{s:List UInt8}{e:E}(h:m8 s=some e):∃t,yG s=some t/\ct e []=some t/\pure t=true/\e.ok/\e.sz<=8000/\fI e=true/\jX e=true/\t.atoms<=400/\pW s=some e:=by
 obtain⟨h1,h2⟩:=sM h
 obtain⟨h3,h4,h5⟩:=nA h1
 obtain⟨hok,hsz⟩:=nM h3
 have hs:=fh e []
 rw[h4]at hs
 obtain⟨t,ht⟩:=Option.isSome_iff_exists.1 hs
 refine⟨t,?_,ht,iP e t ht h2,hok,hsz,h4,h2,?_,h3⟩
 ·rw[uN,h];exact ht
 ·rw[<-fv e [] t ht];exact h5
def uZ(x:Option Nat):AV->List Ob->Prop:=fun r o=>∃v:Int,r=.cz [.v (.int .i64 v),.v (.bool x.isSome)]/\∀c,x=some c->v=(c:Int)
theorem uZ.ne(x:Option Nat):∃r o,uZ x r o:=by
 cases x with
 |none=>exact⟨_,[],0,rfl,fun c h=>by cases h⟩
 |some c=>exact⟨_,[],(c:Int),rfl,fun c' h=>by cases h;rfl⟩
theorem zU(l:List (List UInt8))(a:AV)(ha:gh a l)(s:List UInt8)(hl:l.length<1000000):aI Try.prog 35 [a,.v (.string (mk s))] [] (sc (.vec 0) [.vec 1 (eK (l++[s]))]):=by
 refine yy _ _ ha.1 ?_
 simp only[xy,↓zq,zs,aA,ha.2,sc,List.nil_append]
 have:(eK l).length=l.length:=by simp[eK]
 refine⟨⟨ha.1,mL l,by omega⟩,⟨fun c hc=>(by simp at hc;rw[hc];rfl),by omega⟩,?_⟩
 first|exact⟨rfl,by rw[w4]⟩|rw[w4]
end Go.Proofs.Trees
namespace Go.Proofs.Trees
open Go Go.VL Go.RowKit
def iI:Nat->Nat
 |0=>2
 |d+1=>2*iI d+15
def iY:Nat->Nat
 |0=>3
 |d+1=>2*iY d+8
theorem z6(d:Nat):2<=iI d:=by cases d<;>simp only[iI]<;>omega
theorem ye(d:Nat):3<=iY d:=by cases d<;>simp only[iY]<;>omega
theorem ug:∀d:Nat,d<=10->iI d<=100000000
 |0,_=>by decide
 |1,_=>by decide
 |2,_=>by decide
 |3,_=>by decide
 |4,_=>by decide
 |5,_=>by decide
 |6,_=>by decide
 |7,_=>by decide
 |8,_=>by decide
 |9,_=>by decide
 |10,_=>by decide
 |d+11,h=>by omega
theorem xV(b:AV)(l:List UInt8)(hb:pX b l)(p:Nat)(hp:p<2*ka):aI Try.prog 29 [.ref 0 0] [.cells [b,.v (.int .i64 (p:Int))]] (dx b p 1 (ej 60)):=by
 refine za _ _ hb.has ?_
 unfold vu
 refine aQ (rh b l hb p hp _ _ (.of [_,_,_,_,_,_,_]) (by simp) (by simp)) (dx.ne ⟨_,ae,rfl⟩) ?_
 rintro r o ⟨q,h1,h2,hr,rfl⟩
 obtain⟨s,rfl,hs⟩:=fL.rQ (n:=60) (by decide) hr
 simp only[↓zq,zs,aA,aZ,hb.has]
 exact⟨q,h1,h2,⟨s,rfl,hs⟩,rfl⟩
theorem wz(b:AV)(l:List UInt8)(hb:pX b l):∀(d:Nat),d<=10->∀(p:Nat) (ls:List (List UInt8)) (a:AV),gh a ls->(∀s,s∈ls->s.length<=2)->ls.length+d<=100->p+iY d<2*ka ->
 aI Try.prog 30 [.ref 0 0,a,.v (.int .i64 (d:Int))] [.cells [b,.v (.int .i64 (p:Int))]] (dx b p (iY d) (ej (iI d))):=by
 intro d
 induction d with
 |
  zero =>
  intro hd p ls a ha hls hll hp
  simp only[iY]at hp
  refine u0 _ _ _ _ ha.1 hb.has ?_
  simp only[uD,↓zq,zs,aA,ha.len]
  refine⟨fun _=>⟨ha.1,fun hpos=>?_,fun _=>?_⟩,fun h=>by omega⟩
  ·refine aQ (pV b l hb p 3 (by omega) (by decide)) (dx.ne ⟨0,rfl,fun h=>by omega,by omega⟩) ?_
   rintro r o ⟨q1,h1,h2,⟨k,rfl,h3,h4⟩,rfl⟩
   simp only[↓zq,zs,aA,aZ,hb.has]
   refine⟨fun _=>⟨ha.1,?_⟩,fun _=>?_⟩
   ·refine aQ (pV b l hb q1 ls.length (by omega) (by simp[ka];omega)) (dx.ne ⟨0,rfl,fun h=>by omega,by omega⟩) ?_
    rintro r o ⟨q2,g1,g2,⟨k2,rfl,g3,g4⟩,rfl⟩
    have hk:=g3 (by omega)
    simp only[↓zq,zs,aA,aZ,hb.has,aM,ha.idx hk]
    have:dx b p (iY 0) (ej (iI 0)) (.v (.string (mk (ls.getD k2 [])))) [.cells [b,.v (.int .i64 (q2:Int))]]:=⟨q2,by omega,by simp only[iY];omega,⟨_,rfl,by
     have:=hls (ls.getD k2 []) (by simp[aa,hk]);simp only[iI];omega⟩,rfl⟩
    refine⟨⟨ha.1,by omega⟩,?_⟩
    repeat (first|exact this|refine⟨by omega,?_⟩)
   ·refine aQ (rh b l hb q1 (by omega) _ _ (.of [_,_,_,_,_,_]) (by simp) (by simp)) (dx.ne ⟨_,ae,rfl⟩) ?_
    rintro r o ⟨q2,g1,g2,hr,rfl⟩
    obtain⟨s,rfl,hs⟩:=fL.rQ (n:=2) (by decide) hr
    simp only[↓zq,zs,aA,aZ,hb.has]
    exact⟨q2,by omega,by simp only[iY];omega,⟨s,rfl,by simp only[iI];omega⟩,rfl⟩
  ·refine aQ (rh b l hb p (by omega) _ _ (.of [_,_,_,_,_,_]) (by simp) (by simp)) (dx.ne ⟨_,ae,rfl⟩) ?_
   rintro r o ⟨q2,g1,g2,hr,rfl⟩
   obtain⟨s,rfl,hs⟩:=fL.rQ (n:=2) (by decide) hr
   simp only[↓zq,zs,aA,aZ,hb.has]
   exact⟨q2,by omega,by simp only[iY];omega,⟨s,rfl,by simp only[iI];omega⟩,rfl⟩
 |
  succ d ih =>
  intro hd p ls a ha hls hll hp
  simp only[iY]at hp
  have hL:=z6 d
  have hC:=ye d
  have ih:=ih (by omega)
  have hL8:=ug d (by omega)
  have ed:IntKind.wrap .i64 (((d+1:Nat):Int)-1)=(d:Int):=by rw[VL.wrap64]<;>omega
  refine u0 _ _ _ _ ha.1 hb.has ?_
  simp only[uD,↓zq,zs,aA,ha.len,ed]
  refine⟨fun h=>by omega,fun _=>?_⟩
  refine aQ (pV b l hb p 4 (by omega) (by decide)) (dx.ne ⟨0,rfl,fun h=>by omega,by omega⟩) ?_
  rintro r o ⟨q0,a1,a2,⟨k0,rfl,_,_⟩,rfl⟩
  simp only[↓zq,zs,aA,aZ,hb.has]
  refine⟨fun _=>⟨ha.1,fun hpos=>?_,fun _=>?_⟩,fun _=>?_⟩
  ·refine aQ (pV b l hb q0 3 (by omega) (by decide)) (dx.ne ⟨0,rfl,fun h=>by omega,by omega⟩) ?_
   rintro r o ⟨q1,h1,h2,⟨k,rfl,h3,h4⟩,rfl⟩
   simp only[↓zq,zs,aA,aZ,hb.has]
   refine⟨fun _=>⟨ha.1,?_⟩,fun _=>?_⟩
   ·refine aQ (pV b l hb q1 ls.length (by omega) (by simp[ka];omega)) (dx.ne ⟨0,rfl,fun h=>by omega,by omega⟩) ?_
    rintro r o ⟨q2,g1,g2,⟨k2,rfl,g3,g4⟩,rfl⟩
    have hk:=g3 (by omega)
    simp only[↓zq,zs,aA,aZ,hb.has,aM,ha.idx hk]
    have:dx b p (iY (d+1)) (ej (iI (d+1))) (.v (.string (mk (ls.getD k2 [])))) [.cells [b,.v (.int .i64 (q2:Int))]]:=⟨q2,by omega,by simp only[iY];omega,⟨_,rfl,by
     have:=hls (ls.getD k2 []) (by simp[aa,hk]);simp only[iI];omega⟩,rfl⟩
    refine⟨⟨ha.1,by omega⟩,?_⟩
    repeat (first|exact this|refine⟨by omega,?_⟩)
   ·refine aQ (rh b l hb q1 (by omega) _ _ (.of [_,_,_,_,_,_]) (by simp) (by simp)) (dx.ne ⟨_,ae,rfl⟩) ?_
    rintro r o ⟨q2,g1,g2,hr,rfl⟩
    obtain⟨s,rfl,hs⟩:=fL.rQ (n:=2) (by decide) hr
    simp only[↓zq,zs,aA,aZ,hb.has]
    exact⟨q2,by omega,by simp only[iY];omega,⟨s,rfl,by simp only[iI];omega⟩,rfl⟩
  ·refine aQ (rh b l hb q0 (by omega) _ _ (.of [_,_,_,_,_,_]) (by simp) (by simp)) (dx.ne ⟨_,ae,rfl⟩) ?_
   rintro r o ⟨q2,g1,g2,hr,rfl⟩
   obtain⟨s,rfl,hs⟩:=fL.rQ (n:=2) (by decide) hr
   simp only[↓zq,zs,aA,aZ,hb.has]
   exact⟨q2,by omega,by simp only[iY];omega,⟨s,rfl,by simp only[iI];omega⟩,rfl⟩
  ·refine aQ (pV b l hb q0 5 (by omega) (by decide)) (dx.ne ⟨0,rfl,fun h=>by omega,by omega⟩) ?_
   rintro r o ⟨q1,b1,b2,⟨k1,rfl,c3,_⟩,rfl⟩
   have hk1:=c3 (by omega)
   obtain rfl|rfl|rfl|rfl|rfl:k1=0\/k1=1\/k1=2\/k1=3\/k1=4:=by omega
   ·simp only[↓zq,zs,aA,aZ,hb.has]
    refine⟨fun _=>?_,fun h=>absurd rfl h⟩
    refine aQ (ih q1 ls a ha hls (by omega) (by omega)) (dx.ne ⟨[],rfl,by simp⟩) ?_
    rintro r o ⟨q2,d1,d2,⟨s1,rfl,d3⟩,rfl⟩
    simp only[↓zq,zs,aA,zt,aZ,hb.has,ax]
    repeat refine⟨by first|omega|(simp only[ax,aB,aL];omega),?_⟩
    refine aQ (ih q2 ls a ha hls (by omega) (by omega)) (dx.ne ⟨[],rfl,by simp⟩) ?_
    rintro r o ⟨q3,e1,e2,⟨s2,rfl,e3⟩,rfl⟩
    simp only[↓zq,zs,aA,zt,aZ,hb.has,ax]
    have fin:∀s:List UInt8,s.length<=iI (d+1)->dx b p (iY (d+1)) (ej (iI (d+1))) (.v (.string (mk s))) [.cells [b,.v (.int .i64 (q3:Int))]]:=fun s hs=>⟨q3,by omega,by simp only[iY];omega,⟨s,rfl,hs⟩,rfl⟩
    repeat (first|exact fin _ (by simp only[ax,aB,aL,iI];omega)|refine⟨by first|omega|(simp only[ax,aB,aL];omega),?_⟩)
   ·simp only[↓zq,zs,aA,aZ,hb.has]
    refine⟨fun h=>by omega,fun _=>⟨fun _=>?_,fun h=>absurd rfl h⟩⟩
    refine aQ (ih q1 ls a ha hls (by omega) (by omega)) (dx.ne ⟨[],rfl,by simp⟩) ?_
    rintro r o ⟨q2,d1,d2,⟨s1,rfl,d3⟩,rfl⟩
    simp only[↓zq,zs,aA,zt,aZ,hb.has,ax]
    repeat refine⟨by first|omega|(simp only[ax,aB,aL];omega),?_⟩
    refine aQ (ih q2 ls a ha hls (by omega) (by omega)) (dx.ne ⟨[],rfl,by simp⟩) ?_
    rintro r o ⟨q3,e1,e2,⟨s2,rfl,e3⟩,rfl⟩
    simp only[↓zq,zs,aA,zt,aZ,hb.has,ax]
    have fin:∀s:List UInt8,s.length<=iI (d+1)->dx b p (iY (d+1)) (ej (iI (d+1))) (.v (.string (mk s))) [.cells [b,.v (.int .i64 (q3:Int))]]:=fun s hs=>⟨q3,by omega,by simp only[iY];omega,⟨s,rfl,hs⟩,rfl⟩
    repeat (first|exact fin _ (by simp only[ax,aB,aL,iI];omega)|refine⟨by first|omega|(simp only[ax,aB,aL];omega),?_⟩)
   ·simp only[↓zq,zs,aA,aZ,hb.has]
    refine⟨fun h=>by omega,fun _=>⟨fun h=>by omega,fun _=>⟨fun _=>?_,fun h=>absurd rfl h⟩⟩⟩
    refine aQ (ih q1 ls a ha hls (by omega) (by omega)) (dx.ne ⟨[],rfl,by simp⟩) ?_
    rintro r o ⟨q2,d1,d2,⟨s1,rfl,d3⟩,rfl⟩
    simp only[↓zq,zs,aA,zt,aZ,hb.has,ax]
    repeat refine⟨by first|omega|(simp only[ax,aB,aL];omega),?_⟩
    refine aQ (ih q2 ls a ha hls (by omega) (by omega)) (dx.ne ⟨[],rfl,by simp⟩) ?_
    rintro r o ⟨q3,e1,e2,⟨s2,rfl,e3⟩,rfl⟩
    simp only[↓zq,zs,aA,zt,aZ,hb.has,ax]
    have fin:∀s:List UInt8,s.length<=iI (d+1)->dx b p (iY (d+1)) (ej (iI (d+1))) (.v (.string (mk s))) [.cells [b,.v (.int .i64 (q3:Int))]]:=fun s hs=>⟨q3,by omega,by simp only[iY];omega,⟨s,rfl,hs⟩,rfl⟩
    repeat (first|exact fin _ (by simp only[ax,aB,aL,iI];omega)|refine⟨by first|omega|(simp only[ax,aB,aL];omega),?_⟩)
   ·simp only[↓zq,zs,aA,aZ,hb.has]
    refine⟨fun h=>by omega,fun _=>⟨fun h=>by omega,fun _=>⟨fun h=>by omega,fun _=>⟨fun _=>?_,fun h=>absurd rfl h⟩⟩⟩⟩
    refine aQ (ih q1 ls a ha hls (by omega) (by omega)) (dx.ne ⟨[],rfl,by simp⟩) ?_
    rintro r o ⟨q2,d1,d2,⟨s1,rfl,d3⟩,rfl⟩
    simp only[↓zq,zs,aA,zt,aZ,hb.has,ax]
    repeat refine⟨by first|omega|(simp only[ax,aB,aL];omega),?_⟩
    refine aQ (ih q2 ls a ha hls (by omega) (by omega)) (dx.ne ⟨[],rfl,by simp⟩) ?_
    rintro r o ⟨q3,e1,e2,⟨s2,rfl,e3⟩,rfl⟩
    simp only[↓zq,zs,aA,zt,aZ,hb.has,ax]
    have fin:∀s:List UInt8,s.length<=iI (d+1)->dx b p (iY (d+1)) (ej (iI (d+1))) (.v (.string (mk s))) [.cells [b,.v (.int .i64 (q3:Int))]]:=fun s hs=>⟨q3,by omega,by simp only[iY];omega,⟨s,rfl,hs⟩,rfl⟩
    repeat (first|exact fin _ (by simp only[ax,aB,aL,iI];omega)|refine⟨by first|omega|(simp only[ax,aB,aL];omega),?_⟩)
   ·simp only[↓zq,zs,aA,aZ,hb.has]
    refine⟨fun h=>by omega,fun _=>⟨fun h=>by omega,fun _=>⟨fun h=>by omega,fun _=>⟨fun h=>by omega,fun _=>?_⟩⟩⟩⟩
    refine aQ (rh b l hb q1 (by omega) _ _ (.of [_,_,_]) (by simp) (by simp)) (dx.ne ⟨_,ae,rfl⟩) ?_
    rintro r o ⟨q2,g1,g2,hr,rfl⟩
    obtain⟨s,rfl,hs⟩:=fL.rQ (n:=2) (by decide) hr
    simp only[↓zq,zs,aA,zt,aZ,hb.has]
    repeat refine⟨by first|omega|(simp only[ax,aB,aL];omega),?_⟩
    refine rT (zU ls a ha s (by omega)) ?_
    simp only[↓zq,zs,aA,Ob.es,aV]
    refine⟨nE _,?_⟩
    refine aQ (ih q2 (ls++[s]) _ (.of _) (fun w hw=>by
     rcases a8.1 hw with hw|hw
     ·exact hls w hw
     ·simp at hw;rw[hw];exact hs) (by simp;omega) (by omega)) (dx.ne ⟨[],rfl,by simp⟩) ?_
    rintro r o ⟨q3,e1,e2,⟨s2,rfl,e3⟩,rfl⟩
    simp only[↓zq,zs,aA,zt,aZ,hb.has,ax]
    have fin:∀s:List UInt8,s.length<=iI (d+1)->dx b p (iY (d+1)) (ej (iI (d+1))) (.v (.string (mk s))) [.cells [b,.v (.int .i64 (q3:Int))]]:=fun s hs=>⟨q3,by omega,by simp only[iY];omega,⟨s,rfl,hs⟩,rfl⟩
    repeat (first|exact fin _ (by simp only[ax,aB,aL,iI];omega)|refine⟨by first|omega|(simp only[ax,aB,aL];omega),?_⟩)
end Go.Proofs.Trees
namespace Go.Proofs.Trees
open Go Go.VL Go.RowKit
theorem dx.mono{b:AV}{p c c':Nat}{X Y:AV->Prop}(hc:c<=c')(h:∀r,X r->Y r){r:AV}{o:List Ob}(hr:dx b p c X r o):dx b p c' Y r o:=by
 obtain⟨q,h1,h2,h3,h4⟩:=hr;exact⟨q,h1,by omega,h r h3,h4⟩
theorem ej.le{n m:Nat}(h:n<=m){r:AV}(hr:ej n r):ej m r:=by obtain⟨s,h1,h2⟩:=hr;exact⟨s,h1,by omega⟩
theorem yb(b:AV)(l:List UInt8)(hb:pX b l)(p:Nat)(hp:p<ka):aI Try.prog 21 [.ref 0 0] [.cells [b,.v (.int .i64 (p:Int))]] (dx b p 100 (ej 200)):=by
 refine zm _ _ hb.has ?_
 unfold vQ
 have hfar:ka=1000000000000000:=rfl
 refine aQ (pV b l hb p 12 (by omega) (by decide)) (dx.ne ⟨0,rfl,fun h=>by omega,by omega⟩) ?_
 rintro r o ⟨q,h1,h2,⟨k,rfl,_,_⟩,rfl⟩
 have kn:∀(c m:Nat) (r:AV) (o:List Ob),c<=90->m<=200->dx b q c (ej m) r o->∃q':Nat,∃s:List UInt8,r=.v (.string (mk s))/\o=[.cells [b,.v (.int .i64 (q':Int))]]/\dx b p 100 (ej 200) (.v (.string (mk s))) [.cells [b,.v (.int .i64 (q':Int))]]:=by
  rintro c m r o hc hm ⟨q',g1,g2,⟨s,rfl,hs⟩,rfl⟩
  exact⟨q',s,rfl,rfl,q',by omega,by omega,⟨s,rfl,by omega⟩,rfl⟩
 simp only[↓zq,zs,aA,aZ,hb.has]
 refine⟨fun _=>?_,fun _=>⟨fun _=>?_,fun _=>⟨fun _=>?_,fun _=>⟨fun _=>?_,fun _=>⟨fun _=>?_,fun _=>?_⟩⟩⟩⟩⟩
 ·refine aQ (rh b l hb q (by omega) _ _ (.of [_,_,_,_,_,_,_,_,_]) (by simp) (by simp)) (dx.ne ⟨_,ae,rfl⟩) ?_
  intro r o hr
  obtain⟨q',s,rfl,rfl,hd⟩:=kn 1 20 r o (by omega) (by omega) (hr.mono (aF _) fun r h=>fL.rQ (n:=20) (by decide) h)
  simp only[↓zq,zs,aA,aZ,hb.has];exact hd
 ·refine aQ (xV b l hb q (by omega)) (dx.ne ⟨[],rfl,by simp⟩) ?_
  intro r o hr
  obtain⟨q',s,rfl,rfl,hd⟩:=kn _ _ r o (by omega) (by omega) hr
  simp only[↓zq,zs,aA,aZ,hb.has];exact hd
 ·refine aQ (xV b l hb q (by omega)) (dx.ne ⟨[],rfl,by simp⟩) ?_
  intro r o hr
  obtain⟨q',s,rfl,rfl,hd⟩:=kn _ _ r o (by omega) (by omega) hr
  simp only[↓zq,zs,aA,aZ,hb.has];exact hd
 ·refine aQ (xV b l hb q (by omega)) (dx.ne ⟨[],rfl,by simp⟩) ?_
  intro r o hr
  obtain⟨q',s,rfl,rfl,hd⟩:=kn _ _ r o (by omega) (by omega) hr
  simp only[↓zq,zs,aA,aZ,hb.has];exact hd
 ·refine aQ (wz b l hb 2 (by omega) q [[116],[116,49]] _ (gh.of [[116],[116,49]]) (by decide) (by simp) (by simp[iY];omega)) (dx.ne ⟨[],rfl,by simp⟩) ?_
  intro r o hr
  obtain⟨q',s,rfl,rfl,hd⟩:=kn _ _ r o (by simp[iY]) (by simp[iI]) hr
  simp only[↓zq,zs,aA,aZ,hb.has];exact hd
 ·refine aQ (wz b l hb 3 (by omega) q [] _ (gh.of []) (by simp) (by simp) (by simp[iY];omega)) (dx.ne ⟨[],rfl,by simp⟩) ?_
  intro r o hr
  obtain⟨q',s,rfl,rfl,hd⟩:=kn _ _ r o (by simp[iY]) (by simp[iI]) hr
  simp only[↓zq,zs,aA,aZ,hb.has];exact hd
def qn:Nat->Nat
 |0=>200
 |d+1=>2*qn d+10
def oG:Nat->Nat
 |0=>102
 |d+1=>2*oG d+110
theorem yk(d:Nat):200<=qn d:=by induction d<;>simp only[qn]<;>omega
theorem zz(d:Nat):102<=oG d:=by induction d<;>simp only[oG]<;>omega
theorem uo:∀d:Nat,d<=5->qn d<=100000/\oG d<=100000
 |0,_=>by decide
 |1,_=>by decide
 |2,_=>by decide
 |3,_=>by decide
 |4,_=>by decide
 |5,_=>by decide
 |d+6,h=>by omega
theorem zG(b:AV)(l:List UInt8)(hb:pX b l):∀(d:Nat),d<=5->∀(p:Nat),p+oG d<ka ->
 aI Try.prog 15 [.ref 0 0,.v (.int .i64 (d:Int))] [.cells [b,.v (.int .i64 (p:Int))]] (dx b p (oG d) (ej (qn d))):=by
 intro d
 have hfar:ka=1000000000000000:=rfl
 have one:∀(p:Nat) (L C:Nat) (q:Nat),2<=L->p<=q->q+1<=p+C->∀(r:AV) (o:List Ob) (ls:List (List UInt8)),(∀s,s∈ls->s.length<=2)->dx b q 1 (fL ls) r o->∃q':Nat,∃s:List UInt8,r=.v (.string (mk s))/\o=[.cells [b,.v (.int .i64 (q':Int))]]/\dx b p C (ej L) (.v (.string (mk s))) [.cells [b,.v (.int .i64 (q':Int))]]:=by
  rintro p L C q hL hpq hC r o ls hls ⟨q',g1,g2,hr,rfl⟩
  obtain⟨s,rfl,hs⟩:=fL.rQ hls hr
  exact⟨q',s,rfl,rfl,q',by omega,by omega,⟨s,rfl,by omega⟩,rfl⟩
 induction d with
 |
  zero =>
  intro hd p hp
  simp only[oG]at hp
  refine xt _ _ _ hb.has ?_
  simp only[tu,↓zq,zs,aA]
  refine⟨fun _=>?_,fun h=>by omega⟩
  refine aQ (rh b l hb p (by omega) _ _ (.of [_,_,_,_,_,_,_]) (by simp) (by simp)) (dx.ne ⟨_,ae,rfl⟩) ?_
  intro r o hr
  obtain⟨q',s,rfl,rfl,hd⟩:=one p (qn 0) (oG 0) p (by decide) (by omega) (by simp[oG]) r o _ (by decide) hr
  simp only[↓zq,zs,aA,aZ,hb.has];exact hd
 |
  succ d ih =>
  intro hd p hp
  have hL:=yk d
  have hC:=zz d
  obtain⟨hL8,hC8⟩:=uo d (by omega)
  have eL:qn (d+1)=2*qn d+10:=rfl
  have eC:oG (d+1)=2*oG d+110:=rfl
  have ih:=ih (by omega)
  have ed:IntKind.wrap .i64 (((d+1:Nat):Int)-1)=(d:Int):=by rw[VL.wrap64]<;>omega
  refine xt _ _ _ hb.has ?_
  simp only[tu,↓zq,zs,aA,ed]
  refine⟨fun h=>by omega,fun _=>?_⟩
  refine aQ (pV b l hb p 4 (by omega) (by decide)) (dx.ne ⟨0,rfl,fun h=>by omega,by omega⟩) ?_
  rintro r o ⟨q0,a1,a2,⟨k0,rfl,_,_⟩,rfl⟩
  simp only[↓zq,zs,aA,aZ,hb.has]
  refine⟨fun _=>?_,fun _=>?_⟩
  ·refine aQ (rh b l hb q0 (by omega) _ _ (.of [_,_,_,_,_,_,_]) (by simp) (by simp)) (dx.ne ⟨_,ae,rfl⟩) ?_
   intro r o hr
   obtain⟨q',s,rfl,rfl,hd⟩:=one p (qn (d+1)) (oG (d+1)) q0 (by omega) (by omega) (by omega) r o _ (by decide) hr
   simp only[↓zq,zs,aA,aZ,hb.has];exact hd
  ·refine aQ (pV b l hb q0 24 (by omega) (by decide)) (dx.ne ⟨0,rfl,fun h=>by omega,by omega⟩) ?_
   rintro r o ⟨q1,b1,b2,⟨k1,rfl,_,_⟩,rfl⟩
   simp only[↓zq,zs,aA,aZ,hb.has]
   refine⟨fun _=>?_,fun _=>?_⟩
   ·refine aQ (yb b l hb q1 (by omega)) (dx.ne ⟨[],rfl,by simp⟩) ?_
    rintro r o ⟨q2,d1,d2,⟨s1,rfl,d3⟩,rfl⟩
    simp only[↓zq,zs,aA,aZ,hb.has]
    exact⟨q2,by omega,by omega,⟨s1,rfl,by omega⟩,rfl⟩
   ·refine aQ (rh b l hb q1 (by omega) _ _ (.of [_,_]) (by simp) (by simp)) (dx.ne ⟨_,ae,rfl⟩) ?_
    rintro r o ⟨q2,d1,d2,hr,rfl⟩
    obtain⟨s,rfl,hs⟩:=fL.rQ (n:=3) (by decide) hr
    simp only[↓zq,zs,aA,aZ,hb.has]
    refine aQ (ih q2 (by omega)) (dx.ne ⟨[],rfl,by simp⟩) ?_
    rintro r o ⟨q3,e1,e2,⟨s1,rfl,e3⟩,rfl⟩
    simp only[↓zq,zs,aA,zt,aZ,hb.has]
    repeat refine⟨by first|omega|(simp only[ax,aB,aL];omega),?_⟩
    refine aQ (ih q3 (by omega)) (dx.ne ⟨[],rfl,by simp⟩) ?_
    rintro r o ⟨q4,f1,f2,⟨s2,rfl,f3⟩,rfl⟩
    simp only[↓zq,zs,aA,zt,aZ,hb.has]
    have fin:∀s:List UInt8,s.length<=qn (d+1)->dx b p (oG (d+1)) (ej (qn (d+1))) (.v (.string (mk s))) [.cells [b,.v (.int .i64 (q4:Int))]]:=fun s hs=>⟨q4,by omega,by omega,⟨s,rfl,hs⟩,rfl⟩
    repeat (first|exact fin _ (by simp only[ax,aB,aL];omega)|refine⟨by first|omega|(simp only[ax,aB,aL];omega),?_⟩)
def n9(a:AV):Prop:=LK.sl.has a/\∃l:List UInt8,a.elems=jO l
def xL(r:AV)(o:List Ob):Prop:=∃(b:AV) (l:List UInt8),pX b l/\r=.ref 0 0/\o=[.cells [b,.v (.int .i64 0)]]
theorem xL.ne:∃r o,xL r o:=⟨_,_,.v (.slice none 0 0),[],⟨(bx).mpr trivial,rfl,by simp⟩,rfl,rfl⟩
theorem yn(a:AV)(ha:n9 a):aI Try.prog 7 [a] [] xL:=by
 obtain⟨hs,l,hl⟩:=ha
 have hln:a.elems.length=l.length:=by rw[hl];simp[jO]
 refine yA _ hs ?_
 simp only[wk,↓zq,zs,aA,hln]
 refine⟨hs,fun h=>⟨⟨hs,by omega⟩,?_⟩,fun h=>?_⟩
 ·refine⟨_,l.take 2000,⟨(dm _).mpr trivial,?_,?_⟩,rfl,rfl⟩
  ·rw[mH,hl];simp[jO]
  ·simp;omega
 ·exact⟨a,l,⟨hs,hl,by omega⟩,rfl,rfl⟩
end Go.Proofs.Trees
namespace Go.Proofs.Trees
open Go Go.VL Go.RowKit
def nP(n:Nat):AV->List Ob->Prop:=fun r o=>∃l:List T4,l.length<=n/\r=.vec 0/\o=[.vec 4 (l.map T4.cells)]
theorem nP.ne(n:Nat):∃r o,nP n r o:=⟨_,_,[],by simp,rfl,rfl⟩
theorem eQ(l:List T4):bO 4 (l.map T4.cells):=fun c hc=>by
 obtain⟨t,_,rfl⟩:=bf.1 hc;rfl
theorem dQ(l:List T4):∀x,x∈[Ob.vec 4 (l.map T4.cells)]->dF x:=by
 intro x hx
 simp only[cy]at hx
 subst hx
 intro e he c hc
 obtain⟨t,_,rfl⟩:=bf.1 he
 simp only[T4.cells,az,List.not_mem_nil,or_false]at hc
 rcases hc with rfl|rfl|rfl|rfl<;>exact⟨_,rfl⟩
def zo(l:List T4)(t:T4):Nat->List AV->List Ob->Prop:=fun tag ys o=>tag=1/\∃j:Nat,j<=l.length/\ys=[.sl (l.map T4.cells),.v (.int .i64 (j:Int))]/\o=[.cells t.cells]
theorem v7(l:List T4)(hl:l.length<=5000)(t:T4):∀(k i:Nat),i+k=l.length->tx [.sl (l.map T4.cells),.v (.int .i64 (i:Int))] [.cells t.cells] (zo l t)
 |
  0,i,hi=>by
  refine vT _ _ _ _ _ _ ?_
  simp only[zi,↓zq,zs,aA,zt,aA,aN]
  exact⟨fun h=>by omega,fun _=>⟨rfl,i,by omega,rfl,rfl⟩⟩
 |
  k+1,i,hi=>by
  have hlt:i<l.length:=by omega
  refine vT _ _ _ _ _ _ ?_
  simp only[zi,↓zq,zs,aA,zt,aA,aN,fP l hlt,aM,cO,cR,ei,er,ey,ef]
  refine⟨fun _=>?_,fun h=>by omega⟩
  repeat refine⟨by omega,?_⟩
  refine bg (ta (l.getD i t0) t) ?_
  simp only[↓zq,zs,aA,zt]
  rw[bq i (by omega)]
  refine⟨fun _=>v7 l hl t k (i+1) (by omega),fun _=>⟨rfl,i,by omega,rfl,rfl⟩⟩
theorem xl(l:List T4)(hl:l.length<=5000)(t:T4):aI Try.prog 27 [.sl (l.map T4.cells),t.av] [] (nP (l.length+1)):=by
 refine zO _ _ _ _ _ ((dm _).mpr trivial) ?_
 unfold vE
 refine gj (v7 l hl t l.length 0 (by omega)) (fun ys o e=>?_) (fun ys o e=>?_)
 ·obtain⟨_,j,hj,rfl,rfl⟩:=e
  have fin:∀X,X=(l.take j++t::l.drop j).map T4.cells->nP (l.length+1) (.vec 0) [.vec 4 X]:=fun X h=>⟨l.take j++t::l.drop j,by simp;omega,rfl,by rw[h]⟩
  have sho:[]++List.take j (dp T4.cells l)++[[.v (.int .i64 t.c),.v (.int .i64 t.x),.v (.int .i64 t.y),.v (.int .i64 t.z)]]++List.drop j (List.take l.length (dp T4.cells l))=(l.take j++t::l.drop j).map T4.cells:=by
   rw[List.take_of_length_le (l:=dp T4.cells l) (i:=l.length) (by simp)]
   simp[List.map_take,List.map_drop,T4.cells]
  have a1:bO 4 (List.take j (dp T4.cells l)):=fun c hc=>eQ l c (List.mem_of_mem_take hc)
  have a2:bO 4 [[.v (.int .i64 t.c),.v (.int .i64 t.x),.v (.int .i64 t.y),.v (.int .i64 t.z)]]:=fun c hc=>by simp at hc;rw[hc];rfl
  have a3:bO 4 (List.drop j (List.take l.length (dp T4.cells l))):=fun c hc=>eQ l c (List.mem_of_mem_take (List.mem_of_mem_drop hc))
  have setc:j<l.length->∀n:Int,nP (l.length+1) (.vec 0) [.vec 4 (([]++dp T4.cells l).set j ((((((([]++dp T4.cells l).getD j []).set 0 (.v (.int .i64 n))).set 1 (.v (.int .i64 t.x))).set 2 (.v (.int .i64 t.y))).set 3 (.v (.int .i64 t.z)))))]:=fun hlt n=>by
   have hg:([]++dp T4.cells l).getD j []=(l.getD j t0).cells:=by rw[List.nil_append,fP l hlt]
   refine⟨l.set j ⟨n,t.x,t.y,t.z⟩,by simp,rfl,?_⟩
   rw[hg,List.nil_append,List.map_set]
   rfl
  simp only[↓zq,zs,aA,zt,aA,aN,T4.cells]
  refine⟨fun hlt=>?_,fun _=>?_⟩
  ·have hlt:j<l.length:=by omega
   simp only[fP l hlt,cO,cR,ei,er,ey,ef]
   refine⟨⟨by omega,by omega,trivial⟩,⟨trivial,by omega⟩,?_⟩
   refine bg (ta t (l.getD j t0)) ?_
   simp only[↓zq,zs,aA,zt]
   refine⟨fun _=>?_,fun _=>?_⟩
   ·refine⟨⟨eQ l,by omega⟩,⟨by omega,by omega⟩,⟨⟨_,rfl⟩,by omega⟩,⟨by omega,by simp;omega⟩,⟨by simp;omega,by omega⟩,?_⟩
    exact setc hlt _
   ·exact⟨by omega,⟨a1,by simp;omega⟩,⟨a2,by simp;omega⟩,⟨eQ l,by omega⟩,⟨a3,by simp;omega⟩,fin _ sho⟩
  ·exact⟨by omega,⟨a1,by simp;omega⟩,⟨a2,by simp;omega⟩,⟨eQ l,by omega⟩,⟨a3,by simp;omega⟩,fin _ sho⟩
 ·exact absurd e.1 (by decide)
def zM(l:List T4):Nat->List AV->List Ob->Prop:=fun tag ys o=>(tag=1/\ys=[.sl (l.map T4.cells)]/\o=[])\/(tag=2/\ys=[.v (.bool false)]/\o=[])
theorem wg(l:List T4)(hl:l.length<=5000):∀(k i:Nat),i+k=l.length->uq [.sl (l.map T4.cells),.v (.int .i64 (i:Int))] [] (zM l)
 |
  0,i,hi=>by
  refine wo _ _ ?_
  simp only[uI,↓zq,zs,aA,zt,aA,aN]
  exact⟨fun h=>by omega,fun _=>.inl ⟨rfl,rfl,rfl⟩⟩
 |
  k+1,i,hi=>by
  have hlt:i<l.length:=by omega
  refine wo _ _ ?_
  simp only[uI,↓zq,zs,aA,zt,aA,aN,fP l hlt,aM,cO,cR,ei,er,ey,ef]
  rw[bq i (by omega)]
  refine⟨fun _=>⟨⟨by omega,by omega⟩,⟨⟨_,rfl⟩,by omega⟩,fun _=>.inr ⟨rfl,rfl,rfl⟩,fun _=>wg l hl k (i+1) (by omega)⟩,fun h=>by omega⟩
def rn(l:List T4):AV->List Ob->Prop:=fun r o=>o=[]/\∃b:Bool,(b=true->l.length<=60)/\r=.v (.bool b)
theorem rn.ne(l:List T4):∃r o,rn l r o:=⟨_,_,rfl,false,fun h=>(by cases h),rfl⟩
theorem zY(l:List T4)(hl:l.length<=5000):aI Try.prog 28 [.sl (l.map T4.cells)] [] (rn l):=by
 refine zb _ ((dm _).mpr trivial) ?_
 unfold vc
 refine gj (wg l hl l.length 0 (by omega)) (fun ys o e=>?_) (fun ys o e=>?_)
 ·rcases e with⟨_,rfl,rfl⟩|⟨h,_⟩
  ·simp only[↓zq,zs,aA,zt,aN]
   exact⟨rfl,_,fun h=>by have:=of_decide_eq_true h;omega,rfl⟩
  ·cases h
 ·rcases e with⟨h,_⟩|⟨_,rfl,rfl⟩
  ·cases h
  ·simp only[↓zq,zs,aA,zt]
   exact⟨rfl,false,fun h=>(by cases h),rfl⟩
end Go.Proofs.Trees
namespace Go.Proofs.Trees
open Go Go.VL Go.RowKit
def mO:AV->List Ob->Prop:=fun r o=>∃(l:List T4) (b:Bool),l.length<=4000/\(b=true->l.length<=60)/\r=.cz [.vec 0,.v (.bool b)]/\o=[.vec 4 (l.map T4.cells)]
theorem mO.ne:∃r o,mO r o:=⟨_,_,[],false,by simp,fun h=>(by cases h),rfl,rfl⟩
def wv(n:Nat):Nat->List AV->List Ob->Prop:=fun tag ys o=>tag=1/\ys=[]/\∃l:List T4,l.length<=n/\o=[.vec 4 (l.map T4.cells)]
theorem uY(lb:List T4)(hlb:lb.length<=4000)(N:Nat)(hN:N<=4000):∀(k i:Nat) (out:List T4),i+k=lb.length->out.length+k<=N->uC [.v (.int .i64 (i:Int))] [.vec 4 (lb.map T4.cells),.vec 4 (out.map T4.cells)] (wv N)
 |
  0,i,out,hi,ho=>by
  refine xi _ _ _ ?_
  simp only[zQ,↓zq,zs,aA,zt,aA,aN]
  exact⟨fun h=>by omega,fun _=>⟨rfl,rfl,out,by omega,rfl⟩⟩
 |
  k+1,i,out,hi,ho=>by
  have hlt:i<lb.length:=by omega
  refine xi _ _ _ ?_
  simp only[zQ,↓zq,zs,aA,zt,aA,aN,fP lb hlt,aM,cO,cR,ei,er,ey,ef]
  rw[bq i (by omega)]
  refine⟨fun _=>?_,fun h=>by omega⟩
  refine⟨by omega,by omega,?_⟩
  refine aQ (xl out (by omega) ⟨_,_,_,_⟩) (nP.ne _) ?_
  rintro r o ⟨l,hl,rfl,rfl⟩
  simp only[↓zq,zs,aA,zt,Ob.es,aV]
  exact⟨dQ l,uY lb hlb N hN k (i+1) l (by omega) (by omega)⟩
def zu(la lb:List T4)(i n:Nat):Nat->List AV->List Ob->Prop:=fun tag ys o=>tag=1/\ys=[.v (.int .i64 (i:Int))]/\∃l:List T4,l.length<=n/\o=[.vec 4 (la.map T4.cells),.vec 4 (lb.map T4.cells),.vec 4 (l.map T4.cells)]
theorem w9(la lb:List T4)(i:Nat)(hla:i<la.length)(hlb:lb.length<=4000)(N:Nat)(hN:N<=4000):∀(k j:Nat) (out:List T4),j+k=lb.length->out.length+k<=N->tA [.v (.int .i64 (i:Int)),.v (.int .i64 (j:Int))] [.vec 4 (la.map T4.cells),.vec 4 (lb.map T4.cells),.vec 4 (out.map T4.cells)] (zu la lb i N)
 |
  0,j,out,hi,ho=>by
  refine wQ _ _ _ _ _ ?_
  simp only[uO,↓zq,zs,aA,zt,aA,aN]
  exact⟨fun h=>by omega,fun _=>⟨rfl,rfl,out,by omega,rfl⟩⟩
 |
  k+1,j,out,hi,ho=>by
  have hlt:j<lb.length:=by omega
  refine wQ _ _ _ _ _ ?_
  simp only[uO,↓zq,zs,aA,zt,aA,aN,fP lb hlt,fP la hla,aM,cO,cR,ei,er,ey,ef]
  rw[bq j (by omega)]
  refine⟨fun _=>?_,fun h=>by omega⟩
  refine⟨by omega,⟨hla,by omega,⟨_,rfl⟩⟩,by omega,⟨hlt,by omega,⟨_,rfl⟩⟩,by omega,⟨hla,by omega,⟨_,rfl⟩⟩,by omega,⟨hlt,by omega,⟨_,rfl⟩⟩,by omega,⟨hla,by omega,⟨_,rfl⟩⟩,by omega,⟨hlt,by omega,⟨_,rfl⟩⟩,by omega,⟨hla,by omega,⟨_,rfl⟩⟩,by omega,⟨hlt,by omega,⟨_,rfl⟩⟩,?_⟩
  refine aQ (xl out (by omega) ⟨_,_,_,_⟩) (nP.ne _) ?_
  rintro r o ⟨l,hl,rfl,rfl⟩
  simp only[↓zq,zs,aA,zt,Ob.es,aV]
  exact⟨dQ l,w9 la lb i hla hlb N hN k (j+1) l (by omega) (by omega)⟩
theorem vm(la lb:List T4)(hla:la.length<=60)(hlb:lb.length<=60):∀(k i:Nat) (out:List T4),i+k=la.length->out.length+k*lb.length<=4000->xZ [.v (.int .i64 (i:Int))] [.vec 4 (la.map T4.cells),.vec 4 (lb.map T4.cells),.vec 4 (out.map T4.cells)] (wv 4000)
 |
  0,i,out,hi,ho=>by
  refine wM _ _ _ _ ?_
  simp only[xY,↓zq,zs,aA,zt,aA,aN]
  exact⟨fun h=>by omega,fun _=>⟨rfl,rfl,out,by omega,rfl⟩⟩
 |
  k+1,i,out,hi,ho=>by
  have hlt:i<la.length:=by omega
  have he:(k+1)*lb.length=k*lb.length+lb.length:=by rw[dn,Nat.one_mul]
  refine wM _ _ _ _ ?_
  simp only[xY,↓zq,zs,aA,zt,aA,aN]
  refine⟨fun _=>?_,fun h=>by omega⟩
  refine gj (w9 la lb i hlt (by omega) (out.length+lb.length) (by omega) lb.length 0 out (by omega) (by omega)) (fun ys o e=>?_) (fun ys o e=>?_)
  ·obtain⟨_,rfl,l,hl,rfl⟩:=e
   simp only[↓zq,zs,aA,zt,aA,Ob.es,aV,bS,cT]
   rw[bq i (by omega)]
   exact vm la lb hla hlb k (i+1) l (by omega) (by omega)
  ·exact absurd e.1 (by decide)
theorem uG:∀(e:E),e.ok->jX e=true->aI Try.prog 19 [e.lK] [] mO
 |
  .atom s,hok,hp=>by
  refine vy _ _ ((bx).mpr trivial) ?_
  simp only[uz,↓zq,zs,aA,zt]
  have one:∀(t:T4),mO (.cz [.vec 0,.v (.bool true)]) [.vec 4 [t.cells]]:=fun t=>⟨[t],true,by simp,by simp,rfl,rfl⟩
  refine⟨fun _=>⟨[],true,by simp,by simp,rfl,rfl⟩,fun h0=>⟨fun _=>one ⟨1,0,0,0⟩,fun h1=>⟨fun _=>one ⟨1,1,0,0⟩,fun h2=>⟨fun _=>one ⟨1,0,1,0⟩,fun h3=>⟨fun _=>one ⟨1,0,0,1⟩,fun h4=>?_⟩⟩⟩⟩⟩
  exfalso
  simp[jX,h0,h1,h2,h3,h4]at hp
 | .list [],_,h=>by cases h
 | .list [_],_,h=>by cases h
 | .list [_,_],_,h=>by cases h
 | .list (_::_::_::_::_),_,h=>by cases h
 |
  .list [x,a,b],hok,hp=>by
  refine vy _ _ ((dm _).mpr trivial) ?_
  obtain⟨ok1,ok2,ok3,_⟩:=hok
  simp only[jX,ag]at hp
  simp only[uz,E.bN,toNat_one,jD,↓zq,zs,aA,zt,l9,kp,mC,oR,aF]
  refine⟨fun h=>(by cases h),fun _=>⟨fun h=>(by cases h),fun _=>⟨fun h=>(by cases h),fun _=>⟨fun h=>(by cases h),fun _=>⟨fun h=>(by cases h),fun _=>?_⟩⟩⟩⟩⟩
  refine⟨by omega,aQ (uG a ok2 hp.2.1) mO.ne ?_⟩
  rintro r o ⟨la,ba,hla,hba,rfl,rfl⟩
  simp only[↓zq,zs,aA,zt,aZ,Ob.es,aV]
  refine⟨dQ la,by omega,aQ (uG b ok3 hp.2.2) mO.ne ?_⟩
  rintro r o ⟨lb,bb,hlb,hbb,rfl,rfl⟩
  simp only[↓zq,zs,aA,zt,aZ,Ob.es,aV]
  refine⟨dQ lb,fun _=>⟨la,false,hla,fun h=>(by cases h),rfl,rfl⟩,fun ha=>⟨fun _=>⟨la,false,hla,fun h=>(by cases h),rfl,rfl⟩,fun hb=>?_⟩⟩
  have ha:=hba ha
  have hb:=hbb hb
  refine bg (ur x [a,b]) ?_
  simp only[↓zq,zs,aA,zt,List.nil_append]
  have tell:∀(l:List T4),l.length<=4000->cK Try.prog 143 (.call 28 [.sl (l.map T4.cells)] [] fun r6 o6=>.aw (LK.has .bool r6)<|.done 0 [.cz [.vec 0,.v (.bool r6.toBool)]] [.vec 4 (l.map T4.cells)]) (fun _ xs obs=>mO (xs.headD .any) obs):=fun l hl=>by
   refine aQ (zY l (by omega)) (rn.ne l) ?_
   rintro r o ⟨rfl,bo,hbo,rfl⟩
   simp only[↓zq,zs,aA,zt]
   exact⟨l,bo,hl,hbo,rfl,rfl⟩
  refine⟨fun _=>⟨⟨eQ la,by simp;omega⟩,?_⟩,fun _=>?_⟩
  ·refine gj (uY lb (by omega) 4000 (by omega) lb.length 0 la (by omega) (by omega)) (fun ys o e=>?_) (fun ys o e=>absurd e.1 (by decide))
   obtain⟨_,rfl,l,hl,rfl⟩:=e
   simp only[↓zq,zs,aA,zt,aA,Ob.es,aV,bS,cT]
   exact tell l hl
  ·have hm:la.length*lb.length<=60*60:=Nat.mul_le_mul ha hb
   refine gj (vm la lb ha hb la.length 0 [] (by omega) (by simp;omega)) (fun ys o e=>?_) (fun ys o e=>absurd e.1 (by decide))
   obtain⟨_,rfl,l,hl,rfl⟩:=e
   simp only[↓zq,zs,aA,zt,aA,Ob.es,aV,bS,cT]
   exact tell l hl
def sF:AV->List Ob->Prop:=fun r o=>∃(l:List T4) (b:Bool),l.length<=60/\r=.cz [.vec 0,.v (.bool b)]/\o=[.vec 4 (l.map T4.cells)]
theorem sF.ne:∃r o,sF r o:=⟨_,_,[],false,by simp,rfl,rfl⟩
theorem zC(s:List UInt8):aI Try.prog 14 [.v (.string (mk s))] [] sF:=by
 refine yl _ ?_
 unfold wc
 refine aQ (zj s) (mM.ne _ _ (fun h=>h)) ?_
 rintro r o ⟨c,d,hd,rfl,hh⟩
 simp only[↓zq,zs,aA,zt,bV]
 refine⟨hd,fun h=>⟨[],false,by simp,rfl,rfl⟩,fun h=>?_⟩
 obtain⟨e,he,hce⟩:=hh h
 obtain⟨t,_,_,_,hok,_,_,hpl,_⟩:=py he
 rw[hce]
 refine aQ (uG e hok hpl) mO.ne ?_
 rintro r o ⟨l,b,hl,hb,rfl,rfl⟩
 simp only[↓zq,zs,aA,zt,aZ,Ob.es,aV]
 refine⟨dQ l,fun _=>⟨[],false,by simp,rfl,rfl⟩,fun hbt=>⟨l,true,hb hbt,rfl,rfl⟩⟩
end Go.Proofs.Trees
namespace Go.Proofs.Trees
open Go Go.VL Go.RowKit
def xF(b:AV):AV->List Ob->Prop:=fun r o=>∃(q:Nat) (l:List T4),q<=100000000/\l.length<=61/\r=.vec 1/\o=[.cells [b,.v (.int .i64 (q:Int))],.vec 4 (l.map T4.cells)]
theorem xF.ne(b:AV):∃r o,xF b r o:=⟨_,_,0,[],by omega,by simp,rfl,rfl⟩
theorem ym(b:AV)(l:List UInt8)(hb:pX b l):aI Try.prog 8 [.ref 0 0] [.cells [b,.v (.int .i64 0)]] (xF b):=by
 refine zh _ _ hb.has ?_
 unfold xj
 have hfar:ka=1000000000000000:=rfl
 have hC:oG 4<=1000000:=by decide
 refine aQ (zG b l hb 4 (by omega) 0 (by omega)) (dx.ne ⟨[],rfl,by simp⟩) ?_
 rintro r o ⟨q,h1,h2,⟨s,rfl,_⟩,rfl⟩
 simp only[↓zq,zs,aA,zt,aZ,hb.has]
 refine aQ (zC s) sF.ne ?_
 rintro r o ⟨m,bo,hm,rfl,rfl⟩
 simp only[↓zq,zs,aA,zt,aZ,hb.has,Ob.es,aV]
 refine⟨dQ m,fun _=>⟨q,[⟨2,1,0,0⟩],by omega,by simp,rfl,rfl⟩,fun _=>?_⟩
 refine aQ (pV b l hb q 12 (by omega) (by omega)) (dx.ne ⟨0,rfl,fun h=>by omega,by omega⟩) ?_
 rintro r o ⟨q1,g1,g2,⟨k,rfl,_,_⟩,rfl⟩
 simp only[↓zq,zs,aA,zt,aZ,hb.has,aN]
 have app:∀t:T4,xF b (.vec 1) [.cells [b,.v (.int .i64 (q1:Int))],.vec 4 (m.map T4.cells++[t.cells])]:=fun t=>⟨q1,m++[t],by omega,by simp;omega,rfl,by simp⟩
 have al:∀t:T4,bO 4 [t.cells]:=fun t c hc=>by simp at hc;rw[hc];rfl
 refine⟨fun _=>⟨⟨al ⟨3,2,0,0⟩,by simp;omega⟩,app ⟨3,2,0,0⟩⟩,fun _=>⟨fun _=>⟨⟨al ⟨0,0,0,0⟩,by simp;omega⟩,app ⟨0,0,0,0⟩⟩,fun _=>⟨fun _=>⟨q1,[⟨900000000,2,1,0⟩],by omega,by simp,rfl,rfl⟩,fun _=>⟨q1,m,by omega,by omega,rfl,rfl⟩⟩⟩⟩
def xK:AV->List Ob->Prop:=fun r o=>o=[]/\∃(l:List T4) (x y z:Int),l.length<=61/\r=.cz [.sl (l.map T4.cells),.v (.int .i64 x),.v (.int .i64 y),.v (.int .i64 z)]
theorem xK.ne:∃r o,xK r o:=⟨_,_,rfl,[],0,0,0,by simp,rfl⟩
theorem zE(a:AV)(ha:n9 a):aI Try.prog 4 [a] [] xK:=by
 refine zl _ ha.1 ?_
 unfold vB
 have hfar:ka=1000000000000000:=rfl
 refine aQ (yn a ha) xL.ne ?_
 rintro r o ⟨b,l,hb,rfl,rfl⟩
 simp only[↓zq,zs,aA,zt,hb.has]
 refine⟨by simp[bV,hb.has,j1],aQ (ym b l hb) (xF.ne _) ?_⟩
 rintro r o ⟨q,m,hq,hm,rfl,rfl⟩
 simp only[↓zq,zs,aA,zt,aZ,hb.has,bS,aV,Ob.es]
 have pk:∀(q n:Nat),q<=200000000->n<=2000->aI Try.prog 9 [.ref 0 0,.v (.int .i64 (n:Int))] [.cells [b,.v (.int .i64 (q:Int))]] (dx b q 1 (isNum n)):=fun q n h1 h2=>pV b l hb q n (by omega) (by omega)
 have ne:∀(q n:Nat),∃r o,dx b q 1 (isNum n) r o:=fun q n=>dx.ne ⟨0,rfl,fun h=>by omega,by omega⟩
 refine aQ (pk q 5 (by omega) (by omega)) (ne q 5) ?_
 rintro r o ⟨q1,a1,a2,⟨k1,rfl,_,_⟩,rfl⟩
 simp only[↓zq,zs,aA,zt,aZ,hb.has]
 refine aQ (pk q1 5 (by omega) (by omega)) (ne q1 5) ?_
 rintro r o ⟨q2,b1,b2,⟨k2,rfl,_,_⟩,rfl⟩
 simp only[↓zq,zs,aA,zt,aZ,hb.has]
 refine aQ (pk q2 5 (by omega) (by omega)) (ne q2 5) ?_
 rintro r o ⟨q3,c1,c2,⟨k3,rfl,_,_⟩,rfl⟩
 simp only[↓zq,zs,aA,zt,aZ,hb.has]
 refine aQ (pk q3 20 (by omega) (by omega)) (ne q3 20) ?_
 rintro r o ⟨q4,d1,d2,⟨k4,rfl,_,_⟩,rfl⟩
 simp only[↓zq,zs,aA,zt,aZ,hb.has]
 refine⟨by omega,aQ (pk q4 20 (by omega) (by omega)) (ne q4 20) ?_⟩
 rintro r o ⟨q5,e1,e2,⟨k5,rfl,_,_⟩,rfl⟩
 simp only[↓zq,zs,aA,zt,aZ,hb.has]
 exact⟨by omega,rfl,m,_,_,_,hm,rfl⟩
theorem wX(l:List T4)(hv:valid l=true)(x y z n:Int)(hr:fK x 0 100=true/\fK y 0 100=true/\fK z 0 100=true):∀(k i:Nat) (s:Int),i+k=l.length->0<=s->s<=1000000000->fG l x y z k i s=some n ->
 tN [.sl (l.map T4.cells),.v (.int .i64 x),.v (.int .i64 y),.v (.int .i64 z),.v (.int .i64 n),.v (.int .i64 s),.v (.int .i64 (i:Int))] [] (mr 1 [.v (.int .i64 n),.v (.int .i64 n)] [])
 |
  0,i,s,hi,h0,h1,hs=>by
  refine vq _ _ _ _ _ _ _ ?_
  simp only[fG]at hs
  cases hs
  simp only[zZ,↓zq,zs,aA,zt,aN]
  exact⟨fun h=>by omega,fun _=>⟨rfl,rfl,rfl⟩⟩
 |
  k+1,i,s,hi,h0,h1,hs=>by
  obtain⟨v1,v2⟩:=kd hv
  have hlt:i<l.length:=by omega
  obtain⟨hs1,hs2⟩:=pQ hs
  have hx:0<=x/\x<=100:=by simpa[fK]using hr.1
  have hy:0<=y/\y<=100:=by simpa[fK]using hr.2.1
  have hz:0<=z/\z<=100:=by simpa[fK]using hr.2.2
  have hp:=jx (v2 i hlt) hx.1 hy.1 hz.1
  refine vq _ _ _ _ _ _ _ ?_
  have hone:List.drop i (List.take (i+1) (l.map T4.cells))=[l.getD i t0].map T4.cells:=by
   rw[List.take_succ_eq_append_getElem (by simpa using hlt),List.drop_append_of_le_length (by simp;omega),List.drop_of_length_le (by simp;omega)]
   simp[aa,hlt]
  simp only[zZ,↓zq,zs,aA,zt,aN]
  rw[bq i (by omega)]
  simp only[aM,hone]
  refine⟨fun _=>⟨⟨eQ l,by omega,by omega,by omega⟩,?_⟩,fun h=>by omega⟩
  refine bg (xu _ [l.getD i t0] (.of _) (by simp) x y z) ?_
  rw[pN (v2 i hlt) hr (by omega)]
  simp only[↓zq,zs,aA,zt]
  rw[wrap64 _ (by omega) (by omega)]
  exact⟨fun h=>by simp at h,fun _=>wX l hv x y z n hr k (i+1) _ (by omega) (by omega) (by omega) hs2⟩
theorem zD(a:AV)(ha:n9 a):aI Try.prog 3 [a] [] (dL (.v (.bool true))):=by
 refine yC _ ha.1 ?_
 simp only[wy,↓zq,zs,aA,zt,dL]
 refine⟨ha.1,fun _=>trivial,fun _=>?_⟩
 refine aQ (zE a ha) xK.ne ?_
 rintro r o ⟨rfl,l,x,y,z,hl,rfl⟩
 simp only[↓zq,zs,aA,zt,bV]
 obtain⟨n,b,e,hb⟩:=pD l x y z
 have WI:=xu _ l (.of l) (by omega) x y z
 have WS:=zH _ l (.of l) (by omega) x y z
 rw[e]at WI WS
 refine bg WI ?_
 simp only[↓zq,zs,aA,zt]
 refine bg WS ?_
 simp only[↓zq,zs,aA,zt]
 refine⟨fun h=>absurd rfl h,fun _=>⟨fun h=>absurd rfl h,fun _=>⟨fun _=>by simp,fun hbt=>?_⟩⟩⟩
 obtain⟨hv,hr,hs⟩:=hb hbt
 refine fU (wX l hv x y z n hr l.length 0 0 (by omega) (by omega) (by omega) hs) ?_
 simp[↓zq,zs,aA,zt]
end Go.Proofs.Trees
