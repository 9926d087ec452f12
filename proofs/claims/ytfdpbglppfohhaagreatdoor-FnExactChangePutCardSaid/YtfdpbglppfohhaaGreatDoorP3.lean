/-
  Part of a proof: Go functions read by values, trees of functions, their contracts.
-/
import Derived.Test.YtfdpbglppfohhaaGreatDoorP2
import Derived.ChangeArms
import Derived.Deep.Slices
import Derived.WideKeyArgs
import Derived.ChangeSame
import Derived.OpenShut
import Derived.Shelf.Strings.Search3
import Derived.Lib.SmallJoins
set_option linter.unusedVariables false
set_option linter.unusedSimpArgs false
open And renaming intro→aE
open Bool renaming and_eq_true→ap,not_eq_true'→cn,true_and→bO
open ByteArray renaming extract→cd,size→ag,toList→ae
open Int renaming toNat_natCast→cf
open List renaming all_cons→cW,append_nil→cL,drop_zero→a6,getD_cons_zero→bp,getD_eq_getElem?_getD→aa,getElem?_drop→cU,getElem?_eq_getElem→bg,headD_cons→aU,length_cons→aB,length_map→cj,length_nil→aJ,mem_append_left→ay,mem_append_right→aw,mem_cons_of_mem→ak,mem_cons_self→aj,mem_map→bS,range→bf,tail_cons→bE
open Option renaming getD_some→cA,map_some→co
namespace Go.VL
open Go Go.RowKit Go.WideShapes Go.ChangeShapes
def ky(w:World):Mem where
 c b k:=match w.cell? ⟨b,k,none⟩with|some v=>if v.oneCell'=true then some v else none|none=>none
 one b k v h:=by
  split at h
  ·split at h
   ·cases h;assumption
   ·cases h
  ·cases h
 p _:=False
 pc b h:=h.elim
theorem vk(w:World):ii (ky w) w where
 c b k v h:=by
  simp only[ky]at h
  split at h
  ·split at h
   ·cases h;assumption
   ·cases h
  ·cases h
 p b h:=h.elim
theorem Cq{w:World}{b k:Nat}{v:Value}(h:w.cell? ⟨b,k,none⟩=some v)(ho:v.oneCell'=true):(ky w).c b k=some v:=by
 simp only[ky,h,ho,if_true]
def l5:LK->Value->Prop
 | .int k,v=>∃n,v=.int k n/\(Lit.int k n).wf=true
 | .bool,v=>∃b,v=.bool b
 | .str,v=>∃s,v=.string s/\s.size<=maxLen
 |_,_=>False
theorem vY{k:LK}{v:Value}(h:l5 k v):v.oneCell'=true:=by
 cases k<;>first|exact h.elim|skip
 ·obtain⟨n,rfl,_⟩:=h;rfl
 ·obtain⟨n,rfl⟩:=h;rfl
 ·obtain⟨n,rfl,_⟩:=h;rfl
def tP(f:TypeId->Option (List LK))(P:Program):List Field->Nat->Option (List LK)
 |[],_=>some []
 |fd::r,off=>if fd.offset=off then match f fd.type,tP f P r (off+P.cellsOf fd.type)with
  |some ks,some ks'=>if ks.length=P.cellsOf fd.type then some (ks++ks')else none
  |_,_=>none else none
def zW(P:Program):Nat->TypeId->Option (List LK)
 |0,_=>none
 |
  n+1,t=>match P.underlying t with
  |some (.int k)=>some [.int k]
  |some .bool=>some [.bool]
  |some .string=>some [.str]
  |
   some (.struct fs)=>match tP (zW P n) P fs.toList 0 with
   |some ks=>if ks.length=P.cellsOf t then some ks else none
   |none=>none
  |_=>none
section
variable {H:Type} {enc:TypeId×Value->H} {P:Program} {w:World} {base:Nat} {spare:Nat->Bool} {held:Bool}
theorem rT{f:TypeId->Option (List LK)}{m:Nat}{cs:List Value}
 (hf:∀t ks cs' x,f t=some ks->DataW.trod enc P w base spare held m t cs'=some x->cs'.length=ks.length/\∀i,i<ks.length->l5 (ks.getD i .j2) (cs'.getD i undef)) :
 ∀(fs:List Field) (off:Nat) (ks:List LK),tP f P fs off=some ks->(∀fd,fd∈fs->∃x,DataW.trod enc P w base spare held m fd.type ((cs.drop fd.offset).take (P.cellsOf fd.type))=some x)->∀i,i<ks.length->l5 (ks.getD i .j2) (cs.getD (off+i) undef)
 |[],off,ks,h,hx,i,hi=>by cases h;simp at hi
 |
  fd::r,off,ks,h,hx,i,hi=>by
  unfold tP at h
  split at h
  ·rename_i ho
   split at h
   ·rename_i ks1 ks2 h1 h2
    split at h
    ·rename_i hl
     cases h
     obtain⟨x,hx1⟩:=hx fd aj
     obtain⟨q1,q2⟩:=hf _ _ _ _ h1 hx1
     by_cases hi':i<ks1.length
     ·have:=q2 i hi'
      have e1:(ks1++ks2).getD i .j2=ks1.getD i .j2:=by simp[aa,List.getElem?_append_left hi']
      have e2:((cs.drop fd.offset).take (P.cellsOf fd.type)).getD i undef=cs.getD (off+i) undef:=by
       simp[aa,List.getElem?_take,cU,ho,show i<P.cellsOf fd.type by omega]
      rw[e1,<-e2];exact this
     ·have:=rT hf r _ _ h2 (fun g hg=>hx g (ak _ hg)) (i-ks1.length) (by simp at hi;omega)
      have e1:(ks1++ks2).getD i .j2=ks2.getD (i-ks1.length) .j2:=by simp[aa,List.getElem?_append_right (show ks1.length<=i by omega)]
      rw[e1]
      rw[show off+P.cellsOf fd.type+(i-ks1.length)=off+i by omega]at this
      exact this
    ·cases h
   ·cases h
  ·cases h
theorem xR:∀(n:Nat) (t:TypeId) (ks:List LK) {m:Nat} {cs:List Value} {x:DataW H×List MemPlace},zW P n t=some ks->DataW.trod enc P w base spare held m t cs=some x->cs.length=ks.length/\∀i,i<ks.length->l5 (ks.getD i .j2) (cs.getD i undef)
 |0,t,ks,m,cs,x,h,hx=>by cases h
 |
  n+1,t,ks,m,cs,x,h,hx=>by
  unfold zW at h
  split at h
  ·rename_i k hu
   cases h
   obtain⟨z,rfl,_,hw⟩:=DataW.trod_int hu hx
   refine⟨rfl,fun i hi=>?_⟩
   have:i=0:=by simpa using hi
   subst this
   exact⟨z,rfl,hw⟩
  ·rename_i hu
   cases h
   obtain⟨z,rfl,_⟩:=DataW.trod_bool hu hx
   refine⟨rfl,fun i hi=>?_⟩
   have:i=0:=by simpa using hi
   subst this
   exact⟨z,rfl⟩
  ·rename_i hu
   cases h
   obtain⟨z,rfl,_,hw⟩:=DataW.trod_string hu hx
   refine⟨rfl,fun i hi=>?_⟩
   have:i=0:=by simpa using hi
   subst this
   exact⟨z,rfl,hw⟩
  ·rename_i fs hu
   split at h
   ·rename_i ks' hs
    split at h
    ·rename_i hl
     cases h
     obtain⟨xs,m',rfl,_,h1,h2,h3⟩:=DataW.trod_struct hu hx
     refine⟨by omega,fun i hi=>?_⟩
     have:=rT (m:=m') (cs:=cs) (fun t ks cs' x h1 h2=>xR n t ks h1 h2) fs.toList 0 ks hs (fun fd hfd=>by
      obtain⟨j,hj,e⟩:=List.getElem_of_mem hfd
      have hj':j<fs.size:=by simpa using hj
      have e':fs[j]?=some fd:=by simp[hj',<-e]
      have h4:=h3 j fd e'
      rw[bg (by omega)]at h4
      exact⟨_,h4⟩) i hi
     simpa using this
    ·cases h
   ·cases h
  ·cases h
theorem yw{r:Reach}{b0:Nat}{t e:TypeId}{n:Nat}{ks:List LK}{v:Value}{d:DataW H}{ps:List MemPlace}(ht:P.underlying t=some (.slice e))(hs:zW P n e=some ks)(hc:P.cellsOf e=ks.length)
 (hval:Value.okWide P w r b0 t v) (hd:DataW.Trod enc P w base (fun _=>true) held t v d ps) :
 ∃a,bx (ky w) dq a v/\(a=.v (.slice none 0 0)\/∃es,a=.sl es/\es.length<=maxLen/\∀c,c∈es->c.length=ks.length/\∀i,i<ks.length->∃x,c.getD i .any=.v x/\l5 (ks.getD i .j2) x):=by
 obtain⟨m,hd⟩:=hd
 rcases Deep.open_slice ht hd with⟨h,_⟩|⟨a,len,cap,m',n',D,Pl,h,hb,hl,hm,hmm,hx',hx⟩
 ·have:v=.slice none 0 0:=by
   cases v<;>first|(simp[Value.okWide,ht,Cell.okWide,Cell.ok]at hval;done)|simpa[Value.cells]using h
  subst this
  exact⟨_,.v _ _,.inl rfl⟩
 ·have hv:v=.slice (some a) len cap:=by
   cases v<;>first|(simp[Value.okWide,ht,Cell.okWide,Cell.ok]at hval;done)|simpa[Value.cells]using h
  subst hv
  have hspot:a.spot=none:=by
   simp only[Value.okWide,ht,Cell.okWide,Cell.ok]at hval
   exact hval.2.2.2.1
  obtain⟨ab,ao,asp⟩:=a
  simp only at hspot
  subst hspot
  simp only[if_true]at hmm
  have hadd:∀o i,(Addr.add ⟨ab,o,none⟩ i)=⟨ab,o+i,none⟩:=fun o i=>by unfold Addr.add;split<;>simp_all
  let us:Nat->Value:=fun j=>(w.cell? ⟨ab,ao+j,none⟩).getD undef
  have key:∀i,i<len->∀j,j<ks.length->w.cell? ⟨ab,ao+(i*ks.length+j),none⟩=some (us (i*ks.length+j))/\l5 (ks.getD j .j2) (us (i*ks.length+j)):=fun i hi j hj=>by
   obtain⟨cs',h1,h2⟩:=hx i (by omega)
   obtain⟨q1,q2⟩:=xR n e ks hs h2
   obtain⟨_,q3,q4⟩:=World.cells?_some h1
   have q5:=q4 j (by omega)
   rw[hc,hadd,hadd,bg (by omega)]at q5
   have e0:ao+i*ks.length+j=ao+(i*ks.length+j):=by omega
   rw[e0]at q5
   have e1:us (i*ks.length+j)=cs'.getD j undef:=by simp[us,q5,aa,show j<cs'.length by omega]
   refine⟨by rw[e1,q5];simp[aa,show j<cs'.length by omega],by rw[e1];exact q2 j hj⟩
  let es:List (List AV):=(bf len).map fun i=>(bf ks.length).map fun j=>.v (us (i*ks.length+j))
  have hel:es.length=len:=by simp[es]
  have hg:∀i,i<len->es.getD i []=(bf ks.length).map fun j=>.v (us (i*ks.length+j)):=fun i hi=>by
   simp[es,aa,hi]
  refine⟨.sl es,?_,.inr ⟨es,rfl,by omega,fun c hcm=>?_⟩⟩
  ·have:=bx.sl (M:=ky w) dq es ab ao cap ks.length us (by omega) (fun i hi=>by rw[hg i (by omega)];simp) (fun i hi=>by
    rw[hel]at hi
    have hk:0<ks.length:=by
     rcases Nat.eq_zero_or_pos ks.length with h|h
     ·rw[h]at hi;omega
     ·exact h
    have h1:i/ks.length<len:=Nat.div_lt_of_lt_mul (by rw[Nat.mul_comm];exact hi)
    have h2:=Nat.mod_lt i hk
    have e0:i/ks.length*ks.length+i%ks.length=i:=by rw[Nat.mul_comm];exact Nat.div_add_mod i _
    have:=key _ h1 _ h2
    rw[e0]at this
    exact Cq this.1 (vY this.2)) (fun i j hi hj=>by
    rw[hg i (by omega)]
    simp only[aa,List.getElem?_map,List.getElem?_range hj,co,cA]
    exact .v _ _)
   rw[hel]at this
   exact this
  ·obtain⟨i,hi,rfl⟩:=bS.1 hcm
   have hi:=List.mem_range.1 hi
   refine⟨by simp,fun j hj=>⟨us (i*ks.length+j),by simp[aa,hj],(key i hi j hj).2⟩⟩
theorem mW(hl:laidOutB P=true){W W':World}{sp:Nat->Bool}:∀{ts:List TypeId} {vs:List Value} {ds:List (DataW H)} {ps:List MemPlace},(ts.all fun t=>P.readableRec t&&decide (t<P.types.size))=true ->
 DataW.TrodAll enc P W 0 (fun _=>true) true ts vs ds ps->Below W.heap.size W W'->(∀p,p∈ps->p.block<W.heap.size)->(∀p,p∈ps->sp p.block=true)->DataW.TrodAll enc P W' 0 sp true ts vs ds ps
 |[],[],[],ps,_,h,_,_,_=>h
 |
  t::ts,v::vs,d::ds,ps,ht,h,hb,hlt,hs=>by
  obtain⟨p,q,h1,h2,rfl⟩:=h
  simp only[cW,ap,decide_eq_true_eq]at ht
  exact⟨p,q,WideElems.Trod_stays hl ht.1.1 ht.1.2 h1 (fun x hx=>hb.same (hlt x (ay _ hx))) (fun x hx=>hs x (ay _ hx)),
   mW hl ht.2 h2 hb (fun x hx=>hlt x (aw _ hx)) (fun x hx=>hs x (aw _ hx)),rfl⟩
 |[],[],_::_,_,_,h,_,_,_=>h.elim
 |[],_::_,_,_,_,h,_,_,_=>h.elim
 |_::_,[],_,_,_,h,_,_,_=>h.elim
 |_::_,_::_,[],_,_,h,_,_,_=>h.elim
end
theorem A2{H:Type}{enc:TypeId×Value->H}{P:Program}{f:Func}{s:ChangeSpec}{apart fresh handsOn:Bool}{W W':World}{args:Array Value}{ds gs:List (DataW H)}{ps:List MemPlace}{t:TypeId}
 (hW:DataW.Whole enc P f.params.toList s.vars apart W args.toList ds gs ps) (hl:laidOutB P=true)
 (hp:(f.params.toList.all fun t=>P.readableRec t&&decide (t<P.types.size))=true) (hv:s.vars=[]) (hfn:s.fn H ds = {results:=[.lit (.bool true)],args:=ds}) (hr:f.resultTypes = #[t]) (ht:P.underlying t=some .bool) (hb:Below W.heap.size W W') :
 s.post enc P f apart fresh handsOn false W args (.bool true) W':=by
 have hlt:∀p,p∈ps->p.block<W.heap.size:=fun p hp=>hW.lt p hp
 have hW':=hW
 obtain⟨p,q,hA,hV,e,_,_⟩:=hW
 rw[hv]at hV
 obtain⟨rfl,rfl⟩:=trodVars_none hV
 rw[cL]at e
 subst e
 refine⟨ds,[],ps,[],ps,[],hW',?_,?_,?_,World.keptBut_mono (fun x hx=>⟨hx,.inr (.inl hx)⟩) (hb.frame (·∈ps)),fun h=>(by cases h)⟩
 ·rw[hr,cL,hfn]
  exact trodAll_mk1 (shut_bool ht _)
 ·rw[cL,hfn]
  exact mW hl hp hA hb hlt fun x hx=>by simpa using hlt x hx
 ·rw[cL,hfn,hv]
  rfl
theorem an.law{P:Program}{f:Nat}{asq:List AV}{vs:List Value}{W:World}(h:an P f asq [] (bB (.v (.bool true))))(hlen:vs.length=asq.length)(hr:∀i,i<asq.length->bx (ky W) dq (asq.getD i .any) (vs.getD i undef))(hW:qA P (ky W) W:=by trivial) :
 Calls P f vs.toArray W fun e w'=>e=.returned (.bool true)/\Below W.heap.size W w':=by
 refine Calls.mono (h.2 W (ky W) dq vs hW ⟨hlen,hr,vk W,fun j hj=>(by cases hj),fun _ _=>rfl,fun i j b _ hi=>(by cases hi)⟩) ?_
 rintro e w' ⟨v,r,obs,M',β',rfl,⟨rfl,rfl⟩,ho⟩
 have hv:=ho.sh
 cases hv
 exact⟨rfl,ho.cD.os,ho.cD.tape,ho.cD.output,ho.cD.size,fun b hb=>ho.cD.block b hb (fun⟨i,hi,_⟩=>by cases hi)⟩
end Go.VL
namespace Go.VL
open Go Go.RowKit
theorem Au{l r:List UInt8}(h:mk l=mk r):l=r:=by
 have:(mk l).data.toList=(mk r).data.toList:=by rw[h]
 simpa[mk]using this
theorem cG(l:List UInt8):(mk l).size=l.length:=by simp[mk,ag]
theorem toList_mk(l:List UInt8):ae (mk l)=l:=by rw[Lib.toList_data];simp[mk]
theorem mk_data(s:ByteArray):mk s.data.toList=s:=by cases s;simp[mk]
theorem lK(l:List UInt8)(i:Nat)(h:i<l.length):bt (mk l) (i:Int)=((l.getD i 0).toNat:Int):=by
 unfold bt
 rw[dif_pos (by rw[cG];simpa using h)]
 have:(mk l)[(i:Int).toNat]'(by rw[cG];simpa using h)=l[i]:=by
  show (mk l).data[i]'_=_
  simp[mk]
 rw[this];simp[aa,h]
theorem extract_mk(l:List UInt8)(a b:Nat):cd (mk l) a b=mk ((l.take b).drop a):=by
 have:(cd (mk l) a b).data.toList=(l.take b).drop a:=by
  rw[ByteArray.data_extract]
  simp[mk,List.extract_eq_take_drop,List.drop_take]
 rw[<-mk_data (cd (mk l) a b),this]
theorem kH(l r:List UInt8):(mk l:ByteArray)++mk r=mk (l++r):=by
 have:((mk l:ByteArray)++mk r).data.toList=l++r:=by
  rw[ByteArray.data_append];simp[mk]
 rw[<-mk_data (mk l++mk r),this]
theorem rC:(⟨#[]⟩:ByteArray)=mk []:=rfl
theorem an.QS{P:Program}{f:Nat}{xs:List Value}{v:Value}(hE:Hq P f)(h:∀w,Calls P f xs.toArray w fun e w'=>e=.returned v/\Below w.heap.size w w'):an P f (xs.map .v) [] (bB (.v v)):=by
 refine⟨hE,fun w M β vs hB hin=>?_⟩
 have hl:vs.length=xs.length:=by rw[hin.len,cj]
 have e:vs=xs:=by
  apply List.ext_getElem hl
  intro i h1 h2
  have:=hin.sh i (by simpa using h2)
  have e1:(xs.map AV.v).getD i .any=.v xs[i]:=by simp[aa,h2]
  have e2:vs.getD i undef=vs[i]:=by simp[aa,h1]
  rw[e1,e2]at this
  exact dE this
 subst e
 refine Calls.mono (h w) fun e w' ⟨he,hb⟩=>⟨v,.v v,[],M,dq,he,⟨rfl,rfl⟩,?_⟩
 have hlt:∀b k u,M.c b k=some u->b<w.heap.size:=fun b k u hc=>hin.agree.lt hc
 exact {
  le:=Mem.le.refl _,agree:=⟨fun b k u hc=>by
   rw[<-hin.agree _ _ _ hc];exact hb.cell (p:=⟨b,k,none⟩) (hlt b k u hc),fun b hp=>by
   obtain⟨k,u,hc⟩:=M.pc b hp
   rw[hb.block b (hlt b k u hc)];exact hin.agree.p b hp⟩
  sh:=.v _ _,own:=fun j hj=>by simp at hj,same:=fun j b hj=>by simp at hj,wT:=fun j l sz es hj=>(by simp at hj),apart:=fun i j b _ hi=>by simp at hi,place:=fun j b hj=>by simp at hj
  new:=fun b k u hc=>.inl hc,cD:=⟨hb.os,hb.tape,hb.output,hb.size,fun b hlt _=>hb.block b hlt⟩}
theorem an.OG{P:Program}{f:Nat}{xs:List Value}{v:Value}{a:AV}(hE:Hq P f)(hr:∀M,bx M dq a v)(h:∀w,Calls P f xs.toArray w fun e w'=>e=.returned v/\Below w.heap.size w w'):an P f (xs.map .v) [] (bB a):=by
 refine⟨hE,fun w M β vs hB hin=>?_⟩
 have hl:vs.length=xs.length:=by rw[hin.len,cj]
 have e:vs=xs:=by
  apply List.ext_getElem hl
  intro i h1 h2
  have:=hin.sh i (by simpa using h2)
  have e1:(xs.map AV.v).getD i .any=.v xs[i]:=by simp[aa,h2]
  have e2:vs.getD i undef=vs[i]:=by simp[aa,h1]
  rw[e1,e2]at this
  exact dE this
 subst e
 refine Calls.mono (h w) fun e w' ⟨he,hb⟩=>⟨v,a,[],M,dq,he,⟨rfl,rfl⟩,?_⟩
 have hlt:∀b k u,M.c b k=some u->b<w.heap.size:=fun b k u hc=>hin.agree.lt hc
 exact {
  le:=Mem.le.refl _,agree:=⟨fun b k u hc=>by
   rw[<-hin.agree _ _ _ hc];exact hb.cell (p:=⟨b,k,none⟩) (hlt b k u hc),fun b hp=>by
   obtain⟨k,u,hc⟩:=M.pc b hp
   rw[hb.block b (hlt b k u hc)];exact hin.agree.p b hp⟩
  sh:=hr M,own:=fun j hj=>by simp at hj,same:=fun j b hj=>by simp at hj,wT:=fun j l sz es hj=>(by simp at hj),apart:=fun i j b _ hi=>by simp at hi,place:=fun j b hj=>by simp at hj
  new:=fun b k u hc=>.inl hc,cD:=⟨hb.os,hb.tape,hb.output,hb.size,fun b hlt _=>hb.block b hlt⟩}
end Go.VL
namespace Go.VL
open Go Go.RowKit
theorem qA.law{P:Program}{W:World}{g:Nat}(hg:P.globalNamed wE=some g)(h:Lib.TabIs P W wE .u64 Lib.pow10Tab):qA P (ky W) W:=by
 have:=h.cell hg 0 (by rw[Lib.pow10Tab_length];omega)
 exact⟨h,g,.int .u64 (Lib.pow10Tab.getD 0 0),hg,by simp only[ky,this];rfl⟩
theorem yT{P:Program}{W:World}{x:String×DataW Unit}{l:List (String×DataW Unit)}(h:laidMet P (x::l) W):laidMet P l W:=by
 obtain⟨ps,⟨g,t,cs,fuel,p,q,_,_,_,_,hq,rfl⟩,hn,hr⟩:=h
 exact⟨q,hq,(List.nodup_append.1 hn).2.1,fun b off hb=>hr b off (aw _ hb)⟩
theorem wM{P:Program}{W:World}{x:String×DataW Unit}:∀{l:List (String×DataW Unit)} (i:Nat),laidMet P l W->l[i]?=some x->∃rest,laidMet P (x::rest) W
 |[],i,_,h=>by simp at h
 |y::l,0,hm,h=>by simp at h;subst h;exact⟨l,hm⟩
 |y::l,i+1,hm,h=>wM i (yT hm) (by simpa using h)
theorem qA.laid{P:Program}{W:World}{l:List (String×DataW Unit)}{g:Nat}{t e:TypeId}{n:Nat}(i:Nat)(hg:P.globalNamed wE=some g)(hty:(P.globals[g]?).map (·.type)=some t)(ht:P.underlying t=some (.array n e))(he:P.underlying e=some (.int .u64))(hce:P.cellsOf e=1)(hct:P.cellsOf t=n)
 (hi:l[i]?=some (wE,Lib.tabData .u64 Lib.pow10Tab)) (h:laidMet P l W):qA P (ky W) W:=by
 obtain⟨rest,h⟩:=wM i h hi
 exact qA.law hg (Lib.tabIs_of_head hg hty ht he hce hct h)
theorem an.NV{P:Program}{f:Nat}{xs:List Value}{v:Value}(hE:Hq P f)(h:∀w,Lib.TabIs P w wE .u64 Lib.pow10Tab->Calls P f xs.toArray w fun e w'=>e=.returned v/\Below w.heap.size w w'):an P f (xs.map .v) [] (bB (.v v)):=by
 refine⟨hE,fun w M β vs hB hin=>?_⟩
 have hl:vs.length=xs.length:=by rw[hin.len,cj]
 have e:vs=xs:=by
  apply List.ext_getElem hl
  intro i h1 h2
  have:=hin.sh i (by simpa using h2)
  have e1:(xs.map AV.v).getD i .any=.v xs[i]:=by simp[aa,h2]
  have e2:vs.getD i undef=vs[i]:=by simp[aa,h1]
  rw[e1,e2]at this
  exact dE this
 subst e
 refine Calls.mono (h w hB.is) fun e w' ⟨he,hb⟩=>⟨v,.v v,[],M,dq,he,⟨rfl,rfl⟩,?_⟩
 have hlt:∀b k u,M.c b k=some u->b<w.heap.size:=fun b k u hc=>hin.agree.lt hc
 exact {
  le:=Mem.le.refl _,agree:=⟨fun b k u hc=>by
   rw[<-hin.agree _ _ _ hc];exact hb.cell (p:=⟨b,k,none⟩) (hlt b k u hc),fun b hp=>by
   obtain⟨k,u,hc⟩:=M.pc b hp
   rw[hb.block b (hlt b k u hc)];exact hin.agree.p b hp⟩
  sh:=.v _ _,own:=fun j hj=>by simp at hj,same:=fun j b hj=>by simp at hj,wT:=fun j l sz es hj=>(by simp at hj),apart:=fun i j b _ hi=>by simp at hi,place:=fun j b hj=>by simp at hj
  new:=fun b k u hc=>.inl hc,cD:=⟨hb.os,hb.tape,hb.output,hb.size,fun b hlt _=>hb.block b hlt⟩}
end Go.VL
set_option linter.defProp false
namespace Go.VL
open Go
def zp:=aE @C2 (aE @BZ (aE @BY (aE @A7 (aE @CH (aE @CS (aE @GX (@Hf)))))))
def zs:=aE @GV (aE @Ik (aE @step1 (aE @step2 (aE @mE (aE @AP (aE @dY (aE @cc (aE @bb (aE @bY (aE @ib (aE @true_and (aE @and_true (aE @aU.{0} (aE @bE.{0} (aE @wX (aE @sV (aE @Bo (aE @AR (aE @fS (aE @yq (aE @jw (aE @oU (aE @jy (aE @An (aE @Ak (aE @Bk (aE @bp.{0} (aE @List.getD_cons_succ.{0} (aE @a6.{0} (aE @List.drop_succ_cons.{0} (aE @decide_eq_true_eq (aE @decide_eq_false_iff_not (aE @bne_iff_ne.{0} (aE @bne_eq_false_iff_eq.{0} (aE @beq_iff_eq.{0} (aE @beq_eq_false_iff_ne.{0} (aE @cn (aE @Bool.not_eq_false' (aE @aB.{0} (@aJ.{0}))))))))))))))))))))))))))))))))))))))))
def zt:=aE @cG (aE @toList_mk (aE @extract_mk (aE @rC (aE @kH (aE @cf (aE @List.take_length.{0} (aE @a6.{0} (@Int.toNat_zero))))))))
def zf:=aE @Bool.false_and (aE @Bool.and_false (aE @Bool.false_eq_true (aE @if_false.{1} (aE @bO (aE @Bool.and_true (aE @Bool.and_self (aE @Bool.true_or (aE @Bool.false_or (aE @Bool.or_true (aE @Bool.or_false (aE @decide_true (aE @decide_false (aE @not_true_eq_false (aE @not_false_eq_true (aE @if_true.{1} (aE @Bool.not_true (aE @Bool.not_false (@eq_self_iff_true.{1}))))))))))))))))))
end Go.VL
namespace Go.VL
open Go Go.RowKit Go.WideShapes Go.ChangeShapes Go.Deep Go.Joins
section
variable {H:Type} {enc:TypeId×Value->H} {P:Program} {w:World} {base:Nat} {held:Bool}
structure nw(enc:TypeId×Value->H)(P:Program)(w:World)(base:Nat)(held:Bool)(r:Reach)(b0:Nat)(t:TypeId)(v:Value):Prop where intro ::
 ok:Cell.okWide P w r b0 t v
 tr:∃n y,DataW.trod enc P w base (fun _=>true) held n t [v]=some y
theorem nw.str{r:Reach}{b0:Nat}{t:TypeId}{v:Value}(h:nw enc P w base held r b0 t v)(ht:P.underlying t=some .string):∃l:List UInt8,v=.string (mk l)/\l.length<=maxLen:=by
 obtain⟨n,y,h⟩:=h.tr
 obtain⟨s,e,_,hw⟩:=DataW.trod_string ht h
 simp only[List.cons.injEq,and_true]at e
 exact⟨s.data.toList,by rw[e,mk_data],by simpa using hw⟩
theorem nw.slice{r:Reach}{b0:Nat}{t e:TypeId}{n:Nat}{ks:List LK}{v:Value}(h:nw enc P w base held r b0 t v)(ht:P.underlying t=some (.slice e))(hs:zW P n e=some ks)(hc:P.cellsOf e=ks.length) :
 v.oneCell'=true/\∃a,bx (ky w) dq a v/\(a=.v (.slice none 0 0)\/∃es,a=.sl es/\es.length<=maxLen/\∀c,c∈es->c.length=ks.length/\∀i,i<ks.length->∃x,c.getD i .any=.v x/\l5 (ks.getD i .j2) x):=by
 obtain⟨m,y,hd⟩:=h.tr
 have hv:v.cells = #[v]/\v.oneCell'=true:=by
  rcases DataW.trod_slice ht hd with⟨e,_⟩|⟨a,len,cap,aS,rest,n,_,e,_⟩ <;>
  ·simp only[List.cons.injEq,and_true]at e
   subst e
   exact⟨rfl,rfl⟩
 refine⟨hv.2,yw (enc:=enc) (base:=base) (held:=held) (r:=r) (b0:=b0) (d:=y.1) (ps:=y.2) ht hs hc ?_ ⟨m,by rw[hv.1];exact hd⟩⟩
 unfold Value.okWide
 rw[ht]
 exact h.ok
theorem AA{r:Reach}{b0:Nat}{t:TypeId}{f0 f1 f2:Field}{v:Value}{d:DataW H}{p:List MemPlace}(hs:P.underlying t=some (.struct #[f0,f1,f2]))(hone:oneCellFields P #[f0,f1,f2]=true)(hC:P.cellsOf t=3)
 (hts:P.cellTypes P.depth t=some [f0.type,f1.type,f2.type]) (hval:Value.okWide P w r b0 t v) (hd:DataW.Trod enc P w base (fun _=>true) held t v d p) :
 ∃v0 v1 v2,v=.agg #[v0,v1,v2]/\nw enc P w base held r b0 f0.type v0/\nw enc P w base held r b0 f1.type v1/\nw enc P w base held r b0 f2.type v2:=by
 obtain⟨v0,v1,v2,y0,y1,y2,n,rfl,_,_,h0,h1,h2⟩:=open_agg3 hs hone hC hval hd
 unfold Value.okWide at hval
 rw[hs]at hval
 obtain⟨cs,e,_,ts,ht,_,hc⟩:=hval
 cases e
 rw[hts]at ht
 cases ht
 refine⟨v0,v1,v2,rfl,⟨?_,n,_,h0⟩,⟨?_,n,_,h1⟩,⟨?_,n,_,h2⟩⟩
 ·obtain⟨u,hu,hk⟩:=hc 0 v0 rfl;cases hu;exact hk
 ·obtain⟨u,hu,hk⟩:=hc 1 v1 rfl;cases hu;exact hk
 ·obtain⟨u,hu,hk⟩:=hc 2 v2 rfl;cases hu;exact hk
end
theorem bx.PR{M:Mem}{β:Lo}{a b c:AV}{u v w:Value}(ha:bx M β a u)(hb:bx M β b v)(hc:bx M β c w)(h0:u.oneCell'=true)(h1:v.oneCell'=true)(h2:w.oneCell'=true):bx M β (.agg [a,b,c]) (.agg #[u,v,w]):=by
 refine .agg β [a,b,c] [u,v,w] rfl (fun i hi=>?_) fun i hi=>?_
 ·match i,hi with
  |0,_=>exact h0
  |1,_=>exact h1
  |2,_=>exact h2
 ·match i,hi with
  |0,_=>exact ha
  |1,_=>exact hb
  |2,_=>exact hc
theorem CW{es:List (List AV)}(h:∀c,c∈es->c.length=1/\∀i,i<1->∃x,c.getD i .any=.v x/\l5 ([LK.int .i64].getD i .j2) x):∃l:List Int,es=l.map fun k=>[.v (.int .i64 k)]:=by
 induction es with
 |nil=>exact⟨[],rfl⟩
 |
  cons c es ih =>
  obtain⟨l,rfl⟩:=ih fun d hd=>h d (ak _ hd)
  obtain⟨h1,h2⟩:=h c aj
  obtain⟨x0,e0,m,rfl,hx⟩:=h2 0 (by omega)
  match c,h1 with
  |
   [y],_ =>
   have e0:y=.v (.int .i64 m):=e0
   subst e0
   exact⟨m::l,by simp⟩
end Go.VL
