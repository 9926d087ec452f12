/-
  Part of a proof: Go functions read by values, trees of functions, their contracts.
-/
import Derived.Test.YtoakmmapeedenaaGreatDoorP2
import Derived.ChangeArms
import Derived.Deep.Slices
import Derived.WideKeyArgs
import Derived.ChangeSame
import Derived.OpenShut
import Derived.Shelf.Strings.Search3
set_option linter.unusedVariables false
set_option linter.unusedSimpArgs false
open And renaming intro→aG
open Bool renaming and_eq_true→au,not_eq_true'→bR,true_and→bZ
open ByteArray renaming extract→bS,size→af,toList→ae
open Int renaming toNat_natCast→cj
open List renaming all_cons→cO,drop_zero→bz,getD_cons_zero→bh,getD_eq_getElem?_getD→aa,getElem?_drop→cm,getElem?_eq_getElem→aV,headD_cons→aM,length_cons→aw,length_map→cg,length_nil→aE,mem_append_left→aA,mem_append_right→az,mem_cons_of_mem→ai,mem_cons_self→ag,mem_map→bD,range→bc,tail_cons→a8
open Nat renaming mod_lt→dR
open Option renaming map_some→cy
namespace Go.VL
open Go Go.RowKit Go.WideShapes Go.ChangeShapes
def lQ(w:World):Mem where
 c b k:=match w.cell? ⟨b,k,none⟩with|some v=>if v.oneCell'=true then some v else none|none=>none
 one b k v h:=by
  split at h
  ·split at h
   ·cases h;assumption
   ·cases h
  ·cases h
 p _:=False
 pc b h:=h.elim
theorem u4(w:World):gV (lQ w) w where
 c b k v h:=by
  simp only[lQ]at h
  split at h
  ·split at h
   ·cases h;assumption
   ·cases h
  ·cases h
 p b h:=h.elim
theorem DP{w:World}{b k:Nat}{v:Value}(h:w.cell? ⟨b,k,none⟩=some v)(ho:v.oneCell'=true):(lQ w).c b k=some v:=by
 simp only[lQ,h,ho,if_true]
def ns:LK->Value->Prop
 | .int k,v=>∃n,v=.int k n/\(Lit.int k n).wf=true
 | .bool,v=>∃b,v=.bool b
 | .str,v=>∃s,v=.string s/\s.size<=maxLen
 |_,_=>False
theorem wX{k:LK}{v:Value}(h:ns k v):v.oneCell'=true:=by
 cases k<;>first|exact h.elim|skip
 ·obtain⟨n,rfl,_⟩:=h;rfl
 ·obtain⟨n,rfl⟩:=h;rfl
 ·obtain⟨n,rfl,_⟩:=h;rfl
def uv(f:TypeId->Option (List LK))(P:Program):List Field->Nat->Option (List LK)
 |[],_=>some []
 |fd::r,off=>if fd.offset=off then match f fd.type,uv f P r (off+P.cellsOf fd.type)with
  |some ks,some ks'=>if ks.length=P.cellsOf fd.type then some (ks++ks')else none
  |_,_=>none else none
def CH(P:Program):Nat->TypeId->Option (List LK)
 |0,_=>none
 |
  n+1,t=>match P.underlying t with
  |some (.int k)=>some [.int k]
  |some .bool=>some [.bool]
  |some .string=>some [.str]
  |
   some (.struct fs)=>match uv (CH P n) P fs.toList 0 with
   |some ks=>if ks.length=P.cellsOf t then some ks else none
   |none=>none
  |_=>none
section
variable {H:Type} {enc:TypeId×Value->H} {P:Program} {w:World} {base:Nat} {spare:Nat->Bool} {held:Bool}
theorem sT{f:TypeId->Option (List LK)}{m:Nat}{cs:List Value}
 (hf:∀t ks cs' x,f t=some ks->DataW.trod enc P w base spare held m t cs'=some x->cs'.length=ks.length/\∀i,i<ks.length->ns (ks.getD i .kS) (cs'.getD i undef)) :
 ∀(fs:List Field) (off:Nat) (ks:List LK),uv f P fs off=some ks->(∀fd,fd∈fs->∃x,DataW.trod enc P w base spare held m fd.type ((cs.drop fd.offset).take (P.cellsOf fd.type))=some x)->∀i,i<ks.length->ns (ks.getD i .kS) (cs.getD (off+i) undef)
 |[],off,ks,h,hx,i,hi=>by cases h;simp at hi
 |
  fd::r,off,ks,h,hx,i,hi=>by
  unfold uv at h
  split at h
  ·rename_i ho
   split at h
   ·rename_i ks1 ks2 h1 h2
    split at h
    ·rename_i hl
     cases h
     obtain⟨x,hx1⟩:=hx fd ag
     obtain⟨q1,q2⟩:=hf _ _ _ _ h1 hx1
     by_cases hi':i<ks1.length
     ·have:=q2 i hi'
      have e1:(ks1++ks2).getD i .kS=ks1.getD i .kS:=by simp[aa,List.getElem?_append_left hi']
      have e2:((cs.drop fd.offset).take (P.cellsOf fd.type)).getD i undef=cs.getD (off+i) undef:=by
       simp[aa,List.getElem?_take,cm,ho,show i<P.cellsOf fd.type by omega]
      rw[e1,<-e2];exact this
     ·have:=sT hf r _ _ h2 (fun g hg=>hx g (ai _ hg)) (i-ks1.length) (by simp at hi;omega)
      have e1:(ks1++ks2).getD i .kS=ks2.getD (i-ks1.length) .kS:=by simp[aa,List.getElem?_append_right (show ks1.length<=i by omega)]
      rw[e1]
      rw[show off+P.cellsOf fd.type+(i-ks1.length)=off+i by omega]at this
      exact this
    ·cases h
   ·cases h
  ·cases h
theorem yr:∀(n:Nat) (t:TypeId) (ks:List LK) {m:Nat} {cs:List Value} {x:DataW H×List MemPlace},CH P n t=some ks->DataW.trod enc P w base spare held m t cs=some x->cs.length=ks.length/\∀i,i<ks.length->ns (ks.getD i .kS) (cs.getD i undef)
 |0,t,ks,m,cs,x,h,hx=>by cases h
 |
  n+1,t,ks,m,cs,x,h,hx=>by
  unfold CH at h
  split at h
  ·rename_i k hu
   cases h
   obtain⟨z,rfl,_,hw⟩:=DataW.trod_int hu hx
   refine⟨rfl,fun i hi=>?_⟩
   have:i=0:=by simpa using hi
   subst this
   exact⟨z,rfl,hw⟩
  ·rename_i hu
   cases h
   obtain⟨z,rfl,_⟩:=DataW.trod_bool hu hx
   refine⟨rfl,fun i hi=>?_⟩
   have:i=0:=by simpa using hi
   subst this
   exact⟨z,rfl⟩
  ·rename_i hu
   cases h
   obtain⟨z,rfl,_,hw⟩:=DataW.trod_string hu hx
   refine⟨rfl,fun i hi=>?_⟩
   have:i=0:=by simpa using hi
   subst this
   exact⟨z,rfl,hw⟩
  ·rename_i fs hu
   split at h
   ·rename_i ks' hs
    split at h
    ·rename_i hl
     cases h
     obtain⟨xs,m',rfl,_,h1,h2,h3⟩:=DataW.trod_struct hu hx
     refine⟨by omega,fun i hi=>?_⟩
     have:=sT (m:=m') (cs:=cs) (fun t ks cs' x h1 h2=>yr n t ks h1 h2) fs.toList 0 ks hs (fun fd hfd=>by
      obtain⟨j,hj,e⟩:=List.getElem_of_mem hfd
      have hj':j<fs.size:=by simpa using hj
      have e':fs[j]?=some fd:=by simp[hj',<-e]
      have h4:=h3 j fd e'
      rw[aV (by omega)]at h4
      exact⟨_,h4⟩) i hi
     simpa using this
    ·cases h
   ·cases h
  ·cases h
theorem yW{r:Reach}{b0:Nat}{t e:TypeId}{n:Nat}{ks:List LK}{v:Value}{d:DataW H}{ps:List MemPlace}(ht:P.underlying t=some (.slice e))(hs:CH P n e=some ks)(hc:P.cellsOf e=ks.length)
 (hval:Value.okWide P w r b0 t v) (hd:DataW.Trod enc P w base (fun _=>true) held t v d ps) :
 ∃a,bo (lQ w) dk a v/\(a=.v (.slice none 0 0)\/∃es,a=.sl es/\es.length<=maxLen/\∀c,c∈es->c.length=ks.length/\∀i,i<ks.length->∃x,c.getD i .any=.v x/\ns (ks.getD i .kS) x):=by
 obtain⟨m,hd⟩:=hd
 rcases Deep.open_slice ht hd with⟨h,_⟩|⟨a,len,cap,m',n',D,Pl,h,hb,hl,hm,hmm,hx',hx⟩
 ·have:v=.slice none 0 0:=by
   cases v<;>first|(simp[Value.okWide,ht,Cell.okWide,Cell.ok]at hval;done)|simpa[Value.cells]using h
  subst this
  exact⟨_,.v _ _,.inl rfl⟩
 ·have hv:v=.slice (some a) len cap:=by
   cases v<;>first|(simp[Value.okWide,ht,Cell.okWide,Cell.ok]at hval;done)|simpa[Value.cells]using h
  subst hv
  have hspot:a.spot=none:=by
   simp only[Value.okWide,ht,Cell.okWide,Cell.ok]at hval
   exact hval.2.2.2.1
  obtain⟨ab,ao,asp⟩:=a
  simp only at hspot
  subst hspot
  simp only[if_true]at hmm
  have hadd:∀o i,(Addr.add ⟨ab,o,none⟩ i)=⟨ab,o+i,none⟩:=fun o i=>by unfold Addr.add;split<;>simp_all
  let us:Nat->Value:=fun j=>(w.cell? ⟨ab,ao+j,none⟩).getD undef
  have key:∀i,i<len->∀j,j<ks.length->w.cell? ⟨ab,ao+(i*ks.length+j),none⟩=some (us (i*ks.length+j))/\ns (ks.getD j .kS) (us (i*ks.length+j)):=fun i hi j hj=>by
   obtain⟨cs',h1,h2⟩:=hx i (by omega)
   obtain⟨q1,q2⟩:=yr n e ks hs h2
   obtain⟨_,q3,q4⟩:=World.cells?_some h1
   have q5:=q4 j (by omega)
   rw[hc,hadd,hadd,aV (by omega)]at q5
   have e0:ao+i*ks.length+j=ao+(i*ks.length+j):=by omega
   rw[e0]at q5
   have e1:us (i*ks.length+j)=cs'.getD j undef:=by simp[us,q5,aa,show j<cs'.length by omega]
   refine⟨by rw[e1,q5];simp[aa,show j<cs'.length by omega],by rw[e1];exact q2 j hj⟩
  let es:List (List AV):=(bc len).map fun i=>(bc ks.length).map fun j=>.v (us (i*ks.length+j))
  have hel:es.length=len:=by simp[es]
  have hg:∀i,i<len->es.getD i []=(bc ks.length).map fun j=>.v (us (i*ks.length+j)):=fun i hi=>by
   simp[es,aa,hi]
  refine⟨.sl es,?_,.inr ⟨es,rfl,by omega,fun c hcm=>?_⟩⟩
  ·have:=bo.sl (M:=lQ w) dk es ab ao cap ks.length us (by omega) (fun i hi=>by rw[hg i (by omega)];simp) (fun i hi=>by
    rw[hel]at hi
    have hk:0<ks.length:=by
     rcases Nat.eq_zero_or_pos ks.length with h|h
     ·rw[h]at hi;omega
     ·exact h
    have h1:i/ks.length<len:=Nat.div_lt_of_lt_mul (by rw[Nat.mul_comm];exact hi)
    have h2:=dR i hk
    have e0:i/ks.length*ks.length+i%ks.length=i:=by rw[Nat.mul_comm];exact Nat.div_add_mod i _
    have:=key _ h1 _ h2
    rw[e0]at this
    exact DP this.1 (wX this.2)) (fun i j hi hj=>by
    rw[hg i (by omega)]
    simp only[aa,List.getElem?_map,List.getElem?_range hj,cy,Option.getD_some]
    exact .v _ _)
   rw[hel]at this
   exact this
  ·obtain⟨i,hi,rfl⟩:=bD.1 hcm
   have hi:=List.mem_range.1 hi
   refine⟨by simp,fun j hj=>⟨us (i*ks.length+j),by simp[aa,hj],(key i hi j hj).2⟩⟩
theorem mY(hl:laidOutB P=true){W W':World}{sp:Nat->Bool}:∀{ts:List TypeId} {vs:List Value} {ds:List (DataW H)} {ps:List MemPlace},(ts.all fun t=>P.readableRec t&&decide (t<P.types.size))=true ->
 DataW.TrodAll enc P W 0 (fun _=>true) true ts vs ds ps->Below W.heap.size W W'->(∀p,p∈ps->p.block<W.heap.size)->(∀p,p∈ps->sp p.block=true)->DataW.TrodAll enc P W' 0 sp true ts vs ds ps
 |[],[],[],ps,_,h,_,_,_=>h
 |
  t::ts,v::vs,d::ds,ps,ht,h,hb,hlt,hs=>by
  obtain⟨p,q,h1,h2,rfl⟩:=h
  simp only[cO,au,decide_eq_true_eq]at ht
  exact⟨p,q,WideElems.Trod_stays hl ht.1.1 ht.1.2 h1 (fun x hx=>hb.same (hlt x (aA _ hx))) (fun x hx=>hs x (aA _ hx)),
   mY hl ht.2 h2 hb (fun x hx=>hlt x (az _ hx)) (fun x hx=>hs x (az _ hx)),rfl⟩
 |[],[],_::_,_,_,h,_,_,_=>h.elim
 |[],_::_,_,_,_,h,_,_,_=>h.elim
 |_::_,[],_,_,_,h,_,_,_=>h.elim
 |_::_,_::_,[],_,_,h,_,_,_=>h.elim
end
theorem BJ{H:Type}{enc:TypeId×Value->H}{P:Program}{f:Func}{s:ChangeSpec}{apart fresh handsOn:Bool}{W W':World}{args:Array Value}{ds gs:List (DataW H)}{ps:List MemPlace}{t:TypeId}
 (hW:DataW.Whole enc P f.params.toList s.vars apart W args.toList ds gs ps) (hl:laidOutB P=true)
 (hp:(f.params.toList.all fun t=>P.readableRec t&&decide (t<P.types.size))=true) (hv:s.vars=[]) (hfn:s.fn H ds = {results:=[.lit (.bool true)],args:=ds}) (hr:f.resultTypes = #[t]) (ht:P.underlying t=some .bool) (hb:Below W.heap.size W W') :
 s.post enc P f apart fresh handsOn false W args (.bool true) W':=by
 have hlt:∀p,p∈ps->p.block<W.heap.size:=fun p hp=>hW.lt p hp
 have hW':=hW
 obtain⟨p,q,hA,hV,e,_,_⟩:=hW
 rw[hv]at hV
 obtain⟨rfl,rfl⟩:=trodVars_none hV
 rw[List.append_nil]at e
 subst e
 refine⟨ds,[],ps,[],ps,[],hW',?_,?_,?_,World.keptBut_mono (fun x hx=>⟨hx,.inr (.inl hx)⟩) (hb.frame (·∈ps)),fun h=>(by cases h)⟩
 ·rw[hr,List.append_nil,hfn]
  exact trodAll_mk1 (shut_bool ht _)
 ·rw[List.append_nil,hfn]
  exact mY hl hp hA hb hlt fun x hx=>by simpa using hlt x hx
 ·rw[List.append_nil,hfn,hv]
  rfl
theorem aB.law{P:Program}{f:Nat}{asq:List AV}{vs:List Value}{W:World}(h:aB P f asq [] (bU (.v (.bool true))))(hlen:vs.length=asq.length)(hr:∀i,i<asq.length->bo (lQ W) dk (asq.getD i .any) (vs.getD i undef))(hW:ru P (lQ W) W:=by trivial) :
 Calls P f vs.toArray W fun e w'=>e=.returned (.bool true)/\Below W.heap.size W w':=by
 refine Calls.mono (h.2 W (lQ W) dk vs hW ⟨hlen,hr,u4 W,fun j hj=>(by cases hj),fun _ _=>rfl,fun i j b _ hi=>(by cases hi)⟩) ?_
 rintro e w' ⟨v,r,obs,M',β',rfl,⟨rfl,rfl⟩,ho⟩
 have hv:=ho.rep
 cases hv
 exact⟨rfl,ho.cB.os,ho.cB.tape,ho.cB.output,ho.cB.size,fun b hb=>ho.cB.block b hb (fun⟨i,hi,_⟩=>by cases hi)⟩
end Go.VL
namespace Go.VL
open Go Go.RowKit
theorem mk_inj{l r:List UInt8}(h:mk l=mk r):l=r:=by
 have:(mk l).data.toList=(mk r).data.toList:=by rw[h]
 simpa[mk]using this
theorem dc(l:List UInt8):(mk l).size=l.length:=by simp[mk,af]
theorem toList_mk(l:List UInt8):ae (mk l)=l:=by rw[Lib.toList_data];simp[mk]
theorem mk_data(s:ByteArray):mk s.data.toList=s:=by cases s;simp[mk]
theorem lO(l:List UInt8)(i:Nat)(h:i<l.length):bt (mk l) (i:Int)=((l.getD i 0).toNat:Int):=by
 unfold bt
 rw[dif_pos (by rw[dc];simpa using h)]
 have:(mk l)[(i:Int).toNat]'(by rw[dc];simpa using h)=l[i]:=by
  show (mk l).data[i]'_=_
  simp[mk]
 rw[this];simp[aa,h]
theorem extract_mk(l:List UInt8)(a b:Nat):bS (mk l) a b=mk ((l.take b).drop a):=by
 have:(bS (mk l) a b).data.toList=(l.take b).drop a:=by
  rw[ByteArray.data_extract]
  simp[mk,List.extract_eq_take_drop,List.drop_take]
 rw[<-mk_data (bS (mk l) a b),this]
theorem kA(l r:List UInt8):(mk l:ByteArray)++mk r=mk (l++r):=by
 have:((mk l:ByteArray)++mk r).data.toList=l++r:=by
  rw[ByteArray.data_append];simp[mk]
 rw[<-mk_data (mk l++mk r),this]
theorem rh:(⟨#[]⟩:ByteArray)=mk []:=rfl
theorem aB.Oz{P:Program}{f:Nat}{xs:List Value}{v:Value}(hE:Kj P f)(h:∀w,Calls P f xs.toArray w fun e w'=>e=.returned v/\Below w.heap.size w w'):aB P f (xs.map .v) [] (bU (.v v)):=by
 refine⟨hE,fun w M β vs hB hin=>?_⟩
 have hl:vs.length=xs.length:=by rw[hin.len,cg]
 have e:vs=xs:=by
  apply List.ext_getElem hl
  intro i h1 h2
  have:=hin.rep i (by simpa using h2)
  have e1:(xs.map AV.v).getD i .any=.v xs[i]:=by simp[aa,h2]
  have e2:vs.getD i undef=vs[i]:=by simp[aa,h1]
  rw[e1,e2]at this
  exact dA this
 subst e
 refine Calls.mono (h w) fun e w' ⟨he,hb⟩=>⟨v,.v v,[],M,dk,he,⟨rfl,rfl⟩,?_⟩
 have hlt:∀b k u,M.c b k=some u->b<w.heap.size:=fun b k u hc=>hin.agree.lt hc
 exact {
  le:=Mem.le.refl _,agree:=⟨fun b k u hc=>by
   rw[<-hin.agree _ _ _ hc];exact hb.cell (p:=⟨b,k,none⟩) (hlt b k u hc),fun b hp=>by
   obtain⟨k,u,hc⟩:=M.pc b hp
   rw[hb.block b (hlt b k u hc)];exact hin.agree.p b hp⟩
  rep:=.v _ _,own:=fun j hj=>by simp at hj,same:=fun j b hj=>by simp at hj,BR:=fun j l sz es hj=>(by simp at hj),apart:=fun i j b _ hi=>by simp at hi,place:=fun j b hj=>by simp at hj
  new:=fun b k u hc=>.inl hc,cB:=⟨hb.os,hb.tape,hb.output,hb.size,fun b hlt _=>hb.block b hlt⟩}
theorem aB.ML{P:Program}{f:Nat}{xs:List Value}{v:Value}{a:AV}(hE:Kj P f)(hr:∀M,bo M dk a v)(h:∀w,Calls P f xs.toArray w fun e w'=>e=.returned v/\Below w.heap.size w w'):aB P f (xs.map .v) [] (bU a):=by
 refine⟨hE,fun w M β vs hB hin=>?_⟩
 have hl:vs.length=xs.length:=by rw[hin.len,cg]
 have e:vs=xs:=by
  apply List.ext_getElem hl
  intro i h1 h2
  have:=hin.rep i (by simpa using h2)
  have e1:(xs.map AV.v).getD i .any=.v xs[i]:=by simp[aa,h2]
  have e2:vs.getD i undef=vs[i]:=by simp[aa,h1]
  rw[e1,e2]at this
  exact dA this
 subst e
 refine Calls.mono (h w) fun e w' ⟨he,hb⟩=>⟨v,a,[],M,dk,he,⟨rfl,rfl⟩,?_⟩
 have hlt:∀b k u,M.c b k=some u->b<w.heap.size:=fun b k u hc=>hin.agree.lt hc
 exact {
  le:=Mem.le.refl _,agree:=⟨fun b k u hc=>by
   rw[<-hin.agree _ _ _ hc];exact hb.cell (p:=⟨b,k,none⟩) (hlt b k u hc),fun b hp=>by
   obtain⟨k,u,hc⟩:=M.pc b hp
   rw[hb.block b (hlt b k u hc)];exact hin.agree.p b hp⟩
  rep:=hr M,own:=fun j hj=>by simp at hj,same:=fun j b hj=>by simp at hj,BR:=fun j l sz es hj=>(by simp at hj),apart:=fun i j b _ hi=>by simp at hi,place:=fun j b hj=>by simp at hj
  new:=fun b k u hc=>.inl hc,cB:=⟨hb.os,hb.tape,hb.output,hb.size,fun b hlt _=>hb.block b hlt⟩}
end Go.VL
namespace Go.VL
open Go Go.RowKit
theorem ru.law{P:Program}{W:World}{g:Nat}(hg:P.globalNamed yO=some g)(h:Lib.TabIs P W yO .u64 Lib.pow10Tab):ru P (lQ W) W:=by
 have:=h.cell hg 0 (by rw[Lib.pow10Tab_length];omega)
 exact⟨h,g,.int .u64 (Lib.pow10Tab.getD 0 0),hg,by simp only[lQ,this];rfl⟩
theorem zh{P:Program}{W:World}{x:String×DataW Unit}{l:List (String×DataW Unit)}(h:laidMet P (x::l) W):laidMet P l W:=by
 obtain⟨ps,⟨g,t,cs,fuel,p,q,_,_,_,_,hq,rfl⟩,hn,hr⟩:=h
 exact⟨q,hq,(List.nodup_append.1 hn).2.1,fun b off hb=>hr b off (az _ hb)⟩
theorem xM{P:Program}{W:World}{x:String×DataW Unit}:∀{l:List (String×DataW Unit)} (i:Nat),laidMet P l W->l[i]?=some x->∃rest,laidMet P (x::rest) W
 |[],i,_,h=>by simp at h
 |y::l,0,hm,h=>by simp at h;subst h;exact⟨l,hm⟩
 |y::l,i+1,hm,h=>xM i (zh hm) (by simpa using h)
theorem ru.laid{P:Program}{W:World}{l:List (String×DataW Unit)}{g:Nat}{t e:TypeId}{n:Nat}(i:Nat)(hg:P.globalNamed yO=some g)(hty:(P.globals[g]?).map (·.type)=some t)(ht:P.underlying t=some (.array n e))(he:P.underlying e=some (.int .u64))(hce:P.cellsOf e=1)(hct:P.cellsOf t=n)
 (hi:l[i]?=some (yO,Lib.tabData .u64 Lib.pow10Tab)) (h:laidMet P l W):ru P (lQ W) W:=by
 obtain⟨rest,h⟩:=xM i h hi
 exact ru.law hg (Lib.tabIs_of_head hg hty ht he hce hct h)
end Go.VL
set_option linter.defProp false
namespace Go.VL
open Go
def zp:=aG @B9 (aG @Dg (aG @C6 (aG @AW (aG @Di (aG @DM (aG @GP (@Gb)))))))
def zs:=aG @EO (aG @KS (aG @step1 (aG @step2 (aG @ug (aG @BB (aG @dU (aG @cE (aG @bp (aG @gY (aG @j3 (aG @true_and (aG @and_true (aG @aM.{0} (aG @a8.{0} (aG @yf (aG @tP (aG @Au (aG @Bg (aG @fE (aG @yM (aG @jt (aG @pg (aG @iE (aG @AJ (aG @zM (aG @Bp (aG @bh.{0} (aG @List.getD_cons_succ.{0} (aG @bz.{0} (aG @List.drop_succ_cons.{0} (aG @decide_eq_true_eq (aG @decide_eq_false_iff_not (aG @bne_iff_ne.{0} (aG @bne_eq_false_iff_eq.{0} (aG @beq_iff_eq.{0} (aG @beq_eq_false_iff_ne.{0} (aG @bR (aG @Bool.not_eq_false' (aG @aw.{0} (@aE.{0}))))))))))))))))))))))))))))))))))))))))
def zt:=aG @dc (aG @toList_mk (aG @extract_mk (aG @rh (aG @kA (aG @cj (aG @List.take_length.{0} (aG @bz.{0} (@Int.toNat_zero))))))))
def zf:=aG @Bool.false_and (aG @Bool.and_false (aG @Bool.false_eq_true (aG @if_false.{1} (aG @bZ (aG @Bool.and_true (aG @Bool.and_self (aG @Bool.true_or (aG @Bool.false_or (aG @Bool.or_true (aG @Bool.or_false (aG @decide_true (aG @decide_false (aG @not_true_eq_false (aG @not_false_eq_true (aG @if_true.{1} (aG @Bool.not_true (aG @Bool.not_false (@eq_self_iff_true.{1}))))))))))))))))))
end Go.VL
