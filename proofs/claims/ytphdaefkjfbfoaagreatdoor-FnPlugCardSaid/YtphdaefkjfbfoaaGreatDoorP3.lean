/-
  Part of a proof: Go functions read by values, trees of functions, their contracts.
-/
import Derived.Test.YtphdaefkjfbfoaaGreatDoorP2
import Derived.ChangeArms
import Derived.Deep.Slices
import Derived.WideKeyArgs
import Derived.ChangeSame
import Derived.OpenShut
import Derived.Shelf.Strings.Search3
set_option linter.unusedVariables false
set_option linter.unusedSimpArgs false
open And renaming intro→aH
open Bool renaming and_eq_true→au,not_eq_true'→cg,true_and→bL
open ByteArray renaming extract→bZ,size→ae,toList→ac
open Int renaming toNat_natCast→ca
open List renaming all_cons→cU,append_nil→cS,drop_zero→bo,getD_cons_zero→bp,getD_eq_getElem?_getD→aa,getElem?_drop→cP,getElem?_eq_getElem→bm,headD_cons→bg,length_cons→aw,length_map→cR,length_nil→aF,mem_append_left→aB,mem_append_right→az,mem_cons_of_mem→al,mem_cons_self→ai,mem_map→cj,range→bf,tail_cons→bx
open Nat renaming mod_lt→ep
open Option renaming getD_some→cT,map_some→cv
namespace Go.VL
open Go Go.RowKit Go.WideShapes Go.ChangeShapes
def lX(w:World):Mem where
 c b k:=match w.cell? ⟨b,k,none⟩with|some v=>if v.oneCell'=true then some v else none|none=>none
 one b k v h:=by
  split at h
  ·split at h
   ·cases h;assumption
   ·cases h
  ·cases h
 p _:=False
 pc b h:=h.elim
theorem vy(w:World):io (lX w) w where
 c b k v h:=by
  simp only[lX]at h
  split at h
  ·split at h
   ·cases h;assumption
   ·cases h
  ·cases h
 p b h:=h.elim
theorem Ct{w:World}{b k:Nat}{v:Value}(h:w.cell? ⟨b,k,none⟩=some v)(ho:v.oneCell'=true):(lX w).c b k=some v:=by
 simp only[lX,h,ho,if_true]
def nr:LK->Value->Prop
 | .int k,v=>∃n,v=.int k n/\(Lit.int k n).wf=true
 | .bool,v=>∃b,v=.bool b
 | .str,v=>∃s,v=.string s/\s.size<=maxLen
 |_,_=>False
theorem vP{k:LK}{v:Value}(h:nr k v):v.oneCell'=true:=by
 cases k<;>first|exact h.elim|skip
 ·obtain⟨n,rfl,_⟩:=h;rfl
 ·obtain⟨n,rfl⟩:=h;rfl
 ·obtain⟨n,rfl,_⟩:=h;rfl
def tf(f:TypeId->Option (List LK))(P:Program):List Field->Nat->Option (List LK)
 |[],_=>some []
 |fd::r,off=>if fd.offset=off then match f fd.type,tf f P r (off+P.cellsOf fd.type)with
  |some ks,some ks'=>if ks.length=P.cellsOf fd.type then some (ks++ks')else none
  |_,_=>none else none
def Cm(P:Program):Nat->TypeId->Option (List LK)
 |0,_=>none
 |
  n+1,t=>match P.underlying t with
  |some (.int k)=>some [.int k]
  |some .bool=>some [.bool]
  |some .string=>some [.str]
  |
   some (.struct fs)=>match tf (Cm P n) P fs.toList 0 with
   |some ks=>if ks.length=P.cellsOf t then some ks else none
   |none=>none
  |_=>none
section
variable {H:Type} {enc:TypeId×Value->H} {P:Program} {w:World} {base:Nat} {spare:Nat->Bool} {held:Bool}
theorem sF{f:TypeId->Option (List LK)}{m:Nat}{cs:List Value}
 (hf:∀t ks cs' x,f t=some ks->DataW.trod enc P w base spare held m t cs'=some x->cs'.length=ks.length/\∀i,i<ks.length->nr (ks.getD i .ku) (cs'.getD i undef)) :
 ∀(fs:List Field) (off:Nat) (ks:List LK),tf f P fs off=some ks->(∀fd,fd∈fs->∃x,DataW.trod enc P w base spare held m fd.type ((cs.drop fd.offset).take (P.cellsOf fd.type))=some x)->∀i,i<ks.length->nr (ks.getD i .ku) (cs.getD (off+i) undef)
 |[],off,ks,h,hx,i,hi=>by cases h;simp at hi
 |
  fd::r,off,ks,h,hx,i,hi=>by
  unfold tf at h
  split at h
  ·rename_i ho
   split at h
   ·rename_i ks1 ks2 h1 h2
    split at h
    ·rename_i hl
     cases h
     obtain⟨x,hx1⟩:=hx fd ai
     obtain⟨q1,q2⟩:=hf _ _ _ _ h1 hx1
     by_cases hi':i<ks1.length
     ·have:=q2 i hi'
      have e1:(ks1++ks2).getD i .ku=ks1.getD i .ku:=by simp[aa,List.getElem?_append_left hi']
      have e2:((cs.drop fd.offset).take (P.cellsOf fd.type)).getD i undef=cs.getD (off+i) undef:=by
       simp[aa,List.getElem?_take,cP,ho,show i<P.cellsOf fd.type by omega]
      rw[e1,<-e2];exact this
     ·have:=sF hf r _ _ h2 (fun g hg=>hx g (al _ hg)) (i-ks1.length) (by simp at hi;omega)
      have e1:(ks1++ks2).getD i .ku=ks2.getD (i-ks1.length) .ku:=by simp[aa,List.getElem?_append_right (show ks1.length<=i by omega)]
      rw[e1]
      rw[show off+P.cellsOf fd.type+(i-ks1.length)=off+i by omega]at this
      exact this
    ·cases h
   ·cases h
  ·cases h
theorem xL:∀(n:Nat) (t:TypeId) (ks:List LK) {m:Nat} {cs:List Value} {x:DataW H×List MemPlace},Cm P n t=some ks->DataW.trod enc P w base spare held m t cs=some x->cs.length=ks.length/\∀i,i<ks.length->nr (ks.getD i .ku) (cs.getD i undef)
 |0,t,ks,m,cs,x,h,hx=>by cases h
 |
  n+1,t,ks,m,cs,x,h,hx=>by
  unfold Cm at h
  split at h
  ·rename_i k hu
   cases h
   obtain⟨z,rfl,_,hw⟩:=DataW.trod_int hu hx
   refine⟨rfl,fun i hi=>?_⟩
   have:i=0:=by simpa using hi
   subst this
   exact⟨z,rfl,hw⟩
  ·rename_i hu
   cases h
   obtain⟨z,rfl,_⟩:=DataW.trod_bool hu hx
   refine⟨rfl,fun i hi=>?_⟩
   have:i=0:=by simpa using hi
   subst this
   exact⟨z,rfl⟩
  ·rename_i hu
   cases h
   obtain⟨z,rfl,_,hw⟩:=DataW.trod_string hu hx
   refine⟨rfl,fun i hi=>?_⟩
   have:i=0:=by simpa using hi
   subst this
   exact⟨z,rfl,hw⟩
  ·rename_i fs hu
   split at h
   ·rename_i ks' hs
    split at h
    ·rename_i hl
     cases h
     obtain⟨xs,m',rfl,_,h1,h2,h3⟩:=DataW.trod_struct hu hx
     refine⟨by omega,fun i hi=>?_⟩
     have:=sF (m:=m') (cs:=cs) (fun t ks cs' x h1 h2=>xL n t ks h1 h2) fs.toList 0 ks hs (fun fd hfd=>by
      obtain⟨j,hj,e⟩:=List.getElem_of_mem hfd
      have hj':j<fs.size:=by simpa using hj
      have e':fs[j]?=some fd:=by simp[hj',<-e]
      have h4:=h3 j fd e'
      rw[bm (by omega)]at h4
      exact⟨_,h4⟩) i hi
     simpa using this
    ·cases h
   ·cases h
  ·cases h
theorem yX{r:Reach}{b0:Nat}{t e:TypeId}{n:Nat}{ks:List LK}{v:Value}{d:DataW H}{ps:List MemPlace}(ht:P.underlying t=some (.slice e))(hs:Cm P n e=some ks)(hc:P.cellsOf e=ks.length)
 (hval:Value.okWide P w r b0 t v) (hd:DataW.Trod enc P w base (fun _=>true) held t v d ps) :
 ∃a,bw (lX w) dw a v/\(a=.v (.slice none 0 0)\/∃es,a=.sl es/\es.length<=maxLen/\∀c,c∈es->c.length=ks.length/\∀i,i<ks.length->∃x,c.getD i .any=.v x/\nr (ks.getD i .ku) x):=by
 obtain⟨m,hd⟩:=hd
 rcases Deep.open_slice ht hd with⟨h,_⟩|⟨a,len,cap,m',n',D,Pl,h,hb,hl,hm,hmm,hx',hx⟩
 ·have:v=.slice none 0 0:=by
   cases v<;>first|(simp[Value.okWide,ht,Cell.okWide,Cell.ok]at hval;done)|simpa[Value.cells]using h
  subst this
  exact⟨_,.v _ _,.inl rfl⟩
 ·have hv:v=.slice (some a) len cap:=by
   cases v<;>first|(simp[Value.okWide,ht,Cell.okWide,Cell.ok]at hval;done)|simpa[Value.cells]using h
  subst hv
  have hspot:a.spot=none:=by
   simp only[Value.okWide,ht,Cell.okWide,Cell.ok]at hval
   exact hval.2.2.2.1
  obtain⟨ab,ao,asp⟩:=a
  simp only at hspot
  subst hspot
  simp only[if_true]at hmm
  have hadd:∀o i,(Addr.add ⟨ab,o,none⟩ i)=⟨ab,o+i,none⟩:=fun o i=>by unfold Addr.add;split<;>simp_all
  let us:Nat->Value:=fun j=>(w.cell? ⟨ab,ao+j,none⟩).getD undef
  have key:∀i,i<len->∀j,j<ks.length->w.cell? ⟨ab,ao+(i*ks.length+j),none⟩=some (us (i*ks.length+j))/\nr (ks.getD j .ku) (us (i*ks.length+j)):=fun i hi j hj=>by
   obtain⟨cs',h1,h2⟩:=hx i (by omega)
   obtain⟨q1,q2⟩:=xL n e ks hs h2
   obtain⟨_,q3,q4⟩:=World.cells?_some h1
   have q5:=q4 j (by omega)
   rw[hc,hadd,hadd,bm (by omega)]at q5
   have e0:ao+i*ks.length+j=ao+(i*ks.length+j):=by omega
   rw[e0]at q5
   have e1:us (i*ks.length+j)=cs'.getD j undef:=by simp[us,q5,aa,show j<cs'.length by omega]
   refine⟨by rw[e1,q5];simp[aa,show j<cs'.length by omega],by rw[e1];exact q2 j hj⟩
  let es:List (List AV):=(bf len).map fun i=>(bf ks.length).map fun j=>.v (us (i*ks.length+j))
  have hel:es.length=len:=by simp[es]
  have hg:∀i,i<len->es.getD i []=(bf ks.length).map fun j=>.v (us (i*ks.length+j)):=fun i hi=>by
   simp[es,aa,hi]
  refine⟨.sl es,?_,.inr ⟨es,rfl,by omega,fun c hcm=>?_⟩⟩
  ·have:=bw.sl (M:=lX w) dw es ab ao cap ks.length us (by omega) (fun i hi=>by rw[hg i (by omega)];simp) (fun i hi=>by
    rw[hel]at hi
    have hk:0<ks.length:=by
     rcases Nat.eq_zero_or_pos ks.length with h|h
     ·rw[h]at hi;omega
     ·exact h
    have h1:i/ks.length<len:=Nat.div_lt_of_lt_mul (by rw[Nat.mul_comm];exact hi)
    have h2:=ep i hk
    have e0:i/ks.length*ks.length+i%ks.length=i:=by rw[Nat.mul_comm];exact Nat.div_add_mod i _
    have:=key _ h1 _ h2
    rw[e0]at this
    exact Ct this.1 (vP this.2)) (fun i j hi hj=>by
    rw[hg i (by omega)]
    simp only[aa,List.getElem?_map,List.getElem?_range hj,cv,cT]
    exact .v _ _)
   rw[hel]at this
   exact this
  ·obtain⟨i,hi,rfl⟩:=cj.1 hcm
   have hi:=List.mem_range.1 hi
   refine⟨by simp,fun j hj=>⟨us (i*ks.length+j),by simp[aa,hj],(key i hi j hj).2⟩⟩
theorem nj(hl:laidOutB P=true){W W':World}{sp:Nat->Bool}:∀{ts:List TypeId} {vs:List Value} {ds:List (DataW H)} {ps:List MemPlace},(ts.all fun t=>P.readableRec t&&decide (t<P.types.size))=true ->
 DataW.TrodAll enc P W 0 (fun _=>true) true ts vs ds ps->Below W.heap.size W W'->(∀p,p∈ps->p.block<W.heap.size)->(∀p,p∈ps->sp p.block=true)->DataW.TrodAll enc P W' 0 sp true ts vs ds ps
 |[],[],[],ps,_,h,_,_,_=>h
 |
  t::ts,v::vs,d::ds,ps,ht,h,hb,hlt,hs=>by
  obtain⟨p,q,h1,h2,rfl⟩:=h
  simp only[cU,au,decide_eq_true_eq]at ht
  exact⟨p,q,WideElems.Trod_stays hl ht.1.1 ht.1.2 h1 (fun x hx=>hb.same (hlt x (aB _ hx))) (fun x hx=>hs x (aB _ hx)),
   nj hl ht.2 h2 hb (fun x hx=>hlt x (az _ hx)) (fun x hx=>hs x (az _ hx)),rfl⟩
 |[],[],_::_,_,_,h,_,_,_=>h.elim
 |[],_::_,_,_,_,h,_,_,_=>h.elim
 |_::_,[],_,_,_,h,_,_,_=>h.elim
 |_::_,_::_,[],_,_,h,_,_,_=>h.elim
end
theorem BM{H:Type}{enc:TypeId×Value->H}{P:Program}{f:Func}{s:ChangeSpec}{apart fresh handsOn:Bool}{W W':World}{args:Array Value}{ds gs:List (DataW H)}{ps:List MemPlace}{t:TypeId}
 (hW:DataW.Whole enc P f.params.toList s.vars apart W args.toList ds gs ps) (hl:laidOutB P=true)
 (hp:(f.params.toList.all fun t=>P.readableRec t&&decide (t<P.types.size))=true) (hv:s.vars=[]) (hfn:s.fn H ds = {results:=[.lit (.bool true)],args:=ds}) (hr:f.resultTypes = #[t]) (ht:P.underlying t=some .bool) (hb:Below W.heap.size W W') :
 s.post enc P f apart fresh handsOn false W args (.bool true) W':=by
 have hlt:∀p,p∈ps->p.block<W.heap.size:=fun p hp=>hW.lt p hp
 have hW':=hW
 obtain⟨p,q,hA,hV,e,_,_⟩:=hW
 rw[hv]at hV
 obtain⟨rfl,rfl⟩:=trodVars_none hV
 rw[cS]at e
 subst e
 refine⟨ds,[],ps,[],ps,[],hW',?_,?_,?_,World.keptBut_mono (fun x hx=>⟨hx,.inr (.inl hx)⟩) (hb.frame (·∈ps)),fun h=>(by cases h)⟩
 ·rw[hr,cS,hfn]
  exact trodAll_mk1 (shut_bool ht _)
 ·rw[cS,hfn]
  exact nj hl hp hA hb hlt fun x hx=>by simpa using hlt x hx
 ·rw[cS,hfn,hv]
  rfl
theorem aq.law{P:Program}{f:Nat}{asq:List AV}{vs:List Value}{W:World}(h:aq P f asq [] (bC (.v (.bool true))))(hlen:vs.length=asq.length)(hr:∀i,i<asq.length->bw (lX W) dw (asq.getD i .any) (vs.getD i undef))(hW:qM P (lX W) W:=by trivial) :
 Calls P f vs.toArray W fun e w'=>e=.returned (.bool true)/\Below W.heap.size W w':=by
 refine Calls.mono (h.2 W (lX W) dw vs hW ⟨hlen,hr,vy W,fun j hj=>(by cases hj),fun _ _=>rfl,fun i j b _ hi=>(by cases hi)⟩) ?_
 rintro e w' ⟨v,r,obs,M',β',rfl,⟨rfl,rfl⟩,ho⟩
 have hv:=ho.sr
 cases hv
 exact⟨rfl,ho.cE.os,ho.cE.tape,ho.cE.output,ho.cE.size,fun b hb=>ho.cE.block b hb (fun⟨i,hi,_⟩=>by cases hi)⟩
end Go.VL
namespace Go.VL
open Go Go.RowKit
theorem A4{l r:List UInt8}(h:mk l=mk r):l=r:=by
 have:(mk l).data.toList=(mk r).data.toList:=by rw[h]
 simpa[mk]using this
theorem cz(l:List UInt8):(mk l).size=l.length:=by simp[mk,ae]
theorem toList_mk(l:List UInt8):ac (mk l)=l:=by rw[Lib.toList_data];simp[mk]
theorem mk_data(s:ByteArray):mk s.data.toList=s:=by cases s;simp[mk]
theorem lY(l:List UInt8)(i:Nat)(h:i<l.length):bt (mk l) (i:Int)=((l.getD i 0).toNat:Int):=by
 unfold bt
 rw[dif_pos (by rw[cz];simpa using h)]
 have:(mk l)[(i:Int).toNat]'(by rw[cz];simpa using h)=l[i]:=by
  show (mk l).data[i]'_=_
  simp[mk]
 rw[this];simp[aa,h]
theorem extract_mk(l:List UInt8)(a b:Nat):bZ (mk l) a b=mk ((l.take b).drop a):=by
 have:(bZ (mk l) a b).data.toList=(l.take b).drop a:=by
  rw[ByteArray.data_extract]
  simp[mk,List.extract_eq_take_drop,List.drop_take]
 rw[<-mk_data (bZ (mk l) a b),this]
theorem kU(l r:List UInt8):(mk l:ByteArray)++mk r=mk (l++r):=by
 have:((mk l:ByteArray)++mk r).data.toList=l++r:=by
  rw[ByteArray.data_append];simp[mk]
 rw[<-mk_data (mk l++mk r),this]
theorem qD:(⟨#[]⟩:ByteArray)=mk []:=rfl
theorem aq.PG{P:Program}{f:Nat}{xs:List Value}{v:Value}(hE:Hj P f)(h:∀w,Calls P f xs.toArray w fun e w'=>e=.returned v/\Below w.heap.size w w'):aq P f (xs.map .v) [] (bC (.v v)):=by
 refine⟨hE,fun w M β vs hB hin=>?_⟩
 have hl:vs.length=xs.length:=by rw[hin.len,cR]
 have e:vs=xs:=by
  apply List.ext_getElem hl
  intro i h1 h2
  have:=hin.sr i (by simpa using h2)
  have e1:(xs.map AV.v).getD i .any=.v xs[i]:=by simp[aa,h2]
  have e2:vs.getD i undef=vs[i]:=by simp[aa,h1]
  rw[e1,e2]at this
  exact dG this
 subst e
 refine Calls.mono (h w) fun e w' ⟨he,hb⟩=>⟨v,.v v,[],M,dw,he,⟨rfl,rfl⟩,?_⟩
 have hlt:∀b k u,M.c b k=some u->b<w.heap.size:=fun b k u hc=>hin.agree.lt hc
 exact {
  le:=Mem.le.refl _,agree:=⟨fun b k u hc=>by
   rw[<-hin.agree _ _ _ hc];exact hb.cell (p:=⟨b,k,none⟩) (hlt b k u hc),fun b hp=>by
   obtain⟨k,u,hc⟩:=M.pc b hp
   rw[hb.block b (hlt b k u hc)];exact hin.agree.p b hp⟩
  sr:=.v _ _,own:=fun j hj=>by simp at hj,same:=fun j b hj=>by simp at hj,xh:=fun j l sz es hj=>(by simp at hj),apart:=fun i j b _ hi=>by simp at hi,place:=fun j b hj=>by simp at hj
  new:=fun b k u hc=>.inl hc,cE:=⟨hb.os,hb.tape,hb.output,hb.size,fun b hlt _=>hb.block b hlt⟩}
theorem aq.Ng{P:Program}{f:Nat}{xs:List Value}{v:Value}{a:AV}(hE:Hj P f)(hr:∀M,bw M dw a v)(h:∀w,Calls P f xs.toArray w fun e w'=>e=.returned v/\Below w.heap.size w w'):aq P f (xs.map .v) [] (bC a):=by
 refine⟨hE,fun w M β vs hB hin=>?_⟩
 have hl:vs.length=xs.length:=by rw[hin.len,cR]
 have e:vs=xs:=by
  apply List.ext_getElem hl
  intro i h1 h2
  have:=hin.sr i (by simpa using h2)
  have e1:(xs.map AV.v).getD i .any=.v xs[i]:=by simp[aa,h2]
  have e2:vs.getD i undef=vs[i]:=by simp[aa,h1]
  rw[e1,e2]at this
  exact dG this
 subst e
 refine Calls.mono (h w) fun e w' ⟨he,hb⟩=>⟨v,a,[],M,dw,he,⟨rfl,rfl⟩,?_⟩
 have hlt:∀b k u,M.c b k=some u->b<w.heap.size:=fun b k u hc=>hin.agree.lt hc
 exact {
  le:=Mem.le.refl _,agree:=⟨fun b k u hc=>by
   rw[<-hin.agree _ _ _ hc];exact hb.cell (p:=⟨b,k,none⟩) (hlt b k u hc),fun b hp=>by
   obtain⟨k,u,hc⟩:=M.pc b hp
   rw[hb.block b (hlt b k u hc)];exact hin.agree.p b hp⟩
  sr:=hr M,own:=fun j hj=>by simp at hj,same:=fun j b hj=>by simp at hj,xh:=fun j l sz es hj=>(by simp at hj),apart:=fun i j b _ hi=>by simp at hi,place:=fun j b hj=>by simp at hj
  new:=fun b k u hc=>.inl hc,cE:=⟨hb.os,hb.tape,hb.output,hb.size,fun b hlt _=>hb.block b hlt⟩}
end Go.VL
namespace Go.VL
open Go Go.RowKit
theorem qM.law{P:Program}{W:World}{g:Nat}(hg:P.globalNamed wh=some g)(h:Lib.TabIs P W wh .u64 Lib.pow10Tab):qM P (lX W) W:=by
 have:=h.cell hg 0 (by rw[Lib.pow10Tab_length];omega)
 exact⟨h,g,.int .u64 (Lib.pow10Tab.getD 0 0),hg,by simp only[lX,this];rfl⟩
theorem zo{P:Program}{W:World}{x:String×DataW Unit}{l:List (String×DataW Unit)}(h:laidMet P (x::l) W):laidMet P l W:=by
 obtain⟨ps,⟨g,t,cs,fuel,p,q,_,_,_,_,hq,rfl⟩,hn,hr⟩:=h
 exact⟨q,hq,(List.nodup_append.1 hn).2.1,fun b off hb=>hr b off (az _ hb)⟩
theorem yk{P:Program}{W:World}{x:String×DataW Unit}:∀{l:List (String×DataW Unit)} (i:Nat),laidMet P l W->l[i]?=some x->∃rest,laidMet P (x::rest) W
 |[],i,_,h=>by simp at h
 |y::l,0,hm,h=>by simp at h;subst h;exact⟨l,hm⟩
 |y::l,i+1,hm,h=>yk i (zo hm) (by simpa using h)
theorem qM.laid{P:Program}{W:World}{l:List (String×DataW Unit)}{g:Nat}{t e:TypeId}{n:Nat}(i:Nat)(hg:P.globalNamed wh=some g)(hty:(P.globals[g]?).map (·.type)=some t)(ht:P.underlying t=some (.array n e))(he:P.underlying e=some (.int .u64))(hce:P.cellsOf e=1)(hct:P.cellsOf t=n)
 (hi:l[i]?=some (wh,Lib.tabData .u64 Lib.pow10Tab)) (h:laidMet P l W):qM P (lX W) W:=by
 obtain⟨rest,h⟩:=yk i h hi
 exact qM.law hg (Lib.tabIs_of_head hg hty ht he hce hct h)
theorem aq.N0{P:Program}{f:Nat}{xs:List Value}{v:Value}(hE:Hj P f)(h:∀w,Lib.TabIs P w wh .u64 Lib.pow10Tab->Calls P f xs.toArray w fun e w'=>e=.returned v/\Below w.heap.size w w'):aq P f (xs.map .v) [] (bC (.v v)):=by
 refine⟨hE,fun w M β vs hB hin=>?_⟩
 have hl:vs.length=xs.length:=by rw[hin.len,cR]
 have e:vs=xs:=by
  apply List.ext_getElem hl
  intro i h1 h2
  have:=hin.sr i (by simpa using h2)
  have e1:(xs.map AV.v).getD i .any=.v xs[i]:=by simp[aa,h2]
  have e2:vs.getD i undef=vs[i]:=by simp[aa,h1]
  rw[e1,e2]at this
  exact dG this
 subst e
 refine Calls.mono (h w hB.is) fun e w' ⟨he,hb⟩=>⟨v,.v v,[],M,dw,he,⟨rfl,rfl⟩,?_⟩
 have hlt:∀b k u,M.c b k=some u->b<w.heap.size:=fun b k u hc=>hin.agree.lt hc
 exact {
  le:=Mem.le.refl _,agree:=⟨fun b k u hc=>by
   rw[<-hin.agree _ _ _ hc];exact hb.cell (p:=⟨b,k,none⟩) (hlt b k u hc),fun b hp=>by
   obtain⟨k,u,hc⟩:=M.pc b hp
   rw[hb.block b (hlt b k u hc)];exact hin.agree.p b hp⟩
  sr:=.v _ _,own:=fun j hj=>by simp at hj,same:=fun j b hj=>by simp at hj,xh:=fun j l sz es hj=>(by simp at hj),apart:=fun i j b _ hi=>by simp at hi,place:=fun j b hj=>by simp at hj
  new:=fun b k u hc=>.inl hc,cE:=⟨hb.os,hb.tape,hb.output,hb.size,fun b hlt _=>hb.block b hlt⟩}
end Go.VL
set_option linter.defProp false
namespace Go.VL
open Go
def zp:=aH @BX (aH @Dw (aH @BW (aH @AB (aH @Ds (aH @CL (aH @ED (@EB)))))))
def zs:=aH @Gi (aH @JU (aH @step1 (aH @step2 (aH @k8 (aH @AL (aH @dq (aH @cb (aH @bq (aH @ci (aH @jg (aH @true_and (aH @and_true (aH @bg.{0} (aH @bx.{0} (aH @wW (aH @s3 (aH @Aj (aH @AD (aH @fF (aH @yE (aH @jH (aH @pd (aH @jI (aH @A3 (aH @Bj (aH @AW (aH @bp.{0} (aH @List.getD_cons_succ.{0} (aH @bo.{0} (aH @List.drop_succ_cons.{0} (aH @decide_eq_true_eq (aH @decide_eq_false_iff_not (aH @bne_iff_ne.{0} (aH @bne_eq_false_iff_eq.{0} (aH @beq_iff_eq.{0} (aH @beq_eq_false_iff_ne.{0} (aH @cg (aH @Bool.not_eq_false' (aH @aw.{0} (@aF.{0}))))))))))))))))))))))))))))))))))))))))
def zt:=aH @cz (aH @toList_mk (aH @extract_mk (aH @qD (aH @kU (aH @ca (aH @List.take_length.{0} (aH @bo.{0} (@Int.toNat_zero))))))))
def zf:=aH @Bool.false_and (aH @Bool.and_false (aH @Bool.false_eq_true (aH @if_false.{1} (aH @bL (aH @Bool.and_true (aH @Bool.and_self (aH @Bool.true_or (aH @Bool.false_or (aH @Bool.or_true (aH @Bool.or_false (aH @decide_true (aH @decide_false (aH @not_true_eq_false (aH @not_false_eq_true (aH @if_true.{1} (aH @Bool.not_true (aH @Bool.not_false (@eq_self_iff_true.{1}))))))))))))))))))
end Go.VL
