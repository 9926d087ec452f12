/-
  Part of a proof: Go functions read by values, trees of functions, their contracts.
-/
import Derived.Test.YtggigekpnbafbaaGreatDoorP2
import Derived.ChangeArms
import Derived.Deep.Slices
import Derived.WideKeyArgs
import Derived.ChangeSame
import Derived.OpenShut
import Derived.Shelf.Strings.Search3
set_option linter.unusedVariables false
set_option linter.unusedSimpArgs false
open And renaming intro→aI
open Bool renaming and_eq_true→az,not_eq_true'→cc,true_and→cn
open ByteArray renaming extract→cd,size→af,toList→ae
open Int renaming toNat_natCast→bR
open List renaming all_cons→cT,append_nil→cR,drop_zero→bG,getD_cons_zero→bp,getD_eq_getElem?_getD→aa,getElem?_drop→cO,getElem?_eq_getElem→bg,headD_cons→aP,length_cons→au,length_map→cg,length_nil→aG,mem_append_left→aC,mem_append_right→aB,mem_cons_of_mem→al,mem_cons_self→ai,mem_map→bJ,range→bf,tail_cons→bO
open Nat renaming add_zero→bX,le_refl→aw,mul_one→dq
open Option renaming getD_some→cz,map_some→cu
namespace Go.VL
open Go Go.RowKit Go.WideShapes Go.ChangeShapes
def kA(w:World):Mem where
 c b k:=match w.cell? ⟨b,k,none⟩with|some v=>if v.oneCell'=true then some v else none|none=>none
 one b k v h:=by
  split at h
  ·split at h
   ·cases h;assumption
   ·cases h
  ·cases h
 p _:=False
 pc b h:=h.elim
theorem vm(w:World):gP (kA w) w where
 c b k v h:=by
  simp only[kA]at h
  split at h
  ·split at h
   ·cases h;assumption
   ·cases h
  ·cases h
 p b h:=h.elim
theorem CP{w:World}{b k:Nat}{v:Value}(h:w.cell? ⟨b,k,none⟩=some v)(ho:v.oneCell'=true):(kA w).c b k=some v:=by
 simp only[kA,h,ho,if_true]
def nv:LK->Value->Prop
 | .int k,v=>∃n,v=.int k n/\(Lit.int k n).wf=true
 | .bool,v=>∃b,v=.bool b
 | .str,v=>∃s,v=.string s/\s.size<=maxLen
 |_,_=>False
theorem wk{k:LK}{v:Value}(h:nv k v):v.oneCell'=true:=by
 cases k<;>first|exact h.elim|skip
 ·obtain⟨n,rfl,_⟩:=h;rfl
 ·obtain⟨n,rfl⟩:=h;rfl
 ·obtain⟨n,rfl,_⟩:=h;rfl
def uG(f:TypeId->Option (List LK))(P:Program):List Field->Nat->Option (List LK)
 |[],_=>some []
 |fd::r,off=>if fd.offset=off then match f fd.type,uG f P r (off+P.cellsOf fd.type)with
  |some ks,some ks'=>if ks.length=P.cellsOf fd.type then some (ks++ks')else none
  |_,_=>none else none
def DX(P:Program):Nat->TypeId->Option (List LK)
 |0,_=>none
 |
  n+1,t=>match P.underlying t with
  |some (.int k)=>some [.int k]
  |some .bool=>some [.bool]
  |some .string=>some [.str]
  |
   some (.struct fs)=>match uG (DX P n) P fs.toList 0 with
   |some ks=>if ks.length=P.cellsOf t then some ks else none
   |none=>none
  |_=>none
section
variable {H:Type} {enc:TypeId×Value->H} {P:Program} {w:World} {base:Nat} {spare:Nat->Bool} {held:Bool}
theorem s4{f:TypeId->Option (List LK)}{m:Nat}{cs:List Value}
 (hf:∀t ks cs' x,f t=some ks->DataW.trod enc P w base spare held m t cs'=some x->cs'.length=ks.length/\∀i,i<ks.length->nv (ks.getD i .jK) (cs'.getD i undef)) :
 ∀(fs:List Field) (off:Nat) (ks:List LK),uG f P fs off=some ks->(∀fd,fd∈fs->∃x,DataW.trod enc P w base spare held m fd.type ((cs.drop fd.offset).take (P.cellsOf fd.type))=some x)->∀i,i<ks.length->nv (ks.getD i .jK) (cs.getD (off+i) undef)
 |[],off,ks,h,hx,i,hi=>by cases h;simp at hi
 |
  fd::r,off,ks,h,hx,i,hi=>by
  unfold uG at h
  split at h
  ·rename_i ho
   split at h
   ·rename_i ks1 ks2 h1 h2
    split at h
    ·rename_i hl
     cases h
     obtain⟨x,hx1⟩:=hx fd ai
     obtain⟨q1,q2⟩:=hf _ _ _ _ h1 hx1
     by_cases hi':i<ks1.length
     ·have:=q2 i hi'
      have e1:(ks1++ks2).getD i .jK=ks1.getD i .jK:=by simp[aa,List.getElem?_append_left hi']
      have e2:((cs.drop fd.offset).take (P.cellsOf fd.type)).getD i undef=cs.getD (off+i) undef:=by
       simp[aa,List.getElem?_take,cO,ho,show i<P.cellsOf fd.type by omega]
      rw[e1,<-e2];exact this
     ·have:=s4 hf r _ _ h2 (fun g hg=>hx g (al _ hg)) (i-ks1.length) (by simp at hi;omega)
      have e1:(ks1++ks2).getD i .jK=ks2.getD (i-ks1.length) .jK:=by simp[aa,List.getElem?_append_right (show ks1.length<=i by omega)]
      rw[e1]
      rw[show off+P.cellsOf fd.type+(i-ks1.length)=off+i by omega]at this
      exact this
    ·cases h
   ·cases h
  ·cases h
theorem xn:∀(n:Nat) (t:TypeId) (ks:List LK) {m:Nat} {cs:List Value} {x:DataW H×List MemPlace},DX P n t=some ks->DataW.trod enc P w base spare held m t cs=some x->cs.length=ks.length/\∀i,i<ks.length->nv (ks.getD i .jK) (cs.getD i undef)
 |0,t,ks,m,cs,x,h,hx=>by cases h
 |
  n+1,t,ks,m,cs,x,h,hx=>by
  unfold DX at h
  split at h
  ·rename_i k hu
   cases h
   obtain⟨z,rfl,_,hw⟩:=DataW.trod_int hu hx
   refine⟨rfl,fun i hi=>?_⟩
   have:i=0:=by simpa using hi
   subst this
   exact⟨z,rfl,hw⟩
  ·rename_i hu
   cases h
   obtain⟨z,rfl,_⟩:=DataW.trod_bool hu hx
   refine⟨rfl,fun i hi=>?_⟩
   have:i=0:=by simpa using hi
   subst this
   exact⟨z,rfl⟩
  ·rename_i hu
   cases h
   obtain⟨z,rfl,_,hw⟩:=DataW.trod_string hu hx
   refine⟨rfl,fun i hi=>?_⟩
   have:i=0:=by simpa using hi
   subst this
   exact⟨z,rfl,hw⟩
  ·rename_i fs hu
   split at h
   ·rename_i ks' hs
    split at h
    ·rename_i hl
     cases h
     obtain⟨xs,m',rfl,_,h1,h2,h3⟩:=DataW.trod_struct hu hx
     refine⟨by omega,fun i hi=>?_⟩
     have:=s4 (m:=m') (cs:=cs) (fun t ks cs' x h1 h2=>xn n t ks h1 h2) fs.toList 0 ks hs (fun fd hfd=>by
      obtain⟨j,hj,e⟩:=List.getElem_of_mem hfd
      have hj':j<fs.size:=by simpa using hj
      have e':fs[j]?=some fd:=by simp[hj',<-e]
      have h4:=h3 j fd e'
      rw[bg (by omega)]at h4
      exact⟨_,h4⟩) i hi
     simpa using this
    ·cases h
   ·cases h
  ·cases h
theorem yP{r:Reach}{b0:Nat}{t e:TypeId}{n:Nat}{ks:List LK}{v:Value}{d:DataW H}{ps:List MemPlace}(ht:P.underlying t=some (.slice e))(hs:DX P n e=some ks)(hc:P.cellsOf e=ks.length)
 (hval:Value.okWide P w r b0 t v) (hd:DataW.Trod enc P w base (fun _=>true) held t v d ps) :
 ∃a,bx (kA w) dm a v/\(a=.v (.slice none 0 0)\/∃es,a=.sl es/\es.length<=maxLen/\∀c,c∈es->c.length=ks.length/\∀i,i<ks.length->∃x,c.getD i .any=.v x/\nv (ks.getD i .jK) x):=by
 obtain⟨m,hd⟩:=hd
 rcases Deep.open_slice ht hd with⟨h,_⟩|⟨a,len,cap,m',n',D,Pl,h,hb,hl,hm,hmm,hx',hx⟩
 ·have:v=.slice none 0 0:=by
   cases v<;>first|(simp[Value.okWide,ht,Cell.okWide,Cell.ok]at hval;done)|simpa[Value.cells]using h
  subst this
  exact⟨_,.v _ _,.inl rfl⟩
 ·have hv:v=.slice (some a) len cap:=by
   cases v<;>first|(simp[Value.okWide,ht,Cell.okWide,Cell.ok]at hval;done)|simpa[Value.cells]using h
  subst hv
  have hspot:a.spot=none:=by
   simp only[Value.okWide,ht,Cell.okWide,Cell.ok]at hval
   exact hval.2.2.2.1
  obtain⟨ab,ao,asp⟩:=a
  simp only at hspot
  subst hspot
  simp only[if_true]at hmm
  have hadd:∀o i,(Addr.add ⟨ab,o,none⟩ i)=⟨ab,o+i,none⟩:=fun o i=>by unfold Addr.add;split<;>simp_all
  let us:Nat->Value:=fun j=>(w.cell? ⟨ab,ao+j,none⟩).getD undef
  have key:∀i,i<len->∀j,j<ks.length->w.cell? ⟨ab,ao+(i*ks.length+j),none⟩=some (us (i*ks.length+j))/\nv (ks.getD j .jK) (us (i*ks.length+j)):=fun i hi j hj=>by
   obtain⟨cs',h1,h2⟩:=hx i (by omega)
   obtain⟨q1,q2⟩:=xn n e ks hs h2
   obtain⟨_,q3,q4⟩:=World.cells?_some h1
   have q5:=q4 j (by omega)
   rw[hc,hadd,hadd,bg (by omega)]at q5
   have e0:ao+i*ks.length+j=ao+(i*ks.length+j):=by omega
   rw[e0]at q5
   have e1:us (i*ks.length+j)=cs'.getD j undef:=by simp[us,q5,aa,show j<cs'.length by omega]
   refine⟨by rw[e1,q5];simp[aa,show j<cs'.length by omega],by rw[e1];exact q2 j hj⟩
  let es:List (List AV):=(bf len).map fun i=>(bf ks.length).map fun j=>.v (us (i*ks.length+j))
  have hel:es.length=len:=by simp[es]
  have hg:∀i,i<len->es.getD i []=(bf ks.length).map fun j=>.v (us (i*ks.length+j)):=fun i hi=>by
   simp[es,aa,hi]
  refine⟨.sl es,?_,.inr ⟨es,rfl,by omega,fun c hcm=>?_⟩⟩
  ·have:=bx.sl (M:=kA w) dm es ab ao cap ks.length us (by omega) (fun i hi=>by rw[hg i (by omega)];simp) (fun i hi=>by
    rw[hel]at hi
    have hk:0<ks.length:=by
     rcases Nat.eq_zero_or_pos ks.length with h|h
     ·rw[h]at hi;omega
     ·exact h
    have h1:i/ks.length<len:=Nat.div_lt_of_lt_mul (by rw[Nat.mul_comm];exact hi)
    have h2:=Nat.mod_lt i hk
    have e0:i/ks.length*ks.length+i%ks.length=i:=by rw[Nat.mul_comm];exact Nat.div_add_mod i _
    have:=key _ h1 _ h2
    rw[e0]at this
    exact CP this.1 (wk this.2)) (fun i j hi hj=>by
    rw[hg i (by omega)]
    simp only[aa,List.getElem?_map,List.getElem?_range hj,cu,cz]
    exact .v _ _)
   rw[hel]at this
   exact this
  ·obtain⟨i,hi,rfl⟩:=bJ.1 hcm
   have hi:=List.mem_range.1 hi
   refine⟨by simp,fun j hj=>⟨us (i*ks.length+j),by simp[aa,hj],(key i hi j hj).2⟩⟩
theorem na(hl:laidOutB P=true){W W':World}{sp:Nat->Bool}:∀{ts:List TypeId} {vs:List Value} {ds:List (DataW H)} {ps:List MemPlace},(ts.all fun t=>P.readableRec t&&decide (t<P.types.size))=true ->
 DataW.TrodAll enc P W 0 (fun _=>true) true ts vs ds ps->Below W.heap.size W W'->(∀p,p∈ps->p.block<W.heap.size)->(∀p,p∈ps->sp p.block=true)->DataW.TrodAll enc P W' 0 sp true ts vs ds ps
 |[],[],[],ps,_,h,_,_,_=>h
 |
  t::ts,v::vs,d::ds,ps,ht,h,hb,hlt,hs=>by
  obtain⟨p,q,h1,h2,rfl⟩:=h
  simp only[cT,az,decide_eq_true_eq]at ht
  exact⟨p,q,WideElems.Trod_stays hl ht.1.1 ht.1.2 h1 (fun x hx=>hb.same (hlt x (aC _ hx))) (fun x hx=>hs x (aC _ hx)),
   na hl ht.2 h2 hb (fun x hx=>hlt x (aB _ hx)) (fun x hx=>hs x (aB _ hx)),rfl⟩
 |[],[],_::_,_,_,h,_,_,_=>h.elim
 |[],_::_,_,_,_,h,_,_,_=>h.elim
 |_::_,[],_,_,_,h,_,_,_=>h.elim
 |_::_,_::_,[],_,_,h,_,_,_=>h.elim
end
theorem AF{H:Type}{enc:TypeId×Value->H}{P:Program}{f:Func}{s:ChangeSpec}{apart fresh handsOn:Bool}{W W':World}{args:Array Value}{ds gs:List (DataW H)}{ps:List MemPlace}{t:TypeId}
 (hW:DataW.Whole enc P f.params.toList s.vars apart W args.toList ds gs ps) (hl:laidOutB P=true)
 (hp:(f.params.toList.all fun t=>P.readableRec t&&decide (t<P.types.size))=true) (hv:s.vars=[]) (hfn:s.fn H ds = {results:=[.lit (.bool true)],args:=ds}) (hr:f.resultTypes = #[t]) (ht:P.underlying t=some .bool) (hb:Below W.heap.size W W') :
 s.post enc P f apart fresh handsOn false W args (.bool true) W':=by
 have hlt:∀p,p∈ps->p.block<W.heap.size:=fun p hp=>hW.lt p hp
 have hW':=hW
 obtain⟨p,q,hA,hV,e,_,_⟩:=hW
 rw[hv]at hV
 obtain⟨rfl,rfl⟩:=trodVars_none hV
 rw[cR]at e
 subst e
 refine⟨ds,[],ps,[],ps,[],hW',?_,?_,?_,World.keptBut_mono (fun x hx=>⟨hx,.inr (.inl hx)⟩) (hb.frame (·∈ps)),fun h=>(by cases h)⟩
 ·rw[hr,cR,hfn]
  exact trodAll_mk1 (shut_bool ht _)
 ·rw[cR,hfn]
  exact na hl hp hA hb hlt fun x hx=>by simpa using hlt x hx
 ·rw[cR,hfn,hv]
  rfl
theorem an.law{P:Program}{f:Nat}{asq:List AV}{vs:List Value}{W:World}(h:an P f asq [] (bB (.v (.bool true))))(hlen:vs.length=asq.length)(hr:∀i,i<asq.length->bx (kA W) dm (asq.getD i .any) (vs.getD i undef))(hW:sd P (kA W) W:=by trivial) :
 Calls P f vs.toArray W fun e w'=>e=.returned (.bool true)/\Below W.heap.size W w':=by
 refine Calls.mono (h.2 W (kA W) dm vs hW ⟨hlen,hr,vm W,fun j hj=>(by cases hj),fun _ _=>rfl,fun i j b _ hi=>(by cases hi)⟩) ?_
 rintro e w' ⟨v,r,obs,M',β',rfl,⟨rfl,rfl⟩,ho⟩
 have hv:=ho.rep
 cases hv
 exact⟨rfl,ho.cC.os,ho.cC.tape,ho.cC.output,ho.cC.size,fun b hb=>ho.cC.block b hb (fun⟨i,hi,_⟩=>by cases hi)⟩
end Go.VL
namespace Go.VL
open Go Go.RowKit
theorem mk_inj{l r:List UInt8}(h:mk l=mk r):l=r:=by
 have:(mk l).data.toList=(mk r).data.toList:=by rw[h]
 simpa[mk]using this
theorem cq(l:List UInt8):(mk l).size=l.length:=by simp[mk,af]
theorem toList_mk(l:List UInt8):ae (mk l)=l:=by rw[Lib.toList_data];simp[mk]
theorem mk_data(s:ByteArray):mk s.data.toList=s:=by cases s;simp[mk]
theorem lL(l:List UInt8)(i:Nat)(h:i<l.length):bt (mk l) (i:Int)=((l.getD i 0).toNat:Int):=by
 unfold bt
 rw[dif_pos (by rw[cq];simpa using h)]
 have:(mk l)[(i:Int).toNat]'(by rw[cq];simpa using h)=l[i]:=by
  show (mk l).data[i]'_=_
  simp[mk]
 rw[this];simp[aa,h]
theorem extract_mk(l:List UInt8)(a b:Nat):cd (mk l) a b=mk ((l.take b).drop a):=by
 have:(cd (mk l) a b).data.toList=(l.take b).drop a:=by
  rw[ByteArray.data_extract]
  simp[mk,List.extract_eq_take_drop,List.drop_take]
 rw[<-mk_data (cd (mk l) a b),this]
theorem jw(l r:List UInt8):(mk l:ByteArray)++mk r=mk (l++r):=by
 have:((mk l:ByteArray)++mk r).data.toList=l++r:=by
  rw[ByteArray.data_append];simp[mk]
 rw[<-mk_data (mk l++mk r),this]
theorem rH:(⟨#[]⟩:ByteArray)=mk []:=rfl
theorem an.Rp{P:Program}{f:Nat}{xs:List Value}{v:Value}(hE:Eh P f)(h:∀w,Calls P f xs.toArray w fun e w'=>e=.returned v/\Below w.heap.size w w'):an P f (xs.map .v) [] (bB (.v v)):=by
 refine⟨hE,fun w M β vs hB hin=>?_⟩
 have hl:vs.length=xs.length:=by rw[hin.len,cg]
 have e:vs=xs:=by
  apply List.ext_getElem hl
  intro i h1 h2
  have:=hin.rep i (by simpa using h2)
  have e1:(xs.map AV.v).getD i .any=.v xs[i]:=by simp[aa,h2]
  have e2:vs.getD i undef=vs[i]:=by simp[aa,h1]
  rw[e1,e2]at this
  exact dE this
 subst e
 refine Calls.mono (h w) fun e w' ⟨he,hb⟩=>⟨v,.v v,[],M,dm,he,⟨rfl,rfl⟩,?_⟩
 have hlt:∀b k u,M.c b k=some u->b<w.heap.size:=fun b k u hc=>hin.agree.lt hc
 exact {
  le:=Mem.le.refl _,agree:=⟨fun b k u hc=>by
   rw[<-hin.agree _ _ _ hc];exact hb.cell (p:=⟨b,k,none⟩) (hlt b k u hc),fun b hp=>by
   obtain⟨k,u,hc⟩:=M.pc b hp
   rw[hb.block b (hlt b k u hc)];exact hin.agree.p b hp⟩
  rep:=.v _ _,own:=fun j hj=>by simp at hj,same:=fun j b hj=>by simp at hj,tq:=fun j l sz es hj=>(by simp at hj),apart:=fun i j b _ hi=>by simp at hi,place:=fun j b hj=>by simp at hj
  new:=fun b k u hc=>.inl hc,cC:=⟨hb.os,hb.tape,hb.output,hb.size,fun b hlt _=>hb.block b hlt⟩}
theorem an.Qm{P:Program}{f:Nat}{xs:List Value}{v:Value}{a:AV}(hE:Eh P f)(hr:∀M,bx M dm a v)(h:∀w,Calls P f xs.toArray w fun e w'=>e=.returned v/\Below w.heap.size w w'):an P f (xs.map .v) [] (bB a):=by
 refine⟨hE,fun w M β vs hB hin=>?_⟩
 have hl:vs.length=xs.length:=by rw[hin.len,cg]
 have e:vs=xs:=by
  apply List.ext_getElem hl
  intro i h1 h2
  have:=hin.rep i (by simpa using h2)
  have e1:(xs.map AV.v).getD i .any=.v xs[i]:=by simp[aa,h2]
  have e2:vs.getD i undef=vs[i]:=by simp[aa,h1]
  rw[e1,e2]at this
  exact dE this
 subst e
 refine Calls.mono (h w) fun e w' ⟨he,hb⟩=>⟨v,a,[],M,dm,he,⟨rfl,rfl⟩,?_⟩
 have hlt:∀b k u,M.c b k=some u->b<w.heap.size:=fun b k u hc=>hin.agree.lt hc
 exact {
  le:=Mem.le.refl _,agree:=⟨fun b k u hc=>by
   rw[<-hin.agree _ _ _ hc];exact hb.cell (p:=⟨b,k,none⟩) (hlt b k u hc),fun b hp=>by
   obtain⟨k,u,hc⟩:=M.pc b hp
   rw[hb.block b (hlt b k u hc)];exact hin.agree.p b hp⟩
  rep:=hr M,own:=fun j hj=>by simp at hj,same:=fun j b hj=>by simp at hj,tq:=fun j l sz es hj=>(by simp at hj),apart:=fun i j b _ hi=>by simp at hi,place:=fun j b hj=>by simp at hj
  new:=fun b k u hc=>.inl hc,cC:=⟨hb.os,hb.tape,hb.output,hb.size,fun b hlt _=>hb.block b hlt⟩}
end Go.VL
namespace Go.VL
open Go Go.RowKit
theorem sd.law{P:Program}{W:World}{g:Nat}(hg:P.globalNamed wB=some g)(h:Lib.TabIs P W wB .u64 Lib.pow10Tab){g2:Nat}{m:Int}(hg2:P.globalNamed Gt=some g2)(hm:W.cell? ⟨g2,0,none⟩=some (.int .i64 m)):sd P (kA W) W:=by
 have:=h.cell hg 0 (by rw[Lib.pow10Tab_length];omega)
 exact⟨h,⟨g,.int .u64 (Lib.pow10Tab.getD 0 0),hg,by simp only[kA,this];rfl⟩,g2,m,hg2,by simp only[kA,hm];rfl⟩
theorem zP{P:Program}{W:World}{x:String×DataW Unit}{l:List (String×DataW Unit)}(h:laidMet P (x::l) W):laidMet P l W:=by
 obtain⟨ps,⟨g,t,cs,fuel,p,q,_,_,_,_,hq,rfl⟩,hn,hr⟩:=h
 exact⟨q,hq,(List.nodup_append.1 hn).2.1,fun b off hb=>hr b off (aB _ hb)⟩
theorem yz{P:Program}{W:World}{x:String×DataW Unit}:∀{l:List (String×DataW Unit)} (i:Nat),laidMet P l W->l[i]?=some x->∃rest,laidMet P (x::rest) W
 |[],i,_,h=>by simp at h
 |y::l,0,hm,h=>by simp at h;subst h;exact⟨l,hm⟩
 |y::l,i+1,hm,h=>yz i (zP hm) (by simpa using h)
theorem sd.laid{P:Program}{W:World}{l:List (String×DataW Unit)}{g:Nat}{t e:TypeId}{n:Nat}(i:Nat)(hg:P.globalNamed wB=some g)(hty:(P.globals[g]?).map (·.type)=some t)(ht:P.underlying t=some (.array n e))(he:P.underlying e=some (.int .u64))(hce:P.cellsOf e=1)(hct:P.cellsOf t=n)
 (hi:l[i]?=some (wB,Lib.tabData .u64 Lib.pow10Tab)) (h:laidMet P l W) {g2:Nat} {m:Int} (hg2:P.globalNamed Gt=some g2) (hm:W.cell? ⟨g2,0,none⟩=some (.int .i64 m)):sd P (kA W) W:=by
 obtain⟨rest,h⟩:=yz i h hi
 exact sd.law hg (Lib.tabIs_of_head hg hty ht he hce hct h) hg2 hm
theorem an.Oc{P:Program}{f:Nat}{xs:List Value}{v:Value}(hE:Eh P f)(h:∀w,Lib.TabIs P w wB .u64 Lib.pow10Tab->Calls P f xs.toArray w fun e w'=>e=.returned v/\Below w.heap.size w w'):an P f (xs.map .v) [] (bB (.v v)):=by
 refine⟨hE,fun w M β vs hB hin=>?_⟩
 have hl:vs.length=xs.length:=by rw[hin.len,cg]
 have e:vs=xs:=by
  apply List.ext_getElem hl
  intro i h1 h2
  have:=hin.rep i (by simpa using h2)
  have e1:(xs.map AV.v).getD i .any=.v xs[i]:=by simp[aa,h2]
  have e2:vs.getD i undef=vs[i]:=by simp[aa,h1]
  rw[e1,e2]at this
  exact dE this
 subst e
 refine Calls.mono (h w hB.is) fun e w' ⟨he,hb⟩=>⟨v,.v v,[],M,dm,he,⟨rfl,rfl⟩,?_⟩
 have hlt:∀b k u,M.c b k=some u->b<w.heap.size:=fun b k u hc=>hin.agree.lt hc
 exact {
  le:=Mem.le.refl _,agree:=⟨fun b k u hc=>by
   rw[<-hin.agree _ _ _ hc];exact hb.cell (p:=⟨b,k,none⟩) (hlt b k u hc),fun b hp=>by
   obtain⟨k,u,hc⟩:=M.pc b hp
   rw[hb.block b (hlt b k u hc)];exact hin.agree.p b hp⟩
  rep:=.v _ _,own:=fun j hj=>by simp at hj,same:=fun j b hj=>by simp at hj,tq:=fun j l sz es hj=>(by simp at hj),apart:=fun i j b _ hi=>by simp at hi,place:=fun j b hj=>by simp at hj
  new:=fun b k u hc=>.inl hc,cC:=⟨hb.os,hb.tape,hb.output,hb.size,fun b hlt _=>hb.block b hlt⟩}
end Go.VL
namespace Go.VL
open Go Go.RowKit
theorem vD{xs vs:List Value}{w:World}{M:Mem}{β:Lo}{ins:List Ob}(hin:In w M β (xs.map .v) ins vs):vs=xs:=by
 have hl:vs.length=xs.length:=by rw[hin.len,cg]
 apply List.ext_getElem hl
 intro i h1 h2
 have:=hin.rep i (by simpa using h2)
 have e1:(xs.map AV.v).getD i .any=.v xs[i]:=by simp[aa,h2]
 have e2:vs.getD i undef=vs[i]:=by simp[aa,h1]
 rw[e1,e2]at this
 exact dE this
theorem an.OO{P:Program}{f:Nat}{xs:List Value}{v:Value}{a:AV}(hE:Eh P f)(hr:∀M,bx M dm a v)(h:∀w g m,P.globalNamed Gt=some g->w.cell? ⟨g,0,none⟩=some (.int .i64 m)->Calls P f xs.toArray w fun e w'=>e=.returned v/\Below w.heap.size w w'):an P f (xs.map .v) [] (bB a):=by
 refine⟨hE,fun w M β vs hB hin=>?_⟩
 have e:=vD hin
 subst e
 obtain⟨g,m,hg,hc⟩:=hB.mx
 refine Calls.mono (h w g m hg (hin.agree _ _ _ hc)) fun e w' ⟨he,hb⟩=>⟨v,a,[],M,dm,he,⟨rfl,rfl⟩,?_⟩
 have hlt:∀b k u,M.c b k=some u->b<w.heap.size:=fun b k u hc=>hin.agree.lt hc
 exact {
  le:=Mem.le.refl _,agree:=⟨fun b k u hc=>by
   rw[<-hin.agree _ _ _ hc];exact hb.cell (p:=⟨b,k,none⟩) (hlt b k u hc),fun b hp=>by
   obtain⟨k,u,hc⟩:=M.pc b hp
   rw[hb.block b (hlt b k u hc)];exact hin.agree.p b hp⟩
  rep:=hr M,own:=fun j hj=>by simp at hj,same:=fun j b hj=>by simp at hj,tq:=fun j l sz es hj=>(by simp at hj),apart:=fun i j b _ hi=>by simp at hi,place:=fun j b hj=>by simp at hj
  new:=fun b k u hc=>.inl hc,cC:=⟨hb.os,hb.tape,hb.output,hb.size,fun b hlt _=>hb.block b hlt⟩}
theorem an.N7{P:Program}{f:Nat}{xs:List Value}{ss:List ByteArray}{t:TypeId}(hE:Eh P f)(h:∀w g m,P.globalNamed Gt=some g->w.cell? ⟨g,0,none⟩=some (.int .i64 m)->Calls P f xs.toArray w fun e w'=>e=.returned (.slice (some ⟨w.heap.size,0,none⟩) ss.length ss.length)/\w'=w.alloc (.cells (ss.map Value.string).toArray t)):an P f (xs.map .v) [] (bB (.sl (ss.map fun s=>[.v (.string s)]))):=by
 refine⟨hE,fun w M β vs hB hin=>?_⟩
 have e:=vD hin
 subst e
 obtain⟨g,m,hg,hc⟩:=hB.mx
 have hlt:∀b k u,M.c b k=some u->b<w.heap.size:=fun b k u hc=>hin.agree.lt hc
 have hno:∀k,M.c w.heap.size k=none:=fun k=>by
  cases e:M.c w.heap.size k with
  |none=>rfl
  |some u=>exact absurd (hlt _ _ _ e) (Nat.lt_irrefl _)
 have hone:∀v,v∈(ss.map Value.string).toArray->v.oneCell'=true:=fun v hv=>by
  simp only[List.mem_toArray,bJ]at hv
  obtain⟨s,_,rfl⟩:=hv
  rfl
 refine Calls.mono (h w g m hg (hin.agree _ _ _ hc)) fun e w' ⟨he,hw⟩=>⟨_,.sl (ss.map fun s=>[.v (.string s)]),[],M.add w.heap.size (ss.map Value.string).toArray hone hno,dm,he,⟨rfl,rfl⟩,?_⟩
 subst hw
 have hb:Below w.heap.size w (w.alloc (.cells (ss.map Value.string).toArray t)):=(Below.refl _ _).alloc (aw _) _
 have hnew:(w.alloc (.cells (ss.map Value.string).toArray t)).heap[w.heap.size]?=some (.cells (ss.map Value.string).toArray t (0,0)):=heap_alloc_new w _
 have hcell:∀k,(w.alloc (.cells (ss.map Value.string).toArray t)).cell? ⟨w.heap.size,k,none⟩=(ss.map Value.string).toArray[k]?:=fun k=>vd hnew
 exact {
  le:=Mem.uA hno
  agree:=by
   refine⟨fun b k u hc=>?_,fun b hp=>?_⟩
   ·by_cases e:b=w.heap.size
    ·subst e
     rw[hcell]
     simpa[Mem.add]using hc
    ·have hc':M.c b k=some u:=by simpa[Mem.add,e]using hc
     rw[<-hin.agree _ _ _ hc'];exact hb.cell (p:=⟨b,k,none⟩) (hlt b k u hc')
   ·rcases hp with hp|⟨rfl,hs⟩
    ·obtain⟨k,u,hc⟩:=M.pc b hp
     rw[hb.block b (hlt b k u hc)];exact hin.agree.p b hp
    ·exact⟨_,_,hnew,hs⟩
  rep:=by
   have hl:(ss.map fun s=>[AV.v (.string s)]).length=ss.length:=by simp
   have key:=bx.sl (M:=M.add w.heap.size (ss.map Value.string).toArray hone hno) dm (ss.map fun s=>[AV.v (.string s)]) w.heap.size 0 ss.length 1 (fun i=>.string (ss.getD i ⟨#[]⟩)) (by simp) (fun i hi=>by
    have hi':i<ss.length:=by simpa using hi
    simp[aa,hi']) (fun i hi=>by
    have hi':i<ss.length:=by simpa using hi
    simp[Mem.add,aa,hi']) (fun i j hi hj=>by
    have hi':i<ss.length:=by simpa using hi
    have hj':j=0:=by omega
    subst hj'
    simp only[aa,dq,bX]
    simp[hi']
    exact .v _ _)
   rw[hl]at key
   exact key
  own:=fun j hj=>by simp at hj
  same:=fun j b hj=>by simp at hj
  tq:=fun j l sz es hj=>(by simp at hj)
  apart:=fun i j b _ hi=>by simp at hi
  place:=fun j b hj=>by simp at hj
  new:=fun b k u hc=>by
   by_cases e:b=w.heap.size
   ·exact .inr (.inl (by omega))
   ·exact .inl (by simpa[Mem.add,e]using hc)
  cC:=⟨hb.os,hb.tape,hb.output,hb.size,fun b hlt _=>hb.block b hlt⟩}
end Go.VL
set_option linter.defProp false
namespace Go.VL
open Go
def zp:=aI @D8 (aI @DA (aI @CI (aI @BD (aI @Cy (aI @Dg (aI @Fu (@Gh)))))))
def zs:=aI @FT (aI @L6 (aI @step1 (aI @step2 (aI @kW (aI @B0 (aI @eh (aI @ck (aI @bj (aI @ca (aI @iT (aI @true_and (aI @and_true (aI @aP.{0} (aI @bO.{0} (aI @yF (aI @uK (aI @Ac (aI @BG (aI @fY (aI @zy (aI @jv (aI @pB (aI @jr (aI @B9 (aI @B4 (aI @Bo (aI @bp.{0} (aI @List.getD_cons_succ.{0} (aI @bG.{0} (aI @List.drop_succ_cons.{0} (aI @decide_eq_true_eq (aI @decide_eq_false_iff_not (aI @bne_iff_ne.{0} (aI @bne_eq_false_iff_eq.{0} (aI @beq_iff_eq.{0} (aI @beq_eq_false_iff_ne.{0} (aI @cc (aI @Bool.not_eq_false' (aI @au.{0} (@aG.{0}))))))))))))))))))))))))))))))))))))))))
def zt:=aI @cq (aI @toList_mk (aI @extract_mk (aI @rH (aI @jw (aI @bR (aI @List.take_length.{0} (aI @bG.{0} (@Int.toNat_zero))))))))
def zf:=aI @Bool.false_and (aI @Bool.and_false (aI @Bool.false_eq_true (aI @if_false.{1} (aI @cn (aI @Bool.and_true (aI @Bool.and_self (aI @Bool.true_or (aI @Bool.false_or (aI @Bool.or_true (aI @Bool.or_false (aI @decide_true (aI @decide_false (aI @not_true_eq_false (aI @not_false_eq_true (aI @if_true.{1} (aI @Bool.not_true (aI @Bool.not_false (@eq_self_iff_true.{1}))))))))))))))))))
end Go.VL
