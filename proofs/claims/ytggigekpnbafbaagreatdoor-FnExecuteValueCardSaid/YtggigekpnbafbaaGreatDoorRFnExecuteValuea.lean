/-
  'laws.FnExecuteValue' returns true for all arguments, and the arguments read behind the call as they read before; the listed tables are tied to the program's text. No condition.
-/
import Derived.Test.YtggigekpnbafbaaGreatDoorP7
import Derived.Shelf.Vars
import Derived.ProofKit
import Derived.OpenShut
import Derived.Deep.DeepHandedRow
import Derived.Test.YtggigekpnbafbaaGreatDoorCards
import Derived.Test.YtggigekpnbafbaaGreatDoorTie
set_option linter.unusedVariables false
set_option linter.unusedSimpArgs false
namespace Go.Proofs.YtggigekpnbafbaaGreatDoor.fnExecuteValueLaw
open Go Go.VL Go.ChangeShapes Go.WideShapes Go.ChangeAt Go.RowKit Go.ChangeMaps Go.Proofs.Trees
theorem own:ownKnob Tryz.prog.godebug=none:=by kernel_rfl
theorem laidOut:laidOutB Tryz.prog=true:=by kernel_rfl
theorem bytes_of{es:List (List AV)}(h:∀c,c∈es->c.length=1/\∀i,i<1->∃x,c.getD i .any=.v x/\nv ([LK.int .u8].getD i .jK) x):∃l:List UInt8,es=pX l:=by
 induction es with
 |nil=>exact⟨[],rfl⟩
 |
  cons c es ih =>
  obtain⟨l,rfl⟩:=ih fun d hd=>h d (List.mem_cons_of_mem _ hd)
  obtain⟨h1,h2⟩:=h c List.mem_cons_self
  obtain⟨x0,e0,m,rfl,hx⟩:=h2 0 (by omega)
  match c,h1 with
  |
   [y],_ =>
   have e0:y=.v (.int .u8 m):=e0
   subst e0
   have hx:(decide (0<=m)&&decide (m<=255))=true:=hx
   simp only[Bool.and_eq_true,decide_eq_true_eq]at hx
   refine⟨UInt8.ofNat m.toNat::l,?_⟩
   have:((UInt8.ofNat m.toNat).toNat:Int)=m:=by simp only[UInt8.toNat_ofNat'];omega
   simp only[pX,List.map_cons,this]
set_option maxRecDepth 100000 in
theorem contract (H:Type) (enc:TypeId×Value->H) (W:World) (base:Nat) (args:Array Value) (ds gs:List (DataW H)) (before:List MemPlace)
 (hval:∀(j:Nat) t v,Tryz.f3.params[j]?=some t->args[j]?=some v->Value.okWide Tryz.prog W .any base t v)
 (hW:DataW.Whole enc Tryz.prog Tryz.f3.params.toList Rows.fnExecuteValueSpec.vars false W args.toList ds gs before)
 (hL:laidMet Tryz.prog Rows.fnExecuteValueRow.laid W)
 (hsh:W.ShapedOpen Tryz.prog) :
 Calls Tryz.prog 3 args W fun e W'=>∃v,e=.returned v/\Rows.fnExecuteValueSpec.post enc Tryz.prog Tryz.f3 false true false false W args v W':=by
 have hW':=hW
 obtain⟨p,q,hA0,hV,rfl,hfz,hnd⟩:=hW
 have hA:DataW.TrodAll enc Tryz.prog W 0 (fun _=>true) true Tryz.f3.params.toList args.toList ds p:=hA0
 rw[Tryz.params3]at hA hval
 obtain⟨v0,vs0,d0,ds0,p0,q0,hargs0,rfl,rfl,h0,r0⟩:=trodAll_cons hA
 obtain⟨rfl,rfl,rfl⟩:=trodAll_nil r0
 obtain rfl:args = #[v0]:=by cases args;simp_all
 obtain⟨rfl,rfl⟩:=trodVars_none hV
 obtain⟨a0,ha0,hb0⟩:=yP (n:=3) (ks:=[.int .u8]) (t:=22) (e:=5) (by kernel_rfl) (by kernel_rfl) (by kernel_rfl) (hval 0 22 v0 rfl rfl) h0
 have HQ:xK a0:=by
  rcases hb0 with rfl|⟨es,rfl,h3,h4⟩
  ·exact⟨(bj).mpr trivial,[],rfl⟩
  ·obtain⟨l,rfl⟩:=bytes_of h4
   exact⟨(ck _).mpr trivial,l,rfl⟩
 clear hA0
 obtain⟨mxm,hmx⟩:=cell_of_shapedOpen_int (P:=Tryz.prog) (g:=0) (t:=3) (zero:=#[.int .i64 0]) hsh (of_decide_eq_true (by kernel_rfl)) (by kernel_rfl) rfl (by kernel_rfl) (by kernel_rfl) Tryz.underlying3
 have key:=an.law (W:=W) (vs:=[v0]) (Qn a0 HQ) rfl (fun i hi=>by
  match i,hi with
  |0,_=>exact ha0) (sd.laid (g:=1) (t:=236) (e:=190) (n:=20) 2 (by kernel_rfl) (by kernel_rfl) (by kernel_rfl) (by kernel_rfl) (by kernel_rfl) (by kernel_rfl) (by kernel_rfl) hL (g2:=0) (m:=mxm) (by kernel_rfl) hmx)
 refine Calls.mono key fun e W' ⟨he,hb⟩=>?_
 subst he
 exact⟨_,rfl,AF hW' laidOut (by kernel_rfl) rfl rfl rfl Tryz.underlying4 hb⟩
end Go.Proofs.YtggigekpnbafbaaGreatDoor.fnExecuteValueLaw
