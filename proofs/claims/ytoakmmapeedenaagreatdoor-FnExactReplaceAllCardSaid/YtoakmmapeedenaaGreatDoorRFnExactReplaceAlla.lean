/-
  'laws.FnExactReplaceAll' returns true for all arguments, and the arguments read behind the call as they read before; the listed tables are tied to the program's text. No condition.
-/
import Derived.Test.YtoakmmapeedenaaGreatDoorP5
import Derived.ProofKit
import Derived.OpenShut
import Derived.Deep.DeepHandedRow
import Derived.Test.YtoakmmapeedenaaGreatDoorCards
import Derived.Test.YtoakmmapeedenaaGreatDoorTie
set_option linter.unusedVariables false
set_option linter.unusedSimpArgs false
namespace Go.Proofs.YtoakmmapeedenaaGreatDoor.exactReplaceAll
open Go Go.VL Go.ChangeShapes Go.WideShapes Go.ChangeAt Go.RowKit Go.ChangeMaps Go.Proofs.Trees
theorem own:ownKnob Tryz.prog.godebug=none:=by kernel_rfl
theorem laidOut:laidOutB Tryz.prog=true:=by kernel_rfl
set_option maxRecDepth 100000 in
theorem contract (H:Type) (enc:TypeId×Value->H) (W:World) (base:Nat) (args:Array Value) (ds gs:List (DataW H)) (before:List MemPlace)
 (hval:∀(j:Nat) t v,Tryz.f3.params[j]?=some t->args[j]?=some v->Value.okWide Tryz.prog W .any base t v)
 (hW:DataW.Whole enc Tryz.prog Tryz.f3.params.toList Rows.fnExactReplaceAllSpec.vars false W args.toList ds gs before)
 (hL:laidMet Tryz.prog Rows.fnExactReplaceAllRow.laid W) :
 Calls Tryz.prog 3 args W fun e W'=>∃v,e=.returned v/\Rows.fnExactReplaceAllSpec.post enc Tryz.prog Tryz.f3 false true false false W args v W':=by
 have hW':=hW
 obtain⟨p,q,hA0,hV,rfl,hfz,hnd⟩:=hW
 have hA:DataW.TrodAll enc Tryz.prog W 0 (fun _=>true) true Tryz.f3.params.toList args.toList ds p:=hA0
 rw[Tryz.params3]at hA hval
 obtain⟨v0,vs0,d0,ds0,p0,q0,hargs0,rfl,rfl,h0,r0⟩:=trodAll_cons hA
 obtain⟨v1,vs1,d1,ds1,p1,q1,hargs1,rfl,rfl,h1,r1⟩:=trodAll_cons r0
 obtain⟨v2,vs2,d2,ds2,p2,q2,hargs2,rfl,rfl,h2,r2⟩:=trodAll_cons r1
 obtain⟨v3,vs3,d3,ds3,p3,q3,hargs3,rfl,rfl,h3,r3⟩:=trodAll_cons r2
 obtain⟨rfl,rfl,rfl⟩:=trodAll_nil r3
 obtain rfl:args = #[v0,v1,v2,v3]:=by cases args;simp_all
 obtain⟨rfl,rfl⟩:=trodVars_none hV
 obtain⟨s0,rfl,rfl,rfl,hs0⟩:=open_string Tryz.underlying9 (hval 0 9 v0 rfl rfl) h0
 obtain⟨l0,rfl⟩:∃l:List UInt8,s0=mk l:=⟨s0.data.toList,(mk_data s0).symm⟩
 obtain⟨s1,rfl,rfl,rfl,hs1⟩:=open_string Tryz.underlying9 (hval 1 9 v1 rfl rfl) h1
 obtain⟨l1,rfl⟩:∃l:List UInt8,s1=mk l:=⟨s1.data.toList,(mk_data s1).symm⟩
 obtain⟨s2,rfl,rfl,rfl,hs2⟩:=open_string Tryz.underlying9 (hval 2 9 v2 rfl rfl) h2
 obtain⟨l2,rfl⟩:∃l:List UInt8,s2=mk l:=⟨s2.data.toList,(mk_data s2).symm⟩
 obtain⟨s3,rfl,rfl,rfl,hs3⟩:=open_string Tryz.underlying9 (hval 3 9 v3 rfl rfl) h3
 obtain⟨l3,rfl⟩:∃l:List UInt8,s3=mk l:=⟨s3.data.toList,(mk_data s3).symm⟩
 clear hA0
 have key:=ay.law (W:=W) (vs:=[.string (mk l0),.string (mk l1),.string (mk l2),.string (mk l3)]) (Iu l0 l1 l2 l3) rfl (fun i hi=>by
  match i,hi with
  |0,_=>exact .v _ _
  |1,_=>exact .v _ _
  |2,_=>exact .v _ _
  |3,_=>exact .v _ _) (pg.laid (g:=5) (t:=198) (e:=164) (n:=20) 2 (by kernel_rfl) (by kernel_rfl) (by kernel_rfl) (by kernel_rfl) (by kernel_rfl) (by kernel_rfl) (by kernel_rfl) hL)
 refine Calls.mono key fun e W' ⟨he,hb⟩=>?_
 subst he
 exact⟨_,rfl,yJ hW' laidOut (by kernel_rfl) rfl rfl rfl Tryz.underlying4 hb⟩
end Go.Proofs.YtoakmmapeedenaaGreatDoor.exactReplaceAll
