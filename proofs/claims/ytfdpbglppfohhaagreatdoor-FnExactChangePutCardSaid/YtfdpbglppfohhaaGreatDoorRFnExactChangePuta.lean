/-
  'laws.FnExactChangePut' returns true for all arguments, and the arguments read behind the call as they read before; the listed tables are tied to the program's text. No condition.
-/
import Derived.Test.YtfdpbglppfohhaaGreatDoorP6
import Derived.ProofKit
import Derived.OpenShut
import Derived.Deep.DeepHandedRow
import Derived.Test.YtfdpbglppfohhaaGreatDoorCards
import Derived.Test.YtfdpbglppfohhaaGreatDoorTie
set_option linter.unusedVariables false
set_option linter.unusedSimpArgs false
namespace Go.Proofs.YtfdpbglppfohhaaGreatDoor.exactChangePut
open Go Go.VL Go.ChangeShapes Go.WideShapes Go.ChangeAt Go.RowKit Go.ChangeMaps Go.Proofs.Trees
theorem own:ownKnob Tryz.prog.godebug=none:=by kernel_rfl
theorem laidOut:laidOutB Tryz.prog=true:=by kernel_rfl
set_option maxRecDepth 100000 in
theorem contract (H:Type) (enc:TypeId×Value->H) (W:World) (base:Nat) (args:Array Value) (ds gs:List (DataW H)) (before:List MemPlace)
 (hval:∀(j:Nat) t v,Tryz.f4.params[j]?=some t->args[j]?=some v->Value.okWide Tryz.prog W .any base t v)
 (hW:DataW.Whole enc Tryz.prog Tryz.f4.params.toList Rows.fnExactChangePutSpec.vars false W args.toList ds gs before)
 (hL:laidMet Tryz.prog Rows.fnExactChangePutRow.laid W) :
 Calls Tryz.prog 4 args W fun e W'=>∃v,e=.returned v/\Rows.fnExactChangePutSpec.post enc Tryz.prog Tryz.f4 false true false false W args v W':=by
 have hW':=hW
 obtain⟨p,q,hA0,hV,rfl,hfz,hnd⟩:=hW
 have hA:DataW.TrodAll enc Tryz.prog W 0 (fun _=>true) true Tryz.f4.params.toList args.toList ds p:=hA0
 rw[Tryz.params4]at hA hval
 obtain⟨v0,vs0,d0,ds0,p0,q0,hargs0,rfl,rfl,h0,r0⟩:=trodAll_cons hA
 obtain⟨v1,vs1,d1,ds1,p1,q1,hargs1,rfl,rfl,h1,r1⟩:=trodAll_cons r0
 obtain⟨v2,vs2,d2,ds2,p2,q2,hargs2,rfl,rfl,h2,r2⟩:=trodAll_cons r1
 obtain⟨rfl,rfl,rfl⟩:=trodAll_nil r2
 obtain rfl:args = #[v0,v1,v2]:=by cases args;simp_all
 obtain⟨rfl,rfl⟩:=trodVars_none hV
 obtain⟨s0,rfl,rfl,rfl,hs0⟩:=open_string Tryz.underlying9 (hval 0 9 v0 rfl rfl) h0
 obtain⟨l0,rfl⟩:∃l:List UInt8,s0=mk l:=⟨s0.data.toList,(mk_data s0).symm⟩
 obtain⟨s1,rfl,rfl,rfl,hs1⟩:=open_string Tryz.underlying9 (hval 1 9 v1 rfl rfl) h1
 obtain⟨l1,rfl⟩:∃l:List UInt8,s1=mk l:=⟨s1.data.toList,(mk_data s1).symm⟩
 obtain⟨v2a,v2b,v2c,rfl,fa2,fb2,fc2⟩:=AA Tryz.underlying37 (by kernel_rfl) (by kernel_rfl) (by kernel_rfl) (hval 2 37 v2 rfl rfl) h2
 obtain⟨la2,rfl,hx2⟩:=fb2.str (by kernel_rfl)
 obtain⟨lc2,rfl,hc2⟩:=fc2.str (by kernel_rfl)
 obtain⟨ob2,a2,hb2,hs2⟩:=fa2.slice (n:=3) (ks:=[.int .i64]) (e:=3) (by kernel_rfl) (by kernel_rfl) (by kernel_rfl)
 obtain⟨p2,hp2,hl2⟩:∃p:List Int,eA a2 p/\p.length<=maxLen:=by
  rcases hs2 with rfl|⟨es,rfl,h3,h4⟩
  ·exact⟨[],eA.nil,Nat.zero_le _⟩
  ·obtain⟨l,rfl⟩:=CW h4
   exact⟨l,eA.of l,by simpa using h3⟩
 clear hA0
 have key:=an.law (W:=W) (vs:=[.string (mk l0),.string (mk l1),.agg #[v2a,.string (mk la2),.string (mk lc2)]]) (OE l0 l1 a2 p2 la2 lc2 hp2 hl2) rfl (fun i hi=>by
  match i,hi with
  |0,_=>exact .v _ _
  |1,_=>exact .v _ _
  |2,_=>exact bx.PR hb2 (.v _ _) (.v _ _) ob2 rfl rfl) (qA.laid (g:=2) (t:=257) (e:=232) (n:=20) 2 (by kernel_rfl) (by kernel_rfl) (by kernel_rfl) (by kernel_rfl) (by kernel_rfl) (by kernel_rfl) (by kernel_rfl) hL)
 refine Calls.mono key fun e W' ⟨he,hb⟩=>?_
 subst he
 exact⟨_,rfl,A2 hW' laidOut (by kernel_rfl) rfl rfl rfl Tryz.underlying4 hb⟩
end Go.Proofs.YtfdpbglppfohhaaGreatDoor.exactChangePut
