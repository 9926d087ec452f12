/-
  'laws.FnExactZipSide' returns true for all arguments, and the arguments read behind the call as they read before; the listed tables are tied to the program's text. No condition.
-/
import Derived.Test.YtfdpbglppfohhaaGreatDoorP6
import Derived.ProofKit
import Derived.OpenShut
import Derived.Deep.DeepHandedRow
import Derived.Test.YtfdpbglppfohhaaGreatDoorCards
import Derived.Test.YtfdpbglppfohhaaGreatDoorTie
set_option linter.unusedVariables false
set_option linter.unusedSimpArgs false
namespace Go.Proofs.YtfdpbglppfohhaaGreatDoor.exactZipSide
open Go Go.VL Go.ChangeShapes Go.WideShapes Go.ChangeAt Go.RowKit Go.ChangeMaps Go.Proofs.Trees
theorem own:ownKnob Tryz.prog.godebug=none:=by kernel_rfl
theorem laidOut:laidOutB Tryz.prog=true:=by kernel_rfl
set_option maxRecDepth 100000 in
theorem contract (H:Type) (enc:TypeId×Value->H) (W:World) (base:Nat) (args:Array Value) (ds gs:List (DataW H)) (before:List MemPlace)
 (hval:∀(j:Nat) t v,Tryz.f5.params[j]?=some t->args[j]?=some v->Value.okWide Tryz.prog W .any base t v)
 (hW:DataW.Whole enc Tryz.prog Tryz.f5.params.toList Rows.fnExactZipSideSpec.vars false W args.toList ds gs before)
 (hL:laidMet Tryz.prog Rows.fnExactZipSideRow.laid W) :
 Calls Tryz.prog 5 args W fun e W'=>∃v,e=.returned v/\Rows.fnExactZipSideSpec.post enc Tryz.prog Tryz.f5 false true false false W args v W':=by
 have hW':=hW
 obtain⟨p,q,hA0,hV,rfl,hfz,hnd⟩:=hW
 have hA:DataW.TrodAll enc Tryz.prog W 0 (fun _=>true) true Tryz.f5.params.toList args.toList ds p:=hA0
 rw[Tryz.params5]at hA hval
 obtain⟨v0,vs0,d0,ds0,p0,q0,hargs0,rfl,rfl,h0,r0⟩:=trodAll_cons hA
 obtain⟨v1,vs1,d1,ds1,p1,q1,hargs1,rfl,rfl,h1,r1⟩:=trodAll_cons r0
 obtain⟨rfl,rfl,rfl⟩:=trodAll_nil r1
 obtain rfl:args = #[v0,v1]:=by cases args;simp_all
 obtain⟨rfl,rfl⟩:=trodVars_none hV
 obtain⟨v0a,v0b,v0c,rfl,fa0,fb0,fc0⟩:=AF Tryz.underlying24 (by kernel_rfl) (by kernel_rfl) (by kernel_rfl) (hval 0 24 v0 rfl rfl) h0
 obtain⟨la0,rfl,ha0⟩:=fa0.str (by kernel_rfl)
 obtain⟨lc0,rfl,hc0⟩:=fc0.str (by kernel_rfl)
 obtain⟨ob0,a0,hb0,hs0⟩:=fb0.slice (n:=3) (ks:=[.str]) (e:=9) (by kernel_rfl) (by kernel_rfl) (by kernel_rfl)
 obtain⟨p0,hp0,HL⟩:∃p:List (List UInt8),cc a0 p/\p.length<=maxLen:=by
  rcases hs0 with rfl|⟨es,rfl,h3,h4⟩
  ·exact⟨[],cc.nil,Nat.zero_le _⟩
  ·obtain⟨l,rfl⟩:=Cg h4
   exact⟨l,cc.of l,by simpa using h3⟩
 obtain⟨x1,rfl,rfl,rfl,wx1⟩:=open_int Tryz.underlying3 (hval 1 3 v1 rfl rfl) h1
 clear hA0
 have key:=an.law (W:=W) (vs:=[.agg #[.string (mk la0),v0b,.string (mk lc0)],.int .i64 x1]) (OR la0 a0 p0 hp0 lc0 ha0 HL x1) rfl (fun i hi=>by
  match i,hi with
  |0,_=>exact bz.Qk (.v _ _) hb0 (.v _ _) rfl ob0 rfl
  |1,_=>exact .v _ _) (qS.laid (g:=2) (t:=257) (e:=232) (n:=20) 2 (by kernel_rfl) (by kernel_rfl) (by kernel_rfl) (by kernel_rfl) (by kernel_rfl) (by kernel_rfl) (by kernel_rfl) hL)
 refine Calls.mono key fun e W' ⟨he,hb⟩=>?_
 subst he
 exact⟨_,rfl,zS hW' laidOut (by kernel_rfl) rfl rfl rfl Tryz.underlying4 hb⟩
end Go.Proofs.YtfdpbglppfohhaaGreatDoor.exactZipSide
