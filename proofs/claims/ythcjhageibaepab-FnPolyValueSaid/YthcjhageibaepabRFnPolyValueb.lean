/-
  'laws.FnPolyValue' returns true for all arguments, and the arguments read behind the call as they read before. No condition.
-/
import Derived.Test.YthcjhageibaepabRFnPolyValuea
import Derived.ProofKit
import Derived.OpenShut
import Derived.Deep.DeepHandedRow
import Derived.LaidLaws
import Derived.Test.YthcjhageibaepabRows
set_option linter.unusedVariables false
set_option linter.unusedSimpArgs false
namespace Go.Proofs.Ythcjhageibaepab.fnPolyValueLaw
open Go Go.VL Go.ChangeShapes Go.WideShapes Go.ChangeAt Go.RowKit Go.ChangeMaps Go.Proofs.Trees
noncomputable def put (k:IntKind) (l:List Nat):Obj->Obj
 | .cells _ t frozen=>.cells (l.map fun n:Nat=>Value.int k (Int.ofNat n)).toArray t frozen
 |o=>o
noncomputable def laidWorld (os:Os):World :=
 {World.holding Try.prog os ⟨#[],#[],[]⟩with heap:=(World.holding Try.prog os ⟨#[],#[],[]⟩).heap}
theorem laid_met(os:Os):laidMet Try.prog Rows.fnPolyValueRow.laid ((laidWorld os).forCall (fun _ _=>0) ⟨#[],#[.slice none 0 0],[]⟩).memory :=
 laidMet_of_run' 8 (by kernel_rfl) (by kernel_rfl)
theorem reads(os:Os){H:Type}(enc:TypeId×Value->H):∃places,DataW.whole enc Try.prog ((laidWorld os).forCall (fun _ _=>0) ⟨#[],#[.slice none 0 0],[]⟩).memory Try.f3.params.toList Rows.fnPolyValueSpec.vars false (#[.slice none 0 0]:Array Value).toList 8=some ([.nil],[],places) :=
 ⟨[],by kernel_rfl⟩
set_option maxRecDepth 100000 in
theorem lifted (os:Os) (started:os.Started) (H:Type) (enc:TypeId×Value->H) (F:Stop.Interp) :
 ReturnsInHanded {} Try.checked os 3 .any ((OpenSpec.ofChange Rows.fnPolyValueSpec).preRow enc Try.prog Try.f3 Rows.fnPolyValueRow.domain false Rows.fnPolyValueRow.laid) (((OpenSpec.ofChange Rows.fnPolyValueSpec).at F).post enc Try.prog Try.f3 false true false false):=by
 obtain⟨places,hx⟩:=reads os enc
 refine returnsInHanded_of_row (C:=Try.checked) (s:=OpenSpec.ofChange Rows.fnPolyValueSpec) own started (by kernel_rfl) Try.func3
  (witness_row_at (enc:=enc) (C:=Try.checked) false (laidWorld os) #[.slice none 0 0] rfl (by kernel_rfl) (by kernel_rfl) (by kernel_rfl)
   (OpenSpec.preRow_of_cond 8 hx (by kernel_rfl) (fun k hk=>by cases hk) (by kernel_rfl) (laid_met os))) ?_
 intro W base args ds gs before hval hW _ _ _ hL _ _
 exact contract H enc W base args ds gs before hval hW
end Go.Proofs.Ythcjhageibaepab.fnPolyValueLaw
