/-
  'laws.FnExactZipKids' returns true for all arguments, and the arguments read behind the call as they read before; the listed tables are tied to the program's text. No condition.
-/
import Derived.Test.YteglbjcjlamohaaGreatDoorP6
import Derived.ProofKit
import Derived.OpenShut
import Derived.Deep.DeepHandedRow
import Derived.Test.YteglbjcjlamohaaGreatDoorCards
import Derived.Test.YteglbjcjlamohaaGreatDoorTie
set_option linter.unusedVariables false
set_option linter.unusedSimpArgs false
namespace Go.Proofs.YteglbjcjlamohaaGreatDoor.exactZipKids
open Go Go.VL Go.ChangeShapes Go.WideShapes Go.ChangeAt Go.RowKit Go.ChangeMaps Go.Proofs.Trees
theorem own:ownKnob Tryz.prog.godebug = none:=by kernel_rfl
theorem laidOut:laidOutB Tryz.prog = true:=by kernel_rfl
set_option maxRecDepth 100000 in
theorem contract (H:Type) (enc:TypeId×Value->H) (W:World) (base:Nat) (args:Array Value) (ds gs:List (DataW H)) (before:List MemPlace)
  (hval:∀(j:Nat) t v,Tryz.f8.params[j]? = some t->args[j]? = some v->Value.okWide Tryz.prog W .any base t v)
  (hW:DataW.Whole enc Tryz.prog Tryz.f8.params.toList Rows.fnExactZipKidsSpec.vars false W args.toList ds gs before)
  (hL:laidMet Tryz.prog Rows.fnExactZipKidsRow.laid W) :
  Calls Tryz.prog 8 args W fun e W'=>∃v,e = .returned v/\Rows.fnExactZipKidsSpec.post enc Tryz.prog Tryz.f8 false true false false W args v W':=by
 have hW':=hW
 obtain⟨p,q,hA0,hV,rfl,hfz,hnd⟩:=hW
 have hA:DataW.TrodAll enc Tryz.prog W 0 (fun _=>true) true Tryz.f8.params.toList args.toList ds p:=hA0
 rw [Tryz.params8] at hA hval
 obtain⟨v0,vs0,d0,ds0,p0,q0,hargs0,rfl,rfl,h0,r0⟩:=trodAll_cons hA
 obtain⟨rfl,rfl,rfl⟩:=trodAll_nil r0
 obtain rfl:args = #[v0]:=by cases args; simp_all
 obtain⟨rfl,rfl⟩:=trodVars_none hV
 obtain⟨v0a,v0b,v0c,rfl,fa0,fb0,fc0⟩:=arg_agg3 Tryz.underlying30 (by kernel_rfl) (by kernel_rfl) (by kernel_rfl) (hval 0 30 v0 rfl rfl) h0
 obtain⟨la0,rfl,ha0⟩:=fa0.str (by kernel_rfl)
 obtain⟨lc0,rfl,hc0⟩:=fc0.str (by kernel_rfl)
 obtain⟨ob0,a0,hb0,hs0⟩:=fb0.slice (n:=3) (ks:=[.str]) (e:=9) (by kernel_rfl) (by kernel_rfl) (by kernel_rfl)
 obtain⟨p0,hp0,hl0⟩:∃p:List (List UInt8),StrsA a0 p/\p.length<=maxLen:=by
  rcases hs0 with rfl | ⟨es,rfl,h3,h4⟩
  ·exact⟨[],StrsA.nil,Nat.zero_le _⟩
  ·obtain⟨l,rfl⟩:=strs_of h4
   exact⟨l,StrsA.of l,by simpa using h3⟩
 clear hA0
 have key:=FSpec.law (W:=W) (vs:=[.agg #[.string (mk la0),v0b,.string (mk lc0)]]) (Sqhp la0 a0 p0 hp0 lc0 ha0 hl0) rfl (fun i hi=>by
  match i,hi with
  | 0,_=>exact Rep.agg3 (.v _ _) hb0 (.v _ _) rfl ob0 rfl) (TabM.laid (g:=2) (t:=219) (e:=195) (n:=20) 2 (by kernel_rfl) (by kernel_rfl) (by kernel_rfl) (by kernel_rfl) (by kernel_rfl) (by kernel_rfl) (by kernel_rfl) hL)
 refine Calls.mono key fun e W' ⟨he,hb⟩=>?_
 subst he
 exact⟨_,rfl,law_post hW' laidOut (by kernel_rfl) rfl rfl rfl Tryz.underlying4 hb⟩
noncomputable def put (k:IntKind) (l:List Nat):Obj->Obj
 | .cells _ t frozen=>.cells (l.map fun n:Nat=>Value.int k (Int.ofNat n)).toArray t frozen
 | o=>o
noncomputable def low:Nat:=(World.holding Tryz.prog default ⟨#[],#[],[]⟩).heap.size
noncomputable def putV (l:Array Value):Obj->Obj
 | .cells _ t frozen=>.cells l t frozen
 | o=>o
noncomputable def laidWorld (os:Os):World :=
 {World.holding Tryz.prog os ⟨#[.cells #[.string ⟨#[118,97,108,117,101,32,111,117,116,32,111,102,32,114,97,110,103,101]⟩] 216,.cells #[.string ⟨#[105,110,118,97,108,105,100,32,115,121,110,116,97,120]⟩] 216],#[],[]⟩ with heap:=((((((((World.holding Tryz.prog os ⟨#[.cells #[.string ⟨#[118,97,108,117,101,32,111,117,116,32,111,102,32,114,97,110,103,101]⟩] 216,.cells #[.string ⟨#[105,110,118,97,108,105,100,32,115,121,110,116,97,120]⟩] 216],#[],[]⟩).heap.modify 6 (put .u8 [0,1,28,2,29,14,24,3,30,22,20,15,25,17,4,8,31,27,13,23,21,19,16,7,26,12,18,6,11,5,10,9])).modify 7 (put .u8 [0,1,56,2,57,49,28,3,61,58,42,50,38,29,17,4,62,47,59,36,45,43,51,22,53,39,33,30,24,18,12,5,63,55,48,27,60,41,37,16,46,35,44,21,52,32,23,11,54,26,40,15,34,20,31,10,25,14,19,9,13,8,7,6])).modify 2 (put .u64 [1,10,100,1000,10000,100000,1000000,10000000,100000000,1000000000,10000000000,100000000000,1000000000000,10000000000000,100000000000000,1000000000000000,10000000000000000,100000000000000000,1000000000000000000,10000000000000000000])).modify 5 (put .u8 [128,191,160,191,128,159,144,191,128,143,0,0,0,0,0,0,0,0,0,0,0,0,0,0,0,0,0,0,0,0,0,0])).modify 1 (putV #[.iface 214 (.pointer (some ⟨low+0,0,none⟩))])).modify 0 (putV #[.iface 214 (.pointer (some ⟨low+1,0,none⟩))])).modify 4 (put .u8 Pinned.utf8FirstZ)) }
theorem laid_met (os:Os):laidMet Tryz.prog Rows.fnExactZipKidsRow.laid ((laidWorld os).forCall (fun _ _=>0) ⟨#[],#[.agg #[.string ⟨#[]⟩,.slice none 0 0,.string ⟨#[]⟩]],[]⟩).memory :=
 laidMet_of_run' 8 (by kernel_rfl) (by kernel_rfl)
theorem reads (os:Os) {H:Type} (enc:TypeId×Value->H):∃places,DataW.whole enc Tryz.prog ((laidWorld os).forCall (fun _ _=>0) ⟨#[],#[.agg #[.string ⟨#[]⟩,.slice none 0 0,.string ⟨#[]⟩]],[]⟩).memory Tryz.f8.params.toList Rows.fnExactZipKidsSpec.vars false (#[.agg #[.string ⟨#[]⟩,.slice none 0 0,.string ⟨#[]⟩]]:Array Value).toList 8 = some ([.agg [.lit (.string []),.nil,.lit (.string [])]],[],places) :=
 ⟨[],by kernel_rfl⟩
set_option maxRecDepth 100000 in
theorem lifted (os:Os) (started:os.Started) (H:Type) (enc:TypeId×Value->H) (F:Stop.Interp) :
  ReturnsInHanded {} Tryz.checked os 8 .any ((OpenSpec.ofChange Rows.fnExactZipKidsSpec).preRow enc Tryz.prog Tryz.f8 Rows.fnExactZipKidsRow.domain false Rows.fnExactZipKidsRow.laid) (((OpenSpec.ofChange Rows.fnExactZipKidsSpec).at F).post enc Tryz.prog Tryz.f8 false true false false):=by
 obtain⟨places,hx⟩:=reads os enc
 refine returnsInHanded_of_row (C:=Tryz.checked) (s:=OpenSpec.ofChange Rows.fnExactZipKidsSpec) own started (by kernel_rfl) Tryz.func8
  (witness_row_at (enc:=enc) (C:=Tryz.checked) false (laidWorld os) #[.agg #[.string ⟨#[]⟩,.slice none 0 0,.string ⟨#[]⟩]] rfl (by kernel_rfl) (by kernel_rfl) (by kernel_rfl)
   (OpenSpec.preRow_of_cond 8 hx (by kernel_rfl) (fun k hk=>by cases hk) (by kernel_rfl) (laid_met os))) ?_
 intro W base args ds gs before hval hW _ _ _ hL _ _
 exact contract H enc W base args ds gs before hval hW hL
theorem said:Rows.FnExactZipKidsSaid :=
 OpenClaim.holds_of_cond 8 Tryz.f8 rfl rfl rfl rfl rfl rfl rfl ⟨rfl,rfl,rfl,rfl,rfl⟩ rfl rfl rfl rfl rfl (by kernel_rfl) Tryz.func8 (by kernel_rfl)
  (of_decide_eq_true (by kernel_rfl)) (by unfold Func.isWrapper; first | (rw [if_pos (by decide +kernel)]; kernel_rfl) | (rw [if_neg (by decide +kernel)]; exact⟨rfl,rfl⟩))
  (fun os started H enc _ F=>by rw [OpenClaim.pre_eq_preRow]; exact lifted os started H enc F)
theorem plain (f:FuncId) (fn:Func) (hf:Tryz.pinned.checked.prog.funcNamed "loop.example/typezippers/laws.FnExactZipKids" = some f) (hfn:Tryz.pinned.checked.prog.funcs[f]? = some fn) :
  true = Tryz.pinned.checked.prog.looks []/\∀(j:Nat) t,fn.params[j]? = some t->Tryz.pinned.checked.prog.wantsStandIn t = false:=by
 obtain rfl:f = 8:=Option.some.inj ((show Tryz.prog.funcNamed "loop.example/typezippers/laws.FnExactZipKids" = some 8 by kernel_rfl).symm.trans hf) |>.symm
 obtain rfl:fn = Tryz.f8:=(Option.some.inj (Tryz.func8.symm.trans hfn)).symm
 refine⟨by kernel_rfl,fun j t ht=>?_⟩
 rw [Tryz.params8] at ht
 have hm:=Array.mem_of_getElem? ht
 simp only [List.mem_toArray,List.mem_cons,List.not_mem_nil,or_false] at hm
 obtain rfl:=hm
 ·exact(show Tryz.prog.wantsStandIn 30 = false by kernel_rfl)
theorem card:Rows.FnExactZipKidsCardSaid :=
 Claim7.holds_tied_plain_at .later [] _ _ _ _ said (fun _ h=>by cases h) (by kernel_rfl) (fun _ h=>by cases h) fnExactZipKids_row_tie rfl ⟨rfl,rfl⟩ (by kernel_rfl) rfl plain (by kernel_rfl)
end Go.Proofs.YteglbjcjlamohaaGreatDoor.exactZipKids
