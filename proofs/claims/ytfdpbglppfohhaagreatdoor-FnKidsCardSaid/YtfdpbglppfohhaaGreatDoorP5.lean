/-
  Part of a proof: Go functions read by values, trees of functions, their contracts.
-/
import Derived.Test.YtfdpbglppfohhaaGreatDoorP4
import Derived.Test.YtfdpbglppfohhaaGreatDoorProg
import Derived.Lib.Atoi
set_option linter.unusedVariables false
set_option linter.unusedSimpArgs false
open And renaming intro→aI
open Bool renaming and_eq_true→aw,eq_iff_iff→ct,or_eq_false_iff→cb,or_eq_true→bz,true_and→bV
open ByteArray renaming extract→ck,size→ae,toList→af
open Int renaming tmod→dG,toNat→bI,toNat_natCast→bZ
open List renaming all_cons→cZ,any_eq_true→cm,append_assoc→bc,append_nil→cX,drop_eq_getElem_cons→aW,drop_eq_nil_of_le→bS,drop_zero→bh,getD_cons_zero→bx,getD_eq_getElem?_getD→aa,getElem?_eq_getElem→bp,getElem_mem→bF,headD_cons→aS,length_append→an,length_cons→az,length_drop→cq,length_nil→aH,map_cons→bC,mem_append→aN,mem_append_left→aC,mem_cons→aJ,mem_cons_of_mem→al,mem_cons_self→ak,mem_map→bO,mem_singleton→aV,nil_append→aU
open Nat renaming beq→aK,le_add_right→da,le_refl→au,mul_add→cT,mul_one→dH,zero_add→aZ,zero_le→dP
open Option renaming bind_eq_some_iff→bg,isSome_iff_exists→bR,isSome_none→bq,map_some→cz
open UInt8 renaming ofNat→bj
namespace Go.Proofs.Trees
open Go Go.VL
noncomputable section
variable {R:AV->List Ob->Prop}{U:RL}
def Gp(x0:AV)(x1:AV)(x9:ByteArray)(o0_0:AV)(o1_0:Int):Tree :=
 NP x0<|NL x1<|NS (VS x9)<|.aj (Ob.cells [o0_0]=.cells [o0_0])<|.aj (ac [.lk .sl] [o0_0] 0 [.cells [VI o1_0]])<|.aj (Ob.cells [VI o1_0]=.cells [VI o1_0])<|.aj (ac [.lk (.int .i64)] [VI o1_0] 0 [])<|.test (af x9==af (mk [])) (.call 174 [VI o1_0] [] fun r1 o1=>NS r1<|.aj (ae (mk [116])+ae r1.ag<=9223372036854775807)<|.done 0 [x0,x1,VS (((mk [116]):ByteArray)++r1.ag)] [.cells [o0_0],.cells [VI (IntKind.wrap .i64 (o1_0+1))]]) (.call 177 [o0_0,VS x9] [] fun r2 o2=>NB r2<|.test r2.toBool (.call 174 [VI o1_0] [] fun r3 o3=>NS r3<|.aj (ae (mk [116])+ae r3.ag<=9223372036854775807)<|.done 0 [x0,x1,VS (((mk [116]):ByteArray)++r3.ag)] [.cells [o0_0],.cells [VI (IntKind.wrap .i64 (o1_0+1))]]) (.done 1 [x0,x1,VS x9] [.cells [o0_0],.cells [VI o1_0]]))
abbrev Ef:=cy Tryz.prog 100 Lq GD
theorem Lt(x0:AV)(x1:AV)(x9:ByteArray)(o0_0:AV)(o1_0:Int)(h:kE 100 (Gp x0 x1 x9 o0_0 o1_0) Ef U):Ef [x0,x1,VS x9] [.cells [o0_0],.cells [VI o1_0]] U :=
 gQ Nl h
def L0(a0:AV)(a1:ByteArray):Tree :=
 .call 194 [a0,VS a1] [] fun r1 o1=>NI r1<|.done 0 [VB (decide (r1.toInt≥(0:Int)))] []
theorem QE(a0:AV)(a1:ByteArray)(ha0:LK.has .sl a0)(h:du 9 (L0 a0 a1) R):aq Tryz.prog 177 [a0,VS a1] [] R :=
 uQ (ah (bT ha0) (ah (aA _) aD)) (oQ [] Tryz.f177 h)
def IV(a0:Int):Tree :=
 .test (decide (a0≥(97:Int))) (.test (decide (a0<=(122:Int))) (.done 0 [VB true] []) (.test (decide (a0≥(48:Int))) (.test (decide (a0<=(57:Int))) (.done 0 [VB true] []) (.test (a0==(42:Int)) (.done 0 [VB true] []) (.done 0 [VB (a0==(43:Int))] []))) (.test (a0==(42:Int)) (.done 0 [VB true] []) (.done 0 [VB (a0==(43:Int))] [])))) (.test (decide (a0≥(48:Int))) (.test (decide (a0<=(57:Int))) (.done 0 [VB true] []) (.test (a0==(42:Int)) (.done 0 [VB true] []) (.done 0 [VB (a0==(43:Int))] []))) (.test (a0==(42:Int)) (.done 0 [VB true] []) (.done 0 [VB (a0==(43:Int))] [])))
theorem Qx(a0:Int)(h:du 25 (IV a0) R):aq Tryz.prog 178 [.v (.int .u8 a0)] [] R :=
 uQ (ah (aA _) aD) (oQ [] Tryz.f178 h)
def GK:LI:={hd:={bX:=[(0,.k .sl),(1,.c (.func (.func 159) #[] #[])),(7,.k (.int .i64)),(8,.k (.int .i64))]},xs:={},rt:={bX:=[(4,.k (.int .i64))]},ex:=0}
def JE:Code:=cP (cH Tryz.f179) 2
def NJ:List (Nat×LI):=[(2,GK)]
def Lh(a0:AV):Tree :=
 NL a0<|.loop JE GK [a0,.v (.func (.func 159) #[] #[]),VI (a0.aP.length:Int),VI 0] [] (fun y2 q2=>.done 0 [VI (-1)] []) (fun y2 q2=>NI (y2.hA)<|.done 0 [VI ((y2.hA).toInt)] [])
theorem Pa(a0:AV)(ha0:LK.has .sl a0)(h:du 19 (Lh a0) R):aq Tryz.prog 179 [a0,.v (.func (.func 159) #[] #[])] [] R :=
 uQ (ah (bT ha0) (ah (aA _) aD)) (oQ NJ Tryz.f179 h)
def F5(x0:AV)(x7:Int)(x8:Int):Tree :=
 NL x0<|.aj (AV.v (.func (.func 159) #[] #[])=.v (.func (.func 159) #[] #[]))<|NI (VI x7)<|NI (VI x8)<|.test (decide (x8<x7)) (NG x0 x8 1<|lg (x0.ix x8)<|.call 159 [VS (((x0.ix x8).hA).ag)] [] fun r1 o1=>NB r1<|.test r1.toBool (.done 2 [VI x8] []) (.done 0 [x0,.v (.func (.func 159) #[] #[]),VI x7,VI (IntKind.wrap .i64 (x8+1))] [])) (.done 1 [] [])
abbrev GQ:=cy Tryz.prog 19 JE GK
theorem N0(x0:AV)(x7:Int)(x8:Int)(h:kE 19 (F5 x0 x7 x8) GQ U):GQ [x0,.v (.func (.func 159) #[] #[]),VI x7,VI x8] [] U :=
 gQ NJ h
def EK(a0:AV)(e1_0_0:List (List AV)):Tree :=
 .call 181 [a0,.ref 0 0] [.cells [.vec 1],.vec 1 e1_0_0] fun r1 o1=>.aj ((o1.hO)=.cells (o1.hO).cs)<|.aj (aM [.vec 1] ((o1.hO).cs) 0 1 o1.tail)<|NZ a0<|NZ a0<|dT (a0.deref.drop 3)<|NP ((a0.deref.drop 3).hA)<|.test (!((a0.deref.drop 3).hA).isNil) (NZ a0<|NZ a0<|dT (a0.deref.drop 3)<|.call 180 [((a0.deref.drop 3).hA),.fn 181 [.ref 0 0]] [.cells [.vec 1],.vec 1 ((o1.tail.hO).es)] fun r2 o2=>.aj ((o2.hO)=.cells (o2.hO).cs)<|.aj (aM [.vec 1] ((o2.hO).cs) 0 1 o2.tail)<|NZ a0<|NZ a0<|dT (a0.deref.drop 4)<|NP ((a0.deref.drop 4).hA)<|.test (!((a0.deref.drop 4).hA).isNil) (NZ a0<|NZ a0<|dT (a0.deref.drop 4)<|.call 180 [((a0.deref.drop 4).hA),.fn 181 [.ref 0 0]] [.cells [.vec 1],.vec 1 ((o2.tail.hO).es)] fun r3 o3=>.aj ((o3.hO)=.cells (o3.hO).cs)<|.aj (aM [.vec 1] ((o3.hO).cs) 0 1 o3.tail)<|.done 0 [.any] [.cells [.vec 1],.vec 1 ((o3.tail.hO).es)]) (.done 0 [.any] [.cells [.vec 1],.vec 1 ((o2.tail.hO).es)])) (NZ a0<|NZ a0<|dT (a0.deref.drop 4)<|NP ((a0.deref.drop 4).hA)<|.test (!((a0.deref.drop 4).hA).isNil) (NZ a0<|NZ a0<|dT (a0.deref.drop 4)<|.call 180 [((a0.deref.drop 4).hA),.fn 181 [.ref 0 0]] [.cells [.vec 1],.vec 1 ((o1.tail.hO).es)] fun r4 o4=>.aj ((o4.hO)=.cells (o4.hO).cs)<|.aj (aM [.vec 1] ((o4.hO).cs) 0 1 o4.tail)<|.done 0 [.any] [.cells [.vec 1],.vec 1 ((o4.tail.hO).es)]) (.done 0 [.any] [.cells [.vec 1],.vec 1 ((o1.tail.hO).es)]))
theorem wm(a0:AV)(e1_0_0:List (List AV))(ha0:LK.has .ptr a0)(h:du 29 (EK a0 e1_0_0) R):aq Tryz.prog 180 [a0,.fn 181 [.ref 0 0]] [.cells [.vec 1],.vec 1 e1_0_0] R :=
 aq.nK (bB (cc (ah (aA _) aD)) (bB (fW _) cw)) (aq.up (ah (bE ha0) (ah (aA _) aD)) (oF [] {mu:=[(1,.fn [some (.obj [.vec 1])])],own:=[]} Tryz.f180 h))
def Ft(a0:AV)(e1_0:List (List AV)):Tree :=
 NZ a0<|NZ a0<|.aj (LK.has (.int .u8) (a0.deref.hA)/\1<=a0.deref.length)<|.test (((a0.deref.hA).toInt)==(110:Int)) (NZ a0<|NZ a0<|lg (a0.deref.drop 1)<|.call 177 [.sl e1_0,VS (((a0.deref.drop 1).hA).ag)] [] fun r1 o1=>NB r1<|.test (!r1.toBool) (NZ a0<|NZ a0<|lg (a0.deref.drop 1)<|.aj (cv 1 [[VS (((a0.deref.drop 1).hA).ag)]]/\((e1_0.length)+([[VS (((a0.deref.drop 1).hA).ag)]]:List (List AV)).length)*16<=140737488355328)<|.done 0 [.any] [.cells [.vec 1],.vec 1 (e1_0++([[VS (((a0.deref.drop 1).hA).ag)]]:List (List AV)))]) (.done 0 [.any] [.cells [.vec 1],.vec 1 e1_0])) (.done 0 [.any] [.cells [.vec 1],.vec 1 e1_0])
theorem OO(a0:AV)(e1_0:List (List AV))(ha0:LK.has .ptr a0)(h:du 24 (Ft a0 e1_0) R):aq Tryz.prog 181 [a0,.ref 0 0] [.cells [.vec 1],.vec 1 e1_0] R :=
 aq.nK (bB (cc (ah (aA _) aD)) (bB (fW _) cw)) (aq.up (ah (bE ha0) (ah (aA _) aD)) (oF [] {mu:=[(1,.one (.obj [.vec 1]))],own:=[]} Tryz.f181 h))
def Nb(a0:ByteArray)(a1:ByteArray):Tree :=
 .test (decide ((ae a0:Int)≥(1:Int))) (.test (decide ((ae a0:Int)<=(3:Int))) (.aj (0<=(0:Int)/\(0:Int)<=(1:Int)/\(1:Int)<=(ae a0:Int))<|.call 195 [VS a1,VS (ck a0 (bI 0) (bI 1))] [] fun r1 o1=>NB r1<|.test r1.toBool (.aj (0<=(1:Int)/\(1:Int)<=(ae a0:Int)/\(ae a0:Int)<=(ae a0:Int))<|.call 184 [VS (ck a0 (bI 1) (bI (ae a0:Int))),VS (mk [48,49,50,51,52,53,54,55,56,57])] [] fun r2 o2=>NS r2<|.done 0 [VB (af r2.ag==af (mk []))] []) (.done 0 [VB false] [])) (.done 0 [VB false] [])) (.done 0 [VB false] [])
theorem Pd(a0:ByteArray)(a1:ByteArray)(h:du 25 (Nb a0 a1) R):aq Tryz.prog 182 [VS a0,VS a1] [] R :=
 uQ (ah (aA _) (ah (aA _) aD)) (oQ [] Tryz.f182 h)
def IE(a0:Int):Tree :=
 .test (decide (a0≥(97:Int))) (.test (decide (a0<=(122:Int))) (.done 0 [VB true] []) (.test (decide (a0≥(48:Int))) (.test (decide (a0<=(57:Int))) (.done 0 [VB true] []) (.test (a0==(43:Int)) (.done 0 [VB true] []) (.done 0 [VB (a0==(42:Int))] []))) (.test (a0==(43:Int)) (.done 0 [VB true] []) (.done 0 [VB (a0==(42:Int))] [])))) (.test (decide (a0≥(48:Int))) (.test (decide (a0<=(57:Int))) (.done 0 [VB true] []) (.test (a0==(43:Int)) (.done 0 [VB true] []) (.done 0 [VB (a0==(42:Int))] []))) (.test (a0==(43:Int)) (.done 0 [VB true] []) (.done 0 [VB (a0==(42:Int))] [])))
theorem PP(a0:Int)(h:du 25 (IE a0) R):aq Tryz.prog 183 [.v (.int .u8 a0)] [] R :=
 uQ (ah (aA _) aD) (oQ [] Tryz.f183 h)
def FF:LI:={hd:={bX:=[(17,.k (.int .i64))],refs:=[(4,4),(12,12),(14,14)],co:=[(4,[.lk .str,.lk .sl]),(12,[.lk .str,.lk .sl]),(14,[.lk .str,.lk .sl])],eZ:=[(16,1)]},xs:={bX:=[(17,.k (.int .i64))],refs:=[(4,4),(12,12),(14,14)],co:=[(4,[.lk .str,.lk .sl]),(12,[.lk .str,.lk .sl]),(14,[.lk .str,.lk .sl])]},rt:={},ex:=0}
def Lp:Code:=cP (cH Tryz.f190) 13
def MR:List (Nat×LI):=[(13,FF)]
def LO(a0_0:ByteArray)(a0_1:AV)(a1:ByteArray):Tree :=
 .call 106 [.agg [VS a0_0,a0_1],.sl [[VS a1,.v (.slice none 0 0)]]] [] fun r1 o1=>NA r1<|NG (r1.cs.getD 1 .any) 1 2<|lg ((r1.cs.getD 1 .any).ix (1:Int))<|NG (r1.cs.getD 1 .any) 2 2<|NE ((r1.cs.getD 1 .any).ix (2:Int))<|.call 166 [.agg [VS ((((r1.cs.getD 1 .any).ix (2:Int)).getD 0 .any).ag),(((r1.cs.getD 1 .any).ix (2:Int)).getD 1 .any)],VS a1] [] fun r2 o2=>NT r2<|.aj ((r2.comp 0)=.agg (r2.comp 0).cs/\(r2.comp 0).cs.length=2/\bH [.str,.sl] ((r2.comp 0).cs) 0)<|NB (r2.comp 1)<|NG (r1.cs.getD 1 .any) 2 2<|NE ((r1.cs.getD 1 .any).ix (2:Int))<|.call 166 [.agg [VS ((((r1.cs.getD 1 .any).ix (2:Int)).getD 0 .any).ag),(((r1.cs.getD 1 .any).ix (2:Int)).getD 1 .any)],VS ((((r1.cs.getD 1 .any).ix (1:Int)).hA).ag)] [] fun r3 o3=>NT r3<|.aj ((r3.comp 0)=.agg (r3.comp 0).cs/\(r3.comp 0).cs.length=2/\bH [.str,.sl] ((r3.comp 0).cs) 0)<|NB (r3.comp 1)<|.test (!((r2.comp 1).toBool)) (.done 0 [.cD [.agg [VS ((r1.cs.getD 0 .any).ag),(r1.cs.getD 1 .any)],VB false]] []) (.test (!((r3.comp 1).toBool)) (.done 0 [.cD [.agg [VS ((r1.cs.getD 0 .any).ag),(r1.cs.getD 1 .any)],VB false]] []) (.call 167 [.agg [VS (((r2.comp 0).cs.getD 0 .any).ag),((r2.comp 0).cs.getD 1 .any)],VS ((((r1.cs.getD 1 .any).ix (1:Int)).hA).ag),.agg [VS ((r1.cs.getD 0 .any).ag),(r1.cs.getD 1 .any)]] [] fun r4 o4=>NT r4<|.aj ((r4.comp 0)=.agg (r4.comp 0).cs/\(r4.comp 0).cs.length=2/\bH [.str,.sl] ((r4.comp 0).cs) 0)<|NB (r4.comp 1)<|.call 167 [.agg [VS (((r3.comp 0).cs.getD 0 .any).ag),((r3.comp 0).cs.getD 1 .any)],VS ((((r1.cs.getD 1 .any).ix (1:Int)).hA).ag),.agg [VS ((r1.cs.getD 0 .any).ag),(r1.cs.getD 1 .any)]] [] fun r5 o5=>NT r5<|.aj ((r5.comp 0)=.agg (r5.comp 0).cs/\(r5.comp 0).cs.length=2/\bH [.str,.sl] ((r5.comp 0).cs) 0)<|NB (r5.comp 1)<|.test (!((r4.comp 1).toBool)) (.done 0 [.cD [.agg [VS ((r1.cs.getD 0 .any).ag),(r1.cs.getD 1 .any)],VB false]] []) (.test (!((r5.comp 1).toBool)) (.done 0 [.cD [.agg [VS ((r1.cs.getD 0 .any).ag),(r1.cs.getD 1 .any)],VB false]] []) (.call 137 [.agg [VS (((r5.comp 0).cs.getD 0 .any).ag),((r5.comp 0).cs.getD 1 .any)],.sl [],.vec 0] [.vec 1 []] fun r6 o6=>.aj (r6=.vec 1/\(o6.tail.hO)=.vec 1 (o6.tail.hO).es)<|.call 137 [.agg [VS (((r4.comp 0).cs.getD 0 .any).ag),((r4.comp 0).cs.getD 1 .any)],.sl [],.vec 0] [.vec 1 ((o6.tail.hO).es)] fun r7 o7=>.aj (r7=.vec 1/\(o7.tail.hO)=.vec 1 (o7.tail.hO).es)<|.loop Lp FF [VI 0] [.cells [VS (mk []),.v (.slice none 0 0)],.cells [VS (((r4.comp 0).cs.getD 0 .any).ag),((r4.comp 0).cs.getD 1 .any)],.cells [VS (((r5.comp 0).cs.getD 0 .any).ag),((r5.comp 0).cs.getD 1 .any)],.vec 1 ((o7.tail.hO).es)] (fun y10 q10=>NI (y10.hA)<|.aj ((q10.hO)=.cells (q10.hO).cs)<|.aj (ac [.lk .str,.lk .sl] ((q10.hO).cs) 0 q10.tail)<|.aj (((q10.tail.drop 0).hO)=.cells ((q10.tail.drop 0).hO).cs)<|.aj (ac [.lk .str,.lk .sl] (((q10.tail.drop 0).hO).cs) 0 ((q10.tail.drop 0).tail))<|.aj ((((q10.tail.drop 0).tail.drop 0).hO)=.cells (((q10.tail.drop 0).tail.drop 0).hO).cs)<|.aj (ac [.lk .str,.lk .sl] ((((q10.tail.drop 0).tail.drop 0).hO).cs) 0 (((q10.tail.drop 0).tail.drop 0).tail))<|.call 142 [VI ((y10.hA).toInt)] [] fun r11 o11=>NS r11<|.aj (ae (mk [116])+ae r11.ag<=9223372036854775807)<|.call 98 [VS (mk [42]),.sl [[VS (((q10.tail.tail.hO).cs.getD 0 .any).ag),((q10.tail.tail.hO).cs.getD 1 .any)],[VS (((mk [116]):ByteArray)++r11.ag),.v (.slice none 0 0)]]] [] fun r12 o12=>NA r12<|.call 98 [VS (mk [43]),.sl [[VS (((q10.tail.hO).cs.getD 0 .any).ag),((q10.tail.hO).cs.getD 1 .any)],[VS ((r12.cs.getD 0 .any).ag),(r12.cs.getD 1 .any)]]] [] fun r13 o13=>NA r13<|.call 98 [VS (mk [114,101,99]),.sl [[VS (((mk [116]):ByteArray)++r11.ag),.v (.slice none 0 0)],[VS ((r13.cs.getD 0 .any).ag),(r13.cs.getD 1 .any)]]] [] fun r14 o14=>NA r14<|.call 140 [.agg [VS ((r14.cs.getD 0 .any).ag),(r14.cs.getD 1 .any)]] [] fun r15 o15=>NI r15<|.done 0 [.cD [.agg [VS ((r14.cs.getD 0 .any).ag),(r14.cs.getD 1 .any)],VB (decide (r15.toInt<=(400:Int)))]] []) (fun y10 q10=>.fail)))))
theorem Qi(a0_0:ByteArray)(a0_1:AV)(a1:ByteArray)(ha0_1:LK.has .sl a0_1)(h:du 108 (LO a0_0 a0_1 a1) R):aq Tryz.prog 190 [.agg [VS a0_0,a0_1],VS a1] [] R :=
 uQ (ah (ci (ah (aA _) (ah (bT ha0_1) aD))) (ah (aA _) aD)) (oQ MR Tryz.f190 h)
def I7(x17:Int)(o4_0:ByteArray)(o4_1:AV)(o12_0:ByteArray)(o12_1:AV)(o14_0:ByteArray)(o14_1:AV)(e16:List (List AV)):Tree :=
 NI (VI x17)<|.aj (Ob.cells [VS o4_0,o4_1]=.cells [VS o4_0,o4_1])<|.aj (ac [.lk .str,.lk .sl] [VS o4_0,o4_1] 0 [.cells [VS o12_0,o12_1],.cells [VS o14_0,o14_1],.vec 1 e16])<|.aj (Ob.cells [VS o12_0,o12_1]=.cells [VS o12_0,o12_1])<|.aj (ac [.lk .str,.lk .sl] [VS o12_0,o12_1] 0 [.cells [VS o14_0,o14_1],.vec 1 e16])<|.aj (Ob.cells [VS o14_0,o14_1]=.cells [VS o14_0,o14_1])<|.aj (ac [.lk .str,.lk .sl] [VS o14_0,o14_1] 0 [.vec 1 e16])<|.aj (Ob.vec 1 e16=.vec 1 e16)<|.call 142 [VI x17] [] fun r1 o1=>NS r1<|.aj (ae (mk [116])+ae r1.ag<=9223372036854775807)<|.call 169 [.sl e16,VS (((mk [116]):ByteArray)++r1.ag)] [] fun r2 o2=>NB r2<|.test r2.toBool (.done 0 [VI (IntKind.wrap .i64 (x17+1))] [.cells [VS o4_0,o4_1],.cells [VS o12_0,o12_1],.cells [VS o14_0,o14_1],.vec 1 e16]) (.done 1 [VI x17] [.cells [VS o4_0,o4_1],.cells [VS o12_0,o12_1],.cells [VS o14_0,o14_1]])
abbrev GU:=cy Tryz.prog 108 Lp FF
theorem Rf(x17:Int)(o4_0:ByteArray)(o4_1:AV)(o12_0:ByteArray)(o12_1:AV)(o14_0:ByteArray)(o14_1:AV)(e16:List (List AV))(h:kE 108 (I7 x17 o4_0 o4_1 o12_0 o12_1 o14_0 o14_1 e16) GU U):GU [VI x17] [.cells [VS o4_0,o4_1],.cells [VS o12_0,o12_1],.cells [VS o14_0,o14_1],.vec 1 e16] U :=
 gQ MR h
def Ce(a0_0:ByteArray)(a0_1:AV)(a1:ByteArray):Tree :=
 .test (!(af a0_0==af (mk []))) (.test (af a0_0==af a1) (.done 0 [VI 1] []) (.done 0 [VI 0] [])) (.call 121 [.agg [VS a0_0,a0_1]] [] fun r1 o1=>NS r1<|.test (af r1.ag==af (mk [114,101,99])) (NG a0_1 1 2<|lg (a0_1.ix (1:Int))<|.test (af (((a0_1.ix (1:Int)).hA).ag)==af a1) (.done 0 [VI 0] []) (NG a0_1 2 2<|NE (a0_1.ix (2:Int))<|.call 191 [.agg [VS (((a0_1.ix (2:Int)).getD 0 .any).ag),((a0_1.ix (2:Int)).getD 1 .any)],VS a1] [] fun r2 o2=>NI r2<|.done 0 [VI r2.toInt] [])) (NG a0_1 1 2<|NE (a0_1.ix (1:Int))<|.call 191 [.agg [VS (((a0_1.ix (1:Int)).getD 0 .any).ag),((a0_1.ix (1:Int)).getD 1 .any)],VS a1] [] fun r3 o3=>NI r3<|NG a0_1 2 2<|NE (a0_1.ix (2:Int))<|.call 191 [.agg [VS (((a0_1.ix (2:Int)).getD 0 .any).ag),((a0_1.ix (2:Int)).getD 1 .any)],VS a1] [] fun r4 o4=>NI r4<|.done 0 [VI (IntKind.wrap .i64 (r3.toInt+r4.toInt))] []))
theorem DL(a0_0:ByteArray)(a0_1:AV)(a1:ByteArray)(ha0_1:LK.has .sl a0_1)(h:du 41 (Ce a0_0 a0_1 a1) R):aq Tryz.prog 191 [.agg [VS a0_0,a0_1],VS a1] [] R :=
 uQ (ah (ci (ah (aA _) (ah (bT ha0_1) aD))) (ah (aA _) aD)) (oQ [] Tryz.f191 h)
def BN(a0_0:ByteArray)(a0_1:AV)(a1:ByteArray)(a2_0:ByteArray)(a2_1:AV):Tree :=
 .test (!(af a0_0==af (mk []))) (.test (af a0_0==af a1) (.done 0 [.agg [VS a2_0,a2_1]] []) (.done 0 [.agg [VS a0_0,a0_1]] [])) (.call 121 [.agg [VS a0_0,a0_1]] [] fun r1 o1=>NS r1<|.test (af r1.ag==af (mk [114,101,99])) (NG a0_1 1 2<|lg (a0_1.ix (1:Int))<|.test (af (((a0_1.ix (1:Int)).hA).ag)==af a1) (.done 0 [.agg [VS a0_0,a0_1]] []) (NG a0_1 1 2<|NE (a0_1.ix (1:Int))<|NG a0_1 2 2<|NE (a0_1.ix (2:Int))<|.call 192 [.agg [VS (((a0_1.ix (2:Int)).getD 0 .any).ag),((a0_1.ix (2:Int)).getD 1 .any)],VS a1,.agg [VS a2_0,a2_1]] [] fun r2 o2=>NA r2<|.call 98 [VS (mk [114,101,99]),.sl [[VS (((a0_1.ix (1:Int)).getD 0 .any).ag),((a0_1.ix (1:Int)).getD 1 .any)],[VS ((r2.cs.getD 0 .any).ag),(r2.cs.getD 1 .any)]]] [] fun r3 o3=>NA r3<|.done 0 [.agg [VS ((r3.cs.getD 0 .any).ag),(r3.cs.getD 1 .any)]] [])) (.call 121 [.agg [VS a0_0,a0_1]] [] fun r4 o4=>NS r4<|NG a0_1 1 2<|NE (a0_1.ix (1:Int))<|.call 192 [.agg [VS (((a0_1.ix (1:Int)).getD 0 .any).ag),((a0_1.ix (1:Int)).getD 1 .any)],VS a1,.agg [VS a2_0,a2_1]] [] fun r5 o5=>NA r5<|NG a0_1 2 2<|NE (a0_1.ix (2:Int))<|.call 192 [.agg [VS (((a0_1.ix (2:Int)).getD 0 .any).ag),((a0_1.ix (2:Int)).getD 1 .any)],VS a1,.agg [VS a2_0,a2_1]] [] fun r6 o6=>NA r6<|.call 98 [VS r4.ag,.sl [[VS ((r5.cs.getD 0 .any).ag),(r5.cs.getD 1 .any)],[VS ((r6.cs.getD 0 .any).ag),(r6.cs.getD 1 .any)]]] [] fun r7 o7=>NA r7<|.done 0 [.agg [VS ((r7.cs.getD 0 .any).ag),(r7.cs.getD 1 .any)]] []))
theorem Dr(a0_0:ByteArray)(a0_1:AV)(a1:ByteArray)(a2_0:ByteArray)(a2_1:AV)(ha0_1:LK.has .sl a0_1)(ha2_1:LK.has .sl a2_1)(h:du 58 (BN a0_0 a0_1 a1 a2_0 a2_1) R):aq Tryz.prog 192 [.agg [VS a0_0,a0_1],VS a1,.agg [VS a2_0,a2_1]] [] R :=
 uQ (ah (ci (ah (aA _) (ah (bT ha0_1) aD))) (ah (aA _) (ah (ci (ah (aA _) (ah (bT ha2_1) aD))) aD))) (oQ [] Tryz.f192 h)
def F4:LI:={hd:={bX:=[(0,.k .sl),(1,.k .str),(7,.k (.int .i64)),(8,.k (.int .i64))]},xs:={},rt:={bX:=[(4,.k (.int .i64))]},ex:=0}
def Lg:Code:=cP (cH Tryz.f194) 2
def IB:List (Nat×LI):=[(2,F4)]
def JJ(a0:AV)(a1:ByteArray):Tree :=
 NL a0<|.loop Lg F4 [a0,VS a1,VI (a0.aP.length:Int),VI 0] [] (fun y1 q1=>.done 0 [VI (-1)] []) (fun y1 q1=>NI (y1.hA)<|.done 0 [VI ((y1.hA).toInt)] [])
theorem P4(a0:AV)(a1:ByteArray)(ha0:LK.has .sl a0)(h:du 19 (JJ a0 a1) R):aq Tryz.prog 194 [a0,VS a1] [] R :=
 uQ (ah (bT ha0) (ah (aA _) aD)) (oQ IB Tryz.f194 h)
def H7(x0:AV)(x1:ByteArray)(x7:Int)(x8:Int):Tree :=
 NL x0<|NS (VS x1)<|NI (VI x7)<|NI (VI x8)<|.test (decide (x8<x7)) (NG x0 x8 1<|lg (x0.ix x8)<|.test (af x1==af (((x0.ix x8).hA).ag)) (.done 2 [VI x8] []) (.done 0 [x0,VS x1,VI x7,VI (IntKind.wrap .i64 (x8+1))] [])) (.done 1 [] [])
abbrev E5:=cy Tryz.prog 19 Lg F4
theorem Jq(x0:AV)(x1:ByteArray)(x7:Int)(x8:Int)(h:kE 19 (H7 x0 x1 x7 x8) E5 U):E5 [x0,VS x1,VI x7,VI x8] [] U :=
 gQ IB h
end
end Go.Proofs.Trees
namespace Go.Proofs.Trees
open Go Go.VL
theorem bA(i:Nat)(h:i<1000000000000):IntKind.wrap .i64 ((i:Int)+1)=((i+1:Nat):Int):=by rw[wrap64]<;>omega
inductive E where
 |atom (s:List UInt8)
 |list (l:List E)
mutual
def E.cu:E->AV
 | .atom s=>.ptr [.v (.string (mk s)),.v (.slice none 0 0)]
 | .list l=>.ptr [.v (.string (mk [])),.sl (E.mg l)]
def E.mg:List E->List (List AV)
 |[]=>[]
 |e::l=>[e.cu]::E.mg l
end
mutual
def E.ik:E->List AV
 | .atom s=>[.v (.string (mk s)),.v (.slice none 0 0)]
 | .list l=>[.v (.string (mk [])),.sl (E.bu l)]
def E.bu:List E->List (List AV)
 |[]=>[]
 |e::l=>e.ik::E.bu l
end
def E.kB(e:E):AV:=.agg e.ik
theorem u7(l r:List E):E.mg (l++r)=E.mg l++E.mg r:=by
 induction l with
 |nil=>rfl
 |cons e l ih=>simp[E.mg,ih]
theorem p7(l r:List E):E.bu (l++r)=E.bu l++E.bu r:=by
 induction l with
 |nil=>rfl
 |cons e l ih=>simp[E.bu,ih]
theorem rT(l:List E):(E.mg l).length=l.length:=by
 induction l with
 |nil=>rfl
 |cons e l ih=>simp[E.mg,ih]
theorem dY(l:List E):(E.bu l).length=l.length:=by
 induction l with
 |nil=>rfl
 |cons e l ih=>simp[E.bu,ih]
def e9(b:UInt8):Bool:=decide ((97<=b.toNat/\b.toNat<=122)\/(48<=b.toNat/\b.toNat<=57)\/b.toNat=43\/b.toNat=42)
def sg(f:List UInt8->Option (E×List UInt8)):Nat->List UInt8->List E->Option (E×List UInt8)
 |0,_,_=>none
 |
  n+1,s,acc=>match f s with
  |some (p,c::r)=>if c.toNat=41 then some (.list (acc++[p]),r)else if c.toNat=32 then sg f n r (acc++[p])else none
  |_=>none
def rd:Nat->List UInt8->Option (E×List UInt8)
 |0,s=>if s.takeWhile e9=[]then none else some (.atom (s.takeWhile e9),s.dropWhile e9)
 |k+1,s=>if s.takeWhile e9=[]then(match s with
  |c::r=>if c.toNat=40 then sg (rd k) (r.length+1) r []else none
  |[]=>none)else some (.atom (s.takeWhile e9),s.dropWhile e9)
theorem Co{f:List UInt8->Option (E×List UInt8)}(hf:∀s e r,f s=some (e,r)->r.length<s.length):∀(n:Nat) (s:List UInt8) (acc:List E) (e:E) (r:List UInt8),sg f n s acc=some (e,r)->r.length<s.length
 |0,s,acc,e,r,h=>by cases h
 |
  n+1,s,acc,e,r,h=>by
  simp only[sg]at h
  split at h
  ·rename_i p c r' hs
   have:=hf _ _ _ hs
   simp only[az]at this
   split at h
   ·cases h;omega
   ·split at h
    ·have:=Co hf n _ _ _ _ h;omega
    ·cases h
  ·cases h
theorem oD{s:List UInt8}(h:¬s.takeWhile e9=[]):(s.dropWhile e9).length<s.length:=by
 have h1:=congrArg List.length (List.takeWhile_append_dropWhile (p:=e9) (l:=s))
 simp only[an]at h1
 have:0<(s.takeWhile e9).length:=List.length_pos_iff.2 h
 omega
theorem yg:∀(k:Nat) (s:List UInt8) (e:E) (r:List UInt8),rd k s=some (e,r)->r.length<s.length
 |
  0,s,e,r,h=>by
  simp only[rd]at h
  split at h
  ·cases h
  ·rename_i hn;cases h;exact oD hn
 |
  k+1,s,e,r,h=>by
  simp only[rd]at h
  split at h
  ·split at h
   ·split at h
    ·have:=Co (yg k) _ _ _ _ _ h
     simp only[az];omega
    ·cases h
   ·cases h
  ·rename_i hn;cases h;exact oD hn
theorem Ow(b:UInt8):aq Tryz.prog 183 [.v (.int .u8 (b.toNat:Int))] [] (bK (.v (.bool (e9 b)))):=by
 refine PP _ ?_
 simp only[IE,↓zq,zs,ac,bK,e9]
 repeat' (apply aI<;>intro _)
 all_goals first|(congr 2;rw[ct];simp;omega)|(congr 2;simp;omega)
theorem yb{s:List UInt8}{i:Nat}(hi:i<s.length)(hb:e9 (s.getD i 0)=true):((s.drop i).takeWhile e9).length=((s.drop (i+1)).takeWhile e9).length+1:=by
 have e:s.drop i=s.getD i 0::s.drop (i+1):=by
  rw[aW hi];simp[aa,hi]
 rw[e,List.takeWhile_cons_of_pos hb];simp
theorem qQ{s:List UInt8}{i:Nat}(hi:i<s.length)(hb:e9 (s.getD i 0)=false):(s.drop i).takeWhile e9=[]:=by
 have e:s.drop i=s.getD i 0::s.drop (i+1):=by
  rw[aW hi];simp[aa,hi]
 rw[e,List.takeWhile_cons_of_neg (by rw[hb];simp)]
theorem FL(s:List UInt8)(hs:s.length<=8000)(d:Int):∀(k i:Nat),i+k=s.length->GY [.v (.string (mk s)),.v (.int .i64 d),.v (.int .i64 (i:Int))] [] (iF 1 [.v (.string (mk s)),.v (.int .i64 d),.v (.int .i64 ((i+((s.drop i).takeWhile e9).length:Nat):Int))] [])
 |
  0,i,hi=>by
  refine L8 _ _ _ ?_
  have hd:s.drop i=[]:=bS (by omega)
  simp only[Ga,↓zq,zs,ac,zt]
  exact⟨fun h=>by omega,fun _=>by simp[iF,hd]⟩
 |
  k+1,i,hi=>by
  have hlt:i<s.length:=by omega
  refine L8 _ _ _ ?_
  simp only[Ga,↓zq,zs,ac,zt,l4 s i hlt]
  refine⟨fun _=>⟨by omega,?_⟩,fun h=>by omega⟩
  refine ai (Ow _) ?_
  simp only[↓zq,zs,ac]
  refine⟨fun hb=>?_,fun hb=>?_⟩
  ·rw[bA i (by omega)]
   have:=FL s hs d k (i+1) (by omega)
   rw[yb hlt hb,show i+(((s.drop (i+1)).takeWhile e9).length+1)=i+1+((s.drop (i+1)).takeWhile e9).length by omega]
   exact this
  ·simp[iF,qQ hlt hb]
def oT(s:List UInt8):Option (E×List UInt8)->AV
 |some (e,r)=>.cD [e.cu,.v (.string (mk r))]
 |none=>.cD [.v (.pointer none),.v (.string (mk s))]
theorem cU(e:E):LK.has .ptr e.cu=True:=by cases e<;>simp[E.cu,cd]
theorem ek(e:E):e.cu.isNil=false:=by cases e<;>rfl
theorem tX(s:List UInt8):s.take (s.takeWhile e9).length=s.takeWhile e9:=by
 have h:=List.takeWhile_append_dropWhile (p:=e9) (l:=s)
 have:(s.takeWhile e9++s.dropWhile e9).take (s.takeWhile e9).length=s.takeWhile e9:=List.take_left
 rw[h]at this;exact this
theorem yj(s:List UInt8):s.drop (s.takeWhile e9).length=s.dropWhile e9:=by
 have h:=List.takeWhile_append_dropWhile (p:=e9) (l:=s)
 have:(s.takeWhile e9++s.dropWhile e9).drop (s.takeWhile e9).length=s.dropWhile e9:=List.drop_left
 rw[h]at this;exact this
theorem At(c:UInt8)(r:List UInt8):(List.take (r.length+1) (c::r)).drop (bI 1)=r:=by simp
theorem Mo(s0:List UInt8)(k:Nat)(hk:k<300)(ih:∀s,s.length<=8000->aq Tryz.prog 160 [.v (.string (mk s)),.v (.int .i64 ((300-k:Nat):Int))] [] (bK (oT s (rd k s)))) :
 ∀(n:Nat) (s:List UInt8) (acc:List E),s.length<n->s.length+acc.length<=8000->FN [.v (.string (mk s0)),.v (.int .i64 ((300-(k+1):Nat):Int)),.v (.string (mk s))] [.cells [.v (.string (mk [])),.any],.vec 1 (E.mg acc)]
  (pN (match sg (rd k) n s acc with|some (e,r)=>(2,[e.cu,.v (.string (mk r))],[])|none=>(2,[.v (.pointer none),.v (.string (mk s0))],[])))
 |0,s,acc,hn,_=>by omega
 |
  n+1,s,acc,hn,hl=>by
  refine O7 _ _ _ _ _ ?_
  simp only[KJ,↓zq,zs,ac,AU]
  have hd:IntKind.wrap .i64 (((300-(k+1):Nat):Int)+1)=((300-k:Nat):Int):=by rw[wrap64]<;>omega
  rw[hd]
  refine ai (ih s (by omega)) ?_
  have hlt:=yg k s
  cases hr:rd k s with
  |
   none =>
   simp only[oT,↓zq,zs,ac,sg,hr]
   simp[pN]
  |
   some q =>
   obtain⟨e,r⟩:=q
   have:=hlt e r hr
   cases r with
   |
    nil =>
    simp only[oT,↓zq,zs,ac,zt,sg,hr,cU,ek]
    simp[pN]
   |
    cons c r =>
    simp only[az]at this
    have hb:=l4 (c::r) 0 (by simp)
    simp only[Int.ofNat_eq_natCast,Int.cast_ofNat_Int]at hb
    have e2:(List.take (c::r).length (c::r)).drop 1=r:=by simp
    simp only[oT,↓zq,zs,ac,zt,sg,hr,cU,ek,hb,e2,rT]
    refine⟨fun h=>(by cases h),fun _=>⟨fun h=>(by cases h),fun _=>⟨⟨fun c hc=>(by simp at hc;rw[hc];rfl),by omega⟩,by omega,by omega,fun h41=>?_,fun h41=>⟨by omega,fun h32=>?_,fun h32=>?_⟩⟩⟩⟩
    ·have h41':c.toNat=41:=by omega
     rw[At,if_pos h41']
     simp[pN,E.cu,u7,E.mg]
    ·have h41':¬c.toNat=41:=by omega
     have h32':¬c.toNat=32:=by omega
     rw[if_neg h41',if_neg h32']
    ·have h41':¬c.toNat=41:=by omega
     have h32':c.toNat=32:=by omega
     rw[At,if_neg h41',if_pos h32']
     have:=Mo s0 k hk ih n r (acc++[e]) (by omega) (by simp;omega)
     simpa[u7,E.mg]using this
theorem PL:∀(k:Nat),k<=300->∀s:List UInt8,s.length<=8000->aq Tryz.prog 160 [.v (.string (mk s)),.v (.int .i64 ((300-k:Nat):Int))] [] (bK (oT s (rd k s))):=by
 intro k
 induction k with
 |
  zero =>
  intro hk s hs
  refine LB _ _ ?_
  unfold HS
  refine cB (FL s hs _ s.length 0 (by omega)) ?_
  simp only[↓zq,zs,ac,zt,aZ,bK]
  have hw:(s.takeWhile e9).length<=s.length:=by
   have:=congrArg List.length (List.takeWhile_append_dropWhile (p:=e9) (l:=s))
   simp only[an]at this;omega
  refine⟨fun h=>⟨by omega,by omega,?_⟩,fun h=>?_⟩
  ·have hne:¬s.takeWhile e9=[]:=fun e=>by rw[e]at h;simp at h
   simp only[rd,if_neg hne,oT,E.cu,tX,yj]
  ·have hnil:s.takeWhile e9=[]:=List.eq_nil_of_length_eq_zero (by omega)
   simp only[rd,if_pos hnil,oT]
   refine⟨fun _=>trivial,fun hne=>⟨?_,?_⟩⟩
   ·cases s with
    |nil=>exact absurd rfl hne
    |cons c s=>simp
   ·exact⟨fun _=>trivial,fun _=>⟨fun _=>trivial,fun h=>absurd rfl h⟩⟩
 |
  succ k ih =>
  intro hk s hs
  refine LB _ _ ?_
  unfold HS
  refine cB (FL s hs _ s.length 0 (by omega)) ?_
  simp only[↓zq,zs,ac,zt,aZ,bK]
  have hw:(s.takeWhile e9).length<=s.length:=by
   have:=congrArg List.length (List.takeWhile_append_dropWhile (p:=e9) (l:=s))
   simp only[an]at this;omega
  refine⟨fun h=>⟨by omega,by omega,?_⟩,fun h=>?_⟩
  ·have hne:¬s.takeWhile e9=[]:=fun e=>by rw[e]at h;simp at h
   simp only[rd,if_neg hne,oT,E.cu,tX,yj]
  ·have hnil:s.takeWhile e9=[]:=List.eq_nil_of_length_eq_zero (by omega)
   simp only[rd,if_pos hnil]
   cases s with
   |nil=>simp[oT]
   |
    cons c s =>
    have hb:=l4 (c::s) 0 (by simp)
    simp only[Int.ofNat_eq_natCast,Int.cast_ofNat_Int]at hb
    simp only[az]at hs
    simp only[↓zq,zs,ac,hb,At]
    refine⟨fun h=>(by cases h),fun _=>⟨by omega,fun h40=>?_,fun h40=>⟨fun h300=>?_,fun h300=>⟨by omega,?_⟩⟩⟩⟩
    ·have:¬c.toNat=40:=by omega
     rw[if_neg this];rfl
    ·omega
    ·have h40':c.toNat=40:=by omega
     rw[if_pos h40']
     refine fX (Mo (c::s) k (by omega) (ih (by omega)) (s.length+1) s [] (by omega) (by simp;omega)) (fun ys o e=>?_) (fun ys o e=>?_)
     ·split at e<;>cases e
     ·split at e<;>cases e
      ·rename_i e' r' hr
       simp only[↓zq,zs,ac,cU]
       simp only[hr,oT]
      ·rename_i hr
       simp only[↓zq,zs,ac]
       simp only[hr,oT]
end Go.Proofs.Trees
namespace Go.Proofs.Trees
open Go Go.VL
mutual
def E.sz:E->Nat
 | .atom _=>1
 | .list l=>1+E.jr l
def E.jr:List E->Nat
 |[]=>0
 |e::l=>e.sz+E.jr l
end
mutual
def E.ok:E->Prop
 | .atom s=>s≠[]
 | .list l=>E.DJ l
def E.DJ:List E->Prop
 |[]=>True
 |e::l=>e.ok/\E.DJ l
end
theorem yr(l r:List E):E.jr (l++r)=E.jr l+E.jr r:=by
 induction l with
 |nil=>simp[E.jr]
 |cons e l ih=>simp[E.jr,ih];omega
theorem yB(l r:List E):E.DJ (l++r)↔E.DJ l/\E.DJ r:=by
 induction l with
 |nil=>simp[E.DJ]
 |cons e l ih=>simp[E.DJ,ih,and_assoc]
theorem AS{f:List UInt8->Option (E×List UInt8)}(hf:∀s e r,f s=some (e,r)->e.ok/\e.sz+r.length<=s.length):∀(n:Nat) (s:List UInt8) (acc:List E) (e:E) (r:List UInt8),sg f n s acc=some (e,r)->E.DJ acc->e.ok/\e.sz+r.length<=s.length+1+E.jr acc
 |0,s,acc,e,r,h,_=>by cases h
 |
  n+1,s,acc,e,r,h,ha=>by
  simp only[sg]at h
  split at h
  ·rename_i p c r' hs
   obtain⟨h1,h2⟩:=hf _ _ _ hs
   simp only[az]at h2
   split at h
   ·cases h
    refine⟨(yB _ _).2 ⟨ha,h1,trivial⟩,?_⟩
    simp only[E.sz,yr,E.jr];omega
   ·split at h
    ·have:=AS hf n _ _ _ _ h ((yB _ _).2 ⟨ha,h1,trivial⟩)
     refine⟨this.1,?_⟩
     have h3:=this.2
     simp only[yr,E.jr]at h3;omega
    ·cases h
  ·cases h
theorem tU(s:List UInt8):(s.takeWhile e9).length+(s.dropWhile e9).length=s.length:=by
 have:=congrArg List.length (List.takeWhile_append_dropWhile (p:=e9) (l:=s))
 simpa only[an]using this
theorem Eo:∀(k:Nat) (s:List UInt8) (e:E) (r:List UInt8),rd k s=some (e,r)->e.ok/\e.sz+r.length<=s.length
 |
  0,s,e,r,h=>by
  simp only[rd]at h
  split at h
  ·cases h
  ·rename_i hn;cases h
   have:=tU s
   have:0<(s.takeWhile e9).length:=List.length_pos_iff.2 hn
   exact⟨hn,by simp only[E.sz];omega⟩
 |
  k+1,s,e,r,h=>by
  simp only[rd]at h
  split at h
  ·split at h
   ·split at h
    ·have:=AS (Eo k) _ _ _ _ _ h trivial
     refine⟨this.1,?_⟩
     have h3:=this.2
     simp only[E.jr,az]at h3 |-;omega
    ·cases h
   ·cases h
  ·rename_i hn;cases h
   have:=tU s
   have:0<(s.takeWhile e9).length:=List.length_pos_iff.2 hn
   exact⟨hn,by simp only[E.sz];omega⟩
def qM(s:List UInt8):Option E:=if s.length>8000 then none else match rd 300 s with|some (e,[])=>some e|_=>none
theorem nW{s:List UInt8}{e:E}(h:qM s=some e):e.ok/\e.sz<=8000:=by
 unfold qM at h
 split at h
 ·cases h
 ·split at h
  ·rename_i e' hr
   cases h
   have:=Eo _ _ _ _ hr
   exact⟨this.1,by have:=this.2;simp at this;omega⟩
  ·cases h
def ue:Option E->AV
 |some e=>e.cu
 |none=>.v (.pointer none)
theorem MY(s:List UInt8):aq Tryz.prog 128 [.v (.string (mk s))] [] (bK (ue (qM s))):=by
 refine PA _ ?_
 simp only[LC,↓zq,zs,ac,zt,bK,qM]
 refine⟨fun h=>?_,fun h=>?_⟩
 ·rw[if_pos (by omega)];simp[ue]
 ·rw[if_neg (by omega)]
  refine ai (PL 300 (by omega) s (by omega)) ?_
  cases hr:rd 300 s with
  |
   none =>
   simp only[oT,↓zq,zs,ac,zt,ue]
   refine⟨fun _=>trivial,fun _=>trivial⟩
  |
   some q =>
   obtain⟨e,r⟩:=q
   cases r with
   |nil=>simp only[oT,↓zq,zs,ac,zt,ue,cU];simp
   |cons c r=>simp only[oT,↓zq,zs,ac,zt,ue,cU];simp
def ib(b:UInt8):Bool:=decide (48<=b.toNat/\b.toNat<=57)
def named(lo hi:Nat):List UInt8->Bool
 |[]=>false
 |c::r=>decide (r.length<=2)&&decide (lo<=c.toNat/\c.toNat<=hi)&&r.all ib
def hD(s:List UInt8):Bool:=named 120 122 s
def dh(s:List UInt8):Bool:=named 116 116 s
def Cs(v lo hi:Int):Bool:=decide (lo<=v/\v<=hi)
theorem A4(v lo hi:Int):aq Tryz.prog 56 [.v (.int .i64 v),.v (.int .i64 lo),.v (.int .i64 hi)] [] (bK (.v (.bool (Cs v lo hi)))):=by
 refine PV _ _ _ ?_
 simp only[J8,↓zq,zs,ac,bK,Cs]
 constructor<;>intro h<;>simp at h<;>simp[h]
 omega
theorem Mn(s:List UInt8)(hs:s.length<=3):∀(k i:Nat),i+k=s.length->Ht [.v (.string (mk s)),.v (.int .i64 (i:Int))] [] (pN (if(s.drop i).all ib=true then(1,[],[])else(2,[.v (.bool false)],[])))
 |
  0,i,hi=>by
  have hd:s.drop i=[]:=bS (by omega)
  refine Jw _ _ ?_
  simp only[EW,↓zq,zs,ac,zt]
  exact⟨fun h=>by omega,fun _=>by simp[pN,hd]⟩
 |
  k+1,i,hi=>by
  have hlt:i<s.length:=by omega
  have e:s.drop i=s.getD i 0::s.drop (i+1):=by
   rw[aW hlt];simp[aa,hlt]
  refine Jw _ _ ?_
  simp only[EW,↓zq,zs,ac,zt,l4 s i hlt,e,cZ]
  generalize hb:s.getD i 0=b
  refine⟨fun _=>⟨by omega,fun h=>?_,fun h=>⟨by omega,fun h2=>?_,fun h2=>?_⟩⟩,fun h=>by omega⟩
  ·have:ib b=false:=by simp[ib];omega
   simp only[this,zf,pN]
  ·have:ib b=false:=by simp[ib];omega
   simp only[this,zf,pN]
  ·have:ib b=true:=by simp[ib];omega
   rw[bA i (by omega),this,bV]
   exact Mn s hs k (i+1) (by omega)
theorem IU(s:List UInt8)(lo hi:Nat):aq Tryz.prog 170 [.v (.string (mk s)),.v (.int .u8 (lo:Int)),.v (.int .u8 (hi:Int))] [] (bK (.v (.bool (named lo hi s)))):=by
 refine P5 _ _ _ ?_
 unfold KQ
 rw[cK]
 refine ai (A4 _ _ _) ?_
 simp only[↓zq,zs,ac,zt,bK]
 refine⟨fun h=>?_,fun h=>?_⟩
 ·cases s with
  |nil=>rfl
  |
   cons c s =>
   simp[Cs]at h
   have:¬s.length<=2:=by omega
   simp[named,this]
 ·cases s with
  |nil=>simp[Cs]at h
  |
   cons c s =>
   simp[Cs]at h
   have hl:s.length<=2:=by omega
   have hb:=l4 (c::s) 0 (by simp)
   simp only[Int.ofNat_eq_natCast,Int.cast_ofNat_Int]at hb
   simp only[↓zq,zs,ac,hb]
   refine⟨by omega,fun h1=>?_,fun h1=>⟨by omega,fun h2=>?_,fun h2=>?_⟩⟩
   ·have:¬lo<=c.toNat:=by omega
    simp[named,this]
   ·have:¬c.toNat<=hi:=by omega
    simp[named,this]
   ·refine fX (Mn (c::s) (by simp;omega) s.length 1 (by simp;omega)) (fun ys o e=>?_) (fun ys o e=>?_)
    ·split at e<;>cases e
     rename_i ha
     simp at ha
     simp only[↓zq,zs,ac]
     simp[named,hl]
     exact⟨⟨by omega,by omega⟩,fun x hx=>by simpa using ha x hx⟩
    ·split at e<;>cases e
     rename_i ha
     simp only[↓zq,zs,ac]
     have:s.all ib=false:=by simpa using ha
     simp[named,this]
theorem Fk(s:List UInt8):aq Tryz.prog 155 [.v (.string (mk s))] [] (bK (.v (.bool (hD s)))):=by
 refine Pq _ ?_
 unfold NN
 refine ai (IU s 120 122) ?_
 simp only[↓zq,zs,ac,bK,hD]
theorem G7(s:List UInt8):aq Tryz.prog 138 [.v (.string (mk s))] [] (bK (.v (.bool (dh s)))):=by
 refine PX _ ?_
 unfold Nj
 refine ai (IU s 116 116) ?_
 simp only[↓zq,zs,ac,bK,dh]
end Go.Proofs.Trees
namespace Go.Proofs.Trees
open Go Go.VL Go.RowKit
theorem OZ(l:List UInt8)(c:UInt8):aq Tryz.prog 195 [.v (.string (mk l)),.v (.string (mk [c]))] [] (bK (.v (.bool (decide (0<=Lib.indexByte l c))))):=by
 refine aq.RN (xs:=[.string (mk l),.string (mk [c])]) ⟨ns,by kernel_rfl,by kernel_rfl,by kernel_rfl⟩ fun w=>?_
 have:=Any.strings_Contains_one Tryz.DN (mk l) c w
 refine Calls.mono this fun e w' ⟨h1,h2⟩=>?_
 rw[h2]
 have hd:(mk l).data.toList=l:=by simp[mk]
 exact⟨by rw[h1,hd],Below.refl _ _⟩
theorem Lf(l cs:List UInt8)(hl:l.length<=1000000)(hc:cs.length<=1000)(ha:∀b,b∈cs->b.toNat<128):aq Tryz.prog 184 [.v (.string (mk l)),.v (.string (mk cs))] [] (bK (.v (.string (mk (Lib.trimS l cs))))):=by
 refine aq.RN (xs:=[.string (mk l),.string (mk cs)]) ⟨qu,by kernel_rfl,by kernel_rfl,by kernel_rfl⟩ fun w=>?_
 have:=Any.strings_Trim_laid Tryz.CF (by kernel_rfl) (mk l) (mk cs) w (by rw[cK];omega) (by rw[cK];omega) (fun j b hj=>ha b (by
  have:(mk cs).data.toList=cs:=by simp[mk]
  rw[this]at hj
  exact List.mem_of_getElem? hj))
 refine Calls.mono this fun e w' ⟨h1,h2⟩=>⟨?_,h2⟩
 rw[h1]
 simp[mk]
theorem nB:∀(l:List UInt8) (c:UInt8),(0<=Lib.indexByte l c↔c∈l)/\-1<=Lib.indexByte l c
 |[],c=>by simp[Lib.indexByte]
 |
  b::l,c=>by
  obtain⟨h1,h2⟩:=nB l c
  unfold Lib.indexByte
  by_cases e:b=c
  ·subst e;simp
  ·have e':(b==c)=false:=by simp[e]
   rw[e']
   by_cases q:Lib.indexByte l c = -1
   ·have:c∉l:=fun h=>by have:=h1.2 h;omega
    simp[q,this,Ne.symm e]
   ·have q':(Lib.indexByte l c==-1)=false:=by simp[q]
    simp only[q',Bool.false_eq_true,if_false,aJ]
    constructor
    ·constructor
     ·intro h;exact .inr (h1.1 (by omega))
     ·intro h
      rcases h with h|h
      ·exact absurd h.symm e
      ·have:=h1.2 h;omega
    ·omega
theorem dropWhile_nil{p:UInt8->Bool}:∀(l:List UInt8),l.dropWhile p=[]↔l.all p=true
 |[]=>by simp
 |
  b::l=>by
  cases h:p b with
  |true=>rw[List.dropWhile_cons_of_pos h,dropWhile_nil l];simp[h]
  |false=>rw[List.dropWhile_cons_of_neg (by rw[h];simp)];simp[h]
theorem tt(l cs:List UInt8):Lib.trimS l cs=[]↔l.all (cs.contains ·)=true:=by
 unfold Lib.trimS Lib.trimLeftS
 rw[dropWhile_nil]
 unfold Lib.trimRightS
 constructor
 ·intro h
  by_cases hn:l.reverse.dropWhile (cs.contains ·)=[]
  ·rw[dropWhile_nil]at hn
   simpa using hn
  ·exfalso
   rw[List.all_reverse]at h
   obtain⟨b,r,e⟩:=List.exists_cons_of_ne_nil hn
   have h1:cs.contains b=false:=by
    have:=List.head_dropWhile_not (p:=(cs.contains ·)) (l:=l.reverse) hn
    simp only[e,List.head_cons]at this
    exact this
   rw[e]at h
   simp only[cZ,aw]at h
   rw[h1]at h;cases h.1
 ·intro h
  have:l.reverse.dropWhile (cs.contains ·)=[]:=by rw[dropWhile_nil];simpa using h
  rw[this];rfl
def Fv:List UInt8:=[48,49,50,51,52,53,54,55,56,57]
theorem vZ(b:UInt8):Fv.contains b=ib b:=by
 have:∀n:Fin 256,Fv.contains (bj n.val)=ib (bj n.val):=by decide +kernel
 have:=this ⟨b.toNat,b.toNat_lt⟩
 simpa using this
theorem MQ(s ls:List UInt8)(lo hi:Nat)(hls:∀c:UInt8,c∈ls↔lo<=c.toNat/\c.toNat<=hi):aq Tryz.prog 182 [.v (.string (mk s)),.v (.string (mk ls))] [] (bK (.v (.bool (named lo hi s)))):=by
 refine Pd _ _ ?_
 simp only[Nb,↓zq,zs,ac,zt,bK]
 cases s with
 |nil=>exact⟨fun h=>by simp at h,fun _=>rfl⟩
 |
  cons c s =>
  have e1:(List.take (bI 1) (c::s))=[c]:=rfl
  have e2:(List.take (s.length+1) (c::s)).drop (bI 1)=s:=by simp
  simp only[az,e1,e2]
  refine⟨fun _=>⟨fun h3=>⟨by omega,?_⟩,fun h3=>?_⟩,fun h=>by omega⟩
  ·have hl:s.length<=2:=by omega
   refine ai (OZ ls c) ?_
   simp only[↓zq,zs,ac]
   have hi1:=(nB ls c).1
   refine⟨fun h=>⟨by omega,?_⟩,fun h=>?_⟩
   ·refine ai (Lf s Fv (by omega) (by decide) (by decide)) ?_
    simp only[↓zq,zs,ac,zt]
    have hc:=(hls c).1 (hi1.1 h)
    congr 2
    rw[ct,beq_iff_eq,tt]
    simp only[named,hl,hc,decide_true,bV,and_self]
    have:(fun x=>Fv.contains x)=ib:=funext vZ
    rw[this]
   ·have hc:¬(lo<=c.toNat/\c.toNat<=hi):=fun h'=>h (hi1.2 ((hls c).2 h'))
    simp only[named,hc,zf]
  ·have hl:¬s.length<=2:=by omega
   simp only[named,hl,zf]
theorem J6(s:List UInt8):aq Tryz.prog 173 [.v (.string (mk s))] [] (bK (.v (.bool (hD s)))):=by
 refine Qd _ ?_
 unfold LZ
 have h:∀n:Fin 256,(bj n.val∈[(120:UInt8),121,122])↔120<=(bj n.val).toNat/\(bj n.val).toNat<=122:=by decide +kernel
 refine ai (MQ s [120,121,122] 120 122 fun c=>by simpa using h ⟨c.toNat,c.toNat_lt⟩) ?_
 simp only[↓zq,zs,ac,bK,hD]
theorem DG(s:List UInt8):aq Tryz.prog 159 [.v (.string (mk s))] [] (bK (.v (.bool (dh s)))):=by
 refine Ps _ ?_
 unfold Lx
 have h:∀n:Fin 256,(bj n.val∈[(116:UInt8)])↔116<=(bj n.val).toNat/\(bj n.val).toNat<=116:=by decide +kernel
 refine ai (MQ s [116] 116 116 fun c=>by simpa using h ⟨c.toNat,c.toNat_lt⟩) ?_
 simp only[↓zq,zs,ac,bK,dh]
end Go.Proofs.Trees
namespace Go.Proofs.Trees
open Go Go.VL
inductive Ty where
 |zero|one
 |name (s:List UInt8)
 |bQ (up:Nat)
 |plus (a b:Ty)
 |times (a b:Ty)
 |rc (a:Ty)
def Ty.av:Ty->AV
 | .zero=>.ptr [.v (.int .u8 48),.v (.string (mk [])),.v (.int .i64 0),.v (.pointer none),.v (.pointer none)]
 | .one=>.ptr [.v (.int .u8 49),.v (.string (mk [])),.v (.int .i64 0),.v (.pointer none),.v (.pointer none)]
 | .name s=>.ptr [.v (.int .u8 110),.v (.string (mk s)),.v (.int .i64 0),.v (.pointer none),.v (.pointer none)]
 | .bQ up=>.ptr [.v (.int .u8 98),.v (.string (mk [])),.v (.int .i64 (up:Int)),.v (.pointer none),.v (.pointer none)]
 | .plus a b=>.ptr [.v (.int .u8 43),.v (.string (mk [])),.v (.int .i64 0),a.av,b.av]
 | .times a b=>.ptr [.v (.int .u8 42),.v (.string (mk [])),.v (.int .i64 0),a.av,b.av]
 | .rc a=>.ptr [.v (.int .u8 114),.v (.string (mk [])),.v (.int .i64 0),a.av,.v (.pointer none)]
theorem aF(t:Ty):LK.has .ptr t.av=True:=by cases t<;>simp[Ty.av,cd]
theorem fM(t:Ty):t.av.isNil=false:=by cases t<;>rfl
def ia:Option Ty->AV
 |some t=>t.av
 |none=>.v (.pointer none)
theorem iu(t:Option Ty):LK.has .ptr (ia t)=True:=by cases t<;>simp[ia,aF,iC]
def E.at:E->List UInt8
 | .atom s=>s
 | .list _=>[]
def bN(s:List UInt8)(ar:List (List UInt8)):Nat->Option Nat
 |0=>none
 |i+1=>if ar.getD i []=s then some (ar.length-1-i)else bN s ar i
def cS:E->List (List UInt8)->Option Ty
 | .atom s,ar=>if s=[48]then some .zero else if s=[49]then some .one else if hD s=true then some (.name s)else if dh s=true then(match bN s ar ar.length with|some u=>some (.bQ u)|none=>some (.name s))else none
 |
  .list [x,a,b],ar =>
  if x.at=[43]then(match cS a ar,cS b ar with|some t,some u=>some (.plus t u)|_,_=>none)
  else if x.at=[42]then(match cS a ar,cS b ar with|some t,some u=>some (.times t u)|_,_=>none)
  else if x.at=[114,101,99]then(if dh a.at=true then(match cS b (ar++[a.at])with|some t=>some (.rc t)|none=>none)else none)
  else none
 | .list _,_=>none
def bD(l:List (List UInt8)):List (List AV):=l.map fun s=>[.v (.string (mk s))]
def cF(a:AV)(l:List (List UInt8)):Prop:=LK.sl.has a/\a.aP=bD l
theorem cF.len{a:AV}{l:List (List UInt8)}(h:cF a l):a.aP.length=l.length:=by rw[h.2];simp[bD]
theorem cF.idx{a:AV}{l:List (List UInt8)}(h:cF a l){i:Nat}(hi:i<l.length):a.aP.getD i []=[.v (.string (mk (l.getD i [])))]:=by
 rw[h.2];simp[bD,aa,hi]
theorem cF.of(l:List (List UInt8)):cF (.sl (bD l)) l:=⟨(cg _).mpr trivial,rfl⟩
theorem cF.nil:cF (.v (.slice none 0 0)) []:=⟨(bi).mpr trivial,rfl⟩
theorem xQ(e:E)(w:List UInt8):aq Tryz.prog 162 [e.cu,.v (.string (mk w)),.v (.int .i64 3)] [] (bK (.v (.bool (match e with| .list [x,_,_]=>x.at==w|_=>false)))):=by
 refine Jr _ _ _ ((cU e).mpr trivial) ?_
 cases e with
 |atom s=>simp only[AT,E.cu,↓zq,zs,ac,zt,bK];exact⟨by omega,fun h=>by omega,fun _=>trivial⟩
 |
  list l =>
  simp only[AT,E.cu,↓zq,zs,ac,zt,bK,rT]
  match l with
  |[]=>exact⟨by simp,fun h=>by simp at h,fun _=>rfl⟩
  |[_]=>exact⟨by simp,fun h=>by simp at h,fun _=>rfl⟩
  |[_,_]=>exact⟨by simp,fun h=>by simp at h,fun _=>rfl⟩
  |
   [x,y,z] =>
   refine⟨by simp,fun _=>?_,fun h=>by simp at h⟩
   cases x<;>simp[E.mg,E.cu,cd,pQ,jJ,dW,uc,toList_mk,E.at]
  |_::_::_::_::l=>exact⟨by simp,fun h=>by simp at h;omega,fun _=>rfl⟩
theorem Kd(e:E)(a:AV)(ar:List (List UInt8))(ha:cF a ar)(hl:ar.length<1000000):∀(i:Nat),i<=ar.length->HQ [e.cu,a,.v (.int .i64 ((i:Int)-1))] []
 (pN (match bN e.at ar i with|some u=>(2,[],[.cells [.v (.int .u8 98),.v (.string (mk [])),.v (.int .i64 (u:Int)),.v (.pointer none),.v (.pointer none)]])|none=>(1,[e.cu],[])))
 |
  0,hi=>by
  refine JI _ _ _ ?_
  simp only[HA,↓zq,zs,ac,cU]
  exact⟨ha.1,fun h=>by omega,fun _=>rfl⟩
 |
  i+1,hi=>by
  have hlt:i<ar.length:=by omega
  have e1:((i+1:Nat):Int)-1=(i:Int):=by omega
  rw[e1]
  refine JI _ _ _ ?_
  have hd:e.cu.deref.headD .any=.v (.string (mk e.at)):=by cases e<;>rfl
  have hdl:1<=e.cu.deref.length:=by cases e<;>simp[E.cu,jJ]
  simp only[HA,↓zq,zs,ac,zt,cU,ek,ha.len,ha.idx hlt,hd,rG]
  refine⟨ha.1,fun _=>⟨⟨ha.1,by omega,by omega⟩,by omega,hdl,fun h=>⟨ha.1,?_⟩,fun h=>?_⟩,fun h=>by omega⟩
  ·simp only[bN,h,if_true,pN]
   rw[wrap64 ((ar.length:Int)-1) (by omega) (by omega),wrap64 _ (by omega) (by omega)]
   have:(ar.length:Int)-1-(i:Int)=((ar.length-1-i:Nat):Int):=by omega
   rw[this]
  ·simp only[bN,h,if_false]
   rw[wrap64 _ (by omega) (by omega)]
   exact Kd e a ar ha hl i (by omega)
end Go.Proofs.Trees
namespace Go.Proofs.Trees
open Go Go.VL
theorem nH(e:E):e.cu.deref.headD .any=.v (.string (mk e.at)):=by cases e<;>rfl
theorem lX(e:E):1<=e.cu.deref.length:=by cases e<;>simp[E.cu,jJ]
theorem toNat_one:bI 1=1:=rfl
theorem bf:bI 2=2:=rfl
theorem EO{ar:List (List UInt8)}(s:List UInt8):bD ar++[[.v (.string (mk s))]]=bD (ar++[s]):=by simp[bD]
theorem kk(ar:List (List UInt8)):cv 1 (bD ar):=fun c hc=>by
 obtain⟨s,_,rfl⟩:=bO.1 hc;rfl
theorem k9{x a b:E}(ar:List (List UInt8))(hx:x.at=[43]):cS (.list [x,a,b]) ar=match cS a ar,cS b ar with|some t,some u=>some (.plus t u)|_,_=>none:=by rw[cS,if_pos hx]<;>cases cS a ar<;>cases cS b ar<;>rfl
theorem j0{x a b:E}(ar:List (List UInt8))(hx:x.at=[42]):cS (.list [x,a,b]) ar=match cS a ar,cS b ar with|some t,some u=>some (.times t u)|_,_=>none:=by rw[cS,if_neg (by rw[hx];decide),if_pos hx]<;>cases cS a ar<;>cases cS b ar<;>rfl
theorem mw{x a b:E}(ar:List (List UInt8))(hx:x.at=[114,101,99]):cS (.list [x,a,b]) ar=if dh a.at=true then(match cS b (ar++[a.at])with|some t=>some (.rc t)|none=>none)else none:=by rw[cS,if_neg (by rw[hx];decide),if_neg (by rw[hx];decide),if_pos hx]<;>cases cS b (ar++[a.at])<;>rfl
theorem jh{x a b:E}(ar:List (List UInt8))(h1:x.at≠[43])(h2:x.at≠[42])(h3:x.at≠[114,101,99]):cS (.list [x,a,b]) ar=none:=by rw[cS,if_neg h1,if_neg h2,if_neg h3]
theorem CG:∀(e:E) (ar:List (List UInt8)) (a:AV),e.ok->cF a ar->ar.length+e.sz<100000->aq Tryz.prog 144 [e.cu,a] [] (bK (ia (cS e ar)))
 |
  .atom s,ar,a,hok,ha,hl=>by
  simp only[E.sz]at hl
  refine JR _ _ ((cU _).mpr trivial) ha.1 ?_
  have hd:=nH (.atom s)
  have hlen:=lX (.atom s)
  simp only[E.at]at hd
  simp only[FA,↓zq,zs,ac,zt,bK,cU,ek,hd,cS]
  refine⟨hlen,fun h=>⟨hlen,?_,?_⟩,fun h=>⟨hlen,fun h1=>⟨hlen,?_,?_⟩,fun h1=>⟨hlen,?_⟩⟩⟩
  ·rw[h];decide
  ·rw[if_pos h,h];rfl
  ·rw[h1];decide
  ·rw[if_neg h,if_pos h1,h1];rfl
  ·rw[if_neg h,if_neg h1]
   refine ai (J6 s) ?_
   simp only[↓zq,zs,ac]
   refine⟨fun hp=>⟨hlen,?_⟩,fun hp=>⟨hlen,?_⟩⟩
   ·rw[if_pos hp];rfl
   ·rw[if_neg (by rw[hp];simp)]
    refine ai (DG s) ?_
    simp only[↓zq,zs,ac,ha.len]
    refine⟨fun hq=>⟨ha.1,?_⟩,fun hq=>?_⟩
    ·rw[if_pos hq,wrap64 _ (by omega) (by omega)]
     refine fX (Kd (.atom s) a ar ha (by omega) ar.length (by omega)) (fun ys o e=>?_) (fun ys o e=>?_)
     ·simp only[E.at]at e
      cases hq2:bN s ar ar.length<;>rw[hq2]at e<;>cases e
      simp only[↓zq,zs,ac,zt,cU,ek,hd]
      exact⟨hlen,rfl⟩
     ·simp only[E.at]at e
      cases hq2:bN s ar ar.length<;>rw[hq2]at e<;>cases e
      simp only[↓zq,zs,ac,zt,LK.has]
      simp[ia,Ty.av,ac,LK.has]
    ·rw[if_neg (by rw[hq];simp)]
     refine ai (xQ (.atom s) [43]) ?_
     simp only[↓zq,zs,ac]
     refine⟨fun h=>(by simp at h),fun _=>?_⟩
     refine ai (xQ (.atom s) [42]) ?_
     simp only[↓zq,zs,ac]
     refine⟨fun h=>(by simp at h),fun _=>?_⟩
     refine ai (xQ (.atom s) [114,101,99]) ?_
     simp only[↓zq,zs,ac]
     refine⟨fun h=>(by simp at h),fun _=>?_⟩
     trivial
 |
  .list l,ar,a,hok,ha,hl=>by
  simp only[E.sz]at hl
  refine JR _ _ ((cU _).mpr trivial) ha.1 ?_
  have hd:=nH (.list l)
  have hlen:=lX (.list l)
  simp only[E.at]at hd
  have hp:hD []=false:=rfl
  have hq:dh []=false:=rfl
  simp only[FA,↓zq,zs,ac,zt,bK,cU,ek,hd]
  refine⟨hlen,fun h=>(by simp at h),fun h=>⟨hlen,fun h1=>(by simp at h1),fun h1=>⟨hlen,?_⟩⟩⟩
  refine ai (J6 []) ?_
  simp only[↓zq,zs,ac,hp]
  refine⟨fun h=>(by simp at h),fun _=>⟨hlen,?_⟩⟩
  refine ai (DG []) ?_
  simp only[↓zq,zs,ac,hq]
  refine⟨fun h=>(by simp at h),fun _=>?_⟩
  refine ai (xQ (.list l) [43]) ?_
  match l,hok,hl with
  |
   [x,y,z],hok,hl =>
   simp only[E.jr]at hl
   obtain⟨ok1,ok2,ok3,_⟩:=hok
   have iy:=CG y ar a ok2 ha (by omega)
   have iz:=CG z ar a ok3 ha (by omega)
   have hds:((E.list [x,y,z]).cu.deref.drop 1).headD .any=.sl [[x.cu],[y.cu],[z.cu]]:=rfl
   have hdl:1<=((E.list [x,y,z]).cu.deref.drop 1).length:=by simp[E.cu,jJ]
   have hxd:=nH x
   have hxl:=lX x
   have hyd:=nH y
   have hyl:=lX y
   have bin:∀(c:UInt8) (mkT:Ty->Ty->Ty),(∀t u:Ty,(mkT t u).av=.ptr [.v (.int .u8 (c.toNat:Int)),.v (.string (mk [])),.v (.int .i64 0),t.av,u.av])->x.at=[c]->bt (mk x.at) 0=(c.toNat:Int):=fun c _ _ hx=>by
    have:=l4 x.at 0 (by rw[hx];simp)
    simp only[Int.ofNat_eq_natCast,Int.cast_ofNat_Int]at this
    rw[this,hx];rfl
   simp only[↓zq,zs,ac,zt,hds,hdl,cU,ek,toNat_one,bf,hxd,hyd,rG]
   refine⟨fun hx=>?_,fun hx=>?_⟩
   ·refine⟨by omega,by omega,?_⟩
    refine ai iy ?_
    simp only[↓zq,zs,ac,iu]
    refine⟨by omega,by omega,?_⟩
    refine ai iz ?_
    have hb:=bin 43 Ty.plus (fun _ _=>rfl) hx
    rw[k9 ar hx]
    simp only[↓zq,zs,ac,zt,iu]
    cases h1:cS y ar with
    |none=>simp[ia,jK]
    |
     some t =>
     cases h2:cS z ar with
     |none=>simp[ia,jK,fM]
     |
      some u =>
      simp only[ia,fM,hb]
      refine⟨fun h=>(by cases h),fun _=>⟨fun h=>(by cases h),fun _=>⟨by omega,by omega,hxl,⟨by omega,by rw[hx];simp⟩,rfl⟩⟩⟩
   ·refine ai (xQ (.list [x,y,z]) [42]) ?_
    simp only[↓zq,zs,ac,hds,hdl,cU,ek,toNat_one,bf,hxd,hyd,rG]
    refine⟨fun hx2=>?_,fun hx2=>?_⟩
    ·refine⟨by omega,by omega,?_⟩
     refine ai iy ?_
     simp only[↓zq,zs,ac,iu]
     refine⟨by omega,by omega,?_⟩
     refine ai iz ?_
     have hb:=bin 42 Ty.times (fun _ _=>rfl) hx2
     rw[j0 ar hx2]
     simp only[↓zq,zs,ac,zt,iu]
     cases h1:cS y ar with
     |none=>simp[ia,jK]
     |
      some t =>
      cases h2:cS z ar with
      |none=>simp[ia,jK,fM]
      |
       some u =>
       simp only[ia,fM,hb]
       refine⟨fun h=>(by cases h),fun _=>⟨fun h=>(by cases h),fun _=>⟨by omega,by omega,hxl,⟨by omega,by rw[hx2];simp⟩,rfl⟩⟩⟩
    ·refine ai (xQ (.list [x,y,z]) [114,101,99]) ?_
     simp only[↓zq,zs,ac,zt,hds,hdl,cU,ek,toNat_one,bf,hxd,hyd,rG]
     refine⟨fun hx3=>⟨by omega,by omega,hyl,?_⟩,fun hx3=>?_⟩
     ·refine ai (DG y.at) ?_
      rw[mw ar hx3]
      simp only[↓zq,zs,ac]
      have hal:cv 1 a.aP:=by rw[ha.2];exact kk ar
      have hal1:cv 1 [[AV.v (.string (mk y.at))]]:=fun c hc=>by simp at hc;rw[hc];rfl
      refine⟨fun hlo=>⟨by omega,by omega,⟨ha.1,hal,by rw[ha.len];omega⟩,by omega,by omega,hyl,⟨hal1,by rw[aU,ha.len];omega⟩,?_⟩,fun hlo=>?_⟩
      ·rw[aU,ha.2,EO,if_pos hlo]
       refine ai (CG z (ar++[y.at]) _ ok3 (.of _) (by simp;omega)) ?_
       simp only[↓zq,zs,ac,iu]
       cases h2:cS z (ar++[y.at])with
       |none=>simp[ia,jK]
       |
        some u =>
        simp only[ia,fM]
        refine⟨fun h=>(by cases h),fun _=>rfl⟩
      ·rw[if_neg (by rw[hlo];simp)];rfl
     ·rw[jh ar hx hx2 hx3];rfl
  |
   [],_,_ =>
   simp only[↓zq,zs,ac]
   refine⟨fun h=>(by cases h),fun _=>?_⟩
   refine ai (xQ (.list []) [42]) ?_
   simp only[↓zq,zs,ac]
   refine⟨fun h=>(by cases h),fun _=>?_⟩
   refine ai (xQ (.list []) [114,101,99]) ?_
   simp only[↓zq,zs,ac]
   refine⟨fun h=>(by cases h),fun _=>?_⟩
   rfl
  |
   [x1],_,_ =>
   simp only[↓zq,zs,ac]
   refine⟨fun h=>(by cases h),fun _=>?_⟩
   refine ai (xQ (.list [x1]) [42]) ?_
   simp only[↓zq,zs,ac]
   refine⟨fun h=>(by cases h),fun _=>?_⟩
   refine ai (xQ (.list [x1]) [114,101,99]) ?_
   simp only[↓zq,zs,ac]
   refine⟨fun h=>(by cases h),fun _=>?_⟩
   rfl
  |
   [x1,x2],_,_ =>
   simp only[↓zq,zs,ac]
   refine⟨fun h=>(by cases h),fun _=>?_⟩
   refine ai (xQ (.list [x1,x2]) [42]) ?_
   simp only[↓zq,zs,ac]
   refine⟨fun h=>(by cases h),fun _=>?_⟩
   refine ai (xQ (.list [x1,x2]) [114,101,99]) ?_
   simp only[↓zq,zs,ac]
   refine⟨fun h=>(by cases h),fun _=>?_⟩
   rfl
  |
   x1::x2::x3::x4::l,_,_ =>
   simp only[↓zq,zs,ac]
   refine⟨fun h=>(by cases h),fun _=>?_⟩
   refine ai (xQ (.list (x1::x2::x3::x4::l)) [42]) ?_
   simp only[↓zq,zs,ac]
   refine⟨fun h=>(by cases h),fun _=>?_⟩
   refine ai (xQ (.list (x1::x2::x3::x4::l)) [114,101,99]) ?_
   simp only[↓zq,zs,ac]
   refine⟨fun h=>(by cases h),fun _=>?_⟩
   rfl
end Go.Proofs.Trees
namespace Go.Proofs.Trees
open Go Go.VL
def dq(v:AV)(obs:List Ob):AV->List Ob->Prop:=fun r o=>r=v/\o=obs
theorem aY{P:Program}{n:Nat}{Q:Nat->List AV->List Ob->Prop}{f:Nat}{xs:List AV}{ins:List Ob}{k:AV->List Ob->Tree}{v:AV}{obs:List Ob}(h:aq P f xs ins (dq v obs))(hk:eT P n (k v obs) Q):eT P n (.call f xs ins k) Q :=
 ⟨dq v obs,h,⟨v,obs,rfl,rfl⟩,fun r o ⟨h1,h2⟩=>by rw[h1,h2];exact hk⟩
def Ty.aE:Ty->Nat
 | .plus a b=>1+a.aE+b.aE
 | .times a b=>1+a.aE+b.aE
 | .rc a=>2+a.aE
 |_=>1
theorem Et:∀(t:Ty),t.aE<1000000->aq Tryz.prog 145 [t.av] [] (bK (.v (.int .i64 (t.aE:Int))))
 | .zero,h=>by refine w6 _ ((aF _).mpr trivial) ?_;simp[En,Ty.av,↓zq,zs,ac,bK,Ty.aE]
 | .one,h=>by refine w6 _ ((aF _).mpr trivial) ?_;simp[En,Ty.av,↓zq,zs,ac,bK,Ty.aE]
 | .name s,h=>by refine w6 _ ((aF _).mpr trivial) ?_;simp[En,Ty.av,↓zq,zs,ac,bK,Ty.aE]
 | .bQ u,h=>by refine w6 _ ((aF _).mpr trivial) ?_;simp[En,Ty.av,↓zq,zs,ac,bK,Ty.aE]
 |
  .plus a b,h=>by
  simp only[Ty.aE]at h
  refine w6 _ ((aF _).mpr trivial) ?_
  simp only[En,Ty.av,↓zq,zs,ac,aF]
  refine⟨by omega,fun _=>⟨by omega,?_⟩,fun h=>absurd rfl h⟩
  refine ai (Et a (by omega)) ?_
  simp only[↓zq,zs,ac,aF]
  refine⟨by omega,?_⟩
  refine ai (Et b (by omega)) ?_
  simp only[↓zq,zs,ac,bK,Ty.aE]
  rw[wrap64 (1+(a.aE:Int)) (by omega) (by omega),wrap64 _ (by omega) (by omega)]
  congr 2
 |
  .times a b,h=>by
  simp only[Ty.aE]at h
  refine w6 _ ((aF _).mpr trivial) ?_
  simp only[En,Ty.av,↓zq,zs,ac,aF]
  refine⟨by omega,fun h=>by omega,fun _=>⟨fun _=>⟨by omega,?_⟩,fun h=>absurd rfl h⟩⟩
  refine ai (Et a (by omega)) ?_
  simp only[↓zq,zs,ac,aF]
  refine⟨by omega,?_⟩
  refine ai (Et b (by omega)) ?_
  simp only[↓zq,zs,ac,bK,Ty.aE]
  rw[wrap64 (1+(a.aE:Int)) (by omega) (by omega),wrap64 _ (by omega) (by omega)]
  congr 2
 |
  .rc a,h=>by
  simp only[Ty.aE]at h
  refine w6 _ ((aF _).mpr trivial) ?_
  simp only[En,Ty.av,↓zq,zs,ac,aF]
  refine⟨by omega,fun h=>by omega,fun _=>⟨fun h=>by omega,fun _=>⟨fun _=>⟨by omega,?_⟩,fun h=>absurd rfl h⟩⟩⟩
  refine ai (Et a (by omega)) ?_
  simp only[↓zq,zs,ac,bK,Ty.aE]
  rw[wrap64 _ (by omega) (by omega)]
  congr 2
theorem iK:∀(e:E) (ar:List (List UInt8)) (t:Ty),cS e ar=some t->t.aE<=e.sz
 |
  .atom s,ar,t,h=>by
  simp only[cS]at h
  simp only[E.sz]
  split at h
  ·cases h;simp[Ty.aE]
  ·split at h
   ·cases h;simp[Ty.aE]
   ·split at h
    ·cases h;simp[Ty.aE]
    ·split at h
     ·split at h<;>cases h<;>simp[Ty.aE]
     ·cases h
 |
  .list [x,a,b],ar,t,h=>by
  have hs:∀e:E,1<=e.sz:=fun e=>by cases e<;>simp[E.sz];try omega
  have hx:=hs x
  have ha:=hs a
  simp only[E.sz,E.jr]
  by_cases h1:x.at=[43]
  ·rw[k9 ar h1]at h
   split at h
   ·rename_i t1 t2 e1 e2
    cases h
    have:=iK a ar t1 e1
    have:=iK b ar t2 e2
    simp only[Ty.aE];omega
   ·cases h
  ·by_cases h2:x.at=[42]
   ·rw[j0 ar h2]at h
    split at h
    ·rename_i t1 t2 e1 e2
     cases h
     have:=iK a ar t1 e1
     have:=iK b ar t2 e2
     simp only[Ty.aE];omega
    ·cases h
   ·by_cases h3:x.at=[114,101,99]
    ·rw[mw ar h3]at h
     split at h
     ·split at h
      ·rename_i t1 e1
       cases h
       have:=iK b _ t1 e1
       simp only[Ty.aE];omega
      ·cases h
     ·cases h
    ·rw[jh ar h1 h2 h3]at h;cases h
 | .list [],_,_,h=>by cases h
 | .list [_],_,_,h=>by cases h
 | .list [_,_],_,_,h=>by cases h
 | .list (_::_::_::_::_),_,_,h=>by cases h
def qK(s:List UInt8):Option Ty:=match qM s with
 |none=>none
 |
  some e=>match cS e []with
  |none=>none
  |some t=>if t.aE>400 then none else some t
theorem HY(s:List UInt8):aq Tryz.prog 108 [.v (.string (mk s))] [] (bK (ia (qK s))):=by
 refine Rh _ ?_
 unfold JO
 refine ai (MY s) ?_
 unfold qK
 cases he:qM s with
 |none=>simp only[ue,↓zq,zs,ac,bK,ia];simp
 |
  some e =>
  obtain⟨h1,h2⟩:=nW he
  simp only[ue,↓zq,zs,ac,cU,ek]
  refine⟨fun h=>(by cases h),fun _=>?_⟩
  refine ai (CG e [] _ h1 .nil (by simp;omega)) ?_
  cases ht:cS e []with
  |none=>simp only[ia,↓zq,zs,ac,bK];simp
  |
   some t =>
   have:=iK e [] t ht
   simp only[ia,↓zq,zs,ac,aF,fM]
   refine⟨fun h=>(by cases h),fun _=>?_⟩
   refine ai (Et t (by omega)) ?_
   simp only[↓zq,zs,ac,bK]
   refine⟨fun h=>?_,fun h=>?_⟩
   ·rw[if_pos (by omega)]
   ·rw[if_neg (by omega)]
end Go.Proofs.Trees
namespace Go.Proofs.Trees
open Go Go.VL
def AI(p:Prop):Nat->List AV->List Ob->Prop:=fun t ys o=>(t=1/\¬p/\ys=[]/\o=[])\/(t=2/\p/\∃j:Nat,ys=[.v (.int .i64 (j:Int))]/\o=[])
theorem Mr(l:List (List UInt8))(a:AV)(ha:cF a l)(s:List UInt8)(hl:l.length<1000000):∀(k i:Nat),i+k=l.length->s∉l.take i->E5 [a,.v (.string (mk s)),.v (.int .i64 (l.length:Int)),.v (.int .i64 (i:Int))] []
 (AI (s∈l))
 |
  0,i,hi,hn=>by
  refine Jq _ _ _ _ ?_
  simp only[H7,↓zq,zs,ac]
  have:l.take i=l:=List.take_of_length_le (by omega)
  rw[this]at hn
  exact⟨ha.1,fun h=>by omega,fun _=>.inl ⟨rfl,hn,rfl,rfl⟩⟩
 |
  k+1,i,hi,hn=>by
  have hlt:i<l.length:=by omega
  refine Jq _ _ _ _ ?_
  simp only[H7,↓zq,zs,ac,zt,ha.len,ha.idx hlt]
  have hm:l.getD i []∈l:=by simp[aa,hlt]
  refine⟨ha.1,fun _=>⟨⟨ha.1,by omega,by omega⟩,by omega,fun h=>?_,fun h=>?_⟩,fun h=>by omega⟩
  ·exact .inr ⟨rfl,by rw[h];exact hm,i,rfl,rfl⟩
  ·rw[bA i (by omega)]
   refine Mr l a ha s hl k (i+1) (by omega) ?_
   rw[List.take_add_one]
   simp only[aN,not_or]
   refine⟨hn,?_⟩
   have:l[i]?=some (l.getD i []):=by simp[aa,hlt]
   rw[this];simpa using h
theorem ND(l:List (List UInt8))(a:AV)(ha:cF a l)(s:List UInt8)(hl:l.length<1000000):aq Tryz.prog 177 [a,.v (.string (mk s))] [] (bK (.v (.bool (decide (s∈l))))):=by
 have hI:aq Tryz.prog 194 [a,.v (.string (mk s))] [] (fun r o=>∃n:Int,r=.v (.int .i64 n)/\(0<=n↔s∈l)/\o=[]):=by
  refine P4 _ _ ha.1 ?_
  simp only[JJ,↓zq,zs,ac,ha.len]
  refine⟨ha.1,kG (Mr l a ha s hl l.length 0 (by omega) (by simp)) ?_ ?_⟩
  ·rintro ys o (⟨_,h1,rfl,rfl⟩|⟨h,_⟩)
   ·simp only[↓zq,zs,ac]
    exact⟨-1,rfl,⟨fun h=>(by omega),fun h=>absurd h h1⟩⟩
   ·cases h
  ·rintro ys o (⟨h,_⟩|⟨_,h1,j,rfl,rfl⟩)
   ·cases h
   ·simp only[↓zq,zs,ac]
    exact⟨j,rfl,⟨fun _=>h1,fun _=>(by omega)⟩⟩
 refine QE _ _ ha.1 ?_
 unfold L0
 refine aQ hI ⟨.v (.int .i64 (if s∈l then 0 else -1)),[],_,rfl,by split<;>simp_all,rfl⟩ ?_
 rintro r o ⟨n,rfl,hn,rfl⟩
 simp only[↓zq,zs,ac,bK]
 congr 2
 rw[ct];simp[hn]
def pS(out:List (List UInt8)):Ty->List (List UInt8)
 | .name s=>if s∈out then out else out++[s]
 |_=>out
theorem Hn(t:Ty)(out:List (List UInt8))(hl:out.length<100000):aq Tryz.prog 181 [t.av,.ref 0 0] [.cells [.vec 1],.vec 1 (bD out)] (dq .any [.cells [.vec 1],.vec 1 (bD (pS out t))]):=by
 refine OO _ _ ((aF _).mpr trivial) ?_
 have hlen:(bD out).length=out.length:=by simp[bD]
 cases t with
 |
  name s =>
  simp only[Ft,Ty.av,↓zq,zs,ac,dq,hlen]
  refine⟨by omega,fun _=>⟨by omega,?_⟩,fun h=>absurd rfl h⟩
  refine ai (ND out _ (.of out) s (by omega)) ?_
  simp only[↓zq,zs,ac,pS]
  refine⟨fun h=>⟨by omega,⟨fun c hc=>(by simp at hc;rw[hc];rfl),by omega⟩,?_⟩,fun h=>?_⟩
  ·rw[EO,if_neg h]
  ·rw[if_pos h]
 |_=>simp[Ft,Ty.av,↓zq,zs,ac,dq,pS]
def bM:Ty->List (List UInt8)->List (List UInt8)
 | .name s,out=>pS out (.name s)
 | .plus a b,out=>bM b (bM a out)
 | .times a b,out=>bM b (bM a out)
 | .rc a,out=>bM a out
 |_,out=>out
theorem ew:∀(t:Ty) (out:List (List UInt8)),(bM t out).length<=out.length+t.aE
 | .name s,out=>by simp only[bM,pS,Ty.aE];split<;>simp
 |
  .plus a b,out=>by
  have:=ew a out
  have:=ew b (bM a out)
  simp only[bM,Ty.aE];omega
 |
  .times a b,out=>by
  have:=ew a out
  have:=ew b (bM a out)
  simp only[bM,Ty.aE];omega
 |
  .rc a,out=>by
  have:=ew a out
  simp only[bM,Ty.aE];omega
 | .zero,out=>by simp[bM]
 | .one,out=>by simp[bM]
 | .bQ u,out=>by simp[bM]
theorem zg:∀(t:Ty) (out:List (List UInt8)),out.length+t.aE<100000->aq Tryz.prog 180 [t.av,.fn 181 [.ref 0 0]] [.cells [.vec 1],.vec 1 (bD out)] (dq .any [.cells [.vec 1],.vec 1 (bD (bM t out))])
 |
  .plus a b,out,hl=>by
  simp only[Ty.aE]at hl
  have:=ew a out
  refine wm _ _ ((aF _).mpr trivial) ?_
  unfold EK
  refine aY (Hn (.plus a b) out (by omega)) ?_
  simp only[Ty.av,↓zq,zs,ac,aF,fM,pS,aM,dq]
  refine⟨by omega,fun _=>⟨by omega,?_⟩,fun h=>(by cases h)⟩
  refine aY (zg a out (by omega)) ?_
  simp only[↓zq,zs,ac,aF,fM,aM]
  refine⟨by omega,fun _=>⟨by omega,?_⟩,fun h=>(by cases h)⟩
  refine aY (zg b (bM a out) (by omega)) ?_
  simp only[↓zq,zs,ac,aM,bM]
 |
  .times a b,out,hl=>by
  simp only[Ty.aE]at hl
  have:=ew a out
  refine wm _ _ ((aF _).mpr trivial) ?_
  unfold EK
  refine aY (Hn (.times a b) out (by omega)) ?_
  simp only[Ty.av,↓zq,zs,ac,aF,fM,pS,aM,dq]
  refine⟨by omega,fun _=>⟨by omega,?_⟩,fun h=>(by cases h)⟩
  refine aY (zg a out (by omega)) ?_
  simp only[↓zq,zs,ac,aF,fM,aM]
  refine⟨by omega,fun _=>⟨by omega,?_⟩,fun h=>(by cases h)⟩
  refine aY (zg b (bM a out) (by omega)) ?_
  simp only[↓zq,zs,ac,aM,bM]
 |
  .rc a,out,hl=>by
  simp only[Ty.aE]at hl
  refine wm _ _ ((aF _).mpr trivial) ?_
  unfold EK
  refine aY (Hn (.rc a) out (by omega)) ?_
  simp only[Ty.av,↓zq,zs,ac,aF,fM,pS,aM,dq]
  refine⟨by omega,fun _=>⟨by omega,?_⟩,fun h=>(by cases h)⟩
  refine aY (zg a out (by omega)) ?_
  simp[↓zq,zs,ac,aF,fM,aM,bM]
 |
  .name s,out,hl=>by
  refine wm _ _ ((aF _).mpr trivial) ?_
  unfold EK
  refine aY (Hn (.name s) out (by omega)) ?_
  simp[Ty.av,↓zq,zs,ac,aM,dq,bM]
 |
  .zero,out,hl=>by
  refine wm _ _ ((aF _).mpr trivial) ?_
  unfold EK
  refine aY (Hn .zero out (by omega)) ?_
  simp[Ty.av,↓zq,zs,ac,aM,dq,bM,pS]
 |
  .one,out,hl=>by
  refine wm _ _ ((aF _).mpr trivial) ?_
  unfold EK
  refine aY (Hn .one out (by omega)) ?_
  simp[Ty.av,↓zq,zs,ac,aM,dq,bM,pS]
 |
  .bQ u,out,hl=>by
  refine wm _ _ ((aF _).mpr trivial) ?_
  unfold EK
  refine aY (Hn (.bQ u) out (by omega)) ?_
  simp[Ty.av,↓zq,zs,ac,aM,dq,bM,pS]
theorem LP(t:Ty)(hl:t.aE<100000):aq Tryz.prog 158 [t.av] [] (bK (.sl (bD (bM t [])))):=by
 refine QO _ ((aF _).mpr trivial) ?_
 unfold II
 refine aY (zg t [] (by simpa using hl)) ?_
 simp[↓zq,zs,ac,aM,bK]
theorem Jf(l:List (List UInt8))(a:AV)(ha:cF a l)(hl:l.length<1000000):∀(k i:Nat),i+k=l.length->(∀s,s∈l.take i->dh s=false)->GQ [a,.v (.func (.func 159) #[] #[]),.v (.int .i64 (l.length:Int)),.v (.int .i64 (i:Int))] []
 (AI (l.any dh=true))
 |
  0,i,hi,hn=>by
  refine N0 _ _ _ ?_
  simp only[F5,↓zq,zs,ac]
  have:l.take i=l:=List.take_of_length_le (by omega)
  rw[this]at hn
  exact⟨ha.1,fun h=>by omega,fun _=>.inl ⟨rfl,fun hh=>(by obtain⟨x,hx,hy⟩:=cm.1 hh;rw[hn x hx]at hy;cases hy),rfl,rfl⟩⟩
 |
  k+1,i,hi,hn=>by
  have hlt:i<l.length:=by omega
  refine N0 _ _ _ ?_
  simp only[F5,↓zq,zs,ac,zt,ha.len,ha.idx hlt]
  have hm:l.getD i []∈l:=by simp[aa,hlt]
  refine⟨ha.1,fun _=>⟨⟨ha.1,by omega,by omega⟩,by omega,?_⟩,fun h=>by omega⟩
  refine ai (DG _) ?_
  simp only[↓zq,zs,ac]
  refine⟨fun h=>?_,fun h=>?_⟩
  ·exact .inr ⟨rfl,cm.2 ⟨_,hm,h⟩,i,rfl,rfl⟩
  ·rw[bA i (by omega)]
   refine Jf l a ha hl k (i+1) (by omega) ?_
   intro s hs
   rw[List.take_add_one]at hs
   have:l[i]?=some (l.getD i []):=by simp[aa,hlt]
   rw[this]at hs
   rcases aN.1 hs with hs|hs
   ·exact hn s hs
   ·simp at hs;rw[hs];simpa using h
theorem Oz(l:List (List UInt8))(a:AV)(ha:cF a l)(hl:l.length<1000000):aq Tryz.prog 157 [a,.v (.func (.func 159) #[] #[])] [] (bK (.v (.bool (l.any dh)))):=by
 have hI:aq Tryz.prog 179 [a,.v (.func (.func 159) #[] #[])] [] (fun r o=>∃n:Int,r=.v (.int .i64 n)/\(0<=n↔l.any dh=true)/\o=[]):=by
  refine Pa _ ha.1 ?_
  simp only[Lh,↓zq,zs,ac,ha.len]
  refine⟨ha.1,kG (Jf l a ha hl l.length 0 (by omega) (by simp)) ?_ ?_⟩
  ·rintro ys o (⟨_,h1,rfl,rfl⟩|⟨h,_⟩)
   ·simp only[↓zq,zs,ac]
    exact⟨-1,rfl,⟨fun h=>(by omega),fun h=>absurd h h1⟩⟩
   ·cases h
  ·rintro ys o (⟨h,_⟩|⟨_,h1,j,rfl,rfl⟩)
   ·cases h
   ·simp only[↓zq,zs,ac]
    exact⟨j,rfl,⟨fun _=>h1,fun _=>(by omega)⟩⟩
 refine Rc _ ha.1 ?_
 unfold Iv
 refine aQ hI ⟨.v (.int .i64 (if l.any dh=true then 0 else -1)),[],_,rfl,by split<;>simp_all,rfl⟩ ?_
 rintro r o ⟨n,rfl,hn,rfl⟩
 simp only[↓zq,zs,ac,bK]
 congr 2
 rw[ct];simp only[decide_eq_true_eq,ge_iff_le,hn]
def Ty.closed(t:Ty):Bool:=!((bM t []).any dh)
theorem QF(t:Ty)(hl:t.aE<100000):aq Tryz.prog 127 [t.av] [] (bK (.v (.bool t.closed))):=by
 refine Pp _ ((aF _).mpr trivial) ?_
 unfold Im
 refine ai (LP t hl) ?_
 simp only[↓zq,zs,ac]
 have:=ew t []
 refine ai (Oz _ _ (.of _) (by simp at this;omega)) ?_
 simp only[↓zq,zs,ac,bK,Ty.closed]
def xb(s:List UInt8):Option Ty:=match qK s with
 |none=>none
 |some t=>if t.closed=true then some t else none
theorem sZ{s:List UInt8}{t:Ty}(h:qK s=some t):t.aE<=400:=by
 unfold qK at h
 split at h
 ·cases h
 ·split at h
  ·cases h
  ·split at h<;>cases h
   omega
theorem Mb(s:List UInt8):aq Tryz.prog 93 [.v (.string (mk s))] [] (bK (ia (xb s))):=by
 refine Ph _ ?_
 unfold JM
 refine ai (HY s) ?_
 unfold xb
 cases ht:qK s with
 |none=>simp[ia,↓zq,zs,ac,bK]
 |
  some t =>
  have:=sZ ht
  simp only[ia,↓zq,zs,ac,aF,fM]
  refine⟨fun h=>(by cases h),fun _=>?_⟩
  refine ai (QF t (by omega)) ?_
  simp only[↓zq,zs,ac,bK]
  refine⟨fun h=>?_,fun h=>?_⟩
  ·rw[if_neg (by rw[h];simp)]
  ·rw[if_pos h]
theorem ep(l:List (List UInt8)):∀x,x∈[Ob.vec 1 (bD l)]->fA x:=by
 intro x hx
 simp only[aV]at hx
 subst hx
 intro e he c hc
 simp only[bD,bO]at he
 obtain⟨k,_,rfl⟩:=he
 simp only[aV]at hc
 exact⟨_,hc⟩
end Go.Proofs.Trees
namespace Go.Proofs.Trees
open Go Go.VL Go.RowKit
abbrev Nm:=List UInt8
def dB(u:Ty):Ty->Nat->Ty
 | .bQ k,i=>if k=i then u else .bQ k
 | .plus a b,i=>.plus (dB u a i) (dB u b i)
 | .times a b,i=>.times (dB u a i) (dB u b i)
 | .rc a,i=>.rc (dB u a (i+1))
 |t,_=>t
def sub(x:Nm)(u:Ty):Ty->Ty
 | .name s=>if s=x then u else .name s
 | .plus a b=>.plus (sub x u a) (sub x u b)
 | .times a b=>.times (sub x u a) (sub x u b)
 | .rc a=>.rc (sub x u a)
 |t=>t
def bn(x:Nm):Ty->Bool
 | .name s=>decide (s=x)
 | .plus a b=>bn x a||bn x b
 | .times a b=>bn x a||bn x b
 | .rc a=>bn x a
 |_=>false
def jL(f:Nm->Nm):Ty->Ty
 | .name s=>.name (f s)
 | .plus a b=>.plus (jL f a) (jL f b)
 | .times a b=>.times (jL f a) (jL f b)
 | .rc a=>.rc (jL f a)
 |t=>t
def JB(f:Nm->Nm):Prop:=∀x y,f x=f y->x=y
theorem lA(f:Nm->Nm)(x:Nm):∀(t:Ty) (i:Nat),jL f (dB (.name x) t i)=dB (.name (f x)) (jL f t) i
 | .bQ k,i=>by simp only[dB,jL];split<;>rfl
 | .plus a b,i=>by simp only[dB,jL,lA f x a i,lA f x b i]
 | .times a b,i=>by simp only[dB,jL,lA f x a i,lA f x b i]
 | .rc a,i=>by simp only[dB,jL,lA f x a (i+1)]
 | .zero,i=>rfl
 | .one,i=>rfl
 | .name s,i=>rfl
theorem lD{f:Nm->Nm}(hf:JB f)(x:Nm)(u:Ty):∀t:Ty,jL f (sub x u t)=sub (f x) (jL f u) (jL f t)
 |
  .name s=>by
  simp only[sub,jL]
  by_cases h:s=x
  ·subst h;simp
  ·rw[if_neg h,if_neg fun e=>h (hf _ _ e)];rfl
 | .plus a b=>by simp only[sub,jL,lD hf x u a,lD hf x u b]
 | .times a b=>by simp only[sub,jL,lD hf x u a,lD hf x u b]
 | .rc a=>by simp only[sub,jL,lD hf x u a]
 | .zero=>rfl
 | .one=>rfl
 | .bQ k=>rfl
theorem nh{f:Nm->Nm}(hf:JB f)(x:Nm):∀t:Ty,bn (f x) (jL f t)=bn x t
 | .name s=>by simp only[bn,jL];rw[ct];simp only[decide_eq_true_eq];exact⟨fun e=>hf _ _ e,fun e=>by rw[e]⟩
 | .plus a b=>by simp only[bn,jL,nh hf x a,nh hf x b]
 | .times a b=>by simp only[bn,jL,nh hf x a,nh hf x b]
 | .rc a=>by simp only[bn,jL,nh hf x a]
 | .zero=>rfl
 | .one=>rfl
 | .bQ k=>rfl
theorem gU(f:Nm->Nm):∀t:Ty,(jL f t).aE=t.aE
 | .plus a b=>by simp only[Ty.aE,jL,gU f a,gU f b]
 | .times a b=>by simp only[Ty.aE,jL,gU f a,gU f b]
 | .rc a=>by simp only[Ty.aE,jL,gU f a]
 | .name s=>rfl
 | .zero=>rfl
 | .one=>rfl
 | .bQ k=>rfl
theorem pH{f:Nm->Nm}:∀t:Ty,(∀x,bn x t=true->f x=x)->jL f t=t
 | .name s,h=>by simp only[jL];rw[h s (by simp[bn])]
 | .plus a b,h=>by simp only[jL];rw[pH a fun x hx=>h x (by simp[bn,hx]),pH b fun x hx=>h x (by simp[bn,hx])]
 | .times a b,h=>by simp only[jL];rw[pH a fun x hx=>h x (by simp[bn,hx]),pH b fun x hx=>h x (by simp[bn,hx])]
 | .rc a,h=>by simp only[jL];rw[pH a fun x hx=>h x hx]
 | .zero,_=>rfl
 | .one,_=>rfl
 | .bQ k,_=>rfl
theorem fF(x:Nm):∀(t:Ty) (i:Nat),(dB (.name x) t i).aE=t.aE
 | .bQ k,i=>by simp only[dB];split<;>rfl
 | .plus a b,i=>by simp only[dB,Ty.aE,fF x a i,fF x b i]
 | .times a b,i=>by simp only[dB,Ty.aE,fF x a i,fF x b i]
 | .rc a,i=>by simp only[dB,Ty.aE,fF x a (i+1)]
 | .zero,i=>rfl
 | .one,i=>rfl
 | .name s,i=>rfl
theorem ej(t:Ty):1<=t.aE:=by cases t<;>simp only[Ty.aE]<;>omega
theorem gP(x:Nm)(u:Ty):∀t:Ty,t.aE<=(sub x u t).aE
 | .name s=>by simp only[sub];split<;>simp only[Ty.aE];exact ej u;omega
 | .plus a b=>by have:=gP x u a;have:=gP x u b;simp only[sub,Ty.aE];omega
 | .times a b=>by have:=gP x u a;have:=gP x u b;simp only[sub,Ty.aE];omega
 | .rc a=>by have:=gP x u a;simp only[sub,Ty.aE];omega
 | .zero=>au _
 | .one=>au _
 | .bQ k=>au _
theorem gB{x y:Nm}:∀(t:Ty) (i:Nat),bn y (dB (.name x) t i)=true->y=x\/bn y t=true
 |
  .bQ k,i,h=>by
  simp only[dB]at h
  split at h
  ·left;simp only[bn,decide_eq_true_eq]at h;exact h.symm
  ·cases h
 |
  .plus a b,i,h=>by
  simp only[dB,bn,bz]at h |-
  rcases h with h|h
  ·rcases gB a i h with h|h<;>simp[h]
  ·rcases gB b i h with h|h<;>simp[h]
 |
  .times a b,i,h=>by
  simp only[dB,bn,bz]at h |-
  rcases h with h|h
  ·rcases gB a i h with h|h<;>simp[h]
  ·rcases gB b i h with h|h<;>simp[h]
 | .rc a,i,h=>gB a (i+1) h
 | .zero,i,h=>by cases h
 | .one,i,h=>by cases h
 | .name s,i,h=>.inr h
theorem jf{x y:Nm}{u:Ty}:∀t:Ty,bn y (sub x u t)=true->bn y u=true\/(y≠x/\bn y t=true)
 |
  .name s,h=>by
  simp only[sub]at h
  split at h
  ·exact .inl h
  ·rename_i hs
   simp only[bn,decide_eq_true_eq]at h
   subst h
   exact .inr ⟨hs,by simp[bn]⟩
 |
  .plus a b,h=>by
  simp only[sub,bn,bz]at h |-
  rcases h with h|h
  ·rcases jf a h with h|h<;>simp[h]
  ·rcases jf b h with h|h<;>simp[h]
 |
  .times a b,h=>by
  simp only[sub,bn,bz]at h |-
  rcases h with h|h
  ·rcases jf a h with h|h<;>simp[h]
  ·rcases jf b h with h|h<;>simp[h]
 |
  .rc a,h=>by
  simp only[sub,bn]at h |-
  exact jf a h
 | .zero,h=>by cases h
 | .one,h=>by cases h
 | .bQ k,h=>by cases h
def swp(x y:Nm):Nm->Nm:=fun s=>if s=x then y else if s=y then x else s
theorem yu(x y:Nm):JB (swp x y):=by
 intro a b h
 unfold swp at h
 by_cases h1:a=x<;>by_cases h2:a=y<;>by_cases h3:b=x<;>by_cases h4:b=y<;>simp_all
theorem vB(x y:Nm):swp x y x=y:=by simp[swp]
theorem AK{x y s:Nm}(h:s≠x)(h':s≠y):swp x y s=s:=by simp[swp,h,h']
theorem ug{x y:Nm}{t:Ty}(h:bn x t=false)(h':bn y t=false):jL (swp x y) t=t :=
 pH t fun z hz=>AK (fun e=>by subst e;rw[h]at hz;cases hz) (fun e=>by subst e;rw[h']at hz;cases hz)
def pL(a:Ty)(x:Nm)(c d:Ty):Ty:=.rc (.plus (sub x (.rc a) c) (.times (sub x (.rc a) d) (.bQ 0)))
inductive Dv:Ty->Nm->Ty->Prop
 |zero (s):Dv .zero s .zero
 |one (s):Dv .one s .zero
 |bQ (k s):Dv (.bQ k) s .zero
 |hit (s):Dv (.name s) s .one
 |qn {n s} (h:n≠s):Dv (.name n) s .zero
 |plus {a b s a' b'} (h1:Dv a s a') (h2:Dv b s b') (hl:(Ty.plus a' b').aE<=400):Dv (.plus a b) s (.plus a' b')
 |times {a b s a' b'} (h1:Dv a s a') (h2:Dv b s b') (hl:(Ty.plus (.times a' b) (.times a b')).aE<=400):Dv (.times a b) s (.plus (.times a' b) (.times a b'))
 |rc {a s c d} (x:Nm) (hx:bn x a=false) (hs:x≠s) (h1:Dv (dB (.name x) a 0) s c) (h2:Dv (dB (.name x) a 0) x d) (hl:(pL a x c d).aE<=400):Dv (.rc a) s (pL a x c d)
theorem yN{f:Nm->Nm}(hf:JB f)(a:Ty)(x:Nm)(c d:Ty):jL f (pL a x c d)=pL (jL f a) (f x) (jL f c) (jL f d):=by
 simp only[pL,jL,lD hf]
theorem Dv.jL{f:Nm->Nm}(hf:JB f){t d:Ty}{s:Nm}(h:Dv t s d):Dv (jL f t) (f s) (jL f d):=by
 induction h with
 |zero s=>exact .zero _
 |one s=>exact .one _
 |bQ k s=>exact .bQ _ _
 |hit s=>exact .hit _
 |qn h=>exact .qn fun e=>h (hf _ _ e)
 |plus h1 h2 hl i1 i2=>exact .plus i1 i2 (by rw[<-gU f]at hl;exact hl)
 |times h1 h2 hl i1 i2=>exact .times i1 i2 (by rw[<-gU f]at hl;exact hl)
 |
  rc x hx hs h1 h2 hl i1 i2 =>
  rw[yN hf]
  rw[lA]at i1 i2
  exact .rc (f x) (by rw[nh hf];exact hx) (fun e=>hs (hf _ _ e)) i1 i2 (by rw[<-yN hf,gU];exact hl)
theorem Dv.names{t d:Ty}{s:Nm}(h:Dv t s d):∀y,bn y d=true->bn y t=true:=by
 induction h with
 |zero s=>intro y hy;cases hy
 |one s=>intro y hy;cases hy
 |bQ k s=>intro y hy;cases hy
 |hit s=>intro y hy;cases hy
 |qn h=>intro y hy;cases hy
 |
  plus h1 h2 hl i1 i2 =>
  intro y hy
  simp only[bn,bz]at hy |-
  rcases hy with hy|hy
  ·exact .inl (i1 y hy)
  ·exact .inr (i2 y hy)
 |
  times h1 h2 hl i1 i2 =>
  intro y hy
  simp only[bn,bz]at hy |-
  rcases hy with(hy|hy)|(hy|hy)
  ·exact .inl (i1 y hy)
  ·exact .inr hy
  ·exact .inl hy
  ·exact .inr (i2 y hy)
 |
  rc x hx hs h1 h2 hl i1 i2 =>
  intro y hy
  simp only[pL,bn,bz,Bool.or_false]at hy |-
  have key:∀{a c:Ty},(∀y,bn y c=true->bn y (dB (.name x) a 0)=true)->bn y (sub x (.rc a) c)=true->bn y a=true:=fun i h=>by
   rcases jf _ h with h|⟨h,h'⟩
   ·exact h
   ·rcases gB _ _ (i y h')with e|e
    ·exact absurd e h
    ·exact e
  rcases hy with hy|hy
  ·exact key i1 hy
  ·exact key i2 hy
theorem Dv.fresh{t d:Ty}{s y:Nm}(h:Dv t s d)(hy:bn y t=false):bn y d=false:=by
 cases e:bn y d with
 |false=>rfl
 |true=>rw[h.names y e]at hy;cases hy
theorem Dv.move{a c:Ty}{x y s:Nm}(hx:bn x a=false)(hy:bn y a=false)(h:Dv (dB (.name x) a 0) s c):Dv (dB (.name y) a 0) (swp x y s) (Go.Proofs.Trees.jL (swp x y) c):=by
 have:=h.jL (yu x y)
 rw[lA,vB,ug hx hy]at this
 exact this
theorem mG{a c:Ty}{x y s:Nm}(hx:bn x a=false)(hy:bn y a=false)(h:Dv (dB (.name x) a 0) s c):sub y (.rc a) (jL (swp x y) c)=sub x (.rc a) c:=by
 have e:=lD (yu x y) x (.rc a) c
 rw[vB,ug (t:=.rc a) hx hy]at e
 rw[<-e]
 have key:∀z,(z=x\/z=y)->bn z (sub x (.rc a) c)=false:=fun z hz=>by
  cases q:bn z (sub x (.rc a) c)with
  |false=>rfl
  |
   true =>
   exfalso
   have hz':bn z a=false:=by rcases hz with rfl|rfl<;>assumption
   rcases jf _ q with h1|⟨h1,h2⟩
   ·rw[show bn z (.rc a)=bn z a from rfl,hz']at h1;cases h1
   ·rcases gB _ _ (h.names z h2)with e|e
    ·exact h1 e
    ·rw[hz']at e;cases e
 exact ug (key x (.inl rfl)) (key y (.inr rfl))
theorem Dv.wZ:∀(n:Nat) (t:Ty),t.aE<=n->∀{s:Nm} {d d':Ty},Dv t s d->Dv t s d'->d=d'
 |0,t,h,_,_,_,_,_=>by have:=ej t;omega
 |
  n+1,t,hn,s,d,d',h,h'=>by
  cases h with
  |zero=>cases h';rfl
  |one=>cases h';rfl
  |bQ=>cases h';rfl
  |
   hit =>
   cases h' with
   |hit=>rfl
   |qn h=>exact absurd rfl h
  |
   qn h =>
   cases h' with
   |hit=>exact absurd rfl h
   |qn _=>rfl
  |
   plus h1 h2 =>
   simp only[Ty.aE]at hn
   cases h' with
   |plus g1 g2=>rw[Dv.wZ n _ (by omega) h1 g1,Dv.wZ n _ (by omega) h2 g2]
  |
   times h1 h2 =>
   simp only[Ty.aE]at hn
   cases h' with
   |times g1 g2=>rw[Dv.wZ n _ (by omega) h1 g1,Dv.wZ n _ (by omega) h2 g2]
  |
   rc x hx hs h1 h2 =>
   simp only[Ty.aE]at hn
   cases h' with
   |
    rc y hy hs' g1 g2 =>
    rename_i a _ _ _ _ _ _
    have m1:=h1.move hx hy
    have m2:=h2.move hx hy
    rw[AK (Ne.symm hs) (Ne.symm hs')]at m1
    rw[vB]at m2
    have e1:=Dv.wZ n _ (by rw[fF];omega) m1 g1
    have e2:=Dv.wZ n _ (by rw[fF];omega) m2 g2
    rw[pL,pL,<-e1,<-e2,mG hx hy h1,mG hx hy h2]
theorem Dv.small{t d:Ty}{s:Nm}(h:Dv t s d):d.aE<=400:=by
 cases h<;>first|assumption|simp[Ty.aE]
open Classical in
noncomputable def lG (t:Ty) (s:Nm):Option Ty:=if h:∃d,Dv t s d then some (Classical.choose h)else none
theorem cQ{t:Ty}{s:Nm}{d:Ty}:lG t s=some d↔Dv t s d:=by
 unfold lG
 by_cases h:∃d,Dv t s d
 ·rw[dif_pos h]
  have:=Classical.choose_spec h
  constructor
  ·intro e;cases e;exact this
  ·intro g;rw[Dv.wZ _ t (au _) this g]
 ·rw[dif_neg h]
  exact⟨fun e=>(by cases e),fun g=>absurd ⟨d,g⟩ h⟩
def nv(t:Ty):Option Ty:=if t.aE<=400 then some t else none
theorem eM{t d:Ty}:nv t=some d↔t.aE<=400/\t=d:=by
 unfold nv
 split
 ·rename_i h;simp[h]
 ·rename_i h;simp[h]
theorem qB{α:Type}{a b:Option α}(h:∀d,a=some d↔b=some d):a=b:=by
 cases a with
 |
  none=>cases b with
  |none=>rfl
  |some x=>have:=(h x).2 rfl;cases this
 |some x=>exact((h x).1 rfl).symm
theorem vo(s:Nm):lG .zero s=some .zero:=cQ.2 (.zero _)
theorem yV(s:Nm):lG .one s=some .zero:=cQ.2 (.one _)
theorem zN(k:Nat)(s:Nm):lG (.bQ k) s=some .zero:=cQ.2 (.bQ _ _)
theorem om(n s:Nm):lG (.name n) s=some (if n=s then .one else .zero):=by
 split
 ·rename_i h;subst h;exact cQ.2 (.hit _)
 ·rename_i h;exact cQ.2 (.qn h)
theorem vd(a b:Ty)(s:Nm):lG (.plus a b) s=(lG a s).bind fun a'=>(lG b s).bind fun b'=>nv (.plus a' b'):=by
 refine qB fun d=>?_
 rw[cQ]
 simp only[bg,cQ,eM]
 constructor
 ·intro h;cases h with|plus h1 h2 hl=>exact⟨_,h1,_,h2,hl,rfl⟩
 ·rintro⟨a',h1,b',h2,hl,rfl⟩;exact .plus h1 h2 hl
theorem sJ(a b:Ty)(s:Nm):lG (.times a b) s=(lG a s).bind fun a'=>(lG b s).bind fun b'=>nv (.plus (.times a' b) (.times a b')):=by
 refine qB fun d=>?_
 rw[cQ]
 simp only[bg,cQ,eM]
 constructor
 ·intro h;cases h with|times h1 h2 hl=>exact⟨_,h1,_,h2,hl,rfl⟩
 ·rintro⟨a',h1,b',h2,hl,rfl⟩;exact .times h1 h2 hl
theorem Cf{a:Ty}{s x:Nm}(hx:bn x a=false)(hs:x≠s):lG (.rc a) s=(lG (dB (.name x) a 0) s).bind fun c=>(lG (dB (.name x) a 0) x).bind fun d=>nv (pL a x c d):=by
 refine qB fun d=>?_
 rw[cQ]
 simp only[bg,cQ,eM]
 constructor
 ·intro h
  cases h with
  |
   rc y hy hs' h1 h2 hl =>
   have m1:=h1.move hy hx
   have m2:=h2.move hy hx
   rw[AK (Ne.symm hs') (Ne.symm hs)]at m1
   rw[vB]at m2
   refine⟨_,m1,_,m2,?_⟩
   have e:∀c d,sub x (.rc a) (jL (swp y x) c)=sub y (.rc a) c->sub x (.rc a) (jL (swp y x) d)=sub y (.rc a) d->pL a x (jL (swp y x) c) (jL (swp y x) d)=pL a y c d:=fun c d e1 e2=>by rw[pL,pL,e1,e2]
   rw[e _ _ (mG hy hx h1) (mG hy hx h2)]
   exact⟨hl,rfl⟩
 ·rintro⟨c,h1,d',h2,hl,rfl⟩;exact .rc x hx hs h1 h2 hl
noncomputable def nX (a:Ty) (x:Nm):Option Ty:=(lG (dB (.name x) a 0) x).bind fun d=>nv (sub x (.rc a) d)
theorem GR{a:Ty}{x y:Nm}(hx:bn x a=false)(hy:bn y a=false):nX a x=nX a y:=by
 have key:∀{x y:Nm} {d:Ty},bn x a=false->bn y a=false->nX a x=some d->nX a y=some d:=fun {x y d} hx hy h=>by
  simp only[nX,bg,cQ,eM]at h |-
  obtain⟨d',h1,hl,rfl⟩:=h
  have m1:=h1.move hx hy
  rw[vB]at m1
  exact⟨_,m1,by rw[mG hx hy h1];exact⟨hl,rfl⟩⟩
 exact qB fun d=>⟨key hx hy,key hy hx⟩
end Go.Proofs.Trees
namespace Go.Proofs.Trees
open Go Go.VL
theorem PZ(b:UInt8):aq Tryz.prog 178 [.v (.int .u8 (b.toNat:Int))] [] (bK (.v (.bool (e9 b)))):=by
 refine Qx _ ?_
 simp only[IV,↓zq,zs,ac,bK,e9]
 repeat' (apply aI<;>intro _)
 all_goals first|(congr 2;rw[ct];simp;omega)|(congr 2;simp;omega)
def DF(s:List UInt8)(x:Option (E×List UInt8)):AV->List Ob->Prop:=fun r o=>o=[] /\
 match x with
 |some (e,u)=>r=.cD [e.kB,.v (.int .i64 ((s.length-u.length:Nat):Int))]
 |none=>∃(c:List UInt8) (d:AV),LK.sl.has d/\r=.cD [.agg [.v (.string (mk c)),d],.v (.int .i64 (-1))]
theorem DF.ne(s:List UInt8)(x:Option (E×List UInt8)):∃r o,DF s x r o:=by
 cases x with
 |some q=>exact⟨_,_,rfl,rfl⟩
 |none=>exact⟨_,_,rfl,[],.v (.slice none 0 0),(bi).mpr trivial,rfl⟩
def jc(c:List UInt8)(d:AV):Ob:=.cells [.v (.string (mk c)),d]
theorem Iu(s:List UInt8)(hs:s.length<=8000)(from_:Int)(c1 c2:List UInt8)(d1 d2:AV)(h1:LK.sl.has d1)(h2:LK.sl.has d2):∀(k i:Nat),i+k=s.length->FW [.v (.string (mk s)),.v (.int .i64 (i:Int)),.v (.int .i64 from_)] [jc c1 d1,jc c2 d2]
 (iF 1 [.v (.string (mk s)),.v (.int .i64 ((i+((s.drop i).takeWhile e9).length:Nat):Int)),.v (.int .i64 from_)] [jc c1 d1,jc c2 d2])
 |
  0,i,hi=>by
  refine MF _ _ _ _ _ _ _ ?_
  have hd:s.drop i=[]:=bS (by omega)
  simp only[Gj,↓zq,zs,ac,zt]
  exact⟨h1,h2,fun h=>by omega,fun _=>by simp[iF,hd,jc]⟩
 |
  k+1,i,hi=>by
  have hlt:i<s.length:=by omega
  refine MF _ _ _ _ _ _ _ ?_
  simp only[Gj,↓zq,zs,ac,zt,l4 s i hlt]
  refine⟨h1,h2,fun _=>⟨by omega,?_⟩,fun h=>by omega⟩
  refine ai (PZ _) ?_
  simp only[↓zq,zs,ac]
  refine⟨fun hb=>?_,fun hb=>?_⟩
  ·rw[bA i (by omega)]
   have:=Iu s hs from_ c1 c2 d1 d2 h1 h2 k (i+1) (by omega)
   rw[yb hlt hb,show i+(((s.drop (i+1)).takeWhile e9).length+1)=i+1+((s.drop (i+1)).takeWhile e9).length by omega]
   exact this
  ·simp[iF,qQ hlt hb,jc]
def RR(s:List UInt8)(x:Option (E×List UInt8)):Nat->List AV->List Ob->Prop:=fun t ys o=>t=2 /\
 match x with
 |some (e,u)=>∃l,e=.list l/\ys=[.v (.int .i64 ((s.length-u.length:Nat):Int))]/\o=[jc [] .any,.vec 2 (E.bu l)]
 |none=>∃es,ys=[.v (.int .i64 (-1))]/\o=[jc [] .any,.vec 2 es]
theorem yE(e:E):(e.kB=.agg e.kB.cs/\e.kB.cs.length=2/\bH [.str,.sl] e.kB.cs 0)=True:=by
 apply eq_true
 cases e<;>simp[E.kB,E.ik,Br,bH,dW,bi,cg]
theorem xg(e:E):[AV.v (.string ((e.kB.cs.getD 0 .any).ag)),e.kB.cs.getD 1 .any]=e.ik:=by
 cases e<;>rfl
theorem drop_cons{s:List UInt8}{j:Nat}(hj:j<s.length):s.drop j=s.getD j 0::s.drop (j+1):=by
 rw[aW hj];simp[aa,hj]
theorem Mu(s:List UInt8)(hs:s.length<=8000)(d:Nat)(hd:d<=300)(f:List UInt8->Option (E×List UInt8))(hf:∀u e r,f u=some (e,r)->∃j,r=u.drop j/\0<j/\j<=u.length)
 (ih:∀j,j<=s.length->aq Tryz.prog 152 [.v (.string (mk s)),.v (.int .i64 (j:Int)),.v (.int .i64 ((d+1:Nat):Int))] [] (DF s (f (s.drop j)))) :
 ∀(n i:Nat) (acc:List E) (c1:List UInt8) (d1:AV),LK.sl.has d1->s.length-(i+1)<n->i<s.length->s.length-i+acc.length<=8001->G8 [.v (.string (mk s)),.v (.int .i64 (i:Int)),.v (.int .i64 (d:Int))] [jc c1 d1,jc [] .any,.vec 2 (E.bu acc)]
  (RR s (sg f n (s.drop (i+1)) acc))
 |0,i,acc,c1,d1,h1,hn,_,_=>by omega
 |
  n+1,i,acc,c1,d1,h1,hn,hi,hl=>by
  refine QD _ _ _ _ _ _ _ ?_
  simp only[KT,↓zq,zs,ac,jc]
  refine⟨h1,?_⟩
  rw[bA i (by omega),bA d (by omega)]
  refine aQ (ih (i+1) (by omega)) (DF.ne _ _) ?_
  rintro r o ⟨rfl,hr⟩
  have hff:=hf (s.drop (i+1))
  unfold sg
  cases hq:f (s.drop (i+1))with
  |
   none =>
   rw[hq]at hr
   obtain⟨c,d',hd',rfl⟩:=hr
   simp only[↓zq,zs,ac,zt,bH]
   refine⟨hd',fun _=>⟨rfl,_,rfl,rfl⟩,fun h=>by omega⟩
  |
   some q =>
   obtain⟨e,u⟩:=q
   rw[hq]at hr
   subst hr
   obtain⟨j,hu,hj0,hj⟩:=hff e u hq
   rw[List.drop_drop]at hu
   simp only[cq]at hj
   have hul:u.length=s.length-(i+1+j):=by rw[hu,cq]
   have hpos:s.length-u.length=i+1+j:=by omega
   simp only[↓zq,zs,ac,zt,yE,hpos,xg,dY]
   refine⟨fun h=>by omega,fun _=>⟨fun h=>?_,fun h=>⟨⟨fun c hc=>(by simp at hc;rw[hc];cases e<;>rfl),by omega⟩,?_⟩⟩⟩
   ·have:u=[]:=by rw[hu];exact bS (by omega)
    subst this
    exact⟨rfl,_,rfl,rfl⟩
   ·have hlt:i+1+j<s.length:=by omega
    rw[drop_cons hlt]at hu
    subst hu
    rw[l4 s _ hlt]
    generalize hb:s.getD (i+1+j) 0=b
    refine⟨by omega,fun h41=>?_,fun h41=>⟨by omega,fun h32=>?_,fun h32=>?_⟩⟩
    ·have h41':b.toNat=41:=by omega
     dsimp only
     rw[if_pos h41',bA _ (by omega)]
     refine⟨rfl,acc++[e],rfl,?_,?_⟩
     ·rw[cq];congr 3;omega
     ·simp[jc,p7,E.bu]
    ·have h41':¬b.toNat=41:=by omega
     have h32':¬b.toNat=32:=by omega
     dsimp only
     rw[if_neg h41',if_neg h32']
     exact⟨rfl,_,rfl,rfl⟩
    ·have h41':¬b.toNat=41:=by omega
     have h32':b.toNat=32:=by omega
     dsimp only
     rw[if_neg h41',if_pos h32']
     have:=Mu s hs d hd f hf ih n (i+1+j) (acc++[e]) c1 d1 h1 (by omega) hlt (by simp;omega)
     simpa[jc,p7,E.bu]using this
theorem Dw(k:Nat)(u:List UInt8)(e:E)(r:List UInt8)(h:rd k u=some (e,r)):∃j,r=u.drop j/\0<j/\j<=u.length:=by
 have suf:∀(k:Nat) (u:List UInt8) (e:E) (r:List UInt8),rd k u=some (e,r)->r <:+ u:=by
  intro k
  have tw:∀u:List UInt8,u.dropWhile e9 <:+ u:=fun u=>List.dropWhile_suffix _
  have ll:∀(f:List UInt8->Option (E×List UInt8)),(∀u e r,f u=some (e,r)->r <:+ u)->∀(n:Nat) (u:List UInt8) (acc:List E) (e:E) (r:List UInt8),sg f n u acc=some (e,r)->r <:+ u:=by
   intro f hf n
   induction n with
   |zero=>intro u acc e r h;cases h
   |
    succ n ih =>
    intro u acc e r h
    simp only[sg]at h
    split at h
    ·rename_i p c r' hs
     have h1:r' <:+ u:=(List.suffix_cons c r').trans (hf _ _ _ hs)
     split at h
     ·cases h;exact h1
     ·split at h
      ·exact(ih _ _ _ _ h).trans h1
      ·cases h
    ·cases h
  induction k with
  |
   zero =>
   intro u e r h
   simp only[rd]at h
   split at h
   ·cases h
   ·cases h;exact tw u
  |
   succ k ih =>
   intro u e r h
   simp only[rd]at h
   split at h
   ·split at h
    ·split at h
     ·exact(ll _ ih _ _ _ _ _ h).trans (List.suffix_cons _ _)
     ·cases h
    ·cases h
   ·cases h;exact tw u
 obtain⟨p,hp⟩:=suf k u e r h
 have hlt:=yg k u e r h
 have:=congrArg List.length hp
 simp only[an]at this
 exact⟨p.length,by rw[<-hp];simp,by omega,by omega⟩
theorem Bi(n:Nat)(u:List UInt8)(acc:List E):sg (fun _=>none) n u acc=none:=by
 cases n<;>rfl
theorem O3(s:List UInt8)(j:Nat):aq Tryz.prog 152 [.v (.string (mk s)),.v (.int .i64 (j:Int)),.v (.int .i64 ((300+1:Nat):Int))] [] (DF s none):=by
 refine JT _ _ _ ?_
 simp only[GC,↓zq,zs,ac]
 exact⟨fun _=>⟨rfl,[],_,(bi).mpr trivial,rfl⟩,fun h=>by omega⟩
theorem p5(s:List UInt8)(hs:s.length<=8000)(d i:Nat)(hd:d<=300)(hi:i<=s.length)(f:List UInt8->Option (E×List UInt8))(hf:∀u e r,f u=some (e,r)->∃j,r=u.drop j/\0<j/\j<=u.length)
 (ih:∀j,j<=s.length->aq Tryz.prog 152 [.v (.string (mk s)),.v (.int .i64 (j:Int)),.v (.int .i64 ((d+1:Nat):Int))] [] (DF s (f (s.drop j)))) (x:Option (E×List UInt8))
 (h0:i=s.length->x=none)
 (h1:i<s.length->(s.drop i).takeWhile e9≠[]->x=some (.atom ((s.drop i).takeWhile e9),(s.drop i).dropWhile e9))
 (h2:i<s.length->(s.drop i).takeWhile e9=[]->¬(s.getD i 0).toNat=40->x=none)
 (h3:i<s.length->(s.getD i 0).toNat=40->x=sg f (s.length-(i+1)+1) (s.drop (i+1)) []) :
 aq Tryz.prog 152 [.v (.string (mk s)),.v (.int .i64 (i:Int)),.v (.int .i64 (d:Int))] [] (DF s x):=by
 refine JT _ _ _ ?_
 simp only[GC,↓zq,zs,ac,zt]
 refine⟨fun h=>by omega,fun _=>⟨fun h=>?_,fun h=>⟨by omega,?_⟩⟩⟩
 ·rw[h0 (by omega)]
  exact⟨rfl,[],_,(bi).mpr trivial,rfl⟩
 ·have hlt:i<s.length:=by omega
  rw[l4 s i hlt]
  refine⟨fun h40=>?_,fun h40=>?_⟩
  ·have h40':¬(s.getD i 0).toNat=40:=by omega
   refine cB (Iu s hs _ [] [] _ _ ((bi).mpr trivial) ((bi).mpr trivial) (s.length-i) i (by omega)) ?_
   have hex:(List.take (i+((s.drop i).takeWhile e9).length) s).drop i=(s.drop i).takeWhile e9:=by
    rw[List.drop_take,Nat.add_sub_cancel_left];exact tX _
   have hle:i+((s.drop i).takeWhile e9).length<=s.length:=by
    have:=tU (s.drop i);simp only[cq]at this;omega
   simp only[jc,↓zq,zs,ac,zt,hex]
   refine⟨by omega,fun hnil=>?_,fun hnil=>?_⟩
   ·rw[h2 hlt hnil h40',hnil]
    exact⟨rfl,[],_,(bi).mpr trivial,rfl⟩
   ·rw[h1 hlt hnil]
    refine⟨rfl,?_⟩
    have:=tU (s.drop i)
    simp only[cq]at this
    show _=AV.cD [E.kB (.atom _),_]
    have e:s.length-((s.drop i).dropWhile e9).length=i+((s.drop i).takeWhile e9).length:=by omega
    rw[e];rfl
  ·have h40':(s.getD i 0).toNat=40:=by omega
   rw[h3 hlt h40']
   refine kG (Mu s hs d hd f hf ih (s.length-(i+1)+1) i [] [] _ ((bi).mpr trivial) (by omega) hlt (by simp;omega)) ?_ ?_
   ·rintro ys o ⟨h,_⟩;cases h
   ·rintro ys o ⟨_,hr⟩
    cases hq:sg f (s.length-(i+1)+1) (s.drop (i+1)) []with
    |
     none =>
     rw[hq]at hr
     obtain⟨es,rfl,rfl⟩:=hr
     simp only[jc,↓zq,zs,ac]
     exact⟨rfl,[],_,(cg _).mpr trivial,rfl⟩
    |
     some q =>
     obtain⟨e,u⟩:=q
     rw[hq]at hr
     obtain⟨l,rfl,rfl,rfl⟩:=hr
     simp only[jc,↓zq,zs,ac]
     exact⟨rfl,rfl⟩
theorem Rr(s:List UInt8)(hs:s.length<=8000):∀(k:Nat),k<=300->∀i,i<=s.length->aq Tryz.prog 152 [.v (.string (mk s)),.v (.int .i64 (i:Int)),.v (.int .i64 ((300-k:Nat):Int))] [] (DF s (rd k (s.drop i))):=by
 intro k
 have hnil:∀k,rd k []=none:=fun k=>by cases k<;>simp[rd]
 have ha40:∀b:UInt8,b.toNat=40->e9 b=false:=fun b hb=>by simp[e9,hb]
 induction k with
 |
  zero =>
  intro hk i hi
  refine p5 s hs 300 i (by omega) hi (fun _=>none) (fun _ _ _ h=>by cases h) (fun j _=>O3 s j) _ (fun h=>?_) (fun hlt h=>?_) (fun hlt h h40=>?_) (fun hlt h40=>?_)
  ·rw[bS (by omega)];exact hnil 0
  ·simp only[rd,if_neg h]
  ·simp only[rd,if_pos h]
  ·rw[Bi]
   have:(s.drop i).takeWhile e9=[]:=qQ hlt (ha40 _ h40)
   simp only[rd,if_pos this]
 |
  succ k ih =>
  intro hk i hi
  have hd:300-(k+1)+1=300-k:=by omega
  refine p5 s hs (300-(k+1)) i (by omega) hi (rd k) (Dw k) (fun j hj=>by rw[hd];exact ih (by omega) j hj) _ (fun h=>?_) (fun hlt h=>?_) (fun hlt h h40=>?_) (fun hlt h40=>?_)
  ·rw[bS (by omega)];exact hnil _
  ·simp only[rd,if_neg h]
  ·rw[drop_cons hlt]at h |-
   simp only[rd,if_pos h,if_neg h40]
  ·have h:=qQ hlt (ha40 _ h40)
   rw[drop_cons hlt]at h |-
   simp only[rd,if_pos h,if_pos h40,cq]
end Go.Proofs.Trees
namespace Go.Proofs.Trees
open Go Go.VL
theorem iT(e:E):AV.agg [.v (.string ((e.ik.getD 0 .any).ag)),e.ik.getD 1 .any]=e.kB:=by cases e<;>rfl
theorem gh(e:E):e.ik.length=2:=by cases e<;>rfl
theorem iM(e:E):bH [.str,.sl] e.ik 0=True:=by
 apply eq_true
 cases e<;>simp[E.ik,bH,dW,bi,cg]
theorem mD(e:E):e.ik.headD .any=.v (.string (mk e.at)):=by cases e<;>rfl
theorem uL(x:E)(l:List E):aq Tryz.prog 121 [.agg [.v (.string (mk [])),.sl (E.bu (x::l))]] [] (bK (.v (.string (mk x.at)))):=by
 refine H2 _ _ ((cg _).mpr trivial) ?_
 simp only[Dh,E.bu,↓zq,zs,ac,zt,bK,gh,mD,au]
 refine⟨fun h=>absurd rfl h,fun _=>⟨fun h=>by omega,fun _=>⟨by omega,by omega⟩⟩⟩
theorem Rz:aq Tryz.prog 121 [.agg [.v (.string (mk [])),.sl (E.bu [])]] [] (bK (.v (.string (mk [])))):=by
 refine H2 _ _ ((cg _).mpr trivial) ?_
 simp only[Dh,E.bu,↓zq,zs,ac,zt,bK,gh,mD,au]
 simp
def j2:E->Bool
 | .atom s=>(s==[48])||(s==[49])||hD s||dh s
 | .list [x,a,b]=>if x.at=[43]then j2 a&&j2 b else if x.at=[42]then j2 a&&j2 b else if x.at=[114,101,99]then dh a.at&&j2 b else false
 | .list _=>false
theorem zu:∀(e:E),e.ok->aq Tryz.prog 165 [e.kB] [] (bK (.v (.bool (j2 e))))
 |
  .atom s,hok=>by
  refine IW _ _ ((bi).mpr trivial) ?_
  have hne:s≠[]:=hok
  simp only[wH,↓zq,zs,ac,zt,bK,j2]
  refine⟨fun _=>⟨fun h=>?_,fun h=>⟨fun h1=>?_,fun h1=>?_⟩⟩,fun h=>absurd h hne⟩
  ·simp[h]
  ·simp[h1]
  ·refine ai (Fk s) ?_
   simp only[↓zq,zs,ac]
   refine⟨fun hp=>?_,fun hp=>?_⟩
   ·simp[hp]
   ·refine ai (G7 s) ?_
    simp[↓zq,zs,ac,hp,h,h1]
 |
  .list l,hok=>by
  refine IW _ _ ((cg _).mpr trivial) ?_
  match l,hok with
  |[],hok=>simp[wH,E.bu,↓zq,zs,ac,zt,bK,j2]
  |[x],hok=>simp[wH,E.bu,↓zq,zs,ac,zt,bK,j2]
  |[x,y],hok=>simp[wH,E.bu,↓zq,zs,ac,zt,bK,j2]
  |
   x::y::z::w::l,hok =>
   simp only[wH,E.bu,↓zq,zs,ac,zt,bK,j2]
   exact⟨fun h=>absurd rfl h,fun _=>⟨fun _=>trivial,fun h=>by omega⟩⟩
  |
   [x,y,z],hok =>
   obtain⟨ok1,ok2,ok3,_⟩:=hok
   simp only[wH,↓zq,zs,ac,zt,bK]
   refine⟨fun h=>absurd rfl h,fun _=>⟨fun h=>absurd rfl h,fun _=>?_⟩⟩
   refine ai (uL x _) ?_
   simp only[E.bu,toNat_one,bf,↓zq,zs,ac,zt,iT,gh,iM,mD,au,j2]
   refine⟨fun h=>?_,fun h=>⟨fun h1=>?_,fun h1=>⟨fun h2=>?_,fun h2=>?_⟩⟩⟩
   ·rw[if_pos h]
    refine⟨by omega,ai (zu y ok2) ?_⟩
    simp only[↓zq,zs,ac]
    refine⟨fun hy=>⟨by omega,ai (zu z ok3) ?_⟩,fun hy=>?_⟩
    ·simp only[↓zq,zs,ac,hy,bV]
    ·rw[hy];rfl
   ·rw[if_neg h,if_pos h1]
    refine⟨by omega,ai (zu y ok2) ?_⟩
    simp only[↓zq,zs,ac]
    refine⟨fun hy=>⟨by omega,ai (zu z ok3) ?_⟩,fun hy=>?_⟩
    ·simp only[↓zq,zs,ac,hy,bV]
    ·rw[hy];rfl
   ·rw[if_neg h,if_neg h1,if_pos h2]
    refine⟨by omega,by omega,ai (G7 _) ?_⟩
    simp only[↓zq,zs,ac]
    refine⟨fun hy=>⟨by omega,ai (zu z ok3) ?_⟩,fun hy=>?_⟩
    ·simp only[↓zq,zs,ac,hy,bV]
    ·rw[hy];rfl
   ·rw[if_neg h,if_neg h1,if_neg h2]
theorem iW:∀(e:E) (ar:List (List UInt8)),(cS e ar).isSome=j2 e
 |
  .atom s,ar=>by
  simp only[cS,j2]
  by_cases h:s=[48]
  ·simp[h]
  ·by_cases h1:s=[49]
   ·simp[h1]
   ·rw[if_neg h,if_neg h1]
    by_cases h2:hD s=true
    ·simp[h2]
    ·rw[if_neg h2]
     by_cases h3:dh s=true
     ·rw[if_pos h3];cases bN s ar ar.length<;>simp[h3]
     ·rw[if_neg h3];simp[h,h1,h2,h3]
 | .list [],_=>rfl
 | .list [_],_=>rfl
 | .list [_,_],_=>rfl
 | .list (_::_::_::_::_),_=>rfl
 |
  .list [x,a,b],ar=>by
  have ha:=iW a ar
  have hb:=iW b ar
  have hb2:=iW b (ar++[a.at])
  rw[j2]
  by_cases h:x.at=[43]
  ·rw[k9 ar h,if_pos h,<-ha,<-hb];cases cS a ar<;>cases cS b ar<;>rfl
  ·by_cases h1:x.at=[42]
   ·rw[j0 ar h1,if_neg h,if_pos h1,<-ha,<-hb];cases cS a ar<;>cases cS b ar<;>rfl
   ·by_cases h2:x.at=[114,101,99]
    ·rw[mw ar h2,if_neg h,if_neg h1,if_pos h2,<-hb2]
     cases dh a.at<;>cases cS b (ar++[a.at])<;>rfl
    ·rw[jh ar h h1 h2,if_neg h,if_neg h1,if_neg h2];rfl
mutual
def E.db:E->Nat
 | .atom _=>1
 | .list l=>E.eU l
def E.eU:List E->Nat
 |[]=>0
 |e::l=>e.db+E.eU l
end
mutual
theorem i6:∀e:E,e.db<=e.sz
 | .atom s=>by simp[E.db,E.sz]
 | .list l=>by have:=uD l;simp only[E.db,E.sz];omega
theorem uD:∀l:List E,E.eU l<=E.jr l
 |[]=>by simp[E.eU,E.jr]
 |e::l=>by have:=i6 e;have:=uD l;simp only[E.eU,E.jr];omega
end
theorem jF:∀(l:List E) (i:Nat) (h:i<l.length),(E.bu l).getD i []=(l[i]).ik
 |e::l,0,_=>rfl
 |
  e::l,i+1,h=>by
  have:=jF l i (by simpa using h)
  simp only[E.bu,List.getD_cons_succ,List.getElem_cons_succ];exact this
theorem zc:∀(l:List E) (i:Nat) (h:i<l.length),E.eU (l.drop i)=(l[i]).db+E.eU (l.drop (i+1)):=by
 intro l i h
 rw[aW h];rfl
theorem tP:∀(l:List E) (i:Nat) (h:i<l.length),E.DJ l->(l[i]).ok
 |e::l,0,_,h=>h.1
 |e::l,i+1,hi,h=>tP l i (by simpa using hi) h.2
theorem Jz(l:List E)(hl:E.eU l<1000000)(hll:l.length<1000000)(ih:∀i (h:i<l.length),aq Tryz.prog 140 [(l[i]).kB] [] (bK (.v (.int .i64 ((l[i]).db:Int))))) :
 ∀(k i n:Nat),i+k=l.length->n+E.eU (l.drop i)<=E.eU l->F6 [.v (.int .i64 (n:Int)),.v (.int .i64 (i:Int))] [.cells [.v (.string (mk [])),.sl (E.bu l)]] (iF 1 [.v (.int .i64 ((n+E.eU (l.drop i):Nat):Int))] [])
 |
  0,i,n,hi,hn=>by
  refine I5 _ _ _ _ ?_
  simp only[Ff,↓zq,zs,ac,dY]
  have:l.drop i=[]:=bS (by omega)
  refine⟨fun h=>by omega,fun _=>?_⟩
  simp[iF,this,E.eU]
 |
  k+1,i,n,hi,hn=>by
  have hlt:i<l.length:=by omega
  refine I5 _ _ _ _ ?_
  simp only[Ff,↓zq,zs,ac,zt,dY,jF l i hlt,gh,iM,iT,au]
  refine⟨fun _=>⟨by omega,?_⟩,fun h=>by omega⟩
  refine ai (ih i hlt) ?_
  have h1:=zc l i hlt
  simp only[↓zq,zs,ac]
  rw[bA i (by omega),wrap64 _ (by omega) (by omega)]
  have:=Jz l hl hll ih k (i+1) (n+(l[i]).db) (by omega) (by omega)
  rw[h1,<-Nat.add_assoc]
  simpa using this
theorem um:∀l:List E,l.length<=E.jr l
 |[]=>by simp[E.jr]
 |
  e::l=>by
  have:=um l
  have:1<=e.sz:=by cases e<;>simp[E.sz]
  simp only[E.jr,az];omega
theorem uw:∀(l:List E) (i:Nat) (h:i<l.length),(l[i]).sz<=E.jr l
 |e::l,0,_=>by simp[E.jr]
 |e::l,i+1,h=>by have:=uw l i (by simpa using h);simp only[E.jr,List.getElem_cons_succ];omega
theorem Kg:∀(n:Nat) (e:E),e.sz<n->e.ok->e.sz<1000000->aq Tryz.prog 140 [e.kB] [] (bK (.v (.int .i64 (e.db:Int))))
 |0,e,hn,_,_=>by omega
 |
  n+1,.atom s,hn,hok,hl=>by
  refine IY _ _ ((bi).mpr trivial) ?_
  have hne:s≠[]:=hok
  simp only[GH,↓zq,zs,ac,zt,bK]
  exact⟨fun _=>rfl,fun h=>absurd h hne⟩
 |
  n+1,.list l,hn,hok,hl=>by
  refine IY _ _ ((cg _).mpr trivial) ?_
  simp only[E.sz]at hn hl
  have h1:=uD l
  have h2:=um l
  simp only[GH,↓zq,zs,ac,zt,bK]
  refine⟨fun h=>absurd rfl h,fun _=>?_⟩
  refine cB (Jz l (by omega) (by omega) (fun i hi=>?_) l.length 0 0 (by omega) (by simp)) ?_
  ·have:=uw l i hi
   exact Kg n (l[i]) (by omega) (tP l i hi hok) (by omega)
  ·simp[↓zq,zs,ac,E.db]
theorem DC(e:E)(h:e.ok)(hl:e.sz<1000000):aq Tryz.prog 140 [e.kB] [] (bK (.v (.int .i64 (e.db:Int)))):=Kg (e.sz+1) e (by omega) h hl
theorem tH{x:E}(h:x.at≠[]):x.db=1:=by cases x<;>simp[E.at,E.db]at h |-
theorem AC{s:List UInt8}(h:dh s=true):s≠[]:=by rintro rfl;cases h
theorem jQ:∀(e:E) (ar:List (List UInt8)) (t:Ty),cS e ar=some t->e.db=t.aE
 |
  .atom s,ar,t,h=>by
  simp only[cS]at h
  simp only[E.db]
  split at h
  ·cases h;rfl
  ·split at h
   ·cases h;rfl
   ·split at h
    ·cases h;rfl
    ·split at h
     ·split at h<;>cases h<;>rfl
     ·cases h
 | .list [],_,_,h=>by cases h
 | .list [_],_,_,h=>by cases h
 | .list [_,_],_,_,h=>by cases h
 | .list (_::_::_::_::_),_,_,h=>by cases h
 |
  .list [x,a,b],ar,t,h=>by
  simp only[E.db,E.eU]
  by_cases h0:x.at=[43]
  ·rw[k9 ar h0]at h
   have:=tH (x:=x) (by rw[h0];simp)
   split at h
   ·rename_i t1 t2 e1 e2
    cases h
    have:=jQ a ar _ e1
    have:=jQ b ar _ e2
    simp only[Ty.aE];omega
   ·cases h
  ·by_cases h1:x.at=[42]
   ·rw[j0 ar h1]at h
    have:=tH (x:=x) (by rw[h1];simp)
    split at h
    ·rename_i t1 t2 e1 e2
     cases h
     have:=jQ a ar _ e1
     have:=jQ b ar _ e2
     simp only[Ty.aE];omega
    ·cases h
   ·by_cases h2:x.at=[114,101,99]
    ·rw[mw ar h2]at h
     have:=tH (x:=x) (by rw[h2];simp)
     split at h
     ·rename_i hl
      have:=tH (AC hl)
      split at h
      ·rename_i t1 e1
       cases h
       have:=jQ b _ _ e1
       simp only[Ty.aE];omega
      ·cases h
     ·cases h
    ·rw[jh ar h0 h1 h2]at h;cases h
def jG(x:Option E)(b:Bool):AV->List Ob->Prop:=fun r o=>∃c:List UInt8,∃d:AV,LK.sl.has d/\r=.cD [.agg [.v (.string (mk c)),d],.v (.bool b)]/\(b=true->∃e,x=some e/\AV.agg [.v (.string (mk c)),d]=e.kB)
theorem Cg(e:E):∃c:List UInt8,∃d:AV,LK.sl.has d/\e.kB=AV.agg [.v (.string (mk c)),d]:=by
 cases e with
 |atom s=>exact⟨s,_,(bi).mpr trivial,rfl⟩
 |list l=>exact⟨[],_,(cg _).mpr trivial,rfl⟩
theorem jG.ne(x:Option E)(b:Bool)(h:b=true->x.isSome=true):∃r o,jG x b r o:=by
 cases b with
 |false=>exact⟨_,[],[],.v (.slice none 0 0),(bi).mpr trivial,rfl,fun h=>by cases h⟩
 |
  true =>
  cases x with
  |none=>cases h rfl
  |
   some e =>
   obtain⟨c,d,hd,he⟩:=Cg e
   exact⟨_,[],c,d,hd,rfl,fun _=>⟨e,rfl,he.symm⟩⟩
theorem MS(s:List UInt8):aq Tryz.prog 122 [.v (.string (mk s))] [] (jG (qM s) (qM s).isSome):=by
 refine Q1 _ ?_
 simp only[Lc,↓zq,zs,ac,zt,qM]
 refine⟨fun h=>?_,fun h=>?_⟩
 ·rw[if_pos (by omega)]
  exact⟨[],_,(bi).mpr trivial,rfl,fun h=>by cases h⟩
 ·rw[if_neg (by omega)]
  refine aQ (Rr s (by omega) 300 (by omega) 0 (by omega)) (DF.ne _ _) ?_
  rintro r o ⟨rfl,hr⟩
  rw[bh]at hr
  cases hq:rd 300 s with
  |
   none =>
   rw[hq]at hr
   obtain⟨c,d,hd,rfl⟩:=hr
   simp only[↓zq,zs,ac,zt,bH]
   refine⟨hd,c,d,hd,?_,fun h=>by cases h⟩
   have:((-1:Int)==(s.length:Int))=false:=by
    rw[beq_eq_false_iff_ne];omega
   rw[this];rfl
  |
   some q =>
   obtain⟨e,u⟩:=q
   rw[hq]at hr
   subst hr
   have hlt:=yg _ _ _ _ hq
   obtain⟨c,d,hd,he⟩:=Cg e
   simp only[he,↓zq,zs,ac,zt,bH]
   cases u with
   |
    nil =>
    refine⟨hd,c,d,hd,?_,fun _=>⟨e,rfl,he.symm⟩⟩
    simp
   |
    cons b u =>
    simp only[az]at hlt |-
    refine⟨hd,c,d,hd,?_,fun h=>by cases h⟩
    have:(((s.length-(u.length+1):Nat):Int)==(s.length:Int))=false:=by simp;omega
    rw[this];rfl
def wj(s:List UInt8):Option E:=match qM s with
 |none=>none
 |some e=>if j2 e=true/\e.db<=400 then some e else none
theorem Gy(s:List UInt8):aq Tryz.prog 132 [.v (.string (mk s))] [] (jG (wj s) (wj s).isSome):=by
 refine OH _ ?_
 unfold J5
 refine aQ (MS s) (jG.ne _ _ (fun h=>h)) ?_
 rintro r o ⟨c,d,hd,rfl,hh⟩
 simp only[↓zq,zs,ac,zt,bH,wj]
 refine⟨hd,fun h=>?_,fun h=>?_⟩
 ·obtain⟨e,he,hce⟩:=hh h
  obtain⟨hok,hsz⟩:=nW he
  rw[he,hce]
  refine ai (zu e hok) ?_
  simp only[↓zq,zs,ac]
  refine⟨fun hi=>?_,fun hi=>?_⟩
  ·refine ai (DC e hok (by omega)) ?_
   simp only[↓zq,zs,ac,hi]
   refine⟨c,d,hd,?_,?_⟩
   ·rw[hce]
    by_cases h4:e.db<=400
    ·rw[if_pos h4];exact congrArg (fun b=>AV.cD [e.kB,.v (.bool b)]) (decide_eq_true (show ((e.db:Nat):Int)<=400 by omega))
    ·rw[if_neg h4];exact congrArg (fun b=>AV.cD [e.kB,.v (.bool b)]) (decide_eq_false (show ¬((e.db:Nat):Int)<=400 by omega))
   ·split
    ·exact fun _=>⟨e,rfl,hce⟩
    ·exact fun h=>by cases h
  ·refine⟨c,d,hd,?_,?_⟩
   ·rw[hce,if_neg (by rw[hi];simp)];rfl
   ·rw[if_neg (by rw[hi];simp)];exact fun h=>by cases h
 ·have hn:qM s=none:=by cases hq:qM s<;>simp[hq]at h |-
  rw[hn]
  exact⟨c,d,hd,rfl,fun h=>by cases h⟩
theorem pA{s:List UInt8}{e:E}(h:wj s=some e):qM s=some e/\j2 e=true/\e.db<=400:=by
 unfold wj at h
 split at h
 ·cases h
 ·split at h
  ·rename_i e' h1 h2;cases h;exact⟨h1,h2⟩
  ·cases h
end Go.Proofs.Trees
namespace Go.Proofs.Trees
open Go Go.VL
def bY:Ty->Bool
 | .name s=>dh s
 | .plus a b=>bY a||bY b
 | .times a b=>bY a||bY b
 | .rc a=>bY a
 |_=>false
theorem gN:∀(t:Ty) (out:List (List UInt8)),(bM t out).any dh=(out.any dh||bY t)
 |
  .name s,out=>by
  simp only[bM,pS,bY]
  split
  ·rename_i h
   cases hs:dh s with
   |false=>simp
   |true=>rw[Bool.or_true,cm];exact⟨s,h,hs⟩
  ·simp
 | .plus a b,out=>by simp only[bM,bY,gN a,gN b,Bool.or_assoc]
 | .times a b,out=>by simp only[bM,bY,gN a,gN b,Bool.or_assoc]
 | .rc a,out=>by simp only[bM,bY,gN a]
 | .zero,out=>by simp[bM,bY]
 | .one,out=>by simp[bM,bY]
 | .bQ u,out=>by simp[bM,bY]
theorem sO(t:Ty):t.closed = !bY t:=by simp[Ty.closed,gN]
def pl:Ty->Bool
 | .name s=>decide (s.length<=1)
 | .plus a b=>pl a&&pl b
 | .times a b=>pl a&&pl b
 | .rc a=>false
 |_=>true
theorem lQ{lo hi:Nat}{s:List UInt8}(h:named lo hi s=true):∃c r,s=c::r/\lo<=c.toNat/\c.toNat<=hi:=by
 cases s with
 |nil=>cases h
 |cons c r=>simp only[named,aw,decide_eq_true_eq]at h;exact⟨c,r,rfl,by omega,by omega⟩
theorem fH{x a b:E}{ar:List (List UInt8)}{t:Ty}(hx:x.at=[43])(h:cS (.list [x,a,b]) ar=some t):∃t1 t2,cS a ar=some t1/\cS b ar=some t2/\t=.plus t1 t2:=by
 rw[k9 ar hx]at h
 split at h
 ·rename_i t1 t2 e1 e2;cases h;exact⟨t1,t2,e1,e2,rfl⟩
 ·cases h
theorem fj{x a b:E}{ar:List (List UInt8)}{t:Ty}(hx:x.at=[42])(h:cS (.list [x,a,b]) ar=some t):∃t1 t2,cS a ar=some t1/\cS b ar=some t2/\t=.times t1 t2:=by
 rw[j0 ar hx]at h
 split at h
 ·rename_i t1 t2 e1 e2;cases h;exact⟨t1,t2,e1,e2,rfl⟩
 ·cases h
theorem dz{x a b:E}{ar:List (List UInt8)}{t:Ty}(hx:x.at=[114,101,99])(h:cS (.list [x,a,b]) ar=some t):∃t1,dh a.at=true/\cS b (ar++[a.at])=some t1/\t=.rc t1:=by
 rw[mw ar hx]at h
 split at h
 ·rename_i hl
  split at h
  ·rename_i t1 e1;cases h;exact⟨t1,hl,e1,rfl⟩
  ·cases h
 ·cases h
theorem ur{s:List UInt8}:qK s=match wj s with|none=>none|some e=>cS e []:=by
 unfold qK wj
 cases he:qM s with
 |none=>rfl
 |
  some e =>
  have hs:=iW e []
  simp only
  cases ht:cS e []with
  |
   none =>
   rw[ht]at hs
   rw[if_neg (by rw[<-hs];simp)]
  |
   some t =>
   rw[ht]at hs
   have ha:=jQ e [] t ht
   by_cases h4:e.db<=400
   ·rw[if_pos ⟨hs.symm,h4⟩];dsimp only;rw[if_neg (by omega)];exact ht.symm
   ·rw[if_neg (fun h=>h4 h.2)];dsimp only;rw[if_pos (by omega)]
end Go.Proofs.Trees
namespace Go.Proofs.Trees
open Go Go.VL
def pure:Ty->Bool
 | .zero=>true
 | .one=>true
 | .name s=>(s==[120])||(s==[121])||(s==[122])
 | .plus a b=>pure a&&pure b
 | .times a b=>pure a&&pure b
 |_=>false
def Ls(v:Nat):Option Nat:=if v<=1000000000 then some v else none
def Ic(n:Nat):Ty->Option Nat
 | .zero=>some 0
 | .one=>some 1
 | .name _=>some n
 | .plus a b=>match Ic n a,Ic n b with|some x,some y=>Ls (x+y)|_,_=>none
 | .times a b=>match Ic n a,Ic n b with|some x,some y=>Ls (x*y)|_,_=>none
 |_=>none
def IQ(x:Option Nat):AV->List Ob->Prop:=fun r o=>∃v:Int,r=.cD [.v (.int .i64 v),.v (.bool x.isSome)]/\∀c,x=some c->v=(c:Int)
theorem IQ.ne(x:Option Nat):∃r o,IQ x r o:=by
 cases x with
 |none=>exact⟨_,[],0,rfl,fun c h=>by cases h⟩
 |some c=>exact⟨_,[],(c:Int),rfl,fun c' h=>by cases h;rfl⟩
end Go.Proofs.Trees
namespace Go.Proofs.Trees
open Go Go.VL Go.RowKit
abbrev dd(n:Nat):List UInt8:=Lib.decDigits n
theorem eF{k:Nat}(h:k<10):dd k=[bj (48+k)]:=by rw[dd,Lib.decDigits,dif_pos h]
theorem fP{k:Nat}(h:¬k<10):dd k=dd (k/10)++[bj (48+k%10)]:=by rw[dd,Lib.decDigits,dif_neg h]
theorem mI:∀(n k:Nat),k<n->(dd k).length<=k+1
 |0,k,h=>by omega
 |
  n+1,k,h=>by
  by_cases h1:k<10
  ·rw[eF h1];simp
  ·rw[fP h1]
   have:=mI n (k/10) (by omega)
   simp only[an,az,aH];omega
theorem xB(d:Nat)(h:d<10):(Value.int .u8 (IntKind.wrap .u8 (IntKind.wrap .i64 (48+(d:Int)))))=.int .u8 ((bj (48+d)).toNat:Int):=by
 have:d=0\/d=1\/d=2\/d=3\/d=4\/d=5\/d=6\/d=7\/d=8\/d=9:=by omega
 rcases this with rfl|rfl|rfl|rfl|rfl|rfl|rfl|rfl|rfl|rfl<;>rfl
theorem pX(b:UInt8):bytesOf [[.v (.int .u8 (b.toNat:Int))]]=[b]:=by simp[bytesOf,yy]
theorem kV(b:UInt8):jw [[.v (.int .u8 (b.toNat:Int))]]:=⟨rfl,(lW _ _).mpr trivial,trivial⟩
theorem y0:∀(n k:Nat),k<n->k<1000000000->aq Tryz.prog 142 [.v (.int .i64 (k:Int))] [] (bK (.v (.string (mk (dd k)))))
 |0,k,h,_=>by omega
 |
  n+1,k,h,hk=>by
  refine Q5 _ ?_
  simp only[I6,↓zq,zs,ac,bK]
  refine⟨fun h=>by omega,fun _=>⟨fun h=>by omega,fun _=>⟨fun h1=>?_,fun h1=>⟨by omega,?_⟩⟩⟩⟩
  ·rw[xB k (by omega)]
   refine⟨kV _,?_⟩
   rw[pX,eF (by omega)];rfl
  ·have e1:IntKind.wrap .i64 (Int.tdiv (k:Int) 10)=((k/10:Nat):Int):=by
    rw[show Int.tdiv (k:Int) 10=((k/10:Nat):Int) from (Int.ofNat_tdiv k 10).symm,wrap64 _ (by omega) (by omega)]
   have e2:dG (k:Int) 10=((k%10:Nat):Int):=(Int.ofNat_tmod k 10).symm
   rw[e1,e2,xB (k%10) (by omega)]
   refine ai (y0 n (k/10) (by omega) (by omega)) ?_
   have hl:=mI (k+1) (k/10) (by omega)
   simp only[↓zq,zs,ac,zt,pX]
   have h9:(k:Int)<1000000000:=by omega
   refine⟨by omega,kV _,?_,?_⟩
   ·show (mk (dd (k/10))).size+(mk [bj (48+k%10)]).size<=_
    rw[cK,cK];simp;omega
   ·show AV.v (.string (mk (dd (k/10))++mk [bj (48+k%10)]))=_
    rw[kI,fP (k:=k) (by omega)]
theorem Ae(s:List UInt8)(d:AV)(hd:LK.sl.has d)(h:s≠[]):aq Tryz.prog 121 [.agg [.v (.string (mk s)),d]] [] (bK (.v (.string (mk [])))):=by
 refine H2 _ _ hd ?_
 simp only[Dh,↓zq,zs,ac,zt,bK]
 exact⟨fun _=>trivial,fun h'=>absurd h' h⟩
theorem Da(e:E):AV.agg [.v (.string ((e.kB.cs.getD 0 .any).ag)),e.kB.cs.getD 1 .any]=e.kB:=by cases e<;>rfl
mutual
def eY:E->List UInt8
 | .atom s=>s
 | .list []=>[40,41]
 | .list (e::l)=>40::(eY e++(ei l++[41]))
def ei:List E->List UInt8
 |[]=>[]
 |e::l=>32::(eY e++ei l)
end
theorem z8:∀(l:List E) (i:Nat) (h:i<l.length),ei (l.drop i)=32::(eY l[i]++ei (l.drop (i+1))):=by
 intro l i h
 rw[aW h,ei]
theorem MN(l:List E)(hll:l.length<1000000000000)(ih:∀i (h:i<l.length),aq Tryz.prog 97 [(l[i]).kB] [] (bK (.v (.string (mk (eY l[i])))))) :
 ∀(k i:Nat) (out:List UInt8),i+k=l.length->1<=i->out.length+(ei (l.drop i)).length<=1000000000000->Cj [.v (.string (mk out)),.v (.int .i64 (i:Int))] [.cells [.v (.string (mk [])),.sl (E.bu l)]] (iF 1 [.v (.string (mk (out++ei (l.drop i))))] [])
 |
  0,i,out,hi,h1,hn=>by
  refine DV _ _ _ _ ?_
  simp only[Bf,↓zq,zs,ac,dY]
  have:l.drop i=[]:=bS (by omega)
  refine⟨fun h=>by omega,fun _=>?_⟩
  simp[iF,this,ei]
 |
  k+1,i,out,hi,h1,hn=>by
  have hlt:i<l.length:=by omega
  have hd:=z8 l i hlt
  rw[hd]at hn
  simp only[az,an]at hn
  refine DV _ _ _ _ ?_
  simp only[Bf,↓zq,zs,ac,zt,dY,jF l i hlt,gh,iM,iT,au]
  refine⟨fun _=>⟨fun _=>⟨by omega,by omega,?_⟩,fun h=>by omega⟩,fun h=>by omega⟩
  refine ai (ih i hlt) ?_
  simp only[↓zq,zs,ac,zt]
  refine⟨by simp;omega,?_⟩
  rw[bA i (by omega),hd]
  have:=MN l hll ih k (i+1) (out++[32]++eY l[i]) (by omega) (by omega) (by simp;omega)
  simpa using this
theorem yd:∀(l:List E) (i:Nat) (h:i<l.length),(eY l[i]).length<=(ei l).length
 |e::l,0,_=>by simp only[ei,List.getElem_cons_zero,az,an];omega
 |e::l,i+1,h=>by have:=yd l i (by simpa using h);simp only[ei,List.getElem_cons_succ,az,an];omega
theorem rz:∀l:List E,l.length<=(ei l).length
 |[]=>by simp[ei]
 |e::l=>by have:=rz l;simp only[ei,az,an];omega
theorem Dq:∀(n:Nat) (e:E),e.sz<n->e.ok->(eY e).length<=900000000000->aq Tryz.prog 97 [e.kB] [] (bK (.v (.string (mk (eY e)))))
 |0,e,hn,_,_=>by omega
 |
  n+1,.atom s,hn,hok,hl=>by
  refine GV _ _ ((bi).mpr trivial) ?_
  have hne:s≠[]:=hok
  simp only[DU,↓zq,zs,ac,zt,bK]
  exact⟨fun _=>rfl,fun h=>absurd h hne⟩
 |
  n+1,.list [],hn,hok,hl=>by
  refine GV _ _ ((cg _).mpr trivial) ?_
  simp only[DU,↓zq,zs,ac,zt,bK]
  refine⟨fun h=>absurd rfl h,fun _=>?_⟩
  have h1:Cj [.v (.string (mk [40])),.v (.int .i64 0)] [.cells [.v (.string (mk [])),.sl (E.bu [])]] (iF 1 [.v (.string (mk [40]))] []):=by
   refine DV _ _ _ _ ?_
   simp[Bf,↓zq,zs,ac,E.bu,iF]
  refine cB h1 ?_
  simp only[↓zq,zs,ac,zt]
  exact⟨by simp,rfl⟩
 |
  n+1,.list (x::l),hn,hok,hl=>by
  refine GV _ _ ((cg _).mpr trivial) ?_
  simp only[E.sz,E.jr]at hn
  simp only[eY,az,an,aH]at hl
  have h2:=rz l
  simp only[DU,↓zq,zs,ac,zt,bK]
  refine⟨fun h=>absurd rfl h,fun _=>?_⟩
  have hL:Cj [.v (.string (mk [40])),.v (.int .i64 0)] [.cells [.v (.string (mk [])),.sl (E.bu (x::l))]] (iF 1 [.v (.string (mk ([40]++eY x++ei l)))] []):=by
   refine DV _ _ _ _ ?_
   simp only[Bf,E.bu,Int.toNat_zero,↓zq,zs,ac,zt,dY,gh,iM,iT,au]
   refine⟨fun _=>⟨fun h=>by omega,fun _=>⟨by omega,?_⟩⟩,fun h=>by omega⟩
   refine ai (Dq n x (by omega) hok.1 (by omega)) ?_
   simp only[↓zq,zs,ac,zt]
   refine⟨by simp;omega,?_⟩
   have:=MN (x::l) (by simp;omega) (fun i hi=>by
    have h3:=uw (x::l) i hi
    simp only[E.jr]at h3
    refine Dq n _ (by omega) (tP _ i hi hok) ?_
    have h4:=yd (x::l) i hi
    simp only[ei,az,an]at h4
    omega) l.length 1 ([40]++eY x) (by simp;omega) (by omega) (by simp;omega)
   rw[show IntKind.wrap .i64 (0+1)=1 from rfl]
   simpa[E.bu]using this
  refine cB hL ?_
  simp only[↓zq,zs,ac,zt]
  refine⟨by simp;omega,?_⟩
  simp[eY]
theorem CS(e:E)(h:e.ok)(hl:(eY e).length<=900000):aq Tryz.prog 97 [e.kB] [] (bK (.v (.string (mk (eY e))))):=Dq (e.sz+1) e (by omega) h (by omega)
mutual
def E.nd:E->Nat
 | .atom _=>1
 | .list []=>1
 | .list (_::l)=>1+E.uK l
def E.uK:List E->Nat
 |[]=>0
 |e::l=>e.nd+E.uK l
end
mutual
theorem BB:∀e:E,e.nd<=e.sz
 | .atom s=>by simp[E.nd,E.sz]
 | .list []=>by simp[E.nd,E.sz,E.jr]
 | .list (x::l)=>by have:=wK l;simp only[E.nd,E.sz,E.jr];omega
theorem wK:∀l:List E,E.uK l<=E.jr l
 |[]=>by simp[E.uK,E.jr]
 |e::l=>by have:=BB e;have:=wK l;simp only[E.uK,E.jr];omega
end
theorem Bn:∀(l:List E) (i:Nat) (h:i<l.length),E.uK (l.drop i)=(l[i]).nd+E.uK (l.drop (i+1)):=by
 intro l i h
 rw[aW h];rfl
theorem Jn(l:List E)(hl:E.uK l<1000000)(hll:l.length<1000000)(ih:∀i (h:i<l.length),aq Tryz.prog 124 [(l[i]).kB] [] (bK (.v (.int .i64 ((l[i]).nd:Int))))) :
 ∀(k i n:Nat),i+k=l.length->n+E.uK (l.drop i)<=1+E.uK l->AJ [.v (.int .i64 (n:Int)),.v (.int .i64 (i:Int))] [.cells [.v (.string (mk [])),.sl (E.bu l)]] (iF 1 [.v (.int .i64 ((n+E.uK (l.drop i):Nat):Int))] [])
 |
  0,i,n,hi,hn=>by
  refine DS _ _ _ _ ?_
  simp only[Bd,↓zq,zs,ac,dY]
  have:l.drop i=[]:=bS (by omega)
  refine⟨fun h=>by omega,fun _=>?_⟩
  simp[iF,this,E.uK]
 |
  k+1,i,n,hi,hn=>by
  have hlt:i<l.length:=by omega
  refine DS _ _ _ _ ?_
  simp only[Bd,↓zq,zs,ac,zt,dY,jF l i hlt,gh,iM,iT,au]
  refine⟨fun _=>⟨by omega,?_⟩,fun h=>by omega⟩
  refine ai (ih i hlt) ?_
  have h1:=Bn l i hlt
  simp only[↓zq,zs,ac]
  rw[bA i (by omega),wrap64 _ (by omega) (by omega)]
  have:=Jn l hl hll ih k (i+1) (n+(l[i]).nd) (by omega) (by omega)
  rw[h1,<-Nat.add_assoc]
  simpa using this
theorem MG:∀(n:Nat) (e:E),e.sz<n->e.sz<900000->aq Tryz.prog 124 [e.kB] [] (bK (.v (.int .i64 (e.nd:Int))))
 |0,e,hn,_=>by omega
 |
  n+1,.atom s,hn,hl=>by
  refine Me _ _ ((bi).mpr trivial) ?_
  simp only[Fc]
  have hL:AJ [.v (.int .i64 1),.v (.int .i64 1)] [.cells [.v (.string (mk s)),.v (.slice none 0 0)]] (iF 1 [.v (.int .i64 1)] []):=by
   refine DS _ _ _ _ ?_
   simp[Bd,↓zq,zs,ac,iF]
  refine cB hL ?_
  simp[↓zq,zs,ac,bK,E.nd]
 |
  n+1,.list l,hn,hl=>by
  refine Me _ _ ((cg _).mpr trivial) ?_
  simp only[E.sz]at hn hl
  simp only[Fc]
  match l,hn,hl with
  |
   [],hn,hl =>
   have hL:AJ [.v (.int .i64 1),.v (.int .i64 1)] [.cells [.v (.string (mk [])),.sl (E.bu [])]] (iF 1 [.v (.int .i64 1)] []):=by
    refine DS _ _ _ _ ?_
    simp[Bd,↓zq,zs,ac,iF,E.bu]
   refine cB hL ?_
   simp[↓zq,zs,ac,bK,E.nd]
  |
   x::l,hn,hl =>
   simp only[E.jr]at hn hl
   have h1:=wK l
   have h2:=um l
   have h0:=BB x
   refine cB (Jn (x::l) (by simp only[E.uK];omega) (by simp;omega) (fun i hi=>?_) l.length 1 1 (by simp;omega) (by simp[E.uK])) ?_
   ·have:=uw (x::l) i hi
    simp only[E.jr]at this
    exact MG n _ (by omega) (by omega)
   ·simp[↓zq,zs,ac,E.nd,bK]
theorem QR(e:E)(hl:e.sz<900000):aq Tryz.prog 124 [e.kB] [] (bK (.v (.int .i64 (e.nd:Int)))):=MG (e.sz+1) e (by omega) hl
inductive Vl where
 |u
 |el (k:Nat)
 |l (v:Vl)
 |r (v:Vl)
 |f (v:Vl)
 |p (a b:Vl)
abbrev wI(k:Nat):List UInt8:=101::dd k
abbrev io:AV:=.v (.pointer none)
def Vl.cu:Vl->AV
 | .u=>.ptr [.v (.int .u8 117),.v (.string (mk [])),io,io]
 | .el k=>.ptr [.v (.int .u8 101),.v (.string (mk (wI k))),io,io]
 | .l v=>.ptr [.v (.int .u8 108),.v (.string (mk [])),v.cu,io]
 | .r v=>.ptr [.v (.int .u8 114),.v (.string (mk [])),v.cu,io]
 | .f v=>.ptr [.v (.int .u8 102),.v (.string (mk [])),v.cu,io]
 | .p a b=>.ptr [.v (.int .u8 112),.v (.string (mk [])),a.cu,b.cu]
def Vl.cG:Vl->E
 | .u=>.atom [117]
 | .el k=>.atom (wI k)
 | .l v=>.list [.atom [108],v.cG]
 | .r v=>.list [.atom [114],v.cG]
 | .f v=>.list [.atom [102],v.cG]
 | .p a b=>.list [.atom [112],a.cG,b.cG]
def Vl.nodes:Vl->Nat
 | .l v=>1+v.nodes
 | .r v=>1+v.nodes
 | .f v=>1+v.nodes
 | .p a b=>1+a.nodes+b.nodes
 |_=>1
def Vl.ic(n:Nat):Vl->Prop
 | .el k=>k<n
 | .l v=>v.ic n
 | .r v=>v.ic n
 | .f v=>v.ic n
 | .p a b=>a.ic n/\b.ic n
 | .u=>True
abbrev Vl.cM(v:Vl):List UInt8:=eY v.cG
theorem aO(v:Vl):LK.has .ptr v.cu=True:=by cases v<;>simp[Vl.cu,cd]
theorem fy(v:Vl):v.cu.isNil=false:=by cases v<;>rfl
theorem mE:∀v:Vl,v.cG.ok
 | .u=>by simp[Vl.cG,E.ok]
 | .el k=>by simp[Vl.cG,E.ok]
 | .l v=>⟨by simp[E.ok],mE v,trivial⟩
 | .r v=>⟨by simp[E.ok],mE v,trivial⟩
 | .f v=>⟨by simp[E.ok],mE v,trivial⟩
 | .p a b=>⟨by simp[E.ok],mE a,mE b,trivial⟩
theorem nJ:∀v:Vl,v.cG.nd=v.nodes
 | .u=>rfl
 | .el k=>rfl
 | .l v=>by simp[Vl.cG,E.nd,E.uK,Vl.nodes,nJ v]
 | .r v=>by simp[Vl.cG,E.nd,E.uK,Vl.nodes,nJ v]
 | .f v=>by simp[Vl.cG,E.nd,E.uK,Vl.nodes,nJ v]
 | .p a b=>by simp[Vl.cG,E.nd,E.uK,Vl.nodes,nJ a,nJ b,Nat.add_assoc]
theorem ja:∀v:Vl,v.ic 100->v.cM.length<=200*v.nodes
 | .u,_=>by simp[Vl.cM,Vl.cG,eY,Vl.nodes]
 |
  .el k,h=>by
  have h':k<100:=h
  have:=mI 1000 k (by omega)
  simp only[Vl.cM,Vl.cG,eY,Vl.nodes,az];omega
 | .l v,h=>by have:=ja v h;simp only[Vl.cM,Vl.cG,eY,ei,Vl.nodes,az,an,aH]at this |-;omega
 | .r v,h=>by have:=ja v h;simp only[Vl.cM,Vl.cG,eY,ei,Vl.nodes,az,an,aH]at this |-;omega
 | .f v,h=>by have:=ja v h;simp only[Vl.cM,Vl.cG,eY,ei,Vl.nodes,az,an,aH]at this |-;omega
 | .p a b,h=>by have:=ja a h.1;have:=ja b h.2;simp only[Vl.cM,Vl.cG,eY,ei,Vl.nodes,az,an,aH]at *;omega
theorem zy(a b:AV)(h:LK.ptr.has a)(h':LK.ptr.has b):aq Tryz.prog 117 [a,b] [] (bK (.ptr [.v (.int .u8 112),.v (.string (mk [])),a,b])):=by
 refine Qz _ _ h h' ?_
 simp[IS,↓zq,zs,ac,bK]
theorem dm(v:Vl):1<=v.nodes:=by cases v<;>simp[Vl.nodes]<;>omega
theorem Eu:∀(v:Vl),v.nodes<1000000->aq Tryz.prog 75 [v.cu] [] (bK (.v (.int .i64 (v.nodes:Int))))
 | .u,h=>by refine zo _ ((aO _).mpr trivial) ?_;simp[xm,Vl.cu,↓zq,zs,ac,bK,Vl.nodes]
 | .el k,h=>by refine zo _ ((aO _).mpr trivial) ?_;simp[xm,Vl.cu,↓zq,zs,ac,bK,Vl.nodes]
 |
  .l v,h=>by
  simp only[Vl.nodes]at h
  refine zo _ ((aO _).mpr trivial) ?_
  simp only[xm,Vl.cu,↓zq,zs,ac,aO,fy]
  refine⟨by omega,fun _=>⟨by omega,?_⟩,fun h=>(by cases h)⟩
  refine ai (Eu v (by omega)) ?_
  simp only[↓zq,zs,ac,bK,Vl.nodes]
  rw[wrap64 _ (by omega) (by omega)]
  simp
 |
  .r v,h=>by
  simp only[Vl.nodes]at h
  refine zo _ ((aO _).mpr trivial) ?_
  simp only[xm,Vl.cu,↓zq,zs,ac,aO,fy]
  refine⟨by omega,fun _=>⟨by omega,?_⟩,fun h=>(by cases h)⟩
  refine ai (Eu v (by omega)) ?_
  simp only[↓zq,zs,ac,bK,Vl.nodes]
  rw[wrap64 _ (by omega) (by omega)]
  simp
 |
  .f v,h=>by
  simp only[Vl.nodes]at h
  refine zo _ ((aO _).mpr trivial) ?_
  simp only[xm,Vl.cu,↓zq,zs,ac,aO,fy]
  refine⟨by omega,fun _=>⟨by omega,?_⟩,fun h=>(by cases h)⟩
  refine ai (Eu v (by omega)) ?_
  simp only[↓zq,zs,ac,bK,Vl.nodes]
  rw[wrap64 _ (by omega) (by omega)]
  simp
 |
  .p a b,h=>by
  simp only[Vl.nodes]at h
  refine zo _ ((aO _).mpr trivial) ?_
  simp only[xm,Vl.cu,↓zq,zs,ac,aO,fy]
  refine⟨by omega,fun _=>⟨by omega,?_⟩,fun h=>(by cases h)⟩
  refine ai (Eu a (by omega)) ?_
  simp only[↓zq,zs,ac,aO,fy]
  rw[wrap64 (1+(a.nodes:Int)) (by omega) (by omega)]
  refine⟨by omega,fun _=>⟨by omega,?_⟩,fun h=>(by cases h)⟩
  refine ai (Eu b (by omega)) ?_
  simp only[↓zq,zs,ac,bK,Vl.nodes]
  rw[wrap64 _ (by omega) (by omega)]
  congr 2
end Go.Proofs.Trees
namespace Go.Proofs.Trees
open Go Go.VL Go.RowKit
def zW:List UInt8->Nat->Option Nat
 |[],n=>some n
 |b::r,n=>if ib b=true then zW r (10*n+(b.toNat-48))else none
def fN(s:List UInt8):Option Nat :=
 if s.length=2\/s.length=3 then(if s.getD 0 0=101/\¬(s.length=3/\s.getD 1 0=48)then zW (s.drop 1) 0 else none)else none
def AZ(s:List UInt8):Int:=match fN s with|some k=>(k:Int)|none=>-1
theorem KV(s:List UInt8)(hs:s.length<=3):∀(k i n:Nat),i+k=s.length->1<=i->(n+1)*10 ^ k<=1000->H5 [.v (.string (mk s)),.v (.int .i64 (n:Int)),.v (.int .i64 (i:Int))] []
 (pN (match zW (s.drop i) n with|some m=>(1,[.v (.int .i64 (m:Int))],[])|none=>(2,[.v (.int .i64 (-1))],[])))
 |
  0,i,n,hi,h1,hn=>by
  refine MP _ _ _ ?_
  have hd:s.drop i=[]:=bS (by omega)
  simp only[Fj,↓zq,zs,ac,zt,hd,zW]
  exact⟨fun h=>by omega,fun _=>by first|trivial|rfl⟩
 |
  k+1,i,n,hi,h1,hn=>by
  have hlt:i<s.length:=by omega
  refine MP _ _ _ ?_
  rw[drop_cons hlt,zW]
  simp only[Fj,↓zq,zs,ac,zt,l4 s i hlt]
  generalize s.getD i 0=b
  have hb:=b.toNat_lt
  refine⟨fun _=>⟨by omega,fun h48=>?_,fun h48=>⟨by omega,fun h57=>?_,fun h57=>⟨by omega,?_⟩⟩⟩,fun h=>by omega⟩
  ·have:ib b=false:=by simp only[ib,decide_eq_false_iff_not];omega
   rw[this];rfl
  ·have:ib b=false:=by simp only[ib,decide_eq_false_iff_not];omega
   rw[this];rfl
  ·have:ib b=true:=by simp only[ib,decide_eq_true_eq];omega
   rw[if_pos this]
   have hk:k=0\/k=1:=by omega
   have hn2:n*10<=1000:=by
    rcases hk with rfl|rfl<;>simp at hn<;>omega
   have e8:IntKind.wrap .u8 ((b.toNat:Int)-48)=((b.toNat-48:Nat):Int):=by
    have:b.toNat=48\/b.toNat=49\/b.toNat=50\/b.toNat=51\/b.toNat=52\/b.toNat=53\/b.toNat=54\/b.toNat=55\/b.toNat=56\/b.toNat=57:=by omega
    rcases this with h|h|h|h|h|h|h|h|h|h<;>rw[h]<;>rfl
   rw[e8,bA i (by omega),wrap64 ((b.toNat-48:Nat):Int) (by omega) (by omega),wrap64 (10*(n:Int)) (by omega) (by omega),wrap64 _ (by omega) (by omega)]
   have e:(10*(n:Int)+((b.toNat-48:Nat):Int))=((10*n+(b.toNat-48):Nat):Int):=by omega
   rw[e]
   exact KV s hs k (i+1) _ (by omega) (by omega) (by rcases hk with rfl|rfl<;>simp at hn |-<;>omega)
theorem Ns(s:List UInt8):aq Tryz.prog 153 [.v (.string (mk s))] [] (bK (.v (.int .i64 (AZ s)))):=by
 refine PS _ ?_
 unfold M8
 refine ai (A4 _ _ _) ?_
 simp only[↓zq,zs,ac,zt,Cs,bK]
 have hL:∀(Q:Nat->List AV->List Ob->Prop),(s.length=2\/s.length=3)->s.getD 0 0=101->¬(s.length=3/\s.getD 1 0=48)->(Q 0 [.v (.int .i64 (AZ s))] []) ->
  eT Tryz.prog 49 (.loop D6 B4 [.v (.string (mk s)),.v (.int .i64 0),.v (.int .i64 1)] [] (fun y2 q2=>.aj (LK.has (.int .i64) (y2.headD .any))<|.done 0 [.v (.int .i64 ((y2.headD .any).toInt))] []) (fun y2 q2=>.aj (LK.has (.int .i64) (y2.headD .any))<|.done 0 [.v (.int .i64 ((y2.headD .any).toInt))] [])) Q:=by
  intro Q hl h0 h1 hQ
  have e:fN s=zW (s.drop 1) 0:=by rw[fN,if_pos hl,if_pos ⟨h0,h1⟩]
  refine fX (KV s (by omega) (s.length-1) 1 0 (by omega) (by omega) (by rcases hl with h|h<;>rw[h]<;>decide)) (fun ys o e'=>?_) (fun ys o e'=>?_)
  ·cases hq:zW (s.drop 1) 0<;>rw[hq]at e'<;>cases e'
   rw[hq]at e
   simp only[AZ,e]at hQ
   simp only[↓zq,zs,ac];exact hQ
  ·cases hq:zW (s.drop 1) 0<;>rw[hq]at e'<;>cases e'
   rw[hq]at e
   simp only[AZ,e]at hQ
   simp only[↓zq,zs,ac];exact hQ
 have hz:∀{i:Nat},i<s.length->bt (mk s) (i:Int)=((s.getD i 0).toNat:Int):=fun h=>l4 s _ h
 refine⟨fun h=>?_,fun h=>⟨?_,fun h0=>?_,fun h0=>⟨fun h3=>⟨by omega,fun h1=>?_,fun h1=>?_⟩,fun h3=>?_⟩⟩⟩
 ·have h':¬(2<=(s.length:Int)/\(s.length:Int)<=3):=by simpa using h
  rw[AZ,fN,if_neg (by omega)]
 ·have h':2<=(s.length:Int)/\(s.length:Int)<=3:=by simpa using h
  omega
 ·have h':2<=(s.length:Int)/\(s.length:Int)<=3:=by simpa using h
  have e0:=hz (i:=0) (by omega)
  simp only[Int.ofNat_eq_natCast,Int.cast_ofNat_Int]at e0
  rw[e0]at h0
  rw[AZ,fN,if_pos (by omega),if_neg]
  rintro⟨e,_⟩
  rw[e]at h0;exact h0 rfl
 ·have h':2<=(s.length:Int)/\(s.length:Int)<=3:=by simpa using h
  have e1:=hz (i:=1) (by omega)
  simp only[Int.ofNat_eq_natCast,Int.cast_ofNat_Int]at e1
  rw[e1]at h1
  rw[AZ,fN,if_pos (by omega),if_neg]
  rintro⟨_,e⟩
  refine e ⟨by omega,?_⟩
  rw[<-UInt8.toNat_inj];show (s.getD 1 0).toNat=48;omega
 ·have h':2<=(s.length:Int)/\(s.length:Int)<=3:=by simpa using h
  have e0:=hz (i:=0) (by omega)
  have e1:=hz (i:=1) (by omega)
  simp only[Int.ofNat_eq_natCast,Int.cast_ofNat_Int]at e0 e1
  rw[e0]at h0;rw[e1]at h1
  refine hL _ (by omega) ?_ ?_ ⟨rfl,rfl⟩
  ·rw[<-UInt8.toNat_inj];show (s.getD 0 0).toNat=101;omega
  ·rintro⟨_,e⟩;rw[e]at h1;exact h1 rfl
 ·have h':2<=(s.length:Int)/\(s.length:Int)<=3:=by simpa using h
  have e0:=hz (i:=0) (by omega)
  simp only[Int.ofNat_eq_natCast,Int.cast_ofNat_Int]at e0
  rw[e0]at h0
  refine hL _ (by omega) ?_ ?_ ⟨rfl,rfl⟩
  ·rw[<-UInt8.toNat_inj];show (s.getD 0 0).toNat=101;omega
  ·rintro⟨e,_⟩;omega
theorem oO:∀(l:List UInt8) (n:Nat),(zW l n).isSome=l.all ib
 |[],n=>rfl
 |
  b::l,n=>by
  rw[zW]
  cases hb:ib b with
  |true=>rw[if_pos rfl,oO l];simp[hb]
  |false=>rw[if_neg (by simp)];simp[hb]
theorem Mc(s:List UInt8):aq Tryz.prog 161 [.v (.string (mk s))] [] (bK (.v (.bool (fN s).isSome))):=by
 refine Rx _ ?_
 simp only[Kz,↓zq,zs,ac,zt,bK]
 have hz:∀{i:Nat},i<s.length->bt (mk s) (i:Int)=((s.getD i 0).toNat:Int):=fun h=>l4 s _ h
 refine⟨fun h=>?_,fun h=>⟨fun h3=>?_,fun h3=>?_⟩⟩
 ·rw[fN,if_neg (by omega)];rfl
 ·rw[fN,if_neg (by omega)];rfl
 ·have e0:=hz (i:=0) (by omega)
  have e1:=hz (i:=1) (by omega)
  simp only[Int.ofNat_eq_natCast,Int.cast_ofNat_Int]at e0 e1
  rw[e0,e1]
  have hx:s.drop (bI 1)=s.drop 1:=rfl
  refine⟨by omega,fun h0=>?_,fun h0=>⟨by omega,?_⟩⟩
  ·rw[fN,if_pos (by omega),if_neg]
   ·rfl
   ·rintro⟨e,_⟩;rw[e]at h0;exact h0 rfl
  ·rw[hx]
   refine ai (Lf (s.drop 1) Fv (by simp;omega) (by decide) (by decide)) ?_
   simp only[↓zq,zs,ac,zt]
   have h101:s.getD 0 0=101:=by rw[<-UInt8.toNat_inj];show (s.getD 0 0).toNat=101;omega
   have hall:Lib.trimS (s.drop 1) Fv=[]↔(s.drop 1).all ib=true:=by
    rw[tt]
    have:(fun x=>Fv.contains x)=ib:=funext vZ
    rw[this]
   refine⟨fun ht=>?_,fun ht=>⟨fun h2=>?_,fun h2=>⟨by omega,?_⟩⟩⟩
   ·have:(s.drop 1).all ib=false:=by
     cases hq:(s.drop 1).all ib with
     |false=>rfl
     |true=>exact absurd (hall.2 hq) ht
    rw[fN,if_pos (by omega)]
    split
    ·rw[oO,this]
    ·rfl
   ·have hq:=hall.1 ht
    rw[fN,if_pos (by omega),if_pos ⟨h101,by omega⟩,oO,hq]
   ·have hq:=hall.1 ht
    rw[fN,if_pos (by omega)]
    by_cases h48:s.getD 1 0=48
    ·rw[if_neg (by rintro⟨_,e⟩;exact e ⟨by omega,h48⟩),h48];rfl
    ·rw[if_pos ⟨h101,fun e=>h48 e.2⟩,oO,hq]
     have:¬((s.getD 1 0).toNat:Int)=48:=fun e=>h48 (by rw[<-UInt8.toNat_inj];show (s.getD 1 0).toNat=48;omega)
     rw[bne_iff_ne.2 this]
theorem sU{s:List UInt8}{k:Nat}(h:fN s=some k):s=wI k/\k<100:=by
 have key1:∀a:Fin 256,ib (bj a.val)=true->zW [bj a.val] 0=some ((bj a.val).toNat-48)/\(bj a.val).toNat-48<10/\[bj a.val]=[bj (48+((bj a.val).toNat-48))]:=by decide +kernel
 unfold fN at h
 split at h
 ·rename_i hl
  split at h
  ·rename_i hh
   obtain⟨h0,h1⟩:=hh
   rcases hl with hl|hl
   ·match s,hl with
    |
     [c,a],_ =>
     simp only[bx]at h0
     subst h0
     simp only[List.drop_succ_cons,bh,zW]at h
     split at h
     ·rename_i ha
      have:=key1 ⟨a.toNat,a.toNat_lt⟩ (by simpa using ha)
      simp only[UInt8.ofNat_toNat]at this
      cases h
      refine⟨?_,by omega⟩
      rw[wI,eF (by omega)]
      simp only[Nat.mul_zero,aZ]
      rw[<-this.2.2]
     ·cases h
   ·match s,hl with
    |
     [c,a,b],_ =>
     simp only[bx,List.getD_cons_succ,az,aH,true_and]at h0 h1
     subst h0
     simp only[List.drop_succ_cons,bh,zW]at h
     split at h
     ·rename_i ha
      split at h
      ·rename_i hb
       have k1:=key1 ⟨a.toNat,a.toNat_lt⟩ (by simpa using ha)
       have k2:=key1 ⟨b.toNat,b.toNat_lt⟩ (by simpa using hb)
       simp only[UInt8.ofNat_toNat]at k1 k2
       have ha':48<=a.toNat/\a.toNat<=57:=by simpa[ib]using ha
       have hb':48<=b.toNat/\b.toNat<=57:=by simpa[ib]using hb
       have h48:a.toNat≠48:=fun e=>h1 (by rw[<-UInt8.toNat_inj];simpa using e)
       cases h
       simp only[Nat.mul_zero,aZ]
       refine⟨?_,by omega⟩
       rw[wI,fP (by omega),eF (by omega)]
       have e1:(10*(a.toNat-48)+(b.toNat-48))/10=a.toNat-48:=by omega
       have e2:(10*(a.toNat-48)+(b.toNat-48))%10=b.toNat-48:=by omega
       rw[e1,e2,<-k1.2.2,<-k2.2.2];rfl
      ·cases h
     ·cases h
  ·cases h
 ·cases h
theorem vY(k:Nat)(h:k<100):fN (wI k)=some k:=by
 have e:∀k,k<100->dd k=if k<10 then [bj (48+k)]else [bj (48+k/10),bj (48+k%10)]:=by
  intro k hk
  by_cases h1:k<10
  ·rw[eF h1,if_pos h1]
  ·rw[fP h1,eF (by omega),if_neg h1];rfl
 have key:∀k:Fin 100,fN (101::(if k.val<10 then [bj (48+k.val)]else [bj (48+k.val/10),bj (48+k.val%10)]))=some k.val:=by decide +kernel
 rw[wI,e k h];exact key ⟨k,h⟩
theorem HV(k:Nat)(h:k<100):AZ (wI k)=(k:Int):=by rw[AZ,vY k h]
def xO:E->Bool
 | .atom s=>(s==[117])||(fN s).isSome
 | .list [x,a]=>((x.at==[108])||(x.at==[114])||(x.at==[102]))&&xO a
 | .list [x,a,b]=>(x.at==[112])&&(xO a&&xO b)
 | .list _=>false
def fL:E->Option Vl
 | .atom s=>if s=[117]then some .u else match fN s with|some k=>some (.el k)|none=>none
 |
  .list [x,a]=>match fL a with
  |none=>none
  |some v=>if x.at=[108]then some (.l v)else if x.at=[114]then some (.r v)else if x.at=[102]then some (.f v)else none
 | .list [x,a,b]=>if x.at=[112]then(match fL a,fL b with|some v,some w=>some (.p v w)|_,_=>none)else none
 | .list _=>none
theorem oP:∀e:E,(fL e).isSome=xO e
 |
  .atom s=>by
  simp only[fL,xO]
  by_cases h:s=[117]
  ·simp[h]
  ·rw[if_neg h];cases fN s<;>simp[h]
 | .list []=>rfl
 | .list [_]=>rfl
 |
  .list [x,a]=>by
  have ha:=oP a
  rw[fL,xO,<-ha]
  cases fL a with
  |none=>simp
  |
   some v =>
   by_cases h1:x.at=[108]
   ·simp[h1]
   ·by_cases h2:x.at=[114]
    ·simp[h2]
    ·by_cases h3:x.at=[102]
     ·simp[h3]
     ·simp[h1,h2,h3]
 |
  .list [x,a,b]=>by
  have ha:=oP a
  have hb:=oP b
  rw[fL,xO,<-ha,<-hb]
  by_cases h1:x.at=[112]
  ·rw[if_pos h1,h1];cases fL a<;>cases fL b<;>rfl
  ·simp[h1]
 | .list (_::_::_::_::_)=>rfl
theorem ka{x:E}{w:List UInt8}(h:x.at=w)(hw:w≠[]):x=.atom w:=by
 cases x with
 |atom s=>exact congrArg E.atom h
 |list l=>exact absurd h.symm hw
theorem kP:∀(e:E) (v:Vl),fL e=some v->v.cG=e/\v.ic 100
 |
  .atom s,v,h=>by
  simp only[fL]at h
  split at h
  ·rename_i h1;cases h;exact⟨by rw[h1];rfl,trivial⟩
  ·split at h
   ·rename_i k hk
    cases h
    obtain⟨h1,h2⟩:=sU hk
    exact⟨by rw[h1];rfl,h2⟩
   ·cases h
 | .list [],_,h=>by cases h
 | .list [_],_,h=>by cases h
 | .list (_::_::_::_::_),_,h=>by cases h
 |
  .list [x,a],v,h=>by
  rw[fL]at h
  split at h
  ·cases h
  ·rename_i w hw
   obtain⟨h1,h2⟩:=kP a w hw
   split at h
   ·rename_i hx;cases h;rw[ka hx (by simp)];exact⟨by rw[Vl.cG,h1],h2⟩
   ·split at h
    ·rename_i hx;cases h;rw[ka hx (by simp)];exact⟨by rw[Vl.cG,h1],h2⟩
    ·split at h
     ·rename_i hx;cases h;rw[ka hx (by simp)];exact⟨by rw[Vl.cG,h1],h2⟩
     ·cases h
 |
  .list [x,a,b],v,h=>by
  rw[fL]at h
  split at h
  ·rename_i hx
   split at h
   ·rename_i w1 w2 hw1 hw2
    cases h
    obtain⟨h1,h2⟩:=kP a w1 hw1
    obtain⟨h3,h4⟩:=kP b w2 hw2
    rw[ka hx (by simp)]
    exact⟨by rw[Vl.cG,h1,h3],h2,h4⟩
   ·cases h
  ·cases h
def p8(e:E)(w:List UInt8)(k:Nat):Bool:=match e with| .list (x::l)=>decide (l.length+1=k)&&(x.at==w)|_=>false
theorem sR(e:E)(w:List UInt8)(k:Nat)(hk:1<=k):aq Tryz.prog 162 [e.cu,.v (.string (mk w)),.v (.int .i64 (k:Int))] [] (bK (.v (.bool (p8 e w k)))):=by
 refine Jr _ _ _ ((cU e).mpr trivial) ?_
 cases e with
 |atom s=>simp only[AT,E.cu,↓zq,zs,ac,zt,bK,p8];exact⟨by omega,fun h=>by omega,fun _=>trivial⟩
 |
  list l =>
  simp only[AT,E.cu,↓zq,zs,ac,zt,bK,rT]
  cases l with
  |nil=>exact⟨by simp,fun h=>by simp at h;omega,fun _=>rfl⟩
  |
   cons x l =>
   simp only[az]
   refine⟨by simp,fun h=>?_,fun h=>?_⟩
   ·have:decide (l.length+1=k)=true:=by rw[decide_eq_true_eq];omega
    simp only[p8,this]
    cases x<;>simp[E.mg,E.cu,cd,pQ,jJ,dW,uc,toList_mk,E.at]
   ·have:decide (l.length+1=k)=false:=by rw[decide_eq_false_iff_not];omega
    simp only[p8,this];rfl
def jl:Option Vl->AV
 |some v=>v.cu
 |none=>.v (.pointer none)
end Go.Proofs.Trees
namespace Go.Proofs.Trees
open Go Go.VL Go.RowKit
theorem gr(v:Option Vl):LK.has .ptr (jl v)=True:=by cases v<;>simp[jl,aO,iC]
theorem Ab:∀(e:E),e.ok->aq Tryz.prog 129 [e.cu] [] (bK (jl (fL e)))
 |
  .atom s,hok=>by
  refine Nd _ ((cU _).mpr trivial) ?_
  have hd:=nH (.atom s)
  have hlen:=lX (.atom s)
  simp only[E.at]at hd
  simp only[F2,↓zq,zs,ac,zt,bK,cU,ek,hd,fL]
  refine⟨hlen,fun h=>?_,fun h=>⟨hlen,?_⟩⟩
  ·rw[if_pos h];rfl
  ·rw[if_neg h]
   refine ai (Mc s) ?_
   simp only[↓zq,zs,ac,zt]
   refine⟨fun he=>⟨hlen,?_⟩,fun he=>?_⟩
   ·obtain⟨k,hk⟩:=bR.1 he
    obtain⟨h1,h2⟩:=sU hk
    rw[hk,h1];rfl
   ·have hn:fN s=none:=by cases hq:fN s<;>simp[hq]at he |-
    rw[hn]
    refine ai (sR (.atom s) [108] 2 (by omega)) ?_
    simp only[p8,↓zq,zs,ac,zf]
    refine⟨fun h=>(by cases h),fun _=>ai (sR (.atom s) [114] 2 (by omega)) ?_⟩
    simp only[p8,↓zq,zs,ac,zf]
    refine⟨fun h=>(by cases h),fun _=>ai (sR (.atom s) [102] 2 (by omega)) ?_⟩
    simp only[p8,↓zq,zs,ac,zf]
    refine⟨fun h=>(by cases h),fun _=>ai (sR (.atom s) [112] 3 (by omega)) ?_⟩
    simp only[p8,↓zq,zs,ac,zf]
    exact⟨fun h=>(by cases h),fun _=>rfl⟩
 |
  .list l,hok=>by
  refine Nd _ ((cU _).mpr trivial) ?_
  have hd:=nH (.list l)
  have hlen:=lX (.list l)
  have hlen2:∀{l:List E},((AV.v (.string (mk [])))::[AV.sl (E.mg l)]).length=2:=rfl
  simp only[E.at]at hd
  have he:fN []=none:=rfl
  simp only[F2,↓zq,zs,ac,zt,bK,cU,ek,hd]
  refine⟨hlen,fun h=>(by cases h),fun h=>⟨hlen,?_⟩⟩
  refine ai (Mc []) ?_
  rw[he]
  simp only[↓zq,zs,ac,zt,zf,bq]
  refine⟨fun h=>(by cases h),fun _=>ai (sR (.list l) [108] 2 (by omega)) ?_⟩
  have hno:∀w:List UInt8,(∀x a,l≠[x,a])->p8 (.list l) w 2=false:=by
   intro w h2
   match l,h2 with
   |[],_=>rfl
   |[x],_=>rfl
   |[x,a],h2=>exact absurd rfl (h2 x a)
   |x::y::z::l,_=>simp[p8]
  match l,hok,hno,hlen with
  |
   [x,a],hok,hno,hlen =>
   clear hno
   obtain⟨ok1,ok2,_⟩:=hok
   have e2:∀w:List UInt8,p8 (.list [x,a]) w 2=(x.at==w):=fun w=>rfl
   have e3:p8 (.list [x,a]) [112] 3=false:=rfl
   have hx:=nH x
   have hxl:=lX x
   rw[fL]
   simp only[e2,↓zq,zs,ac]
   refine⟨fun h1=>?_,fun h1=>ai (sR (.list [x,a]) [114] 2 (by omega)) ?_⟩
   ·simp only[E.cu,E.mg,toNat_one,↓zq,zs,ac,zt,cU,ek]
    refine⟨by omega,by omega,by omega,ai (Ab a ok2) ?_⟩
    cases hv:fL a with
    |none=>simp only[jl,↓zq,zs,ac,gr];exact⟨fun _=>trivial,fun h=>(by cases h)⟩
    |
     some v =>
     simp only[jl,↓zq,zs,ac,zt,aO,fy,hx,h1,cU,ek]
     refine⟨fun h=>(by cases h),fun _=>⟨by omega,by omega,by omega,hxl,by simp,?_⟩⟩
     rfl
   ·simp only[e2,↓zq,zs,ac]
    refine⟨fun h2=>?_,fun h2=>ai (sR (.list [x,a]) [102] 2 (by omega)) ?_⟩
    ·simp only[E.cu,E.mg,toNat_one,↓zq,zs,ac,zt,cU,ek]
     refine⟨by omega,by omega,by omega,ai (Ab a ok2) ?_⟩
     cases hv:fL a with
     |none=>simp only[jl,↓zq,zs,ac,gr];exact⟨fun _=>trivial,fun h=>(by cases h)⟩
     |
      some v =>
      simp only[jl,↓zq,zs,ac,zt,aO,fy,hx,h2,cU,ek]
      refine⟨fun h=>(by cases h),fun _=>⟨by omega,by omega,by omega,hxl,by simp,?_⟩⟩
      rfl
    ·simp only[e2,↓zq,zs,ac]
     refine⟨fun h3=>?_,fun h3=>ai (sR (.list [x,a]) [112] 3 (by omega)) ?_⟩
     ·simp only[E.cu,E.mg,toNat_one,↓zq,zs,ac,zt,cU,ek]
      refine⟨by omega,by omega,by omega,ai (Ab a ok2) ?_⟩
      cases hv:fL a with
      |none=>simp only[jl,↓zq,zs,ac,gr];exact⟨fun _=>trivial,fun h=>(by cases h)⟩
      |
       some v =>
       simp only[jl,↓zq,zs,ac,zt,aO,fy,hx,h3,cU,ek]
       refine⟨fun h=>(by cases h),fun _=>⟨by omega,by omega,by omega,hxl,by simp,?_⟩⟩
       rfl
     ·rw[e3]
      simp only[↓zq,zs,ac]
      refine⟨fun h=>(by cases h),fun _=>?_⟩
      cases fL a with
      |none=>rfl
      |some v=>simp only[if_neg h1,if_neg h2,if_neg h3];rfl
  |
   [x,a,b],hok,hno,hlen =>
   obtain⟨ok1,ok2,ok3,_⟩:=hok
   have h2:=fun w=>hno w (fun x a h=>(by cases h))
   rw[h2]
   simp only[↓zq,zs,ac]
   refine⟨fun h=>(by cases h),fun _=>ai (sR (.list [x,a,b]) [114] 2 (by omega)) ?_⟩
   rw[h2]
   simp only[↓zq,zs,ac]
   refine⟨fun h=>(by cases h),fun _=>ai (sR (.list [x,a,b]) [102] 2 (by omega)) ?_⟩
   rw[h2]
   simp only[↓zq,zs,ac]
   refine⟨fun h=>(by cases h),fun _=>ai (sR (.list [x,a,b]) [112] 3 (by omega)) ?_⟩
   have e3:p8 (.list [x,a,b]) [112] 3=(x.at==[112]):=rfl
   rw[e3,fL]
   simp only[↓zq,zs,ac]
   refine⟨fun h1=>?_,fun h1=>?_⟩
   ·rw[if_pos h1]
    simp only[E.cu,E.mg,toNat_one,bf,↓zq,zs,ac,zt,cU,ek]
    refine⟨by omega,by omega,by omega,ai (Ab a ok2) ?_⟩
    simp only[↓zq,zs,ac,gr,cU]
    refine⟨by omega,by omega,by omega,ai (Ab b ok3) ?_⟩
    cases hv:fL a with
    |none=>cases hw:fL b<;>simp only[jl,↓zq,zs,ac,gr,aO]<;>exact⟨fun _=>trivial,fun h=>(by cases h)⟩
    |
     some v =>
     cases hw:fL b with
     |
      none =>
      simp only[jl,↓zq,zs,ac,gr,aO,fy]
      exact⟨fun h=>(by cases h),fun _=>⟨fun _=>trivial,fun h=>(by cases h)⟩⟩
     |
      some w =>
      simp only[jl,↓zq,zs,ac,aO,fy]
      refine⟨fun h=>(by cases h),fun _=>⟨fun h=>(by cases h),fun _=>?_⟩⟩
      refine ai (zy _ _ ((aO _).mpr trivial) ((aO _).mpr trivial)) ?_
      simp only[↓zq,zs,ac];rfl
   ·rw[if_neg h1];rfl
  |
   [],hok,hno,hlen =>
   have h2:=fun w=>hno w (fun x a h=>(by cases h))
   have e3:p8 (.list []) [112] 3=false:=rfl
   rw[h2]
   simp only[↓zq,zs,ac]
   refine⟨fun h=>(by cases h),fun _=>ai (sR (.list []) [114] 2 (by omega)) ?_⟩
   rw[h2]
   simp only[↓zq,zs,ac]
   refine⟨fun h=>(by cases h),fun _=>ai (sR (.list []) [102] 2 (by omega)) ?_⟩
   rw[h2]
   simp only[↓zq,zs,ac]
   refine⟨fun h=>(by cases h),fun _=>ai (sR (.list []) [112] 3 (by omega)) ?_⟩
   rw[e3]
   simp only[↓zq,zs,ac]
   exact⟨fun h=>(by cases h),fun _=>rfl⟩
  |
   [x],hok,hno,hlen =>
   have h2:=fun w=>hno w (fun x a h=>(by cases h))
   have e3:p8 (.list [x]) [112] 3=false:=rfl
   rw[h2]
   simp only[↓zq,zs,ac]
   refine⟨fun h=>(by cases h),fun _=>ai (sR (.list [x]) [114] 2 (by omega)) ?_⟩
   rw[h2]
   simp only[↓zq,zs,ac]
   refine⟨fun h=>(by cases h),fun _=>ai (sR (.list [x]) [102] 2 (by omega)) ?_⟩
   rw[h2]
   simp only[↓zq,zs,ac]
   refine⟨fun h=>(by cases h),fun _=>ai (sR (.list [x]) [112] 3 (by omega)) ?_⟩
   rw[e3]
   simp only[↓zq,zs,ac]
   exact⟨fun h=>(by cases h),fun _=>rfl⟩
  |
   x::y::z::w::l,hok,hno,hlen =>
   have h2:=fun w=>hno w (fun x a h=>(by cases h))
   have e3:p8 (.list (x::y::z::w::l)) [112] 3=false:=by simp[p8]
   rw[h2]
   simp only[↓zq,zs,ac]
   refine⟨fun h=>(by cases h),fun _=>ai (sR (.list (x::y::z::w::l)) [114] 2 (by omega)) ?_⟩
   rw[h2]
   simp only[↓zq,zs,ac]
   refine⟨fun h=>(by cases h),fun _=>ai (sR (.list (x::y::z::w::l)) [102] 2 (by omega)) ?_⟩
   rw[h2]
   simp only[↓zq,zs,ac]
   refine⟨fun h=>(by cases h),fun _=>ai (sR (.list (x::y::z::w::l)) [112] 3 (by omega)) ?_⟩
   rw[e3]
   simp only[↓zq,zs,ac]
   exact⟨fun h=>(by cases h),fun _=>rfl⟩
def se(s:List UInt8):Option Vl:=match qM s with
 |none=>none
 |
  some e=>match fL e with
  |none=>none
  |some v=>if v.nodes>200 then none else some v
theorem lq{s:List UInt8}{v:Vl}(h:se s=some v):qM s=some v.cG/\v.ic 100/\v.nodes<=200:=by
 unfold se at h
 split at h
 ·cases h
 ·rename_i e he
  split at h
  ·cases h
  ·rename_i w hw
   split at h
   ·cases h
   ·cases h
    obtain⟨h1,h2⟩:=kP e _ hw
    rw[h1]
    exact⟨he,h2,by omega⟩
theorem w4{e:E}{v:Vl}(h:fL e=some v):v.nodes<=e.sz:=by
 obtain⟨h1,_⟩:=kP e v h
 rw[<-nJ,h1];exact BB e
theorem OD(s:List UInt8):aq Tryz.prog 94 [.v (.string (mk s))] [] (bK (jl (se s))):=by
 refine OA _ ?_
 unfold LD
 refine ai (MY s) ?_
 unfold se
 cases he:qM s with
 |none=>simp only[ue,↓zq,zs,ac,bK,jl];simp
 |
  some e =>
  obtain⟨h1,h2⟩:=nW he
  simp only[ue,↓zq,zs,ac,cU,ek]
  refine⟨fun h=>(by cases h),fun _=>?_⟩
  refine ai (Ab e h1) ?_
  cases hv:fL e with
  |none=>simp only[jl,↓zq,zs,ac,bK];simp
  |
   some v =>
   have hn:=w4 hv
   simp only[jl,↓zq,zs,ac,aO,fy]
   refine⟨fun h=>(by cases h),fun _=>?_⟩
   refine ai (Eu v (by omega)) ?_
   simp only[↓zq,zs,ac,bK]
   refine⟨fun h=>?_,fun h=>?_⟩
   ·rw[if_pos (by omega)]
   ·rw[if_neg (by omega)]
theorem Ai:∀(e:E),e.ok->aq Tryz.prog 123 [e.kB] [] (bK (.v (.bool (xO e))))
 |
  .atom s,hok=>by
  refine Ac _ _ ((bi).mpr trivial) ?_
  have hne:s≠[]:=hok
  simp only[HT,↓zq,zs,ac,zt,bK,xO]
  refine⟨fun _=>⟨fun h=>?_,fun h=>?_⟩,fun h=>absurd h hne⟩
  ·simp[h]
  ·refine ai (Ns s) ?_
   have h':(s==[117])=false:=by simpa using h
   simp only[↓zq,zs,ac,h',Bool.false_or]
   congr 2
   rw[AZ]
   cases fN s with
   |none=>rfl
   |some k=>simp
 |
  .list [],hok=>by
  refine Ac _ _ ((cg _).mpr trivial) ?_
  simp only[HT,↓zq,zs,ac,zt,bK,xO]
  refine⟨fun h=>absurd rfl h,fun _=>?_⟩
  refine ai Rz ?_
  simp[↓zq,zs,ac,zt]
 |
  .list [x],hok=>by
  refine Ac _ _ ((cg _).mpr trivial) ?_
  simp only[HT,↓zq,zs,ac,zt,bK,xO]
  refine⟨fun h=>absurd rfl h,fun _=>?_⟩
  refine ai (uL x _) ?_
  simp[↓zq,zs,ac,zt,E.bu]
 |
  .list (x::y::z::w::l),hok=>by
  refine Ac _ _ ((cg _).mpr trivial) ?_
  simp only[HT,↓zq,zs,ac,zt,bK,xO]
  refine⟨fun h=>absurd rfl h,fun _=>?_⟩
  refine ai (uL x _) ?_
  simp only[↓zq,zs,ac,zt,E.bu]
  refine⟨fun _=>⟨fun h=>by omega,fun _=>trivial⟩,fun _=>⟨fun _=>⟨fun h=>by omega,fun _=>trivial⟩,fun _=>⟨fun _=>⟨fun h=>by omega,fun _=>trivial⟩,fun _=>⟨fun _=>⟨fun h=>by omega,fun _=>trivial⟩,fun _=>trivial⟩⟩⟩⟩
 |
  .list [x,a],hok=>by
  refine Ac _ _ ((cg _).mpr trivial) ?_
  obtain⟨ok1,ok2,_⟩:=hok
  simp only[HT,↓zq,zs,ac,zt,bK,xO]
  refine⟨fun h=>absurd rfl h,fun _=>?_⟩
  refine ai (uL x _) ?_
  simp only[E.bu,toNat_one,bf,↓zq,zs,ac,zt,iT,gh,iM,mD,au]
  refine⟨fun h=>⟨fun _=>⟨by omega,?_⟩,fun h=>by omega⟩,fun h1=>⟨fun h=>⟨fun _=>⟨by omega,?_⟩,fun h=>by omega⟩,fun h2=>⟨fun h=>⟨fun _=>⟨by omega,?_⟩,fun h=>by omega⟩,fun h3=>⟨fun h=>⟨fun h=>by omega,fun _=>?_⟩,fun h=>?_⟩⟩⟩⟩
  ·refine ai (Ai a ok2) ?_
   simp[↓zq,zs,ac,h]
  ·refine ai (Ai a ok2) ?_
   simp[↓zq,zs,ac,h]
  ·refine ai (Ai a ok2) ?_
   simp[↓zq,zs,ac,h]
  ·simp[h]
  ·simp[h1,h2,h3]
 |
  .list [x,a,b],hok=>by
  refine Ac _ _ ((cg _).mpr trivial) ?_
  obtain⟨ok1,ok2,ok3,_⟩:=hok
  simp only[HT,↓zq,zs,ac,zt,bK,xO]
  refine⟨fun h=>absurd rfl h,fun _=>?_⟩
  refine ai (uL x _) ?_
  simp only[E.bu,toNat_one,bf,↓zq,zs,ac,zt,iT,gh,iM,mD,au]
  refine⟨fun h=>⟨fun h=>by omega,fun _=>?_⟩,fun h1=>⟨fun h=>⟨fun h=>by omega,fun _=>?_⟩,fun h2=>⟨fun h=>⟨fun h=>by omega,fun _=>?_⟩,fun h3=>⟨fun h=>⟨fun _=>⟨by omega,?_⟩,fun h=>by omega⟩,fun h=>?_⟩⟩⟩⟩
  ·simp[h]
  ·simp[h]
  ·simp[h]
  ·refine ai (Ai a ok2) ?_
   simp only[↓zq,zs,ac,h]
   refine⟨fun ha=>⟨by omega,ai (Ai b ok3) ?_⟩,fun ha=>?_⟩
   ·simp[↓zq,zs,ac,ha]
   ·simp[ha]
  ·simp[h]
theorem D0(s:List UInt8):aq Tryz.prog 89 [.v (.string (mk s))] [] (jG ((se s).map Vl.cG) (se s).isSome):=by
 refine PO _ ?_
 unfold LQ
 refine aQ (MS s) (jG.ne _ _ (fun h=>h)) ?_
 rintro r o ⟨c,d,hd,rfl,hh⟩
 simp only[↓zq,zs,ac,zt,bH,se]
 refine⟨hd,fun h=>?_,fun h=>?_⟩
 ·obtain⟨e,he,hce⟩:=hh h
  obtain⟨hok,hsz⟩:=nW he
  rw[he,hce]
  refine ai (Ai e hok) ?_
  simp only[↓zq,zs,ac]
  have hs:=oP e
  refine⟨fun hi=>?_,fun hi=>?_⟩
  ·rw[hi]at hs
   obtain⟨v,hv⟩:=bR.1 hs
   obtain⟨h1,h2⟩:=kP e v hv
   refine ai (QR e (by omega)) ?_
   simp only[↓zq,zs,ac,hv]
   have hnd:e.nd=v.nodes:=by rw[<-h1,nJ]
   rw[hnd]
   refine⟨c,d,hd,?_,?_⟩
   ·rw[hce]
    by_cases h4:v.nodes>200
    ·rw[if_pos h4];exact congrArg (fun b=>AV.cD [e.kB,.v (.bool b)]) (decide_eq_false (show ¬((v.nodes:Nat):Int)<=200 by omega))
    ·rw[if_neg h4];exact congrArg (fun b=>AV.cD [e.kB,.v (.bool b)]) (decide_eq_true (show ((v.nodes:Nat):Int)<=200 by omega))
   ·split
    ·exact fun h=>by cases h
    ·exact fun _=>⟨e,by simp[h1],hce⟩
  ·rw[hi]at hs
   have hn:fL e=none:=by cases hq:fL e<;>simp[hq]at hs |-
   rw[hn]
   exact⟨c,d,hd,by rw[hce];rfl,fun h=>by cases h⟩
 ·have hn:qM s=none:=by cases hq:qM s<;>simp[hq]at h |-
  rw[hn]
  exact⟨c,d,hd,rfl,fun h=>by cases h⟩
end Go.Proofs.Trees
namespace Go.Proofs.Trees
open Go Go.VL Go.RowKit
inductive Fr where
 |mk (s:List UInt8) (e:E) (o:List Fr)
def Fr.nm:Fr->List UInt8| .mk s _ _=>s
def Fr.ex:Fr->E| .mk _ e _=>e
def Fr.out:Fr->List Fr| .mk _ _ o=>o
def names:List Fr->List (List UInt8)
 |[]=>[]
 |f::r=>names r++[f.nm]
def yz(e:E)(o:List Fr):Ty:=(cS e (names o)).getD .zero
def E.sp:E->AV
 | .atom _=>.v (.slice none 0 0)
 | .list l=>.sl (E.bu l)
theorem fI(e:E):e.ik=[.v (.string (mk e.at)),e.sp]:=by cases e<;>rfl
theorem di(e:E):e.kB=.agg [.v (.string (mk e.at)),e.sp]:=by cases e<;>rfl
theorem aX(e:E):LK.has .sl e.sp=True:=by cases e<;>simp[E.sp,bi,cg]
mutual
def Fr.cells:Fr->List AV
 | .mk s e o=>[.v (.string (mk s)),.v (.string (mk e.at)),e.sp,.sl (j6 o)]
def j6:List Fr->List (List AV)
 |[]=>[]
 |f::r=>j6 r++[f.cells]
end
mutual
def Fr.cu:Fr->AV
 | .mk s e o=>.ptr [(yz e o).av,oe o]
def oe:List Fr->AV
 |[]=>io
 |f::r=>.ptr [f.cu,oe r]
end
inductive WF:List Fr->Prop
 |nil:WF []
 |cons {s:List UInt8} {x a b:E} {t:Ty} {r:List Fr} (hs:dh s=true) (hok:(E.list [x,a,b]).ok) (hx:x.at=[114,101,99]) (ht:cS (.list [x,a,b]) (names r)=some t) (hf:bY t=false) (hr:WF r):WF (.mk s (.list [x,a,b]) r::r)
theorem kY:∀env:List Fr,(j6 env).length=env.length
 |[]=>rfl
 |f::r=>by simp[j6,kY r]
theorem er(env:List Fr):LK.has .ptr (oe env)=True:=by cases env<;>simp[oe,iC,cd]
theorem A9(f:Fr):LK.has .ptr f.cu=True:=by cases f;simp[Fr.cu,cd]
def fT(s:List UInt8):List Fr->Option Fr
 |[]=>none
 |f::r=>if f.nm=s then some f else fT s r
def hd(e:E)(env:List Fr):E×List Fr:=match fT e.at env with|some f=>(f.ex,f.out)|none=>(e,env)
theorem kJ{env:List Fr}(h:WF env):fT [] env=none:=by
 induction h with
 |nil=>rfl
 |
  @cons s x a b t r hs hok hx ht hf hr ih =>
  rw[fT,if_neg (show ¬(Fr.mk s (.list [x,a,b]) r).nm=[] from AC hs)];exact ih
theorem zv{env:List Fr}(h:WF env){s:List UInt8}{f:Fr}(hf:fT s env=some f):dh s=true:=by
 induction h with
 |nil=>cases hf
 |
  cons hs hok hx ht hf' hr ih =>
  rw[fT]at hf
  split at hf
  ·rename_i e;exact e ▸ hs
  ·exact ih hf
theorem pd{env:List Fr}(h:WF env){s:List UInt8}{f:Fr}(hf:fT s env=some f):∃x a b t,f.ex=.list [x,a,b]/\(E.list [x,a,b]).ok/\x.at=[114,101,99]/\cS f.ex (names f.out)=some t/\bY t=false/\WF f.out/\f.out.length<env.length:=by
 induction h with
 |nil=>cases hf
 |
  cons hs hok hx ht hf' hr ih =>
  rw[fT]at hf
  split at hf
  ·cases hf;exact⟨_,_,_,_,rfl,hok,hx,ht,hf',hr,by simp[Fr.out]⟩
  ·obtain⟨x,a,b,t,h1,h2,h3,h4,h5,h6,h7⟩:=ih hf
   exact⟨x,a,b,t,h1,h2,h3,h4,h5,h6,by simp;omega⟩
theorem j8(s w:List UInt8)(ar:List (List UInt8)):∀i,i<=ar.length->bN s (ar++[w]) i=(bN s ar i).map (·+1)
 |0,_=>rfl
 |
  i+1,hi=>by
  have hlt:i<ar.length:=by omega
  have e:(ar++[w]).getD i []=ar.getD i []:=by simp[aa,List.getElem?_append_left hlt]
  rw[bN,bN,e,j8 s w ar i (by omega)]
  split
  ·simp only[an,az,aH,cz,Option.some.injEq];omega
  ·rfl
theorem uX(s:List UInt8)(f:Fr)(r:List Fr):bN s (names (f::r)) (names (f::r)).length=if f.nm=s then some 0 else(bN s (names r) (names r).length).map (·+1):=by
 have e:(names (f::r)).length=(names r).length+1:=by simp[names]
 rw[e,bN]
 have e2:(names (f::r)).getD (names r).length []=f.nm:=by simp[names,aa]
 rw[e2]
 split
 ·rw[e];simp
 ·rw[names,j8 _ _ _ _ (au _)]
theorem oH(s:List UInt8):∀env:List Fr,bN s (names env) (names env).length=none/\fT s env=none\/∃(u:Nat) (f:Fr),bN s (names env) (names env).length=some u/\fT s env=some f/\env[u]?=some f
 |[]=>.inl ⟨rfl,rfl⟩
 |
  f::r=>by
  rw[uX,fT]
  split
  ·exact .inr ⟨0,f,rfl,rfl,rfl⟩
  ·rcases oH s r with⟨h1,h2⟩|⟨u,g,h1,h2,h3⟩
   ·exact .inl ⟨by rw[h1];rfl,h2⟩
   ·exact .inr ⟨u+1,g,by rw[h1];rfl,h2,by simpa using h3⟩
def Ty.Oa:Ty->Bool
 | .bQ _=>true
 |_=>false
theorem gp{e:E}{env:List Fr}{t:Ty}(hw:WF env)(ht:cS e (names env)=some t) :
 (t.Oa=false/\fT e.at env=none)\/∃(u:Nat) (f:Fr),t=.bQ u/\fT e.at env=some f/\env[u]?=some f:=by
 cases e with
 |
  list l =>
  left
  refine⟨?_,kJ hw⟩
  match l,ht with
  |
   [x,a,b],ht =>
   by_cases h0:x.at=[43]
   ·obtain⟨t1,t2,_,_,rfl⟩:=fH h0 ht;rfl
   ·by_cases h1:x.at=[42]
    ·obtain⟨t1,t2,_,_,rfl⟩:=fj h1 ht;rfl
    ·by_cases h2:x.at=[114,101,99]
     ·obtain⟨t1,_,_,rfl⟩:=dz h2 ht;rfl
     ·rw[jh _ h0 h1 h2]at ht;cases ht
  |[],ht=>cases ht
  |[_],ht=>cases ht
  |[_,_],ht=>cases ht
  |_::_::_::_::_,ht=>cases ht
 |
  atom s =>
  simp only[cS]at ht
  have hno:dh s=false->fT s env=none:=fun h=>by
   cases hq:fT s env with
   |none=>rfl
   |some f=>rw[zv hw hq]at h;cases h
  split at ht
  ·rename_i h;cases ht;subst h;exact .inl ⟨rfl,hno rfl⟩
  ·split at ht
   ·rename_i h;cases ht;subst h;exact .inl ⟨rfl,hno rfl⟩
   ·split at ht
    ·rename_i h
     cases ht
     refine .inl ⟨rfl,hno ?_⟩
     cases hq:dh s with
     |false=>rfl
     |
      true =>
      obtain⟨c,r,rfl,h1,h2⟩:=lQ h
      obtain⟨c',r',he,h3,h4⟩:=lQ hq
      cases he;omega
    ·split at ht
     ·rcases oH s env with⟨h1,h2⟩|⟨u,f,h1,h2,h3⟩
      ·rw[h1]at ht;cases ht;exact .inl ⟨rfl,h2⟩
      ·rw[h1]at ht;cases ht;exact .inr ⟨u,f,rfl,h2,h3⟩
     ·cases ht
def eW(n:Nat):Vl->E×List Fr->Bool
 | .u,p=>match hd p.1 p.2 with|(.atom s,_)=>s==[49]|_=>false
 | .el k,p=>match hd p.1 p.2 with|(.atom s,_)=>!(s==[49])&&(hD s&&decide (k<n))|_=>false
 | .l w,p=>match hd p.1 p.2 with|(.list [x,a,b],o)=>(x.at==[43])&&eW n w (a,o)|_=>false
 | .r w,p=>match hd p.1 p.2 with|(.list [x,a,b],o)=>(x.at==[43])&&eW n w (b,o)|_=>false
 | .f w,p=>match hd p.1 p.2 with|(.list [x,a,b],o)=>(x.at==[114,101,99])&&eW n w (b,.mk a.at (.list [x,a,b]) o::o)|_=>false
 | .p v w,p=>match hd p.1 p.2 with|(.list [x,a,b],o)=>(x.at==[42])&&(eW n v (a,o)&&eW n w (b,o))|_=>false
theorem km{e:E}{env:List Fr}(h:fT e.at env=none):hd e env=(e,env):=by rw[hd,h]
theorem qR{e:E}{env:List Fr}{f:Fr}(h:fT e.at env=some f):hd e env=(f.ex,f.out):=by rw[hd,h]
theorem pq{x a b:E}{o:List Fr}(h:WF o):hd (.list [x,a,b]) o=(.list [x,a,b],o):=km (kJ h)
theorem uj(n:Nat)(v:Vl){e e':E}{env o:List Fr}(h:hd e env=(e',o))(h':hd e' o=(e',o)):eW n v (e,env)=eW n v (e',o):=by
 cases v<;>simp only[eW,h,h']
theorem jq{x a b:E}{env:List Fr}{t:Ty}(hw:WF env)(hok:(E.list [x,a,b]).ok)(hx:x.at=[114,101,99])(ht:cS (.list [x,a,b]) (names env)=some t)(hf:bY t=false) :
 ∃t1,t=.rc t1/\cS b (names (.mk a.at (.list [x,a,b]) env::env))=some t1/\bY t1=false/\WF (.mk a.at (.list [x,a,b]) env::env):=by
 obtain⟨t1,hl,h1,rfl⟩:=dz hx ht
 exact⟨t1,rfl,h1,hf,.cons hl hok hx ht hf hw⟩
theorem zd(a b env:AV)(n:Int)(s:ByteArray)(u:Int)(ha:LK.ptr.has a)(he:LK.ptr.has env):aq Tryz.prog 113 [.agg [.ptr [.v (.int .u8 n),.v (.string s),.v (.int .i64 u),a,b],env]] [] (bK (.agg [a,env])):=by
 refine Ov _ _ ((cd _).mpr trivial) he ?_
 simp only[Kr,↓zq,zs,ac,bK]
 exact⟨ha,by omega⟩
theorem zJ(a b env:AV)(n:Int)(s:ByteArray)(u:Int)(hb:LK.ptr.has b)(he:LK.ptr.has env):aq Tryz.prog 114 [.agg [.ptr [.v (.int .u8 n),.v (.string s),.v (.int .i64 u),a,b],env]] [] (bK (.agg [b,env])):=by
 refine OB _ _ ((cd _).mpr trivial) he ?_
 simp only[MB,↓zq,zs,ac,bK]
 exact⟨hb,by omega⟩
theorem Qa(t:Ty)(env:List Fr)(s:List UInt8)(e:E)(ht:yz e env=.rc t):aq Tryz.prog 86 [.agg [(Ty.rc t).av,oe env]] [] (bK (.cD [.agg [t.av,oe (.mk s e env::env)],(Fr.mk s e env).cu])):=by
 refine On _ _ ((aF _).mpr trivial) ((er _).mpr trivial) ?_
 simp only[MZ,Ty.av,↓zq,zs,ac,aF,bK,oe,Fr.cu,ht]
 omega
theorem sP(env:List Fr)(i:Nat)(f:Fr)(h:env[i]?=some f):oe (env.drop i)=.ptr [f.cu,oe (env.drop (i+1))]:=by
 obtain⟨hlt,he⟩:=List.getElem?_eq_some_iff.1 h
 rw[aW hlt,he,oe]
theorem Nw(env:List Fr)(u:Nat)(hu:u<env.length)(hl:env.length<1000000):∀(k i:Nat),i+k=u->Dk [oe (env.drop i),.v (.int .i64 (u:Int)),.v (.int .i64 (i:Int))] [] (iF 1 [oe (env.drop u)] [])
 |
  0,i,hi=>by
  refine DZ _ _ _ ?_
  have:i=u:=by omega
  subst this
  simp only[Cp,↓zq,zs,ac,er]
  exact⟨fun h=>by omega,fun _=>by simp[iF]⟩
 |
  k+1,i,hi=>by
  refine DZ _ _ _ ?_
  have hlt:i<env.length:=by omega
  have hg:env[i]?=some env[i]:=bp hlt
  have hd:=sP env i _ hg
  rw[hd]
  simp only[Cp,↓zq,zs,ac,er]
  refine⟨fun _=>⟨by omega,?_⟩,fun h=>by omega⟩
  rw[bA i (by omega)]
  exact Nw env u hu hl k (i+1) (by omega)
theorem PY(env:List Fr)(u:Nat)(f:Fr)(hf:env[u]?=some f)(hl:env.length<1000000):aq Tryz.prog 131 [.agg [(Ty.bQ u).av,oe env]] [] (bK f.cu):=by
 refine LL _ _ ((aF _).mpr trivial) ((er _).mpr trivial) ?_
 obtain⟨hlt,he⟩:=List.getElem?_eq_some_iff.1 hf
 simp only[Hp,Ty.av,↓zq,zs,ac]
 refine⟨by omega,?_⟩
 have h:=Nw env u hlt hl u 0 (by omega)
 simp only[bh]at h
 refine cB h ?_
 rw[sP env u f hf]
 simp only[↓zq,zs,ac,A9,bK]
 omega
theorem Dl(k:Nat)(h:k<100):Lib.atoi (dd k)=some (k:Int):=by
 have e:∀k,k<100->dd k=if k<10 then [bj (48+k)]else [bj (48+k/10),bj (48+k%10)]:=by
  intro k hk
  by_cases h1:k<10
  ·rw[eF h1,if_pos h1]
  ·rw[fP h1,eF (by omega),if_neg h1];rfl
 have key:∀k:Fin 100,Lib.atoi (if k.val<10 then [bj (48+k.val)]else [bj (48+k.val/10),bj (48+k.val%10)])=some (k.val:Int):=by decide +kernel
 rw[e k h];exact key ⟨k,h⟩
theorem Ox(k:Nat)(hk:k<100):aq Tryz.prog 130 [.v (.string (mk (dd k)))] [] (bK (.cD [.v (.int .i64 (k:Int)),.v .nilIface])):=by
 have hl:=mI 1000 k (by omega)
 have hl2:(dd k).length<=18:=by
  have e:(dd k).length<=2:=by
   by_cases h1:k<10
   ·rw[eF h1];simp
   ·rw[fP h1,eF (by omega)];simp
  omega
 refine aq.PH (xs:=[.string (mk (dd k))]) (v:=.tuple #[.int .i64 (k:Int),.nilIface]) ⟨qx,by kernel_rfl,by kernel_rfl,by kernel_rfl⟩ (fun M=>?_) fun w=>?_
 ·refine bG.cD _ _ [.int .i64 (k:Int),.nilIface] rfl fun i hi=>?_
  match i,hi with
  |0,_=>exact .v _ _
  |1,_=>exact .v _ _
 ·have:=Any.strconv_Atoi Tryz.CB (mk (dd k)) (k:Int) (by rw[cK];exact hl2) (by
   have:(mk (dd k)).data.toList=dd k:=by simp[mk]
   rw[this];exact Dl k hk) w
  refine Calls.mono this fun e w' ⟨h1,t,h2⟩=>⟨h1,?_⟩
  subst h2
  refine⟨rfl,rfl,rfl,?_,fun b hb=>Lib.bytesWorld_at_old _ _ _ _ hb⟩
  simp[Lib.bytesWorld,World.freeze]
end Go.Proofs.Trees
namespace Go.Proofs.Trees
open Go Go.VL Go.RowKit
theorem fm{a b:Ty}(h:bY (.plus a b)=false):bY a=false/\bY b=false:=by simpa[bY]using h
theorem eV{a b:Ty}(h:bY (.times a b)=false):bY a=false/\bY b=false:=by simpa[bY]using h
theorem fK{e:E}{ar:List (List UInt8)}{t:Ty}(ht:cS e ar=some t)(hb:t.Oa=false)(hf:bY t=false) :
 (e=.atom [48]/\t=.zero)\/(e=.atom [49]/\t=.one)\/(∃s,e=.atom s/\t=.name s/\hD s=true/\s≠[48]/\s≠[49]) ∨
 (∃x a b t1 t2,e=.list [x,a,b]/\x.at=[43]/\t=.plus t1 t2/\cS a ar=some t1/\cS b ar=some t2) ∨
 (∃x a b t1 t2,e=.list [x,a,b]/\x.at=[42]/\t=.times t1 t2/\cS a ar=some t1/\cS b ar=some t2) ∨
 (∃x a b t1,e=.list [x,a,b]/\x.at=[114,101,99]/\t=.rc t1):=by
 cases e with
 |
  list l =>
  match l,ht with
  |
   [x,a,b],ht =>
   by_cases h0:x.at=[43]
   ·obtain⟨t1,t2,h1,h2,rfl⟩:=fH h0 ht
    exact .inr (.inr (.inr (.inl ⟨x,a,b,t1,t2,rfl,h0,rfl,h1,h2⟩)))
   ·by_cases h1:x.at=[42]
    ·obtain⟨t1,t2,h3,h2,rfl⟩:=fj h1 ht
     exact .inr (.inr (.inr (.inr (.inl ⟨x,a,b,t1,t2,rfl,h1,rfl,h3,h2⟩))))
    ·by_cases h2:x.at=[114,101,99]
     ·obtain⟨t1,_,_,rfl⟩:=dz h2 ht
      exact .inr (.inr (.inr (.inr (.inr ⟨x,a,b,t1,rfl,h2,rfl⟩))))
     ·rw[jh _ h0 h1 h2]at ht;cases ht
  |[],ht=>cases ht
  |[_],ht=>cases ht
  |[_,_],ht=>cases ht
  |_::_::_::_::_,ht=>cases ht
 |
  atom s =>
  simp only[cS]at ht
  split at ht
  ·rename_i h;cases ht;subst h;exact .inl ⟨rfl,rfl⟩
  ·rename_i h0
   split at ht
   ·rename_i h;cases ht;subst h;exact .inr (.inl ⟨rfl,rfl⟩)
   ·rename_i h1
    split at ht
    ·rename_i h;cases ht;exact .inr (.inr (.inl ⟨s,rfl,rfl,h,h0,h1⟩))
    ·split at ht
     ·rename_i h
      split at ht
      ·cases ht;cases hb
      ·cases ht;simp only[bY]at hf;rw[h]at hf;cases hf
     ·cases ht
def qe(n:Nat)(v:Vl)(e:E)(env:List Fr)(t:Ty):Prop:=aq Tryz.prog 95 [.agg [t.av,oe env],v.cu,.v (.int .i64 (n:Int))] [] (bK (.v (.bool (eW n v (e,env)))))
structure Ask(e:E)(env:List Fr)(t:Ty):Prop where
 ok:e.ok
 wf:WF env
 ty:cS e (names env)=some t
 cl:bY t=false
theorem Iy(n:Nat)(hn:n<=100)(v:Vl)(hv:v.ic 100)(IH:∀w:Vl,w.nodes<v.nodes->w.ic 100->∀e env t,Ask e env t->env.length+w.nodes<100000->qe n w e env t)
 (e:E) (env:List Fr) (t:Ty) (A:Ask e env t) (hl:env.length+v.nodes<100000) (hb:t.Oa=false) (hh:fT e.at env=none):qe n v e env t:=by
 have hhd:hd e env=(e,env):=km hh
 unfold qe
 refine My _ _ _ _ ((aF _).mpr trivial) ((er _).mpr trivial) ((aO _).mpr trivial) ?_
 rcases fK A.ty hb A.cl with⟨rfl,rfl⟩|⟨rfl,rfl⟩|⟨s,rfl,rfl,hp,h0,h1⟩|⟨x,a,b,t1,t2,rfl,hx,rfl,ha,hbb⟩|⟨x,a,b,t1,t2,rfl,hx,rfl,ha,hbb⟩|⟨x,a,b,t1,rfl,hx,rfl⟩
 ·have hp0:hD [48]=false:=rfl
  cases v<;>simp[Am,Ty.av,↓zq,zs,ac,bK,eW,hhd,hp0]
 ·have hp0:hD [49]=false:=rfl
  cases v<;>simp[Am,Ty.av,Vl.cu,↓zq,zs,ac,bK,eW,hhd,hp0]
 ·have h1':(s==[49])=false:=by simpa using h1
  cases v with
  |
   el k =>
   have hk:k<100:=hv
   simp only[Am,Ty.av,Vl.cu,↓zq,zs,ac,zt]
   refine⟨by omega,fun h=>by omega,fun _=>⟨fun _=>⟨by omega,fun h=>absurd rfl h,fun _=>⟨by omega,by omega,?_⟩⟩,fun h=>absurd rfl h⟩⟩
   have e1:(List.take ((dd k).length+1) (wI k)).drop (bI 1)=dd k:=by simp[wI]
   rw[e1]
   refine ai (Ox k hk) ?_
   simp only[↓zq,zs,ac,bK,eW,hhd,h1',hp,zf]
   refine⟨rfl,?_⟩
   congr 2
   rw[ct];simp
  |
   _ =>
   simp only[Am,Ty.av,Vl.cu,↓zq,zs,ac,zt,eW,hhd,h1',bK]
   exact⟨by omega,fun h=>by omega,fun _=>⟨fun _=>⟨by omega,fun _=>trivial,fun h=>by omega⟩,fun h=>absurd rfl h⟩⟩
 ·have hok:=A.ok
  obtain⟨ok1,ok2,ok3,_⟩:=hok
  obtain⟨f1,f2⟩:=fm A.cl
  cases v with
  |
   l w =>
   simp only[Vl.nodes]at hl
   simp only[Am,Ty.av,Vl.cu,↓zq,zs,ac]
   refine⟨by omega,fun h=>by omega,fun _=>⟨fun h=>by omega,fun _=>⟨fun h=>by omega,fun _=>⟨fun _=>⟨by omega,fun _=>?_,fun h=>absurd rfl h⟩,fun h=>absurd rfl h⟩⟩⟩⟩
   refine ai (zd _ _ _ _ _ _ ((aF _).mpr trivial) ((er _).mpr trivial)) ?_
   simp only[↓zq,zs,ac,bH,aF,er,aO]
   refine⟨by omega,?_⟩
   refine ai (IH w (by simp only[Vl.nodes];omega) hv a env t1 ⟨ok2,A.wf,ha,f1⟩ (by omega)) ?_
   simp only[↓zq,zs,ac,bK,eW,hhd,hx]
   refine⟨fun h=>?_,fun h=>⟨by omega,fun h=>by omega,fun _=>?_⟩⟩
   ·simp[h]
   ·simp[h]
  |
   r w =>
   simp only[Vl.nodes]at hl
   simp only[Am,Ty.av,Vl.cu,↓zq,zs,ac]
   refine⟨by omega,fun h=>by omega,fun _=>⟨fun h=>by omega,fun _=>⟨fun h=>by omega,fun _=>⟨fun _=>⟨by omega,fun h=>by omega,fun _=>⟨by omega,fun _=>?_,fun h=>absurd rfl h⟩⟩,fun h=>absurd rfl h⟩⟩⟩⟩
   refine ai (zJ _ _ _ _ _ _ ((aF _).mpr trivial) ((er _).mpr trivial)) ?_
   simp only[↓zq,zs,ac,bH,aF,er,aO]
   refine⟨by omega,?_⟩
   refine ai (IH w (by simp only[Vl.nodes];omega) hv b env t2 ⟨ok3,A.wf,hbb,f2⟩ (by omega)) ?_
   simp[↓zq,zs,ac,bK,eW,hhd,hx]
  |
   _ =>
   simp only[Am,Ty.av,Vl.cu,↓zq,zs,ac,eW,hhd,bK]
   exact⟨by omega,fun h=>by omega,fun _=>⟨fun h=>by omega,fun _=>⟨fun h=>by omega,fun _=>⟨fun _=>⟨by omega,fun h=>by omega,fun _=>⟨by omega,fun h=>by omega,fun _=>by simp[hx]⟩⟩,fun h=>absurd rfl h⟩⟩⟩⟩
 ·have hok:=A.ok
  obtain⟨ok1,ok2,ok3,_⟩:=hok
  obtain⟨f1,f2⟩:=eV A.cl
  cases v with
  |
   p v w =>
   simp only[Vl.nodes]at hl
   simp only[Am,Ty.av,Vl.cu,↓zq,zs,ac]
   refine⟨by omega,fun h=>by omega,fun _=>⟨fun h=>by omega,fun _=>⟨fun h=>by omega,fun _=>⟨fun h=>by omega,fun _=>⟨fun _=>⟨by omega,fun _=>?_,fun h=>absurd rfl h⟩,fun h=>absurd rfl h⟩⟩⟩⟩⟩
   refine ai (zd _ _ _ _ _ _ ((aF _).mpr trivial) ((er _).mpr trivial)) ?_
   simp only[↓zq,zs,ac,bH,aF,er,aO]
   refine⟨by omega,?_⟩
   refine ai (IH v (by simp only[Vl.nodes];omega) hv.1 a env t1 ⟨ok2,A.wf,ha,f1⟩ (by omega)) ?_
   simp only[↓zq,zs,ac,bK,eW,hhd,hx]
   refine⟨fun h=>?_,fun h=>?_⟩
   ·refine ai (zJ _ _ _ _ _ _ ((aF _).mpr trivial) ((er _).mpr trivial)) ?_
    simp only[↓zq,zs,ac,bH,aF,er,aO]
    refine⟨by omega,?_⟩
    refine ai (IH w (by simp only[Vl.nodes];omega) hv.2 b env t2 ⟨ok3,A.wf,hbb,f2⟩ (by omega)) ?_
    simp[↓zq,zs,ac,h]
   ·simp[h]
  |
   _ =>
   simp only[Am,Ty.av,Vl.cu,↓zq,zs,ac,eW,hhd,bK]
   exact⟨by omega,fun h=>by omega,fun _=>⟨fun h=>by omega,fun _=>⟨fun h=>by omega,fun _=>⟨fun h=>by omega,fun _=>⟨fun _=>⟨by omega,fun h=>by omega,fun _=>by simp[hx]⟩,fun h=>absurd rfl h⟩⟩⟩⟩⟩
 ·obtain⟨t1',he1,h1,f1,hw1⟩:=jq A.wf A.ok hx A.ty A.cl
  cases he1
  have hok:=A.ok
  obtain⟨ok1,ok2,ok3,_⟩:=hok
  have htD:yz (.list [x,a,b]) env=.rc t1:=by rw[yz,A.ty];rfl
  have hin:=Qa t1 env a.at (.list [x,a,b]) htD
  simp only[Ty.av]at hin
  simp only[Am,Ty.av,↓zq,zs,ac]
  refine⟨by omega,fun h=>by omega,fun _=>⟨fun h=>by omega,fun _=>⟨fun h=>by omega,fun _=>⟨fun h=>by omega,fun _=>⟨fun h=>by omega,fun _=>⟨fun _=>?_,fun h=>absurd rfl h⟩⟩⟩⟩⟩⟩
  refine ai hin ?_
  simp only[↓zq,zs,ac,bH,aF,er,A9,aO,fy]
  cases v with
  |
   f w =>
   simp only[Vl.nodes]at hl
   simp only[Vl.cu,↓zq,zs,ac,aO]
   refine⟨by omega,fun _=>⟨by omega,?_⟩,fun h=>absurd rfl h⟩
   refine ai (IH w (by simp only[Vl.nodes];omega) hv b (.mk a.at (.list [x,a,b]) env::env) t1 ⟨ok3,hw1,h1,f1⟩ (by simp;omega)) ?_
   simp[↓zq,zs,ac,bK,eW,hhd,hx]
  |
   _ =>
   simp only[Vl.cu,↓zq,zs,ac,eW,hhd,bK]
   exact⟨by omega,fun h=>by omega,fun _=>by simp[hx]⟩
theorem Mg(n:Nat)(hn:n<=100):∀(m:Nat) (v:Vl),v.nodes<m->v.ic 100->∀e env t,Ask e env t->env.length+v.nodes<100000->qe n v e env t
 |0,v,h,_=>by omega
 |
  m+1,v,h,hv=>by
  intro e env t A hl
  have IH:∀w:Vl,w.nodes<v.nodes->w.ic 100->∀e env t,Ask e env t->env.length+w.nodes<100000->qe n w e env t:=fun w hw hb=>Mg n hn m w (by omega) hb
  rcases gp A.wf A.ty with⟨hb,hh⟩|⟨u,f,rfl,hh,hu⟩
  ·exact Iy n hn v hv IH e env t A hl hb hh
  ·obtain⟨x,a,b,t',hfe,hok,hx,ht',hf',hwf,hlt⟩:=pd A.wf hh
   obtain⟨t1,hl1,h1,rfl⟩:=dz hx (hfe ▸ ht')
   have hvis:eW n v (e,env)=eW n v (f.ex,f.out):=uj n v (qR hh) (by rw[hfe];exact pq hwf)
   unfold qe
   refine My _ _ _ _ ((aF _).mpr trivial) ((er _).mpr trivial) ((aO _).mpr trivial) ?_
   have hbd:=PY env u f hu (by omega)
   simp only[Ty.av]at hbd
   simp only[Am,Ty.av,↓zq,zs,ac]
   refine⟨by omega,fun h=>by omega,fun _=>⟨fun h=>by omega,fun _=>⟨fun _=>?_,fun h=>absurd rfl h⟩⟩⟩
   refine ai hbd ?_
   cases f with
   |
    mk s ee oo =>
    simp only[Fr.ex,Fr.out]at hfe ht' hf' hwf hvis hlt
    have htD:yz ee oo=.rc t1:=by rw[yz,ht'];rfl
    simp only[Fr.cu,htD,↓zq,zs,ac,bH,aF,er]
    refine⟨by omega,?_⟩
    have hs:=Iy n hn v hv IH ee oo (.rc t1) ⟨by rw[hfe];exact hok,hwf,ht',hf'⟩ (by omega) rfl (by rw[hfe];exact kJ hwf)
    unfold qe at hs
    refine ai hs ?_
    simp[↓zq,zs,ac,bK,hvis]
end Go.Proofs.Trees
namespace Go.Proofs.Trees
open Go Go.VL Go.RowKit
theorem sN:∀(env:List Fr) (k:Nat) (f:Fr),env[k]?=some f->(j6 env).getD (env.length-1-k) []=f.cells
 |[],k,f,h=>by cases h
 |
  g::r,0,f,h=>by
  cases h
  have:(g::r).length-1-0=(j6 r).length:=by simp[kY]
  rw[this,j6];simp[aa]
 |
  g::r,k+1,f,h=>by
  have h':r[k]?=some f:=by simpa using h
  have hlt:=(List.getElem?_eq_some_iff.1 h').1
  have e:(g::r).length-1-(k+1)=r.length-1-k:=by simp;omega
  have:=sN r k f h'
  rw[e,j6,aa,List.getElem?_append_left (by rw[kY];omega),<-aa]
  exact this
theorem qW(f:Fr):f.cells=[.v (.string (mk f.nm)),.v (.string (mk f.ex.at)),f.ex.sp,.sl (j6 f.out)]:=by cases f;rfl
theorem Ng(e:E)(env:List Fr)(hl:env.length<1000000):∀(j k:Nat),k+j=env.length->FR [.sl (j6 env),.v (.int .i64 ((env.length:Int)-1-(k:Int)))] [.cells [.v (.string (mk e.at)),e.sp],.cells [.v (.string (mk [])),.v (.slice none 0 0)]]
 (pN (match fT e.at (env.drop k)with|some f=>(2,[.sl (j6 f.out)],[.cells [.v (.string (mk f.ex.at)),f.ex.sp]])|none=>(1,[.sl (j6 env)],[.cells [.v (.string (mk e.at)),e.sp],.cells [.v (.string (mk [])),.v (.slice none 0 0)]])))
 |
  0,k,hk=>by
  refine IT _ _ _ _ _ _ ?_
  have hd:env.drop k=[]:=bS (by omega)
  simp only[GI,↓zq,zs,ac,aX,hd,fT]
  exact⟨fun h=>by omega,fun _=>by first|trivial|rfl⟩
 |
  j+1,k,hk=>by
  refine IT _ _ _ _ _ _ ?_
  have hlt:k<env.length:=by omega
  have hg:env[k]?=some env[k]:=bp hlt
  have hc:=sN env k _ hg
  have e1:((env.length:Int)-1-(k:Int))=((env.length-1-k:Nat):Int):=by omega
  have hdr:env.drop k=env[k]::env.drop (k+1):=aW hlt
  rw[hdr,fT,e1]
  simp only[GI,bZ,hc,qW,↓zq,zs,ac,zt,aX,kY,bH]
  refine⟨fun _=>⟨by omega,by omega,fun h=>⟨by omega,by omega,by omega,by omega,?_⟩,fun h=>?_⟩,fun h=>by omega⟩
  ·rw[if_pos h]
  ·rw[if_neg h]
   have e2:IntKind.wrap .i64 (((env.length-1-k:Nat):Int)-1)=(env.length:Int)-1-((k+1:Nat):Int):=by
    have:IntKind.wrap .i64 (((env.length-1-k:Nat):Int)-1)=((env.length-1-k:Nat):Int)-1:=wrap64 _ (by omega) (by omega)
    omega
   rw[e2]
   exact Ng e env hl j (k+1) (by omega)
theorem OM(e:E)(env:List Fr)(hl:env.length<1000000):aq Tryz.prog 154 [e.kB,.sl (j6 env)] [] (bK (.cD [(hd e env).1.kB,.sl (j6 (hd e env).2)])):=by
 rw[di e]
 refine RH _ _ _ ((aX _).mpr trivial) ((cg _).mpr trivial) ?_
 simp only[JH,↓zq,zs,ac,kY,bK]
 have h:=Ng e env hl env.length 0 (by omega)
 simp only[bh]at h
 rw[wrap64 _ (by omega) (by omega)]
 rw[show (env.length:Int)-1-((0:Nat):Int)=(env.length:Int)-1 by omega]at h
 refine fX h (fun ys o e'=>?_) (fun ys o e'=>?_)
 ·unfold hd
  cases hq:fT e.at env<;>rw[hq]at e'<;>cases e'
  simp only[↓zq,zs,ac,zt,aX,di]
 ·unfold hd
  cases hq:fT e.at env<;>rw[hq]at e'<;>cases e'
  simp only[↓zq,zs,ac,zt,aX,di]
theorem pW:∀env:List Fr,cv 4 (j6 env)
 |[]=>fun c hc=>by cases hc
 |
  f::r=>fun c hc=>by
  simp only[j6,aN,aV]at hc
  rcases hc with hc|rfl
  ·exact pW r c hc
  ·rw[qW];rfl
theorem QG(x a b:E)(env:List Fr)(hl:env.length<1000000):aq Tryz.prog 156 [(E.list [x,a,b]).kB,.sl (j6 env)] [] (bK (.cD [b.kB,.sl (j6 (.mk a.at (.list [x,a,b]) env::env))])):=by
 refine ON _ _ _ ((cg _).mpr trivial) ((cg _).mpr trivial) ?_
 simp only[Ly,E.bu,toNat_one,bf,↓zq,zs,ac,zt,iT,gh,iM,mD,au,kY,bK,aU]
 refine⟨by omega,⟨pW env,by omega⟩,by omega,by omega,⟨fun c hc=>(by simp at hc;rw[hc];rfl),by omega⟩,?_⟩
 simp only[j6,qW,Fr.nm,Fr.ex,Fr.out,E.at,E.sp,E.bu]
theorem CO(s:ByteArray)(e:E):bH [.str,.sl] [.v (.string s),e.sp] 0=True:=by apply eq_true;simp[bH,dW,aX]
theorem HX{e:E}{env:List Fr}{t:Ty}(A:Ask e env t):∃e' o t',hd e env=(e',o)/\Ask e' o t'/\t'.Oa=false/\hd e' o=(e',o)/\o.length<=env.length:=by
 rcases gp A.wf A.ty with⟨hb,hh⟩|⟨u,f,rfl,hh,hu⟩
 ·exact⟨e,env,t,km hh,A,hb,km hh,au _⟩
 ·obtain⟨x,a,b,t',hfe,hok,hx,ht',hf',hwf,hlt⟩:=pd A.wf hh
  refine⟨f.ex,f.out,t',qR hh,⟨by rw[hfe];exact hok,hwf,ht',hf'⟩,?_,?_,by omega⟩
  ·obtain⟨t1,_,_,rfl⟩:=dz hx (hfe ▸ ht');rfl
  ·rw[hfe];exact pq hwf
def vh:Vl->List UInt8
 | .l _=>[108]
 | .r _=>[114]
 | .f _=>[102]
 | .p _ _=>[112]
 |_=>[]
theorem B3(v:Vl):aq Tryz.prog 121 [v.cG.kB] [] (bK (.v (.string (mk (vh v))))):=by
 cases v with
 |u=>exact Ae _ _ ((bi).mpr trivial) (by simp)
 |el k=>exact Ae _ _ ((bi).mpr trivial) (by simp)
 |l v=>exact uL _ _
 |r v=>exact uL _ _
 |f v=>exact uL _ _
 |p v w=>exact uL _ _
theorem R1(v:Vl)(hv:v.ic 100):v.cG.at=(match v with| .u=>[117]| .el k=>wI k|_=>[])/\AZ v.cG.at=(match v with| .el k=>(k:Int)|_=>-1):=by
 cases v with
 |el k=>exact⟨rfl,HV k hv⟩
 |u=>exact⟨rfl,rfl⟩
 |_=>exact⟨rfl,rfl⟩
theorem Ag(n:Nat)(hn:n<=100):∀(m:Nat) (v:Vl),v.nodes<m->v.ic 100->∀e env t,Ask e env t->env.length+v.nodes<100000->aq Tryz.prog 125 [e.kB,.sl (j6 env),v.cG.kB,.v (.int .i64 (n:Int))] [] (bK (.v (.bool (eW n v (e,env)))))
 |0,v,hm,hv,e,env,t,A,hl=>by omega
 |
  m+1,v,hm,hv,e,env,t,A,hl=>by
  obtain⟨e',o,t',hhd,A',hb,hh',hlen⟩:=HX A
  rw[uj n v hhd hh',di e,di v.cG]
  refine Qn _ _ _ _ _ _ ((aX _).mpr trivial) ((cg _).mpr trivial) ((aX _).mpr trivial) ?_
  have hf:=OM e env (by omega)
  rw[di e,hhd]at hf
  have hvh:=B3 v
  rw[di]at hvh
  unfold Jv
  refine ai hf ?_
  simp only[di e',↓zq,zs,ac,zt,aX,CO,bK]
  rcases fK A'.ty hb A'.cl with⟨rfl,rfl⟩|⟨rfl,rfl⟩|⟨s,rfl,rfl,hp,h0,h1⟩|⟨x,a,b,t1,t2,rfl,hx,rfl,ha,hbb⟩|⟨x,a,b,t1,t2,rfl,hx,rfl,ha,hbb⟩|⟨x,a,b,t1,rfl,hx,rfl⟩
  ·refine⟨fun _=>⟨fun h=>by simp[E.at]at h,fun _=>ai (Fk _) ?_⟩,fun h=>by simp[E.at]at h⟩
   have hp0:hD (E.atom [48]).at=false:=rfl
   have hp1:hD [48]=false:=rfl
   cases v<;>simp[↓zq,zs,ac,hp0,eW,hh',hp1]
  ·refine⟨fun _=>⟨fun _=>?_,fun h=>absurd rfl h⟩,fun h=>by simp[E.at]at h⟩
   have hp1:hD [49]=false:=rfl
   cases v<;>simp[eW,hh',hp1,Vl.cG,E.at]
  ·have hne:s≠[]:=A'.ok
   have h1':(s==[49])=false:=by simpa using h1
   refine⟨fun _=>⟨fun h=>absurd h h1,fun _=>ai (Fk _) ?_⟩,fun h=>absurd h hne⟩
   have hat:(E.atom s).at=s:=rfl
   simp only[hat,hp,↓zq,zs,ac]
   refine⟨fun _=>ai (Ns _) ?_,fun h=>by cases h⟩
   simp only[↓zq,zs,ac]
   rw[wrap64 _ (by omega) (by omega)]
   refine ai (A4 _ _ _) ?_
   simp only[↓zq,zs,ac,Cs,(R1 v hv).2]
   cases v with
   |
    el k =>
    simp only[eW,hh',h1',hp,zf]
    congr 2
    rw[ct];simp;omega
   |_=>simp[eW,hh',h1']
  ·have hok:=A'.ok
   obtain⟨ok1,ok2,ok3,_⟩:=hok
   obtain⟨f1,f2⟩:=fm A'.cl
   refine⟨fun h=>absurd rfl h,fun _=>ai (uL x [a,b]) ?_⟩
   simp only[↓zq,zs,ac]
   refine ai hvh ?_
   rw[hx]
   cases v with
   |
    l w =>
    simp only[Vl.nodes]at hl
    simp only[vh,Vl.cG,E.sp,E.bu,toNat_one,bf,↓zq,zs,ac,zt,iT,gh,iM,mD,au]
    refine⟨by simp,fun _=>⟨by omega,by omega,ai (Ag n hn m w (by simp only[Vl.nodes]at hm;omega) hv a o t1 ⟨ok2,A'.wf,ha,f1⟩ (by omega)) ?_⟩,fun h=>absurd rfl h⟩
    simp[↓zq,zs,ac,eW,hh',hx]
   |
    r w =>
    simp only[Vl.nodes]at hl
    simp only[vh,Vl.cG,E.sp,E.bu,toNat_one,bf,↓zq,zs,ac,zt,iT,gh,iM,mD,au]
    refine⟨by simp,fun h=>by simp at h,fun _=>⟨fun _=>⟨by omega,by omega,ai (Ag n hn m w (by simp only[Vl.nodes]at hm;omega) hv b o t2 ⟨ok3,A'.wf,hbb,f2⟩ (by omega)) ?_⟩,fun h=>absurd rfl h⟩⟩
    simp[↓zq,zs,ac,eW,hh',hx]
   |_=>simp[vh,↓zq,zs,ac,zt,eW,hh',hx]
  ·have hok:=A'.ok
   obtain⟨ok1,ok2,ok3,_⟩:=hok
   obtain⟨f1,f2⟩:=eV A'.cl
   refine⟨fun h=>absurd rfl h,fun _=>ai (uL x [a,b]) ?_⟩
   simp only[↓zq,zs,ac]
   refine ai hvh ?_
   rw[hx]
   cases v with
   |
    p w z =>
    simp only[Vl.nodes]at hl
    simp only[vh,Vl.cG,E.sp,E.bu,toNat_one,bf,↓zq,zs,ac,zt,iT,gh,iM,mD,au]
    refine⟨by simp,fun h=>by simp at h,fun _=>⟨fun h=>by simp at h,fun _=>⟨fun _=>⟨by omega,by omega,ai (Ag n hn m w (by simp only[Vl.nodes]at hm;omega) hv.1 a o t1 ⟨ok2,A'.wf,ha,f1⟩ (by omega)) ?_⟩,fun h=>absurd rfl h⟩⟩⟩
    simp only[↓zq,zs,ac,eW,hh',hx]
    refine⟨fun h=>⟨by omega,by omega,ai (Ag n hn m z (by simp only[Vl.nodes]at hm;omega) hv.2 b o t2 ⟨ok3,A'.wf,hbb,f2⟩ (by omega)) ?_⟩,fun h=>?_⟩
    ·simp[↓zq,zs,ac,h]
    ·simp[h]
   |_=>simp[vh,↓zq,zs,ac,zt,eW,hh',hx]
  ·obtain⟨t1',he1,h1,f1,hw1⟩:=jq A'.wf A'.ok hx A'.ty A'.cl
   cases he1
   have hok:=A'.ok
   obtain⟨ok1,ok2,ok3,_⟩:=hok
   refine⟨fun h=>absurd rfl h,fun _=>ai (uL x [a,b]) ?_⟩
   simp only[↓zq,zs,ac]
   refine ai hvh ?_
   rw[hx]
   cases v with
   |
    f w =>
    simp only[Vl.nodes]at hl
    simp only[vh,Vl.cG,E.sp,E.bu,toNat_one,bf,↓zq,zs,ac,zt,iT,gh,iM,mD,au]
    refine⟨by simp,fun h=>by simp at h,fun _=>⟨fun h=>by simp at h,fun _=>⟨fun h=>by simp at h,fun _=>⟨fun _=>ai (QG x a b o (by omega)) ?_,fun h=>absurd rfl h⟩⟩⟩⟩
    simp only[↓zq,zs,ac,yE,Da]
    refine⟨by omega,ai (Ag n hn m w (by simp only[Vl.nodes]at hm;omega) hv b (.mk a.at (.list [x,a,b]) o::o) t1 ⟨ok3,hw1,h1,f1⟩ (by simp;omega)) ?_⟩
    simp[↓zq,zs,ac,eW,hh',hx]
   |_=>simp[vh,↓zq,zs,ac,zt,eW,hh',hx]
theorem RD(n:Nat)(hn:n<=100)(v:Vl)(hv:v.ic 100)(e:E)(env:List Fr)(t:Ty)(A:Ask e env t)(hl:env.length+v.nodes<100000):aq Tryz.prog 125 [e.kB,.sl (j6 env),v.cG.kB,.v (.int .i64 (n:Int))] [] (bK (.v (.bool (eW n v (e,env))))):=Ag n hn (v.nodes+1) v (by omega) hv e env t A hl
end Go.Proofs.Trees
namespace Go.Proofs.Trees
open Go Go.VL Go.RowKit
theorem Kj(l:List (List UInt8))(a:AV)(ha:cF a l)(s:List UInt8)(hl:l.length<1000000):∀(k i:Nat),i+k=l.length->G6 [a,.v (.string (mk s)),.v (.int .i64 (i:Int))] []
 (pN (if s∈l.drop i then(2,[.v (.bool true)],[])else(1,[],[])))
 |
  0,i,hi=>by
  refine Nk _ _ _ ?_
  have hd:l.drop i=[]:=bS (by omega)
  simp only[HI,↓zq,zs,ac,hd,ha.len]
  exact⟨ha.1,ha.1,fun h=>by omega,fun _=>by simp[pN]⟩
 |
  k+1,i,hi=>by
  have hlt:i<l.length:=by omega
  have hdr:l.drop i=l.getD i []::l.drop (i+1):=by
   rw[aW hlt];simp[aa,hlt]
  refine Nk _ _ _ ?_
  simp only[HI,↓zq,zs,ac,zt,ha.len,ha.idx hlt]
  refine⟨ha.1,ha.1,fun _=>⟨⟨ha.1,by omega,by omega⟩,by omega,fun h=>?_,fun h=>?_⟩,fun h=>by omega⟩
  ·rw[hdr,h];simp[pN]
  ·rw[bA i (by omega)]
   have:=Kj l a ha s hl k (i+1) (by omega)
   have e:s∈l.drop i↔s∈l.drop (i+1):=by
    rw[hdr,aJ];exact⟨fun q=>q.resolve_left (fun q=>h q.symm),.inr⟩
   simp only[e];exact this
theorem xl(l:List (List UInt8))(a:AV)(ha:cF a l)(s:List UInt8)(hl:l.length<1000000):aq Tryz.prog 169 [a,.v (.string (mk s))] [] (bK (.v (.bool (decide (s∈l))))):=by
 refine PI _ _ ha.1 ?_
 unfold J3
 refine fX (Kj l a ha s hl l.length 0 (by omega)) (fun ys o e=>?_) (fun ys o e=>?_)
 ·simp only[bh]at e
  split at e<;>cases e
  rename_i h
  simp[↓zq,zs,ac,bK,h]
 ·simp only[bh]at e
  split at e<;>cases e
  rename_i h
  simp[↓zq,zs,ac,bK,h]
theorem wl(l:List (List UInt8))(a:AV)(ha:cF a l)(s:List UInt8)(hl:l.length<1000000):aq Tryz.prog 79 [a,.v (.string (mk s))] [] (dq (.vec 0) [.vec 1 (bD (l++[s]))]):=by
 refine Pv _ _ ha.1 ?_
 simp only[I8,↓zq,zs,ac,ha.2,dq,aU]
 have:(bD l).length=l.length:=by simp[bD]
 refine⟨⟨ha.1,kk l,by omega⟩,⟨fun c hc=>(by simp at hc;rw[hc];rfl),by omega⟩,?_⟩
 first|exact⟨rfl,by rw[EO]⟩|rw[EO]
def kb:E->List (List UInt8)->List (List UInt8)->List (List UInt8)
 | .atom s,bd,l=>if s=[48]\/s=[49]\/s∈bd\/s∈l then l else l++[s]
 | .list [x,a,b],bd,l=>if x.at=[114,101,99]then kb b (bd++[a.at]) l else kb b bd (kb a bd l)
 | .list _,_,l=>l
theorem fY:∀(e:E) (bd l:List (List UInt8)),(kb e bd l).length<=l.length+e.sz
 | .atom s,bd,l=>by rw[kb];split<;>simp[E.sz]
 | .list [],bd,l=>by simp[kb]
 | .list [_],bd,l=>by simp[kb]
 | .list [_,_],bd,l=>by simp[kb]
 | .list (_::_::_::_::_),bd,l=>by simp[kb]
 |
  .list [x,a,b],bd,l=>by
  rw[kb]
  simp only[E.sz,E.jr]
  split
  ·have:=fY b (bd++[a.at]) l;omega
  ·have:=fY a bd l
   have:=fY b bd (kb a bd l)
   omega
theorem DX:∀(e:E) (bd l:List (List UInt8)) (a:AV),e.ok->j2 e=true->cF a bd->bd.length+l.length+e.sz<100000->aq Tryz.prog 137 [e.kB,a,.vec 0] [.vec 1 (bD l)] (dq (.vec 1) [.dead,.vec 1 (bD (kb e bd l))])
 |
  .atom s,bd,l,a,hok,hty,ha,hl=>by
  simp only[E.sz]at hl
  refine zT _ _ _ _ ((bi).mpr trivial) ha.1 ?_
  have hne:s≠[]:=hok
  have hll:(bD l).length=l.length:=by simp[bD]
  simp only[Hs,↓zq,zs,ac,zt,dq,kb]
  refine⟨fun _=>⟨fun h=>?_,fun h=>⟨fun h1=>?_,fun h1=>?_⟩⟩,fun h=>absurd h hne⟩
  ·rw[if_pos (.inl h)]
  ·rw[if_pos (.inr (.inl h1))]
  ·refine ai (xl bd a ha s (by omega)) ?_
   simp only[↓zq,zs,ac]
   refine⟨fun h2=>?_,fun h2=>ai (xl l _ (.of l) s (by omega)) ?_⟩
   ·rw[if_pos (.inr (.inr (.inl h2)))]
   ·simp only[↓zq,zs,ac]
    refine⟨fun h3=>?_,fun h3=>⟨⟨fun c hc=>(by simp at hc;rw[hc];rfl),by omega⟩,?_⟩⟩
    ·rw[if_pos (.inr (.inr (.inr h3)))]
    ·rw[EO,if_neg]
     rintro(q|q|q|q)
     ·exact h q
     ·exact h1 q
     ·exact h2 q
     ·exact h3 q
 | .list [],_,_,_,_,h,_,_=>by cases h
 | .list [_],_,_,_,_,h,_,_=>by cases h
 | .list [_,_],_,_,_,_,h,_,_=>by cases h
 | .list (_::_::_::_::_),_,_,_,_,h,_,_=>by cases h
 |
  .list [x,y,z],bd,l,a,hok,hty,ha,hl=>by
  simp only[E.sz,E.jr]at hl
  obtain⟨ok1,ok2,ok3,_⟩:=hok
  refine zT _ _ _ _ ((cg _).mpr trivial) ha.1 ?_
  simp only[Hs,E.bu,toNat_one,bf,↓zq,zs,ac,zt,iT,gh,iM,mD,au,dq]
  refine⟨fun h=>absurd rfl h,fun _=>ai (uL x [y,z]) ?_⟩
  simp only[↓zq,zs,ac,zt]
  have hyl:=fY y bd l
  rw[j2]at hty
  refine⟨fun h=>⟨by omega,by omega,by omega,aY (wl bd a ha y.at (by omega)) ?_⟩,fun h=>⟨by omega,by omega,?_⟩⟩
  ·have hz:j2 z=true:=by
    rw[if_neg (by rw[h];decide),if_neg (by rw[h];decide),if_pos h]at hty
    simp only[aw]at hty;exact hty.2
   simp only[↓zq,zs,ac,Ob.es,aS]
   refine⟨ep _,?_⟩
   refine aY (DX z (bd++[y.at]) l _ ok3 hz (.of _) (by simp;omega)) ?_
   simp only[↓zq,zs,ac]
   rw[kb,if_pos h]
  ·have hyz:j2 y=true/\j2 z=true:=by
    split at hty
    ·simpa using hty
    ·split at hty
     ·simpa using hty
     ·cases hty
   refine aY (DX y bd l a ok2 hyz.1 ha (by omega)) ?_
   simp only[↓zq,zs,ac]
   refine aY (DX z bd (kb y bd l) a ok3 hyz.2 ha (by omega)) ?_
   simp only[↓zq,zs,ac]
   rw[kb,if_neg h]
theorem kl{s:List UInt8}(h:hD s=true):dh s=false:=by
 cases hq:dh s with
 |false=>rfl
 |
  true =>
  obtain⟨c,r,rfl,h1,h2⟩:=lQ h
  obtain⟨c',r',he,h3,h4⟩:=lQ hq
  cases he;omega
theorem my(s:List UInt8)(ar:List (List UInt8)):∀i,i<=ar.length->(bN s ar i=none↔s∉ar.take i)
 |0,_=>by simp[bN]
 |
  i+1,hi=>by
  have hlt:i<ar.length:=by omega
  have e:ar.getD i []=ar[i]:=by simp[aa,hlt]
  have e2:s∈ar.take (i+1)↔s∈ar.take i\/s=ar[i]:=by
   rw[show ar.take (i+1)=ar.take i++[ar[i]] from (List.take_append_getElem hlt).symm]
   simp only[aN,aV]
  rw[bN,e,e2]
  by_cases h:ar[i]=s
  ·rw[if_pos h]
   exact⟨fun h=>(by cases h),fun h'=>absurd (.inr h.symm) h'⟩
  ·rw[if_neg h,my s ar i (by omega)]
   exact⟨fun h1 h2=>h2.elim h1 (fun h3=>h h3.symm),fun h1 h2=>h1 (.inl h2)⟩
theorem lm:∀(e:E) (ar l:List (List UInt8)) (t:Ty),cS e ar=some t->(∀w,w∈ar->dh w=true)->(kb e ar l).any dh=(l.any dh||bY t)
 |
  .atom s,ar,l,t,h,har=>by
  simp only[cS]at h
  rw[kb]
  split at h
  ·rename_i h0;cases h;rw[if_pos (.inl h0)];simp[bY]
  ·rename_i h0
   split at h
   ·rename_i h1;cases h;rw[if_pos (.inr (.inl h1))];simp[bY]
   ·rename_i h1
    split at h
    ·rename_i h2
     cases h
     have hn:=kl h2
     simp only[bY,hn]
     split
     ·simp
     ·simp[hn]
    ·split at h
     ·rename_i h2 h3
      have hlo:=my s ar ar.length (au _)
      rw[List.take_length]at hlo
      cases hq:bN s ar ar.length with
      |
       some u =>
       rw[hq]at h;cases h
       have hm:s∈ar:=Classical.byContradiction fun hm=>by rw[hlo.2 hm]at hq;cases hq
       rw[if_pos (.inr (.inr (.inl hm)))];simp[bY]
      |
       none =>
       rw[hq]at h;cases h
       have hm:=hlo.1 hq
       simp only[bY,h3,Bool.or_true]
       split
       ·rename_i hh
        rcases hh with q|q|q|q
        ·exact absurd q h0
        ·exact absurd q h1
        ·exact absurd q hm
        ·rw[cm];exact⟨s,q,h3⟩
       ·simp[h3]
     ·cases h
 | .list [],_,_,_,h,_=>by cases h
 | .list [_],_,_,_,h,_=>by cases h
 | .list [_,_],_,_,_,h,_=>by cases h
 | .list (_::_::_::_::_),_,_,_,h,_=>by cases h
 |
  .list [x,a,b],ar,l,t,h,har=>by
  rw[kb]
  by_cases h0:x.at=[43]
  ·obtain⟨t1,t2,e1,e2,rfl⟩:=fH h0 h
   rw[if_neg (by rw[h0];decide),lm b ar _ t2 e2 har,lm a ar l t1 e1 har,bY,Bool.or_assoc]
  ·by_cases h1:x.at=[42]
   ·obtain⟨t1,t2,e1,e2,rfl⟩:=fj h1 h
    rw[if_neg (by rw[h1];decide),lm b ar _ t2 e2 har,lm a ar l t1 e1 har,bY,Bool.or_assoc]
   ·by_cases h2:x.at=[114,101,99]
    ·obtain⟨t1,hl,e1,rfl⟩:=dz h2 h
     rw[if_pos h2,lm b _ l t1 e1 (fun w hw=>by
      simp only[aN,aV]at hw
      rcases hw with hw|rfl
      ·exact har w hw
      ·exact hl),bY]
    ·rw[jh _ h0 h1 h2]at h;cases h
def jB(s:List UInt8):Option E:=match wj s with
 |none=>none
 |some e=>if(kb e [] []).any dh=true then none else some e
theorem AQ{s:List UInt8}:xb s=match jB s with|none=>none|some e=>cS e []:=by
 unfold xb jB
 rw[ur]
 cases he:wj s with
 |none=>rfl
 |
  some e =>
  obtain⟨h1,h2,h3⟩:=pA he
  have hs:=iW e []
  rw[h2]at hs
  obtain⟨t,ht⟩:=bR.1 hs
  have ha:=lm e [] [] t ht (fun w hw=>by cases hw)
  simp only[ht,sO,ha,List.any_nil,Bool.false_or]
  cases hf:bY t<;>simp[ht]
theorem gR{s:List UInt8}{e:E}(h:jB s=some e):∃t,xb s=some t/\Ask e [] t/\j2 e=true/\e.sz<=8000/\t.aE<=400/\qM s=some e:=by
 have h0:=h
 unfold jB at h
 split at h
 ·cases h
 ·rename_i e' he
  split at h
  ·cases h
  ·rename_i hn
   cases h
   obtain⟨h1,h2,h3⟩:=pA he
   obtain⟨hok,hsz⟩:=nW h1
   have hs:=iW e []
   rw[h2]at hs
   obtain⟨t,ht⟩:=bR.1 hs
   have ha:=lm e [] [] t ht (fun w hw=>by cases hw)
   rw[ha]at hn
   refine⟨t,by rw[AQ,h0];exact ht,⟨hok,.nil,ht,by simpa using hn⟩,h2,hsz,?_,h1⟩
   rw[<-jQ e [] t ht];exact h3
theorem nj{s:List UInt8}(h:jB s=none):xb s=none:=by rw[AQ,h]
theorem KW(e:E)(l:List (List UInt8))(hl:l.length<1000000):∀(k i:Nat),i+k=l.length->Hf [.v (.int .i64 (i:Int))] [.cells [.v (.string (mk [])),.v (.slice none 0 0)],.cells [.v (.string (mk e.at)),e.sp],.vec 1 (bD l)]
 (pN (if(l.drop i).any dh=true then(2,[.v (.bool false)],[.cells [.v (.string (mk e.at)),e.sp]])else(1,[],[.cells [.v (.string (mk [])),.v (.slice none 0 0)],.cells [.v (.string (mk e.at)),e.sp]])))
 |
  0,i,hi=>by
  refine Jj _ _ _ _ _ _ ?_
  have hd:l.drop i=[]:=bS (by omega)
  have hll:(bD l).length=l.length:=by simp[bD]
  simp only[ES,↓zq,zs,ac,hd,hll,aX]
  exact⟨fun h=>by omega,fun _=>by simp[pN]⟩
 |
  k+1,i,hi=>by
  have hlt:i<l.length:=by omega
  have hll:(bD l).length=l.length:=by simp[bD]
  have hdr:l.drop i=l.getD i []::l.drop (i+1):=by
   rw[aW hlt];simp[aa,hlt]
  have hg:=(cF.of l).idx hlt
  simp only[fE]at hg
  refine Jj _ _ _ _ _ _ ?_
  simp only[ES,↓zq,zs,ac,zt,hll,hg,aX]
  refine⟨fun _=>⟨by omega,by omega,ai (G7 _) ?_⟩,fun h=>by omega⟩
  simp only[↓zq,zs,ac,hdr,List.any_cons]
  refine⟨fun h=>?_,fun h=>?_⟩
  ·rw[h];simp[pN]
  ·rw[h,bA i (by omega)]
   simp only[Bool.false_or]
   exact KW e l hl k (i+1) (by omega)
theorem EU(s:List UInt8):aq Tryz.prog 104 [.v (.string (mk s))] [] (jG (jB s) (jB s).isSome):=by
 refine Oo _ ?_
 unfold Nv
 refine aQ (Gy s) (jG.ne _ _ (fun h=>h)) ?_
 rintro r o ⟨c,d,hd,rfl,hh⟩
 have hhas:bH [.str,.sl] [.v (.string (mk c)),d] 0:=by simp[bH,dW,hd]
 simp only[↓zq,zs,ac,zt]
 refine⟨hhas,fun h=>?_,fun h=>?_⟩
 ·have hn:wj s=none:=by cases hq:wj s<;>simp[hq]at h |-
  unfold jB
  rw[hn]
  exact⟨c,d,hd,rfl,fun h=>by cases h⟩
 ·obtain⟨e,he,hce⟩:=hh h
  obtain⟨h1,h2,h3⟩:=pA he
  obtain⟨hok,hsz⟩:=nW h1
  have hce':=hce
  rw[di]at hce'
  simp only[AV.agg.injEq,List.cons.injEq,AV.v.injEq,Value.string.injEq,and_true]at hce'
  obtain⟨hc1,rfl⟩:=hce'
  have hc2:=wE hc1
  subst hc2
  rw[<-di]
  refine aY (DX e [] [] _ hok h2 (.of []) (by simp;omega)) ?_
  have hfl:=fY e [] []
  simp only[↓zq,zs,ac]
  have hLS:=KW e (kb e [] []) (by simp at hfl;omega) (kb e [] []).length 0 (by omega)
  simp only[bh]at hLS
  unfold jB
  rw[he]
  refine fX hLS (fun ys o e'=>?_) (fun ys o e'=>?_)
  ·split at e'<;>cases e'
   rename_i hn
   simp only[↓zq,zs,ac,aX,if_neg hn]
   exact⟨e.at,e.sp,hd,rfl,fun _=>⟨e,rfl,(di e).symm⟩⟩
  ·split at e'<;>cases e'
   rename_i hn
   simp only[↓zq,zs,ac,aX,if_pos hn]
   exact⟨e.at,e.sp,hd,rfl,fun h=>by cases h⟩
def nA(s v:List UInt8)(n:Int):Option Vl:=match jB s,se v with
 |some e,some w=>if(0<=n/\n<=100)/\eW n.toNat w (e,[])=true then some w else none
 |_,_=>none
theorem oV{s v:List UInt8}{n:Int}{w:Vl}(h:nA s v n=some w):∃e t m,jB s=some e/\se v=some w/\xb s=some t/\Ask e [] t/\n=(m:Nat)/\m<=100/\eW m w (e,[])=true:=by
 unfold nA at h
 split at h
 ·rename_i e w' he hw
  split at h
  ·rename_i hh
   cases h
   obtain⟨t,h1,h2,_⟩:=gR he
   exact⟨e,t,n.toNat,he,hw,h1,h2,by omega,by omega,hh.2⟩
  ·cases h
 ·cases h
theorem LN(s v:List UInt8)(n:Int):aq Tryz.prog 71 [.v (.string (mk s)),.v (.string (mk v)),.v (.int .i64 n)] [] (bK (.cD [ia (xb s),jl (nA s v n)])):=by
 refine P1 _ _ _ ?_
 unfold K7
 refine ai (Mb s) ?_
 simp only[↓zq,zs,ac,iu]
 refine ai (OD v) ?_
 simp only[↓zq,zs,ac,gr,bK]
 unfold nA
 cases he:jB s with
 |none=>rw[nj he];cases se v<;>simp[ia,jl,↓zq,zs,ac]
 |
  some e =>
  obtain⟨t,h1,h2,h3,h4,h5,_⟩:=gR he
  rw[h1]
  cases hv:se v with
  |none=>simp only[ia,jl,aF,fM,↓zq,zs,ac];exact⟨fun h=>(by cases h),fun _=>⟨fun _=>trivial,fun h=>(by cases h)⟩⟩
  |
   some w =>
   obtain⟨h6,h7,h8⟩:=lq hv
   simp only[ia,jl,aF,fM,aO,fy,↓zq,zs,ac]
   refine⟨fun h=>(by cases h),fun _=>⟨fun h=>(by cases h),fun _=>⟨fun h=>?_,fun h=>⟨fun h'=>?_,fun h'=>?_⟩⟩⟩⟩
   ·rw[if_neg (by omega)]
   ·rw[if_neg (by omega)]
   ·obtain⟨m,rfl⟩:∃m:Nat,n=(m:Int):=⟨n.toNat,by omega⟩
    have hi:=Mg m (by omega) (w.nodes+1) w (by omega) h7 e [] t h2 (by simp;omega)
    unfold qe at hi
    refine ai hi ?_
    simp only[↓zq,zs,ac,bZ]
    refine⟨fun hq=>?_,fun hq=>?_⟩
    ·rw[if_neg (by rw[hq];simp)]
    ·rw[if_pos ⟨by omega,hq⟩]
theorem zG(s v:List UInt8)(n:Int):aq Tryz.prog 90 [.v (.string (mk s)),.v (.string (mk v)),.v (.int .i64 n)] [] (bK (.v (.bool (nA s v n).isSome))):=by
 refine Rq _ _ _ ?_
 unfold JX
 refine aQ (EU s) (jG.ne _ _ (fun h=>h)) ?_
 rintro r o ⟨c,d,hd,rfl,hh⟩
 have hhas:bH [.str,.sl] [.v (.string (mk c)),d] 0:=by simp[bH,dW,hd]
 simp only[↓zq,zs,ac,zt]
 refine⟨hhas,?_⟩
 refine aQ (D0 v) (jG.ne _ _ (fun h=>by cases hq:se v<;>simp[hq]at h |-)) ?_
 rintro r o ⟨c',d',hd',rfl,hh'⟩
 have hhas':bH [.str,.sl] [.v (.string (mk c')),d'] 0:=by simp[bH,dW,hd']
 simp only[↓zq,zs,ac,zt,bK]
 refine⟨hhas',fun h=>⟨fun h2=>?_,fun h2=>?_⟩,fun h=>?_⟩
 ·obtain⟨e,he,hce⟩:=hh h
  obtain⟨t,h1,hA,h3,h4,h5,_⟩:=gR he
  obtain⟨w,hw⟩:=bR.1 h2
  obtain⟨e2,he2,hce2⟩:=hh' h2
  rw[hw]at he2
  cases he2
  obtain⟨h6,h7,h8⟩:=lq hw
  refine ai (A4 _ _ _) ?_
  simp only[↓zq,zs,ac,Cs,nA,he,hw]
  refine⟨fun hq=>?_,fun hq=>?_⟩
  ·have hq':0<=n/\n<=100:=by simpa using hq
   obtain⟨m,rfl⟩:∃m:Nat,n=(m:Int):=⟨n.toNat,by omega⟩
   rw[hce,hce2]
   have:=RD m (by omega) w h7 e [] t hA (by simp;omega)
   rw[show j6 []=[] from rfl]at this
   refine ai this ?_
   simp only[↓zq,zs,ac,bZ]
   by_cases hb:eW m w (e,[])=true
   ·rw[if_pos ⟨hq',hb⟩,hb];rfl
   ·rw[if_neg (fun h=>hb h.2)]
    rw[Bool.not_eq_true]at hb
    rw[hb];rfl
  ·have hq':¬(0<=n/\n<=100):=by simpa using hq
   rw[if_neg (fun h=>hq' h.1)];rfl
 ·have hn:se v=none:=by cases hq:se v<;>simp[hq]at h2 |-
  unfold nA
  rw[hn];cases jB s<;>rfl
 ·have hn:jB s=none:=by cases hq:jB s<;>simp[hq]at h |-
  unfold nA
  rw[hn];rfl
end Go.Proofs.Trees
namespace Go.Proofs.Trees
open Go Go.VL Go.RowKit
inductive Tg where
 |nm (s:List UInt8)
 |bd (k:Nat)
 deriving DecidableEq
def Tg.up:Tg->Tg
 | .nm s=>.nm s
 | .bd k=>.bd (k+1)
def eB:Ty->Tg->Bool
 | .name s,.nm s'=>decide (s=s')
 | .bQ u,.bd k=>decide (u=k)
 |_,_=>false
abbrev Hl:=Vl×Vl
def iH(g:Vl->Vl)(l:List Hl):List Hl:=l.map fun h=>(g h.1,h.2)
def iL(f:Ty->Tg->Vl->List Hl)(tg:Tg):Ty->Vl->List Hl
 | .plus a _,.l w=>iH .l (f a tg w)
 | .plus _ b,.r w=>iH .r (f b tg w)
 | .times a b,.p x y=>iH (fun c=>.l (.p c y)) (f a tg x)++iH (fun c=>.r (.p x c)) (f b tg y)
 | .rc a,.f w=>iH (fun c=>.f (.l c)) (f a tg.up w)++(f a (.bd 0) w).flatMap fun h=>iH (fun c=>.f (.r (.p h.1 c))) (f (.rc a) tg h.2)
 |_,_=>[]
def dD:Nat->Ty->Tg->Vl->List Hl
 |0,_,_,_=>[]
 |n+1,t,tg,v=>if eB t tg=true then [(.u,v)]else iL (dD n) tg t v
def stuck:Ty->Vl->Bool
 | .plus _ _,.l _=>false
 | .plus _ _,.r _=>false
 | .times _ _,.p _ _=>false
 | .rc _,.f _=>false
 |_,_=>true
def cj(t:Ty)(tg:Tg)(v:Vl):List Hl:=dD v.nodes t tg v
theorem cY{g:Vl->Vl}{l:List Hl}{h:Hl}(hm:h∈iH g l):∃k,k∈l/\h=(g k.1,k.2):=by
 obtain⟨k,h1,h2⟩:=bO.1 hm
 exact⟨k,h1,h2.symm⟩
theorem iY{f g:Hl->List Hl}:∀{l:List Hl},(∀h,h∈l->f h=g h)->l.flatMap f=l.flatMap g
 |[],_=>rfl
 |h::l,hl=>by rw[List.flatMap_cons,List.flatMap_cons,hl h ak,iY (l:=l) fun k hk=>hl k (al _ hk)]
theorem fg:∀(n:Nat) (t:Ty) (tg:Tg) (v:Vl) (h:Hl),h∈dD n t tg v->h.2.nodes<=v.nodes/\h.1.nodes+4*h.2.nodes<=4*v.nodes+1
 |0,t,tg,v,h,hm=>by simp[dD]at hm
 |
  n+1,t,tg,v,h,hm=>by
  unfold dD at hm
  split at hm
  ·simp only[aV]at hm
   subst hm
   simp only[Vl.nodes];omega
  ·unfold iL at hm
   split at hm
   ·obtain⟨k,h1,rfl⟩:=cY hm
    have:=fg n _ _ _ k h1
    simp only[Vl.nodes];omega
   ·obtain⟨k,h1,rfl⟩:=cY hm
    have:=fg n _ _ _ k h1
    simp only[Vl.nodes];omega
   ·rcases aN.1 hm with hm|hm
    ·obtain⟨k,h1,rfl⟩:=cY hm
     have:=fg n _ _ _ k h1
     simp only[Vl.nodes];omega
    ·obtain⟨k,h1,rfl⟩:=cY hm
     have:=fg n _ _ _ k h1
     simp only[Vl.nodes];omega
   ·rcases aN.1 hm with hm|hm
    ·obtain⟨k,h1,rfl⟩:=cY hm
     have:=fg n _ _ _ k h1
     simp only[Vl.nodes];omega
    ·obtain⟨k,h1,h2⟩:=List.mem_flatMap.1 hm
     obtain⟨k2,h3,rfl⟩:=cY h2
     have:=fg n _ _ _ k h1
     have:=fg n _ _ _ k2 h3
     simp only[Vl.nodes];omega
   ·simp at hm
theorem gO:∀(n m:Nat) (t:Ty) (tg:Tg) (v:Vl),v.nodes<=n->v.nodes<=m->dD n t tg v=dD m t tg v
 |0,m,t,tg,v,h,_=>by have:=dm v;omega
 |n+1,0,t,tg,v,_,h=>by have:=dm v;omega
 |
  n+1,m+1,t,tg,v,hn,hm=>by
  rw[dD,dD]
  split
  ·rfl
  ·unfold iL
   split
   ·simp only[Vl.nodes]at hn hm;rw[gO n m _ _ _ (by omega) (by omega)]
   ·simp only[Vl.nodes]at hn hm;rw[gO n m _ _ _ (by omega) (by omega)]
   ·simp only[Vl.nodes]at hn hm;rw[gO n m _ _ _ (by omega) (by omega),gO n m _ _ _ (by omega) (by omega)]
   ·rename_i a w
    simp only[Vl.nodes]at hn hm;rw[gO n m _ _ _ (by omega) (by omega),gO n m _ (.bd 0) _ (by omega) (by omega)]
    congr 1
    apply iY
    intro h hh
    have:=(fg _ _ _ _ _ hh).1
    rw[gO n m _ _ _ (by omega) (by omega)]
   ·rfl
theorem oq{n:Nat}(t:Ty)(tg:Tg){v:Vl}(h:v.nodes<=n):dD n t tg v=cj t tg v:=gO _ _ _ _ _ h (au _)
theorem mC{t:Ty}{tg:Tg}(v:Vl)(h:eB t tg=true):cj t tg v=[(.u,v)]:=by
 have:=dm v
 unfold cj
 cases e:v.nodes with
 |zero=>omega
 |succ n=>rw[dD,if_pos h]
theorem mZ(a b:Ty)(tg:Tg)(w:Vl):cj (.plus a b) tg (.l w)=iH .l (cj a tg w):=by
 unfold cj;rw[show (Vl.l w).nodes=w.nodes+1 by simp[Vl.nodes];omega,dD,if_neg (by simp[eB])];rfl
theorem nf(a b:Ty)(tg:Tg)(w:Vl):cj (.plus a b) tg (.r w)=iH .r (cj b tg w):=by
 unfold cj;rw[show (Vl.r w).nodes=w.nodes+1 by simp[Vl.nodes];omega,dD,if_neg (by simp[eB])];rfl
theorem nk(a b:Ty)(tg:Tg)(x y:Vl):cj (.times a b) tg (.p x y)=iH (fun c=>.l (.p c y)) (cj a tg x)++iH (fun c=>.r (.p x c)) (cj b tg y):=by
 rw[cj,show (Vl.p x y).nodes=(x.nodes+y.nodes)+1 by simp[Vl.nodes];omega,dD,if_neg (by simp[eB])]
 rw[iL,oq a tg (by omega),oq b tg (by omega)]
theorem mS(a:Ty)(tg:Tg)(w:Vl):cj (.rc a) tg (.f w)=iH (fun c=>.f (.l c)) (cj a tg.up w)++(cj a (.bd 0) w).flatMap fun h=>iH (fun c=>.f (.r (.p h.1 c))) (cj (.rc a) tg h.2):=by
 rw[cj,show (Vl.f w).nodes=w.nodes+1 by simp[Vl.nodes];omega,dD,if_neg (by simp[eB])]
 rw[iL,oq a tg.up (au _),oq a (.bd 0) (au _)]
 congr 1
 apply iY
 intro h hh
 have:=(fg _ _ _ _ _ hh).1
 rw[oq (.rc a) tg this]
theorem dR{t:Ty}{tg:Tg}{v:Vl}(h:eB t tg=false)(h2:stuck t v=true):cj t tg v=[]:=by
 unfold cj
 cases e:v.nodes with
 |zero=>rfl
 |
  succ n =>
  rw[dD,if_neg (by rw[h];simp)]
  unfold iL
  split<;>first|(simp[stuck]at h2;done)|rfl
theorem il{t:Ty}{tg:Tg}{v:Vl}{h:Hl}(hm:h∈cj t tg v):h.2.nodes<=v.nodes/\h.1.nodes+4*h.2.nodes<=4*v.nodes+1:=fg _ _ _ _ _ hm
theorem hG(n:Nat):∀(m:Nat) (t:Ty) (tg:Tg) (v:Vl) (h:Hl),v.ic n->h∈dD m t tg v->h.1.ic n/\h.2.ic n
 |0,t,tg,v,h,hv,hm=>by simp[dD]at hm
 |
  m+1,t,tg,v,h,hv,hm=>by
  unfold dD at hm
  split at hm
  ·simp only[aV]at hm
   subst hm
   exact⟨trivial,hv⟩
  ·unfold iL at hm
   split at hm
   ·obtain⟨k,h1,rfl⟩:=cY hm
    exact(fun q=>hG n m _ _ _ k q h1) hv
   ·obtain⟨k,h1,rfl⟩:=cY hm
    exact(fun q=>hG n m _ _ _ k q h1) hv
   ·rcases aN.1 hm with hm|hm
    ·obtain⟨k,h1,rfl⟩:=cY hm
     obtain⟨q1,q2⟩:=hG n m _ _ _ k hv.1 h1
     exact⟨⟨q1,hv.2⟩,q2⟩
    ·obtain⟨k,h1,rfl⟩:=cY hm
     obtain⟨q1,q2⟩:=hG n m _ _ _ k hv.2 h1
     exact⟨⟨hv.1,q1⟩,q2⟩
   ·rcases aN.1 hm with hm|hm
    ·obtain⟨k,h1,rfl⟩:=cY hm
     exact(fun q=>hG n m _ _ _ k q h1) hv
    ·obtain⟨k,h1,h2⟩:=List.mem_flatMap.1 hm
     obtain⟨k2,h3,rfl⟩:=cY h2
     obtain⟨q1,q2⟩:=(fun q=>hG n m _ _ _ k q h1) hv
     obtain⟨q3,q4⟩:=hG n m _ _ _ k2 q2 h3
     exact⟨⟨q1,q3⟩,q4⟩
   ·simp at hm
def kR(l:List Hl):Nat:=(l.map fun h=>h.2.nodes).sum
theorem rF(l r:List Hl):kR (l++r)=kR l+kR r:=by simp[kR]
theorem n6(g:Vl->Vl)(l:List Hl):kR (iH g l)=kR l:=by simp[kR,iH,Function.comp_def]
def kD(f:Tg->Nat)(T:List Tg):Nat:=(T.map f).sum
theorem oz(f g:Tg->Nat):∀T:List Tg,kD (fun x=>f x+g x) T=kD f T+kD g T
 |[]=>rfl
 |x::T=>by have:=oz f g T;simp only[kD,bC,List.sum_cons]at this |-;omega
theorem yM{f g:Tg->Nat}:∀{T:List Tg},(∀x,x∈T->f x<=g x)->kD f T<=kD g T
 |[],_=>au _
 |
  x::T,h=>by
  have:=yM (T:=T) fun y hy=>h y (al _ hy)
  have:=h x ak
  simp only[kD,bC,List.sum_cons]at *;omega
theorem pC{f:Tg->Nat}:∀{T:List Tg},(∀x,x∈T->f x=0)->kD f T=0
 |[],_=>rfl
 |
  x::T,h=>by
  have:=pC (T:=T) fun y hy=>h y (al _ hy)
  have:=h x ak
  simp only[kD,bC,List.sum_cons]at *;omega
theorem sS(g:Hl->Tg->Nat)(T:List Tg):∀l:List Hl,kD (fun x=>(l.map fun h=>g h x).sum) T=(l.map fun h=>kD (g h) T).sum
 |[]=>pC fun _ _=>rfl
 |
  h::l=>by
  have:=sS g T l
  simp only[bC,List.sum_cons]
  rw[oz,this]
theorem sD(f:Hl->List Hl):∀l:List Hl,kR (l.flatMap f)=(l.map fun h=>kR (f h)).sum
 |[]=>rfl
 |h::l=>by rw[List.flatMap_cons,rF,sD f l];simp
theorem AG{f g:Hl->Nat}:∀{l:List Hl},(∀x,x∈l->f x<=g x)->(l.map f).sum<=(l.map g).sum
 |[],_=>au _
 |
  x::l,h=>by
  have:=AG (l:=l) fun y hy=>h y (al _ hy)
  have:=h x ak
  simp only[bC,List.sum_cons]at *;omega
theorem B7{t:Ty}{x y:Tg}(h:eB t x=true)(h':eB t y=true):x=y:=by
 cases t<;>cases x<;>cases y<;>simp[eB]at h h'<;>simp_all
theorem xR{t:Ty}(n:Nat):∀{T:List Tg},T.Nodup->kD (fun x=>if eB t x=true then n else 0) T<=n
 |[],_=>dP _
 |
  x::T,h=>by
  obtain⟨h1,h2⟩:=List.nodup_cons.1 h
  have ih:=xR (t:=t) n h2
  by_cases hx:eB t x=true
  ·have:kD (fun x=>if eB t x=true then n else 0) T=0:=pC fun y hy=>by
    rw[if_neg fun hy'=>h1 (by rw[B7 hx hy'];exact hy)]
   simp only[kD,bC,List.sum_cons]at *
   rw[if_pos hx];omega
  ·simp only[kD,bC,List.sum_cons]at *
   rw[if_neg hx];omega
theorem BI{T:List Tg}(h:T.Nodup):(Tg.bd 0::T.map Tg.up).Nodup:=by
 refine List.nodup_cons.2 ⟨fun hm=>?_,?_⟩
 ·obtain⟨x,_,e⟩:=bO.1 hm
  cases x<;>simp[Tg.up]at e
 ·refine List.Pairwise.map _ (fun a b hab e=>hab ?_) h
  cases a<;>cases b<;>simp[Tg.up]at e<;>simp_all
theorem apart:∀(n:Nat) (v:Vl),v.nodes<=n->∀(t:Ty) (T:List Tg),T.Nodup->kD (fun x=>kR (cj t x v)) T<=v.nodes
 |0,v,h=>by have:=dm v;omega
 |
  n+1,v,hn=>by
  intro t T hT
  have base:∀(hno:∀x,eB t x=false->cj t x v=[]),kD (fun x=>kR (cj t x v)) T<=v.nodes:=fun hno=>by
   refine Nat.le_trans (yM fun x _=>?_) (xR (t:=t) v.nodes hT)
   cases e:eB t x with
   |true=>rw[mC v e];simp[kR]
   |false=>rw[hno x e];simp[kR]
  cases hm:stuck t v with
  |true=>exact base fun x hx=>dR hx hm
  |
   false =>
   unfold stuck at hm
   split at hm
   ·rename_i a b w
    simp only[Vl.nodes]at hn |-
    simp only[mZ,n6]
    have:=apart n w (by omega) a T hT
    omega
   ·rename_i a b w
    simp only[Vl.nodes]at hn |-
    simp only[nf,n6]
    have:=apart n w (by omega) b T hT
    omega
   ·rename_i a b x y
    simp only[Vl.nodes]at hn |-
    simp only[nk,rF,n6]
    rw[oz]
    have:=apart n x (by omega) a T hT
    have:=apart n y (by omega) b T hT
    omega
   ·rename_i a w
    simp only[Vl.nodes]at hn |-
    simp only[mS,rF,n6,sD]
    rw[oz,sS]
    have h1:=apart n w (by omega) a _ (BI hT)
    simp only[kD,bC,List.sum_cons,List.map_map]at h1
    have h2:((cj a (.bd 0) w).map fun h=>kD (fun x=>kR (cj (.rc a) x h.2)) T).sum<=kR (cj a (.bd 0) w):=AG fun h hh=>by
     have:=(il hh).1
     exact apart n h.2 (by omega) (.rc a) T hT
    simp only[kD,Function.comp_def]at h1 h2 |-
    omega
   ·cases hm
theorem rP(t:Ty)(tg:Tg)(v:Vl):kR (cj t tg v)<=v.nodes:=by
 have:=apart v.nodes v (au _) t [tg] (by simp)
 simpa[kD]using this
theorem mO:∀l:List Hl,l.length<=kR l
 |[]=>dP _
 |
  h::l=>by
  have:=mO l
  have:=dm h.2
  simp only[kR,bC,List.sum_cons,az]at *;omega
theorem mW(t:Ty)(tg:Tg)(v:Vl):(cj t tg v).length<=v.nodes:=Nat.le_trans (mO _) (rP t tg v)
end Go.Proofs.Trees
namespace Go.Proofs.Trees
open Go Go.VL Go.RowKit
def gk(ar:List (List UInt8))(k:Nat):List UInt8:=ar.getD (ar.length-1-k) []
theorem fG{s:List UInt8}{ar:List (List UInt8)}:∀(i u:Nat),i<=ar.length->bN s ar i=some u->u<ar.length/\gk ar u=s
 |0,u,_,h=>by cases h
 |
  i+1,u,hi,h=>by
  rw[bN]at h
  split at h
  ·rename_i e
   cases h
   refine⟨by omega,?_⟩
   rw[gk,show ar.length-1-(ar.length-1-i)=i by omega];exact e
  ·exact fG i u (by omega) h
def uU:Ty->Tg->Bool
 | .plus a b,tg=>uU a tg||uU b tg
 | .times a b,tg=>uU a tg||uU b tg
 | .rc a,tg=>uU a tg.up
 |t,tg=>eB t tg
theorem iZ:∀(n:Nat) (v:Vl),v.nodes<=n->∀(t:Ty) (tg:Tg),uU t tg=false->cj t tg v=[]
 |0,v,h=>by have:=dm v;omega
 |
  n+1,v,hn=>by
  intro t tg ho
  cases hm:stuck t v with
  |
   true =>
   refine dR ?_ hm
   cases t<;>first|exact ho|rfl
  |
   false =>
   unfold stuck at hm
   split at hm
   ·simp only[Vl.nodes]at hn
    simp only[uU,cb]at ho
    rw[mZ,iZ n _ (by omega) _ _ ho.1];rfl
   ·simp only[Vl.nodes]at hn
    simp only[uU,cb]at ho
    rw[nf,iZ n _ (by omega) _ _ ho.2];rfl
   ·simp only[Vl.nodes]at hn
    simp only[uU,cb]at ho
    rw[nk,iZ n _ (by omega) _ _ ho.1,iZ n _ (by omega) _ _ ho.2];rfl
   ·rename_i a w
    simp only[Vl.nodes]at hn
    have ho':uU a tg.up=false:=ho
    rw[mS,iZ n _ (by omega) _ _ ho']
    have:(cj a (.bd 0) w).flatMap (fun h=>iH (fun c=>.f (.r (.p h.1 c))) (cj (.rc a) tg h.2))=(cj a (.bd 0) w).flatMap (fun _=>[]):=iY fun h hh=>by
     have:=(il hh).1
     rw[iZ n h.2 (by omega) (.rc a) tg ho];rfl
    rw[this]
    induction cj a (.bd 0) w<;>simp_all[iH]
   ·cases hm
theorem kK:∀(e:E) (ar:List (List UInt8)) (t:Ty) (k:Nat),cS e ar=some t->uU t (.bd k)=true->k<ar.length/\bN (gk ar k) ar ar.length=some k
 |
  .atom s,ar,t,k,ht,ho=>by
  simp only[cS]at ht
  split at ht
  ·cases ht;cases ho
  ·split at ht
   ·cases ht;cases ho
   ·split at ht
    ·cases ht;cases ho
    ·split at ht
     ·split at ht
      ·rename_i u hu
       cases ht
       have:u=k:=by simpa[uU,eB]using ho
       subst this
       obtain⟨h1,h2⟩:=fG _ _ (au _) hu
       exact⟨h1,by rw[h2];exact hu⟩
      ·cases ht;cases ho
     ·cases ht
 |
  .list [x,a,b],ar,t,k,ht,ho=>by
  by_cases h0:x.at=[43]
  ·obtain⟨t1,t2,h1,h2,rfl⟩:=fH h0 ht
   simp only[uU,bz]at ho
   rcases ho with ho|ho
   ·exact kK a ar t1 k h1 ho
   ·exact kK b ar t2 k h2 ho
  ·by_cases h1:x.at=[42]
   ·obtain⟨t1,t2,h1,h2,rfl⟩:=fj h1 ht
    simp only[uU,bz]at ho
    rcases ho with ho|ho
    ·exact kK a ar t1 k h1 ho
    ·exact kK b ar t2 k h2 ho
   ·by_cases h2:x.at=[114,101,99]
    ·obtain⟨t1,_,h3,rfl⟩:=dz h2 ht
     obtain⟨q1,q2⟩:=kK b (ar++[a.at]) t1 (k+1) h3 ho
     simp only[an,az,aH]at q1
     have hk:k<ar.length:=by omega
     have e:gk (ar++[a.at]) (k+1)=gk ar k:=by
      unfold gk
      rw[an,show ar.length+[a.at].length-1-(k+1)=ar.length-1-k by simp;omega]
      simp[aa,List.getElem?_append_left (show ar.length-1-k<ar.length by omega)]
     rw[e]at q2
     refine⟨hk,?_⟩
     have e2:(ar++[a.at]).length=ar.length+1:=by simp
     rw[e2,bN]at q2
     split at q2
     ·rw[e2]at q2;simp at q2
     ·rw[j8 _ _ _ _ (au _)]at q2
      cases hq:bN (gk ar k) ar ar.length with
      |none=>rw[hq]at q2;cases q2
      |some u=>rw[hq]at q2;simpa using q2
    ·rw[jh _ h0 h1 h2]at ht;cases ht
 | .list [],ar,t,k,ht,ho=>by cases ht
 | .list [_],ar,t,k,ht,ho=>by cases ht
 | .list [_,_],ar,t,k,ht,ho=>by cases ht
 | .list (_::_::_::_::_),ar,t,k,ht,ho=>by cases ht
theorem fk(w:List UInt8)(ar:List (List UInt8)):bN w (ar++[w]) (ar++[w]).length=some 0:=by
 have e2:(ar++[w]).length=ar.length+1:=by simp
 rw[e2,bN,if_pos (by simp[aa]),e2];simp
theorem jC{s w:List UInt8}(ar:List (List UInt8))(h:w≠s):bN s (ar++[w]) (ar++[w]).length=(bN s ar ar.length).map (·+1):=by
 have e2:(ar++[w]).length=ar.length+1:=by simp
 rw[e2,bN,if_neg (by simpa[aa]using h),j8 _ _ _ _ (au _)]
theorem FJ{b:E}{ar:List (List UInt8)}{w:List UInt8}{t:Ty}{k:Nat}(hb:cS b (ar++[w])=some t)(hk:bN w ar ar.length=some k):uU t (.bd (k+1))=false:=by
 cases h:uU t (.bd (k+1))with
 |false=>rfl
 |
  true =>
  obtain⟨_,q2⟩:=kK _ _ _ _ hb h
  obtain⟨h1,h2⟩:=fG _ _ (au _) hk
  have e:gk (ar++[w]) (k+1)=gk ar k:=by
   unfold gk
   rw[an,show ar.length+[w].length-1-(k+1)=ar.length-1-k by simp;omega]
   simp[aa,List.getElem?_append_left (show ar.length-1-k<ar.length by omega)]
  rw[e,h2,fk]at q2
  cases q2
def oB(s:List UInt8)(ar:List (List UInt8)):Tg:=match bN s ar ar.length with|some u=>.bd u|none=>.nm s
theorem vH(w:List UInt8)(ar:List (List UInt8)):oB w (ar++[w])=.bd 0:=by rw[oB,fk]
theorem Af{s w:List UInt8}(ar:List (List UInt8))(h:w≠s):oB s (ar++[w])=(oB s ar).up:=by
 rw[oB,oB,jC ar h]
 cases bN s ar ar.length<;>rfl
theorem iv(n:Nat):∀(m:Nat) (v:Vl),v.nodes<=m->∀(e:E) (env:List Fr) (t:Ty),Ask e env t->eW n v (e,env)=true->∀(k:Nat) (f:Fr),env[k]?=some f->∀h,h∈cj t (.bd k) v->eW n h.2 (f.ex,f.out)=true
 |0,v,hm=>by have:=dm v;omega
 |
  m+1,v,hm=>by
  intro e env t A hv k f hf h hh
  rcases gp A.wf A.ty with⟨hb,hq⟩|⟨u,g,rfl,hq,hu⟩
  ·have hhd:hd e env=(e,env):=km hq
   rcases fK A.ty hb A.cl with⟨rfl,rfl⟩|⟨rfl,rfl⟩|⟨s,rfl,rfl,hp,h0,h1⟩|⟨x,a,b,t1,t2,rfl,hx,rfl,ha,hbb⟩|⟨x,a,b,t1,t2,rfl,hx,rfl,ha,hbb⟩|⟨x,a,b,t1,rfl,hx,rfl⟩
   ·rw[dR rfl (by cases v<;>rfl)]at hh;cases hh
   ·rw[dR rfl (by cases v<;>rfl)]at hh;cases hh
   ·rw[dR rfl (by cases v<;>rfl)]at hh;cases hh
   ·obtain⟨ok1,ok2,ok3,_⟩:=A.ok
    obtain⟨f1,f2⟩:=fm A.cl
    cases v with
    |
     l w =>
     simp only[eW,hhd,hx,beq_self_eq_true,bV]at hv
     simp only[Vl.nodes]at hm
     rw[mZ]at hh
     obtain⟨h2,h3,rfl⟩:=cY hh
     exact iv n m w (by omega) a env t1 ⟨ok2,A.wf,ha,f1⟩ hv k f hf h2 h3
    |
     r w =>
     simp only[eW,hhd,hx,beq_self_eq_true,bV]at hv
     simp only[Vl.nodes]at hm
     rw[nf]at hh
     obtain⟨h2,h3,rfl⟩:=cY hh
     exact iv n m w (by omega) b env t2 ⟨ok3,A.wf,hbb,f2⟩ hv k f hf h2 h3
    |_=>rw[dR rfl rfl]at hh;cases hh
   ·obtain⟨ok1,ok2,ok3,_⟩:=A.ok
    obtain⟨f1,f2⟩:=eV A.cl
    cases v with
    |
     p w w' =>
     simp only[eW,hhd,hx,beq_self_eq_true,bV,aw]at hv
     simp only[Vl.nodes]at hm
     rw[nk]at hh
     rcases aN.1 hh with hh|hh
     ·obtain⟨h2,h3,rfl⟩:=cY hh
      exact iv n m w (by omega) a env t1 ⟨ok2,A.wf,ha,f1⟩ hv.1 k f hf h2 h3
     ·obtain⟨h2,h3,rfl⟩:=cY hh
      exact iv n m w' (by omega) b env t2 ⟨ok3,A.wf,hbb,f2⟩ hv.2 k f hf h2 h3
    |_=>rw[dR rfl rfl]at hh;cases hh
   ·obtain⟨t1',he1,h1,f1,hw1⟩:=jq A.wf A.ok hx A.ty A.cl
    cases he1
    obtain⟨ok1,ok2,ok3,_⟩:=A.ok
    cases v with
    |
     f w =>
     simp only[eW,hhd,hx,beq_self_eq_true,bV]at hv
     simp only[Vl.nodes]at hm
     rw[mS]at hh
     have A':Ask b (.mk a.at (.list [x,a,b]) env::env) t1:=⟨ok3,hw1,h1,f1⟩
     rcases aN.1 hh with hh|hh
     ·obtain⟨h2,h3,rfl⟩:=cY hh
      exact iv n m w (by omega) b _ t1 A' hv (k+1) f (by simpa using hf) h2 h3
     ·obtain⟨kd,h2,h3⟩:=List.mem_flatMap.1 hh
      obtain⟨h4,h5,rfl⟩:=cY h3
      have hkd:=iv n m w (by omega) b _ t1 A' hv 0 _ rfl kd h2
      have:=(il h2).1
      exact iv n m kd.2 (by omega) (.list [x,a,b]) env _ A hkd k f hf h4 h5
    |_=>rw[dR rfl rfl]at hh;cases hh
  ·by_cases huk:u=k
   ·subst huk
    rw[hu]at hf;cases hf
    rw[mC v (by simp[eB])]at hh
    simp only[aV]at hh
    subst hh
    obtain⟨x,a,b,t',hfe,hok,hx,ht',hf',hwf,hlt⟩:=pd A.wf hq
    rw[<-uj n v (qR hq) (by rw[hfe];exact pq hwf)];exact hv
   ·rw[dR (by simpa[eB]using huk) (by cases v<;>rfl)]at hh;cases hh
end Go.Proofs.Trees
namespace Go.Proofs.Trees
open Go Go.VL Go.RowKit
def cR:E->List Nm->Ty
 | .atom s,ar=>if s=[48]then .zero else if s=[49]then .one else match bN s ar ar.length with|some u=>.bQ u|none=>.name s
 | .list [x,a,b],ar=>if x.at=[43]then .plus (cR a ar) (cR b ar)else if x.at=[42]then .times (cR a ar) (cR b ar)else .rc (cR b (ar++[a.at]))
 | .list _,_=>.zero
def qP(s:Nm):Prop:=s≠[]/\s≠[48]/\s≠[49]
inductive Wf:E->Prop
 |atom {s} (h:s≠[]):Wf (.atom s)
 |plus {a b} (ha:Wf a) (hb:Wf b):Wf (.list [.atom [43],a,b])
 |times {a b} (ha:Wf a) (hb:Wf b):Wf (.list [.atom [42],a,b])
 |rc {n b} (hn:qP n) (hb:Wf b):Wf (.list [.atom [114,101,99],.atom n,b])
theorem dJ(a b:E)(ar:List Nm):cR (.list [.atom [43],a,b]) ar=.plus (cR a ar) (cR b ar):=by rw[cR,if_pos (show (E.atom [43]).at=[43] from rfl)]
theorem dr(a b:E)(ar:List Nm):cR (.list [.atom [42],a,b]) ar=.times (cR a ar) (cR b ar):=by rw[cR,if_neg (by decide),if_pos (show (E.atom [42]).at=[42] from rfl)]
theorem ff(a b:E)(ar:List Nm):cR (.list [.atom [114,101,99],a,b]) ar=.rc (cR b (ar++[a.at])):=by rw[cR,if_neg (by decide),if_neg (by decide)]
theorem Wf.ok{e:E}(h:Wf e):e.ok:=by
 induction h with
 |atom h=>exact h
 |plus ha hb i1 i2=>exact⟨by simp[E.ok],i1,i2,trivial⟩
 |times ha hb i1 i2=>exact⟨by simp[E.ok],i1,i2,trivial⟩
 |rc hn hb i=>exact⟨by simp[E.ok],hn.1,i,trivial⟩
theorem Wf.db{e:E}(h:Wf e):∀ar,e.db=(cR e ar).aE:=by
 induction h with
 |
  @atom s h =>
  intro ar
  simp only[E.db,cR]
  split
  ·rfl
  ·split
   ·rfl
   ·split<;>rfl
 |plus ha hb i1 i2=>intro ar;rw[dJ];simp only[E.db,E.eU,Ty.aE,<-i1 ar,<-i2 ar];omega
 |times ha hb i1 i2=>intro ar;rw[dr];simp only[E.db,E.eU,Ty.aE,<-i1 ar,<-i2 ar];omega
 |@rc n b hn hb i=>intro ar;rw[ff];simp only[E.db,E.eU,Ty.aE,<-i];omega
theorem Wf.sz{e:E}(h:Wf e):e.sz<=3*e.db:=by
 induction h with
 |atom h=>simp[E.sz,E.db]
 |plus ha hb i1 i2=>simp only[E.sz,E.jr,E.db,E.eU];omega
 |times ha hb i1 i2=>simp only[E.sz,E.jr,E.db,E.eU];omega
 |rc hn hb i=>simp only[E.sz,E.jr,E.db,E.eU];omega
theorem kf:∀(e:E) (ar:List Nm) (t:Ty),e.ok->(∀w,w∈ar->dh w=true)->cS e ar=some t->Wf e/\cR e ar=t
 |
  .atom s,ar,t,hok,hl,ht=>by
  refine⟨.atom hok,?_⟩
  simp only[cS,cR]at ht |-
  split at ht
  ·rename_i h;rw[if_pos h];simpa using ht
  ·rename_i h;rw[if_neg h]
   split at ht
   ·rename_i h1;rw[if_pos h1];simpa using ht
   ·rename_i h1;rw[if_neg h1]
    split at ht
    ·rename_i hp
     cases q:bN s ar ar.length with
     |none=>simpa using ht
     |
      some u =>
      obtain⟨h1,h2⟩:=fG _ _ (au _) q
      have:=hl (gk ar u) (by
       unfold gk
       have:ar.length-1-u<ar.length:=by omega
       simp[aa,this])
      rw[h2,kl hp]at this;cases this
    ·split at ht
     ·split at ht<;>rename_i q<;>rw[q]<;>simpa using ht
     ·cases ht
 |
  .list [x,a,b],ar,t,hok,hl,ht=>by
  obtain⟨ok1,ok2,ok3,_⟩:=hok
  by_cases h0:x.at=[43]
  ·obtain⟨t1,t2,h1,h2,rfl⟩:=fH h0 ht
   obtain rfl:=ka h0 (by simp)
   obtain⟨w1,e1⟩:=kf a ar t1 ok2 hl h1
   obtain⟨w2,e2⟩:=kf b ar t2 ok3 hl h2
   exact⟨.plus w1 w2,by rw[dJ,e1,e2]⟩
  ·by_cases h1:x.at=[42]
   ·obtain⟨t1,t2,h2,h3,rfl⟩:=fj h1 ht
    obtain rfl:=ka h1 (by simp)
    obtain⟨w1,e1⟩:=kf a ar t1 ok2 hl h2
    obtain⟨w2,e2⟩:=kf b ar t2 ok3 hl h3
    exact⟨.times w1 w2,by rw[dr,e1,e2]⟩
   ·by_cases h2:x.at=[114,101,99]
    ·obtain⟨t1,hla,h3,rfl⟩:=dz h2 ht
     obtain rfl:=ka h2 (by simp)
     have hne:a.at≠[]:=by intro e;rw[e]at hla;cases hla
     have ha:a=.atom a.at:=ka rfl hne
     obtain⟨w1,e1⟩:=kf b (ar++[a.at]) t1 ok3 (fun w hw=>by
      rcases aN.1 hw with hw|hw
      ·exact hl w hw
      ·simp only[aV]at hw;rw[hw];exact hla) h3
     have hN:qP a.at:=⟨hne,fun e=>by rw[e]at hla;revert hla;decide,fun e=>by rw[e]at hla;revert hla;decide⟩
     refine⟨?_,by rw[ff,e1]⟩
     rw[ha];exact .rc hN w1
    ·rw[jh _ h0 h1 h2]at ht;cases ht
 | .list [],ar,t,_,_,ht=>by cases ht
 | .list [_],ar,t,_,_,ht=>by cases ht
 | .list [_,_],ar,t,_,_,ht=>by cases ht
 | .list (_::_::_::_::_),ar,t,_,_,ht=>by cases ht
theorem fw(s:Nm)(ar:List Nm):bN s ar ar.length=none↔s∉ar:=by
 have:=my s ar ar.length (au _)
 rwa[List.take_length]at this
theorem nL(s:Nm)(ar:List Nm):∀(n:Nat) (br:List Nm),br.length=n->bN s (ar++br) (ar++br).length=match bN s br br.length with|some u=>some u|none=>(bN s ar ar.length).map (·+br.length)
 |
  0,br,h=>by
  obtain rfl:=List.eq_nil_of_length_eq_zero h
  rw[cX]
  cases h:bN s ar ar.length<;>simp[bN]
 |
  n+1,br,h=>by
  obtain⟨b2,w,rfl⟩:∃b2 w,br=b2++[w]:=⟨br.dropLast,br.getLast (by intro e;rw[e]at h;cases h),(List.dropLast_concat_getLast _).symm⟩
  rw[<-bc]
  by_cases hw:w=s
  ·subst hw;rw[fk,fk]
  ·rw[jC _ hw,jC _ hw,nL s ar n b2 (by simpa using h)]
   cases bN s b2 b2.length with
   |some u=>rfl
   |
    none =>
    cases bN s ar ar.length with
    |none=>rfl
    |some u=>simp only[Option.map_none,cz,an,az,aH];congr 1
theorem tK(ar:List Nm){e:E}(h:Wf e):∀br,(∀y,bn y (cR e br)=true->y∉ar)->cR e (ar++br)=cR e br:=by
 induction h with
 |
  @atom s h =>
  intro br hy
  simp only[cR]at hy |-
  split
  ·rfl
  ·rename_i h0
   split
   ·rfl
   ·rename_i h1
    rw[if_neg h0,if_neg h1]at hy
    rw[nL s ar _ br rfl]
    cases q:bN s br br.length with
    |some u=>rfl
    |
     none =>
     rw[q]at hy
     have:=(fw s ar).2 (hy s (by simp[bn]))
     rw[this];rfl
 |
  plus ha hb i1 i2 =>
  intro br hy
  rw[dJ]at hy |-
  rw[dJ,i1 br fun y h=>hy y (by simp[bn,h]),i2 br fun y h=>hy y (by simp[bn,h])]
 |
  times ha hb i1 i2 =>
  intro br hy
  rw[dr]at hy |-
  rw[dr,i1 br fun y h=>hy y (by simp[bn,h]),i2 br fun y h=>hy y (by simp[bn,h])]
 |
  @rc n b hn hb i =>
  intro br hy
  rw[ff]at hy |-
  rw[ff,bc,i _ hy]
theorem yQ(x:Nm){e:E}(h:Wf e):∀ar,cR e ar=dB (.name x) (cR e ([x]++ar)) ar.length:=by
 induction h with
 |
  @atom s h =>
  intro ar
  simp only[cR]
  split
  ·rfl
  ·split
   ·rfl
   ·rw[nL s [x] _ ar rfl]
    cases q:bN s ar ar.length with
    |
     some u =>
     have:=(fG _ _ (au _) q).1
     simp only[dB];rw[if_neg (by omega)]
    |
     none =>
     by_cases hx:x=s
     ·subst hx
      have:bN x [x] [x].length=some 0:=fk x []
      rw[this];simp[dB]
     ·have:bN s [x] [x].length=none:=(fw s [x]).2 (by simpa using fun e=>hx e.symm)
      rw[this];rfl
 |plus ha hb i1 i2=>intro ar;rw[dJ,dJ,dB,<-i1 ar,<-i2 ar]
 |times ha hb i1 i2=>intro ar;rw[dr,dr,dB,<-i1 ar,<-i2 ar]
 |
  @rc n b hn hb i =>
  intro ar
  rw[ff,ff,dB,i (ar++[E.at (.atom n)]),bc]
  simp
theorem na{e:E}(h:Wf e):∀ar y,bn y (cR e ar)=true->qP y/\y∉ar:=by
 induction h with
 |
  @atom s h =>
  intro ar y hy
  simp only[cR]at hy
  split at hy
  ·cases hy
  ·rename_i h0
   split at hy
   ·cases hy
   ·rename_i h1
    split at hy
    ·cases hy
    ·rename_i q
     simp only[bn,decide_eq_true_eq]at hy
     subst hy
     exact⟨⟨h,h0,h1⟩,(fw _ _).1 q⟩
 |
  plus ha hb i1 i2 =>
  intro ar y hy
  rw[dJ]at hy
  simp only[bn,bz]at hy
  rcases hy with hy|hy
  ·exact i1 ar y hy
  ·exact i2 ar y hy
 |
  times ha hb i1 i2 =>
  intro ar y hy
  rw[dr]at hy
  simp only[bn,bz]at hy
  rcases hy with hy|hy
  ·exact i1 ar y hy
  ·exact i2 ar y hy
 |
  rc hn hb i =>
  intro ar y hy
  rw[ff]at hy
  obtain⟨h1,h2⟩:=i _ y hy
  exact⟨h1,fun h=>h2 (aC _ h)⟩
theorem lS{e:E}(h:Wf e):∀(bd l:List Nm) (y:Nm),y∈kb e bd l↔y∈l\/bn y (cR e bd)=true:=by
 induction h with
 |
  @atom s h =>
  intro bd l y
  simp only[kb,cR]
  by_cases h0:s=[48]
  ·simp[h0,bn]
  ·by_cases h1:s=[49]
   ·simp[h1,bn]
   ·rw[if_neg h0,if_neg h1]
    by_cases h2:s∈bd
    ·cases q:bN s bd bd.length with
     |none=>exact absurd h2 ((fw _ _).1 q)
     |some u=>simp[h2,bn]
    ·rw[(fw _ _).2 h2]
     simp only[h0,h1,h2,false_or,bn,decide_eq_true_eq]
     by_cases h3:s∈l
     ·simp only[h3,if_true]
      exact⟨fun h=>.inl h,fun h=>by rcases h with h|rfl<;>assumption⟩
     ·simp only[h3,if_false,aN,aV,eq_comm]
 |
  plus ha hb i1 i2 =>
  intro bd l y
  rw[kb,if_neg (by decide),dJ,i2,i1]
  simp[bn,or_assoc]
 |
  times ha hb i1 i2 =>
  intro bd l y
  rw[kb,if_neg (by decide),dr,i2,i1]
  simp[bn,or_assoc]
 |
  rc hn hb i =>
  intro bd l y
  rw[kb,if_pos (show (E.atom [114,101,99]).at=[114,101,99] from rfl),ff,i]
  rfl
theorem eQ:∀(t:Ty) (out:List Nm) (y:Nm),y∈bM t out↔y∈out\/bn y t=true
 |
  .name s,out,y=>by
  simp only[bM,pS,bn,decide_eq_true_eq]
  split
  ·rename_i h;exact⟨fun h=>.inl h,fun h'=>by rcases h' with h'|rfl<;>assumption⟩
  ·simp[eq_comm]
 | .plus a b,out,y=>by rw[bM,eQ b,eQ a];simp[bn,or_assoc]
 | .times a b,out,y=>by rw[bM,eQ b,eQ a];simp[bn,or_assoc]
 | .rc a,out,y=>by rw[bM,eQ a];rfl
 | .zero,out,y=>by simp[bM,bn]
 | .one,out,y=>by simp[bM,bn]
 | .bQ k,out,y=>by simp[bM,bn]
end Go.Proofs.Trees
namespace Go.Proofs.Trees
open Go Go.VL Go.RowKit
abbrev dE:Nm:=[114,101,99]
theorem dS(s:Nm):(E.atom s).at=s:=rfl
def rX(x:Nm)(u:E):E->E
 | .atom s=>if s=x then u else .atom s
 | .list [h,a,b]=>if h.at=dE then(if a.at=x then .list [h,a,b]else .list [.atom dE,a,rX x u b])else .list [.atom h.at,rX x u a,rX x u b]
 | .list l=>.list l
def nn(x:Nm):E->Nat
 | .atom s=>if s=x then 1 else 0
 | .list [h,a,b]=>if h.at=dE then(if a.at=x then 0 else nn x b)else nn x a+nn x b
 | .list _=>0
def tG(p:Nm->Prop):E->Prop
 | .atom _=>True
 | .list [h,a,b]=>(if h.at=dE then p a.at else tG p a)/\tG p b
 | .list _=>True
def fq(x:Nm):Ty->Nat
 | .name s=>if s=x then 1 else 0
 | .plus a b=>fq x a+fq x b
 | .times a b=>fq x a+fq x b
 | .rc a=>fq x a
 |_=>0
theorem vr(x:Nm)(u a b:E):rX x u (.list [.atom [43],a,b])=.list [.atom [43],rX x u a,rX x u b]:=by rw[rX,if_neg (by decide)];rfl
theorem sX(x:Nm)(u a b:E):rX x u (.list [.atom [42],a,b])=.list [.atom [42],rX x u a,rX x u b]:=by rw[rX,if_neg (by decide)];rfl
theorem Bw(x:Nm)(u:E)(n:Nm)(b:E):rX x u (.list [.atom dE,.atom n,b])=if n=x then .list [.atom dE,.atom n,b]else .list [.atom dE,.atom n,rX x u b]:=by rw[rX,if_pos (dS _)];rfl
theorem rO(x:Nm)(a b:E):nn x (.list [.atom [43],a,b])=nn x a+nn x b:=by rw[nn,if_neg (by decide)]
theorem pJ(x:Nm)(a b:E):nn x (.list [.atom [42],a,b])=nn x a+nn x b:=by rw[nn,if_neg (by decide)]
theorem wX(x:Nm)(n:Nm)(b:E):nn x (.list [.atom dE,.atom n,b])=if n=x then 0 else nn x b:=by rw[nn,if_pos (dS _)];rfl
theorem oj(p:Nm->Prop)(a b:E):tG p (.list [.atom [43],a,b])↔tG p a/\tG p b:=by rw[tG,if_neg (by decide)]
theorem mX(p:Nm->Prop)(a b:E):tG p (.list [.atom [42],a,b])↔tG p a/\tG p b:=by rw[tG,if_neg (by decide)]
theorem uC(p:Nm->Prop)(n:Nm)(b:E):tG p (.list [.atom dE,.atom n,b])↔p n/\tG p b:=by rw[tG,if_pos (dS _)];rfl
theorem BD{p q:Nm->Prop}(h:∀n,p n->q n){e:E}(hw:Wf e):tG p e->tG q e:=by
 induction hw with
 |atom _=>exact fun _=>trivial
 |plus _ _ i1 i2=>rw[oj,oj];exact fun g=>⟨i1 g.1,i2 g.2⟩
 |times _ _ i1 i2=>rw[mX,mX];exact fun g=>⟨i1 g.1,i2 g.2⟩
 |rc _ _ i=>rw[uC,uC];exact fun g=>⟨h _ g.1,i g.2⟩
theorem jb{s:Nm}(hs:qP s){ar:List Nm}(h:s∉ar):cR (.atom s) ar=.name s:=by
 simp only[cR];rw[if_neg hs.2.1,if_neg hs.2.2,(fw s ar).2 h]
theorem DI{x:Nm}(hx:qP x){u:E}(hu:Wf u){e:E}(h:Wf e):tG (fun n=>n≠x/\bn n (cR u [])=false) e->∀ar,x∉ar->(∀y,y∈ar->bn y (cR u [])=false)->Wf (rX x u e)/\cR (rX x u e) ar=sub x (cR u []) (cR e ar):=by
 induction h with
 |
  @atom s hs =>
  intro _ ar har hy
  by_cases e:s=x
  ·subst e
   have:cR u (ar++[])=cR u []:=tK ar hu [] fun y hy' hm=>by rw[hy y hm]at hy';cases hy'
   rw[cX]at this
   rw[jb hx har]
   simp only[rX,sub,if_true]
   exact⟨hu,this⟩
  ·simp only[rX,if_neg e]
   refine⟨.atom hs,?_⟩
   simp only[cR]
   split
   ·rfl
   ·split
    ·rfl
    ·split
     ·rfl
     ·simp only[sub,if_neg e]
 |
  plus ha hb i1 i2 =>
  intro hap ar har hy
  rw[oj]at hap
  obtain⟨w1,e1⟩:=i1 hap.1 ar har hy
  obtain⟨w2,e2⟩:=i2 hap.2 ar har hy
  rw[vr,dJ,dJ,e1,e2]
  exact⟨.plus w1 w2,rfl⟩
 |
  times ha hb i1 i2 =>
  intro hap ar har hy
  rw[mX]at hap
  obtain⟨w1,e1⟩:=i1 hap.1 ar har hy
  obtain⟨w2,e2⟩:=i2 hap.2 ar har hy
  rw[sX,dr,dr,e1,e2]
  exact⟨.times w1 w2,rfl⟩
 |
  @rc n b hn hb i =>
  intro hap ar har hy
  rw[uC]at hap
  obtain⟨w1,e1⟩:=i hap.2 (ar++[n]) (by
   simp only[aN,aV]
   rintro(h|h)
   ·exact har h
   ·exact hap.1.1 h.symm) (fun y hm=>by
   simp only[aN,aV]at hm
   rcases hm with hm|rfl
   ·exact hy y hm
   ·exact hap.1.2)
  rw[Bw,if_neg hap.1.1,ff,ff]
  refine⟨.rc hn w1,?_⟩
  show Ty.rc (cR (rX x u b) (ar++[n]))=_
  rw[e1];rfl
theorem CW{x:Nm}(hx:qP x){e:E}(h:Wf e):∀ar,fq x (cR e ar)=if x∈ar then 0 else nn x e:=by
 induction h with
 |
  @atom s hs =>
  intro ar
  by_cases e:s=x
  ·subst e
   by_cases hm:s∈ar
   ·rw[if_pos hm]
    simp only[cR];rw[if_neg hx.2.1,if_neg hx.2.2]
    cases q:bN s ar ar.length with
    |none=>exact absurd hm ((fw _ _).1 q)
    |some u=>rfl
   ·rw[if_neg hm,jb hx hm];simp[fq,nn]
  ·have:fq x (cR (.atom s) ar)=0:=by
    simp only[cR]
    split
    ·rfl
    ·split
     ·rfl
     ·split
      ·rfl
      ·simp[fq,e]
   rw[this];simp[nn,e]
 |plus ha hb i1 i2=>intro ar;rw[dJ,rO,fq,i1,i2];split<;>simp
 |times ha hb i1 i2=>intro ar;rw[dr,pJ,fq,i1,i2];split<;>simp
 |
  @rc n b hn hb i =>
  intro ar
  rw[ff,wX,fq,i]
  simp only[dS,aN,aV]
  by_cases h1:x∈ar
  ·simp[h1]
  ·by_cases h2:x=n
   ·simp[h2]
   ·simp[h1,h2,Ne.symm h2]
theorem dX(x:Nm)(u:Ty):∀t:Ty,(sub x u t).aE+fq x t=t.aE+fq x t*u.aE
 | .name s=>by simp only[sub,fq];split<;>simp[Ty.aE];omega
 | .plus a b=>by have:=dX x u a;have:=dX x u b;simp only[sub,Ty.aE,fq,Nat.add_mul];omega
 | .times a b=>by have:=dX x u a;have:=dX x u b;simp only[sub,Ty.aE,fq,Nat.add_mul];omega
 | .rc a=>by have:=dX x u a;simp only[sub,Ty.aE,fq];omega
 | .zero=>by simp[sub,fq]
 | .one=>by simp[sub,fq]
 | .bQ k=>by simp[sub,fq]
abbrev tN(m:Nat):Nm:=116::dd m
theorem EM(m:Nat):dd m≠[]:=by
 by_cases h:m<10
 ·rw[eF h];simp
 ·rw[fP h];simp
theorem xu:∀(n m k:Nat),m<n->dd m=dd k->m=k
 |0,m,k,h,_=>by omega
 |
  n+1,m,k,h,e=>by
  have d10:∀{a b:Nat},a<10->b<10->bj (48+a)=bj (48+b)->a=b:=fun {a b} ha hb h=>by
   have:=congrArg UInt8.toNat h
   simp only[UInt8.toNat_ofNat']at this
   omega
  by_cases h1:m<10<;>by_cases h2:k<10
  ·rw[eF h1,eF h2]at e
   simp only[List.cons.injEq,and_true]at e
   exact d10 h1 h2 e
  ·rw[eF h1,fP h2]at e
   have:=congrArg List.length e
   have:dd (k/10)=[]:=by
    apply List.eq_nil_of_length_eq_zero
    simp at this;simpa using this
   exact absurd this (EM _)
  ·rw[fP h1,eF h2]at e
   have:=congrArg List.length e
   have:dd (m/10)=[]:=by
    apply List.eq_nil_of_length_eq_zero
    simp at this;simpa using this
   exact absurd this (EM _)
  ·rw[fP h1,fP h2]at e
   obtain⟨e1,e2⟩:=List.append_inj' e rfl
   have:=xu n (m/10) (k/10) (by omega) e1
   simp only[List.cons.injEq,and_true]at e2
   have:=d10 (Nat.mod_lt _ (by omega)) (Nat.mod_lt _ (by omega)) e2
   omega
theorem Au{m k:Nat}(h:tN m=tN k):m=k:=xu (m+1) m k (by omega) (List.cons.inj h).2
theorem xH(m:Nat):qP (tN m):=⟨by simp,by simp,by simp⟩
theorem RP:∀(l F:List Nm),l.Nodup->(∀x,x∈l->x∈F)->l.length<=F.length
 |[],_,_,_=>dP _
 |
  x::l,F,hn,hs=>by
  obtain⟨h1,h2⟩:=List.nodup_cons.1 hn
  have hx:=hs x ak
  have:=RP l (F.erase x) h2 fun y hy=>(List.mem_erase_of_ne (fun e=>h1 (by rw[<-e];exact hy))).2 (hs y (al _ hy))
  rw[List.length_erase_of_mem hx]at this
  have:0<F.length:=List.length_pos_of_mem hx
  simp only[az];omega
def qd(F:List Nm):Nat->Nat->Nat
 |0,k=>k
 |n+1,k=>if tN k∈F then qd F n (k+1)else k
theorem vL(F:List Nm):∀(n k:Nat),k<=qd F n k/\qd F n k<=k+n/\(∀j,k<=j->j<qd F n k->tN j∈F)/\(qd F n k<k+n->tN (qd F n k)∉F)
 |0,k=>⟨au _,au _,fun j h1 h2=>by simp only[qd]at h2;omega,fun h=>by simp only[qd]at h;omega⟩
 |
  n+1,k=>by
  rw[qd]
  split
  ·rename_i hm
   obtain⟨h1,h2,h3,h4⟩:=vL F n (k+1)
   refine⟨by omega,by omega,fun j hj hl=>?_,fun h=>h4 (by omega)⟩
   by_cases e:j=k
   ·subst e;exact hm
   ·exact h3 j (by omega) hl
  ·rename_i hm
   exact⟨au _,by omega,fun j h1 h2=>by omega,fun _=>hm⟩
def nx(F:List Nm)(k:Nat):Nat:=qd F (F.length+1) k
theorem gx(F:List Nm)(k:Nat):k<=nx F k/\nx F k<=k+F.length/\(∀j,k<=j->j<nx F k->tN j∈F)/\tN (nx F k)∉F:=by
 obtain⟨h1,h2,h3,h4⟩:=vL F (F.length+1) k
 have hlt:nx F k<k+(F.length+1):=by
  rcases Nat.lt_or_ge (nx F k) (k+(F.length+1))with h|h
  ·exact h
  ·exfalso
   have:=RP ((List.range' k (F.length+1)).map tN) F (by
    refine List.Pairwise.map _ (fun a b hab e=>hab (Au e)) List.nodup_range') (fun x hx=>by
    obtain⟨j,hj,rfl⟩:=bO.1 hx
    obtain⟨i,hi,rfl⟩:=List.mem_range'.1 hj
    exact h3 _ (by omega) (by show _<nx F k;omega))
   simp at this
   omega
 exact⟨h1,by unfold nx at hlt |-;omega,h3,h4 hlt⟩
theorem Cm{F F':List Nm}(h:∀y,y∈F↔y∈F')(k:Nat):nx F k=nx F' k:=by
 obtain⟨a1,a2,a3,a4⟩:=gx F k
 obtain⟨b1,b2,b3,b4⟩:=gx F' k
 rcases Nat.lt_trichotomy (nx F k) (nx F' k)with hl|he|hl
 ·exact absurd ((h _).2 (b3 _ a1 hl)) a4
 ·exact he
 ·exact absurd ((h _).1 (a3 _ b1 hl)) b4
def gX(F:List Nm):Ty->List Nm->Nat->E×Nat
 | .zero,_,k=>(.atom [48],k)
 | .one,_,k=>(.atom [49],k)
 | .name s,_,k=>(.atom s,k)
 | .bQ u,to,k=>(.atom (gk to u),k)
 | .plus a b,to,k=>(.list [.atom [43],(gX F a to k).1,(gX F b to (gX F a to k).2).1],(gX F b to (gX F a to k).2).2)
 | .times a b,to,k=>(.list [.atom [42],(gX F a to k).1,(gX F b to (gX F a to k).2).1],(gX F b to (gX F a to k).2).2)
 | .rc a,to,k=>(.list [.atom dE,.atom (tN (nx F k)),(gX F a (to++[tN (nx F k)]) (nx F k+1)).1],(gX F a (to++[tN (nx F k)]) (nx F k+1)).2)
theorem jI{F F':List Nm}(h:∀y,y∈F↔y∈F'):∀(t:Ty) (to:List Nm) (k:Nat),gX F t to k=gX F' t to k
 | .zero,_,_=>rfl
 | .one,_,_=>rfl
 | .name _,_,_=>rfl
 | .bQ _,_,_=>rfl
 | .plus a b,to,k=>by simp only[gX];rw[jI h a,jI h b]
 | .times a b,to,k=>by simp only[gX];rw[jI h a,jI h b]
 | .rc a,to,k=>by simp only[gX];rw[Cm h,jI h a]
def jv:Ty->Nat->Prop
 | .bQ u,i=>u<i
 | .plus a b,i=>jv a i/\jv b i
 | .times a b,i=>jv a i/\jv b i
 | .rc a,i=>jv a (i+1)
 |_,_=>True
theorem tF{e:E}(h:Wf e):∀ar,jv (cR e ar) ar.length:=by
 induction h with
 |
  @atom s hs =>
  intro ar
  simp only[cR]
  split
  ·trivial
  ·split
   ·trivial
   ·split
    ·rename_i u q;exact(fG _ _ (au _) q).1
    ·trivial
 |plus ha hb i1 i2=>intro ar;rw[dJ];exact⟨i1 ar,i2 ar⟩
 |times ha hb i1 i2=>intro ar;rw[dr];exact⟨i1 ar,i2 ar⟩
 |
  @rc n b hn hb i =>
  intro ar;rw[ff]
  have:=i (ar++[(E.atom n).at])
  rw[an]at this
  exact this
structure Gn(F to:List Nm)(k:Nat):Prop where
 out:∀w,w∈to->w∉F
 lt:∀w,w∈to->∃j,j<k/\w=tN j
 nd:to.Nodup
theorem Gn.nil(F:List Nm)(k:Nat):Gn F [] k:=⟨fun _ h=>(by cases h),fun _ h=>(by cases h),by simp⟩
theorem Gn.mono{F to:List Nm}{k k':Nat}(h:Gn F to k)(hk:k<=k'):Gn F to k':=⟨h.out,fun w hw=>by obtain⟨j,h1,h2⟩:=h.lt w hw;exact⟨j,by omega,h2⟩,h.nd⟩
theorem Gn.push{F to:List Nm}{k:Nat}(h:Gn F to k):Gn F (to++[tN (nx F k)]) (nx F k+1):=by
 obtain⟨h1,h2,h3,h4⟩:=gx F k
 refine⟨fun w hw=>?_,fun w hw=>?_,?_⟩
 ·rcases aN.1 hw with hw|hw
  ·exact h.out w hw
  ·simp only[aV]at hw;rw[hw];exact h4
 ·rcases aN.1 hw with hw|hw
  ·obtain⟨j,g1,g2⟩:=h.lt w hw;exact⟨j,by omega,g2⟩
  ·simp only[aV]at hw;exact⟨_,by omega,hw⟩
 ·refine List.nodup_append.2 ⟨h.nd,by simp,fun a ha b hb e=>?_⟩
  simp only[aV]at hb
  obtain⟨j,g1,g2⟩:=h.lt a ha
  rw[e,hb]at g2
  have:=Au g2
  omega
theorem tO{to:List Nm}(hn:to.Nodup){u:Nat}(hu:u<to.length):bN (gk to u) to to.length=some u:=by
 have hm:gk to u∈to:=by
  unfold gk
  have:to.length-1-u<to.length:=by omega
  simp[aa,this]
 cases q:bN (gk to u) to to.length with
 |none=>exact absurd hm ((fw _ _).1 q)
 |
  some v =>
  obtain⟨h1,h2⟩:=fG _ _ (au _) q
  unfold gk at h2
  have e1:to.length-1-v<to.length:=by omega
  have e2:to.length-1-u<to.length:=by omega
  rw[aa,aa,bp e1,bp e2]at h2
  have hp:=List.pairwise_iff_getElem.1 hn
  have h3:to[to.length-1-v]=to[to.length-1-u]:=by simpa using h2
  rcases Nat.lt_trichotomy (to.length-1-v) (to.length-1-u)with hl|he|hl
  ·exact absurd h3 (hp _ _ e1 e2 hl)
  ·congr 1;omega
  ·exact absurd h3.symm (hp _ _ e2 e1 hl)
theorem kC(F:List Nm):∀(t:Ty) (to:List Nm) (k:Nat),Gn F to k->jv t to.length->(∀y,bn y t=true->y∈F/\qP y) ->
 Wf (gX F t to k).1/\cR (gX F t to k).1 to=t/\k<=(gX F t to k).2/\(gX F t to k).2<=k+(F.length+1)*t.aE/\tG (·∉F) (gX F t to k).1
 | .zero,to,k,_,_,_=>⟨.atom (by simp),rfl,au _,da _ _,trivial⟩
 | .one,to,k,_,_,_=>⟨.atom (by simp),rfl,au _,da _ _,trivial⟩
 |
  .name s,to,k,g,hl,hn=>by
  obtain⟨h1,h2⟩:=hn s (by simp[bn])
  exact⟨.atom h2.1,jb h2 (fun h=>g.out s h h1),au _,da _ _,trivial⟩
 |
  .bQ u,to,k,g,hl,hn=>by
  have hm:gk to u∈to:=by
   unfold gk
   have:to.length-1-u<to.length:=by have:u<to.length:=hl;omega
   simp[aa,this]
  obtain⟨j,_,e⟩:=g.lt _ hm
  have hok:qP (gk to u):=by rw[e];exact xH j
  refine⟨.atom hok.1,?_,au _,da _ _,trivial⟩
  simp only[gX,cR]
  rw[if_neg hok.2.1,if_neg hok.2.2,tO g.nd hl]
 |
  .plus a b,to,k,g,hl,hn=>by
  obtain⟨a1,a2,a3,a4,a5⟩:=kC F a to k g hl.1 fun y hy=>hn y (by simp[bn,hy])
  obtain⟨b1,b2,b3,b4,b5⟩:=kC F b to _ (g.mono a3) hl.2 fun y hy=>hn y (by simp[bn,hy])
  simp only[gX,dJ,a2,b2,oj,Ty.aE]
  refine⟨.plus a1 b1,trivial,by omega,?_,a5,b5⟩
  have:(F.length+1)*(1+a.aE+b.aE)=(F.length+1)+(F.length+1)*a.aE+(F.length+1)*b.aE:=by simp only[cT,dH]
  omega
 |
  .times a b,to,k,g,hl,hn=>by
  obtain⟨a1,a2,a3,a4,a5⟩:=kC F a to k g hl.1 fun y hy=>hn y (by simp[bn,hy])
  obtain⟨b1,b2,b3,b4,b5⟩:=kC F b to _ (g.mono a3) hl.2 fun y hy=>hn y (by simp[bn,hy])
  simp only[gX,dr,a2,b2,mX,Ty.aE]
  refine⟨.times a1 b1,trivial,by omega,?_,a5,b5⟩
  have:(F.length+1)*(1+a.aE+b.aE)=(F.length+1)+(F.length+1)*a.aE+(F.length+1)*b.aE:=by simp only[cT,dH]
  omega
 |
  .rc a,to,k,g,hl,hn=>by
  obtain⟨h1,h2,h3,h4⟩:=gx F k
  obtain⟨a1,a2,a3,a4,a5⟩:=kC F a (to++[tN (nx F k)]) (nx F k+1) g.push (by rw[an];exact hl) hn
  simp only[gX,ff,dS,a2,uC,Ty.aE]
  refine⟨.rc (xH _) a1,trivial,by omega,?_,h4,a5⟩
  have:(F.length+1)*(2+a.aE)=(F.length+1)*2+(F.length+1)*a.aE:=by simp only[cT]
  omega
end Go.Proofs.Trees
namespace Go.Proofs.Trees
open Go Go.VL Go.RowKit
inductive kt:AV->List Nat->Prop
 |nil:kt io []
 |cons {m:Nat} {cs:List AV} {e:AV} {ids:List Nat} (hm:m∉ids) (h:kt e ids):kt (.ptr [.pid m cs,e]) (m::ids)
theorem kt.has{a:AV}{ids:List Nat}(h:kt a ids):LK.has .ptr a:=by
 cases h
 ·exact(iC).mpr trivial
 ·exact(cd _).mpr trivial
theorem kt.Sd{M:Mem}{a:AV}{ids:List Nat}(h:kt a ids):∀{v:Value},bG M dA a v->∀b,b∈ids->M.p b:=by
 induction h with
 |nil=>intro v _ b hb;cases hb
 |
  @cons m cs e ids hm h ih =>
  intro v hr b hb
  cases hr with
  |
   ptr _ _ _ off us hc hr =>
   have h0:=hr 0 (by simp)
   have h1:=hr 1 (by simp)
   simp only[bx,List.getD_cons_succ]at h0 h1
   rcases aJ.1 hb with rfl|hb
   ·generalize us 0=u0 at h0
    cases h0 with
    |pid _ _ _ us hp _ _=>exact hp
   ·exact ih h1 b hb
theorem kt.nodup{a:AV}{ids:List Nat}(h:kt a ids):ids.Nodup:=by
 induction h with
 |nil=>simp
 |cons hm h ih=>exact List.nodup_cons.2 ⟨hm,ih⟩
theorem zK(a b:AV)(S:Nat->Prop)(R:AV->Prop):B6 Jt cI eu (cH eu) [.agg [.x a,.x b]] S (fun o=>aK o 7) R =
 .aj (LK.has .ptr a/\a.isNil=false) (.aj (LK.has .ptr a/\a.isNil=false) (.aj (LK.has .ptr ((a.deref.drop 3).headD .any)/\1<=(a.deref.drop 3).length)
  (.aj (∀ids:Nat->Nat,(∀o,¬S (ids o))->(True/\R (.cD [.agg [(a.deref.drop 3).headD .any,.ptr [.pid (ids 7) [a,b],b]],.pid (ids 7) [a,b]]))) (.done 0 [] [])))):=by kernel_rfl
def Bk(t:Ty)(ea:AV)(ids:List Nat):AV->List Ob->Prop:=fun r o=>(∃m,m∉ids/\r=.cD [.agg [t.av,.ptr [.pid m [(Ty.rc t).av,ea],ea]],.pid m [(Ty.rc t).av,ea]])/\o=[]
theorem Bk.ne(t:Ty)(ea:AV)(ids:List Nat):∃r o,Bk t ea ids r o:=by
 have:∃m,m∉ids:=⟨ids.foldr max 0+1,fun h=>by
  have key:∀(l:List Nat) (x:Nat),x∈l->x<=l.foldr max 0:=by
   intro l
   induction l with
   |nil=>intro x hx;cases hx
   |
    cons y l ih =>
    intro x hx
    rcases aJ.1 hx with rfl|hx
    ·simp only[List.foldr_cons];omega
    ·have:=ih x hx;simp only[List.foldr_cons];omega
  have:=key _ _ h
  omega⟩
 obtain⟨m,hm⟩:=this
 exact⟨_,_,⟨m,hm,rfl⟩,rfl⟩
theorem Dp(t:Ty)(ea:AV)(ids:List Nat)(he:kt ea ids):aq Tryz.prog 86 [.agg [(Ty.rc t).av,ea]] [] (Bk t ea ids):=by
 have hup:wv [.agg [(Ty.rc t).av,ea]] [.agg [.x (Ty.rc t).av,.x ea]]:=ah (ci (ah (bE ((aF _).mpr trivial)) (ah (bE he.has) aD))) aD
 refine aq.up hup ?_
 refine aq.R4 (cI:=cI) (F:=eu) (S:=fun b=>b∈ids) (sel:=fun o=>aK o 7) tC mixed (by kernel_rfl) (by kernel_rfl) (c:=cH eu) (by kernel_rfl) (by kernel_rfl) (fun M β vs hr b hb=>?_) ?_
 ·have h0:=hr 0 (by simp)
  simp only[bx]at h0
  obtain⟨us,_,hl,hq,_⟩:=gb h0
  have h1:=hq 1 (by simp at hl |-)
  simp only[List.getD_cons_succ,bx]at h1
  cases h1 with
  |x _ _ _ _ h=>exact he.Sd h b hb
 ·rw[zK]
  simp only[Ty.av,↓zq,zs,ac,aF]
  exact⟨by omega,fun ids' hf=>⟨ids' 7,hf 7,rfl⟩⟩
theorem JW(u:Nat)(hu:u<1000000):∀(k i:Nat) (ea:AV) (ids:List Nat),i+k=u->kt ea ids->k<=ids.length->Dk [ea,.v (.int .i64 (u:Int)),.v (.int .i64 (i:Int))] [] (fun t ys o=>t=1/\∃e',kt e' (ids.drop k)/\ys=[e']/\o=[])
 |
  0,i,ea,ids,hi,he,hk=>by
  refine DZ _ _ _ ?_
  have:i=u:=by omega
  subst this
  simp only[Cp,↓zq,zs,ac]
  exact⟨he.has,fun h=>by omega,fun _=>⟨ea,he,rfl⟩⟩
 |
  k+1,i,ea,ids,hi,he,hk=>by
  refine DZ _ _ _ ?_
  cases he with
  |nil=>simp at hk
  |
   @cons m cs e ids' hm h =>
   simp only[Cp,↓zq,zs,ac,h.has]
   refine⟨fun _=>⟨by omega,?_⟩,fun h=>by omega⟩
   rw[bA i (by omega)]
   exact JW u hu k (i+1) e ids' (by omega) h (by simpa using hk)
theorem QN(u:Nat)(ea:AV)(ids:List Nat)(he:kt ea ids)(hu:u<ids.length)(hl:ids.length<1000000):aq Tryz.prog 131 [.agg [(Ty.bQ u).av,ea]] [] (fun r o=>(∃cs,r=.pid (ids.getD u 0) cs)/\o=[]):=by
 refine LL _ _ ((aF _).mpr trivial) he.has ?_
 simp only[Hp,Ty.av,↓zq,zs,ac,he.has]
 refine⟨by omega,kG (JW u (by omega) u 0 ea ids (by omega) he (by omega)) ?_ (fun ys o h=>by cases h.1)⟩
 rintro ys o ⟨_,e',he',rfl,rfl⟩
 have hd:ids.drop u=ids.getD u 0::ids.drop (u+1):=by
  rw[aW hu];simp[aa,hu]
 rw[hd]at he'
 cases he' with
 |
  @cons m cs e ids' hm h =>
  have hp:LK.has .ptr (AV.pid (ids.getD u 0) cs):=.inr (.inr ⟨_,_,rfl⟩)
  simp only[↓zq,zs,ac,hp]
  exact⟨by omega,cs,rfl⟩
inductive An:Tg->List Nat->List UInt8->AV->Prop
 |nm (s:List UInt8) (ids:List Nat):An (.nm s) ids s io
 |bd {k:Nat} {ids:List Nat} (hk:k<ids.length) (cs:List AV) (s:List UInt8):An (.bd k) ids s (.pid (ids.getD k 0) cs)
theorem An.has{tg:Tg}{ids:List Nat}{s:List UInt8}{fr:AV}(h:An tg ids s fr):LK.has .ptr fr:=by
 cases h
 ·exact(iC).mpr trivial
 ·exact .inr (.inr ⟨_,_,rfl⟩)
theorem An.push{tg:Tg}{ids:List Nat}{s:List UInt8}{fr:AV}(h:An tg ids s fr)(m:Nat):An tg.up (m::ids) s fr:=by
 cases h with
 |nm=>exact .nm _ _
 |
  @bd k _ hk cs =>
  have:=An.bd (k:=k+1) (ids:=m::ids) (by simpa using hk) cs s
  simpa[Tg.up]using this
theorem Ak{ids:List Nat}(h:ids.Nodup){i j:Nat}(hi:i<ids.length)(hj:j<ids.length)(he:ids.getD i 0=ids.getD j 0):i=j:=by
 have e1:ids.getD i 0=ids[i]:=by simp[aa,hi]
 have e2:ids.getD j 0=ids[j]:=by simp[aa,hj]
 rw[e1,e2]at he
 have hp:=List.pairwise_iff_getElem.1 h
 rcases Nat.lt_trichotomy i j with hlt|rfl|hlt
 ·exact absurd he (hp i j hi hj hlt)
 ·rfl
 ·exact absurd he.symm (hp j i hj hi hlt)
theorem PU(t:Ty)(tg:Tg)(ea:AV)(ids:List Nat)(s:List UInt8)(fr:AV)(he:kt ea ids)(ht:An tg ids s fr)(hu:∀u,t=.bQ u->u<ids.length)(hl:ids.length<1000000) :
 aq Tryz.prog 111 [.agg [.v (.string (mk s)),fr],.agg [t.av,ea]] [] (bK (.v (.bool (eB t tg)))):=by
 refine PR _ _ _ _ ht.has ((aF _).mpr trivial) he.has ?_
 cases ht with
 |
  nm s =>
  cases t<;>simp[CE,Ty.av,↓zq,zs,ac,zt,bK,eB]
  rw[ct];simp
 |
  @bd k _ hk cs s =>
  generalize hm0:ids.getD k 0=m0
  have hp:LK.has .ptr (AV.pid m0 cs):=.inr (.inr ⟨_,_,rfl⟩)
  have hn:(AV.pid m0 cs).isNil=false:=rfl
  cases t with
  |
   bQ u =>
   have hu:=hu u rfl
   simp only[CE,Ty.av,↓zq,zs,ac,hp,hn]
   refine⟨fun _=>⟨by omega,fun _=>?_,fun h=>absurd rfl h⟩,fun h=>by cases h⟩
   have hb:=QN u ea ids he hu hl
   simp only[Ty.av]at hb
   refine aQ hb ⟨_,_,⟨[],rfl⟩,rfl⟩ ?_
   rintro r o ⟨⟨cs',rfl⟩,rfl⟩
   have hp':LK.has .ptr (AV.pid (ids.getD u 0) cs'):=.inr (.inr ⟨_,_,rfl⟩)
   simp only[↓zq,zs,ac,hp',AV.rR,AV.AP,bK,eB]
   congr 2
   rw[ct,Nat.beq_eq,decide_eq_true_eq,<-hm0]
   exact⟨fun h=>Ak he.nodup hu hk h,fun h=>by rw[h]⟩
  |_=>simp[CE,Ty.av,↓zq,zs,ac,hp,hn,bK,eB]
end Go.Proofs.Trees
namespace Go.Proofs.Trees
open Go Go.VL Go.RowKit
theorem zm(b:Int)(a:AV)(h:LK.ptr.has a):aq Tryz.prog 100 [.v (.int .u8 b),a] [] (bK (.ptr [.v (.int .u8 b),.v (.string (mk [])),a,io])):=by
 refine O6 _ _ h ?_
 simp[Kh,↓zq,zs,ac,bK]
end Go.Proofs.Trees
namespace Go.Proofs.Trees
open Go Go.VL Go.RowKit
def gY(l:List Hl):List (List AV):=l.map fun h=>[h.1.cu,h.2.cu]
theorem eE(l:List Hl):(gY l).length=l.length:=by simp[gY]
theorem mU{l:List Hl}{i:Nat}(hi:i<l.length):(gY l).getD i []=[(l[i]).1.cu,(l[i]).2.cu]:=by simp[gY,aa,hi]
theorem oI(out:List Hl)(a b:Vl):gY out++[[a.cu,b.cu]]=gY (out++[(a,b)]):=by simp[gY]
theorem gm(g:Vl->Vl)(l:List Hl){i:Nat}(hi:i<l.length):iH g (l.drop i)=(g (l[i]).1,(l[i]).2)::iH g (l.drop (i+1)):=by
 rw[aW hi];rfl
theorem fO(g:Vl->Vl)(l:List Hl):(iH g l).length=l.length:=by simp[iH]
theorem AY(a b:AV):cv 2 [[a,b]]:=fun c hc=>by simp at hc;rw[hc];rfl
theorem Ml(x0:AV)(hx0:LK.ptr.has x0)(g:Vl->Vl)(hg:∀c:Vl,aq Tryz.prog 115 [c.cu,.ref 0 0] [.cells [x0]] (dq (g c).cu [.cells [x0]]))(l:List Hl):∀(k i:Nat) (out:List Hl),i+k=l.length->out.length+k<=1000000->l.length<=1000000 ->
 E0 [.sl (gY l),.v (.int .i64 (l.length:Int)),.v (.int .i64 (i:Int))] [.cells [x0],.cells [.any],.vec 2 (gY out)] (iF 1 [] [.cells [x0],.cells [.any],.vec 2 (gY (out++iH g (l.drop i)))])
 |
  0,i,out,hi,ho,hl=>by
  refine L9 _ _ _ _ _ ?_
  have:i=l.length:=by omega
  subst this
  simp only[FO,↓zq,zs,ac,eE,hx0]
  exact⟨fun h=>by omega,fun _=>by simp[iF,iH]⟩
 |
  k+1,i,out,hi,ho,hl=>by
  have hlt:i<l.length:=by omega
  refine L9 _ _ _ _ _ ?_
  simp only[FO,↓zq,zs,ac,zt,eE,mU hlt,aO,bH,hx0]
  refine⟨fun _=>⟨by omega,by omega,?_⟩,fun h=>by omega⟩
  refine aY (hg _) ?_
  simp only[↓zq,zs,ac,aO,aM,bK,dq,hx0]
  refine⟨⟨AY _ _,by omega⟩,?_⟩
  rw[bA i (by omega)]
  have:=Ml x0 hx0 g hg l k (i+1) (out++[(g (l[i]).1,(l[i]).2)]) (by omega) (by simp;omega) hl
  rw[bc]at this
  rw[gm g l hlt,oI]
  exact this
theorem Is(x0:AV)(hx0:LK.ptr.has x0)(g:Vl->Vl)(hg:∀c:Vl,aq Tryz.prog 115 [c.cu,.ref 0 0] [.cells [x0]] (dq (g c).cu [.cells [x0]]))(l out:List Hl)(hl:out.length+l.length<=1000000) :
 aq Tryz.prog 112 [.sl (gY l),.fn 115 [.ref 0 0],.ref 1 0] [.cells [x0],.cells [.vec 2],.vec 2 (gY out)] (dq .any [.cells [x0],.cells [.vec 2],.vec 2 (gY (out++iH g l))]):=by
 refine QI _ _ _ ((cg _).mpr trivial) hx0 ?_
 simp only[L3,↓zq,zs,ac,eE]
 have h:=Ml x0 hx0 g hg l l.length 0 out (by omega) (by omega) (by omega)
 rw[bh]at h
 refine cB h ?_
 simp[↓zq,zs,ac,dq,aM,hx0]
theorem LJ(x0:AV)(hx0:LK.ptr.has x0)(g:Vl->Vl)(hg:∀c:Vl,aq Tryz.prog 116 [c.cu,.ref 0 0] [.cells [x0]] (dq (g c).cu [.cells [x0]]))(l:List Hl):∀(k i:Nat) (out:List Hl),i+k=l.length->out.length+k<=1000000->l.length<=1000000 ->
 G4 [.sl (gY l),.v (.int .i64 (l.length:Int)),.v (.int .i64 (i:Int))] [.cells [x0],.cells [.any],.vec 2 (gY out)] (iF 1 [] [.cells [x0],.cells [.any],.vec 2 (gY (out++iH g (l.drop i)))])
 |
  0,i,out,hi,ho,hl=>by
  refine JU _ _ _ _ _ ?_
  have:i=l.length:=by omega
  subst this
  simp only[H3,↓zq,zs,ac,eE,hx0]
  exact⟨fun h=>by omega,fun _=>by simp[iF,iH]⟩
 |
  k+1,i,out,hi,ho,hl=>by
  have hlt:i<l.length:=by omega
  refine JU _ _ _ _ _ ?_
  simp only[H3,↓zq,zs,ac,zt,eE,mU hlt,aO,bH,hx0]
  refine⟨fun _=>⟨by omega,by omega,?_⟩,fun h=>by omega⟩
  refine aY (hg _) ?_
  simp only[↓zq,zs,ac,aO,aM,bK,dq,hx0]
  refine⟨⟨AY _ _,by omega⟩,?_⟩
  rw[bA i (by omega)]
  have:=LJ x0 hx0 g hg l k (i+1) (out++[(g (l[i]).1,(l[i]).2)]) (by omega) (by simp;omega) hl
  rw[bc]at this
  rw[gm g l hlt,oI]
  exact this
theorem Qp(x0:AV)(hx0:LK.ptr.has x0)(g:Vl->Vl)(hg:∀c:Vl,aq Tryz.prog 116 [c.cu,.ref 0 0] [.cells [x0]] (dq (g c).cu [.cells [x0]]))(l out:List Hl)(hl:out.length+l.length<=1000000) :
 aq Tryz.prog 112 [.sl (gY l),.fn 116 [.ref 0 0],.ref 1 0] [.cells [x0],.cells [.vec 2],.vec 2 (gY out)] (dq .any [.cells [x0],.cells [.vec 2],.vec 2 (gY (out++iH g l))]):=by
 refine Ri _ _ _ ((cg _).mpr trivial) hx0 ?_
 simp only[NU,↓zq,zs,ac,eE]
 have h:=LJ x0 hx0 g hg l l.length 0 out (by omega) (by omega) (by omega)
 rw[bh]at h
 refine cB h ?_
 simp[↓zq,zs,ac,dq,aM,hx0]
theorem NK(x0:AV)(hx0:LK.ptr.has x0)(g:Vl->Vl)(hg:∀c:Vl,aq Tryz.prog 118 [c.cu,.ref 0 0] [.cells [x0]] (dq (g c).cu [.cells [x0]]))(l:List Hl):∀(k i:Nat) (out:List Hl),i+k=l.length->out.length+k<=1000000->l.length<=1000000 ->
 Fx [.sl (gY l),.v (.int .i64 (l.length:Int)),.v (.int .i64 (i:Int))] [.cells [x0],.cells [.any],.vec 2 (gY out)] (iF 1 [] [.cells [x0],.cells [.any],.vec 2 (gY (out++iH g (l.drop i)))])
 |
  0,i,out,hi,ho,hl=>by
  refine NF _ _ _ _ _ ?_
  have:i=l.length:=by omega
  subst this
  simp only[EV,↓zq,zs,ac,eE,hx0]
  exact⟨fun h=>by omega,fun _=>by simp[iF,iH]⟩
 |
  k+1,i,out,hi,ho,hl=>by
  have hlt:i<l.length:=by omega
  refine NF _ _ _ _ _ ?_
  simp only[EV,↓zq,zs,ac,zt,eE,mU hlt,aO,bH,hx0]
  refine⟨fun _=>⟨by omega,by omega,?_⟩,fun h=>by omega⟩
  refine aY (hg _) ?_
  simp only[↓zq,zs,ac,aO,aM,bK,dq,hx0]
  refine⟨⟨AY _ _,by omega⟩,?_⟩
  rw[bA i (by omega)]
  have:=NK x0 hx0 g hg l k (i+1) (out++[(g (l[i]).1,(l[i]).2)]) (by omega) (by simp;omega) hl
  rw[bc]at this
  rw[gm g l hlt,oI]
  exact this
theorem OX(x0:AV)(hx0:LK.ptr.has x0)(g:Vl->Vl)(hg:∀c:Vl,aq Tryz.prog 118 [c.cu,.ref 0 0] [.cells [x0]] (dq (g c).cu [.cells [x0]]))(l out:List Hl)(hl:out.length+l.length<=1000000) :
 aq Tryz.prog 112 [.sl (gY l),.fn 118 [.ref 0 0],.ref 1 0] [.cells [x0],.cells [.vec 2],.vec 2 (gY out)] (dq .any [.cells [x0],.cells [.vec 2],.vec 2 (gY (out++iH g l))]):=by
 refine Ol _ _ _ ((cg _).mpr trivial) hx0 ?_
 simp only[I2,↓zq,zs,ac,eE]
 have h:=NK x0 hx0 g hg l l.length 0 out (by omega) (by omega) (by omega)
 rw[bh]at h
 refine cB h ?_
 simp[↓zq,zs,ac,dq,aM,hx0]
theorem Ld(g:Vl->Vl)(hg:∀c:Vl,aq Tryz.prog 119 [c.cu] [] (bK (g c).cu))(l:List Hl):∀(k i:Nat) (out:List Hl),i+k=l.length->out.length+k<=1000000->l.length<=1000000 ->
 Hg [.v (.func (.func 119) #[] #[]),.sl (gY l),.v (.int .i64 (l.length:Int)),.v (.int .i64 (i:Int))] [.cells [.any],.vec 2 (gY out)] (iF 1 [] [.cells [.any],.vec 2 (gY (out++iH g (l.drop i)))])
 |
  0,i,out,hi,ho,hl=>by
  refine Je _ _ _ _ ?_
  have:i=l.length:=by omega
  subst this
  simp only[FX,↓zq,zs,ac,eE]
  exact⟨fun h=>by omega,fun _=>by simp[iF,iH]⟩
 |
  k+1,i,out,hi,ho,hl=>by
  have hlt:i<l.length:=by omega
  refine Je _ _ _ _ ?_
  simp only[FX,↓zq,zs,ac,zt,eE,mU hlt,aO,bH]
  refine⟨fun _=>⟨by omega,by omega,?_⟩,fun h=>by omega⟩
  refine ai (hg _) ?_
  simp only[↓zq,zs,ac,aO,aM,bK,dq]
  refine⟨⟨AY _ _,by omega⟩,?_⟩
  rw[bA i (by omega)]
  have:=Ld g hg l k (i+1) (out++[(g (l[i]).1,(l[i]).2)]) (by omega) (by simp;omega) hl
  rw[bc]at this
  rw[gm g l hlt,oI]
  exact this
theorem Of(g:Vl->Vl)(hg:∀c:Vl,aq Tryz.prog 119 [c.cu] [] (bK (g c).cu))(l out:List Hl)(hl:out.length+l.length<=1000000) :
 aq Tryz.prog 112 [.sl (gY l),.v (.func (.func 119) #[] #[]),.ref 0 0] [.cells [.vec 1],.vec 2 (gY out)] (dq .any [.cells [.vec 1],.vec 2 (gY (out++iH g l))]):=by
 refine P6 _ _ ((cg _).mpr trivial) ?_
 simp only[Mm,↓zq,zs,ac,eE]
 have h:=Ld g hg l l.length 0 out (by omega) (by omega) (by omega)
 rw[bh]at h
 refine cB h ?_
 simp[↓zq,zs,ac,dq,aM]
theorem Nu(x0:AV)(x1:AV)(hx0:LK.ptr.has x0)(hx1:LK.ptr.has x1)(g:Vl->Vl)(hg:∀c:Vl,aq Tryz.prog 120 [c.cu,.ref 0 0] [.cells [x0,x1]] (dq (g c).cu [.cells [x0,x1]]))(l:List Hl):∀(k i:Nat) (out:List Hl),i+k=l.length->out.length+k<=1000000->l.length<=1000000 ->
 Fu [.sl (gY l),.v (.int .i64 (l.length:Int)),.v (.int .i64 (i:Int))] [.cells [x0,x1],.cells [.any],.vec 2 (gY out)] (iF 1 [] [.cells [x0,x1],.cells [.any],.vec 2 (gY (out++iH g (l.drop i)))])
 |
  0,i,out,hi,ho,hl=>by
  refine Km _ _ _ _ _ _ ?_
  have:i=l.length:=by omega
  subst this
  simp only[Ib,↓zq,zs,ac,eE,hx0,hx1]
  exact⟨fun h=>by omega,fun _=>by simp[iF,iH]⟩
 |
  k+1,i,out,hi,ho,hl=>by
  have hlt:i<l.length:=by omega
  refine Km _ _ _ _ _ _ ?_
  simp only[Ib,↓zq,zs,ac,zt,eE,mU hlt,aO,bH,hx0,hx1]
  refine⟨fun _=>⟨by omega,by omega,?_⟩,fun h=>by omega⟩
  refine aY (hg _) ?_
  simp only[↓zq,zs,ac,aO,aM,bK,dq,hx0,hx1]
  refine⟨⟨AY _ _,by omega⟩,?_⟩
  rw[bA i (by omega)]
  have:=Nu x0 x1 hx0 hx1 g hg l k (i+1) (out++[(g (l[i]).1,(l[i]).2)]) (by omega) (by simp;omega) hl
  rw[bc]at this
  rw[gm g l hlt,oI]
  exact this
theorem Qq(x0:AV)(x1:AV)(hx0:LK.ptr.has x0)(hx1:LK.ptr.has x1)(g:Vl->Vl)(hg:∀c:Vl,aq Tryz.prog 120 [c.cu,.ref 0 0] [.cells [x0,x1]] (dq (g c).cu [.cells [x0,x1]]))(l out:List Hl)(hl:out.length+l.length<=1000000) :
 aq Tryz.prog 112 [.sl (gY l),.fn 120 [.ref 0 0],.ref 1 0] [.cells [x0,x1],.cells [.vec 2],.vec 2 (gY out)] (dq .any [.cells [x0,x1],.cells [.vec 2],.vec 2 (gY (out++iH g l))]):=by
 refine Rs _ _ _ _ ((cg _).mpr trivial) hx0 hx1 ?_
 simp only[Ki,↓zq,zs,ac,eE]
 have h:=Nu x0 x1 hx0 hx1 g hg l l.length 0 out (by omega) (by omega) (by omega)
 rw[bh]at h
 refine cB h ?_
 simp[↓zq,zs,ac,dq,aM,hx0,hx1]
theorem Rb(w c:Vl):aq Tryz.prog 115 [c.cu,.ref 0 0] [.cells [(Vl.l w).cu]] (dq (Vl.l c).cu [.cells [(Vl.l w).cu]]):=by
 refine LR _ _ ((aO _).mpr trivial) ((aO _).mpr trivial) ?_
 simp only[FV,Vl.cu,↓zq,zs,ac,aO]
 refine⟨by omega,?_⟩
 refine ai (zm _ _ ((aO _).mpr trivial)) ?_
 simp[↓zq,zs,ac,dq,Vl.cu]
theorem QM(w c:Vl):aq Tryz.prog 115 [c.cu,.ref 0 0] [.cells [(Vl.r w).cu]] (dq (Vl.r c).cu [.cells [(Vl.r w).cu]]):=by
 refine LR _ _ ((aO _).mpr trivial) ((aO _).mpr trivial) ?_
 simp only[FV,Vl.cu,↓zq,zs,ac,aO]
 refine⟨by omega,?_⟩
 refine ai (zm _ _ ((aO _).mpr trivial)) ?_
 simp[↓zq,zs,ac,dq,Vl.cu]
theorem PM(x y c:Vl):aq Tryz.prog 116 [c.cu,.ref 0 0] [.cells [(Vl.p x y).cu]] (dq (Vl.l (.p c y)).cu [.cells [(Vl.p x y).cu]]):=by
 refine OY _ _ ((aO _).mpr trivial) ((aO _).mpr trivial) ?_
 simp only[IF,Vl.cu,↓zq,zs,ac,aO]
 refine⟨by omega,?_⟩
 refine ai (zy _ _ ((aO _).mpr trivial) ((aO _).mpr trivial)) ?_
 simp only[↓zq,zs,ac]
 refine ai (zm _ _ ((cd _).mpr trivial)) ?_
 simp[↓zq,zs,ac,dq,Vl.cu]
theorem Py(x y c:Vl):aq Tryz.prog 118 [c.cu,.ref 0 0] [.cells [(Vl.p x y).cu]] (dq (Vl.r (.p x c)).cu [.cells [(Vl.p x y).cu]]):=by
 refine Pj _ _ ((aO _).mpr trivial) ((aO _).mpr trivial) ?_
 simp only[JN,Vl.cu,↓zq,zs,ac,aO]
 refine⟨by omega,?_⟩
 refine ai (zy _ _ ((aO _).mpr trivial) ((aO _).mpr trivial)) ?_
 simp only[↓zq,zs,ac]
 refine ai (zm _ _ ((cd _).mpr trivial)) ?_
 simp[↓zq,zs,ac,dq,Vl.cu]
theorem OF(kc kv c:Vl):aq Tryz.prog 120 [c.cu,.ref 0 0] [.cells [kc.cu,kv.cu]] (dq (Vl.f (.r (.p kc c))).cu [.cells [kc.cu,kv.cu]]):=by
 refine QY _ _ _ ((aO _).mpr trivial) ((aO _).mpr trivial) ((aO _).mpr trivial) ?_
 simp only[M9,Vl.cu,↓zq,zs,ac,aO]
 refine ai (zy _ _ ((aO _).mpr trivial) ((aO _).mpr trivial)) ?_
 simp only[↓zq,zs,ac]
 refine ai (zm _ _ ((cd _).mpr trivial)) ?_
 simp only[↓zq,zs,ac]
 refine ai (zm _ _ ((cd _).mpr trivial)) ?_
 simp[↓zq,zs,ac,dq,Vl.cu,aO]
theorem Ok(c:Vl):aq Tryz.prog 119 [c.cu] [] (bK (Vl.f (.l c)).cu):=by
 refine Rn _ ((aO _).mpr trivial) ?_
 simp only[K6,↓zq,zs,ac]
 refine ai (zm _ _ ((aO _).mpr trivial)) ?_
 simp only[↓zq,zs,ac]
 refine ai (zm _ _ ((cd _).mpr trivial)) ?_
 simp[↓zq,zs,ac,bK,Vl.cu]
end Go.Proofs.Trees
namespace Go.Proofs.Trees
open Go Go.VL Go.RowKit
abbrev Ao(a:Ty)(tg:Tg):Hl->List Hl:=fun h=>iH (fun c=>.f (.r (.p h.1 c))) (cj (.rc a) tg h.2)
theorem Cl(l:List Hl){i:Nat}(hi:i<l.length):l[i]∈l:=bF _
def E7(t:Ty)(ea:AV)(s:List UInt8)(fr:AV)(tg:Tg)(v:Vl):Prop:=aq Tryz.prog 87 [.agg [t.av,ea],v.cu,.agg [.v (.string (mk s)),fr]] [] (bK (.sl (gY (cj t tg v))))
theorem Ip(a:Ty)(ea:AV)(s:List UInt8)(fr:AV)(tg:Tg)(he:LK.ptr.has ea)(hf:LK.ptr.has fr)(l:List Hl)(hl:l.length<=1000000)(ih:∀h,h∈l->E7 (.rc a) ea s fr tg h.2) :
 ∀(k i:Nat) (out:List Hl),i+k=l.length->(out++(l.drop i).flatMap (Ao a tg)).length<=1000000 ->
 EY [.sl (gY l),.v (.int .i64 (l.length:Int)),.v (.int .i64 (i:Int))] [.cells [(Ty.rc a).av,ea],.cells [.v (.string (mk s)),fr],.cells [.any],.vec 2 (gY out)] (iF 1 [] [.cells [.any],.vec 2 (gY (out++(l.drop i).flatMap (Ao a tg)))])
 |
  0,i,out,hi,ho=>by
  refine IK _ _ _ _ _ _ _ _ ?_
  have:i=l.length:=by omega
  subst this
  simp only[F0,↓zq,zs,ac,eE,aF,he,hf]
  exact⟨fun h=>by omega,fun _=>by simp[iF]⟩
 |
  k+1,i,out,hi,ho=>by
  have hlt:i<l.length:=by omega
  have hd:(l.drop i).flatMap (Ao a tg)=Ao a tg (l[i])++(l.drop (i+1)).flatMap (Ao a tg):=by rw[aW hlt,List.flatMap_cons]
  rw[hd]at ho |-
  refine IK _ _ _ _ _ _ _ _ ?_
  simp only[F0,↓zq,zs,ac,zt,eE,mU hlt,aF,aO,bH,he,hf]
  refine⟨fun _=>⟨by omega,by omega,?_⟩,fun h=>by omega⟩
  refine ai (ih _ (Cl l hlt)) ?_
  simp only[↓zq,zs,ac]
  have hb:out.length+(cj (.rc a) tg (l[i]).2).length<=1000000:=by
   simp only[an,fO]at ho;omega
  refine aY (Qq _ _ ((aO _).mpr trivial) ((aO _).mpr trivial) (fun c=>.f (.r (.p (l[i]).1 c))) (fun c=>OF (l[i]).1 (l[i]).2 c) (cj (.rc a) tg (l[i]).2) out hb) ?_
  simp only[↓zq,zs,ac,aM,aO]
  rw[bA i (by omega),<-bc]
  exact Ip a ea s fr tg he hf l hl ih k (i+1) _ (by omega) (by rw[bc];exact ho)
theorem Er(n:Nat):∀(m:Nat) (v:Vl),v.nodes<=m->∀(e:E) (env:List Fr) (t:Ty),Ask e env t->eW n v (e,env)=true->env.length+v.nodes<100000->∀(ea:AV) (ids:List Nat),kt ea ids->ids.length=env.length->∀(tg:Tg) (s:List UInt8) (fr:AV),An tg ids s fr->E7 t ea s fr tg v
 |0,v,hm=>by have:=dm v;omega
 |
  m+1,v,hm=>by
  intro e env t A hv hl ea ids he hids tg s fr ht
  unfold E7
  refine RF _ _ _ _ _ ((aF _).mpr trivial) he.has ((aO _).mpr trivial) ht.has ?_
  unfold KO
  refine ai (PU t tg ea ids s fr he ht (fun u hu=>by
   rcases gp A.wf A.ty with⟨hb,_⟩|⟨u',g,rfl,_,hg⟩
   ·rw[hu]at hb;cases hb
   ·cases hu;rw[hids];exact(List.getElem?_eq_some_iff.1 hg).1) (by omega)) ?_
  have hlen:=mW t tg v
  cases hat:eB t tg with
  |
   true =>
   rw[mC v hat]
   simp only[↓zq,zs,ac,bK,gY,bC,List.map_nil,Vl.cu]
   exact⟨fun _=>trivial,fun h=>(by cases h)⟩
  |false =>
  simp only[↓zq,zs,ac]
  refine⟨fun h=>(by cases h),fun _=>?_⟩
  rcases gp A.wf A.ty with⟨hb,hq⟩|⟨u,g,rfl,hq,hu⟩
  ·have hhd:hd e env=(e,env):=km hq
   rcases fK A.ty hb A.cl with⟨rfl,rfl⟩|⟨rfl,rfl⟩|⟨s,rfl,rfl,hp,h0,h1⟩|⟨x,a,b,t1,t2,rfl,hx,rfl,ha,hbb⟩|⟨x,a,b,t1,t2,rfl,hx,rfl,ha,hbb⟩|⟨x,a,b,t1,rfl,hx,rfl⟩
   ·rw[dR hat (by cases v<;>rfl)]
    simp[Ty.av,↓zq,zs,ac,bK,gY]
   ·rw[dR hat (by cases v<;>rfl)]
    simp[Ty.av,↓zq,zs,ac,bK,gY]
   ·rw[dR hat (by cases v<;>rfl)]
    simp[Ty.av,↓zq,zs,ac,bK,gY]
   ·obtain⟨ok1,ok2,ok3,_⟩:=A.ok
    obtain⟨f1,f2⟩:=fm A.cl
    have hL:=zd t1.av t2.av ea 43 (mk []) 0 ((aF _).mpr trivial) he.has
    have hR:=zJ t1.av t2.av ea 43 (mk []) 0 ((aF _).mpr trivial) he.has
    cases v with
    |
     l w =>
     simp only[eW,hhd,hx,beq_self_eq_true,bV]at hv
     simp only[Vl.nodes]at hm hl hlen
     rw[mZ]at hlen |-
     rw[fO]at hlen
     simp only[Ty.av,↓zq,zs,ac]
     refine⟨by omega,fun _=>?_,fun h=>absurd rfl h⟩
     refine ai hL ?_
     simp only[↓zq,zs,ac,bH,aF,he.has,Vl.cu,aO]
     refine⟨by omega,fun h=>by omega,fun _=>⟨by omega,?_⟩⟩
     refine ai (Er n m w (by omega) a env t1 ⟨ok2,A.wf,ha,f1⟩ hv (by omega) ea ids he hids tg s fr ht) ?_
     simp only[↓zq,zs,ac]
     have hadd:=Is (Vl.l w).cu ((aO _).mpr trivial) Vl.l (fun c=>Rb w c) (cj t1 tg w) [] (by simp;omega)
     simp only[Vl.cu,gY,List.map_nil,aU]at hadd
     refine aY hadd ?_
     simp[↓zq,zs,ac,aM,bK,aO,gY,cd]
    |
     r w =>
     simp only[eW,hhd,hx,beq_self_eq_true,bV]at hv
     simp only[Vl.nodes]at hm hl hlen
     rw[nf]at hlen |-
     rw[fO]at hlen
     simp only[Ty.av,↓zq,zs,ac]
     refine⟨by omega,fun _=>?_,fun h=>absurd rfl h⟩
     refine ai hL ?_
     simp only[↓zq,zs,ac,bH,aF,he.has,Vl.cu,aO]
     refine⟨by omega,fun _=>?_,fun h=>absurd rfl h⟩
     refine ai hR ?_
     simp only[↓zq,zs,ac,bH,aF,he.has,aO]
     refine⟨by omega,?_⟩
     refine ai (Er n m w (by omega) b env t2 ⟨ok3,A.wf,hbb,f2⟩ hv (by omega) ea ids he hids tg s fr ht) ?_
     simp only[↓zq,zs,ac]
     have hadd:=Is (Vl.r w).cu ((aO _).mpr trivial) Vl.r (fun c=>QM w c) (cj t2 tg w) [] (by simp;omega)
     simp only[Vl.cu,gY,List.map_nil,aU]at hadd
     refine aY hadd ?_
     simp[↓zq,zs,ac,aM,bK,aO,gY,cd]
    |_=>simp[eW,hhd,hx]at hv
   ·obtain⟨ok1,ok2,ok3,_⟩:=A.ok
    obtain⟨f1,f2⟩:=eV A.cl
    have hL:=zd t1.av t2.av ea 42 (mk []) 0 ((aF _).mpr trivial) he.has
    have hR:=zJ t1.av t2.av ea 42 (mk []) 0 ((aF _).mpr trivial) he.has
    cases v with
    |
     p w w' =>
     simp only[eW,hhd,hx,beq_self_eq_true,bV,aw]at hv
     simp only[Vl.nodes]at hm hl hlen
     rw[nk]at hlen |-
     simp only[an,fO]at hlen
     simp only[Ty.av,↓zq,zs,ac]
     refine⟨by omega,fun h=>by omega,fun _=>⟨fun _=>?_,fun h=>absurd rfl h⟩⟩
     refine ai hL ?_
     simp only[↓zq,zs,ac,bH,aF,he.has,Vl.cu,aO]
     refine⟨by omega,?_⟩
     refine ai (Er n m w (by omega) a env t1 ⟨ok2,A.wf,ha,f1⟩ hv.1 (by omega) ea ids he hids tg s fr ht) ?_
     simp only[↓zq,zs,ac]
     have hadd:=Qp (Vl.p w w').cu ((aO _).mpr trivial) (fun c=>.l (.p c w')) (fun c=>PM w w' c) (cj t1 tg w) [] (by simp;omega)
     simp only[Vl.cu,gY,List.map_nil,aU]at hadd
     refine aY hadd ?_
     simp only[↓zq,zs,ac,aM,aO]
     refine ai hR ?_
     simp only[↓zq,zs,ac,bH,aF,he.has,aO]
     refine⟨by omega,?_⟩
     refine ai (Er n m w' (by omega) b env t2 ⟨ok3,A.wf,hbb,f2⟩ hv.2 (by omega) ea ids he hids tg s fr ht) ?_
     simp only[↓zq,zs,ac]
     have hadd2:=OX (Vl.p w w').cu ((aO _).mpr trivial) (fun c=>.r (.p w c)) (fun c=>Py w w' c) (cj t2 tg w') (iH (fun c=>.l (.p c w')) (cj t1 tg w)) (by rw[fO];omega)
     simp only[Vl.cu,gY]at hadd2
     refine aY hadd2 ?_
     simp[↓zq,zs,ac,aM,bK,aO,gY,cd]
    |_=>simp[eW,hhd,hx]at hv
   ·obtain⟨t1',he1,h1,f1,hw1⟩:=jq A.wf A.ok hx A.ty A.cl
    cases he1
    obtain⟨ok1,ok2,ok3,_⟩:=A.ok
    have A':Ask b (.mk a.at (.list [x,a,b]) env::env) t1:=⟨ok3,hw1,h1,f1⟩
    cases v with
    |
     f w =>
     simp only[eW,hhd,hx,beq_self_eq_true,bV]at hv
     simp only[Vl.nodes]at hm hl hlen
     rw[mS]at hlen |-
     simp only[an,fO]at hlen
     have hin:=Dp t1 ea ids he
     simp only[Ty.av]at hin
     simp only[Ty.av,↓zq,zs,ac]
     refine⟨by omega,fun h=>by omega,fun _=>⟨fun h=>by omega,fun _=>⟨fun _=>?_,fun h=>absurd rfl h⟩⟩⟩
     refine aQ hin (by have:=Bk.ne t1 ea ids;simpa only[Bk,Ty.av]using this) ?_
     intro r o hr
     obtain⟨⟨mm,hmm,rfl⟩,rfl⟩:=hr
     have he2:kt (.ptr [.pid mm [(Ty.rc t1).av,ea],ea]) (mm::ids):=.cons hmm he
     have hfr:LK.ptr.has (.pid mm [(Ty.rc t1).av,ea]):=.inr (.inr ⟨_,_,rfl⟩)
     simp only[Ty.av]at he2 hfr
     simp only[↓zq,zs,ac,bH,aF,he2.has,hfr,Vl.cu,aO,Ty.av]
     refine⟨by omega,?_⟩
     have i1:=Er n m w (by omega) b _ t1 A' hv (by simp;omega) _ _ he2 (by simp[hids]) tg.up s fr (ht.push mm)
     unfold E7 at i1
     refine ai i1 ?_
     simp only[↓zq,zs,ac]
     have hadd:=Of (fun c=>.f (.l c)) (fun c=>Ok c) (cj t1 tg.up w) [] (by simp;omega)
     simp only[Vl.cu,gY,List.map_nil,aU]at hadd
     refine aY hadd ?_
     simp only[↓zq,zs,ac,aM,aO]
     have i2:=Er n m w (by omega) b _ t1 A' hv (by simp;omega) _ _ he2 (by simp[hids]) (.bd 0) [] _ (by have:=An.bd (k:=0) (ids:=mm::ids) (by simp) [(Ty.rc t1).av,ea] [];simpa only[bx,Ty.av]using this)
     unfold E7 at i2
     refine⟨by omega,?_⟩
     refine ai i2 ?_
     simp only[↓zq,zs,ac,eE]
     have hl2:=mW t1 (.bd 0) w
     have ih3:∀h,h∈cj t1 (.bd 0) w->E7 (.rc t1) ea s fr tg h.2:=fun h hh=>by
      have h3:=(il hh).1
      have h4:=iv n m w (by omega) b _ t1 A' hv 0 _ rfl h hh
      exact Er n m h.2 (by omega) (.list [x,a,b]) env (.rc t1) A h4 (by omega) ea ids he hids tg s fr ht
     have hloop:=Ip t1 ea s fr tg he.has ht.has (cj t1 (.bd 0) w) (by omega) ih3 (cj t1 (.bd 0) w).length 0 (iH (fun c=>.f (.l c)) (cj t1 tg.up w)) (by omega) (by
      simp only[bh,an,fO]
      have hlen2:(cj t1 tg.up w).length+((cj t1 (.bd 0) w).flatMap (Ao t1 tg)).length<=1+w.nodes:=hlen
      omega)
     simp only[Ty.av,gY,bh]at hloop
     refine cB hloop ?_
     simp[↓zq,zs,ac,ac,bK,gY]
    |_=>simp[eW,hhd,hx]at hv
  ·rw[dR hat (by cases v<;>rfl)]
   simp[Ty.av,↓zq,zs,ac,bK,gY]
end Go.Proofs.Trees
namespace Go.Proofs.Trees
open Go Go.VL Go.RowKit
theorem Gs:∀(v:Vl),v.cM.length<=900000->aq Tryz.prog 66 [v.cu] [] (bK (.v (.string (mk v.cM))))
 | .u,h=>by refine z7 _ ((aO _).mpr trivial) ?_;simp[wu,Vl.cu,↓zq,zs,ac,bK,Vl.cM,Vl.cG,eY]
 | .el k,h=>by refine z7 _ ((aO _).mpr trivial) ?_;simp[wu,Vl.cu,↓zq,zs,ac,bK,Vl.cM,Vl.cG,eY]
 |
  .l v,h=>by
  simp only[Vl.cM,Vl.cG,eY,ei,az,an,aH]at h
  refine z7 _ ((aO _).mpr trivial) ?_
  have hb:(⟨(bytesOf [[.v (.int .u8 108)]]).toArray⟩:ByteArray)=mk [108]:=rfl
  have ha:jw [[.v (.int .u8 108)]]:=kV 108
  simp only[wu,Vl.cu,↓zq,zs,ac,aO,fy,hb]
  refine⟨by omega,fun h=>by omega,fun _=>⟨fun h=>by omega,fun _=>⟨fun h=>by omega,fun _=>⟨by omega,ha,by simp[cK],by rw[kI,cK,cK];simp,by omega,?_⟩⟩⟩⟩
  refine ai (Gs v (by simp only[Vl.cM];omega)) ?_
  simp only[↓zq,zs,ac,zt,bK,Vl.cM,Vl.cG,eY,ei]
  refine⟨by simp;omega,by simp;omega,by simp⟩
 |
  .r v,h=>by
  simp only[Vl.cM,Vl.cG,eY,ei,az,an,aH]at h
  refine z7 _ ((aO _).mpr trivial) ?_
  have hb:(⟨(bytesOf [[.v (.int .u8 114)]]).toArray⟩:ByteArray)=mk [114]:=rfl
  have ha:jw [[.v (.int .u8 114)]]:=kV 114
  simp only[wu,Vl.cu,↓zq,zs,ac,aO,fy,hb]
  refine⟨by omega,fun h=>by omega,fun _=>⟨fun h=>by omega,fun _=>⟨fun h=>by omega,fun _=>⟨by omega,ha,by simp[cK],by rw[kI,cK,cK];simp,by omega,?_⟩⟩⟩⟩
  refine ai (Gs v (by simp only[Vl.cM];omega)) ?_
  simp only[↓zq,zs,ac,zt,bK,Vl.cM,Vl.cG,eY,ei]
  refine⟨by simp;omega,by simp;omega,by simp⟩
 |
  .f v,h=>by
  simp only[Vl.cM,Vl.cG,eY,ei,az,an,aH]at h
  refine z7 _ ((aO _).mpr trivial) ?_
  have hb:(⟨(bytesOf [[.v (.int .u8 102)]]).toArray⟩:ByteArray)=mk [102]:=rfl
  have ha:jw [[.v (.int .u8 102)]]:=kV 102
  simp only[wu,Vl.cu,↓zq,zs,ac,aO,fy,hb]
  refine⟨by omega,fun h=>by omega,fun _=>⟨fun h=>by omega,fun _=>⟨fun h=>by omega,fun _=>⟨by omega,ha,by simp[cK],by rw[kI,cK,cK];simp,by omega,?_⟩⟩⟩⟩
  refine ai (Gs v (by simp only[Vl.cM];omega)) ?_
  simp only[↓zq,zs,ac,zt,bK,Vl.cM,Vl.cG,eY,ei]
  refine⟨by simp;omega,by simp;omega,by simp⟩
 |
  .p a b,h=>by
  simp only[Vl.cM,Vl.cG,eY,ei,az,an,aH]at h
  refine z7 _ ((aO _).mpr trivial) ?_
  simp only[wu,Vl.cu,↓zq,zs,ac,aO,fy]
  refine⟨by omega,fun h=>by omega,fun _=>⟨fun h=>by omega,fun _=>⟨fun _=>⟨by omega,?_⟩,fun h=>absurd rfl h⟩⟩⟩
  refine ai (Gs a (by simp only[Vl.cM];omega)) ?_
  simp only[↓zq,zs,ac,zt,aO,Vl.cM]
  refine⟨by simp;omega,by simp;omega,by omega,?_⟩
  refine ai (Gs b (by simp only[Vl.cM];omega)) ?_
  simp only[↓zq,zs,ac,zt,bK,Vl.cM,Vl.cG,eY,ei]
  refine⟨by simp;omega,by simp;omega,by simp⟩
def uy:Option (List UInt8)->AV
 |some s=>.cD [.v (.string (mk s)),.v (.bool true)]
 |none=>.cD [.v (.string (mk [])),.v (.bool false)]
end Go.Proofs.Trees
namespace Go.Proofs.Trees
open Go Go.VL Go.RowKit
def back(n:Nat):Ty->Nat->Vl
 | .name _,c=>.el c
 | .plus a b,c=>match Ic n a with|some x=>if c<x then .l (back n a c)else .r (back n b (c-x))|none=>.u
 | .times a b,c=>match Ic n b with|some y=>.p (back n a (c/y)) (back n b (c%y))|none=>.u
 |_,_=>.u
theorem yo:∀l:List E,cv 2 (E.bu l)
 |[]=>fun c hc=>by cases hc
 |
  e::l=>fun c hc=>by
  simp only[E.bu,aJ]at hc
  rcases hc with rfl|hc
  ·exact gh e
  ·exact yo l c hc
theorem KY(w:List UInt8)(l:List E)(hl:l.length<1000000):aq Tryz.prog 98 [.v (.string (mk w)),.sl (E.bu l)] [] (bK (E.kB (.list (.atom w::l)))):=by
 refine Ma _ _ ((cg _).mpr trivial) ?_
 simp only[Gx,↓zq,zs,ac,dY,bK,E.kB,E.ik,E.bu]
 exact⟨⟨yo l,by omega⟩,rfl⟩
end Go.Proofs.Trees
namespace Go.Proofs.Trees
open Go Go.VL Go.RowKit
def lZ(l:List Hl):List (List AV):=l.map fun h=>[.v (.string (mk h.1.cG.at)),h.1.cG.sp,.v (.string (mk h.2.cG.at)),h.2.cG.sp]
theorem fu(l:List Hl):(lZ l).length=l.length:=by simp[lZ]
theorem gy{l:List Hl}{i:Nat}(hi:i<l.length):(lZ l).getD i []=[.v (.string (mk (l[i]).1.cG.at)),(l[i]).1.cG.sp,.v (.string (mk (l[i]).2.cG.at)),(l[i]).2.cG.sp]:=by simp[lZ,aa,hi]
theorem pi(out:List Hl)(a b:Vl):lZ out++[[.v (.string (mk a.cG.at)),a.cG.sp,.v (.string (mk b.cG.at)),b.cG.sp]]=lZ (out++[(a,b)]):=by simp[lZ]
theorem zh(a b c d:AV):cv 4 [[a,b,c,d]]:=fun x hx=>by simp at hx;rw[hx];rfl
theorem aL(s:ByteArray)(e:E):bH [.str,.sl] [.v (.string s),e.sp] 0=True:=by simp[bH,dW,aX]
theorem kM(s:ByteArray)(e:E)(x y:AV):bH [.str,.sl] [.v (.string s),e.sp,x,y] 0=True:=by simp[bH,dW,aX]
theorem xy(w:List UInt8)(e:E):aq Tryz.prog 98 [.v (.string (mk w)),.sl [[.v (.string (mk e.at)),e.sp]]] [] (bK (.agg [.v (.string (mk [])),(E.list [.atom w,e]).sp])):=by
 have:=KY w [e] (by simp)
 simpa only[E.bu,fI,di,E.at]using this
theorem xr(w:List UInt8)(e e':E):aq Tryz.prog 98 [.v (.string (mk w)),.sl [[.v (.string (mk e.at)),e.sp],[.v (.string (mk e'.at)),e'.sp]]] [] (bK (.agg [.v (.string (mk [])),(E.list [.atom w,e,e']).sp])):=by
 have:=KY w [e,e'] (by simp)
 simpa only[E.bu,fI,di,E.at]using this
def P3(pv:AV)(a b:E):Prop:=LK.sl.has pv/\pv.aP.length=3/\pv.aP.getD 1 []=[.v (.string (mk a.at)),a.sp]/\pv.aP.getD 2 []=[.v (.string (mk b.at)),b.sp]
theorem P3.of(x a b:E):P3 (E.list [x,a,b]).sp a b:=⟨by simp[E.sp,cg],by simp[E.sp,E.bu,fE],by simp[E.sp,E.bu,fE,fI],by simp[E.sp,E.bu,fE,fI]⟩
def P2(pv:AV)(a:E):Prop:=LK.sl.has pv/\pv.aP.length=2/\pv.aP.getD 1 []=[.v (.string (mk a.at)),a.sp]
theorem P2.of(x a:E):P2 (E.list [x,a]).sp a:=⟨by simp[E.sp,cg],by simp[E.sp,E.bu,fE],by simp[E.sp,E.bu,fE,fI]⟩
theorem Mj(w:List UInt8)(g:Vl->Vl)(hg:∀c,(g c).cG=.list [.atom w,c.cG])(l:List Hl)(hl:l.length<=1000000):∀(k i:Nat) (out:List Hl),i+k=l.length->out.length+k<=1000000 ->
 FM [.sl (lZ l),.v (.string (mk w)),.v (.int .i64 (i:Int))] [.vec 4 (lZ out)] (iF 1 [] [.vec 4 (lZ (out++iH g (l.drop i)))])
 |
  0,i,out,hi,ho=>by
  refine KC _ _ _ _ ?_
  have:i=l.length:=by omega
  subst this
  simp only[Fy,↓zq,zs,ac,fu]
  exact⟨fun h=>by omega,fun _=>by simp[iF,iH]⟩
 |
  k+1,i,out,hi,ho=>by
  have hlt:i<l.length:=by omega
  refine KC _ _ _ _ ?_
  simp only[Fy,↓zq,zs,ac,zt,fu,gy hlt,kM,aL]
  refine⟨fun _=>?_,fun h=>by omega⟩
  repeat refine⟨by omega,?_⟩
  refine ai (xy _ _) ?_
  simp only[↓zq,zs,ac,aL]
  repeat refine⟨by omega,?_⟩
  refine⟨⟨zh _ _ _ _,by omega⟩,?_⟩
  rw[bA i (by omega)]
  have:=Mj w g hg l hl k (i+1) (out++[(g (l[i]).1,(l[i]).2)]) (by omega) (by simp;omega)
  rw[bc,<-pi,hg]at this
  rw[gm g l hlt]
  exact this
theorem KL(w:List UInt8)(g:Vl->Vl)(hg:∀c,(g c).cG=.list [.atom w,c.cG])(l out:List Hl)(hl:out.length+l.length<=1000000) :
 aq Tryz.prog 126 [.sl (lZ l),.v (.string (mk w)),.vec 0] [.vec 4 (lZ out)] (dq (.vec 1) [.dead,.vec 4 (lZ (out++iH g l))]):=by
 refine Rp _ _ _ ((cg _).mpr trivial) ?_
 simp only[Np,↓zq,zs,ac]
 have h:=Mj w g hg l (by omega) l.length 0 out (by omega) (by omega)
 rw[bh]at h
 refine cB h ?_
 simp[↓zq,zs,ac,dq]
theorem Le(s:List UInt8)(ta:ByteArray)(tp:AV)(ht:LK.sl.has tp)(va:ByteArray)(vp:AV)(x y:Vl)(hp:P3 vp x.cG y.cG)(l:List Hl)(hl:l.length<=1000000):∀(k i:Nat) (out:List Hl),i+k=l.length->out.length+k<=1000000 ->
 GL [.v (.string (mk s)),.sl (lZ l),.v (.int .i64 (i:Int))] [.cells [.v (.string ta),tp],.cells [.v (.string va),vp],.vec 4 (lZ out)] (iF 1 [.v (.string (mk s))] [.cells [.v (.string ta),tp],.cells [.v (.string va),vp],.vec 4 (lZ (out++iH (fun c=>Vl.l (.p c y)) (l.drop i)))])
 |
  0,i,out,hi,ho=>by
  refine KN _ _ _ _ _ _ _ _ ?_
  have:i=l.length:=by omega
  subst this
  simp only[FP,↓zq,zs,ac,fu,ht,aX,ac,hp.1]
  exact⟨fun h=>by omega,fun _=>by simp[iF,iH]⟩
 |
  k+1,i,out,hi,ho=>by
  have hlt:i<l.length:=by omega
  refine KN _ _ _ _ _ _ _ _ ?_
  simp only[FP,↓zq,zs,ac,zt,fu,gy hlt,kM,aL,gy,ht,aX,ac,hp.1,toNat_one,bf,hp.1,hp.2.1,hp.2.2.1,hp.2.2.2]
  refine⟨fun _=>?_,fun h=>by omega⟩
  repeat refine⟨by omega,?_⟩
  refine ai (xr _ _ _) ?_
  simp only[↓zq,zs,ac,aL]
  repeat refine⟨by omega,?_⟩
  refine ai (xy [108] (E.list [.atom [112],(l[i]).1.cG,y.cG])) ?_
  simp only[↓zq,zs,ac,aL]
  repeat refine⟨by omega,?_⟩
  refine⟨⟨zh _ _ _ _,by omega⟩,?_⟩
  rw[bA i (by omega)]
  have:=Le s ta tp ht va vp x y hp l hl k (i+1) (out++[((fun c=>Vl.l (.p c y)) (l[i]).1,(l[i]).2)]) (by omega) (by simp;omega)
  rw[bc,<-pi]at this
  rw[gm (fun c=>Vl.l (.p c y)) l hlt]
  exact this
theorem MC(va:ByteArray)(vp:AV)(x y:Vl)(hp:P3 vp x.cG y.cG)(l:List Hl)(hl:l.length<=1000000):∀(k i:Nat) (out:List Hl),i+k=l.length->out.length+k<=1000000 ->
 G2 [.sl (lZ l),.v (.int .i64 (i:Int))] [.cells [.v (.string va),vp],.vec 4 (lZ out)] (iF 1 [] [.vec 4 (lZ (out++iH (fun c=>Vl.r (.p x c)) (l.drop i)))])
 |
  0,i,out,hi,ho=>by
  refine Ji _ _ _ _ _ ?_
  have:i=l.length:=by omega
  subst this
  simp only[F8,↓zq,zs,ac,fu,aX,ac,hp.1]
  exact⟨fun h=>by omega,fun _=>by simp[iF,iH]⟩
 |
  k+1,i,out,hi,ho=>by
  have hlt:i<l.length:=by omega
  refine Ji _ _ _ _ _ ?_
  simp only[F8,↓zq,zs,ac,zt,fu,gy hlt,kM,aL,gy,aX,ac,hp.1,toNat_one,bf,hp.1,hp.2.1,hp.2.2.1,hp.2.2.2]
  refine⟨fun _=>?_,fun h=>by omega⟩
  repeat refine⟨by omega,?_⟩
  refine ai (xr _ _ _) ?_
  simp only[↓zq,zs,ac,aL]
  repeat refine⟨by omega,?_⟩
  refine ai (xy [114] (E.list [.atom [112],x.cG,(l[i]).1.cG])) ?_
  simp only[↓zq,zs,ac,aL]
  repeat refine⟨by omega,?_⟩
  refine⟨⟨zh _ _ _ _,by omega⟩,?_⟩
  rw[bA i (by omega)]
  have:=MC va vp x y hp l hl k (i+1) (out++[((fun c=>Vl.r (.p x c)) (l[i]).1,(l[i]).2)]) (by omega) (by simp;omega)
  rw[bc,<-pi]at this
  rw[gm (fun c=>Vl.r (.p x c)) l hlt]
  exact this
theorem J4(s s2:List UInt8)(ta:ByteArray)(tp:AV)(ht:LK.sl.has tp)(va:ByteArray)(vp:AV)(hp:LK.sl.has vp)(l:List Hl)(hl:l.length<=1000000):∀(k i:Nat) (out:List Hl),i+k=l.length->out.length+k<=1000000 ->
 Hx [.v (.string (mk s)),.v (.string (mk s2)),.sl (lZ l),.v (.int .i64 (i:Int))] [.cells [.v (.string ta),tp],.cells [.v (.string va),vp],.vec 4 (lZ out)] (iF 1 [.v (.string (mk s)),.v (.string (mk s2))] [.cells [.v (.string ta),tp],.cells [.v (.string va),vp],.vec 4 (lZ (out++iH (fun c=>Vl.f (.l c)) (l.drop i)))])
 |
  0,i,out,hi,ho=>by
  refine Il _ _ _ _ _ _ _ _ _ ?_
  have:i=l.length:=by omega
  subst this
  simp only[E4,↓zq,zs,ac,fu,ht,aX,ac,hp]
  exact⟨fun h=>by omega,fun _=>by simp[iF,iH]⟩
 |
  k+1,i,out,hi,ho=>by
  have hlt:i<l.length:=by omega
  refine Il _ _ _ _ _ _ _ _ _ ?_
  simp only[E4,↓zq,zs,ac,zt,fu,gy hlt,kM,aL,gy,ht,aX,ac,hp]
  refine⟨fun _=>?_,fun h=>by omega⟩
  repeat refine⟨by omega,?_⟩
  refine ai (xy _ _) ?_
  simp only[↓zq,zs,ac,aL]
  repeat refine⟨by omega,?_⟩
  refine ai (xy [102] (E.list [.atom [108],(l[i]).1.cG])) ?_
  simp only[↓zq,zs,ac,aL]
  repeat refine⟨by omega,?_⟩
  refine⟨⟨zh _ _ _ _,by omega⟩,?_⟩
  rw[bA i (by omega)]
  have:=J4 s s2 ta tp ht va vp hp l hl k (i+1) (out++[((fun c=>Vl.f (.l c)) (l[i]).1,(l[i]).2)]) (by omega) (by simp;omega)
  rw[bc,<-pi]at this
  rw[gm (fun c=>Vl.f (.l c)) l hlt]
  exact this
end Go.Proofs.Trees
