/-
  Part of a proof: Go functions read by values, trees of functions, their contracts.
-/
import Derived.Test.YthcjhageibaepabGreatDoorP4
import Derived.Test.YthcjhageibaepabGreatDoorProg
import Derived.Lib.Atoi
set_option linter.unusedVariables false
set_option linter.unusedSimpArgs false
open And renaming intro→aJ
open Bool renaming and_eq_true→aA,eq_iff_iff→cJ,or_eq_false_iff→cF,or_eq_true→bI,true_and→cb
open ByteArray renaming extract→cx,size→ah,toList→ae
open Int renaming tmod→dN,toNat→bP,toNat_natCast→bF
open List renaming all_cons→di,any_eq_true→cy,append_assoc→aY,drop_eq_getElem_cons→aL,drop_eq_nil_of_le→bY,drop_zero→aZ,eq_nil_of_length_eq_zero→cg,flatMap_cons→bU,getD_cons_zero→bG,getD_eq_getElem?_getD→aa,getElem?_eq_getElem→a7,getElem_mem→bh,headD_cons→aM,length_append→an,length_cons→aw,length_drop→cB,length_nil→aF,map_cons→bA,mem_append→aP,mem_cons→aI,mem_cons_of_mem→al,mem_cons_self→ak,mem_flatMap→dA,mem_map→bO,mem_singleton→aU,nil_append→aR
open Nat renaming beq→aN,le_refl→au,zero_add→ba,zero_le→dM
open Option renaming isSome_iff_exists→a8,isSome_none→bf,map_some→cz
open UInt8 renaming ofNat→bp
namespace Go.Proofs.Trees
open Go Go.VL
noncomputable section
variable {R:AV->List Ob->Prop}{U:RL}
def Dg(a0_0:ByteArray)(a0_1:AV)(a1:AV)(a2:AV)(e3_0:List (List AV))(a3_1:Int):Tree :=
 .test (!(ae a0_0==ae (mk []))) (NL a1<|.loop Pf Hb [a1,a2,VI (IntKind.wrap .i64 ((a1.elems.length:Int)-1))] [.cells [VS a0_0,a0_1],.cells [VS (mk []),.v (.slice none 0 0)],.cells [.any,VI a3_1],.vec 1 e3_0] (fun y1 q1=>.ai ((q1.hO)=.cells (q1.hO).cs)<|.ai (af [.lk .str,.lk .sl] ((q1.hO).cs) 0 q1.tail)<|.ai (((q1.tail.drop 0).hO)=.cells ((q1.tail.drop 0).hO).cs)<|.ai (af [.lk .str,.lk .sl] (((q1.tail.drop 0).hO).cs) 0 ((q1.tail.drop 0).tail))<|.ai ((((q1.tail.drop 0).tail.drop 0).hO)=.cells (((q1.tail.drop 0).tail.drop 0).hO).cs)<|.ai (af [.vec 1,.lk (.int .i64)] ((((q1.tail.drop 0).tail.drop 0).hO).cs) 0 (((q1.tail.drop 0).tail.drop 0).tail))<|.done 0 [.agg [VS (((q1.hO).cs.getD 0 .any).toStr),((q1.hO).cs.getD 1 .any)]] [.cells [.vec 1,VI (((q1.tail.tail.hO).cs.getD 1 .any).toInt)],.vec 1 ((q1.tail.tail.tail.hO).es)]) (fun y1 q1=>.ai ((q1.hO)=.cells (q1.hO).cs)<|.ai (af [.lk .str,.lk .sl] ((q1.hO).cs) 0 q1.tail)<|.ai (((q1.tail.drop 0).hO)=.cells ((q1.tail.drop 0).hO).cs)<|.ai (af [.vec 1,.lk (.int .i64)] (((q1.tail.drop 0).hO).cs) 0 ((q1.tail.drop 0).tail))<|.done 0 [.agg [VS (((q1.hO).cs.getD 0 .any).toStr),((q1.hO).cs.getD 1 .any)]] [.cells [.vec 1,VI (((q1.tail.hO).cs.getD 1 .any).toInt)],.vec 1 ((q1.tail.tail.hO).es)])) (.call 54 [.agg [VS a0_0,a0_1]] [] fun r2 o2=>NS r2<|.test (ae r2.toStr==ae (mk [114,101,99])) (.call 136 [VI a3_1] [] fun r3 o3=>NS r3<|.ai (ah (mk [116])+ah r3.toStr<=9223372036854775807)<|.loop QO Iu [a1,a2,VS (((mk [116]):ByteArray)++r3.toStr)] [.cells [.any,VI a3_1],.vec 1 e3_0,.cells [VS a0_0,a0_1],.cells [VS (mk []),.v (.slice none 0 0)]] (fun y6 q6=>NL (y6.hA)<|NL (y6.tail.hA)<|NS (y6.tail.tail.hA)<|.ai ((q6.hO)=.cells (q6.hO).cs)<|.ai (af [.vec 1,.lk (.int .i64)] ((q6.hO).cs) 0 q6.tail)<|.ai (((q6.tail.drop 1).hO)=.cells ((q6.tail.drop 1).hO).cs)<|.ai (af [.lk .str,.lk .sl] (((q6.tail.drop 1).hO).cs) 0 ((q6.tail.drop 1).tail))<|.ai ((((q6.tail.drop 1).tail.drop 0).hO)=.cells (((q6.tail.drop 1).tail.drop 0).hO).cs)<|.ai (af [.lk .str,.lk .sl] ((((q6.tail.drop 1).tail.drop 0).hO).cs) 0 (((q6.tail.drop 1).tail.drop 0).tail))<|NG ((q6.tail.tail.hO).cs.getD 1 .any) 2 2<|NE (((q6.tail.tail.hO).cs.getD 1 .any).ix (2:Int))<|NG ((q6.tail.tail.hO).cs.getD 1 .any) 1 2<|lF (((q6.tail.tail.hO).cs.getD 1 .any).ix (1:Int))<|.call 129 [(y6.hA),VS (((((q6.tail.tail.hO).cs.getD 1 .any).ix (1:Int)).hA).toStr)] [] fun r7 o7=>.ai (r7=.vec 0/\(o7.hO)=.vec 1 (o7.hO).es)<|.ai (∀x,x∈o7->dP x)<|.call 129 [(y6.tail.hA),VS ((y6.tail.tail.hA).toStr)] [] fun r8 o8=>.ai (r8=.vec 0/\(o8.hO)=.vec 1 (o8.hO).es)<|.ai (∀x,x∈o8->dP x)<|.call 137 [.agg [VS (((((q6.tail.tail.hO).cs.getD 1 .any).ix (2:Int)).getD 0 .any).toStr),((((q6.tail.tail.hO).cs.getD 1 .any).ix (2:Int)).getD 1 .any)],.sl ((o7.hO).es),.sl ((o8.hO).es),.ref 0 0] [.cells [.vec 1,VI (IntKind.wrap .i64 ((((q6.hO).cs.getD 1 .any).toInt)+1))],.vec 1 ((q6.tail.hO).es)] fun r9 o9=>.ai ((o9.hO)=.cells (o9.hO).cs)<|.ai (aH [.vec 1,.lk (.int .i64)] ((o9.hO).cs) 0 1 o9.tail)<|NA r9<|.call 61 [VS (mk [114,101,99]),.sl [[VS ((y6.tail.tail.hA).toStr),.v (.slice none 0 0)],[VS ((r9.cs.getD 0 .any).toStr),(r9.cs.getD 1 .any)]]] [] fun r10 o10=>NA r10<|.done 0 [.agg [VS ((r10.cs.getD 0 .any).toStr),(r10.cs.getD 1 .any)]] [.cells [.vec 1,VI (((o9.hO).cs.getD 1 .any).toInt)],.vec 1 ((o9.tail.hO).es)]) (fun y6 q6=>.ai ((q6.hO)=.cells (q6.hO).cs)<|.ai (af [.vec 1,.lk (.int .i64)] ((q6.hO).cs) 0 q6.tail)<|.fail)) (NG a0_1 1 2<|NE (a0_1.ix (1:Int))<|.call 137 [.agg [VS (((a0_1.ix (1:Int)).getD 0 .any).toStr),((a0_1.ix (1:Int)).getD 1 .any)],a1,a2,.ref 0 0] [.cells [.vec 1,VI a3_1],.vec 1 e3_0] fun r11 o11=>.ai ((o11.hO)=.cells (o11.hO).cs)<|.ai (aH [.vec 1,.lk (.int .i64)] ((o11.hO).cs) 0 1 o11.tail)<|NA r11<|.call 54 [.agg [VS a0_0,a0_1]] [] fun r12 o12=>NS r12<|NG a0_1 2 2<|NE (a0_1.ix (2:Int))<|.call 137 [.agg [VS (((a0_1.ix (2:Int)).getD 0 .any).toStr),((a0_1.ix (2:Int)).getD 1 .any)],a1,a2,.ref 0 0] [.cells [.vec 1,VI (((o11.hO).cs.getD 1 .any).toInt)],.vec 1 ((o11.tail.hO).es)] fun r13 o13=>.ai ((o13.hO)=.cells (o13.hO).cs)<|.ai (aH [.vec 1,.lk (.int .i64)] ((o13.hO).cs) 0 1 o13.tail)<|NA r13<|.call 61 [VS r12.toStr,.sl [[VS ((r11.cs.getD 0 .any).toStr),(r11.cs.getD 1 .any)],[VS ((r13.cs.getD 0 .any).toStr),(r13.cs.getD 1 .any)]]] [] fun r14 o14=>NA r14<|.done 0 [.agg [VS ((r14.cs.getD 0 .any).toStr),(r14.cs.getD 1 .any)]] [.cells [.vec 1,VI (((o13.hO).cs.getD 1 .any).toInt)],.vec 1 ((o13.tail.hO).es)]))
theorem Fm(a0_0:ByteArray)(a0_1:AV)(a1:AV)(a2:AV)(e3_0:List (List AV))(a3_1:Int)(ha0_1:LK.has .sl a0_1)(ha1:LK.has .sl a1)(ha2:LK.has .sl a2)(h:dm 113 (Dg a0_0 a0_1 a1 a2 e3_0 a3_1) R):aq Tryz.prog 137 [.agg [VS a0_0,a0_1],a1,a2,.ref 0 0] [.cells [.vec 1,VI a3_1],.vec 1 e3_0] R :=
 aq.om (bH (cr (ag (az _) (ag (az _) aB))) (bH (fN _) cE)) (aq.up (ag (bW (ag (az _) (ag (bM ha0_1) aB))) (ag (bM ha1) (ag (bM ha2) (ag (az _) aB)))) (oF Hx {mu:=[(3,.one (.obj [.vec 1,.lk (.int .i64)]))],own:=[]} Tryz.f137 h))
def JL(x1:AV)(x2:AV)(x9:Int)(o4_0:ByteArray)(o4_1:AV)(o8_0:ByteArray)(o8_1:AV)(o0_0:List (List AV))(o0_1:Int):Tree :=
 NL x1<|NL x2<|NI (VI x9)<|.ai (Ob.cells [VS o4_0,o4_1]=.cells [VS o4_0,o4_1])<|.ai (af [.lk .str,.lk .sl] [VS o4_0,o4_1] 0 [.cells [VS o8_0,o8_1],.cells [.any,VI o0_1],.vec 1 o0_0])<|.ai (Ob.cells [VS o8_0,o8_1]=.cells [VS o8_0,o8_1])<|.ai (af [.lk .str,.lk .sl] [VS o8_0,o8_1] 0 [.cells [.any,VI o0_1],.vec 1 o0_0])<|.ai (Ob.cells [.any,VI o0_1]=.cells [.any,VI o0_1])<|.ai (af [.vec 1,.lk (.int .i64)] [.any,VI o0_1] 0 [.vec 1 o0_0])<|.test (decide (x9≥(0:Int))) (NG x1 x9 1<|lF (x1.ix x9)<|.test (ae (((x1.ix x9).hA).toStr)==ae o4_0) (NG x2 x9 1<|lF (x2.ix x9)<|.done 2 [] [.cells [VS (((x2.ix x9).hA).toStr),.v (.slice none 0 0)],.cells [.any,VI o0_1],.vec 1 o0_0]) (.done 0 [x1,x2,VI (IntKind.wrap .i64 (x9-1))] [.cells [VS o4_0,o4_1],.cells [VS o8_0,o8_1],.cells [.any,VI o0_1],.vec 1 o0_0])) (.done 1 [] [.cells [VS o4_0,o4_1],.cells [VS o8_0,o8_1],.cells [.any,VI o0_1],.vec 1 o0_0])
abbrev Kh:=cC Tryz.prog 113 Pf Hb
theorem Mp(x1:AV)(x2:AV)(x9:Int)(o4_0:ByteArray)(o4_1:AV)(o8_0:ByteArray)(o8_1:AV)(o0_0:List (List AV))(o0_1:Int)(h:kF 113 (JL x1 x2 x9 o4_0 o4_1 o8_0 o8_1 o0_0 o0_1) Kh U):Kh [x1,x2,VI x9] [.cells [VS o4_0,o4_1],.cells [VS o8_0,o8_1],.cells [.any,VI o0_1],.vec 1 o0_0] U :=
 gQ Hx h
def Mv(x1:AV)(x2:AV)(x10:ByteArray)(o0_0:List (List AV))(o0_1:Int)(o4_0:ByteArray)(o4_1:AV)(o8_0:ByteArray)(o8_1:AV):Tree :=
 NL x1<|NL x2<|NS (VS x10)<|.ai (Ob.cells [.any,VI o0_1]=.cells [.any,VI o0_1])<|.ai (af [.vec 1,.lk (.int .i64)] [.any,VI o0_1] 0 [.vec 1 o0_0,.cells [VS o4_0,o4_1],.cells [VS o8_0,o8_1]])<|.ai (Ob.cells [VS o4_0,o4_1]=.cells [VS o4_0,o4_1])<|.ai (af [.lk .str,.lk .sl] [VS o4_0,o4_1] 0 [.cells [VS o8_0,o8_1]])<|.ai (Ob.cells [VS o8_0,o8_1]=.cells [VS o8_0,o8_1])<|.ai (af [.lk .str,.lk .sl] [VS o8_0,o8_1] 0 [])<|.call 139 [.sl o0_0,VS x10] [] fun r1 o1=>NB r1<|.test r1.toBool (.call 136 [VI (IntKind.wrap .i64 (o0_1+1))] [] fun r2 o2=>NS r2<|.ai (ah (mk [116])+ah r2.toStr<=9223372036854775807)<|.done 0 [x1,x2,VS (((mk [116]):ByteArray)++r2.toStr)] [.cells [.any,VI (IntKind.wrap .i64 (o0_1+1))],.vec 1 o0_0,.cells [VS o4_0,o4_1],.cells [VS o8_0,o8_1]]) (.done 1 [x1,x2,VS x10] [.cells [.any,VI o0_1],.vec 1 o0_0,.cells [VS o4_0,o4_1],.cells [VS o8_0,o8_1]])
abbrev HG:=cC Tryz.prog 113 QO Iu
theorem Sr(x1:AV)(x2:AV)(x10:ByteArray)(o0_0:List (List AV))(o0_1:Int)(o4_0:ByteArray)(o4_1:AV)(o8_0:ByteArray)(o8_1:AV)(h:kF 113 (Mv x1 x2 x10 o0_0 o0_1 o4_0 o4_1 o8_0 o8_1) HG U):HG [x1,x2,VS x10] [.cells [.any,VI o0_1],.vec 1 o0_0,.cells [VS o4_0,o4_1],.cells [VS o8_0,o8_1]] U :=
 gQ Hx h
def xW(a0_0:ByteArray)(a0_1:AV):Tree :=
 .test (!(ae a0_0==ae (mk []))) (.test (ae a0_0==ae (mk [48])) (.done 0 [VB true] []) (.test (ae a0_0==ae (mk [49])) (.done 0 [VB true] []) (.call 101 [VS a0_0] [] fun r1 o1=>NB r1<|.test r1.toBool (.done 0 [VB true] []) (.call 99 [VS a0_0] [] fun r2 o2=>NB r2<|.done 0 [VB r2.toBool] [])))) (NL a0_1<|.test ((a0_1.elems.length:Int) != (3:Int)) (.done 0 [VB false] []) (.call 54 [.agg [VS a0_0,a0_1]] [] fun r3 o3=>NS r3<|.test (ae r3.toStr==ae (mk [43])) (NG a0_1 1 2<|NE (a0_1.ix (1:Int))<|.call 138 [.agg [VS (((a0_1.ix (1:Int)).getD 0 .any).toStr),((a0_1.ix (1:Int)).getD 1 .any)]] [] fun r4 o4=>NB r4<|.test r4.toBool (NG a0_1 2 2<|NE (a0_1.ix (2:Int))<|.call 138 [.agg [VS (((a0_1.ix (2:Int)).getD 0 .any).toStr),((a0_1.ix (2:Int)).getD 1 .any)]] [] fun r5 o5=>NB r5<|.done 0 [VB r5.toBool] []) (.done 0 [VB false] [])) (.test (ae r3.toStr==ae (mk [42])) (NG a0_1 1 2<|NE (a0_1.ix (1:Int))<|.call 138 [.agg [VS (((a0_1.ix (1:Int)).getD 0 .any).toStr),((a0_1.ix (1:Int)).getD 1 .any)]] [] fun r6 o6=>NB r6<|.test r6.toBool (NG a0_1 2 2<|NE (a0_1.ix (2:Int))<|.call 138 [.agg [VS (((a0_1.ix (2:Int)).getD 0 .any).toStr),((a0_1.ix (2:Int)).getD 1 .any)]] [] fun r7 o7=>NB r7<|.done 0 [VB r7.toBool] []) (.done 0 [VB false] [])) (.test (ae r3.toStr==ae (mk [114,101,99])) (NG a0_1 1 2<|lF (a0_1.ix (1:Int))<|.call 99 [VS (((a0_1.ix (1:Int)).hA).toStr)] [] fun r8 o8=>NB r8<|.test r8.toBool (NG a0_1 2 2<|NE (a0_1.ix (2:Int))<|.call 138 [.agg [VS (((a0_1.ix (2:Int)).getD 0 .any).toStr),((a0_1.ix (2:Int)).getD 1 .any)]] [] fun r9 o9=>NB r9<|.done 0 [VB r9.toBool] []) (.done 0 [VB false] [])) (.done 0 [VB false] [])))))
theorem Pr(a0_0:ByteArray)(a0_1:AV)(ha0_1:LK.has .sl a0_1)(h:dm 60 (xW a0_0 a0_1) R):aq Tryz.prog 138 [.agg [VS a0_0,a0_1]] [] R :=
 uQ (ag (bW (ag (az _) (ag (bM ha0_1) aB))) aB) (oQ [] Tryz.f138 h)
def I1:LI:={hd:={bR:=[(0,.k .sl),(1,.k .str),(5,.k (.int .i64))]},xs:={},rt:={bR:=[(4,.k .bool)]},ex:=0}
def Ol:Code:=cK (cD Tryz.f139) 2
def MC:List (Nat×LI):=[(2,I1)]
def LN(a0:AV)(a1:ByteArray):Tree :=
 .loop Ol I1 [a0,VS a1,VI 0] [] (fun y1 q1=>.done 0 [VB false] []) (fun y1 q1=>NB (y1.hA)<|.done 0 [VB ((y1.hA).toBool)] [])
theorem RJ(a0:AV)(a1:ByteArray)(ha0:LK.has .sl a0)(h:dm 18 (LN a0 a1) R):aq Tryz.prog 139 [a0,VS a1] [] R :=
 uQ (ag (bM ha0) (ag (az _) aB)) (oQ MC Tryz.f139 h)
def I4(x0:AV)(x1:ByteArray)(x5:Int):Tree :=
 NL x0<|NS (VS x1)<|NI (VI x5)<|NL x0<|.test (decide (x5<(x0.elems.length:Int))) (NG x0 x5 1<|lF (x0.ix x5)<|.test (ae (((x0.ix x5).hA).toStr)==ae x1) (.done 2 [VB true] []) (.done 0 [x0,VS x1,VI (IntKind.wrap .i64 (x5+1))] [])) (.done 1 [] [])
abbrev JY:=cC Tryz.prog 18 Ol I1
theorem NF(x0:AV)(x1:ByteArray)(x5:Int)(h:kF 18 (I4 x0 x1 x5) JY U):JY [x0,VS x1,VI x5] [] U :=
 gQ MC h
def IW:LI:={hd:={bR:=[(0,.k .str),(7,.k (.int .i64))]},xs:={},rt:={bR:=[(6,.k .bool)]},ex:=0}
def OT:Code:=cK (cD Tryz.f140) 4
def Lc:List (Nat×LI):=[(4,IW)]
def Np(a0:ByteArray)(a1:Int)(a2:Int):Tree :=
 .call 55 [VI (ah a0:Int),VI 1,VI 3] [] fun r1 o1=>NB r1<|.test (!r1.toBool) (.done 0 [VB false] []) (.ai (0<=(0:Int)/\(0:Int)<ah a0)<|.test (decide ((bt a0 0)<a1)) (.done 0 [VB false] []) (.ai (0<=(0:Int)/\(0:Int)<ah a0)<|.test (decide ((bt a0 0)>a2)) (.done 0 [VB false] []) (.loop OT IW [VS a0,VI 1] [] (fun y2 q2=>.done 0 [VB true] []) (fun y2 q2=>NB (y2.hA)<|.done 0 [VB ((y2.hA).toBool)] []))))
theorem UD(a0:ByteArray)(a1:Int)(a2:Int)(h:dm 40 (Np a0 a1 a2) R):aq Tryz.prog 140 [VS a0,.v (.int .u8 a1),.v (.int .u8 a2)] [] R :=
 uQ (ag (az _) (ag (az _) (ag (az _) aB))) (oQ Lc Tryz.f140 h)
def IL(x0:ByteArray)(x7:Int):Tree :=
 NS (VS x0)<|NI (VI x7)<|.test (decide (x7<(ah x0:Int))) (.ai (0<=x7/\x7<ah x0)<|.test (decide ((bt x0 x7)<(48:Int))) (.done 2 [VB false] []) (.ai (0<=x7/\x7<ah x0)<|.test (decide ((bt x0 x7)>(57:Int))) (.done 2 [VB false] []) (.done 0 [VS x0,VI (IntKind.wrap .i64 (x7+1))] []))) (.done 1 [] [])
abbrev Iz:=cC Tryz.prog 40 OT IW
theorem PW(x0:ByteArray)(x7:Int)(h:kF 40 (IL x0 x7) Iz U):Iz [VS x0,VI x7] [] U :=
 gQ Lc h
def Le(a0:Int):Tree :=
 .test (decide (a0≥(97:Int))) (.test (decide (a0<=(122:Int))) (.done 0 [VB true] []) (.test (decide (a0≥(48:Int))) (.test (decide (a0<=(57:Int))) (.done 0 [VB true] []) (.test (a0==(42:Int)) (.done 0 [VB true] []) (.done 0 [VB (a0==(43:Int))] []))) (.test (a0==(42:Int)) (.done 0 [VB true] []) (.done 0 [VB (a0==(43:Int))] [])))) (.test (decide (a0≥(48:Int))) (.test (decide (a0<=(57:Int))) (.done 0 [VB true] []) (.test (a0==(42:Int)) (.done 0 [VB true] []) (.done 0 [VB (a0==(43:Int))] []))) (.test (a0==(42:Int)) (.done 0 [VB true] []) (.done 0 [VB (a0==(43:Int))] [])))
theorem UI(a0:Int)(h:dm 25 (Le a0) R):aq Tryz.prog 141 [.v (.int .u8 a0)] [] R :=
 uQ (ag (az _) aB) (oQ [] Tryz.f141 h)
def QX(a0_0:AV)(a0_1:Int):Tree :=
 .call 45 [.ref 0 0,VI 12] [.cells [a0_0,VI a0_1]] fun r1 o1=>.ai ((o1.hO)=.cells (o1.hO).cs)<|.ai (aH [.lk .sl,.lk (.int .i64)] ((o1.hO).cs) 0 1 o1.tail)<|NI r1<|.test (r1.toInt==(0:Int)) (.call 94 [.ref 0 0,.sl [[VS (mk [])],[VS (mk [97])],[VS (mk [40,43,32,49,41])],[VS (mk [40,114,101,99,32,120,32,49,41])],[VS (mk [40,114,101,99,32,116,41])],[VS (mk [40,43,32,32,49,32,49,41])],[VS (mk [40,42,32,49,32,49,32,49,41])],[VS (mk [116,49,48,48])],[VS (mk [120,32,49])]]] [.cells [((o1.hO).cs.getD 0 .any),VI (((o1.hO).cs.getD 1 .any).toInt)]] fun r2 o2=>.ai ((o2.hO)=.cells (o2.hO).cs)<|.ai (aH [.lk .sl,.lk (.int .i64)] ((o2.hO).cs) 0 1 o2.tail)<|NS r2<|.done 0 [VS r2.toStr] [.cells [((o2.hO).cs.getD 0 .any),VI (((o2.hO).cs.getD 1 .any).toInt)]]) (.test (r1.toInt==(1:Int)) (.call 68 [.ref 0 0] [.cells [((o1.hO).cs.getD 0 .any),VI (((o1.hO).cs.getD 1 .any).toInt)]] fun r3 o3=>.ai ((o3.hO)=.cells (o3.hO).cs)<|.ai (aH [.lk .sl,.lk (.int .i64)] ((o3.hO).cs) 0 1 o3.tail)<|NS r3<|.done 0 [VS r3.toStr] [.cells [((o3.hO).cs.getD 0 .any),VI (((o3.hO).cs.getD 1 .any).toInt)]]) (.test (r1.toInt==(2:Int)) (.call 68 [.ref 0 0] [.cells [((o1.hO).cs.getD 0 .any),VI (((o1.hO).cs.getD 1 .any).toInt)]] fun r4 o4=>.ai ((o4.hO)=.cells (o4.hO).cs)<|.ai (aH [.lk .sl,.lk (.int .i64)] ((o4.hO).cs) 0 1 o4.tail)<|NS r4<|.done 0 [VS r4.toStr] [.cells [((o4.hO).cs.getD 0 .any),VI (((o4.hO).cs.getD 1 .any).toInt)]]) (.test (r1.toInt==(3:Int)) (.call 68 [.ref 0 0] [.cells [((o1.hO).cs.getD 0 .any),VI (((o1.hO).cs.getD 1 .any).toInt)]] fun r5 o5=>.ai ((o5.hO)=.cells (o5.hO).cs)<|.ai (aH [.lk .sl,.lk (.int .i64)] ((o5.hO).cs) 0 1 o5.tail)<|NS r5<|.done 0 [VS r5.toStr] [.cells [((o5.hO).cs.getD 0 .any),VI (((o5.hO).cs.getD 1 .any).toInt)]]) (.test (r1.toInt==(4:Int)) (.call 143 [.ref 0 0,.sl [[VS (mk [116])],[VS (mk [116,49])]],VI 2] [.cells [((o1.hO).cs.getD 0 .any),VI (((o1.hO).cs.getD 1 .any).toInt)]] fun r6 o6=>.ai ((o6.hO)=.cells (o6.hO).cs)<|.ai (aH [.lk .sl,.lk (.int .i64)] ((o6.hO).cs) 0 1 o6.tail)<|NS r6<|.done 0 [VS r6.toStr] [.cells [((o6.hO).cs.getD 0 .any),VI (((o6.hO).cs.getD 1 .any).toInt)]]) (.call 143 [.ref 0 0,.sl [],VI 3] [.cells [((o1.hO).cs.getD 0 .any),VI (((o1.hO).cs.getD 1 .any).toInt)]] fun r7 o7=>.ai ((o7.hO)=.cells (o7.hO).cs)<|.ai (aH [.lk .sl,.lk (.int .i64)] ((o7.hO).cs) 0 1 o7.tail)<|NS r7<|.done 0 [VS r7.toStr] [.cells [((o7.hO).cs.getD 0 .any),VI (((o7.hO).cs.getD 1 .any).toInt)]])))))
theorem Ss(a0_0:AV)(a0_1:Int)(ha0_0:LK.has .sl a0_0)(h:dm 24 (QX a0_0 a0_1) R):aq Tryz.prog 142 [.ref 0 0] [.cells [a0_0,VI a0_1]] R :=
 aq.om (bH (cr (ag (bM ha0_0) (ag (az _) aB))) cE) (aq.up (ag (az _) aB) (oF [] {mu:=[(0,.one (.obj [.lk .sl,.lk (.int .i64)]))],own:=[]} Tryz.f142 h))
def J6(a0_0:AV)(a0_1:Int)(a1:AV)(a2:Int):Tree :=
 .test (decide (a2<=(0:Int))) (NL a1<|.test (decide ((a1.elems.length:Int)>(0:Int))) (.call 45 [.ref 0 0,VI 3] [.cells [a0_0,VI a0_1]] fun r1 o1=>.ai ((o1.hO)=.cells (o1.hO).cs)<|.ai (aH [.lk .sl,.lk (.int .i64)] ((o1.hO).cs) 0 1 o1.tail)<|NI r1<|.test (r1.toInt==(0:Int)) (NL a1<|.call 45 [.ref 0 0,VI (a1.elems.length:Int)] [.cells [((o1.hO).cs.getD 0 .any),VI (((o1.hO).cs.getD 1 .any).toInt)]] fun r2 o2=>.ai ((o2.hO)=.cells (o2.hO).cs)<|.ai (aH [.lk .sl,.lk (.int .i64)] ((o2.hO).cs) 0 1 o2.tail)<|NI r2<|.ai (LK.has .sl a1/\0<=r2.toInt/\r2.toInt<a1.elems.length/\(a1.elems.getD r2.toInt.toNat []).length=1)<|lF (a1.elems.getD r2.toInt.toNat [])<|.done 0 [VS (((a1.elems.getD r2.toInt.toNat []).hA).toStr)] [.cells [((o2.hO).cs.getD 0 .any),VI (((o2.hO).cs.getD 1 .any).toInt)]]) (.call 94 [.ref 0 0,.sl [[VS (mk [120])],[VS (mk [49])],[VS (mk [120])],[VS (mk [121])],[VS (mk [48])],[VS (mk [49])]]] [.cells [((o1.hO).cs.getD 0 .any),VI (((o1.hO).cs.getD 1 .any).toInt)]] fun r3 o3=>.ai ((o3.hO)=.cells (o3.hO).cs)<|.ai (aH [.lk .sl,.lk (.int .i64)] ((o3.hO).cs) 0 1 o3.tail)<|NS r3<|.done 0 [VS r3.toStr] [.cells [((o3.hO).cs.getD 0 .any),VI (((o3.hO).cs.getD 1 .any).toInt)]])) (.call 94 [.ref 0 0,.sl [[VS (mk [120])],[VS (mk [49])],[VS (mk [120])],[VS (mk [121])],[VS (mk [48])],[VS (mk [49])]]] [.cells [a0_0,VI a0_1]] fun r4 o4=>.ai ((o4.hO)=.cells (o4.hO).cs)<|.ai (aH [.lk .sl,.lk (.int .i64)] ((o4.hO).cs) 0 1 o4.tail)<|NS r4<|.done 0 [VS r4.toStr] [.cells [((o4.hO).cs.getD 0 .any),VI (((o4.hO).cs.getD 1 .any).toInt)]])) (.call 45 [.ref 0 0,VI 4] [.cells [a0_0,VI a0_1]] fun r5 o5=>.ai ((o5.hO)=.cells (o5.hO).cs)<|.ai (aH [.lk .sl,.lk (.int .i64)] ((o5.hO).cs) 0 1 o5.tail)<|NI r5<|.test (r5.toInt==(0:Int)) (NL a1<|.test (decide ((a1.elems.length:Int)>(0:Int))) (.call 45 [.ref 0 0,VI 3] [.cells [((o5.hO).cs.getD 0 .any),VI (((o5.hO).cs.getD 1 .any).toInt)]] fun r6 o6=>.ai ((o6.hO)=.cells (o6.hO).cs)<|.ai (aH [.lk .sl,.lk (.int .i64)] ((o6.hO).cs) 0 1 o6.tail)<|NI r6<|.test (r6.toInt==(0:Int)) (NL a1<|.call 45 [.ref 0 0,VI (a1.elems.length:Int)] [.cells [((o6.hO).cs.getD 0 .any),VI (((o6.hO).cs.getD 1 .any).toInt)]] fun r7 o7=>.ai ((o7.hO)=.cells (o7.hO).cs)<|.ai (aH [.lk .sl,.lk (.int .i64)] ((o7.hO).cs) 0 1 o7.tail)<|NI r7<|.ai (LK.has .sl a1/\0<=r7.toInt/\r7.toInt<a1.elems.length/\(a1.elems.getD r7.toInt.toNat []).length=1)<|lF (a1.elems.getD r7.toInt.toNat [])<|.done 0 [VS (((a1.elems.getD r7.toInt.toNat []).hA).toStr)] [.cells [((o7.hO).cs.getD 0 .any),VI (((o7.hO).cs.getD 1 .any).toInt)]]) (.call 94 [.ref 0 0,.sl [[VS (mk [120])],[VS (mk [49])],[VS (mk [120])],[VS (mk [121])],[VS (mk [48])],[VS (mk [49])]]] [.cells [((o6.hO).cs.getD 0 .any),VI (((o6.hO).cs.getD 1 .any).toInt)]] fun r8 o8=>.ai ((o8.hO)=.cells (o8.hO).cs)<|.ai (aH [.lk .sl,.lk (.int .i64)] ((o8.hO).cs) 0 1 o8.tail)<|NS r8<|.done 0 [VS r8.toStr] [.cells [((o8.hO).cs.getD 0 .any),VI (((o8.hO).cs.getD 1 .any).toInt)]])) (.call 94 [.ref 0 0,.sl [[VS (mk [120])],[VS (mk [49])],[VS (mk [120])],[VS (mk [121])],[VS (mk [48])],[VS (mk [49])]]] [.cells [((o5.hO).cs.getD 0 .any),VI (((o5.hO).cs.getD 1 .any).toInt)]] fun r9 o9=>.ai ((o9.hO)=.cells (o9.hO).cs)<|.ai (aH [.lk .sl,.lk (.int .i64)] ((o9.hO).cs) 0 1 o9.tail)<|NS r9<|.done 0 [VS r9.toStr] [.cells [((o9.hO).cs.getD 0 .any),VI (((o9.hO).cs.getD 1 .any).toInt)]])) (.call 45 [.ref 0 0,VI 5] [.cells [((o5.hO).cs.getD 0 .any),VI (((o5.hO).cs.getD 1 .any).toInt)]] fun r10 o10=>.ai ((o10.hO)=.cells (o10.hO).cs)<|.ai (aH [.lk .sl,.lk (.int .i64)] ((o10.hO).cs) 0 1 o10.tail)<|NI r10<|.test (r10.toInt==(0:Int)) (.call 143 [.ref 0 0,a1,VI (IntKind.wrap .i64 (a2-1))] [.cells [((o10.hO).cs.getD 0 .any),VI (((o10.hO).cs.getD 1 .any).toInt)]] fun r11 o11=>.ai ((o11.hO)=.cells (o11.hO).cs)<|.ai (aH [.lk .sl,.lk (.int .i64)] ((o11.hO).cs) 0 1 o11.tail)<|NS r11<|.ai (ah (mk [40,43,32])+ah r11.toStr<=9223372036854775807)<|.ai (ah (((mk [40,43,32]):ByteArray)++r11.toStr)+ah (mk [32])<=9223372036854775807)<|.call 143 [.ref 0 0,a1,VI (IntKind.wrap .i64 (a2-1))] [.cells [((o11.hO).cs.getD 0 .any),VI (((o11.hO).cs.getD 1 .any).toInt)]] fun r12 o12=>.ai ((o12.hO)=.cells (o12.hO).cs)<|.ai (aH [.lk .sl,.lk (.int .i64)] ((o12.hO).cs) 0 1 o12.tail)<|NS r12<|.ai (ah (((((mk [40,43,32]):ByteArray)++r11.toStr):ByteArray)++(mk [32]))+ah r12.toStr<=9223372036854775807)<|.ai (ah (((((((mk [40,43,32]):ByteArray)++r11.toStr):ByteArray)++(mk [32])):ByteArray)++r12.toStr)+ah (mk [41])<=9223372036854775807)<|.done 0 [VS (((((((((mk [40,43,32]):ByteArray)++r11.toStr):ByteArray)++(mk [32])):ByteArray)++r12.toStr):ByteArray)++(mk [41]))] [.cells [((o12.hO).cs.getD 0 .any),VI (((o12.hO).cs.getD 1 .any).toInt)]]) (.test (r10.toInt==(1:Int)) (.call 143 [.ref 0 0,a1,VI (IntKind.wrap .i64 (a2-1))] [.cells [((o10.hO).cs.getD 0 .any),VI (((o10.hO).cs.getD 1 .any).toInt)]] fun r13 o13=>.ai ((o13.hO)=.cells (o13.hO).cs)<|.ai (aH [.lk .sl,.lk (.int .i64)] ((o13.hO).cs) 0 1 o13.tail)<|NS r13<|.ai (ah (mk [40,43,32])+ah r13.toStr<=9223372036854775807)<|.ai (ah (((mk [40,43,32]):ByteArray)++r13.toStr)+ah (mk [32])<=9223372036854775807)<|.call 143 [.ref 0 0,a1,VI (IntKind.wrap .i64 (a2-1))] [.cells [((o13.hO).cs.getD 0 .any),VI (((o13.hO).cs.getD 1 .any).toInt)]] fun r14 o14=>.ai ((o14.hO)=.cells (o14.hO).cs)<|.ai (aH [.lk .sl,.lk (.int .i64)] ((o14.hO).cs) 0 1 o14.tail)<|NS r14<|.ai (ah (((((mk [40,43,32]):ByteArray)++r13.toStr):ByteArray)++(mk [32]))+ah r14.toStr<=9223372036854775807)<|.ai (ah (((((((mk [40,43,32]):ByteArray)++r13.toStr):ByteArray)++(mk [32])):ByteArray)++r14.toStr)+ah (mk [41])<=9223372036854775807)<|.done 0 [VS (((((((((mk [40,43,32]):ByteArray)++r13.toStr):ByteArray)++(mk [32])):ByteArray)++r14.toStr):ByteArray)++(mk [41]))] [.cells [((o14.hO).cs.getD 0 .any),VI (((o14.hO).cs.getD 1 .any).toInt)]]) (.test (r10.toInt==(2:Int)) (.call 143 [.ref 0 0,a1,VI (IntKind.wrap .i64 (a2-1))] [.cells [((o10.hO).cs.getD 0 .any),VI (((o10.hO).cs.getD 1 .any).toInt)]] fun r15 o15=>.ai ((o15.hO)=.cells (o15.hO).cs)<|.ai (aH [.lk .sl,.lk (.int .i64)] ((o15.hO).cs) 0 1 o15.tail)<|NS r15<|.ai (ah (mk [40,42,32])+ah r15.toStr<=9223372036854775807)<|.ai (ah (((mk [40,42,32]):ByteArray)++r15.toStr)+ah (mk [32])<=9223372036854775807)<|.call 143 [.ref 0 0,a1,VI (IntKind.wrap .i64 (a2-1))] [.cells [((o15.hO).cs.getD 0 .any),VI (((o15.hO).cs.getD 1 .any).toInt)]] fun r16 o16=>.ai ((o16.hO)=.cells (o16.hO).cs)<|.ai (aH [.lk .sl,.lk (.int .i64)] ((o16.hO).cs) 0 1 o16.tail)<|NS r16<|.ai (ah (((((mk [40,42,32]):ByteArray)++r15.toStr):ByteArray)++(mk [32]))+ah r16.toStr<=9223372036854775807)<|.ai (ah (((((((mk [40,42,32]):ByteArray)++r15.toStr):ByteArray)++(mk [32])):ByteArray)++r16.toStr)+ah (mk [41])<=9223372036854775807)<|.done 0 [VS (((((((((mk [40,42,32]):ByteArray)++r15.toStr):ByteArray)++(mk [32])):ByteArray)++r16.toStr):ByteArray)++(mk [41]))] [.cells [((o16.hO).cs.getD 0 .any),VI (((o16.hO).cs.getD 1 .any).toInt)]]) (.test (r10.toInt==(3:Int)) (.call 143 [.ref 0 0,a1,VI (IntKind.wrap .i64 (a2-1))] [.cells [((o10.hO).cs.getD 0 .any),VI (((o10.hO).cs.getD 1 .any).toInt)]] fun r17 o17=>.ai ((o17.hO)=.cells (o17.hO).cs)<|.ai (aH [.lk .sl,.lk (.int .i64)] ((o17.hO).cs) 0 1 o17.tail)<|NS r17<|.ai (ah (mk [40,42,32])+ah r17.toStr<=9223372036854775807)<|.ai (ah (((mk [40,42,32]):ByteArray)++r17.toStr)+ah (mk [32])<=9223372036854775807)<|.call 143 [.ref 0 0,a1,VI (IntKind.wrap .i64 (a2-1))] [.cells [((o17.hO).cs.getD 0 .any),VI (((o17.hO).cs.getD 1 .any).toInt)]] fun r18 o18=>.ai ((o18.hO)=.cells (o18.hO).cs)<|.ai (aH [.lk .sl,.lk (.int .i64)] ((o18.hO).cs) 0 1 o18.tail)<|NS r18<|.ai (ah (((((mk [40,42,32]):ByteArray)++r17.toStr):ByteArray)++(mk [32]))+ah r18.toStr<=9223372036854775807)<|.ai (ah (((((((mk [40,42,32]):ByteArray)++r17.toStr):ByteArray)++(mk [32])):ByteArray)++r18.toStr)+ah (mk [41])<=9223372036854775807)<|.done 0 [VS (((((((((mk [40,42,32]):ByteArray)++r17.toStr):ByteArray)++(mk [32])):ByteArray)++r18.toStr):ByteArray)++(mk [41]))] [.cells [((o18.hO).cs.getD 0 .any),VI (((o18.hO).cs.getD 1 .any).toInt)]]) (.call 94 [.ref 0 0,.sl [[VS (mk [116])],[VS (mk [116,49])],[VS (mk [116,48])]]] [.cells [((o10.hO).cs.getD 0 .any),VI (((o10.hO).cs.getD 1 .any).toInt)]] fun r19 o19=>.ai ((o19.hO)=.cells (o19.hO).cs)<|.ai (aH [.lk .sl,.lk (.int .i64)] ((o19.hO).cs) 0 1 o19.tail)<|NS r19<|.ai (ah (mk [40,114,101,99,32])+ah r19.toStr<=9223372036854775807)<|.ai (ah (((mk [40,114,101,99,32]):ByteArray)++r19.toStr)+ah (mk [32,40,43,32,49,32])<=9223372036854775807)<|.call 129 [a1,VS r19.toStr] [] fun r20 o20=>.ai (r20=.vec 0/\(o20.hO)=.vec 1 (o20.hO).es)<|.ai (∀x,x∈o20->dP x)<|.call 143 [.ref 0 0,.sl ((o20.hO).es),VI (IntKind.wrap .i64 (a2-1))] [.cells [((o19.hO).cs.getD 0 .any),VI (((o19.hO).cs.getD 1 .any).toInt)]] fun r21 o21=>.ai ((o21.hO)=.cells (o21.hO).cs)<|.ai (aH [.lk .sl,.lk (.int .i64)] ((o21.hO).cs) 0 1 o21.tail)<|NS r21<|.ai (ah (((((mk [40,114,101,99,32]):ByteArray)++r19.toStr):ByteArray)++(mk [32,40,43,32,49,32]))+ah r21.toStr<=9223372036854775807)<|.ai (ah (((((((mk [40,114,101,99,32]):ByteArray)++r19.toStr):ByteArray)++(mk [32,40,43,32,49,32])):ByteArray)++r21.toStr)+ah (mk [41,41])<=9223372036854775807)<|.done 0 [VS (((((((((mk [40,114,101,99,32]):ByteArray)++r19.toStr):ByteArray)++(mk [32,40,43,32,49,32])):ByteArray)++r21.toStr):ByteArray)++(mk [41,41]))] [.cells [((o21.hO).cs.getD 0 .any),VI (((o21.hO).cs.getD 1 .any).toInt)]]))))))
theorem LF(a0_0:AV)(a0_1:Int)(a1:AV)(a2:Int)(ha1:LK.has .sl a1)(ha0_0:LK.has .sl a0_0)(h:dm 82 (J6 a0_0 a0_1 a1 a2) R):aq Tryz.prog 143 [.ref 0 0,a1,VI a2] [.cells [a0_0,VI a0_1]] R :=
 aq.om (bH (cr (ag (bM ha0_0) (ag (az _) aB))) cE) (aq.up (ag (az _) (ag (bM ha1) (ag (az _) aB))) (oF [] {mu:=[(0,.one (.obj [.lk .sl,.lk (.int .i64)]))],own:=[]} Tryz.f143 h))
def Mj(a0:Int):Tree :=
 .test (decide (a0≥(97:Int))) (.test (decide (a0<=(122:Int))) (.done 0 [VB true] []) (.test (decide (a0≥(48:Int))) (.test (decide (a0<=(57:Int))) (.done 0 [VB true] []) (.test (a0==(43:Int)) (.done 0 [VB true] []) (.done 0 [VB (a0==(42:Int))] []))) (.test (a0==(43:Int)) (.done 0 [VB true] []) (.done 0 [VB (a0==(42:Int))] [])))) (.test (decide (a0≥(48:Int))) (.test (decide (a0<=(57:Int))) (.done 0 [VB true] []) (.test (a0==(43:Int)) (.done 0 [VB true] []) (.done 0 [VB (a0==(42:Int))] []))) (.test (a0==(43:Int)) (.done 0 [VB true] []) (.done 0 [VB (a0==(42:Int))] [])))
theorem R8(a0:Int)(h:dm 25 (Mj a0) R):aq Tryz.prog 144 [.v (.int .u8 a0)] [] R :=
 uQ (ag (az _) aB) (oQ [] Tryz.f144 h)
def MM(a0:ByteArray)(a1:ByteArray):Tree :=
 .test (decide ((ah a0:Int)≥(1:Int))) (.test (decide ((ah a0:Int)<=(3:Int))) (.ai (0<=(0:Int)/\(0:Int)<=(1:Int)/\(1:Int)<=(ah a0:Int))<|.call 158 [VS a1,VS (cx a0 (bP 0) (bP 1))] [] fun r1 o1=>NB r1<|.test r1.toBool (.ai (0<=(1:Int)/\(1:Int)<=(ah a0:Int)/\(ah a0:Int)<=(ah a0:Int))<|.call 153 [VS (cx a0 (bP 1) (bP (ah a0:Int))),VS (mk [48,49,50,51,52,53,54,55,56,57])] [] fun r2 o2=>NS r2<|.done 0 [VB (ae r2.toStr==ae (mk []))] []) (.done 0 [VB false] [])) (.done 0 [VB false] [])) (.done 0 [VB false] [])
theorem SD(a0:ByteArray)(a1:ByteArray)(h:dm 25 (MM a0 a1) R):aq Tryz.prog 145 [VS a0,VS a1] [] R :=
 uQ (ag (az _) (ag (az _) aB)) (oQ [] Tryz.f145 h)
def Gp(a0:AV)(e1_0_0:List (List AV)):Tree :=
 .call 148 [a0,.ref 0 0] [.cells [.vec 1],.vec 1 e1_0_0] fun r1 o1=>.ai ((o1.hO)=.cells (o1.hO).cs)<|.ai (aH [.vec 1] ((o1.hO).cs) 0 1 o1.tail)<|NZ a0<|NZ a0<|eg (a0.deref.drop 3)<|NP ((a0.deref.drop 3).hA)<|.test (!((a0.deref.drop 3).hA).isNil) (NZ a0<|NZ a0<|eg (a0.deref.drop 3)<|.call 147 [((a0.deref.drop 3).hA),.fn 148 [.ref 0 0]] [.cells [.vec 1],.vec 1 ((o1.tail.hO).es)] fun r2 o2=>.ai ((o2.hO)=.cells (o2.hO).cs)<|.ai (aH [.vec 1] ((o2.hO).cs) 0 1 o2.tail)<|NZ a0<|NZ a0<|eg (a0.deref.drop 4)<|NP ((a0.deref.drop 4).hA)<|.test (!((a0.deref.drop 4).hA).isNil) (NZ a0<|NZ a0<|eg (a0.deref.drop 4)<|.call 147 [((a0.deref.drop 4).hA),.fn 148 [.ref 0 0]] [.cells [.vec 1],.vec 1 ((o2.tail.hO).es)] fun r3 o3=>.ai ((o3.hO)=.cells (o3.hO).cs)<|.ai (aH [.vec 1] ((o3.hO).cs) 0 1 o3.tail)<|.done 0 [.any] [.cells [.vec 1],.vec 1 ((o3.tail.hO).es)]) (.done 0 [.any] [.cells [.vec 1],.vec 1 ((o2.tail.hO).es)])) (NZ a0<|NZ a0<|eg (a0.deref.drop 4)<|NP ((a0.deref.drop 4).hA)<|.test (!((a0.deref.drop 4).hA).isNil) (NZ a0<|NZ a0<|eg (a0.deref.drop 4)<|.call 147 [((a0.deref.drop 4).hA),.fn 148 [.ref 0 0]] [.cells [.vec 1],.vec 1 ((o1.tail.hO).es)] fun r4 o4=>.ai ((o4.hO)=.cells (o4.hO).cs)<|.ai (aH [.vec 1] ((o4.hO).cs) 0 1 o4.tail)<|.done 0 [.any] [.cells [.vec 1],.vec 1 ((o4.tail.hO).es)]) (.done 0 [.any] [.cells [.vec 1],.vec 1 ((o1.tail.hO).es)]))
theorem xS(a0:AV)(e1_0_0:List (List AV))(ha0:LK.has .ptr a0)(h:dm 29 (Gp a0 e1_0_0) R):aq Tryz.prog 147 [a0,.fn 148 [.ref 0 0]] [.cells [.vec 1],.vec 1 e1_0_0] R :=
 aq.om (bH (cr (ag (az _) aB)) (bH (fN _) cE)) (aq.up (ag (bJ ha0) (ag (az _) aB)) (oF [] {mu:=[(1,.fn [some (.obj [.vec 1])])],own:=[]} Tryz.f147 h))
def HL(a0:AV)(e1_0:List (List AV)):Tree :=
 NZ a0<|NZ a0<|.ai (LK.has (.int .u8) (a0.deref.hA)/\1<=a0.deref.length)<|.test (((a0.deref.hA).toInt)==(110:Int)) (NZ a0<|NZ a0<|lF (a0.deref.drop 1)<|.call 124 [.sl e1_0,VS (((a0.deref.drop 1).hA).toStr)] [] fun r1 o1=>NB r1<|.test (!r1.toBool) (NZ a0<|NZ a0<|lF (a0.deref.drop 1)<|.ai (cq 1 [[VS (((a0.deref.drop 1).hA).toStr)]]/\((e1_0.length)+([[VS (((a0.deref.drop 1).hA).toStr)]]:List (List AV)).length)*16<=140737488355328)<|.done 0 [.any] [.cells [.vec 1],.vec 1 (e1_0++([[VS (((a0.deref.drop 1).hA).toStr)]]:List (List AV)))]) (.done 0 [.any] [.cells [.vec 1],.vec 1 e1_0])) (.done 0 [.any] [.cells [.vec 1],.vec 1 e1_0])
theorem T1(a0:AV)(e1_0:List (List AV))(ha0:LK.has .ptr a0)(h:dm 24 (HL a0 e1_0) R):aq Tryz.prog 148 [a0,.ref 0 0] [.cells [.vec 1],.vec 1 e1_0] R :=
 aq.om (bH (cr (ag (az _) aB)) (bH (fN _) cE)) (aq.up (ag (bJ ha0) (ag (az _) aB)) (oF [] {mu:=[(1,.one (.obj [.vec 1]))],own:=[]} Tryz.f148 h))
def Hw:LI:={hd:={bR:=[(0,.k .sl),(1,.k .str),(7,.k (.int .i64)),(8,.k (.int .i64))]},xs:={},rt:={bR:=[(4,.k (.int .i64))]},ex:=0}
def MV:Code:=cK (cD Tryz.f149) 2
def Oh:List (Nat×LI):=[(2,Hw)]
def OZ(a0:AV)(a1:ByteArray):Tree :=
 NL a0<|.loop MV Hw [a0,VS a1,VI (a0.elems.length:Int),VI 0] [] (fun y1 q1=>.done 0 [VI (-1)] []) (fun y1 q1=>NI (y1.hA)<|.done 0 [VI ((y1.hA).toInt)] [])
theorem TR(a0:AV)(a1:ByteArray)(ha0:LK.has .sl a0)(h:dm 19 (OZ a0 a1) R):aq Tryz.prog 149 [a0,VS a1] [] R :=
 uQ (ag (bM ha0) (ag (az _) aB)) (oQ Oh Tryz.f149 h)
def JE(x0:AV)(x1:ByteArray)(x7:Int)(x8:Int):Tree :=
 NL x0<|NS (VS x1)<|NI (VI x7)<|NI (VI x8)<|.test (decide (x8<x7)) (NG x0 x8 1<|lF (x0.ix x8)<|.test (ae x1==ae (((x0.ix x8).hA).toStr)) (.done 2 [VI x8] []) (.done 0 [x0,VS x1,VI x7,VI (IntKind.wrap .i64 (x8+1))] [])) (.done 1 [] [])
abbrev IS:=cC Tryz.prog 19 MV Hw
theorem Mg(x0:AV)(x1:ByteArray)(x7:Int)(x8:Int)(h:kF 19 (JE x0 x1 x7 x8) IS U):IS [x0,VS x1,VI x7,VI x8] [] U :=
 gQ Oh h
def Nb(a0:AV):Tree :=
 .call 160 [a0,.v (.func (.func 118) #[] #[])] [] fun r1 o1=>NI r1<|.done 0 [VB (decide (r1.toInt≥(0:Int)))] []
theorem S9(a0:AV)(ha0:LK.has .sl a0)(h:dm 9 (Nb a0) R):aq Tryz.prog 150 [a0,.v (.func (.func 118) #[] #[])] [] R :=
 uQ (ag (bM ha0) (ag (az _) aB)) (oQ [] Tryz.f150 h)
def O2(a0:ByteArray):Tree :=
 .call 97 [VS a0] [] fun r1 o1=>NT r1<|.ai ((r1.comp 0)=.agg (r1.comp 0).cs/\(r1.comp 0).cs.length=2/\bE [.str,.sl] ((r1.comp 0).cs) 0)<|NB (r1.comp 1)<|.test (!((r1.comp 1).toBool)) (.done 0 [.cv [VS (mk []),VB false]] []) (.call 54 [.agg [VS (((r1.comp 0).cs.getD 0 .any).toStr),((r1.comp 0).cs.getD 1 .any)]] [] fun r2 o2=>NS r2<|.test (!(ae r2.toStr==ae (mk [114,101,99]))) (.done 0 [.cv [VS (mk []),VB false]] []) (.call 173 [.agg [VS (((r1.comp 0).cs.getD 0 .any).toStr),((r1.comp 0).cs.getD 1 .any)]] [] fun r3 o3=>NT r3<|.ai ((r3.comp 0)=.agg (r3.comp 0).cs/\(r3.comp 0).cs.length=2/\bE [.str,.sl] ((r3.comp 0).cs) 0)<|NB (r3.comp 1)<|.test (!((r3.comp 1).toBool)) (.done 0 [.cv [VS (mk []),VB false]] []) (.call 174 [.agg [VS (((r3.comp 0).cs.getD 0 .any).toStr),((r3.comp 0).cs.getD 1 .any)]] [] fun r4 o4=>NT r4<|NS (r4.comp 0)<|NB (r4.comp 1)<|.done 0 [.cv [VS ((r4.comp 0).toStr),VB ((r4.comp 1).toBool)]] [])))
theorem RY(a0:ByteArray)(h:dm 31 (O2 a0) R):aq Tryz.prog 154 [VS a0] [] R :=
 uQ (ag (az _) aB) (oQ [] Tryz.f154 h)
def MW(a0:ByteArray)(a1:ByteArray)(a2:ByteArray):Tree :=
 .call 26 [VS a0] [] fun r1 o1=>NT r1<|.ai ((r1.comp 0)=.agg (r1.comp 0).cs/\(r1.comp 0).cs.length=2/\bE [.str,.sl] ((r1.comp 0).cs) 0)<|NB (r1.comp 1)<|.call 154 [VS a0] [] fun r2 o2=>NT r2<|NS (r2.comp 0)<|NB (r2.comp 1)<|.test (!((r1.comp 1).toBool)) (.done 0 [.cv [VS (mk []),VB false]] []) (.test (!((r2.comp 1).toBool)) (.done 0 [.cv [VS (mk []),VB false]] []) (.call 27 [VS ((r2.comp 0).toStr),VS a1,VI 100] [] fun r3 o3=>NB r3<|.test (!r3.toBool) (.done 0 [.cv [VS (mk []),VB false]] []) (.call 27 [VS a0,VS a2,VI 100] [] fun r4 o4=>NB r4<|.test (!r4.toBool) (.done 0 [.cv [VS (mk []),VB false]] []) (.call 28 [VS a1] [] fun r5 o5=>NT r5<|.ai ((r5.comp 0)=.agg (r5.comp 0).cs/\(r5.comp 0).cs.length=2/\bE [.str,.sl] ((r5.comp 0).cs) 0)<|NB (r5.comp 1)<|.call 28 [VS a2] [] fun r6 o6=>NT r6<|.ai ((r6.comp 0)=.agg (r6.comp 0).cs/\(r6.comp 0).cs.length=2/\bE [.str,.sl] ((r6.comp 0).cs) 0)<|NB (r6.comp 1)<|NG ((r1.comp 0).cs.getD 1 .any) 2 2<|NE (((r1.comp 0).cs.getD 1 .any).ix (2:Int))<|NG ((r1.comp 0).cs.getD 1 .any) 1 2<|lF (((r1.comp 0).cs.getD 1 .any).ix (1:Int))<|.call 62 [.agg [VS (((((r1.comp 0).cs.getD 1 .any).ix (2:Int)).getD 0 .any).toStr),((((r1.comp 0).cs.getD 1 .any).ix (2:Int)).getD 1 .any)],VS (((((r1.comp 0).cs.getD 1 .any).ix (1:Int)).hA).toStr),.agg [VS (((r5.comp 0).cs.getD 0 .any).toStr),((r5.comp 0).cs.getD 1 .any)],.agg [VS (((r6.comp 0).cs.getD 0 .any).toStr),((r6.comp 0).cs.getD 1 .any)]] [] fun r7 o7=>NA r7<|.call 61 [VS (mk [102]),.sl [[VS ((r7.cs.getD 0 .any).toStr),(r7.cs.getD 1 .any)]]] [] fun r8 o8=>NA r8<|.call 60 [.agg [VS ((r8.cs.getD 0 .any).toStr),(r8.cs.getD 1 .any)]] [] fun r9 o9=>NS r9<|.call 27 [VS a0,VS r9.toStr,VI 100] [] fun r10 o10=>NB r10<|.test (!r10.toBool) (.done 0 [.cv [VS (mk []),VB false]] []) (.done 0 [.cv [VS r9.toStr,VB true]] [])))))
theorem SH(a0:ByteArray)(a1:ByteArray)(a2:ByteArray)(h:dm 75 (MW a0 a1 a2) R):aq Tryz.prog 155 [VS a0,VS a1,VS a2] [] R :=
 uQ (ag (az _) (ag (az _) (ag (az _) aB))) (oQ [] Tryz.f155 h)
def KH(a0_0:ByteArray)(a0_1:AV)(a1:ByteArray)(a2_0:ByteArray)(a2_1:AV):Tree :=
 .call 134 [.agg [VS a0_0,a0_1]] [] fun r1 o1=>NI r1<|.call 175 [.agg [VS a0_0,a0_1],VS a1] [] fun r2 o2=>NI r2<|.call 134 [.agg [VS a2_0,a2_1]] [] fun r3 o3=>NI r3<|.done 0 [VB (decide ((IntKind.wrap .i64 (r1.toInt+(IntKind.wrap .i64 (r2.toInt*(IntKind.wrap .i64 (r3.toInt-1))))))<=(400:Int)))] []
theorem UQ(a0_0:ByteArray)(a0_1:AV)(a1:ByteArray)(a2_0:ByteArray)(a2_1:AV)(ha0_1:LK.has .sl a0_1)(ha2_1:LK.has .sl a2_1)(h:dm 18 (KH a0_0 a0_1 a1 a2_0 a2_1) R):aq Tryz.prog 156 [.agg [VS a0_0,a0_1],VS a1,.agg [VS a2_0,a2_1]] [] R :=
 uQ (ag (bW (ag (az _) (ag (bM ha0_1) aB))) (ag (az _) (ag (bW (ag (az _) (ag (bM ha2_1) aB))) aB))) (oQ [] Tryz.f156 h)
def PO(a0_0:ByteArray)(a0_1:AV)(a1:ByteArray)(a2_0:ByteArray)(a2_1:AV):Tree :=
 .call 96 [.agg [VS a0_0,a0_1],.sl [[VS a2_0,a2_1],[VS a1,.v (.slice none 0 0)]]] [] fun r1 o1=>NA r1<|.call 176 [.agg [VS ((r1.cs.getD 0 .any).toStr),(r1.cs.getD 1 .any)],VS a1,.agg [VS a2_0,a2_1]] [] fun r2 o2=>NA r2<|.done 0 [.agg [VS ((r2.cs.getD 0 .any).toStr),(r2.cs.getD 1 .any)]] []
theorem S3(a0_0:ByteArray)(a0_1:AV)(a1:ByteArray)(a2_0:ByteArray)(a2_1:AV)(ha0_1:LK.has .sl a0_1)(ha2_1:LK.has .sl a2_1)(h:dm 16 (PO a0_0 a0_1 a1 a2_0 a2_1) R):aq Tryz.prog 157 [.agg [VS a0_0,a0_1],VS a1,.agg [VS a2_0,a2_1]] [] R :=
 uQ (ag (bW (ag (az _) (ag (bM ha0_1) aB))) (ag (az _) (ag (bW (ag (az _) (ag (bM ha2_1) aB))) aB))) (oQ [] Tryz.f157 h)
def J5:LI:={hd:={bR:=[(0,.k .sl),(1,.c (.func (.func 118) #[] #[])),(7,.k (.int .i64)),(8,.k (.int .i64))]},xs:={},rt:={bR:=[(4,.k (.int .i64))]},ex:=0}
def Pk:Code:=cK (cD Tryz.f160) 2
def PA:List (Nat×LI):=[(2,J5)]
def QM(a0:AV):Tree :=
 NL a0<|.loop Pk J5 [a0,.v (.func (.func 118) #[] #[]),VI (a0.elems.length:Int),VI 0] [] (fun y2 q2=>.done 0 [VI (-1)] []) (fun y2 q2=>NI (y2.hA)<|.done 0 [VI ((y2.hA).toInt)] [])
theorem TL(a0:AV)(ha0:LK.has .sl a0)(h:dm 19 (QM a0) R):aq Tryz.prog 160 [a0,.v (.func (.func 118) #[] #[])] [] R :=
 uQ (ag (bM ha0) (ag (az _) aB)) (oQ PA Tryz.f160 h)
def Ii(x0:AV)(x7:Int)(x8:Int):Tree :=
 NL x0<|.ai (AV.v (.func (.func 118) #[] #[])=.v (.func (.func 118) #[] #[]))<|NI (VI x7)<|NI (VI x8)<|.test (decide (x8<x7)) (NG x0 x8 1<|lF (x0.ix x8)<|.call 118 [VS (((x0.ix x8).hA).toStr)] [] fun r1 o1=>NB r1<|.test r1.toBool (.done 2 [VI x8] []) (.done 0 [x0,.v (.func (.func 118) #[] #[]),VI x7,VI (IntKind.wrap .i64 (x8+1))] [])) (.done 1 [] [])
abbrev Kj:=cC Tryz.prog 19 Pk J5
theorem QK(x0:AV)(x7:Int)(x8:Int)(h:kF 19 (Ii x0 x7 x8) Kj U):Kj [x0,.v (.func (.func 118) #[] #[]),VI x7,VI x8] [] U :=
 gQ PA h
def PV(a0_0:ByteArray)(a0_1:AV):Tree :=
 NG a0_1 1 2<|lF (a0_1.ix (1:Int))<|NG a0_1 2 2<|NE (a0_1.ix (2:Int))<|.call 189 [.agg [VS (((a0_1.ix (2:Int)).getD 0 .any).toStr),((a0_1.ix (2:Int)).getD 1 .any)],VS (((a0_1.ix (1:Int)).hA).toStr)] [] fun r1 o1=>NT r1<|.ai ((r1.comp 0)=.agg (r1.comp 0).cs/\(r1.comp 0).cs.length=2/\bE [.str,.sl] ((r1.comp 0).cs) 0)<|NB (r1.comp 1)<|.test (!((r1.comp 1).toBool)) (.done 0 [.cv [.agg [VS a0_0,a0_1],VB false]] []) (.call 190 [.agg [VS (((r1.comp 0).cs.getD 0 .any).toStr),((r1.comp 0).cs.getD 1 .any)],VS (((a0_1.ix (1:Int)).hA).toStr),.agg [VS a0_0,a0_1]] [] fun r2 o2=>NT r2<|.ai ((r2.comp 0)=.agg (r2.comp 0).cs/\(r2.comp 0).cs.length=2/\bE [.str,.sl] ((r2.comp 0).cs) 0)<|NB (r2.comp 1)<|.done 0 [.cv [.agg [VS (((r2.comp 0).cs.getD 0 .any).toStr),((r2.comp 0).cs.getD 1 .any)],VB ((r2.comp 1).toBool)]] [])
theorem T5(a0_0:ByteArray)(a0_1:AV)(ha0_1:LK.has .sl a0_1)(h:dm 30 (PV a0_0 a0_1) R):aq Tryz.prog 173 [.agg [VS a0_0,a0_1]] [] R :=
 uQ (ag (bW (ag (az _) (ag (bM ha0_1) aB))) aB) (oQ [] Tryz.f173 h)
def OO(a0_0:ByteArray)(a0_1:AV):Tree :=
 .call 134 [.agg [VS a0_0,a0_1]] [] fun r1 o1=>NI r1<|.test (decide (r1.toInt>(400:Int))) (.done 0 [.cv [VS (mk []),VB false]] []) (.call 96 [.agg [VS a0_0,a0_1],.v (.slice none 0 0)] [] fun r2 o2=>NA r2<|.call 60 [.agg [VS ((r2.cs.getD 0 .any).toStr),(r2.cs.getD 1 .any)]] [] fun r3 o3=>NS r3<|.call 191 [VS r3.toStr] [] fun r4 o4=>NB r4<|.test (!r4.toBool) (.done 0 [.cv [VS (mk []),VB false]] []) (.done 0 [.cv [VS r3.toStr,VB true]] []))
theorem Ti(a0_0:ByteArray)(a0_1:AV)(ha0_1:LK.has .sl a0_1)(h:dm 15 (OO a0_0 a0_1) R):aq Tryz.prog 174 [.agg [VS a0_0,a0_1]] [] R :=
 uQ (ag (bW (ag (az _) (ag (bM ha0_1) aB))) aB) (oQ [] Tryz.f174 h)
def D2(a0_0:ByteArray)(a0_1:AV)(a1:ByteArray):Tree :=
 .test (!(ae a0_0==ae (mk []))) (.test (ae a0_0==ae a1) (.done 0 [VI 1] []) (.done 0 [VI 0] [])) (.call 54 [.agg [VS a0_0,a0_1]] [] fun r1 o1=>NS r1<|.test (ae r1.toStr==ae (mk [114,101,99])) (NG a0_1 1 2<|lF (a0_1.ix (1:Int))<|.test (ae (((a0_1.ix (1:Int)).hA).toStr)==ae a1) (.done 0 [VI 0] []) (NG a0_1 2 2<|NE (a0_1.ix (2:Int))<|.call 175 [.agg [VS (((a0_1.ix (2:Int)).getD 0 .any).toStr),((a0_1.ix (2:Int)).getD 1 .any)],VS a1] [] fun r2 o2=>NI r2<|.done 0 [VI r2.toInt] [])) (NG a0_1 1 2<|NE (a0_1.ix (1:Int))<|.call 175 [.agg [VS (((a0_1.ix (1:Int)).getD 0 .any).toStr),((a0_1.ix (1:Int)).getD 1 .any)],VS a1] [] fun r3 o3=>NI r3<|NG a0_1 2 2<|NE (a0_1.ix (2:Int))<|.call 175 [.agg [VS (((a0_1.ix (2:Int)).getD 0 .any).toStr),((a0_1.ix (2:Int)).getD 1 .any)],VS a1] [] fun r4 o4=>NI r4<|.done 0 [VI (IntKind.wrap .i64 (r3.toInt+r4.toInt))] []))
theorem FR(a0_0:ByteArray)(a0_1:AV)(a1:ByteArray)(ha0_1:LK.has .sl a0_1)(h:dm 41 (D2 a0_0 a0_1 a1) R):aq Tryz.prog 175 [.agg [VS a0_0,a0_1],VS a1] [] R :=
 uQ (ag (bW (ag (az _) (ag (bM ha0_1) aB))) (ag (az _) aB)) (oQ [] Tryz.f175 h)
def DH(a0_0:ByteArray)(a0_1:AV)(a1:ByteArray)(a2_0:ByteArray)(a2_1:AV):Tree :=
 .test (!(ae a0_0==ae (mk []))) (.test (ae a0_0==ae a1) (.done 0 [.agg [VS a2_0,a2_1]] []) (.done 0 [.agg [VS a0_0,a0_1]] [])) (.call 54 [.agg [VS a0_0,a0_1]] [] fun r1 o1=>NS r1<|.test (ae r1.toStr==ae (mk [114,101,99])) (NG a0_1 1 2<|lF (a0_1.ix (1:Int))<|.test (ae (((a0_1.ix (1:Int)).hA).toStr)==ae a1) (.done 0 [.agg [VS a0_0,a0_1]] []) (NG a0_1 1 2<|NE (a0_1.ix (1:Int))<|NG a0_1 2 2<|NE (a0_1.ix (2:Int))<|.call 176 [.agg [VS (((a0_1.ix (2:Int)).getD 0 .any).toStr),((a0_1.ix (2:Int)).getD 1 .any)],VS a1,.agg [VS a2_0,a2_1]] [] fun r2 o2=>NA r2<|.call 61 [VS (mk [114,101,99]),.sl [[VS (((a0_1.ix (1:Int)).getD 0 .any).toStr),((a0_1.ix (1:Int)).getD 1 .any)],[VS ((r2.cs.getD 0 .any).toStr),(r2.cs.getD 1 .any)]]] [] fun r3 o3=>NA r3<|.done 0 [.agg [VS ((r3.cs.getD 0 .any).toStr),(r3.cs.getD 1 .any)]] [])) (.call 54 [.agg [VS a0_0,a0_1]] [] fun r4 o4=>NS r4<|NG a0_1 1 2<|NE (a0_1.ix (1:Int))<|.call 176 [.agg [VS (((a0_1.ix (1:Int)).getD 0 .any).toStr),((a0_1.ix (1:Int)).getD 1 .any)],VS a1,.agg [VS a2_0,a2_1]] [] fun r5 o5=>NA r5<|NG a0_1 2 2<|NE (a0_1.ix (2:Int))<|.call 176 [.agg [VS (((a0_1.ix (2:Int)).getD 0 .any).toStr),((a0_1.ix (2:Int)).getD 1 .any)],VS a1,.agg [VS a2_0,a2_1]] [] fun r6 o6=>NA r6<|.call 61 [VS r4.toStr,.sl [[VS ((r5.cs.getD 0 .any).toStr),(r5.cs.getD 1 .any)],[VS ((r6.cs.getD 0 .any).toStr),(r6.cs.getD 1 .any)]]] [] fun r7 o7=>NA r7<|.done 0 [.agg [VS ((r7.cs.getD 0 .any).toStr),(r7.cs.getD 1 .any)]] []))
theorem EM(a0_0:ByteArray)(a0_1:AV)(a1:ByteArray)(a2_0:ByteArray)(a2_1:AV)(ha0_1:LK.has .sl a0_1)(ha2_1:LK.has .sl a2_1)(h:dm 58 (DH a0_0 a0_1 a1 a2_0 a2_1) R):aq Tryz.prog 176 [.agg [VS a0_0,a0_1],VS a1,.agg [VS a2_0,a2_1]] [] R :=
 uQ (ag (bW (ag (az _) (ag (bM ha0_1) aB))) (ag (az _) (ag (bW (ag (az _) (ag (bM ha2_1) aB))) aB))) (oQ [] Tryz.f176 h)
def Ch(a0_0:ByteArray)(a0_1:AV)(a1:ByteArray):Tree :=
 .test (!(ae a0_0==ae (mk []))) (.test (ae a0_0==ae a1) (.done 0 [.cv [.agg [VS (mk [49]),.v (.slice none 0 0)],VB true]] []) (.done 0 [.cv [.agg [VS (mk [48]),.v (.slice none 0 0)],VB true]] [])) (.call 54 [.agg [VS a0_0,a0_1]] [] fun r1 o1=>NS r1<|.test (ae r1.toStr==ae (mk [114,101,99])) (.call 203 [.agg [VS a0_0,a0_1],VS a1] [] fun r2 o2=>NT r2<|.ai ((r2.comp 0)=.agg (r2.comp 0).cs/\(r2.comp 0).cs.length=2/\bE [.str,.sl] ((r2.comp 0).cs) 0)<|NB (r2.comp 1)<|.done 0 [.cv [.agg [VS (((r2.comp 0).cs.getD 0 .any).toStr),((r2.comp 0).cs.getD 1 .any)],VB ((r2.comp 1).toBool)]] []) (NG a0_1 1 2<|NE (a0_1.ix (1:Int))<|.call 189 [.agg [VS (((a0_1.ix (1:Int)).getD 0 .any).toStr),((a0_1.ix (1:Int)).getD 1 .any)],VS a1] [] fun r3 o3=>NT r3<|.ai ((r3.comp 0)=.agg (r3.comp 0).cs/\(r3.comp 0).cs.length=2/\bE [.str,.sl] ((r3.comp 0).cs) 0)<|NB (r3.comp 1)<|NG a0_1 2 2<|NE (a0_1.ix (2:Int))<|.call 189 [.agg [VS (((a0_1.ix (2:Int)).getD 0 .any).toStr),((a0_1.ix (2:Int)).getD 1 .any)],VS a1] [] fun r4 o4=>NT r4<|.ai ((r4.comp 0)=.agg (r4.comp 0).cs/\(r4.comp 0).cs.length=2/\bE [.str,.sl] ((r4.comp 0).cs) 0)<|NB (r4.comp 1)<|.call 61 [VS (mk [43]),.sl [[VS (((r3.comp 0).cs.getD 0 .any).toStr),((r3.comp 0).cs.getD 1 .any)],[VS (((r4.comp 0).cs.getD 0 .any).toStr),((r4.comp 0).cs.getD 1 .any)]]] [] fun r5 o5=>NA r5<|.call 54 [.agg [VS a0_0,a0_1]] [] fun r6 o6=>NS r6<|.test (ae r6.toStr==ae (mk [42])) (NG a0_1 2 2<|NE (a0_1.ix (2:Int))<|.call 61 [VS (mk [42]),.sl [[VS (((r3.comp 0).cs.getD 0 .any).toStr),((r3.comp 0).cs.getD 1 .any)],[VS (((a0_1.ix (2:Int)).getD 0 .any).toStr),((a0_1.ix (2:Int)).getD 1 .any)]]] [] fun r7 o7=>NA r7<|NG a0_1 1 2<|NE (a0_1.ix (1:Int))<|.call 61 [VS (mk [42]),.sl [[VS (((a0_1.ix (1:Int)).getD 0 .any).toStr),((a0_1.ix (1:Int)).getD 1 .any)],[VS (((r4.comp 0).cs.getD 0 .any).toStr),((r4.comp 0).cs.getD 1 .any)]]] [] fun r8 o8=>NA r8<|.call 61 [VS (mk [43]),.sl [[VS ((r7.cs.getD 0 .any).toStr),(r7.cs.getD 1 .any)],[VS ((r8.cs.getD 0 .any).toStr),(r8.cs.getD 1 .any)]]] [] fun r9 o9=>NA r9<|.test ((r3.comp 1).toBool) (.test ((r4.comp 1).toBool) (.call 134 [.agg [VS ((r9.cs.getD 0 .any).toStr),(r9.cs.getD 1 .any)]] [] fun r10 o10=>NI r10<|.done 0 [.cv [.agg [VS ((r9.cs.getD 0 .any).toStr),(r9.cs.getD 1 .any)],VB (decide (r10.toInt<=(400:Int)))]] []) (.done 0 [.cv [.agg [VS ((r9.cs.getD 0 .any).toStr),(r9.cs.getD 1 .any)],VB false]] [])) (.done 0 [.cv [.agg [VS ((r9.cs.getD 0 .any).toStr),(r9.cs.getD 1 .any)],VB false]] [])) (.test ((r3.comp 1).toBool) (.test ((r4.comp 1).toBool) (.call 134 [.agg [VS ((r5.cs.getD 0 .any).toStr),(r5.cs.getD 1 .any)]] [] fun r11 o11=>NI r11<|.done 0 [.cv [.agg [VS ((r5.cs.getD 0 .any).toStr),(r5.cs.getD 1 .any)],VB (decide (r11.toInt<=(400:Int)))]] []) (.done 0 [.cv [.agg [VS ((r5.cs.getD 0 .any).toStr),(r5.cs.getD 1 .any)],VB false]] [])) (.done 0 [.cv [.agg [VS ((r5.cs.getD 0 .any).toStr),(r5.cs.getD 1 .any)],VB false]] []))))
theorem F0(a0_0:ByteArray)(a0_1:AV)(a1:ByteArray)(ha0_1:LK.has .sl a0_1)(h:dm 79 (Ch a0_0 a0_1 a1) R):aq Tryz.prog 189 [.agg [VS a0_0,a0_1],VS a1] [] R :=
 uQ (ag (bW (ag (az _) (ag (bM ha0_1) aB))) (ag (az _) aB)) (oQ [] Tryz.f189 h)
def Oa(a0_0:ByteArray)(a0_1:AV)(a1:ByteArray)(a2_0:ByteArray)(a2_1:AV):Tree :=
 .call 156 [.agg [VS a0_0,a0_1],VS a1,.agg [VS a2_0,a2_1]] [] fun r1 o1=>NB r1<|.test (!r1.toBool) (.done 0 [.cv [.agg [VS a0_0,a0_1],VB false]] []) (.call 157 [.agg [VS a0_0,a0_1],VS a1,.agg [VS a2_0,a2_1]] [] fun r2 o2=>NA r2<|.done 0 [.cv [.agg [VS ((r2.cs.getD 0 .any).toStr),(r2.cs.getD 1 .any)],VB true]] [])
theorem S2(a0_0:ByteArray)(a0_1:AV)(a1:ByteArray)(a2_0:ByteArray)(a2_1:AV)(ha0_1:LK.has .sl a0_1)(ha2_1:LK.has .sl a2_1)(h:dm 18 (Oa a0_0 a0_1 a1 a2_0 a2_1) R):aq Tryz.prog 190 [.agg [VS a0_0,a0_1],VS a1,.agg [VS a2_0,a2_1]] [] R :=
 uQ (ag (bW (ag (az _) (ag (bM ha0_1) aB))) (ag (az _) (ag (bW (ag (az _) (ag (bM ha2_1) aB))) aB))) (oQ [] Tryz.f190 h)
def Qo(a0:ByteArray):Tree :=
 .call 97 [VS a0] [] fun r1 o1=>NT r1<|.ai ((r1.comp 0)=.agg (r1.comp 0).cs/\(r1.comp 0).cs.length=2/\bE [.str,.sl] ((r1.comp 0).cs) 0)<|NB (r1.comp 1)<|.done 0 [VB ((r1.comp 1).toBool)] []
theorem Sd(a0:ByteArray)(h:dm 11 (Qo a0) R):aq Tryz.prog 191 [VS a0] [] R :=
 uQ (ag (az _) aB) (oQ [] Tryz.f191 h)
def Jr:LI:={hd:={bR:=[(17,.k (.int .i64))],refs:=[(4,4),(12,12),(14,14)],ct:=[(4,[.lk .str,.lk .sl]),(12,[.lk .str,.lk .sl]),(14,[.lk .str,.lk .sl])],eM:=[(16,1)]},xs:={bR:=[(17,.k (.int .i64))],refs:=[(4,4),(12,12),(14,14)],ct:=[(4,[.lk .str,.lk .sl]),(12,[.lk .str,.lk .sl]),(14,[.lk .str,.lk .sl])]},rt:={},ex:=0}
def NQ:Code:=cK (cD Tryz.f203) 13
def Ni:List (Nat×LI):=[(13,Jr)]
def Om(a0_0:ByteArray)(a0_1:AV)(a1:ByteArray):Tree :=
 .call 96 [.agg [VS a0_0,a0_1],.sl [[VS a1,.v (.slice none 0 0)]]] [] fun r1 o1=>NA r1<|NG (r1.cs.getD 1 .any) 1 2<|lF ((r1.cs.getD 1 .any).ix (1:Int))<|NG (r1.cs.getD 1 .any) 2 2<|NE ((r1.cs.getD 1 .any).ix (2:Int))<|.call 189 [.agg [VS ((((r1.cs.getD 1 .any).ix (2:Int)).getD 0 .any).toStr),(((r1.cs.getD 1 .any).ix (2:Int)).getD 1 .any)],VS a1] [] fun r2 o2=>NT r2<|.ai ((r2.comp 0)=.agg (r2.comp 0).cs/\(r2.comp 0).cs.length=2/\bE [.str,.sl] ((r2.comp 0).cs) 0)<|NB (r2.comp 1)<|NG (r1.cs.getD 1 .any) 2 2<|NE ((r1.cs.getD 1 .any).ix (2:Int))<|.call 189 [.agg [VS ((((r1.cs.getD 1 .any).ix (2:Int)).getD 0 .any).toStr),(((r1.cs.getD 1 .any).ix (2:Int)).getD 1 .any)],VS ((((r1.cs.getD 1 .any).ix (1:Int)).hA).toStr)] [] fun r3 o3=>NT r3<|.ai ((r3.comp 0)=.agg (r3.comp 0).cs/\(r3.comp 0).cs.length=2/\bE [.str,.sl] ((r3.comp 0).cs) 0)<|NB (r3.comp 1)<|.test (!((r2.comp 1).toBool)) (.done 0 [.cv [.agg [VS ((r1.cs.getD 0 .any).toStr),(r1.cs.getD 1 .any)],VB false]] []) (.test (!((r3.comp 1).toBool)) (.done 0 [.cv [.agg [VS ((r1.cs.getD 0 .any).toStr),(r1.cs.getD 1 .any)],VB false]] []) (.call 190 [.agg [VS (((r2.comp 0).cs.getD 0 .any).toStr),((r2.comp 0).cs.getD 1 .any)],VS ((((r1.cs.getD 1 .any).ix (1:Int)).hA).toStr),.agg [VS ((r1.cs.getD 0 .any).toStr),(r1.cs.getD 1 .any)]] [] fun r4 o4=>NT r4<|.ai ((r4.comp 0)=.agg (r4.comp 0).cs/\(r4.comp 0).cs.length=2/\bE [.str,.sl] ((r4.comp 0).cs) 0)<|NB (r4.comp 1)<|.call 190 [.agg [VS (((r3.comp 0).cs.getD 0 .any).toStr),((r3.comp 0).cs.getD 1 .any)],VS ((((r1.cs.getD 1 .any).ix (1:Int)).hA).toStr),.agg [VS ((r1.cs.getD 0 .any).toStr),(r1.cs.getD 1 .any)]] [] fun r5 o5=>NT r5<|.ai ((r5.comp 0)=.agg (r5.comp 0).cs/\(r5.comp 0).cs.length=2/\bE [.str,.sl] ((r5.comp 0).cs) 0)<|NB (r5.comp 1)<|.test (!((r4.comp 1).toBool)) (.done 0 [.cv [.agg [VS ((r1.cs.getD 0 .any).toStr),(r1.cs.getD 1 .any)],VB false]] []) (.test (!((r5.comp 1).toBool)) (.done 0 [.cv [.agg [VS ((r1.cs.getD 0 .any).toStr),(r1.cs.getD 1 .any)],VB false]] []) (.call 98 [.agg [VS (((r5.comp 0).cs.getD 0 .any).toStr),((r5.comp 0).cs.getD 1 .any)],.sl [],.vec 0] [.vec 1 []] fun r6 o6=>.ai (r6=.vec 1/\(o6.tail.hO)=.vec 1 (o6.tail.hO).es)<|.call 98 [.agg [VS (((r4.comp 0).cs.getD 0 .any).toStr),((r4.comp 0).cs.getD 1 .any)],.sl [],.vec 0] [.vec 1 ((o6.tail.hO).es)] fun r7 o7=>.ai (r7=.vec 1/\(o7.tail.hO)=.vec 1 (o7.tail.hO).es)<|.loop NQ Jr [VI 0] [.cells [VS (mk []),.v (.slice none 0 0)],.cells [VS (((r4.comp 0).cs.getD 0 .any).toStr),((r4.comp 0).cs.getD 1 .any)],.cells [VS (((r5.comp 0).cs.getD 0 .any).toStr),((r5.comp 0).cs.getD 1 .any)],.vec 1 ((o7.tail.hO).es)] (fun y10 q10=>NI (y10.hA)<|.ai ((q10.hO)=.cells (q10.hO).cs)<|.ai (af [.lk .str,.lk .sl] ((q10.hO).cs) 0 q10.tail)<|.ai (((q10.tail.drop 0).hO)=.cells ((q10.tail.drop 0).hO).cs)<|.ai (af [.lk .str,.lk .sl] (((q10.tail.drop 0).hO).cs) 0 ((q10.tail.drop 0).tail))<|.ai ((((q10.tail.drop 0).tail.drop 0).hO)=.cells (((q10.tail.drop 0).tail.drop 0).hO).cs)<|.ai (af [.lk .str,.lk .sl] ((((q10.tail.drop 0).tail.drop 0).hO).cs) 0 (((q10.tail.drop 0).tail.drop 0).tail))<|.call 136 [VI ((y10.hA).toInt)] [] fun r11 o11=>NS r11<|.ai (ah (mk [116])+ah r11.toStr<=9223372036854775807)<|.call 61 [VS (mk [42]),.sl [[VS (((q10.tail.tail.hO).cs.getD 0 .any).toStr),((q10.tail.tail.hO).cs.getD 1 .any)],[VS (((mk [116]):ByteArray)++r11.toStr),.v (.slice none 0 0)]]] [] fun r12 o12=>NA r12<|.call 61 [VS (mk [43]),.sl [[VS (((q10.tail.hO).cs.getD 0 .any).toStr),((q10.tail.hO).cs.getD 1 .any)],[VS ((r12.cs.getD 0 .any).toStr),(r12.cs.getD 1 .any)]]] [] fun r13 o13=>NA r13<|.call 61 [VS (mk [114,101,99]),.sl [[VS (((mk [116]):ByteArray)++r11.toStr),.v (.slice none 0 0)],[VS ((r13.cs.getD 0 .any).toStr),(r13.cs.getD 1 .any)]]] [] fun r14 o14=>NA r14<|.call 134 [.agg [VS ((r14.cs.getD 0 .any).toStr),(r14.cs.getD 1 .any)]] [] fun r15 o15=>NI r15<|.done 0 [.cv [.agg [VS ((r14.cs.getD 0 .any).toStr),(r14.cs.getD 1 .any)],VB (decide (r15.toInt<=(400:Int)))]] []) (fun y10 q10=>.fail)))))
theorem UB(a0_0:ByteArray)(a0_1:AV)(a1:ByteArray)(ha0_1:LK.has .sl a0_1)(h:dm 108 (Om a0_0 a0_1 a1) R):aq Tryz.prog 203 [.agg [VS a0_0,a0_1],VS a1] [] R :=
 uQ (ag (bW (ag (az _) (ag (bM ha0_1) aB))) (ag (az _) aB)) (oQ Ni Tryz.f203 h)
def OM(x17:Int)(o4_0:ByteArray)(o4_1:AV)(o12_0:ByteArray)(o12_1:AV)(o14_0:ByteArray)(o14_1:AV)(e16:List (List AV)):Tree :=
 NI (VI x17)<|.ai (Ob.cells [VS o4_0,o4_1]=.cells [VS o4_0,o4_1])<|.ai (af [.lk .str,.lk .sl] [VS o4_0,o4_1] 0 [.cells [VS o12_0,o12_1],.cells [VS o14_0,o14_1],.vec 1 e16])<|.ai (Ob.cells [VS o12_0,o12_1]=.cells [VS o12_0,o12_1])<|.ai (af [.lk .str,.lk .sl] [VS o12_0,o12_1] 0 [.cells [VS o14_0,o14_1],.vec 1 e16])<|.ai (Ob.cells [VS o14_0,o14_1]=.cells [VS o14_0,o14_1])<|.ai (af [.lk .str,.lk .sl] [VS o14_0,o14_1] 0 [.vec 1 e16])<|.ai (Ob.vec 1 e16=.vec 1 e16)<|.call 136 [VI x17] [] fun r1 o1=>NS r1<|.ai (ah (mk [116])+ah r1.toStr<=9223372036854775807)<|.call 139 [.sl e16,VS (((mk [116]):ByteArray)++r1.toStr)] [] fun r2 o2=>NB r2<|.test r2.toBool (.done 0 [VI (IntKind.wrap .i64 (x17+1))] [.cells [VS o4_0,o4_1],.cells [VS o12_0,o12_1],.cells [VS o14_0,o14_1],.vec 1 e16]) (.done 1 [VI x17] [.cells [VS o4_0,o4_1],.cells [VS o12_0,o12_1],.cells [VS o14_0,o14_1]])
abbrev Kr:=cC Tryz.prog 108 NQ Jr
theorem RX(x17:Int)(o4_0:ByteArray)(o4_1:AV)(o12_0:ByteArray)(o12_1:AV)(o14_0:ByteArray)(o14_1:AV)(e16:List (List AV))(h:kF 108 (OM x17 o4_0 o4_1 o12_0 o12_1 o14_0 o14_1 e16) Kr U):Kr [VI x17] [.cells [VS o4_0,o4_1],.cells [VS o12_0,o12_1],.cells [VS o14_0,o14_1],.vec 1 e16] U :=
 gQ Ni h
end
end Go.Proofs.Trees
namespace Go.Proofs.Trees
open Go Go.VL
theorem bB(i:Nat)(h:i<1000000000000):IntKind.wrap .i64 ((i:Int)+1)=((i+1:Nat):Int):=by rw[wrap64]<;>omega
inductive E where
 |atom (s:List UInt8)
 |list (l:List E)
mutual
def E.cI:E->AV
 | .atom s=>.ptr [.v (.string (mk s)),.v (.slice none 0 0)]
 | .list l=>.ptr [.v (.string (mk [])),.sl (E.mY l)]
def E.mY:List E->List (List AV)
 |[]=>[]
 |e::l=>[e.cI]::E.mY l
end
mutual
def E.iP:E->List AV
 | .atom s=>[.v (.string (mk s)),.v (.slice none 0 0)]
 | .list l=>[.v (.string (mk [])),.sl (E.bD l)]
def E.bD:List E->List (List AV)
 |[]=>[]
 |e::l=>e.iP::E.bD l
end
def E.lq(e:E):AV:=.agg e.iP
theorem wA(l r:List E):E.mY (l++r)=E.mY l++E.mY r:=by
 induction l with
 |nil=>rfl
 |cons e l ih=>simp[E.mY,ih]
theorem qU(l r:List E):E.bD (l++r)=E.bD l++E.bD r:=by
 induction l with
 |nil=>rfl
 |cons e l ih=>simp[E.bD,ih]
theorem sU(l:List E):(E.mY l).length=l.length:=by
 induction l with
 |nil=>rfl
 |cons e l ih=>simp[E.mY,ih]
theorem ep(l:List E):(E.bD l).length=l.length:=by
 induction l with
 |nil=>rfl
 |cons e l ih=>simp[E.bD,ih]
def fq(b:UInt8):Bool:=decide ((97<=b.toNat/\b.toNat<=122)\/(48<=b.toNat/\b.toNat<=57)\/b.toNat=43\/b.toNat=42)
def tD(f:List UInt8->Option (E×List UInt8)):Nat->List UInt8->List E->Option (E×List UInt8)
 |0,_,_=>none
 |
  n+1,s,acc=>match f s with
  |some (p,c::r)=>if c.toNat=41 then some (.list (acc++[p]),r)else if c.toNat=32 then tD f n r (acc++[p])else none
  |_=>none
def rd:Nat->List UInt8->Option (E×List UInt8)
 |0,s=>if s.takeWhile fq=[]then none else some (.atom (s.takeWhile fq),s.dropWhile fq)
 |k+1,s=>if s.takeWhile fq=[]then(match s with
  |c::r=>if c.toNat=40 then tD (rd k) (r.length+1) r []else none
  |[]=>none)else some (.atom (s.takeWhile fq),s.dropWhile fq)
theorem BX{f:List UInt8->Option (E×List UInt8)}(hf:∀s e r,f s=some (e,r)->r.length<s.length):∀(n:Nat) (s:List UInt8) (acc:List E) (e:E) (r:List UInt8),tD f n s acc=some (e,r)->r.length<s.length
 |0,s,acc,e,r,h=>by cases h
 |
  n+1,s,acc,e,r,h=>by
  simp only[tD]at h
  split at h
  ·rename_i p c r' hs
   have:=hf _ _ _ hs
   simp only[aw]at this
   split at h
   ·cases h;omega
   ·split at h
    ·have:=BX hf n _ _ _ _ h;omega
    ·cases h
  ·cases h
theorem qa{s:List UInt8}(h:¬s.takeWhile fq=[]):(s.dropWhile fq).length<s.length:=by
 have h1:=congrArg List.length (List.takeWhile_append_dropWhile (p:=fq) (l:=s))
 simp only[an]at h1
 have:0<(s.takeWhile fq).length:=List.length_pos_iff.2 h
 omega
theorem za:∀(k:Nat) (s:List UInt8) (e:E) (r:List UInt8),rd k s=some (e,r)->r.length<s.length
 |
  0,s,e,r,h=>by
  simp only[rd]at h
  split at h
  ·cases h
  ·rename_i hn;cases h;exact qa hn
 |
  k+1,s,e,r,h=>by
  simp only[rd]at h
  split at h
  ·split at h
   ·split at h
    ·have:=BX (za k) _ _ _ _ _ h
     simp only[aw];omega
    ·cases h
   ·cases h
  ·rename_i hn;cases h;exact qa hn
theorem Ur(b:UInt8):aq Tryz.prog 144 [.v (.int .u8 (b.toNat:Int))] [] (bN (.v (.bool (fq b)))):=by
 refine R8 _ ?_
 simp only[Mj,↓zq,zs,af,bN,fq]
 repeat' (apply aJ<;>intro _)
 all_goals first|(congr 2;rw[cJ];simp;omega)|(congr 2;simp;omega)
theorem zQ{s:List UInt8}{i:Nat}(hi:i<s.length)(hb:fq (s.getD i 0)=true):((s.drop i).takeWhile fq).length=((s.drop (i+1)).takeWhile fq).length+1:=by
 have e:s.drop i=s.getD i 0::s.drop (i+1):=by
  rw[aL hi];simp[aa,hi]
 rw[e,List.takeWhile_cons_of_pos hb];simp
theorem rU{s:List UInt8}{i:Nat}(hi:i<s.length)(hb:fq (s.getD i 0)=false):(s.drop i).takeWhile fq=[]:=by
 have e:s.drop i=s.getD i 0::s.drop (i+1):=by
  rw[aL hi];simp[aa,hi]
 rw[e,List.takeWhile_cons_of_neg (by rw[hb];simp)]
theorem H2(s:List UInt8)(hs:s.length<=8000)(d:Int):∀(k i:Nat),i+k=s.length->G5 [.v (.string (mk s)),.v (.int .i64 d),.v (.int .i64 (i:Int))] [] (gK 1 [.v (.string (mk s)),.v (.int .i64 d),.v (.int .i64 ((i+((s.drop i).takeWhile fq).length:Nat):Int))] [])
 |
  0,i,hi=>by
  refine Ky _ _ _ ?_
  have hd:s.drop i=[]:=bY (by omega)
  simp only[Jk,↓zq,zs,af,zt]
  exact⟨fun h=>by omega,fun _=>by simp[gK,hd]⟩
 |
  k+1,i,hi=>by
  have hlt:i<s.length:=by omega
  refine Ky _ _ _ ?_
  simp only[Jk,↓zq,zs,af,zt,mU s i hlt]
  refine⟨fun _=>⟨by omega,?_⟩,fun h=>by omega⟩
  refine aj (Ur _) ?_
  simp only[↓zq,zs,af]
  refine⟨fun hb=>?_,fun hb=>?_⟩
  ·rw[bB i (by omega)]
   have:=H2 s hs d k (i+1) (by omega)
   rw[zQ hlt hb,show i+(((s.drop (i+1)).takeWhile fq).length+1)=i+1+((s.drop (i+1)).takeWhile fq).length by omega]
   exact this
  ·simp[gK,rU hlt hb]
def pg(s:List UInt8):Option (E×List UInt8)->AV
 |some (e,r)=>.cv [e.cI,.v (.string (mk r))]
 |none=>.cv [.v (.pointer none),.v (.string (mk s))]
theorem da(e:E):LK.has .ptr e.cI=True:=by cases e<;>simp[E.cI,cm]
theorem eA(e:E):e.cI.isNil=false:=by cases e<;>rfl
theorem ve(s:List UInt8):s.take (s.takeWhile fq).length=s.takeWhile fq:=by
 have h:=List.takeWhile_append_dropWhile (p:=fq) (l:=s)
 have:(s.takeWhile fq++s.dropWhile fq).take (s.takeWhile fq).length=s.takeWhile fq:=List.take_left
 rw[h]at this;exact this
theorem zY(s:List UInt8):s.drop (s.takeWhile fq).length=s.dropWhile fq:=by
 have h:=List.takeWhile_append_dropWhile (p:=fq) (l:=s)
 have:(s.takeWhile fq++s.dropWhile fq).drop (s.takeWhile fq).length=s.dropWhile fq:=List.drop_left
 rw[h]at this;exact this
theorem C9(c:UInt8)(r:List UInt8):(List.take (r.length+1) (c::r)).drop (bP 1)=r:=by simp
theorem M9(s0:List UInt8)(k:Nat)(hk:k<300)(ih:∀s,s.length<=8000->aq Tryz.prog 116 [.v (.string (mk s)),.v (.int .i64 ((300-k:Nat):Int))] [] (bN (pg s (rd k s)))) :
 ∀(n:Nat) (s:List UInt8) (acc:List E),s.length<n->s.length+acc.length<=8000->Ir [.v (.string (mk s0)),.v (.int .i64 ((300-(k+1):Nat):Int)),.v (.string (mk s))] [.cells [.v (.string (mk [])),.any],.vec 1 (E.mY acc)]
  (ox (match tD (rd k) n s acc with|some (e,r)=>(2,[e.cI,.v (.string (mk r))],[])|none=>(2,[.v (.pointer none),.v (.string (mk s0))],[])))
 |0,s,acc,hn,_=>by omega
 |
  n+1,s,acc,hn,hl=>by
  refine Tr _ _ _ _ _ ?_
  simp only[N7,↓zq,zs,af,C0]
  have hd:IntKind.wrap .i64 (((300-(k+1):Nat):Int)+1)=((300-k:Nat):Int):=by rw[wrap64]<;>omega
  rw[hd]
  refine aj (ih s (by omega)) ?_
  have hlt:=za k s
  cases hr:rd k s with
  |
   none =>
   simp only[pg,↓zq,zs,af,tD,hr]
   simp[ox]
  |
   some q =>
   obtain⟨e,r⟩:=q
   have:=hlt e r hr
   cases r with
   |
    nil =>
    simp only[pg,↓zq,zs,af,zt,tD,hr,da,eA]
    simp[ox]
   |
    cons c r =>
    simp only[aw]at this
    have hb:=mU (c::r) 0 (by simp)
    simp only[Int.ofNat_eq_natCast,Int.cast_ofNat_Int]at hb
    have e2:(List.take (c::r).length (c::r)).drop 1=r:=by simp
    simp only[pg,↓zq,zs,af,zt,tD,hr,da,eA,hb,e2,sU]
    refine⟨fun h=>(by cases h),fun _=>⟨fun h=>(by cases h),fun _=>⟨⟨fun c hc=>(by simp at hc;rw[hc];rfl),by omega⟩,by omega,by omega,fun h41=>?_,fun h41=>⟨by omega,fun h32=>?_,fun h32=>?_⟩⟩⟩⟩
    ·have h41':c.toNat=41:=by omega
     rw[C9,if_pos h41']
     simp[ox,E.cI,wA,E.mY]
    ·have h41':¬c.toNat=41:=by omega
     have h32':¬c.toNat=32:=by omega
     rw[if_neg h41',if_neg h32']
    ·have h41':¬c.toNat=41:=by omega
     have h32':c.toNat=32:=by omega
     rw[C9,if_neg h41',if_pos h32']
     have:=M9 s0 k hk ih n r (acc++[e]) (by omega) (by simp;omega)
     simpa[wA,E.mY]using this
theorem UP:∀(k:Nat),k<=300->∀s:List UInt8,s.length<=8000->aq Tryz.prog 116 [.v (.string (mk s)),.v (.int .i64 ((300-k:Nat):Int))] [] (bN (pg s (rd k s))):=by
 intro k
 induction k with
 |
  zero =>
  intro hk s hs
  refine MR _ _ ?_
  unfold Ib
  refine cA (H2 s hs _ s.length 0 (by omega)) ?_
  simp only[↓zq,zs,af,zt,ba,bN]
  have hw:(s.takeWhile fq).length<=s.length:=by
   have:=congrArg List.length (List.takeWhile_append_dropWhile (p:=fq) (l:=s))
   simp only[an]at this;omega
  refine⟨fun h=>⟨by omega,by omega,?_⟩,fun h=>?_⟩
  ·have hne:¬s.takeWhile fq=[]:=fun e=>by rw[e]at h;simp at h
   simp only[rd,if_neg hne,pg,E.cI,ve,zY]
  ·have hnil:s.takeWhile fq=[]:=cg (by omega)
   simp only[rd,if_pos hnil,pg]
   refine⟨fun _=>trivial,fun hne=>⟨?_,?_⟩⟩
   ·cases s with
    |nil=>exact absurd rfl hne
    |cons c s=>simp
   ·exact⟨fun _=>trivial,fun _=>⟨fun _=>trivial,fun h=>absurd rfl h⟩⟩
 |
  succ k ih =>
  intro hk s hs
  refine MR _ _ ?_
  unfold Ib
  refine cA (H2 s hs _ s.length 0 (by omega)) ?_
  simp only[↓zq,zs,af,zt,ba,bN]
  have hw:(s.takeWhile fq).length<=s.length:=by
   have:=congrArg List.length (List.takeWhile_append_dropWhile (p:=fq) (l:=s))
   simp only[an]at this;omega
  refine⟨fun h=>⟨by omega,by omega,?_⟩,fun h=>?_⟩
  ·have hne:¬s.takeWhile fq=[]:=fun e=>by rw[e]at h;simp at h
   simp only[rd,if_neg hne,pg,E.cI,ve,zY]
  ·have hnil:s.takeWhile fq=[]:=cg (by omega)
   simp only[rd,if_pos hnil]
   cases s with
   |nil=>simp[pg]
   |
    cons c s =>
    have hb:=mU (c::s) 0 (by simp)
    simp only[Int.ofNat_eq_natCast,Int.cast_ofNat_Int]at hb
    simp only[aw]at hs
    simp only[↓zq,zs,af,hb,C9]
    refine⟨fun h=>(by cases h),fun _=>⟨by omega,fun h40=>?_,fun h40=>⟨fun h300=>?_,fun h300=>⟨by omega,?_⟩⟩⟩⟩
    ·have:¬c.toNat=40:=by omega
     rw[if_neg this];rfl
    ·omega
    ·have h40':c.toNat=40:=by omega
     rw[if_pos h40']
     refine eC (M9 (c::s) k (by omega) (ih (by omega)) (s.length+1) s [] (by omega) (by simp;omega)) (fun ys o e=>?_) (fun ys o e=>?_)
     ·split at e<;>cases e
     ·split at e<;>cases e
      ·rename_i e' r' hr
       simp only[↓zq,zs,af,da]
       simp only[hr,pg]
      ·rename_i hr
       simp only[↓zq,zs,af]
       simp only[hr,pg]
end Go.Proofs.Trees
namespace Go.Proofs.Trees
open Go Go.VL
mutual
def E.sz:E->Nat
 | .atom _=>1
 | .list l=>1+E.jN l
def E.jN:List E->Nat
 |[]=>0
 |e::l=>e.sz+E.jN l
end
mutual
def E.ok:E->Prop
 | .atom s=>s≠[]
 | .list l=>E.F1 l
def E.F1:List E->Prop
 |[]=>True
 |e::l=>e.ok/\E.F1 l
end
theorem zP(l r:List E):E.jN (l++r)=E.jN l+E.jN r:=by
 induction l with
 |nil=>simp[E.jN]
 |cons e l ih=>simp[E.jN,ih];omega
theorem Ai(l r:List E):E.F1 (l++r)↔E.F1 l/\E.F1 r:=by
 induction l with
 |nil=>simp[E.F1]
 |cons e l ih=>simp[E.F1,ih,and_assoc]
theorem DI{f:List UInt8->Option (E×List UInt8)}(hf:∀s e r,f s=some (e,r)->e.ok/\e.sz+r.length<=s.length):∀(n:Nat) (s:List UInt8) (acc:List E) (e:E) (r:List UInt8),tD f n s acc=some (e,r)->E.F1 acc->e.ok/\e.sz+r.length<=s.length+1+E.jN acc
 |0,s,acc,e,r,h,_=>by cases h
 |
  n+1,s,acc,e,r,h,ha=>by
  simp only[tD]at h
  split at h
  ·rename_i p c r' hs
   obtain⟨h1,h2⟩:=hf _ _ _ hs
   simp only[aw]at h2
   split at h
   ·cases h
    refine⟨(Ai _ _).2 ⟨ha,h1,trivial⟩,?_⟩
    simp only[E.sz,zP,E.jN];omega
   ·split at h
    ·have:=DI hf n _ _ _ _ h ((Ai _ _).2 ⟨ha,h1,trivial⟩)
     refine⟨this.1,?_⟩
     have h3:=this.2
     simp only[zP,E.jN]at h3;omega
    ·cases h
  ·cases h
theorem vU(s:List UInt8):(s.takeWhile fq).length+(s.dropWhile fq).length=s.length:=by
 have:=congrArg List.length (List.takeWhile_append_dropWhile (p:=fq) (l:=s))
 simpa only[an]using this
theorem Gt:∀(k:Nat) (s:List UInt8) (e:E) (r:List UInt8),rd k s=some (e,r)->e.ok/\e.sz+r.length<=s.length
 |
  0,s,e,r,h=>by
  simp only[rd]at h
  split at h
  ·cases h
  ·rename_i hn;cases h
   have:=vU s
   have:0<(s.takeWhile fq).length:=List.length_pos_iff.2 hn
   exact⟨hn,by simp only[E.sz];omega⟩
 |
  k+1,s,e,r,h=>by
  simp only[rd]at h
  split at h
  ·split at h
   ·split at h
    ·have:=DI (Gt k) _ _ _ _ _ h trivial
     refine⟨this.1,?_⟩
     have h3:=this.2
     simp only[E.jN,aw]at h3 |-;omega
    ·cases h
   ·cases h
  ·rename_i hn;cases h
   have:=vU s
   have:0<(s.takeWhile fq).length:=List.length_pos_iff.2 hn
   exact⟨hn,by simp only[E.sz];omega⟩
def rM(s:List UInt8):Option E:=if s.length>8000 then none else match rd 300 s with|some (e,[])=>some e|_=>none
theorem oH{s:List UInt8}{e:E}(h:rM s=some e):e.ok/\e.sz<=8000:=by
 unfold rM at h
 split at h
 ·cases h
 ·split at h
  ·rename_i e' hr
   cases h
   have:=Gt _ _ _ _ hr
   exact⟨this.1,by have:=this.2;simp at this;omega⟩
  ·cases h
def vx:Option E->AV
 |some e=>e.cI
 |none=>.v (.pointer none)
theorem Mr(s:List UInt8):aq Tryz.prog 73 [.v (.string (mk s))] [] (bN (vx (rM s))):=by
 refine Ry _ ?_
 simp only[O6,↓zq,zs,af,zt,bN,rM]
 refine⟨fun h=>?_,fun h=>?_⟩
 ·rw[if_pos (by omega)];simp[vx]
 ·rw[if_neg (by omega)]
  refine aj (UP 300 (by omega) s (by omega)) ?_
  cases hr:rd 300 s with
  |
   none =>
   simp only[pg,↓zq,zs,af,zt,vx]
   refine⟨fun _=>trivial,fun _=>trivial⟩
  |
   some q =>
   obtain⟨e,r⟩:=q
   cases r with
   |nil=>simp only[pg,↓zq,zs,af,zt,vx,da];simp
   |cons c r=>simp only[pg,↓zq,zs,af,zt,vx,da];simp
def iI(b:UInt8):Bool:=decide (48<=b.toNat/\b.toNat<=57)
def named(lo hi:Nat):List UInt8->Bool
 |[]=>false
 |c::r=>decide (r.length<=2)&&decide (lo<=c.toNat/\c.toNat<=hi)&&r.all iI
def ib(s:List UInt8):Bool:=named 120 122 s
def dx(s:List UInt8):Bool:=named 116 116 s
def Ed(v lo hi:Int):Bool:=decide (lo<=v/\v<=hi)
theorem CL(v lo hi:Int):aq Tryz.prog 55 [.v (.int .i64 v),.v (.int .i64 lo),.v (.int .i64 hi)] [] (bN (.v (.bool (Ed v lo hi)))):=by
 refine SW _ _ _ ?_
 simp only[LH,↓zq,zs,af,bN,Ed]
 constructor<;>intro h<;>simp at h<;>simp[h]
 omega
theorem Mm(s:List UInt8)(hs:s.length<=3):∀(k i:Nat),i+k=s.length->Iz [.v (.string (mk s)),.v (.int .i64 (i:Int))] [] (ox (if(s.drop i).all iI=true then(1,[],[])else(2,[.v (.bool false)],[])))
 |
  0,i,hi=>by
  have hd:s.drop i=[]:=bY (by omega)
  refine PW _ _ ?_
  simp only[IL,↓zq,zs,af,zt]
  exact⟨fun h=>by omega,fun _=>by simp[ox,hd]⟩
 |
  k+1,i,hi=>by
  have hlt:i<s.length:=by omega
  have e:s.drop i=s.getD i 0::s.drop (i+1):=by
   rw[aL hlt];simp[aa,hlt]
  refine PW _ _ ?_
  simp only[IL,↓zq,zs,af,zt,mU s i hlt,e,di]
  generalize hb:s.getD i 0=b
  refine⟨fun _=>⟨by omega,fun h=>?_,fun h=>⟨by omega,fun h2=>?_,fun h2=>?_⟩⟩,fun h=>by omega⟩
  ·have:iI b=false:=by simp[iI];omega
   simp only[this,zf,ox]
  ·have:iI b=false:=by simp[iI];omega
   simp only[this,zf,ox]
  ·have:iI b=true:=by simp[iI];omega
   rw[bB i (by omega),this,cb]
   exact Mm s hs k (i+1) (by omega)
theorem O9(s:List UInt8)(lo hi:Nat):aq Tryz.prog 140 [.v (.string (mk s)),.v (.int .u8 (lo:Int)),.v (.int .u8 (hi:Int))] [] (bN (.v (.bool (named lo hi s)))):=by
 refine UD _ _ _ ?_
 unfold Np
 rw[cS]
 refine aj (CL _ _ _) ?_
 simp only[↓zq,zs,af,zt,bN]
 refine⟨fun h=>?_,fun h=>?_⟩
 ·cases s with
  |nil=>rfl
  |
   cons c s =>
   simp[Ed]at h
   have:¬s.length<=2:=by omega
   simp[named,this]
 ·cases s with
  |nil=>simp[Ed]at h
  |
   cons c s =>
   simp[Ed]at h
   have hl:s.length<=2:=by omega
   have hb:=mU (c::s) 0 (by simp)
   simp only[Int.ofNat_eq_natCast,Int.cast_ofNat_Int]at hb
   simp only[↓zq,zs,af,hb]
   refine⟨by omega,fun h1=>?_,fun h1=>⟨by omega,fun h2=>?_,fun h2=>?_⟩⟩
   ·have:¬lo<=c.toNat:=by omega
    simp[named,this]
   ·have:¬c.toNat<=hi:=by omega
    simp[named,this]
   ·refine eC (Mm (c::s) (by simp;omega) s.length 1 (by simp;omega)) (fun ys o e=>?_) (fun ys o e=>?_)
    ·split at e<;>cases e
     rename_i ha
     simp at ha
     simp only[↓zq,zs,af]
     simp[named,hl]
     exact⟨⟨by omega,by omega⟩,fun x hx=>by simpa using ha x hx⟩
    ·split at e<;>cases e
     rename_i ha
     simp only[↓zq,zs,af]
     have:s.all iI=false:=by simpa using ha
     simp[named,this]
theorem J1(s:List UInt8):aq Tryz.prog 101 [.v (.string (mk s))] [] (bN (.v (.bool (ib s)))):=by
 refine Rs _ ?_
 unfold KC
 refine aj (O9 s 120 122) ?_
 simp only[↓zq,zs,af,bN,ib]
theorem Ip(s:List UInt8):aq Tryz.prog 99 [.v (.string (mk s))] [] (bN (.v (.bool (dx s)))):=by
 refine S1 _ ?_
 unfold KM
 refine aj (O9 s 116 116) ?_
 simp only[↓zq,zs,af,bN,dx]
end Go.Proofs.Trees
namespace Go.Proofs.Trees
open Go Go.VL Go.RowKit
theorem Te(l:List UInt8)(c:UInt8):aq Tryz.prog 158 [.v (.string (mk l)),.v (.string (mk [c]))] [] (bN (.v (.bool (decide (0<=Lib.indexByte l c))))):=by
 refine aq.UY (xs:=[.string (mk l),.string (mk [c])]) ⟨og,by kernel_rfl,by kernel_rfl,by kernel_rfl⟩ fun w=>?_
 have:=Any.strings_Contains_one Tryz.Eg (mk l) c w
 refine Calls.mono this fun e w' ⟨h1,h2⟩=>?_
 rw[h2]
 have hd:(mk l).data.toList=l:=by simp[mk]
 exact⟨by rw[h1,hd],Below.refl _ _⟩
theorem L6(l cs:List UInt8)(hl:l.length<=1000000)(hc:cs.length<=1000)(ha:∀b,b∈cs->b.toNat<128):aq Tryz.prog 153 [.v (.string (mk l)),.v (.string (mk cs))] [] (bN (.v (.string (mk (Lib.trimS l cs))))):=by
 refine aq.UY (xs:=[.string (mk l),.string (mk cs)]) ⟨rz,by kernel_rfl,by kernel_rfl,by kernel_rfl⟩ fun w=>?_
 have:=Any.strings_Trim_laid Tryz.F8 (by kernel_rfl) (mk l) (mk cs) w (by rw[cS];omega) (by rw[cS];omega) (fun j b hj=>ha b (by
  have:(mk cs).data.toList=cs:=by simp[mk]
  rw[this]at hj
  exact List.mem_of_getElem? hj))
 refine Calls.mono this fun e w' ⟨h1,h2⟩=>⟨?_,h2⟩
 rw[h1]
 simp[mk]
theorem ov:∀(l:List UInt8) (c:UInt8),(0<=Lib.indexByte l c↔c∈l)/\-1<=Lib.indexByte l c
 |[],c=>by simp[Lib.indexByte]
 |
  b::l,c=>by
  obtain⟨h1,h2⟩:=ov l c
  unfold Lib.indexByte
  by_cases e:b=c
  ·subst e;simp
  ·have e':(b==c)=false:=by simp[e]
   rw[e']
   by_cases q:Lib.indexByte l c = -1
   ·have:c∉l:=fun h=>by have:=h1.2 h;omega
    simp[q,this,Ne.symm e]
   ·have q':(Lib.indexByte l c==-1)=false:=by simp[q]
    simp only[q',Bool.false_eq_true,if_false,aI]
    constructor
    ·constructor
     ·intro h;exact .inr (h1.1 (by omega))
     ·intro h
      rcases h with h|h
      ·exact absurd h.symm e
      ·have:=h1.2 h;omega
    ·omega
theorem dropWhile_nil{p:UInt8->Bool}:∀(l:List UInt8),l.dropWhile p=[]↔l.all p=true
 |[]=>by simp
 |
  b::l=>by
  cases h:p b with
  |true=>rw[List.dropWhile_cons_of_pos h,dropWhile_nil l];simp[h]
  |false=>rw[List.dropWhile_cons_of_neg (by rw[h];simp)];simp[h]
theorem ue(l cs:List UInt8):Lib.trimS l cs=[]↔l.all (cs.contains ·)=true:=by
 unfold Lib.trimS Lib.trimLeftS
 rw[dropWhile_nil]
 unfold Lib.trimRightS
 constructor
 ·intro h
  by_cases hn:l.reverse.dropWhile (cs.contains ·)=[]
  ·rw[dropWhile_nil]at hn
   simpa using hn
  ·exfalso
   rw[List.all_reverse]at h
   obtain⟨b,r,e⟩:=List.exists_cons_of_ne_nil hn
   have h1:cs.contains b=false:=by
    have:=List.head_dropWhile_not (p:=(cs.contains ·)) (l:=l.reverse) hn
    simp only[e,List.head_cons]at this
    exact this
   rw[e]at h
   simp only[di,aA]at h
   rw[h1]at h;cases h.1
 ·intro h
  have:l.reverse.dropWhile (cs.contains ·)=[]:=by rw[dropWhile_nil];simpa using h
  rw[this];rfl
def I8:List UInt8:=[48,49,50,51,52,53,54,55,56,57]
theorem w7(b:UInt8):I8.contains b=iI b:=by
 have:∀n:Fin 256,I8.contains (bp n.val)=iI (bp n.val):=by decide +kernel
 have:=this ⟨b.toNat,b.toNat_lt⟩
 simpa using this
theorem QE(s ls:List UInt8)(lo hi:Nat)(hls:∀c:UInt8,c∈ls↔lo<=c.toNat/\c.toNat<=hi):aq Tryz.prog 145 [.v (.string (mk s)),.v (.string (mk ls))] [] (bN (.v (.bool (named lo hi s)))):=by
 refine SD _ _ ?_
 simp only[MM,↓zq,zs,af,zt,bN]
 cases s with
 |nil=>exact⟨fun h=>by simp at h,fun _=>rfl⟩
 |
  cons c s =>
  have e1:(List.take (bP 1) (c::s))=[c]:=rfl
  have e2:(List.take (s.length+1) (c::s)).drop (bP 1)=s:=by simp
  simp only[aw,e1,e2]
  refine⟨fun _=>⟨fun h3=>⟨by omega,?_⟩,fun h3=>?_⟩,fun h=>by omega⟩
  ·have hl:s.length<=2:=by omega
   refine aj (Te ls c) ?_
   simp only[↓zq,zs,af]
   have hi1:=(ov ls c).1
   refine⟨fun h=>⟨by omega,?_⟩,fun h=>?_⟩
   ·refine aj (L6 s I8 (by omega) (by decide) (by decide)) ?_
    simp only[↓zq,zs,af,zt]
    have hc:=(hls c).1 (hi1.1 h)
    congr 2
    rw[cJ,beq_iff_eq,ue]
    simp only[named,hl,hc,decide_true,cb,and_self]
    have:(fun x=>I8.contains x)=iI:=funext w7
    rw[this]
   ·have hc:¬(lo<=c.toNat/\c.toNat<=hi):=fun h'=>h (hi1.2 ((hls c).2 h'))
    simp only[named,hc,zf]
  ·have hl:¬s.length<=2:=by omega
   simp only[named,hl,zf]
theorem PM(s:List UInt8):aq Tryz.prog 117 [.v (.string (mk s))] [] (bN (.v (.bool (ib s)))):=by
 refine Uo _ ?_
 unfold QN
 have h:∀n:Fin 256,(bp n.val∈[(120:UInt8),121,122])↔120<=(bp n.val).toNat/\(bp n.val).toNat<=122:=by decide +kernel
 refine aj (QE s [120,121,122] 120 122 fun c=>by simpa using h ⟨c.toNat,c.toNat_lt⟩) ?_
 simp only[↓zq,zs,af,bN,ib]
theorem Ew(s:List UInt8):aq Tryz.prog 118 [.v (.string (mk s))] [] (bN (.v (.bool (dx s)))):=by
 refine Sq _ ?_
 unfold QR
 have h:∀n:Fin 256,(bp n.val∈[(116:UInt8)])↔116<=(bp n.val).toNat/\(bp n.val).toNat<=116:=by decide +kernel
 refine aj (QE s [116] 116 116 fun c=>by simpa using h ⟨c.toNat,c.toNat_lt⟩) ?_
 simp only[↓zq,zs,af,bN,dx]
end Go.Proofs.Trees
namespace Go.Proofs.Trees
open Go Go.VL
inductive Ty where
 |zero|one
 |name (s:List UInt8)
 |bound (up:Nat)
 |plus (a b:Ty)
 |times (a b:Ty)
 |rc (a:Ty)
def Ty.av:Ty->AV
 | .zero=>.ptr [.v (.int .u8 48),.v (.string (mk [])),.v (.int .i64 0),.v (.pointer none),.v (.pointer none)]
 | .one=>.ptr [.v (.int .u8 49),.v (.string (mk [])),.v (.int .i64 0),.v (.pointer none),.v (.pointer none)]
 | .name s=>.ptr [.v (.int .u8 110),.v (.string (mk s)),.v (.int .i64 0),.v (.pointer none),.v (.pointer none)]
 | .bound up=>.ptr [.v (.int .u8 98),.v (.string (mk [])),.v (.int .i64 (up:Int)),.v (.pointer none),.v (.pointer none)]
 | .plus a b=>.ptr [.v (.int .u8 43),.v (.string (mk [])),.v (.int .i64 0),a.av,b.av]
 | .times a b=>.ptr [.v (.int .u8 42),.v (.string (mk [])),.v (.int .i64 0),a.av,b.av]
 | .rc a=>.ptr [.v (.int .u8 114),.v (.string (mk [])),.v (.int .i64 0),a.av,.v (.pointer none)]
theorem aE(t:Ty):LK.has .ptr t.av=True:=by cases t<;>simp[Ty.av,cm]
theorem fX(t:Ty):t.av.isNil=false:=by cases t<;>rfl
def iJ:Option Ty->AV
 |some t=>t.av
 |none=>.v (.pointer none)
theorem iL(t:Option Ty):LK.has .ptr (iJ t)=True:=by cases t<;>simp[iJ,aE,gU]
def E.at:E->List UInt8
 | .atom s=>s
 | .list _=>[]
def bT(s:List UInt8)(ar:List (List UInt8)):Nat->Option Nat
 |0=>none
 |i+1=>if ar.getD i []=s then some (ar.length-1-i)else bT s ar i
def cY:E->List (List UInt8)->Option Ty
 | .atom s,ar=>if s=[48]then some .zero else if s=[49]then some .one else if ib s=true then some (.name s)else if dx s=true then(match bT s ar ar.length with|some u=>some (.bound u)|none=>some (.name s))else none
 |
  .list [x,a,b],ar =>
  if x.at=[43]then(match cY a ar,cY b ar with|some t,some u=>some (.plus t u)|_,_=>none)
  else if x.at=[42]then(match cY a ar,cY b ar with|some t,some u=>some (.times t u)|_,_=>none)
  else if x.at=[114,101,99]then(if dx a.at=true then(match cY b (ar++[a.at])with|some t=>some (.rc t)|none=>none)else none)
  else none
 | .list _,_=>none
def bX(l:List (List UInt8)):List (List AV):=l.map fun s=>[.v (.string (mk s))]
def cQ(a:AV)(l:List (List UInt8)):Prop:=LK.sl.has a/\a.elems=bX l
theorem cQ.len{a:AV}{l:List (List UInt8)}(h:cQ a l):a.elems.length=l.length:=by rw[h.2];simp[bX]
theorem cQ.idx{a:AV}{l:List (List UInt8)}(h:cQ a l){i:Nat}(hi:i<l.length):a.elems.getD i []=[.v (.string (mk (l.getD i [])))]:=by
 rw[h.2];simp[bX,aa,hi]
theorem cQ.of(l:List (List UInt8)):cQ (.sl (bX l)) l:=⟨(cc _).mpr trivial,rfl⟩
theorem cQ.nil:cQ (.v (.slice none 0 0)) []:=⟨(bo).mpr trivial,rfl⟩
theorem Am(e:E)(w:List UInt8):aq Tryz.prog 119 [e.cI,.v (.string (mk w)),.v (.int .i64 3)] [] (bN (.v (.bool (match e with| .list [x,_,_]=>x.at==w|_=>false)))):=by
 refine KT _ _ _ ((da e).mpr trivial) ?_
 cases e with
 |atom s=>simp only[Cl,E.cI,↓zq,zs,af,zt,bN];exact⟨by omega,fun h=>by omega,fun _=>trivial⟩
 |
  list l =>
  simp only[Cl,E.cI,↓zq,zs,af,zt,bN,sU]
  match l with
  |[]=>exact⟨by simp,fun h=>by simp at h,fun _=>rfl⟩
  |[_]=>exact⟨by simp,fun h=>by simp at h,fun _=>rfl⟩
  |[_,_]=>exact⟨by simp,fun h=>by simp at h,fun _=>rfl⟩
  |
   [x,y,z] =>
   refine⟨by simp,fun _=>?_,fun h=>by simp at h⟩
   cases x<;>simp[E.mY,E.cI,cm,qE,j8,dC,vm,toList_mk,E.at]
  |_::_::_::_::l=>exact⟨by simp,fun h=>by simp at h;omega,fun _=>rfl⟩
theorem Ly(e:E)(a:AV)(ar:List (List UInt8))(ha:cQ a ar)(hl:ar.length<1000000):∀(i:Nat),i<=ar.length->G9 [e.cI,a,.v (.int .i64 ((i:Int)-1))] []
 (ox (match bT e.at ar i with|some u=>(2,[],[.cells [.v (.int .u8 98),.v (.string (mk [])),.v (.int .i64 (u:Int)),.v (.pointer none),.v (.pointer none)]])|none=>(1,[e.cI],[])))
 |
  0,hi=>by
  refine Qa _ _ _ ?_
  simp only[JH,↓zq,zs,af,da]
  exact⟨ha.1,fun h=>by omega,fun _=>rfl⟩
 |
  i+1,hi=>by
  have hlt:i<ar.length:=by omega
  have e1:((i+1:Nat):Int)-1=(i:Int):=by omega
  rw[e1]
  refine Qa _ _ _ ?_
  have hd:e.cI.deref.headD .any=.v (.string (mk e.at)):=by cases e<;>rfl
  have hdl:1<=e.cI.deref.length:=by cases e<;>simp[E.cI,j8]
  simp only[JH,↓zq,zs,af,zt,da,eA,ha.len,ha.idx hlt,hd,sL]
  refine⟨ha.1,fun _=>⟨⟨ha.1,by omega,by omega⟩,by omega,hdl,fun h=>⟨ha.1,?_⟩,fun h=>?_⟩,fun h=>by omega⟩
  ·simp only[bT,h,if_true,ox]
   rw[wrap64 ((ar.length:Int)-1) (by omega) (by omega),wrap64 _ (by omega) (by omega)]
   have:(ar.length:Int)-1-(i:Int)=((ar.length-1-i:Nat):Int):=by omega
   rw[this]
  ·simp only[bT,h,if_false]
   rw[wrap64 _ (by omega) (by omega)]
   exact Ly e a ar ha hl i (by omega)
end Go.Proofs.Trees
namespace Go.Proofs.Trees
open Go Go.VL
theorem oL(e:E):e.cI.deref.headD .any=.v (.string (mk e.at)):=by cases e<;>rfl
theorem mw(e:E):1<=e.cI.deref.length:=by cases e<;>simp[E.cI,j8]
theorem toNat_one:bP 1=1:=rfl
theorem bn:bP 2=2:=rfl
theorem GF{ar:List (List UInt8)}(s:List UInt8):bX ar++[[.v (.string (mk s))]]=bX (ar++[s]):=by simp[bX]
theorem lg(ar:List (List UInt8)):cq 1 (bX ar):=fun c hc=>by
 obtain⟨s,_,rfl⟩:=bO.1 hc;rfl
theorem lY{x a b:E}(ar:List (List UInt8))(hx:x.at=[43]):cY (.list [x,a,b]) ar=match cY a ar,cY b ar with|some t,some u=>some (.plus t u)|_,_=>none:=by rw[cY,if_pos hx]<;>cases cY a ar<;>cases cY b ar<;>rfl
theorem kO{x a b:E}(ar:List (List UInt8))(hx:x.at=[42]):cY (.list [x,a,b]) ar=match cY a ar,cY b ar with|some t,some u=>some (.times t u)|_,_=>none:=by rw[cY,if_neg (by rw[hx];decide),if_pos hx]<;>cases cY a ar<;>cases cY b ar<;>rfl
theorem np{x a b:E}(ar:List (List UInt8))(hx:x.at=[114,101,99]):cY (.list [x,a,b]) ar=if dx a.at=true then(match cY b (ar++[a.at])with|some t=>some (.rc t)|none=>none)else none:=by rw[cY,if_neg (by rw[hx];decide),if_neg (by rw[hx];decide),if_pos hx]<;>cases cY b (ar++[a.at])<;>rfl
theorem jz{x a b:E}(ar:List (List UInt8))(h1:x.at≠[43])(h2:x.at≠[42])(h3:x.at≠[114,101,99]):cY (.list [x,a,b]) ar=none:=by rw[cY,if_neg h1,if_neg h2,if_neg h3]
theorem FY:∀(e:E) (ar:List (List UInt8)) (a:AV),e.ok->cQ a ar->ar.length+e.sz<100000->aq Tryz.prog 74 [e.cI,a] [] (bN (iJ (cY e ar)))
 |
  .atom s,ar,a,hok,ha,hl=>by
  simp only[E.sz]at hl
  refine L8 _ _ ((da _).mpr trivial) ha.1 ?_
  have hd:=oL (.atom s)
  have hlen:=mw (.atom s)
  simp only[E.at]at hd
  simp only[HU,↓zq,zs,af,zt,bN,da,eA,hd,cY]
  refine⟨hlen,fun h=>⟨hlen,?_,?_⟩,fun h=>⟨hlen,fun h1=>⟨hlen,?_,?_⟩,fun h1=>⟨hlen,?_⟩⟩⟩
  ·rw[h];decide
  ·rw[if_pos h,h];rfl
  ·rw[h1];decide
  ·rw[if_neg h,if_pos h1,h1];rfl
  ·rw[if_neg h,if_neg h1]
   refine aj (PM s) ?_
   simp only[↓zq,zs,af]
   refine⟨fun hp=>⟨hlen,?_⟩,fun hp=>⟨hlen,?_⟩⟩
   ·rw[if_pos hp];rfl
   ·rw[if_neg (by rw[hp];simp)]
    refine aj (Ew s) ?_
    simp only[↓zq,zs,af,ha.len]
    refine⟨fun hq=>⟨ha.1,?_⟩,fun hq=>?_⟩
    ·rw[if_pos hq,wrap64 _ (by omega) (by omega)]
     refine eC (Ly (.atom s) a ar ha (by omega) ar.length (by omega)) (fun ys o e=>?_) (fun ys o e=>?_)
     ·simp only[E.at]at e
      cases hq2:bT s ar ar.length<;>rw[hq2]at e<;>cases e
      simp only[↓zq,zs,af,zt,da,eA,hd]
      exact⟨hlen,rfl⟩
     ·simp only[E.at]at e
      cases hq2:bT s ar ar.length<;>rw[hq2]at e<;>cases e
      simp only[↓zq,zs,af,zt,LK.has]
      simp[iJ,Ty.av,af,LK.has]
    ·rw[if_neg (by rw[hq];simp)]
     refine aj (Am (.atom s) [43]) ?_
     simp only[↓zq,zs,af]
     refine⟨fun h=>(by simp at h),fun _=>?_⟩
     refine aj (Am (.atom s) [42]) ?_
     simp only[↓zq,zs,af]
     refine⟨fun h=>(by simp at h),fun _=>?_⟩
     refine aj (Am (.atom s) [114,101,99]) ?_
     simp only[↓zq,zs,af]
     refine⟨fun h=>(by simp at h),fun _=>?_⟩
     trivial
 |
  .list l,ar,a,hok,ha,hl=>by
  simp only[E.sz]at hl
  refine L8 _ _ ((da _).mpr trivial) ha.1 ?_
  have hd:=oL (.list l)
  have hlen:=mw (.list l)
  simp only[E.at]at hd
  have hp:ib []=false:=rfl
  have hq:dx []=false:=rfl
  simp only[HU,↓zq,zs,af,zt,bN,da,eA,hd]
  refine⟨hlen,fun h=>(by simp at h),fun h=>⟨hlen,fun h1=>(by simp at h1),fun h1=>⟨hlen,?_⟩⟩⟩
  refine aj (PM []) ?_
  simp only[↓zq,zs,af,hp]
  refine⟨fun h=>(by simp at h),fun _=>⟨hlen,?_⟩⟩
  refine aj (Ew []) ?_
  simp only[↓zq,zs,af,hq]
  refine⟨fun h=>(by simp at h),fun _=>?_⟩
  refine aj (Am (.list l) [43]) ?_
  match l,hok,hl with
  |
   [x,y,z],hok,hl =>
   simp only[E.jN]at hl
   obtain⟨ok1,ok2,ok3,_⟩:=hok
   have iy:=FY y ar a ok2 ha (by omega)
   have iz:=FY z ar a ok3 ha (by omega)
   have hds:((E.list [x,y,z]).cI.deref.drop 1).headD .any=.sl [[x.cI],[y.cI],[z.cI]]:=rfl
   have hdl:1<=((E.list [x,y,z]).cI.deref.drop 1).length:=by simp[E.cI,j8]
   have hxd:=oL x
   have hxl:=mw x
   have hyd:=oL y
   have hyl:=mw y
   have bin:∀(c:UInt8) (mkT:Ty->Ty->Ty),(∀t u:Ty,(mkT t u).av=.ptr [.v (.int .u8 (c.toNat:Int)),.v (.string (mk [])),.v (.int .i64 0),t.av,u.av])->x.at=[c]->bt (mk x.at) 0=(c.toNat:Int):=fun c _ _ hx=>by
    have:=mU x.at 0 (by rw[hx];simp)
    simp only[Int.ofNat_eq_natCast,Int.cast_ofNat_Int]at this
    rw[this,hx];rfl
   simp only[↓zq,zs,af,zt,hds,hdl,da,eA,toNat_one,bn,hxd,hyd,sL]
   refine⟨fun hx=>?_,fun hx=>?_⟩
   ·refine⟨by omega,by omega,?_⟩
    refine aj iy ?_
    simp only[↓zq,zs,af,iL]
    refine⟨by omega,by omega,?_⟩
    refine aj iz ?_
    have hb:=bin 43 Ty.plus (fun _ _=>rfl) hx
    rw[lY ar hx]
    simp only[↓zq,zs,af,zt,iL]
    cases h1:cY y ar with
    |none=>simp[iJ,kb]
    |
     some t =>
     cases h2:cY z ar with
     |none=>simp[iJ,kb,fX]
     |
      some u =>
      simp only[iJ,fX,hb]
      refine⟨fun h=>(by cases h),fun _=>⟨fun h=>(by cases h),fun _=>⟨by omega,by omega,hxl,⟨by omega,by rw[hx];simp⟩,rfl⟩⟩⟩
   ·refine aj (Am (.list [x,y,z]) [42]) ?_
    simp only[↓zq,zs,af,hds,hdl,da,eA,toNat_one,bn,hxd,hyd,sL]
    refine⟨fun hx2=>?_,fun hx2=>?_⟩
    ·refine⟨by omega,by omega,?_⟩
     refine aj iy ?_
     simp only[↓zq,zs,af,iL]
     refine⟨by omega,by omega,?_⟩
     refine aj iz ?_
     have hb:=bin 42 Ty.times (fun _ _=>rfl) hx2
     rw[kO ar hx2]
     simp only[↓zq,zs,af,zt,iL]
     cases h1:cY y ar with
     |none=>simp[iJ,kb]
     |
      some t =>
      cases h2:cY z ar with
      |none=>simp[iJ,kb,fX]
      |
       some u =>
       simp only[iJ,fX,hb]
       refine⟨fun h=>(by cases h),fun _=>⟨fun h=>(by cases h),fun _=>⟨by omega,by omega,hxl,⟨by omega,by rw[hx2];simp⟩,rfl⟩⟩⟩
    ·refine aj (Am (.list [x,y,z]) [114,101,99]) ?_
     simp only[↓zq,zs,af,zt,hds,hdl,da,eA,toNat_one,bn,hxd,hyd,sL]
     refine⟨fun hx3=>⟨by omega,by omega,hyl,?_⟩,fun hx3=>?_⟩
     ·refine aj (Ew y.at) ?_
      rw[np ar hx3]
      simp only[↓zq,zs,af]
      have hal:cq 1 a.elems:=by rw[ha.2];exact lg ar
      have hal1:cq 1 [[AV.v (.string (mk y.at))]]:=fun c hc=>by simp at hc;rw[hc];rfl
      refine⟨fun hlo=>⟨by omega,by omega,⟨ha.1,hal,by rw[ha.len];omega⟩,by omega,by omega,hyl,⟨hal1,by rw[aR,ha.len];omega⟩,?_⟩,fun hlo=>?_⟩
      ·rw[aR,ha.2,GF,if_pos hlo]
       refine aj (FY z (ar++[y.at]) _ ok3 (.of _) (by simp;omega)) ?_
       simp only[↓zq,zs,af,iL]
       cases h2:cY z (ar++[y.at])with
       |none=>simp[iJ,kb]
       |
        some u =>
        simp only[iJ,fX]
        refine⟨fun h=>(by cases h),fun _=>rfl⟩
      ·rw[if_neg (by rw[hlo];simp)];rfl
     ·rw[jz ar hx hx2 hx3];rfl
  |
   [],_,_ =>
   simp only[↓zq,zs,af]
   refine⟨fun h=>(by cases h),fun _=>?_⟩
   refine aj (Am (.list []) [42]) ?_
   simp only[↓zq,zs,af]
   refine⟨fun h=>(by cases h),fun _=>?_⟩
   refine aj (Am (.list []) [114,101,99]) ?_
   simp only[↓zq,zs,af]
   refine⟨fun h=>(by cases h),fun _=>?_⟩
   rfl
  |
   [x1],_,_ =>
   simp only[↓zq,zs,af]
   refine⟨fun h=>(by cases h),fun _=>?_⟩
   refine aj (Am (.list [x1]) [42]) ?_
   simp only[↓zq,zs,af]
   refine⟨fun h=>(by cases h),fun _=>?_⟩
   refine aj (Am (.list [x1]) [114,101,99]) ?_
   simp only[↓zq,zs,af]
   refine⟨fun h=>(by cases h),fun _=>?_⟩
   rfl
  |
   [x1,x2],_,_ =>
   simp only[↓zq,zs,af]
   refine⟨fun h=>(by cases h),fun _=>?_⟩
   refine aj (Am (.list [x1,x2]) [42]) ?_
   simp only[↓zq,zs,af]
   refine⟨fun h=>(by cases h),fun _=>?_⟩
   refine aj (Am (.list [x1,x2]) [114,101,99]) ?_
   simp only[↓zq,zs,af]
   refine⟨fun h=>(by cases h),fun _=>?_⟩
   rfl
  |
   x1::x2::x3::x4::l,_,_ =>
   simp only[↓zq,zs,af]
   refine⟨fun h=>(by cases h),fun _=>?_⟩
   refine aj (Am (.list (x1::x2::x3::x4::l)) [42]) ?_
   simp only[↓zq,zs,af]
   refine⟨fun h=>(by cases h),fun _=>?_⟩
   refine aj (Am (.list (x1::x2::x3::x4::l)) [114,101,99]) ?_
   simp only[↓zq,zs,af]
   refine⟨fun h=>(by cases h),fun _=>?_⟩
   rfl
end Go.Proofs.Trees
namespace Go.Proofs.Trees
open Go Go.VL
def dh(v:AV)(obs:List Ob):AV->List Ob->Prop:=fun r o=>r=v/\o=obs
theorem aX{P:Program}{n:Nat}{Q:Nat->List AV->List Ob->Prop}{f:Nat}{xs:List AV}{ins:List Ob}{k:AV->List Ob->Tree}{v:AV}{obs:List Ob}(h:aq P f xs ins (dh v obs))(hk:fk P n (k v obs) Q):fk P n (.call f xs ins k) Q :=
 ⟨dh v obs,h,⟨v,obs,rfl,rfl⟩,fun r o ⟨h1,h2⟩=>by rw[h1,h2];exact hk⟩
def Ty.atoms:Ty->Nat
 | .plus a b=>1+a.atoms+b.atoms
 | .times a b=>1+a.atoms+b.atoms
 | .rc a=>2+a.atoms
 |_=>1
theorem GH:∀(t:Ty),t.atoms<1000000->aq Tryz.prog 75 [t.av] [] (bN (.v (.int .i64 (t.atoms:Int))))
 | .zero,h=>by refine ym _ ((aE _).mpr trivial) ?_;simp[Gh,Ty.av,↓zq,zs,af,bN,Ty.atoms]
 | .one,h=>by refine ym _ ((aE _).mpr trivial) ?_;simp[Gh,Ty.av,↓zq,zs,af,bN,Ty.atoms]
 | .name s,h=>by refine ym _ ((aE _).mpr trivial) ?_;simp[Gh,Ty.av,↓zq,zs,af,bN,Ty.atoms]
 | .bound u,h=>by refine ym _ ((aE _).mpr trivial) ?_;simp[Gh,Ty.av,↓zq,zs,af,bN,Ty.atoms]
 |
  .plus a b,h=>by
  simp only[Ty.atoms]at h
  refine ym _ ((aE _).mpr trivial) ?_
  simp only[Gh,Ty.av,↓zq,zs,af,aE]
  refine⟨by omega,fun _=>⟨by omega,?_⟩,fun h=>absurd rfl h⟩
  refine aj (GH a (by omega)) ?_
  simp only[↓zq,zs,af,aE]
  refine⟨by omega,?_⟩
  refine aj (GH b (by omega)) ?_
  simp only[↓zq,zs,af,bN,Ty.atoms]
  rw[wrap64 (1+(a.atoms:Int)) (by omega) (by omega),wrap64 _ (by omega) (by omega)]
  congr 2
 |
  .times a b,h=>by
  simp only[Ty.atoms]at h
  refine ym _ ((aE _).mpr trivial) ?_
  simp only[Gh,Ty.av,↓zq,zs,af,aE]
  refine⟨by omega,fun h=>by omega,fun _=>⟨fun _=>⟨by omega,?_⟩,fun h=>absurd rfl h⟩⟩
  refine aj (GH a (by omega)) ?_
  simp only[↓zq,zs,af,aE]
  refine⟨by omega,?_⟩
  refine aj (GH b (by omega)) ?_
  simp only[↓zq,zs,af,bN,Ty.atoms]
  rw[wrap64 (1+(a.atoms:Int)) (by omega) (by omega),wrap64 _ (by omega) (by omega)]
  congr 2
 |
  .rc a,h=>by
  simp only[Ty.atoms]at h
  refine ym _ ((aE _).mpr trivial) ?_
  simp only[Gh,Ty.av,↓zq,zs,af,aE]
  refine⟨by omega,fun h=>by omega,fun _=>⟨fun h=>by omega,fun _=>⟨fun _=>⟨by omega,?_⟩,fun h=>absurd rfl h⟩⟩⟩
  refine aj (GH a (by omega)) ?_
  simp only[↓zq,zs,af,bN,Ty.atoms]
  rw[wrap64 _ (by omega) (by omega)]
  congr 2
theorem jh:∀(e:E) (ar:List (List UInt8)) (t:Ty),cY e ar=some t->t.atoms<=e.sz
 |
  .atom s,ar,t,h=>by
  simp only[cY]at h
  simp only[E.sz]
  split at h
  ·cases h;simp[Ty.atoms]
  ·split at h
   ·cases h;simp[Ty.atoms]
   ·split at h
    ·cases h;simp[Ty.atoms]
    ·split at h
     ·split at h<;>cases h<;>simp[Ty.atoms]
     ·cases h
 |
  .list [x,a,b],ar,t,h=>by
  have hs:∀e:E,1<=e.sz:=fun e=>by cases e<;>simp[E.sz];try omega
  have hx:=hs x
  have ha:=hs a
  simp only[E.sz,E.jN]
  by_cases h1:x.at=[43]
  ·rw[lY ar h1]at h
   split at h
   ·rename_i t1 t2 e1 e2
    cases h
    have:=jh a ar t1 e1
    have:=jh b ar t2 e2
    simp only[Ty.atoms];omega
   ·cases h
  ·by_cases h2:x.at=[42]
   ·rw[kO ar h2]at h
    split at h
    ·rename_i t1 t2 e1 e2
     cases h
     have:=jh a ar t1 e1
     have:=jh b ar t2 e2
     simp only[Ty.atoms];omega
    ·cases h
   ·by_cases h3:x.at=[114,101,99]
    ·rw[np ar h3]at h
     split at h
     ·split at h
      ·rename_i t1 e1
       cases h
       have:=jh b _ t1 e1
       simp only[Ty.atoms];omega
      ·cases h
     ·cases h
    ·rw[jz ar h1 h2 h3]at h;cases h
 | .list [],_,_,h=>by cases h
 | .list [_],_,_,h=>by cases h
 | .list [_,_],_,_,h=>by cases h
 | .list (_::_::_::_::_),_,_,h=>by cases h
def rR(s:List UInt8):Option Ty:=match rM s with
 |none=>none
 |
  some e=>match cY e []with
  |none=>none
  |some t=>if t.atoms>400 then none else some t
theorem I5(s:List UInt8):aq Tryz.prog 38 [.v (.string (mk s))] [] (bN (iJ (rR s))):=by
 refine Uj _ ?_
 unfold Ld
 refine aj (Mr s) ?_
 unfold rR
 cases he:rM s with
 |none=>simp only[vx,↓zq,zs,af,bN,iJ];simp
 |
  some e =>
  obtain⟨h1,h2⟩:=oH he
  simp only[vx,↓zq,zs,af,da,eA]
  refine⟨fun h=>(by cases h),fun _=>?_⟩
  refine aj (FY e [] _ h1 .nil (by simp;omega)) ?_
  cases ht:cY e []with
  |none=>simp only[iJ,↓zq,zs,af,bN];simp
  |
   some t =>
   have:=jh e [] t ht
   simp only[iJ,↓zq,zs,af,aE,fX]
   refine⟨fun h=>(by cases h),fun _=>?_⟩
   refine aj (GH t (by omega)) ?_
   simp only[↓zq,zs,af,bN]
   refine⟨fun h=>?_,fun h=>?_⟩
   ·rw[if_pos (by omega)]
   ·rw[if_neg (by omega)]
end Go.Proofs.Trees
namespace Go.Proofs.Trees
open Go Go.VL
def B8(p:Prop):Nat->List AV->List Ob->Prop:=fun t ys o=>(t=1/\¬p/\ys=[]/\o=[])\/(t=2/\p/\∃j:Nat,ys=[.v (.int .i64 (j:Int))]/\o=[])
theorem OH(l:List (List UInt8))(a:AV)(ha:cQ a l)(s:List UInt8)(hl:l.length<1000000):∀(k i:Nat),i+k=l.length->s∉l.take i->IS [a,.v (.string (mk s)),.v (.int .i64 (l.length:Int)),.v (.int .i64 (i:Int))] []
 (B8 (s∈l))
 |
  0,i,hi,hn=>by
  refine Mg _ _ _ _ ?_
  simp only[JE,↓zq,zs,af]
  have:l.take i=l:=List.take_of_length_le (by omega)
  rw[this]at hn
  exact⟨ha.1,fun h=>by omega,fun _=>.inl ⟨rfl,hn,rfl,rfl⟩⟩
 |
  k+1,i,hi,hn=>by
  have hlt:i<l.length:=by omega
  refine Mg _ _ _ _ ?_
  simp only[JE,↓zq,zs,af,zt,ha.len,ha.idx hlt]
  have hm:l.getD i []∈l:=by simp[aa,hlt]
  refine⟨ha.1,fun _=>⟨⟨ha.1,by omega,by omega⟩,by omega,fun h=>?_,fun h=>?_⟩,fun h=>by omega⟩
  ·exact .inr ⟨rfl,by rw[h];exact hm,i,rfl,rfl⟩
  ·rw[bB i (by omega)]
   refine OH l a ha s hl k (i+1) (by omega) ?_
   rw[List.take_add_one]
   simp only[aP,not_or]
   refine⟨hn,?_⟩
   have:l[i]?=some (l.getD i []):=by simp[aa,hlt]
   rw[this];simpa using h
theorem Lf(l:List (List UInt8))(a:AV)(ha:cQ a l)(s:List UInt8)(hl:l.length<1000000):aq Tryz.prog 124 [a,.v (.string (mk s))] [] (bN (.v (.bool (decide (s∈l))))):=by
 have hI:aq Tryz.prog 149 [a,.v (.string (mk s))] [] (fun r o=>∃n:Int,r=.v (.int .i64 n)/\(0<=n↔s∈l)/\o=[]):=by
  refine TR _ _ ha.1 ?_
  simp only[OZ,↓zq,zs,af,ha.len]
  refine⟨ha.1,lM (OH l a ha s hl l.length 0 (by omega) (by simp)) ?_ ?_⟩
  ·rintro ys o (⟨_,h1,rfl,rfl⟩|⟨h,_⟩)
   ·simp only[↓zq,zs,af]
    exact⟨-1,rfl,⟨fun h=>(by omega),fun h=>absurd h h1⟩⟩
   ·cases h
  ·rintro ys o (⟨h,_⟩|⟨_,h1,j,rfl,rfl⟩)
   ·cases h
   ·simp only[↓zq,zs,af]
    exact⟨j,rfl,⟨fun _=>h1,fun _=>(by omega)⟩⟩
 refine SU _ _ ha.1 ?_
 unfold Qz
 refine aQ hI ⟨.v (.int .i64 (if s∈l then 0 else -1)),[],_,rfl,by split<;>simp_all,rfl⟩ ?_
 rintro r o ⟨n,rfl,hn,rfl⟩
 simp only[↓zq,zs,af,bN]
 congr 2
 rw[cJ];simp[hn]
def qn(out:List (List UInt8)):Ty->List (List UInt8)
 | .name s=>if s∈out then out else out++[s]
 |_=>out
theorem yy(t:Ty)(out:List (List UInt8))(hl:out.length<100000):aq Tryz.prog 148 [t.av,.ref 0 0] [.cells [.vec 1],.vec 1 (bX out)] (dh .any [.cells [.vec 1],.vec 1 (bX (qn out t))]):=by
 refine T1 _ _ ((aE _).mpr trivial) ?_
 have hlen:(bX out).length=out.length:=by simp[bX]
 cases t with
 |
  name s =>
  simp only[HL,Ty.av,↓zq,zs,af,dh,hlen]
  refine⟨by omega,fun _=>⟨by omega,?_⟩,fun h=>absurd rfl h⟩
  refine aj (Lf out _ (.of out) s (by omega)) ?_
  simp only[↓zq,zs,af,qn]
  refine⟨fun h=>⟨by omega,⟨fun c hc=>(by simp at hc;rw[hc];rfl),by omega⟩,?_⟩,fun h=>?_⟩
  ·rw[GF,if_neg h]
  ·rw[if_pos h]
 |_=>simp[HL,Ty.av,↓zq,zs,af,dh,qn]
def bS:Ty->List (List UInt8)->List (List UInt8)
 | .name s,out=>qn out (.name s)
 | .plus a b,out=>bS b (bS a out)
 | .times a b,out=>bS b (bS a out)
 | .rc a,out=>bS a out
 |_,out=>out
theorem eJ:∀(t:Ty) (out:List (List UInt8)),(bS t out).length<=out.length+t.atoms
 | .name s,out=>by simp only[bS,qn,Ty.atoms];split<;>simp
 |
  .plus a b,out=>by
  have:=eJ a out
  have:=eJ b (bS a out)
  simp only[bS,Ty.atoms];omega
 |
  .times a b,out=>by
  have:=eJ a out
  have:=eJ b (bS a out)
  simp only[bS,Ty.atoms];omega
 |
  .rc a,out=>by
  have:=eJ a out
  simp only[bS,Ty.atoms];omega
 | .zero,out=>by simp[bS]
 | .one,out=>by simp[bS]
 | .bound u,out=>by simp[bS]
theorem AX:∀(t:Ty) (out:List (List UInt8)),out.length+t.atoms<100000->aq Tryz.prog 147 [t.av,.fn 148 [.ref 0 0]] [.cells [.vec 1],.vec 1 (bX out)] (dh .any [.cells [.vec 1],.vec 1 (bX (bS t out))])
 |
  .plus a b,out,hl=>by
  simp only[Ty.atoms]at hl
  have:=eJ a out
  refine xS _ _ ((aE _).mpr trivial) ?_
  unfold Gp
  refine aX (yy (.plus a b) out (by omega)) ?_
  simp only[Ty.av,↓zq,zs,af,aE,fX,qn,aH,dh]
  refine⟨by omega,fun _=>⟨by omega,?_⟩,fun h=>(by cases h)⟩
  refine aX (AX a out (by omega)) ?_
  simp only[↓zq,zs,af,aE,fX,aH]
  refine⟨by omega,fun _=>⟨by omega,?_⟩,fun h=>(by cases h)⟩
  refine aX (AX b (bS a out) (by omega)) ?_
  simp only[↓zq,zs,af,aH,bS]
 |
  .times a b,out,hl=>by
  simp only[Ty.atoms]at hl
  have:=eJ a out
  refine xS _ _ ((aE _).mpr trivial) ?_
  unfold Gp
  refine aX (yy (.times a b) out (by omega)) ?_
  simp only[Ty.av,↓zq,zs,af,aE,fX,qn,aH,dh]
  refine⟨by omega,fun _=>⟨by omega,?_⟩,fun h=>(by cases h)⟩
  refine aX (AX a out (by omega)) ?_
  simp only[↓zq,zs,af,aE,fX,aH]
  refine⟨by omega,fun _=>⟨by omega,?_⟩,fun h=>(by cases h)⟩
  refine aX (AX b (bS a out) (by omega)) ?_
  simp only[↓zq,zs,af,aH,bS]
 |
  .rc a,out,hl=>by
  simp only[Ty.atoms]at hl
  refine xS _ _ ((aE _).mpr trivial) ?_
  unfold Gp
  refine aX (yy (.rc a) out (by omega)) ?_
  simp only[Ty.av,↓zq,zs,af,aE,fX,qn,aH,dh]
  refine⟨by omega,fun _=>⟨by omega,?_⟩,fun h=>(by cases h)⟩
  refine aX (AX a out (by omega)) ?_
  simp[↓zq,zs,af,aE,fX,aH,bS]
 |
  .name s,out,hl=>by
  refine xS _ _ ((aE _).mpr trivial) ?_
  unfold Gp
  refine aX (yy (.name s) out (by omega)) ?_
  simp[Ty.av,↓zq,zs,af,aH,dh,bS]
 |
  .zero,out,hl=>by
  refine xS _ _ ((aE _).mpr trivial) ?_
  unfold Gp
  refine aX (yy .zero out (by omega)) ?_
  simp[Ty.av,↓zq,zs,af,aH,dh,bS,qn]
 |
  .one,out,hl=>by
  refine xS _ _ ((aE _).mpr trivial) ?_
  unfold Gp
  refine aX (yy .one out (by omega)) ?_
  simp[Ty.av,↓zq,zs,af,aH,dh,bS,qn]
 |
  .bound u,out,hl=>by
  refine xS _ _ ((aE _).mpr trivial) ?_
  unfold Gp
  refine aX (yy (.bound u) out (by omega)) ?_
  simp[Ty.av,↓zq,zs,af,aH,dh,bS,qn]
theorem QL(t:Ty)(hl:t.atoms<100000):aq Tryz.prog 122 [t.av] [] (bN (.sl (bX (bS t [])))):=by
 refine TN _ ((aE _).mpr trivial) ?_
 unfold QG
 refine aX (AX t [] (by simpa using hl)) ?_
 simp[↓zq,zs,af,aH,bN]
theorem PT(l:List (List UInt8))(a:AV)(ha:cQ a l)(hl:l.length<1000000):∀(k i:Nat),i+k=l.length->(∀s,s∈l.take i->dx s=false)->Kj [a,.v (.func (.func 118) #[] #[]),.v (.int .i64 (l.length:Int)),.v (.int .i64 (i:Int))] []
 (B8 (l.any dx=true))
 |
  0,i,hi,hn=>by
  refine QK _ _ _ ?_
  simp only[Ii,↓zq,zs,af]
  have:l.take i=l:=List.take_of_length_le (by omega)
  rw[this]at hn
  exact⟨ha.1,fun h=>by omega,fun _=>.inl ⟨rfl,fun hh=>(by obtain⟨x,hx,hy⟩:=cy.1 hh;rw[hn x hx]at hy;cases hy),rfl,rfl⟩⟩
 |
  k+1,i,hi,hn=>by
  have hlt:i<l.length:=by omega
  refine QK _ _ _ ?_
  simp only[Ii,↓zq,zs,af,zt,ha.len,ha.idx hlt]
  have hm:l.getD i []∈l:=by simp[aa,hlt]
  refine⟨ha.1,fun _=>⟨⟨ha.1,by omega,by omega⟩,by omega,?_⟩,fun h=>by omega⟩
  refine aj (Ew _) ?_
  simp only[↓zq,zs,af]
  refine⟨fun h=>?_,fun h=>?_⟩
  ·exact .inr ⟨rfl,cy.2 ⟨_,hm,h⟩,i,rfl,rfl⟩
  ·rw[bB i (by omega)]
   refine PT l a ha hl k (i+1) (by omega) ?_
   intro s hs
   rw[List.take_add_one]at hs
   have:l[i]?=some (l.getD i []):=by simp[aa,hlt]
   rw[this]at hs
   rcases aP.1 hs with hs|hs
   ·exact hn s hs
   ·simp at hs;rw[hs];simpa using h
theorem Rg(l:List (List UInt8))(a:AV)(ha:cQ a l)(hl:l.length<1000000):aq Tryz.prog 150 [a,.v (.func (.func 118) #[] #[])] [] (bN (.v (.bool (l.any dx)))):=by
 have hI:aq Tryz.prog 160 [a,.v (.func (.func 118) #[] #[])] [] (fun r o=>∃n:Int,r=.v (.int .i64 n)/\(0<=n↔l.any dx=true)/\o=[]):=by
  refine TL _ ha.1 ?_
  simp only[QM,↓zq,zs,af,ha.len]
  refine⟨ha.1,lM (PT l a ha hl l.length 0 (by omega) (by simp)) ?_ ?_⟩
  ·rintro ys o (⟨_,h1,rfl,rfl⟩|⟨h,_⟩)
   ·simp only[↓zq,zs,af]
    exact⟨-1,rfl,⟨fun h=>(by omega),fun h=>absurd h h1⟩⟩
   ·cases h
  ·rintro ys o (⟨h,_⟩|⟨_,h1,j,rfl,rfl⟩)
   ·cases h
   ·simp only[↓zq,zs,af]
    exact⟨j,rfl,⟨fun _=>h1,fun _=>(by omega)⟩⟩
 refine S9 _ ha.1 ?_
 unfold Nb
 refine aQ hI ⟨.v (.int .i64 (if l.any dx=true then 0 else -1)),[],_,rfl,by split<;>simp_all,rfl⟩ ?_
 rintro r o ⟨n,rfl,hn,rfl⟩
 simp only[↓zq,zs,af,bN]
 congr 2
 rw[cJ];simp only[decide_eq_true_eq,ge_iff_le,hn]
def Ty.closed(t:Ty):Bool:=!((bS t []).any dx)
theorem Ri(t:Ty)(hl:t.atoms<100000):aq Tryz.prog 125 [t.av] [] (bN (.v (.bool t.closed))):=by
 refine UG _ ((aE _).mpr trivial) ?_
 unfold MB
 refine aj (QL t hl) ?_
 simp only[↓zq,zs,af]
 have:=eJ t []
 refine aj (Rg _ _ (.of _) (by simp at this;omega)) ?_
 simp only[↓zq,zs,af,bN,Ty.closed]
def xF(s:List UInt8):Option Ty:=match rR s with
 |none=>none
 |some t=>if t.closed=true then some t else none
theorem uf{s:List UInt8}{t:Ty}(h:rR s=some t):t.atoms<=400:=by
 unfold rR at h
 split at h
 ·cases h
 ·split at h
  ·cases h
  ·split at h<;>cases h
   omega
theorem NC(s:List UInt8):aq Tryz.prog 82 [.v (.string (mk s))] [] (bN (iJ (xF s))):=by
 refine UT _ ?_
 unfold N1
 refine aj (I5 s) ?_
 unfold xF
 cases ht:rR s with
 |none=>simp[iJ,↓zq,zs,af,bN]
 |
  some t =>
  have:=uf ht
  simp only[iJ,↓zq,zs,af,aE,fX]
  refine⟨fun h=>(by cases h),fun _=>?_⟩
  refine aj (Ri t (by omega)) ?_
  simp only[↓zq,zs,af,bN]
  refine⟨fun h=>?_,fun h=>?_⟩
  ·rw[if_neg (by rw[h];simp)]
  ·rw[if_pos h]
theorem dk(l:List (List UInt8)):∀x,x∈[Ob.vec 1 (bX l)]->dP x:=by
 intro x hx
 simp only[aU]at hx
 subst hx
 intro e he c hc
 simp only[bX,bO]at he
 obtain⟨k,_,rfl⟩:=he
 simp only[aU]at hc
 exact⟨_,hc⟩
end Go.Proofs.Trees
namespace Go.Proofs.Trees
open Go Go.VL
theorem S0(b:UInt8):aq Tryz.prog 141 [.v (.int .u8 (b.toNat:Int))] [] (bN (.v (.bool (fq b)))):=by
 refine UI _ ?_
 simp only[Le,↓zq,zs,af,bN,fq]
 repeat' (apply aJ<;>intro _)
 all_goals first|(congr 2;rw[cJ];simp;omega)|(congr 2;simp;omega)
def Fb(s:List UInt8)(x:Option (E×List UInt8)):AV->List Ob->Prop:=fun r o=>o=[] /\
 match x with
 |some (e,u)=>r=.cv [e.lq,.v (.int .i64 ((s.length-u.length:Nat):Int))]
 |none=>∃(c:List UInt8) (d:AV),LK.sl.has d/\r=.cv [.agg [.v (.string (mk c)),d],.v (.int .i64 (-1))]
theorem Fb.ne(s:List UInt8)(x:Option (E×List UInt8)):∃r o,Fb s x r o:=by
 cases x with
 |some q=>exact⟨_,_,rfl,rfl⟩
 |none=>exact⟨_,_,rfl,[],.v (.slice none 0 0),(bo).mpr trivial,rfl⟩
def jc(c:List UInt8)(d:AV):Ob:=.cells [.v (.string (mk c)),d]
theorem QD(s:List UInt8)(hs:s.length<=8000)(from_:Int)(c1 c2:List UInt8)(d1 d2:AV)(h1:LK.sl.has d1)(h2:LK.sl.has d2):∀(k i:Nat),i+k=s.length->I2 [.v (.string (mk s)),.v (.int .i64 (i:Int)),.v (.int .i64 from_)] [jc c1 d1,jc c2 d2]
 (gK 1 [.v (.string (mk s)),.v (.int .i64 ((i+((s.drop i).takeWhile fq).length:Nat):Int)),.v (.int .i64 from_)] [jc c1 d1,jc c2 d2])
 |
  0,i,hi=>by
  refine QS _ _ _ _ _ _ _ ?_
  have hd:s.drop i=[]:=bY (by omega)
  simp only[GV,↓zq,zs,af,zt]
  exact⟨h1,h2,fun h=>by omega,fun _=>by simp[gK,hd,jc]⟩
 |
  k+1,i,hi=>by
  have hlt:i<s.length:=by omega
  refine QS _ _ _ _ _ _ _ ?_
  simp only[GV,↓zq,zs,af,zt,mU s i hlt]
  refine⟨h1,h2,fun _=>⟨by omega,?_⟩,fun h=>by omega⟩
  refine aj (S0 _) ?_
  simp only[↓zq,zs,af]
  refine⟨fun hb=>?_,fun hb=>?_⟩
  ·rw[bB i (by omega)]
   have:=QD s hs from_ c1 c2 d1 d2 h1 h2 k (i+1) (by omega)
   rw[zQ hlt hb,show i+(((s.drop (i+1)).takeWhile fq).length+1)=i+1+((s.drop (i+1)).takeWhile fq).length by omega]
   exact this
  ·simp[gK,rU hlt hb,jc]
def Vb(s:List UInt8)(x:Option (E×List UInt8)):Nat->List AV->List Ob->Prop:=fun t ys o=>t=2 /\
 match x with
 |some (e,u)=>∃l,e=.list l/\ys=[.v (.int .i64 ((s.length-u.length:Nat):Int))]/\o=[jc [] .any,.vec 2 (E.bD l)]
 |none=>∃es,ys=[.v (.int .i64 (-1))]/\o=[jc [] .any,.vec 2 es]
theorem At(e:E):(e.lq=.agg e.lq.cs/\e.lq.cs.length=2/\bE [.str,.sl] e.lq.cs 0)=True:=by
 apply eq_true
 cases e<;>simp[E.lq,E.iP,Cd,bE,dC,bo,cc]
theorem yA(e:E):[AV.v (.string ((e.lq.cs.getD 0 .any).toStr)),e.lq.cs.getD 1 .any]=e.iP:=by
 cases e<;>rfl
theorem drop_cons{s:List UInt8}{j:Nat}(hj:j<s.length):s.drop j=s.getD j 0::s.drop (j+1):=by
 rw[aL hj];simp[aa,hj]
theorem P7(s:List UInt8)(hs:s.length<=8000)(d:Nat)(hd:d<=300)(f:List UInt8->Option (E×List UInt8))(hf:∀u e r,f u=some (e,r)->∃j,r=u.drop j/\0<j/\j<=u.length)
 (ih:∀j,j<=s.length->aq Tryz.prog 104 [.v (.string (mk s)),.v (.int .i64 (j:Int)),.v (.int .i64 ((d+1:Nat):Int))] [] (Fb s (f (s.drop j)))) :
 ∀(n i:Nat) (acc:List E) (c1:List UInt8) (d1:AV),LK.sl.has d1->s.length-(i+1)<n->i<s.length->s.length-i+acc.length<=8001->IF [.v (.string (mk s)),.v (.int .i64 (i:Int)),.v (.int .i64 (d:Int))] [jc c1 d1,jc [] .any,.vec 2 (E.bD acc)]
  (Vb s (tD f n (s.drop (i+1)) acc))
 |0,i,acc,c1,d1,h1,hn,_,_=>by omega
 |
  n+1,i,acc,c1,d1,h1,hn,hi,hl=>by
  refine Td _ _ _ _ _ _ _ ?_
  simp only[MT,↓zq,zs,af,jc]
  refine⟨h1,?_⟩
  rw[bB i (by omega),bB d (by omega)]
  refine aQ (ih (i+1) (by omega)) (Fb.ne _ _) ?_
  rintro r o ⟨rfl,hr⟩
  have hff:=hf (s.drop (i+1))
  unfold tD
  cases hq:f (s.drop (i+1))with
  |
   none =>
   rw[hq]at hr
   obtain⟨c,d',hd',rfl⟩:=hr
   simp only[↓zq,zs,af,zt,bE]
   refine⟨hd',fun _=>⟨rfl,_,rfl,rfl⟩,fun h=>by omega⟩
  |
   some q =>
   obtain⟨e,u⟩:=q
   rw[hq]at hr
   subst hr
   obtain⟨j,hu,hj0,hj⟩:=hff e u hq
   rw[List.drop_drop]at hu
   simp only[cB]at hj
   have hul:u.length=s.length-(i+1+j):=by rw[hu,cB]
   have hpos:s.length-u.length=i+1+j:=by omega
   simp only[↓zq,zs,af,zt,At,hpos,yA,ep]
   refine⟨fun h=>by omega,fun _=>⟨fun h=>?_,fun h=>⟨⟨fun c hc=>(by simp at hc;rw[hc];cases e<;>rfl),by omega⟩,?_⟩⟩⟩
   ·have:u=[]:=by rw[hu];exact bY (by omega)
    subst this
    exact⟨rfl,_,rfl,rfl⟩
   ·have hlt:i+1+j<s.length:=by omega
    rw[drop_cons hlt]at hu
    subst hu
    rw[mU s _ hlt]
    generalize hb:s.getD (i+1+j) 0=b
    refine⟨by omega,fun h41=>?_,fun h41=>⟨by omega,fun h32=>?_,fun h32=>?_⟩⟩
    ·have h41':b.toNat=41:=by omega
     dsimp only
     rw[if_pos h41',bB _ (by omega)]
     refine⟨rfl,acc++[e],rfl,?_,?_⟩
     ·rw[cB];congr 3;omega
     ·simp[jc,qU,E.bD]
    ·have h41':¬b.toNat=41:=by omega
     have h32':¬b.toNat=32:=by omega
     dsimp only
     rw[if_neg h41',if_neg h32']
     exact⟨rfl,_,rfl,rfl⟩
    ·have h41':¬b.toNat=41:=by omega
     have h32':b.toNat=32:=by omega
     dsimp only
     rw[if_neg h41',if_pos h32']
     have:=P7 s hs d hd f hf ih n (i+1+j) (acc++[e]) c1 d1 h1 (by omega) hlt (by simp;omega)
     simpa[jc,qU,E.bD]using this
theorem FA(k:Nat)(u:List UInt8)(e:E)(r:List UInt8)(h:rd k u=some (e,r)):∃j,r=u.drop j/\0<j/\j<=u.length:=by
 have suf:∀(k:Nat) (u:List UInt8) (e:E) (r:List UInt8),rd k u=some (e,r)->r <:+ u:=by
  intro k
  have tw:∀u:List UInt8,u.dropWhile fq <:+ u:=fun u=>List.dropWhile_suffix _
  have ll:∀(f:List UInt8->Option (E×List UInt8)),(∀u e r,f u=some (e,r)->r <:+ u)->∀(n:Nat) (u:List UInt8) (acc:List E) (e:E) (r:List UInt8),tD f n u acc=some (e,r)->r <:+ u:=by
   intro f hf n
   induction n with
   |zero=>intro u acc e r h;cases h
   |
    succ n ih =>
    intro u acc e r h
    simp only[tD]at h
    split at h
    ·rename_i p c r' hs
     have h1:r' <:+ u:=(List.suffix_cons c r').trans (hf _ _ _ hs)
     split at h
     ·cases h;exact h1
     ·split at h
      ·exact(ih _ _ _ _ h).trans h1
      ·cases h
    ·cases h
  induction k with
  |
   zero =>
   intro u e r h
   simp only[rd]at h
   split at h
   ·cases h
   ·cases h;exact tw u
  |
   succ k ih =>
   intro u e r h
   simp only[rd]at h
   split at h
   ·split at h
    ·split at h
     ·exact(ll _ ih _ _ _ _ _ h).trans (List.suffix_cons _ _)
     ·cases h
    ·cases h
   ·cases h;exact tw u
 obtain⟨p,hp⟩:=suf k u e r h
 have hlt:=za k u e r h
 have:=congrArg List.length hp
 simp only[an]at this
 exact⟨p.length,by rw[<-hp];simp,by omega,by omega⟩
theorem DX(n:Nat)(u:List UInt8)(acc:List E):tD (fun _=>none) n u acc=none:=by
 cases n<;>rfl
theorem TO(s:List UInt8)(j:Nat):aq Tryz.prog 104 [.v (.string (mk s)),.v (.int .i64 (j:Int)),.v (.int .i64 ((300+1:Nat):Int))] [] (Fb s none):=by
 refine Lg _ _ _ ?_
 simp only[IP,↓zq,zs,af]
 exact⟨fun _=>⟨rfl,[],_,(bo).mpr trivial,rfl⟩,fun h=>by omega⟩
theorem qP(s:List UInt8)(hs:s.length<=8000)(d i:Nat)(hd:d<=300)(hi:i<=s.length)(f:List UInt8->Option (E×List UInt8))(hf:∀u e r,f u=some (e,r)->∃j,r=u.drop j/\0<j/\j<=u.length)
 (ih:∀j,j<=s.length->aq Tryz.prog 104 [.v (.string (mk s)),.v (.int .i64 (j:Int)),.v (.int .i64 ((d+1:Nat):Int))] [] (Fb s (f (s.drop j)))) (x:Option (E×List UInt8))
 (h0:i=s.length->x=none)
 (h1:i<s.length->(s.drop i).takeWhile fq≠[]->x=some (.atom ((s.drop i).takeWhile fq),(s.drop i).dropWhile fq))
 (h2:i<s.length->(s.drop i).takeWhile fq=[]->¬(s.getD i 0).toNat=40->x=none)
 (h3:i<s.length->(s.getD i 0).toNat=40->x=tD f (s.length-(i+1)+1) (s.drop (i+1)) []) :
 aq Tryz.prog 104 [.v (.string (mk s)),.v (.int .i64 (i:Int)),.v (.int .i64 (d:Int))] [] (Fb s x):=by
 refine Lg _ _ _ ?_
 simp only[IP,↓zq,zs,af,zt]
 refine⟨fun h=>by omega,fun _=>⟨fun h=>?_,fun h=>⟨by omega,?_⟩⟩⟩
 ·rw[h0 (by omega)]
  exact⟨rfl,[],_,(bo).mpr trivial,rfl⟩
 ·have hlt:i<s.length:=by omega
  rw[mU s i hlt]
  refine⟨fun h40=>?_,fun h40=>?_⟩
  ·have h40':¬(s.getD i 0).toNat=40:=by omega
   refine cA (QD s hs _ [] [] _ _ ((bo).mpr trivial) ((bo).mpr trivial) (s.length-i) i (by omega)) ?_
   have hex:(List.take (i+((s.drop i).takeWhile fq).length) s).drop i=(s.drop i).takeWhile fq:=by
    rw[List.drop_take,Nat.add_sub_cancel_left];exact ve _
   have hle:i+((s.drop i).takeWhile fq).length<=s.length:=by
    have:=vU (s.drop i);simp only[cB]at this;omega
   simp only[jc,↓zq,zs,af,zt,hex]
   refine⟨by omega,fun hnil=>?_,fun hnil=>?_⟩
   ·rw[h2 hlt hnil h40',hnil]
    exact⟨rfl,[],_,(bo).mpr trivial,rfl⟩
   ·rw[h1 hlt hnil]
    refine⟨rfl,?_⟩
    have:=vU (s.drop i)
    simp only[cB]at this
    show _=AV.cv [E.lq (.atom _),_]
    have e:s.length-((s.drop i).dropWhile fq).length=i+((s.drop i).takeWhile fq).length:=by omega
    rw[e];rfl
  ·have h40':(s.getD i 0).toNat=40:=by omega
   rw[h3 hlt h40']
   refine lM (P7 s hs d hd f hf ih (s.length-(i+1)+1) i [] [] _ ((bo).mpr trivial) (by omega) hlt (by simp;omega)) ?_ ?_
   ·rintro ys o ⟨h,_⟩;cases h
   ·rintro ys o ⟨_,hr⟩
    cases hq:tD f (s.length-(i+1)+1) (s.drop (i+1)) []with
    |
     none =>
     rw[hq]at hr
     obtain⟨es,rfl,rfl⟩:=hr
     simp only[jc,↓zq,zs,af]
     exact⟨rfl,[],_,(cc _).mpr trivial,rfl⟩
    |
     some q =>
     obtain⟨e,u⟩:=q
     rw[hq]at hr
     obtain⟨l,rfl,rfl,rfl⟩:=hr
     simp only[jc,↓zq,zs,af]
     exact⟨rfl,rfl⟩
theorem Uk(s:List UInt8)(hs:s.length<=8000):∀(k:Nat),k<=300->∀i,i<=s.length->aq Tryz.prog 104 [.v (.string (mk s)),.v (.int .i64 (i:Int)),.v (.int .i64 ((300-k:Nat):Int))] [] (Fb s (rd k (s.drop i))):=by
 intro k
 have hnil:∀k,rd k []=none:=fun k=>by cases k<;>simp[rd]
 have ha40:∀b:UInt8,b.toNat=40->fq b=false:=fun b hb=>by simp[fq,hb]
 induction k with
 |
  zero =>
  intro hk i hi
  refine qP s hs 300 i (by omega) hi (fun _=>none) (fun _ _ _ h=>by cases h) (fun j _=>TO s j) _ (fun h=>?_) (fun hlt h=>?_) (fun hlt h h40=>?_) (fun hlt h40=>?_)
  ·rw[bY (by omega)];exact hnil 0
  ·simp only[rd,if_neg h]
  ·simp only[rd,if_pos h]
  ·rw[DX]
   have:(s.drop i).takeWhile fq=[]:=rU hlt (ha40 _ h40)
   simp only[rd,if_pos this]
 |
  succ k ih =>
  intro hk i hi
  have hd:300-(k+1)+1=300-k:=by omega
  refine qP s hs (300-(k+1)) i (by omega) hi (rd k) (FA k) (fun j hj=>by rw[hd];exact ih (by omega) j hj) _ (fun h=>?_) (fun hlt h=>?_) (fun hlt h h40=>?_) (fun hlt h40=>?_)
  ·rw[bY (by omega)];exact hnil _
  ·simp only[rd,if_neg h]
  ·rw[drop_cons hlt]at h |-
   simp only[rd,if_pos h,if_neg h40]
  ·have h:=rU hlt (ha40 _ h40)
   rw[drop_cons hlt]at h |-
   simp only[rd,if_pos h,if_pos h40,cB]
end Go.Proofs.Trees
namespace Go.Proofs.Trees
open Go Go.VL
theorem jt(e:E):AV.agg [.v (.string ((e.iP.getD 0 .any).toStr)),e.iP.getD 1 .any]=e.lq:=by cases e<;>rfl
theorem gI(e:E):e.iP.length=2:=by cases e<;>rfl
theorem jo(e:E):bE [.str,.sl] e.iP 0=True:=by
 apply eq_true
 cases e<;>simp[E.iP,bE,dC,bo,cc]
theorem nJ(e:E):e.iP.headD .any=.v (.string (mk e.at)):=by cases e<;>rfl
theorem v7(x:E)(l:List E):aq Tryz.prog 54 [.agg [.v (.string (mk [])),.sl (E.bD (x::l))]] [] (bN (.v (.string (mk x.at)))):=by
 refine Hf _ _ ((cc _).mpr trivial) ?_
 simp only[El,E.bD,↓zq,zs,af,zt,bN,gI,nJ,au]
 refine⟨fun h=>absurd rfl h,fun _=>⟨fun h=>by omega,fun _=>⟨by omega,by omega⟩⟩⟩
theorem TH:aq Tryz.prog 54 [.agg [.v (.string (mk [])),.sl (E.bD [])]] [] (bN (.v (.string (mk [])))):=by
 refine Hf _ _ ((cc _).mpr trivial) ?_
 simp only[El,E.bD,↓zq,zs,af,zt,bN,gI,nJ,au]
 simp
def ki:E->Bool
 | .atom s=>(s==[48])||(s==[49])||ib s||dx s
 | .list [x,a,b]=>if x.at=[43]then ki a&&ki b else if x.at=[42]then ki a&&ki b else if x.at=[114,101,99]then dx a.at&&ki b else false
 | .list _=>false
theorem Bn:∀(e:E),e.ok->aq Tryz.prog 138 [e.lq] [] (bN (.v (.bool (ki e))))
 |
  .atom s,hok=>by
  refine Pr _ _ ((bo).mpr trivial) ?_
  have hne:s≠[]:=hok
  simp only[xW,↓zq,zs,af,zt,bN,ki]
  refine⟨fun _=>⟨fun h=>?_,fun h=>⟨fun h1=>?_,fun h1=>?_⟩⟩,fun h=>absurd h hne⟩
  ·simp[h]
  ·simp[h1]
  ·refine aj (J1 s) ?_
   simp only[↓zq,zs,af]
   refine⟨fun hp=>?_,fun hp=>?_⟩
   ·simp[hp]
   ·refine aj (Ip s) ?_
    simp[↓zq,zs,af,hp,h,h1]
 |
  .list l,hok=>by
  refine Pr _ _ ((cc _).mpr trivial) ?_
  match l,hok with
  |[],hok=>simp[xW,E.bD,↓zq,zs,af,zt,bN,ki]
  |[x],hok=>simp[xW,E.bD,↓zq,zs,af,zt,bN,ki]
  |[x,y],hok=>simp[xW,E.bD,↓zq,zs,af,zt,bN,ki]
  |
   x::y::z::w::l,hok =>
   simp only[xW,E.bD,↓zq,zs,af,zt,bN,ki]
   exact⟨fun h=>absurd rfl h,fun _=>⟨fun _=>trivial,fun h=>by omega⟩⟩
  |
   [x,y,z],hok =>
   obtain⟨ok1,ok2,ok3,_⟩:=hok
   simp only[xW,↓zq,zs,af,zt,bN]
   refine⟨fun h=>absurd rfl h,fun _=>⟨fun h=>absurd rfl h,fun _=>?_⟩⟩
   refine aj (v7 x _) ?_
   simp only[E.bD,toNat_one,bn,↓zq,zs,af,zt,jt,gI,jo,nJ,au,ki]
   refine⟨fun h=>?_,fun h=>⟨fun h1=>?_,fun h1=>⟨fun h2=>?_,fun h2=>?_⟩⟩⟩
   ·rw[if_pos h]
    refine⟨by omega,aj (Bn y ok2) ?_⟩
    simp only[↓zq,zs,af]
    refine⟨fun hy=>⟨by omega,aj (Bn z ok3) ?_⟩,fun hy=>?_⟩
    ·simp only[↓zq,zs,af,hy,cb]
    ·rw[hy];rfl
   ·rw[if_neg h,if_pos h1]
    refine⟨by omega,aj (Bn y ok2) ?_⟩
    simp only[↓zq,zs,af]
    refine⟨fun hy=>⟨by omega,aj (Bn z ok3) ?_⟩,fun hy=>?_⟩
    ·simp only[↓zq,zs,af,hy,cb]
    ·rw[hy];rfl
   ·rw[if_neg h,if_neg h1,if_pos h2]
    refine⟨by omega,by omega,aj (Ip _) ?_⟩
    simp only[↓zq,zs,af]
    refine⟨fun hy=>⟨by omega,aj (Bn z ok3) ?_⟩,fun hy=>?_⟩
    ·simp only[↓zq,zs,af,hy,cb]
    ·rw[hy];rfl
   ·rw[if_neg h,if_neg h1,if_neg h2]
theorem jq:∀(e:E) (ar:List (List UInt8)),(cY e ar).isSome=ki e
 |
  .atom s,ar=>by
  simp only[cY,ki]
  by_cases h:s=[48]
  ·simp[h]
  ·by_cases h1:s=[49]
   ·simp[h1]
   ·rw[if_neg h,if_neg h1]
    by_cases h2:ib s=true
    ·simp[h2]
    ·rw[if_neg h2]
     by_cases h3:dx s=true
     ·rw[if_pos h3];cases bT s ar ar.length<;>simp[h3]
     ·rw[if_neg h3];simp[h,h1,h2,h3]
 | .list [],_=>rfl
 | .list [_],_=>rfl
 | .list [_,_],_=>rfl
 | .list (_::_::_::_::_),_=>rfl
 |
  .list [x,a,b],ar=>by
  have ha:=jq a ar
  have hb:=jq b ar
  have hb2:=jq b (ar++[a.at])
  rw[ki]
  by_cases h:x.at=[43]
  ·rw[lY ar h,if_pos h,<-ha,<-hb];cases cY a ar<;>cases cY b ar<;>rfl
  ·by_cases h1:x.at=[42]
   ·rw[kO ar h1,if_neg h,if_pos h1,<-ha,<-hb];cases cY a ar<;>cases cY b ar<;>rfl
   ·by_cases h2:x.at=[114,101,99]
    ·rw[np ar h2,if_neg h,if_neg h1,if_pos h2,<-hb2]
     cases dx a.at<;>cases cY b (ar++[a.at])<;>rfl
    ·rw[jz ar h h1 h2,if_neg h,if_neg h1,if_neg h2];rfl
mutual
def E.dq:E->Nat
 | .atom _=>1
 | .list l=>E.fm l
def E.fm:List E->Nat
 |[]=>0
 |e::l=>e.dq+E.fm l
end
mutual
theorem jb:∀e:E,e.dq<=e.sz
 | .atom s=>by simp[E.dq,E.sz]
 | .list l=>by have:=uX l;simp only[E.dq,E.sz];omega
theorem uX:∀l:List E,E.fm l<=E.jN l
 |[]=>by simp[E.fm,E.jN]
 |e::l=>by have:=jb e;have:=uX l;simp only[E.fm,E.jN];omega
end
theorem j5:∀(l:List E) (i:Nat) (h:i<l.length),(E.bD l).getD i []=(l[i]).iP
 |e::l,0,_=>rfl
 |
  e::l,i+1,h=>by
  have:=j5 l i (by simpa using h)
  simp only[E.bD,List.getD_cons_succ,List.getElem_cons_succ];exact this
theorem Bl:∀(l:List E) (i:Nat) (h:i<l.length),E.fm (l.drop i)=(l[i]).dq+E.fm (l.drop (i+1)):=by
 intro l i h
 rw[aL h];rfl
theorem vN:∀(l:List E) (i:Nat) (h:i<l.length),E.F1 l->(l[i]).ok
 |e::l,0,_,h=>h.1
 |e::l,i+1,hi,h=>vN l i (by simpa using hi) h.2
theorem KG(l:List E)(hl:E.fm l<1000000)(hll:l.length<1000000)(ih:∀i (h:i<l.length),aq Tryz.prog 134 [(l[i]).lq] [] (bN (.v (.int .i64 ((l[i]).dq:Int))))) :
 ∀(k i n:Nat),i+k=l.length->n+E.fm (l.drop i)<=E.fm l->Jy [.v (.int .i64 (n:Int)),.v (.int .i64 (i:Int))] [.cells [.v (.string (mk [])),.sl (E.bD l)]] (gK 1 [.v (.int .i64 ((n+E.fm (l.drop i):Nat):Int))] [])
 |
  0,i,n,hi,hn=>by
  refine Qy _ _ _ _ ?_
  simp only[HQ,↓zq,zs,af,ep]
  have:l.drop i=[]:=bY (by omega)
  refine⟨fun h=>by omega,fun _=>?_⟩
  simp[gK,this,E.fm]
 |
  k+1,i,n,hi,hn=>by
  have hlt:i<l.length:=by omega
  refine Qy _ _ _ _ ?_
  simp only[HQ,↓zq,zs,af,zt,ep,j5 l i hlt,gI,jo,jt,au]
  refine⟨fun _=>⟨by omega,?_⟩,fun h=>by omega⟩
  refine aj (ih i hlt) ?_
  have h1:=Bl l i hlt
  simp only[↓zq,zs,af]
  rw[bB i (by omega),wrap64 _ (by omega) (by omega)]
  have:=KG l hl hll ih k (i+1) (n+(l[i]).dq) (by omega) (by omega)
  rw[h1,<-Nat.add_assoc]
  simpa using this
theorem u4:∀l:List E,l.length<=E.jN l
 |[]=>by simp[E.jN]
 |
  e::l=>by
  have:=u4 l
  have:1<=e.sz:=by cases e<;>simp[E.sz]
  simp only[E.jN,aw];omega
theorem vd:∀(l:List E) (i:Nat) (h:i<l.length),(l[i]).sz<=E.jN l
 |e::l,0,_=>by simp[E.jN]
 |e::l,i+1,h=>by have:=vd l i (by simpa using h);simp only[E.jN,List.getElem_cons_succ];omega
theorem Pp:∀(n:Nat) (e:E),e.sz<n->e.ok->e.sz<1000000->aq Tryz.prog 134 [e.lq] [] (bN (.v (.int .i64 (e.dq:Int))))
 |0,e,hn,_,_=>by omega
 |
  n+1,.atom s,hn,hok,hl=>by
  refine N3 _ _ ((bo).mpr trivial) ?_
  have hne:s≠[]:=hok
  simp only[Jn,↓zq,zs,af,zt,bN]
  exact⟨fun _=>rfl,fun h=>absurd h hne⟩
 |
  n+1,.list l,hn,hok,hl=>by
  refine N3 _ _ ((cc _).mpr trivial) ?_
  simp only[E.sz]at hn hl
  have h1:=uX l
  have h2:=u4 l
  simp only[Jn,↓zq,zs,af,zt,bN]
  refine⟨fun h=>absurd rfl h,fun _=>?_⟩
  refine cA (KG l (by omega) (by omega) (fun i hi=>?_) l.length 0 0 (by omega) (by simp)) ?_
  ·have:=vd l i hi
   exact Pp n (l[i]) (by omega) (vN l i hi hok) (by omega)
  ·simp[↓zq,zs,af,E.dq]
theorem EW(e:E)(h:e.ok)(hl:e.sz<1000000):aq Tryz.prog 134 [e.lq] [] (bN (.v (.int .i64 (e.dq:Int)))):=Pp (e.sz+1) e (by omega) h hl
theorem vj{x:E}(h:x.at≠[]):x.dq=1:=by cases x<;>simp[E.at,E.dq]at h |-
theorem Ck{s:List UInt8}(h:dx s=true):s≠[]:=by rintro rfl;cases h
theorem kG:∀(e:E) (ar:List (List UInt8)) (t:Ty),cY e ar=some t->e.dq=t.atoms
 |
  .atom s,ar,t,h=>by
  simp only[cY]at h
  simp only[E.dq]
  split at h
  ·cases h;rfl
  ·split at h
   ·cases h;rfl
   ·split at h
    ·cases h;rfl
    ·split at h
     ·split at h<;>cases h<;>rfl
     ·cases h
 | .list [],_,_,h=>by cases h
 | .list [_],_,_,h=>by cases h
 | .list [_,_],_,_,h=>by cases h
 | .list (_::_::_::_::_),_,_,h=>by cases h
 |
  .list [x,a,b],ar,t,h=>by
  simp only[E.dq,E.fm]
  by_cases h0:x.at=[43]
  ·rw[lY ar h0]at h
   have:=vj (x:=x) (by rw[h0];simp)
   split at h
   ·rename_i t1 t2 e1 e2
    cases h
    have:=kG a ar _ e1
    have:=kG b ar _ e2
    simp only[Ty.atoms];omega
   ·cases h
  ·by_cases h1:x.at=[42]
   ·rw[kO ar h1]at h
    have:=vj (x:=x) (by rw[h1];simp)
    split at h
    ·rename_i t1 t2 e1 e2
     cases h
     have:=kG a ar _ e1
     have:=kG b ar _ e2
     simp only[Ty.atoms];omega
    ·cases h
   ·by_cases h2:x.at=[114,101,99]
    ·rw[np ar h2]at h
     have:=vj (x:=x) (by rw[h2];simp)
     split at h
     ·rename_i hl
      have:=vj (Ck hl)
      split at h
      ·rename_i t1 e1
       cases h
       have:=kG b _ _ e1
       simp only[Ty.atoms];omega
      ·cases h
     ·cases h
    ·rw[jz ar h0 h1 h2]at h;cases h
def iU(x:Option E)(b:Bool):AV->List Ob->Prop:=fun r o=>∃c:List UInt8,∃d:AV,LK.sl.has d/\r=.cv [.agg [.v (.string (mk c)),d],.v (.bool b)]/\(b=true->∃e,x=some e/\AV.agg [.v (.string (mk c)),d]=e.lq)
theorem Dn(e:E):∃c:List UInt8,∃d:AV,LK.sl.has d/\e.lq=AV.agg [.v (.string (mk c)),d]:=by
 cases e with
 |atom s=>exact⟨s,_,(bo).mpr trivial,rfl⟩
 |list l=>exact⟨[],_,(cc _).mpr trivial,rfl⟩
theorem iU.ne(x:Option E)(b:Bool)(h:b=true->x.isSome=true):∃r o,iU x b r o:=by
 cases b with
 |false=>exact⟨_,[],[],.v (.slice none 0 0),(bo).mpr trivial,rfl,fun h=>by cases h⟩
 |
  true =>
  cases x with
  |none=>cases h rfl
  |
   some e =>
   obtain⟨c,d,hd,he⟩:=Dn e
   exact⟨_,[],c,d,hd,rfl,fun _=>⟨e,rfl,he.symm⟩⟩
theorem NM(s:List UInt8):aq Tryz.prog 57 [.v (.string (mk s))] [] (iU (rM s) (rM s).isSome):=by
 refine SO _ ?_
 simp only[Lr,↓zq,zs,af,zt,rM]
 refine⟨fun h=>?_,fun h=>?_⟩
 ·rw[if_pos (by omega)]
  exact⟨[],_,(bo).mpr trivial,rfl,fun h=>by cases h⟩
 ·rw[if_neg (by omega)]
  refine aQ (Uk s (by omega) 300 (by omega) 0 (by omega)) (Fb.ne _ _) ?_
  rintro r o ⟨rfl,hr⟩
  rw[aZ]at hr
  cases hq:rd 300 s with
  |
   none =>
   rw[hq]at hr
   obtain⟨c,d,hd,rfl⟩:=hr
   simp only[↓zq,zs,af,zt,bE]
   refine⟨hd,c,d,hd,?_,fun h=>by cases h⟩
   have:((-1:Int)==(s.length:Int))=false:=by
    rw[beq_eq_false_iff_ne];omega
   rw[this];rfl
  |
   some q =>
   obtain⟨e,u⟩:=q
   rw[hq]at hr
   subst hr
   have hlt:=za _ _ _ _ hq
   obtain⟨c,d,hd,he⟩:=Dn e
   simp only[he,↓zq,zs,af,zt,bE]
   cases u with
   |
    nil =>
    refine⟨hd,c,d,hd,?_,fun _=>⟨e,rfl,he.symm⟩⟩
    simp
   |
    cons b u =>
    simp only[aw]at hlt |-
    refine⟨hd,c,d,hd,?_,fun h=>by cases h⟩
    have:(((s.length-(u.length+1):Nat):Int)==(s.length:Int))=false:=by simp;omega
    rw[this];rfl
def xC(s:List UInt8):Option E:=match rM s with
 |none=>none
 |some e=>if ki e=true/\e.dq<=400 then some e else none
theorem IE(s:List UInt8):aq Tryz.prog 97 [.v (.string (mk s))] [] (iU (xC s) (xC s).isSome):=by
 refine Rd _ ?_
 unfold Mi
 refine aQ (NM s) (iU.ne _ _ (fun h=>h)) ?_
 rintro r o ⟨c,d,hd,rfl,hh⟩
 simp only[↓zq,zs,af,zt,bE,xC]
 refine⟨hd,fun h=>?_,fun h=>?_⟩
 ·obtain⟨e,he,hce⟩:=hh h
  obtain⟨hok,hsz⟩:=oH he
  rw[he,hce]
  refine aj (Bn e hok) ?_
  simp only[↓zq,zs,af]
  refine⟨fun hi=>?_,fun hi=>?_⟩
  ·refine aj (EW e hok (by omega)) ?_
   simp only[↓zq,zs,af,hi]
   refine⟨c,d,hd,?_,?_⟩
   ·rw[hce]
    by_cases h4:e.dq<=400
    ·rw[if_pos h4];exact congrArg (fun b=>AV.cv [e.lq,.v (.bool b)]) (decide_eq_true (show ((e.dq:Nat):Int)<=400 by omega))
    ·rw[if_neg h4];exact congrArg (fun b=>AV.cv [e.lq,.v (.bool b)]) (decide_eq_false (show ¬((e.dq:Nat):Int)<=400 by omega))
   ·split
    ·exact fun _=>⟨e,rfl,hce⟩
    ·exact fun h=>by cases h
  ·refine⟨c,d,hd,?_,?_⟩
   ·rw[hce,if_neg (by rw[hi];simp)];rfl
   ·rw[if_neg (by rw[hi];simp)];exact fun h=>by cases h
 ·have hn:rM s=none:=by cases hq:rM s<;>simp[hq]at h |-
  rw[hn]
  exact⟨c,d,hd,rfl,fun h=>by cases h⟩
theorem qO{s:List UInt8}{e:E}(h:xC s=some e):rM s=some e/\ki e=true/\e.dq<=400:=by
 unfold xC at h
 split at h
 ·cases h
 ·split at h
  ·rename_i e' h1 h2;cases h;exact⟨h1,h2⟩
  ·cases h
end Go.Proofs.Trees
namespace Go.Proofs.Trees
open Go Go.VL
def cj:Ty->Bool
 | .name s=>dx s
 | .plus a b=>cj a||cj b
 | .times a b=>cj a||cj b
 | .rc a=>cj a
 |_=>false
theorem ic:∀(t:Ty) (out:List (List UInt8)),(bS t out).any dx=(out.any dx||cj t)
 |
  .name s,out=>by
  simp only[bS,qn,cj]
  split
  ·rename_i h
   cases hs:dx s with
   |false=>simp
   |true=>rw[Bool.or_true,cy];exact⟨s,h,hs⟩
  ·simp
 | .plus a b,out=>by simp only[bS,cj,ic a,ic b,Bool.or_assoc]
 | .times a b,out=>by simp only[bS,cj,ic a,ic b,Bool.or_assoc]
 | .rc a,out=>by simp only[bS,cj,ic a]
 | .zero,out=>by simp[bS,cj]
 | .one,out=>by simp[bS,cj]
 | .bound u,out=>by simp[bS,cj]
theorem tT(t:Ty):t.closed = !cj t:=by simp[Ty.closed,ic]
def pl:Ty->Bool
 | .name s=>decide (s.length<=1)
 | .plus a b=>pl a&&pl b
 | .times a b=>pl a&&pl b
 | .rc a=>false
 |_=>true
theorem mF{lo hi:Nat}{s:List UInt8}(h:named lo hi s=true):∃c r,s=c::r/\lo<=c.toNat/\c.toNat<=hi:=by
 cases s with
 |nil=>cases h
 |cons c r=>simp only[named,aA,decide_eq_true_eq]at h;exact⟨c,r,rfl,by omega,by omega⟩
theorem fU{x a b:E}{ar:List (List UInt8)}{t:Ty}(hx:x.at=[43])(h:cY (.list [x,a,b]) ar=some t):∃t1 t2,cY a ar=some t1/\cY b ar=some t2/\t=.plus t1 t2:=by
 rw[lY ar hx]at h
 split at h
 ·rename_i t1 t2 e1 e2;cases h;exact⟨t1,t2,e1,e2,rfl⟩
 ·cases h
theorem fD{x a b:E}{ar:List (List UInt8)}{t:Ty}(hx:x.at=[42])(h:cY (.list [x,a,b]) ar=some t):∃t1 t2,cY a ar=some t1/\cY b ar=some t2/\t=.times t1 t2:=by
 rw[kO ar hx]at h
 split at h
 ·rename_i t1 t2 e1 e2;cases h;exact⟨t1,t2,e1,e2,rfl⟩
 ·cases h
theorem dI{x a b:E}{ar:List (List UInt8)}{t:Ty}(hx:x.at=[114,101,99])(h:cY (.list [x,a,b]) ar=some t):∃t1,dx a.at=true/\cY b (ar++[a.at])=some t1/\t=.rc t1:=by
 rw[np ar hx]at h
 split at h
 ·rename_i hl
  split at h
  ·rename_i t1 e1;cases h;exact⟨t1,hl,e1,rfl⟩
  ·cases h
 ·cases h
theorem vQ{s:List UInt8}:rR s=match xC s with|none=>none|some e=>cY e []:=by
 unfold rR xC
 cases he:rM s with
 |none=>rfl
 |
  some e =>
  have hs:=jq e []
  simp only
  cases ht:cY e []with
  |
   none =>
   rw[ht]at hs
   rw[if_neg (by rw[<-hs];simp)]
  |
   some t =>
   rw[ht]at hs
   have ha:=kG e [] t ht
   by_cases h4:e.dq<=400
   ·rw[if_pos ⟨hs.symm,h4⟩];dsimp only;rw[if_neg (by omega)];exact ht.symm
   ·rw[if_neg (fun h=>h4 h.2)];dsimp only;rw[if_pos (by omega)]
end Go.Proofs.Trees
namespace Go.Proofs.Trees
open Go Go.VL
def pure:Ty->Bool
 | .zero=>true
 | .one=>true
 | .name s=>(s==[120])||(s==[121])||(s==[122])
 | .plus a b=>pure a&&pure b
 | .times a b=>pure a&&pure b
 |_=>false
def Lb(v:Nat):Option Nat:=if v<=1000000000 then some v else none
def Kv(n:Nat):Ty->Option Nat
 | .zero=>some 0
 | .one=>some 1
 | .name _=>some n
 | .plus a b=>match Kv n a,Kv n b with|some x,some y=>Lb (x+y)|_,_=>none
 | .times a b=>match Kv n a,Kv n b with|some x,some y=>Lb (x*y)|_,_=>none
 |_=>none
def La(x:Option Nat):AV->List Ob->Prop:=fun r o=>∃v:Int,r=.cv [.v (.int .i64 v),.v (.bool x.isSome)]/\∀c,x=some c->v=(c:Int)
theorem La.ne(x:Option Nat):∃r o,La x r o:=by
 cases x with
 |none=>exact⟨_,[],0,rfl,fun c h=>by cases h⟩
 |some c=>exact⟨_,[],(c:Int),rfl,fun c' h=>by cases h;rfl⟩
end Go.Proofs.Trees
namespace Go.Proofs.Trees
open Go Go.VL Go.RowKit
abbrev dd(n:Nat):List UInt8:=Lib.decDigits n
theorem eX{k:Nat}(h:k<10):dd k=[bp (48+k)]:=by rw[dd,Lib.decDigits,dif_pos h]
theorem ga{k:Nat}(h:¬k<10):dd k=dd (k/10)++[bp (48+k%10)]:=by rw[dd,Lib.decDigits,dif_neg h]
theorem nh:∀(n k:Nat),k<n->(dd k).length<=k+1
 |0,k,h=>by omega
 |
  n+1,k,h=>by
  by_cases h1:k<10
  ·rw[eX h1];simp
  ·rw[ga h1]
   have:=nh n (k/10) (by omega)
   simp only[an,aw,aF];omega
theorem zZ(d:Nat)(h:d<10):(Value.int .u8 (IntKind.wrap .u8 (IntKind.wrap .i64 (48+(d:Int)))))=.int .u8 ((bp (48+d)).toNat:Int):=by
 have:d=0\/d=1\/d=2\/d=3\/d=4\/d=5\/d=6\/d=7\/d=8\/d=9:=by omega
 rcases this with rfl|rfl|rfl|rfl|rfl|rfl|rfl|rfl|rfl|rfl<;>rfl
theorem rh(b:UInt8):bytesOf [[.v (.int .u8 (b.toNat:Int))]]=[b]:=by simp[bytesOf,vi]
theorem lK(b:UInt8):jX [[.v (.int .u8 (b.toNat:Int))]]:=⟨rfl,(mb _ _).mpr trivial,trivial⟩
theorem BF:∀(n k:Nat),k<n->k<1000000000->aq Tryz.prog 136 [.v (.int .i64 (k:Int))] [] (bN (.v (.string (mk (dd k)))))
 |0,k,h,_=>by omega
 |
  n+1,k,h,hk=>by
  refine Sn _ ?_
  simp only[Pv,↓zq,zs,af,bN]
  refine⟨fun h=>by omega,fun _=>⟨fun h=>by omega,fun _=>⟨fun h1=>?_,fun h1=>⟨by omega,?_⟩⟩⟩⟩
  ·rw[zZ k (by omega)]
   refine⟨lK _,?_⟩
   rw[rh,eX (by omega)];rfl
  ·have e1:IntKind.wrap .i64 (Int.tdiv (k:Int) 10)=((k/10:Nat):Int):=by
    rw[show Int.tdiv (k:Int) 10=((k/10:Nat):Int) from (Int.ofNat_tdiv k 10).symm,wrap64 _ (by omega) (by omega)]
   have e2:dN (k:Int) 10=((k%10:Nat):Int):=(Int.ofNat_tmod k 10).symm
   rw[e1,e2,zZ (k%10) (by omega)]
   refine aj (BF n (k/10) (by omega) (by omega)) ?_
   have hl:=nh (k+1) (k/10) (by omega)
   simp only[↓zq,zs,af,zt,rh]
   have h9:(k:Int)<1000000000:=by omega
   refine⟨by omega,lK _,?_,?_⟩
   ·show (mk (dd (k/10))).size+(mk [bp (48+k%10)]).size<=_
    rw[cS,cS];simp;omega
   ·show AV.v (.string (mk (dd (k/10))++mk [bp (48+k%10)]))=_
    rw[lJ,ga (k:=k) (by omega)]
theorem AF(s:List UInt8)(d:AV)(hd:LK.sl.has d)(h:s≠[]):aq Tryz.prog 54 [.agg [.v (.string (mk s)),d]] [] (bN (.v (.string (mk [])))):=by
 refine Hf _ _ hd ?_
 simp only[El,↓zq,zs,af,zt,bN]
 exact⟨fun _=>trivial,fun h'=>absurd h' h⟩
theorem FW(e:E):AV.agg [.v (.string ((e.lq.cs.getD 0 .any).toStr)),e.lq.cs.getD 1 .any]=e.lq:=by cases e<;>rfl
mutual
def fh:E->List UInt8
 | .atom s=>s
 | .list []=>[40,41]
 | .list (e::l)=>40::(fh e++(ew l++[41]))
def ew:List E->List UInt8
 |[]=>[]
 |e::l=>32::(fh e++ew l)
end
theorem Bx:∀(l:List E) (i:Nat) (h:i<l.length),ew (l.drop i)=32::(fh l[i]++ew (l.drop (i+1))):=by
 intro l i h
 rw[aL h,ew]
theorem PC(l:List E)(hll:l.length<1000000000000)(ih:∀i (h:i<l.length),aq Tryz.prog 60 [(l[i]).lq] [] (bN (.v (.string (mk (fh l[i])))))) :
 ∀(k i:Nat) (out:List UInt8),i+k=l.length->1<=i->out.length+(ew (l.drop i)).length<=1000000000000->Dj [.v (.string (mk out)),.v (.int .i64 (i:Int))] [.cells [.v (.string (mk [])),.sl (E.bD l)]] (gK 1 [.v (.string (mk (out++ew (l.drop i))))] [])
 |
  0,i,out,hi,h1,hn=>by
  refine E4 _ _ _ _ ?_
  simp only[CQ,↓zq,zs,af,ep]
  have:l.drop i=[]:=bY (by omega)
  refine⟨fun h=>by omega,fun _=>?_⟩
  simp[gK,this,ew]
 |
  k+1,i,out,hi,h1,hn=>by
  have hlt:i<l.length:=by omega
  have hd:=Bx l i hlt
  rw[hd]at hn
  simp only[aw,an]at hn
  refine E4 _ _ _ _ ?_
  simp only[CQ,↓zq,zs,af,zt,ep,j5 l i hlt,gI,jo,jt,au]
  refine⟨fun _=>⟨fun _=>⟨by omega,by omega,?_⟩,fun h=>by omega⟩,fun h=>by omega⟩
  refine aj (ih i hlt) ?_
  simp only[↓zq,zs,af,zt]
  refine⟨by simp;omega,?_⟩
  rw[bB i (by omega),hd]
  have:=PC l hll ih k (i+1) (out++[32]++fh l[i]) (by omega) (by omega) (by simp;omega)
  simpa using this
theorem zL:∀(l:List E) (i:Nat) (h:i<l.length),(fh l[i]).length<=(ew l).length
 |e::l,0,_=>by simp only[ew,List.getElem_cons_zero,aw,an];omega
 |e::l,i+1,h=>by have:=zL l i (by simpa using h);simp only[ew,List.getElem_cons_succ,aw,an];omega
theorem tu:∀l:List E,l.length<=(ew l).length
 |[]=>by simp[ew]
 |e::l=>by have:=tu l;simp only[ew,aw,an];omega
theorem FD:∀(n:Nat) (e:E),e.sz<n->e.ok->(fh e).length<=900000000000->aq Tryz.prog 60 [e.lq] [] (bN (.v (.string (mk (fh e)))))
 |0,e,hn,_,_=>by omega
 |
  n+1,.atom s,hn,hok,hl=>by
  refine GS _ _ ((bo).mpr trivial) ?_
  have hne:s≠[]:=hok
  simp only[EB,↓zq,zs,af,zt,bN]
  exact⟨fun _=>rfl,fun h=>absurd h hne⟩
 |
  n+1,.list [],hn,hok,hl=>by
  refine GS _ _ ((cc _).mpr trivial) ?_
  simp only[EB,↓zq,zs,af,zt,bN]
  refine⟨fun h=>absurd rfl h,fun _=>?_⟩
  have h1:Dj [.v (.string (mk [40])),.v (.int .i64 0)] [.cells [.v (.string (mk [])),.sl (E.bD [])]] (gK 1 [.v (.string (mk [40]))] []):=by
   refine E4 _ _ _ _ ?_
   simp[CQ,↓zq,zs,af,E.bD,gK]
  refine cA h1 ?_
  simp only[↓zq,zs,af,zt]
  exact⟨by simp,rfl⟩
 |
  n+1,.list (x::l),hn,hok,hl=>by
  refine GS _ _ ((cc _).mpr trivial) ?_
  simp only[E.sz,E.jN]at hn
  simp only[fh,aw,an,aF]at hl
  have h2:=tu l
  simp only[EB,↓zq,zs,af,zt,bN]
  refine⟨fun h=>absurd rfl h,fun _=>?_⟩
  have hL:Dj [.v (.string (mk [40])),.v (.int .i64 0)] [.cells [.v (.string (mk [])),.sl (E.bD (x::l))]] (gK 1 [.v (.string (mk ([40]++fh x++ew l)))] []):=by
   refine E4 _ _ _ _ ?_
   simp only[CQ,E.bD,Int.toNat_zero,↓zq,zs,af,zt,ep,gI,jo,jt,au]
   refine⟨fun _=>⟨fun h=>by omega,fun _=>⟨by omega,?_⟩⟩,fun h=>by omega⟩
   refine aj (FD n x (by omega) hok.1 (by omega)) ?_
   simp only[↓zq,zs,af,zt]
   refine⟨by simp;omega,?_⟩
   have:=PC (x::l) (by simp;omega) (fun i hi=>by
    have h3:=vd (x::l) i hi
    simp only[E.jN]at h3
    refine FD n _ (by omega) (vN _ i hi hok) ?_
    have h4:=zL (x::l) i hi
    simp only[ew,aw,an]at h4
    omega) l.length 1 ([40]++fh x) (by simp;omega) (by omega) (by simp;omega)
   rw[show IntKind.wrap .i64 (0+1)=1 from rfl]
   simpa[E.bD]using this
  refine cA hL ?_
  simp only[↓zq,zs,af,zt]
  refine⟨by simp;omega,?_⟩
  simp[fh]
theorem Eb(e:E)(h:e.ok)(hl:(fh e).length<=900000):aq Tryz.prog 60 [e.lq] [] (bN (.v (.string (mk (fh e))))):=FD (e.sz+1) e (by omega) h (by omega)
mutual
def E.nd:E->Nat
 | .atom _=>1
 | .list []=>1
 | .list (_::l)=>1+E.wb l
def E.wb:List E->Nat
 |[]=>0
 |e::l=>e.nd+E.wb l
end
mutual
theorem CU:∀e:E,e.nd<=e.sz
 | .atom s=>by simp[E.nd,E.sz]
 | .list []=>by simp[E.nd,E.sz,E.jN]
 | .list (x::l)=>by have:=xK l;simp only[E.nd,E.sz,E.jN];omega
theorem xK:∀l:List E,E.wb l<=E.jN l
 |[]=>by simp[E.wb,E.jN]
 |e::l=>by have:=CU e;have:=xK l;simp only[E.wb,E.jN];omega
end
theorem Dl:∀(l:List E) (i:Nat) (h:i<l.length),E.wb (l.drop i)=(l[i]).nd+E.wb (l.drop (i+1)):=by
 intro l i h
 rw[aL h];rfl
theorem NJ(l:List E)(hl:E.wb l<1000000)(hll:l.length<1000000)(ih:∀i (h:i<l.length),aq Tryz.prog 59 [(l[i]).lq] [] (bN (.v (.int .i64 ((l[i]).nd:Int))))) :
 ∀(k i n:Nat),i+k=l.length->n+E.wb (l.drop i)<=1+E.wb l->DU [.v (.int .i64 (n:Int)),.v (.int .i64 (i:Int))] [.cells [.v (.string (mk [])),.sl (E.bD l)]] (gK 1 [.v (.int .i64 ((n+E.wb (l.drop i):Nat):Int))] [])
 |
  0,i,n,hi,hn=>by
  refine EK _ _ _ _ ?_
  simp only[DP,↓zq,zs,af,ep]
  have:l.drop i=[]:=bY (by omega)
  refine⟨fun h=>by omega,fun _=>?_⟩
  simp[gK,this,E.wb]
 |
  k+1,i,n,hi,hn=>by
  have hlt:i<l.length:=by omega
  refine EK _ _ _ _ ?_
  simp only[DP,↓zq,zs,af,zt,ep,j5 l i hlt,gI,jo,jt,au]
  refine⟨fun _=>⟨by omega,?_⟩,fun h=>by omega⟩
  refine aj (ih i hlt) ?_
  have h1:=Dl l i hlt
  simp only[↓zq,zs,af]
  rw[bB i (by omega),wrap64 _ (by omega) (by omega)]
  have:=NJ l hl hll ih k (i+1) (n+(l[i]).nd) (by omega) (by omega)
  rw[h1,<-Nat.add_assoc]
  simpa using this
theorem ML:∀(n:Nat) (e:E),e.sz<n->e.sz<900000->aq Tryz.prog 59 [e.lq] [] (bN (.v (.int .i64 (e.nd:Int))))
 |0,e,hn,_=>by omega
 |
  n+1,.atom s,hn,hl=>by
  refine Mh _ _ ((bo).mpr trivial) ?_
  simp only[Iq]
  have hL:DU [.v (.int .i64 1),.v (.int .i64 1)] [.cells [.v (.string (mk s)),.v (.slice none 0 0)]] (gK 1 [.v (.int .i64 1)] []):=by
   refine EK _ _ _ _ ?_
   simp[DP,↓zq,zs,af,gK]
  refine cA hL ?_
  simp[↓zq,zs,af,bN,E.nd]
 |
  n+1,.list l,hn,hl=>by
  refine Mh _ _ ((cc _).mpr trivial) ?_
  simp only[E.sz]at hn hl
  simp only[Iq]
  match l,hn,hl with
  |
   [],hn,hl =>
   have hL:DU [.v (.int .i64 1),.v (.int .i64 1)] [.cells [.v (.string (mk [])),.sl (E.bD [])]] (gK 1 [.v (.int .i64 1)] []):=by
    refine EK _ _ _ _ ?_
    simp[DP,↓zq,zs,af,gK,E.bD]
   refine cA hL ?_
   simp[↓zq,zs,af,bN,E.nd]
  |
   x::l,hn,hl =>
   simp only[E.jN]at hn hl
   have h1:=xK l
   have h2:=u4 l
   have h0:=CU x
   refine cA (NJ (x::l) (by simp only[E.wb];omega) (by simp;omega) (fun i hi=>?_) l.length 1 1 (by simp;omega) (by simp[E.wb])) ?_
   ·have:=vd (x::l) i hi
    simp only[E.jN]at this
    exact ML n _ (by omega) (by omega)
   ·simp[↓zq,zs,af,E.nd,bN]
theorem TA(e:E)(hl:e.sz<900000):aq Tryz.prog 59 [e.lq] [] (bN (.v (.int .i64 (e.nd:Int)))):=ML (e.sz+1) e (by omega) hl
inductive Vl where
 |u
 |el (k:Nat)
 |l (v:Vl)
 |r (v:Vl)
 |f (v:Vl)
 |p (a b:Vl)
abbrev yQ(k:Nat):List UInt8:=101::dd k
abbrev iW:AV:=.v (.pointer none)
def Vl.cI:Vl->AV
 | .u=>.ptr [.v (.int .u8 117),.v (.string (mk [])),iW,iW]
 | .el k=>.ptr [.v (.int .u8 101),.v (.string (mk (yQ k))),iW,iW]
 | .l v=>.ptr [.v (.int .u8 108),.v (.string (mk [])),v.cI,iW]
 | .r v=>.ptr [.v (.int .u8 114),.v (.string (mk [])),v.cI,iW]
 | .f v=>.ptr [.v (.int .u8 102),.v (.string (mk [])),v.cI,iW]
 | .p a b=>.ptr [.v (.int .u8 112),.v (.string (mk [])),a.cI,b.cI]
def Vl.cG:Vl->E
 | .u=>.atom [117]
 | .el k=>.atom (yQ k)
 | .l v=>.list [.atom [108],v.cG]
 | .r v=>.list [.atom [114],v.cG]
 | .f v=>.list [.atom [102],v.cG]
 | .p a b=>.list [.atom [112],a.cG,b.cG]
def Vl.nodes:Vl->Nat
 | .l v=>1+v.nodes
 | .r v=>1+v.nodes
 | .f v=>1+v.nodes
 | .p a b=>1+a.nodes+b.nodes
 |_=>1
def Vl.fu(n:Nat):Vl->Prop
 | .el k=>k<n
 | .l v=>v.fu n
 | .r v=>v.fu n
 | .f v=>v.fu n
 | .p a b=>a.fu n/\b.fu n
 | .u=>True
abbrev Vl.cf(v:Vl):List UInt8:=fh v.cG
theorem aO(v:Vl):LK.has .ptr v.cI=True:=by cases v<;>simp[Vl.cI,cm]
theorem fg(v:Vl):v.cI.isNil=false:=by cases v<;>rfl
theorem iR:∀v:Vl,v.cG.ok
 | .u=>by simp[Vl.cG,E.ok]
 | .el k=>by simp[Vl.cG,E.ok]
 | .l v=>⟨by simp[E.ok],iR v,trivial⟩
 | .r v=>⟨by simp[E.ok],iR v,trivial⟩
 | .f v=>⟨by simp[E.ok],iR v,trivial⟩
 | .p a b=>⟨by simp[E.ok],iR a,iR b,trivial⟩
theorem o0:∀v:Vl,v.cG.nd=v.nodes
 | .u=>rfl
 | .el k=>rfl
 | .l v=>by simp[Vl.cG,E.nd,E.wb,Vl.nodes,o0 v]
 | .r v=>by simp[Vl.cG,E.nd,E.wb,Vl.nodes,o0 v]
 | .f v=>by simp[Vl.cG,E.nd,E.wb,Vl.nodes,o0 v]
 | .p a b=>by simp[Vl.cG,E.nd,E.wb,Vl.nodes,o0 a,o0 b,Nat.add_assoc]
theorem eU:∀v:Vl,v.fu 100->v.cf.length<=200*v.nodes
 | .u,_=>by simp[Vl.cf,Vl.cG,fh,Vl.nodes]
 |
  .el k,h=>by
  have h':k<100:=h
  have:=nh 1000 k (by omega)
  simp only[Vl.cf,Vl.cG,fh,Vl.nodes,aw];omega
 | .l v,h=>by have:=eU v h;simp only[Vl.cf,Vl.cG,fh,ew,Vl.nodes,aw,an,aF]at this |-;omega
 | .r v,h=>by have:=eU v h;simp only[Vl.cf,Vl.cG,fh,ew,Vl.nodes,aw,an,aF]at this |-;omega
 | .f v,h=>by have:=eU v h;simp only[Vl.cf,Vl.cG,fh,ew,Vl.nodes,aw,an,aF]at this |-;omega
 | .p a b,h=>by have:=eU a h.1;have:=eU b h.2;simp only[Vl.cf,Vl.cG,fh,ew,Vl.nodes,aw,an,aF]at *;omega
theorem AP(a b:AV)(h:LK.ptr.has a)(h':LK.ptr.has b):aq Tryz.prog 112 [a,b] [] (bN (.ptr [.v (.int .u8 112),.v (.string (mk [])),a,b])):=by
 refine RE _ _ h h' ?_
 simp[K0,↓zq,zs,af,bN]
theorem cM(v:Vl):1<=v.nodes:=by cases v<;>simp[Vl.nodes]<;>omega
theorem Gm:∀(v:Vl),v.nodes<1000000->aq Tryz.prog 84 [v.cI] [] (bN (.v (.int .i64 (v.nodes:Int))))
 | .u,h=>by refine AK _ ((aO _).mpr trivial) ?_;simp[xD,Vl.cI,↓zq,zs,af,bN,Vl.nodes]
 | .el k,h=>by refine AK _ ((aO _).mpr trivial) ?_;simp[xD,Vl.cI,↓zq,zs,af,bN,Vl.nodes]
 |
  .l v,h=>by
  simp only[Vl.nodes]at h
  refine AK _ ((aO _).mpr trivial) ?_
  simp only[xD,Vl.cI,↓zq,zs,af,aO,fg]
  refine⟨by omega,fun _=>⟨by omega,?_⟩,fun h=>(by cases h)⟩
  refine aj (Gm v (by omega)) ?_
  simp only[↓zq,zs,af,bN,Vl.nodes]
  rw[wrap64 _ (by omega) (by omega)]
  simp
 |
  .r v,h=>by
  simp only[Vl.nodes]at h
  refine AK _ ((aO _).mpr trivial) ?_
  simp only[xD,Vl.cI,↓zq,zs,af,aO,fg]
  refine⟨by omega,fun _=>⟨by omega,?_⟩,fun h=>(by cases h)⟩
  refine aj (Gm v (by omega)) ?_
  simp only[↓zq,zs,af,bN,Vl.nodes]
  rw[wrap64 _ (by omega) (by omega)]
  simp
 |
  .f v,h=>by
  simp only[Vl.nodes]at h
  refine AK _ ((aO _).mpr trivial) ?_
  simp only[xD,Vl.cI,↓zq,zs,af,aO,fg]
  refine⟨by omega,fun _=>⟨by omega,?_⟩,fun h=>(by cases h)⟩
  refine aj (Gm v (by omega)) ?_
  simp only[↓zq,zs,af,bN,Vl.nodes]
  rw[wrap64 _ (by omega) (by omega)]
  simp
 |
  .p a b,h=>by
  simp only[Vl.nodes]at h
  refine AK _ ((aO _).mpr trivial) ?_
  simp only[xD,Vl.cI,↓zq,zs,af,aO,fg]
  refine⟨by omega,fun _=>⟨by omega,?_⟩,fun h=>(by cases h)⟩
  refine aj (Gm a (by omega)) ?_
  simp only[↓zq,zs,af,aO,fg]
  rw[wrap64 (1+(a.nodes:Int)) (by omega) (by omega)]
  refine⟨by omega,fun _=>⟨by omega,?_⟩,fun h=>(by cases h)⟩
  refine aj (Gm b (by omega)) ?_
  simp only[↓zq,zs,af,bN,Vl.nodes]
  rw[wrap64 _ (by omega) (by omega)]
  congr 2
end Go.Proofs.Trees
namespace Go.Proofs.Trees
open Go Go.VL Go.RowKit
def Bu:List UInt8->Nat->Option Nat
 |[],n=>some n
 |b::r,n=>if iI b=true then Bu r (10*n+(b.toNat-48))else none
def fZ(s:List UInt8):Option Nat :=
 if s.length=2\/s.length=3 then(if s.getD 0 0=101/\¬(s.length=3/\s.getD 1 0=48)then Bu (s.drop 1) 0 else none)else none
def Cq(s:List UInt8):Int:=match fZ s with|some k=>(k:Int)|none=>-1
theorem K9(s:List UInt8)(hs:s.length<=3):∀(k i n:Nat),i+k=s.length->1<=i->(n+1)*10 ^ k<=1000->II [.v (.string (mk s)),.v (.int .i64 (n:Int)),.v (.int .i64 (i:Int))] []
 (ox (match Bu (s.drop i) n with|some m=>(1,[.v (.int .i64 (m:Int))],[])|none=>(2,[.v (.int .i64 (-1))],[])))
 |
  0,i,n,hi,h1,hn=>by
  refine Kz _ _ _ ?_
  have hd:s.drop i=[]:=bY (by omega)
  simp only[JV,↓zq,zs,af,zt,hd,Bu]
  exact⟨fun h=>by omega,fun _=>by first|trivial|rfl⟩
 |
  k+1,i,n,hi,h1,hn=>by
  have hlt:i<s.length:=by omega
  refine Kz _ _ _ ?_
  rw[drop_cons hlt,Bu]
  simp only[JV,↓zq,zs,af,zt,mU s i hlt]
  generalize s.getD i 0=b
  have hb:=b.toNat_lt
  refine⟨fun _=>⟨by omega,fun h48=>?_,fun h48=>⟨by omega,fun h57=>?_,fun h57=>⟨by omega,?_⟩⟩⟩,fun h=>by omega⟩
  ·have:iI b=false:=by simp only[iI,decide_eq_false_iff_not];omega
   rw[this];rfl
  ·have:iI b=false:=by simp only[iI,decide_eq_false_iff_not];omega
   rw[this];rfl
  ·have:iI b=true:=by simp only[iI,decide_eq_true_eq];omega
   rw[if_pos this]
   have hk:k=0\/k=1:=by omega
   have hn2:n*10<=1000:=by
    rcases hk with rfl|rfl<;>simp at hn<;>omega
   have e8:IntKind.wrap .u8 ((b.toNat:Int)-48)=((b.toNat-48:Nat):Int):=by
    have:b.toNat=48\/b.toNat=49\/b.toNat=50\/b.toNat=51\/b.toNat=52\/b.toNat=53\/b.toNat=54\/b.toNat=55\/b.toNat=56\/b.toNat=57:=by omega
    rcases this with h|h|h|h|h|h|h|h|h|h<;>rw[h]<;>rfl
   rw[e8,bB i (by omega),wrap64 ((b.toNat-48:Nat):Int) (by omega) (by omega),wrap64 (10*(n:Int)) (by omega) (by omega),wrap64 _ (by omega) (by omega)]
   have e:(10*(n:Int)+((b.toNat-48:Nat):Int))=((10*n+(b.toNat-48):Nat):Int):=by omega
   rw[e]
   exact K9 s hs k (i+1) _ (by omega) (by omega) (by rcases hk with rfl|rfl<;>simp at hn |-<;>omega)
theorem KS(s:List UInt8):aq Tryz.prog 102 [.v (.string (mk s))] [] (bN (.v (.int .i64 (Cq s)))):=by
 refine RG _ ?_
 unfold Lw
 refine aj (CL _ _ _) ?_
 simp only[↓zq,zs,af,zt,Ed,bN]
 have hL:∀(Q:Nat->List AV->List Ob->Prop),(s.length=2\/s.length=3)->s.getD 0 0=101->¬(s.length=3/\s.getD 1 0=48)->(Q 0 [.v (.int .i64 (Cq s))] []) ->
  fk Tryz.prog 49 (.loop FG BV [.v (.string (mk s)),.v (.int .i64 0),.v (.int .i64 1)] [] (fun y2 q2=>.ai (LK.has (.int .i64) (y2.headD .any))<|.done 0 [.v (.int .i64 ((y2.headD .any).toInt))] []) (fun y2 q2=>.ai (LK.has (.int .i64) (y2.headD .any))<|.done 0 [.v (.int .i64 ((y2.headD .any).toInt))] [])) Q:=by
  intro Q hl h0 h1 hQ
  have e:fZ s=Bu (s.drop 1) 0:=by rw[fZ,if_pos hl,if_pos ⟨h0,h1⟩]
  refine eC (K9 s (by omega) (s.length-1) 1 0 (by omega) (by omega) (by rcases hl with h|h<;>rw[h]<;>decide)) (fun ys o e'=>?_) (fun ys o e'=>?_)
  ·cases hq:Bu (s.drop 1) 0<;>rw[hq]at e'<;>cases e'
   rw[hq]at e
   simp only[Cq,e]at hQ
   simp only[↓zq,zs,af];exact hQ
  ·cases hq:Bu (s.drop 1) 0<;>rw[hq]at e'<;>cases e'
   rw[hq]at e
   simp only[Cq,e]at hQ
   simp only[↓zq,zs,af];exact hQ
 have hz:∀{i:Nat},i<s.length->bt (mk s) (i:Int)=((s.getD i 0).toNat:Int):=fun h=>mU s _ h
 refine⟨fun h=>?_,fun h=>⟨?_,fun h0=>?_,fun h0=>⟨fun h3=>⟨by omega,fun h1=>?_,fun h1=>?_⟩,fun h3=>?_⟩⟩⟩
 ·have h':¬(2<=(s.length:Int)/\(s.length:Int)<=3):=by simpa using h
  rw[Cq,fZ,if_neg (by omega)]
 ·have h':2<=(s.length:Int)/\(s.length:Int)<=3:=by simpa using h
  omega
 ·have h':2<=(s.length:Int)/\(s.length:Int)<=3:=by simpa using h
  have e0:=hz (i:=0) (by omega)
  simp only[Int.ofNat_eq_natCast,Int.cast_ofNat_Int]at e0
  rw[e0]at h0
  rw[Cq,fZ,if_pos (by omega),if_neg]
  rintro⟨e,_⟩
  rw[e]at h0;exact h0 rfl
 ·have h':2<=(s.length:Int)/\(s.length:Int)<=3:=by simpa using h
  have e1:=hz (i:=1) (by omega)
  simp only[Int.ofNat_eq_natCast,Int.cast_ofNat_Int]at e1
  rw[e1]at h1
  rw[Cq,fZ,if_pos (by omega),if_neg]
  rintro⟨_,e⟩
  refine e ⟨by omega,?_⟩
  rw[<-UInt8.toNat_inj];show (s.getD 1 0).toNat=48;omega
 ·have h':2<=(s.length:Int)/\(s.length:Int)<=3:=by simpa using h
  have e0:=hz (i:=0) (by omega)
  have e1:=hz (i:=1) (by omega)
  simp only[Int.ofNat_eq_natCast,Int.cast_ofNat_Int]at e0 e1
  rw[e0]at h0;rw[e1]at h1
  refine hL _ (by omega) ?_ ?_ ⟨rfl,rfl⟩
  ·rw[<-UInt8.toNat_inj];show (s.getD 0 0).toNat=101;omega
  ·rintro⟨_,e⟩;rw[e]at h1;exact h1 rfl
 ·have h':2<=(s.length:Int)/\(s.length:Int)<=3:=by simpa using h
  have e0:=hz (i:=0) (by omega)
  simp only[Int.ofNat_eq_natCast,Int.cast_ofNat_Int]at e0
  rw[e0]at h0
  refine hL _ (by omega) ?_ ?_ ⟨rfl,rfl⟩
  ·rw[<-UInt8.toNat_inj];show (s.getD 0 0).toNat=101;omega
  ·rintro⟨e,_⟩;omega
theorem qd:∀(l:List UInt8) (n:Nat),(Bu l n).isSome=l.all iI
 |[],n=>rfl
 |
  b::l,n=>by
  rw[Bu]
  cases hb:iI b with
  |true=>rw[if_pos rfl,qd l];simp[hb]
  |false=>rw[if_neg (by simp)];simp[hb]
theorem Qv(s:List UInt8):aq Tryz.prog 128 [.v (.string (mk s))] [] (bN (.v (.bool (fZ s).isSome))):=by
 refine S7 _ ?_
 simp only[P9,↓zq,zs,af,zt,bN]
 have hz:∀{i:Nat},i<s.length->bt (mk s) (i:Int)=((s.getD i 0).toNat:Int):=fun h=>mU s _ h
 refine⟨fun h=>?_,fun h=>⟨fun h3=>?_,fun h3=>?_⟩⟩
 ·rw[fZ,if_neg (by omega)];rfl
 ·rw[fZ,if_neg (by omega)];rfl
 ·have e0:=hz (i:=0) (by omega)
  have e1:=hz (i:=1) (by omega)
  simp only[Int.ofNat_eq_natCast,Int.cast_ofNat_Int]at e0 e1
  rw[e0,e1]
  have hx:s.drop (bP 1)=s.drop 1:=rfl
  refine⟨by omega,fun h0=>?_,fun h0=>⟨by omega,?_⟩⟩
  ·rw[fZ,if_pos (by omega),if_neg]
   ·rfl
   ·rintro⟨e,_⟩;rw[e]at h0;exact h0 rfl
  ·rw[hx]
   refine aj (L6 (s.drop 1) I8 (by simp;omega) (by decide) (by decide)) ?_
   simp only[↓zq,zs,af,zt]
   have h101:s.getD 0 0=101:=by rw[<-UInt8.toNat_inj];show (s.getD 0 0).toNat=101;omega
   have hall:Lib.trimS (s.drop 1) I8=[]↔(s.drop 1).all iI=true:=by
    rw[ue]
    have:(fun x=>I8.contains x)=iI:=funext w7
    rw[this]
   refine⟨fun ht=>?_,fun ht=>⟨fun h2=>?_,fun h2=>⟨by omega,?_⟩⟩⟩
   ·have:(s.drop 1).all iI=false:=by
     cases hq:(s.drop 1).all iI with
     |false=>rfl
     |true=>exact absurd (hall.2 hq) ht
    rw[fZ,if_pos (by omega)]
    split
    ·rw[qd,this]
    ·rfl
   ·have hq:=hall.1 ht
    rw[fZ,if_pos (by omega),if_pos ⟨h101,by omega⟩,qd,hq]
   ·have hq:=hall.1 ht
    rw[fZ,if_pos (by omega)]
    by_cases h48:s.getD 1 0=48
    ·rw[if_neg (by rintro⟨_,e⟩;exact e ⟨by omega,h48⟩),h48];rfl
    ·rw[if_pos ⟨h101,fun e=>h48 e.2⟩,qd,hq]
     have:¬((s.getD 1 0).toNat:Int)=48:=fun e=>h48 (by rw[<-UInt8.toNat_inj];show (s.getD 1 0).toNat=48;omega)
     rw[bne_iff_ne.2 this]
theorem tY{s:List UInt8}{k:Nat}(h:fZ s=some k):s=yQ k/\k<100:=by
 have key1:∀a:Fin 256,iI (bp a.val)=true->Bu [bp a.val] 0=some ((bp a.val).toNat-48)/\(bp a.val).toNat-48<10/\[bp a.val]=[bp (48+((bp a.val).toNat-48))]:=by decide +kernel
 unfold fZ at h
 split at h
 ·rename_i hl
  split at h
  ·rename_i hh
   obtain⟨h0,h1⟩:=hh
   rcases hl with hl|hl
   ·match s,hl with
    |
     [c,a],_ =>
     simp only[bG]at h0
     subst h0
     simp only[List.drop_succ_cons,aZ,Bu]at h
     split at h
     ·rename_i ha
      have:=key1 ⟨a.toNat,a.toNat_lt⟩ (by simpa using ha)
      simp only[UInt8.ofNat_toNat]at this
      cases h
      refine⟨?_,by omega⟩
      rw[yQ,eX (by omega)]
      simp only[Nat.mul_zero,ba]
      rw[<-this.2.2]
     ·cases h
   ·match s,hl with
    |
     [c,a,b],_ =>
     simp only[bG,List.getD_cons_succ,aw,aF,true_and]at h0 h1
     subst h0
     simp only[List.drop_succ_cons,aZ,Bu]at h
     split at h
     ·rename_i ha
      split at h
      ·rename_i hb
       have k1:=key1 ⟨a.toNat,a.toNat_lt⟩ (by simpa using ha)
       have k2:=key1 ⟨b.toNat,b.toNat_lt⟩ (by simpa using hb)
       simp only[UInt8.ofNat_toNat]at k1 k2
       have ha':48<=a.toNat/\a.toNat<=57:=by simpa[iI]using ha
       have hb':48<=b.toNat/\b.toNat<=57:=by simpa[iI]using hb
       have h48:a.toNat≠48:=fun e=>h1 (by rw[<-UInt8.toNat_inj];simpa using e)
       cases h
       simp only[Nat.mul_zero,ba]
       refine⟨?_,by omega⟩
       rw[yQ,ga (by omega),eX (by omega)]
       have e1:(10*(a.toNat-48)+(b.toNat-48))/10=a.toNat-48:=by omega
       have e2:(10*(a.toNat-48)+(b.toNat-48))%10=b.toNat-48:=by omega
       rw[e1,e2,<-k1.2.2,<-k2.2.2];rfl
      ·cases h
     ·cases h
  ·cases h
 ·cases h
theorem xw(k:Nat)(h:k<100):fZ (yQ k)=some k:=by
 have e:∀k,k<100->dd k=if k<10 then [bp (48+k)]else [bp (48+k/10),bp (48+k%10)]:=by
  intro k hk
  by_cases h1:k<10
  ·rw[eX h1,if_pos h1]
  ·rw[ga h1,eX (by omega),if_neg h1];rfl
 have key:∀k:Fin 100,fZ (101::(if k.val<10 then [bp (48+k.val)]else [bp (48+k.val/10),bp (48+k.val%10)]))=some k.val:=by decide +kernel
 rw[yQ,e k h];exact key ⟨k,h⟩
theorem J9(k:Nat)(h:k<100):Cq (yQ k)=(k:Int):=by rw[Cq,xw k h]
def zm:E->Bool
 | .atom s=>(s==[117])||(fZ s).isSome
 | .list [x,a]=>((x.at==[108])||(x.at==[114])||(x.at==[102]))&&zm a
 | .list [x,a,b]=>(x.at==[112])&&(zm a&&zm b)
 | .list _=>false
def fY:E->Option Vl
 | .atom s=>if s=[117]then some .u else match fZ s with|some k=>some (.el k)|none=>none
 |
  .list [x,a]=>match fY a with
  |none=>none
  |some v=>if x.at=[108]then some (.l v)else if x.at=[114]then some (.r v)else if x.at=[102]then some (.f v)else none
 | .list [x,a,b]=>if x.at=[112]then(match fY a,fY b with|some v,some w=>some (.p v w)|_,_=>none)else none
 | .list _=>none
theorem po:∀e:E,(fY e).isSome=zm e
 |
  .atom s=>by
  simp only[fY,zm]
  by_cases h:s=[117]
  ·simp[h]
  ·rw[if_neg h];cases fZ s<;>simp[h]
 | .list []=>rfl
 | .list [_]=>rfl
 |
  .list [x,a]=>by
  have ha:=po a
  rw[fY,zm,<-ha]
  cases fY a with
  |none=>simp
  |
   some v =>
   by_cases h1:x.at=[108]
   ·simp[h1]
   ·by_cases h2:x.at=[114]
    ·simp[h2]
    ·by_cases h3:x.at=[102]
     ·simp[h3]
     ·simp[h1,h2,h3]
 |
  .list [x,a,b]=>by
  have ha:=po a
  have hb:=po b
  rw[fY,zm,<-ha,<-hb]
  by_cases h1:x.at=[112]
  ·rw[if_pos h1,h1];cases fY a<;>cases fY b<;>rfl
  ·simp[h1]
 | .list (_::_::_::_::_)=>rfl
theorem k8{x:E}{w:List UInt8}(h:x.at=w)(hw:w≠[]):x=.atom w:=by
 cases x with
 |atom s=>exact congrArg E.atom h
 |list l=>exact absurd h.symm hw
theorem lU:∀(e:E) (v:Vl),fY e=some v->v.cG=e/\v.fu 100
 |
  .atom s,v,h=>by
  simp only[fY]at h
  split at h
  ·rename_i h1;cases h;exact⟨by rw[h1];rfl,trivial⟩
  ·split at h
   ·rename_i k hk
    cases h
    obtain⟨h1,h2⟩:=tY hk
    exact⟨by rw[h1];rfl,h2⟩
   ·cases h
 | .list [],_,h=>by cases h
 | .list [_],_,h=>by cases h
 | .list (_::_::_::_::_),_,h=>by cases h
 |
  .list [x,a],v,h=>by
  rw[fY]at h
  split at h
  ·cases h
  ·rename_i w hw
   obtain⟨h1,h2⟩:=lU a w hw
   split at h
   ·rename_i hx;cases h;rw[k8 hx (by simp)];exact⟨by rw[Vl.cG,h1],h2⟩
   ·split at h
    ·rename_i hx;cases h;rw[k8 hx (by simp)];exact⟨by rw[Vl.cG,h1],h2⟩
    ·split at h
     ·rename_i hx;cases h;rw[k8 hx (by simp)];exact⟨by rw[Vl.cG,h1],h2⟩
     ·cases h
 |
  .list [x,a,b],v,h=>by
  rw[fY]at h
  split at h
  ·rename_i hx
   split at h
   ·rename_i w1 w2 hw1 hw2
    cases h
    obtain⟨h1,h2⟩:=lU a w1 hw1
    obtain⟨h3,h4⟩:=lU b w2 hw2
    rw[k8 hx (by simp)]
    exact⟨by rw[Vl.cG,h1,h3],h2,h4⟩
   ·cases h
  ·cases h
def qV(e:E)(w:List UInt8)(k:Nat):Bool:=match e with| .list (x::l)=>decide (l.length+1=k)&&(x.at==w)|_=>false
theorem uD(e:E)(w:List UInt8)(k:Nat)(hk:1<=k):aq Tryz.prog 119 [e.cI,.v (.string (mk w)),.v (.int .i64 (k:Int))] [] (bN (.v (.bool (qV e w k)))):=by
 refine KT _ _ _ ((da e).mpr trivial) ?_
 cases e with
 |atom s=>simp only[Cl,E.cI,↓zq,zs,af,zt,bN,qV];exact⟨by omega,fun h=>by omega,fun _=>trivial⟩
 |
  list l =>
  simp only[Cl,E.cI,↓zq,zs,af,zt,bN,sU]
  cases l with
  |nil=>exact⟨by simp,fun h=>by simp at h;omega,fun _=>rfl⟩
  |
   cons x l =>
   simp only[aw]
   refine⟨by simp,fun h=>?_,fun h=>?_⟩
   ·have:decide (l.length+1=k)=true:=by rw[decide_eq_true_eq];omega
    simp only[qV,this]
    cases x<;>simp[E.mY,E.cI,cm,qE,j8,dC,vm,toList_mk,E.at]
   ·have:decide (l.length+1=k)=false:=by rw[decide_eq_false_iff_not];omega
    simp only[qV,this];rfl
def iT:Option Vl->AV
 |some v=>v.cI
 |none=>.v (.pointer none)
end Go.Proofs.Trees
namespace Go.Proofs.Trees
open Go Go.VL Go.RowKit
theorem fO(v:Option Vl):LK.has .ptr (iT v)=True:=by cases v<;>simp[iT,aO,gU]
theorem By:∀(e:E),e.ok->aq Tryz.prog 87 [e.cI] [] (bN (iT (fY e)))
 |
  .atom s,hok=>by
  refine Oe _ ((da _).mpr trivial) ?_
  have hd:=oL (.atom s)
  have hlen:=mw (.atom s)
  simp only[E.at]at hd
  simp only[Ix,↓zq,zs,af,zt,bN,da,eA,hd,fY]
  refine⟨hlen,fun h=>?_,fun h=>⟨hlen,?_⟩⟩
  ·rw[if_pos h];rfl
  ·rw[if_neg h]
   refine aj (Qv s) ?_
   simp only[↓zq,zs,af,zt]
   refine⟨fun he=>⟨hlen,?_⟩,fun he=>?_⟩
   ·obtain⟨k,hk⟩:=a8.1 he
    obtain⟨h1,h2⟩:=tY hk
    rw[hk,h1];rfl
   ·have hn:fZ s=none:=by cases hq:fZ s<;>simp[hq]at he |-
    rw[hn]
    refine aj (uD (.atom s) [108] 2 (by omega)) ?_
    simp only[qV,↓zq,zs,af,zf]
    refine⟨fun h=>(by cases h),fun _=>aj (uD (.atom s) [114] 2 (by omega)) ?_⟩
    simp only[qV,↓zq,zs,af,zf]
    refine⟨fun h=>(by cases h),fun _=>aj (uD (.atom s) [102] 2 (by omega)) ?_⟩
    simp only[qV,↓zq,zs,af,zf]
    refine⟨fun h=>(by cases h),fun _=>aj (uD (.atom s) [112] 3 (by omega)) ?_⟩
    simp only[qV,↓zq,zs,af,zf]
    exact⟨fun h=>(by cases h),fun _=>rfl⟩
 |
  .list l,hok=>by
  refine Oe _ ((da _).mpr trivial) ?_
  have hd:=oL (.list l)
  have hlen:=mw (.list l)
  have hlen2:∀{l:List E},((AV.v (.string (mk [])))::[AV.sl (E.mY l)]).length=2:=rfl
  simp only[E.at]at hd
  have he:fZ []=none:=rfl
  simp only[Ix,↓zq,zs,af,zt,bN,da,eA,hd]
  refine⟨hlen,fun h=>(by cases h),fun h=>⟨hlen,?_⟩⟩
  refine aj (Qv []) ?_
  rw[he]
  simp only[↓zq,zs,af,zt,zf,bf]
  refine⟨fun h=>(by cases h),fun _=>aj (uD (.list l) [108] 2 (by omega)) ?_⟩
  have hno:∀w:List UInt8,(∀x a,l≠[x,a])->qV (.list l) w 2=false:=by
   intro w h2
   match l,h2 with
   |[],_=>rfl
   |[x],_=>rfl
   |[x,a],h2=>exact absurd rfl (h2 x a)
   |x::y::z::l,_=>simp[qV]
  match l,hok,hno,hlen with
  |
   [x,a],hok,hno,hlen =>
   clear hno
   obtain⟨ok1,ok2,_⟩:=hok
   have e2:∀w:List UInt8,qV (.list [x,a]) w 2=(x.at==w):=fun w=>rfl
   have e3:qV (.list [x,a]) [112] 3=false:=rfl
   have hx:=oL x
   have hxl:=mw x
   rw[fY]
   simp only[e2,↓zq,zs,af]
   refine⟨fun h1=>?_,fun h1=>aj (uD (.list [x,a]) [114] 2 (by omega)) ?_⟩
   ·simp only[E.cI,E.mY,toNat_one,↓zq,zs,af,zt,da,eA]
    refine⟨by omega,by omega,by omega,aj (By a ok2) ?_⟩
    cases hv:fY a with
    |none=>simp only[iT,↓zq,zs,af,fO];exact⟨fun _=>trivial,fun h=>(by cases h)⟩
    |
     some v =>
     simp only[iT,↓zq,zs,af,zt,aO,fg,hx,h1,da,eA]
     refine⟨fun h=>(by cases h),fun _=>⟨by omega,by omega,by omega,hxl,by simp,?_⟩⟩
     rfl
   ·simp only[e2,↓zq,zs,af]
    refine⟨fun h2=>?_,fun h2=>aj (uD (.list [x,a]) [102] 2 (by omega)) ?_⟩
    ·simp only[E.cI,E.mY,toNat_one,↓zq,zs,af,zt,da,eA]
     refine⟨by omega,by omega,by omega,aj (By a ok2) ?_⟩
     cases hv:fY a with
     |none=>simp only[iT,↓zq,zs,af,fO];exact⟨fun _=>trivial,fun h=>(by cases h)⟩
     |
      some v =>
      simp only[iT,↓zq,zs,af,zt,aO,fg,hx,h2,da,eA]
      refine⟨fun h=>(by cases h),fun _=>⟨by omega,by omega,by omega,hxl,by simp,?_⟩⟩
      rfl
    ·simp only[e2,↓zq,zs,af]
     refine⟨fun h3=>?_,fun h3=>aj (uD (.list [x,a]) [112] 3 (by omega)) ?_⟩
     ·simp only[E.cI,E.mY,toNat_one,↓zq,zs,af,zt,da,eA]
      refine⟨by omega,by omega,by omega,aj (By a ok2) ?_⟩
      cases hv:fY a with
      |none=>simp only[iT,↓zq,zs,af,fO];exact⟨fun _=>trivial,fun h=>(by cases h)⟩
      |
       some v =>
       simp only[iT,↓zq,zs,af,zt,aO,fg,hx,h3,da,eA]
       refine⟨fun h=>(by cases h),fun _=>⟨by omega,by omega,by omega,hxl,by simp,?_⟩⟩
       rfl
     ·rw[e3]
      simp only[↓zq,zs,af]
      refine⟨fun h=>(by cases h),fun _=>?_⟩
      cases fY a with
      |none=>rfl
      |some v=>simp only[if_neg h1,if_neg h2,if_neg h3];rfl
  |
   [x,a,b],hok,hno,hlen =>
   obtain⟨ok1,ok2,ok3,_⟩:=hok
   have h2:=fun w=>hno w (fun x a h=>(by cases h))
   rw[h2]
   simp only[↓zq,zs,af]
   refine⟨fun h=>(by cases h),fun _=>aj (uD (.list [x,a,b]) [114] 2 (by omega)) ?_⟩
   rw[h2]
   simp only[↓zq,zs,af]
   refine⟨fun h=>(by cases h),fun _=>aj (uD (.list [x,a,b]) [102] 2 (by omega)) ?_⟩
   rw[h2]
   simp only[↓zq,zs,af]
   refine⟨fun h=>(by cases h),fun _=>aj (uD (.list [x,a,b]) [112] 3 (by omega)) ?_⟩
   have e3:qV (.list [x,a,b]) [112] 3=(x.at==[112]):=rfl
   rw[e3,fY]
   simp only[↓zq,zs,af]
   refine⟨fun h1=>?_,fun h1=>?_⟩
   ·rw[if_pos h1]
    simp only[E.cI,E.mY,toNat_one,bn,↓zq,zs,af,zt,da,eA]
    refine⟨by omega,by omega,by omega,aj (By a ok2) ?_⟩
    simp only[↓zq,zs,af,fO,da]
    refine⟨by omega,by omega,by omega,aj (By b ok3) ?_⟩
    cases hv:fY a with
    |none=>cases hw:fY b<;>simp only[iT,↓zq,zs,af,fO,aO]<;>exact⟨fun _=>trivial,fun h=>(by cases h)⟩
    |
     some v =>
     cases hw:fY b with
     |
      none =>
      simp only[iT,↓zq,zs,af,fO,aO,fg]
      exact⟨fun h=>(by cases h),fun _=>⟨fun _=>trivial,fun h=>(by cases h)⟩⟩
     |
      some w =>
      simp only[iT,↓zq,zs,af,aO,fg]
      refine⟨fun h=>(by cases h),fun _=>⟨fun h=>(by cases h),fun _=>?_⟩⟩
      refine aj (AP _ _ ((aO _).mpr trivial) ((aO _).mpr trivial)) ?_
      simp only[↓zq,zs,af];rfl
   ·rw[if_neg h1];rfl
  |
   [],hok,hno,hlen =>
   have h2:=fun w=>hno w (fun x a h=>(by cases h))
   have e3:qV (.list []) [112] 3=false:=rfl
   rw[h2]
   simp only[↓zq,zs,af]
   refine⟨fun h=>(by cases h),fun _=>aj (uD (.list []) [114] 2 (by omega)) ?_⟩
   rw[h2]
   simp only[↓zq,zs,af]
   refine⟨fun h=>(by cases h),fun _=>aj (uD (.list []) [102] 2 (by omega)) ?_⟩
   rw[h2]
   simp only[↓zq,zs,af]
   refine⟨fun h=>(by cases h),fun _=>aj (uD (.list []) [112] 3 (by omega)) ?_⟩
   rw[e3]
   simp only[↓zq,zs,af]
   exact⟨fun h=>(by cases h),fun _=>rfl⟩
  |
   [x],hok,hno,hlen =>
   have h2:=fun w=>hno w (fun x a h=>(by cases h))
   have e3:qV (.list [x]) [112] 3=false:=rfl
   rw[h2]
   simp only[↓zq,zs,af]
   refine⟨fun h=>(by cases h),fun _=>aj (uD (.list [x]) [114] 2 (by omega)) ?_⟩
   rw[h2]
   simp only[↓zq,zs,af]
   refine⟨fun h=>(by cases h),fun _=>aj (uD (.list [x]) [102] 2 (by omega)) ?_⟩
   rw[h2]
   simp only[↓zq,zs,af]
   refine⟨fun h=>(by cases h),fun _=>aj (uD (.list [x]) [112] 3 (by omega)) ?_⟩
   rw[e3]
   simp only[↓zq,zs,af]
   exact⟨fun h=>(by cases h),fun _=>rfl⟩
  |
   x::y::z::w::l,hok,hno,hlen =>
   have h2:=fun w=>hno w (fun x a h=>(by cases h))
   have e3:qV (.list (x::y::z::w::l)) [112] 3=false:=by simp[qV]
   rw[h2]
   simp only[↓zq,zs,af]
   refine⟨fun h=>(by cases h),fun _=>aj (uD (.list (x::y::z::w::l)) [114] 2 (by omega)) ?_⟩
   rw[h2]
   simp only[↓zq,zs,af]
   refine⟨fun h=>(by cases h),fun _=>aj (uD (.list (x::y::z::w::l)) [102] 2 (by omega)) ?_⟩
   rw[h2]
   simp only[↓zq,zs,af]
   refine⟨fun h=>(by cases h),fun _=>aj (uD (.list (x::y::z::w::l)) [112] 3 (by omega)) ?_⟩
   rw[e3]
   simp only[↓zq,zs,af]
   exact⟨fun h=>(by cases h),fun _=>rfl⟩
def rp(s:List UInt8):Option Vl:=match rM s with
 |none=>none
 |
  some e=>match fY e with
  |none=>none
  |some v=>if v.nodes>200 then none else some v
theorem mL{s:List UInt8}{v:Vl}(h:rp s=some v):rM s=some v.cG/\v.fu 100/\v.nodes<=200:=by
 unfold rp at h
 split at h
 ·cases h
 ·rename_i e he
  split at h
  ·cases h
  ·rename_i w hw
   split at h
   ·cases h
   ·cases h
    obtain⟨h1,h2⟩:=lU e _ hw
    rw[h1]
    exact⟨he,h2,by omega⟩
theorem yP{e:E}{v:Vl}(h:fY e=some v):v.nodes<=e.sz:=by
 obtain⟨h1,_⟩:=lU e v h
 rw[<-o0,h1];exact CU e
theorem RV(s:List UInt8):aq Tryz.prog 44 [.v (.string (mk s))] [] (bN (iT (rp s))):=by
 refine UK _ ?_
 unfold Oc
 refine aj (Mr s) ?_
 unfold rp
 cases he:rM s with
 |none=>simp only[vx,↓zq,zs,af,bN,iT];simp
 |
  some e =>
  obtain⟨h1,h2⟩:=oH he
  simp only[vx,↓zq,zs,af,da,eA]
  refine⟨fun h=>(by cases h),fun _=>?_⟩
  refine aj (By e h1) ?_
  cases hv:fY e with
  |none=>simp only[iT,↓zq,zs,af,bN];simp
  |
   some v =>
   have hn:=yP hv
   simp only[iT,↓zq,zs,af,aO,fg]
   refine⟨fun h=>(by cases h),fun _=>?_⟩
   refine aj (Gm v (by omega)) ?_
   simp only[↓zq,zs,af,bN]
   refine⟨fun h=>?_,fun h=>?_⟩
   ·rw[if_pos (by omega)]
   ·rw[if_neg (by omega)]
theorem A9:∀(e:E),e.ok->aq Tryz.prog 58 [e.lq] [] (bN (.v (.bool (zm e))))
 |
  .atom s,hok=>by
  refine AG _ _ ((bo).mpr trivial) ?_
  have hne:s≠[]:=hok
  simp only[yc,↓zq,zs,af,zt,bN,zm]
  refine⟨fun _=>⟨fun h=>?_,fun h=>?_⟩,fun h=>absurd h hne⟩
  ·simp[h]
  ·refine aj (KS s) ?_
   have h':(s==[117])=false:=by simpa using h
   simp only[↓zq,zs,af,h',Bool.false_or]
   congr 2
   rw[Cq]
   cases fZ s with
   |none=>rfl
   |some k=>simp
 |
  .list [],hok=>by
  refine AG _ _ ((cc _).mpr trivial) ?_
  simp only[yc,↓zq,zs,af,zt,bN,zm]
  refine⟨fun h=>absurd rfl h,fun _=>?_⟩
  refine aj TH ?_
  simp[↓zq,zs,af,zt]
 |
  .list [x],hok=>by
  refine AG _ _ ((cc _).mpr trivial) ?_
  simp only[yc,↓zq,zs,af,zt,bN,zm]
  refine⟨fun h=>absurd rfl h,fun _=>?_⟩
  refine aj (v7 x _) ?_
  simp[↓zq,zs,af,zt,E.bD]
 |
  .list (x::y::z::w::l),hok=>by
  refine AG _ _ ((cc _).mpr trivial) ?_
  simp only[yc,↓zq,zs,af,zt,bN,zm]
  refine⟨fun h=>absurd rfl h,fun _=>?_⟩
  refine aj (v7 x _) ?_
  simp only[↓zq,zs,af,zt,E.bD]
  refine⟨fun _=>⟨fun h=>by omega,fun _=>trivial⟩,fun _=>⟨fun _=>⟨fun h=>by omega,fun _=>trivial⟩,fun _=>⟨fun _=>⟨fun h=>by omega,fun _=>trivial⟩,fun _=>⟨fun _=>⟨fun h=>by omega,fun _=>trivial⟩,fun _=>trivial⟩⟩⟩⟩
 |
  .list [x,a],hok=>by
  refine AG _ _ ((cc _).mpr trivial) ?_
  obtain⟨ok1,ok2,_⟩:=hok
  simp only[yc,↓zq,zs,af,zt,bN,zm]
  refine⟨fun h=>absurd rfl h,fun _=>?_⟩
  refine aj (v7 x _) ?_
  simp only[E.bD,toNat_one,bn,↓zq,zs,af,zt,jt,gI,jo,nJ,au]
  refine⟨fun h=>⟨fun _=>⟨by omega,?_⟩,fun h=>by omega⟩,fun h1=>⟨fun h=>⟨fun _=>⟨by omega,?_⟩,fun h=>by omega⟩,fun h2=>⟨fun h=>⟨fun _=>⟨by omega,?_⟩,fun h=>by omega⟩,fun h3=>⟨fun h=>⟨fun h=>by omega,fun _=>?_⟩,fun h=>?_⟩⟩⟩⟩
  ·refine aj (A9 a ok2) ?_
   simp[↓zq,zs,af,h]
  ·refine aj (A9 a ok2) ?_
   simp[↓zq,zs,af,h]
  ·refine aj (A9 a ok2) ?_
   simp[↓zq,zs,af,h]
  ·simp[h]
  ·simp[h1,h2,h3]
 |
  .list [x,a,b],hok=>by
  refine AG _ _ ((cc _).mpr trivial) ?_
  obtain⟨ok1,ok2,ok3,_⟩:=hok
  simp only[yc,↓zq,zs,af,zt,bN,zm]
  refine⟨fun h=>absurd rfl h,fun _=>?_⟩
  refine aj (v7 x _) ?_
  simp only[E.bD,toNat_one,bn,↓zq,zs,af,zt,jt,gI,jo,nJ,au]
  refine⟨fun h=>⟨fun h=>by omega,fun _=>?_⟩,fun h1=>⟨fun h=>⟨fun h=>by omega,fun _=>?_⟩,fun h2=>⟨fun h=>⟨fun h=>by omega,fun _=>?_⟩,fun h3=>⟨fun h=>⟨fun _=>⟨by omega,?_⟩,fun h=>by omega⟩,fun h=>?_⟩⟩⟩⟩
  ·simp[h]
  ·simp[h]
  ·simp[h]
  ·refine aj (A9 a ok2) ?_
   simp only[↓zq,zs,af,h]
   refine⟨fun ha=>⟨by omega,aj (A9 b ok3) ?_⟩,fun ha=>?_⟩
   ·simp[↓zq,zs,af,ha]
   ·simp[ha]
  ·simp[h]
theorem HY(s:List UInt8):aq Tryz.prog 28 [.v (.string (mk s))] [] (iU ((rp s).map Vl.cG) (rp s).isSome):=by
 refine Tu _ ?_
 unfold Pw
 refine aQ (NM s) (iU.ne _ _ (fun h=>h)) ?_
 rintro r o ⟨c,d,hd,rfl,hh⟩
 simp only[↓zq,zs,af,zt,bE,rp]
 refine⟨hd,fun h=>?_,fun h=>?_⟩
 ·obtain⟨e,he,hce⟩:=hh h
  obtain⟨hok,hsz⟩:=oH he
  rw[he,hce]
  refine aj (A9 e hok) ?_
  simp only[↓zq,zs,af]
  have hs:=po e
  refine⟨fun hi=>?_,fun hi=>?_⟩
  ·rw[hi]at hs
   obtain⟨v,hv⟩:=a8.1 hs
   obtain⟨h1,h2⟩:=lU e v hv
   refine aj (TA e (by omega)) ?_
   simp only[↓zq,zs,af,hv]
   have hnd:e.nd=v.nodes:=by rw[<-h1,o0]
   rw[hnd]
   refine⟨c,d,hd,?_,?_⟩
   ·rw[hce]
    by_cases h4:v.nodes>200
    ·rw[if_pos h4];exact congrArg (fun b=>AV.cv [e.lq,.v (.bool b)]) (decide_eq_false (show ¬((v.nodes:Nat):Int)<=200 by omega))
    ·rw[if_neg h4];exact congrArg (fun b=>AV.cv [e.lq,.v (.bool b)]) (decide_eq_true (show ((v.nodes:Nat):Int)<=200 by omega))
   ·split
    ·exact fun h=>by cases h
    ·exact fun _=>⟨e,by simp[h1],hce⟩
  ·rw[hi]at hs
   have hn:fY e=none:=by cases hq:fY e<;>simp[hq]at hs |-
   rw[hn]
   exact⟨c,d,hd,by rw[hce];rfl,fun h=>by cases h⟩
 ·have hn:rM s=none:=by cases hq:rM s<;>simp[hq]at h |-
  rw[hn]
  exact⟨c,d,hd,rfl,fun h=>by cases h⟩
end Go.Proofs.Trees
namespace Go.Proofs.Trees
open Go Go.VL Go.RowKit
def U5(n:Nat):AV->List Ob->Prop:=fun r o=>∃x:Int,r=.v (.int .i64 x)/\(0<=x->n<=1048576)
theorem U5.ne(n:Nat):∃r o,U5 n r o:=⟨_,[],-1,rfl,fun h=>by omega⟩
end Go.Proofs.Trees
namespace Go.Proofs.Trees
open Go Go.VL Go.RowKit
inductive Fr where
 |mk (s:List UInt8) (e:E) (o:List Fr)
def Fr.nm:Fr->List UInt8| .mk s _ _=>s
def Fr.ex:Fr->E| .mk _ e _=>e
def Fr.out:Fr->List Fr| .mk _ _ o=>o
def names:List Fr->List (List UInt8)
 |[]=>[]
 |f::r=>names r++[f.nm]
def Ac(e:E)(o:List Fr):Ty:=(cY e (names o)).getD .zero
def E.sp:E->AV
 | .atom _=>.v (.slice none 0 0)
 | .list l=>.sl (E.bD l)
theorem fT(e:E):e.iP=[.v (.string (mk e.at)),e.sp]:=by cases e<;>rfl
theorem cU(e:E):e.lq=.agg [.v (.string (mk e.at)),e.sp]:=by cases e<;>rfl
theorem aV(e:E):LK.has .sl e.sp=True:=by cases e<;>simp[E.sp,bo,cc]
mutual
def Fr.cells:Fr->List AV
 | .mk s e o=>[.v (.string (mk s)),.v (.string (mk e.at)),e.sp,.sl (kQ o)]
def kQ:List Fr->List (List AV)
 |[]=>[]
 |f::r=>kQ r++[f.cells]
end
mutual
def Fr.cI:Fr->AV
 | .mk s e o=>.ptr [(Ac e o).av,qf o]
def qf:List Fr->AV
 |[]=>iW
 |f::r=>.ptr [f.cI,qf r]
end
inductive WF:List Fr->Prop
 |nil:WF []
 |cons {s:List UInt8} {x a b:E} {t:Ty} {r:List Fr} (hs:dx s=true) (hok:(E.list [x,a,b]).ok) (hx:x.at=[114,101,99]) (ht:cY (.list [x,a,b]) (names r)=some t) (hf:cj t=false) (hr:WF r):WF (.mk s (.list [x,a,b]) r::r)
theorem lR:∀env:List Fr,(kQ env).length=env.length
 |[]=>rfl
 |f::r=>by simp[kQ,lR r]
theorem eE(env:List Fr):LK.has .ptr (qf env)=True:=by cases env<;>simp[qf,gU,cm]
theorem DY(f:Fr):LK.has .ptr f.cI=True:=by cases f;simp[Fr.cI,cm]
def findF(s:List UInt8):List Fr->Option Fr
 |[]=>none
 |f::r=>if f.nm=s then some f else findF s r
def hd(e:E)(env:List Fr):E×List Fr:=match findF e.at env with|some f=>(f.ex,f.out)|none=>(e,env)
theorem lW{env:List Fr}(h:WF env):findF [] env=none:=by
 induction h with
 |nil=>rfl
 |
  @cons s x a b t r hs hok hx ht hf hr ih =>
  rw[findF,if_neg (show ¬(Fr.mk s (.list [x,a,b]) r).nm=[] from Ck hs)];exact ih
theorem A6{env:List Fr}(h:WF env){s:List UInt8}{f:Fr}(hf:findF s env=some f):dx s=true:=by
 induction h with
 |nil=>cases hf
 |
  cons hs hok hx ht hf' hr ih =>
  rw[findF]at hf
  split at hf
  ·rename_i e;exact e ▸ hs
  ·exact ih hf
theorem py{env:List Fr}(h:WF env){s:List UInt8}{f:Fr}(hf:findF s env=some f):∃x a b t,f.ex=.list [x,a,b]/\(E.list [x,a,b]).ok/\x.at=[114,101,99]/\cY f.ex (names f.out)=some t/\cj t=false/\WF f.out/\f.out.length<env.length:=by
 induction h with
 |nil=>cases hf
 |
  cons hs hok hx ht hf' hr ih =>
  rw[findF]at hf
  split at hf
  ·cases hf;exact⟨_,_,_,_,rfl,hok,hx,ht,hf',hr,by simp[Fr.out]⟩
  ·obtain⟨x,a,b,t,h1,h2,h3,h4,h5,h6,h7⟩:=ih hf
   exact⟨x,a,b,t,h1,h2,h3,h4,h5,h6,by simp;omega⟩
theorem kZ(s w:List UInt8)(ar:List (List UInt8)):∀i,i<=ar.length->bT s (ar++[w]) i=(bT s ar i).map (·+1)
 |0,_=>rfl
 |
  i+1,hi=>by
  have hlt:i<ar.length:=by omega
  have e:(ar++[w]).getD i []=ar.getD i []:=by simp[aa,List.getElem?_append_left hlt]
  rw[bT,bT,e,kZ s w ar i (by omega)]
  split
  ·simp only[an,aw,aF,cz,Option.some.injEq];omega
  ·rfl
theorem wH(s:List UInt8)(f:Fr)(r:List Fr):bT s (names (f::r)) (names (f::r)).length=if f.nm=s then some 0 else(bT s (names r) (names r).length).map (·+1):=by
 have e:(names (f::r)).length=(names r).length+1:=by simp[names]
 rw[e,bT]
 have e2:(names (f::r)).getD (names r).length []=f.nm:=by simp[names,aa]
 rw[e2]
 split
 ·rw[e];simp
 ·rw[names,kZ _ _ _ _ (au _)]
theorem pH(s:List UInt8):∀env:List Fr,bT s (names env) (names env).length=none/\findF s env=none\/∃(u:Nat) (f:Fr),bT s (names env) (names env).length=some u/\findF s env=some f/\env[u]?=some f
 |[]=>.inl ⟨rfl,rfl⟩
 |
  f::r=>by
  rw[wH,findF]
  split
  ·exact .inr ⟨0,f,rfl,rfl,rfl⟩
  ·rcases pH s r with⟨h1,h2⟩|⟨u,g,h1,h2,h3⟩
   ·exact .inl ⟨by rw[h1];rfl,h2⟩
   ·exact .inr ⟨u+1,g,by rw[h1];rfl,h2,by simpa using h3⟩
def Ty.Q6:Ty->Bool
 | .bound _=>true
 |_=>false
theorem gP{e:E}{env:List Fr}{t:Ty}(hw:WF env)(ht:cY e (names env)=some t) :
 (t.Q6=false/\findF e.at env=none)\/∃(u:Nat) (f:Fr),t=.bound u/\findF e.at env=some f/\env[u]?=some f:=by
 cases e with
 |
  list l =>
  left
  refine⟨?_,lW hw⟩
  match l,ht with
  |
   [x,a,b],ht =>
   by_cases h0:x.at=[43]
   ·obtain⟨t1,t2,_,_,rfl⟩:=fU h0 ht;rfl
   ·by_cases h1:x.at=[42]
    ·obtain⟨t1,t2,_,_,rfl⟩:=fD h1 ht;rfl
    ·by_cases h2:x.at=[114,101,99]
     ·obtain⟨t1,_,_,rfl⟩:=dI h2 ht;rfl
     ·rw[jz _ h0 h1 h2]at ht;cases ht
  |[],ht=>cases ht
  |[_],ht=>cases ht
  |[_,_],ht=>cases ht
  |_::_::_::_::_,ht=>cases ht
 |
  atom s =>
  simp only[cY]at ht
  have hno:dx s=false->findF s env=none:=fun h=>by
   cases hq:findF s env with
   |none=>rfl
   |some f=>rw[A6 hw hq]at h;cases h
  split at ht
  ·rename_i h;cases ht;subst h;exact .inl ⟨rfl,hno rfl⟩
  ·split at ht
   ·rename_i h;cases ht;subst h;exact .inl ⟨rfl,hno rfl⟩
   ·split at ht
    ·rename_i h
     cases ht
     refine .inl ⟨rfl,hno ?_⟩
     cases hq:dx s with
     |false=>rfl
     |
      true =>
      obtain⟨c,r,rfl,h1,h2⟩:=mF h
      obtain⟨c',r',he,h3,h4⟩:=mF hq
      cases he;omega
    ·split at ht
     ·rcases pH s env with⟨h1,h2⟩|⟨u,f,h1,h2,h3⟩
      ·rw[h1]at ht;cases ht;exact .inl ⟨rfl,h2⟩
      ·rw[h1]at ht;cases ht;exact .inr ⟨u,f,rfl,h2,h3⟩
     ·cases ht
def eF(n:Nat):Vl->E×List Fr->Bool
 | .u,p=>match hd p.1 p.2 with|(.atom s,_)=>s==[49]|_=>false
 | .el k,p=>match hd p.1 p.2 with|(.atom s,_)=>!(s==[49])&&(ib s&&decide (k<n))|_=>false
 | .l w,p=>match hd p.1 p.2 with|(.list [x,a,b],o)=>(x.at==[43])&&eF n w (a,o)|_=>false
 | .r w,p=>match hd p.1 p.2 with|(.list [x,a,b],o)=>(x.at==[43])&&eF n w (b,o)|_=>false
 | .f w,p=>match hd p.1 p.2 with|(.list [x,a,b],o)=>(x.at==[114,101,99])&&eF n w (b,.mk a.at (.list [x,a,b]) o::o)|_=>false
 | .p v w,p=>match hd p.1 p.2 with|(.list [x,a,b],o)=>(x.at==[42])&&(eF n v (a,o)&&eF n w (b,o))|_=>false
theorem kV{e:E}{env:List Fr}(h:findF e.at env=none):hd e env=(e,env):=by rw[hd,h]
theorem rZ{e:E}{env:List Fr}{f:Fr}(h:findF e.at env=some f):hd e env=(f.ex,f.out):=by rw[hd,h]
theorem qL{x a b:E}{o:List Fr}(h:WF o):hd (.list [x,a,b]) o=(.list [x,a,b],o):=kV (lW h)
theorem vX(n:Nat)(v:Vl){e e':E}{env o:List Fr}(h:hd e env=(e',o))(h':hd e' o=(e',o)):eF n v (e,env)=eF n v (e',o):=by
 cases v<;>simp only[eF,h,h']
theorem jP{x a b:E}{env:List Fr}{t:Ty}(hw:WF env)(hok:(E.list [x,a,b]).ok)(hx:x.at=[114,101,99])(ht:cY (.list [x,a,b]) (names env)=some t)(hf:cj t=false) :
 ∃t1,t=.rc t1/\cY b (names (.mk a.at (.list [x,a,b]) env::env))=some t1/\cj t1=false/\WF (.mk a.at (.list [x,a,b]) env::env):=by
 obtain⟨t1,hl,h1,rfl⟩:=dI hx ht
 exact⟨t1,rfl,h1,hf,.cons hl hok hx ht hf hw⟩
theorem A5(a b env:AV)(n:Int)(s:ByteArray)(u:Int)(ha:LK.ptr.has a)(he:LK.ptr.has env):aq Tryz.prog 108 [.agg [.ptr [.v (.int .u8 n),.v (.string s),.v (.int .i64 u),a,b],env]] [] (bN (.agg [a,env])):=by
 refine UC _ _ ((cm _).mpr trivial) he ?_
 simp only[Mn,↓zq,zs,af,bN]
 exact⟨ha,by omega⟩
theorem AR(a b env:AV)(n:Int)(s:ByteArray)(u:Int)(hb:LK.ptr.has b)(he:LK.ptr.has env):aq Tryz.prog 109 [.agg [.ptr [.v (.int .u8 n),.v (.string s),.v (.int .i64 u),a,b],env]] [] (bN (.agg [b,env])):=by
 refine Tn _ _ ((cm _).mpr trivial) he ?_
 simp only[Nz,↓zq,zs,af,bN]
 exact⟨hb,by omega⟩
theorem TZ(t:Ty)(env:List Fr)(s:List UInt8)(e:E)(ht:Ac e env=.rc t):aq Tryz.prog 70 [.agg [(Ty.rc t).av,qf env]] [] (bN (.cv [.agg [t.av,qf (.mk s e env::env)],(Fr.mk s e env).cI])):=by
 refine Tf _ _ ((aE _).mpr trivial) ((eE _).mpr trivial) ?_
 simp only[Qi,Ty.av,↓zq,zs,af,aE,bN,qf,Fr.cI,ht]
 omega
theorem uA(env:List Fr)(i:Nat)(f:Fr)(h:env[i]?=some f):qf (env.drop i)=.ptr [f.cI,qf (env.drop (i+1))]:=by
 obtain⟨hlt,he⟩:=List.getElem?_eq_some_iff.1 h
 rw[aL hlt,he,qf]
theorem LA(env:List Fr)(u:Nat)(hu:u<env.length)(hl:env.length<1000000):∀(k i:Nat),i+k=u->Fh [qf (env.drop i),.v (.int .i64 (u:Int)),.v (.int .i64 (i:Int))] [] (gK 1 [qf (env.drop u)] [])
 |
  0,i,hi=>by
  refine Fx _ _ _ ?_
  have:i=u:=by omega
  subst this
  simp only[DO,↓zq,zs,af,eE]
  exact⟨fun h=>by omega,fun _=>by simp[gK]⟩
 |
  k+1,i,hi=>by
  refine Fx _ _ _ ?_
  have hlt:i<env.length:=by omega
  have hg:env[i]?=some env[i]:=a7 hlt
  have hd:=uA env i _ hg
  rw[hd]
  simp only[DO,↓zq,zs,af,eE]
  refine⟨fun _=>⟨by omega,?_⟩,fun h=>by omega⟩
  rw[bB i (by omega)]
  exact LA env u hu hl k (i+1) (by omega)
theorem SG(env:List Fr)(u:Nat)(f:Fr)(hf:env[u]?=some f)(hl:env.length<1000000):aq Tryz.prog 127 [.agg [(Ty.bound u).av,qf env]] [] (bN f.cI):=by
 refine Qu _ _ ((aE _).mpr trivial) ((eE _).mpr trivial) ?_
 obtain⟨hlt,he⟩:=List.getElem?_eq_some_iff.1 hf
 simp only[J0,Ty.av,↓zq,zs,af]
 refine⟨by omega,?_⟩
 have h:=LA env u hlt hl u 0 (by omega)
 simp only[aZ]at h
 refine cA h ?_
 rw[uA env u f hf]
 simp only[↓zq,zs,af,DY,bN]
 omega
theorem Ee(k:Nat)(h:k<100):Lib.atoi (dd k)=some (k:Int):=by
 have e:∀k,k<100->dd k=if k<10 then [bp (48+k)]else [bp (48+k/10),bp (48+k%10)]:=by
  intro k hk
  by_cases h1:k<10
  ·rw[eX h1,if_pos h1]
  ·rw[ga h1,eX (by omega),if_neg h1];rfl
 have key:∀k:Fin 100,Lib.atoi (if k.val<10 then [bp (48+k.val)]else [bp (48+k.val/10),bp (48+k.val%10)])=some (k.val:Int):=by decide +kernel
 rw[e k h];exact key ⟨k,h⟩
theorem R3(k:Nat)(hk:k<100):aq Tryz.prog 126 [.v (.string (mk (dd k)))] [] (bN (.cv [.v (.int .i64 (k:Int)),.v .nilIface])):=by
 have hl:=nh 1000 k (by omega)
 have hl2:(dd k).length<=18:=by
  have e:(dd k).length<=2:=by
   by_cases h1:k<10
   ·rw[eX h1];simp
   ·rw[ga h1,eX (by omega)];simp
  omega
 refine aq.TJ (xs:=[.string (mk (dd k))]) (v:=.tuple #[.int .i64 (k:Int),.nilIface]) ⟨rA,by kernel_rfl,by kernel_rfl,by kernel_rfl⟩ (fun M=>?_) fun w=>?_
 ·refine bK.cv _ _ [.int .i64 (k:Int),.nilIface] rfl fun i hi=>?_
  match i,hi with
  |0,_=>exact .v _ _
  |1,_=>exact .v _ _
 ·have:=Any.strconv_Atoi Tryz.FI (mk (dd k)) (k:Int) (by rw[cS];exact hl2) (by
   have:(mk (dd k)).data.toList=dd k:=by simp[mk]
   rw[this];exact Ee k hk) w
  refine Calls.mono this fun e w' ⟨h1,t,h2⟩=>⟨h1,?_⟩
  subst h2
  refine⟨rfl,rfl,rfl,?_,fun b hb=>Lib.bytesWorld_at_old _ _ _ _ hb⟩
  simp[Lib.bytesWorld,World.freeze]
end Go.Proofs.Trees
namespace Go.Proofs.Trees
open Go Go.VL Go.RowKit
theorem fI{a b:Ty}(h:cj (.plus a b)=false):cj a=false/\cj b=false:=by simpa[cj]using h
theorem fj{a b:Ty}(h:cj (.times a b)=false):cj a=false/\cj b=false:=by simpa[cj]using h
theorem fQ{e:E}{ar:List (List UInt8)}{t:Ty}(ht:cY e ar=some t)(hb:t.Q6=false)(hf:cj t=false) :
 (e=.atom [48]/\t=.zero)\/(e=.atom [49]/\t=.one)\/(∃s,e=.atom s/\t=.name s/\ib s=true/\s≠[48]/\s≠[49]) ∨
 (∃x a b t1 t2,e=.list [x,a,b]/\x.at=[43]/\t=.plus t1 t2/\cY a ar=some t1/\cY b ar=some t2) ∨
 (∃x a b t1 t2,e=.list [x,a,b]/\x.at=[42]/\t=.times t1 t2/\cY a ar=some t1/\cY b ar=some t2) ∨
 (∃x a b t1,e=.list [x,a,b]/\x.at=[114,101,99]/\t=.rc t1):=by
 cases e with
 |
  list l =>
  match l,ht with
  |
   [x,a,b],ht =>
   by_cases h0:x.at=[43]
   ·obtain⟨t1,t2,h1,h2,rfl⟩:=fU h0 ht
    exact .inr (.inr (.inr (.inl ⟨x,a,b,t1,t2,rfl,h0,rfl,h1,h2⟩)))
   ·by_cases h1:x.at=[42]
    ·obtain⟨t1,t2,h3,h2,rfl⟩:=fD h1 ht
     exact .inr (.inr (.inr (.inr (.inl ⟨x,a,b,t1,t2,rfl,h1,rfl,h3,h2⟩))))
    ·by_cases h2:x.at=[114,101,99]
     ·obtain⟨t1,_,_,rfl⟩:=dI h2 ht
      exact .inr (.inr (.inr (.inr (.inr ⟨x,a,b,t1,rfl,h2,rfl⟩))))
     ·rw[jz _ h0 h1 h2]at ht;cases ht
  |[],ht=>cases ht
  |[_],ht=>cases ht
  |[_,_],ht=>cases ht
  |_::_::_::_::_,ht=>cases ht
 |
  atom s =>
  simp only[cY]at ht
  split at ht
  ·rename_i h;cases ht;subst h;exact .inl ⟨rfl,rfl⟩
  ·rename_i h0
   split at ht
   ·rename_i h;cases ht;subst h;exact .inr (.inl ⟨rfl,rfl⟩)
   ·rename_i h1
    split at ht
    ·rename_i h;cases ht;exact .inr (.inr (.inl ⟨s,rfl,rfl,h,h0,h1⟩))
    ·split at ht
     ·rename_i h
      split at ht
      ·cases ht;cases hb
      ·cases ht;simp only[cj]at hf;rw[h]at hf;cases hf
     ·cases ht
def qY(n:Nat)(v:Vl)(e:E)(env:List Fr)(t:Ty):Prop:=aq Tryz.prog 83 [.agg [t.av,qf env],v.cI,.v (.int .i64 (n:Int))] [] (bN (.v (.bool (eF n v (e,env)))))
structure Ask(e:E)(env:List Fr)(t:Ty):Prop where
 ok:e.ok
 wf:WF env
 ty:cY e (names env)=some t
 cl:cj t=false
theorem LU(n:Nat)(hn:n<=100)(v:Vl)(hv:v.fu 100)(IH:∀w:Vl,w.nodes<v.nodes->w.fu 100->∀e env t,Ask e env t->env.length+w.nodes<100000->qY n w e env t)
 (e:E) (env:List Fr) (t:Ty) (A:Ask e env t) (hl:env.length+v.nodes<100000) (hb:t.Q6=false) (hh:findF e.at env=none):qY n v e env t:=by
 have hhd:hd e env=(e,env):=kV hh
 unfold qY
 refine PD _ _ _ _ ((aE _).mpr trivial) ((eE _).mpr trivial) ((aO _).mpr trivial) ?_
 rcases fQ A.ty hb A.cl with⟨rfl,rfl⟩|⟨rfl,rfl⟩|⟨s,rfl,rfl,hp,h0,h1⟩|⟨x,a,b,t1,t2,rfl,hx,rfl,ha,hbb⟩|⟨x,a,b,t1,t2,rfl,hx,rfl,ha,hbb⟩|⟨x,a,b,t1,rfl,hx,rfl⟩
 ·have hp0:ib [48]=false:=rfl
  cases v<;>simp[BN,Ty.av,↓zq,zs,af,bN,eF,hhd,hp0]
 ·have hp0:ib [49]=false:=rfl
  cases v<;>simp[BN,Ty.av,Vl.cI,↓zq,zs,af,bN,eF,hhd,hp0]
 ·have h1':(s==[49])=false:=by simpa using h1
  cases v with
  |
   el k =>
   have hk:k<100:=hv
   simp only[BN,Ty.av,Vl.cI,↓zq,zs,af,zt]
   refine⟨by omega,fun h=>by omega,fun _=>⟨fun _=>⟨by omega,fun h=>absurd rfl h,fun _=>⟨by omega,by omega,?_⟩⟩,fun h=>absurd rfl h⟩⟩
   have e1:(List.take ((dd k).length+1) (yQ k)).drop (bP 1)=dd k:=by simp[yQ]
   rw[e1]
   refine aj (R3 k hk) ?_
   simp only[↓zq,zs,af,bN,eF,hhd,h1',hp,zf]
   refine⟨rfl,?_⟩
   congr 2
   rw[cJ];simp
  |
   _ =>
   simp only[BN,Ty.av,Vl.cI,↓zq,zs,af,zt,eF,hhd,h1',bN]
   exact⟨by omega,fun h=>by omega,fun _=>⟨fun _=>⟨by omega,fun _=>trivial,fun h=>by omega⟩,fun h=>absurd rfl h⟩⟩
 ·have hok:=A.ok
  obtain⟨ok1,ok2,ok3,_⟩:=hok
  obtain⟨f1,f2⟩:=fI A.cl
  cases v with
  |
   l w =>
   simp only[Vl.nodes]at hl
   simp only[BN,Ty.av,Vl.cI,↓zq,zs,af]
   refine⟨by omega,fun h=>by omega,fun _=>⟨fun h=>by omega,fun _=>⟨fun h=>by omega,fun _=>⟨fun _=>⟨by omega,fun _=>?_,fun h=>absurd rfl h⟩,fun h=>absurd rfl h⟩⟩⟩⟩
   refine aj (A5 _ _ _ _ _ _ ((aE _).mpr trivial) ((eE _).mpr trivial)) ?_
   simp only[↓zq,zs,af,bE,aE,eE,aO]
   refine⟨by omega,?_⟩
   refine aj (IH w (by simp only[Vl.nodes];omega) hv a env t1 ⟨ok2,A.wf,ha,f1⟩ (by omega)) ?_
   simp only[↓zq,zs,af,bN,eF,hhd,hx]
   refine⟨fun h=>?_,fun h=>⟨by omega,fun h=>by omega,fun _=>?_⟩⟩
   ·simp[h]
   ·simp[h]
  |
   r w =>
   simp only[Vl.nodes]at hl
   simp only[BN,Ty.av,Vl.cI,↓zq,zs,af]
   refine⟨by omega,fun h=>by omega,fun _=>⟨fun h=>by omega,fun _=>⟨fun h=>by omega,fun _=>⟨fun _=>⟨by omega,fun h=>by omega,fun _=>⟨by omega,fun _=>?_,fun h=>absurd rfl h⟩⟩,fun h=>absurd rfl h⟩⟩⟩⟩
   refine aj (AR _ _ _ _ _ _ ((aE _).mpr trivial) ((eE _).mpr trivial)) ?_
   simp only[↓zq,zs,af,bE,aE,eE,aO]
   refine⟨by omega,?_⟩
   refine aj (IH w (by simp only[Vl.nodes];omega) hv b env t2 ⟨ok3,A.wf,hbb,f2⟩ (by omega)) ?_
   simp[↓zq,zs,af,bN,eF,hhd,hx]
  |
   _ =>
   simp only[BN,Ty.av,Vl.cI,↓zq,zs,af,eF,hhd,bN]
   exact⟨by omega,fun h=>by omega,fun _=>⟨fun h=>by omega,fun _=>⟨fun h=>by omega,fun _=>⟨fun _=>⟨by omega,fun h=>by omega,fun _=>⟨by omega,fun h=>by omega,fun _=>by simp[hx]⟩⟩,fun h=>absurd rfl h⟩⟩⟩⟩
 ·have hok:=A.ok
  obtain⟨ok1,ok2,ok3,_⟩:=hok
  obtain⟨f1,f2⟩:=fj A.cl
  cases v with
  |
   p v w =>
   simp only[Vl.nodes]at hl
   simp only[BN,Ty.av,Vl.cI,↓zq,zs,af]
   refine⟨by omega,fun h=>by omega,fun _=>⟨fun h=>by omega,fun _=>⟨fun h=>by omega,fun _=>⟨fun h=>by omega,fun _=>⟨fun _=>⟨by omega,fun _=>?_,fun h=>absurd rfl h⟩,fun h=>absurd rfl h⟩⟩⟩⟩⟩
   refine aj (A5 _ _ _ _ _ _ ((aE _).mpr trivial) ((eE _).mpr trivial)) ?_
   simp only[↓zq,zs,af,bE,aE,eE,aO]
   refine⟨by omega,?_⟩
   refine aj (IH v (by simp only[Vl.nodes];omega) hv.1 a env t1 ⟨ok2,A.wf,ha,f1⟩ (by omega)) ?_
   simp only[↓zq,zs,af,bN,eF,hhd,hx]
   refine⟨fun h=>?_,fun h=>?_⟩
   ·refine aj (AR _ _ _ _ _ _ ((aE _).mpr trivial) ((eE _).mpr trivial)) ?_
    simp only[↓zq,zs,af,bE,aE,eE,aO]
    refine⟨by omega,?_⟩
    refine aj (IH w (by simp only[Vl.nodes];omega) hv.2 b env t2 ⟨ok3,A.wf,hbb,f2⟩ (by omega)) ?_
    simp[↓zq,zs,af,h]
   ·simp[h]
  |
   _ =>
   simp only[BN,Ty.av,Vl.cI,↓zq,zs,af,eF,hhd,bN]
   exact⟨by omega,fun h=>by omega,fun _=>⟨fun h=>by omega,fun _=>⟨fun h=>by omega,fun _=>⟨fun h=>by omega,fun _=>⟨fun _=>⟨by omega,fun h=>by omega,fun _=>by simp[hx]⟩,fun h=>absurd rfl h⟩⟩⟩⟩⟩
 ·obtain⟨t1',he1,h1,f1,hw1⟩:=jP A.wf A.ok hx A.ty A.cl
  cases he1
  have hok:=A.ok
  obtain⟨ok1,ok2,ok3,_⟩:=hok
  have htD:Ac (.list [x,a,b]) env=.rc t1:=by rw[Ac,A.ty];rfl
  have hin:=TZ t1 env a.at (.list [x,a,b]) htD
  simp only[Ty.av]at hin
  simp only[BN,Ty.av,↓zq,zs,af]
  refine⟨by omega,fun h=>by omega,fun _=>⟨fun h=>by omega,fun _=>⟨fun h=>by omega,fun _=>⟨fun h=>by omega,fun _=>⟨fun h=>by omega,fun _=>⟨fun _=>?_,fun h=>absurd rfl h⟩⟩⟩⟩⟩⟩
  refine aj hin ?_
  simp only[↓zq,zs,af,bE,aE,eE,DY,aO,fg]
  cases v with
  |
   f w =>
   simp only[Vl.nodes]at hl
   simp only[Vl.cI,↓zq,zs,af,aO]
   refine⟨by omega,fun _=>⟨by omega,?_⟩,fun h=>absurd rfl h⟩
   refine aj (IH w (by simp only[Vl.nodes];omega) hv b (.mk a.at (.list [x,a,b]) env::env) t1 ⟨ok3,hw1,h1,f1⟩ (by simp;omega)) ?_
   simp[↓zq,zs,af,bN,eF,hhd,hx]
  |
   _ =>
   simp only[Vl.cI,↓zq,zs,af,eF,hhd,bN]
   exact⟨by omega,fun h=>by omega,fun _=>by simp[hx]⟩
theorem PS(n:Nat)(hn:n<=100):∀(m:Nat) (v:Vl),v.nodes<m->v.fu 100->∀e env t,Ask e env t->env.length+v.nodes<100000->qY n v e env t
 |0,v,h,_=>by omega
 |
  m+1,v,h,hv=>by
  intro e env t A hl
  have IH:∀w:Vl,w.nodes<v.nodes->w.fu 100->∀e env t,Ask e env t->env.length+w.nodes<100000->qY n w e env t:=fun w hw hb=>PS n hn m w (by omega) hb
  rcases gP A.wf A.ty with⟨hb,hh⟩|⟨u,f,rfl,hh,hu⟩
  ·exact LU n hn v hv IH e env t A hl hb hh
  ·obtain⟨x,a,b,t',hfe,hok,hx,ht',hf',hwf,hlt⟩:=py A.wf hh
   obtain⟨t1,hl1,h1,rfl⟩:=dI hx (hfe ▸ ht')
   have hvis:eF n v (e,env)=eF n v (f.ex,f.out):=vX n v (rZ hh) (by rw[hfe];exact qL hwf)
   unfold qY
   refine PD _ _ _ _ ((aE _).mpr trivial) ((eE _).mpr trivial) ((aO _).mpr trivial) ?_
   have hbd:=SG env u f hu (by omega)
   simp only[Ty.av]at hbd
   simp only[BN,Ty.av,↓zq,zs,af]
   refine⟨by omega,fun h=>by omega,fun _=>⟨fun h=>by omega,fun _=>⟨fun _=>?_,fun h=>absurd rfl h⟩⟩⟩
   refine aj hbd ?_
   cases f with
   |
    mk s ee oo =>
    simp only[Fr.ex,Fr.out]at hfe ht' hf' hwf hvis hlt
    have htD:Ac ee oo=.rc t1:=by rw[Ac,ht'];rfl
    simp only[Fr.cI,htD,↓zq,zs,af,bE,aE,eE]
    refine⟨by omega,?_⟩
    have hs:=LU n hn v hv IH ee oo (.rc t1) ⟨by rw[hfe];exact hok,hwf,ht',hf'⟩ (by omega) rfl (by rw[hfe];exact lW hwf)
    unfold qY at hs
    refine aj hs ?_
    simp[↓zq,zs,af,bN,hvis]
end Go.Proofs.Trees
namespace Go.Proofs.Trees
open Go Go.VL Go.RowKit
theorem uG:∀(env:List Fr) (k:Nat) (f:Fr),env[k]?=some f->(kQ env).getD (env.length-1-k) []=f.cells
 |[],k,f,h=>by cases h
 |
  g::r,0,f,h=>by
  cases h
  have:(g::r).length-1-0=(kQ r).length:=by simp[lR]
  rw[this,kQ];simp[aa]
 |
  g::r,k+1,f,h=>by
  have h':r[k]?=some f:=by simpa using h
  have hlt:=(List.getElem?_eq_some_iff.1 h').1
  have e:(g::r).length-1-(k+1)=r.length-1-k:=by simp;omega
  have:=uG r k f h'
  rw[e,kQ,aa,List.getElem?_append_left (by rw[lR];omega),<-aa]
  exact this
theorem sI(f:Fr):f.cells=[.v (.string (mk f.nm)),.v (.string (mk f.ex.at)),f.ex.sp,.sl (kQ f.out)]:=by cases f;rfl
theorem Og(e:E)(env:List Fr)(hl:env.length<1000000):∀(j k:Nat),k+j=env.length->I3 [.sl (kQ env),.v (.int .i64 ((env.length:Int)-1-(k:Int)))] [.cells [.v (.string (mk e.at)),e.sp],.cells [.v (.string (mk [])),.v (.slice none 0 0)]]
 (ox (match findF e.at (env.drop k)with|some f=>(2,[.sl (kQ f.out)],[.cells [.v (.string (mk f.ex.at)),f.ex.sp]])|none=>(1,[.sl (kQ env)],[.cells [.v (.string (mk e.at)),e.sp],.cells [.v (.string (mk [])),.v (.slice none 0 0)]])))
 |
  0,k,hk=>by
  refine Nw _ _ _ _ _ _ ?_
  have hd:env.drop k=[]:=bY (by omega)
  simp only[Kg,↓zq,zs,af,aV,hd,findF]
  exact⟨fun h=>by omega,fun _=>by first|trivial|rfl⟩
 |
  j+1,k,hk=>by
  refine Nw _ _ _ _ _ _ ?_
  have hlt:k<env.length:=by omega
  have hg:env[k]?=some env[k]:=a7 hlt
  have hc:=uG env k _ hg
  have e1:((env.length:Int)-1-(k:Int))=((env.length-1-k:Nat):Int):=by omega
  have hdr:env.drop k=env[k]::env.drop (k+1):=aL hlt
  rw[hdr,findF,e1]
  simp only[Kg,bF,hc,sI,↓zq,zs,af,zt,aV,lR,bE]
  refine⟨fun _=>⟨by omega,by omega,fun h=>⟨by omega,by omega,by omega,by omega,?_⟩,fun h=>?_⟩,fun h=>by omega⟩
  ·rw[if_pos h]
  ·rw[if_neg h]
   have e2:IntKind.wrap .i64 (((env.length-1-k:Nat):Int)-1)=(env.length:Int)-1-((k+1:Nat):Int):=by
    have:IntKind.wrap .i64 (((env.length-1-k:Nat):Int)-1)=((env.length-1-k:Nat):Int)-1:=wrap64 _ (by omega) (by omega)
    omega
   rw[e2]
   exact Og e env hl j (k+1) (by omega)
theorem Ud(e:E)(env:List Fr)(hl:env.length<1000000):aq Tryz.prog 100 [e.lq,.sl (kQ env)] [] (bN (.cv [(hd e env).1.lq,.sl (kQ (hd e env).2)])):=by
 rw[cU e]
 refine UR _ _ _ ((aV _).mpr trivial) ((cc _).mpr trivial) ?_
 simp only[Lj,↓zq,zs,af,lR,bN]
 have h:=Og e env hl env.length 0 (by omega)
 simp only[aZ]at h
 rw[wrap64 _ (by omega) (by omega)]
 rw[show (env.length:Int)-1-((0:Nat):Int)=(env.length:Int)-1 by omega]at h
 refine eC h (fun ys o e'=>?_) (fun ys o e'=>?_)
 ·unfold hd
  cases hq:findF e.at env<;>rw[hq]at e'<;>cases e'
  simp only[↓zq,zs,af,zt,aV,cU]
 ·unfold hd
  cases hq:findF e.at env<;>rw[hq]at e'<;>cases e'
  simp only[↓zq,zs,af,zt,aV,cU]
theorem qW:∀env:List Fr,cq 4 (kQ env)
 |[]=>fun c hc=>by cases hc
 |
  f::r=>fun c hc=>by
  simp only[kQ,aP,aU]at hc
  rcases hc with hc|rfl
  ·exact qW r c hc
  ·rw[sI];rfl
theorem SY(x a b:E)(env:List Fr)(hl:env.length<1000000):aq Tryz.prog 103 [(E.list [x,a,b]).lq,.sl (kQ env)] [] (bN (.cv [b.lq,.sl (kQ (.mk a.at (.list [x,a,b]) env::env))])):=by
 refine Ts _ _ _ ((cc _).mpr trivial) ((cc _).mpr trivial) ?_
 simp only[O0,E.bD,toNat_one,bn,↓zq,zs,af,zt,jt,gI,jo,nJ,au,lR,bN,aR]
 refine⟨by omega,⟨qW env,by omega⟩,by omega,by omega,⟨fun c hc=>(by simp at hc;rw[hc];rfl),by omega⟩,?_⟩
 simp only[kQ,sI,Fr.nm,Fr.ex,Fr.out,E.at,E.sp,E.bD]
theorem E9(s:ByteArray)(e:E):bE [.str,.sl] [.v (.string s),e.sp] 0=True:=by apply eq_true;simp[bE,dC,aV]
theorem HH{e:E}{env:List Fr}{t:Ty}(A:Ask e env t):∃e' o t',hd e env=(e',o)/\Ask e' o t'/\t'.Q6=false/\hd e' o=(e',o)/\o.length<=env.length:=by
 rcases gP A.wf A.ty with⟨hb,hh⟩|⟨u,f,rfl,hh,hu⟩
 ·exact⟨e,env,t,kV hh,A,hb,kV hh,au _⟩
 ·obtain⟨x,a,b,t',hfe,hok,hx,ht',hf',hwf,hlt⟩:=py A.wf hh
  refine⟨f.ex,f.out,t',rZ hh,⟨by rw[hfe];exact hok,hwf,ht',hf'⟩,?_,?_,by omega⟩
  ·obtain⟨t1,_,_,rfl⟩:=dI hx (hfe ▸ ht');rfl
  ·rw[hfe];exact qL hwf
def vh:Vl->List UInt8
 | .l _=>[108]
 | .r _=>[114]
 | .f _=>[102]
 | .p _ _=>[112]
 |_=>[]
theorem Dh(v:Vl):aq Tryz.prog 54 [v.cG.lq] [] (bN (.v (.string (mk (vh v))))):=by
 cases v with
 |u=>exact AF _ _ ((bo).mpr trivial) (by simp)
 |el k=>exact AF _ _ ((bo).mpr trivial) (by simp)
 |l v=>exact v7 _ _
 |r v=>exact v7 _ _
 |f v=>exact v7 _ _
 |p v w=>exact v7 _ _
theorem Vm(v:Vl)(hv:v.fu 100):v.cG.at=(match v with| .u=>[117]| .el k=>yQ k|_=>[])/\Cq v.cG.at=(match v with| .el k=>(k:Int)|_=>-1):=by
 cases v with
 |el k=>exact⟨rfl,J9 k hv⟩
 |u=>exact⟨rfl,rfl⟩
 |_=>exact⟨rfl,rfl⟩
theorem Bz(n:Nat)(hn:n<=100):∀(m:Nat) (v:Vl),v.nodes<m->v.fu 100->∀e env t,Ask e env t->env.length+v.nodes<100000->aq Tryz.prog 56 [e.lq,.sl (kQ env),v.cG.lq,.v (.int .i64 (n:Int))] [] (bN (.v (.bool (eF n v (e,env)))))
 |0,v,hm,hv,e,env,t,A,hl=>by omega
 |
  m+1,v,hm,hv,e,env,t,A,hl=>by
  obtain⟨e',o,t',hhd,A',hb,hh',hlen⟩:=HH A
  rw[vX n v hhd hh',cU e,cU v.cG]
  refine T0 _ _ _ _ _ _ ((aV _).mpr trivial) ((cc _).mpr trivial) ((aV _).mpr trivial) ?_
  have hf:=Ud e env (by omega)
  rw[cU e,hhd]at hf
  have hvh:=Dh v
  rw[cU]at hvh
  unfold Mo
  refine aj hf ?_
  simp only[cU e',↓zq,zs,af,zt,aV,E9,bN]
  rcases fQ A'.ty hb A'.cl with⟨rfl,rfl⟩|⟨rfl,rfl⟩|⟨s,rfl,rfl,hp,h0,h1⟩|⟨x,a,b,t1,t2,rfl,hx,rfl,ha,hbb⟩|⟨x,a,b,t1,t2,rfl,hx,rfl,ha,hbb⟩|⟨x,a,b,t1,rfl,hx,rfl⟩
  ·refine⟨fun _=>⟨fun h=>by simp[E.at]at h,fun _=>aj (J1 _) ?_⟩,fun h=>by simp[E.at]at h⟩
   have hp0:ib (E.atom [48]).at=false:=rfl
   have hp1:ib [48]=false:=rfl
   cases v<;>simp[↓zq,zs,af,hp0,eF,hh',hp1]
  ·refine⟨fun _=>⟨fun _=>?_,fun h=>absurd rfl h⟩,fun h=>by simp[E.at]at h⟩
   have hp1:ib [49]=false:=rfl
   cases v<;>simp[eF,hh',hp1,Vl.cG,E.at]
  ·have hne:s≠[]:=A'.ok
   have h1':(s==[49])=false:=by simpa using h1
   refine⟨fun _=>⟨fun h=>absurd h h1,fun _=>aj (J1 _) ?_⟩,fun h=>absurd h hne⟩
   have hat:(E.atom s).at=s:=rfl
   simp only[hat,hp,↓zq,zs,af]
   refine⟨fun _=>aj (KS _) ?_,fun h=>by cases h⟩
   simp only[↓zq,zs,af]
   rw[wrap64 _ (by omega) (by omega)]
   refine aj (CL _ _ _) ?_
   simp only[↓zq,zs,af,Ed,(Vm v hv).2]
   cases v with
   |
    el k =>
    simp only[eF,hh',h1',hp,zf]
    congr 2
    rw[cJ];simp;omega
   |_=>simp[eF,hh',h1']
  ·have hok:=A'.ok
   obtain⟨ok1,ok2,ok3,_⟩:=hok
   obtain⟨f1,f2⟩:=fI A'.cl
   refine⟨fun h=>absurd rfl h,fun _=>aj (v7 x [a,b]) ?_⟩
   simp only[↓zq,zs,af]
   refine aj hvh ?_
   rw[hx]
   cases v with
   |
    l w =>
    simp only[Vl.nodes]at hl
    simp only[vh,Vl.cG,E.sp,E.bD,toNat_one,bn,↓zq,zs,af,zt,jt,gI,jo,nJ,au]
    refine⟨by simp,fun _=>⟨by omega,by omega,aj (Bz n hn m w (by simp only[Vl.nodes]at hm;omega) hv a o t1 ⟨ok2,A'.wf,ha,f1⟩ (by omega)) ?_⟩,fun h=>absurd rfl h⟩
    simp[↓zq,zs,af,eF,hh',hx]
   |
    r w =>
    simp only[Vl.nodes]at hl
    simp only[vh,Vl.cG,E.sp,E.bD,toNat_one,bn,↓zq,zs,af,zt,jt,gI,jo,nJ,au]
    refine⟨by simp,fun h=>by simp at h,fun _=>⟨fun _=>⟨by omega,by omega,aj (Bz n hn m w (by simp only[Vl.nodes]at hm;omega) hv b o t2 ⟨ok3,A'.wf,hbb,f2⟩ (by omega)) ?_⟩,fun h=>absurd rfl h⟩⟩
    simp[↓zq,zs,af,eF,hh',hx]
   |_=>simp[vh,↓zq,zs,af,zt,eF,hh',hx]
  ·have hok:=A'.ok
   obtain⟨ok1,ok2,ok3,_⟩:=hok
   obtain⟨f1,f2⟩:=fj A'.cl
   refine⟨fun h=>absurd rfl h,fun _=>aj (v7 x [a,b]) ?_⟩
   simp only[↓zq,zs,af]
   refine aj hvh ?_
   rw[hx]
   cases v with
   |
    p w z =>
    simp only[Vl.nodes]at hl
    simp only[vh,Vl.cG,E.sp,E.bD,toNat_one,bn,↓zq,zs,af,zt,jt,gI,jo,nJ,au]
    refine⟨by simp,fun h=>by simp at h,fun _=>⟨fun h=>by simp at h,fun _=>⟨fun _=>⟨by omega,by omega,aj (Bz n hn m w (by simp only[Vl.nodes]at hm;omega) hv.1 a o t1 ⟨ok2,A'.wf,ha,f1⟩ (by omega)) ?_⟩,fun h=>absurd rfl h⟩⟩⟩
    simp only[↓zq,zs,af,eF,hh',hx]
    refine⟨fun h=>⟨by omega,by omega,aj (Bz n hn m z (by simp only[Vl.nodes]at hm;omega) hv.2 b o t2 ⟨ok3,A'.wf,hbb,f2⟩ (by omega)) ?_⟩,fun h=>?_⟩
    ·simp[↓zq,zs,af,h]
    ·simp[h]
   |_=>simp[vh,↓zq,zs,af,zt,eF,hh',hx]
  ·obtain⟨t1',he1,h1,f1,hw1⟩:=jP A'.wf A'.ok hx A'.ty A'.cl
   cases he1
   have hok:=A'.ok
   obtain⟨ok1,ok2,ok3,_⟩:=hok
   refine⟨fun h=>absurd rfl h,fun _=>aj (v7 x [a,b]) ?_⟩
   simp only[↓zq,zs,af]
   refine aj hvh ?_
   rw[hx]
   cases v with
   |
    f w =>
    simp only[Vl.nodes]at hl
    simp only[vh,Vl.cG,E.sp,E.bD,toNat_one,bn,↓zq,zs,af,zt,jt,gI,jo,nJ,au]
    refine⟨by simp,fun h=>by simp at h,fun _=>⟨fun h=>by simp at h,fun _=>⟨fun h=>by simp at h,fun _=>⟨fun _=>aj (SY x a b o (by omega)) ?_,fun h=>absurd rfl h⟩⟩⟩⟩
    simp only[↓zq,zs,af,At,FW]
    refine⟨by omega,aj (Bz n hn m w (by simp only[Vl.nodes]at hm;omega) hv b (.mk a.at (.list [x,a,b]) o::o) t1 ⟨ok3,hw1,h1,f1⟩ (by simp;omega)) ?_⟩
    simp[↓zq,zs,af,eF,hh',hx]
   |_=>simp[vh,↓zq,zs,af,zt,eF,hh',hx]
theorem Uu(n:Nat)(hn:n<=100)(v:Vl)(hv:v.fu 100)(e:E)(env:List Fr)(t:Ty)(A:Ask e env t)(hl:env.length+v.nodes<100000):aq Tryz.prog 56 [e.lq,.sl (kQ env),v.cG.lq,.v (.int .i64 (n:Int))] [] (bN (.v (.bool (eF n v (e,env))))):=Bz n hn (v.nodes+1) v (by omega) hv e env t A hl
end Go.Proofs.Trees
namespace Go.Proofs.Trees
open Go Go.VL Go.RowKit
theorem Ox(l:List (List UInt8))(a:AV)(ha:cQ a l)(s:List UInt8)(hl:l.length<1000000):∀(k i:Nat),i+k=l.length->JY [a,.v (.string (mk s)),.v (.int .i64 (i:Int))] []
 (ox (if s∈l.drop i then(2,[.v (.bool true)],[])else(1,[],[])))
 |
  0,i,hi=>by
  refine NF _ _ _ ?_
  have hd:l.drop i=[]:=bY (by omega)
  simp only[I4,↓zq,zs,af,hd,ha.len]
  exact⟨ha.1,ha.1,fun h=>by omega,fun _=>by simp[ox]⟩
 |
  k+1,i,hi=>by
  have hlt:i<l.length:=by omega
  have hdr:l.drop i=l.getD i []::l.drop (i+1):=by
   rw[aL hlt];simp[aa,hlt]
  refine NF _ _ _ ?_
  simp only[I4,↓zq,zs,af,zt,ha.len,ha.idx hlt]
  refine⟨ha.1,ha.1,fun _=>⟨⟨ha.1,by omega,by omega⟩,by omega,fun h=>?_,fun h=>?_⟩,fun h=>by omega⟩
  ·rw[hdr,h];simp[ox]
  ·rw[bB i (by omega)]
   have:=Ox l a ha s hl k (i+1) (by omega)
   have e:s∈l.drop i↔s∈l.drop (i+1):=by
    rw[hdr,aI];exact⟨fun q=>q.resolve_left (fun q=>h q.symm),.inr⟩
   simp only[e];exact this
theorem yd(l:List (List UInt8))(a:AV)(ha:cQ a l)(s:List UInt8)(hl:l.length<1000000):aq Tryz.prog 139 [a,.v (.string (mk s))] [] (bN (.v (.bool (decide (s∈l))))):=by
 refine RJ _ _ ha.1 ?_
 unfold LN
 refine eC (Ox l a ha s hl l.length 0 (by omega)) (fun ys o e=>?_) (fun ys o e=>?_)
 ·simp only[aZ]at e
  split at e<;>cases e
  rename_i h
  simp[↓zq,zs,af,bN,h]
 ·simp only[aZ]at e
  split at e<;>cases e
  rename_i h
  simp[↓zq,zs,af,bN,h]
theorem yj(l:List (List UInt8))(a:AV)(ha:cQ a l)(s:List UInt8)(hl:l.length<1000000):aq Tryz.prog 129 [a,.v (.string (mk s))] [] (dh (.vec 0) [.vec 1 (bX (l++[s]))]):=by
 refine RI _ _ ha.1 ?_
 simp only[ON,↓zq,zs,af,ha.2,dh,aR]
 have:(bX l).length=l.length:=by simp[bX]
 refine⟨⟨ha.1,lg l,by omega⟩,⟨fun c hc=>(by simp at hc;rw[hc];rfl),by omega⟩,?_⟩
 first|exact⟨rfl,by rw[GF]⟩|rw[GF]
def lh:E->List (List UInt8)->List (List UInt8)->List (List UInt8)
 | .atom s,bd,l=>if s=[48]\/s=[49]\/s∈bd\/s∈l then l else l++[s]
 | .list [x,a,b],bd,l=>if x.at=[114,101,99]then lh b (bd++[a.at]) l else lh b bd (lh a bd l)
 | .list _,_,l=>l
theorem gx:∀(e:E) (bd l:List (List UInt8)),(lh e bd l).length<=l.length+e.sz
 | .atom s,bd,l=>by rw[lh];split<;>simp[E.sz]
 | .list [],bd,l=>by simp[lh]
 | .list [_],bd,l=>by simp[lh]
 | .list [_,_],bd,l=>by simp[lh]
 | .list (_::_::_::_::_),bd,l=>by simp[lh]
 |
  .list [x,a,b],bd,l=>by
  rw[lh]
  simp only[E.sz,E.jN]
  split
  ·have:=gx b (bd++[a.at]) l;omega
  ·have:=gx a bd l
   have:=gx b bd (lh a bd l)
   omega
theorem Fa:∀(e:E) (bd l:List (List UInt8)) (a:AV),e.ok->ki e=true->cQ a bd->bd.length+l.length+e.sz<100000->aq Tryz.prog 98 [e.lq,a,.vec 0] [.vec 1 (bX l)] (dh (.vec 1) [.dead,.vec 1 (bX (lh e bd l))])
 |
  .atom s,bd,l,a,hok,hty,ha,hl=>by
  simp only[E.sz]at hl
  refine Bm _ _ _ _ ((bo).mpr trivial) ha.1 ?_
  have hne:s≠[]:=hok
  have hll:(bX l).length=l.length:=by simp[bX]
  simp only[xQ,↓zq,zs,af,zt,dh,lh]
  refine⟨fun _=>⟨fun h=>?_,fun h=>⟨fun h1=>?_,fun h1=>?_⟩⟩,fun h=>absurd h hne⟩
  ·rw[if_pos (.inl h)]
  ·rw[if_pos (.inr (.inl h1))]
  ·refine aj (yd bd a ha s (by omega)) ?_
   simp only[↓zq,zs,af]
   refine⟨fun h2=>?_,fun h2=>aj (yd l _ (.of l) s (by omega)) ?_⟩
   ·rw[if_pos (.inr (.inr (.inl h2)))]
   ·simp only[↓zq,zs,af]
    refine⟨fun h3=>?_,fun h3=>⟨⟨fun c hc=>(by simp at hc;rw[hc];rfl),by omega⟩,?_⟩⟩
    ·rw[if_pos (.inr (.inr (.inr h3)))]
    ·rw[GF,if_neg]
     rintro(q|q|q|q)
     ·exact h q
     ·exact h1 q
     ·exact h2 q
     ·exact h3 q
 | .list [],_,_,_,_,h,_,_=>by cases h
 | .list [_],_,_,_,_,h,_,_=>by cases h
 | .list [_,_],_,_,_,_,h,_,_=>by cases h
 | .list (_::_::_::_::_),_,_,_,_,h,_,_=>by cases h
 |
  .list [x,y,z],bd,l,a,hok,hty,ha,hl=>by
  simp only[E.sz,E.jN]at hl
  obtain⟨ok1,ok2,ok3,_⟩:=hok
  refine Bm _ _ _ _ ((cc _).mpr trivial) ha.1 ?_
  simp only[xQ,E.bD,toNat_one,bn,↓zq,zs,af,zt,jt,gI,jo,nJ,au,dh]
  refine⟨fun h=>absurd rfl h,fun _=>aj (v7 x [y,z]) ?_⟩
  simp only[↓zq,zs,af,zt]
  have hyl:=gx y bd l
  rw[ki]at hty
  refine⟨fun h=>⟨by omega,by omega,by omega,aX (yj bd a ha y.at (by omega)) ?_⟩,fun h=>⟨by omega,by omega,?_⟩⟩
  ·have hz:ki z=true:=by
    rw[if_neg (by rw[h];decide),if_neg (by rw[h];decide),if_pos h]at hty
    simp only[aA]at hty;exact hty.2
   simp only[↓zq,zs,af,Ob.es,aM]
   refine⟨dk _,?_⟩
   refine aX (Fa z (bd++[y.at]) l _ ok3 hz (.of _) (by simp;omega)) ?_
   simp only[↓zq,zs,af]
   rw[lh,if_pos h]
  ·have hyz:ki y=true/\ki z=true:=by
    split at hty
    ·simpa using hty
    ·split at hty
     ·simpa using hty
     ·cases hty
   refine aX (Fa y bd l a ok2 hyz.1 ha (by omega)) ?_
   simp only[↓zq,zs,af]
   refine aX (Fa z bd (lh y bd l) a ok3 hyz.2 ha (by omega)) ?_
   simp only[↓zq,zs,af]
   rw[lh,if_neg h]
theorem kU{s:List UInt8}(h:ib s=true):dx s=false:=by
 cases hq:dx s with
 |false=>rfl
 |
  true =>
  obtain⟨c,r,rfl,h1,h2⟩:=mF h
  obtain⟨c',r',he,h3,h4⟩:=mF hq
  cases he;omega
theorem ny(s:List UInt8)(ar:List (List UInt8)):∀i,i<=ar.length->(bT s ar i=none↔s∉ar.take i)
 |0,_=>by simp[bT]
 |
  i+1,hi=>by
  have hlt:i<ar.length:=by omega
  have e:ar.getD i []=ar[i]:=by simp[aa,hlt]
  have e2:s∈ar.take (i+1)↔s∈ar.take i\/s=ar[i]:=by
   rw[show ar.take (i+1)=ar.take i++[ar[i]] from (List.take_append_getElem hlt).symm]
   simp only[aP,aU]
  rw[bT,e,e2]
  by_cases h:ar[i]=s
  ·rw[if_pos h]
   exact⟨fun h=>(by cases h),fun h'=>absurd (.inr h.symm) h'⟩
  ·rw[if_neg h,ny s ar i (by omega)]
   exact⟨fun h1 h2=>h2.elim h1 (fun h3=>h h3.symm),fun h1 h2=>h1 (.inl h2)⟩
theorem mg:∀(e:E) (ar l:List (List UInt8)) (t:Ty),cY e ar=some t->(∀w,w∈ar->dx w=true)->(lh e ar l).any dx=(l.any dx||cj t)
 |
  .atom s,ar,l,t,h,har=>by
  simp only[cY]at h
  rw[lh]
  split at h
  ·rename_i h0;cases h;rw[if_pos (.inl h0)];simp[cj]
  ·rename_i h0
   split at h
   ·rename_i h1;cases h;rw[if_pos (.inr (.inl h1))];simp[cj]
   ·rename_i h1
    split at h
    ·rename_i h2
     cases h
     have hn:=kU h2
     simp only[cj,hn]
     split
     ·simp
     ·simp[hn]
    ·split at h
     ·rename_i h2 h3
      have hlo:=ny s ar ar.length (au _)
      rw[List.take_length]at hlo
      cases hq:bT s ar ar.length with
      |
       some u =>
       rw[hq]at h;cases h
       have hm:s∈ar:=Classical.byContradiction fun hm=>by rw[hlo.2 hm]at hq;cases hq
       rw[if_pos (.inr (.inr (.inl hm)))];simp[cj]
      |
       none =>
       rw[hq]at h;cases h
       have hm:=hlo.1 hq
       simp only[cj,h3,Bool.or_true]
       split
       ·rename_i hh
        rcases hh with q|q|q|q
        ·exact absurd q h0
        ·exact absurd q h1
        ·exact absurd q hm
        ·rw[cy];exact⟨s,q,h3⟩
       ·simp[h3]
     ·cases h
 | .list [],_,_,_,h,_=>by cases h
 | .list [_],_,_,_,h,_=>by cases h
 | .list [_,_],_,_,_,h,_=>by cases h
 | .list (_::_::_::_::_),_,_,_,h,_=>by cases h
 |
  .list [x,a,b],ar,l,t,h,har=>by
  rw[lh]
  by_cases h0:x.at=[43]
  ·obtain⟨t1,t2,e1,e2,rfl⟩:=fU h0 h
   rw[if_neg (by rw[h0];decide),mg b ar _ t2 e2 har,mg a ar l t1 e1 har,cj,Bool.or_assoc]
  ·by_cases h1:x.at=[42]
   ·obtain⟨t1,t2,e1,e2,rfl⟩:=fD h1 h
    rw[if_neg (by rw[h1];decide),mg b ar _ t2 e2 har,mg a ar l t1 e1 har,cj,Bool.or_assoc]
   ·by_cases h2:x.at=[114,101,99]
    ·obtain⟨t1,hl,e1,rfl⟩:=dI h2 h
     rw[if_pos h2,mg b _ l t1 e1 (fun w hw=>by
      simp only[aP,aU]at hw
      rcases hw with hw|rfl
      ·exact har w hw
      ·exact hl),cj]
    ·rw[jz _ h0 h1 h2]at h;cases h
def j7(s:List UInt8):Option E:=match xC s with
 |none=>none
 |some e=>if(lh e [] []).any dx=true then none else some e
theorem Dx{s:List UInt8}:xF s=match j7 s with|none=>none|some e=>cY e []:=by
 unfold xF j7
 rw[vQ]
 cases he:xC s with
 |none=>rfl
 |
  some e =>
  obtain⟨h1,h2,h3⟩:=qO he
  have hs:=jq e []
  rw[h2]at hs
  obtain⟨t,ht⟩:=a8.1 hs
  have ha:=mg e [] [] t ht (fun w hw=>by cases hw)
  simp only[ht,tT,ha,List.any_nil,Bool.false_or]
  cases hf:cj t<;>simp[ht]
theorem ir{s:List UInt8}{e:E}(h:j7 s=some e):∃t,xF s=some t/\Ask e [] t/\ki e=true/\e.sz<=8000/\t.atoms<=400/\rM s=some e:=by
 have h0:=h
 unfold j7 at h
 split at h
 ·cases h
 ·rename_i e' he
  split at h
  ·cases h
  ·rename_i hn
   cases h
   obtain⟨h1,h2,h3⟩:=qO he
   obtain⟨hok,hsz⟩:=oH h1
   have hs:=jq e []
   rw[h2]at hs
   obtain⟨t,ht⟩:=a8.1 hs
   have ha:=mg e [] [] t ht (fun w hw=>by cases hw)
   rw[ha]at hn
   refine⟨t,by rw[Dx,h0];exact ht,⟨hok,.nil,ht,by simpa using hn⟩,h2,hsz,?_,h1⟩
   rw[<-kG e [] t ht];exact h3
theorem nY{s:List UInt8}(h:j7 s=none):xF s=none:=by rw[Dx,h]
theorem K5(e:E)(l:List (List UInt8))(hl:l.length<1000000):∀(k i:Nat),i+k=l.length->G4 [.v (.int .i64 (i:Int))] [.cells [.v (.string (mk [])),.v (.slice none 0 0)],.cells [.v (.string (mk e.at)),e.sp],.vec 1 (bX l)]
 (ox (if(l.drop i).any dx=true then(2,[.v (.bool false)],[.cells [.v (.string (mk e.at)),e.sp]])else(1,[],[.cells [.v (.string (mk [])),.v (.slice none 0 0)],.cells [.v (.string (mk e.at)),e.sp]])))
 |
  0,i,hi=>by
  refine OD _ _ _ _ _ _ ?_
  have hd:l.drop i=[]:=bY (by omega)
  have hll:(bX l).length=l.length:=by simp[bX]
  simp only[Jf,↓zq,zs,af,hd,hll,aV]
  exact⟨fun h=>by omega,fun _=>by simp[ox]⟩
 |
  k+1,i,hi=>by
  have hlt:i<l.length:=by omega
  have hll:(bX l).length=l.length:=by simp[bX]
  have hdr:l.drop i=l.getD i []::l.drop (i+1):=by
   rw[aL hlt];simp[aa,hlt]
  have hg:=(cQ.of l).idx hlt
  simp only[fy]at hg
  refine OD _ _ _ _ _ _ ?_
  simp only[Jf,↓zq,zs,af,zt,hll,hg,aV]
  refine⟨fun _=>⟨by omega,by omega,aj (Ip _) ?_⟩,fun h=>by omega⟩
  simp only[↓zq,zs,af,hdr,List.any_cons]
  refine⟨fun h=>?_,fun h=>?_⟩
  ·rw[h];simp[ox]
  ·rw[h,bB i (by omega)]
   simp only[Bool.false_or]
   exact K5 e l hl k (i+1) (by omega)
theorem Jb(s:List UInt8):aq Tryz.prog 53 [.v (.string (mk s))] [] (iU (j7 s) (j7 s).isSome):=by
 refine R9 _ ?_
 unfold M4
 refine aQ (IE s) (iU.ne _ _ (fun h=>h)) ?_
 rintro r o ⟨c,d,hd,rfl,hh⟩
 have hhas:bE [.str,.sl] [.v (.string (mk c)),d] 0:=by simp[bE,dC,hd]
 simp only[↓zq,zs,af,zt]
 refine⟨hhas,fun h=>?_,fun h=>?_⟩
 ·have hn:xC s=none:=by cases hq:xC s<;>simp[hq]at h |-
  unfold j7
  rw[hn]
  exact⟨c,d,hd,rfl,fun h=>by cases h⟩
 ·obtain⟨e,he,hce⟩:=hh h
  obtain⟨h1,h2,h3⟩:=qO he
  obtain⟨hok,hsz⟩:=oH h1
  have hce':=hce
  rw[cU]at hce'
  simp only[AV.agg.injEq,List.cons.injEq,AV.v.injEq,Value.string.injEq,and_true]at hce'
  obtain⟨hc1,rfl⟩:=hce'
  have hc2:=mk_inj hc1
  subst hc2
  rw[<-cU]
  refine aX (Fa e [] [] _ hok h2 (.of []) (by simp;omega)) ?_
  have hfl:=gx e [] []
  simp only[↓zq,zs,af]
  have hLS:=K5 e (lh e [] []) (by simp at hfl;omega) (lh e [] []).length 0 (by omega)
  simp only[aZ]at hLS
  unfold j7
  rw[he]
  refine eC hLS (fun ys o e'=>?_) (fun ys o e'=>?_)
  ·split at e'<;>cases e'
   rename_i hn
   simp only[↓zq,zs,af,aV,if_neg hn]
   exact⟨e.at,e.sp,hd,rfl,fun _=>⟨e,rfl,(cU e).symm⟩⟩
  ·split at e'<;>cases e'
   rename_i hn
   simp only[↓zq,zs,af,aV,if_pos hn]
   exact⟨e.at,e.sp,hd,rfl,fun h=>by cases h⟩
def mZ(s v:List UInt8)(n:Int):Option Vl:=match j7 s,rp v with
 |some e,some w=>if(0<=n/\n<=100)/\eF n.toNat w (e,[])=true then some w else none
 |_,_=>none
theorem s5{s v:List UInt8}{n:Int}{w:Vl}(h:mZ s v n=some w):∃e t m,j7 s=some e/\rp v=some w/\xF s=some t/\Ask e [] t/\n=(m:Nat)/\m<=100/\eF m w (e,[])=true:=by
 unfold mZ at h
 split at h
 ·rename_i e w' he hw
  split at h
  ·rename_i hh
   cases h
   obtain⟨t,h1,h2,_⟩:=ir he
   exact⟨e,t,n.toNat,he,hw,h1,h2,by omega,by omega,hh.2⟩
  ·cases h
 ·cases h
theorem M3(s v:List UInt8)(n:Int):aq Tryz.prog 41 [.v (.string (mk s)),.v (.string (mk v)),.v (.int .i64 n)] [] (bN (.cv [iJ (xF s),iT (mZ s v n)])):=by
 refine TX _ _ _ ?_
 unfold Mf
 refine aj (NC s) ?_
 simp only[↓zq,zs,af,iL]
 refine aj (RV v) ?_
 simp only[↓zq,zs,af,fO,bN]
 unfold mZ
 cases he:j7 s with
 |none=>rw[nY he];cases rp v<;>simp[iJ,iT,↓zq,zs,af]
 |
  some e =>
  obtain⟨t,h1,h2,h3,h4,h5,_⟩:=ir he
  rw[h1]
  cases hv:rp v with
  |none=>simp only[iJ,iT,aE,fX,↓zq,zs,af];exact⟨fun h=>(by cases h),fun _=>⟨fun _=>trivial,fun h=>(by cases h)⟩⟩
  |
   some w =>
   obtain⟨h6,h7,h8⟩:=mL hv
   simp only[iJ,iT,aE,fX,aO,fg,↓zq,zs,af]
   refine⟨fun h=>(by cases h),fun _=>⟨fun h=>(by cases h),fun _=>⟨fun h=>?_,fun h=>⟨fun h'=>?_,fun h'=>?_⟩⟩⟩⟩
   ·rw[if_neg (by omega)]
   ·rw[if_neg (by omega)]
   ·obtain⟨m,rfl⟩:∃m:Nat,n=(m:Int):=⟨n.toNat,by omega⟩
    have hi:=PS m (by omega) (w.nodes+1) w (by omega) h7 e [] t h2 (by simp;omega)
    unfold qY at hi
    refine aj hi ?_
    simp only[↓zq,zs,af,bF]
    refine⟨fun hq=>?_,fun hq=>?_⟩
    ·rw[if_neg (by rw[hq];simp)]
    ·rw[if_pos ⟨by omega,hq⟩]
theorem FF(s v:List UInt8)(n:Int):aq Tryz.prog 27 [.v (.string (mk s)),.v (.string (mk v)),.v (.int .i64 n)] [] (bN (.v (.bool (mZ s v n).isSome))):=by
 refine Rj _ _ _ ?_
 unfold Pu
 refine aQ (Jb s) (iU.ne _ _ (fun h=>h)) ?_
 rintro r o ⟨c,d,hd,rfl,hh⟩
 have hhas:bE [.str,.sl] [.v (.string (mk c)),d] 0:=by simp[bE,dC,hd]
 simp only[↓zq,zs,af,zt]
 refine⟨hhas,?_⟩
 refine aQ (HY v) (iU.ne _ _ (fun h=>by cases hq:rp v<;>simp[hq]at h |-)) ?_
 rintro r o ⟨c',d',hd',rfl,hh'⟩
 have hhas':bE [.str,.sl] [.v (.string (mk c')),d'] 0:=by simp[bE,dC,hd']
 simp only[↓zq,zs,af,zt,bN]
 refine⟨hhas',fun h=>⟨fun h2=>?_,fun h2=>?_⟩,fun h=>?_⟩
 ·obtain⟨e,he,hce⟩:=hh h
  obtain⟨t,h1,hA,h3,h4,h5,_⟩:=ir he
  obtain⟨w,hw⟩:=a8.1 h2
  obtain⟨e2,he2,hce2⟩:=hh' h2
  rw[hw]at he2
  cases he2
  obtain⟨h6,h7,h8⟩:=mL hw
  refine aj (CL _ _ _) ?_
  simp only[↓zq,zs,af,Ed,mZ,he,hw]
  refine⟨fun hq=>?_,fun hq=>?_⟩
  ·have hq':0<=n/\n<=100:=by simpa using hq
   obtain⟨m,rfl⟩:∃m:Nat,n=(m:Int):=⟨n.toNat,by omega⟩
   rw[hce,hce2]
   have:=Uu m (by omega) w h7 e [] t hA (by simp;omega)
   rw[show kQ []=[] from rfl]at this
   refine aj this ?_
   simp only[↓zq,zs,af,bF]
   by_cases hb:eF m w (e,[])=true
   ·rw[if_pos ⟨hq',hb⟩,hb];rfl
   ·rw[if_neg (fun h=>hb h.2)]
    rw[Bool.not_eq_true]at hb
    rw[hb];rfl
  ·have hq':¬(0<=n/\n<=100):=by simpa using hq
   rw[if_neg (fun h=>hq' h.1)];rfl
 ·have hn:rp v=none:=by cases hq:rp v<;>simp[hq]at h2 |-
  unfold mZ
  rw[hn];cases j7 s<;>rfl
 ·have hn:j7 s=none:=by cases hq:j7 s<;>simp[hq]at h |-
  unfold mZ
  rw[hn];rfl
end Go.Proofs.Trees
namespace Go.Proofs.Trees
open Go Go.VL Go.RowKit
inductive Tg where
 |nm (s:List UInt8)
 |bd (k:Nat)
 deriving DecidableEq
def Tg.up:Tg->Tg
 | .nm s=>.nm s
 | .bd k=>.bd (k+1)
def eH:Ty->Tg->Bool
 | .name s,.nm s'=>decide (s=s')
 | .bound u,.bd k=>decide (u=k)
 |_,_=>false
abbrev Hl:=Vl×Vl
def fp(g:Vl->Vl)(l:List Hl):List Hl:=l.map fun h=>(g h.1,h.2)
def jT(f:Ty->Tg->Vl->List Hl)(tg:Tg):Ty->Vl->List Hl
 | .plus a _,.l w=>fp .l (f a tg w)
 | .plus _ b,.r w=>fp .r (f b tg w)
 | .times a b,.p x y=>fp (fun c=>.l (.p c y)) (f a tg x)++fp (fun c=>.r (.p x c)) (f b tg y)
 | .rc a,.f w=>fp (fun c=>.f (.l c)) (f a tg.up w)++(f a (.bd 0) w).flatMap fun h=>fp (fun c=>.f (.r (.p h.1 c))) (f (.rc a) tg h.2)
 |_,_=>[]
def dY:Nat->Ty->Tg->Vl->List Hl
 |0,_,_,_=>[]
 |n+1,t,tg,v=>if eH t tg=true then [(.u,v)]else jT (dY n) tg t v
def stuck:Ty->Vl->Bool
 | .plus _ _,.l _=>false
 | .plus _ _,.r _=>false
 | .times _ _,.p _ _=>false
 | .rc _,.f _=>false
 |_,_=>true
def bQ(t:Ty)(tg:Tg)(v:Vl):List Hl:=dY v.nodes t tg v
theorem cN{g:Vl->Vl}{l:List Hl}{h:Hl}(hm:h∈fp g l):∃k,k∈l/\h=(g k.1,k.2):=by
 obtain⟨k,h1,h2⟩:=bO.1 hm
 exact⟨k,h1,h2.symm⟩
theorem kH{f g:Hl->List Hl}:∀{l:List Hl},(∀h,h∈l->f h=g h)->l.flatMap f=l.flatMap g
 |[],_=>rfl
 |h::l,hl=>by rw[bU,bU,hl h ak,kH (l:=l) fun k hk=>hl k (al _ hk)]
theorem fR:∀(n:Nat) (t:Ty) (tg:Tg) (v:Vl) (h:Hl),h∈dY n t tg v->h.2.nodes<=v.nodes/\h.1.nodes+4*h.2.nodes<=4*v.nodes+1
 |0,t,tg,v,h,hm=>by simp[dY]at hm
 |
  n+1,t,tg,v,h,hm=>by
  unfold dY at hm
  split at hm
  ·simp only[aU]at hm
   subst hm
   simp only[Vl.nodes];omega
  ·unfold jT at hm
   split at hm
   ·obtain⟨k,h1,rfl⟩:=cN hm
    have:=fR n _ _ _ k h1
    simp only[Vl.nodes];omega
   ·obtain⟨k,h1,rfl⟩:=cN hm
    have:=fR n _ _ _ k h1
    simp only[Vl.nodes];omega
   ·rcases aP.1 hm with hm|hm
    ·obtain⟨k,h1,rfl⟩:=cN hm
     have:=fR n _ _ _ k h1
     simp only[Vl.nodes];omega
    ·obtain⟨k,h1,rfl⟩:=cN hm
     have:=fR n _ _ _ k h1
     simp only[Vl.nodes];omega
   ·rcases aP.1 hm with hm|hm
    ·obtain⟨k,h1,rfl⟩:=cN hm
     have:=fR n _ _ _ k h1
     simp only[Vl.nodes];omega
    ·obtain⟨k,h1,h2⟩:=dA.1 hm
     obtain⟨k2,h3,rfl⟩:=cN h2
     have:=fR n _ _ _ k h1
     have:=fR n _ _ _ k2 h3
     simp only[Vl.nodes];omega
   ·simp at hm
theorem iE:∀(n m:Nat) (t:Ty) (tg:Tg) (v:Vl),v.nodes<=n->v.nodes<=m->dY n t tg v=dY m t tg v
 |0,m,t,tg,v,h,_=>by have:=cM v;omega
 |n+1,0,t,tg,v,_,h=>by have:=cM v;omega
 |
  n+1,m+1,t,tg,v,hn,hm=>by
  rw[dY,dY]
  split
  ·rfl
  ·unfold jT
   split
   ·simp only[Vl.nodes]at hn hm;rw[iE n m _ _ _ (by omega) (by omega)]
   ·simp only[Vl.nodes]at hn hm;rw[iE n m _ _ _ (by omega) (by omega)]
   ·simp only[Vl.nodes]at hn hm;rw[iE n m _ _ _ (by omega) (by omega),iE n m _ _ _ (by omega) (by omega)]
   ·rename_i a w
    simp only[Vl.nodes]at hn hm;rw[iE n m _ _ _ (by omega) (by omega),iE n m _ (.bd 0) _ (by omega) (by omega)]
    congr 1
    apply kH
    intro h hh
    have:=(fR _ _ _ _ _ hh).1
    rw[iE n m _ _ _ (by omega) (by omega)]
   ·rfl
theorem pW{n:Nat}(t:Ty)(tg:Tg){v:Vl}(h:v.nodes<=n):dY n t tg v=bQ t tg v:=iE _ _ _ _ _ h (au _)
theorem kk{t:Ty}{tg:Tg}(v:Vl)(h:eH t tg=true):bQ t tg v=[(.u,v)]:=by
 have:=cM v
 unfold bQ
 cases e:v.nodes with
 |zero=>omega
 |succ n=>rw[dY,if_pos h]
theorem jA(a b:Ty)(tg:Tg)(w:Vl):bQ (.plus a b) tg (.l w)=fp .l (bQ a tg w):=by
 unfold bQ;rw[show (Vl.l w).nodes=w.nodes+1 by simp[Vl.nodes];omega,dY,if_neg (by simp[eH])];rfl
theorem jw(a b:Ty)(tg:Tg)(w:Vl):bQ (.plus a b) tg (.r w)=fp .r (bQ b tg w):=by
 unfold bQ;rw[show (Vl.r w).nodes=w.nodes+1 by simp[Vl.nodes];omega,dY,if_neg (by simp[eH])];rfl
theorem gA(a b:Ty)(tg:Tg)(x y:Vl):bQ (.times a b) tg (.p x y)=fp (fun c=>.l (.p c y)) (bQ a tg x)++fp (fun c=>.r (.p x c)) (bQ b tg y):=by
 rw[bQ,show (Vl.p x y).nodes=(x.nodes+y.nodes)+1 by simp[Vl.nodes];omega,dY,if_neg (by simp[eH])]
 rw[jT,pW a tg (by omega),pW b tg (by omega)]
theorem gv(a:Ty)(tg:Tg)(w:Vl):bQ (.rc a) tg (.f w)=fp (fun c=>.f (.l c)) (bQ a tg.up w)++(bQ a (.bd 0) w).flatMap fun h=>fp (fun c=>.f (.r (.p h.1 c))) (bQ (.rc a) tg h.2):=by
 rw[bQ,show (Vl.f w).nodes=w.nodes+1 by simp[Vl.nodes];omega,dY,if_neg (by simp[eH])]
 rw[jT,pW a tg.up (au _),pW a (.bd 0) (au _)]
 congr 1
 apply kH
 intro h hh
 have:=(fR _ _ _ _ _ hh).1
 rw[pW (.rc a) tg this]
theorem dE{t:Ty}{tg:Tg}{v:Vl}(h:eH t tg=false)(h2:stuck t v=true):bQ t tg v=[]:=by
 unfold bQ
 cases e:v.nodes with
 |zero=>rfl
 |
  succ n =>
  rw[dY,if_neg (by rw[h];simp)]
  unfold jT
  split<;>first|(simp[stuck]at h2;done)|rfl
theorem gn{t:Ty}{tg:Tg}{v:Vl}{h:Hl}(hm:h∈bQ t tg v):h.2.nodes<=v.nodes/\h.1.nodes+4*h.2.nodes<=4*v.nodes+1:=fR _ _ _ _ _ hm
theorem iH(n:Nat):∀(m:Nat) (t:Ty) (tg:Tg) (v:Vl) (h:Hl),v.fu n->h∈dY m t tg v->h.1.fu n/\h.2.fu n
 |0,t,tg,v,h,hv,hm=>by simp[dY]at hm
 |
  m+1,t,tg,v,h,hv,hm=>by
  unfold dY at hm
  split at hm
  ·simp only[aU]at hm
   subst hm
   exact⟨trivial,hv⟩
  ·unfold jT at hm
   split at hm
   ·obtain⟨k,h1,rfl⟩:=cN hm
    exact(fun q=>iH n m _ _ _ k q h1) hv
   ·obtain⟨k,h1,rfl⟩:=cN hm
    exact(fun q=>iH n m _ _ _ k q h1) hv
   ·rcases aP.1 hm with hm|hm
    ·obtain⟨k,h1,rfl⟩:=cN hm
     obtain⟨q1,q2⟩:=iH n m _ _ _ k hv.1 h1
     exact⟨⟨q1,hv.2⟩,q2⟩
    ·obtain⟨k,h1,rfl⟩:=cN hm
     obtain⟨q1,q2⟩:=iH n m _ _ _ k hv.2 h1
     exact⟨⟨hv.1,q1⟩,q2⟩
   ·rcases aP.1 hm with hm|hm
    ·obtain⟨k,h1,rfl⟩:=cN hm
     exact(fun q=>iH n m _ _ _ k q h1) hv
    ·obtain⟨k,h1,h2⟩:=dA.1 hm
     obtain⟨k2,h3,rfl⟩:=cN h2
     obtain⟨q1,q2⟩:=(fun q=>iH n m _ _ _ k q h1) hv
     obtain⟨q3,q4⟩:=iH n m _ _ _ k2 q2 h3
     exact⟨⟨q1,q3⟩,q4⟩
   ·simp at hm
def jf(l:List Hl):Nat:=(l.map fun h=>h.2.nodes).sum
theorem sd(l r:List Hl):jf (l++r)=jf l+jf r:=by simp[jf]
theorem pO(g:Vl->Vl)(l:List Hl):jf (fp g l)=jf l:=by simp[jf,fp,Function.comp_def]
def lD(f:Tg->Nat)(T:List Tg):Nat:=(T.map f).sum
theorem pF(f g:Tg->Nat):∀T:List Tg,lD (fun x=>f x+g x) T=lD f T+lD g T
 |[]=>rfl
 |x::T=>by have:=pF f g T;simp only[lD,bA,List.sum_cons]at this |-;omega
theorem zH{f g:Tg->Nat}:∀{T:List Tg},(∀x,x∈T->f x<=g x)->lD f T<=lD g T
 |[],_=>au _
 |
  x::T,h=>by
  have:=zH (T:=T) fun y hy=>h y (al _ hy)
  have:=h x ak
  simp only[lD,bA,List.sum_cons]at *;omega
theorem qF{f:Tg->Nat}:∀{T:List Tg},(∀x,x∈T->f x=0)->lD f T=0
 |[],_=>rfl
 |
  x::T,h=>by
  have:=qF (T:=T) fun y hy=>h y (al _ hy)
  have:=h x ak
  simp only[lD,bA,List.sum_cons]at *;omega
theorem uz(g:Hl->Tg->Nat)(T:List Tg):∀l:List Hl,lD (fun x=>(l.map fun h=>g h x).sum) T=(l.map fun h=>lD (g h) T).sum
 |[]=>qF fun _ _=>rfl
 |
  h::l=>by
  have:=uz g T l
  simp only[bA,List.sum_cons]
  rw[pF,this]
theorem uj(f:Hl->List Hl):∀l:List Hl,jf (l.flatMap f)=(l.map fun h=>jf (f h)).sum
 |[]=>rfl
 |h::l=>by rw[bU,sd,uj f l];simp
theorem CW{f g:Hl->Nat}:∀{l:List Hl},(∀x,x∈l->f x<=g x)->(l.map f).sum<=(l.map g).sum
 |[],_=>au _
 |
  x::l,h=>by
  have:=CW (l:=l) fun y hy=>h y (al _ hy)
  have:=h x ak
  simp only[bA,List.sum_cons]at *;omega
theorem D7{t:Ty}{x y:Tg}(h:eH t x=true)(h':eH t y=true):x=y:=by
 cases t<;>cases x<;>cases y<;>simp[eH]at h h'<;>simp_all
theorem yR{t:Ty}(n:Nat):∀{T:List Tg},T.Nodup->lD (fun x=>if eH t x=true then n else 0) T<=n
 |[],_=>dM _
 |
  x::T,h=>by
  obtain⟨h1,h2⟩:=List.nodup_cons.1 h
  have ih:=yR (t:=t) n h2
  by_cases hx:eH t x=true
  ·have:lD (fun x=>if eH t x=true then n else 0) T=0:=qF fun y hy=>by
    rw[if_neg fun hy'=>h1 (by rw[D7 hx hy'];exact hy)]
   simp only[lD,bA,List.sum_cons]at *
   rw[if_pos hx];omega
  ·simp only[lD,bA,List.sum_cons]at *
   rw[if_neg hx];omega
theorem B5{T:List Tg}(h:T.Nodup):(Tg.bd 0::T.map Tg.up).Nodup:=by
 refine List.nodup_cons.2 ⟨fun hm=>?_,?_⟩
 ·obtain⟨x,_,e⟩:=bO.1 hm
  cases x<;>simp[Tg.up]at e
 ·refine List.Pairwise.map _ (fun a b hab e=>hab ?_) h
  cases a<;>cases b<;>simp[Tg.up]at e<;>simp_all
theorem apart:∀(n:Nat) (v:Vl),v.nodes<=n->∀(t:Ty) (T:List Tg),T.Nodup->lD (fun x=>jf (bQ t x v)) T<=v.nodes
 |0,v,h=>by have:=cM v;omega
 |
  n+1,v,hn=>by
  intro t T hT
  have base:∀(hno:∀x,eH t x=false->bQ t x v=[]),lD (fun x=>jf (bQ t x v)) T<=v.nodes:=fun hno=>by
   refine Nat.le_trans (zH fun x _=>?_) (yR (t:=t) v.nodes hT)
   cases e:eH t x with
   |true=>rw[kk v e];simp[jf]
   |false=>rw[hno x e];simp[jf]
  cases hm:stuck t v with
  |true=>exact base fun x hx=>dE hx hm
  |
   false =>
   unfold stuck at hm
   split at hm
   ·rename_i a b w
    simp only[Vl.nodes]at hn |-
    simp only[jA,pO]
    have:=apart n w (by omega) a T hT
    omega
   ·rename_i a b w
    simp only[Vl.nodes]at hn |-
    simp only[jw,pO]
    have:=apart n w (by omega) b T hT
    omega
   ·rename_i a b x y
    simp only[Vl.nodes]at hn |-
    simp only[gA,sd,pO]
    rw[pF]
    have:=apart n x (by omega) a T hT
    have:=apart n y (by omega) b T hT
    omega
   ·rename_i a w
    simp only[Vl.nodes]at hn |-
    simp only[gv,sd,pO,uj]
    rw[pF,uz]
    have h1:=apart n w (by omega) a _ (B5 hT)
    simp only[lD,bA,List.sum_cons,List.map_map]at h1
    have h2:((bQ a (.bd 0) w).map fun h=>lD (fun x=>jf (bQ (.rc a) x h.2)) T).sum<=jf (bQ a (.bd 0) w):=CW fun h hh=>by
     have:=(gn hh).1
     exact apart n h.2 (by omega) (.rc a) T hT
    simp only[lD,Function.comp_def]at h1 h2 |-
    omega
   ·cases hm
theorem sw(t:Ty)(tg:Tg)(v:Vl):jf (bQ t tg v)<=v.nodes:=by
 have:=apart v.nodes v (au _) t [tg] (by simp)
 simpa[lD]using this
theorem lO:∀l:List Hl,l.length<=jf l
 |[]=>dM _
 |
  h::l=>by
  have:=lO l
  have:=cM h.2
  simp only[jf,bA,List.sum_cons,aw]at *;omega
theorem nU(t:Ty)(tg:Tg)(v:Vl):(bQ t tg v).length<=v.nodes:=Nat.le_trans (lO _) (sw t tg v)
end Go.Proofs.Trees
namespace Go.Proofs.Trees
open Go Go.VL Go.RowKit
def gH(ar:List (List UInt8))(k:Nat):List UInt8:=ar.getD (ar.length-1-k) []
theorem fS{s:List UInt8}{ar:List (List UInt8)}:∀(i u:Nat),i<=ar.length->bT s ar i=some u->u<ar.length/\gH ar u=s
 |0,u,_,h=>by cases h
 |
  i+1,u,hi,h=>by
  rw[bT]at h
  split at h
  ·rename_i e
   cases h
   refine⟨by omega,?_⟩
   rw[gH,show ar.length-1-(ar.length-1-i)=i by omega];exact e
  ·exact fS i u (by omega) h
def wg:Ty->Tg->Bool
 | .plus a b,tg=>wg a tg||wg b tg
 | .times a b,tg=>wg a tg||wg b tg
 | .rc a,tg=>wg a tg.up
 |t,tg=>eH t tg
theorem jd:∀(n:Nat) (v:Vl),v.nodes<=n->∀(t:Ty) (tg:Tg),wg t tg=false->bQ t tg v=[]
 |0,v,h=>by have:=cM v;omega
 |
  n+1,v,hn=>by
  intro t tg ho
  cases hm:stuck t v with
  |
   true =>
   refine dE ?_ hm
   cases t<;>first|exact ho|rfl
  |
   false =>
   unfold stuck at hm
   split at hm
   ·simp only[Vl.nodes]at hn
    simp only[wg,cF]at ho
    rw[jA,jd n _ (by omega) _ _ ho.1];rfl
   ·simp only[Vl.nodes]at hn
    simp only[wg,cF]at ho
    rw[jw,jd n _ (by omega) _ _ ho.2];rfl
   ·simp only[Vl.nodes]at hn
    simp only[wg,cF]at ho
    rw[gA,jd n _ (by omega) _ _ ho.1,jd n _ (by omega) _ _ ho.2];rfl
   ·rename_i a w
    simp only[Vl.nodes]at hn
    have ho':wg a tg.up=false:=ho
    rw[gv,jd n _ (by omega) _ _ ho']
    have:(bQ a (.bd 0) w).flatMap (fun h=>fp (fun c=>.f (.r (.p h.1 c))) (bQ (.rc a) tg h.2))=(bQ a (.bd 0) w).flatMap (fun _=>[]):=kH fun h hh=>by
     have:=(gn hh).1
     rw[jd n h.2 (by omega) (.rc a) tg ho];rfl
    rw[this]
    induction bQ a (.bd 0) w<;>simp_all[fp]
   ·cases hm
theorem l4:∀(e:E) (ar:List (List UInt8)) (t:Ty) (k:Nat),cY e ar=some t->wg t (.bd k)=true->k<ar.length/\bT (gH ar k) ar ar.length=some k
 |
  .atom s,ar,t,k,ht,ho=>by
  simp only[cY]at ht
  split at ht
  ·cases ht;cases ho
  ·split at ht
   ·cases ht;cases ho
   ·split at ht
    ·cases ht;cases ho
    ·split at ht
     ·split at ht
      ·rename_i u hu
       cases ht
       have:u=k:=by simpa[wg,eH]using ho
       subst this
       obtain⟨h1,h2⟩:=fS _ _ (au _) hu
       exact⟨h1,by rw[h2];exact hu⟩
      ·cases ht;cases ho
     ·cases ht
 |
  .list [x,a,b],ar,t,k,ht,ho=>by
  by_cases h0:x.at=[43]
  ·obtain⟨t1,t2,h1,h2,rfl⟩:=fU h0 ht
   simp only[wg,bI]at ho
   rcases ho with ho|ho
   ·exact l4 a ar t1 k h1 ho
   ·exact l4 b ar t2 k h2 ho
  ·by_cases h1:x.at=[42]
   ·obtain⟨t1,t2,h1,h2,rfl⟩:=fD h1 ht
    simp only[wg,bI]at ho
    rcases ho with ho|ho
    ·exact l4 a ar t1 k h1 ho
    ·exact l4 b ar t2 k h2 ho
   ·by_cases h2:x.at=[114,101,99]
    ·obtain⟨t1,_,h3,rfl⟩:=dI h2 ht
     obtain⟨q1,q2⟩:=l4 b (ar++[a.at]) t1 (k+1) h3 ho
     simp only[an,aw,aF]at q1
     have hk:k<ar.length:=by omega
     have e:gH (ar++[a.at]) (k+1)=gH ar k:=by
      unfold gH
      rw[an,show ar.length+[a.at].length-1-(k+1)=ar.length-1-k by simp;omega]
      simp[aa,List.getElem?_append_left (show ar.length-1-k<ar.length by omega)]
     rw[e]at q2
     refine⟨hk,?_⟩
     have e2:(ar++[a.at]).length=ar.length+1:=by simp
     rw[e2,bT]at q2
     split at q2
     ·rw[e2]at q2;simp at q2
     ·rw[kZ _ _ _ _ (au _)]at q2
      cases hq:bT (gH ar k) ar ar.length with
      |none=>rw[hq]at q2;cases q2
      |some u=>rw[hq]at q2;simpa using q2
    ·rw[jz _ h0 h1 h2]at ht;cases ht
 | .list [],ar,t,k,ht,ho=>by cases ht
 | .list [_],ar,t,k,ht,ho=>by cases ht
 | .list [_,_],ar,t,k,ht,ho=>by cases ht
 | .list (_::_::_::_::_),ar,t,k,ht,ho=>by cases ht
theorem fH(w:List UInt8)(ar:List (List UInt8)):bT w (ar++[w]) (ar++[w]).length=some 0:=by
 have e2:(ar++[w]).length=ar.length+1:=by simp
 rw[e2,bT,if_pos (by simp[aa]),e2];simp
theorem j1{s w:List UInt8}(ar:List (List UInt8))(h:w≠s):bT s (ar++[w]) (ar++[w]).length=(bT s ar ar.length).map (·+1):=by
 have e2:(ar++[w]).length=ar.length+1:=by simp
 rw[e2,bT,if_neg (by simpa[aa]using h),kZ _ _ _ _ (au _)]
theorem H8{b:E}{ar:List (List UInt8)}{w:List UInt8}{t:Ty}{k:Nat}(hb:cY b (ar++[w])=some t)(hk:bT w ar ar.length=some k):wg t (.bd (k+1))=false:=by
 cases h:wg t (.bd (k+1))with
 |false=>rfl
 |
  true =>
  obtain⟨_,q2⟩:=l4 _ _ _ _ hb h
  obtain⟨h1,h2⟩:=fS _ _ (au _) hk
  have e:gH (ar++[w]) (k+1)=gH ar k:=by
   unfold gH
   rw[an,show ar.length+[w].length-1-(k+1)=ar.length-1-k by simp;omega]
   simp[aa,List.getElem?_append_left (show ar.length-1-k<ar.length by omega)]
  rw[e,h2,fH]at q2
  cases q2
def qc(s:List UInt8)(ar:List (List UInt8)):Tg:=match bT s ar ar.length with|some u=>.bd u|none=>.nm s
theorem wJ(w:List UInt8)(ar:List (List UInt8)):qc w (ar++[w])=.bd 0:=by rw[qc,fH]
theorem AJ{s w:List UInt8}(ar:List (List UInt8))(h:w≠s):qc s (ar++[w])=(qc s ar).up:=by
 rw[qc,qc,j1 ar h]
 cases bT s ar ar.length<;>rfl
theorem gR(n:Nat):∀(m:Nat) (v:Vl),v.nodes<=m->∀(e:E) (env:List Fr) (t:Ty),Ask e env t->eF n v (e,env)=true->∀(k:Nat) (f:Fr),env[k]?=some f->∀h,h∈bQ t (.bd k) v->eF n h.2 (f.ex,f.out)=true
 |0,v,hm=>by have:=cM v;omega
 |
  m+1,v,hm=>by
  intro e env t A hv k f hf h hh
  rcases gP A.wf A.ty with⟨hb,hq⟩|⟨u,g,rfl,hq,hu⟩
  ·have hhd:hd e env=(e,env):=kV hq
   rcases fQ A.ty hb A.cl with⟨rfl,rfl⟩|⟨rfl,rfl⟩|⟨s,rfl,rfl,hp,h0,h1⟩|⟨x,a,b,t1,t2,rfl,hx,rfl,ha,hbb⟩|⟨x,a,b,t1,t2,rfl,hx,rfl,ha,hbb⟩|⟨x,a,b,t1,rfl,hx,rfl⟩
   ·rw[dE rfl (by cases v<;>rfl)]at hh;cases hh
   ·rw[dE rfl (by cases v<;>rfl)]at hh;cases hh
   ·rw[dE rfl (by cases v<;>rfl)]at hh;cases hh
   ·obtain⟨ok1,ok2,ok3,_⟩:=A.ok
    obtain⟨f1,f2⟩:=fI A.cl
    cases v with
    |
     l w =>
     simp only[eF,hhd,hx,beq_self_eq_true,cb]at hv
     simp only[Vl.nodes]at hm
     rw[jA]at hh
     obtain⟨h2,h3,rfl⟩:=cN hh
     exact gR n m w (by omega) a env t1 ⟨ok2,A.wf,ha,f1⟩ hv k f hf h2 h3
    |
     r w =>
     simp only[eF,hhd,hx,beq_self_eq_true,cb]at hv
     simp only[Vl.nodes]at hm
     rw[jw]at hh
     obtain⟨h2,h3,rfl⟩:=cN hh
     exact gR n m w (by omega) b env t2 ⟨ok3,A.wf,hbb,f2⟩ hv k f hf h2 h3
    |_=>rw[dE rfl rfl]at hh;cases hh
   ·obtain⟨ok1,ok2,ok3,_⟩:=A.ok
    obtain⟨f1,f2⟩:=fj A.cl
    cases v with
    |
     p w w' =>
     simp only[eF,hhd,hx,beq_self_eq_true,cb,aA]at hv
     simp only[Vl.nodes]at hm
     rw[gA]at hh
     rcases aP.1 hh with hh|hh
     ·obtain⟨h2,h3,rfl⟩:=cN hh
      exact gR n m w (by omega) a env t1 ⟨ok2,A.wf,ha,f1⟩ hv.1 k f hf h2 h3
     ·obtain⟨h2,h3,rfl⟩:=cN hh
      exact gR n m w' (by omega) b env t2 ⟨ok3,A.wf,hbb,f2⟩ hv.2 k f hf h2 h3
    |_=>rw[dE rfl rfl]at hh;cases hh
   ·obtain⟨t1',he1,h1,f1,hw1⟩:=jP A.wf A.ok hx A.ty A.cl
    cases he1
    obtain⟨ok1,ok2,ok3,_⟩:=A.ok
    cases v with
    |
     f w =>
     simp only[eF,hhd,hx,beq_self_eq_true,cb]at hv
     simp only[Vl.nodes]at hm
     rw[gv]at hh
     have A':Ask b (.mk a.at (.list [x,a,b]) env::env) t1:=⟨ok3,hw1,h1,f1⟩
     rcases aP.1 hh with hh|hh
     ·obtain⟨h2,h3,rfl⟩:=cN hh
      exact gR n m w (by omega) b _ t1 A' hv (k+1) f (by simpa using hf) h2 h3
     ·obtain⟨kd,h2,h3⟩:=dA.1 hh
      obtain⟨h4,h5,rfl⟩:=cN h3
      have hkd:=gR n m w (by omega) b _ t1 A' hv 0 _ rfl kd h2
      have:=(gn h2).1
      exact gR n m kd.2 (by omega) (.list [x,a,b]) env _ A hkd k f hf h4 h5
    |_=>rw[dE rfl rfl]at hh;cases hh
  ·by_cases huk:u=k
   ·subst huk
    rw[hu]at hf;cases hf
    rw[kk v (by simp[eH])]at hh
    simp only[aU]at hh
    subst hh
    obtain⟨x,a,b,t',hfe,hok,hx,ht',hf',hwf,hlt⟩:=py A.wf hq
    rw[<-vX n v (rZ hq) (by rw[hfe];exact qL hwf)];exact hv
   ·rw[dE (by simpa[eH]using huk) (by cases v<;>rfl)]at hh;cases hh
end Go.Proofs.Trees
namespace Go.Proofs.Trees
open Go Go.VL Go.RowKit
inductive lz:AV->List Nat->Prop
 |nil:lz iW []
 |cons {m:Nat} {cs:List AV} {e:AV} {ids:List Nat} (hm:m∉ids) (h:lz e ids):lz (.ptr [.pid m cs,e]) (m::ids)
theorem lz.has{a:AV}{ids:List Nat}(h:lz a ids):LK.has .ptr a:=by
 cases h
 ·exact(gU).mpr trivial
 ·exact(cm _).mpr trivial
theorem lz.Vu{M:Mem}{a:AV}{ids:List Nat}(h:lz a ids):∀{v:Value},bK M dF a v->∀b,b∈ids->M.p b:=by
 induction h with
 |nil=>intro v _ b hb;cases hb
 |
  @cons m cs e ids hm h ih =>
  intro v hr b hb
  cases hr with
  |
   ptr _ _ _ off us hc hr =>
   have h0:=hr 0 (by simp)
   have h1:=hr 1 (by simp)
   simp only[bG,List.getD_cons_succ]at h0 h1
   rcases aI.1 hb with rfl|hb
   ·generalize us 0=u0 at h0
    cases h0 with
    |pid _ _ _ us hp _ _=>exact hp
   ·exact ih h1 b hb
theorem lz.nodup{a:AV}{ids:List Nat}(h:lz a ids):ids.Nodup:=by
 induction h with
 |nil=>simp
 |cons hm h ih=>exact List.nodup_cons.2 ⟨hm,ih⟩
theorem AQ(a b:AV)(S:Nat->Prop)(R:AV->Prop):Dd Nn cfg eI (cD eI) [.agg [.x a,.x b]] S (fun o=>aN o 7) R =
 .ai (LK.has .ptr a/\a.isNil=false) (.ai (LK.has .ptr a/\a.isNil=false) (.ai (LK.has .ptr ((a.deref.drop 3).headD .any)/\1<=(a.deref.drop 3).length)
  (.ai (∀ids:Nat->Nat,(∀o,¬S (ids o))->(True/\R (.cv [.agg [(a.deref.drop 3).headD .any,.ptr [.pid (ids 7) [a,b],b]],.pid (ids 7) [a,b]]))) (.done 0 [] [])))):=by kernel_rfl
def CI(t:Ty)(ea:AV)(ids:List Nat):AV->List Ob->Prop:=fun r o=>(∃m,m∉ids/\r=.cv [.agg [t.av,.ptr [.pid m [(Ty.rc t).av,ea],ea]],.pid m [(Ty.rc t).av,ea]])/\o=[]
theorem CI.ne(t:Ty)(ea:AV)(ids:List Nat):∃r o,CI t ea ids r o:=by
 have:∃m,m∉ids:=⟨ids.foldr max 0+1,fun h=>by
  have key:∀(l:List Nat) (x:Nat),x∈l->x<=l.foldr max 0:=by
   intro l
   induction l with
   |nil=>intro x hx;cases hx
   |
    cons y l ih =>
    intro x hx
    rcases aI.1 hx with rfl|hx
    ·simp only[List.foldr_cons];omega
    ·have:=ih x hx;simp only[List.foldr_cons];omega
  have:=key _ _ h
  omega⟩
 obtain⟨m,hm⟩:=this
 exact⟨_,_,⟨m,hm,rfl⟩,rfl⟩
theorem FN(t:Ty)(ea:AV)(ids:List Nat)(he:lz ea ids):aq Tryz.prog 70 [.agg [(Ty.rc t).av,ea]] [] (CI t ea ids):=by
 have hup:xX [.agg [(Ty.rc t).av,ea]] [.agg [.x (Ty.rc t).av,.x ea]]:=ag (bW (ag (bJ ((aE _).mpr trivial)) (ag (bJ he.has) aB))) aB
 refine aq.up hup ?_
 refine aq.Vo (cfg:=cfg) (F:=eI) (S:=fun b=>b∈ids) (sel:=fun o=>aN o 7) vK mixed (by kernel_rfl) (by kernel_rfl) (c:=cD eI) (by kernel_rfl) (by kernel_rfl) (fun M β vs hr b hb=>?_) ?_
 ·have h0:=hr 0 (by simp)
  simp only[bG]at h0
  obtain⟨us,_,hl,hq,_⟩:=gu h0
  have h1:=hq 1 (by simp at hl |-)
  simp only[List.getD_cons_succ,bG]at h1
  cases h1 with
  |x _ _ _ _ h=>exact he.Vu h b hb
 ·rw[AQ]
  simp only[Ty.av,↓zq,zs,af,aE]
  exact⟨by omega,fun ids' hf=>⟨ids' 7,hf 7,rfl⟩⟩
theorem OR(u:Nat)(hu:u<1000000):∀(k i:Nat) (ea:AV) (ids:List Nat),i+k=u->lz ea ids->k<=ids.length->Fh [ea,.v (.int .i64 (u:Int)),.v (.int .i64 (i:Int))] [] (fun t ys o=>t=1/\∃e',lz e' (ids.drop k)/\ys=[e']/\o=[])
 |
  0,i,ea,ids,hi,he,hk=>by
  refine Fx _ _ _ ?_
  have:i=u:=by omega
  subst this
  simp only[DO,↓zq,zs,af]
  exact⟨he.has,fun h=>by omega,fun _=>⟨ea,he,rfl⟩⟩
 |
  k+1,i,ea,ids,hi,he,hk=>by
  refine Fx _ _ _ ?_
  cases he with
  |nil=>simp at hk
  |
   @cons m cs e ids' hm h =>
   simp only[DO,↓zq,zs,af,h.has]
   refine⟨fun _=>⟨by omega,?_⟩,fun h=>by omega⟩
   rw[bB i (by omega)]
   exact OR u hu k (i+1) e ids' (by omega) h (by simpa using hk)
theorem TS(u:Nat)(ea:AV)(ids:List Nat)(he:lz ea ids)(hu:u<ids.length)(hl:ids.length<1000000):aq Tryz.prog 127 [.agg [(Ty.bound u).av,ea]] [] (fun r o=>(∃cs,r=.pid (ids.getD u 0) cs)/\o=[]):=by
 refine Qu _ _ ((aE _).mpr trivial) he.has ?_
 simp only[J0,Ty.av,↓zq,zs,af,he.has]
 refine⟨by omega,lM (OR u (by omega) u 0 ea ids (by omega) he (by omega)) ?_ (fun ys o h=>by cases h.1)⟩
 rintro ys o ⟨_,e',he',rfl,rfl⟩
 have hd:ids.drop u=ids.getD u 0::ids.drop (u+1):=by
  rw[aL hu];simp[aa,hu]
 rw[hd]at he'
 cases he' with
 |
  @cons m cs e ids' hm h =>
  have hp:LK.has .ptr (AV.pid (ids.getD u 0) cs):=.inr (.inr ⟨_,_,rfl⟩)
  simp only[↓zq,zs,af,hp]
  exact⟨by omega,cs,rfl⟩
inductive BK:Tg->List Nat->List UInt8->AV->Prop
 |nm (s:List UInt8) (ids:List Nat):BK (.nm s) ids s iW
 |bd {k:Nat} {ids:List Nat} (hk:k<ids.length) (cs:List AV) (s:List UInt8):BK (.bd k) ids s (.pid (ids.getD k 0) cs)
theorem BK.has{tg:Tg}{ids:List Nat}{s:List UInt8}{fr:AV}(h:BK tg ids s fr):LK.has .ptr fr:=by
 cases h
 ·exact(gU).mpr trivial
 ·exact .inr (.inr ⟨_,_,rfl⟩)
theorem BK.push{tg:Tg}{ids:List Nat}{s:List UInt8}{fr:AV}(h:BK tg ids s fr)(m:Nat):BK tg.up (m::ids) s fr:=by
 cases h with
 |nm=>exact .nm _ _
 |
  @bd k _ hk cs =>
  have:=BK.bd (k:=k+1) (ids:=m::ids) (by simpa using hk) cs s
  simpa[Tg.up]using this
theorem AT{ids:List Nat}(h:ids.Nodup){i j:Nat}(hi:i<ids.length)(hj:j<ids.length)(he:ids.getD i 0=ids.getD j 0):i=j:=by
 have e1:ids.getD i 0=ids[i]:=by simp[aa,hi]
 have e2:ids.getD j 0=ids[j]:=by simp[aa,hj]
 rw[e1,e2]at he
 have hp:=List.pairwise_iff_getElem.1 h
 rcases Nat.lt_trichotomy i j with hlt|rfl|hlt
 ·exact absurd he (hp i j hi hj hlt)
 ·rfl
 ·exact absurd he.symm (hp j i hj hi hlt)
theorem UM(t:Ty)(tg:Tg)(ea:AV)(ids:List Nat)(s:List UInt8)(fr:AV)(he:lz ea ids)(ht:BK tg ids s fr)(hu:∀u,t=.bound u->u<ids.length)(hl:ids.length<1000000) :
 aq Tryz.prog 106 [.agg [.v (.string (mk s)),fr],.agg [t.av,ea]] [] (bN (.v (.bool (eH t tg)))):=by
 refine TM _ _ _ _ ht.has ((aE _).mpr trivial) he.has ?_
 cases ht with
 |
  nm s =>
  cases t<;>simp[FV,Ty.av,↓zq,zs,af,zt,bN,eH]
  rw[cJ];simp
 |
  @bd k _ hk cs s =>
  generalize hm0:ids.getD k 0=m0
  have hp:LK.has .ptr (AV.pid m0 cs):=.inr (.inr ⟨_,_,rfl⟩)
  have hn:(AV.pid m0 cs).isNil=false:=rfl
  cases t with
  |
   bound u =>
   have hu:=hu u rfl
   simp only[FV,Ty.av,↓zq,zs,af,hp,hn]
   refine⟨fun _=>⟨by omega,fun _=>?_,fun h=>absurd rfl h⟩,fun h=>by cases h⟩
   have hb:=TS u ea ids he hu hl
   simp only[Ty.av]at hb
   refine aQ hb ⟨_,_,⟨[],rfl⟩,rfl⟩ ?_
   rintro r o ⟨⟨cs',rfl⟩,rfl⟩
   have hp':LK.has .ptr (AV.pid (ids.getD u 0) cs'):=.inr (.inr ⟨_,_,rfl⟩)
   simp only[↓zq,zs,af,hp',AV.sN,AV.DQ,bN,eH]
   congr 2
   rw[cJ,Nat.beq_eq,decide_eq_true_eq,<-hm0]
   exact⟨fun h=>AT he.nodup hu hk h,fun h=>by rw[h]⟩
  |_=>simp[FV,Ty.av,↓zq,zs,af,hp,hn,bN,eH]
end Go.Proofs.Trees
namespace Go.Proofs.Trees
open Go Go.VL Go.RowKit
theorem AM(b:Int)(a:AV)(h:LK.ptr.has a):aq Tryz.prog 85 [.v (.int .u8 b),a] [] (bN (.ptr [.v (.int .u8 b),.v (.string (mk [])),a,iW])):=by
 refine SV _ _ h ?_
 simp[Q2,↓zq,zs,af,bN]
end Go.Proofs.Trees
namespace Go.Proofs.Trees
open Go Go.VL Go.RowKit
def gJ(l:List Hl):List (List AV):=l.map fun h=>[h.1.cI,h.2.cI]
theorem dU(l:List Hl):(gJ l).length=l.length:=by simp[gJ]
theorem ju{l:List Hl}{i:Nat}(hi:i<l.length):(gJ l).getD i []=[(l[i]).1.cI,(l[i]).2.cI]:=by simp[gJ,aa,hi]
theorem pT(out:List Hl)(a b:Vl):gJ out++[[a.cI,b.cI]]=gJ (out++[(a,b)]):=by simp[gJ]
theorem gN(g:Vl->Vl)(l:List Hl){i:Nat}(hi:i<l.length):fp g (l.drop i)=(g (l[i]).1,(l[i]).2)::fp g (l.drop (i+1)):=by
 rw[aL hi];rfl
theorem gf(g:Vl->Vl)(l:List Hl):(fp g l).length=l.length:=by simp[fp]
theorem CY(a b:AV):cq 2 [[a,b]]:=fun c hc=>by simp at hc;rw[hc];rfl
theorem Qp(x0:AV)(hx0:LK.ptr.has x0)(g:Vl->Vl)(hg:∀c:Vl,aq Tryz.prog 110 [c.cI,.ref 0 0] [.cells [x0]] (dh (g c).cI [.cells [x0]]))(l:List Hl):∀(k i:Nat) (out:List Hl),i+k=l.length->out.length+k<=1000000->l.length<=1000000 ->
 IT [.sl (gJ l),.v (.int .i64 (l.length:Int)),.v (.int .i64 (i:Int))] [.cells [x0],.cells [.any],.vec 2 (gJ out)] (gK 1 [] [.cells [x0],.cells [.any],.vec 2 (gJ (out++fp g (l.drop i)))])
 |
  0,i,out,hi,ho,hl=>by
  refine Nj _ _ _ _ _ ?_
  have:i=l.length:=by omega
  subst this
  simp only[HM,↓zq,zs,af,dU,hx0]
  exact⟨fun h=>by omega,fun _=>by simp[gK,fp]⟩
 |
  k+1,i,out,hi,ho,hl=>by
  have hlt:i<l.length:=by omega
  refine Nj _ _ _ _ _ ?_
  simp only[HM,↓zq,zs,af,zt,dU,ju hlt,aO,bE,hx0]
  refine⟨fun _=>⟨by omega,by omega,?_⟩,fun h=>by omega⟩
  refine aX (hg _) ?_
  simp only[↓zq,zs,af,aO,aH,bN,dh,hx0]
  refine⟨⟨CY _ _,by omega⟩,?_⟩
  rw[bB i (by omega)]
  have:=Qp x0 hx0 g hg l k (i+1) (out++[(g (l[i]).1,(l[i]).2)]) (by omega) (by simp;omega) hl
  rw[aY]at this
  rw[gN g l hlt,pT]
  exact this
theorem O5(x0:AV)(hx0:LK.ptr.has x0)(g:Vl->Vl)(hg:∀c:Vl,aq Tryz.prog 110 [c.cI,.ref 0 0] [.cells [x0]] (dh (g c).cI [.cells [x0]]))(l out:List Hl)(hl:out.length+l.length<=1000000) :
 aq Tryz.prog 107 [.sl (gJ l),.fn 110 [.ref 0 0],.ref 1 0] [.cells [x0],.cells [.vec 2],.vec 2 (gJ out)] (dh .any [.cells [x0],.cells [.vec 2],.vec 2 (gJ (out++fp g l))]):=by
 refine RN _ _ _ ((cc _).mpr trivial) hx0 ?_
 simp only[Pz,↓zq,zs,af,dU]
 have h:=Qp x0 hx0 g hg l l.length 0 out (by omega) (by omega) (by omega)
 rw[aZ]at h
 refine cA h ?_
 simp[↓zq,zs,af,dh,aH,hx0]
theorem PI(x0:AV)(hx0:LK.ptr.has x0)(g:Vl->Vl)(hg:∀c:Vl,aq Tryz.prog 111 [c.cI,.ref 0 0] [.cells [x0]] (dh (g c).cI [.cells [x0]]))(l:List Hl):∀(k i:Nat) (out:List Hl),i+k=l.length->out.length+k<=1000000->l.length<=1000000 ->
 IA [.sl (gJ l),.v (.int .i64 (l.length:Int)),.v (.int .i64 (i:Int))] [.cells [x0],.cells [.any],.vec 2 (gJ out)] (gK 1 [] [.cells [x0],.cells [.any],.vec 2 (gJ (out++fp g (l.drop i)))])
 |
  0,i,out,hi,ho,hl=>by
  refine Md _ _ _ _ _ ?_
  have:i=l.length:=by omega
  subst this
  simp only[HA,↓zq,zs,af,dU,hx0]
  exact⟨fun h=>by omega,fun _=>by simp[gK,fp]⟩
 |
  k+1,i,out,hi,ho,hl=>by
  have hlt:i<l.length:=by omega
  refine Md _ _ _ _ _ ?_
  simp only[HA,↓zq,zs,af,zt,dU,ju hlt,aO,bE,hx0]
  refine⟨fun _=>⟨by omega,by omega,?_⟩,fun h=>by omega⟩
  refine aX (hg _) ?_
  simp only[↓zq,zs,af,aO,aH,bN,dh,hx0]
  refine⟨⟨CY _ _,by omega⟩,?_⟩
  rw[bB i (by omega)]
  have:=PI x0 hx0 g hg l k (i+1) (out++[(g (l[i]).1,(l[i]).2)]) (by omega) (by simp;omega) hl
  rw[aY]at this
  rw[gN g l hlt,pT]
  exact this
theorem TD(x0:AV)(hx0:LK.ptr.has x0)(g:Vl->Vl)(hg:∀c:Vl,aq Tryz.prog 111 [c.cI,.ref 0 0] [.cells [x0]] (dh (g c).cI [.cells [x0]]))(l out:List Hl)(hl:out.length+l.length<=1000000) :
 aq Tryz.prog 107 [.sl (gJ l),.fn 111 [.ref 0 0],.ref 1 0] [.cells [x0],.cells [.vec 2],.vec 2 (gJ out)] (dh .any [.cells [x0],.cells [.vec 2],.vec 2 (gJ (out++fp g l))]):=by
 refine Sc _ _ _ ((cc _).mpr trivial) hx0 ?_
 simp only[Qf,↓zq,zs,af,dU]
 have h:=PI x0 hx0 g hg l l.length 0 out (by omega) (by omega) (by omega)
 rw[aZ]at h
 refine cA h ?_
 simp[↓zq,zs,af,dh,aH,hx0]
theorem Mk(x0:AV)(hx0:LK.ptr.has x0)(g:Vl->Vl)(hg:∀c:Vl,aq Tryz.prog 113 [c.cI,.ref 0 0] [.cells [x0]] (dh (g c).cI [.cells [x0]]))(l:List Hl):∀(k i:Nat) (out:List Hl),i+k=l.length->out.length+k<=1000000->l.length<=1000000 ->
 Hh [.sl (gJ l),.v (.int .i64 (l.length:Int)),.v (.int .i64 (i:Int))] [.cells [x0],.cells [.any],.vec 2 (gJ out)] (gK 1 [] [.cells [x0],.cells [.any],.vec 2 (gJ (out++fp g (l.drop i)))])
 |
  0,i,out,hi,ho,hl=>by
  refine QI _ _ _ _ _ ?_
  have:i=l.length:=by omega
  subst this
  simp only[Ke,↓zq,zs,af,dU,hx0]
  exact⟨fun h=>by omega,fun _=>by simp[gK,fp]⟩
 |
  k+1,i,out,hi,ho,hl=>by
  have hlt:i<l.length:=by omega
  refine QI _ _ _ _ _ ?_
  simp only[Ke,↓zq,zs,af,zt,dU,ju hlt,aO,bE,hx0]
  refine⟨fun _=>⟨by omega,by omega,?_⟩,fun h=>by omega⟩
  refine aX (hg _) ?_
  simp only[↓zq,zs,af,aO,aH,bN,dh,hx0]
  refine⟨⟨CY _ _,by omega⟩,?_⟩
  rw[bB i (by omega)]
  have:=Mk x0 hx0 g hg l k (i+1) (out++[(g (l[i]).1,(l[i]).2)]) (by omega) (by simp;omega) hl
  rw[aY]at this
  rw[gN g l hlt,pT]
  exact this
theorem RA(x0:AV)(hx0:LK.ptr.has x0)(g:Vl->Vl)(hg:∀c:Vl,aq Tryz.prog 113 [c.cI,.ref 0 0] [.cells [x0]] (dh (g c).cI [.cells [x0]]))(l out:List Hl)(hl:out.length+l.length<=1000000) :
 aq Tryz.prog 107 [.sl (gJ l),.fn 113 [.ref 0 0],.ref 1 0] [.cells [x0],.cells [.vec 2],.vec 2 (gJ out)] (dh .any [.cells [x0],.cells [.vec 2],.vec 2 (gJ (out++fp g l))]):=by
 refine Us _ _ _ ((cc _).mpr trivial) hx0 ?_
 simp only[Nu,↓zq,zs,af,dU]
 have h:=Mk x0 hx0 g hg l l.length 0 out (by omega) (by omega) (by omega)
 rw[aZ]at h
 refine cA h ?_
 simp[↓zq,zs,af,dh,aH,hx0]
theorem Pm(g:Vl->Vl)(hg:∀c:Vl,aq Tryz.prog 114 [c.cI] [] (bN (g c).cI))(l:List Hl):∀(k i:Nat) (out:List Hl),i+k=l.length->out.length+k<=1000000->l.length<=1000000 ->
 Ju [.v (.func (.func 114) #[] #[]),.sl (gJ l),.v (.int .i64 (l.length:Int)),.v (.int .i64 (i:Int))] [.cells [.any],.vec 2 (gJ out)] (gK 1 [] [.cells [.any],.vec 2 (gJ (out++fp g (l.drop i)))])
 |
  0,i,out,hi,ho,hl=>by
  refine KR _ _ _ _ ?_
  have:i=l.length:=by omega
  subst this
  simp only[Ja,↓zq,zs,af,dU]
  exact⟨fun h=>by omega,fun _=>by simp[gK,fp]⟩
 |
  k+1,i,out,hi,ho,hl=>by
  have hlt:i<l.length:=by omega
  refine KR _ _ _ _ ?_
  simp only[Ja,↓zq,zs,af,zt,dU,ju hlt,aO,bE]
  refine⟨fun _=>⟨by omega,by omega,?_⟩,fun h=>by omega⟩
  refine aj (hg _) ?_
  simp only[↓zq,zs,af,aO,aH,bN,dh]
  refine⟨⟨CY _ _,by omega⟩,?_⟩
  rw[bB i (by omega)]
  have:=Pm g hg l k (i+1) (out++[(g (l[i]).1,(l[i]).2)]) (by omega) (by simp;omega) hl
  rw[aY]at this
  rw[gN g l hlt,pT]
  exact this
theorem UO(g:Vl->Vl)(hg:∀c:Vl,aq Tryz.prog 114 [c.cI] [] (bN (g c).cI))(l out:List Hl)(hl:out.length+l.length<=1000000) :
 aq Tryz.prog 107 [.sl (gJ l),.v (.func (.func 114) #[] #[]),.ref 0 0] [.cells [.vec 1],.vec 2 (gJ out)] (dh .any [.cells [.vec 1],.vec 2 (gJ (out++fp g l))]):=by
 refine Sm _ _ ((cc _).mpr trivial) ?_
 simp only[Qs,↓zq,zs,af,dU]
 have h:=Pm g hg l l.length 0 out (by omega) (by omega) (by omega)
 rw[aZ]at h
 refine cA h ?_
 simp[↓zq,zs,af,dh,aH]
theorem KN(x0:AV)(x1:AV)(hx0:LK.ptr.has x0)(hx1:LK.ptr.has x1)(g:Vl->Vl)(hg:∀c:Vl,aq Tryz.prog 115 [c.cI,.ref 0 0] [.cells [x0,x1]] (dh (g c).cI [.cells [x0,x1]]))(l:List Hl):∀(k i:Nat) (out:List Hl),i+k=l.length->out.length+k<=1000000->l.length<=1000000 ->
 Kf [.sl (gJ l),.v (.int .i64 (l.length:Int)),.v (.int .i64 (i:Int))] [.cells [x0,x1],.cells [.any],.vec 2 (gJ out)] (gK 1 [] [.cells [x0,x1],.cells [.any],.vec 2 (gJ (out++fp g (l.drop i)))])
 |
  0,i,out,hi,ho,hl=>by
  refine N6 _ _ _ _ _ _ ?_
  have:i=l.length:=by omega
  subst this
  simp only[JO,↓zq,zs,af,dU,hx0,hx1]
  exact⟨fun h=>by omega,fun _=>by simp[gK,fp]⟩
 |
  k+1,i,out,hi,ho,hl=>by
  have hlt:i<l.length:=by omega
  refine N6 _ _ _ _ _ _ ?_
  simp only[JO,↓zq,zs,af,zt,dU,ju hlt,aO,bE,hx0,hx1]
  refine⟨fun _=>⟨by omega,by omega,?_⟩,fun h=>by omega⟩
  refine aX (hg _) ?_
  simp only[↓zq,zs,af,aO,aH,bN,dh,hx0,hx1]
  refine⟨⟨CY _ _,by omega⟩,?_⟩
  rw[bB i (by omega)]
  have:=KN x0 x1 hx0 hx1 g hg l k (i+1) (out++[(g (l[i]).1,(l[i]).2)]) (by omega) (by simp;omega) hl
  rw[aY]at this
  rw[gN g l hlt,pT]
  exact this
theorem T7(x0:AV)(x1:AV)(hx0:LK.ptr.has x0)(hx1:LK.ptr.has x1)(g:Vl->Vl)(hg:∀c:Vl,aq Tryz.prog 115 [c.cI,.ref 0 0] [.cells [x0,x1]] (dh (g c).cI [.cells [x0,x1]]))(l out:List Hl)(hl:out.length+l.length<=1000000) :
 aq Tryz.prog 107 [.sl (gJ l),.fn 115 [.ref 0 0],.ref 1 0] [.cells [x0,x1],.cells [.vec 2],.vec 2 (gJ out)] (dh .any [.cells [x0,x1],.cells [.vec 2],.vec 2 (gJ (out++fp g l))]):=by
 refine TQ _ _ _ _ ((cc _).mpr trivial) hx0 hx1 ?_
 simp only[K3,↓zq,zs,af,dU]
 have h:=KN x0 x1 hx0 hx1 g hg l l.length 0 out (by omega) (by omega) (by omega)
 rw[aZ]at h
 refine cA h ?_
 simp[↓zq,zs,af,dh,aH,hx0,hx1]
theorem To(w c:Vl):aq Tryz.prog 110 [c.cI,.ref 0 0] [.cells [(Vl.l w).cI]] (dh (Vl.l c).cI [.cells [(Vl.l w).cI]]):=by
 refine QA _ _ ((aO _).mpr trivial) ((aO _).mpr trivial) ?_
 simp only[Hd,Vl.cI,↓zq,zs,af,aO]
 refine⟨by omega,?_⟩
 refine aj (AM _ _ ((aO _).mpr trivial)) ?_
 simp[↓zq,zs,af,dh,Vl.cI]
theorem Tv(w c:Vl):aq Tryz.prog 110 [c.cI,.ref 0 0] [.cells [(Vl.r w).cI]] (dh (Vl.r c).cI [.cells [(Vl.r w).cI]]):=by
 refine QA _ _ ((aO _).mpr trivial) ((aO _).mpr trivial) ?_
 simp only[Hd,Vl.cI,↓zq,zs,af,aO]
 refine⟨by omega,?_⟩
 refine aj (AM _ _ ((aO _).mpr trivial)) ?_
 simp[↓zq,zs,af,dh,Vl.cI]
theorem Uv(x y c:Vl):aq Tryz.prog 111 [c.cI,.ref 0 0] [.cells [(Vl.p x y).cI]] (dh (Vl.l (.p c y)).cI [.cells [(Vl.p x y).cI]]):=by
 refine R2 _ _ ((aO _).mpr trivial) ((aO _).mpr trivial) ?_
 simp only[Na,Vl.cI,↓zq,zs,af,aO]
 refine⟨by omega,?_⟩
 refine aj (AP _ _ ((aO _).mpr trivial) ((aO _).mpr trivial)) ?_
 simp only[↓zq,zs,af]
 refine aj (AM _ _ ((cm _).mpr trivial)) ?_
 simp[↓zq,zs,af,dh,Vl.cI]
theorem Th(x y c:Vl):aq Tryz.prog 113 [c.cI,.ref 0 0] [.cells [(Vl.p x y).cI]] (dh (Vl.r (.p x c)).cI [.cells [(Vl.p x y).cI]]):=by
 refine SI _ _ ((aO _).mpr trivial) ((aO _).mpr trivial) ?_
 simp only[MD,Vl.cI,↓zq,zs,af,aO]
 refine⟨by omega,?_⟩
 refine aj (AP _ _ ((aO _).mpr trivial) ((aO _).mpr trivial)) ?_
 simp only[↓zq,zs,af]
 refine aj (AM _ _ ((cm _).mpr trivial)) ?_
 simp[↓zq,zs,af,dh,Vl.cI]
theorem Tj(kc kv c:Vl):aq Tryz.prog 115 [c.cI,.ref 0 0] [.cells [kc.cI,kv.cI]] (dh (Vl.f (.r (.p kc c))).cI [.cells [kc.cI,kv.cI]]):=by
 refine TU _ _ _ ((aO _).mpr trivial) ((aO _).mpr trivial) ((aO _).mpr trivial) ?_
 simp only[MS,Vl.cI,↓zq,zs,af,aO]
 refine aj (AP _ _ ((aO _).mpr trivial) ((aO _).mpr trivial)) ?_
 simp only[↓zq,zs,af]
 refine aj (AM _ _ ((cm _).mpr trivial)) ?_
 simp only[↓zq,zs,af]
 refine aj (AM _ _ ((cm _).mpr trivial)) ?_
 simp[↓zq,zs,af,dh,Vl.cI,aO]
theorem SS(c:Vl):aq Tryz.prog 114 [c.cI] [] (bN (Vl.f (.l c)).cI):=by
 refine RU _ ((aO _).mpr trivial) ?_
 simp only[KJ,↓zq,zs,af]
 refine aj (AM _ _ ((aO _).mpr trivial)) ?_
 simp only[↓zq,zs,af]
 refine aj (AM _ _ ((cm _).mpr trivial)) ?_
 simp[↓zq,zs,af,bN,Vl.cI]
end Go.Proofs.Trees
namespace Go.Proofs.Trees
open Go Go.VL Go.RowKit
abbrev BJ(a:Ty)(tg:Tg):Hl->List Hl:=fun h=>fp (fun c=>.f (.r (.p h.1 c))) (bQ (.rc a) tg h.2)
theorem CF(l:List Hl){i:Nat}(hi:i<l.length):l[i]∈l:=bh _
def Is(t:Ty)(ea:AV)(s:List UInt8)(fr:AV)(tg:Tg)(v:Vl):Prop:=aq Tryz.prog 71 [.agg [t.av,ea],v.cI,.agg [.v (.string (mk s)),fr]] [] (bN (.sl (gJ (bQ t tg v))))
theorem QU(a:Ty)(ea:AV)(s:List UInt8)(fr:AV)(tg:Tg)(he:LK.ptr.has ea)(hf:LK.ptr.has fr)(l:List Hl)(hl:l.length<=1000000)(ih:∀h,h∈l->Is (.rc a) ea s fr tg h.2) :
 ∀(k i:Nat) (out:List Hl),i+k=l.length->(out++(l.drop i).flatMap (BJ a tg)).length<=1000000 ->
 HW [.sl (gJ l),.v (.int .i64 (l.length:Int)),.v (.int .i64 (i:Int))] [.cells [(Ty.rc a).av,ea],.cells [.v (.string (mk s)),fr],.cells [.any],.vec 2 (gJ out)] (gK 1 [] [.cells [.any],.vec 2 (gJ (out++(l.drop i).flatMap (BJ a tg)))])
 |
  0,i,out,hi,ho=>by
  refine OB _ _ _ _ _ _ _ _ ?_
  have:i=l.length:=by omega
  subst this
  simp only[Kd,↓zq,zs,af,dU,aE,he,hf]
  exact⟨fun h=>by omega,fun _=>by simp[gK]⟩
 |
  k+1,i,out,hi,ho=>by
  have hlt:i<l.length:=by omega
  have hd:(l.drop i).flatMap (BJ a tg)=BJ a tg (l[i])++(l.drop (i+1)).flatMap (BJ a tg):=by rw[aL hlt,bU]
  rw[hd]at ho |-
  refine OB _ _ _ _ _ _ _ _ ?_
  simp only[Kd,↓zq,zs,af,zt,dU,ju hlt,aE,aO,bE,he,hf]
  refine⟨fun _=>⟨by omega,by omega,?_⟩,fun h=>by omega⟩
  refine aj (ih _ (CF l hlt)) ?_
  simp only[↓zq,zs,af]
  have hb:out.length+(bQ (.rc a) tg (l[i]).2).length<=1000000:=by
   simp only[an,gf]at ho;omega
  refine aX (T7 _ _ ((aO _).mpr trivial) ((aO _).mpr trivial) (fun c=>.f (.r (.p (l[i]).1 c))) (fun c=>Tj (l[i]).1 (l[i]).2 c) (bQ (.rc a) tg (l[i]).2) out hb) ?_
  simp only[↓zq,zs,af,aH,aO]
  rw[bB i (by omega),<-aY]
  exact QU a ea s fr tg he hf l hl ih k (i+1) _ (by omega) (by rw[aY];exact ho)
theorem GI(n:Nat):∀(m:Nat) (v:Vl),v.nodes<=m->∀(e:E) (env:List Fr) (t:Ty),Ask e env t->eF n v (e,env)=true->env.length+v.nodes<100000->∀(ea:AV) (ids:List Nat),lz ea ids->ids.length=env.length->∀(tg:Tg) (s:List UInt8) (fr:AV),BK tg ids s fr->Is t ea s fr tg v
 |0,v,hm=>by have:=cM v;omega
 |
  m+1,v,hm=>by
  intro e env t A hv hl ea ids he hids tg s fr ht
  unfold Is
  refine RC _ _ _ _ _ ((aE _).mpr trivial) he.has ((aO _).mpr trivial) ht.has ?_
  unfold Of
  refine aj (UM t tg ea ids s fr he ht (fun u hu=>by
   rcases gP A.wf A.ty with⟨hb,_⟩|⟨u',g,rfl,_,hg⟩
   ·rw[hu]at hb;cases hb
   ·cases hu;rw[hids];exact(List.getElem?_eq_some_iff.1 hg).1) (by omega)) ?_
  have hlen:=nU t tg v
  cases hat:eH t tg with
  |
   true =>
   rw[kk v hat]
   simp only[↓zq,zs,af,bN,gJ,bA,List.map_nil,Vl.cI]
   exact⟨fun _=>trivial,fun h=>(by cases h)⟩
  |false =>
  simp only[↓zq,zs,af]
  refine⟨fun h=>(by cases h),fun _=>?_⟩
  rcases gP A.wf A.ty with⟨hb,hq⟩|⟨u,g,rfl,hq,hu⟩
  ·have hhd:hd e env=(e,env):=kV hq
   rcases fQ A.ty hb A.cl with⟨rfl,rfl⟩|⟨rfl,rfl⟩|⟨s,rfl,rfl,hp,h0,h1⟩|⟨x,a,b,t1,t2,rfl,hx,rfl,ha,hbb⟩|⟨x,a,b,t1,t2,rfl,hx,rfl,ha,hbb⟩|⟨x,a,b,t1,rfl,hx,rfl⟩
   ·rw[dE hat (by cases v<;>rfl)]
    simp[Ty.av,↓zq,zs,af,bN,gJ]
   ·rw[dE hat (by cases v<;>rfl)]
    simp[Ty.av,↓zq,zs,af,bN,gJ]
   ·rw[dE hat (by cases v<;>rfl)]
    simp[Ty.av,↓zq,zs,af,bN,gJ]
   ·obtain⟨ok1,ok2,ok3,_⟩:=A.ok
    obtain⟨f1,f2⟩:=fI A.cl
    have hL:=A5 t1.av t2.av ea 43 (mk []) 0 ((aE _).mpr trivial) he.has
    have hR:=AR t1.av t2.av ea 43 (mk []) 0 ((aE _).mpr trivial) he.has
    cases v with
    |
     l w =>
     simp only[eF,hhd,hx,beq_self_eq_true,cb]at hv
     simp only[Vl.nodes]at hm hl hlen
     rw[jA]at hlen |-
     rw[gf]at hlen
     simp only[Ty.av,↓zq,zs,af]
     refine⟨by omega,fun _=>?_,fun h=>absurd rfl h⟩
     refine aj hL ?_
     simp only[↓zq,zs,af,bE,aE,he.has,Vl.cI,aO]
     refine⟨by omega,fun h=>by omega,fun _=>⟨by omega,?_⟩⟩
     refine aj (GI n m w (by omega) a env t1 ⟨ok2,A.wf,ha,f1⟩ hv (by omega) ea ids he hids tg s fr ht) ?_
     simp only[↓zq,zs,af]
     have hadd:=O5 (Vl.l w).cI ((aO _).mpr trivial) Vl.l (fun c=>To w c) (bQ t1 tg w) [] (by simp;omega)
     simp only[Vl.cI,gJ,List.map_nil,aR]at hadd
     refine aX hadd ?_
     simp[↓zq,zs,af,aH,bN,aO,gJ,cm]
    |
     r w =>
     simp only[eF,hhd,hx,beq_self_eq_true,cb]at hv
     simp only[Vl.nodes]at hm hl hlen
     rw[jw]at hlen |-
     rw[gf]at hlen
     simp only[Ty.av,↓zq,zs,af]
     refine⟨by omega,fun _=>?_,fun h=>absurd rfl h⟩
     refine aj hL ?_
     simp only[↓zq,zs,af,bE,aE,he.has,Vl.cI,aO]
     refine⟨by omega,fun _=>?_,fun h=>absurd rfl h⟩
     refine aj hR ?_
     simp only[↓zq,zs,af,bE,aE,he.has,aO]
     refine⟨by omega,?_⟩
     refine aj (GI n m w (by omega) b env t2 ⟨ok3,A.wf,hbb,f2⟩ hv (by omega) ea ids he hids tg s fr ht) ?_
     simp only[↓zq,zs,af]
     have hadd:=O5 (Vl.r w).cI ((aO _).mpr trivial) Vl.r (fun c=>Tv w c) (bQ t2 tg w) [] (by simp;omega)
     simp only[Vl.cI,gJ,List.map_nil,aR]at hadd
     refine aX hadd ?_
     simp[↓zq,zs,af,aH,bN,aO,gJ,cm]
    |_=>simp[eF,hhd,hx]at hv
   ·obtain⟨ok1,ok2,ok3,_⟩:=A.ok
    obtain⟨f1,f2⟩:=fj A.cl
    have hL:=A5 t1.av t2.av ea 42 (mk []) 0 ((aE _).mpr trivial) he.has
    have hR:=AR t1.av t2.av ea 42 (mk []) 0 ((aE _).mpr trivial) he.has
    cases v with
    |
     p w w' =>
     simp only[eF,hhd,hx,beq_self_eq_true,cb,aA]at hv
     simp only[Vl.nodes]at hm hl hlen
     rw[gA]at hlen |-
     simp only[an,gf]at hlen
     simp only[Ty.av,↓zq,zs,af]
     refine⟨by omega,fun h=>by omega,fun _=>⟨fun _=>?_,fun h=>absurd rfl h⟩⟩
     refine aj hL ?_
     simp only[↓zq,zs,af,bE,aE,he.has,Vl.cI,aO]
     refine⟨by omega,?_⟩
     refine aj (GI n m w (by omega) a env t1 ⟨ok2,A.wf,ha,f1⟩ hv.1 (by omega) ea ids he hids tg s fr ht) ?_
     simp only[↓zq,zs,af]
     have hadd:=TD (Vl.p w w').cI ((aO _).mpr trivial) (fun c=>.l (.p c w')) (fun c=>Uv w w' c) (bQ t1 tg w) [] (by simp;omega)
     simp only[Vl.cI,gJ,List.map_nil,aR]at hadd
     refine aX hadd ?_
     simp only[↓zq,zs,af,aH,aO]
     refine aj hR ?_
     simp only[↓zq,zs,af,bE,aE,he.has,aO]
     refine⟨by omega,?_⟩
     refine aj (GI n m w' (by omega) b env t2 ⟨ok3,A.wf,hbb,f2⟩ hv.2 (by omega) ea ids he hids tg s fr ht) ?_
     simp only[↓zq,zs,af]
     have hadd2:=RA (Vl.p w w').cI ((aO _).mpr trivial) (fun c=>.r (.p w c)) (fun c=>Th w w' c) (bQ t2 tg w') (fp (fun c=>.l (.p c w')) (bQ t1 tg w)) (by rw[gf];omega)
     simp only[Vl.cI,gJ]at hadd2
     refine aX hadd2 ?_
     simp[↓zq,zs,af,aH,bN,aO,gJ,cm]
    |_=>simp[eF,hhd,hx]at hv
   ·obtain⟨t1',he1,h1,f1,hw1⟩:=jP A.wf A.ok hx A.ty A.cl
    cases he1
    obtain⟨ok1,ok2,ok3,_⟩:=A.ok
    have A':Ask b (.mk a.at (.list [x,a,b]) env::env) t1:=⟨ok3,hw1,h1,f1⟩
    cases v with
    |
     f w =>
     simp only[eF,hhd,hx,beq_self_eq_true,cb]at hv
     simp only[Vl.nodes]at hm hl hlen
     rw[gv]at hlen |-
     simp only[an,gf]at hlen
     have hin:=FN t1 ea ids he
     simp only[Ty.av]at hin
     simp only[Ty.av,↓zq,zs,af]
     refine⟨by omega,fun h=>by omega,fun _=>⟨fun h=>by omega,fun _=>⟨fun _=>?_,fun h=>absurd rfl h⟩⟩⟩
     refine aQ hin (by have:=CI.ne t1 ea ids;simpa only[CI,Ty.av]using this) ?_
     intro r o hr
     obtain⟨⟨mm,hmm,rfl⟩,rfl⟩:=hr
     have he2:lz (.ptr [.pid mm [(Ty.rc t1).av,ea],ea]) (mm::ids):=.cons hmm he
     have hfr:LK.ptr.has (.pid mm [(Ty.rc t1).av,ea]):=.inr (.inr ⟨_,_,rfl⟩)
     simp only[Ty.av]at he2 hfr
     simp only[↓zq,zs,af,bE,aE,he2.has,hfr,Vl.cI,aO,Ty.av]
     refine⟨by omega,?_⟩
     have i1:=GI n m w (by omega) b _ t1 A' hv (by simp;omega) _ _ he2 (by simp[hids]) tg.up s fr (ht.push mm)
     unfold Is at i1
     refine aj i1 ?_
     simp only[↓zq,zs,af]
     have hadd:=UO (fun c=>.f (.l c)) (fun c=>SS c) (bQ t1 tg.up w) [] (by simp;omega)
     simp only[Vl.cI,gJ,List.map_nil,aR]at hadd
     refine aX hadd ?_
     simp only[↓zq,zs,af,aH,aO]
     have i2:=GI n m w (by omega) b _ t1 A' hv (by simp;omega) _ _ he2 (by simp[hids]) (.bd 0) [] _ (by have:=BK.bd (k:=0) (ids:=mm::ids) (by simp) [(Ty.rc t1).av,ea] [];simpa only[bG,Ty.av]using this)
     unfold Is at i2
     refine⟨by omega,?_⟩
     refine aj i2 ?_
     simp only[↓zq,zs,af,dU]
     have hl2:=nU t1 (.bd 0) w
     have ih3:∀h,h∈bQ t1 (.bd 0) w->Is (.rc t1) ea s fr tg h.2:=fun h hh=>by
      have h3:=(gn hh).1
      have h4:=gR n m w (by omega) b _ t1 A' hv 0 _ rfl h hh
      exact GI n m h.2 (by omega) (.list [x,a,b]) env (.rc t1) A h4 (by omega) ea ids he hids tg s fr ht
     have hloop:=QU t1 ea s fr tg he.has ht.has (bQ t1 (.bd 0) w) (by omega) ih3 (bQ t1 (.bd 0) w).length 0 (fp (fun c=>.f (.l c)) (bQ t1 tg.up w)) (by omega) (by
      simp only[aZ,an,gf]
      have hlen2:(bQ t1 tg.up w).length+((bQ t1 (.bd 0) w).flatMap (BJ t1 tg)).length<=1+w.nodes:=hlen
      omega)
     simp only[Ty.av,gJ,aZ]at hloop
     refine cA hloop ?_
     simp[↓zq,zs,af,af,bN,gJ]
    |_=>simp[eF,hhd,hx]at hv
  ·rw[dE hat (by cases v<;>rfl)]
   simp[Ty.av,↓zq,zs,af,bN,gJ]
end Go.Proofs.Trees
namespace Go.Proofs.Trees
open Go Go.VL Go.RowKit
theorem AE:∀(v:Vl),v.cf.length<=900000->aq Tryz.prog 52 [v.cI] [] (bN (.v (.string (mk v.cf))))
 | .u,h=>by refine Bs _ ((aO _).mpr trivial) ?_;simp[xI,Vl.cI,↓zq,zs,af,bN,Vl.cf,Vl.cG,fh]
 | .el k,h=>by refine Bs _ ((aO _).mpr trivial) ?_;simp[xI,Vl.cI,↓zq,zs,af,bN,Vl.cf,Vl.cG,fh]
 |
  .l v,h=>by
  simp only[Vl.cf,Vl.cG,fh,ew,aw,an,aF]at h
  refine Bs _ ((aO _).mpr trivial) ?_
  have hb:(⟨(bytesOf [[.v (.int .u8 108)]]).toArray⟩:ByteArray)=mk [108]:=rfl
  have ha:jX [[.v (.int .u8 108)]]:=lK 108
  simp only[xI,Vl.cI,↓zq,zs,af,aO,fg,hb]
  refine⟨by omega,fun h=>by omega,fun _=>⟨fun h=>by omega,fun _=>⟨fun h=>by omega,fun _=>⟨by omega,ha,by simp[cS],by rw[lJ,cS,cS];simp,by omega,?_⟩⟩⟩⟩
  refine aj (AE v (by simp only[Vl.cf];omega)) ?_
  simp only[↓zq,zs,af,zt,bN,Vl.cf,Vl.cG,fh,ew]
  refine⟨by simp;omega,by simp;omega,by simp⟩
 |
  .r v,h=>by
  simp only[Vl.cf,Vl.cG,fh,ew,aw,an,aF]at h
  refine Bs _ ((aO _).mpr trivial) ?_
  have hb:(⟨(bytesOf [[.v (.int .u8 114)]]).toArray⟩:ByteArray)=mk [114]:=rfl
  have ha:jX [[.v (.int .u8 114)]]:=lK 114
  simp only[xI,Vl.cI,↓zq,zs,af,aO,fg,hb]
  refine⟨by omega,fun h=>by omega,fun _=>⟨fun h=>by omega,fun _=>⟨fun h=>by omega,fun _=>⟨by omega,ha,by simp[cS],by rw[lJ,cS,cS];simp,by omega,?_⟩⟩⟩⟩
  refine aj (AE v (by simp only[Vl.cf];omega)) ?_
  simp only[↓zq,zs,af,zt,bN,Vl.cf,Vl.cG,fh,ew]
  refine⟨by simp;omega,by simp;omega,by simp⟩
 |
  .f v,h=>by
  simp only[Vl.cf,Vl.cG,fh,ew,aw,an,aF]at h
  refine Bs _ ((aO _).mpr trivial) ?_
  have hb:(⟨(bytesOf [[.v (.int .u8 102)]]).toArray⟩:ByteArray)=mk [102]:=rfl
  have ha:jX [[.v (.int .u8 102)]]:=lK 102
  simp only[xI,Vl.cI,↓zq,zs,af,aO,fg,hb]
  refine⟨by omega,fun h=>by omega,fun _=>⟨fun h=>by omega,fun _=>⟨fun h=>by omega,fun _=>⟨by omega,ha,by simp[cS],by rw[lJ,cS,cS];simp,by omega,?_⟩⟩⟩⟩
  refine aj (AE v (by simp only[Vl.cf];omega)) ?_
  simp only[↓zq,zs,af,zt,bN,Vl.cf,Vl.cG,fh,ew]
  refine⟨by simp;omega,by simp;omega,by simp⟩
 |
  .p a b,h=>by
  simp only[Vl.cf,Vl.cG,fh,ew,aw,an,aF]at h
  refine Bs _ ((aO _).mpr trivial) ?_
  simp only[xI,Vl.cI,↓zq,zs,af,aO,fg]
  refine⟨by omega,fun h=>by omega,fun _=>⟨fun h=>by omega,fun _=>⟨fun _=>⟨by omega,?_⟩,fun h=>absurd rfl h⟩⟩⟩
  refine aj (AE a (by simp only[Vl.cf];omega)) ?_
  simp only[↓zq,zs,af,zt,aO,Vl.cf]
  refine⟨by simp;omega,by simp;omega,by omega,?_⟩
  refine aj (AE b (by simp only[Vl.cf];omega)) ?_
  simp only[↓zq,zs,af,zt,bN,Vl.cf,Vl.cG,fh,ew]
  refine⟨by simp;omega,by simp;omega,by simp⟩
def rI:Option (List UInt8)->AV
 |some s=>.cv [.v (.string (mk s)),.v (.bool true)]
 |none=>.cv [.v (.string (mk [])),.v (.bool false)]
end Go.Proofs.Trees
namespace Go.Proofs.Trees
open Go Go.VL Go.RowKit
def back(n:Nat):Ty->Nat->Vl
 | .name _,c=>.el c
 | .plus a b,c=>match Kv n a with|some x=>if c<x then .l (back n a c)else .r (back n b (c-x))|none=>.u
 | .times a b,c=>match Kv n b with|some y=>.p (back n a (c/y)) (back n b (c%y))|none=>.u
 |_,_=>.u
theorem Ar:∀l:List E,cq 2 (E.bD l)
 |[]=>fun c hc=>by cases hc
 |
  e::l=>fun c hc=>by
  simp only[E.bD,aI]at hc
  rcases hc with rfl|hc
  ·exact gI e
  ·exact Ar l c hc
theorem KI(w:List UInt8)(l:List E)(hl:l.length<1000000):aq Tryz.prog 61 [.v (.string (mk w)),.sl (E.bD l)] [] (bN (E.lq (.list (.atom w::l)))):=by
 refine QB _ _ ((cc _).mpr trivial) ?_
 simp only[IB,↓zq,zs,af,ep,bN,E.lq,E.iP,E.bD]
 exact⟨⟨Ar l,by omega⟩,rfl⟩
end Go.Proofs.Trees
namespace Go.Proofs.Trees
open Go Go.VL Go.RowKit
def kh(l:List Hl):List (List AV):=l.map fun h=>[.v (.string (mk h.1.cG.at)),h.1.cG.sp,.v (.string (mk h.2.cG.at)),h.2.cG.sp]
theorem dZ(l:List Hl):(kh l).length=l.length:=by simp[kh]
theorem eG{l:List Hl}{i:Nat}(hi:i<l.length):(kh l).getD i []=[.v (.string (mk (l[i]).1.cG.at)),(l[i]).1.cG.sp,.v (.string (mk (l[i]).2.cG.at)),(l[i]).2.cG.sp]:=by simp[kh,aa,hi]
theorem pR(out:List Hl)(a b:Vl):kh out++[[.v (.string (mk a.cG.at)),a.cG.sp,.v (.string (mk b.cG.at)),b.cG.sp]]=kh (out++[(a,b)]):=by simp[kh]
theorem AS(a b c d:AV):cq 4 [[a,b,c,d]]:=fun x hx=>by simp at hx;rw[hx];rfl
theorem aK(s:ByteArray)(e:E):bE [.str,.sl] [.v (.string s),e.sp] 0=True:=by simp[bE,dC,aV]
theorem jQ(s:ByteArray)(e:E)(x y:AV):bE [.str,.sl] [.v (.string s),e.sp,x,y] 0=True:=by simp[bE,dC,aV]
theorem xB(w:List UInt8)(e:E):aq Tryz.prog 61 [.v (.string (mk w)),.sl [[.v (.string (mk e.at)),e.sp]]] [] (bN (.agg [.v (.string (mk [])),(E.list [.atom w,e]).sp])):=by
 have:=KI w [e] (by simp)
 simpa only[E.bD,fT,cU,E.at]using this
theorem xY(w:List UInt8)(e e':E):aq Tryz.prog 61 [.v (.string (mk w)),.sl [[.v (.string (mk e.at)),e.sp],[.v (.string (mk e'.at)),e'.sp]]] [] (bN (.agg [.v (.string (mk [])),(E.list [.atom w,e,e']).sp])):=by
 have:=KI w [e,e'] (by simp)
 simpa only[E.bD,fT,cU,E.at]using this
def P3(pv:AV)(a b:E):Prop:=LK.sl.has pv/\pv.elems.length=3/\pv.elems.getD 1 []=[.v (.string (mk a.at)),a.sp]/\pv.elems.getD 2 []=[.v (.string (mk b.at)),b.sp]
theorem P3.of(x a b:E):P3 (E.list [x,a,b]).sp a b:=⟨by simp[E.sp,cc],by simp[E.sp,E.bD,fy],by simp[E.sp,E.bD,fy,fT],by simp[E.sp,E.bD,fy,fT]⟩
def P2(pv:AV)(a:E):Prop:=LK.sl.has pv/\pv.elems.length=2/\pv.elems.getD 1 []=[.v (.string (mk a.at)),a.sp]
theorem P2.of(x a:E):P2 (E.list [x,a]).sp a:=⟨by simp[E.sp,cc],by simp[E.sp,E.bD,fy],by simp[E.sp,E.bD,fy,fT]⟩
theorem Ow(w:List UInt8)(g:Vl->Vl)(hg:∀c,(g c).cG=.list [.atom w,c.cG])(l:List Hl)(hl:l.length<=1000000):∀(k i:Nat) (out:List Hl),i+k=l.length->out.length+k<=1000000 ->
 I6 [.sl (kh l),.v (.string (mk w)),.v (.int .i64 (i:Int))] [.vec 4 (kh out)] (gK 1 [] [.vec 4 (kh (out++fp g (l.drop i)))])
 |
  0,i,out,hi,ho=>by
  refine Qc _ _ _ _ ?_
  have:i=l.length:=by omega
  subst this
  simp only[Ia,↓zq,zs,af,dZ]
  exact⟨fun h=>by omega,fun _=>by simp[gK,fp]⟩
 |
  k+1,i,out,hi,ho=>by
  have hlt:i<l.length:=by omega
  refine Qc _ _ _ _ ?_
  simp only[Ia,↓zq,zs,af,zt,dZ,eG hlt,jQ,aK]
  refine⟨fun _=>?_,fun h=>by omega⟩
  repeat refine⟨by omega,?_⟩
  refine aj (xB _ _) ?_
  simp only[↓zq,zs,af,aK]
  repeat refine⟨by omega,?_⟩
  refine⟨⟨AS _ _ _ _,by omega⟩,?_⟩
  rw[bB i (by omega)]
  have:=Ow w g hg l hl k (i+1) (out++[(g (l[i]).1,(l[i]).2)]) (by omega) (by simp;omega)
  rw[aY,<-pR,hg]at this
  rw[gN g l hlt]
  exact this
theorem N5(w:List UInt8)(g:Vl->Vl)(hg:∀c,(g c).cG=.list [.atom w,c.cG])(l out:List Hl)(hl:out.length+l.length<=1000000) :
 aq Tryz.prog 72 [.sl (kh l),.v (.string (mk w)),.vec 0] [.vec 4 (kh out)] (dh (.vec 1) [.dead,.vec 4 (kh (out++fp g l))]):=by
 refine Rv _ _ _ ((cc _).mpr trivial) ?_
 simp only[QF,↓zq,zs,af]
 have h:=Ow w g hg l (by omega) l.length 0 out (by omega) (by omega)
 rw[aZ]at h
 refine cA h ?_
 simp[↓zq,zs,af,dh]
theorem KD(s:List UInt8)(ta:ByteArray)(tp:AV)(ht:LK.sl.has tp)(va:ByteArray)(vp:AV)(x y:Vl)(hp:P3 vp x.cG y.cG)(l:List Hl)(hl:l.length<=1000000):∀(k i:Nat) (out:List Hl),i+k=l.length->out.length+k<=1000000 ->
 G3 [.v (.string (mk s)),.sl (kh l),.v (.int .i64 (i:Int))] [.cells [.v (.string ta),tp],.cells [.v (.string va),vp],.vec 4 (kh out)] (gK 1 [.v (.string (mk s))] [.cells [.v (.string ta),tp],.cells [.v (.string va),vp],.vec 4 (kh (out++fp (fun c=>Vl.l (.p c y)) (l.drop i)))])
 |
  0,i,out,hi,ho=>by
  refine Mw _ _ _ _ _ _ _ _ ?_
  have:i=l.length:=by omega
  subst this
  simp only[JA,↓zq,zs,af,dZ,ht,aV,af,hp.1]
  exact⟨fun h=>by omega,fun _=>by simp[gK,fp]⟩
 |
  k+1,i,out,hi,ho=>by
  have hlt:i<l.length:=by omega
  refine Mw _ _ _ _ _ _ _ _ ?_
  simp only[JA,↓zq,zs,af,zt,dZ,eG hlt,jQ,aK,eG,ht,aV,af,hp.1,toNat_one,bn,hp.1,hp.2.1,hp.2.2.1,hp.2.2.2]
  refine⟨fun _=>?_,fun h=>by omega⟩
  repeat refine⟨by omega,?_⟩
  refine aj (xY _ _ _) ?_
  simp only[↓zq,zs,af,aK]
  repeat refine⟨by omega,?_⟩
  refine aj (xB [108] (E.list [.atom [112],(l[i]).1.cG,y.cG])) ?_
  simp only[↓zq,zs,af,aK]
  repeat refine⟨by omega,?_⟩
  refine⟨⟨AS _ _ _ _,by omega⟩,?_⟩
  rw[bB i (by omega)]
  have:=KD s ta tp ht va vp x y hp l hl k (i+1) (out++[((fun c=>Vl.l (.p c y)) (l[i]).1,(l[i]).2)]) (by omega) (by simp;omega)
  rw[aY,<-pR]at this
  rw[gN (fun c=>Vl.l (.p c y)) l hlt]
  exact this
theorem KU(va:ByteArray)(vp:AV)(x y:Vl)(hp:P3 vp x.cG y.cG)(l:List Hl)(hl:l.length<=1000000):∀(k i:Nat) (out:List Hl),i+k=l.length->out.length+k<=1000000 ->
 J8 [.sl (kh l),.v (.int .i64 (i:Int))] [.cells [.v (.string va),vp],.vec 4 (kh out)] (gK 1 [] [.vec 4 (kh (out++fp (fun c=>Vl.r (.p x c)) (l.drop i)))])
 |
  0,i,out,hi,ho=>by
  refine NN _ _ _ _ _ ?_
  have:i=l.length:=by omega
  subst this
  simp only[Iv,↓zq,zs,af,dZ,aV,af,hp.1]
  exact⟨fun h=>by omega,fun _=>by simp[gK,fp]⟩
 |
  k+1,i,out,hi,ho=>by
  have hlt:i<l.length:=by omega
  refine NN _ _ _ _ _ ?_
  simp only[Iv,↓zq,zs,af,zt,dZ,eG hlt,jQ,aK,eG,aV,af,hp.1,toNat_one,bn,hp.1,hp.2.1,hp.2.2.1,hp.2.2.2]
  refine⟨fun _=>?_,fun h=>by omega⟩
  repeat refine⟨by omega,?_⟩
  refine aj (xY _ _ _) ?_
  simp only[↓zq,zs,af,aK]
  repeat refine⟨by omega,?_⟩
  refine aj (xB [114] (E.list [.atom [112],x.cG,(l[i]).1.cG])) ?_
  simp only[↓zq,zs,af,aK]
  repeat refine⟨by omega,?_⟩
  refine⟨⟨AS _ _ _ _,by omega⟩,?_⟩
  rw[bB i (by omega)]
  have:=KU va vp x y hp l hl k (i+1) (out++[((fun c=>Vl.r (.p x c)) (l[i]).1,(l[i]).2)]) (by omega) (by simp;omega)
  rw[aY,<-pR]at this
  rw[gN (fun c=>Vl.r (.p x c)) l hlt]
  exact this
theorem NV(s s2:List UInt8)(ta:ByteArray)(tp:AV)(ht:LK.sl.has tp)(va:ByteArray)(vp:AV)(hp:LK.sl.has vp)(l:List Hl)(hl:l.length<=1000000):∀(k i:Nat) (out:List Hl),i+k=l.length->out.length+k<=1000000 ->
 JU [.v (.string (mk s)),.v (.string (mk s2)),.sl (kh l),.v (.int .i64 (i:Int))] [.cells [.v (.string ta),tp],.cells [.v (.string va),vp],.vec 4 (kh out)] (gK 1 [.v (.string (mk s)),.v (.string (mk s2))] [.cells [.v (.string ta),tp],.cells [.v (.string va),vp],.vec 4 (kh (out++fp (fun c=>Vl.f (.l c)) (l.drop i)))])
 |
  0,i,out,hi,ho=>by
  refine PY _ _ _ _ _ _ _ _ _ ?_
  have:i=l.length:=by omega
  subst this
  simp only[JR,↓zq,zs,af,dZ,ht,aV,af,hp]
  exact⟨fun h=>by omega,fun _=>by simp[gK,fp]⟩
 |
  k+1,i,out,hi,ho=>by
  have hlt:i<l.length:=by omega
  refine PY _ _ _ _ _ _ _ _ _ ?_
  simp only[JR,↓zq,zs,af,zt,dZ,eG hlt,jQ,aK,eG,ht,aV,af,hp]
  refine⟨fun _=>?_,fun h=>by omega⟩
  repeat refine⟨by omega,?_⟩
  refine aj (xB _ _) ?_
  simp only[↓zq,zs,af,aK]
  repeat refine⟨by omega,?_⟩
  refine aj (xB [102] (E.list [.atom [108],(l[i]).1.cG])) ?_
  simp only[↓zq,zs,af,aK]
  repeat refine⟨by omega,?_⟩
  refine⟨⟨AS _ _ _ _,by omega⟩,?_⟩
  rw[bB i (by omega)]
  have:=NV s s2 ta tp ht va vp hp l hl k (i+1) (out++[((fun c=>Vl.f (.l c)) (l[i]).1,(l[i]).2)]) (by omega) (by simp;omega)
  rw[aY,<-pR]at this
  rw[gN (fun c=>Vl.f (.l c)) l hlt]
  exact this
theorem Oo(s:List UInt8)(L:AV)(q:Nat)(kc:Vl)(kv:Vl)(hL:LK.sl.has L)(hq:q<L.elems.length)(hg:L.elems.getD q []=[.v (.string (mk kc.cG.at)),kc.cG.sp,.v (.string (mk kv.cG.at)),kv.cG.sp])(ta:ByteArray)(tp:AV)(ht:LK.sl.has tp)(l:List Hl)(hl:l.length<=1000000):∀(k i:Nat) (out:List Hl),i+k=l.length->out.length+k<=1000000 ->
 GR [.v (.string (mk s)),L,.v (.int .i64 (q:Int)),.sl (kh l),.v (.int .i64 (i:Int))] [.cells [.v (.string ta),tp],.vec 4 (kh out)] (gK 1 [.v (.string (mk s)),L,.v (.int .i64 (q:Int))] [.cells [.v (.string ta),tp],.vec 4 (kh (out++fp (fun c=>Vl.f (.r (.p kc c))) (l.drop i)))])
 |
  0,i,out,hi,ho=>by
  refine Lp _ _ _ _ _ _ _ _ ?_
  have:i=l.length:=by omega
  subst this
  simp only[Kp,↓zq,zs,af,dZ,ht,aV,af,hL]
  exact⟨fun h=>by omega,fun _=>by simp[gK,fp]⟩
 |
  k+1,i,out,hi,ho=>by
  have hlt:i<l.length:=by omega
  refine Lp _ _ _ _ _ _ _ _ ?_
  simp only[Kp,↓zq,zs,af,zt,dZ,eG hlt,jQ,aK,eG,ht,aV,af,hL,hg]
  refine⟨fun _=>?_,fun h=>by omega⟩
  repeat refine⟨by omega,?_⟩
  refine aj (xY _ _ _) ?_
  simp only[↓zq,zs,af,aK]
  repeat refine⟨by omega,?_⟩
  refine aj (xB [114] (E.list [.atom [112],kc.cG,(l[i]).1.cG])) ?_
  simp only[↓zq,zs,af,aK]
  repeat refine⟨by omega,?_⟩
  refine aj (xB [102] (E.list [.atom [114],E.list [.atom [112],kc.cG,(l[i]).1.cG]])) ?_
  simp only[↓zq,zs,af,aK]
  repeat refine⟨by omega,?_⟩
  refine⟨⟨AS _ _ _ _,by omega⟩,?_⟩
  rw[bB i (by omega)]
  have:=Oo s L q kc kv hL hq hg ta tp ht l hl k (i+1) (out++[((fun c=>Vl.f (.r (.p kc c))) (l[i]).1,(l[i]).2)]) (by omega) (by simp;omega)
  rw[aY,<-pR]at this
  rw[gN (fun c=>Vl.f (.r (.p kc c))) l hlt]
  exact this
end Go.Proofs.Trees
