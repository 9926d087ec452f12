/-
  Part of a proof: Go functions read by values, trees of functions, their contracts.
-/
import Derived.Test.YthcjhageibaepabGreatDoorP4
import Derived.Test.YthcjhageibaepabGreatDoorProg
import Derived.Lib.Atoi
set_option linter.unusedVariables false
set_option linter.unusedSimpArgs false
open And renaming intro→aJ
open Bool renaming and_eq_true→aA,eq_iff_iff→cK,or_eq_false_iff→ct,or_eq_true→bH,true_and→cb
open ByteArray renaming extract→cz,size→ah,toList→af
open Int renaming tmod→dR,toNat→bK,toNat_natCast→bx
open List renaming all_cons→dj,any_eq_true→cA,append_assoc→a6,drop_eq_getElem_cons→aM,drop_eq_nil_of_le→bY,drop_zero→a7,eq_nil_of_length_eq_zero→bO,flatMap_cons→bU,getD_cons_zero→bF,getD_eq_getElem?_getD→aa,getElem?_eq_getElem→bp,getElem_mem→bn,headD_cons→aK,length_append→an,length_cons→aw,length_drop→cD,length_nil→aE,map_cons→bo,mem_append→aO,mem_cons→aI,mem_cons_of_mem→al,mem_cons_self→ak,mem_flatMap→dk,mem_map→bM,mem_singleton→aT,nil_append→aS
open Nat renaming beq→aN,le_refl→au,zero_add→a8,zero_le→dQ
open Option renaming isSome_iff_exists→bb,isSome_none→ba,map_some→cq
open UInt8 renaming ofNat→bu
namespace Go.Proofs.Trees
open Go Go.VL
noncomputable section
variable {R:AV->List Ob->Prop}{U:RL}
def Cn(a0_0:ByteArray)(a0_1:AV)(a1:AV)(a2:AV)(e3_0:List (List AV))(a3_1:Int):Tree :=
 .test (!(af a0_0==af (mk []))) (NL a1<|.loop Np Kx [a1,a2,VI (IntKind.wrap .i64 ((a1.elems.length:Int)-1))] [.cells [VS a0_0,a0_1],.cells [VS (mk []),.v (.slice none 0 0)],.cells [.any,VI a3_1],.vec 1 e3_0] (fun y1 q1=>.ai ((q1.hO)=.cells (q1.hO).cs)<|.ai (ae [.lk .str,.lk .sl] ((q1.hO).cs) 0 q1.tail)<|.ai (((q1.tail.drop 0).hO)=.cells ((q1.tail.drop 0).hO).cs)<|.ai (ae [.lk .str,.lk .sl] (((q1.tail.drop 0).hO).cs) 0 ((q1.tail.drop 0).tail))<|.ai ((((q1.tail.drop 0).tail.drop 0).hO)=.cells (((q1.tail.drop 0).tail.drop 0).hO).cs)<|.ai (ae [.vec 1,.lk (.int .i64)] ((((q1.tail.drop 0).tail.drop 0).hO).cs) 0 (((q1.tail.drop 0).tail.drop 0).tail))<|.done 0 [.agg [VS (((q1.hO).cs.getD 0 .any).toStr),((q1.hO).cs.getD 1 .any)]] [.cells [.vec 1,VI (((q1.tail.tail.hO).cs.getD 1 .any).toInt)],.vec 1 ((q1.tail.tail.tail.hO).es)]) (fun y1 q1=>.ai ((q1.hO)=.cells (q1.hO).cs)<|.ai (ae [.lk .str,.lk .sl] ((q1.hO).cs) 0 q1.tail)<|.ai (((q1.tail.drop 0).hO)=.cells ((q1.tail.drop 0).hO).cs)<|.ai (ae [.vec 1,.lk (.int .i64)] (((q1.tail.drop 0).hO).cs) 0 ((q1.tail.drop 0).tail))<|.done 0 [.agg [VS (((q1.hO).cs.getD 0 .any).toStr),((q1.hO).cs.getD 1 .any)]] [.cells [.vec 1,VI (((q1.tail.hO).cs.getD 1 .any).toInt)],.vec 1 ((q1.tail.tail.hO).es)])) (.call 54 [.agg [VS a0_0,a0_1]] [] fun r2 o2=>NS r2<|.test (af r2.toStr==af (mk [114,101,99])) (.call 136 [VI a3_1] [] fun r3 o3=>NS r3<|.ai (ah (mk [116])+ah r3.toStr<=9223372036854775807)<|.loop K9 IM [a1,a2,VS (((mk [116]):ByteArray)++r3.toStr)] [.cells [.any,VI a3_1],.vec 1 e3_0,.cells [VS a0_0,a0_1],.cells [VS (mk []),.v (.slice none 0 0)]] (fun y6 q6=>NL (y6.hA)<|NL (y6.tail.hA)<|NS (y6.tail.tail.hA)<|.ai ((q6.hO)=.cells (q6.hO).cs)<|.ai (ae [.vec 1,.lk (.int .i64)] ((q6.hO).cs) 0 q6.tail)<|.ai (((q6.tail.drop 1).hO)=.cells ((q6.tail.drop 1).hO).cs)<|.ai (ae [.lk .str,.lk .sl] (((q6.tail.drop 1).hO).cs) 0 ((q6.tail.drop 1).tail))<|.ai ((((q6.tail.drop 1).tail.drop 0).hO)=.cells (((q6.tail.drop 1).tail.drop 0).hO).cs)<|.ai (ae [.lk .str,.lk .sl] ((((q6.tail.drop 1).tail.drop 0).hO).cs) 0 (((q6.tail.drop 1).tail.drop 0).tail))<|NG ((q6.tail.tail.hO).cs.getD 1 .any) 2 2<|NE (((q6.tail.tail.hO).cs.getD 1 .any).ix (2:Int))<|NG ((q6.tail.tail.hO).cs.getD 1 .any) 1 2<|lL (((q6.tail.tail.hO).cs.getD 1 .any).ix (1:Int))<|.call 129 [(y6.hA),VS (((((q6.tail.tail.hO).cs.getD 1 .any).ix (1:Int)).hA).toStr)] [] fun r7 o7=>.ai (r7=.vec 0/\(o7.hO)=.vec 1 (o7.hO).es)<|.ai (∀x,x∈o7->dI x)<|.call 129 [(y6.tail.hA),VS ((y6.tail.tail.hA).toStr)] [] fun r8 o8=>.ai (r8=.vec 0/\(o8.hO)=.vec 1 (o8.hO).es)<|.ai (∀x,x∈o8->dI x)<|.call 137 [.agg [VS (((((q6.tail.tail.hO).cs.getD 1 .any).ix (2:Int)).getD 0 .any).toStr),((((q6.tail.tail.hO).cs.getD 1 .any).ix (2:Int)).getD 1 .any)],.sl ((o7.hO).es),.sl ((o8.hO).es),.ref 0 0] [.cells [.vec 1,VI (IntKind.wrap .i64 ((((q6.hO).cs.getD 1 .any).toInt)+1))],.vec 1 ((q6.tail.hO).es)] fun r9 o9=>.ai ((o9.hO)=.cells (o9.hO).cs)<|.ai (aH [.vec 1,.lk (.int .i64)] ((o9.hO).cs) 0 1 o9.tail)<|NA r9<|.call 61 [VS (mk [114,101,99]),.sl [[VS ((y6.tail.tail.hA).toStr),.v (.slice none 0 0)],[VS ((r9.cs.getD 0 .any).toStr),(r9.cs.getD 1 .any)]]] [] fun r10 o10=>NA r10<|.done 0 [.agg [VS ((r10.cs.getD 0 .any).toStr),(r10.cs.getD 1 .any)]] [.cells [.vec 1,VI (((o9.hO).cs.getD 1 .any).toInt)],.vec 1 ((o9.tail.hO).es)]) (fun y6 q6=>.ai ((q6.hO)=.cells (q6.hO).cs)<|.ai (ae [.vec 1,.lk (.int .i64)] ((q6.hO).cs) 0 q6.tail)<|.fail)) (NG a0_1 1 2<|NE (a0_1.ix (1:Int))<|.call 137 [.agg [VS (((a0_1.ix (1:Int)).getD 0 .any).toStr),((a0_1.ix (1:Int)).getD 1 .any)],a1,a2,.ref 0 0] [.cells [.vec 1,VI a3_1],.vec 1 e3_0] fun r11 o11=>.ai ((o11.hO)=.cells (o11.hO).cs)<|.ai (aH [.vec 1,.lk (.int .i64)] ((o11.hO).cs) 0 1 o11.tail)<|NA r11<|.call 54 [.agg [VS a0_0,a0_1]] [] fun r12 o12=>NS r12<|NG a0_1 2 2<|NE (a0_1.ix (2:Int))<|.call 137 [.agg [VS (((a0_1.ix (2:Int)).getD 0 .any).toStr),((a0_1.ix (2:Int)).getD 1 .any)],a1,a2,.ref 0 0] [.cells [.vec 1,VI (((o11.hO).cs.getD 1 .any).toInt)],.vec 1 ((o11.tail.hO).es)] fun r13 o13=>.ai ((o13.hO)=.cells (o13.hO).cs)<|.ai (aH [.vec 1,.lk (.int .i64)] ((o13.hO).cs) 0 1 o13.tail)<|NA r13<|.call 61 [VS r12.toStr,.sl [[VS ((r11.cs.getD 0 .any).toStr),(r11.cs.getD 1 .any)],[VS ((r13.cs.getD 0 .any).toStr),(r13.cs.getD 1 .any)]]] [] fun r14 o14=>NA r14<|.done 0 [.agg [VS ((r14.cs.getD 0 .any).toStr),(r14.cs.getD 1 .any)]] [.cells [.vec 1,VI (((o13.hO).cs.getD 1 .any).toInt)],.vec 1 ((o13.tail.hO).es)]))
theorem Gp(a0_0:ByteArray)(a0_1:AV)(a1:AV)(a2:AV)(e3_0:List (List AV))(a3_1:Int)(ha0_1:LK.has .sl a0_1)(ha1:LK.has .sl a1)(ha2:LK.has .sl a2)(h:dq 113 (Cn a0_0 a0_1 a1 a2 e3_0 a3_1) R):aq Tryz.prog 137 [.agg [VS a0_0,a0_1],a1,a2,.ref 0 0] [.cells [.vec 1,VI a3_1],.vec 1 e3_0] R :=
 aq.oE (bG (cu (ag (az _) (ag (az _) aC))) (bG (fV _) cH)) (aq.up (ag (bX (ag (az _) (ag (bN ha0_1) aC))) (ag (bN ha1) (ag (bN ha2) (ag (az _) aC)))) (oF JA {mu:=[(3,.one (.obj [.vec 1,.lk (.int .i64)]))],own:=[]} Tryz.f137 h))
def Hh(x1:AV)(x2:AV)(x9:Int)(o4_0:ByteArray)(o4_1:AV)(o8_0:ByteArray)(o8_1:AV)(o0_0:List (List AV))(o0_1:Int):Tree :=
 NL x1<|NL x2<|NI (VI x9)<|.ai (Ob.cells [VS o4_0,o4_1]=.cells [VS o4_0,o4_1])<|.ai (ae [.lk .str,.lk .sl] [VS o4_0,o4_1] 0 [.cells [VS o8_0,o8_1],.cells [.any,VI o0_1],.vec 1 o0_0])<|.ai (Ob.cells [VS o8_0,o8_1]=.cells [VS o8_0,o8_1])<|.ai (ae [.lk .str,.lk .sl] [VS o8_0,o8_1] 0 [.cells [.any,VI o0_1],.vec 1 o0_0])<|.ai (Ob.cells [.any,VI o0_1]=.cells [.any,VI o0_1])<|.ai (ae [.vec 1,.lk (.int .i64)] [.any,VI o0_1] 0 [.vec 1 o0_0])<|.test (decide (x9≥(0:Int))) (NG x1 x9 1<|lL (x1.ix x9)<|.test (af (((x1.ix x9).hA).toStr)==af o4_0) (NG x2 x9 1<|lL (x2.ix x9)<|.done 2 [] [.cells [VS (((x2.ix x9).hA).toStr),.v (.slice none 0 0)],.cells [.any,VI o0_1],.vec 1 o0_0]) (.done 0 [x1,x2,VI (IntKind.wrap .i64 (x9-1))] [.cells [VS o4_0,o4_1],.cells [VS o8_0,o8_1],.cells [.any,VI o0_1],.vec 1 o0_0])) (.done 1 [] [.cells [VS o4_0,o4_1],.cells [VS o8_0,o8_1],.cells [.any,VI o0_1],.vec 1 o0_0])
abbrev He:=cF Tryz.prog 113 Np Kx
theorem Q6(x1:AV)(x2:AV)(x9:Int)(o4_0:ByteArray)(o4_1:AV)(o8_0:ByteArray)(o8_1:AV)(o0_0:List (List AV))(o0_1:Int)(h:kO 113 (Hh x1 x2 x9 o4_0 o4_1 o8_0 o8_1 o0_0 o0_1) He U):He [x1,x2,VI x9] [.cells [VS o4_0,o4_1],.cells [VS o8_0,o8_1],.cells [.any,VI o0_1],.vec 1 o0_0] U :=
 gQ JA h
def Pq(x1:AV)(x2:AV)(x10:ByteArray)(o0_0:List (List AV))(o0_1:Int)(o4_0:ByteArray)(o4_1:AV)(o8_0:ByteArray)(o8_1:AV):Tree :=
 NL x1<|NL x2<|NS (VS x10)<|.ai (Ob.cells [.any,VI o0_1]=.cells [.any,VI o0_1])<|.ai (ae [.vec 1,.lk (.int .i64)] [.any,VI o0_1] 0 [.vec 1 o0_0,.cells [VS o4_0,o4_1],.cells [VS o8_0,o8_1]])<|.ai (Ob.cells [VS o4_0,o4_1]=.cells [VS o4_0,o4_1])<|.ai (ae [.lk .str,.lk .sl] [VS o4_0,o4_1] 0 [.cells [VS o8_0,o8_1]])<|.ai (Ob.cells [VS o8_0,o8_1]=.cells [VS o8_0,o8_1])<|.ai (ae [.lk .str,.lk .sl] [VS o8_0,o8_1] 0 [])<|.call 139 [.sl o0_0,VS x10] [] fun r1 o1=>NB r1<|.test r1.toBool (.call 136 [VI (IntKind.wrap .i64 (o0_1+1))] [] fun r2 o2=>NS r2<|.ai (ah (mk [116])+ah r2.toStr<=9223372036854775807)<|.done 0 [x1,x2,VS (((mk [116]):ByteArray)++r2.toStr)] [.cells [.any,VI (IntKind.wrap .i64 (o0_1+1))],.vec 1 o0_0,.cells [VS o4_0,o4_1],.cells [VS o8_0,o8_1]]) (.done 1 [x1,x2,VS x10] [.cells [.any,VI o0_1],.vec 1 o0_0,.cells [VS o4_0,o4_1],.cells [VS o8_0,o8_1]])
abbrev G8:=cF Tryz.prog 113 K9 IM
theorem Ul(x1:AV)(x2:AV)(x10:ByteArray)(o0_0:List (List AV))(o0_1:Int)(o4_0:ByteArray)(o4_1:AV)(o8_0:ByteArray)(o8_1:AV)(h:kO 113 (Pq x1 x2 x10 o0_0 o0_1 o4_0 o4_1 o8_0 o8_1) G8 U):G8 [x1,x2,VS x10] [.cells [.any,VI o0_1],.vec 1 o0_0,.cells [VS o4_0,o4_1],.cells [VS o8_0,o8_1]] U :=
 gQ JA h
def yI(a0_0:ByteArray)(a0_1:AV):Tree :=
 .test (!(af a0_0==af (mk []))) (.test (af a0_0==af (mk [48])) (.done 0 [VB true] []) (.test (af a0_0==af (mk [49])) (.done 0 [VB true] []) (.call 101 [VS a0_0] [] fun r1 o1=>NB r1<|.test r1.toBool (.done 0 [VB true] []) (.call 99 [VS a0_0] [] fun r2 o2=>NB r2<|.done 0 [VB r2.toBool] [])))) (NL a0_1<|.test ((a0_1.elems.length:Int) != (3:Int)) (.done 0 [VB false] []) (.call 54 [.agg [VS a0_0,a0_1]] [] fun r3 o3=>NS r3<|.test (af r3.toStr==af (mk [43])) (NG a0_1 1 2<|NE (a0_1.ix (1:Int))<|.call 138 [.agg [VS (((a0_1.ix (1:Int)).getD 0 .any).toStr),((a0_1.ix (1:Int)).getD 1 .any)]] [] fun r4 o4=>NB r4<|.test r4.toBool (NG a0_1 2 2<|NE (a0_1.ix (2:Int))<|.call 138 [.agg [VS (((a0_1.ix (2:Int)).getD 0 .any).toStr),((a0_1.ix (2:Int)).getD 1 .any)]] [] fun r5 o5=>NB r5<|.done 0 [VB r5.toBool] []) (.done 0 [VB false] [])) (.test (af r3.toStr==af (mk [42])) (NG a0_1 1 2<|NE (a0_1.ix (1:Int))<|.call 138 [.agg [VS (((a0_1.ix (1:Int)).getD 0 .any).toStr),((a0_1.ix (1:Int)).getD 1 .any)]] [] fun r6 o6=>NB r6<|.test r6.toBool (NG a0_1 2 2<|NE (a0_1.ix (2:Int))<|.call 138 [.agg [VS (((a0_1.ix (2:Int)).getD 0 .any).toStr),((a0_1.ix (2:Int)).getD 1 .any)]] [] fun r7 o7=>NB r7<|.done 0 [VB r7.toBool] []) (.done 0 [VB false] [])) (.test (af r3.toStr==af (mk [114,101,99])) (NG a0_1 1 2<|lL (a0_1.ix (1:Int))<|.call 99 [VS (((a0_1.ix (1:Int)).hA).toStr)] [] fun r8 o8=>NB r8<|.test r8.toBool (NG a0_1 2 2<|NE (a0_1.ix (2:Int))<|.call 138 [.agg [VS (((a0_1.ix (2:Int)).getD 0 .any).toStr),((a0_1.ix (2:Int)).getD 1 .any)]] [] fun r9 o9=>NB r9<|.done 0 [VB r9.toBool] []) (.done 0 [VB false] [])) (.done 0 [VB false] [])))))
theorem PF(a0_0:ByteArray)(a0_1:AV)(ha0_1:LK.has .sl a0_1)(h:dq 60 (yI a0_0 a0_1) R):aq Tryz.prog 138 [.agg [VS a0_0,a0_1]] [] R :=
 uQ (ag (bX (ag (az _) (ag (bN ha0_1) aC))) aC) (oQ [] Tryz.f138 h)
def Ik:LI:={hd:={bQ:=[(0,.k .sl),(1,.k .str),(5,.k (.int .i64))]},xs:={},rt:={bQ:=[(4,.k .bool)]},ex:=0}
def PI:Code:=cL (cG Tryz.f139) 2
def OB:List (Nat×LI):=[(2,Ik)]
def Qp(a0:AV)(a1:ByteArray):Tree :=
 .loop PI Ik [a0,VS a1,VI 0] [] (fun y1 q1=>.done 0 [VB false] []) (fun y1 q1=>NB (y1.hA)<|.done 0 [VB ((y1.hA).toBool)] [])
theorem Sv(a0:AV)(a1:ByteArray)(ha0:LK.has .sl a0)(h:dq 18 (Qp a0 a1) R):aq Tryz.prog 139 [a0,VS a1] [] R :=
 uQ (ag (bN ha0) (ag (az _) aC)) (oQ OB Tryz.f139 h)
def HD(x0:AV)(x1:ByteArray)(x5:Int):Tree :=
 NL x0<|NS (VS x1)<|NI (VI x5)<|NL x0<|.test (decide (x5<(x0.elems.length:Int))) (NG x0 x5 1<|lL (x0.ix x5)<|.test (af (((x0.ix x5).hA).toStr)==af x1) (.done 2 [VB true] []) (.done 0 [x0,VS x1,VI (IntKind.wrap .i64 (x5+1))] [])) (.done 1 [] [])
abbrev Ja:=cF Tryz.prog 18 PI Ik
theorem Rg(x0:AV)(x1:ByteArray)(x5:Int)(h:kO 18 (HD x0 x1 x5) Ja U):Ja [x0,VS x1,VI x5] [] U :=
 gQ OB h
def Hz:LI:={hd:={bQ:=[(0,.k .str),(7,.k (.int .i64))]},xs:={},rt:={bQ:=[(6,.k .bool)]},ex:=0}
def L6:Code:=cL (cG Tryz.f140) 4
def MW:List (Nat×LI):=[(4,Hz)]
def KS(a0:ByteArray)(a1:Int)(a2:Int):Tree :=
 .call 55 [VI (ah a0:Int),VI 1,VI 3] [] fun r1 o1=>NB r1<|.test (!r1.toBool) (.done 0 [VB false] []) (.ai (0<=(0:Int)/\(0:Int)<ah a0)<|.test (decide ((bt a0 0)<a1)) (.done 0 [VB false] []) (.ai (0<=(0:Int)/\(0:Int)<ah a0)<|.test (decide ((bt a0 0)>a2)) (.done 0 [VB false] []) (.loop L6 Hz [VS a0,VI 1] [] (fun y2 q2=>.done 0 [VB true] []) (fun y2 q2=>NB (y2.hA)<|.done 0 [VB ((y2.hA).toBool)] []))))
theorem UK(a0:ByteArray)(a1:Int)(a2:Int)(h:dq 40 (KS a0 a1 a2) R):aq Tryz.prog 140 [VS a0,.v (.int .u8 a1),.v (.int .u8 a2)] [] R :=
 uQ (ag (az _) (ag (az _) (ag (az _) aC))) (oQ MW Tryz.f140 h)
def Kq(x0:ByteArray)(x7:Int):Tree :=
 NS (VS x0)<|NI (VI x7)<|.test (decide (x7<(ah x0:Int))) (.ai (0<=x7/\x7<ah x0)<|.test (decide ((bt x0 x7)<(48:Int))) (.done 2 [VB false] []) (.ai (0<=x7/\x7<ah x0)<|.test (decide ((bt x0 x7)>(57:Int))) (.done 2 [VB false] []) (.done 0 [VS x0,VI (IntKind.wrap .i64 (x7+1))] []))) (.done 1 [] [])
abbrev Ii:=cF Tryz.prog 40 L6 Hz
theorem Oo(x0:ByteArray)(x7:Int)(h:kO 40 (Kq x0 x7) Ii U):Ii [VS x0,VI x7] [] U :=
 gQ MW h
def OG(a0:Int):Tree :=
 .test (decide (a0≥(97:Int))) (.test (decide (a0<=(122:Int))) (.done 0 [VB true] []) (.test (decide (a0≥(48:Int))) (.test (decide (a0<=(57:Int))) (.done 0 [VB true] []) (.test (a0==(42:Int)) (.done 0 [VB true] []) (.done 0 [VB (a0==(43:Int))] []))) (.test (a0==(42:Int)) (.done 0 [VB true] []) (.done 0 [VB (a0==(43:Int))] [])))) (.test (decide (a0≥(48:Int))) (.test (decide (a0<=(57:Int))) (.done 0 [VB true] []) (.test (a0==(42:Int)) (.done 0 [VB true] []) (.done 0 [VB (a0==(43:Int))] []))) (.test (a0==(42:Int)) (.done 0 [VB true] []) (.done 0 [VB (a0==(43:Int))] [])))
theorem Ui(a0:Int)(h:dq 25 (OG a0) R):aq Tryz.prog 141 [.v (.int .u8 a0)] [] R :=
 uQ (ag (az _) aC) (oQ [] Tryz.f141 h)
def N1(a0_0:AV)(a0_1:Int):Tree :=
 .call 45 [.ref 0 0,VI 12] [.cells [a0_0,VI a0_1]] fun r1 o1=>.ai ((o1.hO)=.cells (o1.hO).cs)<|.ai (aH [.lk .sl,.lk (.int .i64)] ((o1.hO).cs) 0 1 o1.tail)<|NI r1<|.test (r1.toInt==(0:Int)) (.call 94 [.ref 0 0,.sl [[VS (mk [])],[VS (mk [97])],[VS (mk [40,43,32,49,41])],[VS (mk [40,114,101,99,32,120,32,49,41])],[VS (mk [40,114,101,99,32,116,41])],[VS (mk [40,43,32,32,49,32,49,41])],[VS (mk [40,42,32,49,32,49,32,49,41])],[VS (mk [116,49,48,48])],[VS (mk [120,32,49])]]] [.cells [((o1.hO).cs.getD 0 .any),VI (((o1.hO).cs.getD 1 .any).toInt)]] fun r2 o2=>.ai ((o2.hO)=.cells (o2.hO).cs)<|.ai (aH [.lk .sl,.lk (.int .i64)] ((o2.hO).cs) 0 1 o2.tail)<|NS r2<|.done 0 [VS r2.toStr] [.cells [((o2.hO).cs.getD 0 .any),VI (((o2.hO).cs.getD 1 .any).toInt)]]) (.test (r1.toInt==(1:Int)) (.call 68 [.ref 0 0] [.cells [((o1.hO).cs.getD 0 .any),VI (((o1.hO).cs.getD 1 .any).toInt)]] fun r3 o3=>.ai ((o3.hO)=.cells (o3.hO).cs)<|.ai (aH [.lk .sl,.lk (.int .i64)] ((o3.hO).cs) 0 1 o3.tail)<|NS r3<|.done 0 [VS r3.toStr] [.cells [((o3.hO).cs.getD 0 .any),VI (((o3.hO).cs.getD 1 .any).toInt)]]) (.test (r1.toInt==(2:Int)) (.call 68 [.ref 0 0] [.cells [((o1.hO).cs.getD 0 .any),VI (((o1.hO).cs.getD 1 .any).toInt)]] fun r4 o4=>.ai ((o4.hO)=.cells (o4.hO).cs)<|.ai (aH [.lk .sl,.lk (.int .i64)] ((o4.hO).cs) 0 1 o4.tail)<|NS r4<|.done 0 [VS r4.toStr] [.cells [((o4.hO).cs.getD 0 .any),VI (((o4.hO).cs.getD 1 .any).toInt)]]) (.test (r1.toInt==(3:Int)) (.call 68 [.ref 0 0] [.cells [((o1.hO).cs.getD 0 .any),VI (((o1.hO).cs.getD 1 .any).toInt)]] fun r5 o5=>.ai ((o5.hO)=.cells (o5.hO).cs)<|.ai (aH [.lk .sl,.lk (.int .i64)] ((o5.hO).cs) 0 1 o5.tail)<|NS r5<|.done 0 [VS r5.toStr] [.cells [((o5.hO).cs.getD 0 .any),VI (((o5.hO).cs.getD 1 .any).toInt)]]) (.test (r1.toInt==(4:Int)) (.call 143 [.ref 0 0,.sl [[VS (mk [116])],[VS (mk [116,49])]],VI 2] [.cells [((o1.hO).cs.getD 0 .any),VI (((o1.hO).cs.getD 1 .any).toInt)]] fun r6 o6=>.ai ((o6.hO)=.cells (o6.hO).cs)<|.ai (aH [.lk .sl,.lk (.int .i64)] ((o6.hO).cs) 0 1 o6.tail)<|NS r6<|.done 0 [VS r6.toStr] [.cells [((o6.hO).cs.getD 0 .any),VI (((o6.hO).cs.getD 1 .any).toInt)]]) (.call 143 [.ref 0 0,.sl [],VI 3] [.cells [((o1.hO).cs.getD 0 .any),VI (((o1.hO).cs.getD 1 .any).toInt)]] fun r7 o7=>.ai ((o7.hO)=.cells (o7.hO).cs)<|.ai (aH [.lk .sl,.lk (.int .i64)] ((o7.hO).cs) 0 1 o7.tail)<|NS r7<|.done 0 [VS r7.toStr] [.cells [((o7.hO).cs.getD 0 .any),VI (((o7.hO).cs.getD 1 .any).toInt)]])))))
theorem Tt(a0_0:AV)(a0_1:Int)(ha0_0:LK.has .sl a0_0)(h:dq 24 (N1 a0_0 a0_1) R):aq Tryz.prog 142 [.ref 0 0] [.cells [a0_0,VI a0_1]] R :=
 aq.oE (bG (cu (ag (bN ha0_0) (ag (az _) aC))) cH) (aq.up (ag (az _) aC) (oF [] {mu:=[(0,.one (.obj [.lk .sl,.lk (.int .i64)]))],own:=[]} Tryz.f142 h))
def IN(a0_0:AV)(a0_1:Int)(a1:AV)(a2:Int):Tree :=
 .test (decide (a2<=(0:Int))) (NL a1<|.test (decide ((a1.elems.length:Int)>(0:Int))) (.call 45 [.ref 0 0,VI 3] [.cells [a0_0,VI a0_1]] fun r1 o1=>.ai ((o1.hO)=.cells (o1.hO).cs)<|.ai (aH [.lk .sl,.lk (.int .i64)] ((o1.hO).cs) 0 1 o1.tail)<|NI r1<|.test (r1.toInt==(0:Int)) (NL a1<|.call 45 [.ref 0 0,VI (a1.elems.length:Int)] [.cells [((o1.hO).cs.getD 0 .any),VI (((o1.hO).cs.getD 1 .any).toInt)]] fun r2 o2=>.ai ((o2.hO)=.cells (o2.hO).cs)<|.ai (aH [.lk .sl,.lk (.int .i64)] ((o2.hO).cs) 0 1 o2.tail)<|NI r2<|.ai (LK.has .sl a1/\0<=r2.toInt/\r2.toInt<a1.elems.length/\(a1.elems.getD r2.toInt.toNat []).length=1)<|lL (a1.elems.getD r2.toInt.toNat [])<|.done 0 [VS (((a1.elems.getD r2.toInt.toNat []).hA).toStr)] [.cells [((o2.hO).cs.getD 0 .any),VI (((o2.hO).cs.getD 1 .any).toInt)]]) (.call 94 [.ref 0 0,.sl [[VS (mk [120])],[VS (mk [49])],[VS (mk [120])],[VS (mk [121])],[VS (mk [48])],[VS (mk [49])]]] [.cells [((o1.hO).cs.getD 0 .any),VI (((o1.hO).cs.getD 1 .any).toInt)]] fun r3 o3=>.ai ((o3.hO)=.cells (o3.hO).cs)<|.ai (aH [.lk .sl,.lk (.int .i64)] ((o3.hO).cs) 0 1 o3.tail)<|NS r3<|.done 0 [VS r3.toStr] [.cells [((o3.hO).cs.getD 0 .any),VI (((o3.hO).cs.getD 1 .any).toInt)]])) (.call 94 [.ref 0 0,.sl [[VS (mk [120])],[VS (mk [49])],[VS (mk [120])],[VS (mk [121])],[VS (mk [48])],[VS (mk [49])]]] [.cells [a0_0,VI a0_1]] fun r4 o4=>.ai ((o4.hO)=.cells (o4.hO).cs)<|.ai (aH [.lk .sl,.lk (.int .i64)] ((o4.hO).cs) 0 1 o4.tail)<|NS r4<|.done 0 [VS r4.toStr] [.cells [((o4.hO).cs.getD 0 .any),VI (((o4.hO).cs.getD 1 .any).toInt)]])) (.call 45 [.ref 0 0,VI 4] [.cells [a0_0,VI a0_1]] fun r5 o5=>.ai ((o5.hO)=.cells (o5.hO).cs)<|.ai (aH [.lk .sl,.lk (.int .i64)] ((o5.hO).cs) 0 1 o5.tail)<|NI r5<|.test (r5.toInt==(0:Int)) (NL a1<|.test (decide ((a1.elems.length:Int)>(0:Int))) (.call 45 [.ref 0 0,VI 3] [.cells [((o5.hO).cs.getD 0 .any),VI (((o5.hO).cs.getD 1 .any).toInt)]] fun r6 o6=>.ai ((o6.hO)=.cells (o6.hO).cs)<|.ai (aH [.lk .sl,.lk (.int .i64)] ((o6.hO).cs) 0 1 o6.tail)<|NI r6<|.test (r6.toInt==(0:Int)) (NL a1<|.call 45 [.ref 0 0,VI (a1.elems.length:Int)] [.cells [((o6.hO).cs.getD 0 .any),VI (((o6.hO).cs.getD 1 .any).toInt)]] fun r7 o7=>.ai ((o7.hO)=.cells (o7.hO).cs)<|.ai (aH [.lk .sl,.lk (.int .i64)] ((o7.hO).cs) 0 1 o7.tail)<|NI r7<|.ai (LK.has .sl a1/\0<=r7.toInt/\r7.toInt<a1.elems.length/\(a1.elems.getD r7.toInt.toNat []).length=1)<|lL (a1.elems.getD r7.toInt.toNat [])<|.done 0 [VS (((a1.elems.getD r7.toInt.toNat []).hA).toStr)] [.cells [((o7.hO).cs.getD 0 .any),VI (((o7.hO).cs.getD 1 .any).toInt)]]) (.call 94 [.ref 0 0,.sl [[VS (mk [120])],[VS (mk [49])],[VS (mk [120])],[VS (mk [121])],[VS (mk [48])],[VS (mk [49])]]] [.cells [((o6.hO).cs.getD 0 .any),VI (((o6.hO).cs.getD 1 .any).toInt)]] fun r8 o8=>.ai ((o8.hO)=.cells (o8.hO).cs)<|.ai (aH [.lk .sl,.lk (.int .i64)] ((o8.hO).cs) 0 1 o8.tail)<|NS r8<|.done 0 [VS r8.toStr] [.cells [((o8.hO).cs.getD 0 .any),VI (((o8.hO).cs.getD 1 .any).toInt)]])) (.call 94 [.ref 0 0,.sl [[VS (mk [120])],[VS (mk [49])],[VS (mk [120])],[VS (mk [121])],[VS (mk [48])],[VS (mk [49])]]] [.cells [((o5.hO).cs.getD 0 .any),VI (((o5.hO).cs.getD 1 .any).toInt)]] fun r9 o9=>.ai ((o9.hO)=.cells (o9.hO).cs)<|.ai (aH [.lk .sl,.lk (.int .i64)] ((o9.hO).cs) 0 1 o9.tail)<|NS r9<|.done 0 [VS r9.toStr] [.cells [((o9.hO).cs.getD 0 .any),VI (((o9.hO).cs.getD 1 .any).toInt)]])) (.call 45 [.ref 0 0,VI 5] [.cells [((o5.hO).cs.getD 0 .any),VI (((o5.hO).cs.getD 1 .any).toInt)]] fun r10 o10=>.ai ((o10.hO)=.cells (o10.hO).cs)<|.ai (aH [.lk .sl,.lk (.int .i64)] ((o10.hO).cs) 0 1 o10.tail)<|NI r10<|.test (r10.toInt==(0:Int)) (.call 143 [.ref 0 0,a1,VI (IntKind.wrap .i64 (a2-1))] [.cells [((o10.hO).cs.getD 0 .any),VI (((o10.hO).cs.getD 1 .any).toInt)]] fun r11 o11=>.ai ((o11.hO)=.cells (o11.hO).cs)<|.ai (aH [.lk .sl,.lk (.int .i64)] ((o11.hO).cs) 0 1 o11.tail)<|NS r11<|.ai (ah (mk [40,43,32])+ah r11.toStr<=9223372036854775807)<|.ai (ah (((mk [40,43,32]):ByteArray)++r11.toStr)+ah (mk [32])<=9223372036854775807)<|.call 143 [.ref 0 0,a1,VI (IntKind.wrap .i64 (a2-1))] [.cells [((o11.hO).cs.getD 0 .any),VI (((o11.hO).cs.getD 1 .any).toInt)]] fun r12 o12=>.ai ((o12.hO)=.cells (o12.hO).cs)<|.ai (aH [.lk .sl,.lk (.int .i64)] ((o12.hO).cs) 0 1 o12.tail)<|NS r12<|.ai (ah (((((mk [40,43,32]):ByteArray)++r11.toStr):ByteArray)++(mk [32]))+ah r12.toStr<=9223372036854775807)<|.ai (ah (((((((mk [40,43,32]):ByteArray)++r11.toStr):ByteArray)++(mk [32])):ByteArray)++r12.toStr)+ah (mk [41])<=9223372036854775807)<|.done 0 [VS (((((((((mk [40,43,32]):ByteArray)++r11.toStr):ByteArray)++(mk [32])):ByteArray)++r12.toStr):ByteArray)++(mk [41]))] [.cells [((o12.hO).cs.getD 0 .any),VI (((o12.hO).cs.getD 1 .any).toInt)]]) (.test (r10.toInt==(1:Int)) (.call 143 [.ref 0 0,a1,VI (IntKind.wrap .i64 (a2-1))] [.cells [((o10.hO).cs.getD 0 .any),VI (((o10.hO).cs.getD 1 .any).toInt)]] fun r13 o13=>.ai ((o13.hO)=.cells (o13.hO).cs)<|.ai (aH [.lk .sl,.lk (.int .i64)] ((o13.hO).cs) 0 1 o13.tail)<|NS r13<|.ai (ah (mk [40,43,32])+ah r13.toStr<=9223372036854775807)<|.ai (ah (((mk [40,43,32]):ByteArray)++r13.toStr)+ah (mk [32])<=9223372036854775807)<|.call 143 [.ref 0 0,a1,VI (IntKind.wrap .i64 (a2-1))] [.cells [((o13.hO).cs.getD 0 .any),VI (((o13.hO).cs.getD 1 .any).toInt)]] fun r14 o14=>.ai ((o14.hO)=.cells (o14.hO).cs)<|.ai (aH [.lk .sl,.lk (.int .i64)] ((o14.hO).cs) 0 1 o14.tail)<|NS r14<|.ai (ah (((((mk [40,43,32]):ByteArray)++r13.toStr):ByteArray)++(mk [32]))+ah r14.toStr<=9223372036854775807)<|.ai (ah (((((((mk [40,43,32]):ByteArray)++r13.toStr):ByteArray)++(mk [32])):ByteArray)++r14.toStr)+ah (mk [41])<=9223372036854775807)<|.done 0 [VS (((((((((mk [40,43,32]):ByteArray)++r13.toStr):ByteArray)++(mk [32])):ByteArray)++r14.toStr):ByteArray)++(mk [41]))] [.cells [((o14.hO).cs.getD 0 .any),VI (((o14.hO).cs.getD 1 .any).toInt)]]) (.test (r10.toInt==(2:Int)) (.call 143 [.ref 0 0,a1,VI (IntKind.wrap .i64 (a2-1))] [.cells [((o10.hO).cs.getD 0 .any),VI (((o10.hO).cs.getD 1 .any).toInt)]] fun r15 o15=>.ai ((o15.hO)=.cells (o15.hO).cs)<|.ai (aH [.lk .sl,.lk (.int .i64)] ((o15.hO).cs) 0 1 o15.tail)<|NS r15<|.ai (ah (mk [40,42,32])+ah r15.toStr<=9223372036854775807)<|.ai (ah (((mk [40,42,32]):ByteArray)++r15.toStr)+ah (mk [32])<=9223372036854775807)<|.call 143 [.ref 0 0,a1,VI (IntKind.wrap .i64 (a2-1))] [.cells [((o15.hO).cs.getD 0 .any),VI (((o15.hO).cs.getD 1 .any).toInt)]] fun r16 o16=>.ai ((o16.hO)=.cells (o16.hO).cs)<|.ai (aH [.lk .sl,.lk (.int .i64)] ((o16.hO).cs) 0 1 o16.tail)<|NS r16<|.ai (ah (((((mk [40,42,32]):ByteArray)++r15.toStr):ByteArray)++(mk [32]))+ah r16.toStr<=9223372036854775807)<|.ai (ah (((((((mk [40,42,32]):ByteArray)++r15.toStr):ByteArray)++(mk [32])):ByteArray)++r16.toStr)+ah (mk [41])<=9223372036854775807)<|.done 0 [VS (((((((((mk [40,42,32]):ByteArray)++r15.toStr):ByteArray)++(mk [32])):ByteArray)++r16.toStr):ByteArray)++(mk [41]))] [.cells [((o16.hO).cs.getD 0 .any),VI (((o16.hO).cs.getD 1 .any).toInt)]]) (.test (r10.toInt==(3:Int)) (.call 143 [.ref 0 0,a1,VI (IntKind.wrap .i64 (a2-1))] [.cells [((o10.hO).cs.getD 0 .any),VI (((o10.hO).cs.getD 1 .any).toInt)]] fun r17 o17=>.ai ((o17.hO)=.cells (o17.hO).cs)<|.ai (aH [.lk .sl,.lk (.int .i64)] ((o17.hO).cs) 0 1 o17.tail)<|NS r17<|.ai (ah (mk [40,42,32])+ah r17.toStr<=9223372036854775807)<|.ai (ah (((mk [40,42,32]):ByteArray)++r17.toStr)+ah (mk [32])<=9223372036854775807)<|.call 143 [.ref 0 0,a1,VI (IntKind.wrap .i64 (a2-1))] [.cells [((o17.hO).cs.getD 0 .any),VI (((o17.hO).cs.getD 1 .any).toInt)]] fun r18 o18=>.ai ((o18.hO)=.cells (o18.hO).cs)<|.ai (aH [.lk .sl,.lk (.int .i64)] ((o18.hO).cs) 0 1 o18.tail)<|NS r18<|.ai (ah (((((mk [40,42,32]):ByteArray)++r17.toStr):ByteArray)++(mk [32]))+ah r18.toStr<=9223372036854775807)<|.ai (ah (((((((mk [40,42,32]):ByteArray)++r17.toStr):ByteArray)++(mk [32])):ByteArray)++r18.toStr)+ah (mk [41])<=9223372036854775807)<|.done 0 [VS (((((((((mk [40,42,32]):ByteArray)++r17.toStr):ByteArray)++(mk [32])):ByteArray)++r18.toStr):ByteArray)++(mk [41]))] [.cells [((o18.hO).cs.getD 0 .any),VI (((o18.hO).cs.getD 1 .any).toInt)]]) (.call 94 [.ref 0 0,.sl [[VS (mk [116])],[VS (mk [116,49])],[VS (mk [116,48])]]] [.cells [((o10.hO).cs.getD 0 .any),VI (((o10.hO).cs.getD 1 .any).toInt)]] fun r19 o19=>.ai ((o19.hO)=.cells (o19.hO).cs)<|.ai (aH [.lk .sl,.lk (.int .i64)] ((o19.hO).cs) 0 1 o19.tail)<|NS r19<|.ai (ah (mk [40,114,101,99,32])+ah r19.toStr<=9223372036854775807)<|.ai (ah (((mk [40,114,101,99,32]):ByteArray)++r19.toStr)+ah (mk [32,40,43,32,49,32])<=9223372036854775807)<|.call 129 [a1,VS r19.toStr] [] fun r20 o20=>.ai (r20=.vec 0/\(o20.hO)=.vec 1 (o20.hO).es)<|.ai (∀x,x∈o20->dI x)<|.call 143 [.ref 0 0,.sl ((o20.hO).es),VI (IntKind.wrap .i64 (a2-1))] [.cells [((o19.hO).cs.getD 0 .any),VI (((o19.hO).cs.getD 1 .any).toInt)]] fun r21 o21=>.ai ((o21.hO)=.cells (o21.hO).cs)<|.ai (aH [.lk .sl,.lk (.int .i64)] ((o21.hO).cs) 0 1 o21.tail)<|NS r21<|.ai (ah (((((mk [40,114,101,99,32]):ByteArray)++r19.toStr):ByteArray)++(mk [32,40,43,32,49,32]))+ah r21.toStr<=9223372036854775807)<|.ai (ah (((((((mk [40,114,101,99,32]):ByteArray)++r19.toStr):ByteArray)++(mk [32,40,43,32,49,32])):ByteArray)++r21.toStr)+ah (mk [41,41])<=9223372036854775807)<|.done 0 [VS (((((((((mk [40,114,101,99,32]):ByteArray)++r19.toStr):ByteArray)++(mk [32,40,43,32,49,32])):ByteArray)++r21.toStr):ByteArray)++(mk [41,41]))] [.cells [((o21.hO).cs.getD 0 .any),VI (((o21.hO).cs.getD 1 .any).toInt)]]))))))
theorem OZ(a0_0:AV)(a0_1:Int)(a1:AV)(a2:Int)(ha1:LK.has .sl a1)(ha0_0:LK.has .sl a0_0)(h:dq 82 (IN a0_0 a0_1 a1 a2) R):aq Tryz.prog 143 [.ref 0 0,a1,VI a2] [.cells [a0_0,VI a0_1]] R :=
 aq.oE (bG (cu (ag (bN ha0_0) (ag (az _) aC))) cH) (aq.up (ag (az _) (ag (bN ha1) (ag (az _) aC))) (oF [] {mu:=[(0,.one (.obj [.lk .sl,.lk (.int .i64)]))],own:=[]} Tryz.f143 h))
def Pj(a0:Int):Tree :=
 .test (decide (a0≥(97:Int))) (.test (decide (a0<=(122:Int))) (.done 0 [VB true] []) (.test (decide (a0≥(48:Int))) (.test (decide (a0<=(57:Int))) (.done 0 [VB true] []) (.test (a0==(43:Int)) (.done 0 [VB true] []) (.done 0 [VB (a0==(42:Int))] []))) (.test (a0==(43:Int)) (.done 0 [VB true] []) (.done 0 [VB (a0==(42:Int))] [])))) (.test (decide (a0≥(48:Int))) (.test (decide (a0<=(57:Int))) (.done 0 [VB true] []) (.test (a0==(43:Int)) (.done 0 [VB true] []) (.done 0 [VB (a0==(42:Int))] []))) (.test (a0==(43:Int)) (.done 0 [VB true] []) (.done 0 [VB (a0==(42:Int))] [])))
theorem RO(a0:Int)(h:dq 25 (Pj a0) R):aq Tryz.prog 144 [.v (.int .u8 a0)] [] R :=
 uQ (ag (az _) aC) (oQ [] Tryz.f144 h)
def Ms(a0:ByteArray)(a1:ByteArray):Tree :=
 .test (decide ((ah a0:Int)≥(1:Int))) (.test (decide ((ah a0:Int)<=(3:Int))) (.ai (0<=(0:Int)/\(0:Int)<=(1:Int)/\(1:Int)<=(ah a0:Int))<|.call 158 [VS a1,VS (cz a0 (bK 0) (bK 1))] [] fun r1 o1=>NB r1<|.test r1.toBool (.ai (0<=(1:Int)/\(1:Int)<=(ah a0:Int)/\(ah a0:Int)<=(ah a0:Int))<|.call 153 [VS (cz a0 (bK 1) (bK (ah a0:Int))),VS (mk [48,49,50,51,52,53,54,55,56,57])] [] fun r2 o2=>NS r2<|.done 0 [VB (af r2.toStr==af (mk []))] []) (.done 0 [VB false] [])) (.done 0 [VB false] [])) (.done 0 [VB false] [])
theorem Sa(a0:ByteArray)(a1:ByteArray)(h:dq 25 (Ms a0 a1) R):aq Tryz.prog 145 [VS a0,VS a1] [] R :=
 uQ (ag (az _) (ag (az _) aC)) (oQ [] Tryz.f145 h)
def GW(a0:AV)(e1_0_0:List (List AV)):Tree :=
 .call 148 [a0,.ref 0 0] [.cells [.vec 1],.vec 1 e1_0_0] fun r1 o1=>.ai ((o1.hO)=.cells (o1.hO).cs)<|.ai (aH [.vec 1] ((o1.hO).cs) 0 1 o1.tail)<|NZ a0<|NZ a0<|ei (a0.deref.drop 3)<|NP ((a0.deref.drop 3).hA)<|.test (!((a0.deref.drop 3).hA).isNil) (NZ a0<|NZ a0<|ei (a0.deref.drop 3)<|.call 147 [((a0.deref.drop 3).hA),.fn 148 [.ref 0 0]] [.cells [.vec 1],.vec 1 ((o1.tail.hO).es)] fun r2 o2=>.ai ((o2.hO)=.cells (o2.hO).cs)<|.ai (aH [.vec 1] ((o2.hO).cs) 0 1 o2.tail)<|NZ a0<|NZ a0<|ei (a0.deref.drop 4)<|NP ((a0.deref.drop 4).hA)<|.test (!((a0.deref.drop 4).hA).isNil) (NZ a0<|NZ a0<|ei (a0.deref.drop 4)<|.call 147 [((a0.deref.drop 4).hA),.fn 148 [.ref 0 0]] [.cells [.vec 1],.vec 1 ((o2.tail.hO).es)] fun r3 o3=>.ai ((o3.hO)=.cells (o3.hO).cs)<|.ai (aH [.vec 1] ((o3.hO).cs) 0 1 o3.tail)<|.done 0 [.any] [.cells [.vec 1],.vec 1 ((o3.tail.hO).es)]) (.done 0 [.any] [.cells [.vec 1],.vec 1 ((o2.tail.hO).es)])) (NZ a0<|NZ a0<|ei (a0.deref.drop 4)<|NP ((a0.deref.drop 4).hA)<|.test (!((a0.deref.drop 4).hA).isNil) (NZ a0<|NZ a0<|ei (a0.deref.drop 4)<|.call 147 [((a0.deref.drop 4).hA),.fn 148 [.ref 0 0]] [.cells [.vec 1],.vec 1 ((o1.tail.hO).es)] fun r4 o4=>.ai ((o4.hO)=.cells (o4.hO).cs)<|.ai (aH [.vec 1] ((o4.hO).cs) 0 1 o4.tail)<|.done 0 [.any] [.cells [.vec 1],.vec 1 ((o4.tail.hO).es)]) (.done 0 [.any] [.cells [.vec 1],.vec 1 ((o1.tail.hO).es)]))
theorem yR(a0:AV)(e1_0_0:List (List AV))(ha0:LK.has .ptr a0)(h:dq 29 (GW a0 e1_0_0) R):aq Tryz.prog 147 [a0,.fn 148 [.ref 0 0]] [.cells [.vec 1],.vec 1 e1_0_0] R :=
 aq.oE (bG (cu (ag (az _) aC)) (bG (fV _) cH)) (aq.up (ag (bI ha0) (ag (az _) aC)) (oF [] {mu:=[(1,.fn [some (.obj [.vec 1])])],own:=[]} Tryz.f147 h))
def Ka(a0:AV)(e1_0:List (List AV)):Tree :=
 NZ a0<|NZ a0<|.ai (LK.has (.int .u8) (a0.deref.hA)/\1<=a0.deref.length)<|.test (((a0.deref.hA).toInt)==(110:Int)) (NZ a0<|NZ a0<|lL (a0.deref.drop 1)<|.call 124 [.sl e1_0,VS (((a0.deref.drop 1).hA).toStr)] [] fun r1 o1=>NB r1<|.test (!r1.toBool) (NZ a0<|NZ a0<|lL (a0.deref.drop 1)<|.ai (ck 1 [[VS (((a0.deref.drop 1).hA).toStr)]]/\((e1_0.length)+([[VS (((a0.deref.drop 1).hA).toStr)]]:List (List AV)).length)*16<=140737488355328)<|.done 0 [.any] [.cells [.vec 1],.vec 1 (e1_0++([[VS (((a0.deref.drop 1).hA).toStr)]]:List (List AV)))]) (.done 0 [.any] [.cells [.vec 1],.vec 1 e1_0])) (.done 0 [.any] [.cells [.vec 1],.vec 1 e1_0])
theorem SQ(a0:AV)(e1_0:List (List AV))(ha0:LK.has .ptr a0)(h:dq 24 (Ka a0 e1_0) R):aq Tryz.prog 148 [a0,.ref 0 0] [.cells [.vec 1],.vec 1 e1_0] R :=
 aq.oE (bG (cu (ag (az _) aC)) (bG (fV _) cH)) (aq.up (ag (bI ha0) (ag (az _) aC)) (oF [] {mu:=[(1,.one (.obj [.vec 1]))],own:=[]} Tryz.f148 h))
def Ih:LI:={hd:={bQ:=[(0,.k .sl),(1,.k .str),(7,.k (.int .i64)),(8,.k (.int .i64))]},xs:={},rt:={bQ:=[(4,.k (.int .i64))]},ex:=0}
def QL:Code:=cL (cG Tryz.f149) 2
def Pw:List (Nat×LI):=[(2,Ih)]
def PO(a0:AV)(a1:ByteArray):Tree :=
 NL a0<|.loop QL Ih [a0,VS a1,VI (a0.elems.length:Int),VI 0] [] (fun y1 q1=>.done 0 [VI (-1)] []) (fun y1 q1=>NI (y1.hA)<|.done 0 [VI ((y1.hA).toInt)] [])
theorem Ug(a0:AV)(a1:ByteArray)(ha0:LK.has .sl a0)(h:dq 19 (PO a0 a1) R):aq Tryz.prog 149 [a0,VS a1] [] R :=
 uQ (ag (bN ha0) (ag (az _) aC)) (oQ Pw Tryz.f149 h)
def KC(x0:AV)(x1:ByteArray)(x7:Int)(x8:Int):Tree :=
 NL x0<|NS (VS x1)<|NI (VI x7)<|NI (VI x8)<|.test (decide (x8<x7)) (NG x0 x8 1<|lL (x0.ix x8)<|.test (af x1==af (((x0.ix x8).hA).toStr)) (.done 2 [VI x8] []) (.done 0 [x0,VS x1,VI x7,VI (IntKind.wrap .i64 (x8+1))] [])) (.done 1 [] [])
abbrev IT:=cF Tryz.prog 19 QL Ih
theorem NX(x0:AV)(x1:ByteArray)(x7:Int)(x8:Int)(h:kO 19 (KC x0 x1 x7 x8) IT U):IT [x0,VS x1,VI x7,VI x8] [] U :=
 gQ Pw h
def PG(a0:AV):Tree :=
 .call 160 [a0,.v (.func (.func 118) #[] #[])] [] fun r1 o1=>NI r1<|.done 0 [VB (decide (r1.toInt≥(0:Int)))] []
theorem UA(a0:AV)(ha0:LK.has .sl a0)(h:dq 9 (PG a0) R):aq Tryz.prog 150 [a0,.v (.func (.func 118) #[] #[])] [] R :=
 uQ (ag (bN ha0) (ag (az _) aC)) (oQ [] Tryz.f150 h)
def MR(a0:ByteArray):Tree :=
 .call 97 [VS a0] [] fun r1 o1=>NT r1<|.ai ((r1.comp 0)=.agg (r1.comp 0).cs/\(r1.comp 0).cs.length=2/\bC [.str,.sl] ((r1.comp 0).cs) 0)<|NB (r1.comp 1)<|.test (!((r1.comp 1).toBool)) (.done 0 [.cm [VS (mk []),VB false]] []) (.call 54 [.agg [VS (((r1.comp 0).cs.getD 0 .any).toStr),((r1.comp 0).cs.getD 1 .any)]] [] fun r2 o2=>NS r2<|.test (!(af r2.toStr==af (mk [114,101,99]))) (.done 0 [.cm [VS (mk []),VB false]] []) (.call 173 [.agg [VS (((r1.comp 0).cs.getD 0 .any).toStr),((r1.comp 0).cs.getD 1 .any)]] [] fun r3 o3=>NT r3<|.ai ((r3.comp 0)=.agg (r3.comp 0).cs/\(r3.comp 0).cs.length=2/\bC [.str,.sl] ((r3.comp 0).cs) 0)<|NB (r3.comp 1)<|.test (!((r3.comp 1).toBool)) (.done 0 [.cm [VS (mk []),VB false]] []) (.call 174 [.agg [VS (((r3.comp 0).cs.getD 0 .any).toStr),((r3.comp 0).cs.getD 1 .any)]] [] fun r4 o4=>NT r4<|NS (r4.comp 0)<|NB (r4.comp 1)<|.done 0 [.cm [VS ((r4.comp 0).toStr),VB ((r4.comp 1).toBool)]] [])))
theorem RV(a0:ByteArray)(h:dq 31 (MR a0) R):aq Tryz.prog 154 [VS a0] [] R :=
 uQ (ag (az _) aC) (oQ [] Tryz.f154 h)
def OL(a0:ByteArray)(a1:ByteArray)(a2:ByteArray):Tree :=
 .call 26 [VS a0] [] fun r1 o1=>NT r1<|.ai ((r1.comp 0)=.agg (r1.comp 0).cs/\(r1.comp 0).cs.length=2/\bC [.str,.sl] ((r1.comp 0).cs) 0)<|NB (r1.comp 1)<|.call 154 [VS a0] [] fun r2 o2=>NT r2<|NS (r2.comp 0)<|NB (r2.comp 1)<|.test (!((r1.comp 1).toBool)) (.done 0 [.cm [VS (mk []),VB false]] []) (.test (!((r2.comp 1).toBool)) (.done 0 [.cm [VS (mk []),VB false]] []) (.call 27 [VS ((r2.comp 0).toStr),VS a1,VI 100] [] fun r3 o3=>NB r3<|.test (!r3.toBool) (.done 0 [.cm [VS (mk []),VB false]] []) (.call 27 [VS a0,VS a2,VI 100] [] fun r4 o4=>NB r4<|.test (!r4.toBool) (.done 0 [.cm [VS (mk []),VB false]] []) (.call 28 [VS a1] [] fun r5 o5=>NT r5<|.ai ((r5.comp 0)=.agg (r5.comp 0).cs/\(r5.comp 0).cs.length=2/\bC [.str,.sl] ((r5.comp 0).cs) 0)<|NB (r5.comp 1)<|.call 28 [VS a2] [] fun r6 o6=>NT r6<|.ai ((r6.comp 0)=.agg (r6.comp 0).cs/\(r6.comp 0).cs.length=2/\bC [.str,.sl] ((r6.comp 0).cs) 0)<|NB (r6.comp 1)<|NG ((r1.comp 0).cs.getD 1 .any) 2 2<|NE (((r1.comp 0).cs.getD 1 .any).ix (2:Int))<|NG ((r1.comp 0).cs.getD 1 .any) 1 2<|lL (((r1.comp 0).cs.getD 1 .any).ix (1:Int))<|.call 62 [.agg [VS (((((r1.comp 0).cs.getD 1 .any).ix (2:Int)).getD 0 .any).toStr),((((r1.comp 0).cs.getD 1 .any).ix (2:Int)).getD 1 .any)],VS (((((r1.comp 0).cs.getD 1 .any).ix (1:Int)).hA).toStr),.agg [VS (((r5.comp 0).cs.getD 0 .any).toStr),((r5.comp 0).cs.getD 1 .any)],.agg [VS (((r6.comp 0).cs.getD 0 .any).toStr),((r6.comp 0).cs.getD 1 .any)]] [] fun r7 o7=>NA r7<|.call 61 [VS (mk [102]),.sl [[VS ((r7.cs.getD 0 .any).toStr),(r7.cs.getD 1 .any)]]] [] fun r8 o8=>NA r8<|.call 60 [.agg [VS ((r8.cs.getD 0 .any).toStr),(r8.cs.getD 1 .any)]] [] fun r9 o9=>NS r9<|.call 27 [VS a0,VS r9.toStr,VI 100] [] fun r10 o10=>NB r10<|.test (!r10.toBool) (.done 0 [.cm [VS (mk []),VB false]] []) (.done 0 [.cm [VS r9.toStr,VB true]] [])))))
theorem Vd(a0:ByteArray)(a1:ByteArray)(a2:ByteArray)(h:dq 75 (OL a0 a1 a2) R):aq Tryz.prog 155 [VS a0,VS a1,VS a2] [] R :=
 uQ (ag (az _) (ag (az _) (ag (az _) aC))) (oQ [] Tryz.f155 h)
def Q5(a0_0:ByteArray)(a0_1:AV)(a1:ByteArray)(a2_0:ByteArray)(a2_1:AV):Tree :=
 .call 134 [.agg [VS a0_0,a0_1]] [] fun r1 o1=>NI r1<|.call 175 [.agg [VS a0_0,a0_1],VS a1] [] fun r2 o2=>NI r2<|.call 134 [.agg [VS a2_0,a2_1]] [] fun r3 o3=>NI r3<|.done 0 [VB (decide ((IntKind.wrap .i64 (r1.toInt+(IntKind.wrap .i64 (r2.toInt*(IntKind.wrap .i64 (r3.toInt-1))))))<=(400:Int)))] []
theorem Td(a0_0:ByteArray)(a0_1:AV)(a1:ByteArray)(a2_0:ByteArray)(a2_1:AV)(ha0_1:LK.has .sl a0_1)(ha2_1:LK.has .sl a2_1)(h:dq 18 (Q5 a0_0 a0_1 a1 a2_0 a2_1) R):aq Tryz.prog 156 [.agg [VS a0_0,a0_1],VS a1,.agg [VS a2_0,a2_1]] [] R :=
 uQ (ag (bX (ag (az _) (ag (bN ha0_1) aC))) (ag (az _) (ag (bX (ag (az _) (ag (bN ha2_1) aC))) aC))) (oQ [] Tryz.f156 h)
def Qo(a0_0:ByteArray)(a0_1:AV)(a1:ByteArray)(a2_0:ByteArray)(a2_1:AV):Tree :=
 .call 96 [.agg [VS a0_0,a0_1],.sl [[VS a2_0,a2_1],[VS a1,.v (.slice none 0 0)]]] [] fun r1 o1=>NA r1<|.call 176 [.agg [VS ((r1.cs.getD 0 .any).toStr),(r1.cs.getD 1 .any)],VS a1,.agg [VS a2_0,a2_1]] [] fun r2 o2=>NA r2<|.done 0 [.agg [VS ((r2.cs.getD 0 .any).toStr),(r2.cs.getD 1 .any)]] []
theorem UH(a0_0:ByteArray)(a0_1:AV)(a1:ByteArray)(a2_0:ByteArray)(a2_1:AV)(ha0_1:LK.has .sl a0_1)(ha2_1:LK.has .sl a2_1)(h:dq 16 (Qo a0_0 a0_1 a1 a2_0 a2_1) R):aq Tryz.prog 157 [.agg [VS a0_0,a0_1],VS a1,.agg [VS a2_0,a2_1]] [] R :=
 uQ (ag (bX (ag (az _) (ag (bN ha0_1) aC))) (ag (az _) (ag (bX (ag (az _) (ag (bN ha2_1) aC))) aC))) (oQ [] Tryz.f157 h)
def JW:LI:={hd:={bQ:=[(0,.k .sl),(1,.c (.func (.func 118) #[] #[])),(7,.k (.int .i64)),(8,.k (.int .i64))]},xs:={},rt:={bQ:=[(4,.k (.int .i64))]},ex:=0}
def OS:Code:=cL (cG Tryz.f160) 2
def KT:List (Nat×LI):=[(2,JW)]
def MQ(a0:AV):Tree :=
 NL a0<|.loop OS JW [a0,.v (.func (.func 118) #[] #[]),VI (a0.elems.length:Int),VI 0] [] (fun y2 q2=>.done 0 [VI (-1)] []) (fun y2 q2=>NI (y2.hA)<|.done 0 [VI ((y2.hA).toInt)] [])
theorem Sn(a0:AV)(ha0:LK.has .sl a0)(h:dq 19 (MQ a0) R):aq Tryz.prog 160 [a0,.v (.func (.func 118) #[] #[])] [] R :=
 uQ (ag (bN ha0) (ag (az _) aC)) (oQ KT Tryz.f160 h)
def Kb(x0:AV)(x7:Int)(x8:Int):Tree :=
 NL x0<|.ai (AV.v (.func (.func 118) #[] #[])=.v (.func (.func 118) #[] #[]))<|NI (VI x7)<|NI (VI x8)<|.test (decide (x8<x7)) (NG x0 x8 1<|lL (x0.ix x8)<|.call 118 [VS (((x0.ix x8).hA).toStr)] [] fun r1 o1=>NB r1<|.test r1.toBool (.done 2 [VI x8] []) (.done 0 [x0,.v (.func (.func 118) #[] #[]),VI x7,VI (IntKind.wrap .i64 (x8+1))] [])) (.done 1 [] [])
abbrev HB:=cF Tryz.prog 19 OS JW
theorem Qf(x0:AV)(x7:Int)(x8:Int)(h:kO 19 (Kb x0 x7 x8) HB U):HB [x0,.v (.func (.func 118) #[] #[]),VI x7,VI x8] [] U :=
 gQ KT h
def PN(a0_0:ByteArray)(a0_1:AV):Tree :=
 NG a0_1 1 2<|lL (a0_1.ix (1:Int))<|NG a0_1 2 2<|NE (a0_1.ix (2:Int))<|.call 189 [.agg [VS (((a0_1.ix (2:Int)).getD 0 .any).toStr),((a0_1.ix (2:Int)).getD 1 .any)],VS (((a0_1.ix (1:Int)).hA).toStr)] [] fun r1 o1=>NT r1<|.ai ((r1.comp 0)=.agg (r1.comp 0).cs/\(r1.comp 0).cs.length=2/\bC [.str,.sl] ((r1.comp 0).cs) 0)<|NB (r1.comp 1)<|.test (!((r1.comp 1).toBool)) (.done 0 [.cm [.agg [VS a0_0,a0_1],VB false]] []) (.call 190 [.agg [VS (((r1.comp 0).cs.getD 0 .any).toStr),((r1.comp 0).cs.getD 1 .any)],VS (((a0_1.ix (1:Int)).hA).toStr),.agg [VS a0_0,a0_1]] [] fun r2 o2=>NT r2<|.ai ((r2.comp 0)=.agg (r2.comp 0).cs/\(r2.comp 0).cs.length=2/\bC [.str,.sl] ((r2.comp 0).cs) 0)<|NB (r2.comp 1)<|.done 0 [.cm [.agg [VS (((r2.comp 0).cs.getD 0 .any).toStr),((r2.comp 0).cs.getD 1 .any)],VB ((r2.comp 1).toBool)]] [])
theorem TZ(a0_0:ByteArray)(a0_1:AV)(ha0_1:LK.has .sl a0_1)(h:dq 30 (PN a0_0 a0_1) R):aq Tryz.prog 173 [.agg [VS a0_0,a0_1]] [] R :=
 uQ (ag (bX (ag (az _) (ag (bN ha0_1) aC))) aC) (oQ [] Tryz.f173 h)
def MB(a0_0:ByteArray)(a0_1:AV):Tree :=
 .call 134 [.agg [VS a0_0,a0_1]] [] fun r1 o1=>NI r1<|.test (decide (r1.toInt>(400:Int))) (.done 0 [.cm [VS (mk []),VB false]] []) (.call 96 [.agg [VS a0_0,a0_1],.v (.slice none 0 0)] [] fun r2 o2=>NA r2<|.call 60 [.agg [VS ((r2.cs.getD 0 .any).toStr),(r2.cs.getD 1 .any)]] [] fun r3 o3=>NS r3<|.call 191 [VS r3.toStr] [] fun r4 o4=>NB r4<|.test (!r4.toBool) (.done 0 [.cm [VS (mk []),VB false]] []) (.done 0 [.cm [VS r3.toStr,VB true]] []))
theorem Ub(a0_0:ByteArray)(a0_1:AV)(ha0_1:LK.has .sl a0_1)(h:dq 15 (MB a0_0 a0_1) R):aq Tryz.prog 174 [.agg [VS a0_0,a0_1]] [] R :=
 uQ (ag (bX (ag (az _) (ag (bN ha0_1) aC))) aC) (oQ [] Tryz.f174 h)
def Ef(a0_0:ByteArray)(a0_1:AV)(a1:ByteArray):Tree :=
 .test (!(af a0_0==af (mk []))) (.test (af a0_0==af a1) (.done 0 [VI 1] []) (.done 0 [VI 0] [])) (.call 54 [.agg [VS a0_0,a0_1]] [] fun r1 o1=>NS r1<|.test (af r1.toStr==af (mk [114,101,99])) (NG a0_1 1 2<|lL (a0_1.ix (1:Int))<|.test (af (((a0_1.ix (1:Int)).hA).toStr)==af a1) (.done 0 [VI 0] []) (NG a0_1 2 2<|NE (a0_1.ix (2:Int))<|.call 175 [.agg [VS (((a0_1.ix (2:Int)).getD 0 .any).toStr),((a0_1.ix (2:Int)).getD 1 .any)],VS a1] [] fun r2 o2=>NI r2<|.done 0 [VI r2.toInt] [])) (NG a0_1 1 2<|NE (a0_1.ix (1:Int))<|.call 175 [.agg [VS (((a0_1.ix (1:Int)).getD 0 .any).toStr),((a0_1.ix (1:Int)).getD 1 .any)],VS a1] [] fun r3 o3=>NI r3<|NG a0_1 2 2<|NE (a0_1.ix (2:Int))<|.call 175 [.agg [VS (((a0_1.ix (2:Int)).getD 0 .any).toStr),((a0_1.ix (2:Int)).getD 1 .any)],VS a1] [] fun r4 o4=>NI r4<|.done 0 [VI (IntKind.wrap .i64 (r3.toInt+r4.toInt))] []))
theorem Fi(a0_0:ByteArray)(a0_1:AV)(a1:ByteArray)(ha0_1:LK.has .sl a0_1)(h:dq 41 (Ef a0_0 a0_1 a1) R):aq Tryz.prog 175 [.agg [VS a0_0,a0_1],VS a1] [] R :=
 uQ (ag (bX (ag (az _) (ag (bN ha0_1) aC))) (ag (az _) aC)) (oQ [] Tryz.f175 h)
def B5(a0_0:ByteArray)(a0_1:AV)(a1:ByteArray)(a2_0:ByteArray)(a2_1:AV):Tree :=
 .test (!(af a0_0==af (mk []))) (.test (af a0_0==af a1) (.done 0 [.agg [VS a2_0,a2_1]] []) (.done 0 [.agg [VS a0_0,a0_1]] [])) (.call 54 [.agg [VS a0_0,a0_1]] [] fun r1 o1=>NS r1<|.test (af r1.toStr==af (mk [114,101,99])) (NG a0_1 1 2<|lL (a0_1.ix (1:Int))<|.test (af (((a0_1.ix (1:Int)).hA).toStr)==af a1) (.done 0 [.agg [VS a0_0,a0_1]] []) (NG a0_1 1 2<|NE (a0_1.ix (1:Int))<|NG a0_1 2 2<|NE (a0_1.ix (2:Int))<|.call 176 [.agg [VS (((a0_1.ix (2:Int)).getD 0 .any).toStr),((a0_1.ix (2:Int)).getD 1 .any)],VS a1,.agg [VS a2_0,a2_1]] [] fun r2 o2=>NA r2<|.call 61 [VS (mk [114,101,99]),.sl [[VS (((a0_1.ix (1:Int)).getD 0 .any).toStr),((a0_1.ix (1:Int)).getD 1 .any)],[VS ((r2.cs.getD 0 .any).toStr),(r2.cs.getD 1 .any)]]] [] fun r3 o3=>NA r3<|.done 0 [.agg [VS ((r3.cs.getD 0 .any).toStr),(r3.cs.getD 1 .any)]] [])) (.call 54 [.agg [VS a0_0,a0_1]] [] fun r4 o4=>NS r4<|NG a0_1 1 2<|NE (a0_1.ix (1:Int))<|.call 176 [.agg [VS (((a0_1.ix (1:Int)).getD 0 .any).toStr),((a0_1.ix (1:Int)).getD 1 .any)],VS a1,.agg [VS a2_0,a2_1]] [] fun r5 o5=>NA r5<|NG a0_1 2 2<|NE (a0_1.ix (2:Int))<|.call 176 [.agg [VS (((a0_1.ix (2:Int)).getD 0 .any).toStr),((a0_1.ix (2:Int)).getD 1 .any)],VS a1,.agg [VS a2_0,a2_1]] [] fun r6 o6=>NA r6<|.call 61 [VS r4.toStr,.sl [[VS ((r5.cs.getD 0 .any).toStr),(r5.cs.getD 1 .any)],[VS ((r6.cs.getD 0 .any).toStr),(r6.cs.getD 1 .any)]]] [] fun r7 o7=>NA r7<|.done 0 [.agg [VS ((r7.cs.getD 0 .any).toStr),(r7.cs.getD 1 .any)]] []))
theorem EA(a0_0:ByteArray)(a0_1:AV)(a1:ByteArray)(a2_0:ByteArray)(a2_1:AV)(ha0_1:LK.has .sl a0_1)(ha2_1:LK.has .sl a2_1)(h:dq 58 (B5 a0_0 a0_1 a1 a2_0 a2_1) R):aq Tryz.prog 176 [.agg [VS a0_0,a0_1],VS a1,.agg [VS a2_0,a2_1]] [] R :=
 uQ (ag (bX (ag (az _) (ag (bN ha0_1) aC))) (ag (az _) (ag (bX (ag (az _) (ag (bN ha2_1) aC))) aC))) (oQ [] Tryz.f176 h)
def DS(a0_0:ByteArray)(a0_1:AV)(a1:ByteArray):Tree :=
 .test (!(af a0_0==af (mk []))) (.test (af a0_0==af a1) (.done 0 [.cm [.agg [VS (mk [49]),.v (.slice none 0 0)],VB true]] []) (.done 0 [.cm [.agg [VS (mk [48]),.v (.slice none 0 0)],VB true]] [])) (.call 54 [.agg [VS a0_0,a0_1]] [] fun r1 o1=>NS r1<|.test (af r1.toStr==af (mk [114,101,99])) (.call 203 [.agg [VS a0_0,a0_1],VS a1] [] fun r2 o2=>NT r2<|.ai ((r2.comp 0)=.agg (r2.comp 0).cs/\(r2.comp 0).cs.length=2/\bC [.str,.sl] ((r2.comp 0).cs) 0)<|NB (r2.comp 1)<|.done 0 [.cm [.agg [VS (((r2.comp 0).cs.getD 0 .any).toStr),((r2.comp 0).cs.getD 1 .any)],VB ((r2.comp 1).toBool)]] []) (NG a0_1 1 2<|NE (a0_1.ix (1:Int))<|.call 189 [.agg [VS (((a0_1.ix (1:Int)).getD 0 .any).toStr),((a0_1.ix (1:Int)).getD 1 .any)],VS a1] [] fun r3 o3=>NT r3<|.ai ((r3.comp 0)=.agg (r3.comp 0).cs/\(r3.comp 0).cs.length=2/\bC [.str,.sl] ((r3.comp 0).cs) 0)<|NB (r3.comp 1)<|NG a0_1 2 2<|NE (a0_1.ix (2:Int))<|.call 189 [.agg [VS (((a0_1.ix (2:Int)).getD 0 .any).toStr),((a0_1.ix (2:Int)).getD 1 .any)],VS a1] [] fun r4 o4=>NT r4<|.ai ((r4.comp 0)=.agg (r4.comp 0).cs/\(r4.comp 0).cs.length=2/\bC [.str,.sl] ((r4.comp 0).cs) 0)<|NB (r4.comp 1)<|.call 61 [VS (mk [43]),.sl [[VS (((r3.comp 0).cs.getD 0 .any).toStr),((r3.comp 0).cs.getD 1 .any)],[VS (((r4.comp 0).cs.getD 0 .any).toStr),((r4.comp 0).cs.getD 1 .any)]]] [] fun r5 o5=>NA r5<|.call 54 [.agg [VS a0_0,a0_1]] [] fun r6 o6=>NS r6<|.test (af r6.toStr==af (mk [42])) (NG a0_1 2 2<|NE (a0_1.ix (2:Int))<|.call 61 [VS (mk [42]),.sl [[VS (((r3.comp 0).cs.getD 0 .any).toStr),((r3.comp 0).cs.getD 1 .any)],[VS (((a0_1.ix (2:Int)).getD 0 .any).toStr),((a0_1.ix (2:Int)).getD 1 .any)]]] [] fun r7 o7=>NA r7<|NG a0_1 1 2<|NE (a0_1.ix (1:Int))<|.call 61 [VS (mk [42]),.sl [[VS (((a0_1.ix (1:Int)).getD 0 .any).toStr),((a0_1.ix (1:Int)).getD 1 .any)],[VS (((r4.comp 0).cs.getD 0 .any).toStr),((r4.comp 0).cs.getD 1 .any)]]] [] fun r8 o8=>NA r8<|.call 61 [VS (mk [43]),.sl [[VS ((r7.cs.getD 0 .any).toStr),(r7.cs.getD 1 .any)],[VS ((r8.cs.getD 0 .any).toStr),(r8.cs.getD 1 .any)]]] [] fun r9 o9=>NA r9<|.test ((r3.comp 1).toBool) (.test ((r4.comp 1).toBool) (.call 134 [.agg [VS ((r9.cs.getD 0 .any).toStr),(r9.cs.getD 1 .any)]] [] fun r10 o10=>NI r10<|.done 0 [.cm [.agg [VS ((r9.cs.getD 0 .any).toStr),(r9.cs.getD 1 .any)],VB (decide (r10.toInt<=(400:Int)))]] []) (.done 0 [.cm [.agg [VS ((r9.cs.getD 0 .any).toStr),(r9.cs.getD 1 .any)],VB false]] [])) (.done 0 [.cm [.agg [VS ((r9.cs.getD 0 .any).toStr),(r9.cs.getD 1 .any)],VB false]] [])) (.test ((r3.comp 1).toBool) (.test ((r4.comp 1).toBool) (.call 134 [.agg [VS ((r5.cs.getD 0 .any).toStr),(r5.cs.getD 1 .any)]] [] fun r11 o11=>NI r11<|.done 0 [.cm [.agg [VS ((r5.cs.getD 0 .any).toStr),(r5.cs.getD 1 .any)],VB (decide (r11.toInt<=(400:Int)))]] []) (.done 0 [.cm [.agg [VS ((r5.cs.getD 0 .any).toStr),(r5.cs.getD 1 .any)],VB false]] [])) (.done 0 [.cm [.agg [VS ((r5.cs.getD 0 .any).toStr),(r5.cs.getD 1 .any)],VB false]] []))))
theorem F4(a0_0:ByteArray)(a0_1:AV)(a1:ByteArray)(ha0_1:LK.has .sl a0_1)(h:dq 79 (DS a0_0 a0_1 a1) R):aq Tryz.prog 189 [.agg [VS a0_0,a0_1],VS a1] [] R :=
 uQ (ag (bX (ag (az _) (ag (bN ha0_1) aC))) (ag (az _) aC)) (oQ [] Tryz.f189 h)
def Qm(a0_0:ByteArray)(a0_1:AV)(a1:ByteArray)(a2_0:ByteArray)(a2_1:AV):Tree :=
 .call 156 [.agg [VS a0_0,a0_1],VS a1,.agg [VS a2_0,a2_1]] [] fun r1 o1=>NB r1<|.test (!r1.toBool) (.done 0 [.cm [.agg [VS a0_0,a0_1],VB false]] []) (.call 157 [.agg [VS a0_0,a0_1],VS a1,.agg [VS a2_0,a2_1]] [] fun r2 o2=>NA r2<|.done 0 [.cm [.agg [VS ((r2.cs.getD 0 .any).toStr),(r2.cs.getD 1 .any)],VB true]] [])
theorem Te(a0_0:ByteArray)(a0_1:AV)(a1:ByteArray)(a2_0:ByteArray)(a2_1:AV)(ha0_1:LK.has .sl a0_1)(ha2_1:LK.has .sl a2_1)(h:dq 18 (Qm a0_0 a0_1 a1 a2_0 a2_1) R):aq Tryz.prog 190 [.agg [VS a0_0,a0_1],VS a1,.agg [VS a2_0,a2_1]] [] R :=
 uQ (ag (bX (ag (az _) (ag (bN ha0_1) aC))) (ag (az _) (ag (bX (ag (az _) (ag (bN ha2_1) aC))) aC))) (oQ [] Tryz.f190 h)
def QN(a0:ByteArray):Tree :=
 .call 97 [VS a0] [] fun r1 o1=>NT r1<|.ai ((r1.comp 0)=.agg (r1.comp 0).cs/\(r1.comp 0).cs.length=2/\bC [.str,.sl] ((r1.comp 0).cs) 0)<|NB (r1.comp 1)<|.done 0 [VB ((r1.comp 1).toBool)] []
theorem US(a0:ByteArray)(h:dq 11 (QN a0) R):aq Tryz.prog 191 [VS a0] [] R :=
 uQ (ag (az _) aC) (oQ [] Tryz.f191 h)
def Ha:LI:={hd:={bQ:=[(17,.k (.int .i64))],refs:=[(4,4),(12,12),(14,14)],cv:=[(4,[.lk .str,.lk .sl]),(12,[.lk .str,.lk .sl]),(14,[.lk .str,.lk .sl])],eV:=[(16,1)]},xs:={bQ:=[(17,.k (.int .i64))],refs:=[(4,4),(12,12),(14,14)],cv:=[(4,[.lk .str,.lk .sl]),(12,[.lk .str,.lk .sl]),(14,[.lk .str,.lk .sl])]},rt:={},ex:=0}
def Mj:Code:=cL (cG Tryz.f203) 13
def L3:List (Nat×LI):=[(13,Ha)]
def OC(a0_0:ByteArray)(a0_1:AV)(a1:ByteArray):Tree :=
 .call 96 [.agg [VS a0_0,a0_1],.sl [[VS a1,.v (.slice none 0 0)]]] [] fun r1 o1=>NA r1<|NG (r1.cs.getD 1 .any) 1 2<|lL ((r1.cs.getD 1 .any).ix (1:Int))<|NG (r1.cs.getD 1 .any) 2 2<|NE ((r1.cs.getD 1 .any).ix (2:Int))<|.call 189 [.agg [VS ((((r1.cs.getD 1 .any).ix (2:Int)).getD 0 .any).toStr),(((r1.cs.getD 1 .any).ix (2:Int)).getD 1 .any)],VS a1] [] fun r2 o2=>NT r2<|.ai ((r2.comp 0)=.agg (r2.comp 0).cs/\(r2.comp 0).cs.length=2/\bC [.str,.sl] ((r2.comp 0).cs) 0)<|NB (r2.comp 1)<|NG (r1.cs.getD 1 .any) 2 2<|NE ((r1.cs.getD 1 .any).ix (2:Int))<|.call 189 [.agg [VS ((((r1.cs.getD 1 .any).ix (2:Int)).getD 0 .any).toStr),(((r1.cs.getD 1 .any).ix (2:Int)).getD 1 .any)],VS ((((r1.cs.getD 1 .any).ix (1:Int)).hA).toStr)] [] fun r3 o3=>NT r3<|.ai ((r3.comp 0)=.agg (r3.comp 0).cs/\(r3.comp 0).cs.length=2/\bC [.str,.sl] ((r3.comp 0).cs) 0)<|NB (r3.comp 1)<|.test (!((r2.comp 1).toBool)) (.done 0 [.cm [.agg [VS ((r1.cs.getD 0 .any).toStr),(r1.cs.getD 1 .any)],VB false]] []) (.test (!((r3.comp 1).toBool)) (.done 0 [.cm [.agg [VS ((r1.cs.getD 0 .any).toStr),(r1.cs.getD 1 .any)],VB false]] []) (.call 190 [.agg [VS (((r2.comp 0).cs.getD 0 .any).toStr),((r2.comp 0).cs.getD 1 .any)],VS ((((r1.cs.getD 1 .any).ix (1:Int)).hA).toStr),.agg [VS ((r1.cs.getD 0 .any).toStr),(r1.cs.getD 1 .any)]] [] fun r4 o4=>NT r4<|.ai ((r4.comp 0)=.agg (r4.comp 0).cs/\(r4.comp 0).cs.length=2/\bC [.str,.sl] ((r4.comp 0).cs) 0)<|NB (r4.comp 1)<|.call 190 [.agg [VS (((r3.comp 0).cs.getD 0 .any).toStr),((r3.comp 0).cs.getD 1 .any)],VS ((((r1.cs.getD 1 .any).ix (1:Int)).hA).toStr),.agg [VS ((r1.cs.getD 0 .any).toStr),(r1.cs.getD 1 .any)]] [] fun r5 o5=>NT r5<|.ai ((r5.comp 0)=.agg (r5.comp 0).cs/\(r5.comp 0).cs.length=2/\bC [.str,.sl] ((r5.comp 0).cs) 0)<|NB (r5.comp 1)<|.test (!((r4.comp 1).toBool)) (.done 0 [.cm [.agg [VS ((r1.cs.getD 0 .any).toStr),(r1.cs.getD 1 .any)],VB false]] []) (.test (!((r5.comp 1).toBool)) (.done 0 [.cm [.agg [VS ((r1.cs.getD 0 .any).toStr),(r1.cs.getD 1 .any)],VB false]] []) (.call 98 [.agg [VS (((r5.comp 0).cs.getD 0 .any).toStr),((r5.comp 0).cs.getD 1 .any)],.sl [],.vec 0] [.vec 1 []] fun r6 o6=>.ai (r6=.vec 1/\(o6.tail.hO)=.vec 1 (o6.tail.hO).es)<|.call 98 [.agg [VS (((r4.comp 0).cs.getD 0 .any).toStr),((r4.comp 0).cs.getD 1 .any)],.sl [],.vec 0] [.vec 1 ((o6.tail.hO).es)] fun r7 o7=>.ai (r7=.vec 1/\(o7.tail.hO)=.vec 1 (o7.tail.hO).es)<|.loop Mj Ha [VI 0] [.cells [VS (mk []),.v (.slice none 0 0)],.cells [VS (((r4.comp 0).cs.getD 0 .any).toStr),((r4.comp 0).cs.getD 1 .any)],.cells [VS (((r5.comp 0).cs.getD 0 .any).toStr),((r5.comp 0).cs.getD 1 .any)],.vec 1 ((o7.tail.hO).es)] (fun y10 q10=>NI (y10.hA)<|.ai ((q10.hO)=.cells (q10.hO).cs)<|.ai (ae [.lk .str,.lk .sl] ((q10.hO).cs) 0 q10.tail)<|.ai (((q10.tail.drop 0).hO)=.cells ((q10.tail.drop 0).hO).cs)<|.ai (ae [.lk .str,.lk .sl] (((q10.tail.drop 0).hO).cs) 0 ((q10.tail.drop 0).tail))<|.ai ((((q10.tail.drop 0).tail.drop 0).hO)=.cells (((q10.tail.drop 0).tail.drop 0).hO).cs)<|.ai (ae [.lk .str,.lk .sl] ((((q10.tail.drop 0).tail.drop 0).hO).cs) 0 (((q10.tail.drop 0).tail.drop 0).tail))<|.call 136 [VI ((y10.hA).toInt)] [] fun r11 o11=>NS r11<|.ai (ah (mk [116])+ah r11.toStr<=9223372036854775807)<|.call 61 [VS (mk [42]),.sl [[VS (((q10.tail.tail.hO).cs.getD 0 .any).toStr),((q10.tail.tail.hO).cs.getD 1 .any)],[VS (((mk [116]):ByteArray)++r11.toStr),.v (.slice none 0 0)]]] [] fun r12 o12=>NA r12<|.call 61 [VS (mk [43]),.sl [[VS (((q10.tail.hO).cs.getD 0 .any).toStr),((q10.tail.hO).cs.getD 1 .any)],[VS ((r12.cs.getD 0 .any).toStr),(r12.cs.getD 1 .any)]]] [] fun r13 o13=>NA r13<|.call 61 [VS (mk [114,101,99]),.sl [[VS (((mk [116]):ByteArray)++r11.toStr),.v (.slice none 0 0)],[VS ((r13.cs.getD 0 .any).toStr),(r13.cs.getD 1 .any)]]] [] fun r14 o14=>NA r14<|.call 134 [.agg [VS ((r14.cs.getD 0 .any).toStr),(r14.cs.getD 1 .any)]] [] fun r15 o15=>NI r15<|.done 0 [.cm [.agg [VS ((r14.cs.getD 0 .any).toStr),(r14.cs.getD 1 .any)],VB (decide (r15.toInt<=(400:Int)))]] []) (fun y10 q10=>.fail)))))
theorem T2(a0_0:ByteArray)(a0_1:AV)(a1:ByteArray)(ha0_1:LK.has .sl a0_1)(h:dq 108 (OC a0_0 a0_1 a1) R):aq Tryz.prog 203 [.agg [VS a0_0,a0_1],VS a1] [] R :=
 uQ (ag (bX (ag (az _) (ag (bN ha0_1) aC))) (ag (az _) aC)) (oQ L3 Tryz.f203 h)
def M3(x17:Int)(o4_0:ByteArray)(o4_1:AV)(o12_0:ByteArray)(o12_1:AV)(o14_0:ByteArray)(o14_1:AV)(e16:List (List AV)):Tree :=
 NI (VI x17)<|.ai (Ob.cells [VS o4_0,o4_1]=.cells [VS o4_0,o4_1])<|.ai (ae [.lk .str,.lk .sl] [VS o4_0,o4_1] 0 [.cells [VS o12_0,o12_1],.cells [VS o14_0,o14_1],.vec 1 e16])<|.ai (Ob.cells [VS o12_0,o12_1]=.cells [VS o12_0,o12_1])<|.ai (ae [.lk .str,.lk .sl] [VS o12_0,o12_1] 0 [.cells [VS o14_0,o14_1],.vec 1 e16])<|.ai (Ob.cells [VS o14_0,o14_1]=.cells [VS o14_0,o14_1])<|.ai (ae [.lk .str,.lk .sl] [VS o14_0,o14_1] 0 [.vec 1 e16])<|.ai (Ob.vec 1 e16=.vec 1 e16)<|.call 136 [VI x17] [] fun r1 o1=>NS r1<|.ai (ah (mk [116])+ah r1.toStr<=9223372036854775807)<|.call 139 [.sl e16,VS (((mk [116]):ByteArray)++r1.toStr)] [] fun r2 o2=>NB r2<|.test r2.toBool (.done 0 [VI (IntKind.wrap .i64 (x17+1))] [.cells [VS o4_0,o4_1],.cells [VS o12_0,o12_1],.cells [VS o14_0,o14_1],.vec 1 e16]) (.done 1 [VI x17] [.cells [VS o4_0,o4_1],.cells [VS o12_0,o12_1],.cells [VS o14_0,o14_1]])
abbrev Jx:=cF Tryz.prog 108 Mj Ha
theorem RI(x17:Int)(o4_0:ByteArray)(o4_1:AV)(o12_0:ByteArray)(o12_1:AV)(o14_0:ByteArray)(o14_1:AV)(e16:List (List AV))(h:kO 108 (M3 x17 o4_0 o4_1 o12_0 o12_1 o14_0 o14_1 e16) Jx U):Jx [VI x17] [.cells [VS o4_0,o4_1],.cells [VS o12_0,o12_1],.cells [VS o14_0,o14_1],.vec 1 e16] U :=
 gQ L3 h
end
end Go.Proofs.Trees
namespace Go.Proofs.Trees
open Go Go.VL
theorem bD(i:Nat)(h:i<1000000000000):IntKind.wrap .i64 ((i:Int)+1)=((i+1:Nat):Int):=by rw[wrap64]<;>omega
inductive E where
 |atom (s:List UInt8)
 |list (l:List E)
mutual
def E.cJ:E->AV
 | .atom s=>.ptr [.v (.string (mk s)),.v (.slice none 0 0)]
 | .list l=>.ptr [.v (.string (mk [])),.sl (E.nk l)]
def E.nk:List E->List (List AV)
 |[]=>[]
 |e::l=>[e.cJ]::E.nk l
end
mutual
def E.iX:E->List AV
 | .atom s=>[.v (.string (mk s)),.v (.slice none 0 0)]
 | .list l=>[.v (.string (mk [])),.sl (E.bE l)]
def E.bE:List E->List (List AV)
 |[]=>[]
 |e::l=>e.iX::E.bE l
end
def E.lF(e:E):AV:=.agg e.iX
theorem xu(l r:List E):E.nk (l++r)=E.nk l++E.nk r:=by
 induction l with
 |nil=>rfl
 |cons e l ih=>simp[E.nk,ih]
theorem rm(l r:List E):E.bE (l++r)=E.bE l++E.bE r:=by
 induction l with
 |nil=>rfl
 |cons e l ih=>simp[E.bE,ih]
theorem tn(l:List E):(E.nk l).length=l.length:=by
 induction l with
 |nil=>rfl
 |cons e l ih=>simp[E.nk,ih]
theorem eC(l:List E):(E.bE l).length=l.length:=by
 induction l with
 |nil=>rfl
 |cons e l ih=>simp[E.bE,ih]
def fF(b:UInt8):Bool:=decide ((97<=b.toNat/\b.toNat<=122)\/(48<=b.toNat/\b.toNat<=57)\/b.toNat=43\/b.toNat=42)
def tR(f:List UInt8->Option (E×List UInt8)):Nat->List UInt8->List E->Option (E×List UInt8)
 |0,_,_=>none
 |
  n+1,s,acc=>match f s with
  |some (p,c::r)=>if c.toNat=41 then some (.list (acc++[p]),r)else if c.toNat=32 then tR f n r (acc++[p])else none
  |_=>none
def rd:Nat->List UInt8->Option (E×List UInt8)
 |0,s=>if s.takeWhile fF=[]then none else some (.atom (s.takeWhile fF),s.dropWhile fF)
 |k+1,s=>if s.takeWhile fF=[]then(match s with
  |c::r=>if c.toNat=40 then tR (rd k) (r.length+1) r []else none
  |[]=>none)else some (.atom (s.takeWhile fF),s.dropWhile fF)
theorem Dc{f:List UInt8->Option (E×List UInt8)}(hf:∀s e r,f s=some (e,r)->r.length<s.length):∀(n:Nat) (s:List UInt8) (acc:List E) (e:E) (r:List UInt8),tR f n s acc=some (e,r)->r.length<s.length
 |0,s,acc,e,r,h=>by cases h
 |
  n+1,s,acc,e,r,h=>by
  simp only[tR]at h
  split at h
  ·rename_i p c r' hs
   have:=hf _ _ _ hs
   simp only[aw]at this
   split at h
   ·cases h;omega
   ·split at h
    ·have:=Dc hf n _ _ _ _ h;omega
    ·cases h
  ·cases h
theorem qz{s:List UInt8}(h:¬s.takeWhile fF=[]):(s.dropWhile fF).length<s.length:=by
 have h1:=congrArg List.length (List.takeWhile_append_dropWhile (p:=fF) (l:=s))
 simp only[an]at h1
 have:0<(s.takeWhile fF).length:=List.length_pos_iff.2 h
 omega
theorem AG:∀(k:Nat) (s:List UInt8) (e:E) (r:List UInt8),rd k s=some (e,r)->r.length<s.length
 |
  0,s,e,r,h=>by
  simp only[rd]at h
  split at h
  ·cases h
  ·rename_i hn;cases h;exact qz hn
 |
  k+1,s,e,r,h=>by
  simp only[rd]at h
  split at h
  ·split at h
   ·split at h
    ·have:=Dc (AG k) _ _ _ _ _ h
     simp only[aw];omega
    ·cases h
   ·cases h
  ·rename_i hn;cases h;exact qz hn
theorem Sj(b:UInt8):aq Tryz.prog 144 [.v (.int .u8 (b.toNat:Int))] [] (bP (.v (.bool (fF b)))):=by
 refine RO _ ?_
 simp only[Pj,↓zq,zs,ae,bP,fF]
 repeat' (apply aJ<;>intro _)
 all_goals first|(congr 2;rw[cK];simp;omega)|(congr 2;simp;omega)
theorem AO{s:List UInt8}{i:Nat}(hi:i<s.length)(hb:fF (s.getD i 0)=true):((s.drop i).takeWhile fF).length=((s.drop (i+1)).takeWhile fF).length+1:=by
 have e:s.drop i=s.getD i 0::s.drop (i+1):=by
  rw[aM hi];simp[aa,hi]
 rw[e,List.takeWhile_cons_of_pos hb];simp
theorem sb{s:List UInt8}{i:Nat}(hi:i<s.length)(hb:fF (s.getD i 0)=false):(s.drop i).takeWhile fF=[]:=by
 have e:s.drop i=s.getD i 0::s.drop (i+1):=by
  rw[aM hi];simp[aa,hi]
 rw[e,List.takeWhile_cons_of_neg (by rw[hb];simp)]
theorem JD(s:List UInt8)(hs:s.length<=8000)(d:Int):∀(k i:Nat),i+k=s.length->ID [.v (.string (mk s)),.v (.int .i64 d),.v (.int .i64 (i:Int))] [] (gS 1 [.v (.string (mk s)),.v (.int .i64 d),.v (.int .i64 ((i+((s.drop i).takeWhile fF).length:Nat):Int))] [])
 |
  0,i,hi=>by
  refine Nf _ _ _ ?_
  have hd:s.drop i=[]:=bY (by omega)
  simp only[HO,↓zq,zs,ae,zt]
  exact⟨fun h=>by omega,fun _=>by simp[gS,hd]⟩
 |
  k+1,i,hi=>by
  have hlt:i<s.length:=by omega
  refine Nf _ _ _ ?_
  simp only[HO,↓zq,zs,ae,zt,mZ s i hlt]
  refine⟨fun _=>⟨by omega,?_⟩,fun h=>by omega⟩
  refine aj (Sj _) ?_
  simp only[↓zq,zs,ae]
  refine⟨fun hb=>?_,fun hb=>?_⟩
  ·rw[bD i (by omega)]
   have:=JD s hs d k (i+1) (by omega)
   rw[AO hlt hb,show i+(((s.drop (i+1)).takeWhile fF).length+1)=i+1+((s.drop (i+1)).takeWhile fF).length by omega]
   exact this
  ·simp[gS,sb hlt hb]
def pE(s:List UInt8):Option (E×List UInt8)->AV
 |some (e,r)=>.cm [e.cJ,.v (.string (mk r))]
 |none=>.cm [.v (.pointer none),.v (.string (mk s))]
theorem db(e:E):LK.has .ptr e.cJ=True:=by cases e<;>simp[E.cJ,cn]
theorem eH(e:E):e.cJ.isNil=false:=by cases e<;>rfl
theorem v8(s:List UInt8):s.take (s.takeWhile fF).length=s.takeWhile fF:=by
 have h:=List.takeWhile_append_dropWhile (p:=fF) (l:=s)
 have:(s.takeWhile fF++s.dropWhile fF).take (s.takeWhile fF).length=s.takeWhile fF:=List.take_left
 rw[h]at this;exact this
theorem zv(s:List UInt8):s.drop (s.takeWhile fF).length=s.dropWhile fF:=by
 have h:=List.takeWhile_append_dropWhile (p:=fF) (l:=s)
 have:(s.takeWhile fF++s.dropWhile fF).drop (s.takeWhile fF).length=s.dropWhile fF:=List.drop_left
 rw[h]at this;exact this
theorem CN(c:UInt8)(r:List UInt8):(List.take (r.length+1) (c::r)).drop (bK 1)=r:=by simp
theorem OA(s0:List UInt8)(k:Nat)(hk:k<300)(ih:∀s,s.length<=8000->aq Tryz.prog 116 [.v (.string (mk s)),.v (.int .i64 ((300-k:Nat):Int))] [] (bP (pE s (rd k s)))) :
 ∀(n:Nat) (s:List UInt8) (acc:List E),s.length<n->s.length+acc.length<=8000->Je [.v (.string (mk s0)),.v (.int .i64 ((300-(k+1):Nat):Int)),.v (.string (mk s))] [.cells [.v (.string (mk [])),.any],.vec 1 (E.nk acc)]
  (oB (match tR (rd k) n s acc with|some (e,r)=>(2,[e.cJ,.v (.string (mk r))],[])|none=>(2,[.v (.pointer none),.v (.string (mk s0))],[])))
 |0,s,acc,hn,_=>by omega
 |
  n+1,s,acc,hn,hl=>by
  refine R7 _ _ _ _ _ ?_
  simp only[NW,↓zq,zs,ae,Cw]
  have hd:IntKind.wrap .i64 (((300-(k+1):Nat):Int)+1)=((300-k:Nat):Int):=by rw[wrap64]<;>omega
  rw[hd]
  refine aj (ih s (by omega)) ?_
  have hlt:=AG k s
  cases hr:rd k s with
  |
   none =>
   simp only[pE,↓zq,zs,ae,tR,hr]
   simp[oB]
  |
   some q =>
   obtain⟨e,r⟩:=q
   have:=hlt e r hr
   cases r with
   |
    nil =>
    simp only[pE,↓zq,zs,ae,zt,tR,hr,db,eH]
    simp[oB]
   |
    cons c r =>
    simp only[aw]at this
    have hb:=mZ (c::r) 0 (by simp)
    simp only[Int.ofNat_eq_natCast,Int.cast_ofNat_Int]at hb
    have e2:(List.take (c::r).length (c::r)).drop 1=r:=by simp
    simp only[pE,↓zq,zs,ae,zt,tR,hr,db,eH,hb,e2,tn]
    refine⟨fun h=>(by cases h),fun _=>⟨fun h=>(by cases h),fun _=>⟨⟨fun c hc=>(by simp at hc;rw[hc];rfl),by omega⟩,by omega,by omega,fun h41=>?_,fun h41=>⟨by omega,fun h32=>?_,fun h32=>?_⟩⟩⟩⟩
    ·have h41':c.toNat=41:=by omega
     rw[CN,if_pos h41']
     simp[oB,E.cJ,xu,E.nk]
    ·have h41':¬c.toNat=41:=by omega
     have h32':¬c.toNat=32:=by omega
     rw[if_neg h41',if_neg h32']
    ·have h41':¬c.toNat=41:=by omega
     have h32':c.toNat=32:=by omega
     rw[CN,if_neg h41',if_pos h32']
     have:=OA s0 k hk ih n r (acc++[e]) (by omega) (by simp;omega)
     simpa[xu,E.nk]using this
theorem R2:∀(k:Nat),k<=300->∀s:List UInt8,s.length<=8000->aq Tryz.prog 116 [.v (.string (mk s)),.v (.int .i64 ((300-k:Nat):Int))] [] (bP (pE s (rd k s))):=by
 intro k
 induction k with
 |
  zero =>
  intro hk s hs
  refine Nz _ _ ?_
  unfold HY
  refine cC (JD s hs _ s.length 0 (by omega)) ?_
  simp only[↓zq,zs,ae,zt,a8,bP]
  have hw:(s.takeWhile fF).length<=s.length:=by
   have:=congrArg List.length (List.takeWhile_append_dropWhile (p:=fF) (l:=s))
   simp only[an]at this;omega
  refine⟨fun h=>⟨by omega,by omega,?_⟩,fun h=>?_⟩
  ·have hne:¬s.takeWhile fF=[]:=fun e=>by rw[e]at h;simp at h
   simp only[rd,if_neg hne,pE,E.cJ,v8,zv]
  ·have hnil:s.takeWhile fF=[]:=bO (by omega)
   simp only[rd,if_pos hnil,pE]
   refine⟨fun _=>trivial,fun hne=>⟨?_,?_⟩⟩
   ·cases s with
    |nil=>exact absurd rfl hne
    |cons c s=>simp
   ·exact⟨fun _=>trivial,fun _=>⟨fun _=>trivial,fun h=>absurd rfl h⟩⟩
 |
  succ k ih =>
  intro hk s hs
  refine Nz _ _ ?_
  unfold HY
  refine cC (JD s hs _ s.length 0 (by omega)) ?_
  simp only[↓zq,zs,ae,zt,a8,bP]
  have hw:(s.takeWhile fF).length<=s.length:=by
   have:=congrArg List.length (List.takeWhile_append_dropWhile (p:=fF) (l:=s))
   simp only[an]at this;omega
  refine⟨fun h=>⟨by omega,by omega,?_⟩,fun h=>?_⟩
  ·have hne:¬s.takeWhile fF=[]:=fun e=>by rw[e]at h;simp at h
   simp only[rd,if_neg hne,pE,E.cJ,v8,zv]
  ·have hnil:s.takeWhile fF=[]:=bO (by omega)
   simp only[rd,if_pos hnil]
   cases s with
   |nil=>simp[pE]
   |
    cons c s =>
    have hb:=mZ (c::s) 0 (by simp)
    simp only[Int.ofNat_eq_natCast,Int.cast_ofNat_Int]at hb
    simp only[aw]at hs
    simp only[↓zq,zs,ae,hb,CN]
    refine⟨fun h=>(by cases h),fun _=>⟨by omega,fun h40=>?_,fun h40=>⟨fun h300=>?_,fun h300=>⟨by omega,?_⟩⟩⟩⟩
    ·have:¬c.toNat=40:=by omega
     rw[if_neg this];rfl
    ·omega
    ·have h40':c.toNat=40:=by omega
     rw[if_pos h40']
     refine eJ (OA (c::s) k (by omega) (ih (by omega)) (s.length+1) s [] (by omega) (by simp;omega)) (fun ys o e=>?_) (fun ys o e=>?_)
     ·split at e<;>cases e
     ·split at e<;>cases e
      ·rename_i e' r' hr
       simp only[↓zq,zs,ae,db]
       simp only[hr,pE]
      ·rename_i hr
       simp only[↓zq,zs,ae]
       simp only[hr,pE]
end Go.Proofs.Trees
namespace Go.Proofs.Trees
open Go Go.VL
mutual
def E.sz:E->Nat
 | .atom _=>1
 | .list l=>1+E.jZ l
def E.jZ:List E->Nat
 |[]=>0
 |e::l=>e.sz+E.jZ l
end
mutual
def E.ok:E->Prop
 | .atom s=>s≠[]
 | .list l=>E.FY l
def E.FY:List E->Prop
 |[]=>True
 |e::l=>e.ok/\E.FY l
end
theorem zS(l r:List E):E.jZ (l++r)=E.jZ l+E.jZ r:=by
 induction l with
 |nil=>simp[E.jZ]
 |cons e l ih=>simp[E.jZ,ih];omega
theorem Az(l r:List E):E.FY (l++r)↔E.FY l/\E.FY r:=by
 induction l with
 |nil=>simp[E.FY]
 |cons e l ih=>simp[E.FY,ih,and_assoc]
theorem Cs{f:List UInt8->Option (E×List UInt8)}(hf:∀s e r,f s=some (e,r)->e.ok/\e.sz+r.length<=s.length):∀(n:Nat) (s:List UInt8) (acc:List E) (e:E) (r:List UInt8),tR f n s acc=some (e,r)->E.FY acc->e.ok/\e.sz+r.length<=s.length+1+E.jZ acc
 |0,s,acc,e,r,h,_=>by cases h
 |
  n+1,s,acc,e,r,h,ha=>by
  simp only[tR]at h
  split at h
  ·rename_i p c r' hs
   obtain⟨h1,h2⟩:=hf _ _ _ hs
   simp only[aw]at h2
   split at h
   ·cases h
    refine⟨(Az _ _).2 ⟨ha,h1,trivial⟩,?_⟩
    simp only[E.sz,zS,E.jZ];omega
   ·split at h
    ·have:=Cs hf n _ _ _ _ h ((Az _ _).2 ⟨ha,h1,trivial⟩)
     refine⟨this.1,?_⟩
     have h3:=this.2
     simp only[zS,E.jZ]at h3;omega
    ·cases h
  ·cases h
theorem vk(s:List UInt8):(s.takeWhile fF).length+(s.dropWhile fF).length=s.length:=by
 have:=congrArg List.length (List.takeWhile_append_dropWhile (p:=fF) (l:=s))
 simpa only[an]using this
theorem Gw:∀(k:Nat) (s:List UInt8) (e:E) (r:List UInt8),rd k s=some (e,r)->e.ok/\e.sz+r.length<=s.length
 |
  0,s,e,r,h=>by
  simp only[rd]at h
  split at h
  ·cases h
  ·rename_i hn;cases h
   have:=vk s
   have:0<(s.takeWhile fF).length:=List.length_pos_iff.2 hn
   exact⟨hn,by simp only[E.sz];omega⟩
 |
  k+1,s,e,r,h=>by
  simp only[rd]at h
  split at h
  ·split at h
   ·split at h
    ·have:=Cs (Gw k) _ _ _ _ _ h trivial
     refine⟨this.1,?_⟩
     have h3:=this.2
     simp only[E.jZ,aw]at h3 |-;omega
    ·cases h
   ·cases h
  ·rename_i hn;cases h
   have:=vk s
   have:0<(s.takeWhile fF).length:=List.length_pos_iff.2 hn
   exact⟨hn,by simp only[E.sz];omega⟩
def sw(s:List UInt8):Option E:=if s.length>8000 then none else match rd 300 s with|some (e,[])=>some e|_=>none
theorem pj{s:List UInt8}{e:E}(h:sw s=some e):e.ok/\e.sz<=8000:=by
 unfold sw at h
 split at h
 ·cases h
 ·split at h
  ·rename_i e' hr
   cases h
   have:=Gw _ _ _ _ hr
   exact⟨this.1,by have:=this.2;simp at this;omega⟩
  ·cases h
def vA:Option E->AV
 |some e=>e.cJ
 |none=>.v (.pointer none)
theorem Lf(s:List UInt8):aq Tryz.prog 73 [.v (.string (mk s))] [] (bP (vA (sw s))):=by
 refine T3 _ ?_
 simp only[OH,↓zq,zs,ae,zt,bP,sw]
 refine⟨fun h=>?_,fun h=>?_⟩
 ·rw[if_pos (by omega)];simp[vA]
 ·rw[if_neg (by omega)]
  refine aj (R2 300 (by omega) s (by omega)) ?_
  cases hr:rd 300 s with
  |
   none =>
   simp only[pE,↓zq,zs,ae,zt,vA]
   refine⟨fun _=>trivial,fun _=>trivial⟩
  |
   some q =>
   obtain⟨e,r⟩:=q
   cases r with
   |nil=>simp only[pE,↓zq,zs,ae,zt,vA,db];simp
   |cons c r=>simp only[pE,↓zq,zs,ae,zt,vA,db];simp
def iP(b:UInt8):Bool:=decide (48<=b.toNat/\b.toNat<=57)
def named(lo hi:Nat):List UInt8->Bool
 |[]=>false
 |c::r=>decide (r.length<=2)&&decide (lo<=c.toNat/\c.toNat<=hi)&&r.all iP
def iw(s:List UInt8):Bool:=named 120 122 s
def dy(s:List UInt8):Bool:=named 116 116 s
def Eo(v lo hi:Int):Bool:=decide (lo<=v/\v<=hi)
theorem C9(v lo hi:Int):aq Tryz.prog 55 [.v (.int .i64 v),.v (.int .i64 lo),.v (.int .i64 hi)] [] (bP (.v (.bool (Eo v lo hi)))):=by
 refine T4 _ _ _ ?_
 simp only[Mf,↓zq,zs,ae,bP,Eo]
 constructor<;>intro h<;>simp at h<;>simp[h]
 omega
theorem LJ(s:List UInt8)(hs:s.length<=3):∀(k i:Nat),i+k=s.length->Ii [.v (.string (mk s)),.v (.int .i64 (i:Int))] [] (oB (if(s.drop i).all iP=true then(1,[],[])else(2,[.v (.bool false)],[])))
 |
  0,i,hi=>by
  have hd:s.drop i=[]:=bY (by omega)
  refine Oo _ _ ?_
  simp only[Kq,↓zq,zs,ae,zt]
  exact⟨fun h=>by omega,fun _=>by simp[oB,hd]⟩
 |
  k+1,i,hi=>by
  have hlt:i<s.length:=by omega
  have e:s.drop i=s.getD i 0::s.drop (i+1):=by
   rw[aM hlt];simp[aa,hlt]
  refine Oo _ _ ?_
  simp only[Kq,↓zq,zs,ae,zt,mZ s i hlt,e,dj]
  generalize hb:s.getD i 0=b
  refine⟨fun _=>⟨by omega,fun h=>?_,fun h=>⟨by omega,fun h2=>?_,fun h2=>?_⟩⟩,fun h=>by omega⟩
  ·have:iP b=false:=by simp[iP];omega
   simp only[this,zf,oB]
  ·have:iP b=false:=by simp[iP];omega
   simp only[this,zf,oB]
  ·have:iP b=true:=by simp[iP];omega
   rw[bD i (by omega),this,cb]
   exact LJ s hs k (i+1) (by omega)
theorem OV(s:List UInt8)(lo hi:Nat):aq Tryz.prog 140 [.v (.string (mk s)),.v (.int .u8 (lo:Int)),.v (.int .u8 (hi:Int))] [] (bP (.v (.bool (named lo hi s)))):=by
 refine UK _ _ _ ?_
 unfold KS
 rw[cR]
 refine aj (C9 _ _ _) ?_
 simp only[↓zq,zs,ae,zt,bP]
 refine⟨fun h=>?_,fun h=>?_⟩
 ·cases s with
  |nil=>rfl
  |
   cons c s =>
   simp[Eo]at h
   have:¬s.length<=2:=by omega
   simp[named,this]
 ·cases s with
  |nil=>simp[Eo]at h
  |
   cons c s =>
   simp[Eo]at h
   have hl:s.length<=2:=by omega
   have hb:=mZ (c::s) 0 (by simp)
   simp only[Int.ofNat_eq_natCast,Int.cast_ofNat_Int]at hb
   simp only[↓zq,zs,ae,hb]
   refine⟨by omega,fun h1=>?_,fun h1=>⟨by omega,fun h2=>?_,fun h2=>?_⟩⟩
   ·have:¬lo<=c.toNat:=by omega
    simp[named,this]
   ·have:¬c.toNat<=hi:=by omega
    simp[named,this]
   ·refine eJ (LJ (c::s) (by simp;omega) s.length 1 (by simp;omega)) (fun ys o e=>?_) (fun ys o e=>?_)
    ·split at e<;>cases e
     rename_i ha
     simp at ha
     simp only[↓zq,zs,ae]
     simp[named,hl]
     exact⟨⟨by omega,by omega⟩,fun x hx=>by simpa using ha x hx⟩
    ·split at e<;>cases e
     rename_i ha
     simp only[↓zq,zs,ae]
     have:s.all iP=false:=by simpa using ha
     simp[named,this]
theorem Hc(s:List UInt8):aq Tryz.prog 101 [.v (.string (mk s))] [] (bP (.v (.bool (iw s)))):=by
 refine R8 _ ?_
 unfold KR
 refine aj (OV s 120 122) ?_
 simp only[↓zq,zs,ae,bP,iw]
theorem KD(s:List UInt8):aq Tryz.prog 99 [.v (.string (mk s))] [] (bP (.v (.bool (dy s)))):=by
 refine UM _ ?_
 unfold K7
 refine aj (OV s 116 116) ?_
 simp only[↓zq,zs,ae,bP,dy]
end Go.Proofs.Trees
namespace Go.Proofs.Trees
open Go Go.VL Go.RowKit
theorem S5(l:List UInt8)(c:UInt8):aq Tryz.prog 158 [.v (.string (mk l)),.v (.string (mk [c]))] [] (bP (.v (.bool (decide (0<=Lib.indexByte l c))))):=by
 refine aq.Vh (xs:=[.string (mk l),.string (mk [c])]) ⟨oy,by kernel_rfl,by kernel_rfl,by kernel_rfl⟩ fun w=>?_
 have:=Any.strings_Contains_one Tryz.Fv (mk l) c w
 refine Calls.mono this fun e w' ⟨h1,h2⟩=>?_
 rw[h2]
 have hd:(mk l).data.toList=l:=by simp[mk]
 exact⟨by rw[h1,hd],Below.refl _ _⟩
theorem NK(l cs:List UInt8)(hl:l.length<=1000000)(hc:cs.length<=1000)(ha:∀b,b∈cs->b.toNat<128):aq Tryz.prog 153 [.v (.string (mk l)),.v (.string (mk cs))] [] (bP (.v (.string (mk (Lib.trimS l cs))))):=by
 refine aq.Vh (xs:=[.string (mk l),.string (mk cs)]) ⟨rV,by kernel_rfl,by kernel_rfl,by kernel_rfl⟩ fun w=>?_
 have:=Any.strings_Trim_laid Tryz.Gm (by kernel_rfl) (mk l) (mk cs) w (by rw[cR];omega) (by rw[cR];omega) (fun j b hj=>ha b (by
  have:(mk cs).data.toList=cs:=by simp[mk]
  rw[this]at hj
  exact List.mem_of_getElem? hj))
 refine Calls.mono this fun e w' ⟨h1,h2⟩=>⟨?_,h2⟩
 rw[h1]
 simp[mk]
theorem oz:∀(l:List UInt8) (c:UInt8),(0<=Lib.indexByte l c↔c∈l)/\-1<=Lib.indexByte l c
 |[],c=>by simp[Lib.indexByte]
 |
  b::l,c=>by
  obtain⟨h1,h2⟩:=oz l c
  unfold Lib.indexByte
  by_cases e:b=c
  ·subst e;simp
  ·have e':(b==c)=false:=by simp[e]
   rw[e']
   by_cases q:Lib.indexByte l c = -1
   ·have:c∉l:=fun h=>by have:=h1.2 h;omega
    simp[q,this,Ne.symm e]
   ·have q':(Lib.indexByte l c==-1)=false:=by simp[q]
    simp only[q',Bool.false_eq_true,if_false,aI]
    constructor
    ·constructor
     ·intro h;exact .inr (h1.1 (by omega))
     ·intro h
      rcases h with h|h
      ·exact absurd h.symm e
      ·have:=h1.2 h;omega
    ·omega
theorem dropWhile_nil{p:UInt8->Bool}:∀(l:List UInt8),l.dropWhile p=[]↔l.all p=true
 |[]=>by simp
 |
  b::l=>by
  cases h:p b with
  |true=>rw[List.dropWhile_cons_of_pos h,dropWhile_nil l];simp[h]
  |false=>rw[List.dropWhile_cons_of_neg (by rw[h];simp)];simp[h]
theorem uf(l cs:List UInt8):Lib.trimS l cs=[]↔l.all (cs.contains ·)=true:=by
 unfold Lib.trimS Lib.trimLeftS
 rw[dropWhile_nil]
 unfold Lib.trimRightS
 constructor
 ·intro h
  by_cases hn:l.reverse.dropWhile (cs.contains ·)=[]
  ·rw[dropWhile_nil]at hn
   simpa using hn
  ·exfalso
   rw[List.all_reverse]at h
   obtain⟨b,r,e⟩:=List.exists_cons_of_ne_nil hn
   have h1:cs.contains b=false:=by
    have:=List.head_dropWhile_not (p:=(cs.contains ·)) (l:=l.reverse) hn
    simp only[e,List.head_cons]at this
    exact this
   rw[e]at h
   simp only[dj,aA]at h
   rw[h1]at h;cases h.1
 ·intro h
  have:l.reverse.dropWhile (cs.contains ·)=[]:=by rw[dropWhile_nil];simpa using h
  rw[this];rfl
def Ko:List UInt8:=[48,49,50,51,52,53,54,55,56,57]
theorem xM(b:UInt8):Ko.contains b=iP b:=by
 have:∀n:Fin 256,Ko.contains (bu n.val)=iP (bu n.val):=by decide +kernel
 have:=this ⟨b.toNat,b.toNat_lt⟩
 simpa using this
theorem ON(s ls:List UInt8)(lo hi:Nat)(hls:∀c:UInt8,c∈ls↔lo<=c.toNat/\c.toNat<=hi):aq Tryz.prog 145 [.v (.string (mk s)),.v (.string (mk ls))] [] (bP (.v (.bool (named lo hi s)))):=by
 refine Sa _ _ ?_
 simp only[Ms,↓zq,zs,ae,zt,bP]
 cases s with
 |nil=>exact⟨fun h=>by simp at h,fun _=>rfl⟩
 |
  cons c s =>
  have e1:(List.take (bK 1) (c::s))=[c]:=rfl
  have e2:(List.take (s.length+1) (c::s)).drop (bK 1)=s:=by simp
  simp only[aw,e1,e2]
  refine⟨fun _=>⟨fun h3=>⟨by omega,?_⟩,fun h3=>?_⟩,fun h=>by omega⟩
  ·have hl:s.length<=2:=by omega
   refine aj (S5 ls c) ?_
   simp only[↓zq,zs,ae]
   have hi1:=(oz ls c).1
   refine⟨fun h=>⟨by omega,?_⟩,fun h=>?_⟩
   ·refine aj (NK s Ko (by omega) (by decide) (by decide)) ?_
    simp only[↓zq,zs,ae,zt]
    have hc:=(hls c).1 (hi1.1 h)
    congr 2
    rw[cK,beq_iff_eq,uf]
    simp only[named,hl,hc,decide_true,cb,and_self]
    have:(fun x=>Ko.contains x)=iP:=funext xM
    rw[this]
   ·have hc:¬(lo<=c.toNat/\c.toNat<=hi):=fun h'=>h (hi1.2 ((hls c).2 h'))
    simp only[named,hc,zf]
  ·have hl:¬s.length<=2:=by omega
   simp only[named,hl,zf]
theorem OP(s:List UInt8):aq Tryz.prog 117 [.v (.string (mk s))] [] (bP (.v (.bool (iw s)))):=by
 refine UQ _ ?_
 unfold La
 have h:∀n:Fin 256,(bu n.val∈[(120:UInt8),121,122])↔120<=(bu n.val).toNat/\(bu n.val).toNat<=122:=by decide +kernel
 refine aj (ON s [120,121,122] 120 122 fun c=>by simpa using h ⟨c.toNat,c.toNat_lt⟩) ?_
 simp only[↓zq,zs,ae,bP,iw]
theorem E1(s:List UInt8):aq Tryz.prog 118 [.v (.string (mk s))] [] (bP (.v (.bool (dy s)))):=by
 refine SD _ ?_
 unfold K5
 have h:∀n:Fin 256,(bu n.val∈[(116:UInt8)])↔116<=(bu n.val).toNat/\(bu n.val).toNat<=116:=by decide +kernel
 refine aj (ON s [116] 116 116 fun c=>by simpa using h ⟨c.toNat,c.toNat_lt⟩) ?_
 simp only[↓zq,zs,ae,bP,dy]
end Go.Proofs.Trees
namespace Go.Proofs.Trees
open Go Go.VL
inductive Ty where
 |zero|one
 |name (s:List UInt8)
 |bound (up:Nat)
 |plus (a b:Ty)
 |times (a b:Ty)
 |rc (a:Ty)
def Ty.av:Ty->AV
 | .zero=>.ptr [.v (.int .u8 48),.v (.string (mk [])),.v (.int .i64 0),.v (.pointer none),.v (.pointer none)]
 | .one=>.ptr [.v (.int .u8 49),.v (.string (mk [])),.v (.int .i64 0),.v (.pointer none),.v (.pointer none)]
 | .name s=>.ptr [.v (.int .u8 110),.v (.string (mk s)),.v (.int .i64 0),.v (.pointer none),.v (.pointer none)]
 | .bound up=>.ptr [.v (.int .u8 98),.v (.string (mk [])),.v (.int .i64 (up:Int)),.v (.pointer none),.v (.pointer none)]
 | .plus a b=>.ptr [.v (.int .u8 43),.v (.string (mk [])),.v (.int .i64 0),a.av,b.av]
 | .times a b=>.ptr [.v (.int .u8 42),.v (.string (mk [])),.v (.int .i64 0),a.av,b.av]
 | .rc a=>.ptr [.v (.int .u8 114),.v (.string (mk [])),.v (.int .i64 0),a.av,.v (.pointer none)]
theorem aF(t:Ty):LK.has .ptr t.av=True:=by cases t<;>simp[Ty.av,cn]
theorem gj(t:Ty):t.av.isNil=false:=by cases t<;>rfl
def iQ:Option Ty->AV
 |some t=>t.av
 |none=>.v (.pointer none)
theorem ja(t:Option Ty):LK.has .ptr (iQ t)=True:=by cases t<;>simp[iQ,aF,ig]
def E.at:E->List UInt8
 | .atom s=>s
 | .list _=>[]
def bT(s:List UInt8)(ar:List (List UInt8)):Nat->Option Nat
 |0=>none
 |i+1=>if ar.getD i []=s then some (ar.length-1-i)else bT s ar i
def cZ:E->List (List UInt8)->Option Ty
 | .atom s,ar=>if s=[48]then some .zero else if s=[49]then some .one else if iw s=true then some (.name s)else if dy s=true then(match bT s ar ar.length with|some u=>some (.bound u)|none=>some (.name s))else none
 |
  .list [x,a,b],ar =>
  if x.at=[43]then(match cZ a ar,cZ b ar with|some t,some u=>some (.plus t u)|_,_=>none)
  else if x.at=[42]then(match cZ a ar,cZ b ar with|some t,some u=>some (.times t u)|_,_=>none)
  else if x.at=[114,101,99]then(if dy a.at=true then(match cZ b (ar++[a.at])with|some t=>some (.rc t)|none=>none)else none)
  else none
 | .list _,_=>none
def bW(l:List (List UInt8)):List (List AV):=l.map fun s=>[.v (.string (mk s))]
def cN(a:AV)(l:List (List UInt8)):Prop:=LK.sl.has a/\a.elems=bW l
theorem cN.len{a:AV}{l:List (List UInt8)}(h:cN a l):a.elems.length=l.length:=by rw[h.2];simp[bW]
theorem cN.idx{a:AV}{l:List (List UInt8)}(h:cN a l){i:Nat}(hi:i<l.length):a.elems.getD i []=[.v (.string (mk (l.getD i [])))]:=by
 rw[h.2];simp[bW,aa,hi]
theorem cN.of(l:List (List UInt8)):cN (.sl (bW l)) l:=⟨(cc _).mpr trivial,rfl⟩
theorem cN.nil:cN (.v (.slice none 0 0)) []:=⟨(bm).mpr trivial,rfl⟩
theorem Ar(e:E)(w:List UInt8):aq Tryz.prog 119 [e.cJ,.v (.string (mk w)),.v (.int .i64 3)] [] (bP (.v (.bool (match e with| .list [x,_,_]=>x.at==w|_=>false)))):=by
 refine M4 _ _ _ ((db e).mpr trivial) ?_
 cases e with
 |atom s=>simp only[Ei,E.cJ,↓zq,zs,ae,zt,bP];exact⟨by omega,fun h=>by omega,fun _=>trivial⟩
 |
  list l =>
  simp only[Ei,E.cJ,↓zq,zs,ae,zt,bP,tn]
  match l with
  |[]=>exact⟨by simp,fun h=>by simp at h,fun _=>rfl⟩
  |[_]=>exact⟨by simp,fun h=>by simp at h,fun _=>rfl⟩
  |[_,_]=>exact⟨by simp,fun h=>by simp at h,fun _=>rfl⟩
  |
   [x,y,z] =>
   refine⟨by simp,fun _=>?_,fun h=>by simp at h⟩
   cases x<;>simp[E.nk,E.cJ,cn,qD,ku,dD,wk,toList_mk,E.at]
  |_::_::_::_::l=>exact⟨by simp,fun h=>by simp at h;omega,fun _=>rfl⟩
theorem PV(e:E)(a:AV)(ar:List (List UInt8))(ha:cN a ar)(hl:ar.length<1000000):∀(i:Nat),i<=ar.length->I9 [e.cJ,a,.v (.int .i64 ((i:Int)-1))] []
 (oB (match bT e.at ar i with|some u=>(2,[],[.cells [.v (.int .u8 98),.v (.string (mk [])),.v (.int .i64 (u:Int)),.v (.pointer none),.v (.pointer none)]])|none=>(1,[e.cJ],[])))
 |
  0,hi=>by
  refine NO _ _ _ ?_
  simp only[IL,↓zq,zs,ae,db]
  exact⟨ha.1,fun h=>by omega,fun _=>rfl⟩
 |
  i+1,hi=>by
  have hlt:i<ar.length:=by omega
  have e1:((i+1:Nat):Int)-1=(i:Int):=by omega
  rw[e1]
  refine NO _ _ _ ?_
  have hd:e.cJ.deref.headD .any=.v (.string (mk e.at)):=by cases e<;>rfl
  have hdl:1<=e.cJ.deref.length:=by cases e<;>simp[E.cJ,ku]
  simp only[IL,↓zq,zs,ae,zt,db,eH,ha.len,ha.idx hlt,hd,tM]
  refine⟨ha.1,fun _=>⟨⟨ha.1,by omega,by omega⟩,by omega,hdl,fun h=>⟨ha.1,?_⟩,fun h=>?_⟩,fun h=>by omega⟩
  ·simp only[bT,h,if_true,oB]
   rw[wrap64 ((ar.length:Int)-1) (by omega) (by omega),wrap64 _ (by omega) (by omega)]
   have:(ar.length:Int)-1-(i:Int)=((ar.length-1-i:Nat):Int):=by omega
   rw[this]
  ·simp only[bT,h,if_false]
   rw[wrap64 _ (by omega) (by omega)]
   exact PV e a ar ha hl i (by omega)
end Go.Proofs.Trees
namespace Go.Proofs.Trees
open Go Go.VL
theorem pd(e:E):e.cJ.deref.headD .any=.v (.string (mk e.at)):=by cases e<;>rfl
theorem mS(e:E):1<=e.cJ.deref.length:=by cases e<;>simp[E.cJ,ku]
theorem toNat_one:bK 1=1:=rfl
theorem bj:bK 2=2:=rfl
theorem GP{ar:List (List UInt8)}(s:List UInt8):bW ar++[[.v (.string (mk s))]]=bW (ar++[s]):=by simp[bW]
theorem lu(ar:List (List UInt8)):ck 1 (bW ar):=fun c hc=>by
 obtain⟨s,_,rfl⟩:=bM.1 hc;rfl
theorem l5{x a b:E}(ar:List (List UInt8))(hx:x.at=[43]):cZ (.list [x,a,b]) ar=match cZ a ar,cZ b ar with|some t,some u=>some (.plus t u)|_,_=>none:=by rw[cZ,if_pos hx]<;>cases cZ a ar<;>cases cZ b ar<;>rfl
theorem kT{x a b:E}(ar:List (List UInt8))(hx:x.at=[42]):cZ (.list [x,a,b]) ar=match cZ a ar,cZ b ar with|some t,some u=>some (.times t u)|_,_=>none:=by rw[cZ,if_neg (by rw[hx];decide),if_pos hx]<;>cases cZ a ar<;>cases cZ b ar<;>rfl
theorem nJ{x a b:E}(ar:List (List UInt8))(hx:x.at=[114,101,99]):cZ (.list [x,a,b]) ar=if dy a.at=true then(match cZ b (ar++[a.at])with|some t=>some (.rc t)|none=>none)else none:=by rw[cZ,if_neg (by rw[hx];decide),if_neg (by rw[hx];decide),if_pos hx]<;>cases cZ b (ar++[a.at])<;>rfl
theorem jK{x a b:E}(ar:List (List UInt8))(h1:x.at≠[43])(h2:x.at≠[42])(h3:x.at≠[114,101,99]):cZ (.list [x,a,b]) ar=none:=by rw[cZ,if_neg h1,if_neg h2,if_neg h3]
theorem F8:∀(e:E) (ar:List (List UInt8)) (a:AV),e.ok->cN a ar->ar.length+e.sz<100000->aq Tryz.prog 74 [e.cJ,a] [] (bP (iQ (cZ e ar)))
 |
  .atom s,ar,a,hok,ha,hl=>by
  simp only[E.sz]at hl
  refine Qc _ _ ((db _).mpr trivial) ha.1 ?_
  have hd:=pd (.atom s)
  have hlen:=mS (.atom s)
  simp only[E.at]at hd
  simp only[Ks,↓zq,zs,ae,zt,bP,db,eH,hd,cZ]
  refine⟨hlen,fun h=>⟨hlen,?_,?_⟩,fun h=>⟨hlen,fun h1=>⟨hlen,?_,?_⟩,fun h1=>⟨hlen,?_⟩⟩⟩
  ·rw[h];decide
  ·rw[if_pos h,h];rfl
  ·rw[h1];decide
  ·rw[if_neg h,if_pos h1,h1];rfl
  ·rw[if_neg h,if_neg h1]
   refine aj (OP s) ?_
   simp only[↓zq,zs,ae]
   refine⟨fun hp=>⟨hlen,?_⟩,fun hp=>⟨hlen,?_⟩⟩
   ·rw[if_pos hp];rfl
   ·rw[if_neg (by rw[hp];simp)]
    refine aj (E1 s) ?_
    simp only[↓zq,zs,ae,ha.len]
    refine⟨fun hq=>⟨ha.1,?_⟩,fun hq=>?_⟩
    ·rw[if_pos hq,wrap64 _ (by omega) (by omega)]
     refine eJ (PV (.atom s) a ar ha (by omega) ar.length (by omega)) (fun ys o e=>?_) (fun ys o e=>?_)
     ·simp only[E.at]at e
      cases hq2:bT s ar ar.length<;>rw[hq2]at e<;>cases e
      simp only[↓zq,zs,ae,zt,db,eH,hd]
      exact⟨hlen,rfl⟩
     ·simp only[E.at]at e
      cases hq2:bT s ar ar.length<;>rw[hq2]at e<;>cases e
      simp only[↓zq,zs,ae,zt,LK.has]
      simp[iQ,Ty.av,ae,LK.has]
    ·rw[if_neg (by rw[hq];simp)]
     refine aj (Ar (.atom s) [43]) ?_
     simp only[↓zq,zs,ae]
     refine⟨fun h=>(by simp at h),fun _=>?_⟩
     refine aj (Ar (.atom s) [42]) ?_
     simp only[↓zq,zs,ae]
     refine⟨fun h=>(by simp at h),fun _=>?_⟩
     refine aj (Ar (.atom s) [114,101,99]) ?_
     simp only[↓zq,zs,ae]
     refine⟨fun h=>(by simp at h),fun _=>?_⟩
     trivial
 |
  .list l,ar,a,hok,ha,hl=>by
  simp only[E.sz]at hl
  refine Qc _ _ ((db _).mpr trivial) ha.1 ?_
  have hd:=pd (.list l)
  have hlen:=mS (.list l)
  simp only[E.at]at hd
  have hp:iw []=false:=rfl
  have hq:dy []=false:=rfl
  simp only[Ks,↓zq,zs,ae,zt,bP,db,eH,hd]
  refine⟨hlen,fun h=>(by simp at h),fun h=>⟨hlen,fun h1=>(by simp at h1),fun h1=>⟨hlen,?_⟩⟩⟩
  refine aj (OP []) ?_
  simp only[↓zq,zs,ae,hp]
  refine⟨fun h=>(by simp at h),fun _=>⟨hlen,?_⟩⟩
  refine aj (E1 []) ?_
  simp only[↓zq,zs,ae,hq]
  refine⟨fun h=>(by simp at h),fun _=>?_⟩
  refine aj (Ar (.list l) [43]) ?_
  match l,hok,hl with
  |
   [x,y,z],hok,hl =>
   simp only[E.jZ]at hl
   obtain⟨ok1,ok2,ok3,_⟩:=hok
   have iy:=F8 y ar a ok2 ha (by omega)
   have iz:=F8 z ar a ok3 ha (by omega)
   have hds:((E.list [x,y,z]).cJ.deref.drop 1).headD .any=.sl [[x.cJ],[y.cJ],[z.cJ]]:=rfl
   have hdl:1<=((E.list [x,y,z]).cJ.deref.drop 1).length:=by simp[E.cJ,ku]
   have hxd:=pd x
   have hxl:=mS x
   have hyd:=pd y
   have hyl:=mS y
   have bin:∀(c:UInt8) (mkT:Ty->Ty->Ty),(∀t u:Ty,(mkT t u).av=.ptr [.v (.int .u8 (c.toNat:Int)),.v (.string (mk [])),.v (.int .i64 0),t.av,u.av])->x.at=[c]->bt (mk x.at) 0=(c.toNat:Int):=fun c _ _ hx=>by
    have:=mZ x.at 0 (by rw[hx];simp)
    simp only[Int.ofNat_eq_natCast,Int.cast_ofNat_Int]at this
    rw[this,hx];rfl
   simp only[↓zq,zs,ae,zt,hds,hdl,db,eH,toNat_one,bj,hxd,hyd,tM]
   refine⟨fun hx=>?_,fun hx=>?_⟩
   ·refine⟨by omega,by omega,?_⟩
    refine aj iy ?_
    simp only[↓zq,zs,ae,ja]
    refine⟨by omega,by omega,?_⟩
    refine aj iz ?_
    have hb:=bin 43 Ty.plus (fun _ _=>rfl) hx
    rw[l5 ar hx]
    simp only[↓zq,zs,ae,zt,ja]
    cases h1:cZ y ar with
    |none=>simp[iQ,kt]
    |
     some t =>
     cases h2:cZ z ar with
     |none=>simp[iQ,kt,gj]
     |
      some u =>
      simp only[iQ,gj,hb]
      refine⟨fun h=>(by cases h),fun _=>⟨fun h=>(by cases h),fun _=>⟨by omega,by omega,hxl,⟨by omega,by rw[hx];simp⟩,rfl⟩⟩⟩
   ·refine aj (Ar (.list [x,y,z]) [42]) ?_
    simp only[↓zq,zs,ae,hds,hdl,db,eH,toNat_one,bj,hxd,hyd,tM]
    refine⟨fun hx2=>?_,fun hx2=>?_⟩
    ·refine⟨by omega,by omega,?_⟩
     refine aj iy ?_
     simp only[↓zq,zs,ae,ja]
     refine⟨by omega,by omega,?_⟩
     refine aj iz ?_
     have hb:=bin 42 Ty.times (fun _ _=>rfl) hx2
     rw[kT ar hx2]
     simp only[↓zq,zs,ae,zt,ja]
     cases h1:cZ y ar with
     |none=>simp[iQ,kt]
     |
      some t =>
      cases h2:cZ z ar with
      |none=>simp[iQ,kt,gj]
      |
       some u =>
       simp only[iQ,gj,hb]
       refine⟨fun h=>(by cases h),fun _=>⟨fun h=>(by cases h),fun _=>⟨by omega,by omega,hxl,⟨by omega,by rw[hx2];simp⟩,rfl⟩⟩⟩
    ·refine aj (Ar (.list [x,y,z]) [114,101,99]) ?_
     simp only[↓zq,zs,ae,zt,hds,hdl,db,eH,toNat_one,bj,hxd,hyd,tM]
     refine⟨fun hx3=>⟨by omega,by omega,hyl,?_⟩,fun hx3=>?_⟩
     ·refine aj (E1 y.at) ?_
      rw[nJ ar hx3]
      simp only[↓zq,zs,ae]
      have hal:ck 1 a.elems:=by rw[ha.2];exact lu ar
      have hal1:ck 1 [[AV.v (.string (mk y.at))]]:=fun c hc=>by simp at hc;rw[hc];rfl
      refine⟨fun hlo=>⟨by omega,by omega,⟨ha.1,hal,by rw[ha.len];omega⟩,by omega,by omega,hyl,⟨hal1,by rw[aS,ha.len];omega⟩,?_⟩,fun hlo=>?_⟩
      ·rw[aS,ha.2,GP,if_pos hlo]
       refine aj (F8 z (ar++[y.at]) _ ok3 (.of _) (by simp;omega)) ?_
       simp only[↓zq,zs,ae,ja]
       cases h2:cZ z (ar++[y.at])with
       |none=>simp[iQ,kt]
       |
        some u =>
        simp only[iQ,gj]
        refine⟨fun h=>(by cases h),fun _=>rfl⟩
      ·rw[if_neg (by rw[hlo];simp)];rfl
     ·rw[jK ar hx hx2 hx3];rfl
  |
   [],_,_ =>
   simp only[↓zq,zs,ae]
   refine⟨fun h=>(by cases h),fun _=>?_⟩
   refine aj (Ar (.list []) [42]) ?_
   simp only[↓zq,zs,ae]
   refine⟨fun h=>(by cases h),fun _=>?_⟩
   refine aj (Ar (.list []) [114,101,99]) ?_
   simp only[↓zq,zs,ae]
   refine⟨fun h=>(by cases h),fun _=>?_⟩
   rfl
  |
   [x1],_,_ =>
   simp only[↓zq,zs,ae]
   refine⟨fun h=>(by cases h),fun _=>?_⟩
   refine aj (Ar (.list [x1]) [42]) ?_
   simp only[↓zq,zs,ae]
   refine⟨fun h=>(by cases h),fun _=>?_⟩
   refine aj (Ar (.list [x1]) [114,101,99]) ?_
   simp only[↓zq,zs,ae]
   refine⟨fun h=>(by cases h),fun _=>?_⟩
   rfl
  |
   [x1,x2],_,_ =>
   simp only[↓zq,zs,ae]
   refine⟨fun h=>(by cases h),fun _=>?_⟩
   refine aj (Ar (.list [x1,x2]) [42]) ?_
   simp only[↓zq,zs,ae]
   refine⟨fun h=>(by cases h),fun _=>?_⟩
   refine aj (Ar (.list [x1,x2]) [114,101,99]) ?_
   simp only[↓zq,zs,ae]
   refine⟨fun h=>(by cases h),fun _=>?_⟩
   rfl
  |
   x1::x2::x3::x4::l,_,_ =>
   simp only[↓zq,zs,ae]
   refine⟨fun h=>(by cases h),fun _=>?_⟩
   refine aj (Ar (.list (x1::x2::x3::x4::l)) [42]) ?_
   simp only[↓zq,zs,ae]
   refine⟨fun h=>(by cases h),fun _=>?_⟩
   refine aj (Ar (.list (x1::x2::x3::x4::l)) [114,101,99]) ?_
   simp only[↓zq,zs,ae]
   refine⟨fun h=>(by cases h),fun _=>?_⟩
   rfl
end Go.Proofs.Trees
namespace Go.Proofs.Trees
open Go Go.VL
def di(v:AV)(obs:List Ob):AV->List Ob->Prop:=fun r o=>r=v/\o=obs
theorem aY{P:Program}{n:Nat}{Q:Nat->List AV->List Ob->Prop}{f:Nat}{xs:List AV}{ins:List Ob}{k:AV->List Ob->Tree}{v:AV}{obs:List Ob}(h:aq P f xs ins (di v obs))(hk:fC P n (k v obs) Q):fC P n (.call f xs ins k) Q :=
 ⟨di v obs,h,⟨v,obs,rfl,rfl⟩,fun r o ⟨h1,h2⟩=>by rw[h1,h2];exact hk⟩
def Ty.atoms:Ty->Nat
 | .plus a b=>1+a.atoms+b.atoms
 | .times a b=>1+a.atoms+b.atoms
 | .rc a=>2+a.atoms
 |_=>1
theorem GF:∀(t:Ty),t.atoms<1000000->aq Tryz.prog 75 [t.av] [] (bP (.v (.int .i64 (t.atoms:Int))))
 | .zero,h=>by refine ym _ ((aF _).mpr trivial) ?_;simp[GC,Ty.av,↓zq,zs,ae,bP,Ty.atoms]
 | .one,h=>by refine ym _ ((aF _).mpr trivial) ?_;simp[GC,Ty.av,↓zq,zs,ae,bP,Ty.atoms]
 | .name s,h=>by refine ym _ ((aF _).mpr trivial) ?_;simp[GC,Ty.av,↓zq,zs,ae,bP,Ty.atoms]
 | .bound u,h=>by refine ym _ ((aF _).mpr trivial) ?_;simp[GC,Ty.av,↓zq,zs,ae,bP,Ty.atoms]
 |
  .plus a b,h=>by
  simp only[Ty.atoms]at h
  refine ym _ ((aF _).mpr trivial) ?_
  simp only[GC,Ty.av,↓zq,zs,ae,aF]
  refine⟨by omega,fun _=>⟨by omega,?_⟩,fun h=>absurd rfl h⟩
  refine aj (GF a (by omega)) ?_
  simp only[↓zq,zs,ae,aF]
  refine⟨by omega,?_⟩
  refine aj (GF b (by omega)) ?_
  simp only[↓zq,zs,ae,bP,Ty.atoms]
  rw[wrap64 (1+(a.atoms:Int)) (by omega) (by omega),wrap64 _ (by omega) (by omega)]
  congr 2
 |
  .times a b,h=>by
  simp only[Ty.atoms]at h
  refine ym _ ((aF _).mpr trivial) ?_
  simp only[GC,Ty.av,↓zq,zs,ae,aF]
  refine⟨by omega,fun h=>by omega,fun _=>⟨fun _=>⟨by omega,?_⟩,fun h=>absurd rfl h⟩⟩
  refine aj (GF a (by omega)) ?_
  simp only[↓zq,zs,ae,aF]
  refine⟨by omega,?_⟩
  refine aj (GF b (by omega)) ?_
  simp only[↓zq,zs,ae,bP,Ty.atoms]
  rw[wrap64 (1+(a.atoms:Int)) (by omega) (by omega),wrap64 _ (by omega) (by omega)]
  congr 2
 |
  .rc a,h=>by
  simp only[Ty.atoms]at h
  refine ym _ ((aF _).mpr trivial) ?_
  simp only[GC,Ty.av,↓zq,zs,ae,aF]
  refine⟨by omega,fun h=>by omega,fun _=>⟨fun h=>by omega,fun _=>⟨fun _=>⟨by omega,?_⟩,fun h=>absurd rfl h⟩⟩⟩
  refine aj (GF a (by omega)) ?_
  simp only[↓zq,zs,ae,bP,Ty.atoms]
  rw[wrap64 _ (by omega) (by omega)]
  congr 2
theorem jw:∀(e:E) (ar:List (List UInt8)) (t:Ty),cZ e ar=some t->t.atoms<=e.sz
 |
  .atom s,ar,t,h=>by
  simp only[cZ]at h
  simp only[E.sz]
  split at h
  ·cases h;simp[Ty.atoms]
  ·split at h
   ·cases h;simp[Ty.atoms]
   ·split at h
    ·cases h;simp[Ty.atoms]
    ·split at h
     ·split at h<;>cases h<;>simp[Ty.atoms]
     ·cases h
 |
  .list [x,a,b],ar,t,h=>by
  have hs:∀e:E,1<=e.sz:=fun e=>by cases e<;>simp[E.sz];try omega
  have hx:=hs x
  have ha:=hs a
  simp only[E.sz,E.jZ]
  by_cases h1:x.at=[43]
  ·rw[l5 ar h1]at h
   split at h
   ·rename_i t1 t2 e1 e2
    cases h
    have:=jw a ar t1 e1
    have:=jw b ar t2 e2
    simp only[Ty.atoms];omega
   ·cases h
  ·by_cases h2:x.at=[42]
   ·rw[kT ar h2]at h
    split at h
    ·rename_i t1 t2 e1 e2
     cases h
     have:=jw a ar t1 e1
     have:=jw b ar t2 e2
     simp only[Ty.atoms];omega
    ·cases h
   ·by_cases h3:x.at=[114,101,99]
    ·rw[nJ ar h3]at h
     split at h
     ·split at h
      ·rename_i t1 e1
       cases h
       have:=jw b _ t1 e1
       simp only[Ty.atoms];omega
      ·cases h
     ·cases h
    ·rw[jK ar h1 h2 h3]at h;cases h
 | .list [],_,_,h=>by cases h
 | .list [_],_,_,h=>by cases h
 | .list [_,_],_,_,h=>by cases h
 | .list (_::_::_::_::_),_,_,h=>by cases h
def sr(s:List UInt8):Option Ty:=match sw s with
 |none=>none
 |
  some e=>match cZ e []with
  |none=>none
  |some t=>if t.atoms>400 then none else some t
theorem IV(s:List UInt8):aq Tryz.prog 38 [.v (.string (mk s))] [] (bP (iQ (sr s))):=by
 refine Sp _ ?_
 unfold Ox
 refine aj (Lf s) ?_
 unfold sr
 cases he:sw s with
 |none=>simp only[vA,↓zq,zs,ae,bP,iQ];simp
 |
  some e =>
  obtain⟨h1,h2⟩:=pj he
  simp only[vA,↓zq,zs,ae,db,eH]
  refine⟨fun h=>(by cases h),fun _=>?_⟩
  refine aj (F8 e [] _ h1 .nil (by simp;omega)) ?_
  cases ht:cZ e []with
  |none=>simp only[iQ,↓zq,zs,ae,bP];simp
  |
   some t =>
   have:=jw e [] t ht
   simp only[iQ,↓zq,zs,ae,aF,gj]
   refine⟨fun h=>(by cases h),fun _=>?_⟩
   refine aj (GF t (by omega)) ?_
   simp only[↓zq,zs,ae,bP]
   refine⟨fun h=>?_,fun h=>?_⟩
   ·rw[if_pos (by omega)]
   ·rw[if_neg (by omega)]
end Go.Proofs.Trees
namespace Go.Proofs.Trees
open Go Go.VL
def C6(p:Prop):Nat->List AV->List Ob->Prop:=fun t ys o=>(t=1/\¬p/\ys=[]/\o=[])\/(t=2/\p/\∃j:Nat,ys=[.v (.int .i64 (j:Int))]/\o=[])
theorem Oq(l:List (List UInt8))(a:AV)(ha:cN a l)(s:List UInt8)(hl:l.length<1000000):∀(k i:Nat),i+k=l.length->s∉l.take i->IT [a,.v (.string (mk s)),.v (.int .i64 (l.length:Int)),.v (.int .i64 (i:Int))] []
 (C6 (s∈l))
 |
  0,i,hi,hn=>by
  refine NX _ _ _ _ ?_
  simp only[KC,↓zq,zs,ae]
  have:l.take i=l:=List.take_of_length_le (by omega)
  rw[this]at hn
  exact⟨ha.1,fun h=>by omega,fun _=>.inl ⟨rfl,hn,rfl,rfl⟩⟩
 |
  k+1,i,hi,hn=>by
  have hlt:i<l.length:=by omega
  refine NX _ _ _ _ ?_
  simp only[KC,↓zq,zs,ae,zt,ha.len,ha.idx hlt]
  have hm:l.getD i []∈l:=by simp[aa,hlt]
  refine⟨ha.1,fun _=>⟨⟨ha.1,by omega,by omega⟩,by omega,fun h=>?_,fun h=>?_⟩,fun h=>by omega⟩
  ·exact .inr ⟨rfl,by rw[h];exact hm,i,rfl,rfl⟩
  ·rw[bD i (by omega)]
   refine Oq l a ha s hl k (i+1) (by omega) ?_
   rw[List.take_add_one]
   simp only[aO,not_or]
   refine⟨hn,?_⟩
   have:l[i]?=some (l.getD i []):=by simp[aa,hlt]
   rw[this];simpa using h
theorem PW(l:List (List UInt8))(a:AV)(ha:cN a l)(s:List UInt8)(hl:l.length<1000000):aq Tryz.prog 124 [a,.v (.string (mk s))] [] (bP (.v (.bool (decide (s∈l))))):=by
 have hI:aq Tryz.prog 149 [a,.v (.string (mk s))] [] (fun r o=>∃n:Int,r=.v (.int .i64 n)/\(0<=n↔s∈l)/\o=[]):=by
  refine Ug _ _ ha.1 ?_
  simp only[PO,↓zq,zs,ae,ha.len]
  refine⟨ha.1,mi (Oq l a ha s hl l.length 0 (by omega) (by simp)) ?_ ?_⟩
  ·rintro ys o (⟨_,h1,rfl,rfl⟩|⟨h,_⟩)
   ·simp only[↓zq,zs,ae]
    exact⟨-1,rfl,⟨fun h=>(by omega),fun h=>absurd h h1⟩⟩
   ·cases h
  ·rintro ys o (⟨h,_⟩|⟨_,h1,j,rfl,rfl⟩)
   ·cases h
   ·simp only[↓zq,zs,ae]
    exact⟨j,rfl,⟨fun _=>h1,fun _=>(by omega)⟩⟩
 refine UX _ _ ha.1 ?_
 unfold Q8
 refine aQ hI ⟨.v (.int .i64 (if s∈l then 0 else -1)),[],_,rfl,by split<;>simp_all,rfl⟩ ?_
 rintro r o ⟨n,rfl,hn,rfl⟩
 simp only[↓zq,zs,ae,bP]
 congr 2
 rw[cK];simp[hn]
def rh(out:List (List UInt8)):Ty->List (List UInt8)
 | .name s=>if s∈out then out else out++[s]
 |_=>out
theorem y0(t:Ty)(out:List (List UInt8))(hl:out.length<100000):aq Tryz.prog 148 [t.av,.ref 0 0] [.cells [.vec 1],.vec 1 (bW out)] (di .any [.cells [.vec 1],.vec 1 (bW (rh out t))]):=by
 refine SQ _ _ ((aF _).mpr trivial) ?_
 have hlen:(bW out).length=out.length:=by simp[bW]
 cases t with
 |
  name s =>
  simp only[Ka,Ty.av,↓zq,zs,ae,di,hlen]
  refine⟨by omega,fun _=>⟨by omega,?_⟩,fun h=>absurd rfl h⟩
  refine aj (PW out _ (.of out) s (by omega)) ?_
  simp only[↓zq,zs,ae,rh]
  refine⟨fun h=>⟨by omega,⟨fun c hc=>(by simp at hc;rw[hc];rfl),by omega⟩,?_⟩,fun h=>?_⟩
  ·rw[GP,if_neg h]
  ·rw[if_pos h]
 |_=>simp[Ka,Ty.av,↓zq,zs,ae,di,rh]
def bS:Ty->List (List UInt8)->List (List UInt8)
 | .name s,out=>rh out (.name s)
 | .plus a b,out=>bS b (bS a out)
 | .times a b,out=>bS b (bS a out)
 | .rc a,out=>bS a out
 |_,out=>out
theorem eQ:∀(t:Ty) (out:List (List UInt8)),(bS t out).length<=out.length+t.atoms
 | .name s,out=>by simp only[bS,rh,Ty.atoms];split<;>simp
 |
  .plus a b,out=>by
  have:=eQ a out
  have:=eQ b (bS a out)
  simp only[bS,Ty.atoms];omega
 |
  .times a b,out=>by
  have:=eQ a out
  have:=eQ b (bS a out)
  simp only[bS,Ty.atoms];omega
 |
  .rc a,out=>by
  have:=eQ a out
  simp only[bS,Ty.atoms];omega
 | .zero,out=>by simp[bS]
 | .one,out=>by simp[bS]
 | .bound u,out=>by simp[bS]
theorem Bx:∀(t:Ty) (out:List (List UInt8)),out.length+t.atoms<100000->aq Tryz.prog 147 [t.av,.fn 148 [.ref 0 0]] [.cells [.vec 1],.vec 1 (bW out)] (di .any [.cells [.vec 1],.vec 1 (bW (bS t out))])
 |
  .plus a b,out,hl=>by
  simp only[Ty.atoms]at hl
  have:=eQ a out
  refine yR _ _ ((aF _).mpr trivial) ?_
  unfold GW
  refine aY (y0 (.plus a b) out (by omega)) ?_
  simp only[Ty.av,↓zq,zs,ae,aF,gj,rh,aH,di]
  refine⟨by omega,fun _=>⟨by omega,?_⟩,fun h=>(by cases h)⟩
  refine aY (Bx a out (by omega)) ?_
  simp only[↓zq,zs,ae,aF,gj,aH]
  refine⟨by omega,fun _=>⟨by omega,?_⟩,fun h=>(by cases h)⟩
  refine aY (Bx b (bS a out) (by omega)) ?_
  simp only[↓zq,zs,ae,aH,bS]
 |
  .times a b,out,hl=>by
  simp only[Ty.atoms]at hl
  have:=eQ a out
  refine yR _ _ ((aF _).mpr trivial) ?_
  unfold GW
  refine aY (y0 (.times a b) out (by omega)) ?_
  simp only[Ty.av,↓zq,zs,ae,aF,gj,rh,aH,di]
  refine⟨by omega,fun _=>⟨by omega,?_⟩,fun h=>(by cases h)⟩
  refine aY (Bx a out (by omega)) ?_
  simp only[↓zq,zs,ae,aF,gj,aH]
  refine⟨by omega,fun _=>⟨by omega,?_⟩,fun h=>(by cases h)⟩
  refine aY (Bx b (bS a out) (by omega)) ?_
  simp only[↓zq,zs,ae,aH,bS]
 |
  .rc a,out,hl=>by
  simp only[Ty.atoms]at hl
  refine yR _ _ ((aF _).mpr trivial) ?_
  unfold GW
  refine aY (y0 (.rc a) out (by omega)) ?_
  simp only[Ty.av,↓zq,zs,ae,aF,gj,rh,aH,di]
  refine⟨by omega,fun _=>⟨by omega,?_⟩,fun h=>(by cases h)⟩
  refine aY (Bx a out (by omega)) ?_
  simp[↓zq,zs,ae,aF,gj,aH,bS]
 |
  .name s,out,hl=>by
  refine yR _ _ ((aF _).mpr trivial) ?_
  unfold GW
  refine aY (y0 (.name s) out (by omega)) ?_
  simp[Ty.av,↓zq,zs,ae,aH,di,bS]
 |
  .zero,out,hl=>by
  refine yR _ _ ((aF _).mpr trivial) ?_
  unfold GW
  refine aY (y0 .zero out (by omega)) ?_
  simp[Ty.av,↓zq,zs,ae,aH,di,bS,rh]
 |
  .one,out,hl=>by
  refine yR _ _ ((aF _).mpr trivial) ?_
  unfold GW
  refine aY (y0 .one out (by omega)) ?_
  simp[Ty.av,↓zq,zs,ae,aH,di,bS,rh]
 |
  .bound u,out,hl=>by
  refine yR _ _ ((aF _).mpr trivial) ?_
  unfold GW
  refine aY (y0 (.bound u) out (by omega)) ?_
  simp[Ty.av,↓zq,zs,ae,aH,di,bS,rh]
theorem MS(t:Ty)(hl:t.atoms<100000):aq Tryz.prog 122 [t.av] [] (bP (.sl (bW (bS t [])))):=by
 refine TQ _ ((aF _).mpr trivial) ?_
 unfold Mn
 refine aY (Bx t [] (by simpa using hl)) ?_
 simp[↓zq,zs,ae,aH,bP]
theorem Ml(l:List (List UInt8))(a:AV)(ha:cN a l)(hl:l.length<1000000):∀(k i:Nat),i+k=l.length->(∀s,s∈l.take i->dy s=false)->HB [a,.v (.func (.func 118) #[] #[]),.v (.int .i64 (l.length:Int)),.v (.int .i64 (i:Int))] []
 (C6 (l.any dy=true))
 |
  0,i,hi,hn=>by
  refine Qf _ _ _ ?_
  simp only[Kb,↓zq,zs,ae]
  have:l.take i=l:=List.take_of_length_le (by omega)
  rw[this]at hn
  exact⟨ha.1,fun h=>by omega,fun _=>.inl ⟨rfl,fun hh=>(by obtain⟨x,hx,hy⟩:=cA.1 hh;rw[hn x hx]at hy;cases hy),rfl,rfl⟩⟩
 |
  k+1,i,hi,hn=>by
  have hlt:i<l.length:=by omega
  refine Qf _ _ _ ?_
  simp only[Kb,↓zq,zs,ae,zt,ha.len,ha.idx hlt]
  have hm:l.getD i []∈l:=by simp[aa,hlt]
  refine⟨ha.1,fun _=>⟨⟨ha.1,by omega,by omega⟩,by omega,?_⟩,fun h=>by omega⟩
  refine aj (E1 _) ?_
  simp only[↓zq,zs,ae]
  refine⟨fun h=>?_,fun h=>?_⟩
  ·exact .inr ⟨rfl,cA.2 ⟨_,hm,h⟩,i,rfl,rfl⟩
  ·rw[bD i (by omega)]
   refine Ml l a ha hl k (i+1) (by omega) ?_
   intro s hs
   rw[List.take_add_one]at hs
   have:l[i]?=some (l.getD i []):=by simp[aa,hlt]
   rw[this]at hs
   rcases aO.1 hs with hs|hs
   ·exact hn s hs
   ·simp at hs;rw[hs];simpa using h
theorem SW(l:List (List UInt8))(a:AV)(ha:cN a l)(hl:l.length<1000000):aq Tryz.prog 150 [a,.v (.func (.func 118) #[] #[])] [] (bP (.v (.bool (l.any dy)))):=by
 have hI:aq Tryz.prog 160 [a,.v (.func (.func 118) #[] #[])] [] (fun r o=>∃n:Int,r=.v (.int .i64 n)/\(0<=n↔l.any dy=true)/\o=[]):=by
  refine Sn _ ha.1 ?_
  simp only[MQ,↓zq,zs,ae,ha.len]
  refine⟨ha.1,mi (Ml l a ha hl l.length 0 (by omega) (by simp)) ?_ ?_⟩
  ·rintro ys o (⟨_,h1,rfl,rfl⟩|⟨h,_⟩)
   ·simp only[↓zq,zs,ae]
    exact⟨-1,rfl,⟨fun h=>(by omega),fun h=>absurd h h1⟩⟩
   ·cases h
  ·rintro ys o (⟨h,_⟩|⟨_,h1,j,rfl,rfl⟩)
   ·cases h
   ·simp only[↓zq,zs,ae]
    exact⟨j,rfl,⟨fun _=>h1,fun _=>(by omega)⟩⟩
 refine UA _ ha.1 ?_
 unfold PG
 refine aQ hI ⟨.v (.int .i64 (if l.any dy=true then 0 else -1)),[],_,rfl,by split<;>simp_all,rfl⟩ ?_
 rintro r o ⟨n,rfl,hn,rfl⟩
 simp only[↓zq,zs,ae,bP]
 congr 2
 rw[cK];simp only[decide_eq_true_eq,ge_iff_le,hn]
def Ty.closed(t:Ty):Bool:=!((bS t []).any dy)
theorem SU(t:Ty)(hl:t.atoms<100000):aq Tryz.prog 125 [t.av] [] (bP (.v (.bool t.closed))):=by
 refine TJ _ ((aF _).mpr trivial) ?_
 unfold P4
 refine aj (MS t hl) ?_
 simp only[↓zq,zs,ae]
 have:=eQ t []
 refine aj (SW _ _ (.of _) (by simp at this;omega)) ?_
 simp only[↓zq,zs,ae,bP,Ty.closed]
def yN(s:List UInt8):Option Ty:=match sr s with
 |none=>none
 |some t=>if t.closed=true then some t else none
theorem uc{s:List UInt8}{t:Ty}(h:sr s=some t):t.atoms<=400:=by
 unfold sr at h
 split at h
 ·cases h
 ·split at h
  ·cases h
  ·split at h<;>cases h
   omega
theorem LL(s:List UInt8):aq Tryz.prog 82 [.v (.string (mk s))] [] (bP (iQ (yN s))):=by
 refine RD _ ?_
 unfold Mq
 refine aj (IV s) ?_
 unfold yN
 cases ht:sr s with
 |none=>simp[iQ,↓zq,zs,ae,bP]
 |
  some t =>
  have:=uc ht
  simp only[iQ,↓zq,zs,ae,aF,gj]
  refine⟨fun h=>(by cases h),fun _=>?_⟩
  refine aj (SU t (by omega)) ?_
  simp only[↓zq,zs,ae,bP]
  refine⟨fun h=>?_,fun h=>?_⟩
  ·rw[if_neg (by rw[h];simp)]
  ·rw[if_pos h]
theorem cW(l:List (List UInt8)):∀x,x∈[Ob.vec 1 (bW l)]->dI x:=by
 intro x hx
 simp only[aT]at hx
 subst hx
 intro e he c hc
 simp only[bW,bM]at he
 obtain⟨k,_,rfl⟩:=he
 simp only[aT]at hc
 exact⟨_,hc⟩
end Go.Proofs.Trees
namespace Go.Proofs.Trees
open Go Go.VL
theorem Sl(b:UInt8):aq Tryz.prog 141 [.v (.int .u8 (b.toNat:Int))] [] (bP (.v (.bool (fF b)))):=by
 refine Ui _ ?_
 simp only[OG,↓zq,zs,ae,bP,fF]
 repeat' (apply aJ<;>intro _)
 all_goals first|(congr 2;rw[cK];simp;omega)|(congr 2;simp;omega)
def Ga(s:List UInt8)(x:Option (E×List UInt8)):AV->List Ob->Prop:=fun r o=>o=[] /\
 match x with
 |some (e,u)=>r=.cm [e.lF,.v (.int .i64 ((s.length-u.length:Nat):Int))]
 |none=>∃(c:List UInt8) (d:AV),LK.sl.has d/\r=.cm [.agg [.v (.string (mk c)),d],.v (.int .i64 (-1))]
theorem Ga.ne(s:List UInt8)(x:Option (E×List UInt8)):∃r o,Ga s x r o:=by
 cases x with
 |some q=>exact⟨_,_,rfl,rfl⟩
 |none=>exact⟨_,_,rfl,[],.v (.slice none 0 0),(bm).mpr trivial,rfl⟩
def jc(c:List UInt8)(d:AV):Ob:=.cells [.v (.string (mk c)),d]
theorem KW(s:List UInt8)(hs:s.length<=8000)(from_:Int)(c1 c2:List UInt8)(d1 d2:AV)(h1:LK.sl.has d1)(h2:LK.sl.has d2):∀(k i:Nat),i+k=s.length->Iw [.v (.string (mk s)),.v (.int .i64 (i:Int)),.v (.int .i64 from_)] [jc c1 d1,jc c2 d2]
 (gS 1 [.v (.string (mk s)),.v (.int .i64 ((i+((s.drop i).takeWhile fF).length:Nat):Int)),.v (.int .i64 from_)] [jc c1 d1,jc c2 d2])
 |
  0,i,hi=>by
  refine QJ _ _ _ _ _ _ _ ?_
  have hd:s.drop i=[]:=bY (by omega)
  simp only[Iy,↓zq,zs,ae,zt]
  exact⟨h1,h2,fun h=>by omega,fun _=>by simp[gS,hd,jc]⟩
 |
  k+1,i,hi=>by
  have hlt:i<s.length:=by omega
  refine QJ _ _ _ _ _ _ _ ?_
  simp only[Iy,↓zq,zs,ae,zt,mZ s i hlt]
  refine⟨h1,h2,fun _=>⟨by omega,?_⟩,fun h=>by omega⟩
  refine aj (Sl _) ?_
  simp only[↓zq,zs,ae]
  refine⟨fun hb=>?_,fun hb=>?_⟩
  ·rw[bD i (by omega)]
   have:=KW s hs from_ c1 c2 d1 d2 h1 h2 k (i+1) (by omega)
   rw[AO hlt hb,show i+(((s.drop (i+1)).takeWhile fF).length+1)=i+1+((s.drop (i+1)).takeWhile fF).length by omega]
   exact this
  ·simp[gS,sb hlt hb,jc]
def VH(s:List UInt8)(x:Option (E×List UInt8)):Nat->List AV->List Ob->Prop:=fun t ys o=>t=2 /\
 match x with
 |some (e,u)=>∃l,e=.list l/\ys=[.v (.int .i64 ((s.length-u.length:Nat):Int))]/\o=[jc [] .any,.vec 2 (E.bE l)]
 |none=>∃es,ys=[.v (.int .i64 (-1))]/\o=[jc [] .any,.vec 2 es]
theorem AN(e:E):(e.lF=.agg e.lF.cs/\e.lF.cs.length=2/\bC [.str,.sl] e.lF.cs 0)=True:=by
 apply eq_true
 cases e<;>simp[E.lF,E.iX,Dm,bC,dD,bm,cc]
theorem yh(e:E):[AV.v (.string ((e.lF.cs.getD 0 .any).toStr)),e.lF.cs.getD 1 .any]=e.iX:=by
 cases e<;>rfl
theorem drop_cons{s:List UInt8}{j:Nat}(hj:j<s.length):s.drop j=s.getD j 0::s.drop (j+1):=by
 rw[aM hj];simp[aa,hj]
theorem Ps(s:List UInt8)(hs:s.length<=8000)(d:Nat)(hd:d<=300)(f:List UInt8->Option (E×List UInt8))(hf:∀u e r,f u=some (e,r)->∃j,r=u.drop j/\0<j/\j<=u.length)
 (ih:∀j,j<=s.length->aq Tryz.prog 104 [.v (.string (mk s)),.v (.int .i64 (j:Int)),.v (.int .i64 ((d+1:Nat):Int))] [] (Ga s (f (s.drop j)))) :
 ∀(n i:Nat) (acc:List E) (c1:List UInt8) (d1:AV),LK.sl.has d1->s.length-(i+1)<n->i<s.length->s.length-i+acc.length<=8001->I1 [.v (.string (mk s)),.v (.int .i64 (i:Int)),.v (.int .i64 (d:Int))] [jc c1 d1,jc [] .any,.vec 2 (E.bE acc)]
  (VH s (tR f n (s.drop (i+1)) acc))
 |0,i,acc,c1,d1,h1,hn,_,_=>by omega
 |
  n+1,i,acc,c1,d1,h1,hn,hi,hl=>by
  refine Sy _ _ _ _ _ _ _ ?_
  simp only[Qj,↓zq,zs,ae,jc]
  refine⟨h1,?_⟩
  rw[bD i (by omega),bD d (by omega)]
  refine aQ (ih (i+1) (by omega)) (Ga.ne _ _) ?_
  rintro r o ⟨rfl,hr⟩
  have hff:=hf (s.drop (i+1))
  unfold tR
  cases hq:f (s.drop (i+1))with
  |
   none =>
   rw[hq]at hr
   obtain⟨c,d',hd',rfl⟩:=hr
   simp only[↓zq,zs,ae,zt,bC]
   refine⟨hd',fun _=>⟨rfl,_,rfl,rfl⟩,fun h=>by omega⟩
  |
   some q =>
   obtain⟨e,u⟩:=q
   rw[hq]at hr
   subst hr
   obtain⟨j,hu,hj0,hj⟩:=hff e u hq
   rw[List.drop_drop]at hu
   simp only[cD]at hj
   have hul:u.length=s.length-(i+1+j):=by rw[hu,cD]
   have hpos:s.length-u.length=i+1+j:=by omega
   simp only[↓zq,zs,ae,zt,AN,hpos,yh,eC]
   refine⟨fun h=>by omega,fun _=>⟨fun h=>?_,fun h=>⟨⟨fun c hc=>(by simp at hc;rw[hc];cases e<;>rfl),by omega⟩,?_⟩⟩⟩
   ·have:u=[]:=by rw[hu];exact bY (by omega)
    subst this
    exact⟨rfl,_,rfl,rfl⟩
   ·have hlt:i+1+j<s.length:=by omega
    rw[drop_cons hlt]at hu
    subst hu
    rw[mZ s _ hlt]
    generalize hb:s.getD (i+1+j) 0=b
    refine⟨by omega,fun h41=>?_,fun h41=>⟨by omega,fun h32=>?_,fun h32=>?_⟩⟩
    ·have h41':b.toNat=41:=by omega
     dsimp only
     rw[if_pos h41',bD _ (by omega)]
     refine⟨rfl,acc++[e],rfl,?_,?_⟩
     ·rw[cD];congr 3;omega
     ·simp[jc,rm,E.bE]
    ·have h41':¬b.toNat=41:=by omega
     have h32':¬b.toNat=32:=by omega
     dsimp only
     rw[if_neg h41',if_neg h32']
     exact⟨rfl,_,rfl,rfl⟩
    ·have h41':¬b.toNat=41:=by omega
     have h32':b.toNat=32:=by omega
     dsimp only
     rw[if_neg h41',if_pos h32']
     have:=Ps s hs d hd f hf ih n (i+1+j) (acc++[e]) c1 d1 h1 (by omega) hlt (by simp;omega)
     simpa[jc,rm,E.bE]using this
theorem Gf(k:Nat)(u:List UInt8)(e:E)(r:List UInt8)(h:rd k u=some (e,r)):∃j,r=u.drop j/\0<j/\j<=u.length:=by
 have suf:∀(k:Nat) (u:List UInt8) (e:E) (r:List UInt8),rd k u=some (e,r)->r <:+ u:=by
  intro k
  have tw:∀u:List UInt8,u.dropWhile fF <:+ u:=fun u=>List.dropWhile_suffix _
  have ll:∀(f:List UInt8->Option (E×List UInt8)),(∀u e r,f u=some (e,r)->r <:+ u)->∀(n:Nat) (u:List UInt8) (acc:List E) (e:E) (r:List UInt8),tR f n u acc=some (e,r)->r <:+ u:=by
   intro f hf n
   induction n with
   |zero=>intro u acc e r h;cases h
   |
    succ n ih =>
    intro u acc e r h
    simp only[tR]at h
    split at h
    ·rename_i p c r' hs
     have h1:r' <:+ u:=(List.suffix_cons c r').trans (hf _ _ _ hs)
     split at h
     ·cases h;exact h1
     ·split at h
      ·exact(ih _ _ _ _ h).trans h1
      ·cases h
    ·cases h
  induction k with
  |
   zero =>
   intro u e r h
   simp only[rd]at h
   split at h
   ·cases h
   ·cases h;exact tw u
  |
   succ k ih =>
   intro u e r h
   simp only[rd]at h
   split at h
   ·split at h
    ·split at h
     ·exact(ll _ ih _ _ _ _ _ h).trans (List.suffix_cons _ _)
     ·cases h
    ·cases h
   ·cases h;exact tw u
 obtain⟨p,hp⟩:=suf k u e r h
 have hlt:=AG k u e r h
 have:=congrArg List.length hp
 simp only[an]at this
 exact⟨p.length,by rw[<-hp];simp,by omega,by omega⟩
theorem Eg(n:Nat)(u:List UInt8)(acc:List E):tR (fun _=>none) n u acc=none:=by
 cases n<;>rfl
theorem UU(s:List UInt8)(j:Nat):aq Tryz.prog 104 [.v (.string (mk s)),.v (.int .i64 (j:Int)),.v (.int .i64 ((300+1:Nat):Int))] [] (Ga s none):=by
 refine QU _ _ _ ?_
 simp only[Ky,↓zq,zs,ae]
 exact⟨fun _=>⟨rfl,[],_,(bm).mpr trivial,rfl⟩,fun h=>by omega⟩
theorem ru(s:List UInt8)(hs:s.length<=8000)(d i:Nat)(hd:d<=300)(hi:i<=s.length)(f:List UInt8->Option (E×List UInt8))(hf:∀u e r,f u=some (e,r)->∃j,r=u.drop j/\0<j/\j<=u.length)
 (ih:∀j,j<=s.length->aq Tryz.prog 104 [.v (.string (mk s)),.v (.int .i64 (j:Int)),.v (.int .i64 ((d+1:Nat):Int))] [] (Ga s (f (s.drop j)))) (x:Option (E×List UInt8))
 (h0:i=s.length->x=none)
 (h1:i<s.length->(s.drop i).takeWhile fF≠[]->x=some (.atom ((s.drop i).takeWhile fF),(s.drop i).dropWhile fF))
 (h2:i<s.length->(s.drop i).takeWhile fF=[]->¬(s.getD i 0).toNat=40->x=none)
 (h3:i<s.length->(s.getD i 0).toNat=40->x=tR f (s.length-(i+1)+1) (s.drop (i+1)) []) :
 aq Tryz.prog 104 [.v (.string (mk s)),.v (.int .i64 (i:Int)),.v (.int .i64 (d:Int))] [] (Ga s x):=by
 refine QU _ _ _ ?_
 simp only[Ky,↓zq,zs,ae,zt]
 refine⟨fun h=>by omega,fun _=>⟨fun h=>?_,fun h=>⟨by omega,?_⟩⟩⟩
 ·rw[h0 (by omega)]
  exact⟨rfl,[],_,(bm).mpr trivial,rfl⟩
 ·have hlt:i<s.length:=by omega
  rw[mZ s i hlt]
  refine⟨fun h40=>?_,fun h40=>?_⟩
  ·have h40':¬(s.getD i 0).toNat=40:=by omega
   refine cC (KW s hs _ [] [] _ _ ((bm).mpr trivial) ((bm).mpr trivial) (s.length-i) i (by omega)) ?_
   have hex:(List.take (i+((s.drop i).takeWhile fF).length) s).drop i=(s.drop i).takeWhile fF:=by
    rw[List.drop_take,Nat.add_sub_cancel_left];exact v8 _
   have hle:i+((s.drop i).takeWhile fF).length<=s.length:=by
    have:=vk (s.drop i);simp only[cD]at this;omega
   simp only[jc,↓zq,zs,ae,zt,hex]
   refine⟨by omega,fun hnil=>?_,fun hnil=>?_⟩
   ·rw[h2 hlt hnil h40',hnil]
    exact⟨rfl,[],_,(bm).mpr trivial,rfl⟩
   ·rw[h1 hlt hnil]
    refine⟨rfl,?_⟩
    have:=vk (s.drop i)
    simp only[cD]at this
    show _=AV.cm [E.lF (.atom _),_]
    have e:s.length-((s.drop i).dropWhile fF).length=i+((s.drop i).takeWhile fF).length:=by omega
    rw[e];rfl
  ·have h40':(s.getD i 0).toNat=40:=by omega
   rw[h3 hlt h40']
   refine mi (Ps s hs d hd f hf ih (s.length-(i+1)+1) i [] [] _ ((bm).mpr trivial) (by omega) hlt (by simp;omega)) ?_ ?_
   ·rintro ys o ⟨h,_⟩;cases h
   ·rintro ys o ⟨_,hr⟩
    cases hq:tR f (s.length-(i+1)+1) (s.drop (i+1)) []with
    |
     none =>
     rw[hq]at hr
     obtain⟨es,rfl,rfl⟩:=hr
     simp only[jc,↓zq,zs,ae]
     exact⟨rfl,[],_,(cc _).mpr trivial,rfl⟩
    |
     some q =>
     obtain⟨e,u⟩:=q
     rw[hq]at hr
     obtain⟨l,rfl,rfl,rfl⟩:=hr
     simp only[jc,↓zq,zs,ae]
     exact⟨rfl,rfl⟩
theorem RF(s:List UInt8)(hs:s.length<=8000):∀(k:Nat),k<=300->∀i,i<=s.length->aq Tryz.prog 104 [.v (.string (mk s)),.v (.int .i64 (i:Int)),.v (.int .i64 ((300-k:Nat):Int))] [] (Ga s (rd k (s.drop i))):=by
 intro k
 have hnil:∀k,rd k []=none:=fun k=>by cases k<;>simp[rd]
 have ha40:∀b:UInt8,b.toNat=40->fF b=false:=fun b hb=>by simp[fF,hb]
 induction k with
 |
  zero =>
  intro hk i hi
  refine ru s hs 300 i (by omega) hi (fun _=>none) (fun _ _ _ h=>by cases h) (fun j _=>UU s j) _ (fun h=>?_) (fun hlt h=>?_) (fun hlt h h40=>?_) (fun hlt h40=>?_)
  ·rw[bY (by omega)];exact hnil 0
  ·simp only[rd,if_neg h]
  ·simp only[rd,if_pos h]
  ·rw[Eg]
   have:(s.drop i).takeWhile fF=[]:=sb hlt (ha40 _ h40)
   simp only[rd,if_pos this]
 |
  succ k ih =>
  intro hk i hi
  have hd:300-(k+1)+1=300-k:=by omega
  refine ru s hs (300-(k+1)) i (by omega) hi (rd k) (Gf k) (fun j hj=>by rw[hd];exact ih (by omega) j hj) _ (fun h=>?_) (fun hlt h=>?_) (fun hlt h h40=>?_) (fun hlt h40=>?_)
  ·rw[bY (by omega)];exact hnil _
  ·simp only[rd,if_neg h]
  ·rw[drop_cons hlt]at h |-
   simp only[rd,if_pos h,if_neg h40]
  ·have h:=sb hlt (ha40 _ h40)
   rw[drop_cons hlt]at h |-
   simp only[rd,if_pos h,if_pos h40,cD]
end Go.Proofs.Trees
namespace Go.Proofs.Trees
open Go Go.VL
theorem jH(e:E):AV.agg [.v (.string ((e.iX.getD 0 .any).toStr)),e.iX.getD 1 .any]=e.lF:=by cases e<;>rfl
theorem gO(e:E):e.iX.length=2:=by cases e<;>rfl
theorem jt(e:E):bC [.str,.sl] e.iX 0=True:=by
 apply eq_true
 cases e<;>simp[E.iX,bC,dD,bm,cc]
theorem nL(e:E):e.iX.headD .any=.v (.string (mk e.at)):=by cases e<;>rfl
theorem wx(x:E)(l:List E):aq Tryz.prog 54 [.agg [.v (.string (mk [])),.sl (E.bE (x::l))]] [] (bP (.v (.string (mk x.at)))):=by
 refine Jq _ _ ((cc _).mpr trivial) ?_
 simp only[E9,E.bE,↓zq,zs,ae,zt,bP,gO,nL,au]
 refine⟨fun h=>absurd rfl h,fun _=>⟨fun h=>by omega,fun _=>⟨by omega,by omega⟩⟩⟩
theorem Ry:aq Tryz.prog 54 [.agg [.v (.string (mk [])),.sl (E.bE [])]] [] (bP (.v (.string (mk [])))):=by
 refine Jq _ _ ((cc _).mpr trivial) ?_
 simp only[E9,E.bE,↓zq,zs,ae,zt,bP,gO,nL,au]
 simp
def kY:E->Bool
 | .atom s=>(s==[48])||(s==[49])||iw s||dy s
 | .list [x,a,b]=>if x.at=[43]then kY a&&kY b else if x.at=[42]then kY a&&kY b else if x.at=[114,101,99]then dy a.at&&kY b else false
 | .list _=>false
theorem Bq:∀(e:E),e.ok->aq Tryz.prog 138 [e.lF] [] (bP (.v (.bool (kY e))))
 |
  .atom s,hok=>by
  refine PF _ _ ((bm).mpr trivial) ?_
  have hne:s≠[]:=hok
  simp only[yI,↓zq,zs,ae,zt,bP,kY]
  refine⟨fun _=>⟨fun h=>?_,fun h=>⟨fun h1=>?_,fun h1=>?_⟩⟩,fun h=>absurd h hne⟩
  ·simp[h]
  ·simp[h1]
  ·refine aj (Hc s) ?_
   simp only[↓zq,zs,ae]
   refine⟨fun hp=>?_,fun hp=>?_⟩
   ·simp[hp]
   ·refine aj (KD s) ?_
    simp[↓zq,zs,ae,hp,h,h1]
 |
  .list l,hok=>by
  refine PF _ _ ((cc _).mpr trivial) ?_
  match l,hok with
  |[],hok=>simp[yI,E.bE,↓zq,zs,ae,zt,bP,kY]
  |[x],hok=>simp[yI,E.bE,↓zq,zs,ae,zt,bP,kY]
  |[x,y],hok=>simp[yI,E.bE,↓zq,zs,ae,zt,bP,kY]
  |
   x::y::z::w::l,hok =>
   simp only[yI,E.bE,↓zq,zs,ae,zt,bP,kY]
   exact⟨fun h=>absurd rfl h,fun _=>⟨fun _=>trivial,fun h=>by omega⟩⟩
  |
   [x,y,z],hok =>
   obtain⟨ok1,ok2,ok3,_⟩:=hok
   simp only[yI,↓zq,zs,ae,zt,bP]
   refine⟨fun h=>absurd rfl h,fun _=>⟨fun h=>absurd rfl h,fun _=>?_⟩⟩
   refine aj (wx x _) ?_
   simp only[E.bE,toNat_one,bj,↓zq,zs,ae,zt,jH,gO,jt,nL,au,kY]
   refine⟨fun h=>?_,fun h=>⟨fun h1=>?_,fun h1=>⟨fun h2=>?_,fun h2=>?_⟩⟩⟩
   ·rw[if_pos h]
    refine⟨by omega,aj (Bq y ok2) ?_⟩
    simp only[↓zq,zs,ae]
    refine⟨fun hy=>⟨by omega,aj (Bq z ok3) ?_⟩,fun hy=>?_⟩
    ·simp only[↓zq,zs,ae,hy,cb]
    ·rw[hy];rfl
   ·rw[if_neg h,if_pos h1]
    refine⟨by omega,aj (Bq y ok2) ?_⟩
    simp only[↓zq,zs,ae]
    refine⟨fun hy=>⟨by omega,aj (Bq z ok3) ?_⟩,fun hy=>?_⟩
    ·simp only[↓zq,zs,ae,hy,cb]
    ·rw[hy];rfl
   ·rw[if_neg h,if_neg h1,if_pos h2]
    refine⟨by omega,by omega,aj (KD _) ?_⟩
    simp only[↓zq,zs,ae]
    refine⟨fun hy=>⟨by omega,aj (Bq z ok3) ?_⟩,fun hy=>?_⟩
    ·simp only[↓zq,zs,ae,hy,cb]
    ·rw[hy];rfl
   ·rw[if_neg h,if_neg h1,if_neg h2]
theorem jC:∀(e:E) (ar:List (List UInt8)),(cZ e ar).isSome=kY e
 |
  .atom s,ar=>by
  simp only[cZ,kY]
  by_cases h:s=[48]
  ·simp[h]
  ·by_cases h1:s=[49]
   ·simp[h1]
   ·rw[if_neg h,if_neg h1]
    by_cases h2:iw s=true
    ·simp[h2]
    ·rw[if_neg h2]
     by_cases h3:dy s=true
     ·rw[if_pos h3];cases bT s ar ar.length<;>simp[h3]
     ·rw[if_neg h3];simp[h,h1,h2,h3]
 | .list [],_=>rfl
 | .list [_],_=>rfl
 | .list [_,_],_=>rfl
 | .list (_::_::_::_::_),_=>rfl
 |
  .list [x,a,b],ar=>by
  have ha:=jC a ar
  have hb:=jC b ar
  have hb2:=jC b (ar++[a.at])
  rw[kY]
  by_cases h:x.at=[43]
  ·rw[l5 ar h,if_pos h,<-ha,<-hb];cases cZ a ar<;>cases cZ b ar<;>rfl
  ·by_cases h1:x.at=[42]
   ·rw[kT ar h1,if_neg h,if_pos h1,<-ha,<-hb];cases cZ a ar<;>cases cZ b ar<;>rfl
   ·by_cases h2:x.at=[114,101,99]
    ·rw[nJ ar h2,if_neg h,if_neg h1,if_pos h2,<-hb2]
     cases dy a.at<;>cases cZ b (ar++[a.at])<;>rfl
    ·rw[jK ar h h1 h2,if_neg h,if_neg h1,if_neg h2];rfl
mutual
def E.dr:E->Nat
 | .atom _=>1
 | .list l=>E.fA l
def E.fA:List E->Nat
 |[]=>0
 |e::l=>e.dr+E.fA l
end
mutual
theorem jG:∀e:E,e.dr<=e.sz
 | .atom s=>by simp[E.dr,E.sz]
 | .list l=>by have:=wb l;simp only[E.dr,E.sz];omega
theorem wb:∀l:List E,E.fA l<=E.jZ l
 |[]=>by simp[E.fA,E.jZ]
 |e::l=>by have:=jG e;have:=wb l;simp only[E.fA,E.jZ];omega
end
theorem kj:∀(l:List E) (i:Nat) (h:i<l.length),(E.bE l).getD i []=(l[i]).iX
 |e::l,0,_=>rfl
 |
  e::l,i+1,h=>by
  have:=kj l i (by simpa using h)
  simp only[E.bE,List.getD_cons_succ,List.getElem_cons_succ];exact this
theorem Be:∀(l:List E) (i:Nat) (h:i<l.length),E.fA (l.drop i)=(l[i]).dr+E.fA (l.drop (i+1)):=by
 intro l i h
 rw[aM h];rfl
theorem wh:∀(l:List E) (i:Nat) (h:i<l.length),E.FY l->(l[i]).ok
 |e::l,0,_,h=>h.1
 |e::l,i+1,hi,h=>wh l i (by simpa using hi) h.2
theorem QS(l:List E)(hl:E.fA l<1000000)(hll:l.length<1000000)(ih:∀i (h:i<l.length),aq Tryz.prog 134 [(l[i]).lF] [] (bP (.v (.int .i64 ((l[i]).dr:Int))))) :
 ∀(k i n:Nat),i+k=l.length->n+E.fA (l.drop i)<=E.fA l->HU [.v (.int .i64 (n:Int)),.v (.int .i64 (i:Int))] [.cells [.v (.string (mk [])),.sl (E.bE l)]] (gS 1 [.v (.int .i64 ((n+E.fA (l.drop i):Nat):Int))] [])
 |
  0,i,n,hi,hn=>by
  refine Qu _ _ _ _ ?_
  simp only[Kt,↓zq,zs,ae,eC]
  have:l.drop i=[]:=bY (by omega)
  refine⟨fun h=>by omega,fun _=>?_⟩
  simp[gS,this,E.fA]
 |
  k+1,i,n,hi,hn=>by
  have hlt:i<l.length:=by omega
  refine Qu _ _ _ _ ?_
  simp only[Kt,↓zq,zs,ae,zt,eC,kj l i hlt,gO,jt,jH,au]
  refine⟨fun _=>⟨by omega,?_⟩,fun h=>by omega⟩
  refine aj (ih i hlt) ?_
  have h1:=Be l i hlt
  simp only[↓zq,zs,ae]
  rw[bD i (by omega),wrap64 _ (by omega) (by omega)]
  have:=QS l hl hll ih k (i+1) (n+(l[i]).dr) (by omega) (by omega)
  rw[h1,<-Nat.add_assoc]
  simpa using this
theorem wi:∀l:List E,l.length<=E.jZ l
 |[]=>by simp[E.jZ]
 |
  e::l=>by
  have:=wi l
  have:1<=e.sz:=by cases e<;>simp[E.sz]
  simp only[E.jZ,aw];omega
theorem vP:∀(l:List E) (i:Nat) (h:i<l.length),(l[i]).sz<=E.jZ l
 |e::l,0,_=>by simp[E.jZ]
 |e::l,i+1,h=>by have:=vP l i (by simpa using h);simp only[E.jZ,List.getElem_cons_succ];omega
theorem NC:∀(n:Nat) (e:E),e.sz<n->e.ok->e.sz<1000000->aq Tryz.prog 134 [e.lF] [] (bP (.v (.int .i64 (e.dr:Int))))
 |0,e,hn,_,_=>by omega
 |
  n+1,.atom s,hn,hok,hl=>by
  refine Qb _ _ ((bm).mpr trivial) ?_
  have hne:s≠[]:=hok
  simp only[JX,↓zq,zs,ae,zt,bP]
  exact⟨fun _=>rfl,fun h=>absurd h hne⟩
 |
  n+1,.list l,hn,hok,hl=>by
  refine Qb _ _ ((cc _).mpr trivial) ?_
  simp only[E.sz]at hn hl
  have h1:=wb l
  have h2:=wi l
  simp only[JX,↓zq,zs,ae,zt,bP]
  refine⟨fun h=>absurd rfl h,fun _=>?_⟩
  refine cC (QS l (by omega) (by omega) (fun i hi=>?_) l.length 0 0 (by omega) (by simp)) ?_
  ·have:=vP l i hi
   exact NC n (l[i]) (by omega) (wh l i hi hok) (by omega)
  ·simp[↓zq,zs,ae,E.dr]
theorem FO(e:E)(h:e.ok)(hl:e.sz<1000000):aq Tryz.prog 134 [e.lF] [] (bP (.v (.int .i64 (e.dr:Int)))):=NC (e.sz+1) e (by omega) h hl
theorem vu{x:E}(h:x.at≠[]):x.dr=1:=by cases x<;>simp[E.at,E.dr]at h |-
theorem CS{s:List UInt8}(h:dy s=true):s≠[]:=by rintro rfl;cases h
theorem kS:∀(e:E) (ar:List (List UInt8)) (t:Ty),cZ e ar=some t->e.dr=t.atoms
 |
  .atom s,ar,t,h=>by
  simp only[cZ]at h
  simp only[E.dr]
  split at h
  ·cases h;rfl
  ·split at h
   ·cases h;rfl
   ·split at h
    ·cases h;rfl
    ·split at h
     ·split at h<;>cases h<;>rfl
     ·cases h
 | .list [],_,_,h=>by cases h
 | .list [_],_,_,h=>by cases h
 | .list [_,_],_,_,h=>by cases h
 | .list (_::_::_::_::_),_,_,h=>by cases h
 |
  .list [x,a,b],ar,t,h=>by
  simp only[E.dr,E.fA]
  by_cases h0:x.at=[43]
  ·rw[l5 ar h0]at h
   have:=vu (x:=x) (by rw[h0];simp)
   split at h
   ·rename_i t1 t2 e1 e2
    cases h
    have:=kS a ar _ e1
    have:=kS b ar _ e2
    simp only[Ty.atoms];omega
   ·cases h
  ·by_cases h1:x.at=[42]
   ·rw[kT ar h1]at h
    have:=vu (x:=x) (by rw[h1];simp)
    split at h
    ·rename_i t1 t2 e1 e2
     cases h
     have:=kS a ar _ e1
     have:=kS b ar _ e2
     simp only[Ty.atoms];omega
    ·cases h
   ·by_cases h2:x.at=[114,101,99]
    ·rw[nJ ar h2]at h
     have:=vu (x:=x) (by rw[h2];simp)
     split at h
     ·rename_i hl
      have:=vu (CS hl)
      split at h
      ·rename_i t1 e1
       cases h
       have:=kS b _ _ e1
       simp only[Ty.atoms];omega
      ·cases h
     ·cases h
    ·rw[jK ar h0 h1 h2]at h;cases h
def iT(x:Option E)(b:Bool):AV->List Ob->Prop:=fun r o=>∃c:List UInt8,∃d:AV,LK.sl.has d/\r=.cm [.agg [.v (.string (mk c)),d],.v (.bool b)]/\(b=true->∃e,x=some e/\AV.agg [.v (.string (mk c)),d]=e.lF)
theorem DM(e:E):∃c:List UInt8,∃d:AV,LK.sl.has d/\e.lF=AV.agg [.v (.string (mk c)),d]:=by
 cases e with
 |atom s=>exact⟨s,_,(bm).mpr trivial,rfl⟩
 |list l=>exact⟨[],_,(cc _).mpr trivial,rfl⟩
theorem iT.ne(x:Option E)(b:Bool)(h:b=true->x.isSome=true):∃r o,iT x b r o:=by
 cases b with
 |false=>exact⟨_,[],[],.v (.slice none 0 0),(bm).mpr trivial,rfl,fun h=>by cases h⟩
 |
  true =>
  cases x with
  |none=>cases h rfl
  |
   some e =>
   obtain⟨c,d,hd,he⟩:=DM e
   exact⟨_,[],c,d,hd,rfl,fun _=>⟨e,rfl,he.symm⟩⟩
theorem MA(s:List UInt8):aq Tryz.prog 57 [.v (.string (mk s))] [] (iT (sw s) (sw s).isSome):=by
 refine SS _ ?_
 simp only[Rc,↓zq,zs,ae,zt,sw]
 refine⟨fun h=>?_,fun h=>?_⟩
 ·rw[if_pos (by omega)]
  exact⟨[],_,(bm).mpr trivial,rfl,fun h=>by cases h⟩
 ·rw[if_neg (by omega)]
  refine aQ (RF s (by omega) 300 (by omega) 0 (by omega)) (Ga.ne _ _) ?_
  rintro r o ⟨rfl,hr⟩
  rw[a7]at hr
  cases hq:rd 300 s with
  |
   none =>
   rw[hq]at hr
   obtain⟨c,d,hd,rfl⟩:=hr
   simp only[↓zq,zs,ae,zt,bC]
   refine⟨hd,c,d,hd,?_,fun h=>by cases h⟩
   have:((-1:Int)==(s.length:Int))=false:=by
    rw[beq_eq_false_iff_ne];omega
   rw[this];rfl
  |
   some q =>
   obtain⟨e,u⟩:=q
   rw[hq]at hr
   subst hr
   have hlt:=AG _ _ _ _ hq
   obtain⟨c,d,hd,he⟩:=DM e
   simp only[he,↓zq,zs,ae,zt,bC]
   cases u with
   |
    nil =>
    refine⟨hd,c,d,hd,?_,fun _=>⟨e,rfl,he.symm⟩⟩
    simp
   |
    cons b u =>
    simp only[aw]at hlt |-
    refine⟨hd,c,d,hd,?_,fun h=>by cases h⟩
    have:(((s.length-(u.length+1):Nat):Int)==(s.length:Int))=false:=by simp;omega
    rw[this];rfl
def xR(s:List UInt8):Option E:=match sw s with
 |none=>none
 |some e=>if kY e=true/\e.dr<=400 then some e else none
theorem HI(s:List UInt8):aq Tryz.prog 97 [.v (.string (mk s))] [] (iT (xR s) (xR s).isSome):=by
 refine Sw _ ?_
 unfold Q4
 refine aQ (MA s) (iT.ne _ _ (fun h=>h)) ?_
 rintro r o ⟨c,d,hd,rfl,hh⟩
 simp only[↓zq,zs,ae,zt,bC,xR]
 refine⟨hd,fun h=>?_,fun h=>?_⟩
 ·obtain⟨e,he,hce⟩:=hh h
  obtain⟨hok,hsz⟩:=pj he
  rw[he,hce]
  refine aj (Bq e hok) ?_
  simp only[↓zq,zs,ae]
  refine⟨fun hi=>?_,fun hi=>?_⟩
  ·refine aj (FO e hok (by omega)) ?_
   simp only[↓zq,zs,ae,hi]
   refine⟨c,d,hd,?_,?_⟩
   ·rw[hce]
    by_cases h4:e.dr<=400
    ·rw[if_pos h4];exact congrArg (fun b=>AV.cm [e.lF,.v (.bool b)]) (decide_eq_true (show ((e.dr:Nat):Int)<=400 by omega))
    ·rw[if_neg h4];exact congrArg (fun b=>AV.cm [e.lF,.v (.bool b)]) (decide_eq_false (show ¬((e.dr:Nat):Int)<=400 by omega))
   ·split
    ·exact fun _=>⟨e,rfl,hce⟩
    ·exact fun h=>by cases h
  ·refine⟨c,d,hd,?_,?_⟩
   ·rw[hce,if_neg (by rw[hi];simp)];rfl
   ·rw[if_neg (by rw[hi];simp)];exact fun h=>by cases h
 ·have hn:sw s=none:=by cases hq:sw s<;>simp[hq]at h |-
  rw[hn]
  exact⟨c,d,hd,rfl,fun h=>by cases h⟩
theorem qK{s:List UInt8}{e:E}(h:xR s=some e):sw s=some e/\kY e=true/\e.dr<=400:=by
 unfold xR at h
 split at h
 ·cases h
 ·split at h
  ·rename_i e' h1 h2;cases h;exact⟨h1,h2⟩
  ·cases h
end Go.Proofs.Trees
namespace Go.Proofs.Trees
open Go Go.VL
def cg:Ty->Bool
 | .name s=>dy s
 | .plus a b=>cg a||cg b
 | .times a b=>cg a||cg b
 | .rc a=>cg a
 |_=>false
theorem iN:∀(t:Ty) (out:List (List UInt8)),(bS t out).any dy=(out.any dy||cg t)
 |
  .name s,out=>by
  simp only[bS,rh,cg]
  split
  ·rename_i h
   cases hs:dy s with
   |false=>simp
   |true=>rw[Bool.or_true,cA];exact⟨s,h,hs⟩
  ·simp
 | .plus a b,out=>by simp only[bS,cg,iN a,iN b,Bool.or_assoc]
 | .times a b,out=>by simp only[bS,cg,iN a,iN b,Bool.or_assoc]
 | .rc a,out=>by simp only[bS,cg,iN a]
 | .zero,out=>by simp[bS,cg]
 | .one,out=>by simp[bS,cg]
 | .bound u,out=>by simp[bS,cg]
theorem uM(t:Ty):t.closed = !cg t:=by simp[Ty.closed,iN]
def pl:Ty->Bool
 | .name s=>decide (s.length<=1)
 | .plus a b=>pl a&&pl b
 | .times a b=>pl a&&pl b
 | .rc a=>false
 |_=>true
theorem mG{lo hi:Nat}{s:List UInt8}(h:named lo hi s=true):∃c r,s=c::r/\lo<=c.toNat/\c.toNat<=hi:=by
 cases s with
 |nil=>cases h
 |cons c r=>simp only[named,aA,decide_eq_true_eq]at h;exact⟨c,r,rfl,by omega,by omega⟩
theorem gf{x a b:E}{ar:List (List UInt8)}{t:Ty}(hx:x.at=[43])(h:cZ (.list [x,a,b]) ar=some t):∃t1 t2,cZ a ar=some t1/\cZ b ar=some t2/\t=.plus t1 t2:=by
 rw[l5 ar hx]at h
 split at h
 ·rename_i t1 t2 e1 e2;cases h;exact⟨t1,t2,e1,e2,rfl⟩
 ·cases h
theorem fH{x a b:E}{ar:List (List UInt8)}{t:Ty}(hx:x.at=[42])(h:cZ (.list [x,a,b]) ar=some t):∃t1 t2,cZ a ar=some t1/\cZ b ar=some t2/\t=.times t1 t2:=by
 rw[kT ar hx]at h
 split at h
 ·rename_i t1 t2 e1 e2;cases h;exact⟨t1,t2,e1,e2,rfl⟩
 ·cases h
theorem dK{x a b:E}{ar:List (List UInt8)}{t:Ty}(hx:x.at=[114,101,99])(h:cZ (.list [x,a,b]) ar=some t):∃t1,dy a.at=true/\cZ b (ar++[a.at])=some t1/\t=.rc t1:=by
 rw[nJ ar hx]at h
 split at h
 ·rename_i hl
  split at h
  ·rename_i t1 e1;cases h;exact⟨t1,hl,e1,rfl⟩
  ·cases h
 ·cases h
theorem vm{s:List UInt8}:sr s=match xR s with|none=>none|some e=>cZ e []:=by
 unfold sr xR
 cases he:sw s with
 |none=>rfl
 |
  some e =>
  have hs:=jC e []
  simp only
  cases ht:cZ e []with
  |
   none =>
   rw[ht]at hs
   rw[if_neg (by rw[<-hs];simp)]
  |
   some t =>
   rw[ht]at hs
   have ha:=kS e [] t ht
   by_cases h4:e.dr<=400
   ·rw[if_pos ⟨hs.symm,h4⟩];dsimp only;rw[if_neg (by omega)];exact ht.symm
   ·rw[if_neg (fun h=>h4 h.2)];dsimp only;rw[if_pos (by omega)]
end Go.Proofs.Trees
namespace Go.Proofs.Trees
open Go Go.VL
def pure:Ty->Bool
 | .zero=>true
 | .one=>true
 | .name s=>(s==[120])||(s==[121])||(s==[122])
 | .plus a b=>pure a&&pure b
 | .times a b=>pure a&&pure b
 |_=>false
def Nh(v:Nat):Option Nat:=if v<=1000000000 then some v else none
def KL(n:Nat):Ty->Option Nat
 | .zero=>some 0
 | .one=>some 1
 | .name _=>some n
 | .plus a b=>match KL n a,KL n b with|some x,some y=>Nh (x+y)|_,_=>none
 | .times a b=>match KL n a,KL n b with|some x,some y=>Nh (x*y)|_,_=>none
 |_=>none
def PL(x:Option Nat):AV->List Ob->Prop:=fun r o=>∃v:Int,r=.cm [.v (.int .i64 v),.v (.bool x.isSome)]/\∀c,x=some c->v=(c:Int)
theorem PL.ne(x:Option Nat):∃r o,PL x r o:=by
 cases x with
 |none=>exact⟨_,[],0,rfl,fun c h=>by cases h⟩
 |some c=>exact⟨_,[],(c:Int),rfl,fun c' h=>by cases h;rfl⟩
end Go.Proofs.Trees
namespace Go.Proofs.Trees
open Go Go.VL Go.RowKit
abbrev dd(n:Nat):List UInt8:=Lib.decDigits n
theorem fg{k:Nat}(h:k<10):dd k=[bu (48+k)]:=by rw[dd,Lib.decDigits,dif_pos h]
theorem gl{k:Nat}(h:¬k<10):dd k=dd (k/10)++[bu (48+k%10)]:=by rw[dd,Lib.decDigits,dif_neg h]
theorem nW:∀(n k:Nat),k<n->(dd k).length<=k+1
 |0,k,h=>by omega
 |
  n+1,k,h=>by
  by_cases h1:k<10
  ·rw[fg h1];simp
  ·rw[gl h1]
   have:=nW n (k/10) (by omega)
   simp only[an,aw,aE];omega
theorem Af(d:Nat)(h:d<10):(Value.int .u8 (IntKind.wrap .u8 (IntKind.wrap .i64 (48+(d:Int)))))=.int .u8 ((bu (48+d)).toNat:Int):=by
 have:d=0\/d=1\/d=2\/d=3\/d=4\/d=5\/d=6\/d=7\/d=8\/d=9:=by omega
 rcases this with rfl|rfl|rfl|rfl|rfl|rfl|rfl|rfl|rfl|rfl<;>rfl
theorem rH(b:UInt8):bytesOf [[.v (.int .u8 (b.toNat:Int))]]=[b]:=by simp[bytesOf,vQ]
theorem lX(b:UInt8):j8 [[.v (.int .u8 (b.toNat:Int))]]:=⟨rfl,(mq _ _).mpr trivial,trivial⟩
theorem A6:∀(n k:Nat),k<n->k<1000000000->aq Tryz.prog 136 [.v (.int .i64 (k:Int))] [] (bP (.v (.string (mk (dd k)))))
 |0,k,h,_=>by omega
 |
  n+1,k,h,hk=>by
  refine S4 _ ?_
  simp only[P0,↓zq,zs,ae,bP]
  refine⟨fun h=>by omega,fun _=>⟨fun h=>by omega,fun _=>⟨fun h1=>?_,fun h1=>⟨by omega,?_⟩⟩⟩⟩
  ·rw[Af k (by omega)]
   refine⟨lX _,?_⟩
   rw[rH,fg (by omega)];rfl
  ·have e1:IntKind.wrap .i64 (Int.tdiv (k:Int) 10)=((k/10:Nat):Int):=by
    rw[show Int.tdiv (k:Int) 10=((k/10:Nat):Int) from (Int.ofNat_tdiv k 10).symm,wrap64 _ (by omega) (by omega)]
   have e2:dR (k:Int) 10=((k%10:Nat):Int):=(Int.ofNat_tmod k 10).symm
   rw[e1,e2,Af (k%10) (by omega)]
   refine aj (A6 n (k/10) (by omega) (by omega)) ?_
   have hl:=nW (k+1) (k/10) (by omega)
   simp only[↓zq,zs,ae,zt,rH]
   have h9:(k:Int)<1000000000:=by omega
   refine⟨by omega,lX _,?_,?_⟩
   ·show (mk (dd (k/10))).size+(mk [bu (48+k%10)]).size<=_
    rw[cR,cR];simp;omega
   ·show AV.v (.string (mk (dd (k/10))++mk [bu (48+k%10)]))=_
    rw[lN,gl (k:=k) (by omega)]
theorem Bh(s:List UInt8)(d:AV)(hd:LK.sl.has d)(h:s≠[]):aq Tryz.prog 54 [.agg [.v (.string (mk s)),d]] [] (bP (.v (.string (mk [])))):=by
 refine Jq _ _ hd ?_
 simp only[E9,↓zq,zs,ae,zt,bP]
 exact⟨fun _=>trivial,fun h'=>absurd h' h⟩
theorem EF(e:E):AV.agg [.v (.string ((e.lF.cs.getD 0 .any).toStr)),e.lF.cs.getD 1 .any]=e.lF:=by cases e<;>rfl
mutual
def fD:E->List UInt8
 | .atom s=>s
 | .list []=>[40,41]
 | .list (e::l)=>40::(fD e++(eF l++[41]))
def eF:List E->List UInt8
 |[]=>[]
 |e::l=>32::(fD e++eF l)
end
theorem AR:∀(l:List E) (i:Nat) (h:i<l.length),eF (l.drop i)=32::(fD l[i]++eF (l.drop (i+1))):=by
 intro l i h
 rw[aM h,eF]
theorem MO(l:List E)(hll:l.length<1000000000000)(ih:∀i (h:i<l.length),aq Tryz.prog 60 [(l[i]).lF] [] (bP (.v (.string (mk (fD l[i])))))) :
 ∀(k i:Nat) (out:List UInt8),i+k=l.length->1<=i->out.length+(eF (l.drop i)).length<=1000000000000->Ds [.v (.string (mk out)),.v (.int .i64 (i:Int))] [.cells [.v (.string (mk [])),.sl (E.bE l)]] (gS 1 [.v (.string (mk (out++eF (l.drop i))))] [])
 |
  0,i,out,hi,h1,hn=>by
  refine Gg _ _ _ _ ?_
  simp only[Cd,↓zq,zs,ae,eC]
  have:l.drop i=[]:=bY (by omega)
  refine⟨fun h=>by omega,fun _=>?_⟩
  simp[gS,this,eF]
 |
  k+1,i,out,hi,h1,hn=>by
  have hlt:i<l.length:=by omega
  have hd:=AR l i hlt
  rw[hd]at hn
  simp only[aw,an]at hn
  refine Gg _ _ _ _ ?_
  simp only[Cd,↓zq,zs,ae,zt,eC,kj l i hlt,gO,jt,jH,au]
  refine⟨fun _=>⟨fun _=>⟨by omega,by omega,?_⟩,fun h=>by omega⟩,fun h=>by omega⟩
  refine aj (ih i hlt) ?_
  simp only[↓zq,zs,ae,zt]
  refine⟨by simp;omega,?_⟩
  rw[bD i (by omega),hd]
  have:=MO l hll ih k (i+1) (out++[32]++fD l[i]) (by omega) (by omega) (by simp;omega)
  simpa using this
theorem Ac:∀(l:List E) (i:Nat) (h:i<l.length),(fD l[i]).length<=(eF l).length
 |e::l,0,_=>by simp only[eF,List.getElem_cons_zero,aw,an];omega
 |e::l,i+1,h=>by have:=Ac l i (by simpa using h);simp only[eF,List.getElem_cons_succ,aw,an];omega
theorem sG:∀l:List E,l.length<=(eF l).length
 |[]=>by simp[eF]
 |e::l=>by have:=sG l;simp only[eF,aw,an];omega
theorem E3:∀(n:Nat) (e:E),e.sz<n->e.ok->(fD e).length<=900000000000->aq Tryz.prog 60 [e.lF] [] (bP (.v (.string (mk (fD e)))))
 |0,e,hn,_,_=>by omega
 |
  n+1,.atom s,hn,hok,hl=>by
  refine Kh _ _ ((bm).mpr trivial) ?_
  have hne:s≠[]:=hok
  simp only[FE,↓zq,zs,ae,zt,bP]
  exact⟨fun _=>rfl,fun h=>absurd h hne⟩
 |
  n+1,.list [],hn,hok,hl=>by
  refine Kh _ _ ((cc _).mpr trivial) ?_
  simp only[FE,↓zq,zs,ae,zt,bP]
  refine⟨fun h=>absurd rfl h,fun _=>?_⟩
  have h1:Ds [.v (.string (mk [40])),.v (.int .i64 0)] [.cells [.v (.string (mk [])),.sl (E.bE [])]] (gS 1 [.v (.string (mk [40]))] []):=by
   refine Gg _ _ _ _ ?_
   simp[Cd,↓zq,zs,ae,E.bE,gS]
  refine cC h1 ?_
  simp only[↓zq,zs,ae,zt]
  exact⟨by simp,rfl⟩
 |
  n+1,.list (x::l),hn,hok,hl=>by
  refine Kh _ _ ((cc _).mpr trivial) ?_
  simp only[E.sz,E.jZ]at hn
  simp only[fD,aw,an,aE]at hl
  have h2:=sG l
  simp only[FE,↓zq,zs,ae,zt,bP]
  refine⟨fun h=>absurd rfl h,fun _=>?_⟩
  have hL:Ds [.v (.string (mk [40])),.v (.int .i64 0)] [.cells [.v (.string (mk [])),.sl (E.bE (x::l))]] (gS 1 [.v (.string (mk ([40]++fD x++eF l)))] []):=by
   refine Gg _ _ _ _ ?_
   simp only[Cd,E.bE,Int.toNat_zero,↓zq,zs,ae,zt,eC,gO,jt,jH,au]
   refine⟨fun _=>⟨fun h=>by omega,fun _=>⟨by omega,?_⟩⟩,fun h=>by omega⟩
   refine aj (E3 n x (by omega) hok.1 (by omega)) ?_
   simp only[↓zq,zs,ae,zt]
   refine⟨by simp;omega,?_⟩
   have:=MO (x::l) (by simp;omega) (fun i hi=>by
    have h3:=vP (x::l) i hi
    simp only[E.jZ]at h3
    refine E3 n _ (by omega) (wh _ i hi hok) ?_
    have h4:=Ac (x::l) i hi
    simp only[eF,aw,an]at h4
    omega) l.length 1 ([40]++fD x) (by simp;omega) (by omega) (by simp;omega)
   rw[show IntKind.wrap .i64 (0+1)=1 from rfl]
   simpa[E.bE]using this
  refine cC hL ?_
  simp only[↓zq,zs,ae,zt]
  refine⟨by simp;omega,?_⟩
  simp[fD]
theorem En(e:E)(h:e.ok)(hl:(fD e).length<=900000):aq Tryz.prog 60 [e.lF] [] (bP (.v (.string (mk (fD e))))):=E3 (e.sz+1) e (by omega) h (by omega)
mutual
def E.nd:E->Nat
 | .atom _=>1
 | .list []=>1
 | .list (_::l)=>1+E.wC l
def E.wC:List E->Nat
 |[]=>0
 |e::l=>e.nd+E.wC l
end
mutual
theorem DQ:∀e:E,e.nd<=e.sz
 | .atom s=>by simp[E.nd,E.sz]
 | .list []=>by simp[E.nd,E.sz,E.jZ]
 | .list (x::l)=>by have:=yP l;simp only[E.nd,E.sz,E.jZ];omega
theorem yP:∀l:List E,E.wC l<=E.jZ l
 |[]=>by simp[E.wC,E.jZ]
 |e::l=>by have:=DQ e;have:=yP l;simp only[E.wC,E.jZ];omega
end
theorem D2:∀(l:List E) (i:Nat) (h:i<l.length),E.wC (l.drop i)=(l[i]).nd+E.wC (l.drop (i+1)):=by
 intro l i h
 rw[aM h];rfl
theorem PZ(l:List E)(hl:E.wC l<1000000)(hll:l.length<1000000)(ih:∀i (h:i<l.length),aq Tryz.prog 59 [(l[i]).lF] [] (bP (.v (.int .i64 ((l[i]).nd:Int))))) :
 ∀(k i n:Nat),i+k=l.length->n+E.wC (l.drop i)<=1+E.wC l->Ce [.v (.int .i64 (n:Int)),.v (.int .i64 (i:Int))] [.cells [.v (.string (mk [])),.sl (E.bE l)]] (gS 1 [.v (.int .i64 ((n+E.wC (l.drop i):Nat):Int))] [])
 |
  0,i,n,hi,hn=>by
  refine E7 _ _ _ _ ?_
  simp only[Cm,↓zq,zs,ae,eC]
  have:l.drop i=[]:=bY (by omega)
  refine⟨fun h=>by omega,fun _=>?_⟩
  simp[gS,this,E.wC]
 |
  k+1,i,n,hi,hn=>by
  have hlt:i<l.length:=by omega
  refine E7 _ _ _ _ ?_
  simp only[Cm,↓zq,zs,ae,zt,eC,kj l i hlt,gO,jt,jH,au]
  refine⟨fun _=>⟨by omega,?_⟩,fun h=>by omega⟩
  refine aj (ih i hlt) ?_
  have h1:=D2 l i hlt
  simp only[↓zq,zs,ae]
  rw[bD i (by omega),wrap64 _ (by omega) (by omega)]
  have:=PZ l hl hll ih k (i+1) (n+(l[i]).nd) (by omega) (by omega)
  rw[h1,<-Nat.add_assoc]
  simpa using this
theorem P7:∀(n:Nat) (e:E),e.sz<n->e.sz<900000->aq Tryz.prog 59 [e.lF] [] (bP (.v (.int .i64 (e.nd:Int))))
 |0,e,hn,_=>by omega
 |
  n+1,.atom s,hn,hl=>by
  refine Lb _ _ ((bm).mpr trivial) ?_
  simp only[HH]
  have hL:Ce [.v (.int .i64 1),.v (.int .i64 1)] [.cells [.v (.string (mk s)),.v (.slice none 0 0)]] (gS 1 [.v (.int .i64 1)] []):=by
   refine E7 _ _ _ _ ?_
   simp[Cm,↓zq,zs,ae,gS]
  refine cC hL ?_
  simp[↓zq,zs,ae,bP,E.nd]
 |
  n+1,.list l,hn,hl=>by
  refine Lb _ _ ((cc _).mpr trivial) ?_
  simp only[E.sz]at hn hl
  simp only[HH]
  match l,hn,hl with
  |
   [],hn,hl =>
   have hL:Ce [.v (.int .i64 1),.v (.int .i64 1)] [.cells [.v (.string (mk [])),.sl (E.bE [])]] (gS 1 [.v (.int .i64 1)] []):=by
    refine E7 _ _ _ _ ?_
    simp[Cm,↓zq,zs,ae,gS,E.bE]
   refine cC hL ?_
   simp[↓zq,zs,ae,bP,E.nd]
  |
   x::l,hn,hl =>
   simp only[E.jZ]at hn hl
   have h1:=yP l
   have h2:=wi l
   have h0:=DQ x
   refine cC (PZ (x::l) (by simp only[E.wC];omega) (by simp;omega) (fun i hi=>?_) l.length 1 1 (by simp;omega) (by simp[E.wC])) ?_
   ·have:=vP (x::l) i hi
    simp only[E.jZ]at this
    exact P7 n _ (by omega) (by omega)
   ·simp[↓zq,zs,ae,E.nd,bP]
theorem Sc(e:E)(hl:e.sz<900000):aq Tryz.prog 59 [e.lF] [] (bP (.v (.int .i64 (e.nd:Int)))):=P7 (e.sz+1) e (by omega) hl
inductive Vl where
 |u
 |el (k:Nat)
 |l (v:Vl)
 |r (v:Vl)
 |f (v:Vl)
 |p (a b:Vl)
abbrev yp(k:Nat):List UInt8:=101::dd k
abbrev iV:AV:=.v (.pointer none)
def Vl.cJ:Vl->AV
 | .u=>.ptr [.v (.int .u8 117),.v (.string (mk [])),iV,iV]
 | .el k=>.ptr [.v (.int .u8 101),.v (.string (mk (yp k))),iV,iV]
 | .l v=>.ptr [.v (.int .u8 108),.v (.string (mk [])),v.cJ,iV]
 | .r v=>.ptr [.v (.int .u8 114),.v (.string (mk [])),v.cJ,iV]
 | .f v=>.ptr [.v (.int .u8 102),.v (.string (mk [])),v.cJ,iV]
 | .p a b=>.ptr [.v (.int .u8 112),.v (.string (mk [])),a.cJ,b.cJ]
def Vl.cI:Vl->E
 | .u=>.atom [117]
 | .el k=>.atom (yp k)
 | .l v=>.list [.atom [108],v.cI]
 | .r v=>.list [.atom [114],v.cI]
 | .f v=>.list [.atom [102],v.cI]
 | .p a b=>.list [.atom [112],a.cI,b.cI]
def Vl.nodes:Vl->Nat
 | .l v=>1+v.nodes
 | .r v=>1+v.nodes
 | .f v=>1+v.nodes
 | .p a b=>1+a.nodes+b.nodes
 |_=>1
def Vl.fy(n:Nat):Vl->Prop
 | .el k=>k<n
 | .l v=>v.fy n
 | .r v=>v.fy n
 | .f v=>v.fy n
 | .p a b=>a.fy n/\b.fy n
 | .u=>True
abbrev Vl.cf(v:Vl):List UInt8:=fD v.cI
theorem aP(v:Vl):LK.has .ptr v.cJ=True:=by cases v<;>simp[Vl.cJ,cn]
theorem fB(v:Vl):v.cJ.isNil=false:=by cases v<;>rfl
theorem jh:∀v:Vl,v.cI.ok
 | .u=>by simp[Vl.cI,E.ok]
 | .el k=>by simp[Vl.cI,E.ok]
 | .l v=>⟨by simp[E.ok],jh v,trivial⟩
 | .r v=>⟨by simp[E.ok],jh v,trivial⟩
 | .f v=>⟨by simp[E.ok],jh v,trivial⟩
 | .p a b=>⟨by simp[E.ok],jh a,jh b,trivial⟩
theorem oN:∀v:Vl,v.cI.nd=v.nodes
 | .u=>rfl
 | .el k=>rfl
 | .l v=>by simp[Vl.cI,E.nd,E.wC,Vl.nodes,oN v]
 | .r v=>by simp[Vl.cI,E.nd,E.wC,Vl.nodes,oN v]
 | .f v=>by simp[Vl.cI,E.nd,E.wC,Vl.nodes,oN v]
 | .p a b=>by simp[Vl.cI,E.nd,E.wC,Vl.nodes,oN a,oN b,Nat.add_assoc]
theorem eZ:∀v:Vl,v.fy 100->v.cf.length<=200*v.nodes
 | .u,_=>by simp[Vl.cf,Vl.cI,fD,Vl.nodes]
 |
  .el k,h=>by
  have h':k<100:=h
  have:=nW 1000 k (by omega)
  simp only[Vl.cf,Vl.cI,fD,Vl.nodes,aw];omega
 | .l v,h=>by have:=eZ v h;simp only[Vl.cf,Vl.cI,fD,eF,Vl.nodes,aw,an,aE]at this |-;omega
 | .r v,h=>by have:=eZ v h;simp only[Vl.cf,Vl.cI,fD,eF,Vl.nodes,aw,an,aE]at this |-;omega
 | .f v,h=>by have:=eZ v h;simp only[Vl.cf,Vl.cI,fD,eF,Vl.nodes,aw,an,aE]at this |-;omega
 | .p a b,h=>by have:=eZ a h.1;have:=eZ b h.2;simp only[Vl.cf,Vl.cI,fD,eF,Vl.nodes,aw,an,aE]at *;omega
theorem BQ(a b:AV)(h:LK.ptr.has a)(h':LK.ptr.has b):aq Tryz.prog 112 [a,b] [] (bP (.ptr [.v (.int .u8 112),.v (.string (mk [])),a,b])):=by
 refine TP _ _ h h' ?_
 simp[N9,↓zq,zs,ae,bP]
theorem cB(v:Vl):1<=v.nodes:=by cases v<;>simp[Vl.nodes]<;>omega
theorem GK:∀(v:Vl),v.nodes<1000000->aq Tryz.prog 84 [v.cJ] [] (bP (.v (.int .i64 (v.nodes:Int))))
 | .u,h=>by refine BM _ ((aP _).mpr trivial) ?_;simp[yT,Vl.cJ,↓zq,zs,ae,bP,Vl.nodes]
 | .el k,h=>by refine BM _ ((aP _).mpr trivial) ?_;simp[yT,Vl.cJ,↓zq,zs,ae,bP,Vl.nodes]
 |
  .l v,h=>by
  simp only[Vl.nodes]at h
  refine BM _ ((aP _).mpr trivial) ?_
  simp only[yT,Vl.cJ,↓zq,zs,ae,aP,fB]
  refine⟨by omega,fun _=>⟨by omega,?_⟩,fun h=>(by cases h)⟩
  refine aj (GK v (by omega)) ?_
  simp only[↓zq,zs,ae,bP,Vl.nodes]
  rw[wrap64 _ (by omega) (by omega)]
  simp
 |
  .r v,h=>by
  simp only[Vl.nodes]at h
  refine BM _ ((aP _).mpr trivial) ?_
  simp only[yT,Vl.cJ,↓zq,zs,ae,aP,fB]
  refine⟨by omega,fun _=>⟨by omega,?_⟩,fun h=>(by cases h)⟩
  refine aj (GK v (by omega)) ?_
  simp only[↓zq,zs,ae,bP,Vl.nodes]
  rw[wrap64 _ (by omega) (by omega)]
  simp
 |
  .f v,h=>by
  simp only[Vl.nodes]at h
  refine BM _ ((aP _).mpr trivial) ?_
  simp only[yT,Vl.cJ,↓zq,zs,ae,aP,fB]
  refine⟨by omega,fun _=>⟨by omega,?_⟩,fun h=>(by cases h)⟩
  refine aj (GK v (by omega)) ?_
  simp only[↓zq,zs,ae,bP,Vl.nodes]
  rw[wrap64 _ (by omega) (by omega)]
  simp
 |
  .p a b,h=>by
  simp only[Vl.nodes]at h
  refine BM _ ((aP _).mpr trivial) ?_
  simp only[yT,Vl.cJ,↓zq,zs,ae,aP,fB]
  refine⟨by omega,fun _=>⟨by omega,?_⟩,fun h=>(by cases h)⟩
  refine aj (GK a (by omega)) ?_
  simp only[↓zq,zs,ae,aP,fB]
  rw[wrap64 (1+(a.nodes:Int)) (by omega) (by omega)]
  refine⟨by omega,fun _=>⟨by omega,?_⟩,fun h=>(by cases h)⟩
  refine aj (GK b (by omega)) ?_
  simp only[↓zq,zs,ae,bP,Vl.nodes]
  rw[wrap64 _ (by omega) (by omega)]
  congr 2
end Go.Proofs.Trees
namespace Go.Proofs.Trees
open Go Go.VL Go.RowKit
def Bk:List UInt8->Nat->Option Nat
 |[],n=>some n
 |b::r,n=>if iP b=true then Bk r (10*n+(b.toNat-48))else none
def gk(s:List UInt8):Option Nat :=
 if s.length=2\/s.length=3 then(if s.getD 0 0=101/\¬(s.length=3/\s.getD 1 0=48)then Bk (s.drop 1) 0 else none)else none
def Cq(s:List UInt8):Int:=match gk s with|some k=>(k:Int)|none=>-1
theorem PX(s:List UInt8)(hs:s.length<=3):∀(k i n:Nat),i+k=s.length->1<=i->(n+1)*10 ^ k<=1000->Hd [.v (.string (mk s)),.v (.int .i64 (n:Int)),.v (.int .i64 (i:Int))] []
 (oB (match Bk (s.drop i) n with|some m=>(1,[.v (.int .i64 (m:Int))],[])|none=>(2,[.v (.int .i64 (-1))],[])))
 |
  0,i,n,hi,h1,hn=>by
  refine LU _ _ _ ?_
  have hd:s.drop i=[]:=bY (by omega)
  simp only[H0,↓zq,zs,ae,zt,hd,Bk]
  exact⟨fun h=>by omega,fun _=>by first|trivial|rfl⟩
 |
  k+1,i,n,hi,h1,hn=>by
  have hlt:i<s.length:=by omega
  refine LU _ _ _ ?_
  rw[drop_cons hlt,Bk]
  simp only[H0,↓zq,zs,ae,zt,mZ s i hlt]
  generalize s.getD i 0=b
  have hb:=b.toNat_lt
  refine⟨fun _=>⟨by omega,fun h48=>?_,fun h48=>⟨by omega,fun h57=>?_,fun h57=>⟨by omega,?_⟩⟩⟩,fun h=>by omega⟩
  ·have:iP b=false:=by simp only[iP,decide_eq_false_iff_not];omega
   rw[this];rfl
  ·have:iP b=false:=by simp only[iP,decide_eq_false_iff_not];omega
   rw[this];rfl
  ·have:iP b=true:=by simp only[iP,decide_eq_true_eq];omega
   rw[if_pos this]
   have hk:k=0\/k=1:=by omega
   have hn2:n*10<=1000:=by
    rcases hk with rfl|rfl<;>simp at hn<;>omega
   have e8:IntKind.wrap .u8 ((b.toNat:Int)-48)=((b.toNat-48:Nat):Int):=by
    have:b.toNat=48\/b.toNat=49\/b.toNat=50\/b.toNat=51\/b.toNat=52\/b.toNat=53\/b.toNat=54\/b.toNat=55\/b.toNat=56\/b.toNat=57:=by omega
    rcases this with h|h|h|h|h|h|h|h|h|h<;>rw[h]<;>rfl
   rw[e8,bD i (by omega),wrap64 ((b.toNat-48:Nat):Int) (by omega) (by omega),wrap64 (10*(n:Int)) (by omega) (by omega),wrap64 _ (by omega) (by omega)]
   have e:(10*(n:Int)+((b.toNat-48:Nat):Int))=((10*n+(b.toNat-48):Nat):Int):=by omega
   rw[e]
   exact PX s hs k (i+1) _ (by omega) (by omega) (by rcases hk with rfl|rfl<;>simp at hn |-<;>omega)
theorem KV(s:List UInt8):aq Tryz.prog 102 [.v (.string (mk s))] [] (bP (.v (.int .i64 (Cq s)))):=by
 refine Ux _ ?_
 unfold Pu
 refine aj (C9 _ _ _) ?_
 simp only[↓zq,zs,ae,zt,Eo,bP]
 have hL:∀(Q:Nat->List AV->List Ob->Prop),(s.length=2\/s.length=3)->s.getD 0 0=101->¬(s.length=3/\s.getD 1 0=48)->(Q 0 [.v (.int .i64 (Cq s))] []) ->
  fC Tryz.prog 49 (.loop EI Cb [.v (.string (mk s)),.v (.int .i64 0),.v (.int .i64 1)] [] (fun y2 q2=>.ai (LK.has (.int .i64) (y2.headD .any))<|.done 0 [.v (.int .i64 ((y2.headD .any).toInt))] []) (fun y2 q2=>.ai (LK.has (.int .i64) (y2.headD .any))<|.done 0 [.v (.int .i64 ((y2.headD .any).toInt))] [])) Q:=by
  intro Q hl h0 h1 hQ
  have e:gk s=Bk (s.drop 1) 0:=by rw[gk,if_pos hl,if_pos ⟨h0,h1⟩]
  refine eJ (PX s (by omega) (s.length-1) 1 0 (by omega) (by omega) (by rcases hl with h|h<;>rw[h]<;>decide)) (fun ys o e'=>?_) (fun ys o e'=>?_)
  ·cases hq:Bk (s.drop 1) 0<;>rw[hq]at e'<;>cases e'
   rw[hq]at e
   simp only[Cq,e]at hQ
   simp only[↓zq,zs,ae];exact hQ
  ·cases hq:Bk (s.drop 1) 0<;>rw[hq]at e'<;>cases e'
   rw[hq]at e
   simp only[Cq,e]at hQ
   simp only[↓zq,zs,ae];exact hQ
 have hz:∀{i:Nat},i<s.length->bt (mk s) (i:Int)=((s.getD i 0).toNat:Int):=fun h=>mZ s _ h
 refine⟨fun h=>?_,fun h=>⟨?_,fun h0=>?_,fun h0=>⟨fun h3=>⟨by omega,fun h1=>?_,fun h1=>?_⟩,fun h3=>?_⟩⟩⟩
 ·have h':¬(2<=(s.length:Int)/\(s.length:Int)<=3):=by simpa using h
  rw[Cq,gk,if_neg (by omega)]
 ·have h':2<=(s.length:Int)/\(s.length:Int)<=3:=by simpa using h
  omega
 ·have h':2<=(s.length:Int)/\(s.length:Int)<=3:=by simpa using h
  have e0:=hz (i:=0) (by omega)
  simp only[Int.ofNat_eq_natCast,Int.cast_ofNat_Int]at e0
  rw[e0]at h0
  rw[Cq,gk,if_pos (by omega),if_neg]
  rintro⟨e,_⟩
  rw[e]at h0;exact h0 rfl
 ·have h':2<=(s.length:Int)/\(s.length:Int)<=3:=by simpa using h
  have e1:=hz (i:=1) (by omega)
  simp only[Int.ofNat_eq_natCast,Int.cast_ofNat_Int]at e1
  rw[e1]at h1
  rw[Cq,gk,if_pos (by omega),if_neg]
  rintro⟨_,e⟩
  refine e ⟨by omega,?_⟩
  rw[<-UInt8.toNat_inj];show (s.getD 1 0).toNat=48;omega
 ·have h':2<=(s.length:Int)/\(s.length:Int)<=3:=by simpa using h
  have e0:=hz (i:=0) (by omega)
  have e1:=hz (i:=1) (by omega)
  simp only[Int.ofNat_eq_natCast,Int.cast_ofNat_Int]at e0 e1
  rw[e0]at h0;rw[e1]at h1
  refine hL _ (by omega) ?_ ?_ ⟨rfl,rfl⟩
  ·rw[<-UInt8.toNat_inj];show (s.getD 0 0).toNat=101;omega
  ·rintro⟨_,e⟩;rw[e]at h1;exact h1 rfl
 ·have h':2<=(s.length:Int)/\(s.length:Int)<=3:=by simpa using h
  have e0:=hz (i:=0) (by omega)
  simp only[Int.ofNat_eq_natCast,Int.cast_ofNat_Int]at e0
  rw[e0]at h0
  refine hL _ (by omega) ?_ ?_ ⟨rfl,rfl⟩
  ·rw[<-UInt8.toNat_inj];show (s.getD 0 0).toNat=101;omega
  ·rintro⟨e,_⟩;omega
theorem p6:∀(l:List UInt8) (n:Nat),(Bk l n).isSome=l.all iP
 |[],n=>rfl
 |
  b::l,n=>by
  rw[Bk]
  cases hb:iP b with
  |true=>rw[if_pos rfl,p6 l];simp[hb]
  |false=>rw[if_neg (by simp)];simp[hb]
theorem Qx(s:List UInt8):aq Tryz.prog 128 [.v (.string (mk s))] [] (bP (.v (.bool (gk s).isSome))):=by
 refine SM _ ?_
 simp only[Pd,↓zq,zs,ae,zt,bP]
 have hz:∀{i:Nat},i<s.length->bt (mk s) (i:Int)=((s.getD i 0).toNat:Int):=fun h=>mZ s _ h
 refine⟨fun h=>?_,fun h=>⟨fun h3=>?_,fun h3=>?_⟩⟩
 ·rw[gk,if_neg (by omega)];rfl
 ·rw[gk,if_neg (by omega)];rfl
 ·have e0:=hz (i:=0) (by omega)
  have e1:=hz (i:=1) (by omega)
  simp only[Int.ofNat_eq_natCast,Int.cast_ofNat_Int]at e0 e1
  rw[e0,e1]
  have hx:s.drop (bK 1)=s.drop 1:=rfl
  refine⟨by omega,fun h0=>?_,fun h0=>⟨by omega,?_⟩⟩
  ·rw[gk,if_pos (by omega),if_neg]
   ·rfl
   ·rintro⟨e,_⟩;rw[e]at h0;exact h0 rfl
  ·rw[hx]
   refine aj (NK (s.drop 1) Ko (by simp;omega) (by decide) (by decide)) ?_
   simp only[↓zq,zs,ae,zt]
   have h101:s.getD 0 0=101:=by rw[<-UInt8.toNat_inj];show (s.getD 0 0).toNat=101;omega
   have hall:Lib.trimS (s.drop 1) Ko=[]↔(s.drop 1).all iP=true:=by
    rw[uf]
    have:(fun x=>Ko.contains x)=iP:=funext xM
    rw[this]
   refine⟨fun ht=>?_,fun ht=>⟨fun h2=>?_,fun h2=>⟨by omega,?_⟩⟩⟩
   ·have:(s.drop 1).all iP=false:=by
     cases hq:(s.drop 1).all iP with
     |false=>rfl
     |true=>exact absurd (hall.2 hq) ht
    rw[gk,if_pos (by omega)]
    split
    ·rw[p6,this]
    ·rfl
   ·have hq:=hall.1 ht
    rw[gk,if_pos (by omega),if_pos ⟨h101,by omega⟩,p6,hq]
   ·have hq:=hall.1 ht
    rw[gk,if_pos (by omega)]
    by_cases h48:s.getD 1 0=48
    ·rw[if_neg (by rintro⟨_,e⟩;exact e ⟨by omega,h48⟩),h48];rfl
    ·rw[if_pos ⟨h101,fun e=>h48 e.2⟩,p6,hq]
     have:¬((s.getD 1 0).toNat:Int)=48:=fun e=>h48 (by rw[<-UInt8.toNat_inj];show (s.getD 1 0).toNat=48;omega)
     rw[bne_iff_ne.2 this]
theorem uF{s:List UInt8}{k:Nat}(h:gk s=some k):s=yp k/\k<100:=by
 have key1:∀a:Fin 256,iP (bu a.val)=true->Bk [bu a.val] 0=some ((bu a.val).toNat-48)/\(bu a.val).toNat-48<10/\[bu a.val]=[bu (48+((bu a.val).toNat-48))]:=by decide +kernel
 unfold gk at h
 split at h
 ·rename_i hl
  split at h
  ·rename_i hh
   obtain⟨h0,h1⟩:=hh
   rcases hl with hl|hl
   ·match s,hl with
    |
     [c,a],_ =>
     simp only[bF]at h0
     subst h0
     simp only[List.drop_succ_cons,a7,Bk]at h
     split at h
     ·rename_i ha
      have:=key1 ⟨a.toNat,a.toNat_lt⟩ (by simpa using ha)
      simp only[UInt8.ofNat_toNat]at this
      cases h
      refine⟨?_,by omega⟩
      rw[yp,fg (by omega)]
      simp only[Nat.mul_zero,a8]
      rw[<-this.2.2]
     ·cases h
   ·match s,hl with
    |
     [c,a,b],_ =>
     simp only[bF,List.getD_cons_succ,aw,aE,true_and]at h0 h1
     subst h0
     simp only[List.drop_succ_cons,a7,Bk]at h
     split at h
     ·rename_i ha
      split at h
      ·rename_i hb
       have k1:=key1 ⟨a.toNat,a.toNat_lt⟩ (by simpa using ha)
       have k2:=key1 ⟨b.toNat,b.toNat_lt⟩ (by simpa using hb)
       simp only[UInt8.ofNat_toNat]at k1 k2
       have ha':48<=a.toNat/\a.toNat<=57:=by simpa[iP]using ha
       have hb':48<=b.toNat/\b.toNat<=57:=by simpa[iP]using hb
       have h48:a.toNat≠48:=fun e=>h1 (by rw[<-UInt8.toNat_inj];simpa using e)
       cases h
       simp only[Nat.mul_zero,a8]
       refine⟨?_,by omega⟩
       rw[yp,gl (by omega),fg (by omega)]
       have e1:(10*(a.toNat-48)+(b.toNat-48))/10=a.toNat-48:=by omega
       have e2:(10*(a.toNat-48)+(b.toNat-48))%10=b.toNat-48:=by omega
       rw[e1,e2,<-k1.2.2,<-k2.2.2];rfl
      ·cases h
     ·cases h
  ·cases h
 ·cases h
theorem xj(k:Nat)(h:k<100):gk (yp k)=some k:=by
 have e:∀k,k<100->dd k=if k<10 then [bu (48+k)]else [bu (48+k/10),bu (48+k%10)]:=by
  intro k hk
  by_cases h1:k<10
  ·rw[fg h1,if_pos h1]
  ·rw[gl h1,fg (by omega),if_neg h1];rfl
 have key:∀k:Fin 100,gk (101::(if k.val<10 then [bu (48+k.val)]else [bu (48+k.val/10),bu (48+k.val%10)]))=some k.val:=by decide +kernel
 rw[yp,e k h];exact key ⟨k,h⟩
theorem JC(k:Nat)(h:k<100):Cq (yp k)=(k:Int):=by rw[Cq,xj k h]
def Ae:E->Bool
 | .atom s=>(s==[117])||(gk s).isSome
 | .list [x,a]=>((x.at==[108])||(x.at==[114])||(x.at==[102]))&&Ae a
 | .list [x,a,b]=>(x.at==[112])&&(Ae a&&Ae b)
 | .list _=>false
def gh:E->Option Vl
 | .atom s=>if s=[117]then some .u else match gk s with|some k=>some (.el k)|none=>none
 |
  .list [x,a]=>match gh a with
  |none=>none
  |some v=>if x.at=[108]then some (.l v)else if x.at=[114]then some (.r v)else if x.at=[102]then some (.f v)else none
 | .list [x,a,b]=>if x.at=[112]then(match gh a,gh b with|some v,some w=>some (.p v w)|_,_=>none)else none
 | .list _=>none
theorem qj:∀e:E,(gh e).isSome=Ae e
 |
  .atom s=>by
  simp only[gh,Ae]
  by_cases h:s=[117]
  ·simp[h]
  ·rw[if_neg h];cases gk s<;>simp[h]
 | .list []=>rfl
 | .list [_]=>rfl
 |
  .list [x,a]=>by
  have ha:=qj a
  rw[gh,Ae,<-ha]
  cases gh a with
  |none=>simp
  |
   some v =>
   by_cases h1:x.at=[108]
   ·simp[h1]
   ·by_cases h2:x.at=[114]
    ·simp[h2]
    ·by_cases h3:x.at=[102]
     ·simp[h3]
     ·simp[h1,h2,h3]
 |
  .list [x,a,b]=>by
  have ha:=qj a
  have hb:=qj b
  rw[gh,Ae,<-ha,<-hb]
  by_cases h1:x.at=[112]
  ·rw[if_pos h1,h1];cases gh a<;>cases gh b<;>rfl
  ·simp[h1]
 | .list (_::_::_::_::_)=>rfl
theorem lr{x:E}{w:List UInt8}(h:x.at=w)(hw:w≠[]):x=.atom w:=by
 cases x with
 |atom s=>exact congrArg E.atom h
 |list l=>exact absurd h.symm hw
theorem me:∀(e:E) (v:Vl),gh e=some v->v.cI=e/\v.fy 100
 |
  .atom s,v,h=>by
  simp only[gh]at h
  split at h
  ·rename_i h1;cases h;exact⟨by rw[h1];rfl,trivial⟩
  ·split at h
   ·rename_i k hk
    cases h
    obtain⟨h1,h2⟩:=uF hk
    exact⟨by rw[h1];rfl,h2⟩
   ·cases h
 | .list [],_,h=>by cases h
 | .list [_],_,h=>by cases h
 | .list (_::_::_::_::_),_,h=>by cases h
 |
  .list [x,a],v,h=>by
  rw[gh]at h
  split at h
  ·cases h
  ·rename_i w hw
   obtain⟨h1,h2⟩:=me a w hw
   split at h
   ·rename_i hx;cases h;rw[lr hx (by simp)];exact⟨by rw[Vl.cI,h1],h2⟩
   ·split at h
    ·rename_i hx;cases h;rw[lr hx (by simp)];exact⟨by rw[Vl.cI,h1],h2⟩
    ·split at h
     ·rename_i hx;cases h;rw[lr hx (by simp)];exact⟨by rw[Vl.cI,h1],h2⟩
     ·cases h
 |
  .list [x,a,b],v,h=>by
  rw[gh]at h
  split at h
  ·rename_i hx
   split at h
   ·rename_i w1 w2 hw1 hw2
    cases h
    obtain⟨h1,h2⟩:=me a w1 hw1
    obtain⟨h3,h4⟩:=me b w2 hw2
    rw[lr hx (by simp)]
    exact⟨by rw[Vl.cI,h1,h3],h2,h4⟩
   ·cases h
  ·cases h
def rF(e:E)(w:List UInt8)(k:Nat):Bool:=match e with| .list (x::l)=>decide (l.length+1=k)&&(x.at==w)|_=>false
theorem uh(e:E)(w:List UInt8)(k:Nat)(hk:1<=k):aq Tryz.prog 119 [e.cJ,.v (.string (mk w)),.v (.int .i64 (k:Int))] [] (bP (.v (.bool (rF e w k)))):=by
 refine M4 _ _ _ ((db e).mpr trivial) ?_
 cases e with
 |atom s=>simp only[Ei,E.cJ,↓zq,zs,ae,zt,bP,rF];exact⟨by omega,fun h=>by omega,fun _=>trivial⟩
 |
  list l =>
  simp only[Ei,E.cJ,↓zq,zs,ae,zt,bP,tn]
  cases l with
  |nil=>exact⟨by simp,fun h=>by simp at h;omega,fun _=>rfl⟩
  |
   cons x l =>
   simp only[aw]
   refine⟨by simp,fun h=>?_,fun h=>?_⟩
   ·have:decide (l.length+1=k)=true:=by rw[decide_eq_true_eq];omega
    simp only[rF,this]
    cases x<;>simp[E.nk,E.cJ,cn,qD,ku,dD,wk,toList_mk,E.at]
   ·have:decide (l.length+1=k)=false:=by rw[decide_eq_false_iff_not];omega
    simp only[rF,this];rfl
def je:Option Vl->AV
 |some v=>v.cJ
 |none=>.v (.pointer none)
end Go.Proofs.Trees
namespace Go.Proofs.Trees
open Go Go.VL Go.RowKit
theorem fW(v:Option Vl):LK.has .ptr (je v)=True:=by cases v<;>simp[je,aP,ig]
theorem Bv:∀(e:E),e.ok->aq Tryz.prog 87 [e.cJ] [] (bP (je (gh e)))
 |
  .atom s,hok=>by
  refine OT _ ((db _).mpr trivial) ?_
  have hd:=pd (.atom s)
  have hlen:=mS (.atom s)
  simp only[E.at]at hd
  simp only[Jw,↓zq,zs,ae,zt,bP,db,eH,hd,gh]
  refine⟨hlen,fun h=>?_,fun h=>⟨hlen,?_⟩⟩
  ·rw[if_pos h];rfl
  ·rw[if_neg h]
   refine aj (Qx s) ?_
   simp only[↓zq,zs,ae,zt]
   refine⟨fun he=>⟨hlen,?_⟩,fun he=>?_⟩
   ·obtain⟨k,hk⟩:=bb.1 he
    obtain⟨h1,h2⟩:=uF hk
    rw[hk,h1];rfl
   ·have hn:gk s=none:=by cases hq:gk s<;>simp[hq]at he |-
    rw[hn]
    refine aj (uh (.atom s) [108] 2 (by omega)) ?_
    simp only[rF,↓zq,zs,ae,zf]
    refine⟨fun h=>(by cases h),fun _=>aj (uh (.atom s) [114] 2 (by omega)) ?_⟩
    simp only[rF,↓zq,zs,ae,zf]
    refine⟨fun h=>(by cases h),fun _=>aj (uh (.atom s) [102] 2 (by omega)) ?_⟩
    simp only[rF,↓zq,zs,ae,zf]
    refine⟨fun h=>(by cases h),fun _=>aj (uh (.atom s) [112] 3 (by omega)) ?_⟩
    simp only[rF,↓zq,zs,ae,zf]
    exact⟨fun h=>(by cases h),fun _=>rfl⟩
 |
  .list l,hok=>by
  refine OT _ ((db _).mpr trivial) ?_
  have hd:=pd (.list l)
  have hlen:=mS (.list l)
  have hlen2:∀{l:List E},((AV.v (.string (mk [])))::[AV.sl (E.nk l)]).length=2:=rfl
  simp only[E.at]at hd
  have he:gk []=none:=rfl
  simp only[Jw,↓zq,zs,ae,zt,bP,db,eH,hd]
  refine⟨hlen,fun h=>(by cases h),fun h=>⟨hlen,?_⟩⟩
  refine aj (Qx []) ?_
  rw[he]
  simp only[↓zq,zs,ae,zt,zf,ba]
  refine⟨fun h=>(by cases h),fun _=>aj (uh (.list l) [108] 2 (by omega)) ?_⟩
  have hno:∀w:List UInt8,(∀x a,l≠[x,a])->rF (.list l) w 2=false:=by
   intro w h2
   match l,h2 with
   |[],_=>rfl
   |[x],_=>rfl
   |[x,a],h2=>exact absurd rfl (h2 x a)
   |x::y::z::l,_=>simp[rF]
  match l,hok,hno,hlen with
  |
   [x,a],hok,hno,hlen =>
   clear hno
   obtain⟨ok1,ok2,_⟩:=hok
   have e2:∀w:List UInt8,rF (.list [x,a]) w 2=(x.at==w):=fun w=>rfl
   have e3:rF (.list [x,a]) [112] 3=false:=rfl
   have hx:=pd x
   have hxl:=mS x
   rw[gh]
   simp only[e2,↓zq,zs,ae]
   refine⟨fun h1=>?_,fun h1=>aj (uh (.list [x,a]) [114] 2 (by omega)) ?_⟩
   ·simp only[E.cJ,E.nk,toNat_one,↓zq,zs,ae,zt,db,eH]
    refine⟨by omega,by omega,by omega,aj (Bv a ok2) ?_⟩
    cases hv:gh a with
    |none=>simp only[je,↓zq,zs,ae,fW];exact⟨fun _=>trivial,fun h=>(by cases h)⟩
    |
     some v =>
     simp only[je,↓zq,zs,ae,zt,aP,fB,hx,h1,db,eH]
     refine⟨fun h=>(by cases h),fun _=>⟨by omega,by omega,by omega,hxl,by simp,?_⟩⟩
     rfl
   ·simp only[e2,↓zq,zs,ae]
    refine⟨fun h2=>?_,fun h2=>aj (uh (.list [x,a]) [102] 2 (by omega)) ?_⟩
    ·simp only[E.cJ,E.nk,toNat_one,↓zq,zs,ae,zt,db,eH]
     refine⟨by omega,by omega,by omega,aj (Bv a ok2) ?_⟩
     cases hv:gh a with
     |none=>simp only[je,↓zq,zs,ae,fW];exact⟨fun _=>trivial,fun h=>(by cases h)⟩
     |
      some v =>
      simp only[je,↓zq,zs,ae,zt,aP,fB,hx,h2,db,eH]
      refine⟨fun h=>(by cases h),fun _=>⟨by omega,by omega,by omega,hxl,by simp,?_⟩⟩
      rfl
    ·simp only[e2,↓zq,zs,ae]
     refine⟨fun h3=>?_,fun h3=>aj (uh (.list [x,a]) [112] 3 (by omega)) ?_⟩
     ·simp only[E.cJ,E.nk,toNat_one,↓zq,zs,ae,zt,db,eH]
      refine⟨by omega,by omega,by omega,aj (Bv a ok2) ?_⟩
      cases hv:gh a with
      |none=>simp only[je,↓zq,zs,ae,fW];exact⟨fun _=>trivial,fun h=>(by cases h)⟩
      |
       some v =>
       simp only[je,↓zq,zs,ae,zt,aP,fB,hx,h3,db,eH]
       refine⟨fun h=>(by cases h),fun _=>⟨by omega,by omega,by omega,hxl,by simp,?_⟩⟩
       rfl
     ·rw[e3]
      simp only[↓zq,zs,ae]
      refine⟨fun h=>(by cases h),fun _=>?_⟩
      cases gh a with
      |none=>rfl
      |some v=>simp only[if_neg h1,if_neg h2,if_neg h3];rfl
  |
   [x,a,b],hok,hno,hlen =>
   obtain⟨ok1,ok2,ok3,_⟩:=hok
   have h2:=fun w=>hno w (fun x a h=>(by cases h))
   rw[h2]
   simp only[↓zq,zs,ae]
   refine⟨fun h=>(by cases h),fun _=>aj (uh (.list [x,a,b]) [114] 2 (by omega)) ?_⟩
   rw[h2]
   simp only[↓zq,zs,ae]
   refine⟨fun h=>(by cases h),fun _=>aj (uh (.list [x,a,b]) [102] 2 (by omega)) ?_⟩
   rw[h2]
   simp only[↓zq,zs,ae]
   refine⟨fun h=>(by cases h),fun _=>aj (uh (.list [x,a,b]) [112] 3 (by omega)) ?_⟩
   have e3:rF (.list [x,a,b]) [112] 3=(x.at==[112]):=rfl
   rw[e3,gh]
   simp only[↓zq,zs,ae]
   refine⟨fun h1=>?_,fun h1=>?_⟩
   ·rw[if_pos h1]
    simp only[E.cJ,E.nk,toNat_one,bj,↓zq,zs,ae,zt,db,eH]
    refine⟨by omega,by omega,by omega,aj (Bv a ok2) ?_⟩
    simp only[↓zq,zs,ae,fW,db]
    refine⟨by omega,by omega,by omega,aj (Bv b ok3) ?_⟩
    cases hv:gh a with
    |none=>cases hw:gh b<;>simp only[je,↓zq,zs,ae,fW,aP]<;>exact⟨fun _=>trivial,fun h=>(by cases h)⟩
    |
     some v =>
     cases hw:gh b with
     |
      none =>
      simp only[je,↓zq,zs,ae,fW,aP,fB]
      exact⟨fun h=>(by cases h),fun _=>⟨fun _=>trivial,fun h=>(by cases h)⟩⟩
     |
      some w =>
      simp only[je,↓zq,zs,ae,aP,fB]
      refine⟨fun h=>(by cases h),fun _=>⟨fun h=>(by cases h),fun _=>?_⟩⟩
      refine aj (BQ _ _ ((aP _).mpr trivial) ((aP _).mpr trivial)) ?_
      simp only[↓zq,zs,ae];rfl
   ·rw[if_neg h1];rfl
  |
   [],hok,hno,hlen =>
   have h2:=fun w=>hno w (fun x a h=>(by cases h))
   have e3:rF (.list []) [112] 3=false:=rfl
   rw[h2]
   simp only[↓zq,zs,ae]
   refine⟨fun h=>(by cases h),fun _=>aj (uh (.list []) [114] 2 (by omega)) ?_⟩
   rw[h2]
   simp only[↓zq,zs,ae]
   refine⟨fun h=>(by cases h),fun _=>aj (uh (.list []) [102] 2 (by omega)) ?_⟩
   rw[h2]
   simp only[↓zq,zs,ae]
   refine⟨fun h=>(by cases h),fun _=>aj (uh (.list []) [112] 3 (by omega)) ?_⟩
   rw[e3]
   simp only[↓zq,zs,ae]
   exact⟨fun h=>(by cases h),fun _=>rfl⟩
  |
   [x],hok,hno,hlen =>
   have h2:=fun w=>hno w (fun x a h=>(by cases h))
   have e3:rF (.list [x]) [112] 3=false:=rfl
   rw[h2]
   simp only[↓zq,zs,ae]
   refine⟨fun h=>(by cases h),fun _=>aj (uh (.list [x]) [114] 2 (by omega)) ?_⟩
   rw[h2]
   simp only[↓zq,zs,ae]
   refine⟨fun h=>(by cases h),fun _=>aj (uh (.list [x]) [102] 2 (by omega)) ?_⟩
   rw[h2]
   simp only[↓zq,zs,ae]
   refine⟨fun h=>(by cases h),fun _=>aj (uh (.list [x]) [112] 3 (by omega)) ?_⟩
   rw[e3]
   simp only[↓zq,zs,ae]
   exact⟨fun h=>(by cases h),fun _=>rfl⟩
  |
   x::y::z::w::l,hok,hno,hlen =>
   have h2:=fun w=>hno w (fun x a h=>(by cases h))
   have e3:rF (.list (x::y::z::w::l)) [112] 3=false:=by simp[rF]
   rw[h2]
   simp only[↓zq,zs,ae]
   refine⟨fun h=>(by cases h),fun _=>aj (uh (.list (x::y::z::w::l)) [114] 2 (by omega)) ?_⟩
   rw[h2]
   simp only[↓zq,zs,ae]
   refine⟨fun h=>(by cases h),fun _=>aj (uh (.list (x::y::z::w::l)) [102] 2 (by omega)) ?_⟩
   rw[h2]
   simp only[↓zq,zs,ae]
   refine⟨fun h=>(by cases h),fun _=>aj (uh (.list (x::y::z::w::l)) [112] 3 (by omega)) ?_⟩
   rw[e3]
   simp only[↓zq,zs,ae]
   exact⟨fun h=>(by cases h),fun _=>rfl⟩
def rM(s:List UInt8):Option Vl:=match sw s with
 |none=>none
 |
  some e=>match gh e with
  |none=>none
  |some v=>if v.nodes>200 then none else some v
theorem mA{s:List UInt8}{v:Vl}(h:rM s=some v):sw s=some v.cI/\v.fy 100/\v.nodes<=200:=by
 unfold rM at h
 split at h
 ·cases h
 ·rename_i e he
  split at h
  ·cases h
  ·rename_i w hw
   split at h
   ·cases h
   ·cases h
    obtain⟨h1,h2⟩:=me e _ hw
    rw[h1]
    exact⟨he,h2,by omega⟩
theorem yF{e:E}{v:Vl}(h:gh e=some v):v.nodes<=e.sz:=by
 obtain⟨h1,_⟩:=me e v h
 rw[<-oN,h1];exact DQ e
theorem Uw(s:List UInt8):aq Tryz.prog 44 [.v (.string (mk s))] [] (bP (je (rM s))):=by
 refine TS _ ?_
 unfold O5
 refine aj (Lf s) ?_
 unfold rM
 cases he:sw s with
 |none=>simp only[vA,↓zq,zs,ae,bP,je];simp
 |
  some e =>
  obtain⟨h1,h2⟩:=pj he
  simp only[vA,↓zq,zs,ae,db,eH]
  refine⟨fun h=>(by cases h),fun _=>?_⟩
  refine aj (Bv e h1) ?_
  cases hv:gh e with
  |none=>simp only[je,↓zq,zs,ae,bP];simp
  |
   some v =>
   have hn:=yF hv
   simp only[je,↓zq,zs,ae,aP,fB]
   refine⟨fun h=>(by cases h),fun _=>?_⟩
   refine aj (GK v (by omega)) ?_
   simp only[↓zq,zs,ae,bP]
   refine⟨fun h=>?_,fun h=>?_⟩
   ·rw[if_pos (by omega)]
   ·rw[if_neg (by omega)]
theorem Bd:∀(e:E),e.ok->aq Tryz.prog 58 [e.lF] [] (bP (.v (.bool (Ae e))))
 |
  .atom s,hok=>by
  refine BJ _ _ ((bm).mpr trivial) ?_
  have hne:s≠[]:=hok
  simp only[yl,↓zq,zs,ae,zt,bP,Ae]
  refine⟨fun _=>⟨fun h=>?_,fun h=>?_⟩,fun h=>absurd h hne⟩
  ·simp[h]
  ·refine aj (KV s) ?_
   have h':(s==[117])=false:=by simpa using h
   simp only[↓zq,zs,ae,h',Bool.false_or]
   congr 2
   rw[Cq]
   cases gk s with
   |none=>rfl
   |some k=>simp
 |
  .list [],hok=>by
  refine BJ _ _ ((cc _).mpr trivial) ?_
  simp only[yl,↓zq,zs,ae,zt,bP,Ae]
  refine⟨fun h=>absurd rfl h,fun _=>?_⟩
  refine aj Ry ?_
  simp[↓zq,zs,ae,zt]
 |
  .list [x],hok=>by
  refine BJ _ _ ((cc _).mpr trivial) ?_
  simp only[yl,↓zq,zs,ae,zt,bP,Ae]
  refine⟨fun h=>absurd rfl h,fun _=>?_⟩
  refine aj (wx x _) ?_
  simp[↓zq,zs,ae,zt,E.bE]
 |
  .list (x::y::z::w::l),hok=>by
  refine BJ _ _ ((cc _).mpr trivial) ?_
  simp only[yl,↓zq,zs,ae,zt,bP,Ae]
  refine⟨fun h=>absurd rfl h,fun _=>?_⟩
  refine aj (wx x _) ?_
  simp only[↓zq,zs,ae,zt,E.bE]
  refine⟨fun _=>⟨fun h=>by omega,fun _=>trivial⟩,fun _=>⟨fun _=>⟨fun h=>by omega,fun _=>trivial⟩,fun _=>⟨fun _=>⟨fun h=>by omega,fun _=>trivial⟩,fun _=>⟨fun _=>⟨fun h=>by omega,fun _=>trivial⟩,fun _=>trivial⟩⟩⟩⟩
 |
  .list [x,a],hok=>by
  refine BJ _ _ ((cc _).mpr trivial) ?_
  obtain⟨ok1,ok2,_⟩:=hok
  simp only[yl,↓zq,zs,ae,zt,bP,Ae]
  refine⟨fun h=>absurd rfl h,fun _=>?_⟩
  refine aj (wx x _) ?_
  simp only[E.bE,toNat_one,bj,↓zq,zs,ae,zt,jH,gO,jt,nL,au]
  refine⟨fun h=>⟨fun _=>⟨by omega,?_⟩,fun h=>by omega⟩,fun h1=>⟨fun h=>⟨fun _=>⟨by omega,?_⟩,fun h=>by omega⟩,fun h2=>⟨fun h=>⟨fun _=>⟨by omega,?_⟩,fun h=>by omega⟩,fun h3=>⟨fun h=>⟨fun h=>by omega,fun _=>?_⟩,fun h=>?_⟩⟩⟩⟩
  ·refine aj (Bd a ok2) ?_
   simp[↓zq,zs,ae,h]
  ·refine aj (Bd a ok2) ?_
   simp[↓zq,zs,ae,h]
  ·refine aj (Bd a ok2) ?_
   simp[↓zq,zs,ae,h]
  ·simp[h]
  ·simp[h1,h2,h3]
 |
  .list [x,a,b],hok=>by
  refine BJ _ _ ((cc _).mpr trivial) ?_
  obtain⟨ok1,ok2,ok3,_⟩:=hok
  simp only[yl,↓zq,zs,ae,zt,bP,Ae]
  refine⟨fun h=>absurd rfl h,fun _=>?_⟩
  refine aj (wx x _) ?_
  simp only[E.bE,toNat_one,bj,↓zq,zs,ae,zt,jH,gO,jt,nL,au]
  refine⟨fun h=>⟨fun h=>by omega,fun _=>?_⟩,fun h1=>⟨fun h=>⟨fun h=>by omega,fun _=>?_⟩,fun h2=>⟨fun h=>⟨fun h=>by omega,fun _=>?_⟩,fun h3=>⟨fun h=>⟨fun _=>⟨by omega,?_⟩,fun h=>by omega⟩,fun h=>?_⟩⟩⟩⟩
  ·simp[h]
  ·simp[h]
  ·simp[h]
  ·refine aj (Bd a ok2) ?_
   simp only[↓zq,zs,ae,h]
   refine⟨fun ha=>⟨by omega,aj (Bd b ok3) ?_⟩,fun ha=>?_⟩
   ·simp[↓zq,zs,ae,ha]
   ·simp[ha]
  ·simp[h]
theorem Jr(s:List UInt8):aq Tryz.prog 28 [.v (.string (mk s))] [] (iT ((rM s).map Vl.cI) (rM s).isSome):=by
 refine SY _ ?_
 unfold Qv
 refine aQ (MA s) (iT.ne _ _ (fun h=>h)) ?_
 rintro r o ⟨c,d,hd,rfl,hh⟩
 simp only[↓zq,zs,ae,zt,bC,rM]
 refine⟨hd,fun h=>?_,fun h=>?_⟩
 ·obtain⟨e,he,hce⟩:=hh h
  obtain⟨hok,hsz⟩:=pj he
  rw[he,hce]
  refine aj (Bd e hok) ?_
  simp only[↓zq,zs,ae]
  have hs:=qj e
  refine⟨fun hi=>?_,fun hi=>?_⟩
  ·rw[hi]at hs
   obtain⟨v,hv⟩:=bb.1 hs
   obtain⟨h1,h2⟩:=me e v hv
   refine aj (Sc e (by omega)) ?_
   simp only[↓zq,zs,ae,hv]
   have hnd:e.nd=v.nodes:=by rw[<-h1,oN]
   rw[hnd]
   refine⟨c,d,hd,?_,?_⟩
   ·rw[hce]
    by_cases h4:v.nodes>200
    ·rw[if_pos h4];exact congrArg (fun b=>AV.cm [e.lF,.v (.bool b)]) (decide_eq_false (show ¬((v.nodes:Nat):Int)<=200 by omega))
    ·rw[if_neg h4];exact congrArg (fun b=>AV.cm [e.lF,.v (.bool b)]) (decide_eq_true (show ((v.nodes:Nat):Int)<=200 by omega))
   ·split
    ·exact fun h=>by cases h
    ·exact fun _=>⟨e,by simp[h1],hce⟩
  ·rw[hi]at hs
   have hn:gh e=none:=by cases hq:gh e<;>simp[hq]at hs |-
   rw[hn]
   exact⟨c,d,hd,by rw[hce];rfl,fun h=>by cases h⟩
 ·have hn:sw s=none:=by cases hq:sw s<;>simp[hq]at h |-
  rw[hn]
  exact⟨c,d,hd,rfl,fun h=>by cases h⟩
end Go.Proofs.Trees
namespace Go.Proofs.Trees
open Go Go.VL Go.RowKit
def Vj(n:Nat):AV->List Ob->Prop:=fun r o=>∃x:Int,r=.v (.int .i64 x)/\(0<=x->n<=1048576)
theorem Vj.ne(n:Nat):∃r o,Vj n r o:=⟨_,[],-1,rfl,fun h=>by omega⟩
end Go.Proofs.Trees
namespace Go.Proofs.Trees
open Go Go.VL Go.RowKit
inductive Fr where
 |mk (s:List UInt8) (e:E) (o:List Fr)
def Fr.nm:Fr->List UInt8| .mk s _ _=>s
def Fr.ex:Fr->E| .mk _ e _=>e
def Fr.out:Fr->List Fr| .mk _ _ o=>o
def names:List Fr->List (List UInt8)
 |[]=>[]
 |f::r=>names r++[f.nm]
def Ai(e:E)(o:List Fr):Ty:=(cZ e (names o)).getD .zero
def E.sp:E->AV
 | .atom _=>.v (.slice none 0 0)
 | .list l=>.sl (E.bE l)
theorem gd(e:E):e.iX=[.v (.string (mk e.at)),e.sp]:=by cases e<;>rfl
theorem cT(e:E):e.lF=.agg [.v (.string (mk e.at)),e.sp]:=by cases e<;>rfl
theorem aX(e:E):LK.has .sl e.sp=True:=by cases e<;>simp[E.sp,bm,cc]
mutual
def Fr.cells:Fr->List AV
 | .mk s e o=>[.v (.string (mk s)),.v (.string (mk e.at)),e.sp,.sl (kZ o)]
def kZ:List Fr->List (List AV)
 |[]=>[]
 |f::r=>kZ r++[f.cells]
end
mutual
def Fr.cJ:Fr->AV
 | .mk s e o=>.ptr [(Ai e o).av,qb o]
def qb:List Fr->AV
 |[]=>iV
 |f::r=>.ptr [f.cJ,qb r]
end
inductive WF:List Fr->Prop
 |nil:WF []
 |cons {s:List UInt8} {x a b:E} {t:Ty} {r:List Fr} (hs:dy s=true) (hok:(E.list [x,a,b]).ok) (hx:x.at=[114,101,99]) (ht:cZ (.list [x,a,b]) (names r)=some t) (hf:cg t=false) (hr:WF r):WF (.mk s (.list [x,a,b]) r::r)
theorem mc:∀env:List Fr,(kZ env).length=env.length
 |[]=>rfl
 |f::r=>by simp[kZ,mc r]
theorem eK(env:List Fr):LK.has .ptr (qb env)=True:=by cases env<;>simp[qb,ig,cn]
theorem Eb(f:Fr):LK.has .ptr f.cJ=True:=by cases f;simp[Fr.cJ,cn]
def findF(s:List UInt8):List Fr->Option Fr
 |[]=>none
 |f::r=>if f.nm=s then some f else findF s r
def hd(e:E)(env:List Fr):E×List Fr:=match findF e.at env with|some f=>(f.ex,f.out)|none=>(e,env)
theorem l7{env:List Fr}(h:WF env):findF [] env=none:=by
 induction h with
 |nil=>rfl
 |
  @cons s x a b t r hs hok hx ht hf hr ih =>
  rw[findF,if_neg (show ¬(Fr.mk s (.list [x,a,b]) r).nm=[] from CS hs)];exact ih
theorem Bo{env:List Fr}(h:WF env){s:List UInt8}{f:Fr}(hf:findF s env=some f):dy s=true:=by
 induction h with
 |nil=>cases hf
 |
  cons hs hok hx ht hf' hr ih =>
  rw[findF]at hf
  split at hf
  ·rename_i e;exact e ▸ hs
  ·exact ih hf
theorem qe{env:List Fr}(h:WF env){s:List UInt8}{f:Fr}(hf:findF s env=some f):∃x a b t,f.ex=.list [x,a,b]/\(E.list [x,a,b]).ok/\x.at=[114,101,99]/\cZ f.ex (names f.out)=some t/\cg t=false/\WF f.out/\f.out.length<env.length:=by
 induction h with
 |nil=>cases hf
 |
  cons hs hok hx ht hf' hr ih =>
  rw[findF]at hf
  split at hf
  ·cases hf;exact⟨_,_,_,_,rfl,hok,hx,ht,hf',hr,by simp[Fr.out]⟩
  ·obtain⟨x,a,b,t,h1,h2,h3,h4,h5,h6,h7⟩:=ih hf
   exact⟨x,a,b,t,h1,h2,h3,h4,h5,h6,by simp;omega⟩
theorem lq(s w:List UInt8)(ar:List (List UInt8)):∀i,i<=ar.length->bT s (ar++[w]) i=(bT s ar i).map (·+1)
 |0,_=>rfl
 |
  i+1,hi=>by
  have hlt:i<ar.length:=by omega
  have e:(ar++[w]).getD i []=ar.getD i []:=by simp[aa,List.getElem?_append_left hlt]
  rw[bT,bT,e,lq s w ar i (by omega)]
  split
  ·simp only[an,aw,aE,cq,Option.some.injEq];omega
  ·rfl
theorem wE(s:List UInt8)(f:Fr)(r:List Fr):bT s (names (f::r)) (names (f::r)).length=if f.nm=s then some 0 else(bT s (names r) (names r).length).map (·+1):=by
 have e:(names (f::r)).length=(names r).length+1:=by simp[names]
 rw[e,bT]
 have e2:(names (f::r)).getD (names r).length []=f.nm:=by simp[names,aa]
 rw[e2]
 split
 ·rw[e];simp
 ·rw[names,lq _ _ _ _ (au _)]
theorem qk(s:List UInt8):∀env:List Fr,bT s (names env) (names env).length=none/\findF s env=none\/∃(u:Nat) (f:Fr),bT s (names env) (names env).length=some u/\findF s env=some f/\env[u]?=some f
 |[]=>.inl ⟨rfl,rfl⟩
 |
  f::r=>by
  rw[wE,findF]
  split
  ·exact .inr ⟨0,f,rfl,rfl,rfl⟩
  ·rcases qk s r with⟨h1,h2⟩|⟨u,g,h1,h2,h3⟩
   ·exact .inl ⟨by rw[h1];rfl,h2⟩
   ·exact .inr ⟨u+1,g,by rw[h1];rfl,h2,by simpa using h3⟩
def Ty.Rn:Ty->Bool
 | .bound _=>true
 |_=>false
theorem gZ{e:E}{env:List Fr}{t:Ty}(hw:WF env)(ht:cZ e (names env)=some t) :
 (t.Rn=false/\findF e.at env=none)\/∃(u:Nat) (f:Fr),t=.bound u/\findF e.at env=some f/\env[u]?=some f:=by
 cases e with
 |
  list l =>
  left
  refine⟨?_,l7 hw⟩
  match l,ht with
  |
   [x,a,b],ht =>
   by_cases h0:x.at=[43]
   ·obtain⟨t1,t2,_,_,rfl⟩:=gf h0 ht;rfl
   ·by_cases h1:x.at=[42]
    ·obtain⟨t1,t2,_,_,rfl⟩:=fH h1 ht;rfl
    ·by_cases h2:x.at=[114,101,99]
     ·obtain⟨t1,_,_,rfl⟩:=dK h2 ht;rfl
     ·rw[jK _ h0 h1 h2]at ht;cases ht
  |[],ht=>cases ht
  |[_],ht=>cases ht
  |[_,_],ht=>cases ht
  |_::_::_::_::_,ht=>cases ht
 |
  atom s =>
  simp only[cZ]at ht
  have hno:dy s=false->findF s env=none:=fun h=>by
   cases hq:findF s env with
   |none=>rfl
   |some f=>rw[Bo hw hq]at h;cases h
  split at ht
  ·rename_i h;cases ht;subst h;exact .inl ⟨rfl,hno rfl⟩
  ·split at ht
   ·rename_i h;cases ht;subst h;exact .inl ⟨rfl,hno rfl⟩
   ·split at ht
    ·rename_i h
     cases ht
     refine .inl ⟨rfl,hno ?_⟩
     cases hq:dy s with
     |false=>rfl
     |
      true =>
      obtain⟨c,r,rfl,h1,h2⟩:=mG h
      obtain⟨c',r',he,h3,h4⟩:=mG hq
      cases he;omega
    ·split at ht
     ·rcases qk s env with⟨h1,h2⟩|⟨u,f,h1,h2,h3⟩
      ·rw[h1]at ht;cases ht;exact .inl ⟨rfl,h2⟩
      ·rw[h1]at ht;cases ht;exact .inr ⟨u,f,rfl,h2,h3⟩
     ·cases ht
def eS(n:Nat):Vl->E×List Fr->Bool
 | .u,p=>match hd p.1 p.2 with|(.atom s,_)=>s==[49]|_=>false
 | .el k,p=>match hd p.1 p.2 with|(.atom s,_)=>!(s==[49])&&(iw s&&decide (k<n))|_=>false
 | .l w,p=>match hd p.1 p.2 with|(.list [x,a,b],o)=>(x.at==[43])&&eS n w (a,o)|_=>false
 | .r w,p=>match hd p.1 p.2 with|(.list [x,a,b],o)=>(x.at==[43])&&eS n w (b,o)|_=>false
 | .f w,p=>match hd p.1 p.2 with|(.list [x,a,b],o)=>(x.at==[114,101,99])&&eS n w (b,.mk a.at (.list [x,a,b]) o::o)|_=>false
 | .p v w,p=>match hd p.1 p.2 with|(.list [x,a,b],o)=>(x.at==[42])&&(eS n v (a,o)&&eS n w (b,o))|_=>false
theorem lh{e:E}{env:List Fr}(h:findF e.at env=none):hd e env=(e,env):=by rw[hd,h]
theorem sk{e:E}{env:List Fr}{f:Fr}(h:findF e.at env=some f):hd e env=(f.ex,f.out):=by rw[hd,h]
theorem qJ{x a b:E}{o:List Fr}(h:WF o):hd (.list [x,a,b]) o=(.list [x,a,b],o):=lh (l7 h)
theorem ve(n:Nat)(v:Vl){e e':E}{env o:List Fr}(h:hd e env=(e',o))(h':hd e' o=(e',o)):eS n v (e,env)=eS n v (e',o):=by
 cases v<;>simp only[eS,h,h']
theorem j0{x a b:E}{env:List Fr}{t:Ty}(hw:WF env)(hok:(E.list [x,a,b]).ok)(hx:x.at=[114,101,99])(ht:cZ (.list [x,a,b]) (names env)=some t)(hf:cg t=false) :
 ∃t1,t=.rc t1/\cZ b (names (.mk a.at (.list [x,a,b]) env::env))=some t1/\cg t1=false/\WF (.mk a.at (.list [x,a,b]) env::env):=by
 obtain⟨t1,hl,h1,rfl⟩:=dK hx ht
 exact⟨t1,rfl,h1,hf,.cons hl hok hx ht hf hw⟩
theorem BC(a b env:AV)(n:Int)(s:ByteArray)(u:Int)(ha:LK.ptr.has a)(he:LK.ptr.has env):aq Tryz.prog 108 [.agg [.ptr [.v (.int .u8 n),.v (.string s),.v (.int .i64 u),a,b],env]] [] (bP (.agg [a,env])):=by
 refine TO _ _ ((cn _).mpr trivial) he ?_
 simp only[OW,↓zq,zs,ae,bP]
 exact⟨ha,by omega⟩
theorem By(a b env:AV)(n:Int)(s:ByteArray)(u:Int)(hb:LK.ptr.has b)(he:LK.ptr.has env):aq Tryz.prog 109 [.agg [.ptr [.v (.int .u8 n),.v (.string s),.v (.int .i64 u),a,b],env]] [] (bP (.agg [b,env])):=by
 refine R0 _ _ ((cn _).mpr trivial) he ?_
 simp only[PY,↓zq,zs,ae,bP]
 exact⟨hb,by omega⟩
theorem UC(t:Ty)(env:List Fr)(s:List UInt8)(e:E)(ht:Ai e env=.rc t):aq Tryz.prog 70 [.agg [(Ty.rc t).av,qb env]] [] (bP (.cm [.agg [t.av,qb (.mk s e env::env)],(Fr.mk s e env).cJ])):=by
 refine RR _ _ ((aF _).mpr trivial) ((eK _).mpr trivial) ?_
 simp only[P6,Ty.av,↓zq,zs,ae,aF,bP,qb,Fr.cJ,ht]
 omega
theorem uu(env:List Fr)(i:Nat)(f:Fr)(h:env[i]?=some f):qb (env.drop i)=.ptr [f.cJ,qb (env.drop (i+1))]:=by
 obtain⟨hlt,he⟩:=List.getElem?_eq_some_iff.1 h
 rw[aM hlt,he,qb]
theorem Mm(env:List Fr)(u:Nat)(hu:u<env.length)(hl:env.length<1000000):∀(k i:Nat),i+k=u->FP [qb (env.drop i),.v (.int .i64 (u:Int)),.v (.int .i64 (i:Int))] [] (gS 1 [qb (env.drop u)] [])
 |
  0,i,hi=>by
  refine Ew _ _ _ ?_
  have:i=u:=by omega
  subst this
  simp only[CU,↓zq,zs,ae,eK]
  exact⟨fun h=>by omega,fun _=>by simp[gS]⟩
 |
  k+1,i,hi=>by
  refine Ew _ _ _ ?_
  have hlt:i<env.length:=by omega
  have hg:env[i]?=some env[i]:=bp hlt
  have hd:=uu env i _ hg
  rw[hd]
  simp only[CU,↓zq,zs,ae,eK]
  refine⟨fun _=>⟨by omega,?_⟩,fun h=>by omega⟩
  rw[bD i (by omega)]
  exact Mm env u hu hl k (i+1) (by omega)
theorem Tf(env:List Fr)(u:Nat)(f:Fr)(hf:env[u]?=some f)(hl:env.length<1000000):aq Tryz.prog 127 [.agg [(Ty.bound u).av,qb env]] [] (bP f.cJ):=by
 refine MG _ _ ((aF _).mpr trivial) ((eK _).mpr trivial) ?_
 obtain⟨hlt,he⟩:=List.getElem?_eq_some_iff.1 hf
 simp only[Is,Ty.av,↓zq,zs,ae]
 refine⟨by omega,?_⟩
 have h:=Mm env u hlt hl u 0 (by omega)
 simp only[a7]at h
 refine cC h ?_
 rw[uu env u f hf]
 simp only[↓zq,zs,ae,Eb,bP]
 omega
theorem EO(k:Nat)(h:k<100):Lib.atoi (dd k)=some (k:Int):=by
 have e:∀k,k<100->dd k=if k<10 then [bu (48+k)]else [bu (48+k/10),bu (48+k%10)]:=by
  intro k hk
  by_cases h1:k<10
  ·rw[fg h1,if_pos h1]
  ·rw[gl h1,fg (by omega),if_neg h1];rfl
 have key:∀k:Fin 100,Lib.atoi (if k.val<10 then [bu (48+k.val)]else [bu (48+k.val/10),bu (48+k.val%10)])=some (k.val:Int):=by decide +kernel
 rw[e k h];exact key ⟨k,h⟩
theorem UZ(k:Nat)(hk:k<100):aq Tryz.prog 126 [.v (.string (mk (dd k)))] [] (bP (.cm [.v (.int .i64 (k:Int)),.v .nilIface])):=by
 have hl:=nW 1000 k (by omega)
 have hl2:(dd k).length<=18:=by
  have e:(dd k).length<=2:=by
   by_cases h1:k<10
   ·rw[fg h1];simp
   ·rw[gl h1,fg (by omega)];simp
  omega
 refine aq.Ti (xs:=[.string (mk (dd k))]) (v:=.tuple #[.int .i64 (k:Int),.nilIface]) ⟨rQ,by kernel_rfl,by kernel_rfl,by kernel_rfl⟩ (fun M=>?_) fun w=>?_
 ·refine bJ.cm _ _ [.int .i64 (k:Int),.nilIface] rfl fun i hi=>?_
  match i,hi with
  |0,_=>exact .v _ _
  |1,_=>exact .v _ _
 ·have:=Any.strconv_Atoi Tryz.E5 (mk (dd k)) (k:Int) (by rw[cR];exact hl2) (by
   have:(mk (dd k)).data.toList=dd k:=by simp[mk]
   rw[this];exact EO k hk) w
  refine Calls.mono this fun e w' ⟨h1,t,h2⟩=>⟨h1,?_⟩
  subst h2
  refine⟨rfl,rfl,rfl,?_,fun b hb=>Lib.bytesWorld_at_old _ _ _ _ hb⟩
  simp[Lib.bytesWorld,World.freeze]
end Go.Proofs.Trees
namespace Go.Proofs.Trees
open Go Go.VL Go.RowKit
theorem fP{a b:Ty}(h:cg (.plus a b)=false):cg a=false/\cg b=false:=by simpa[cg]using h
theorem fE{a b:Ty}(h:cg (.times a b)=false):cg a=false/\cg b=false:=by simpa[cg]using h
theorem ga{e:E}{ar:List (List UInt8)}{t:Ty}(ht:cZ e ar=some t)(hb:t.Rn=false)(hf:cg t=false) :
 (e=.atom [48]/\t=.zero)\/(e=.atom [49]/\t=.one)\/(∃s,e=.atom s/\t=.name s/\iw s=true/\s≠[48]/\s≠[49]) ∨
 (∃x a b t1 t2,e=.list [x,a,b]/\x.at=[43]/\t=.plus t1 t2/\cZ a ar=some t1/\cZ b ar=some t2) ∨
 (∃x a b t1 t2,e=.list [x,a,b]/\x.at=[42]/\t=.times t1 t2/\cZ a ar=some t1/\cZ b ar=some t2) ∨
 (∃x a b t1,e=.list [x,a,b]/\x.at=[114,101,99]/\t=.rc t1):=by
 cases e with
 |
  list l =>
  match l,ht with
  |
   [x,a,b],ht =>
   by_cases h0:x.at=[43]
   ·obtain⟨t1,t2,h1,h2,rfl⟩:=gf h0 ht
    exact .inr (.inr (.inr (.inl ⟨x,a,b,t1,t2,rfl,h0,rfl,h1,h2⟩)))
   ·by_cases h1:x.at=[42]
    ·obtain⟨t1,t2,h3,h2,rfl⟩:=fH h1 ht
     exact .inr (.inr (.inr (.inr (.inl ⟨x,a,b,t1,t2,rfl,h1,rfl,h3,h2⟩))))
    ·by_cases h2:x.at=[114,101,99]
     ·obtain⟨t1,_,_,rfl⟩:=dK h2 ht
      exact .inr (.inr (.inr (.inr (.inr ⟨x,a,b,t1,rfl,h2,rfl⟩))))
     ·rw[jK _ h0 h1 h2]at ht;cases ht
  |[],ht=>cases ht
  |[_],ht=>cases ht
  |[_,_],ht=>cases ht
  |_::_::_::_::_,ht=>cases ht
 |
  atom s =>
  simp only[cZ]at ht
  split at ht
  ·rename_i h;cases ht;subst h;exact .inl ⟨rfl,rfl⟩
  ·rename_i h0
   split at ht
   ·rename_i h;cases ht;subst h;exact .inr (.inl ⟨rfl,rfl⟩)
   ·rename_i h1
    split at ht
    ·rename_i h;cases ht;exact .inr (.inr (.inl ⟨s,rfl,rfl,h,h0,h1⟩))
    ·split at ht
     ·rename_i h
      split at ht
      ·cases ht;cases hb
      ·cases ht;simp only[cg]at hf;rw[h]at hf;cases hf
     ·cases ht
def rB(n:Nat)(v:Vl)(e:E)(env:List Fr)(t:Ty):Prop:=aq Tryz.prog 83 [.agg [t.av,qb env],v.cJ,.v (.int .i64 (n:Int))] [] (bP (.v (.bool (eS n v (e,env)))))
structure Ask(e:E)(env:List Fr)(t:Ty):Prop where
 ok:e.ok
 wf:WF env
 ty:cZ e (names env)=some t
 cl:cg t=false
theorem K3(n:Nat)(hn:n<=100)(v:Vl)(hv:v.fy 100)(IH:∀w:Vl,w.nodes<v.nodes->w.fy 100->∀e env t,Ask e env t->env.length+w.nodes<100000->rB n w e env t)
 (e:E) (env:List Fr) (t:Ty) (A:Ask e env t) (hl:env.length+v.nodes<100000) (hb:t.Rn=false) (hh:findF e.at env=none):rB n v e env t:=by
 have hhd:hd e env=(e,env):=lh hh
 unfold rB
 refine Qe _ _ _ _ ((aF _).mpr trivial) ((eK _).mpr trivial) ((aP _).mpr trivial) ?_
 rcases ga A.ty hb A.cl with⟨rfl,rfl⟩|⟨rfl,rfl⟩|⟨s,rfl,rfl,hp,h0,h1⟩|⟨x,a,b,t1,t2,rfl,hx,rfl,ha,hbb⟩|⟨x,a,b,t1,t2,rfl,hx,rfl,ha,hbb⟩|⟨x,a,b,t1,rfl,hx,rfl⟩
 ·have hp0:iw [48]=false:=rfl
  cases v<;>simp[BY,Ty.av,↓zq,zs,ae,bP,eS,hhd,hp0]
 ·have hp0:iw [49]=false:=rfl
  cases v<;>simp[BY,Ty.av,Vl.cJ,↓zq,zs,ae,bP,eS,hhd,hp0]
 ·have h1':(s==[49])=false:=by simpa using h1
  cases v with
  |
   el k =>
   have hk:k<100:=hv
   simp only[BY,Ty.av,Vl.cJ,↓zq,zs,ae,zt]
   refine⟨by omega,fun h=>by omega,fun _=>⟨fun _=>⟨by omega,fun h=>absurd rfl h,fun _=>⟨by omega,by omega,?_⟩⟩,fun h=>absurd rfl h⟩⟩
   have e1:(List.take ((dd k).length+1) (yp k)).drop (bK 1)=dd k:=by simp[yp]
   rw[e1]
   refine aj (UZ k hk) ?_
   simp only[↓zq,zs,ae,bP,eS,hhd,h1',hp,zf]
   refine⟨rfl,?_⟩
   congr 2
   rw[cK];simp
  |
   _ =>
   simp only[BY,Ty.av,Vl.cJ,↓zq,zs,ae,zt,eS,hhd,h1',bP]
   exact⟨by omega,fun h=>by omega,fun _=>⟨fun _=>⟨by omega,fun _=>trivial,fun h=>by omega⟩,fun h=>absurd rfl h⟩⟩
 ·have hok:=A.ok
  obtain⟨ok1,ok2,ok3,_⟩:=hok
  obtain⟨f1,f2⟩:=fP A.cl
  cases v with
  |
   l w =>
   simp only[Vl.nodes]at hl
   simp only[BY,Ty.av,Vl.cJ,↓zq,zs,ae]
   refine⟨by omega,fun h=>by omega,fun _=>⟨fun h=>by omega,fun _=>⟨fun h=>by omega,fun _=>⟨fun _=>⟨by omega,fun _=>?_,fun h=>absurd rfl h⟩,fun h=>absurd rfl h⟩⟩⟩⟩
   refine aj (BC _ _ _ _ _ _ ((aF _).mpr trivial) ((eK _).mpr trivial)) ?_
   simp only[↓zq,zs,ae,bC,aF,eK,aP]
   refine⟨by omega,?_⟩
   refine aj (IH w (by simp only[Vl.nodes];omega) hv a env t1 ⟨ok2,A.wf,ha,f1⟩ (by omega)) ?_
   simp only[↓zq,zs,ae,bP,eS,hhd,hx]
   refine⟨fun h=>?_,fun h=>⟨by omega,fun h=>by omega,fun _=>?_⟩⟩
   ·simp[h]
   ·simp[h]
  |
   r w =>
   simp only[Vl.nodes]at hl
   simp only[BY,Ty.av,Vl.cJ,↓zq,zs,ae]
   refine⟨by omega,fun h=>by omega,fun _=>⟨fun h=>by omega,fun _=>⟨fun h=>by omega,fun _=>⟨fun _=>⟨by omega,fun h=>by omega,fun _=>⟨by omega,fun _=>?_,fun h=>absurd rfl h⟩⟩,fun h=>absurd rfl h⟩⟩⟩⟩
   refine aj (By _ _ _ _ _ _ ((aF _).mpr trivial) ((eK _).mpr trivial)) ?_
   simp only[↓zq,zs,ae,bC,aF,eK,aP]
   refine⟨by omega,?_⟩
   refine aj (IH w (by simp only[Vl.nodes];omega) hv b env t2 ⟨ok3,A.wf,hbb,f2⟩ (by omega)) ?_
   simp[↓zq,zs,ae,bP,eS,hhd,hx]
  |
   _ =>
   simp only[BY,Ty.av,Vl.cJ,↓zq,zs,ae,eS,hhd,bP]
   exact⟨by omega,fun h=>by omega,fun _=>⟨fun h=>by omega,fun _=>⟨fun h=>by omega,fun _=>⟨fun _=>⟨by omega,fun h=>by omega,fun _=>⟨by omega,fun h=>by omega,fun _=>by simp[hx]⟩⟩,fun h=>absurd rfl h⟩⟩⟩⟩
 ·have hok:=A.ok
  obtain⟨ok1,ok2,ok3,_⟩:=hok
  obtain⟨f1,f2⟩:=fE A.cl
  cases v with
  |
   p v w =>
   simp only[Vl.nodes]at hl
   simp only[BY,Ty.av,Vl.cJ,↓zq,zs,ae]
   refine⟨by omega,fun h=>by omega,fun _=>⟨fun h=>by omega,fun _=>⟨fun h=>by omega,fun _=>⟨fun h=>by omega,fun _=>⟨fun _=>⟨by omega,fun _=>?_,fun h=>absurd rfl h⟩,fun h=>absurd rfl h⟩⟩⟩⟩⟩
   refine aj (BC _ _ _ _ _ _ ((aF _).mpr trivial) ((eK _).mpr trivial)) ?_
   simp only[↓zq,zs,ae,bC,aF,eK,aP]
   refine⟨by omega,?_⟩
   refine aj (IH v (by simp only[Vl.nodes];omega) hv.1 a env t1 ⟨ok2,A.wf,ha,f1⟩ (by omega)) ?_
   simp only[↓zq,zs,ae,bP,eS,hhd,hx]
   refine⟨fun h=>?_,fun h=>?_⟩
   ·refine aj (By _ _ _ _ _ _ ((aF _).mpr trivial) ((eK _).mpr trivial)) ?_
    simp only[↓zq,zs,ae,bC,aF,eK,aP]
    refine⟨by omega,?_⟩
    refine aj (IH w (by simp only[Vl.nodes];omega) hv.2 b env t2 ⟨ok3,A.wf,hbb,f2⟩ (by omega)) ?_
    simp[↓zq,zs,ae,h]
   ·simp[h]
  |
   _ =>
   simp only[BY,Ty.av,Vl.cJ,↓zq,zs,ae,eS,hhd,bP]
   exact⟨by omega,fun h=>by omega,fun _=>⟨fun h=>by omega,fun _=>⟨fun h=>by omega,fun _=>⟨fun h=>by omega,fun _=>⟨fun _=>⟨by omega,fun h=>by omega,fun _=>by simp[hx]⟩,fun h=>absurd rfl h⟩⟩⟩⟩⟩
 ·obtain⟨t1',he1,h1,f1,hw1⟩:=j0 A.wf A.ok hx A.ty A.cl
  cases he1
  have hok:=A.ok
  obtain⟨ok1,ok2,ok3,_⟩:=hok
  have htD:Ai (.list [x,a,b]) env=.rc t1:=by rw[Ai,A.ty];rfl
  have hin:=UC t1 env a.at (.list [x,a,b]) htD
  simp only[Ty.av]at hin
  simp only[BY,Ty.av,↓zq,zs,ae]
  refine⟨by omega,fun h=>by omega,fun _=>⟨fun h=>by omega,fun _=>⟨fun h=>by omega,fun _=>⟨fun h=>by omega,fun _=>⟨fun h=>by omega,fun _=>⟨fun _=>?_,fun h=>absurd rfl h⟩⟩⟩⟩⟩⟩
  refine aj hin ?_
  simp only[↓zq,zs,ae,bC,aF,eK,Eb,aP,fB]
  cases v with
  |
   f w =>
   simp only[Vl.nodes]at hl
   simp only[Vl.cJ,↓zq,zs,ae,aP]
   refine⟨by omega,fun _=>⟨by omega,?_⟩,fun h=>absurd rfl h⟩
   refine aj (IH w (by simp only[Vl.nodes];omega) hv b (.mk a.at (.list [x,a,b]) env::env) t1 ⟨ok3,hw1,h1,f1⟩ (by simp;omega)) ?_
   simp[↓zq,zs,ae,bP,eS,hhd,hx]
  |
   _ =>
   simp only[Vl.cJ,↓zq,zs,ae,eS,hhd,bP]
   exact⟨by omega,fun h=>by omega,fun _=>by simp[hx]⟩
theorem Mw(n:Nat)(hn:n<=100):∀(m:Nat) (v:Vl),v.nodes<m->v.fy 100->∀e env t,Ask e env t->env.length+v.nodes<100000->rB n v e env t
 |0,v,h,_=>by omega
 |
  m+1,v,h,hv=>by
  intro e env t A hl
  have IH:∀w:Vl,w.nodes<v.nodes->w.fy 100->∀e env t,Ask e env t->env.length+w.nodes<100000->rB n w e env t:=fun w hw hb=>Mw n hn m w (by omega) hb
  rcases gZ A.wf A.ty with⟨hb,hh⟩|⟨u,f,rfl,hh,hu⟩
  ·exact K3 n hn v hv IH e env t A hl hb hh
  ·obtain⟨x,a,b,t',hfe,hok,hx,ht',hf',hwf,hlt⟩:=qe A.wf hh
   obtain⟨t1,hl1,h1,rfl⟩:=dK hx (hfe ▸ ht')
   have hvis:eS n v (e,env)=eS n v (f.ex,f.out):=ve n v (sk hh) (by rw[hfe];exact qJ hwf)
   unfold rB
   refine Qe _ _ _ _ ((aF _).mpr trivial) ((eK _).mpr trivial) ((aP _).mpr trivial) ?_
   have hbd:=Tf env u f hu (by omega)
   simp only[Ty.av]at hbd
   simp only[BY,Ty.av,↓zq,zs,ae]
   refine⟨by omega,fun h=>by omega,fun _=>⟨fun h=>by omega,fun _=>⟨fun _=>?_,fun h=>absurd rfl h⟩⟩⟩
   refine aj hbd ?_
   cases f with
   |
    mk s ee oo =>
    simp only[Fr.ex,Fr.out]at hfe ht' hf' hwf hvis hlt
    have htD:Ai ee oo=.rc t1:=by rw[Ai,ht'];rfl
    simp only[Fr.cJ,htD,↓zq,zs,ae,bC,aF,eK]
    refine⟨by omega,?_⟩
    have hs:=K3 n hn v hv IH ee oo (.rc t1) ⟨by rw[hfe];exact hok,hwf,ht',hf'⟩ (by omega) rfl (by rw[hfe];exact l7 hwf)
    unfold rB at hs
    refine aj hs ?_
    simp[↓zq,zs,ae,bP,hvis]
end Go.Proofs.Trees
namespace Go.Proofs.Trees
open Go Go.VL Go.RowKit
theorem ur:∀(env:List Fr) (k:Nat) (f:Fr),env[k]?=some f->(kZ env).getD (env.length-1-k) []=f.cells
 |[],k,f,h=>by cases h
 |
  g::r,0,f,h=>by
  cases h
  have:(g::r).length-1-0=(kZ r).length:=by simp[mc]
  rw[this,kZ];simp[aa]
 |
  g::r,k+1,f,h=>by
  have h':r[k]?=some f:=by simpa using h
  have hlt:=(List.getElem?_eq_some_iff.1 h').1
  have e:(g::r).length-1-(k+1)=r.length-1-k:=by simp;omega
  have:=ur r k f h'
  rw[e,kZ,aa,List.getElem?_append_left (by rw[mc];omega),<-aa]
  exact this
theorem tJ(f:Fr):f.cells=[.v (.string (mk f.nm)),.v (.string (mk f.ex.at)),f.ex.sp,.sl (kZ f.out)]:=by cases f;rfl
theorem Qa(e:E)(env:List Fr)(hl:env.length<1000000):∀(j k:Nat),k+j=env.length->G6 [.sl (kZ env),.v (.int .i64 ((env.length:Int)-1-(k:Int)))] [.cells [.v (.string (mk e.at)),e.sp],.cells [.v (.string (mk [])),.v (.slice none 0 0)]]
 (oB (match findF e.at (env.drop k)with|some f=>(2,[.sl (kZ f.out)],[.cells [.v (.string (mk f.ex.at)),f.ex.sp]])|none=>(1,[.sl (kZ env)],[.cells [.v (.string (mk e.at)),e.sp],.cells [.v (.string (mk [])),.v (.slice none 0 0)]])))
 |
  0,k,hk=>by
  refine P5 _ _ _ _ _ _ ?_
  have hd:env.drop k=[]:=bY (by omega)
  simp only[Hy,↓zq,zs,ae,aX,hd,findF]
  exact⟨fun h=>by omega,fun _=>by first|trivial|rfl⟩
 |
  j+1,k,hk=>by
  refine P5 _ _ _ _ _ _ ?_
  have hlt:k<env.length:=by omega
  have hg:env[k]?=some env[k]:=bp hlt
  have hc:=ur env k _ hg
  have e1:((env.length:Int)-1-(k:Int))=((env.length-1-k:Nat):Int):=by omega
  have hdr:env.drop k=env[k]::env.drop (k+1):=aM hlt
  rw[hdr,findF,e1]
  simp only[Hy,bx,hc,tJ,↓zq,zs,ae,zt,aX,mc,bC]
  refine⟨fun _=>⟨by omega,by omega,fun h=>⟨by omega,by omega,by omega,by omega,?_⟩,fun h=>?_⟩,fun h=>by omega⟩
  ·rw[if_pos h]
  ·rw[if_neg h]
   have e2:IntKind.wrap .i64 (((env.length-1-k:Nat):Int)-1)=(env.length:Int)-1-((k+1:Nat):Int):=by
    have:IntKind.wrap .i64 (((env.length-1-k:Nat):Int)-1)=((env.length-1-k:Nat):Int)-1:=wrap64 _ (by omega) (by omega)
    omega
   rw[e2]
   exact Qa e env hl j (k+1) (by omega)
theorem SE(e:E)(env:List Fr)(hl:env.length<1000000):aq Tryz.prog 100 [e.lF,.sl (kZ env)] [] (bP (.cm [(hd e env).1.lF,.sl (kZ (hd e env).2)])):=by
 rw[cT e]
 refine RY _ _ _ ((aX _).mpr trivial) ((cc _).mpr trivial) ?_
 simp only[Lx,↓zq,zs,ae,mc,bP]
 have h:=Qa e env hl env.length 0 (by omega)
 simp only[a7]at h
 rw[wrap64 _ (by omega) (by omega)]
 rw[show (env.length:Int)-1-((0:Nat):Int)=(env.length:Int)-1 by omega]at h
 refine eJ h (fun ys o e'=>?_) (fun ys o e'=>?_)
 ·unfold hd
  cases hq:findF e.at env<;>rw[hq]at e'<;>cases e'
  simp only[↓zq,zs,ae,zt,aX,cT]
 ·unfold hd
  cases hq:findF e.at env<;>rw[hq]at e'<;>cases e'
  simp only[↓zq,zs,ae,zt,aX,cT]
theorem rJ:∀env:List Fr,ck 4 (kZ env)
 |[]=>fun c hc=>by cases hc
 |
  f::r=>fun c hc=>by
  simp only[kZ,aO,aT]at hc
  rcases hc with hc|rfl
  ·exact rJ r c hc
  ·rw[tJ];rfl
theorem TG(x a b:E)(env:List Fr)(hl:env.length<1000000):aq Tryz.prog 103 [(E.list [x,a,b]).lF,.sl (kZ env)] [] (bP (.cm [b.lF,.sl (kZ (.mk a.at (.list [x,a,b]) env::env))])):=by
 refine Uz _ _ _ ((cc _).mpr trivial) ((cc _).mpr trivial) ?_
 simp only[LW,E.bE,toNat_one,bj,↓zq,zs,ae,zt,jH,gO,jt,nL,au,mc,bP,aS]
 refine⟨by omega,⟨rJ env,by omega⟩,by omega,by omega,⟨fun c hc=>(by simp at hc;rw[hc];rfl),by omega⟩,?_⟩
 simp only[kZ,tJ,Fr.nm,Fr.ex,Fr.out,E.at,E.sp,E.bE]
theorem FF(s:ByteArray)(e:E):bC [.str,.sl] [.v (.string s),e.sp] 0=True:=by apply eq_true;simp[bC,dD,aX]
theorem Hw{e:E}{env:List Fr}{t:Ty}(A:Ask e env t):∃e' o t',hd e env=(e',o)/\Ask e' o t'/\t'.Rn=false/\hd e' o=(e',o)/\o.length<=env.length:=by
 rcases gZ A.wf A.ty with⟨hb,hh⟩|⟨u,f,rfl,hh,hu⟩
 ·exact⟨e,env,t,lh hh,A,hb,lh hh,au _⟩
 ·obtain⟨x,a,b,t',hfe,hok,hx,ht',hf',hwf,hlt⟩:=qe A.wf hh
  refine⟨f.ex,f.out,t',sk hh,⟨by rw[hfe];exact hok,hwf,ht',hf'⟩,?_,?_,by omega⟩
  ·obtain⟨t1,_,_,rfl⟩:=dK hx (hfe ▸ ht');rfl
  ·rw[hfe];exact qJ hwf
def vh:Vl->List UInt8
 | .l _=>[108]
 | .r _=>[114]
 | .f _=>[102]
 | .p _ _=>[112]
 |_=>[]
theorem DZ(v:Vl):aq Tryz.prog 54 [v.cI.lF] [] (bP (.v (.string (mk (vh v))))):=by
 cases v with
 |u=>exact Bh _ _ ((bm).mpr trivial) (by simp)
 |el k=>exact Bh _ _ ((bm).mpr trivial) (by simp)
 |l v=>exact wx _ _
 |r v=>exact wx _ _
 |f v=>exact wx _ _
 |p v w=>exact wx _ _
theorem Vw(v:Vl)(hv:v.fy 100):v.cI.at=(match v with| .u=>[117]| .el k=>yp k|_=>[])/\Cq v.cI.at=(match v with| .el k=>(k:Int)|_=>-1):=by
 cases v with
 |el k=>exact⟨rfl,JC k hv⟩
 |u=>exact⟨rfl,rfl⟩
 |_=>exact⟨rfl,rfl⟩
theorem Bb(n:Nat)(hn:n<=100):∀(m:Nat) (v:Vl),v.nodes<m->v.fy 100->∀e env t,Ask e env t->env.length+v.nodes<100000->aq Tryz.prog 56 [e.lF,.sl (kZ env),v.cI.lF,.v (.int .i64 (n:Int))] [] (bP (.v (.bool (eS n v (e,env)))))
 |0,v,hm,hv,e,env,t,A,hl=>by omega
 |
  m+1,v,hm,hv,e,env,t,A,hl=>by
  obtain⟨e',o,t',hhd,A',hb,hh',hlen⟩:=Hw A
  rw[ve n v hhd hh',cT e,cT v.cI]
  refine Tu _ _ _ _ _ _ ((aX _).mpr trivial) ((cc _).mpr trivial) ((aX _).mpr trivial) ?_
  have hf:=SE e env (by omega)
  rw[cT e,hhd]at hf
  have hvh:=DZ v
  rw[cT]at hvh
  unfold Rd
  refine aj hf ?_
  simp only[cT e',↓zq,zs,ae,zt,aX,FF,bP]
  rcases ga A'.ty hb A'.cl with⟨rfl,rfl⟩|⟨rfl,rfl⟩|⟨s,rfl,rfl,hp,h0,h1⟩|⟨x,a,b,t1,t2,rfl,hx,rfl,ha,hbb⟩|⟨x,a,b,t1,t2,rfl,hx,rfl,ha,hbb⟩|⟨x,a,b,t1,rfl,hx,rfl⟩
  ·refine⟨fun _=>⟨fun h=>by simp[E.at]at h,fun _=>aj (Hc _) ?_⟩,fun h=>by simp[E.at]at h⟩
   have hp0:iw (E.atom [48]).at=false:=rfl
   have hp1:iw [48]=false:=rfl
   cases v<;>simp[↓zq,zs,ae,hp0,eS,hh',hp1]
  ·refine⟨fun _=>⟨fun _=>?_,fun h=>absurd rfl h⟩,fun h=>by simp[E.at]at h⟩
   have hp1:iw [49]=false:=rfl
   cases v<;>simp[eS,hh',hp1,Vl.cI,E.at]
  ·have hne:s≠[]:=A'.ok
   have h1':(s==[49])=false:=by simpa using h1
   refine⟨fun _=>⟨fun h=>absurd h h1,fun _=>aj (Hc _) ?_⟩,fun h=>absurd h hne⟩
   have hat:(E.atom s).at=s:=rfl
   simp only[hat,hp,↓zq,zs,ae]
   refine⟨fun _=>aj (KV _) ?_,fun h=>by cases h⟩
   simp only[↓zq,zs,ae]
   rw[wrap64 _ (by omega) (by omega)]
   refine aj (C9 _ _ _) ?_
   simp only[↓zq,zs,ae,Eo,(Vw v hv).2]
   cases v with
   |
    el k =>
    simp only[eS,hh',h1',hp,zf]
    congr 2
    rw[cK];simp;omega
   |_=>simp[eS,hh',h1']
  ·have hok:=A'.ok
   obtain⟨ok1,ok2,ok3,_⟩:=hok
   obtain⟨f1,f2⟩:=fP A'.cl
   refine⟨fun h=>absurd rfl h,fun _=>aj (wx x [a,b]) ?_⟩
   simp only[↓zq,zs,ae]
   refine aj hvh ?_
   rw[hx]
   cases v with
   |
    l w =>
    simp only[Vl.nodes]at hl
    simp only[vh,Vl.cI,E.sp,E.bE,toNat_one,bj,↓zq,zs,ae,zt,jH,gO,jt,nL,au]
    refine⟨by simp,fun _=>⟨by omega,by omega,aj (Bb n hn m w (by simp only[Vl.nodes]at hm;omega) hv a o t1 ⟨ok2,A'.wf,ha,f1⟩ (by omega)) ?_⟩,fun h=>absurd rfl h⟩
    simp[↓zq,zs,ae,eS,hh',hx]
   |
    r w =>
    simp only[Vl.nodes]at hl
    simp only[vh,Vl.cI,E.sp,E.bE,toNat_one,bj,↓zq,zs,ae,zt,jH,gO,jt,nL,au]
    refine⟨by simp,fun h=>by simp at h,fun _=>⟨fun _=>⟨by omega,by omega,aj (Bb n hn m w (by simp only[Vl.nodes]at hm;omega) hv b o t2 ⟨ok3,A'.wf,hbb,f2⟩ (by omega)) ?_⟩,fun h=>absurd rfl h⟩⟩
    simp[↓zq,zs,ae,eS,hh',hx]
   |_=>simp[vh,↓zq,zs,ae,zt,eS,hh',hx]
  ·have hok:=A'.ok
   obtain⟨ok1,ok2,ok3,_⟩:=hok
   obtain⟨f1,f2⟩:=fE A'.cl
   refine⟨fun h=>absurd rfl h,fun _=>aj (wx x [a,b]) ?_⟩
   simp only[↓zq,zs,ae]
   refine aj hvh ?_
   rw[hx]
   cases v with
   |
    p w z =>
    simp only[Vl.nodes]at hl
    simp only[vh,Vl.cI,E.sp,E.bE,toNat_one,bj,↓zq,zs,ae,zt,jH,gO,jt,nL,au]
    refine⟨by simp,fun h=>by simp at h,fun _=>⟨fun h=>by simp at h,fun _=>⟨fun _=>⟨by omega,by omega,aj (Bb n hn m w (by simp only[Vl.nodes]at hm;omega) hv.1 a o t1 ⟨ok2,A'.wf,ha,f1⟩ (by omega)) ?_⟩,fun h=>absurd rfl h⟩⟩⟩
    simp only[↓zq,zs,ae,eS,hh',hx]
    refine⟨fun h=>⟨by omega,by omega,aj (Bb n hn m z (by simp only[Vl.nodes]at hm;omega) hv.2 b o t2 ⟨ok3,A'.wf,hbb,f2⟩ (by omega)) ?_⟩,fun h=>?_⟩
    ·simp[↓zq,zs,ae,h]
    ·simp[h]
   |_=>simp[vh,↓zq,zs,ae,zt,eS,hh',hx]
  ·obtain⟨t1',he1,h1,f1,hw1⟩:=j0 A'.wf A'.ok hx A'.ty A'.cl
   cases he1
   have hok:=A'.ok
   obtain⟨ok1,ok2,ok3,_⟩:=hok
   refine⟨fun h=>absurd rfl h,fun _=>aj (wx x [a,b]) ?_⟩
   simp only[↓zq,zs,ae]
   refine aj hvh ?_
   rw[hx]
   cases v with
   |
    f w =>
    simp only[Vl.nodes]at hl
    simp only[vh,Vl.cI,E.sp,E.bE,toNat_one,bj,↓zq,zs,ae,zt,jH,gO,jt,nL,au]
    refine⟨by simp,fun h=>by simp at h,fun _=>⟨fun h=>by simp at h,fun _=>⟨fun h=>by simp at h,fun _=>⟨fun _=>aj (TG x a b o (by omega)) ?_,fun h=>absurd rfl h⟩⟩⟩⟩
    simp only[↓zq,zs,ae,AN,EF]
    refine⟨by omega,aj (Bb n hn m w (by simp only[Vl.nodes]at hm;omega) hv b (.mk a.at (.list [x,a,b]) o::o) t1 ⟨ok3,hw1,h1,f1⟩ (by simp;omega)) ?_⟩
    simp[↓zq,zs,ae,eS,hh',hx]
   |_=>simp[vh,↓zq,zs,ae,zt,eS,hh',hx]
theorem Se(n:Nat)(hn:n<=100)(v:Vl)(hv:v.fy 100)(e:E)(env:List Fr)(t:Ty)(A:Ask e env t)(hl:env.length+v.nodes<100000):aq Tryz.prog 56 [e.lF,.sl (kZ env),v.cI.lF,.v (.int .i64 (n:Int))] [] (bP (.v (.bool (eS n v (e,env))))):=Bb n hn (v.nodes+1) v (by omega) hv e env t A hl
end Go.Proofs.Trees
namespace Go.Proofs.Trees
open Go Go.VL Go.RowKit
theorem N7(l:List (List UInt8))(a:AV)(ha:cN a l)(s:List UInt8)(hl:l.length<1000000):∀(k i:Nat),i+k=l.length->Ja [a,.v (.string (mk s)),.v (.int .i64 (i:Int))] []
 (oB (if s∈l.drop i then(2,[.v (.bool true)],[])else(1,[],[])))
 |
  0,i,hi=>by
  refine Rg _ _ _ ?_
  have hd:l.drop i=[]:=bY (by omega)
  simp only[HD,↓zq,zs,ae,hd,ha.len]
  exact⟨ha.1,ha.1,fun h=>by omega,fun _=>by simp[oB]⟩
 |
  k+1,i,hi=>by
  have hlt:i<l.length:=by omega
  have hdr:l.drop i=l.getD i []::l.drop (i+1):=by
   rw[aM hlt];simp[aa,hlt]
  refine Rg _ _ _ ?_
  simp only[HD,↓zq,zs,ae,zt,ha.len,ha.idx hlt]
  refine⟨ha.1,ha.1,fun _=>⟨⟨ha.1,by omega,by omega⟩,by omega,fun h=>?_,fun h=>?_⟩,fun h=>by omega⟩
  ·rw[hdr,h];simp[oB]
  ·rw[bD i (by omega)]
   have:=N7 l a ha s hl k (i+1) (by omega)
   have e:s∈l.drop i↔s∈l.drop (i+1):=by
    rw[hdr,aI];exact⟨fun q=>q.resolve_left (fun q=>h q.symm),.inr⟩
   simp only[e];exact this
theorem yS(l:List (List UInt8))(a:AV)(ha:cN a l)(s:List UInt8)(hl:l.length<1000000):aq Tryz.prog 139 [a,.v (.string (mk s))] [] (bP (.v (.bool (decide (s∈l))))):=by
 refine Sv _ _ ha.1 ?_
 unfold Qp
 refine eJ (N7 l a ha s hl l.length 0 (by omega)) (fun ys o e=>?_) (fun ys o e=>?_)
 ·simp only[a7]at e
  split at e<;>cases e
  rename_i h
  simp[↓zq,zs,ae,bP,h]
 ·simp only[a7]at e
  split at e<;>cases e
  rename_i h
  simp[↓zq,zs,ae,bP,h]
theorem yJ(l:List (List UInt8))(a:AV)(ha:cN a l)(s:List UInt8)(hl:l.length<1000000):aq Tryz.prog 129 [a,.v (.string (mk s))] [] (di (.vec 0) [.vec 1 (bW (l++[s]))]):=by
 refine Ud _ _ ha.1 ?_
 simp only[Na,↓zq,zs,ae,ha.2,di,aS]
 have:(bW l).length=l.length:=by simp[bW]
 refine⟨⟨ha.1,lu l,by omega⟩,⟨fun c hc=>(by simp at hc;rw[hc];rfl),by omega⟩,?_⟩
 first|exact⟨rfl,by rw[GP]⟩|rw[GP]
def lA:E->List (List UInt8)->List (List UInt8)->List (List UInt8)
 | .atom s,bd,l=>if s=[48]\/s=[49]\/s∈bd\/s∈l then l else l++[s]
 | .list [x,a,b],bd,l=>if x.at=[114,101,99]then lA b (bd++[a.at]) l else lA b bd (lA a bd l)
 | .list _,_,l=>l
theorem gI:∀(e:E) (bd l:List (List UInt8)),(lA e bd l).length<=l.length+e.sz
 | .atom s,bd,l=>by rw[lA];split<;>simp[E.sz]
 | .list [],bd,l=>by simp[lA]
 | .list [_],bd,l=>by simp[lA]
 | .list [_,_],bd,l=>by simp[lA]
 | .list (_::_::_::_::_),bd,l=>by simp[lA]
 |
  .list [x,a,b],bd,l=>by
  rw[lA]
  simp only[E.sz,E.jZ]
  split
  ·have:=gI b (bd++[a.at]) l;omega
  ·have:=gI a bd l
   have:=gI b bd (lA a bd l)
   omega
theorem EN:∀(e:E) (bd l:List (List UInt8)) (a:AV),e.ok->kY e=true->cN a bd->bd.length+l.length+e.sz<100000->aq Tryz.prog 98 [e.lF,a,.vec 0] [.vec 1 (bW l)] (di (.vec 1) [.dead,.vec 1 (bW (lA e bd l))])
 |
  .atom s,bd,l,a,hok,hty,ha,hl=>by
  simp only[E.sz]at hl
  refine BK _ _ _ _ ((bm).mpr trivial) ha.1 ?_
  have hne:s≠[]:=hok
  have hll:(bW l).length=l.length:=by simp[bW]
  simp only[yy,↓zq,zs,ae,zt,di,lA]
  refine⟨fun _=>⟨fun h=>?_,fun h=>⟨fun h1=>?_,fun h1=>?_⟩⟩,fun h=>absurd h hne⟩
  ·rw[if_pos (.inl h)]
  ·rw[if_pos (.inr (.inl h1))]
  ·refine aj (yS bd a ha s (by omega)) ?_
   simp only[↓zq,zs,ae]
   refine⟨fun h2=>?_,fun h2=>aj (yS l _ (.of l) s (by omega)) ?_⟩
   ·rw[if_pos (.inr (.inr (.inl h2)))]
   ·simp only[↓zq,zs,ae]
    refine⟨fun h3=>?_,fun h3=>⟨⟨fun c hc=>(by simp at hc;rw[hc];rfl),by omega⟩,?_⟩⟩
    ·rw[if_pos (.inr (.inr (.inr h3)))]
    ·rw[GP,if_neg]
     rintro(q|q|q|q)
     ·exact h q
     ·exact h1 q
     ·exact h2 q
     ·exact h3 q
 | .list [],_,_,_,_,h,_,_=>by cases h
 | .list [_],_,_,_,_,h,_,_=>by cases h
 | .list [_,_],_,_,_,_,h,_,_=>by cases h
 | .list (_::_::_::_::_),_,_,_,_,h,_,_=>by cases h
 |
  .list [x,y,z],bd,l,a,hok,hty,ha,hl=>by
  simp only[E.sz,E.jZ]at hl
  obtain⟨ok1,ok2,ok3,_⟩:=hok
  refine BK _ _ _ _ ((cc _).mpr trivial) ha.1 ?_
  simp only[yy,E.bE,toNat_one,bj,↓zq,zs,ae,zt,jH,gO,jt,nL,au,di]
  refine⟨fun h=>absurd rfl h,fun _=>aj (wx x [y,z]) ?_⟩
  simp only[↓zq,zs,ae,zt]
  have hyl:=gI y bd l
  rw[kY]at hty
  refine⟨fun h=>⟨by omega,by omega,by omega,aY (yJ bd a ha y.at (by omega)) ?_⟩,fun h=>⟨by omega,by omega,?_⟩⟩
  ·have hz:kY z=true:=by
    rw[if_neg (by rw[h];decide),if_neg (by rw[h];decide),if_pos h]at hty
    simp only[aA]at hty;exact hty.2
   simp only[↓zq,zs,ae,Ob.es,aK]
   refine⟨cW _,?_⟩
   refine aY (EN z (bd++[y.at]) l _ ok3 hz (.of _) (by simp;omega)) ?_
   simp only[↓zq,zs,ae]
   rw[lA,if_pos h]
  ·have hyz:kY y=true/\kY z=true:=by
    split at hty
    ·simpa using hty
    ·split at hty
     ·simpa using hty
     ·cases hty
   refine aY (EN y bd l a ok2 hyz.1 ha (by omega)) ?_
   simp only[↓zq,zs,ae]
   refine aY (EN z bd (lA y bd l) a ok3 hyz.2 ha (by omega)) ?_
   simp only[↓zq,zs,ae]
   rw[lA,if_neg h]
theorem lC{s:List UInt8}(h:iw s=true):dy s=false:=by
 cases hq:dy s with
 |false=>rfl
 |
  true =>
  obtain⟨c,r,rfl,h1,h2⟩:=mG h
  obtain⟨c',r',he,h3,h4⟩:=mG hq
  cases he;omega
theorem nZ(s:List UInt8)(ar:List (List UInt8)):∀i,i<=ar.length->(bT s ar i=none↔s∉ar.take i)
 |0,_=>by simp[bT]
 |
  i+1,hi=>by
  have hlt:i<ar.length:=by omega
  have e:ar.getD i []=ar[i]:=by simp[aa,hlt]
  have e2:s∈ar.take (i+1)↔s∈ar.take i\/s=ar[i]:=by
   rw[show ar.take (i+1)=ar.take i++[ar[i]] from (List.take_append_getElem hlt).symm]
   simp only[aO,aT]
  rw[bT,e,e2]
  by_cases h:ar[i]=s
  ·rw[if_pos h]
   exact⟨fun h=>(by cases h),fun h'=>absurd (.inr h.symm) h'⟩
  ·rw[if_neg h,nZ s ar i (by omega)]
   exact⟨fun h1 h2=>h2.elim h1 (fun h3=>h h3.symm),fun h1 h2=>h1 (.inl h2)⟩
theorem mB:∀(e:E) (ar l:List (List UInt8)) (t:Ty),cZ e ar=some t->(∀w,w∈ar->dy w=true)->(lA e ar l).any dy=(l.any dy||cg t)
 |
  .atom s,ar,l,t,h,har=>by
  simp only[cZ]at h
  rw[lA]
  split at h
  ·rename_i h0;cases h;rw[if_pos (.inl h0)];simp[cg]
  ·rename_i h0
   split at h
   ·rename_i h1;cases h;rw[if_pos (.inr (.inl h1))];simp[cg]
   ·rename_i h1
    split at h
    ·rename_i h2
     cases h
     have hn:=lC h2
     simp only[cg,hn]
     split
     ·simp
     ·simp[hn]
    ·split at h
     ·rename_i h2 h3
      have hlo:=nZ s ar ar.length (au _)
      rw[List.take_length]at hlo
      cases hq:bT s ar ar.length with
      |
       some u =>
       rw[hq]at h;cases h
       have hm:s∈ar:=Classical.byContradiction fun hm=>by rw[hlo.2 hm]at hq;cases hq
       rw[if_pos (.inr (.inr (.inl hm)))];simp[cg]
      |
       none =>
       rw[hq]at h;cases h
       have hm:=hlo.1 hq
       simp only[cg,h3,Bool.or_true]
       split
       ·rename_i hh
        rcases hh with q|q|q|q
        ·exact absurd q h0
        ·exact absurd q h1
        ·exact absurd q hm
        ·rw[cA];exact⟨s,q,h3⟩
       ·simp[h3]
     ·cases h
 | .list [],_,_,_,h,_=>by cases h
 | .list [_],_,_,_,h,_=>by cases h
 | .list [_,_],_,_,_,h,_=>by cases h
 | .list (_::_::_::_::_),_,_,_,h,_=>by cases h
 |
  .list [x,a,b],ar,l,t,h,har=>by
  rw[lA]
  by_cases h0:x.at=[43]
  ·obtain⟨t1,t2,e1,e2,rfl⟩:=gf h0 h
   rw[if_neg (by rw[h0];decide),mB b ar _ t2 e2 har,mB a ar l t1 e1 har,cg,Bool.or_assoc]
  ·by_cases h1:x.at=[42]
   ·obtain⟨t1,t2,e1,e2,rfl⟩:=fH h1 h
    rw[if_neg (by rw[h1];decide),mB b ar _ t2 e2 har,mB a ar l t1 e1 har,cg,Bool.or_assoc]
   ·by_cases h2:x.at=[114,101,99]
    ·obtain⟨t1,hl,e1,rfl⟩:=dK h2 h
     rw[if_pos h2,mB b _ l t1 e1 (fun w hw=>by
      simp only[aO,aT]at hw
      rcases hw with hw|rfl
      ·exact har w hw
      ·exact hl),cg]
    ·rw[jK _ h0 h1 h2]at h;cases h
def kh(s:List UInt8):Option E:=match xR s with
 |none=>none
 |some e=>if(lA e [] []).any dy=true then none else some e
theorem B8{s:List UInt8}:yN s=match kh s with|none=>none|some e=>cZ e []:=by
 unfold yN kh
 rw[vm]
 cases he:xR s with
 |none=>rfl
 |
  some e =>
  obtain⟨h1,h2,h3⟩:=qK he
  have hs:=jC e []
  rw[h2]at hs
  obtain⟨t,ht⟩:=bb.1 hs
  have ha:=mB e [] [] t ht (fun w hw=>by cases hw)
  simp only[ht,uM,ha,List.any_nil,Bool.false_or]
  cases hf:cg t<;>simp[ht]
theorem iJ{s:List UInt8}{e:E}(h:kh s=some e):∃t,yN s=some t/\Ask e [] t/\kY e=true/\e.sz<=8000/\t.atoms<=400/\sw s=some e:=by
 have h0:=h
 unfold kh at h
 split at h
 ·cases h
 ·rename_i e' he
  split at h
  ·cases h
  ·rename_i hn
   cases h
   obtain⟨h1,h2,h3⟩:=qK he
   obtain⟨hok,hsz⟩:=pj h1
   have hs:=jC e []
   rw[h2]at hs
   obtain⟨t,ht⟩:=bb.1 hs
   have ha:=mB e [] [] t ht (fun w hw=>by cases hw)
   rw[ha]at hn
   refine⟨t,by rw[B8,h0];exact ht,⟨hok,.nil,ht,by simpa using hn⟩,h2,hsz,?_,h1⟩
   rw[<-kS e [] t ht];exact h3
theorem n8{s:List UInt8}(h:kh s=none):yN s=none:=by rw[B8,h]
theorem Ph(e:E)(l:List (List UInt8))(hl:l.length<1000000):∀(k i:Nat),i+k=l.length->Hb [.v (.int .i64 (i:Int))] [.cells [.v (.string (mk [])),.v (.slice none 0 0)],.cells [.v (.string (mk e.at)),e.sp],.vec 1 (bW l)]
 (oB (if(l.drop i).any dy=true then(2,[.v (.bool false)],[.cells [.v (.string (mk e.at)),e.sp]])else(1,[],[.cells [.v (.string (mk [])),.v (.slice none 0 0)],.cells [.v (.string (mk e.at)),e.sp]])))
 |
  0,i,hi=>by
  refine QC _ _ _ _ _ _ ?_
  have hd:l.drop i=[]:=bY (by omega)
  have hll:(bW l).length=l.length:=by simp[bW]
  simp only[HC,↓zq,zs,ae,hd,hll,aX]
  exact⟨fun h=>by omega,fun _=>by simp[oB]⟩
 |
  k+1,i,hi=>by
  have hlt:i<l.length:=by omega
  have hll:(bW l).length=l.length:=by simp[bW]
  have hdr:l.drop i=l.getD i []::l.drop (i+1):=by
   rw[aM hlt];simp[aa,hlt]
  have hg:=(cN.of l).idx hlt
  simp only[fJ]at hg
  refine QC _ _ _ _ _ _ ?_
  simp only[HC,↓zq,zs,ae,zt,hll,hg,aX]
  refine⟨fun _=>⟨by omega,by omega,aj (KD _) ?_⟩,fun h=>by omega⟩
  simp only[↓zq,zs,ae,hdr,List.any_cons]
  refine⟨fun h=>?_,fun h=>?_⟩
  ·rw[h];simp[oB]
  ·rw[h,bD i (by omega)]
   simp only[Bool.false_or]
   exact Ph e l hl k (i+1) (by omega)
theorem IK(s:List UInt8):aq Tryz.prog 53 [.v (.string (mk s))] [] (iT (kh s) (kh s).isSome):=by
 refine Sm _ ?_
 unfold PH
 refine aQ (HI s) (iT.ne _ _ (fun h=>h)) ?_
 rintro r o ⟨c,d,hd,rfl,hh⟩
 have hhas:bC [.str,.sl] [.v (.string (mk c)),d] 0:=by simp[bC,dD,hd]
 simp only[↓zq,zs,ae,zt]
 refine⟨hhas,fun h=>?_,fun h=>?_⟩
 ·have hn:xR s=none:=by cases hq:xR s<;>simp[hq]at h |-
  unfold kh
  rw[hn]
  exact⟨c,d,hd,rfl,fun h=>by cases h⟩
 ·obtain⟨e,he,hce⟩:=hh h
  obtain⟨h1,h2,h3⟩:=qK he
  obtain⟨hok,hsz⟩:=pj h1
  have hce':=hce
  rw[cT]at hce'
  simp only[AV.agg.injEq,List.cons.injEq,AV.v.injEq,Value.string.injEq,and_true]at hce'
  obtain⟨hc1,rfl⟩:=hce'
  have hc2:=mk_inj hc1
  subst hc2
  rw[<-cT]
  refine aY (EN e [] [] _ hok h2 (.of []) (by simp;omega)) ?_
  have hfl:=gI e [] []
  simp only[↓zq,zs,ae]
  have hLS:=Ph e (lA e [] []) (by simp at hfl;omega) (lA e [] []).length 0 (by omega)
  simp only[a7]at hLS
  unfold kh
  rw[he]
  refine eJ hLS (fun ys o e'=>?_) (fun ys o e'=>?_)
  ·split at e'<;>cases e'
   rename_i hn
   simp only[↓zq,zs,ae,aX,if_neg hn]
   exact⟨e.at,e.sp,hd,rfl,fun _=>⟨e,rfl,(cT e).symm⟩⟩
  ·split at e'<;>cases e'
   rename_i hn
   simp only[↓zq,zs,ae,aX,if_pos hn]
   exact⟨e.at,e.sp,hd,rfl,fun h=>by cases h⟩
def mn(s v:List UInt8)(n:Int):Option Vl:=match kh s,rM v with
 |some e,some w=>if(0<=n/\n<=100)/\eS n.toNat w (e,[])=true then some w else none
 |_,_=>none
theorem qw{s v:List UInt8}{n:Int}{w:Vl}(h:mn s v n=some w):∃e t m,kh s=some e/\rM v=some w/\yN s=some t/\Ask e [] t/\n=(m:Nat)/\m<=100/\eS m w (e,[])=true:=by
 unfold mn at h
 split at h
 ·rename_i e w' he hw
  split at h
  ·rename_i hh
   cases h
   obtain⟨t,h1,h2,_⟩:=iJ he
   exact⟨e,t,n.toNat,he,hw,h1,h2,by omega,by omega,hh.2⟩
  ·cases h
 ·cases h
theorem Ma(s v:List UInt8)(n:Int):aq Tryz.prog 41 [.v (.string (mk s)),.v (.string (mk v)),.v (.int .i64 n)] [] (bP (.cm [iQ (yN s),je (mn s v n)])):=by
 refine UT _ _ _ ?_
 unfold P8
 refine aj (LL s) ?_
 simp only[↓zq,zs,ae,ja]
 refine aj (Uw v) ?_
 simp only[↓zq,zs,ae,fW,bP]
 unfold mn
 cases he:kh s with
 |none=>rw[n8 he];cases rM v<;>simp[iQ,je,↓zq,zs,ae]
 |
  some e =>
  obtain⟨t,h1,h2,h3,h4,h5,_⟩:=iJ he
  rw[h1]
  cases hv:rM v with
  |none=>simp only[iQ,je,aF,gj,↓zq,zs,ae];exact⟨fun h=>(by cases h),fun _=>⟨fun _=>trivial,fun h=>(by cases h)⟩⟩
  |
   some w =>
   obtain⟨h6,h7,h8⟩:=mA hv
   simp only[iQ,je,aF,gj,aP,fB,↓zq,zs,ae]
   refine⟨fun h=>(by cases h),fun _=>⟨fun h=>(by cases h),fun _=>⟨fun h=>?_,fun h=>⟨fun h'=>?_,fun h'=>?_⟩⟩⟩⟩
   ·rw[if_neg (by omega)]
   ·rw[if_neg (by omega)]
   ·obtain⟨m,rfl⟩:∃m:Nat,n=(m:Int):=⟨n.toNat,by omega⟩
    have hi:=Mw m (by omega) (w.nodes+1) w (by omega) h7 e [] t h2 (by simp;omega)
    unfold rB at hi
    refine aj hi ?_
    simp only[↓zq,zs,ae,bx]
    refine⟨fun hq=>?_,fun hq=>?_⟩
    ·rw[if_neg (by rw[hq];simp)]
    ·rw[if_pos ⟨by omega,hq⟩]
theorem F7(s v:List UInt8)(n:Int):aq Tryz.prog 27 [.v (.string (mk s)),.v (.string (mk v)),.v (.int .i64 n)] [] (bP (.v (.bool (mn s v n).isSome))):=by
 refine Ve _ _ _ ?_
 unfold O2
 refine aQ (IK s) (iT.ne _ _ (fun h=>h)) ?_
 rintro r o ⟨c,d,hd,rfl,hh⟩
 have hhas:bC [.str,.sl] [.v (.string (mk c)),d] 0:=by simp[bC,dD,hd]
 simp only[↓zq,zs,ae,zt]
 refine⟨hhas,?_⟩
 refine aQ (Jr v) (iT.ne _ _ (fun h=>by cases hq:rM v<;>simp[hq]at h |-)) ?_
 rintro r o ⟨c',d',hd',rfl,hh'⟩
 have hhas':bC [.str,.sl] [.v (.string (mk c')),d'] 0:=by simp[bC,dD,hd']
 simp only[↓zq,zs,ae,zt,bP]
 refine⟨hhas',fun h=>⟨fun h2=>?_,fun h2=>?_⟩,fun h=>?_⟩
 ·obtain⟨e,he,hce⟩:=hh h
  obtain⟨t,h1,hA,h3,h4,h5,_⟩:=iJ he
  obtain⟨w,hw⟩:=bb.1 h2
  obtain⟨e2,he2,hce2⟩:=hh' h2
  rw[hw]at he2
  cases he2
  obtain⟨h6,h7,h8⟩:=mA hw
  refine aj (C9 _ _ _) ?_
  simp only[↓zq,zs,ae,Eo,mn,he,hw]
  refine⟨fun hq=>?_,fun hq=>?_⟩
  ·have hq':0<=n/\n<=100:=by simpa using hq
   obtain⟨m,rfl⟩:∃m:Nat,n=(m:Int):=⟨n.toNat,by omega⟩
   rw[hce,hce2]
   have:=Se m (by omega) w h7 e [] t hA (by simp;omega)
   rw[show kZ []=[] from rfl]at this
   refine aj this ?_
   simp only[↓zq,zs,ae,bx]
   by_cases hb:eS m w (e,[])=true
   ·rw[if_pos ⟨hq',hb⟩,hb];rfl
   ·rw[if_neg (fun h=>hb h.2)]
    rw[Bool.not_eq_true]at hb
    rw[hb];rfl
  ·have hq':¬(0<=n/\n<=100):=by simpa using hq
   rw[if_neg (fun h=>hq' h.1)];rfl
 ·have hn:rM v=none:=by cases hq:rM v<;>simp[hq]at h2 |-
  unfold mn
  rw[hn];cases kh s<;>rfl
 ·have hn:kh s=none:=by cases hq:kh s<;>simp[hq]at h |-
  unfold mn
  rw[hn];rfl
end Go.Proofs.Trees
namespace Go.Proofs.Trees
open Go Go.VL Go.RowKit
inductive Tg where
 |nm (s:List UInt8)
 |bd (k:Nat)
 deriving DecidableEq
def Tg.up:Tg->Tg
 | .nm s=>.nm s
 | .bd k=>.bd (k+1)
def dY:Ty->Tg->Bool
 | .name s,.nm s'=>decide (s=s')
 | .bound u,.bd k=>decide (u=k)
 |_,_=>false
abbrev Hl:=Vl×Vl
def fw(g:Vl->Vl)(l:List Hl):List Hl:=l.map fun h=>(g h.1,h.2)
def jd(f:Ty->Tg->Vl->List Hl)(tg:Tg):Ty->Vl->List Hl
 | .plus a _,.l w=>fw .l (f a tg w)
 | .plus _ b,.r w=>fw .r (f b tg w)
 | .times a b,.p x y=>fw (fun c=>.l (.p c y)) (f a tg x)++fw (fun c=>.r (.p x c)) (f b tg y)
 | .rc a,.f w=>fw (fun c=>.f (.l c)) (f a tg.up w)++(f a (.bd 0) w).flatMap fun h=>fw (fun c=>.f (.r (.p h.1 c))) (f (.rc a) tg h.2)
 |_,_=>[]
def dA:Nat->Ty->Tg->Vl->List Hl
 |0,_,_,_=>[]
 |n+1,t,tg,v=>if dY t tg=true then [(.u,v)]else jd (dA n) tg t v
def stuck:Ty->Vl->Bool
 | .plus _ _,.l _=>false
 | .plus _ _,.r _=>false
 | .times _ _,.p _ _=>false
 | .rc _,.f _=>false
 |_,_=>true
def bR(t:Ty)(tg:Tg)(v:Vl):List Hl:=dA v.nodes t tg v
theorem cM{g:Vl->Vl}{l:List Hl}{h:Hl}(hm:h∈fw g l):∃k,k∈l/\h=(g k.1,k.2):=by
 obtain⟨k,h1,h2⟩:=bM.1 hm
 exact⟨k,h1,h2.symm⟩
theorem jy{f g:Hl->List Hl}:∀{l:List Hl},(∀h,h∈l->f h=g h)->l.flatMap f=l.flatMap g
 |[],_=>rfl
 |h::l,hl=>by rw[bU,bU,hl h ak,jy (l:=l) fun k hk=>hl k (al _ hk)]
theorem fI:∀(n:Nat) (t:Ty) (tg:Tg) (v:Vl) (h:Hl),h∈dA n t tg v->h.2.nodes<=v.nodes/\h.1.nodes+4*h.2.nodes<=4*v.nodes+1
 |0,t,tg,v,h,hm=>by simp[dA]at hm
 |
  n+1,t,tg,v,h,hm=>by
  unfold dA at hm
  split at hm
  ·simp only[aT]at hm
   subst hm
   simp only[Vl.nodes];omega
  ·unfold jd at hm
   split at hm
   ·obtain⟨k,h1,rfl⟩:=cM hm
    have:=fI n _ _ _ k h1
    simp only[Vl.nodes];omega
   ·obtain⟨k,h1,rfl⟩:=cM hm
    have:=fI n _ _ _ k h1
    simp only[Vl.nodes];omega
   ·rcases aO.1 hm with hm|hm
    ·obtain⟨k,h1,rfl⟩:=cM hm
     have:=fI n _ _ _ k h1
     simp only[Vl.nodes];omega
    ·obtain⟨k,h1,rfl⟩:=cM hm
     have:=fI n _ _ _ k h1
     simp only[Vl.nodes];omega
   ·rcases aO.1 hm with hm|hm
    ·obtain⟨k,h1,rfl⟩:=cM hm
     have:=fI n _ _ _ k h1
     simp only[Vl.nodes];omega
    ·obtain⟨k,h1,h2⟩:=dk.1 hm
     obtain⟨k2,h3,rfl⟩:=cM h2
     have:=fI n _ _ _ k h1
     have:=fI n _ _ _ k2 h3
     simp only[Vl.nodes];omega
   ·simp at hm
theorem iG:∀(n m:Nat) (t:Ty) (tg:Tg) (v:Vl),v.nodes<=n->v.nodes<=m->dA n t tg v=dA m t tg v
 |0,m,t,tg,v,h,_=>by have:=cB v;omega
 |n+1,0,t,tg,v,_,h=>by have:=cB v;omega
 |
  n+1,m+1,t,tg,v,hn,hm=>by
  rw[dA,dA]
  split
  ·rfl
  ·unfold jd
   split
   ·simp only[Vl.nodes]at hn hm;rw[iG n m _ _ _ (by omega) (by omega)]
   ·simp only[Vl.nodes]at hn hm;rw[iG n m _ _ _ (by omega) (by omega)]
   ·simp only[Vl.nodes]at hn hm;rw[iG n m _ _ _ (by omega) (by omega),iG n m _ _ _ (by omega) (by omega)]
   ·rename_i a w
    simp only[Vl.nodes]at hn hm;rw[iG n m _ _ _ (by omega) (by omega),iG n m _ (.bd 0) _ (by omega) (by omega)]
    congr 1
    apply jy
    intro h hh
    have:=(fI _ _ _ _ _ hh).1
    rw[iG n m _ _ _ (by omega) (by omega)]
   ·rfl
theorem pN{n:Nat}(t:Ty)(tg:Tg){v:Vl}(h:v.nodes<=n):dA n t tg v=bR t tg v:=iG _ _ _ _ _ h (au _)
theorem kV{t:Ty}{tg:Tg}(v:Vl)(h:dY t tg=true):bR t tg v=[(.u,v)]:=by
 have:=cB v
 unfold bR
 cases e:v.nodes with
 |zero=>omega
 |succ n=>rw[dA,if_pos h]
theorem jM(a b:Ty)(tg:Tg)(w:Vl):bR (.plus a b) tg (.l w)=fw .l (bR a tg w):=by
 unfold bR;rw[show (Vl.l w).nodes=w.nodes+1 by simp[Vl.nodes];omega,dA,if_neg (by simp[dY])];rfl
theorem jR(a b:Ty)(tg:Tg)(w:Vl):bR (.plus a b) tg (.r w)=fw .r (bR b tg w):=by
 unfold bR;rw[show (Vl.r w).nodes=w.nodes+1 by simp[Vl.nodes];omega,dA,if_neg (by simp[dY])];rfl
theorem gH(a b:Ty)(tg:Tg)(x y:Vl):bR (.times a b) tg (.p x y)=fw (fun c=>.l (.p c y)) (bR a tg x)++fw (fun c=>.r (.p x c)) (bR b tg y):=by
 rw[bR,show (Vl.p x y).nodes=(x.nodes+y.nodes)+1 by simp[Vl.nodes];omega,dA,if_neg (by simp[dY])]
 rw[jd,pN a tg (by omega),pN b tg (by omega)]
theorem gJ(a:Ty)(tg:Tg)(w:Vl):bR (.rc a) tg (.f w)=fw (fun c=>.f (.l c)) (bR a tg.up w)++(bR a (.bd 0) w).flatMap fun h=>fw (fun c=>.f (.r (.p h.1 c))) (bR (.rc a) tg h.2):=by
 rw[bR,show (Vl.f w).nodes=w.nodes+1 by simp[Vl.nodes];omega,dA,if_neg (by simp[dY])]
 rw[jd,pN a tg.up (au _),pN a (.bd 0) (au _)]
 congr 1
 apply jy
 intro h hh
 have:=(fI _ _ _ _ _ hh).1
 rw[pN (.rc a) tg this]
theorem dF{t:Ty}{tg:Tg}{v:Vl}(h:dY t tg=false)(h2:stuck t v=true):bR t tg v=[]:=by
 unfold bR
 cases e:v.nodes with
 |zero=>rfl
 |
  succ n =>
  rw[dA,if_neg (by rw[h];simp)]
  unfold jd
  split<;>first|(simp[stuck]at h2;done)|rfl
theorem gu{t:Ty}{tg:Tg}{v:Vl}{h:Hl}(hm:h∈bR t tg v):h.2.nodes<=v.nodes/\h.1.nodes+4*h.2.nodes<=4*v.nodes+1:=fI _ _ _ _ _ hm
theorem iF(n:Nat):∀(m:Nat) (t:Ty) (tg:Tg) (v:Vl) (h:Hl),v.fy n->h∈dA m t tg v->h.1.fy n/\h.2.fy n
 |0,t,tg,v,h,hv,hm=>by simp[dA]at hm
 |
  m+1,t,tg,v,h,hv,hm=>by
  unfold dA at hm
  split at hm
  ·simp only[aT]at hm
   subst hm
   exact⟨trivial,hv⟩
  ·unfold jd at hm
   split at hm
   ·obtain⟨k,h1,rfl⟩:=cM hm
    exact(fun q=>iF n m _ _ _ k q h1) hv
   ·obtain⟨k,h1,rfl⟩:=cM hm
    exact(fun q=>iF n m _ _ _ k q h1) hv
   ·rcases aO.1 hm with hm|hm
    ·obtain⟨k,h1,rfl⟩:=cM hm
     obtain⟨q1,q2⟩:=iF n m _ _ _ k hv.1 h1
     exact⟨⟨q1,hv.2⟩,q2⟩
    ·obtain⟨k,h1,rfl⟩:=cM hm
     obtain⟨q1,q2⟩:=iF n m _ _ _ k hv.2 h1
     exact⟨⟨hv.1,q1⟩,q2⟩
   ·rcases aO.1 hm with hm|hm
    ·obtain⟨k,h1,rfl⟩:=cM hm
     exact(fun q=>iF n m _ _ _ k q h1) hv
    ·obtain⟨k,h1,h2⟩:=dk.1 hm
     obtain⟨k2,h3,rfl⟩:=cM h2
     obtain⟨q1,q2⟩:=(fun q=>iF n m _ _ _ k q h1) hv
     obtain⟨q3,q4⟩:=iF n m _ _ _ k2 q2 h3
     exact⟨⟨q1,q3⟩,q4⟩
   ·simp at hm
def jE(l:List Hl):Nat:=(l.map fun h=>h.2.nodes).sum
theorem sC(l r:List Hl):jE (l++r)=jE l+jE r:=by simp[jE]
theorem qd(g:Vl->Vl)(l:List Hl):jE (fw g l)=jE l:=by simp[jE,fw,Function.comp_def]
def lH(f:Tg->Nat)(T:List Tg):Nat:=(T.map f).sum
theorem pI(f g:Tg->Nat):∀T:List Tg,lH (fun x=>f x+g x) T=lH f T+lH g T
 |[]=>rfl
 |x::T=>by have:=pI f g T;simp only[lH,bo,List.sum_cons]at this |-;omega
theorem zW{f g:Tg->Nat}:∀{T:List Tg},(∀x,x∈T->f x<=g x)->lH f T<=lH g T
 |[],_=>au _
 |
  x::T,h=>by
  have:=zW (T:=T) fun y hy=>h y (al _ hy)
  have:=h x ak
  simp only[lH,bo,List.sum_cons]at *;omega
theorem qO{f:Tg->Nat}:∀{T:List Tg},(∀x,x∈T->f x=0)->lH f T=0
 |[],_=>rfl
 |
  x::T,h=>by
  have:=qO (T:=T) fun y hy=>h y (al _ hy)
  have:=h x ak
  simp only[lH,bo,List.sum_cons]at *;omega
theorem uy(g:Hl->Tg->Nat)(T:List Tg):∀l:List Hl,lH (fun x=>(l.map fun h=>g h x).sum) T=(l.map fun h=>lH (g h) T).sum
 |[]=>qO fun _ _=>rfl
 |
  h::l=>by
  have:=uy g T l
  simp only[bo,List.sum_cons]
  rw[pI,this]
theorem uX(f:Hl->List Hl):∀l:List Hl,jE (l.flatMap f)=(l.map fun h=>jE (f h)).sum
 |[]=>rfl
 |h::l=>by rw[bU,sC,uX f l];simp
theorem CW{f g:Hl->Nat}:∀{l:List Hl},(∀x,x∈l->f x<=g x)->(l.map f).sum<=(l.map g).sum
 |[],_=>au _
 |
  x::l,h=>by
  have:=CW (l:=l) fun y hy=>h y (al _ hy)
  have:=h x ak
  simp only[bo,List.sum_cons]at *;omega
theorem Du{t:Ty}{x y:Tg}(h:dY t x=true)(h':dY t y=true):x=y:=by
 cases t<;>cases x<;>cases y<;>simp[dY]at h h'<;>simp_all
theorem AK{t:Ty}(n:Nat):∀{T:List Tg},T.Nodup->lH (fun x=>if dY t x=true then n else 0) T<=n
 |[],_=>dQ _
 |
  x::T,h=>by
  obtain⟨h1,h2⟩:=List.nodup_cons.1 h
  have ih:=AK (t:=t) n h2
  by_cases hx:dY t x=true
  ·have:lH (fun x=>if dY t x=true then n else 0) T=0:=qO fun y hy=>by
    rw[if_neg fun hy'=>h1 (by rw[Du hx hy'];exact hy)]
   simp only[lH,bo,List.sum_cons]at *
   rw[if_pos hx];omega
  ·simp only[lH,bo,List.sum_cons]at *
   rw[if_neg hx];omega
theorem CG{T:List Tg}(h:T.Nodup):(Tg.bd 0::T.map Tg.up).Nodup:=by
 refine List.nodup_cons.2 ⟨fun hm=>?_,?_⟩
 ·obtain⟨x,_,e⟩:=bM.1 hm
  cases x<;>simp[Tg.up]at e
 ·refine List.Pairwise.map _ (fun a b hab e=>hab ?_) h
  cases a<;>cases b<;>simp[Tg.up]at e<;>simp_all
theorem apart:∀(n:Nat) (v:Vl),v.nodes<=n->∀(t:Ty) (T:List Tg),T.Nodup->lH (fun x=>jE (bR t x v)) T<=v.nodes
 |0,v,h=>by have:=cB v;omega
 |
  n+1,v,hn=>by
  intro t T hT
  have base:∀(hno:∀x,dY t x=false->bR t x v=[]),lH (fun x=>jE (bR t x v)) T<=v.nodes:=fun hno=>by
   refine Nat.le_trans (zW fun x _=>?_) (AK (t:=t) v.nodes hT)
   cases e:dY t x with
   |true=>rw[kV v e];simp[jE]
   |false=>rw[hno x e];simp[jE]
  cases hm:stuck t v with
  |true=>exact base fun x hx=>dF hx hm
  |
   false =>
   unfold stuck at hm
   split at hm
   ·rename_i a b w
    simp only[Vl.nodes]at hn |-
    simp only[jM,qd]
    have:=apart n w (by omega) a T hT
    omega
   ·rename_i a b w
    simp only[Vl.nodes]at hn |-
    simp only[jR,qd]
    have:=apart n w (by omega) b T hT
    omega
   ·rename_i a b x y
    simp only[Vl.nodes]at hn |-
    simp only[gH,sC,qd]
    rw[pI]
    have:=apart n x (by omega) a T hT
    have:=apart n y (by omega) b T hT
    omega
   ·rename_i a w
    simp only[Vl.nodes]at hn |-
    simp only[gJ,sC,qd,uX]
    rw[pI,uy]
    have h1:=apart n w (by omega) a _ (CG hT)
    simp only[lH,bo,List.sum_cons,List.map_map]at h1
    have h2:((bR a (.bd 0) w).map fun h=>lH (fun x=>jE (bR (.rc a) x h.2)) T).sum<=jE (bR a (.bd 0) w):=CW fun h hh=>by
     have:=(gu hh).1
     exact apart n h.2 (by omega) (.rc a) T hT
    simp only[lH,Function.comp_def]at h1 h2 |-
    omega
   ·cases hm
theorem tz(t:Ty)(tg:Tg)(v:Vl):jE (bR t tg v)<=v.nodes:=by
 have:=apart v.nodes v (au _) t [tg] (by simp)
 simpa[lH]using this
theorem mf:∀l:List Hl,l.length<=jE l
 |[]=>dQ _
 |
  h::l=>by
  have:=mf l
  have:=cB h.2
  simp only[jE,bo,List.sum_cons,aw]at *;omega
theorem oe(t:Ty)(tg:Tg)(v:Vl):(bR t tg v).length<=v.nodes:=Nat.le_trans (mf _) (tz t tg v)
end Go.Proofs.Trees
namespace Go.Proofs.Trees
open Go Go.VL Go.RowKit
def gR(ar:List (List UInt8))(k:Nat):List UInt8:=ar.getD (ar.length-1-k) []
theorem gb{s:List UInt8}{ar:List (List UInt8)}:∀(i u:Nat),i<=ar.length->bT s ar i=some u->u<ar.length/\gR ar u=s
 |0,u,_,h=>by cases h
 |
  i+1,u,hi,h=>by
  rw[bT]at h
  split at h
  ·rename_i e
   cases h
   refine⟨by omega,?_⟩
   rw[gR,show ar.length-1-(ar.length-1-i)=i by omega];exact e
  ·exact gb i u (by omega) h
def wA:Ty->Tg->Bool
 | .plus a b,tg=>wA a tg||wA b tg
 | .times a b,tg=>wA a tg||wA b tg
 | .rc a,tg=>wA a tg.up
 |t,tg=>dY t tg
theorem jA:∀(n:Nat) (v:Vl),v.nodes<=n->∀(t:Ty) (tg:Tg),wA t tg=false->bR t tg v=[]
 |0,v,h=>by have:=cB v;omega
 |
  n+1,v,hn=>by
  intro t tg ho
  cases hm:stuck t v with
  |
   true =>
   refine dF ?_ hm
   cases t<;>first|exact ho|rfl
  |
   false =>
   unfold stuck at hm
   split at hm
   ·simp only[Vl.nodes]at hn
    simp only[wA,ct]at ho
    rw[jM,jA n _ (by omega) _ _ ho.1];rfl
   ·simp only[Vl.nodes]at hn
    simp only[wA,ct]at ho
    rw[jR,jA n _ (by omega) _ _ ho.2];rfl
   ·simp only[Vl.nodes]at hn
    simp only[wA,ct]at ho
    rw[gH,jA n _ (by omega) _ _ ho.1,jA n _ (by omega) _ _ ho.2];rfl
   ·rename_i a w
    simp only[Vl.nodes]at hn
    have ho':wA a tg.up=false:=ho
    rw[gJ,jA n _ (by omega) _ _ ho']
    have:(bR a (.bd 0) w).flatMap (fun h=>fw (fun c=>.f (.r (.p h.1 c))) (bR (.rc a) tg h.2))=(bR a (.bd 0) w).flatMap (fun _=>[]):=jy fun h hh=>by
     have:=(gu hh).1
     rw[jA n h.2 (by omega) (.rc a) tg ho];rfl
    rw[this]
    induction bR a (.bd 0) w<;>simp_all[fw]
   ·cases hm
theorem lW:∀(e:E) (ar:List (List UInt8)) (t:Ty) (k:Nat),cZ e ar=some t->wA t (.bd k)=true->k<ar.length/\bT (gR ar k) ar ar.length=some k
 |
  .atom s,ar,t,k,ht,ho=>by
  simp only[cZ]at ht
  split at ht
  ·cases ht;cases ho
  ·split at ht
   ·cases ht;cases ho
   ·split at ht
    ·cases ht;cases ho
    ·split at ht
     ·split at ht
      ·rename_i u hu
       cases ht
       have:u=k:=by simpa[wA,dY]using ho
       subst this
       obtain⟨h1,h2⟩:=gb _ _ (au _) hu
       exact⟨h1,by rw[h2];exact hu⟩
      ·cases ht;cases ho
     ·cases ht
 |
  .list [x,a,b],ar,t,k,ht,ho=>by
  by_cases h0:x.at=[43]
  ·obtain⟨t1,t2,h1,h2,rfl⟩:=gf h0 ht
   simp only[wA,bH]at ho
   rcases ho with ho|ho
   ·exact lW a ar t1 k h1 ho
   ·exact lW b ar t2 k h2 ho
  ·by_cases h1:x.at=[42]
   ·obtain⟨t1,t2,h1,h2,rfl⟩:=fH h1 ht
    simp only[wA,bH]at ho
    rcases ho with ho|ho
    ·exact lW a ar t1 k h1 ho
    ·exact lW b ar t2 k h2 ho
   ·by_cases h2:x.at=[114,101,99]
    ·obtain⟨t1,_,h3,rfl⟩:=dK h2 ht
     obtain⟨q1,q2⟩:=lW b (ar++[a.at]) t1 (k+1) h3 ho
     simp only[an,aw,aE]at q1
     have hk:k<ar.length:=by omega
     have e:gR (ar++[a.at]) (k+1)=gR ar k:=by
      unfold gR
      rw[an,show ar.length+[a.at].length-1-(k+1)=ar.length-1-k by simp;omega]
      simp[aa,List.getElem?_append_left (show ar.length-1-k<ar.length by omega)]
     rw[e]at q2
     refine⟨hk,?_⟩
     have e2:(ar++[a.at]).length=ar.length+1:=by simp
     rw[e2,bT]at q2
     split at q2
     ·rw[e2]at q2;simp at q2
     ·rw[lq _ _ _ _ (au _)]at q2
      cases hq:bT (gR ar k) ar ar.length with
      |none=>rw[hq]at q2;cases q2
      |some u=>rw[hq]at q2;simpa using q2
    ·rw[jK _ h0 h1 h2]at ht;cases ht
 | .list [],ar,t,k,ht,ho=>by cases ht
 | .list [_],ar,t,k,ht,ho=>by cases ht
 | .list [_,_],ar,t,k,ht,ho=>by cases ht
 | .list (_::_::_::_::_),ar,t,k,ht,ho=>by cases ht
theorem fN(w:List UInt8)(ar:List (List UInt8)):bT w (ar++[w]) (ar++[w]).length=some 0:=by
 have e2:(ar++[w]).length=ar.length+1:=by simp
 rw[e2,bT,if_pos (by simp[aa]),e2];simp
theorem kk{s w:List UInt8}(ar:List (List UInt8))(h:w≠s):bT s (ar++[w]) (ar++[w]).length=(bT s ar ar.length).map (·+1):=by
 have e2:(ar++[w]).length=ar.length+1:=by simp
 rw[e2,bT,if_neg (by simpa[aa]using h),lq _ _ _ _ (au _)]
theorem J6{b:E}{ar:List (List UInt8)}{w:List UInt8}{t:Ty}{k:Nat}(hb:cZ b (ar++[w])=some t)(hk:bT w ar ar.length=some k):wA t (.bd (k+1))=false:=by
 cases h:wA t (.bd (k+1))with
 |false=>rfl
 |
  true =>
  obtain⟨_,q2⟩:=lW _ _ _ _ hb h
  obtain⟨h1,h2⟩:=gb _ _ (au _) hk
  have e:gR (ar++[w]) (k+1)=gR ar k:=by
   unfold gR
   rw[an,show ar.length+[w].length-1-(k+1)=ar.length-1-k by simp;omega]
   simp[aa,List.getElem?_append_left (show ar.length-1-k<ar.length by omega)]
  rw[e,h2,fN]at q2
  cases q2
def qm(s:List UInt8)(ar:List (List UInt8)):Tg:=match bT s ar ar.length with|some u=>.bd u|none=>.nm s
theorem xO(w:List UInt8)(ar:List (List UInt8)):qm w (ar++[w])=.bd 0:=by rw[qm,fN]
theorem BH{s w:List UInt8}(ar:List (List UInt8))(h:w≠s):qm s (ar++[w])=(qm s ar).up:=by
 rw[qm,qm,kk ar h]
 cases bT s ar ar.length<;>rfl
theorem gV(n:Nat):∀(m:Nat) (v:Vl),v.nodes<=m->∀(e:E) (env:List Fr) (t:Ty),Ask e env t->eS n v (e,env)=true->∀(k:Nat) (f:Fr),env[k]?=some f->∀h,h∈bR t (.bd k) v->eS n h.2 (f.ex,f.out)=true
 |0,v,hm=>by have:=cB v;omega
 |
  m+1,v,hm=>by
  intro e env t A hv k f hf h hh
  rcases gZ A.wf A.ty with⟨hb,hq⟩|⟨u,g,rfl,hq,hu⟩
  ·have hhd:hd e env=(e,env):=lh hq
   rcases ga A.ty hb A.cl with⟨rfl,rfl⟩|⟨rfl,rfl⟩|⟨s,rfl,rfl,hp,h0,h1⟩|⟨x,a,b,t1,t2,rfl,hx,rfl,ha,hbb⟩|⟨x,a,b,t1,t2,rfl,hx,rfl,ha,hbb⟩|⟨x,a,b,t1,rfl,hx,rfl⟩
   ·rw[dF rfl (by cases v<;>rfl)]at hh;cases hh
   ·rw[dF rfl (by cases v<;>rfl)]at hh;cases hh
   ·rw[dF rfl (by cases v<;>rfl)]at hh;cases hh
   ·obtain⟨ok1,ok2,ok3,_⟩:=A.ok
    obtain⟨f1,f2⟩:=fP A.cl
    cases v with
    |
     l w =>
     simp only[eS,hhd,hx,beq_self_eq_true,cb]at hv
     simp only[Vl.nodes]at hm
     rw[jM]at hh
     obtain⟨h2,h3,rfl⟩:=cM hh
     exact gV n m w (by omega) a env t1 ⟨ok2,A.wf,ha,f1⟩ hv k f hf h2 h3
    |
     r w =>
     simp only[eS,hhd,hx,beq_self_eq_true,cb]at hv
     simp only[Vl.nodes]at hm
     rw[jR]at hh
     obtain⟨h2,h3,rfl⟩:=cM hh
     exact gV n m w (by omega) b env t2 ⟨ok3,A.wf,hbb,f2⟩ hv k f hf h2 h3
    |_=>rw[dF rfl rfl]at hh;cases hh
   ·obtain⟨ok1,ok2,ok3,_⟩:=A.ok
    obtain⟨f1,f2⟩:=fE A.cl
    cases v with
    |
     p w w' =>
     simp only[eS,hhd,hx,beq_self_eq_true,cb,aA]at hv
     simp only[Vl.nodes]at hm
     rw[gH]at hh
     rcases aO.1 hh with hh|hh
     ·obtain⟨h2,h3,rfl⟩:=cM hh
      exact gV n m w (by omega) a env t1 ⟨ok2,A.wf,ha,f1⟩ hv.1 k f hf h2 h3
     ·obtain⟨h2,h3,rfl⟩:=cM hh
      exact gV n m w' (by omega) b env t2 ⟨ok3,A.wf,hbb,f2⟩ hv.2 k f hf h2 h3
    |_=>rw[dF rfl rfl]at hh;cases hh
   ·obtain⟨t1',he1,h1,f1,hw1⟩:=j0 A.wf A.ok hx A.ty A.cl
    cases he1
    obtain⟨ok1,ok2,ok3,_⟩:=A.ok
    cases v with
    |
     f w =>
     simp only[eS,hhd,hx,beq_self_eq_true,cb]at hv
     simp only[Vl.nodes]at hm
     rw[gJ]at hh
     have A':Ask b (.mk a.at (.list [x,a,b]) env::env) t1:=⟨ok3,hw1,h1,f1⟩
     rcases aO.1 hh with hh|hh
     ·obtain⟨h2,h3,rfl⟩:=cM hh
      exact gV n m w (by omega) b _ t1 A' hv (k+1) f (by simpa using hf) h2 h3
     ·obtain⟨kd,h2,h3⟩:=dk.1 hh
      obtain⟨h4,h5,rfl⟩:=cM h3
      have hkd:=gV n m w (by omega) b _ t1 A' hv 0 _ rfl kd h2
      have:=(gu h2).1
      exact gV n m kd.2 (by omega) (.list [x,a,b]) env _ A hkd k f hf h4 h5
    |_=>rw[dF rfl rfl]at hh;cases hh
  ·by_cases huk:u=k
   ·subst huk
    rw[hu]at hf;cases hf
    rw[kV v (by simp[dY])]at hh
    simp only[aT]at hh
    subst hh
    obtain⟨x,a,b,t',hfe,hok,hx,ht',hf',hwf,hlt⟩:=qe A.wf hq
    rw[<-ve n v (sk hq) (by rw[hfe];exact qJ hwf)];exact hv
   ·rw[dF (by simpa[dY]using huk) (by cases v<;>rfl)]at hh;cases hh
end Go.Proofs.Trees
namespace Go.Proofs.Trees
open Go Go.VL Go.RowKit
inductive lJ:AV->List Nat->Prop
 |nil:lJ iV []
 |cons {m:Nat} {cs:List AV} {e:AV} {ids:List Nat} (hm:m∉ids) (h:lJ e ids):lJ (.ptr [.pid m cs,e]) (m::ids)
theorem lJ.has{a:AV}{ids:List Nat}(h:lJ a ids):LK.has .ptr a:=by
 cases h
 ·exact(ig).mpr trivial
 ·exact(cn _).mpr trivial
theorem lJ.Vx{M:Mem}{a:AV}{ids:List Nat}(h:lJ a ids):∀{v:Value},bJ M dG a v->∀b,b∈ids->M.p b:=by
 induction h with
 |nil=>intro v _ b hb;cases hb
 |
  @cons m cs e ids hm h ih =>
  intro v hr b hb
  cases hr with
  |
   ptr _ _ _ off us hc hr =>
   have h0:=hr 0 (by simp)
   have h1:=hr 1 (by simp)
   simp only[bF,List.getD_cons_succ]at h0 h1
   rcases aI.1 hb with rfl|hb
   ·generalize us 0=u0 at h0
    cases h0 with
    |pid _ _ _ us hp _ _=>exact hp
   ·exact ih h1 b hb
theorem lJ.nodup{a:AV}{ids:List Nat}(h:lJ a ids):ids.Nodup:=by
 induction h with
 |nil=>simp
 |cons hm h ih=>exact List.nodup_cons.2 ⟨hm,ih⟩
theorem BD(a b:AV)(S:Nat->Prop)(R:AV->Prop):DX Mo cfg eM (cG eM) [.agg [.x a,.x b]] S (fun o=>aN o 7) R =
 .ai (LK.has .ptr a/\a.isNil=false) (.ai (LK.has .ptr a/\a.isNil=false) (.ai (LK.has .ptr ((a.deref.drop 3).headD .any)/\1<=(a.deref.drop 3).length)
  (.ai (∀ids:Nat->Nat,(∀o,¬S (ids o))->(True/\R (.cm [.agg [(a.deref.drop 3).headD .any,.ptr [.pid (ids 7) [a,b],b]],.pid (ids 7) [a,b]]))) (.done 0 [] [])))):=by kernel_rfl
def Cy(t:Ty)(ea:AV)(ids:List Nat):AV->List Ob->Prop:=fun r o=>(∃m,m∉ids/\r=.cm [.agg [t.av,.ptr [.pid m [(Ty.rc t).av,ea],ea]],.pid m [(Ty.rc t).av,ea]])/\o=[]
theorem Cy.ne(t:Ty)(ea:AV)(ids:List Nat):∃r o,Cy t ea ids r o:=by
 have:∃m,m∉ids:=⟨ids.foldr max 0+1,fun h=>by
  have key:∀(l:List Nat) (x:Nat),x∈l->x<=l.foldr max 0:=by
   intro l
   induction l with
   |nil=>intro x hx;cases hx
   |
    cons y l ih =>
    intro x hx
    rcases aI.1 hx with rfl|hx
    ·simp only[List.foldr_cons];omega
    ·have:=ih x hx;simp only[List.foldr_cons];omega
  have:=key _ _ h
  omega⟩
 obtain⟨m,hm⟩:=this
 exact⟨_,_,⟨m,hm,rfl⟩,rfl⟩
theorem FZ(t:Ty)(ea:AV)(ids:List Nat)(he:lJ ea ids):aq Tryz.prog 70 [.agg [(Ty.rc t).av,ea]] [] (Cy t ea ids):=by
 have hup:za [.agg [(Ty.rc t).av,ea]] [.agg [.x (Ty.rc t).av,.x ea]]:=ag (bX (ag (bI ((aF _).mpr trivial)) (ag (bI he.has) aC))) aC
 refine aq.up hup ?_
 refine aq.VN (cfg:=cfg) (F:=eM) (S:=fun b=>b∈ids) (sel:=fun o=>aN o 7) vw mixed (by kernel_rfl) (by kernel_rfl) (c:=cG eM) (by kernel_rfl) (by kernel_rfl) (fun M β vs hr b hb=>?_) ?_
 ·have h0:=hr 0 (by simp)
  simp only[bF]at h0
  obtain⟨us,_,hl,hq,_⟩:=gF h0
  have h1:=hq 1 (by simp at hl |-)
  simp only[List.getD_cons_succ,bF]at h1
  cases h1 with
  |x _ _ _ _ h=>exact he.Vx h b hb
 ·rw[BD]
  simp only[Ty.av,↓zq,zs,ae,aF]
  exact⟨by omega,fun ids' hf=>⟨ids' 7,hf 7,rfl⟩⟩
theorem Nk(u:Nat)(hu:u<1000000):∀(k i:Nat) (ea:AV) (ids:List Nat),i+k=u->lJ ea ids->k<=ids.length->FP [ea,.v (.int .i64 (u:Int)),.v (.int .i64 (i:Int))] [] (fun t ys o=>t=1/\∃e',lJ e' (ids.drop k)/\ys=[e']/\o=[])
 |
  0,i,ea,ids,hi,he,hk=>by
  refine Ew _ _ _ ?_
  have:i=u:=by omega
  subst this
  simp only[CU,↓zq,zs,ae]
  exact⟨he.has,fun h=>by omega,fun _=>⟨ea,he,rfl⟩⟩
 |
  k+1,i,ea,ids,hi,he,hk=>by
  refine Ew _ _ _ ?_
  cases he with
  |nil=>simp at hk
  |
   @cons m cs e ids' hm h =>
   simp only[CU,↓zq,zs,ae,h.has]
   refine⟨fun _=>⟨by omega,?_⟩,fun h=>by omega⟩
   rw[bD i (by omega)]
   exact Nk u hu k (i+1) e ids' (by omega) h (by simpa using hk)
theorem RX(u:Nat)(ea:AV)(ids:List Nat)(he:lJ ea ids)(hu:u<ids.length)(hl:ids.length<1000000):aq Tryz.prog 127 [.agg [(Ty.bound u).av,ea]] [] (fun r o=>(∃cs,r=.pid (ids.getD u 0) cs)/\o=[]):=by
 refine MG _ _ ((aF _).mpr trivial) he.has ?_
 simp only[Is,Ty.av,↓zq,zs,ae,he.has]
 refine⟨by omega,mi (Nk u (by omega) u 0 ea ids (by omega) he (by omega)) ?_ (fun ys o h=>by cases h.1)⟩
 rintro ys o ⟨_,e',he',rfl,rfl⟩
 have hd:ids.drop u=ids.getD u 0::ids.drop (u+1):=by
  rw[aM hu];simp[aa,hu]
 rw[hd]at he'
 cases he' with
 |
  @cons m cs e ids' hm h =>
  have hp:LK.has .ptr (AV.pid (ids.getD u 0) cs):=.inr (.inr ⟨_,_,rfl⟩)
  simp only[↓zq,zs,ae,hp]
  exact⟨by omega,cs,rfl⟩
inductive BV:Tg->List Nat->List UInt8->AV->Prop
 |nm (s:List UInt8) (ids:List Nat):BV (.nm s) ids s iV
 |bd {k:Nat} {ids:List Nat} (hk:k<ids.length) (cs:List AV) (s:List UInt8):BV (.bd k) ids s (.pid (ids.getD k 0) cs)
theorem BV.has{tg:Tg}{ids:List Nat}{s:List UInt8}{fr:AV}(h:BV tg ids s fr):LK.has .ptr fr:=by
 cases h
 ·exact(ig).mpr trivial
 ·exact .inr (.inr ⟨_,_,rfl⟩)
theorem BV.push{tg:Tg}{ids:List Nat}{s:List UInt8}{fr:AV}(h:BV tg ids s fr)(m:Nat):BV tg.up (m::ids) s fr:=by
 cases h with
 |nm=>exact .nm _ _
 |
  @bd k _ hk cs =>
  have:=BV.bd (k:=k+1) (ids:=m::ids) (by simpa using hk) cs s
  simpa[Tg.up]using this
theorem AT{ids:List Nat}(h:ids.Nodup){i j:Nat}(hi:i<ids.length)(hj:j<ids.length)(he:ids.getD i 0=ids.getD j 0):i=j:=by
 have e1:ids.getD i 0=ids[i]:=by simp[aa,hi]
 have e2:ids.getD j 0=ids[j]:=by simp[aa,hj]
 rw[e1,e2]at he
 have hp:=List.pairwise_iff_getElem.1 h
 rcases Nat.lt_trichotomy i j with hlt|rfl|hlt
 ·exact absurd he (hp i j hi hj hlt)
 ·rfl
 ·exact absurd he.symm (hp j i hj hi hlt)
theorem Su(t:Ty)(tg:Tg)(ea:AV)(ids:List Nat)(s:List UInt8)(fr:AV)(he:lJ ea ids)(ht:BV tg ids s fr)(hu:∀u,t=.bound u->u<ids.length)(hl:ids.length<1000000) :
 aq Tryz.prog 106 [.agg [.v (.string (mk s)),fr],.agg [t.av,ea]] [] (bP (.v (.bool (dY t tg)))):=by
 refine RQ _ _ _ _ ht.has ((aF _).mpr trivial) he.has ?_
 cases ht with
 |
  nm s =>
  cases t<;>simp[Fk,Ty.av,↓zq,zs,ae,zt,bP,dY]
  rw[cK];simp
 |
  @bd k _ hk cs s =>
  generalize hm0:ids.getD k 0=m0
  have hp:LK.has .ptr (AV.pid m0 cs):=.inr (.inr ⟨_,_,rfl⟩)
  have hn:(AV.pid m0 cs).isNil=false:=rfl
  cases t with
  |
   bound u =>
   have hu:=hu u rfl
   simp only[Fk,Ty.av,↓zq,zs,ae,hp,hn]
   refine⟨fun _=>⟨by omega,fun _=>?_,fun h=>absurd rfl h⟩,fun h=>by cases h⟩
   have hb:=RX u ea ids he hu hl
   simp only[Ty.av]at hb
   refine aQ hb ⟨_,_,⟨[],rfl⟩,rfl⟩ ?_
   rintro r o ⟨⟨cs',rfl⟩,rfl⟩
   have hp':LK.has .ptr (AV.pid (ids.getD u 0) cs'):=.inr (.inr ⟨_,_,rfl⟩)
   simp only[↓zq,zs,ae,hp',AV.tD,AV.DG,bP,dY]
   congr 2
   rw[cK,Nat.beq_eq,decide_eq_true_eq,<-hm0]
   exact⟨fun h=>AT he.nodup hu hk h,fun h=>by rw[h]⟩
  |_=>simp[Fk,Ty.av,↓zq,zs,ae,hp,hn,bP,dY]
end Go.Proofs.Trees
namespace Go.Proofs.Trees
open Go Go.VL Go.RowKit
theorem A3(b:Int)(a:AV)(h:LK.ptr.has a):aq Tryz.prog 85 [.v (.int .u8 b),a] [] (bP (.ptr [.v (.int .u8 b),.v (.string (mk [])),a,iV])):=by
 refine S9 _ _ h ?_
 simp[Pr,↓zq,zs,ae,bP]
end Go.Proofs.Trees
namespace Go.Proofs.Trees
open Go Go.VL Go.RowKit
def gT(l:List Hl):List (List AV):=l.map fun h=>[h.1.cJ,h.2.cJ]
theorem dV(l:List Hl):(gT l).length=l.length:=by simp[gT]
theorem jL{l:List Hl}{i:Nat}(hi:i<l.length):(gT l).getD i []=[(l[i]).1.cJ,(l[i]).2.cJ]:=by simp[gT,aa,hi]
theorem qA(out:List Hl)(a b:Vl):gT out++[[a.cJ,b.cJ]]=gT (out++[(a,b)]):=by simp[gT]
theorem gY(g:Vl->Vl)(l:List Hl){i:Nat}(hi:i<l.length):fw g (l.drop i)=(g (l[i]).1,(l[i]).2)::fw g (l.drop (i+1)):=by
 rw[aM hi];rfl
theorem gn(g:Vl->Vl)(l:List Hl):(fw g l).length=l.length:=by simp[fw]
theorem Dt(a b:AV):ck 2 [[a,b]]:=fun c hc=>by simp at hc;rw[hc];rfl
theorem L4(x0:AV)(hx0:LK.ptr.has x0)(g:Vl->Vl)(hg:∀c:Vl,aq Tryz.prog 110 [c.cJ,.ref 0 0] [.cells [x0]] (di (g c).cJ [.cells [x0]]))(l:List Hl):∀(k i:Nat) (out:List Hl),i+k=l.length->out.length+k<=1000000->l.length<=1000000 ->
 Jp [.sl (gT l),.v (.int .i64 (l.length:Int)),.v (.int .i64 (i:Int))] [.cells [x0],.cells [.any],.vec 2 (gT out)] (gS 1 [] [.cells [x0],.cells [.any],.vec 2 (gT (out++fw g (l.drop i)))])
 |
  0,i,out,hi,ho,hl=>by
  refine Oe _ _ _ _ _ ?_
  have:i=l.length:=by omega
  subst this
  simp only[HS,↓zq,zs,ae,dV,hx0]
  exact⟨fun h=>by omega,fun _=>by simp[gS,fw]⟩
 |
  k+1,i,out,hi,ho,hl=>by
  have hlt:i<l.length:=by omega
  refine Oe _ _ _ _ _ ?_
  simp only[HS,↓zq,zs,ae,zt,dV,jL hlt,aP,bC,hx0]
  refine⟨fun _=>⟨by omega,by omega,?_⟩,fun h=>by omega⟩
  refine aY (hg _) ?_
  simp only[↓zq,zs,ae,aP,aH,bP,di,hx0]
  refine⟨⟨Dt _ _,by omega⟩,?_⟩
  rw[bD i (by omega)]
  have:=L4 x0 hx0 g hg l k (i+1) (out++[(g (l[i]).1,(l[i]).2)]) (by omega) (by simp;omega) hl
  rw[a6]at this
  rw[gY g l hlt,qA]
  exact this
theorem QA(x0:AV)(hx0:LK.ptr.has x0)(g:Vl->Vl)(hg:∀c:Vl,aq Tryz.prog 110 [c.cJ,.ref 0 0] [.cells [x0]] (di (g c).cJ [.cells [x0]]))(l out:List Hl)(hl:out.length+l.length<=1000000) :
 aq Tryz.prog 107 [.sl (gT l),.fn 110 [.ref 0 0],.ref 1 0] [.cells [x0],.cells [.vec 2],.vec 2 (gT out)] (di .any [.cells [x0],.cells [.vec 2],.vec 2 (gT (out++fw g l))]):=by
 refine UP _ _ _ ((cc _).mpr trivial) hx0 ?_
 simp only[Pe,↓zq,zs,ae,dV]
 have h:=L4 x0 hx0 g hg l l.length 0 out (by omega) (by omega) (by omega)
 rw[a7]at h
 refine cC h ?_
 simp[↓zq,zs,ae,di,aH,hx0]
theorem Qh(x0:AV)(hx0:LK.ptr.has x0)(g:Vl->Vl)(hg:∀c:Vl,aq Tryz.prog 111 [c.cJ,.ref 0 0] [.cells [x0]] (di (g c).cJ [.cells [x0]]))(l:List Hl):∀(k i:Nat) (out:List Hl),i+k=l.length->out.length+k<=1000000->l.length<=1000000 ->
 H5 [.sl (gT l),.v (.int .i64 (l.length:Int)),.v (.int .i64 (i:Int))] [.cells [x0],.cells [.any],.vec 2 (gT out)] (gS 1 [] [.cells [x0],.cells [.any],.vec 2 (gT (out++fw g (l.drop i)))])
 |
  0,i,out,hi,ho,hl=>by
  refine Pf _ _ _ _ _ ?_
  have:i=l.length:=by omega
  subst this
  simp only[JH,↓zq,zs,ae,dV,hx0]
  exact⟨fun h=>by omega,fun _=>by simp[gS,fw]⟩
 |
  k+1,i,out,hi,ho,hl=>by
  have hlt:i<l.length:=by omega
  refine Pf _ _ _ _ _ ?_
  simp only[JH,↓zq,zs,ae,zt,dV,jL hlt,aP,bC,hx0]
  refine⟨fun _=>⟨by omega,by omega,?_⟩,fun h=>by omega⟩
  refine aY (hg _) ?_
  simp only[↓zq,zs,ae,aP,aH,bP,di,hx0]
  refine⟨⟨Dt _ _,by omega⟩,?_⟩
  rw[bD i (by omega)]
  have:=Qh x0 hx0 g hg l k (i+1) (out++[(g (l[i]).1,(l[i]).2)]) (by omega) (by simp;omega) hl
  rw[a6]at this
  rw[gY g l hlt,qA]
  exact this
theorem SZ(x0:AV)(hx0:LK.ptr.has x0)(g:Vl->Vl)(hg:∀c:Vl,aq Tryz.prog 111 [c.cJ,.ref 0 0] [.cells [x0]] (di (g c).cJ [.cells [x0]]))(l out:List Hl)(hl:out.length+l.length<=1000000) :
 aq Tryz.prog 107 [.sl (gT l),.fn 111 [.ref 0 0],.ref 1 0] [.cells [x0],.cells [.vec 2],.vec 2 (gT out)] (di .any [.cells [x0],.cells [.vec 2],.vec 2 (gT (out++fw g l))]):=by
 refine S8 _ _ _ ((cc _).mpr trivial) hx0 ?_
 simp only[Ns,↓zq,zs,ae,dV]
 have h:=Qh x0 hx0 g hg l l.length 0 out (by omega) (by omega) (by omega)
 rw[a7]at h
 refine cC h ?_
 simp[↓zq,zs,ae,di,aH,hx0]
theorem Oj(x0:AV)(hx0:LK.ptr.has x0)(g:Vl->Vl)(hg:∀c:Vl,aq Tryz.prog 113 [c.cJ,.ref 0 0] [.cells [x0]] (di (g c).cJ [.cells [x0]]))(l:List Hl):∀(k i:Nat) (out:List Hl),i+k=l.length->out.length+k<=1000000->l.length<=1000000 ->
 Hr [.sl (gT l),.v (.int .i64 (l.length:Int)),.v (.int .i64 (i:Int))] [.cells [x0],.cells [.any],.vec 2 (gT out)] (gS 1 [] [.cells [x0],.cells [.any],.vec 2 (gT (out++fw g (l.drop i)))])
 |
  0,i,out,hi,ho,hl=>by
  refine Qg _ _ _ _ _ ?_
  have:i=l.length:=by omega
  subst this
  simp only[IF,↓zq,zs,ae,dV,hx0]
  exact⟨fun h=>by omega,fun _=>by simp[gS,fw]⟩
 |
  k+1,i,out,hi,ho,hl=>by
  have hlt:i<l.length:=by omega
  refine Qg _ _ _ _ _ ?_
  simp only[IF,↓zq,zs,ae,zt,dV,jL hlt,aP,bC,hx0]
  refine⟨fun _=>⟨by omega,by omega,?_⟩,fun h=>by omega⟩
  refine aY (hg _) ?_
  simp only[↓zq,zs,ae,aP,aH,bP,di,hx0]
  refine⟨⟨Dt _ _,by omega⟩,?_⟩
  rw[bD i (by omega)]
  have:=Oj x0 hx0 g hg l k (i+1) (out++[(g (l[i]).1,(l[i]).2)]) (by omega) (by simp;omega) hl
  rw[a6]at this
  rw[gY g l hlt,qA]
  exact this
theorem TD(x0:AV)(hx0:LK.ptr.has x0)(g:Vl->Vl)(hg:∀c:Vl,aq Tryz.prog 113 [c.cJ,.ref 0 0] [.cells [x0]] (di (g c).cJ [.cells [x0]]))(l out:List Hl)(hl:out.length+l.length<=1000000) :
 aq Tryz.prog 107 [.sl (gT l),.fn 113 [.ref 0 0],.ref 1 0] [.cells [x0],.cells [.vec 2],.vec 2 (gT out)] (di .any [.cells [x0],.cells [.vec 2],.vec 2 (gT (out++fw g l))]):=by
 refine TE _ _ _ ((cc _).mpr trivial) hx0 ?_
 simp only[O7,↓zq,zs,ae,dV]
 have h:=Oj x0 hx0 g hg l l.length 0 out (by omega) (by omega) (by omega)
 rw[a7]at h
 refine cC h ?_
 simp[↓zq,zs,ae,di,aH,hx0]
theorem PD(g:Vl->Vl)(hg:∀c:Vl,aq Tryz.prog 114 [c.cJ] [] (bP (g c).cJ))(l:List Hl):∀(k i:Nat) (out:List Hl),i+k=l.length->out.length+k<=1000000->l.length<=1000000 ->
 Kp [.v (.func (.func 114) #[] #[]),.sl (gT l),.v (.int .i64 (l.length:Int)),.v (.int .i64 (i:Int))] [.cells [.any],.vec 2 (gT out)] (gS 1 [] [.cells [.any],.vec 2 (gT (out++fw g (l.drop i)))])
 |
  0,i,out,hi,ho,hl=>by
  refine Nn _ _ _ _ ?_
  have:i=l.length:=by omega
  subst this
  simp only[Jd,↓zq,zs,ae,dV]
  exact⟨fun h=>by omega,fun _=>by simp[gS,fw]⟩
 |
  k+1,i,out,hi,ho,hl=>by
  have hlt:i<l.length:=by omega
  refine Nn _ _ _ _ ?_
  simp only[Jd,↓zq,zs,ae,zt,dV,jL hlt,aP,bC]
  refine⟨fun _=>⟨by omega,by omega,?_⟩,fun h=>by omega⟩
  refine aj (hg _) ?_
  simp only[↓zq,zs,ae,aP,aH,bP,di]
  refine⟨⟨Dt _ _,by omega⟩,?_⟩
  rw[bD i (by omega)]
  have:=PD g hg l k (i+1) (out++[(g (l[i]).1,(l[i]).2)]) (by omega) (by simp;omega) hl
  rw[a6]at this
  rw[gY g l hlt,qA]
  exact this
theorem U8(g:Vl->Vl)(hg:∀c:Vl,aq Tryz.prog 114 [c.cJ] [] (bP (g c).cJ))(l out:List Hl)(hl:out.length+l.length<=1000000) :
 aq Tryz.prog 107 [.sl (gT l),.v (.func (.func 114) #[] #[]),.ref 0 0] [.cells [.vec 1],.vec 2 (gT out)] (di .any [.cells [.vec 1],.vec 2 (gT (out++fw g l))]):=by
 refine U7 _ _ ((cc _).mpr trivial) ?_
 simp only[Rj,↓zq,zs,ae,dV]
 have h:=PD g hg l l.length 0 out (by omega) (by omega) (by omega)
 rw[a7]at h
 refine cC h ?_
 simp[↓zq,zs,ae,di,aH]
theorem PS(x0:AV)(x1:AV)(hx0:LK.ptr.has x0)(hx1:LK.ptr.has x1)(g:Vl->Vl)(hg:∀c:Vl,aq Tryz.prog 115 [c.cJ,.ref 0 0] [.cells [x0,x1]] (di (g c).cJ [.cells [x0,x1]]))(l:List Hl):∀(k i:Nat) (out:List Hl),i+k=l.length->out.length+k<=1000000->l.length<=1000000 ->
 I6 [.sl (gT l),.v (.int .i64 (l.length:Int)),.v (.int .i64 (i:Int))] [.cells [x0,x1],.cells [.any],.vec 2 (gT out)] (gS 1 [] [.cells [x0,x1],.cells [.any],.vec 2 (gT (out++fw g (l.drop i)))])
 |
  0,i,out,hi,ho,hl=>by
  refine No _ _ _ _ _ _ ?_
  have:i=l.length:=by omega
  subst this
  simp only[HQ,↓zq,zs,ae,dV,hx0,hx1]
  exact⟨fun h=>by omega,fun _=>by simp[gS,fw]⟩
 |
  k+1,i,out,hi,ho,hl=>by
  have hlt:i<l.length:=by omega
  refine No _ _ _ _ _ _ ?_
  simp only[HQ,↓zq,zs,ae,zt,dV,jL hlt,aP,bC,hx0,hx1]
  refine⟨fun _=>⟨by omega,by omega,?_⟩,fun h=>by omega⟩
  refine aY (hg _) ?_
  simp only[↓zq,zs,ae,aP,aH,bP,di,hx0,hx1]
  refine⟨⟨Dt _ _,by omega⟩,?_⟩
  rw[bD i (by omega)]
  have:=PS x0 x1 hx0 hx1 g hg l k (i+1) (out++[(g (l[i]).1,(l[i]).2)]) (by omega) (by simp;omega) hl
  rw[a6]at this
  rw[gY g l hlt,qA]
  exact this
theorem TC(x0:AV)(x1:AV)(hx0:LK.ptr.has x0)(hx1:LK.ptr.has x1)(g:Vl->Vl)(hg:∀c:Vl,aq Tryz.prog 115 [c.cJ,.ref 0 0] [.cells [x0,x1]] (di (g c).cJ [.cells [x0,x1]]))(l out:List Hl)(hl:out.length+l.length<=1000000) :
 aq Tryz.prog 107 [.sl (gT l),.fn 115 [.ref 0 0],.ref 1 0] [.cells [x0,x1],.cells [.vec 2],.vec 2 (gT out)] (di .any [.cells [x0,x1],.cells [.vec 2],.vec 2 (gT (out++fw g l))]):=by
 refine TN _ _ _ _ ((cc _).mpr trivial) hx0 hx1 ?_
 simp only[L7,↓zq,zs,ae,dV]
 have h:=PS x0 x1 hx0 hx1 g hg l l.length 0 out (by omega) (by omega) (by omega)
 rw[a7]at h
 refine cC h ?_
 simp[↓zq,zs,ae,di,aH,hx0,hx1]
theorem Rw(w c:Vl):aq Tryz.prog 110 [c.cJ,.ref 0 0] [.cells [(Vl.l w).cJ]] (di (Vl.l c).cJ [.cells [(Vl.l w).cJ]]):=by
 refine QV _ _ ((aP _).mpr trivial) ((aP _).mpr trivial) ?_
 simp only[Hk,Vl.cJ,↓zq,zs,ae,aP]
 refine⟨by omega,?_⟩
 refine aj (A3 _ _ ((aP _).mpr trivial)) ?_
 simp[↓zq,zs,ae,di,Vl.cJ]
theorem U9(w c:Vl):aq Tryz.prog 110 [c.cJ,.ref 0 0] [.cells [(Vl.r w).cJ]] (di (Vl.r c).cJ [.cells [(Vl.r w).cJ]]):=by
 refine QV _ _ ((aP _).mpr trivial) ((aP _).mpr trivial) ?_
 simp only[Hk,Vl.cJ,↓zq,zs,ae,aP]
 refine⟨by omega,?_⟩
 refine aj (A3 _ _ ((aP _).mpr trivial)) ?_
 simp[↓zq,zs,ae,di,Vl.cJ]
theorem Uv(x y c:Vl):aq Tryz.prog 111 [c.cJ,.ref 0 0] [.cells [(Vl.p x y).cJ]] (di (Vl.l (.p c y)).cJ [.cells [(Vl.p x y).cJ]]):=by
 refine Tz _ _ ((aP _).mpr trivial) ((aP _).mpr trivial) ?_
 simp only[Ov,Vl.cJ,↓zq,zs,ae,aP]
 refine⟨by omega,?_⟩
 refine aj (BQ _ _ ((aP _).mpr trivial) ((aP _).mpr trivial)) ?_
 simp only[↓zq,zs,ae]
 refine aj (A3 _ _ ((cn _).mpr trivial)) ?_
 simp[↓zq,zs,ae,di,Vl.cJ]
theorem Tm(x y c:Vl):aq Tryz.prog 113 [c.cJ,.ref 0 0] [.cells [(Vl.p x y).cJ]] (di (Vl.r (.p x c)).cJ [.cells [(Vl.p x y).cJ]]):=by
 refine Tb _ _ ((aP _).mpr trivial) ((aP _).mpr trivial) ?_
 simp only[MI,Vl.cJ,↓zq,zs,ae,aP]
 refine⟨by omega,?_⟩
 refine aj (BQ _ _ ((aP _).mpr trivial) ((aP _).mpr trivial)) ?_
 simp only[↓zq,zs,ae]
 refine aj (A3 _ _ ((cn _).mpr trivial)) ?_
 simp[↓zq,zs,ae,di,Vl.cJ]
theorem RM(kc kv c:Vl):aq Tryz.prog 115 [c.cJ,.ref 0 0] [.cells [kc.cJ,kv.cJ]] (di (Vl.f (.r (.p kc c))).cJ [.cells [kc.cJ,kv.cJ]]):=by
 refine Vc _ _ _ ((aP _).mpr trivial) ((aP _).mpr trivial) ((aP _).mpr trivial) ?_
 simp only[L0,Vl.cJ,↓zq,zs,ae,aP]
 refine aj (BQ _ _ ((aP _).mpr trivial) ((aP _).mpr trivial)) ?_
 simp only[↓zq,zs,ae]
 refine aj (A3 _ _ ((cn _).mpr trivial)) ?_
 simp only[↓zq,zs,ae]
 refine aj (A3 _ _ ((cn _).mpr trivial)) ?_
 simp[↓zq,zs,ae,di,Vl.cJ,aP]
theorem RC(c:Vl):aq Tryz.prog 114 [c.cJ] [] (bP (Vl.f (.l c)).cJ):=by
 refine R1 _ ((aP _).mpr trivial) ?_
 simp only[PT,↓zq,zs,ae]
 refine aj (A3 _ _ ((aP _).mpr trivial)) ?_
 simp only[↓zq,zs,ae]
 refine aj (A3 _ _ ((cn _).mpr trivial)) ?_
 simp[↓zq,zs,ae,bP,Vl.cJ]
end Go.Proofs.Trees
namespace Go.Proofs.Trees
open Go Go.VL Go.RowKit
abbrev BZ(a:Ty)(tg:Tg):Hl->List Hl:=fun h=>fw (fun c=>.f (.r (.p h.1 c))) (bR (.rc a) tg h.2)
theorem Df(l:List Hl){i:Nat}(hi:i<l.length):l[i]∈l:=bn _
def JL(t:Ty)(ea:AV)(s:List UInt8)(fr:AV)(tg:Tg)(v:Vl):Prop:=aq Tryz.prog 71 [.agg [t.av,ea],v.cJ,.agg [.v (.string (mk s)),fr]] [] (bP (.sl (gT (bR t tg v))))
theorem O4(a:Ty)(ea:AV)(s:List UInt8)(fr:AV)(tg:Tg)(he:LK.ptr.has ea)(hf:LK.ptr.has fr)(l:List Hl)(hl:l.length<=1000000)(ih:∀h,h∈l->JL (.rc a) ea s fr tg h.2) :
 ∀(k i:Nat) (out:List Hl),i+k=l.length->(out++(l.drop i).flatMap (BZ a tg)).length<=1000000 ->
 Hg [.sl (gT l),.v (.int .i64 (l.length:Int)),.v (.int .i64 (i:Int))] [.cells [(Ty.rc a).av,ea],.cells [.v (.string (mk s)),fr],.cells [.any],.vec 2 (gT out)] (gS 1 [] [.cells [.any],.vec 2 (gT (out++(l.drop i).flatMap (BZ a tg)))])
 |
  0,i,out,hi,ho=>by
  refine KZ _ _ _ _ _ _ _ _ ?_
  have:i=l.length:=by omega
  subst this
  simp only[Kc,↓zq,zs,ae,dV,aF,he,hf]
  exact⟨fun h=>by omega,fun _=>by simp[gS]⟩
 |
  k+1,i,out,hi,ho=>by
  have hlt:i<l.length:=by omega
  have hd:(l.drop i).flatMap (BZ a tg)=BZ a tg (l[i])++(l.drop (i+1)).flatMap (BZ a tg):=by rw[aM hlt,bU]
  rw[hd]at ho |-
  refine KZ _ _ _ _ _ _ _ _ ?_
  simp only[Kc,↓zq,zs,ae,zt,dV,jL hlt,aF,aP,bC,he,hf]
  refine⟨fun _=>⟨by omega,by omega,?_⟩,fun h=>by omega⟩
  refine aj (ih _ (Df l hlt)) ?_
  simp only[↓zq,zs,ae]
  have hb:out.length+(bR (.rc a) tg (l[i]).2).length<=1000000:=by
   simp only[an,gn]at ho;omega
  refine aY (TC _ _ ((aP _).mpr trivial) ((aP _).mpr trivial) (fun c=>.f (.r (.p (l[i]).1 c))) (fun c=>RM (l[i]).1 (l[i]).2 c) (bR (.rc a) tg (l[i]).2) out hb) ?_
  simp only[↓zq,zs,ae,aH,aP]
  rw[bD i (by omega),<-a6]
  exact O4 a ea s fr tg he hf l hl ih k (i+1) _ (by omega) (by rw[a6];exact ho)
theorem Gx(n:Nat):∀(m:Nat) (v:Vl),v.nodes<=m->∀(e:E) (env:List Fr) (t:Ty),Ask e env t->eS n v (e,env)=true->env.length+v.nodes<100000->∀(ea:AV) (ids:List Nat),lJ ea ids->ids.length=env.length->∀(tg:Tg) (s:List UInt8) (fr:AV),BV tg ids s fr->JL t ea s fr tg v
 |0,v,hm=>by have:=cB v;omega
 |
  m+1,v,hm=>by
  intro e env t A hv hl ea ids he hids tg s fr ht
  unfold JL
  refine RS _ _ _ _ _ ((aF _).mpr trivial) he.has ((aP _).mpr trivial) ht.has ?_
  unfold K6
  refine aj (Su t tg ea ids s fr he ht (fun u hu=>by
   rcases gZ A.wf A.ty with⟨hb,_⟩|⟨u',g,rfl,_,hg⟩
   ·rw[hu]at hb;cases hb
   ·cases hu;rw[hids];exact(List.getElem?_eq_some_iff.1 hg).1) (by omega)) ?_
  have hlen:=oe t tg v
  cases hat:dY t tg with
  |
   true =>
   rw[kV v hat]
   simp only[↓zq,zs,ae,bP,gT,bo,List.map_nil,Vl.cJ]
   exact⟨fun _=>trivial,fun h=>(by cases h)⟩
  |false =>
  simp only[↓zq,zs,ae]
  refine⟨fun h=>(by cases h),fun _=>?_⟩
  rcases gZ A.wf A.ty with⟨hb,hq⟩|⟨u,g,rfl,hq,hu⟩
  ·have hhd:hd e env=(e,env):=lh hq
   rcases ga A.ty hb A.cl with⟨rfl,rfl⟩|⟨rfl,rfl⟩|⟨s,rfl,rfl,hp,h0,h1⟩|⟨x,a,b,t1,t2,rfl,hx,rfl,ha,hbb⟩|⟨x,a,b,t1,t2,rfl,hx,rfl,ha,hbb⟩|⟨x,a,b,t1,rfl,hx,rfl⟩
   ·rw[dF hat (by cases v<;>rfl)]
    simp[Ty.av,↓zq,zs,ae,bP,gT]
   ·rw[dF hat (by cases v<;>rfl)]
    simp[Ty.av,↓zq,zs,ae,bP,gT]
   ·rw[dF hat (by cases v<;>rfl)]
    simp[Ty.av,↓zq,zs,ae,bP,gT]
   ·obtain⟨ok1,ok2,ok3,_⟩:=A.ok
    obtain⟨f1,f2⟩:=fP A.cl
    have hL:=BC t1.av t2.av ea 43 (mk []) 0 ((aF _).mpr trivial) he.has
    have hR:=By t1.av t2.av ea 43 (mk []) 0 ((aF _).mpr trivial) he.has
    cases v with
    |
     l w =>
     simp only[eS,hhd,hx,beq_self_eq_true,cb]at hv
     simp only[Vl.nodes]at hm hl hlen
     rw[jM]at hlen |-
     rw[gn]at hlen
     simp only[Ty.av,↓zq,zs,ae]
     refine⟨by omega,fun _=>?_,fun h=>absurd rfl h⟩
     refine aj hL ?_
     simp only[↓zq,zs,ae,bC,aF,he.has,Vl.cJ,aP]
     refine⟨by omega,fun h=>by omega,fun _=>⟨by omega,?_⟩⟩
     refine aj (Gx n m w (by omega) a env t1 ⟨ok2,A.wf,ha,f1⟩ hv (by omega) ea ids he hids tg s fr ht) ?_
     simp only[↓zq,zs,ae]
     have hadd:=QA (Vl.l w).cJ ((aP _).mpr trivial) Vl.l (fun c=>Rw w c) (bR t1 tg w) [] (by simp;omega)
     simp only[Vl.cJ,gT,List.map_nil,aS]at hadd
     refine aY hadd ?_
     simp[↓zq,zs,ae,aH,bP,aP,gT,cn]
    |
     r w =>
     simp only[eS,hhd,hx,beq_self_eq_true,cb]at hv
     simp only[Vl.nodes]at hm hl hlen
     rw[jR]at hlen |-
     rw[gn]at hlen
     simp only[Ty.av,↓zq,zs,ae]
     refine⟨by omega,fun _=>?_,fun h=>absurd rfl h⟩
     refine aj hL ?_
     simp only[↓zq,zs,ae,bC,aF,he.has,Vl.cJ,aP]
     refine⟨by omega,fun _=>?_,fun h=>absurd rfl h⟩
     refine aj hR ?_
     simp only[↓zq,zs,ae,bC,aF,he.has,aP]
     refine⟨by omega,?_⟩
     refine aj (Gx n m w (by omega) b env t2 ⟨ok3,A.wf,hbb,f2⟩ hv (by omega) ea ids he hids tg s fr ht) ?_
     simp only[↓zq,zs,ae]
     have hadd:=QA (Vl.r w).cJ ((aP _).mpr trivial) Vl.r (fun c=>U9 w c) (bR t2 tg w) [] (by simp;omega)
     simp only[Vl.cJ,gT,List.map_nil,aS]at hadd
     refine aY hadd ?_
     simp[↓zq,zs,ae,aH,bP,aP,gT,cn]
    |_=>simp[eS,hhd,hx]at hv
   ·obtain⟨ok1,ok2,ok3,_⟩:=A.ok
    obtain⟨f1,f2⟩:=fE A.cl
    have hL:=BC t1.av t2.av ea 42 (mk []) 0 ((aF _).mpr trivial) he.has
    have hR:=By t1.av t2.av ea 42 (mk []) 0 ((aF _).mpr trivial) he.has
    cases v with
    |
     p w w' =>
     simp only[eS,hhd,hx,beq_self_eq_true,cb,aA]at hv
     simp only[Vl.nodes]at hm hl hlen
     rw[gH]at hlen |-
     simp only[an,gn]at hlen
     simp only[Ty.av,↓zq,zs,ae]
     refine⟨by omega,fun h=>by omega,fun _=>⟨fun _=>?_,fun h=>absurd rfl h⟩⟩
     refine aj hL ?_
     simp only[↓zq,zs,ae,bC,aF,he.has,Vl.cJ,aP]
     refine⟨by omega,?_⟩
     refine aj (Gx n m w (by omega) a env t1 ⟨ok2,A.wf,ha,f1⟩ hv.1 (by omega) ea ids he hids tg s fr ht) ?_
     simp only[↓zq,zs,ae]
     have hadd:=SZ (Vl.p w w').cJ ((aP _).mpr trivial) (fun c=>.l (.p c w')) (fun c=>Uv w w' c) (bR t1 tg w) [] (by simp;omega)
     simp only[Vl.cJ,gT,List.map_nil,aS]at hadd
     refine aY hadd ?_
     simp only[↓zq,zs,ae,aH,aP]
     refine aj hR ?_
     simp only[↓zq,zs,ae,bC,aF,he.has,aP]
     refine⟨by omega,?_⟩
     refine aj (Gx n m w' (by omega) b env t2 ⟨ok3,A.wf,hbb,f2⟩ hv.2 (by omega) ea ids he hids tg s fr ht) ?_
     simp only[↓zq,zs,ae]
     have hadd2:=TD (Vl.p w w').cJ ((aP _).mpr trivial) (fun c=>.r (.p w c)) (fun c=>Tm w w' c) (bR t2 tg w') (fw (fun c=>.l (.p c w')) (bR t1 tg w)) (by rw[gn];omega)
     simp only[Vl.cJ,gT]at hadd2
     refine aY hadd2 ?_
     simp[↓zq,zs,ae,aH,bP,aP,gT,cn]
    |_=>simp[eS,hhd,hx]at hv
   ·obtain⟨t1',he1,h1,f1,hw1⟩:=j0 A.wf A.ok hx A.ty A.cl
    cases he1
    obtain⟨ok1,ok2,ok3,_⟩:=A.ok
    have A':Ask b (.mk a.at (.list [x,a,b]) env::env) t1:=⟨ok3,hw1,h1,f1⟩
    cases v with
    |
     f w =>
     simp only[eS,hhd,hx,beq_self_eq_true,cb]at hv
     simp only[Vl.nodes]at hm hl hlen
     rw[gJ]at hlen |-
     simp only[an,gn]at hlen
     have hin:=FZ t1 ea ids he
     simp only[Ty.av]at hin
     simp only[Ty.av,↓zq,zs,ae]
     refine⟨by omega,fun h=>by omega,fun _=>⟨fun h=>by omega,fun _=>⟨fun _=>?_,fun h=>absurd rfl h⟩⟩⟩
     refine aQ hin (by have:=Cy.ne t1 ea ids;simpa only[Cy,Ty.av]using this) ?_
     intro r o hr
     obtain⟨⟨mm,hmm,rfl⟩,rfl⟩:=hr
     have he2:lJ (.ptr [.pid mm [(Ty.rc t1).av,ea],ea]) (mm::ids):=.cons hmm he
     have hfr:LK.ptr.has (.pid mm [(Ty.rc t1).av,ea]):=.inr (.inr ⟨_,_,rfl⟩)
     simp only[Ty.av]at he2 hfr
     simp only[↓zq,zs,ae,bC,aF,he2.has,hfr,Vl.cJ,aP,Ty.av]
     refine⟨by omega,?_⟩
     have i1:=Gx n m w (by omega) b _ t1 A' hv (by simp;omega) _ _ he2 (by simp[hids]) tg.up s fr (ht.push mm)
     unfold JL at i1
     refine aj i1 ?_
     simp only[↓zq,zs,ae]
     have hadd:=U8 (fun c=>.f (.l c)) (fun c=>RC c) (bR t1 tg.up w) [] (by simp;omega)
     simp only[Vl.cJ,gT,List.map_nil,aS]at hadd
     refine aY hadd ?_
     simp only[↓zq,zs,ae,aH,aP]
     have i2:=Gx n m w (by omega) b _ t1 A' hv (by simp;omega) _ _ he2 (by simp[hids]) (.bd 0) [] _ (by have:=BV.bd (k:=0) (ids:=mm::ids) (by simp) [(Ty.rc t1).av,ea] [];simpa only[bF,Ty.av]using this)
     unfold JL at i2
     refine⟨by omega,?_⟩
     refine aj i2 ?_
     simp only[↓zq,zs,ae,dV]
     have hl2:=oe t1 (.bd 0) w
     have ih3:∀h,h∈bR t1 (.bd 0) w->JL (.rc t1) ea s fr tg h.2:=fun h hh=>by
      have h3:=(gu hh).1
      have h4:=gV n m w (by omega) b _ t1 A' hv 0 _ rfl h hh
      exact Gx n m h.2 (by omega) (.list [x,a,b]) env (.rc t1) A h4 (by omega) ea ids he hids tg s fr ht
     have hloop:=O4 t1 ea s fr tg he.has ht.has (bR t1 (.bd 0) w) (by omega) ih3 (bR t1 (.bd 0) w).length 0 (fw (fun c=>.f (.l c)) (bR t1 tg.up w)) (by omega) (by
      simp only[a7,an,gn]
      have hlen2:(bR t1 tg.up w).length+((bR t1 (.bd 0) w).flatMap (BZ t1 tg)).length<=1+w.nodes:=hlen
      omega)
     simp only[Ty.av,gT,a7]at hloop
     refine cC hloop ?_
     simp[↓zq,zs,ae,ae,bP,gT]
    |_=>simp[eS,hhd,hx]at hv
  ·rw[dF hat (by cases v<;>rfl)]
   simp[Ty.av,↓zq,zs,ae,bP,gT]
end Go.Proofs.Trees
namespace Go.Proofs.Trees
open Go Go.VL Go.RowKit
theorem BL:∀(v:Vl),v.cf.length<=900000->aq Tryz.prog 52 [v.cJ] [] (bP (.v (.string (mk v.cf))))
 | .u,h=>by refine Bl _ ((aP _).mpr trivial) ?_;simp[I0,Vl.cJ,↓zq,zs,ae,bP,Vl.cf,Vl.cI,fD]
 | .el k,h=>by refine Bl _ ((aP _).mpr trivial) ?_;simp[I0,Vl.cJ,↓zq,zs,ae,bP,Vl.cf,Vl.cI,fD]
 |
  .l v,h=>by
  simp only[Vl.cf,Vl.cI,fD,eF,aw,an,aE]at h
  refine Bl _ ((aP _).mpr trivial) ?_
  have hb:(⟨(bytesOf [[.v (.int .u8 108)]]).toArray⟩:ByteArray)=mk [108]:=rfl
  have ha:j8 [[.v (.int .u8 108)]]:=lX 108
  simp only[I0,Vl.cJ,↓zq,zs,ae,aP,fB,hb]
  refine⟨by omega,fun h=>by omega,fun _=>⟨fun h=>by omega,fun _=>⟨fun h=>by omega,fun _=>⟨by omega,ha,by simp[cR],by rw[lN,cR,cR];simp,by omega,?_⟩⟩⟩⟩
  refine aj (BL v (by simp only[Vl.cf];omega)) ?_
  simp only[↓zq,zs,ae,zt,bP,Vl.cf,Vl.cI,fD,eF]
  refine⟨by simp;omega,by simp;omega,by simp⟩
 |
  .r v,h=>by
  simp only[Vl.cf,Vl.cI,fD,eF,aw,an,aE]at h
  refine Bl _ ((aP _).mpr trivial) ?_
  have hb:(⟨(bytesOf [[.v (.int .u8 114)]]).toArray⟩:ByteArray)=mk [114]:=rfl
  have ha:j8 [[.v (.int .u8 114)]]:=lX 114
  simp only[I0,Vl.cJ,↓zq,zs,ae,aP,fB,hb]
  refine⟨by omega,fun h=>by omega,fun _=>⟨fun h=>by omega,fun _=>⟨fun h=>by omega,fun _=>⟨by omega,ha,by simp[cR],by rw[lN,cR,cR];simp,by omega,?_⟩⟩⟩⟩
  refine aj (BL v (by simp only[Vl.cf];omega)) ?_
  simp only[↓zq,zs,ae,zt,bP,Vl.cf,Vl.cI,fD,eF]
  refine⟨by simp;omega,by simp;omega,by simp⟩
 |
  .f v,h=>by
  simp only[Vl.cf,Vl.cI,fD,eF,aw,an,aE]at h
  refine Bl _ ((aP _).mpr trivial) ?_
  have hb:(⟨(bytesOf [[.v (.int .u8 102)]]).toArray⟩:ByteArray)=mk [102]:=rfl
  have ha:j8 [[.v (.int .u8 102)]]:=lX 102
  simp only[I0,Vl.cJ,↓zq,zs,ae,aP,fB,hb]
  refine⟨by omega,fun h=>by omega,fun _=>⟨fun h=>by omega,fun _=>⟨fun h=>by omega,fun _=>⟨by omega,ha,by simp[cR],by rw[lN,cR,cR];simp,by omega,?_⟩⟩⟩⟩
  refine aj (BL v (by simp only[Vl.cf];omega)) ?_
  simp only[↓zq,zs,ae,zt,bP,Vl.cf,Vl.cI,fD,eF]
  refine⟨by simp;omega,by simp;omega,by simp⟩
 |
  .p a b,h=>by
  simp only[Vl.cf,Vl.cI,fD,eF,aw,an,aE]at h
  refine Bl _ ((aP _).mpr trivial) ?_
  simp only[I0,Vl.cJ,↓zq,zs,ae,aP,fB]
  refine⟨by omega,fun h=>by omega,fun _=>⟨fun h=>by omega,fun _=>⟨fun _=>⟨by omega,?_⟩,fun h=>absurd rfl h⟩⟩⟩
  refine aj (BL a (by simp only[Vl.cf];omega)) ?_
  simp only[↓zq,zs,ae,zt,aP,Vl.cf]
  refine⟨by simp;omega,by simp;omega,by omega,?_⟩
  refine aj (BL b (by simp only[Vl.cf];omega)) ?_
  simp only[↓zq,zs,ae,zt,bP,Vl.cf,Vl.cI,fD,eF]
  refine⟨by simp;omega,by simp;omega,by simp⟩
def re:Option (List UInt8)->AV
 |some s=>.cm [.v (.string (mk s)),.v (.bool true)]
 |none=>.cm [.v (.string (mk [])),.v (.bool false)]
end Go.Proofs.Trees
namespace Go.Proofs.Trees
open Go Go.VL Go.RowKit
def back(n:Nat):Ty->Nat->Vl
 | .name _,c=>.el c
 | .plus a b,c=>match KL n a with|some x=>if c<x then .l (back n a c)else .r (back n b (c-x))|none=>.u
 | .times a b,c=>match KL n b with|some y=>.p (back n a (c/y)) (back n b (c%y))|none=>.u
 |_,_=>.u
theorem AF:∀l:List E,ck 2 (E.bE l)
 |[]=>fun c hc=>by cases hc
 |
  e::l=>fun c hc=>by
  simp only[E.bE,aI]at hc
  rcases hc with rfl|hc
  ·exact gO e
  ·exact AF l c hc
theorem Nb(w:List UInt8)(l:List E)(hl:l.length<1000000):aq Tryz.prog 61 [.v (.string (mk w)),.sl (E.bE l)] [] (bP (E.lF (.list (.atom w::l)))):=by
 refine Md _ _ ((cc _).mpr trivial) ?_
 simp only[Hs,↓zq,zs,ae,eC,bP,E.lF,E.iX,E.bE]
 exact⟨⟨AF l,by omega⟩,rfl⟩
end Go.Proofs.Trees
namespace Go.Proofs.Trees
open Go Go.VL Go.RowKit
def kG(l:List Hl):List (List AV):=l.map fun h=>[.v (.string (mk h.1.cI.at)),h.1.cI.sp,.v (.string (mk h.2.cI.at)),h.2.cI.sp]
theorem eg(l:List Hl):(kG l).length=l.length:=by simp[kG]
theorem eN{l:List Hl}{i:Nat}(hi:i<l.length):(kG l).getD i []=[.v (.string (mk (l[i]).1.cI.at)),(l[i]).1.cI.sp,.v (.string (mk (l[i]).2.cI.at)),(l[i]).2.cI.sp]:=by simp[kG,aa,hi]
theorem ql(out:List Hl)(a b:Vl):kG out++[[.v (.string (mk a.cI.at)),a.cI.sp,.v (.string (mk b.cI.at)),b.cI.sp]]=kG (out++[(a,b)]):=by simp[kG]
theorem Bs(a b c d:AV):ck 4 [[a,b,c,d]]:=fun x hx=>by simp at hx;rw[hx];rfl
theorem aL(s:ByteArray)(e:E):bC [.str,.sl] [.v (.string s),e.sp] 0=True:=by simp[bC,dD,aX]
theorem j2(s:ByteArray)(e:E)(x y:AV):bC [.str,.sl] [.v (.string s),e.sp,x,y] 0=True:=by simp[bC,dD,aX]
theorem xS(w:List UInt8)(e:E):aq Tryz.prog 61 [.v (.string (mk w)),.sl [[.v (.string (mk e.at)),e.sp]]] [] (bP (.agg [.v (.string (mk [])),(E.list [.atom w,e]).sp])):=by
 have:=Nb w [e] (by simp)
 simpa only[E.bE,gd,cT,E.at]using this
theorem yY(w:List UInt8)(e e':E):aq Tryz.prog 61 [.v (.string (mk w)),.sl [[.v (.string (mk e.at)),e.sp],[.v (.string (mk e'.at)),e'.sp]]] [] (bP (.agg [.v (.string (mk [])),(E.list [.atom w,e,e']).sp])):=by
 have:=Nb w [e,e'] (by simp)
 simpa only[E.bE,gd,cT,E.at]using this
def P3(pv:AV)(a b:E):Prop:=LK.sl.has pv/\pv.elems.length=3/\pv.elems.getD 1 []=[.v (.string (mk a.at)),a.sp]/\pv.elems.getD 2 []=[.v (.string (mk b.at)),b.sp]
theorem P3.of(x a b:E):P3 (E.list [x,a,b]).sp a b:=⟨by simp[E.sp,cc],by simp[E.sp,E.bE,fJ],by simp[E.sp,E.bE,fJ,gd],by simp[E.sp,E.bE,fJ,gd]⟩
def P2(pv:AV)(a:E):Prop:=LK.sl.has pv/\pv.elems.length=2/\pv.elems.getD 1 []=[.v (.string (mk a.at)),a.sp]
theorem P2.of(x a:E):P2 (E.list [x,a]).sp a:=⟨by simp[E.sp,cc],by simp[E.sp,E.bE,fJ],by simp[E.sp,E.bE,fJ,gd]⟩
theorem Q7(w:List UInt8)(g:Vl->Vl)(hg:∀c,(g c).cI=.list [.atom w,c.cI])(l:List Hl)(hl:l.length<=1000000):∀(k i:Nat) (out:List Hl),i+k=l.length->out.length+k<=1000000 ->
 Kr [.sl (kG l),.v (.string (mk w)),.v (.int .i64 (i:Int))] [.vec 4 (kG out)] (gS 1 [] [.vec 4 (kG (out++fw g (l.drop i)))])
 |
  0,i,out,hi,ho=>by
  refine Py _ _ _ _ ?_
  have:i=l.length:=by omega
  subst this
  simp only[Jf,↓zq,zs,ae,eg]
  exact⟨fun h=>by omega,fun _=>by simp[gS,fw]⟩
 |
  k+1,i,out,hi,ho=>by
  have hlt:i<l.length:=by omega
  refine Py _ _ _ _ ?_
  simp only[Jf,↓zq,zs,ae,zt,eg,eN hlt,j2,aL]
  refine⟨fun _=>?_,fun h=>by omega⟩
  repeat refine⟨by omega,?_⟩
  refine aj (xS _ _) ?_
  simp only[↓zq,zs,ae,aL]
  repeat refine⟨by omega,?_⟩
  refine⟨⟨Bs _ _ _ _,by omega⟩,?_⟩
  rw[bD i (by omega)]
  have:=Q7 w g hg l hl k (i+1) (out++[(g (l[i]).1,(l[i]).2)]) (by omega) (by simp;omega)
  rw[a6,<-ql,hg]at this
  rw[gY g l hlt]
  exact this
theorem N5(w:List UInt8)(g:Vl->Vl)(hg:∀c,(g c).cI=.list [.atom w,c.cI])(l out:List Hl)(hl:out.length+l.length<=1000000) :
 aq Tryz.prog 72 [.sl (kG l),.v (.string (mk w)),.vec 0] [.vec 4 (kG out)] (di (.vec 1) [.dead,.vec 4 (kG (out++fw g l))]):=by
 refine Tr _ _ _ ((cc _).mpr trivial) ?_
 simp only[Pz,↓zq,zs,ae]
 have h:=Q7 w g hg l (by omega) l.length 0 out (by omega) (by omega)
 rw[a7]at h
 refine cC h ?_
 simp[↓zq,zs,ae,di]
theorem Mv(s:List UInt8)(ta:ByteArray)(tp:AV)(ht:LK.sl.has tp)(va:ByteArray)(vp:AV)(x y:Vl)(hp:P3 vp x.cI y.cI)(l:List Hl)(hl:l.length<=1000000):∀(k i:Nat) (out:List Hl),i+k=l.length->out.length+k<=1000000 ->
 Jt [.v (.string (mk s)),.sl (kG l),.v (.int .i64 (i:Int))] [.cells [.v (.string ta),tp],.cells [.v (.string va),vp],.vec 4 (kG out)] (gS 1 [.v (.string (mk s))] [.cells [.v (.string ta),tp],.cells [.v (.string va),vp],.vec 4 (kG (out++fw (fun c=>Vl.l (.p c y)) (l.drop i)))])
 |
  0,i,out,hi,ho=>by
  refine Nr _ _ _ _ _ _ _ _ ?_
  have:i=l.length:=by omega
  subst this
  simp only[Hx,↓zq,zs,ae,eg,ht,aX,ae,hp.1]
  exact⟨fun h=>by omega,fun _=>by simp[gS,fw]⟩
 |
  k+1,i,out,hi,ho=>by
  have hlt:i<l.length:=by omega
  refine Nr _ _ _ _ _ _ _ _ ?_
  simp only[Hx,↓zq,zs,ae,zt,eg,eN hlt,j2,aL,eN,ht,aX,ae,hp.1,toNat_one,bj,hp.1,hp.2.1,hp.2.2.1,hp.2.2.2]
  refine⟨fun _=>?_,fun h=>by omega⟩
  repeat refine⟨by omega,?_⟩
  refine aj (yY _ _ _) ?_
  simp only[↓zq,zs,ae,aL]
  repeat refine⟨by omega,?_⟩
  refine aj (xS [108] (E.list [.atom [112],(l[i]).1.cI,y.cI])) ?_
  simp only[↓zq,zs,ae,aL]
  repeat refine⟨by omega,?_⟩
  refine⟨⟨Bs _ _ _ _,by omega⟩,?_⟩
  rw[bD i (by omega)]
  have:=Mv s ta tp ht va vp x y hp l hl k (i+1) (out++[((fun c=>Vl.l (.p c y)) (l[i]).1,(l[i]).2)]) (by omega) (by simp;omega)
  rw[a6,<-ql]at this
  rw[gY (fun c=>Vl.l (.p c y)) l hlt]
  exact this
theorem Rf(va:ByteArray)(vp:AV)(x y:Vl)(hp:P3 vp x.cI y.cI)(l:List Hl)(hl:l.length<=1000000):∀(k i:Nat) (out:List Hl),i+k=l.length->out.length+k<=1000000 ->
 Jg [.sl (kG l),.v (.int .i64 (i:Int))] [.cells [.v (.string va),vp],.vec 4 (kG out)] (gS 1 [] [.vec 4 (kG (out++fw (fun c=>Vl.r (.p x c)) (l.drop i)))])
 |
  0,i,out,hi,ho=>by
  refine K4 _ _ _ _ _ ?_
  have:i=l.length:=by omega
  subst this
  simp only[Jc,↓zq,zs,ae,eg,aX,ae,hp.1]
  exact⟨fun h=>by omega,fun _=>by simp[gS,fw]⟩
 |
  k+1,i,out,hi,ho=>by
  have hlt:i<l.length:=by omega
  refine K4 _ _ _ _ _ ?_
  simp only[Jc,↓zq,zs,ae,zt,eg,eN hlt,j2,aL,eN,aX,ae,hp.1,toNat_one,bj,hp.1,hp.2.1,hp.2.2.1,hp.2.2.2]
  refine⟨fun _=>?_,fun h=>by omega⟩
  repeat refine⟨by omega,?_⟩
  refine aj (yY _ _ _) ?_
  simp only[↓zq,zs,ae,aL]
  repeat refine⟨by omega,?_⟩
  refine aj (xS [114] (E.list [.atom [112],x.cI,(l[i]).1.cI])) ?_
  simp only[↓zq,zs,ae,aL]
  repeat refine⟨by omega,?_⟩
  refine⟨⟨Bs _ _ _ _,by omega⟩,?_⟩
  rw[bD i (by omega)]
  have:=Rf va vp x y hp l hl k (i+1) (out++[((fun c=>Vl.r (.p x c)) (l[i]).1,(l[i]).2)]) (by omega) (by simp;omega)
  rw[a6,<-ql]at this
  rw[gY (fun c=>Vl.r (.p x c)) l hlt]
  exact this
theorem PA(s s2:List UInt8)(ta:ByteArray)(tp:AV)(ht:LK.sl.has tp)(va:ByteArray)(vp:AV)(hp:LK.sl.has vp)(l:List Hl)(hl:l.length<=1000000):∀(k i:Nat) (out:List Hl),i+k=l.length->out.length+k<=1000000 ->
 J8 [.v (.string (mk s)),.v (.string (mk s2)),.sl (kG l),.v (.int .i64 (i:Int))] [.cells [.v (.string ta),tp],.cells [.v (.string va),vp],.vec 4 (kG out)] (gS 1 [.v (.string (mk s)),.v (.string (mk s2))] [.cells [.v (.string ta),tp],.cells [.v (.string va),vp],.vec 4 (kG (out++fw (fun c=>Vl.f (.l c)) (l.drop i)))])
 |
  0,i,out,hi,ho=>by
  refine Rh _ _ _ _ _ _ _ _ _ ?_
  have:i=l.length:=by omega
  subst this
  simp only[IJ,↓zq,zs,ae,eg,ht,aX,ae,hp]
  exact⟨fun h=>by omega,fun _=>by simp[gS,fw]⟩
 |
  k+1,i,out,hi,ho=>by
  have hlt:i<l.length:=by omega
  refine Rh _ _ _ _ _ _ _ _ _ ?_
  simp only[IJ,↓zq,zs,ae,zt,eg,eN hlt,j2,aL,eN,ht,aX,ae,hp]
  refine⟨fun _=>?_,fun h=>by omega⟩
  repeat refine⟨by omega,?_⟩
  refine aj (xS _ _) ?_
  simp only[↓zq,zs,ae,aL]
  repeat refine⟨by omega,?_⟩
  refine aj (xS [102] (E.list [.atom [108],(l[i]).1.cI])) ?_
  simp only[↓zq,zs,ae,aL]
  repeat refine⟨by omega,?_⟩
  refine⟨⟨Bs _ _ _ _,by omega⟩,?_⟩
  rw[bD i (by omega)]
  have:=PA s s2 ta tp ht va vp hp l hl k (i+1) (out++[((fun c=>Vl.f (.l c)) (l[i]).1,(l[i]).2)]) (by omega) (by simp;omega)
  rw[a6,<-ql]at this
  rw[gY (fun c=>Vl.f (.l c)) l hlt]
  exact this
theorem QP(s:List UInt8)(L:AV)(q:Nat)(kc:Vl)(kv:Vl)(hL:LK.sl.has L)(hq:q<L.elems.length)(hg:L.elems.getD q []=[.v (.string (mk kc.cI.at)),kc.cI.sp,.v (.string (mk kv.cI.at)),kv.cI.sp])(ta:ByteArray)(tp:AV)(ht:LK.sl.has tp)(l:List Hl)(hl:l.length<=1000000):∀(k i:Nat) (out:List Hl),i+k=l.length->out.length+k<=1000000 ->
 JM [.v (.string (mk s)),L,.v (.int .i64 (q:Int)),.sl (kG l),.v (.int .i64 (i:Int))] [.cells [.v (.string ta),tp],.vec 4 (kG out)] (gS 1 [.v (.string (mk s)),L,.v (.int .i64 (q:Int))] [.cells [.v (.string ta),tp],.vec 4 (kG (out++fw (fun c=>Vl.f (.r (.p kc c))) (l.drop i)))])
 |
  0,i,out,hi,ho=>by
  refine PQ _ _ _ _ _ _ _ _ ?_
  have:i=l.length:=by omega
  subst this
  simp only[I2,↓zq,zs,ae,eg,ht,aX,ae,hL]
  exact⟨fun h=>by omega,fun _=>by simp[gS,fw]⟩
 |
  k+1,i,out,hi,ho=>by
  have hlt:i<l.length:=by omega
  refine PQ _ _ _ _ _ _ _ _ ?_
  simp only[I2,↓zq,zs,ae,zt,eg,eN hlt,j2,aL,eN,ht,aX,ae,hL,hg]
  refine⟨fun _=>?_,fun h=>by omega⟩
  repeat refine⟨by omega,?_⟩
  refine aj (yY _ _ _) ?_
  simp only[↓zq,zs,ae,aL]
  repeat refine⟨by omega,?_⟩
  refine aj (xS [114] (E.list [.atom [112],kc.cI,(l[i]).1.cI])) ?_
  simp only[↓zq,zs,ae,aL]
  repeat refine⟨by omega,?_⟩
  refine aj (xS [102] (E.list [.atom [114],E.list [.atom [112],kc.cI,(l[i]).1.cI]])) ?_
  simp only[↓zq,zs,ae,aL]
  repeat refine⟨by omega,?_⟩
  refine⟨⟨Bs _ _ _ _,by omega⟩,?_⟩
  rw[bD i (by omega)]
  have:=QP s L q kc kv hL hq hg ta tp ht l hl k (i+1) (out++[((fun c=>Vl.f (.r (.p kc c))) (l[i]).1,(l[i]).2)]) (by omega) (by simp;omega)
  rw[a6,<-ql]at this
  rw[gY (fun c=>Vl.f (.r (.p kc c))) l hlt]
  exact this
end Go.Proofs.Trees
