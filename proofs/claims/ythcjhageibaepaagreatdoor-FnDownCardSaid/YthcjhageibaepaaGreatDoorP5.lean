/-
  Part of a proof: Go functions read by values, trees of functions, their contracts.
-/
import Derived.Test.YthcjhageibaepaaGreatDoorP4
import Derived.Test.YthcjhageibaepaaGreatDoorProg
import Derived.Lib.Atoi
set_option linter.unusedVariables false
set_option linter.unusedSimpArgs false
open And renaming intro→aH
open Bool renaming and_eq_true→aw,eq_iff_iff→cy,or_eq_false_iff→cf,or_eq_true→bC,true_and→bX
open ByteArray renaming extract→cq,size→ag,toList→af
open Int renaming tmod→dF,toNat→bG,toNat_natCast→bH
open List renaming all_cons→cZ,any_eq_true→cr,append_assoc→a8,append_nil→cX,drop_eq_getElem_cons→aU,drop_eq_nil_of_le→bV,drop_zero→bf,eq_nil_of_length_eq_zero→bJ,getD_cons_zero→bq,getD_eq_getElem?_getD→aa,getElem?_eq_getElem→bp,getElem_mem→bD,headD_cons→aJ,length_append→aq,length_cons→aA,length_drop→cw,length_nil→aG,map_cons→bI,mem_append→aO,mem_append_left→aD,mem_cons→aL,mem_cons_of_mem→al,mem_cons_self→ak,mem_map→bP,mem_singleton→aQ,nil_append→aT
open Nat renaming beq→aK,le_add_right→da,le_refl→au,mul_add→cT,mul_one→dG,zero_add→aX,zero_le→dQ
open Option renaming bind_eq_some_iff→a6,isSome_iff_exists→bU,isSome_none→bA,map_some→cz
open UInt8 renaming ofNat→bj
namespace Go.Proofs.Trees
open Go Go.VL
noncomputable section
variable {R:AV->List Ob->Prop}{U:RL}
def OP(a0_0:ByteArray)(a0_1:AV)(a1:ByteArray):Tree :=
 .call 65 [.agg [VS a0_0,a0_1],.sl [[VS a1,.v (.slice none 0 0)]]] [] fun r1 o1=>NA r1<|NG (r1.cs.getD 1 .any) 1 2<|kJ ((r1.cs.getD 1 .any).ix (1:Int))<|NG (r1.cs.getD 1 .any) 2 2<|NE ((r1.cs.getD 1 .any).ix (2:Int))<|.call 122 [.agg [VS ((((r1.cs.getD 1 .any).ix (2:Int)).getD 0 .any).toStr),(((r1.cs.getD 1 .any).ix (2:Int)).getD 1 .any)],VS a1] [] fun r2 o2=>NT r2<|.ai ((r2.comp 0)=.agg (r2.comp 0).cs/\(r2.comp 0).cs.length=2/\bK [.str,.sl] ((r2.comp 0).cs) 0)<|NB (r2.comp 1)<|NG (r1.cs.getD 1 .any) 2 2<|NE ((r1.cs.getD 1 .any).ix (2:Int))<|.call 122 [.agg [VS ((((r1.cs.getD 1 .any).ix (2:Int)).getD 0 .any).toStr),(((r1.cs.getD 1 .any).ix (2:Int)).getD 1 .any)],VS ((((r1.cs.getD 1 .any).ix (1:Int)).hA).toStr)] [] fun r3 o3=>NT r3<|.ai ((r3.comp 0)=.agg (r3.comp 0).cs/\(r3.comp 0).cs.length=2/\bK [.str,.sl] ((r3.comp 0).cs) 0)<|NB (r3.comp 1)<|.test (!((r2.comp 1).toBool)) (.done 0 [.cG [.agg [VS ((r1.cs.getD 0 .any).toStr),(r1.cs.getD 1 .any)],VB false]] []) (.test (!((r3.comp 1).toBool)) (.done 0 [.cG [.agg [VS ((r1.cs.getD 0 .any).toStr),(r1.cs.getD 1 .any)],VB false]] []) (.call 123 [.agg [VS (((r2.comp 0).cs.getD 0 .any).toStr),((r2.comp 0).cs.getD 1 .any)],VS ((((r1.cs.getD 1 .any).ix (1:Int)).hA).toStr),.agg [VS ((r1.cs.getD 0 .any).toStr),(r1.cs.getD 1 .any)]] [] fun r4 o4=>NT r4<|.ai ((r4.comp 0)=.agg (r4.comp 0).cs/\(r4.comp 0).cs.length=2/\bK [.str,.sl] ((r4.comp 0).cs) 0)<|NB (r4.comp 1)<|.call 123 [.agg [VS (((r3.comp 0).cs.getD 0 .any).toStr),((r3.comp 0).cs.getD 1 .any)],VS ((((r1.cs.getD 1 .any).ix (1:Int)).hA).toStr),.agg [VS ((r1.cs.getD 0 .any).toStr),(r1.cs.getD 1 .any)]] [] fun r5 o5=>NT r5<|.ai ((r5.comp 0)=.agg (r5.comp 0).cs/\(r5.comp 0).cs.length=2/\bK [.str,.sl] ((r5.comp 0).cs) 0)<|NB (r5.comp 1)<|.test (!((r4.comp 1).toBool)) (.done 0 [.cG [.agg [VS ((r1.cs.getD 0 .any).toStr),(r1.cs.getD 1 .any)],VB false]] []) (.test (!((r5.comp 1).toBool)) (.done 0 [.cG [.agg [VS ((r1.cs.getD 0 .any).toStr),(r1.cs.getD 1 .any)],VB false]] []) (.call 84 [.agg [VS (((r5.comp 0).cs.getD 0 .any).toStr),((r5.comp 0).cs.getD 1 .any)],.sl [],.vec 0] [.vec 1 []] fun r6 o6=>.ai (r6=.vec 1/\(o6.tail.hO)=.vec 1 (o6.tail.hO).es)<|.call 84 [.agg [VS (((r4.comp 0).cs.getD 0 .any).toStr),((r4.comp 0).cs.getD 1 .any)],.sl [],.vec 0] [.vec 1 ((o6.tail.hO).es)] fun r7 o7=>.ai (r7=.vec 1/\(o7.tail.hO)=.vec 1 (o7.tail.hO).es)<|.loop Jh Ia [VI 0] [.cells [VS (mk []),.v (.slice none 0 0)],.cells [VS (((r4.comp 0).cs.getD 0 .any).toStr),((r4.comp 0).cs.getD 1 .any)],.cells [VS (((r5.comp 0).cs.getD 0 .any).toStr),((r5.comp 0).cs.getD 1 .any)],.vec 1 ((o7.tail.hO).es)] (fun y10 q10=>NI (y10.hA)<|.ai ((q10.hO)=.cells (q10.hO).cs)<|.ai (ae [.lk .str,.lk .sl] ((q10.hO).cs) 0 q10.tail)<|.ai (((q10.tail.drop 0).hO)=.cells ((q10.tail.drop 0).hO).cs)<|.ai (ae [.lk .str,.lk .sl] (((q10.tail.drop 0).hO).cs) 0 ((q10.tail.drop 0).tail))<|.ai ((((q10.tail.drop 0).tail.drop 0).hO)=.cells (((q10.tail.drop 0).tail.drop 0).hO).cs)<|.ai (ae [.lk .str,.lk .sl] ((((q10.tail.drop 0).tail.drop 0).hO).cs) 0 (((q10.tail.drop 0).tail.drop 0).tail))<|.call 90 [VI ((y10.hA).toInt)] [] fun r11 o11=>NS r11<|.ai (ag (mk [116])+ag r11.toStr<=9223372036854775807)<|.call 81 [VS (mk [42]),.sl [[VS (((q10.tail.tail.hO).cs.getD 0 .any).toStr),((q10.tail.tail.hO).cs.getD 1 .any)],[VS (((mk [116]):ByteArray)++r11.toStr),.v (.slice none 0 0)]]] [] fun r12 o12=>NA r12<|.call 81 [VS (mk [43]),.sl [[VS (((q10.tail.hO).cs.getD 0 .any).toStr),((q10.tail.hO).cs.getD 1 .any)],[VS ((r12.cs.getD 0 .any).toStr),(r12.cs.getD 1 .any)]]] [] fun r13 o13=>NA r13<|.call 81 [VS (mk [114,101,99]),.sl [[VS (((mk [116]):ByteArray)++r11.toStr),.v (.slice none 0 0)],[VS ((r13.cs.getD 0 .any).toStr),(r13.cs.getD 1 .any)]]] [] fun r14 o14=>NA r14<|.call 88 [.agg [VS ((r14.cs.getD 0 .any).toStr),(r14.cs.getD 1 .any)]] [] fun r15 o15=>NI r15<|.done 0 [.cG [.agg [VS ((r14.cs.getD 0 .any).toStr),(r14.cs.getD 1 .any)],VB (decide (r15.toInt<=(400:Int)))]] []) (fun y10 q10=>.fail)))))
theorem Rt(a0_0:ByteArray)(a0_1:AV)(a1:ByteArray)(ha0_1:LK.has .sl a0_1)(h:di 108 (OP a0_0 a0_1 a1) R):an Tryz.prog 147 [.agg [VS a0_0,a0_1],VS a1] [] R :=
 uQ (ah (bZ (ah (az _) (ah (bO ha0_1) aC))) (ah (az _) aC)) (oQ LP Tryz.f147 h)
def MM(x17:Int)(o4_0:ByteArray)(o4_1:AV)(o12_0:ByteArray)(o12_1:AV)(o14_0:ByteArray)(o14_1:AV)(e16:List (List AV)):Tree :=
 NI (VI x17)<|.ai (Ob.cells [VS o4_0,o4_1]=.cells [VS o4_0,o4_1])<|.ai (ae [.lk .str,.lk .sl] [VS o4_0,o4_1] 0 [.cells [VS o12_0,o12_1],.cells [VS o14_0,o14_1],.vec 1 e16])<|.ai (Ob.cells [VS o12_0,o12_1]=.cells [VS o12_0,o12_1])<|.ai (ae [.lk .str,.lk .sl] [VS o12_0,o12_1] 0 [.cells [VS o14_0,o14_1],.vec 1 e16])<|.ai (Ob.cells [VS o14_0,o14_1]=.cells [VS o14_0,o14_1])<|.ai (ae [.lk .str,.lk .sl] [VS o14_0,o14_1] 0 [.vec 1 e16])<|.ai (Ob.vec 1 e16=.vec 1 e16)<|.call 90 [VI x17] [] fun r1 o1=>NS r1<|.ai (ag (mk [116])+ag r1.toStr<=9223372036854775807)<|.call 118 [.sl e16,VS (((mk [116]):ByteArray)++r1.toStr)] [] fun r2 o2=>NB r2<|.test r2.toBool (.done 0 [VI (IntKind.wrap .i64 (x17+1))] [.cells [VS o4_0,o4_1],.cells [VS o12_0,o12_1],.cells [VS o14_0,o14_1],.vec 1 e16]) (.done 1 [VI x17] [.cells [VS o4_0,o4_1],.cells [VS o12_0,o12_1],.cells [VS o14_0,o14_1]])
abbrev F1:=cB Tryz.prog 108 Jh Ia
theorem SQ(x17:Int)(o4_0:ByteArray)(o4_1:AV)(o12_0:ByteArray)(o12_1:AV)(o14_0:ByteArray)(o14_1:AV)(e16:List (List AV))(h:j9 108 (MM x17 o4_0 o4_1 o12_0 o12_1 o14_0 o14_1 e16) F1 U):F1 [VI x17] [.cells [VS o4_0,o4_1],.cells [VS o12_0,o12_1],.cells [VS o14_0,o14_1],.vec 1 e16] U :=
 gQ LP h
def Ig:LI:={hd:={bS:=[(0,.k .str),(1,.k (.int .i64)),(6,.k (.int .i64))]},xs:={bS:=[(0,.k .str),(1,.k (.int .i64)),(6,.k (.int .i64))]},rt:={},ex:=0}
def Mb:Code:=cH (cC Tryz.f148) 2
def Hq:LI:={hd:={bS:=[(0,.k .str),(1,.k (.int .i64)),(7,.k .str)],refs:=[(8,48)],cu:=[(48,[.lk .str,.vec 1])]},xs:={},rt:={bS:=[(4,.k .ptr),(5,.k .str)]},ex:=999}
def Ld:Code:=cH (cC Tryz.f148) 10
def Hb:List (Nat×LI):=[(2,Ig),(10,Hq)]
def HQ(a0:ByteArray)(a1:Int):Tree :=
 .loop Mb Ig [VS a0,VI a1,VI 0] [] (fun y2 q2=>NS (y2.hA)<|NI (y2.tail.hA)<|NI (y2.tail.tail.hA)<|.test (decide (((y2.tail.tail.hA).toInt)>(0:Int))) (.ai (0<=(0:Int)/\(0:Int)<=((y2.tail.tail.hA).toInt)/\((y2.tail.tail.hA).toInt)<=(ag ((y2.hA).toStr):Int))<|.ai (0<=((y2.tail.tail.hA).toInt)/\((y2.tail.tail.hA).toInt)<=(ag ((y2.hA).toStr):Int)/\(ag ((y2.hA).toStr):Int)<=(ag ((y2.hA).toStr):Int))<|.done 0 [.cG [.ptr [VS (cq ((y2.hA).toStr) (bG 0) (bG ((y2.tail.tail.hA).toInt))),.v (.slice none 0 0)],VS (cq ((y2.hA).toStr) (bG ((y2.tail.tail.hA).toInt)) (bG (ag ((y2.hA).toStr):Int)))]] []) (.test (af ((y2.hA).toStr)==af (mk [])) (.done 0 [.cG [.v (.pointer none),VS ((y2.hA).toStr)]] []) (.ai (0<=(0:Int)/\(0:Int)<ag ((y2.hA).toStr))<|.test ((bt ((y2.hA).toStr) 0) != (40:Int)) (.done 0 [.cG [.v (.pointer none),VS ((y2.hA).toStr)]] []) (.test (((y2.tail.hA).toInt)==(300:Int)) (.done 0 [.cG [.v (.pointer none),VS ((y2.hA).toStr)]] []) (.ai (0<=(1:Int)/\(1:Int)<=(ag ((y2.hA).toStr):Int)/\(ag ((y2.hA).toStr):Int)<=(ag ((y2.hA).toStr):Int))<|.loop Ld Hq [VS ((y2.hA).toStr),VI ((y2.tail.hA).toInt),VS (cq ((y2.hA).toStr) (bG 1) (bG (ag ((y2.hA).toStr):Int)))] [.cells [VS (mk []),.any],.vec 1 []] (fun y5 q5=>.fail) (fun y5 q5=>NP (y5.hA)<|NS (y5.tail.hA)<|.done 0 [.cG [(y5.hA),VS ((y5.tail.hA).toStr)]] [])))))) (fun y2 q2=>.done 0 [.cG [.any,.any]] [])
theorem ML(a0:ByteArray)(a1:Int)(h:di 84 (HQ a0 a1) R):an Tryz.prog 148 [VS a0,VI a1] [] R :=
 uQ (ah (az _) (ah (az _) aC)) (oQ Hb Tryz.f148 h)
def HL(x0:ByteArray)(x1:Int)(x6:Int):Tree :=
 NS (VS x0)<|NI (VI x1)<|NI (VI x6)<|.test (decide (x6<(ag x0:Int))) (.ai (0<=x6/\x6<ag x0)<|.call 162 [.v (.int .u8 (bt x0 x6))] [] fun r1 o1=>NB r1<|.test r1.toBool (.done 0 [VS x0,VI x1,VI (IntKind.wrap .i64 (x6+1))] []) (.done 1 [VS x0,VI x1,VI x6] [])) (.done 1 [VS x0,VI x1,VI x6] [])
abbrev FU:=cB Tryz.prog 84 Mb Ig
theorem Ny(x0:ByteArray)(x1:Int)(x6:Int)(h:j9 84 (HL x0 x1 x6) FU U):FU [VS x0,VI x1,VI x6] [] U :=
 gQ Hb h
def N1(x0:ByteArray)(x1:Int)(x7:ByteArray)(o48_0:ByteArray)(o48_1:List (List AV)):Tree :=
 NS (VS x0)<|NI (VI x1)<|NS (VS x7)<|.ai (Ob.cells [VS o48_0,.any]=.cells [VS o48_0,.any])<|.ai (ae [.lk .str,.vec 1] [VS o48_0,.any] 0 [.vec 1 o48_1])<|.call 148 [VS x7,VI (IntKind.wrap .i64 (x1+1))] [] fun r1 o1=>NT r1<|NP (r1.comp 0)<|NS (r1.comp 1)<|NP (r1.comp 0)<|.test ((r1.comp 0).isNil) (.done 2 [.v (.pointer none),VS x0] []) (.test (af ((r1.comp 1).toStr)==af (mk [])) (.done 2 [.v (.pointer none),VS x0] []) (.ai (cD 1 [[(r1.comp 0)]]/\((o48_1.length)+([[(r1.comp 0)]]:List (List AV)).length)*8<=140737488355328)<|.ai (0<=(1:Int)/\(1:Int)<=(ag ((r1.comp 1).toStr):Int)/\(ag ((r1.comp 1).toStr):Int)<=(ag ((r1.comp 1).toStr):Int))<|.ai (0<=(0:Int)/\(0:Int)<ag ((r1.comp 1).toStr))<|.test ((bt ((r1.comp 1).toStr) 0)==(41:Int)) (.done 2 [.ptr [VS o48_0,.sl (o48_1++([[(r1.comp 0)]]:List (List AV)))],VS (cq ((r1.comp 1).toStr) (bG 1) (bG (ag ((r1.comp 1).toStr):Int)))] []) (.ai (0<=(0:Int)/\(0:Int)<ag ((r1.comp 1).toStr))<|.test ((bt ((r1.comp 1).toStr) 0) != (32:Int)) (.done 2 [.v (.pointer none),VS x0] []) (.done 0 [VS x0,VI x1,VS (cq ((r1.comp 1).toStr) (bG 1) (bG (ag ((r1.comp 1).toStr):Int)))] [.cells [VS o48_0,.any],.vec 1 (o48_1++([[(r1.comp 0)]]:List (List AV)))]))))
abbrev G5:=cB Tryz.prog 84 Ld Hq
theorem RY(x0:ByteArray)(x1:Int)(x7:ByteArray)(o48_0:ByteArray)(o48_1:List (List AV))(h:j9 84 (N1 x0 x1 x7 o48_0 o48_1) G5 U):G5 [VS x0,VI x1,VS x7] [.cells [VS o48_0,.any],.vec 1 o48_1] U :=
 gQ Hb h
def IX(a0:ByteArray):Tree :=
 .call 163 [VS a0,VS (mk [120,121,122])] [] fun r1 o1=>NB r1<|.done 0 [VB r1.toBool] []
theorem Qm(a0:ByteArray)(h:di 5 (IX a0) R):an Tryz.prog 149 [VS a0] [] R :=
 uQ (ah (az _) aC) (oQ [] Tryz.f149 h)
def Lg(a0:ByteArray):Tree :=
 .call 163 [VS a0,VS (mk [116])] [] fun r1 o1=>NB r1<|.done 0 [VB r1.toBool] []
theorem P5(a0:ByteArray)(h:di 5 (Lg a0) R):an Tryz.prog 150 [VS a0] [] R :=
 uQ (ah (az _) aC) (oQ [] Tryz.f150 h)
def A2(a0:AV)(a1:ByteArray)(a2:Int):Tree :=
 NZ a0<|NZ a0<|nB (a0.deref.drop 1)<|NL ((a0.deref.drop 1).hA)<|.test (((((a0.deref.drop 1).hA).elems).length:Int)==a2) (NZ a0<|NZ a0<|nB (a0.deref.drop 1)<|NG ((a0.deref.drop 1).hA) 0 1<|dS (((a0.deref.drop 1).hA).ix (0:Int))<|NZ ((((a0.deref.drop 1).hA).ix (0:Int)).hA)<|NZ ((((a0.deref.drop 1).hA).ix (0:Int)).hA)<|.ai (LK.has .str (((((a0.deref.drop 1).hA).ix (0:Int)).hA).deref.hA)/\1<=(((((a0.deref.drop 1).hA).ix (0:Int)).hA).deref).length)<|.done 0 [VB (af ((((((a0.deref.drop 1).hA).ix (0:Int)).hA).deref.hA).toStr)==af a1)] []) (.done 0 [VB false] [])
theorem Kz(a0:AV)(a1:ByteArray)(a2:Int)(ha0:LK.has .ptr a0)(h:di 27 (A2 a0 a1 a2) R):an Tryz.prog 151 [a0,VS a1,VI a2] [] R :=
 uQ (ah (bB ha0) (ah (az _) (ah (az _) aC))) (oQ [] Tryz.f151 h)
def J2(a0:Int)(a1:AV)(a2:AV):Tree :=
 .done 0 [.ptr [.v (.int .u8 a0),VS (mk []),VI 0,a1,a2]] []
theorem Q8(a0:Int)(a1:AV)(a2:AV)(ha1:LK.has .ptr a1)(ha2:LK.has .ptr a2)(h:di 12 (J2 a0 a1 a2) R):an Tryz.prog 153 [.v (.int .u8 a0),a1,a2] [] R :=
 uQ (ah (az _) (ah (bB ha1) (ah (bB ha2) aC))) (oQ [] Tryz.f153 h)
def NN(a0:AV):Tree :=
 .call 165 [a0,.fn 166 [.ref 0 0]] [.cells [.vec 1],.vec 1 []] fun r1 o1=>.ai ((o1.hO)=.cells (o1.hO).cs)<|.ai (aI [.vec 1] ((o1.hO).cs) 0 1 o1.tail)<|.done 0 [.sl ((o1.tail.hO).es)] []
theorem Sd(a0:AV)(ha0:LK.has .ptr a0)(h:di 9 (NN a0) R):an Tryz.prog 154 [a0] [] R :=
 uQ (ah (bB ha0) aC) (oQ [] Tryz.f154 h)
def FO:LI:={hd:={bS:=[(0,.k .ptr),(1,.k .sl),(9,.k .str)],refs:=[(3,0),(4,1)],cu:=[(0,[.lk .sl]),(1,[.lk (.int .i64)])],wm:=[(2,155,[none,some 0,some 1])]},xs:={bS:=[(0,.k .ptr),(1,.k .sl),(9,.k .str)],cu:=[(0,[.lk .sl]),(1,[.lk (.int .i64)])],wm:=[(2,155,[none,some 0,some 1])]},rt:={cu:=[(0,[.lk .sl]),(1,[.lk (.int .i64)])]},ex:=1,fx:=[0,1]}
def NW:Code:=cH (cC Tryz.f155) 12
def LA:List (Nat×LI):=[(12,FO)]
def E3(a0:AV)(a1:AV)(a3_0:AV)(a4_0:Int):Tree :=
 NZ a0<|NZ a0<|.ai (LK.has (.int .u8) (a0.deref.hA)/\1<=a0.deref.length)<|.test (((a0.deref.hA).toInt)==(110:Int)) (NZ a0<|NZ a0<|kJ (a0.deref.drop 1)<|.done 0 [VS (((a0.deref.drop 1).hA).toStr)] [.cells [a3_0],.cells [VI a4_0]]) (.test (((a0.deref.hA).toInt)==(98:Int)) (NL a1<|NZ a0<|NZ a0<|.ai (LK.has (.int .i64) ((a0.deref.drop 2).hA)/\1<=(a0.deref.drop 2).length)<|.ai (LK.has .sl a1/\0<=(IntKind.wrap .i64 ((IntKind.wrap .i64 ((a1.elems.length:Int)-1))-(((a0.deref.drop 2).hA).toInt)))/\(IntKind.wrap .i64 ((IntKind.wrap .i64 ((a1.elems.length:Int)-1))-(((a0.deref.drop 2).hA).toInt)))<a1.elems.length/\(a1.ix (IntKind.wrap .i64 ((IntKind.wrap .i64 ((a1.elems.length:Int)-1))-(((a0.deref.drop 2).hA).toInt)))).length=1)<|kJ (a1.ix (IntKind.wrap .i64 ((IntKind.wrap .i64 ((a1.elems.length:Int)-1))-(((a0.deref.drop 2).hA).toInt))))<|.done 0 [VS (((a1.ix (IntKind.wrap .i64 ((IntKind.wrap .i64 ((a1.elems.length:Int)-1))-(((a0.deref.drop 2).hA).toInt)))).hA).toStr)] [.cells [a3_0],.cells [VI a4_0]]) (.test (((a0.deref.hA).toInt)==(43:Int)) (NZ a0<|NZ a0<|dS (a0.deref.drop 3)<|.call 155 [((a0.deref.drop 3).hA),a1,.gL 155 [none,some 0,some 1],.ref 0 0,.ref 1 0] [.cells [a3_0],.cells [VI a4_0]] fun r1 o1=>.ai ((o1.hO)=.cells (o1.hO).cs)<|.ai (aI [.lk .sl] ((o1.hO).cs) 0 1 o1.tail)<|.ai ((o1.tail.hO)=.cells (o1.tail.hO).cs)<|.ai (aI [.lk (.int .i64)] ((o1.tail.hO).cs) 0 2 o1.tail.tail)<|NS r1<|NZ a0<|NZ a0<|.ai (LK.has (.int .u8) (a0.deref.hA)/\1<=a0.deref.length)<|.ai (jA [[.v (.int .u8 ((a0.deref.hA).toInt))]])<|.ai (ag (mk [40])+ag (⟨(bytesOf [[.v (.int .u8 ((a0.deref.hA).toInt))]]).toArray⟩)<=9223372036854775807)<|.ai (ag (((mk [40]):ByteArray)++(⟨(bytesOf [[.v (.int .u8 ((a0.deref.hA).toInt))]]).toArray⟩))+ag (mk [32])<=9223372036854775807)<|.ai (ag (((((mk [40]):ByteArray)++(⟨(bytesOf [[.v (.int .u8 ((a0.deref.hA).toInt))]]).toArray⟩)):ByteArray)++(mk [32]))+ag r1.toStr<=9223372036854775807)<|.ai (ag (((((((mk [40]):ByteArray)++(⟨(bytesOf [[.v (.int .u8 ((a0.deref.hA).toInt))]]).toArray⟩)):ByteArray)++(mk [32])):ByteArray)++r1.toStr)+ag (mk [32])<=9223372036854775807)<|NZ a0<|NZ a0<|dS (a0.deref.drop 4)<|.call 155 [((a0.deref.drop 4).hA),a1,.gL 155 [none,some 0,some 1],.ref 0 0,.ref 1 0] [.cells [((o1.hO).cs.getD 0 .any)],.cells [VI (((o1.tail.hO).cs.getD 0 .any).toInt)]] fun r2 o2=>.ai ((o2.hO)=.cells (o2.hO).cs)<|.ai (aI [.lk .sl] ((o2.hO).cs) 0 1 o2.tail)<|.ai ((o2.tail.hO)=.cells (o2.tail.hO).cs)<|.ai (aI [.lk (.int .i64)] ((o2.tail.hO).cs) 0 2 o2.tail.tail)<|NS r2<|.ai (ag (((((((((mk [40]):ByteArray)++(⟨(bytesOf [[.v (.int .u8 ((a0.deref.hA).toInt))]]).toArray⟩)):ByteArray)++(mk [32])):ByteArray)++r1.toStr):ByteArray)++(mk [32]))+ag r2.toStr<=9223372036854775807)<|.ai (ag (((((((((((mk [40]):ByteArray)++(⟨(bytesOf [[.v (.int .u8 ((a0.deref.hA).toInt))]]).toArray⟩)):ByteArray)++(mk [32])):ByteArray)++r1.toStr):ByteArray)++(mk [32])):ByteArray)++r2.toStr)+ag (mk [41])<=9223372036854775807)<|.done 0 [VS (((((((((((((mk [40]):ByteArray)++(⟨(bytesOf [[.v (.int .u8 ((a0.deref.hA).toInt))]]).toArray⟩)):ByteArray)++(mk [32])):ByteArray)++r1.toStr):ByteArray)++(mk [32])):ByteArray)++r2.toStr):ByteArray)++(mk [41]))] [.cells [((o2.hO).cs.getD 0 .any)],.cells [VI (((o2.tail.hO).cs.getD 0 .any).toInt)]]) (.test (((a0.deref.hA).toInt)==(42:Int)) (NZ a0<|NZ a0<|dS (a0.deref.drop 3)<|.call 155 [((a0.deref.drop 3).hA),a1,.gL 155 [none,some 0,some 1],.ref 0 0,.ref 1 0] [.cells [a3_0],.cells [VI a4_0]] fun r3 o3=>.ai ((o3.hO)=.cells (o3.hO).cs)<|.ai (aI [.lk .sl] ((o3.hO).cs) 0 1 o3.tail)<|.ai ((o3.tail.hO)=.cells (o3.tail.hO).cs)<|.ai (aI [.lk (.int .i64)] ((o3.tail.hO).cs) 0 2 o3.tail.tail)<|NS r3<|NZ a0<|NZ a0<|.ai (LK.has (.int .u8) (a0.deref.hA)/\1<=a0.deref.length)<|.ai (jA [[.v (.int .u8 ((a0.deref.hA).toInt))]])<|.ai (ag (mk [40])+ag (⟨(bytesOf [[.v (.int .u8 ((a0.deref.hA).toInt))]]).toArray⟩)<=9223372036854775807)<|.ai (ag (((mk [40]):ByteArray)++(⟨(bytesOf [[.v (.int .u8 ((a0.deref.hA).toInt))]]).toArray⟩))+ag (mk [32])<=9223372036854775807)<|.ai (ag (((((mk [40]):ByteArray)++(⟨(bytesOf [[.v (.int .u8 ((a0.deref.hA).toInt))]]).toArray⟩)):ByteArray)++(mk [32]))+ag r3.toStr<=9223372036854775807)<|.ai (ag (((((((mk [40]):ByteArray)++(⟨(bytesOf [[.v (.int .u8 ((a0.deref.hA).toInt))]]).toArray⟩)):ByteArray)++(mk [32])):ByteArray)++r3.toStr)+ag (mk [32])<=9223372036854775807)<|NZ a0<|NZ a0<|dS (a0.deref.drop 4)<|.call 155 [((a0.deref.drop 4).hA),a1,.gL 155 [none,some 0,some 1],.ref 0 0,.ref 1 0] [.cells [((o3.hO).cs.getD 0 .any)],.cells [VI (((o3.tail.hO).cs.getD 0 .any).toInt)]] fun r4 o4=>.ai ((o4.hO)=.cells (o4.hO).cs)<|.ai (aI [.lk .sl] ((o4.hO).cs) 0 1 o4.tail)<|.ai ((o4.tail.hO)=.cells (o4.tail.hO).cs)<|.ai (aI [.lk (.int .i64)] ((o4.tail.hO).cs) 0 2 o4.tail.tail)<|NS r4<|.ai (ag (((((((((mk [40]):ByteArray)++(⟨(bytesOf [[.v (.int .u8 ((a0.deref.hA).toInt))]]).toArray⟩)):ByteArray)++(mk [32])):ByteArray)++r3.toStr):ByteArray)++(mk [32]))+ag r4.toStr<=9223372036854775807)<|.ai (ag (((((((((((mk [40]):ByteArray)++(⟨(bytesOf [[.v (.int .u8 ((a0.deref.hA).toInt))]]).toArray⟩)):ByteArray)++(mk [32])):ByteArray)++r3.toStr):ByteArray)++(mk [32])):ByteArray)++r4.toStr)+ag (mk [41])<=9223372036854775807)<|.done 0 [VS (((((((((((((mk [40]):ByteArray)++(⟨(bytesOf [[.v (.int .u8 ((a0.deref.hA).toInt))]]).toArray⟩)):ByteArray)++(mk [32])):ByteArray)++r3.toStr):ByteArray)++(mk [32])):ByteArray)++r4.toStr):ByteArray)++(mk [41]))] [.cells [((o4.hO).cs.getD 0 .any)],.cells [VI (((o4.tail.hO).cs.getD 0 .any).toInt)]]) (.test (((a0.deref.hA).toInt)==(114:Int)) (.loop NW FO [a0,a1,VS (mk [])] [.cells [a3_0],.cells [VI a4_0]] (fun y8 q8=>NP (y8.hA)<|NL (y8.tail.hA)<|NS (y8.tail.tail.hA)<|.ai ((q8.hO)=.cells (q8.hO).cs)<|.ai (ae [.lk .sl] ((q8.hO).cs) 0 q8.tail)<|.ai (((q8.tail.drop 0).hO)=.cells ((q8.tail.drop 0).hO).cs)<|.ai (ae [.lk (.int .i64)] (((q8.tail.drop 0).hO).cs) 0 ((q8.tail.drop 0).tail))<|.ai (ag (mk [40,114,101,99,32])+ag ((y8.tail.tail.hA).toStr)<=9223372036854775807)<|.ai (ag (((mk [40,114,101,99,32]):ByteArray)++((y8.tail.tail.hA).toStr))+ag (mk [32])<=9223372036854775807)<|NZ (y8.hA)<|NZ (y8.hA)<|dS ((y8.hA).deref.drop 3)<|.ai (LK.has .sl (y8.tail.hA)/\cD 1 ((y8.tail.hA).elems)/\((([]:List (List AV)).length)+((y8.tail.hA).elems).length)*16<=140737488355328)<|.ai (cD 1 [[VS ((y8.tail.tail.hA).toStr)]]/\(((([]:List (List AV))++((y8.tail.hA).elems)).length)+([[VS ((y8.tail.tail.hA).toStr)]]:List (List AV)).length)*16<=140737488355328)<|.call 155 [(((y8.hA).deref.drop 3).hA),.sl ((([]:List (List AV))++((y8.tail.hA).elems))++([[VS ((y8.tail.tail.hA).toStr)]]:List (List AV))),.gL 155 [none,some 0,some 1],.ref 0 0,.ref 1 0] [.cells [((q8.hO).cs.getD 0 .any)],.cells [VI (((q8.tail.hO).cs.getD 0 .any).toInt)]] fun r9 o9=>.ai ((o9.hO)=.cells (o9.hO).cs)<|.ai (aI [.lk .sl] ((o9.hO).cs) 0 1 o9.tail)<|.ai ((o9.tail.hO)=.cells (o9.tail.hO).cs)<|.ai (aI [.lk (.int .i64)] ((o9.tail.hO).cs) 0 2 o9.tail.tail)<|NS r9<|.ai (ag (((((mk [40,114,101,99,32]):ByteArray)++((y8.tail.tail.hA).toStr)):ByteArray)++(mk [32]))+ag r9.toStr<=9223372036854775807)<|.ai (ag (((((((mk [40,114,101,99,32]):ByteArray)++((y8.tail.tail.hA).toStr)):ByteArray)++(mk [32])):ByteArray)++r9.toStr)+ag (mk [41])<=9223372036854775807)<|.done 0 [VS (((((((((mk [40,114,101,99,32]):ByteArray)++((y8.tail.tail.hA).toStr)):ByteArray)++(mk [32])):ByteArray)++r9.toStr):ByteArray)++(mk [41]))] [.cells [((o9.hO).cs.getD 0 .any)],.cells [VI (((o9.tail.hO).cs.getD 0 .any).toInt)]]) (fun y8 q8=>.ai ((q8.hO)=.cells (q8.hO).cs)<|.ai (ae [.lk .sl] ((q8.hO).cs) 0 q8.tail)<|.ai (((q8.tail.drop 0).hO)=.cells ((q8.tail.drop 0).hO).cs)<|.ai (ae [.lk (.int .i64)] (((q8.tail.drop 0).hO).cs) 0 ((q8.tail.drop 0).tail))<|.done 0 [.any] [.cells [((q8.hO).cs.getD 0 .any)],.cells [VI (((q8.tail.hO).cs.getD 0 .any).toInt)]])) (NZ a0<|NZ a0<|.ai (LK.has (.int .u8) (a0.deref.hA)/\1<=a0.deref.length)<|.ai (jA [[.v (.int .u8 ((a0.deref.hA).toInt))]])<|.done 0 [VS (⟨(bytesOf [[.v (.int .u8 ((a0.deref.hA).toInt))]]).toArray⟩)] [.cells [a3_0],.cells [VI a4_0]])))))
theorem wK(a0:AV)(a1:AV)(a3_0:AV)(a4_0:Int)(ha0:LK.has .ptr a0)(ha1:LK.has .sl a1)(ha3_0:LK.has .sl a3_0)(h:di 100 (E3 a0 a1 a3_0 a4_0) R):an Tryz.prog 155 [a0,a1,.gL 155 [none,some 0,some 1],.ref 0 0,.ref 1 0] [.cells [a3_0],.cells [VI a4_0]] R :=
 an.m9 (bz (ca (ah (bO ha3_0) aC)) (bz (ca (ah (az _) aC)) cv)) (an.up (ah (bB ha0) (ah (bO ha1) (ah (az _) (ah (az _) (ah (az _) aC))))) (oF LA {mu:=[(2,.sI 155 [none,some 0,some 1]),(3,.one (.obj [.lk .sl])),(4,.one (.obj [.lk (.int .i64)]))],own:=[]} Tryz.f155 h))
def E9(x0:AV)(x1:AV)(x9:ByteArray)(o0_0:AV)(o1_0:Int):Tree :=
 NP x0<|NL x1<|NS (VS x9)<|.ai (Ob.cells [o0_0]=.cells [o0_0])<|.ai (ae [.lk .sl] [o0_0] 0 [.cells [VI o1_0]])<|.ai (Ob.cells [VI o1_0]=.cells [VI o1_0])<|.ai (ae [.lk (.int .i64)] [VI o1_0] 0 [])<|.test (af x9==af (mk [])) (.call 152 [VI o1_0] [] fun r1 o1=>NS r1<|.ai (ag (mk [116])+ag r1.toStr<=9223372036854775807)<|.done 0 [x0,x1,VS (((mk [116]):ByteArray)++r1.toStr)] [.cells [o0_0],.cells [VI (IntKind.wrap .i64 (o1_0+1))]]) (.call 156 [o0_0,VS x9] [] fun r2 o2=>NB r2<|.test r2.toBool (.call 152 [VI o1_0] [] fun r3 o3=>NS r3<|.ai (ag (mk [116])+ag r3.toStr<=9223372036854775807)<|.done 0 [x0,x1,VS (((mk [116]):ByteArray)++r3.toStr)] [.cells [o0_0],.cells [VI (IntKind.wrap .i64 (o1_0+1))]]) (.done 1 [x0,x1,VS x9] [.cells [o0_0],.cells [VI o1_0]]))
abbrev D6:=cB Tryz.prog 100 NW FO
theorem Kk(x0:AV)(x1:AV)(x9:ByteArray)(o0_0:AV)(o1_0:Int)(h:j9 100 (E9 x0 x1 x9 o0_0 o1_0) D6 U):D6 [x0,x1,VS x9] [.cells [o0_0],.cells [VI o1_0]] U :=
 gQ LA h
def Lk(a0:AV)(a1:ByteArray):Tree :=
 .call 167 [a0,VS a1] [] fun r1 o1=>NI r1<|.done 0 [VB (decide (r1.toInt≥(0:Int)))] []
theorem Ql(a0:AV)(a1:ByteArray)(ha0:LK.has .sl a0)(h:di 9 (Lk a0 a1) R):an Tryz.prog 156 [a0,VS a1] [] R :=
 uQ (ah (bO ha0) (ah (az _) aC)) (oQ [] Tryz.f156 h)
def ON(a0:AV):Tree :=
 .call 168 [a0,.v (.func (.func 150) #[] #[])] [] fun r1 o1=>NI r1<|.done 0 [VB (decide (r1.toInt≥(0:Int)))] []
theorem S1(a0:AV)(ha0:LK.has .sl a0)(h:di 9 (ON a0) R):an Tryz.prog 157 [a0,.v (.func (.func 150) #[] #[])] [] R :=
 uQ (ah (bO ha0) (ah (az _) aC)) (oQ [] Tryz.f157 h)
def KW(a0:ByteArray):Tree :=
 .test (decide ((ag a0:Int)<(2:Int))) (.done 0 [VB false] []) (.test (decide ((ag a0:Int)>(3:Int))) (.done 0 [VB false] []) (.ai (0<=(0:Int)/\(0:Int)<ag a0)<|.test ((bt a0 0) != (101:Int)) (.done 0 [VB false] []) (.ai (0<=(1:Int)/\(1:Int)<=(ag a0:Int)/\(ag a0:Int)<=(ag a0:Int))<|.call 169 [VS (cq a0 (bG 1) (bG (ag a0:Int))),VS (mk [48,49,50,51,52,53,54,55,56,57])] [] fun r1 o1=>NS r1<|.test (!(af r1.toStr==af (mk []))) (.done 0 [VB false] []) (.test ((ag a0:Int)==(2:Int)) (.done 0 [VB true] []) (.ai (0<=(1:Int)/\(1:Int)<ag a0)<|.done 0 [VB ((bt a0 1) != (48:Int))] [])))))
theorem Qh(a0:ByteArray)(h:di 30 (KW a0) R):an Tryz.prog 158 [VS a0] [] R :=
 uQ (ah (az _) aC) (oQ [] Tryz.f158 h)
def NQ(a0:Int):Tree :=
 .test (decide (a0≥(97:Int))) (.test (decide (a0<=(122:Int))) (.done 0 [VB true] []) (.test (decide (a0≥(48:Int))) (.test (decide (a0<=(57:Int))) (.done 0 [VB true] []) (.test (a0==(42:Int)) (.done 0 [VB true] []) (.done 0 [VB (a0==(43:Int))] []))) (.test (a0==(42:Int)) (.done 0 [VB true] []) (.done 0 [VB (a0==(43:Int))] [])))) (.test (decide (a0≥(48:Int))) (.test (decide (a0<=(57:Int))) (.done 0 [VB true] []) (.test (a0==(42:Int)) (.done 0 [VB true] []) (.done 0 [VB (a0==(43:Int))] []))) (.test (a0==(42:Int)) (.done 0 [VB true] []) (.done 0 [VB (a0==(43:Int))] [])))
theorem Sv(a0:Int)(h:di 25 (NQ a0) R):an Tryz.prog 161 [.v (.int .u8 a0)] [] R :=
 uQ (ah (az _) aC) (oQ [] Tryz.f161 h)
def NU(a0:Int):Tree :=
 .test (decide (a0≥(97:Int))) (.test (decide (a0<=(122:Int))) (.done 0 [VB true] []) (.test (decide (a0≥(48:Int))) (.test (decide (a0<=(57:Int))) (.done 0 [VB true] []) (.test (a0==(43:Int)) (.done 0 [VB true] []) (.done 0 [VB (a0==(42:Int))] []))) (.test (a0==(43:Int)) (.done 0 [VB true] []) (.done 0 [VB (a0==(42:Int))] [])))) (.test (decide (a0≥(48:Int))) (.test (decide (a0<=(57:Int))) (.done 0 [VB true] []) (.test (a0==(43:Int)) (.done 0 [VB true] []) (.done 0 [VB (a0==(42:Int))] []))) (.test (a0==(43:Int)) (.done 0 [VB true] []) (.done 0 [VB (a0==(42:Int))] [])))
theorem Sx(a0:Int)(h:di 25 (NU a0) R):an Tryz.prog 162 [.v (.int .u8 a0)] [] R :=
 uQ (ah (az _) aC) (oQ [] Tryz.f162 h)
def OW(a0:ByteArray)(a1:ByteArray):Tree :=
 .test (decide ((ag a0:Int)≥(1:Int))) (.test (decide ((ag a0:Int)<=(3:Int))) (.ai (0<=(0:Int)/\(0:Int)<=(1:Int)/\(1:Int)<=(ag a0:Int))<|.call 175 [VS a1,VS (cq a0 (bG 0) (bG 1))] [] fun r1 o1=>NB r1<|.test r1.toBool (.ai (0<=(1:Int)/\(1:Int)<=(ag a0:Int)/\(ag a0:Int)<=(ag a0:Int))<|.call 169 [VS (cq a0 (bG 1) (bG (ag a0:Int))),VS (mk [48,49,50,51,52,53,54,55,56,57])] [] fun r2 o2=>NS r2<|.done 0 [VB (af r2.toStr==af (mk []))] []) (.done 0 [VB false] [])) (.done 0 [VB false] [])) (.done 0 [VB false] [])
theorem Rp(a0:ByteArray)(a1:ByteArray)(h:di 25 (OW a0 a1) R):an Tryz.prog 163 [VS a0,VS a1] [] R :=
 uQ (ah (az _) (ah (az _) aC)) (oQ [] Tryz.f163 h)
def ET(a0:AV)(e1_0_0:List (List AV)):Tree :=
 .call 166 [a0,.ref 0 0] [.cells [.vec 1],.vec 1 e1_0_0] fun r1 o1=>.ai ((o1.hO)=.cells (o1.hO).cs)<|.ai (aI [.vec 1] ((o1.hO).cs) 0 1 o1.tail)<|NZ a0<|NZ a0<|dS (a0.deref.drop 3)<|NP ((a0.deref.drop 3).hA)<|.test (!((a0.deref.drop 3).hA).isNil) (NZ a0<|NZ a0<|dS (a0.deref.drop 3)<|.call 165 [((a0.deref.drop 3).hA),.fn 166 [.ref 0 0]] [.cells [.vec 1],.vec 1 ((o1.tail.hO).es)] fun r2 o2=>.ai ((o2.hO)=.cells (o2.hO).cs)<|.ai (aI [.vec 1] ((o2.hO).cs) 0 1 o2.tail)<|NZ a0<|NZ a0<|dS (a0.deref.drop 4)<|NP ((a0.deref.drop 4).hA)<|.test (!((a0.deref.drop 4).hA).isNil) (NZ a0<|NZ a0<|dS (a0.deref.drop 4)<|.call 165 [((a0.deref.drop 4).hA),.fn 166 [.ref 0 0]] [.cells [.vec 1],.vec 1 ((o2.tail.hO).es)] fun r3 o3=>.ai ((o3.hO)=.cells (o3.hO).cs)<|.ai (aI [.vec 1] ((o3.hO).cs) 0 1 o3.tail)<|.done 0 [.any] [.cells [.vec 1],.vec 1 ((o3.tail.hO).es)]) (.done 0 [.any] [.cells [.vec 1],.vec 1 ((o2.tail.hO).es)])) (NZ a0<|NZ a0<|dS (a0.deref.drop 4)<|NP ((a0.deref.drop 4).hA)<|.test (!((a0.deref.drop 4).hA).isNil) (NZ a0<|NZ a0<|dS (a0.deref.drop 4)<|.call 165 [((a0.deref.drop 4).hA),.fn 166 [.ref 0 0]] [.cells [.vec 1],.vec 1 ((o1.tail.hO).es)] fun r4 o4=>.ai ((o4.hO)=.cells (o4.hO).cs)<|.ai (aI [.vec 1] ((o4.hO).cs) 0 1 o4.tail)<|.done 0 [.any] [.cells [.vec 1],.vec 1 ((o4.tail.hO).es)]) (.done 0 [.any] [.cells [.vec 1],.vec 1 ((o1.tail.hO).es)]))
theorem xr(a0:AV)(e1_0_0:List (List AV))(ha0:LK.has .ptr a0)(h:di 29 (ET a0 e1_0_0) R):an Tryz.prog 165 [a0,.fn 166 [.ref 0 0]] [.cells [.vec 1],.vec 1 e1_0_0] R :=
 an.m9 (bz (ca (ah (az _) aC)) (bz (fG _) cv)) (an.up (ah (bB ha0) (ah (az _) aC)) (oF [] {mu:=[(1,.fn [some (.obj [.vec 1])])],own:=[]} Tryz.f165 h))
def Hc(a0:AV)(e1_0:List (List AV)):Tree :=
 NZ a0<|NZ a0<|.ai (LK.has (.int .u8) (a0.deref.hA)/\1<=a0.deref.length)<|.test (((a0.deref.hA).toInt)==(110:Int)) (NZ a0<|NZ a0<|kJ (a0.deref.drop 1)<|.call 156 [.sl e1_0,VS (((a0.deref.drop 1).hA).toStr)] [] fun r1 o1=>NB r1<|.test (!r1.toBool) (NZ a0<|NZ a0<|kJ (a0.deref.drop 1)<|.ai (cD 1 [[VS (((a0.deref.drop 1).hA).toStr)]]/\((e1_0.length)+([[VS (((a0.deref.drop 1).hA).toStr)]]:List (List AV)).length)*16<=140737488355328)<|.done 0 [.any] [.cells [.vec 1],.vec 1 (e1_0++([[VS (((a0.deref.drop 1).hA).toStr)]]:List (List AV)))]) (.done 0 [.any] [.cells [.vec 1],.vec 1 e1_0])) (.done 0 [.any] [.cells [.vec 1],.vec 1 e1_0])
theorem Sf(a0:AV)(e1_0:List (List AV))(ha0:LK.has .ptr a0)(h:di 24 (Hc a0 e1_0) R):an Tryz.prog 166 [a0,.ref 0 0] [.cells [.vec 1],.vec 1 e1_0] R :=
 an.m9 (bz (ca (ah (az _) aC)) (bz (fG _) cv)) (an.up (ah (bB ha0) (ah (az _) aC)) (oF [] {mu:=[(1,.one (.obj [.vec 1]))],own:=[]} Tryz.f166 h))
def IL:LI:={hd:={bS:=[(0,.k .sl),(1,.k .str),(7,.k (.int .i64)),(8,.k (.int .i64))]},xs:={},rt:={bS:=[(4,.k (.int .i64))]},ex:=0}
def Ko:Code:=cH (cC Tryz.f167) 2
def Ja:List (Nat×LI):=[(2,IL)]
def OO(a0:AV)(a1:ByteArray):Tree :=
 NL a0<|.loop Ko IL [a0,VS a1,VI (a0.elems.length:Int),VI 0] [] (fun y1 q1=>.done 0 [VI (-1)] []) (fun y1 q1=>NI (y1.hA)<|.done 0 [VI ((y1.hA).toInt)] [])
theorem SA(a0:AV)(a1:ByteArray)(ha0:LK.has .sl a0)(h:di 19 (OO a0 a1) R):an Tryz.prog 167 [a0,VS a1] [] R :=
 uQ (ah (bO ha0) (ah (az _) aC)) (oQ Ja Tryz.f167 h)
def Hp(x0:AV)(x1:ByteArray)(x7:Int)(x8:Int):Tree :=
 NL x0<|NS (VS x1)<|NI (VI x7)<|NI (VI x8)<|.test (decide (x8<x7)) (NG x0 x8 1<|kJ (x0.ix x8)<|.test (af x1==af (((x0.ix x8).hA).toStr)) (.done 2 [VI x8] []) (.done 0 [x0,VS x1,VI x7,VI (IntKind.wrap .i64 (x8+1))] [])) (.done 1 [] [])
abbrev Fy:=cB Tryz.prog 19 Ko IL
theorem Jb(x0:AV)(x1:ByteArray)(x7:Int)(x8:Int)(h:j9 19 (Hp x0 x1 x7 x8) Fy U):Fy [x0,VS x1,VI x7,VI x8] [] U :=
 gQ Ja h
def Gx:LI:={hd:={bS:=[(0,.k .sl),(1,.c (.func (.func 150) #[] #[])),(7,.k (.int .i64)),(8,.k (.int .i64))]},xs:={},rt:={bS:=[(4,.k (.int .i64))]},ex:=0}
def Mx:Code:=cH (cC Tryz.f168) 2
def MF:List (Nat×LI):=[(2,Gx)]
def L3(a0:AV):Tree :=
 NL a0<|.loop Mx Gx [a0,.v (.func (.func 150) #[] #[]),VI (a0.elems.length:Int),VI 0] [] (fun y2 q2=>.done 0 [VI (-1)] []) (fun y2 q2=>NI (y2.hA)<|.done 0 [VI ((y2.hA).toInt)] [])
theorem SJ(a0:AV)(ha0:LK.has .sl a0)(h:di 19 (L3 a0) R):an Tryz.prog 168 [a0,.v (.func (.func 150) #[] #[])] [] R :=
 uQ (ah (bO ha0) (ah (az _) aC)) (oQ MF Tryz.f168 h)
def G9(x0:AV)(x7:Int)(x8:Int):Tree :=
 NL x0<|.ai (AV.v (.func (.func 150) #[] #[])=.v (.func (.func 150) #[] #[]))<|NI (VI x7)<|NI (VI x8)<|.test (decide (x8<x7)) (NG x0 x8 1<|kJ (x0.ix x8)<|.call 150 [VS (((x0.ix x8).hA).toStr)] [] fun r1 o1=>NB r1<|.test r1.toBool (.done 2 [VI x8] []) (.done 0 [x0,.v (.func (.func 150) #[] #[]),VI x7,VI (IntKind.wrap .i64 (x8+1))] [])) (.done 1 [] [])
abbrev FV:=cB Tryz.prog 19 Mx Gx
theorem I6(x0:AV)(x7:Int)(x8:Int)(h:j9 19 (G9 x0 x7 x8) FV U):FV [x0,.v (.func (.func 150) #[] #[]),VI x7,VI x8] [] U :=
 gQ MF h
end
end Go.Proofs.Trees
namespace Go.Proofs.Trees
open Go Go.VL
theorem bx(i:Nat)(h:i<1000000000000):IntKind.wrap .i64 ((i:Int)+1)=((i+1:Nat):Int):=by rw[wrap64]<;>omega
inductive E where
 |atom (s:List UInt8)
 |list (l:List E)
mutual
def E.cE:E->AV
 | .atom s=>.ptr [.v (.string (mk s)),.v (.slice none 0 0)]
 | .list l=>.ptr [.v (.string (mk [])),.sl (E.mj l)]
def E.mj:List E->List (List AV)
 |[]=>[]
 |e::l=>[e.cE]::E.mj l
end
mutual
def E.ir:E->List AV
 | .atom s=>[.v (.string (mk s)),.v (.slice none 0 0)]
 | .list l=>[.v (.string (mk [])),.sl (E.bw l)]
def E.bw:List E->List (List AV)
 |[]=>[]
 |e::l=>e.ir::E.bw l
end
def E.kF(e:E):AV:=.agg e.ir
theorem vx(l r:List E):E.mj (l++r)=E.mj l++E.mj r:=by
 induction l with
 |nil=>rfl
 |cons e l ih=>simp[E.mj,ih]
theorem qu(l r:List E):E.bw (l++r)=E.bw l++E.bw r:=by
 induction l with
 |nil=>rfl
 |cons e l ih=>simp[E.bw,ih]
theorem rP(l:List E):(E.mj l).length=l.length:=by
 induction l with
 |nil=>rfl
 |cons e l ih=>simp[E.mj,ih]
theorem ef(l:List E):(E.bw l).length=l.length:=by
 induction l with
 |nil=>rfl
 |cons e l ih=>simp[E.bw,ih]
def ff(b:UInt8):Bool:=decide ((97<=b.toNat/\b.toNat<=122)\/(48<=b.toNat/\b.toNat<=57)\/b.toNat=43\/b.toNat=42)
def sE(f:List UInt8->Option (E×List UInt8)):Nat->List UInt8->List E->Option (E×List UInt8)
 |0,_,_=>none
 |
  n+1,s,acc=>match f s with
  |some (p,c::r)=>if c.toNat=41 then some (.list (acc++[p]),r)else if c.toNat=32 then sE f n r (acc++[p])else none
  |_=>none
def rd:Nat->List UInt8->Option (E×List UInt8)
 |0,s=>if s.takeWhile ff=[]then none else some (.atom (s.takeWhile ff),s.dropWhile ff)
 |k+1,s=>if s.takeWhile ff=[]then(match s with
  |c::r=>if c.toNat=40 then sE (rd k) (r.length+1) r []else none
  |[]=>none)else some (.atom (s.takeWhile ff),s.dropWhile ff)
theorem A9{f:List UInt8->Option (E×List UInt8)}(hf:∀s e r,f s=some (e,r)->r.length<s.length):∀(n:Nat) (s:List UInt8) (acc:List E) (e:E) (r:List UInt8),sE f n s acc=some (e,r)->r.length<s.length
 |0,s,acc,e,r,h=>by cases h
 |
  n+1,s,acc,e,r,h=>by
  simp only[sE]at h
  split at h
  ·rename_i p c r' hs
   have:=hf _ _ _ hs
   simp only[aA]at this
   split at h
   ·cases h;omega
   ·split at h
    ·have:=A9 hf n _ _ _ _ h;omega
    ·cases h
  ·cases h
theorem pg{s:List UInt8}(h:¬s.takeWhile ff=[]):(s.dropWhile ff).length<s.length:=by
 have h1:=congrArg List.length (List.takeWhile_append_dropWhile (p:=ff) (l:=s))
 simp only[aq]at h1
 have:0<(s.takeWhile ff).length:=List.length_pos_iff.2 h
 omega
theorem zr:∀(k:Nat) (s:List UInt8) (e:E) (r:List UInt8),rd k s=some (e,r)->r.length<s.length
 |
  0,s,e,r,h=>by
  simp only[rd]at h
  split at h
  ·cases h
  ·rename_i hn;cases h;exact pg hn
 |
  k+1,s,e,r,h=>by
  simp only[rd]at h
  split at h
  ·split at h
   ·split at h
    ·have:=A9 (zr k) _ _ _ _ _ h
     simp only[aA];omega
    ·cases h
   ·cases h
  ·rename_i hn;cases h;exact pg hn
theorem P7(b:UInt8):an Tryz.prog 162 [.v (.int .u8 (b.toNat:Int))] [] (bM (.v (.bool (ff b)))):=by
 refine Sx _ ?_
 simp only[NU,↓zq,zs,ae,bM,ff]
 repeat' (apply aH<;>intro _)
 all_goals first|(congr 2;rw[cy];simp;omega)|(congr 2;simp;omega)
theorem yF{s:List UInt8}{i:Nat}(hi:i<s.length)(hb:ff (s.getD i 0)=true):((s.drop i).takeWhile ff).length=((s.drop (i+1)).takeWhile ff).length+1:=by
 have e:s.drop i=s.getD i 0::s.drop (i+1):=by
  rw[aU hi];simp[aa,hi]
 rw[e,List.takeWhile_cons_of_pos hb];simp
theorem qZ{s:List UInt8}{i:Nat}(hi:i<s.length)(hb:ff (s.getD i 0)=false):(s.drop i).takeWhile ff=[]:=by
 have e:s.drop i=s.getD i 0::s.drop (i+1):=by
  rw[aU hi];simp[aa,hi]
 rw[e,List.takeWhile_cons_of_neg (by rw[hb];simp)]
theorem FH(s:List UInt8)(hs:s.length<=8000)(d:Int):∀(k i:Nat),i+k=s.length->FU [.v (.string (mk s)),.v (.int .i64 d),.v (.int .i64 (i:Int))] [] (gZ 1 [.v (.string (mk s)),.v (.int .i64 d),.v (.int .i64 ((i+((s.drop i).takeWhile ff).length:Nat):Int))] [])
 |
  0,i,hi=>by
  refine Ny _ _ _ ?_
  have hd:s.drop i=[]:=bV (by omega)
  simp only[HL,↓zq,zs,ae,zt]
  exact⟨fun h=>by omega,fun _=>by simp[gZ,hd]⟩
 |
  k+1,i,hi=>by
  have hlt:i<s.length:=by omega
  refine Ny _ _ _ ?_
  simp only[HL,↓zq,zs,ae,zt,l9 s i hlt]
  refine⟨fun _=>⟨by omega,?_⟩,fun h=>by omega⟩
  refine aj (P7 _) ?_
  simp only[↓zq,zs,ae]
  refine⟨fun hb=>?_,fun hb=>?_⟩
  ·rw[bx i (by omega)]
   have:=FH s hs d k (i+1) (by omega)
   rw[yF hlt hb,show i+(((s.drop (i+1)).takeWhile ff).length+1)=i+1+((s.drop (i+1)).takeWhile ff).length by omega]
   exact this
  ·simp[gZ,qZ hlt hb]
def pk(s:List UInt8):Option (E×List UInt8)->AV
 |some (e,r)=>.cG [e.cE,.v (.string (mk r))]
 |none=>.cG [.v (.pointer none),.v (.string (mk s))]
theorem cU(e:E):LK.has .ptr e.cE=True:=by cases e<;>simp[E.cE,cb]
theorem er(e:E):e.cE.isNil=false:=by cases e<;>rfl
theorem uF(s:List UInt8):s.take (s.takeWhile ff).length=s.takeWhile ff:=by
 have h:=List.takeWhile_append_dropWhile (p:=ff) (l:=s)
 have:(s.takeWhile ff++s.dropWhile ff).take (s.takeWhile ff).length=s.takeWhile ff:=List.take_left
 rw[h]at this;exact this
theorem zh(s:List UInt8):s.drop (s.takeWhile ff).length=s.dropWhile ff:=by
 have h:=List.takeWhile_append_dropWhile (p:=ff) (l:=s)
 have:(s.takeWhile ff++s.dropWhile ff).drop (s.takeWhile ff).length=s.dropWhile ff:=List.drop_left
 rw[h]at this;exact this
theorem A4(c:UInt8)(r:List UInt8):(List.take (r.length+1) (c::r)).drop (bG 1)=r:=by simp
theorem K4(s0:List UInt8)(k:Nat)(hk:k<300)(ih:∀s,s.length<=8000->an Tryz.prog 148 [.v (.string (mk s)),.v (.int .i64 ((300-k:Nat):Int))] [] (bM (pk s (rd k s)))) :
 ∀(n:Nat) (s:List UInt8) (acc:List E),s.length<n->s.length+acc.length<=8000->G5 [.v (.string (mk s0)),.v (.int .i64 ((300-(k+1):Nat):Int)),.v (.string (mk s))] [.cells [.v (.string (mk [])),.any],.vec 1 (E.mj acc)]
  (nH (match sE (rd k) n s acc with|some (e,r)=>(2,[e.cE,.v (.string (mk r))],[])|none=>(2,[.v (.pointer none),.v (.string (mk s0))],[])))
 |0,s,acc,hn,_=>by omega
 |
  n+1,s,acc,hn,hl=>by
  refine RY _ _ _ _ _ ?_
  simp only[N1,↓zq,zs,ae,BU]
  have hd:IntKind.wrap .i64 (((300-(k+1):Nat):Int)+1)=((300-k:Nat):Int):=by rw[wrap64]<;>omega
  rw[hd]
  refine aj (ih s (by omega)) ?_
  have hlt:=zr k s
  cases hr:rd k s with
  |
   none =>
   simp only[pk,↓zq,zs,ae,sE,hr]
   simp[nH]
  |
   some q =>
   obtain⟨e,r⟩:=q
   have:=hlt e r hr
   cases r with
   |
    nil =>
    simp only[pk,↓zq,zs,ae,zt,sE,hr,cU,er]
    simp[nH]
   |
    cons c r =>
    simp only[aA]at this
    have hb:=l9 (c::r) 0 (by simp)
    simp only[Int.ofNat_eq_natCast,Int.cast_ofNat_Int]at hb
    have e2:(List.take (c::r).length (c::r)).drop 1=r:=by simp
    simp only[pk,↓zq,zs,ae,zt,sE,hr,cU,er,hb,e2,rP]
    refine⟨fun h=>(by cases h),fun _=>⟨fun h=>(by cases h),fun _=>⟨⟨fun c hc=>(by simp at hc;rw[hc];rfl),by omega⟩,by omega,by omega,fun h41=>?_,fun h41=>⟨by omega,fun h32=>?_,fun h32=>?_⟩⟩⟩⟩
    ·have h41':c.toNat=41:=by omega
     rw[A4,if_pos h41']
     simp[nH,E.cE,vx,E.mj]
    ·have h41':¬c.toNat=41:=by omega
     have h32':¬c.toNat=32:=by omega
     rw[if_neg h41',if_neg h32']
    ·have h41':¬c.toNat=41:=by omega
     have h32':c.toNat=32:=by omega
     rw[A4,if_neg h41',if_pos h32']
     have:=K4 s0 k hk ih n r (acc++[e]) (by omega) (by simp;omega)
     simpa[vx,E.mj]using this
theorem Rr:∀(k:Nat),k<=300->∀s:List UInt8,s.length<=8000->an Tryz.prog 148 [.v (.string (mk s)),.v (.int .i64 ((300-k:Nat):Int))] [] (bM (pk s (rd k s))):=by
 intro k
 induction k with
 |
  zero =>
  intro hk s hs
  refine ML _ _ ?_
  unfold HQ
  refine cA (FH s hs _ s.length 0 (by omega)) ?_
  simp only[↓zq,zs,ae,zt,aX,bM]
  have hw:(s.takeWhile ff).length<=s.length:=by
   have:=congrArg List.length (List.takeWhile_append_dropWhile (p:=ff) (l:=s))
   simp only[aq]at this;omega
  refine⟨fun h=>⟨by omega,by omega,?_⟩,fun h=>?_⟩
  ·have hne:¬s.takeWhile ff=[]:=fun e=>by rw[e]at h;simp at h
   simp only[rd,if_neg hne,pk,E.cE,uF,zh]
  ·have hnil:s.takeWhile ff=[]:=bJ (by omega)
   simp only[rd,if_pos hnil,pk]
   refine⟨fun _=>trivial,fun hne=>⟨?_,?_⟩⟩
   ·cases s with
    |nil=>exact absurd rfl hne
    |cons c s=>simp
   ·exact⟨fun _=>trivial,fun _=>⟨fun _=>trivial,fun h=>absurd rfl h⟩⟩
 |
  succ k ih =>
  intro hk s hs
  refine ML _ _ ?_
  unfold HQ
  refine cA (FH s hs _ s.length 0 (by omega)) ?_
  simp only[↓zq,zs,ae,zt,aX,bM]
  have hw:(s.takeWhile ff).length<=s.length:=by
   have:=congrArg List.length (List.takeWhile_append_dropWhile (p:=ff) (l:=s))
   simp only[aq]at this;omega
  refine⟨fun h=>⟨by omega,by omega,?_⟩,fun h=>?_⟩
  ·have hne:¬s.takeWhile ff=[]:=fun e=>by rw[e]at h;simp at h
   simp only[rd,if_neg hne,pk,E.cE,uF,zh]
  ·have hnil:s.takeWhile ff=[]:=bJ (by omega)
   simp only[rd,if_pos hnil]
   cases s with
   |nil=>simp[pk]
   |
    cons c s =>
    have hb:=l9 (c::s) 0 (by simp)
    simp only[Int.ofNat_eq_natCast,Int.cast_ofNat_Int]at hb
    simp only[aA]at hs
    simp only[↓zq,zs,ae,hb,A4]
    refine⟨fun h=>(by cases h),fun _=>⟨by omega,fun h40=>?_,fun h40=>⟨fun h300=>?_,fun h300=>⟨by omega,?_⟩⟩⟩⟩
    ·have:¬c.toNat=40:=by omega
     rw[if_neg this];rfl
    ·omega
    ·have h40':c.toNat=40:=by omega
     rw[if_pos h40']
     refine fj (K4 (c::s) k (by omega) (ih (by omega)) (s.length+1) s [] (by omega) (by simp;omega)) (fun ys o e=>?_) (fun ys o e=>?_)
     ·split at e<;>cases e
     ·split at e<;>cases e
      ·rename_i e' r' hr
       simp only[↓zq,zs,ae,cU]
       simp only[hr,pk]
      ·rename_i hr
       simp only[↓zq,zs,ae]
       simp only[hr,pk]
end Go.Proofs.Trees
namespace Go.Proofs.Trees
open Go Go.VL
mutual
def E.sz:E->Nat
 | .atom _=>1
 | .list l=>1+E.jm l
def E.jm:List E->Nat
 |[]=>0
 |e::l=>e.sz+E.jm l
end
mutual
def E.ok:E->Prop
 | .atom s=>s≠[]
 | .list l=>E.Ek l
def E.Ek:List E->Prop
 |[]=>True
 |e::l=>e.ok/\E.Ek l
end
theorem yG(l r:List E):E.jm (l++r)=E.jm l+E.jm r:=by
 induction l with
 |nil=>simp[E.jm]
 |cons e l ih=>simp[E.jm,ih];omega
theorem yA(l r:List E):E.Ek (l++r)↔E.Ek l/\E.Ek r:=by
 induction l with
 |nil=>simp[E.Ek]
 |cons e l ih=>simp[E.Ek,ih,and_assoc]
theorem Bj{f:List UInt8->Option (E×List UInt8)}(hf:∀s e r,f s=some (e,r)->e.ok/\e.sz+r.length<=s.length):∀(n:Nat) (s:List UInt8) (acc:List E) (e:E) (r:List UInt8),sE f n s acc=some (e,r)->E.Ek acc->e.ok/\e.sz+r.length<=s.length+1+E.jm acc
 |0,s,acc,e,r,h,_=>by cases h
 |
  n+1,s,acc,e,r,h,ha=>by
  simp only[sE]at h
  split at h
  ·rename_i p c r' hs
   obtain⟨h1,h2⟩:=hf _ _ _ hs
   simp only[aA]at h2
   split at h
   ·cases h
    refine⟨(yA _ _).2 ⟨ha,h1,trivial⟩,?_⟩
    simp only[E.sz,yG,E.jm];omega
   ·split at h
    ·have:=Bj hf n _ _ _ _ h ((yA _ _).2 ⟨ha,h1,trivial⟩)
     refine⟨this.1,?_⟩
     have h3:=this.2
     simp only[yG,E.jm]at h3;omega
    ·cases h
  ·cases h
theorem u5(s:List UInt8):(s.takeWhile ff).length+(s.dropWhile ff).length=s.length:=by
 have:=congrArg List.length (List.takeWhile_append_dropWhile (p:=ff) (l:=s))
 simpa only[aq]using this
theorem EG:∀(k:Nat) (s:List UInt8) (e:E) (r:List UInt8),rd k s=some (e,r)->e.ok/\e.sz+r.length<=s.length
 |
  0,s,e,r,h=>by
  simp only[rd]at h
  split at h
  ·cases h
  ·rename_i hn;cases h
   have:=u5 s
   have:0<(s.takeWhile ff).length:=List.length_pos_iff.2 hn
   exact⟨hn,by simp only[E.sz];omega⟩
 |
  k+1,s,e,r,h=>by
  simp only[rd]at h
  split at h
  ·split at h
   ·split at h
    ·have:=Bj (EG k) _ _ _ _ _ h trivial
     refine⟨this.1,?_⟩
     have h3:=this.2
     simp only[E.jm,aA]at h3 |-;omega
    ·cases h
   ·cases h
  ·rename_i hn;cases h
   have:=u5 s
   have:0<(s.takeWhile ff).length:=List.length_pos_iff.2 hn
   exact⟨hn,by simp only[E.sz];omega⟩
def rh(s:List UInt8):Option E:=if s.length>8000 then none else match rd 300 s with|some (e,[])=>some e|_=>none
theorem nN{s:List UInt8}{e:E}(h:rh s=some e):e.ok/\e.sz<=8000:=by
 unfold rh at h
 split at h
 ·cases h
 ·split at h
  ·rename_i e' hr
   cases h
   have:=EG _ _ _ _ hr
   exact⟨this.1,by have:=this.2;simp at this;omega⟩
  ·cases h
def uL:Option E->AV
 |some e=>e.cE
 |none=>.v (.pointer none)
theorem K9(s:List UInt8):an Tryz.prog 129 [.v (.string (mk s))] [] (bM (uL (rh s))):=by
 refine Q6 _ ?_
 simp only[Mp,↓zq,zs,ae,zt,bM,rh]
 refine⟨fun h=>?_,fun h=>?_⟩
 ·rw[if_pos (by omega)];simp[uL]
 ·rw[if_neg (by omega)]
  refine aj (Rr 300 (by omega) s (by omega)) ?_
  cases hr:rd 300 s with
  |
   none =>
   simp only[pk,↓zq,zs,ae,zt,uL]
   refine⟨fun _=>trivial,fun _=>trivial⟩
  |
   some q =>
   obtain⟨e,r⟩:=q
   cases r with
   |nil=>simp only[pk,↓zq,zs,ae,zt,uL,cU];simp
   |cons c r=>simp only[pk,↓zq,zs,ae,zt,uL,cU];simp
def ig(b:UInt8):Bool:=decide (48<=b.toNat/\b.toNat<=57)
def named(lo hi:Nat):List UInt8->Bool
 |[]=>false
 |c::r=>decide (r.length<=2)&&decide (lo<=c.toNat/\c.toNat<=hi)&&r.all ig
def gP(s:List UInt8):Bool:=named 120 122 s
def dm(s:List UInt8):Bool:=named 116 116 s
def CM(v lo hi:Int):Bool:=decide (lo<=v/\v<=hi)
theorem Bs(v lo hi:Int):an Tryz.prog 45 [.v (.int .i64 v),.v (.int .i64 lo),.v (.int .i64 hi)] [] (bM (.v (.bool (CM v lo hi)))):=by
 refine Qg _ _ _ ?_
 simp only[OX,↓zq,zs,ae,bM,CM]
 constructor<;>intro h<;>simp at h<;>simp[h]
 omega
theorem I0(s:List UInt8)(hs:s.length<=3):∀(k i:Nat),i+k=s.length->Iy [.v (.string (mk s)),.v (.int .i64 (i:Int))] [] (nH (if(s.drop i).all ig=true then(1,[],[])else(2,[.v (.bool false)],[])))
 |
  0,i,hi=>by
  have hd:s.drop i=[]:=bV (by omega)
  refine Ke _ _ ?_
  simp only[Fl,↓zq,zs,ae,zt]
  exact⟨fun h=>by omega,fun _=>by simp[nH,hd]⟩
 |
  k+1,i,hi=>by
  have hlt:i<s.length:=by omega
  have e:s.drop i=s.getD i 0::s.drop (i+1):=by
   rw[aU hlt];simp[aa,hlt]
  refine Ke _ _ ?_
  simp only[Fl,↓zq,zs,ae,zt,l9 s i hlt,e,cZ]
  generalize hb:s.getD i 0=b
  refine⟨fun _=>⟨by omega,fun h=>?_,fun h=>⟨by omega,fun h2=>?_,fun h2=>?_⟩⟩,fun h=>by omega⟩
  ·have:ig b=false:=by simp[ig];omega
   simp only[this,zf,nH]
  ·have:ig b=false:=by simp[ig];omega
   simp only[this,zf,nH]
  ·have:ig b=true:=by simp[ig];omega
   rw[bx i (by omega),this,bX]
   exact I0 s hs k (i+1) (by omega)
theorem Jj(s:List UInt8)(lo hi:Nat):an Tryz.prog 119 [.v (.string (mk s)),.v (.int .u8 (lo:Int)),.v (.int .u8 (hi:Int))] [] (bM (.v (.bool (named lo hi s)))):=by
 refine Rk _ _ _ ?_
 unfold IU
 rw[cM]
 refine aj (Bs _ _ _) ?_
 simp only[↓zq,zs,ae,zt,bM]
 refine⟨fun h=>?_,fun h=>?_⟩
 ·cases s with
  |nil=>rfl
  |
   cons c s =>
   simp[CM]at h
   have:¬s.length<=2:=by omega
   simp[named,this]
 ·cases s with
  |nil=>simp[CM]at h
  |
   cons c s =>
   simp[CM]at h
   have hl:s.length<=2:=by omega
   have hb:=l9 (c::s) 0 (by simp)
   simp only[Int.ofNat_eq_natCast,Int.cast_ofNat_Int]at hb
   simp only[↓zq,zs,ae,hb]
   refine⟨by omega,fun h1=>?_,fun h1=>⟨by omega,fun h2=>?_,fun h2=>?_⟩⟩
   ·have:¬lo<=c.toNat:=by omega
    simp[named,this]
   ·have:¬c.toNat<=hi:=by omega
    simp[named,this]
   ·refine fj (I0 (c::s) (by simp;omega) s.length 1 (by simp;omega)) (fun ys o e=>?_) (fun ys o e=>?_)
    ·split at e<;>cases e
     rename_i ha
     simp at ha
     simp only[↓zq,zs,ae]
     simp[named,hl]
     exact⟨⟨by omega,by omega⟩,fun x hx=>by simpa using ha x hx⟩
    ·split at e<;>cases e
     rename_i ha
     simp only[↓zq,zs,ae]
     have:s.all ig=false:=by simpa using ha
     simp[named,this]
theorem FT(s:List UInt8):an Tryz.prog 126 [.v (.string (mk s))] [] (bM (.v (.bool (gP s)))):=by
 refine Sk _ ?_
 unfold JF
 refine aj (Jj s 120 122) ?_
 simp only[↓zq,zs,ae,bM,gP]
theorem Ib(s:List UInt8):an Tryz.prog 85 [.v (.string (mk s))] [] (bM (.v (.bool (dm s)))):=by
 refine So _ ?_
 unfold O8
 refine aj (Jj s 116 116) ?_
 simp only[↓zq,zs,ae,bM,dm]
end Go.Proofs.Trees
namespace Go.Proofs.Trees
open Go Go.VL Go.RowKit
theorem QY(l:List UInt8)(c:UInt8):an Tryz.prog 175 [.v (.string (mk l)),.v (.string (mk [c]))] [] (bM (.v (.bool (decide (0<=Lib.indexByte l c))))):=by
 refine an.Tb (xs:=[.string (mk l),.string (mk [c])]) ⟨ny,by kernel_rfl,by kernel_rfl,by kernel_rfl⟩ fun w=>?_
 have:=Any.strings_Contains_one Tryz.DJ (mk l) c w
 refine Calls.mono this fun e w' ⟨h1,h2⟩=>?_
 rw[h2]
 have hd:(mk l).data.toList=l:=by simp[mk]
 exact⟨by rw[h1,hd],Below.refl _ _⟩
theorem O3(l cs:List UInt8)(hl:l.length<=1000000)(hc:cs.length<=1000)(ha:∀b,b∈cs->b.toNat<128):an Tryz.prog 169 [.v (.string (mk l)),.v (.string (mk cs))] [] (bM (.v (.string (mk (Lib.trimS l cs))))):=by
 refine an.Tb (xs:=[.string (mk l),.string (mk cs)]) ⟨qD,by kernel_rfl,by kernel_rfl,by kernel_rfl⟩ fun w=>?_
 have:=Any.strings_Trim_laid Tryz.Dd (by kernel_rfl) (mk l) (mk cs) w (by rw[cM];omega) (by rw[cM];omega) (fun j b hj=>ha b (by
  have:(mk cs).data.toList=cs:=by simp[mk]
  rw[this]at hj
  exact List.mem_of_getElem? hj))
 refine Calls.mono this fun e w' ⟨h1,h2⟩=>⟨?_,h2⟩
 rw[h1]
 simp[mk]
theorem nE:∀(l:List UInt8) (c:UInt8),(0<=Lib.indexByte l c↔c∈l)/\-1<=Lib.indexByte l c
 |[],c=>by simp[Lib.indexByte]
 |
  b::l,c=>by
  obtain⟨h1,h2⟩:=nE l c
  unfold Lib.indexByte
  by_cases e:b=c
  ·subst e;simp
  ·have e':(b==c)=false:=by simp[e]
   rw[e']
   by_cases q:Lib.indexByte l c = -1
   ·have:c∉l:=fun h=>by have:=h1.2 h;omega
    simp[q,this,Ne.symm e]
   ·have q':(Lib.indexByte l c==-1)=false:=by simp[q]
    simp only[q',Bool.false_eq_true,if_false,aL]
    constructor
    ·constructor
     ·intro h;exact .inr (h1.1 (by omega))
     ·intro h
      rcases h with h|h
      ·exact absurd h.symm e
      ·have:=h1.2 h;omega
    ·omega
theorem dropWhile_nil{p:UInt8->Bool}:∀(l:List UInt8),l.dropWhile p=[]↔l.all p=true
 |[]=>by simp
 |
  b::l=>by
  cases h:p b with
  |true=>rw[List.dropWhile_cons_of_pos h,dropWhile_nil l];simp[h]
  |false=>rw[List.dropWhile_cons_of_neg (by rw[h];simp)];simp[h]
theorem tM(l cs:List UInt8):Lib.trimS l cs=[]↔l.all (cs.contains ·)=true:=by
 unfold Lib.trimS Lib.trimLeftS
 rw[dropWhile_nil]
 unfold Lib.trimRightS
 constructor
 ·intro h
  by_cases hn:l.reverse.dropWhile (cs.contains ·)=[]
  ·rw[dropWhile_nil]at hn
   simpa using hn
  ·exfalso
   rw[List.all_reverse]at h
   obtain⟨b,r,e⟩:=List.exists_cons_of_ne_nil hn
   have h1:cs.contains b=false:=by
    have:=List.head_dropWhile_not (p:=(cs.contains ·)) (l:=l.reverse) hn
    simp only[e,List.head_cons]at this
    exact this
   rw[e]at h
   simp only[cZ,aw]at h
   rw[h1]at h;cases h.1
 ·intro h
  have:l.reverse.dropWhile (cs.contains ·)=[]:=by rw[dropWhile_nil];simpa using h
  rw[this];rfl
def HT:List UInt8:=[48,49,50,51,52,53,54,55,56,57]
theorem vw(b:UInt8):HT.contains b=ig b:=by
 have:∀n:Fin 256,HT.contains (bj n.val)=ig (bj n.val):=by decide +kernel
 have:=this ⟨b.toNat,b.toNat_lt⟩
 simpa using this
theorem KO(s ls:List UInt8)(lo hi:Nat)(hls:∀c:UInt8,c∈ls↔lo<=c.toNat/\c.toNat<=hi):an Tryz.prog 163 [.v (.string (mk s)),.v (.string (mk ls))] [] (bM (.v (.bool (named lo hi s)))):=by
 refine Rp _ _ ?_
 simp only[OW,↓zq,zs,ae,zt,bM]
 cases s with
 |nil=>exact⟨fun h=>by simp at h,fun _=>rfl⟩
 |
  cons c s =>
  have e1:(List.take (bG 1) (c::s))=[c]:=rfl
  have e2:(List.take (s.length+1) (c::s)).drop (bG 1)=s:=by simp
  simp only[aA,e1,e2]
  refine⟨fun _=>⟨fun h3=>⟨by omega,?_⟩,fun h3=>?_⟩,fun h=>by omega⟩
  ·have hl:s.length<=2:=by omega
   refine aj (QY ls c) ?_
   simp only[↓zq,zs,ae]
   have hi1:=(nE ls c).1
   refine⟨fun h=>⟨by omega,?_⟩,fun h=>?_⟩
   ·refine aj (O3 s HT (by omega) (by decide) (by decide)) ?_
    simp only[↓zq,zs,ae,zt]
    have hc:=(hls c).1 (hi1.1 h)
    congr 2
    rw[cy,beq_iff_eq,tM]
    simp only[named,hl,hc,decide_true,bX,and_self]
    have:(fun x=>HT.contains x)=ig:=funext vw
    rw[this]
   ·have hc:¬(lo<=c.toNat/\c.toNat<=hi):=fun h'=>h (hi1.2 ((hls c).2 h'))
    simp only[named,hc,zf]
  ·have hl:¬s.length<=2:=by omega
   simp only[named,hl,zf]
theorem Jr(s:List UInt8):an Tryz.prog 149 [.v (.string (mk s))] [] (bM (.v (.bool (gP s)))):=by
 refine Qm _ ?_
 unfold IX
 have h:∀n:Fin 256,(bj n.val∈[(120:UInt8),121,122])↔120<=(bj n.val).toNat/\(bj n.val).toNat<=122:=by decide +kernel
 refine aj (KO s [120,121,122] 120 122 fun c=>by simpa using h ⟨c.toNat,c.toNat_lt⟩) ?_
 simp only[↓zq,zs,ae,bM,gP]
theorem D7(s:List UInt8):an Tryz.prog 150 [.v (.string (mk s))] [] (bM (.v (.bool (dm s)))):=by
 refine P5 _ ?_
 unfold Lg
 have h:∀n:Fin 256,(bj n.val∈[(116:UInt8)])↔116<=(bj n.val).toNat/\(bj n.val).toNat<=116:=by decide +kernel
 refine aj (KO s [116] 116 116 fun c=>by simpa using h ⟨c.toNat,c.toNat_lt⟩) ?_
 simp only[↓zq,zs,ae,bM,dm]
end Go.Proofs.Trees
namespace Go.Proofs.Trees
open Go Go.VL
inductive Ty where
 |zero|one
 |name (s:List UInt8)
 |bound (up:Nat)
 |plus (a b:Ty)
 |times (a b:Ty)
 |rc (a:Ty)
def Ty.av:Ty->AV
 | .zero=>.ptr [.v (.int .u8 48),.v (.string (mk [])),.v (.int .i64 0),.v (.pointer none),.v (.pointer none)]
 | .one=>.ptr [.v (.int .u8 49),.v (.string (mk [])),.v (.int .i64 0),.v (.pointer none),.v (.pointer none)]
 | .name s=>.ptr [.v (.int .u8 110),.v (.string (mk s)),.v (.int .i64 0),.v (.pointer none),.v (.pointer none)]
 | .bound up=>.ptr [.v (.int .u8 98),.v (.string (mk [])),.v (.int .i64 (up:Int)),.v (.pointer none),.v (.pointer none)]
 | .plus a b=>.ptr [.v (.int .u8 43),.v (.string (mk [])),.v (.int .i64 0),a.av,b.av]
 | .times a b=>.ptr [.v (.int .u8 42),.v (.string (mk [])),.v (.int .i64 0),a.av,b.av]
 | .rc a=>.ptr [.v (.int .u8 114),.v (.string (mk [])),.v (.int .i64 0),a.av,.v (.pointer none)]
theorem aE(t:Ty):LK.has .ptr t.av=True:=by cases t<;>simp[Ty.av,cb]
theorem fO(t:Ty):t.av.isNil=false:=by cases t<;>rfl
def ik:Option Ty->AV
 |some t=>t.av
 |none=>.v (.pointer none)
theorem iF(t:Option Ty):LK.has .ptr (ik t)=True:=by cases t<;>simp[ik,aE,gx]
def E.at:E->List UInt8
 | .atom s=>s
 | .list _=>[]
def bR(s:List UInt8)(ar:List (List UInt8)):Nat->Option Nat
 |0=>none
 |i+1=>if ar.getD i []=s then some (ar.length-1-i)else bR s ar i
def cS:E->List (List UInt8)->Option Ty
 | .atom s,ar=>if s=[48]then some .zero else if s=[49]then some .one else if gP s=true then some (.name s)else if dm s=true then(match bR s ar ar.length with|some u=>some (.bound u)|none=>some (.name s))else none
 |
  .list [x,a,b],ar =>
  if x.at=[43]then(match cS a ar,cS b ar with|some t,some u=>some (.plus t u)|_,_=>none)
  else if x.at=[42]then(match cS a ar,cS b ar with|some t,some u=>some (.times t u)|_,_=>none)
  else if x.at=[114,101,99]then(if dm a.at=true then(match cS b (ar++[a.at])with|some t=>some (.rc t)|none=>none)else none)
  else none
 | .list _,_=>none
def bE(l:List (List UInt8)):List (List AV):=l.map fun s=>[.v (.string (mk s))]
def cm(a:AV)(l:List (List UInt8)):Prop:=LK.sl.has a/\a.elems=bE l
theorem cm.len{a:AV}{l:List (List UInt8)}(h:cm a l):a.elems.length=l.length:=by rw[h.2];simp[bE]
theorem cm.idx{a:AV}{l:List (List UInt8)}(h:cm a l){i:Nat}(hi:i<l.length):a.elems.getD i []=[.v (.string (mk (l.getD i [])))]:=by
 rw[h.2];simp[bE,aa,hi]
theorem cm.of(l:List (List UInt8)):cm (.sl (bE l)) l:=⟨(cg _).mpr trivial,rfl⟩
theorem cm.nil:cm (.v (.slice none 0 0)) []:=⟨(bh).mpr trivial,rfl⟩
theorem yC(e:E)(w:List UInt8):an Tryz.prog 151 [e.cE,.v (.string (mk w)),.v (.int .i64 3)] [] (bM (.v (.bool (match e with| .list [x,_,_]=>x.at==w|_=>false)))):=by
 refine Kz _ _ _ ((cU e).mpr trivial) ?_
 cases e with
 |atom s=>simp only[A2,E.cE,↓zq,zs,ae,zt,bM];exact⟨by omega,fun h=>by omega,fun _=>trivial⟩
 |
  list l =>
  simp only[A2,E.cE,↓zq,zs,ae,zt,bM,rP]
  match l with
  |[]=>exact⟨by simp,fun h=>by simp at h,fun _=>rfl⟩
  |[_]=>exact⟨by simp,fun h=>by simp at h,fun _=>rfl⟩
  |[_,_]=>exact⟨by simp,fun h=>by simp at h,fun _=>rfl⟩
  |
   [x,y,z] =>
   refine⟨by simp,fun _=>?_,fun h=>by simp at h⟩
   cases x<;>simp[E.mj,E.cE,cb,pR,jM,dY,ub,toList_mk,E.at]
  |_::_::_::_::l=>exact⟨by simp,fun h=>by simp at h;omega,fun _=>rfl⟩
theorem K8(e:E)(a:AV)(ar:List (List UInt8))(ha:cm a ar)(hl:ar.length<1000000):∀(i:Nat),i<=ar.length->IG [e.cE,a,.v (.int .i64 ((i:Int)-1))] []
 (nH (match bR e.at ar i with|some u=>(2,[],[.cells [.v (.int .u8 98),.v (.string (mk [])),.v (.int .i64 (u:Int)),.v (.pointer none),.v (.pointer none)]])|none=>(1,[e.cE],[])))
 |
  0,hi=>by
  refine I4 _ _ _ ?_
  simp only[IF,↓zq,zs,ae,cU]
  exact⟨ha.1,fun h=>by omega,fun _=>rfl⟩
 |
  i+1,hi=>by
  have hlt:i<ar.length:=by omega
  have e1:((i+1:Nat):Int)-1=(i:Int):=by omega
  rw[e1]
  refine I4 _ _ _ ?_
  have hd:e.cE.deref.headD .any=.v (.string (mk e.at)):=by cases e<;>rfl
  have hdl:1<=e.cE.deref.length:=by cases e<;>simp[E.cE,jM]
  simp only[IF,↓zq,zs,ae,zt,cU,er,ha.len,ha.idx hlt,hd,rY]
  refine⟨ha.1,fun _=>⟨⟨ha.1,by omega,by omega⟩,by omega,hdl,fun h=>⟨ha.1,?_⟩,fun h=>?_⟩,fun h=>by omega⟩
  ·simp only[bR,h,if_true,nH]
   rw[wrap64 ((ar.length:Int)-1) (by omega) (by omega),wrap64 _ (by omega) (by omega)]
   have:(ar.length:Int)-1-(i:Int)=((ar.length-1-i:Nat):Int):=by omega
   rw[this]
  ·simp only[bR,h,if_false]
   rw[wrap64 _ (by omega) (by omega)]
   exact K8 e a ar ha hl i (by omega)
end Go.Proofs.Trees
namespace Go.Proofs.Trees
open Go Go.VL
theorem n9(e:E):e.cE.deref.headD .any=.v (.string (mk e.at)):=by cases e<;>rfl
theorem lJ(e:E):1<=e.cE.deref.length:=by cases e<;>simp[E.cE,jM]
theorem toNat_one:bG 1=1:=rfl
theorem bg:bG 2=2:=rfl
theorem E2{ar:List (List UInt8)}(s:List UInt8):bE ar++[[.v (.string (mk s))]]=bE (ar++[s]):=by simp[bE]
theorem kj(ar:List (List UInt8)):cD 1 (bE ar):=fun c hc=>by
 obtain⟨s,_,rfl⟩:=bP.1 hc;rfl
theorem kO{x a b:E}(ar:List (List UInt8))(hx:x.at=[43]):cS (.list [x,a,b]) ar=match cS a ar,cS b ar with|some t,some u=>some (.plus t u)|_,_=>none:=by rw[cS,if_pos hx]<;>cases cS a ar<;>cases cS b ar<;>rfl
theorem jZ{x a b:E}(ar:List (List UInt8))(hx:x.at=[42]):cS (.list [x,a,b]) ar=match cS a ar,cS b ar with|some t,some u=>some (.times t u)|_,_=>none:=by rw[cS,if_neg (by rw[hx];decide),if_pos hx]<;>cases cS a ar<;>cases cS b ar<;>rfl
theorem mO{x a b:E}(ar:List (List UInt8))(hx:x.at=[114,101,99]):cS (.list [x,a,b]) ar=if dm a.at=true then(match cS b (ar++[a.at])with|some t=>some (.rc t)|none=>none)else none:=by rw[cS,if_neg (by rw[hx];decide),if_neg (by rw[hx];decide),if_pos hx]<;>cases cS b (ar++[a.at])<;>rfl
theorem jd{x a b:E}(ar:List (List UInt8))(h1:x.at≠[43])(h2:x.at≠[42])(h3:x.at≠[114,101,99]):cS (.list [x,a,b]) ar=none:=by rw[cS,if_neg h1,if_neg h2,if_neg h3]
theorem Dm:∀(e:E) (ar:List (List UInt8)) (a:AV),e.ok->cm a ar->ar.length+e.sz<100000->an Tryz.prog 130 [e.cE,a] [] (bM (ik (cS e ar)))
 |
  .atom s,ar,a,hok,ha,hl=>by
  simp only[E.sz]at hl
  refine O6 _ _ ((cU _).mpr trivial) ha.1 ?_
  have hd:=n9 (.atom s)
  have hlen:=lJ (.atom s)
  simp only[E.at]at hd
  simp only[HC,↓zq,zs,ae,zt,bM,cU,er,hd,cS]
  refine⟨hlen,fun h=>⟨hlen,?_,?_⟩,fun h=>⟨hlen,fun h1=>⟨hlen,?_,?_⟩,fun h1=>⟨hlen,?_⟩⟩⟩
  ·rw[h];decide
  ·rw[if_pos h,h];rfl
  ·rw[h1];decide
  ·rw[if_neg h,if_pos h1,h1];rfl
  ·rw[if_neg h,if_neg h1]
   refine aj (Jr s) ?_
   simp only[↓zq,zs,ae]
   refine⟨fun hp=>⟨hlen,?_⟩,fun hp=>⟨hlen,?_⟩⟩
   ·rw[if_pos hp];rfl
   ·rw[if_neg (by rw[hp];simp)]
    refine aj (D7 s) ?_
    simp only[↓zq,zs,ae,ha.len]
    refine⟨fun hq=>⟨ha.1,?_⟩,fun hq=>?_⟩
    ·rw[if_pos hq,wrap64 _ (by omega) (by omega)]
     refine fj (K8 (.atom s) a ar ha (by omega) ar.length (by omega)) (fun ys o e=>?_) (fun ys o e=>?_)
     ·simp only[E.at]at e
      cases hq2:bR s ar ar.length<;>rw[hq2]at e<;>cases e
      simp only[↓zq,zs,ae,zt,cU,er,hd]
      exact⟨hlen,rfl⟩
     ·simp only[E.at]at e
      cases hq2:bR s ar ar.length<;>rw[hq2]at e<;>cases e
      simp only[↓zq,zs,ae,zt,LK.has]
      simp[ik,Ty.av,ae,LK.has]
    ·rw[if_neg (by rw[hq];simp)]
     refine aj (yC (.atom s) [43]) ?_
     simp only[↓zq,zs,ae]
     refine⟨fun h=>(by simp at h),fun _=>?_⟩
     refine aj (yC (.atom s) [42]) ?_
     simp only[↓zq,zs,ae]
     refine⟨fun h=>(by simp at h),fun _=>?_⟩
     refine aj (yC (.atom s) [114,101,99]) ?_
     simp only[↓zq,zs,ae]
     refine⟨fun h=>(by simp at h),fun _=>?_⟩
     trivial
 |
  .list l,ar,a,hok,ha,hl=>by
  simp only[E.sz]at hl
  refine O6 _ _ ((cU _).mpr trivial) ha.1 ?_
  have hd:=n9 (.list l)
  have hlen:=lJ (.list l)
  simp only[E.at]at hd
  have hp:gP []=false:=rfl
  have hq:dm []=false:=rfl
  simp only[HC,↓zq,zs,ae,zt,bM,cU,er,hd]
  refine⟨hlen,fun h=>(by simp at h),fun h=>⟨hlen,fun h1=>(by simp at h1),fun h1=>⟨hlen,?_⟩⟩⟩
  refine aj (Jr []) ?_
  simp only[↓zq,zs,ae,hp]
  refine⟨fun h=>(by simp at h),fun _=>⟨hlen,?_⟩⟩
  refine aj (D7 []) ?_
  simp only[↓zq,zs,ae,hq]
  refine⟨fun h=>(by simp at h),fun _=>?_⟩
  refine aj (yC (.list l) [43]) ?_
  match l,hok,hl with
  |
   [x,y,z],hok,hl =>
   simp only[E.jm]at hl
   obtain⟨ok1,ok2,ok3,_⟩:=hok
   have iy:=Dm y ar a ok2 ha (by omega)
   have iz:=Dm z ar a ok3 ha (by omega)
   have hds:((E.list [x,y,z]).cE.deref.drop 1).headD .any=.sl [[x.cE],[y.cE],[z.cE]]:=rfl
   have hdl:1<=((E.list [x,y,z]).cE.deref.drop 1).length:=by simp[E.cE,jM]
   have hxd:=n9 x
   have hxl:=lJ x
   have hyd:=n9 y
   have hyl:=lJ y
   have bin:∀(c:UInt8) (mkT:Ty->Ty->Ty),(∀t u:Ty,(mkT t u).av=.ptr [.v (.int .u8 (c.toNat:Int)),.v (.string (mk [])),.v (.int .i64 0),t.av,u.av])->x.at=[c]->bt (mk x.at) 0=(c.toNat:Int):=fun c _ _ hx=>by
    have:=l9 x.at 0 (by rw[hx];simp)
    simp only[Int.ofNat_eq_natCast,Int.cast_ofNat_Int]at this
    rw[this,hx];rfl
   simp only[↓zq,zs,ae,zt,hds,hdl,cU,er,toNat_one,bg,hxd,hyd,rY]
   refine⟨fun hx=>?_,fun hx=>?_⟩
   ·refine⟨by omega,by omega,?_⟩
    refine aj iy ?_
    simp only[↓zq,zs,ae,iF]
    refine⟨by omega,by omega,?_⟩
    refine aj iz ?_
    have hb:=bin 43 Ty.plus (fun _ _=>rfl) hx
    rw[kO ar hx]
    simp only[↓zq,zs,ae,zt,iF]
    cases h1:cS y ar with
    |none=>simp[ik,jN]
    |
     some t =>
     cases h2:cS z ar with
     |none=>simp[ik,jN,fO]
     |
      some u =>
      simp only[ik,fO,hb]
      refine⟨fun h=>(by cases h),fun _=>⟨fun h=>(by cases h),fun _=>⟨by omega,by omega,hxl,⟨by omega,by rw[hx];simp⟩,rfl⟩⟩⟩
   ·refine aj (yC (.list [x,y,z]) [42]) ?_
    simp only[↓zq,zs,ae,hds,hdl,cU,er,toNat_one,bg,hxd,hyd,rY]
    refine⟨fun hx2=>?_,fun hx2=>?_⟩
    ·refine⟨by omega,by omega,?_⟩
     refine aj iy ?_
     simp only[↓zq,zs,ae,iF]
     refine⟨by omega,by omega,?_⟩
     refine aj iz ?_
     have hb:=bin 42 Ty.times (fun _ _=>rfl) hx2
     rw[jZ ar hx2]
     simp only[↓zq,zs,ae,zt,iF]
     cases h1:cS y ar with
     |none=>simp[ik,jN]
     |
      some t =>
      cases h2:cS z ar with
      |none=>simp[ik,jN,fO]
      |
       some u =>
       simp only[ik,fO,hb]
       refine⟨fun h=>(by cases h),fun _=>⟨fun h=>(by cases h),fun _=>⟨by omega,by omega,hxl,⟨by omega,by rw[hx2];simp⟩,rfl⟩⟩⟩
    ·refine aj (yC (.list [x,y,z]) [114,101,99]) ?_
     simp only[↓zq,zs,ae,zt,hds,hdl,cU,er,toNat_one,bg,hxd,hyd,rY]
     refine⟨fun hx3=>⟨by omega,by omega,hyl,?_⟩,fun hx3=>?_⟩
     ·refine aj (D7 y.at) ?_
      rw[mO ar hx3]
      simp only[↓zq,zs,ae]
      have hal:cD 1 a.elems:=by rw[ha.2];exact kj ar
      have hal1:cD 1 [[AV.v (.string (mk y.at))]]:=fun c hc=>by simp at hc;rw[hc];rfl
      refine⟨fun hlo=>⟨by omega,by omega,⟨ha.1,hal,by rw[ha.len];omega⟩,by omega,by omega,hyl,⟨hal1,by rw[aT,ha.len];omega⟩,?_⟩,fun hlo=>?_⟩
      ·rw[aT,ha.2,E2,if_pos hlo]
       refine aj (Dm z (ar++[y.at]) _ ok3 (.of _) (by simp;omega)) ?_
       simp only[↓zq,zs,ae,iF]
       cases h2:cS z (ar++[y.at])with
       |none=>simp[ik,jN]
       |
        some u =>
        simp only[ik,fO]
        refine⟨fun h=>(by cases h),fun _=>rfl⟩
      ·rw[if_neg (by rw[hlo];simp)];rfl
     ·rw[jd ar hx hx2 hx3];rfl
  |
   [],_,_ =>
   simp only[↓zq,zs,ae]
   refine⟨fun h=>(by cases h),fun _=>?_⟩
   refine aj (yC (.list []) [42]) ?_
   simp only[↓zq,zs,ae]
   refine⟨fun h=>(by cases h),fun _=>?_⟩
   refine aj (yC (.list []) [114,101,99]) ?_
   simp only[↓zq,zs,ae]
   refine⟨fun h=>(by cases h),fun _=>?_⟩
   rfl
  |
   [x1],_,_ =>
   simp only[↓zq,zs,ae]
   refine⟨fun h=>(by cases h),fun _=>?_⟩
   refine aj (yC (.list [x1]) [42]) ?_
   simp only[↓zq,zs,ae]
   refine⟨fun h=>(by cases h),fun _=>?_⟩
   refine aj (yC (.list [x1]) [114,101,99]) ?_
   simp only[↓zq,zs,ae]
   refine⟨fun h=>(by cases h),fun _=>?_⟩
   rfl
  |
   [x1,x2],_,_ =>
   simp only[↓zq,zs,ae]
   refine⟨fun h=>(by cases h),fun _=>?_⟩
   refine aj (yC (.list [x1,x2]) [42]) ?_
   simp only[↓zq,zs,ae]
   refine⟨fun h=>(by cases h),fun _=>?_⟩
   refine aj (yC (.list [x1,x2]) [114,101,99]) ?_
   simp only[↓zq,zs,ae]
   refine⟨fun h=>(by cases h),fun _=>?_⟩
   rfl
  |
   x1::x2::x3::x4::l,_,_ =>
   simp only[↓zq,zs,ae]
   refine⟨fun h=>(by cases h),fun _=>?_⟩
   refine aj (yC (.list (x1::x2::x3::x4::l)) [42]) ?_
   simp only[↓zq,zs,ae]
   refine⟨fun h=>(by cases h),fun _=>?_⟩
   refine aj (yC (.list (x1::x2::x3::x4::l)) [114,101,99]) ?_
   simp only[↓zq,zs,ae]
   refine⟨fun h=>(by cases h),fun _=>?_⟩
   rfl
end Go.Proofs.Trees
namespace Go.Proofs.Trees
open Go Go.VL
def df(v:AV)(obs:List Ob):AV->List Ob->Prop:=fun r o=>r=v/\o=obs
theorem aV{P:Program}{n:Nat}{Q:Nat->List AV->List Ob->Prop}{f:Nat}{xs:List AV}{ins:List Ob}{k:AV->List Ob->Tree}{v:AV}{obs:List Ob}(h:an P f xs ins (df v obs))(hk:fe P n (k v obs) Q):fe P n (.call f xs ins k) Q :=
 ⟨df v obs,h,⟨v,obs,rfl,rfl⟩,fun r o ⟨h1,h2⟩=>by rw[h1,h2];exact hk⟩
def Ty.atoms:Ty->Nat
 | .plus a b=>1+a.atoms+b.atoms
 | .times a b=>1+a.atoms+b.atoms
 | .rc a=>2+a.atoms
 |_=>1
theorem EO:∀(t:Ty),t.atoms<1000000->an Tryz.prog 131 [t.av] [] (bM (.v (.int .i64 (t.atoms:Int))))
 | .zero,h=>by refine xB _ ((aE _).mpr trivial) ?_;simp[E0,Ty.av,↓zq,zs,ae,bM,Ty.atoms]
 | .one,h=>by refine xB _ ((aE _).mpr trivial) ?_;simp[E0,Ty.av,↓zq,zs,ae,bM,Ty.atoms]
 | .name s,h=>by refine xB _ ((aE _).mpr trivial) ?_;simp[E0,Ty.av,↓zq,zs,ae,bM,Ty.atoms]
 | .bound u,h=>by refine xB _ ((aE _).mpr trivial) ?_;simp[E0,Ty.av,↓zq,zs,ae,bM,Ty.atoms]
 |
  .plus a b,h=>by
  simp only[Ty.atoms]at h
  refine xB _ ((aE _).mpr trivial) ?_
  simp only[E0,Ty.av,↓zq,zs,ae,aE]
  refine⟨by omega,fun _=>⟨by omega,?_⟩,fun h=>absurd rfl h⟩
  refine aj (EO a (by omega)) ?_
  simp only[↓zq,zs,ae,aE]
  refine⟨by omega,?_⟩
  refine aj (EO b (by omega)) ?_
  simp only[↓zq,zs,ae,bM,Ty.atoms]
  rw[wrap64 (1+(a.atoms:Int)) (by omega) (by omega),wrap64 _ (by omega) (by omega)]
  congr 2
 |
  .times a b,h=>by
  simp only[Ty.atoms]at h
  refine xB _ ((aE _).mpr trivial) ?_
  simp only[E0,Ty.av,↓zq,zs,ae,aE]
  refine⟨by omega,fun h=>by omega,fun _=>⟨fun _=>⟨by omega,?_⟩,fun h=>absurd rfl h⟩⟩
  refine aj (EO a (by omega)) ?_
  simp only[↓zq,zs,ae,aE]
  refine⟨by omega,?_⟩
  refine aj (EO b (by omega)) ?_
  simp only[↓zq,zs,ae,bM,Ty.atoms]
  rw[wrap64 (1+(a.atoms:Int)) (by omega) (by omega),wrap64 _ (by omega) (by omega)]
  congr 2
 |
  .rc a,h=>by
  simp only[Ty.atoms]at h
  refine xB _ ((aE _).mpr trivial) ?_
  simp only[E0,Ty.av,↓zq,zs,ae,aE]
  refine⟨by omega,fun h=>by omega,fun _=>⟨fun h=>by omega,fun _=>⟨fun _=>⟨by omega,?_⟩,fun h=>absurd rfl h⟩⟩⟩
  refine aj (EO a (by omega)) ?_
  simp only[↓zq,zs,ae,bM,Ty.atoms]
  rw[wrap64 _ (by omega) (by omega)]
  congr 2
theorem iQ:∀(e:E) (ar:List (List UInt8)) (t:Ty),cS e ar=some t->t.atoms<=e.sz
 |
  .atom s,ar,t,h=>by
  simp only[cS]at h
  simp only[E.sz]
  split at h
  ·cases h;simp[Ty.atoms]
  ·split at h
   ·cases h;simp[Ty.atoms]
   ·split at h
    ·cases h;simp[Ty.atoms]
    ·split at h
     ·split at h<;>cases h<;>simp[Ty.atoms]
     ·cases h
 |
  .list [x,a,b],ar,t,h=>by
  have hs:∀e:E,1<=e.sz:=fun e=>by cases e<;>simp[E.sz];try omega
  have hx:=hs x
  have ha:=hs a
  simp only[E.sz,E.jm]
  by_cases h1:x.at=[43]
  ·rw[kO ar h1]at h
   split at h
   ·rename_i t1 t2 e1 e2
    cases h
    have:=iQ a ar t1 e1
    have:=iQ b ar t2 e2
    simp only[Ty.atoms];omega
   ·cases h
  ·by_cases h2:x.at=[42]
   ·rw[jZ ar h2]at h
    split at h
    ·rename_i t1 t2 e1 e2
     cases h
     have:=iQ a ar t1 e1
     have:=iQ b ar t2 e2
     simp only[Ty.atoms];omega
    ·cases h
   ·by_cases h3:x.at=[114,101,99]
    ·rw[mO ar h3]at h
     split at h
     ·split at h
      ·rename_i t1 e1
       cases h
       have:=iQ b _ t1 e1
       simp only[Ty.atoms];omega
      ·cases h
     ·cases h
    ·rw[jd ar h1 h2 h3]at h;cases h
 | .list [],_,_,h=>by cases h
 | .list [_],_,_,h=>by cases h
 | .list [_,_],_,_,h=>by cases h
 | .list (_::_::_::_::_),_,_,h=>by cases h
def qT(s:List UInt8):Option Ty:=match rh s with
 |none=>none
 |
  some e=>match cS e []with
  |none=>none
  |some t=>if t.atoms>400 then none else some t
theorem IC(s:List UInt8):an Tryz.prog 96 [.v (.string (mk s))] [] (bM (ik (qT s))):=by
 refine Qa _ ?_
 unfold Ks
 refine aj (K9 s) ?_
 unfold qT
 cases he:rh s with
 |none=>simp only[uL,↓zq,zs,ae,bM,ik];simp
 |
  some e =>
  obtain⟨h1,h2⟩:=nN he
  simp only[uL,↓zq,zs,ae,cU,er]
  refine⟨fun h=>(by cases h),fun _=>?_⟩
  refine aj (Dm e [] _ h1 .nil (by simp;omega)) ?_
  cases ht:cS e []with
  |none=>simp only[ik,↓zq,zs,ae,bM];simp
  |
   some t =>
   have:=iQ e [] t ht
   simp only[ik,↓zq,zs,ae,aE,fO]
   refine⟨fun h=>(by cases h),fun _=>?_⟩
   refine aj (EO t (by omega)) ?_
   simp only[↓zq,zs,ae,bM]
   refine⟨fun h=>?_,fun h=>?_⟩
   ·rw[if_pos (by omega)]
   ·rw[if_neg (by omega)]
end Go.Proofs.Trees
namespace Go.Proofs.Trees
open Go Go.VL
def Cu(p:Prop):Nat->List AV->List Ob->Prop:=fun t ys o=>(t=1/\¬p/\ys=[]/\o=[])\/(t=2/\p/\∃j:Nat,ys=[.v (.int .i64 (j:Int))]/\o=[])
theorem K0(l:List (List UInt8))(a:AV)(ha:cm a l)(s:List UInt8)(hl:l.length<1000000):∀(k i:Nat),i+k=l.length->s∉l.take i->Fy [a,.v (.string (mk s)),.v (.int .i64 (l.length:Int)),.v (.int .i64 (i:Int))] []
 (Cu (s∈l))
 |
  0,i,hi,hn=>by
  refine Jb _ _ _ _ ?_
  simp only[Hp,↓zq,zs,ae]
  have:l.take i=l:=List.take_of_length_le (by omega)
  rw[this]at hn
  exact⟨ha.1,fun h=>by omega,fun _=>.inl ⟨rfl,hn,rfl,rfl⟩⟩
 |
  k+1,i,hi,hn=>by
  have hlt:i<l.length:=by omega
  refine Jb _ _ _ _ ?_
  simp only[Hp,↓zq,zs,ae,zt,ha.len,ha.idx hlt]
  have hm:l.getD i []∈l:=by simp[aa,hlt]
  refine⟨ha.1,fun _=>⟨⟨ha.1,by omega,by omega⟩,by omega,fun h=>?_,fun h=>?_⟩,fun h=>by omega⟩
  ·exact .inr ⟨rfl,by rw[h];exact hm,i,rfl,rfl⟩
  ·rw[bx i (by omega)]
   refine K0 l a ha s hl k (i+1) (by omega) ?_
   rw[List.take_add_one]
   simp only[aO,not_or]
   refine⟨hn,?_⟩
   have:l[i]?=some (l.getD i []):=by simp[aa,hlt]
   rw[this];simpa using h
theorem Lj(l:List (List UInt8))(a:AV)(ha:cm a l)(s:List UInt8)(hl:l.length<1000000):an Tryz.prog 156 [a,.v (.string (mk s))] [] (bM (.v (.bool (decide (s∈l))))):=by
 have hI:an Tryz.prog 167 [a,.v (.string (mk s))] [] (fun r o=>∃n:Int,r=.v (.int .i64 n)/\(0<=n↔s∈l)/\o=[]):=by
  refine SA _ _ ha.1 ?_
  simp only[OO,↓zq,zs,ae,ha.len]
  refine⟨ha.1,kM (K0 l a ha s hl l.length 0 (by omega) (by simp)) ?_ ?_⟩
  ·rintro ys o (⟨_,h1,rfl,rfl⟩|⟨h,_⟩)
   ·simp only[↓zq,zs,ae]
    exact⟨-1,rfl,⟨fun h=>(by omega),fun h=>absurd h h1⟩⟩
   ·cases h
  ·rintro ys o (⟨h,_⟩|⟨_,h1,j,rfl,rfl⟩)
   ·cases h
   ·simp only[↓zq,zs,ae]
    exact⟨j,rfl,⟨fun _=>h1,fun _=>(by omega)⟩⟩
 refine Ql _ _ ha.1 ?_
 unfold Lk
 refine aP hI ⟨.v (.int .i64 (if s∈l then 0 else -1)),[],_,rfl,by split<;>simp_all,rfl⟩ ?_
 rintro r o ⟨n,rfl,hn,rfl⟩
 simp only[↓zq,zs,ae,bM]
 congr 2
 rw[cy];simp[hn]
def pZ(out:List (List UInt8)):Ty->List (List UInt8)
 | .name s=>if s∈out then out else out++[s]
 |_=>out
theorem xk(t:Ty)(out:List (List UInt8))(hl:out.length<100000):an Tryz.prog 166 [t.av,.ref 0 0] [.cells [.vec 1],.vec 1 (bE out)] (df .any [.cells [.vec 1],.vec 1 (bE (pZ out t))]):=by
 refine Sf _ _ ((aE _).mpr trivial) ?_
 have hlen:(bE out).length=out.length:=by simp[bE]
 cases t with
 |
  name s =>
  simp only[Hc,Ty.av,↓zq,zs,ae,df,hlen]
  refine⟨by omega,fun _=>⟨by omega,?_⟩,fun h=>absurd rfl h⟩
  refine aj (Lj out _ (.of out) s (by omega)) ?_
  simp only[↓zq,zs,ae,pZ]
  refine⟨fun h=>⟨by omega,⟨fun c hc=>(by simp at hc;rw[hc];rfl),by omega⟩,?_⟩,fun h=>?_⟩
  ·rw[E2,if_neg h]
  ·rw[if_pos h]
 |_=>simp[Hc,Ty.av,↓zq,zs,ae,df,pZ]
def bQ:Ty->List (List UInt8)->List (List UInt8)
 | .name s,out=>pZ out (.name s)
 | .plus a b,out=>bQ b (bQ a out)
 | .times a b,out=>bQ b (bQ a out)
 | .rc a,out=>bQ a out
 |_,out=>out
theorem eB:∀(t:Ty) (out:List (List UInt8)),(bQ t out).length<=out.length+t.atoms
 | .name s,out=>by simp only[bQ,pZ,Ty.atoms];split<;>simp
 |
  .plus a b,out=>by
  have:=eB a out
  have:=eB b (bQ a out)
  simp only[bQ,Ty.atoms];omega
 |
  .times a b,out=>by
  have:=eB a out
  have:=eB b (bQ a out)
  simp only[bQ,Ty.atoms];omega
 |
  .rc a,out=>by
  have:=eB a out
  simp only[bQ,Ty.atoms];omega
 | .zero,out=>by simp[bQ]
 | .one,out=>by simp[bQ]
 | .bound u,out=>by simp[bQ]
theorem zM:∀(t:Ty) (out:List (List UInt8)),out.length+t.atoms<100000->an Tryz.prog 165 [t.av,.fn 166 [.ref 0 0]] [.cells [.vec 1],.vec 1 (bE out)] (df .any [.cells [.vec 1],.vec 1 (bE (bQ t out))])
 |
  .plus a b,out,hl=>by
  simp only[Ty.atoms]at hl
  have:=eB a out
  refine xr _ _ ((aE _).mpr trivial) ?_
  unfold ET
  refine aV (xk (.plus a b) out (by omega)) ?_
  simp only[Ty.av,↓zq,zs,ae,aE,fO,pZ,aI,df]
  refine⟨by omega,fun _=>⟨by omega,?_⟩,fun h=>(by cases h)⟩
  refine aV (zM a out (by omega)) ?_
  simp only[↓zq,zs,ae,aE,fO,aI]
  refine⟨by omega,fun _=>⟨by omega,?_⟩,fun h=>(by cases h)⟩
  refine aV (zM b (bQ a out) (by omega)) ?_
  simp only[↓zq,zs,ae,aI,bQ]
 |
  .times a b,out,hl=>by
  simp only[Ty.atoms]at hl
  have:=eB a out
  refine xr _ _ ((aE _).mpr trivial) ?_
  unfold ET
  refine aV (xk (.times a b) out (by omega)) ?_
  simp only[Ty.av,↓zq,zs,ae,aE,fO,pZ,aI,df]
  refine⟨by omega,fun _=>⟨by omega,?_⟩,fun h=>(by cases h)⟩
  refine aV (zM a out (by omega)) ?_
  simp only[↓zq,zs,ae,aE,fO,aI]
  refine⟨by omega,fun _=>⟨by omega,?_⟩,fun h=>(by cases h)⟩
  refine aV (zM b (bQ a out) (by omega)) ?_
  simp only[↓zq,zs,ae,aI,bQ]
 |
  .rc a,out,hl=>by
  simp only[Ty.atoms]at hl
  refine xr _ _ ((aE _).mpr trivial) ?_
  unfold ET
  refine aV (xk (.rc a) out (by omega)) ?_
  simp only[Ty.av,↓zq,zs,ae,aE,fO,pZ,aI,df]
  refine⟨by omega,fun _=>⟨by omega,?_⟩,fun h=>(by cases h)⟩
  refine aV (zM a out (by omega)) ?_
  simp[↓zq,zs,ae,aE,fO,aI,bQ]
 |
  .name s,out,hl=>by
  refine xr _ _ ((aE _).mpr trivial) ?_
  unfold ET
  refine aV (xk (.name s) out (by omega)) ?_
  simp[Ty.av,↓zq,zs,ae,aI,df,bQ]
 |
  .zero,out,hl=>by
  refine xr _ _ ((aE _).mpr trivial) ?_
  unfold ET
  refine aV (xk .zero out (by omega)) ?_
  simp[Ty.av,↓zq,zs,ae,aI,df,bQ,pZ]
 |
  .one,out,hl=>by
  refine xr _ _ ((aE _).mpr trivial) ?_
  unfold ET
  refine aV (xk .one out (by omega)) ?_
  simp[Ty.av,↓zq,zs,ae,aI,df,bQ,pZ]
 |
  .bound u,out,hl=>by
  refine xr _ _ ((aE _).mpr trivial) ?_
  unfold ET
  refine aV (xk (.bound u) out (by omega)) ?_
  simp[Ty.av,↓zq,zs,ae,aI,df,bQ,pZ]
theorem K1(t:Ty)(hl:t.atoms<100000):an Tryz.prog 154 [t.av] [] (bM (.sl (bE (bQ t [])))):=by
 refine Sd _ ((aE _).mpr trivial) ?_
 unfold NN
 refine aV (zM t [] (by simpa using hl)) ?_
 simp[↓zq,zs,ae,aI,bM]
theorem JV(l:List (List UInt8))(a:AV)(ha:cm a l)(hl:l.length<1000000):∀(k i:Nat),i+k=l.length->(∀s,s∈l.take i->dm s=false)->FV [a,.v (.func (.func 150) #[] #[]),.v (.int .i64 (l.length:Int)),.v (.int .i64 (i:Int))] []
 (Cu (l.any dm=true))
 |
  0,i,hi,hn=>by
  refine I6 _ _ _ ?_
  simp only[G9,↓zq,zs,ae]
  have:l.take i=l:=List.take_of_length_le (by omega)
  rw[this]at hn
  exact⟨ha.1,fun h=>by omega,fun _=>.inl ⟨rfl,fun hh=>(by obtain⟨x,hx,hy⟩:=cr.1 hh;rw[hn x hx]at hy;cases hy),rfl,rfl⟩⟩
 |
  k+1,i,hi,hn=>by
  have hlt:i<l.length:=by omega
  refine I6 _ _ _ ?_
  simp only[G9,↓zq,zs,ae,zt,ha.len,ha.idx hlt]
  have hm:l.getD i []∈l:=by simp[aa,hlt]
  refine⟨ha.1,fun _=>⟨⟨ha.1,by omega,by omega⟩,by omega,?_⟩,fun h=>by omega⟩
  refine aj (D7 _) ?_
  simp only[↓zq,zs,ae]
  refine⟨fun h=>?_,fun h=>?_⟩
  ·exact .inr ⟨rfl,cr.2 ⟨_,hm,h⟩,i,rfl,rfl⟩
  ·rw[bx i (by omega)]
   refine JV l a ha hl k (i+1) (by omega) ?_
   intro s hs
   rw[List.take_add_one]at hs
   have:l[i]?=some (l.getD i []):=by simp[aa,hlt]
   rw[this]at hs
   rcases aO.1 hs with hs|hs
   ·exact hn s hs
   ·simp at hs;rw[hs];simpa using h
theorem RM(l:List (List UInt8))(a:AV)(ha:cm a l)(hl:l.length<1000000):an Tryz.prog 157 [a,.v (.func (.func 150) #[] #[])] [] (bM (.v (.bool (l.any dm)))):=by
 have hI:an Tryz.prog 168 [a,.v (.func (.func 150) #[] #[])] [] (fun r o=>∃n:Int,r=.v (.int .i64 n)/\(0<=n↔l.any dm=true)/\o=[]):=by
  refine SJ _ ha.1 ?_
  simp only[L3,↓zq,zs,ae,ha.len]
  refine⟨ha.1,kM (JV l a ha hl l.length 0 (by omega) (by simp)) ?_ ?_⟩
  ·rintro ys o (⟨_,h1,rfl,rfl⟩|⟨h,_⟩)
   ·simp only[↓zq,zs,ae]
    exact⟨-1,rfl,⟨fun h=>(by omega),fun h=>absurd h h1⟩⟩
   ·cases h
  ·rintro ys o (⟨h,_⟩|⟨_,h1,j,rfl,rfl⟩)
   ·cases h
   ·simp only[↓zq,zs,ae]
    exact⟨j,rfl,⟨fun _=>h1,fun _=>(by omega)⟩⟩
 refine S1 _ ha.1 ?_
 unfold ON
 refine aP hI ⟨.v (.int .i64 (if l.any dm=true then 0 else -1)),[],_,rfl,by split<;>simp_all,rfl⟩ ?_
 rintro r o ⟨n,rfl,hn,rfl⟩
 simp only[↓zq,zs,ae,bM]
 congr 2
 rw[cy];simp only[decide_eq_true_eq,ge_iff_le,hn]
def Ty.closed(t:Ty):Bool:=!((bQ t []).any dm)
theorem PF(t:Ty)(hl:t.atoms<100000):an Tryz.prog 138 [t.av] [] (bM (.v (.bool t.closed))):=by
 refine RW _ ((aE _).mpr trivial) ?_
 unfold Mt
 refine aj (K1 t hl) ?_
 simp only[↓zq,zs,ae]
 have:=eB t []
 refine aj (RM _ _ (.of _) (by simp at this;omega)) ?_
 simp only[↓zq,zs,ae,bM,Ty.closed]
def wR(s:List UInt8):Option Ty:=match qT s with
 |none=>none
 |some t=>if t.closed=true then some t else none
theorem s6{s:List UInt8}{t:Ty}(h:qT s=some t):t.atoms<=400:=by
 unfold qT at h
 split at h
 ·cases h
 ·split at h
  ·cases h
  ·split at h<;>cases h
   omega
theorem KX(s:List UInt8):an Tryz.prog 99 [.v (.string (mk s))] [] (bM (ik (wR s))):=by
 refine RA _ ?_
 unfold J3
 refine aj (IC s) ?_
 unfold wR
 cases ht:qT s with
 |none=>simp[ik,↓zq,zs,ae,bM]
 |
  some t =>
  have:=s6 ht
  simp only[ik,↓zq,zs,ae,aE,fO]
  refine⟨fun h=>(by cases h),fun _=>?_⟩
  refine aj (PF t (by omega)) ?_
  simp only[↓zq,zs,ae,bM]
  refine⟨fun h=>?_,fun h=>?_⟩
  ·rw[if_neg (by rw[h];simp)]
  ·rw[if_pos h]
theorem dJ(l:List (List UInt8)):∀x,x∈[Ob.vec 1 (bE l)]->en x:=by
 intro x hx
 simp only[aQ]at hx
 subst hx
 intro e he c hc
 simp only[bE,bP]at he
 obtain⟨k,_,rfl⟩:=he
 simp only[aQ]at hc
 exact⟨_,hc⟩
end Go.Proofs.Trees
namespace Go.Proofs.Trees
open Go Go.VL Go.RowKit
abbrev Nm:=List UInt8
def dA(u:Ty):Ty->Nat->Ty
 | .bound k,i=>if k=i then u else .bound k
 | .plus a b,i=>.plus (dA u a i) (dA u b i)
 | .times a b,i=>.times (dA u a i) (dA u b i)
 | .rc a,i=>.rc (dA u a (i+1))
 |t,_=>t
def sub(x:Nm)(u:Ty):Ty->Ty
 | .name s=>if s=x then u else .name s
 | .plus a b=>.plus (sub x u a) (sub x u b)
 | .times a b=>.times (sub x u a) (sub x u b)
 | .rc a=>.rc (sub x u a)
 |t=>t
def bn(x:Nm):Ty->Bool
 | .name s=>decide (s=x)
 | .plus a b=>bn x a||bn x b
 | .times a b=>bn x a||bn x b
 | .rc a=>bn x a
 |_=>false
def jL(f:Nm->Nm):Ty->Ty
 | .name s=>.name (f s)
 | .plus a b=>.plus (jL f a) (jL f b)
 | .times a b=>.times (jL f a) (jL f b)
 | .rc a=>.rc (jL f a)
 |t=>t
def JL(f:Nm->Nm):Prop:=∀x y,f x=f y->x=y
theorem lz(f:Nm->Nm)(x:Nm):∀(t:Ty) (i:Nat),jL f (dA (.name x) t i)=dA (.name (f x)) (jL f t) i
 | .bound k,i=>by simp only[dA,jL];split<;>rfl
 | .plus a b,i=>by simp only[dA,jL,lz f x a i,lz f x b i]
 | .times a b,i=>by simp only[dA,jL,lz f x a i,lz f x b i]
 | .rc a,i=>by simp only[dA,jL,lz f x a (i+1)]
 | .zero,i=>rfl
 | .one,i=>rfl
 | .name s,i=>rfl
theorem lB{f:Nm->Nm}(hf:JL f)(x:Nm)(u:Ty):∀t:Ty,jL f (sub x u t)=sub (f x) (jL f u) (jL f t)
 |
  .name s=>by
  simp only[sub,jL]
  by_cases h:s=x
  ·subst h;simp
  ·rw[if_neg h,if_neg fun e=>h (hf _ _ e)];rfl
 | .plus a b=>by simp only[sub,jL,lB hf x u a,lB hf x u b]
 | .times a b=>by simp only[sub,jL,lB hf x u a,lB hf x u b]
 | .rc a=>by simp only[sub,jL,lB hf x u a]
 | .zero=>rfl
 | .one=>rfl
 | .bound k=>rfl
theorem mZ{f:Nm->Nm}(hf:JL f)(x:Nm):∀t:Ty,bn (f x) (jL f t)=bn x t
 | .name s=>by simp only[bn,jL];rw[cy];simp only[decide_eq_true_eq];exact⟨fun e=>hf _ _ e,fun e=>by rw[e]⟩
 | .plus a b=>by simp only[bn,jL,mZ hf x a,mZ hf x b]
 | .times a b=>by simp only[bn,jL,mZ hf x a,mZ hf x b]
 | .rc a=>by simp only[bn,jL,mZ hf x a]
 | .zero=>rfl
 | .one=>rfl
 | .bound k=>rfl
theorem gO(f:Nm->Nm):∀t:Ty,(jL f t).atoms=t.atoms
 | .plus a b=>by simp only[Ty.atoms,jL,gO f a,gO f b]
 | .times a b=>by simp only[Ty.atoms,jL,gO f a,gO f b]
 | .rc a=>by simp only[Ty.atoms,jL,gO f a]
 | .name s=>rfl
 | .zero=>rfl
 | .one=>rfl
 | .bound k=>rfl
theorem pG{f:Nm->Nm}:∀t:Ty,(∀x,bn x t=true->f x=x)->jL f t=t
 | .name s,h=>by simp only[jL];rw[h s (by simp[bn])]
 | .plus a b,h=>by simp only[jL];rw[pG a fun x hx=>h x (by simp[bn,hx]),pG b fun x hx=>h x (by simp[bn,hx])]
 | .times a b,h=>by simp only[jL];rw[pG a fun x hx=>h x (by simp[bn,hx]),pG b fun x hx=>h x (by simp[bn,hx])]
 | .rc a,h=>by simp only[jL];rw[pG a fun x hx=>h x hx]
 | .zero,_=>rfl
 | .one,_=>rfl
 | .bound k,_=>rfl
theorem fM(x:Nm):∀(t:Ty) (i:Nat),(dA (.name x) t i).atoms=t.atoms
 | .bound k,i=>by simp only[dA];split<;>rfl
 | .plus a b,i=>by simp only[dA,Ty.atoms,fM x a i,fM x b i]
 | .times a b,i=>by simp only[dA,Ty.atoms,fM x a i,fM x b i]
 | .rc a,i=>by simp only[dA,Ty.atoms,fM x a (i+1)]
 | .zero,i=>rfl
 | .one,i=>rfl
 | .name s,i=>rfl
theorem eu(t:Ty):1<=t.atoms:=by cases t<;>simp only[Ty.atoms]<;>omega
theorem gV(x:Nm)(u:Ty):∀t:Ty,t.atoms<=(sub x u t).atoms
 | .name s=>by simp only[sub];split<;>simp only[Ty.atoms];exact eu u;omega
 | .plus a b=>by have:=gV x u a;have:=gV x u b;simp only[sub,Ty.atoms];omega
 | .times a b=>by have:=gV x u a;have:=gV x u b;simp only[sub,Ty.atoms];omega
 | .rc a=>by have:=gV x u a;simp only[sub,Ty.atoms];omega
 | .zero=>au _
 | .one=>au _
 | .bound k=>au _
theorem gD{x y:Nm}:∀(t:Ty) (i:Nat),bn y (dA (.name x) t i)=true->y=x\/bn y t=true
 |
  .bound k,i,h=>by
  simp only[dA]at h
  split at h
  ·left;simp only[bn,decide_eq_true_eq]at h;exact h.symm
  ·cases h
 |
  .plus a b,i,h=>by
  simp only[dA,bn,bC]at h |-
  rcases h with h|h
  ·rcases gD a i h with h|h<;>simp[h]
  ·rcases gD b i h with h|h<;>simp[h]
 |
  .times a b,i,h=>by
  simp only[dA,bn,bC]at h |-
  rcases h with h|h
  ·rcases gD a i h with h|h<;>simp[h]
  ·rcases gD b i h with h|h<;>simp[h]
 | .rc a,i,h=>gD a (i+1) h
 | .zero,i,h=>by cases h
 | .one,i,h=>by cases h
 | .name s,i,h=>.inr h
theorem ji{x y:Nm}{u:Ty}:∀t:Ty,bn y (sub x u t)=true->bn y u=true\/(y≠x/\bn y t=true)
 |
  .name s,h=>by
  simp only[sub]at h
  split at h
  ·exact .inl h
  ·rename_i hs
   simp only[bn,decide_eq_true_eq]at h
   subst h
   exact .inr ⟨hs,by simp[bn]⟩
 |
  .plus a b,h=>by
  simp only[sub,bn,bC]at h |-
  rcases h with h|h
  ·rcases ji a h with h|h<;>simp[h]
  ·rcases ji b h with h|h<;>simp[h]
 |
  .times a b,h=>by
  simp only[sub,bn,bC]at h |-
  rcases h with h|h
  ·rcases ji a h with h|h<;>simp[h]
  ·rcases ji b h with h|h<;>simp[h]
 |
  .rc a,h=>by
  simp only[sub,bn]at h |-
  exact ji a h
 | .zero,h=>by cases h
 | .one,h=>by cases h
 | .bound k,h=>by cases h
def swp(x y:Nm):Nm->Nm:=fun s=>if s=x then y else if s=y then x else s
theorem zj(x y:Nm):JL (swp x y):=by
 intro a b h
 unfold swp at h
 by_cases h1:a=x<;>by_cases h2:a=y<;>by_cases h3:b=x<;>by_cases h4:b=y<;>simp_all
theorem vA(x y:Nm):swp x y x=y:=by simp[swp]
theorem AO{x y s:Nm}(h:s≠x)(h':s≠y):swp x y s=s:=by simp[swp,h,h']
theorem uC{x y:Nm}{t:Ty}(h:bn x t=false)(h':bn y t=false):jL (swp x y) t=t :=
 pG t fun z hz=>AO (fun e=>by subst e;rw[h]at hz;cases hz) (fun e=>by subst e;rw[h']at hz;cases hz)
def pK(a:Ty)(x:Nm)(c d:Ty):Ty:=.rc (.plus (sub x (.rc a) c) (.times (sub x (.rc a) d) (.bound 0)))
inductive Dv:Ty->Nm->Ty->Prop
 |zero (s):Dv .zero s .zero
 |one (s):Dv .one s .zero
 |bound (k s):Dv (.bound k) s .zero
 |hit (s):Dv (.name s) s .one
 |qA {n s} (h:n≠s):Dv (.name n) s .zero
 |plus {a b s a' b'} (h1:Dv a s a') (h2:Dv b s b') (hl:(Ty.plus a' b').atoms<=400):Dv (.plus a b) s (.plus a' b')
 |times {a b s a' b'} (h1:Dv a s a') (h2:Dv b s b') (hl:(Ty.plus (.times a' b) (.times a b')).atoms<=400):Dv (.times a b) s (.plus (.times a' b) (.times a b'))
 |rc {a s c d} (x:Nm) (hx:bn x a=false) (hs:x≠s) (h1:Dv (dA (.name x) a 0) s c) (h2:Dv (dA (.name x) a 0) x d) (hl:(pK a x c d).atoms<=400):Dv (.rc a) s (pK a x c d)
theorem yW{f:Nm->Nm}(hf:JL f)(a:Ty)(x:Nm)(c d:Ty):jL f (pK a x c d)=pK (jL f a) (f x) (jL f c) (jL f d):=by
 simp only[pK,jL,lB hf]
theorem Dv.jL{f:Nm->Nm}(hf:JL f){t d:Ty}{s:Nm}(h:Dv t s d):Dv (jL f t) (f s) (jL f d):=by
 induction h with
 |zero s=>exact .zero _
 |one s=>exact .one _
 |bound k s=>exact .bound _ _
 |hit s=>exact .hit _
 |qA h=>exact .qA fun e=>h (hf _ _ e)
 |plus h1 h2 hl i1 i2=>exact .plus i1 i2 (by rw[<-gO f]at hl;exact hl)
 |times h1 h2 hl i1 i2=>exact .times i1 i2 (by rw[<-gO f]at hl;exact hl)
 |
  rc x hx hs h1 h2 hl i1 i2 =>
  rw[yW hf]
  rw[lz]at i1 i2
  exact .rc (f x) (by rw[mZ hf];exact hx) (fun e=>hs (hf _ _ e)) i1 i2 (by rw[<-yW hf,gO];exact hl)
theorem Dv.names{t d:Ty}{s:Nm}(h:Dv t s d):∀y,bn y d=true->bn y t=true:=by
 induction h with
 |zero s=>intro y hy;cases hy
 |one s=>intro y hy;cases hy
 |bound k s=>intro y hy;cases hy
 |hit s=>intro y hy;cases hy
 |qA h=>intro y hy;cases hy
 |
  plus h1 h2 hl i1 i2 =>
  intro y hy
  simp only[bn,bC]at hy |-
  rcases hy with hy|hy
  ·exact .inl (i1 y hy)
  ·exact .inr (i2 y hy)
 |
  times h1 h2 hl i1 i2 =>
  intro y hy
  simp only[bn,bC]at hy |-
  rcases hy with(hy|hy)|(hy|hy)
  ·exact .inl (i1 y hy)
  ·exact .inr hy
  ·exact .inl hy
  ·exact .inr (i2 y hy)
 |
  rc x hx hs h1 h2 hl i1 i2 =>
  intro y hy
  simp only[pK,bn,bC,Bool.or_false]at hy |-
  have key:∀{a c:Ty},(∀y,bn y c=true->bn y (dA (.name x) a 0)=true)->bn y (sub x (.rc a) c)=true->bn y a=true:=fun i h=>by
   rcases ji _ h with h|⟨h,h'⟩
   ·exact h
   ·rcases gD _ _ (i y h')with e|e
    ·exact absurd e h
    ·exact e
  rcases hy with hy|hy
  ·exact key i1 hy
  ·exact key i2 hy
theorem Dv.fresh{t d:Ty}{s y:Nm}(h:Dv t s d)(hy:bn y t=false):bn y d=false:=by
 cases e:bn y d with
 |false=>rfl
 |true=>rw[h.names y e]at hy;cases hy
theorem Dv.move{a c:Ty}{x y s:Nm}(hx:bn x a=false)(hy:bn y a=false)(h:Dv (dA (.name x) a 0) s c):Dv (dA (.name y) a 0) (swp x y s) (Go.Proofs.Trees.jL (swp x y) c):=by
 have:=h.jL (zj x y)
 rw[lz,vA,uC hx hy]at this
 exact this
theorem my{a c:Ty}{x y s:Nm}(hx:bn x a=false)(hy:bn y a=false)(h:Dv (dA (.name x) a 0) s c):sub y (.rc a) (jL (swp x y) c)=sub x (.rc a) c:=by
 have e:=lB (zj x y) x (.rc a) c
 rw[vA,uC (t:=.rc a) hx hy]at e
 rw[<-e]
 have key:∀z,(z=x\/z=y)->bn z (sub x (.rc a) c)=false:=fun z hz=>by
  cases q:bn z (sub x (.rc a) c)with
  |false=>rfl
  |
   true =>
   exfalso
   have hz':bn z a=false:=by rcases hz with rfl|rfl<;>assumption
   rcases ji _ q with h1|⟨h1,h2⟩
   ·rw[show bn z (.rc a)=bn z a from rfl,hz']at h1;cases h1
   ·rcases gD _ _ (h.names z h2)with e|e
    ·exact h1 e
    ·rw[hz']at e;cases e
 exact uC (key x (.inl rfl)) (key y (.inr rfl))
theorem Dv.uniq:∀(n:Nat) (t:Ty),t.atoms<=n->∀{s:Nm} {d d':Ty},Dv t s d->Dv t s d'->d=d'
 |0,t,h,_,_,_,_,_=>by have:=eu t;omega
 |
  n+1,t,hn,s,d,d',h,h'=>by
  cases h with
  |zero=>cases h';rfl
  |one=>cases h';rfl
  |bound=>cases h';rfl
  |
   hit =>
   cases h' with
   |hit=>rfl
   |qA h=>exact absurd rfl h
  |
   qA h =>
   cases h' with
   |hit=>exact absurd rfl h
   |qA _=>rfl
  |
   plus h1 h2 =>
   simp only[Ty.atoms]at hn
   cases h' with
   |plus g1 g2=>rw[Dv.uniq n _ (by omega) h1 g1,Dv.uniq n _ (by omega) h2 g2]
  |
   times h1 h2 =>
   simp only[Ty.atoms]at hn
   cases h' with
   |times g1 g2=>rw[Dv.uniq n _ (by omega) h1 g1,Dv.uniq n _ (by omega) h2 g2]
  |
   rc x hx hs h1 h2 =>
   simp only[Ty.atoms]at hn
   cases h' with
   |
    rc y hy hs' g1 g2 =>
    rename_i a _ _ _ _ _ _
    have m1:=h1.move hx hy
    have m2:=h2.move hx hy
    rw[AO (Ne.symm hs) (Ne.symm hs')]at m1
    rw[vA]at m2
    have e1:=Dv.uniq n _ (by rw[fM];omega) m1 g1
    have e2:=Dv.uniq n _ (by rw[fM];omega) m2 g2
    rw[pK,pK,<-e1,<-e2,my hx hy h1,my hx hy h2]
theorem Dv.small{t d:Ty}{s:Nm}(h:Dv t s d):d.atoms<=400:=by
 cases h<;>first|assumption|simp[Ty.atoms]
open Classical in
noncomputable def l5 (t:Ty) (s:Nm):Option Ty:=if h:∃d,Dv t s d then some (Classical.choose h)else none
theorem cQ{t:Ty}{s:Nm}{d:Ty}:l5 t s=some d↔Dv t s d:=by
 unfold l5
 by_cases h:∃d,Dv t s d
 ·rw[dif_pos h]
  have:=Classical.choose_spec h
  constructor
  ·intro e;cases e;exact this
  ·intro g;rw[Dv.uniq _ t (au _) this g]
 ·rw[dif_neg h]
  exact⟨fun e=>(by cases e),fun g=>absurd ⟨d,g⟩ h⟩
def nF(t:Ty):Option Ty:=if t.atoms<=400 then some t else none
theorem eT{t d:Ty}:nF t=some d↔t.atoms<=400/\t=d:=by
 unfold nF
 split
 ·rename_i h;simp[h]
 ·rename_i h;simp[h]
theorem qM{α:Type}{a b:Option α}(h:∀d,a=some d↔b=some d):a=b:=by
 cases a with
 |
  none=>cases b with
  |none=>rfl
  |some x=>have:=(h x).2 rfl;cases this
 |some x=>exact((h x).1 rfl).symm
theorem vr(s:Nm):l5 .zero s=some .zero:=cQ.2 (.zero _)
theorem yR(s:Nm):l5 .one s=some .zero:=cQ.2 (.one _)
theorem zI(k:Nat)(s:Nm):l5 (.bound k) s=some .zero:=cQ.2 (.bound _ _)
theorem oq(n s:Nm):l5 (.name n) s=some (if n=s then .one else .zero):=by
 split
 ·rename_i h;subst h;exact cQ.2 (.hit _)
 ·rename_i h;exact cQ.2 (.qA h)
theorem wy(a b:Ty)(s:Nm):l5 (.plus a b) s=(l5 a s).bind fun a'=>(l5 b s).bind fun b'=>nF (.plus a' b'):=by
 refine qM fun d=>?_
 rw[cQ]
 simp only[a6,cQ,eT]
 constructor
 ·intro h;cases h with|plus h1 h2 hl=>exact⟨_,h1,_,h2,hl,rfl⟩
 ·rintro⟨a',h1,b',h2,hl,rfl⟩;exact .plus h1 h2 hl
theorem tD(a b:Ty)(s:Nm):l5 (.times a b) s=(l5 a s).bind fun a'=>(l5 b s).bind fun b'=>nF (.plus (.times a' b) (.times a b')):=by
 refine qM fun d=>?_
 rw[cQ]
 simp only[a6,cQ,eT]
 constructor
 ·intro h;cases h with|times h1 h2 hl=>exact⟨_,h1,_,h2,hl,rfl⟩
 ·rintro⟨a',h1,b',h2,hl,rfl⟩;exact .times h1 h2 hl
theorem BM{a:Ty}{s x:Nm}(hx:bn x a=false)(hs:x≠s):l5 (.rc a) s=(l5 (dA (.name x) a 0) s).bind fun c=>(l5 (dA (.name x) a 0) x).bind fun d=>nF (pK a x c d):=by
 refine qM fun d=>?_
 rw[cQ]
 simp only[a6,cQ,eT]
 constructor
 ·intro h
  cases h with
  |
   rc y hy hs' h1 h2 hl =>
   have m1:=h1.move hy hx
   have m2:=h2.move hy hx
   rw[AO (Ne.symm hs') (Ne.symm hs)]at m1
   rw[vA]at m2
   refine⟨_,m1,_,m2,?_⟩
   have e:∀c d,sub x (.rc a) (jL (swp y x) c)=sub y (.rc a) c->sub x (.rc a) (jL (swp y x) d)=sub y (.rc a) d->pK a x (jL (swp y x) c) (jL (swp y x) d)=pK a y c d:=fun c d e1 e2=>by rw[pK,pK,e1,e2]
   rw[e _ _ (my hy hx h1) (my hy hx h2)]
   exact⟨hl,rfl⟩
 ·rintro⟨c,h1,d',h2,hl,rfl⟩;exact .rc x hx hs h1 h2 hl
noncomputable def od (a:Ty) (x:Nm):Option Ty:=(l5 (dA (.name x) a 0) x).bind fun d=>nF (sub x (.rc a) d)
theorem GQ{a:Ty}{x y:Nm}(hx:bn x a=false)(hy:bn y a=false):od a x=od a y:=by
 have key:∀{x y:Nm} {d:Ty},bn x a=false->bn y a=false->od a x=some d->od a y=some d:=fun {x y d} hx hy h=>by
  simp only[od,a6,cQ,eT]at h |-
  obtain⟨d',h1,hl,rfl⟩:=h
  have m1:=h1.move hx hy
  rw[vA]at m1
  exact⟨_,m1,by rw[my hx hy h1];exact⟨hl,rfl⟩⟩
 exact qM fun d=>⟨key hx hy,key hy hx⟩
end Go.Proofs.Trees
namespace Go.Proofs.Trees
open Go Go.VL
theorem QV(b:UInt8):an Tryz.prog 161 [.v (.int .u8 (b.toNat:Int))] [] (bM (.v (.bool (ff b)))):=by
 refine Sv _ ?_
 simp only[NQ,↓zq,zs,ae,bM,ff]
 repeat' (apply aH<;>intro _)
 all_goals first|(congr 2;rw[cy];simp;omega)|(congr 2;simp;omega)
def DC(s:List UInt8)(x:Option (E×List UInt8)):AV->List Ob->Prop:=fun r o=>o=[] /\
 match x with
 |some (e,u)=>r=.cG [e.kF,.v (.int .i64 ((s.length-u.length:Nat):Int))]
 |none=>∃(c:List UInt8) (d:AV),LK.sl.has d/\r=.cG [.agg [.v (.string (mk c)),d],.v (.int .i64 (-1))]
theorem DC.ne(s:List UInt8)(x:Option (E×List UInt8)):∃r o,DC s x r o:=by
 cases x with
 |some q=>exact⟨_,_,rfl,rfl⟩
 |none=>exact⟨_,_,rfl,[],.v (.slice none 0 0),(bh).mpr trivial,rfl⟩
def jc(c:List UInt8)(d:AV):Ob:=.cells [.v (.string (mk c)),d]
theorem J6(s:List UInt8)(hs:s.length<=8000)(from_:Int)(c1 c2:List UInt8)(d1 d2:AV)(h1:LK.sl.has d1)(h2:LK.sl.has d2):∀(k i:Nat),i+k=s.length->FY [.v (.string (mk s)),.v (.int .i64 (i:Int)),.v (.int .i64 from_)] [jc c1 d1,jc c2 d2]
 (gZ 1 [.v (.string (mk s)),.v (.int .i64 ((i+((s.drop i).takeWhile ff).length:Nat):Int)),.v (.int .i64 from_)] [jc c1 d1,jc c2 d2])
 |
  0,i,hi=>by
  refine JH _ _ _ _ _ _ _ ?_
  have hd:s.drop i=[]:=bV (by omega)
  simp only[GK,↓zq,zs,ae,zt]
  exact⟨h1,h2,fun h=>by omega,fun _=>by simp[gZ,hd,jc]⟩
 |
  k+1,i,hi=>by
  have hlt:i<s.length:=by omega
  refine JH _ _ _ _ _ _ _ ?_
  simp only[GK,↓zq,zs,ae,zt,l9 s i hlt]
  refine⟨h1,h2,fun _=>⟨by omega,?_⟩,fun h=>by omega⟩
  refine aj (QV _) ?_
  simp only[↓zq,zs,ae]
  refine⟨fun hb=>?_,fun hb=>?_⟩
  ·rw[bx i (by omega)]
   have:=J6 s hs from_ c1 c2 d1 d2 h1 h2 k (i+1) (by omega)
   rw[yF hlt hb,show i+(((s.drop (i+1)).takeWhile ff).length+1)=i+1+((s.drop (i+1)).takeWhile ff).length by omega]
   exact this
  ·simp[gZ,qZ hlt hb,jc]
def Tw(s:List UInt8)(x:Option (E×List UInt8)):Nat->List AV->List Ob->Prop:=fun t ys o=>t=2 /\
 match x with
 |some (e,u)=>∃l,e=.list l/\ys=[.v (.int .i64 ((s.length-u.length:Nat):Int))]/\o=[jc [] .any,.vec 2 (E.bw l)]
 |none=>∃es,ys=[.v (.int .i64 (-1))]/\o=[jc [] .any,.vec 2 es]
theorem yQ(e:E):(e.kF=.agg e.kF.cs/\e.kF.cs.length=2/\bK [.str,.sl] e.kF.cs 0)=True:=by
 apply eq_true
 cases e<;>simp[E.kF,E.ir,Bt,bK,dY,bh,cg]
theorem xd(e:E):[AV.v (.string ((e.kF.cs.getD 0 .any).toStr)),e.kF.cs.getD 1 .any]=e.ir:=by
 cases e<;>rfl
theorem drop_cons{s:List UInt8}{j:Nat}(hj:j<s.length):s.drop j=s.getD j 0::s.drop (j+1):=by
 rw[aU hj];simp[aa,hj]
theorem Oe(s:List UInt8)(hs:s.length<=8000)(d:Nat)(hd:d<=300)(f:List UInt8->Option (E×List UInt8))(hf:∀u e r,f u=some (e,r)->∃j,r=u.drop j/\0<j/\j<=u.length)
 (ih:∀j,j<=s.length->an Tryz.prog 142 [.v (.string (mk s)),.v (.int .i64 (j:Int)),.v (.int .i64 ((d+1:Nat):Int))] [] (DC s (f (s.drop j)))) :
 ∀(n i:Nat) (acc:List E) (c1:List UInt8) (d1:AV),LK.sl.has d1->s.length-(i+1)<n->i<s.length->s.length-i+acc.length<=8001->FD [.v (.string (mk s)),.v (.int .i64 (i:Int)),.v (.int .i64 (d:Int))] [jc c1 d1,jc [] .any,.vec 2 (E.bw acc)]
  (Tw s (sE f n (s.drop (i+1)) acc))
 |0,i,acc,c1,d1,h1,hn,_,_=>by omega
 |
  n+1,i,acc,c1,d1,h1,hn,hi,hl=>by
  refine SC _ _ _ _ _ _ _ ?_
  simp only[O1,↓zq,zs,ae,jc]
  refine⟨h1,?_⟩
  rw[bx i (by omega),bx d (by omega)]
  refine aP (ih (i+1) (by omega)) (DC.ne _ _) ?_
  rintro r o ⟨rfl,hr⟩
  have hff:=hf (s.drop (i+1))
  unfold sE
  cases hq:f (s.drop (i+1))with
  |
   none =>
   rw[hq]at hr
   obtain⟨c,d',hd',rfl⟩:=hr
   simp only[↓zq,zs,ae,zt,bK]
   refine⟨hd',fun _=>⟨rfl,_,rfl,rfl⟩,fun h=>by omega⟩
  |
   some q =>
   obtain⟨e,u⟩:=q
   rw[hq]at hr
   subst hr
   obtain⟨j,hu,hj0,hj⟩:=hff e u hq
   rw[List.drop_drop]at hu
   simp only[cw]at hj
   have hul:u.length=s.length-(i+1+j):=by rw[hu,cw]
   have hpos:s.length-u.length=i+1+j:=by omega
   simp only[↓zq,zs,ae,zt,yQ,hpos,xd,ef]
   refine⟨fun h=>by omega,fun _=>⟨fun h=>?_,fun h=>⟨⟨fun c hc=>(by simp at hc;rw[hc];cases e<;>rfl),by omega⟩,?_⟩⟩⟩
   ·have:u=[]:=by rw[hu];exact bV (by omega)
    subst this
    exact⟨rfl,_,rfl,rfl⟩
   ·have hlt:i+1+j<s.length:=by omega
    rw[drop_cons hlt]at hu
    subst hu
    rw[l9 s _ hlt]
    generalize hb:s.getD (i+1+j) 0=b
    refine⟨by omega,fun h41=>?_,fun h41=>⟨by omega,fun h32=>?_,fun h32=>?_⟩⟩
    ·have h41':b.toNat=41:=by omega
     dsimp only
     rw[if_pos h41',bx _ (by omega)]
     refine⟨rfl,acc++[e],rfl,?_,?_⟩
     ·rw[cw];congr 3;omega
     ·simp[jc,qu,E.bw]
    ·have h41':¬b.toNat=41:=by omega
     have h32':¬b.toNat=32:=by omega
     dsimp only
     rw[if_neg h41',if_neg h32']
     exact⟨rfl,_,rfl,rfl⟩
    ·have h41':¬b.toNat=41:=by omega
     have h32':b.toNat=32:=by omega
     dsimp only
     rw[if_neg h41',if_pos h32']
     have:=Oe s hs d hd f hf ih n (i+1+j) (acc++[e]) c1 d1 h1 (by omega) hlt (by simp;omega)
     simpa[jc,qu,E.bw]using this
theorem C6(k:Nat)(u:List UInt8)(e:E)(r:List UInt8)(h:rd k u=some (e,r)):∃j,r=u.drop j/\0<j/\j<=u.length:=by
 have suf:∀(k:Nat) (u:List UInt8) (e:E) (r:List UInt8),rd k u=some (e,r)->r <:+ u:=by
  intro k
  have tw:∀u:List UInt8,u.dropWhile ff <:+ u:=fun u=>List.dropWhile_suffix _
  have ll:∀(f:List UInt8->Option (E×List UInt8)),(∀u e r,f u=some (e,r)->r <:+ u)->∀(n:Nat) (u:List UInt8) (acc:List E) (e:E) (r:List UInt8),sE f n u acc=some (e,r)->r <:+ u:=by
   intro f hf n
   induction n with
   |zero=>intro u acc e r h;cases h
   |
    succ n ih =>
    intro u acc e r h
    simp only[sE]at h
    split at h
    ·rename_i p c r' hs
     have h1:r' <:+ u:=(List.suffix_cons c r').trans (hf _ _ _ hs)
     split at h
     ·cases h;exact h1
     ·split at h
      ·exact(ih _ _ _ _ h).trans h1
      ·cases h
    ·cases h
  induction k with
  |
   zero =>
   intro u e r h
   simp only[rd]at h
   split at h
   ·cases h
   ·cases h;exact tw u
  |
   succ k ih =>
   intro u e r h
   simp only[rd]at h
   split at h
   ·split at h
    ·split at h
     ·exact(ll _ ih _ _ _ _ _ h).trans (List.suffix_cons _ _)
     ·cases h
    ·cases h
   ·cases h;exact tw u
 obtain⟨p,hp⟩:=suf k u e r h
 have hlt:=zr k u e r h
 have:=congrArg List.length hp
 simp only[aq]at this
 exact⟨p.length,by rw[<-hp];simp,by omega,by omega⟩
theorem AN(n:Nat)(u:List UInt8)(acc:List E):sE (fun _=>none) n u acc=none:=by
 cases n<;>rfl
theorem P6(s:List UInt8)(j:Nat):an Tryz.prog 142 [.v (.string (mk s)),.v (.int .i64 (j:Int)),.v (.int .i64 ((300+1:Nat):Int))] [] (DC s none):=by
 refine LX _ _ _ ?_
 simp only[He,↓zq,zs,ae]
 exact⟨fun _=>⟨rfl,[],_,(bh).mpr trivial,rfl⟩,fun h=>by omega⟩
theorem qe(s:List UInt8)(hs:s.length<=8000)(d i:Nat)(hd:d<=300)(hi:i<=s.length)(f:List UInt8->Option (E×List UInt8))(hf:∀u e r,f u=some (e,r)->∃j,r=u.drop j/\0<j/\j<=u.length)
 (ih:∀j,j<=s.length->an Tryz.prog 142 [.v (.string (mk s)),.v (.int .i64 (j:Int)),.v (.int .i64 ((d+1:Nat):Int))] [] (DC s (f (s.drop j)))) (x:Option (E×List UInt8))
 (h0:i=s.length->x=none)
 (h1:i<s.length->(s.drop i).takeWhile ff≠[]->x=some (.atom ((s.drop i).takeWhile ff),(s.drop i).dropWhile ff))
 (h2:i<s.length->(s.drop i).takeWhile ff=[]->¬(s.getD i 0).toNat=40->x=none)
 (h3:i<s.length->(s.getD i 0).toNat=40->x=sE f (s.length-(i+1)+1) (s.drop (i+1)) []) :
 an Tryz.prog 142 [.v (.string (mk s)),.v (.int .i64 (i:Int)),.v (.int .i64 (d:Int))] [] (DC s x):=by
 refine LX _ _ _ ?_
 simp only[He,↓zq,zs,ae,zt]
 refine⟨fun h=>by omega,fun _=>⟨fun h=>?_,fun h=>⟨by omega,?_⟩⟩⟩
 ·rw[h0 (by omega)]
  exact⟨rfl,[],_,(bh).mpr trivial,rfl⟩
 ·have hlt:i<s.length:=by omega
  rw[l9 s i hlt]
  refine⟨fun h40=>?_,fun h40=>?_⟩
  ·have h40':¬(s.getD i 0).toNat=40:=by omega
   refine cA (J6 s hs _ [] [] _ _ ((bh).mpr trivial) ((bh).mpr trivial) (s.length-i) i (by omega)) ?_
   have hex:(List.take (i+((s.drop i).takeWhile ff).length) s).drop i=(s.drop i).takeWhile ff:=by
    rw[List.drop_take,Nat.add_sub_cancel_left];exact uF _
   have hle:i+((s.drop i).takeWhile ff).length<=s.length:=by
    have:=u5 (s.drop i);simp only[cw]at this;omega
   simp only[jc,↓zq,zs,ae,zt,hex]
   refine⟨by omega,fun hnil=>?_,fun hnil=>?_⟩
   ·rw[h2 hlt hnil h40',hnil]
    exact⟨rfl,[],_,(bh).mpr trivial,rfl⟩
   ·rw[h1 hlt hnil]
    refine⟨rfl,?_⟩
    have:=u5 (s.drop i)
    simp only[cw]at this
    show _=AV.cG [E.kF (.atom _),_]
    have e:s.length-((s.drop i).dropWhile ff).length=i+((s.drop i).takeWhile ff).length:=by omega
    rw[e];rfl
  ·have h40':(s.getD i 0).toNat=40:=by omega
   rw[h3 hlt h40']
   refine kM (Oe s hs d hd f hf ih (s.length-(i+1)+1) i [] [] _ ((bh).mpr trivial) (by omega) hlt (by simp;omega)) ?_ ?_
   ·rintro ys o ⟨h,_⟩;cases h
   ·rintro ys o ⟨_,hr⟩
    cases hq:sE f (s.length-(i+1)+1) (s.drop (i+1)) []with
    |
     none =>
     rw[hq]at hr
     obtain⟨es,rfl,rfl⟩:=hr
     simp only[jc,↓zq,zs,ae]
     exact⟨rfl,[],_,(cg _).mpr trivial,rfl⟩
    |
     some q =>
     obtain⟨e,u⟩:=q
     rw[hq]at hr
     obtain⟨l,rfl,rfl,rfl⟩:=hr
     simp only[jc,↓zq,zs,ae]
     exact⟨rfl,rfl⟩
theorem PO(s:List UInt8)(hs:s.length<=8000):∀(k:Nat),k<=300->∀i,i<=s.length->an Tryz.prog 142 [.v (.string (mk s)),.v (.int .i64 (i:Int)),.v (.int .i64 ((300-k:Nat):Int))] [] (DC s (rd k (s.drop i))):=by
 intro k
 have hnil:∀k,rd k []=none:=fun k=>by cases k<;>simp[rd]
 have ha40:∀b:UInt8,b.toNat=40->ff b=false:=fun b hb=>by simp[ff,hb]
 induction k with
 |
  zero =>
  intro hk i hi
  refine qe s hs 300 i (by omega) hi (fun _=>none) (fun _ _ _ h=>by cases h) (fun j _=>P6 s j) _ (fun h=>?_) (fun hlt h=>?_) (fun hlt h h40=>?_) (fun hlt h40=>?_)
  ·rw[bV (by omega)];exact hnil 0
  ·simp only[rd,if_neg h]
  ·simp only[rd,if_pos h]
  ·rw[AN]
   have:(s.drop i).takeWhile ff=[]:=qZ hlt (ha40 _ h40)
   simp only[rd,if_pos this]
 |
  succ k ih =>
  intro hk i hi
  have hd:300-(k+1)+1=300-k:=by omega
  refine qe s hs (300-(k+1)) i (by omega) hi (rd k) (C6 k) (fun j hj=>by rw[hd];exact ih (by omega) j hj) _ (fun h=>?_) (fun hlt h=>?_) (fun hlt h h40=>?_) (fun hlt h40=>?_)
  ·rw[bV (by omega)];exact hnil _
  ·simp only[rd,if_neg h]
  ·rw[drop_cons hlt]at h |-
   simp only[rd,if_pos h,if_neg h40]
  ·have h:=qZ hlt (ha40 _ h40)
   rw[drop_cons hlt]at h |-
   simp only[rd,if_pos h,if_pos h40,cw]
end Go.Proofs.Trees
namespace Go.Proofs.Trees
open Go Go.VL
theorem iR(e:E):AV.agg [.v (.string ((e.ir.getD 0 .any).toStr)),e.ir.getD 1 .any]=e.kF:=by cases e<;>rfl
theorem gl(e:E):e.ir.length=2:=by cases e<;>rfl
theorem ja(e:E):bK [.str,.sl] e.ir 0=True:=by
 apply eq_true
 cases e<;>simp[E.ir,bK,dY,bh,cg]
theorem mF(e:E):e.ir.headD .any=.v (.string (mk e.at)):=by cases e<;>rfl
theorem vf(x:E)(l:List E):an Tryz.prog 86 [.agg [.v (.string (mk [])),.sl (E.bw (x::l))]] [] (bM (.v (.string (mk x.at)))):=by
 refine Hk _ _ ((cg _).mpr trivial) ?_
 simp only[CQ,E.bw,↓zq,zs,ae,zt,bM,gl,mF,au]
 refine⟨fun h=>absurd rfl h,fun _=>⟨fun h=>by omega,fun _=>⟨by omega,by omega⟩⟩⟩
theorem QE:an Tryz.prog 86 [.agg [.v (.string (mk [])),.sl (E.bw [])]] [] (bM (.v (.string (mk [])))):=by
 refine Hk _ _ ((cg _).mpr trivial) ?_
 simp only[CQ,E.bw,↓zq,zs,ae,zt,bM,gl,mF,au]
 simp
def j4:E->Bool
 | .atom s=>(s==[48])||(s==[49])||gP s||dm s
 | .list [x,a,b]=>if x.at=[43]then j4 a&&j4 b else if x.at=[42]then j4 a&&j4 b else if x.at=[114,101,99]then dm a.at&&j4 b else false
 | .list _=>false
theorem zy:∀(e:E),e.ok->an Tryz.prog 117 [e.kF] [] (bM (.v (.bool (j4 e))))
 |
  .atom s,hok=>by
  refine Ly _ _ ((bh).mpr trivial) ?_
  have hne:s≠[]:=hok
  simp only[F7,↓zq,zs,ae,zt,bM,j4]
  refine⟨fun _=>⟨fun h=>?_,fun h=>⟨fun h1=>?_,fun h1=>?_⟩⟩,fun h=>absurd h hne⟩
  ·simp[h]
  ·simp[h1]
  ·refine aj (FT s) ?_
   simp only[↓zq,zs,ae]
   refine⟨fun hp=>?_,fun hp=>?_⟩
   ·simp[hp]
   ·refine aj (Ib s) ?_
    simp[↓zq,zs,ae,hp,h,h1]
 |
  .list l,hok=>by
  refine Ly _ _ ((cg _).mpr trivial) ?_
  match l,hok with
  |[],hok=>simp[F7,E.bw,↓zq,zs,ae,zt,bM,j4]
  |[x],hok=>simp[F7,E.bw,↓zq,zs,ae,zt,bM,j4]
  |[x,y],hok=>simp[F7,E.bw,↓zq,zs,ae,zt,bM,j4]
  |
   x::y::z::w::l,hok =>
   simp only[F7,E.bw,↓zq,zs,ae,zt,bM,j4]
   exact⟨fun h=>absurd rfl h,fun _=>⟨fun _=>trivial,fun h=>by omega⟩⟩
  |
   [x,y,z],hok =>
   obtain⟨ok1,ok2,ok3,_⟩:=hok
   simp only[F7,↓zq,zs,ae,zt,bM]
   refine⟨fun h=>absurd rfl h,fun _=>⟨fun h=>absurd rfl h,fun _=>?_⟩⟩
   refine aj (vf x _) ?_
   simp only[E.bw,toNat_one,bg,↓zq,zs,ae,zt,iR,gl,ja,mF,au,j4]
   refine⟨fun h=>?_,fun h=>⟨fun h1=>?_,fun h1=>⟨fun h2=>?_,fun h2=>?_⟩⟩⟩
   ·rw[if_pos h]
    refine⟨by omega,aj (zy y ok2) ?_⟩
    simp only[↓zq,zs,ae]
    refine⟨fun hy=>⟨by omega,aj (zy z ok3) ?_⟩,fun hy=>?_⟩
    ·simp only[↓zq,zs,ae,hy,bX]
    ·rw[hy];rfl
   ·rw[if_neg h,if_pos h1]
    refine⟨by omega,aj (zy y ok2) ?_⟩
    simp only[↓zq,zs,ae]
    refine⟨fun hy=>⟨by omega,aj (zy z ok3) ?_⟩,fun hy=>?_⟩
    ·simp only[↓zq,zs,ae,hy,bX]
    ·rw[hy];rfl
   ·rw[if_neg h,if_neg h1,if_pos h2]
    refine⟨by omega,by omega,aj (Ib _) ?_⟩
    simp only[↓zq,zs,ae]
    refine⟨fun hy=>⟨by omega,aj (zy z ok3) ?_⟩,fun hy=>?_⟩
    ·simp only[↓zq,zs,ae,hy,bX]
    ·rw[hy];rfl
   ·rw[if_neg h,if_neg h1,if_neg h2]
theorem i7:∀(e:E) (ar:List (List UInt8)),(cS e ar).isSome=j4 e
 |
  .atom s,ar=>by
  simp only[cS,j4]
  by_cases h:s=[48]
  ·simp[h]
  ·by_cases h1:s=[49]
   ·simp[h1]
   ·rw[if_neg h,if_neg h1]
    by_cases h2:gP s=true
    ·simp[h2]
    ·rw[if_neg h2]
     by_cases h3:dm s=true
     ·rw[if_pos h3];cases bR s ar ar.length<;>simp[h3]
     ·rw[if_neg h3];simp[h,h1,h2,h3]
 | .list [],_=>rfl
 | .list [_],_=>rfl
 | .list [_,_],_=>rfl
 | .list (_::_::_::_::_),_=>rfl
 |
  .list [x,a,b],ar=>by
  have ha:=i7 a ar
  have hb:=i7 b ar
  have hb2:=i7 b (ar++[a.at])
  rw[j4]
  by_cases h:x.at=[43]
  ·rw[kO ar h,if_pos h,<-ha,<-hb];cases cS a ar<;>cases cS b ar<;>rfl
  ·by_cases h1:x.at=[42]
   ·rw[jZ ar h1,if_neg h,if_pos h1,<-ha,<-hb];cases cS a ar<;>cases cS b ar<;>rfl
   ·by_cases h2:x.at=[114,101,99]
    ·rw[mO ar h2,if_neg h,if_neg h1,if_pos h2,<-hb2]
     cases dm a.at<;>cases cS b (ar++[a.at])<;>rfl
    ·rw[jd ar h h1 h2,if_neg h,if_neg h1,if_neg h2];rfl
mutual
def E.db:E->Nat
 | .atom _=>1
 | .list l=>E.eZ l
def E.eZ:List E->Nat
 |[]=>0
 |e::l=>e.db+E.eZ l
end
mutual
theorem iP:∀e:E,e.db<=e.sz
 | .atom s=>by simp[E.db,E.sz]
 | .list l=>by have:=uX l;simp only[E.db,E.sz];omega
theorem uX:∀l:List E,E.eZ l<=E.jm l
 |[]=>by simp[E.eZ,E.jm]
 |e::l=>by have:=iP e;have:=uX l;simp only[E.eZ,E.jm];omega
end
theorem jJ:∀(l:List E) (i:Nat) (h:i<l.length),(E.bw l).getD i []=(l[i]).ir
 |e::l,0,_=>rfl
 |
  e::l,i+1,h=>by
  have:=jJ l i (by simpa using h)
  simp only[E.bw,List.getD_cons_succ,List.getElem_cons_succ];exact this
theorem Ag:∀(l:List E) (i:Nat) (h:i<l.length),E.eZ (l.drop i)=(l[i]).db+E.eZ (l.drop (i+1)):=by
 intro l i h
 rw[aU h];rfl
theorem uT:∀(l:List E) (i:Nat) (h:i<l.length),E.Ek l->(l[i]).ok
 |e::l,0,_,h=>h.1
 |e::l,i+1,hi,h=>uT l i (by simpa using hi) h.2
theorem LM(l:List E)(hl:E.eZ l<1000000)(hll:l.length<1000000)(ih:∀i (h:i<l.length),an Tryz.prog 88 [(l[i]).kF] [] (bM (.v (.int .i64 ((l[i]).db:Int))))) :
 ∀(k i n:Nat),i+k=l.length->n+E.eZ (l.drop i)<=E.eZ l->FK [.v (.int .i64 (n:Int)),.v (.int .i64 (i:Int))] [.cells [.v (.string (mk [])),.sl (E.bw l)]] (gZ 1 [.v (.int .i64 ((n+E.eZ (l.drop i):Nat):Int))] [])
 |
  0,i,n,hi,hn=>by
  refine OJ _ _ _ _ ?_
  simp only[Hh,↓zq,zs,ae,ef]
  have:l.drop i=[]:=bV (by omega)
  refine⟨fun h=>by omega,fun _=>?_⟩
  simp[gZ,this,E.eZ]
 |
  k+1,i,n,hi,hn=>by
  have hlt:i<l.length:=by omega
  refine OJ _ _ _ _ ?_
  simp only[Hh,↓zq,zs,ae,zt,ef,jJ l i hlt,gl,ja,iR,au]
  refine⟨fun _=>⟨by omega,?_⟩,fun h=>by omega⟩
  refine aj (ih i hlt) ?_
  have h1:=Ag l i hlt
  simp only[↓zq,zs,ae]
  rw[bx i (by omega),wrap64 _ (by omega) (by omega)]
  have:=LM l hl hll ih k (i+1) (n+(l[i]).db) (by omega) (by omega)
  rw[h1,<-Nat.add_assoc]
  simpa using this
theorem ur:∀l:List E,l.length<=E.jm l
 |[]=>by simp[E.jm]
 |
  e::l=>by
  have:=ur l
  have:1<=e.sz:=by cases e<;>simp[E.sz]
  simp only[E.jm,aA];omega
theorem uD:∀(l:List E) (i:Nat) (h:i<l.length),(l[i]).sz<=E.jm l
 |e::l,0,_=>by simp[E.jm]
 |e::l,i+1,h=>by have:=uD l i (by simpa using h);simp only[E.jm,List.getElem_cons_succ];omega
theorem Oj:∀(n:Nat) (e:E),e.sz<n->e.ok->e.sz<1000000->an Tryz.prog 88 [e.kF] [] (bM (.v (.int .i64 (e.db:Int))))
 |0,e,hn,_,_=>by omega
 |
  n+1,.atom s,hn,hok,hl=>by
  refine OB _ _ ((bh).mpr trivial) ?_
  have hne:s≠[]:=hok
  simp only[Hu,↓zq,zs,ae,zt,bM]
  exact⟨fun _=>rfl,fun h=>absurd h hne⟩
 |
  n+1,.list l,hn,hok,hl=>by
  refine OB _ _ ((cg _).mpr trivial) ?_
  simp only[E.sz]at hn hl
  have h1:=uX l
  have h2:=ur l
  simp only[Hu,↓zq,zs,ae,zt,bM]
  refine⟨fun h=>absurd rfl h,fun _=>?_⟩
  refine cA (LM l (by omega) (by omega) (fun i hi=>?_) l.length 0 0 (by omega) (by simp)) ?_
  ·have:=uD l i hi
   exact Oj n (l[i]) (by omega) (uT l i hi hok) (by omega)
  ·simp[↓zq,zs,ae,E.db]
theorem Dk(e:E)(h:e.ok)(hl:e.sz<1000000):an Tryz.prog 88 [e.kF] [] (bM (.v (.int .i64 (e.db:Int)))):=Oj (e.sz+1) e (by omega) h hl
theorem uw{x:E}(h:x.at≠[]):x.db=1:=by cases x<;>simp[E.at,E.db]at h |-
theorem CG{s:List UInt8}(h:dm s=true):s≠[]:=by rintro rfl;cases h
theorem jP:∀(e:E) (ar:List (List UInt8)) (t:Ty),cS e ar=some t->e.db=t.atoms
 |
  .atom s,ar,t,h=>by
  simp only[cS]at h
  simp only[E.db]
  split at h
  ·cases h;rfl
  ·split at h
   ·cases h;rfl
   ·split at h
    ·cases h;rfl
    ·split at h
     ·split at h<;>cases h<;>rfl
     ·cases h
 | .list [],_,_,h=>by cases h
 | .list [_],_,_,h=>by cases h
 | .list [_,_],_,_,h=>by cases h
 | .list (_::_::_::_::_),_,_,h=>by cases h
 |
  .list [x,a,b],ar,t,h=>by
  simp only[E.db,E.eZ]
  by_cases h0:x.at=[43]
  ·rw[kO ar h0]at h
   have:=uw (x:=x) (by rw[h0];simp)
   split at h
   ·rename_i t1 t2 e1 e2
    cases h
    have:=jP a ar _ e1
    have:=jP b ar _ e2
    simp only[Ty.atoms];omega
   ·cases h
  ·by_cases h1:x.at=[42]
   ·rw[jZ ar h1]at h
    have:=uw (x:=x) (by rw[h1];simp)
    split at h
    ·rename_i t1 t2 e1 e2
     cases h
     have:=jP a ar _ e1
     have:=jP b ar _ e2
     simp only[Ty.atoms];omega
    ·cases h
   ·by_cases h2:x.at=[114,101,99]
    ·rw[mO ar h2]at h
     have:=uw (x:=x) (by rw[h2];simp)
     split at h
     ·rename_i hl
      have:=uw (CG hl)
      split at h
      ·rename_i t1 e1
       cases h
       have:=jP b _ _ e1
       simp only[Ty.atoms];omega
      ·cases h
     ·cases h
    ·rw[jd ar h0 h1 h2]at h;cases h
def jI(x:Option E)(b:Bool):AV->List Ob->Prop:=fun r o=>∃c:List UInt8,∃d:AV,LK.sl.has d/\r=.cG [.agg [.v (.string (mk c)),d],.v (.bool b)]/\(b=true->∃e,x=some e/\AV.agg [.v (.string (mk c)),d]=e.kF)
theorem A0(e:E):∃c:List UInt8,∃d:AV,LK.sl.has d/\e.kF=AV.agg [.v (.string (mk c)),d]:=by
 cases e with
 |atom s=>exact⟨s,_,(bh).mpr trivial,rfl⟩
 |list l=>exact⟨[],_,(cg _).mpr trivial,rfl⟩
theorem jI.ne(x:Option E)(b:Bool)(h:b=true->x.isSome=true):∃r o,jI x b r o:=by
 cases b with
 |false=>exact⟨_,[],[],.v (.slice none 0 0),(bh).mpr trivial,rfl,fun h=>by cases h⟩
 |
  true =>
  cases x with
  |none=>cases h rfl
  |
   some e =>
   obtain⟨c,d,hd,he⟩:=A0 e
   exact⟨_,[],c,d,hd,rfl,fun _=>⟨e,rfl,he.symm⟩⟩
theorem Oh(s:List UInt8):an Tryz.prog 102 [.v (.string (mk s))] [] (jI (rh s) (rh s).isSome):=by
 refine SL _ ?_
 simp only[LN,↓zq,zs,ae,zt,rh]
 refine⟨fun h=>?_,fun h=>?_⟩
 ·rw[if_pos (by omega)]
  exact⟨[],_,(bh).mpr trivial,rfl,fun h=>by cases h⟩
 ·rw[if_neg (by omega)]
  refine aP (PO s (by omega) 300 (by omega) 0 (by omega)) (DC.ne _ _) ?_
  rintro r o ⟨rfl,hr⟩
  rw[bf]at hr
  cases hq:rd 300 s with
  |
   none =>
   rw[hq]at hr
   obtain⟨c,d,hd,rfl⟩:=hr
   simp only[↓zq,zs,ae,zt,bK]
   refine⟨hd,c,d,hd,?_,fun h=>by cases h⟩
   have:((-1:Int)==(s.length:Int))=false:=by
    rw[beq_eq_false_iff_ne];omega
   rw[this];rfl
  |
   some q =>
   obtain⟨e,u⟩:=q
   rw[hq]at hr
   subst hr
   have hlt:=zr _ _ _ _ hq
   obtain⟨c,d,hd,he⟩:=A0 e
   simp only[he,↓zq,zs,ae,zt,bK]
   cases u with
   |
    nil =>
    refine⟨hd,c,d,hd,?_,fun _=>⟨e,rfl,he.symm⟩⟩
    simp
   |
    cons b u =>
    simp only[aA]at hlt |-
    refine⟨hd,c,d,hd,?_,fun h=>by cases h⟩
    have:(((s.length-(u.length+1):Nat):Int)==(s.length:Int))=false:=by simp;omega
    rw[this];rfl
def wF(s:List UInt8):Option E:=match rh s with
 |none=>none
 |some e=>if j4 e=true/\e.db<=400 then some e else none
theorem FJ(s:List UInt8):an Tryz.prog 83 [.v (.string (mk s))] [] (jI (wF s) (wF s).isSome):=by
 refine RR _ ?_
 unfold I2
 refine aP (Oh s) (jI.ne _ _ (fun h=>h)) ?_
 rintro r o ⟨c,d,hd,rfl,hh⟩
 simp only[↓zq,zs,ae,zt,bK,wF]
 refine⟨hd,fun h=>?_,fun h=>?_⟩
 ·obtain⟨e,he,hce⟩:=hh h
  obtain⟨hok,hsz⟩:=nN he
  rw[he,hce]
  refine aj (zy e hok) ?_
  simp only[↓zq,zs,ae]
  refine⟨fun hi=>?_,fun hi=>?_⟩
  ·refine aj (Dk e hok (by omega)) ?_
   simp only[↓zq,zs,ae,hi]
   refine⟨c,d,hd,?_,?_⟩
   ·rw[hce]
    by_cases h4:e.db<=400
    ·rw[if_pos h4];exact congrArg (fun b=>AV.cG [e.kF,.v (.bool b)]) (decide_eq_true (show ((e.db:Nat):Int)<=400 by omega))
    ·rw[if_neg h4];exact congrArg (fun b=>AV.cG [e.kF,.v (.bool b)]) (decide_eq_false (show ¬((e.db:Nat):Int)<=400 by omega))
   ·split
    ·exact fun _=>⟨e,rfl,hce⟩
    ·exact fun h=>by cases h
  ·refine⟨c,d,hd,?_,?_⟩
   ·rw[hce,if_neg (by rw[hi];simp)];rfl
   ·rw[if_neg (by rw[hi];simp)];exact fun h=>by cases h
 ·have hn:rh s=none:=by cases hq:rh s<;>simp[hq]at h |-
  rw[hn]
  exact⟨c,d,hd,rfl,fun h=>by cases h⟩
theorem p8{s:List UInt8}{e:E}(h:wF s=some e):rh s=some e/\j4 e=true/\e.db<=400:=by
 unfold wF at h
 split at h
 ·cases h
 ·split at h
  ·rename_i e' h1 h2;cases h;exact⟨h1,h2⟩
  ·cases h
end Go.Proofs.Trees
namespace Go.Proofs.Trees
open Go Go.VL
def cc:Ty->Bool
 | .name s=>dm s
 | .plus a b=>cc a||cc b
 | .times a b=>cc a||cc b
 | .rc a=>cc a
 |_=>false
theorem gW:∀(t:Ty) (out:List (List UInt8)),(bQ t out).any dm=(out.any dm||cc t)
 |
  .name s,out=>by
  simp only[bQ,pZ,cc]
  split
  ·rename_i h
   cases hs:dm s with
   |false=>simp
   |true=>rw[Bool.or_true,cr];exact⟨s,h,hs⟩
  ·simp
 | .plus a b,out=>by simp only[bQ,cc,gW a,gW b,Bool.or_assoc]
 | .times a b,out=>by simp only[bQ,cc,gW a,gW b,Bool.or_assoc]
 | .rc a,out=>by simp only[bQ,cc,gW a]
 | .zero,out=>by simp[bQ,cc]
 | .one,out=>by simp[bQ,cc]
 | .bound u,out=>by simp[bQ,cc]
theorem sP(t:Ty):t.closed = !cc t:=by simp[Ty.closed,gW]
def pl:Ty->Bool
 | .name s=>decide (s.length<=1)
 | .plus a b=>pl a&&pl b
 | .times a b=>pl a&&pl b
 | .rc a=>false
 |_=>true
theorem lW{lo hi:Nat}{s:List UInt8}(h:named lo hi s=true):∃c r,s=c::r/\lo<=c.toNat/\c.toNat<=hi:=by
 cases s with
 |nil=>cases h
 |cons c r=>simp only[named,aw,decide_eq_true_eq]at h;exact⟨c,r,rfl,by omega,by omega⟩
theorem fL{x a b:E}{ar:List (List UInt8)}{t:Ty}(hx:x.at=[43])(h:cS (.list [x,a,b]) ar=some t):∃t1 t2,cS a ar=some t1/\cS b ar=some t2/\t=.plus t1 t2:=by
 rw[kO ar hx]at h
 split at h
 ·rename_i t1 t2 e1 e2;cases h;exact⟨t1,t2,e1,e2,rfl⟩
 ·cases h
theorem fp{x a b:E}{ar:List (List UInt8)}{t:Ty}(hx:x.at=[42])(h:cS (.list [x,a,b]) ar=some t):∃t1 t2,cS a ar=some t1/\cS b ar=some t2/\t=.times t1 t2:=by
 rw[jZ ar hx]at h
 split at h
 ·rename_i t1 t2 e1 e2;cases h;exact⟨t1,t2,e1,e2,rfl⟩
 ·cases h
theorem dx{x a b:E}{ar:List (List UInt8)}{t:Ty}(hx:x.at=[114,101,99])(h:cS (.list [x,a,b]) ar=some t):∃t1,dm a.at=true/\cS b (ar++[a.at])=some t1/\t=.rc t1:=by
 rw[mO ar hx]at h
 split at h
 ·rename_i hl
  split at h
  ·rename_i t1 e1;cases h;exact⟨t1,hl,e1,rfl⟩
  ·cases h
 ·cases h
theorem uI{s:List UInt8}:qT s=match wF s with|none=>none|some e=>cS e []:=by
 unfold qT wF
 cases he:rh s with
 |none=>rfl
 |
  some e =>
  have hs:=i7 e []
  simp only
  cases ht:cS e []with
  |
   none =>
   rw[ht]at hs
   rw[if_neg (by rw[<-hs];simp)]
  |
   some t =>
   rw[ht]at hs
   have ha:=jP e [] t ht
   by_cases h4:e.db<=400
   ·rw[if_pos ⟨hs.symm,h4⟩];dsimp only;rw[if_neg (by omega)];exact ht.symm
   ·rw[if_neg (fun h=>h4 h.2)];dsimp only;rw[if_pos (by omega)]
end Go.Proofs.Trees
namespace Go.Proofs.Trees
open Go Go.VL
def pure:Ty->Bool
 | .zero=>true
 | .one=>true
 | .name s=>(s==[120])||(s==[121])||(s==[122])
 | .plus a b=>pure a&&pure b
 | .times a b=>pure a&&pure b
 |_=>false
def JQ(v:Nat):Option Nat:=if v<=1000000000 then some v else none
def IN(n:Nat):Ty->Option Nat
 | .zero=>some 0
 | .one=>some 1
 | .name _=>some n
 | .plus a b=>match IN n a,IN n b with|some x,some y=>JQ (x+y)|_,_=>none
 | .times a b=>match IN n a,IN n b with|some x,some y=>JQ (x*y)|_,_=>none
 |_=>none
def Mz(x:Option Nat):AV->List Ob->Prop:=fun r o=>∃v:Int,r=.cG [.v (.int .i64 v),.v (.bool x.isSome)]/\∀c,x=some c->v=(c:Int)
theorem Mz.ne(x:Option Nat):∃r o,Mz x r o:=by
 cases x with
 |none=>exact⟨_,[],0,rfl,fun c h=>by cases h⟩
 |some c=>exact⟨_,[],(c:Int),rfl,fun c' h=>by cases h;rfl⟩
end Go.Proofs.Trees
namespace Go.Proofs.Trees
open Go Go.VL Go.RowKit
abbrev dd(n:Nat):List UInt8:=Lib.decDigits n
theorem eH{k:Nat}(h:k<10):dd k=[bj (48+k)]:=by rw[dd,Lib.decDigits,dif_pos h]
theorem fQ{k:Nat}(h:¬k<10):dd k=dd (k/10)++[bj (48+k%10)]:=by rw[dd,Lib.decDigits,dif_neg h]
theorem mQ:∀(n k:Nat),k<n->(dd k).length<=k+1
 |0,k,h=>by omega
 |
  n+1,k,h=>by
  by_cases h1:k<10
  ·rw[eH h1];simp
  ·rw[fQ h1]
   have:=mQ n (k/10) (by omega)
   simp only[aq,aA,aG];omega
theorem xP(d:Nat)(h:d<10):(Value.int .u8 (IntKind.wrap .u8 (IntKind.wrap .i64 (48+(d:Int)))))=.int .u8 ((bj (48+d)).toNat:Int):=by
 have:d=0\/d=1\/d=2\/d=3\/d=4\/d=5\/d=6\/d=7\/d=8\/d=9:=by omega
 rcases this with rfl|rfl|rfl|rfl|rfl|rfl|rfl|rfl|rfl|rfl<;>rfl
theorem qi(b:UInt8):bytesOf [[.v (.int .u8 (b.toNat:Int))]]=[b]:=by simp[bytesOf,zu]
theorem lr(b:UInt8):jA [[.v (.int .u8 (b.toNat:Int))]]:=⟨rfl,(lH _ _).mpr trivial,trivial⟩
theorem zC:∀(n k:Nat),k<n->k<1000000000->an Tryz.prog 90 [.v (.int .i64 (k:Int))] [] (bM (.v (.string (mk (dd k)))))
 |0,k,h,_=>by omega
 |
  n+1,k,h,hk=>by
  refine Pu _ ?_
  simp only[I7,↓zq,zs,ae,bM]
  refine⟨fun h=>by omega,fun _=>⟨fun h=>by omega,fun _=>⟨fun h1=>?_,fun h1=>⟨by omega,?_⟩⟩⟩⟩
  ·rw[xP k (by omega)]
   refine⟨lr _,?_⟩
   rw[qi,eH (by omega)];rfl
  ·have e1:IntKind.wrap .i64 (Int.tdiv (k:Int) 10)=((k/10:Nat):Int):=by
    rw[show Int.tdiv (k:Int) 10=((k/10:Nat):Int) from (Int.ofNat_tdiv k 10).symm,wrap64 _ (by omega) (by omega)]
   have e2:dF (k:Int) 10=((k%10:Nat):Int):=(Int.ofNat_tmod k 10).symm
   rw[e1,e2,xP (k%10) (by omega)]
   refine aj (zC n (k/10) (by omega) (by omega)) ?_
   have hl:=mQ (k+1) (k/10) (by omega)
   simp only[↓zq,zs,ae,zt,qi]
   have h9:(k:Int)<1000000000:=by omega
   refine⟨by omega,lr _,?_,?_⟩
   ·show (mk (dd (k/10))).size+(mk [bj (48+k%10)]).size<=_
    rw[cM,cM];simp;omega
   ·show AV.v (.string (mk (dd (k/10))++mk [bj (48+k%10)]))=_
    rw[lq,fQ (k:=k) (by omega)]
theorem Ao(s:List UInt8)(d:AV)(hd:LK.sl.has d)(h:s≠[]):an Tryz.prog 86 [.agg [.v (.string (mk s)),d]] [] (bM (.v (.string (mk [])))):=by
 refine Hk _ _ hd ?_
 simp only[CQ,↓zq,zs,ae,zt,bM]
 exact⟨fun _=>trivial,fun h'=>absurd h' h⟩
theorem DI(e:E):AV.agg [.v (.string ((e.kF.cs.getD 0 .any).toStr)),e.kF.cs.getD 1 .any]=e.kF:=by cases e<;>rfl
mutual
def e9:E->List UInt8
 | .atom s=>s
 | .list []=>[40,41]
 | .list (e::l)=>40::(e9 e++(ej l++[41]))
def ej:List E->List UInt8
 |[]=>[]
 |e::l=>32::(e9 e++ej l)
end
theorem Ah:∀(l:List E) (i:Nat) (h:i<l.length),ej (l.drop i)=32::(e9 l[i]++ej (l.drop (i+1))):=by
 intro l i h
 rw[aU h,ej]
theorem Ms(l:List E)(hll:l.length<1000000000000)(ih:∀i (h:i<l.length),an Tryz.prog 63 [(l[i]).kF] [] (bM (.v (.string (mk (e9 l[i])))))) :
 ∀(k i:Nat) (out:List UInt8),i+k=l.length->1<=i->out.length+(ej (l.drop i)).length<=1000000000000->BK [.v (.string (mk out)),.v (.int .i64 (i:Int))] [.cells [.v (.string (mk [])),.sl (E.bw l)]] (gZ 1 [.v (.string (mk (out++ej (l.drop i))))] [])
 |
  0,i,out,hi,h1,hn=>by
  refine DB _ _ _ _ ?_
  simp only[BX,↓zq,zs,ae,ef]
  have:l.drop i=[]:=bV (by omega)
  refine⟨fun h=>by omega,fun _=>?_⟩
  simp[gZ,this,ej]
 |
  k+1,i,out,hi,h1,hn=>by
  have hlt:i<l.length:=by omega
  have hd:=Ah l i hlt
  rw[hd]at hn
  simp only[aA,aq]at hn
  refine DB _ _ _ _ ?_
  simp only[BX,↓zq,zs,ae,zt,ef,jJ l i hlt,gl,ja,iR,au]
  refine⟨fun _=>⟨fun _=>⟨by omega,by omega,?_⟩,fun h=>by omega⟩,fun h=>by omega⟩
  refine aj (ih i hlt) ?_
  simp only[↓zq,zs,ae,zt]
  refine⟨by simp;omega,?_⟩
  rw[bx i (by omega),hd]
  have:=Ms l hll ih k (i+1) (out++[32]++e9 l[i]) (by omega) (by omega) (by simp;omega)
  simpa using this
theorem yj:∀(l:List E) (i:Nat) (h:i<l.length),(e9 l[i]).length<=(ej l).length
 |e::l,0,_=>by simp only[ej,List.getElem_cons_zero,aA,aq];omega
 |e::l,i+1,h=>by have:=yj l i (by simpa using h);simp only[ej,List.getElem_cons_succ,aA,aq];omega
theorem rZ:∀l:List E,l.length<=(ej l).length
 |[]=>by simp[ej]
 |e::l=>by have:=rZ l;simp only[ej,aA,aq];omega
theorem Dl:∀(n:Nat) (e:E),e.sz<n->e.ok->(e9 e).length<=900000000000->an Tryz.prog 63 [e.kF] [] (bM (.v (.string (mk (e9 e)))))
 |0,e,hn,_,_=>by omega
 |
  n+1,.atom s,hn,hok,hl=>by
  refine H0 _ _ ((bh).mpr trivial) ?_
  have hne:s≠[]:=hok
  simp only[C3,↓zq,zs,ae,zt,bM]
  exact⟨fun _=>rfl,fun h=>absurd h hne⟩
 |
  n+1,.list [],hn,hok,hl=>by
  refine H0 _ _ ((cg _).mpr trivial) ?_
  simp only[C3,↓zq,zs,ae,zt,bM]
  refine⟨fun h=>absurd rfl h,fun _=>?_⟩
  have h1:BK [.v (.string (mk [40])),.v (.int .i64 0)] [.cells [.v (.string (mk [])),.sl (E.bw [])]] (gZ 1 [.v (.string (mk [40]))] []):=by
   refine DB _ _ _ _ ?_
   simp[BX,↓zq,zs,ae,E.bw,gZ]
  refine cA h1 ?_
  simp only[↓zq,zs,ae,zt]
  exact⟨by simp,rfl⟩
 |
  n+1,.list (x::l),hn,hok,hl=>by
  refine H0 _ _ ((cg _).mpr trivial) ?_
  simp only[E.sz,E.jm]at hn
  simp only[e9,aA,aq,aG]at hl
  have h2:=rZ l
  simp only[C3,↓zq,zs,ae,zt,bM]
  refine⟨fun h=>absurd rfl h,fun _=>?_⟩
  have hL:BK [.v (.string (mk [40])),.v (.int .i64 0)] [.cells [.v (.string (mk [])),.sl (E.bw (x::l))]] (gZ 1 [.v (.string (mk ([40]++e9 x++ej l)))] []):=by
   refine DB _ _ _ _ ?_
   simp only[BX,E.bw,Int.toNat_zero,↓zq,zs,ae,zt,ef,gl,ja,iR,au]
   refine⟨fun _=>⟨fun h=>by omega,fun _=>⟨by omega,?_⟩⟩,fun h=>by omega⟩
   refine aj (Dl n x (by omega) hok.1 (by omega)) ?_
   simp only[↓zq,zs,ae,zt]
   refine⟨by simp;omega,?_⟩
   have:=Ms (x::l) (by simp;omega) (fun i hi=>by
    have h3:=uD (x::l) i hi
    simp only[E.jm]at h3
    refine Dl n _ (by omega) (uT _ i hi hok) ?_
    have h4:=yj (x::l) i hi
    simp only[ej,aA,aq]at h4
    omega) l.length 1 ([40]++e9 x) (by simp;omega) (by omega) (by simp;omega)
   rw[show IntKind.wrap .i64 (0+1)=1 from rfl]
   simpa[E.bw]using this
  refine cA hL ?_
  simp only[↓zq,zs,ae,zt]
  refine⟨by simp;omega,?_⟩
  simp[e9]
theorem Dj(e:E)(h:e.ok)(hl:(e9 e).length<=900000):an Tryz.prog 63 [e.kF] [] (bM (.v (.string (mk (e9 e))))):=Dl (e.sz+1) e (by omega) h (by omega)
mutual
def E.nd:E->Nat
 | .atom _=>1
 | .list []=>1
 | .list (_::l)=>1+E.vd l
def E.vd:List E->Nat
 |[]=>0
 |e::l=>e.nd+E.vd l
end
mutual
theorem BS:∀e:E,e.nd<=e.sz
 | .atom s=>by simp[E.nd,E.sz]
 | .list []=>by simp[E.nd,E.sz,E.jm]
 | .list (x::l)=>by have:=xe l;simp only[E.nd,E.sz,E.jm];omega
theorem xe:∀l:List E,E.vd l<=E.jm l
 |[]=>by simp[E.vd,E.jm]
 |e::l=>by have:=BS e;have:=xe l;simp only[E.vd,E.jm];omega
end
theorem AX:∀(l:List E) (i:Nat) (h:i<l.length),E.vd (l.drop i)=(l[i]).nd+E.vd (l.drop (i+1)):=by
 intro l i h
 rw[aU h];rfl
theorem Mq(l:List E)(hl:E.vd l<1000000)(hll:l.length<1000000)(ih:∀i (h:i<l.length),an Tryz.prog 104 [(l[i]).kF] [] (bM (.v (.int .i64 ((l[i]).nd:Int))))) :
 ∀(k i n:Nat),i+k=l.length->n+E.vd (l.drop i)<=1+E.vd l->BE [.v (.int .i64 (n:Int)),.v (.int .i64 (i:Int))] [.cells [.v (.string (mk [])),.sl (E.bw l)]] (gZ 1 [.v (.int .i64 ((n+E.vd (l.drop i):Nat):Int))] [])
 |
  0,i,n,hi,hn=>by
  refine Et _ _ _ _ ?_
  simp only[CB,↓zq,zs,ae,ef]
  have:l.drop i=[]:=bV (by omega)
  refine⟨fun h=>by omega,fun _=>?_⟩
  simp[gZ,this,E.vd]
 |
  k+1,i,n,hi,hn=>by
  have hlt:i<l.length:=by omega
  refine Et _ _ _ _ ?_
  simp only[CB,↓zq,zs,ae,zt,ef,jJ l i hlt,gl,ja,iR,au]
  refine⟨fun _=>⟨by omega,?_⟩,fun h=>by omega⟩
  refine aj (ih i hlt) ?_
  have h1:=AX l i hlt
  simp only[↓zq,zs,ae]
  rw[bx i (by omega),wrap64 _ (by omega) (by omega)]
  have:=Mq l hl hll ih k (i+1) (n+(l[i]).nd) (by omega) (by omega)
  rw[h1,<-Nat.add_assoc]
  simpa using this
theorem LL:∀(n:Nat) (e:E),e.sz<n->e.sz<900000->an Tryz.prog 104 [e.kF] [] (bM (.v (.int .i64 (e.nd:Int))))
 |0,e,hn,_=>by omega
 |
  n+1,.atom s,hn,hl=>by
  refine N7 _ _ ((bh).mpr trivial) ?_
  simp only[Gp]
  have hL:BE [.v (.int .i64 1),.v (.int .i64 1)] [.cells [.v (.string (mk s)),.v (.slice none 0 0)]] (gZ 1 [.v (.int .i64 1)] []):=by
   refine Et _ _ _ _ ?_
   simp[CB,↓zq,zs,ae,gZ]
  refine cA hL ?_
  simp[↓zq,zs,ae,bM,E.nd]
 |
  n+1,.list l,hn,hl=>by
  refine N7 _ _ ((cg _).mpr trivial) ?_
  simp only[E.sz]at hn hl
  simp only[Gp]
  match l,hn,hl with
  |
   [],hn,hl =>
   have hL:BE [.v (.int .i64 1),.v (.int .i64 1)] [.cells [.v (.string (mk [])),.sl (E.bw [])]] (gZ 1 [.v (.int .i64 1)] []):=by
    refine Et _ _ _ _ ?_
    simp[CB,↓zq,zs,ae,gZ,E.bw]
   refine cA hL ?_
   simp[↓zq,zs,ae,bM,E.nd]
  |
   x::l,hn,hl =>
   simp only[E.jm]at hn hl
   have h1:=xe l
   have h2:=ur l
   have h0:=BS x
   refine cA (Mq (x::l) (by simp only[E.vd];omega) (by simp;omega) (fun i hi=>?_) l.length 1 1 (by simp;omega) (by simp[E.vd])) ?_
   ·have:=uD (x::l) i hi
    simp only[E.jm]at this
    exact LL n _ (by omega) (by omega)
   ·simp[↓zq,zs,ae,E.nd,bM]
theorem Sb(e:E)(hl:e.sz<900000):an Tryz.prog 104 [e.kF] [] (bM (.v (.int .i64 (e.nd:Int)))):=LL (e.sz+1) e (by omega) hl
inductive Vl where
 |u
 |el (k:Nat)
 |l (v:Vl)
 |r (v:Vl)
 |f (v:Vl)
 |p (a b:Vl)
abbrev wI(k:Nat):List UInt8:=101::dd k
abbrev gH:AV:=.v (.pointer none)
def Vl.cE:Vl->AV
 | .u=>.ptr [.v (.int .u8 117),.v (.string (mk [])),gH,gH]
 | .el k=>.ptr [.v (.int .u8 101),.v (.string (mk (wI k))),gH,gH]
 | .l v=>.ptr [.v (.int .u8 108),.v (.string (mk [])),v.cE,gH]
 | .r v=>.ptr [.v (.int .u8 114),.v (.string (mk [])),v.cE,gH]
 | .f v=>.ptr [.v (.int .u8 102),.v (.string (mk [])),v.cE,gH]
 | .p a b=>.ptr [.v (.int .u8 112),.v (.string (mk [])),a.cE,b.cE]
def Vl.cK:Vl->E
 | .u=>.atom [117]
 | .el k=>.atom (wI k)
 | .l v=>.list [.atom [108],v.cK]
 | .r v=>.list [.atom [114],v.cK]
 | .f v=>.list [.atom [102],v.cK]
 | .p a b=>.list [.atom [112],a.cK,b.cK]
def Vl.nodes:Vl->Nat
 | .l v=>1+v.nodes
 | .r v=>1+v.nodes
 | .f v=>1+v.nodes
 | .p a b=>1+a.nodes+b.nodes
 |_=>1
def Vl.ij(n:Nat):Vl->Prop
 | .el k=>k<n
 | .l v=>v.ij n
 | .r v=>v.ij n
 | .f v=>v.ij n
 | .p a b=>a.ij n/\b.ij n
 | .u=>True
abbrev Vl.cF(v:Vl):List UInt8:=e9 v.cK
theorem aN(v:Vl):LK.has .ptr v.cE=True:=by cases v<;>simp[Vl.cE,cb]
theorem fB(v:Vl):v.cE.isNil=false:=by cases v<;>rfl
theorem mU:∀v:Vl,v.cK.ok
 | .u=>by simp[Vl.cK,E.ok]
 | .el k=>by simp[Vl.cK,E.ok]
 | .l v=>⟨by simp[E.ok],mU v,trivial⟩
 | .r v=>⟨by simp[E.ok],mU v,trivial⟩
 | .f v=>⟨by simp[E.ok],mU v,trivial⟩
 | .p a b=>⟨by simp[E.ok],mU a,mU b,trivial⟩
theorem nP:∀v:Vl,v.cK.nd=v.nodes
 | .u=>rfl
 | .el k=>rfl
 | .l v=>by simp[Vl.cK,E.nd,E.vd,Vl.nodes,nP v]
 | .r v=>by simp[Vl.cK,E.nd,E.vd,Vl.nodes,nP v]
 | .f v=>by simp[Vl.cK,E.nd,E.vd,Vl.nodes,nP v]
 | .p a b=>by simp[Vl.cK,E.nd,E.vd,Vl.nodes,nP a,nP b,Nat.add_assoc]
theorem jg:∀v:Vl,v.ij 100->v.cF.length<=200*v.nodes
 | .u,_=>by simp[Vl.cF,Vl.cK,e9,Vl.nodes]
 |
  .el k,h=>by
  have h':k<100:=h
  have:=mQ 1000 k (by omega)
  simp only[Vl.cF,Vl.cK,e9,Vl.nodes,aA];omega
 | .l v,h=>by have:=jg v h;simp only[Vl.cF,Vl.cK,e9,ej,Vl.nodes,aA,aq,aG]at this |-;omega
 | .r v,h=>by have:=jg v h;simp only[Vl.cF,Vl.cK,e9,ej,Vl.nodes,aA,aq,aG]at this |-;omega
 | .f v,h=>by have:=jg v h;simp only[Vl.cF,Vl.cK,e9,ej,Vl.nodes,aA,aq,aG]at this |-;omega
 | .p a b,h=>by have:=jg a h.1;have:=jg b h.2;simp only[Vl.cF,Vl.cK,e9,ej,Vl.nodes,aA,aq,aG]at *;omega
theorem Am(a b:AV)(h:LK.ptr.has a)(h':LK.ptr.has b):an Tryz.prog 109 [a,b] [] (bM (.ptr [.v (.int .u8 112),.v (.string (mk [])),a,b])):=by
 refine PI _ _ h h' ?_
 simp[Li,↓zq,zs,ae,bM]
theorem dr(v:Vl):1<=v.nodes:=by cases v<;>simp[Vl.nodes]<;>omega
theorem EP:∀(v:Vl),v.nodes<1000000->an Tryz.prog 56 [v.cE] [] (bM (.v (.int .i64 (v.nodes:Int))))
 | .u,h=>by refine zO _ ((aN _).mpr trivial) ?_;simp[wV,Vl.cE,↓zq,zs,ae,bM,Vl.nodes]
 | .el k,h=>by refine zO _ ((aN _).mpr trivial) ?_;simp[wV,Vl.cE,↓zq,zs,ae,bM,Vl.nodes]
 |
  .l v,h=>by
  simp only[Vl.nodes]at h
  refine zO _ ((aN _).mpr trivial) ?_
  simp only[wV,Vl.cE,↓zq,zs,ae,aN,fB]
  refine⟨by omega,fun _=>⟨by omega,?_⟩,fun h=>(by cases h)⟩
  refine aj (EP v (by omega)) ?_
  simp only[↓zq,zs,ae,bM,Vl.nodes]
  rw[wrap64 _ (by omega) (by omega)]
  simp
 |
  .r v,h=>by
  simp only[Vl.nodes]at h
  refine zO _ ((aN _).mpr trivial) ?_
  simp only[wV,Vl.cE,↓zq,zs,ae,aN,fB]
  refine⟨by omega,fun _=>⟨by omega,?_⟩,fun h=>(by cases h)⟩
  refine aj (EP v (by omega)) ?_
  simp only[↓zq,zs,ae,bM,Vl.nodes]
  rw[wrap64 _ (by omega) (by omega)]
  simp
 |
  .f v,h=>by
  simp only[Vl.nodes]at h
  refine zO _ ((aN _).mpr trivial) ?_
  simp only[wV,Vl.cE,↓zq,zs,ae,aN,fB]
  refine⟨by omega,fun _=>⟨by omega,?_⟩,fun h=>(by cases h)⟩
  refine aj (EP v (by omega)) ?_
  simp only[↓zq,zs,ae,bM,Vl.nodes]
  rw[wrap64 _ (by omega) (by omega)]
  simp
 |
  .p a b,h=>by
  simp only[Vl.nodes]at h
  refine zO _ ((aN _).mpr trivial) ?_
  simp only[wV,Vl.cE,↓zq,zs,ae,aN,fB]
  refine⟨by omega,fun _=>⟨by omega,?_⟩,fun h=>(by cases h)⟩
  refine aj (EP a (by omega)) ?_
  simp only[↓zq,zs,ae,aN,fB]
  rw[wrap64 (1+(a.nodes:Int)) (by omega) (by omega)]
  refine⟨by omega,fun _=>⟨by omega,?_⟩,fun h=>(by cases h)⟩
  refine aj (EP b (by omega)) ?_
  simp only[↓zq,zs,ae,bM,Vl.nodes]
  rw[wrap64 _ (by omega) (by omega)]
  congr 2
end Go.Proofs.Trees
namespace Go.Proofs.Trees
open Go Go.VL Go.RowKit
def Au:List UInt8->Nat->Option Nat
 |[],n=>some n
 |b::r,n=>if ig b=true then Au r (10*n+(b.toNat-48))else none
def fR(s:List UInt8):Option Nat :=
 if s.length=2\/s.length=3 then(if s.getD 0 0=101/\¬(s.length=3/\s.getD 1 0=48)then Au (s.drop 1) 0 else none)else none
def Ba(s:List UInt8):Int:=match fR s with|some k=>(k:Int)|none=>-1
theorem Nf(s:List UInt8)(hs:s.length<=3):∀(k i n:Nat),i+k=s.length->1<=i->(n+1)*10 ^ k<=1000->FW [.v (.string (mk s)),.v (.int .i64 (n:Int)),.v (.int .i64 (i:Int))] []
 (nH (match Au (s.drop i) n with|some m=>(1,[.v (.int .i64 (m:Int))],[])|none=>(2,[.v (.int .i64 (-1))],[])))
 |
  0,i,n,hi,h1,hn=>by
  refine LS _ _ _ ?_
  have hd:s.drop i=[]:=bV (by omega)
  simp only[FF,↓zq,zs,ae,zt,hd,Au]
  exact⟨fun h=>by omega,fun _=>by first|trivial|rfl⟩
 |
  k+1,i,n,hi,h1,hn=>by
  have hlt:i<s.length:=by omega
  refine LS _ _ _ ?_
  rw[drop_cons hlt,Au]
  simp only[FF,↓zq,zs,ae,zt,l9 s i hlt]
  generalize s.getD i 0=b
  have hb:=b.toNat_lt
  refine⟨fun _=>⟨by omega,fun h48=>?_,fun h48=>⟨by omega,fun h57=>?_,fun h57=>⟨by omega,?_⟩⟩⟩,fun h=>by omega⟩
  ·have:ig b=false:=by simp only[ig,decide_eq_false_iff_not];omega
   rw[this];rfl
  ·have:ig b=false:=by simp only[ig,decide_eq_false_iff_not];omega
   rw[this];rfl
  ·have:ig b=true:=by simp only[ig,decide_eq_true_eq];omega
   rw[if_pos this]
   have hk:k=0\/k=1:=by omega
   have hn2:n*10<=1000:=by
    rcases hk with rfl|rfl<;>simp at hn<;>omega
   have e8:IntKind.wrap .u8 ((b.toNat:Int)-48)=((b.toNat-48:Nat):Int):=by
    have:b.toNat=48\/b.toNat=49\/b.toNat=50\/b.toNat=51\/b.toNat=52\/b.toNat=53\/b.toNat=54\/b.toNat=55\/b.toNat=56\/b.toNat=57:=by omega
    rcases this with h|h|h|h|h|h|h|h|h|h<;>rw[h]<;>rfl
   rw[e8,bx i (by omega),wrap64 ((b.toNat-48:Nat):Int) (by omega) (by omega),wrap64 (10*(n:Int)) (by omega) (by omega),wrap64 _ (by omega) (by omega)]
   have e:(10*(n:Int)+((b.toNat-48:Nat):Int))=((10*n+(b.toNat-48):Nat):Int):=by omega
   rw[e]
   exact Nf s hs k (i+1) _ (by omega) (by omega) (by rcases hk with rfl|rfl<;>simp at hn |-<;>omega)
theorem MS(s:List UInt8):an Tryz.prog 127 [.v (.string (mk s))] [] (bM (.v (.int .i64 (Ba s)))):=by
 refine Rw _ ?_
 unfold N0
 refine aj (Bs _ _ _) ?_
 simp only[↓zq,zs,ae,zt,CM,bM]
 have hL:∀(Q:Nat->List AV->List Ob->Prop),(s.length=2\/s.length=3)->s.getD 0 0=101->¬(s.length=3/\s.getD 1 0=48)->(Q 0 [.v (.int .i64 (Ba s))] []) ->
  fe Tryz.prog 49 (.loop D2 AU [.v (.string (mk s)),.v (.int .i64 0),.v (.int .i64 1)] [] (fun y2 q2=>.ai (LK.has (.int .i64) (y2.headD .any))<|.done 0 [.v (.int .i64 ((y2.headD .any).toInt))] []) (fun y2 q2=>.ai (LK.has (.int .i64) (y2.headD .any))<|.done 0 [.v (.int .i64 ((y2.headD .any).toInt))] [])) Q:=by
  intro Q hl h0 h1 hQ
  have e:fR s=Au (s.drop 1) 0:=by rw[fR,if_pos hl,if_pos ⟨h0,h1⟩]
  refine fj (Nf s (by omega) (s.length-1) 1 0 (by omega) (by omega) (by rcases hl with h|h<;>rw[h]<;>decide)) (fun ys o e'=>?_) (fun ys o e'=>?_)
  ·cases hq:Au (s.drop 1) 0<;>rw[hq]at e'<;>cases e'
   rw[hq]at e
   simp only[Ba,e]at hQ
   simp only[↓zq,zs,ae];exact hQ
  ·cases hq:Au (s.drop 1) 0<;>rw[hq]at e'<;>cases e'
   rw[hq]at e
   simp only[Ba,e]at hQ
   simp only[↓zq,zs,ae];exact hQ
 have hz:∀{i:Nat},i<s.length->bt (mk s) (i:Int)=((s.getD i 0).toNat:Int):=fun h=>l9 s _ h
 refine⟨fun h=>?_,fun h=>⟨?_,fun h0=>?_,fun h0=>⟨fun h3=>⟨by omega,fun h1=>?_,fun h1=>?_⟩,fun h3=>?_⟩⟩⟩
 ·have h':¬(2<=(s.length:Int)/\(s.length:Int)<=3):=by simpa using h
  rw[Ba,fR,if_neg (by omega)]
 ·have h':2<=(s.length:Int)/\(s.length:Int)<=3:=by simpa using h
  omega
 ·have h':2<=(s.length:Int)/\(s.length:Int)<=3:=by simpa using h
  have e0:=hz (i:=0) (by omega)
  simp only[Int.ofNat_eq_natCast,Int.cast_ofNat_Int]at e0
  rw[e0]at h0
  rw[Ba,fR,if_pos (by omega),if_neg]
  rintro⟨e,_⟩
  rw[e]at h0;exact h0 rfl
 ·have h':2<=(s.length:Int)/\(s.length:Int)<=3:=by simpa using h
  have e1:=hz (i:=1) (by omega)
  simp only[Int.ofNat_eq_natCast,Int.cast_ofNat_Int]at e1
  rw[e1]at h1
  rw[Ba,fR,if_pos (by omega),if_neg]
  rintro⟨_,e⟩
  refine e ⟨by omega,?_⟩
  rw[<-UInt8.toNat_inj];show (s.getD 1 0).toNat=48;omega
 ·have h':2<=(s.length:Int)/\(s.length:Int)<=3:=by simpa using h
  have e0:=hz (i:=0) (by omega)
  have e1:=hz (i:=1) (by omega)
  simp only[Int.ofNat_eq_natCast,Int.cast_ofNat_Int]at e0 e1
  rw[e0]at h0;rw[e1]at h1
  refine hL _ (by omega) ?_ ?_ ⟨rfl,rfl⟩
  ·rw[<-UInt8.toNat_inj];show (s.getD 0 0).toNat=101;omega
  ·rintro⟨_,e⟩;rw[e]at h1;exact h1 rfl
 ·have h':2<=(s.length:Int)/\(s.length:Int)<=3:=by simpa using h
  have e0:=hz (i:=0) (by omega)
  simp only[Int.ofNat_eq_natCast,Int.cast_ofNat_Int]at e0
  rw[e0]at h0
  refine hL _ (by omega) ?_ ?_ ⟨rfl,rfl⟩
  ·rw[<-UInt8.toNat_inj];show (s.getD 0 0).toNat=101;omega
  ·rintro⟨e,_⟩;omega
theorem pj:∀(l:List UInt8) (n:Nat),(Au l n).isSome=l.all ig
 |[],n=>rfl
 |
  b::l,n=>by
  rw[Au]
  cases hb:ig b with
  |true=>rw[if_pos rfl,pj l];simp[hb]
  |false=>rw[if_neg (by simp)];simp[hb]
theorem OV(s:List UInt8):an Tryz.prog 158 [.v (.string (mk s))] [] (bM (.v (.bool (fR s).isSome))):=by
 refine Qh _ ?_
 simp only[KW,↓zq,zs,ae,zt,bM]
 have hz:∀{i:Nat},i<s.length->bt (mk s) (i:Int)=((s.getD i 0).toNat:Int):=fun h=>l9 s _ h
 refine⟨fun h=>?_,fun h=>⟨fun h3=>?_,fun h3=>?_⟩⟩
 ·rw[fR,if_neg (by omega)];rfl
 ·rw[fR,if_neg (by omega)];rfl
 ·have e0:=hz (i:=0) (by omega)
  have e1:=hz (i:=1) (by omega)
  simp only[Int.ofNat_eq_natCast,Int.cast_ofNat_Int]at e0 e1
  rw[e0,e1]
  have hx:s.drop (bG 1)=s.drop 1:=rfl
  refine⟨by omega,fun h0=>?_,fun h0=>⟨by omega,?_⟩⟩
  ·rw[fR,if_pos (by omega),if_neg]
   ·rfl
   ·rintro⟨e,_⟩;rw[e]at h0;exact h0 rfl
  ·rw[hx]
   refine aj (O3 (s.drop 1) HT (by simp;omega) (by decide) (by decide)) ?_
   simp only[↓zq,zs,ae,zt]
   have h101:s.getD 0 0=101:=by rw[<-UInt8.toNat_inj];show (s.getD 0 0).toNat=101;omega
   have hall:Lib.trimS (s.drop 1) HT=[]↔(s.drop 1).all ig=true:=by
    rw[tM]
    have:(fun x=>HT.contains x)=ig:=funext vw
    rw[this]
   refine⟨fun ht=>?_,fun ht=>⟨fun h2=>?_,fun h2=>⟨by omega,?_⟩⟩⟩
   ·have:(s.drop 1).all ig=false:=by
     cases hq:(s.drop 1).all ig with
     |false=>rfl
     |true=>exact absurd (hall.2 hq) ht
    rw[fR,if_pos (by omega)]
    split
    ·rw[pj,this]
    ·rfl
   ·have hq:=hall.1 ht
    rw[fR,if_pos (by omega),if_pos ⟨h101,by omega⟩,pj,hq]
   ·have hq:=hall.1 ht
    rw[fR,if_pos (by omega)]
    by_cases h48:s.getD 1 0=48
    ·rw[if_neg (by rintro⟨_,e⟩;exact e ⟨by omega,h48⟩),h48];rfl
    ·rw[if_pos ⟨h101,fun e=>h48 e.2⟩,pj,hq]
     have:¬((s.getD 1 0).toNat:Int)=48:=fun e=>h48 (by rw[<-UInt8.toNat_inj];show (s.getD 1 0).toNat=48;omega)
     rw[bne_iff_ne.2 this]
theorem tE{s:List UInt8}{k:Nat}(h:fR s=some k):s=wI k/\k<100:=by
 have key1:∀a:Fin 256,ig (bj a.val)=true->Au [bj a.val] 0=some ((bj a.val).toNat-48)/\(bj a.val).toNat-48<10/\[bj a.val]=[bj (48+((bj a.val).toNat-48))]:=by decide +kernel
 unfold fR at h
 split at h
 ·rename_i hl
  split at h
  ·rename_i hh
   obtain⟨h0,h1⟩:=hh
   rcases hl with hl|hl
   ·match s,hl with
    |
     [c,a],_ =>
     simp only[bq]at h0
     subst h0
     simp only[List.drop_succ_cons,bf,Au]at h
     split at h
     ·rename_i ha
      have:=key1 ⟨a.toNat,a.toNat_lt⟩ (by simpa using ha)
      simp only[UInt8.ofNat_toNat]at this
      cases h
      refine⟨?_,by omega⟩
      rw[wI,eH (by omega)]
      simp only[Nat.mul_zero,aX]
      rw[<-this.2.2]
     ·cases h
   ·match s,hl with
    |
     [c,a,b],_ =>
     simp only[bq,List.getD_cons_succ,aA,aG,true_and]at h0 h1
     subst h0
     simp only[List.drop_succ_cons,bf,Au]at h
     split at h
     ·rename_i ha
      split at h
      ·rename_i hb
       have k1:=key1 ⟨a.toNat,a.toNat_lt⟩ (by simpa using ha)
       have k2:=key1 ⟨b.toNat,b.toNat_lt⟩ (by simpa using hb)
       simp only[UInt8.ofNat_toNat]at k1 k2
       have ha':48<=a.toNat/\a.toNat<=57:=by simpa[ig]using ha
       have hb':48<=b.toNat/\b.toNat<=57:=by simpa[ig]using hb
       have h48:a.toNat≠48:=fun e=>h1 (by rw[<-UInt8.toNat_inj];simpa using e)
       cases h
       simp only[Nat.mul_zero,aX]
       refine⟨?_,by omega⟩
       rw[wI,fQ (by omega),eH (by omega)]
       have e1:(10*(a.toNat-48)+(b.toNat-48))/10=a.toNat-48:=by omega
       have e2:(10*(a.toNat-48)+(b.toNat-48))%10=b.toNat-48:=by omega
       rw[e1,e2,<-k1.2.2,<-k2.2.2];rfl
      ·cases h
     ·cases h
  ·cases h
 ·cases h
theorem vS(k:Nat)(h:k<100):fR (wI k)=some k:=by
 have e:∀k,k<100->dd k=if k<10 then [bj (48+k)]else [bj (48+k/10),bj (48+k%10)]:=by
  intro k hk
  by_cases h1:k<10
  ·rw[eH h1,if_pos h1]
  ·rw[fQ h1,eH (by omega),if_neg h1];rfl
 have key:∀k:Fin 100,fR (101::(if k.val<10 then [bj (48+k.val)]else [bj (48+k.val/10),bj (48+k.val%10)]))=some k.val:=by decide +kernel
 rw[wI,e k h];exact key ⟨k,h⟩
theorem Fi(k:Nat)(h:k<100):Ba (wI k)=(k:Int):=by rw[Ba,vS k h]
def yL:E->Bool
 | .atom s=>(s==[117])||(fR s).isSome
 | .list [x,a]=>((x.at==[108])||(x.at==[114])||(x.at==[102]))&&yL a
 | .list [x,a,b]=>(x.at==[112])&&(yL a&&yL b)
 | .list _=>false
def fN:E->Option Vl
 | .atom s=>if s=[117]then some .u else match fR s with|some k=>some (.el k)|none=>none
 |
  .list [x,a]=>match fN a with
  |none=>none
  |some v=>if x.at=[108]then some (.l v)else if x.at=[114]then some (.r v)else if x.at=[102]then some (.f v)else none
 | .list [x,a,b]=>if x.at=[112]then(match fN a,fN b with|some v,some w=>some (.p v w)|_,_=>none)else none
 | .list _=>none
theorem py:∀e:E,(fN e).isSome=yL e
 |
  .atom s=>by
  simp only[fN,yL]
  by_cases h:s=[117]
  ·simp[h]
  ·rw[if_neg h];cases fR s<;>simp[h]
 | .list []=>rfl
 | .list [_]=>rfl
 |
  .list [x,a]=>by
  have ha:=py a
  rw[fN,yL,<-ha]
  cases fN a with
  |none=>simp
  |
   some v =>
   by_cases h1:x.at=[108]
   ·simp[h1]
   ·by_cases h2:x.at=[114]
    ·simp[h2]
    ·by_cases h3:x.at=[102]
     ·simp[h3]
     ·simp[h1,h2,h3]
 |
  .list [x,a,b]=>by
  have ha:=py a
  have hb:=py b
  rw[fN,yL,<-ha,<-hb]
  by_cases h1:x.at=[112]
  ·rw[if_pos h1,h1];cases fN a<;>cases fN b<;>rfl
  ·simp[h1]
 | .list (_::_::_::_::_)=>rfl
theorem kq{x:E}{w:List UInt8}(h:x.at=w)(hw:w≠[]):x=.atom w:=by
 cases x with
 |atom s=>exact congrArg E.atom h
 |list l=>exact absurd h.symm hw
theorem kY:∀(e:E) (v:Vl),fN e=some v->v.cK=e/\v.ij 100
 |
  .atom s,v,h=>by
  simp only[fN]at h
  split at h
  ·rename_i h1;cases h;exact⟨by rw[h1];rfl,trivial⟩
  ·split at h
   ·rename_i k hk
    cases h
    obtain⟨h1,h2⟩:=tE hk
    exact⟨by rw[h1];rfl,h2⟩
   ·cases h
 | .list [],_,h=>by cases h
 | .list [_],_,h=>by cases h
 | .list (_::_::_::_::_),_,h=>by cases h
 |
  .list [x,a],v,h=>by
  rw[fN]at h
  split at h
  ·cases h
  ·rename_i w hw
   obtain⟨h1,h2⟩:=kY a w hw
   split at h
   ·rename_i hx;cases h;rw[kq hx (by simp)];exact⟨by rw[Vl.cK,h1],h2⟩
   ·split at h
    ·rename_i hx;cases h;rw[kq hx (by simp)];exact⟨by rw[Vl.cK,h1],h2⟩
    ·split at h
     ·rename_i hx;cases h;rw[kq hx (by simp)];exact⟨by rw[Vl.cK,h1],h2⟩
     ·cases h
 |
  .list [x,a,b],v,h=>by
  rw[fN]at h
  split at h
  ·rename_i hx
   split at h
   ·rename_i w1 w2 hw1 hw2
    cases h
    obtain⟨h1,h2⟩:=kY a w1 hw1
    obtain⟨h3,h4⟩:=kY b w2 hw2
    rw[kq hx (by simp)]
    exact⟨by rw[Vl.cK,h1,h3],h2,h4⟩
   ·cases h
  ·cases h
def qk(e:E)(w:List UInt8)(k:Nat):Bool:=match e with| .list (x::l)=>decide (l.length+1=k)&&(x.at==w)|_=>false
theorem tH(e:E)(w:List UInt8)(k:Nat)(hk:1<=k):an Tryz.prog 151 [e.cE,.v (.string (mk w)),.v (.int .i64 (k:Int))] [] (bM (.v (.bool (qk e w k)))):=by
 refine Kz _ _ _ ((cU e).mpr trivial) ?_
 cases e with
 |atom s=>simp only[A2,E.cE,↓zq,zs,ae,zt,bM,qk];exact⟨by omega,fun h=>by omega,fun _=>trivial⟩
 |
  list l =>
  simp only[A2,E.cE,↓zq,zs,ae,zt,bM,rP]
  cases l with
  |nil=>exact⟨by simp,fun h=>by simp at h;omega,fun _=>rfl⟩
  |
   cons x l =>
   simp only[aA]
   refine⟨by simp,fun h=>?_,fun h=>?_⟩
   ·have:decide (l.length+1=k)=true:=by rw[decide_eq_true_eq];omega
    simp only[qk,this]
    cases x<;>simp[E.mj,E.cE,cb,pR,jM,dY,ub,toList_mk,E.at]
   ·have:decide (l.length+1=k)=false:=by rw[decide_eq_false_iff_not];omega
    simp only[qk,this];rfl
def ju:Option Vl->AV
 |some v=>v.cE
 |none=>.v (.pointer none)
end Go.Proofs.Trees
namespace Go.Proofs.Trees
open Go Go.VL Go.RowKit
theorem gm(v:Option Vl):LK.has .ptr (ju v)=True:=by cases v<;>simp[ju,aN,gx]
theorem zv:∀(e:E),e.ok->an Tryz.prog 139 [e.cE] [] (bM (ju (fN e)))
 |
  .atom s,hok=>by
  refine Lz _ ((cU _).mpr trivial) ?_
  have hd:=n9 (.atom s)
  have hlen:=lJ (.atom s)
  simp only[E.at]at hd
  simp only[II,↓zq,zs,ae,zt,bM,cU,er,hd,fN]
  refine⟨hlen,fun h=>?_,fun h=>⟨hlen,?_⟩⟩
  ·rw[if_pos h];rfl
  ·rw[if_neg h]
   refine aj (OV s) ?_
   simp only[↓zq,zs,ae,zt]
   refine⟨fun he=>⟨hlen,?_⟩,fun he=>?_⟩
   ·obtain⟨k,hk⟩:=bU.1 he
    obtain⟨h1,h2⟩:=tE hk
    rw[hk,h1];rfl
   ·have hn:fR s=none:=by cases hq:fR s<;>simp[hq]at he |-
    rw[hn]
    refine aj (tH (.atom s) [108] 2 (by omega)) ?_
    simp only[qk,↓zq,zs,ae,zf]
    refine⟨fun h=>(by cases h),fun _=>aj (tH (.atom s) [114] 2 (by omega)) ?_⟩
    simp only[qk,↓zq,zs,ae,zf]
    refine⟨fun h=>(by cases h),fun _=>aj (tH (.atom s) [102] 2 (by omega)) ?_⟩
    simp only[qk,↓zq,zs,ae,zf]
    refine⟨fun h=>(by cases h),fun _=>aj (tH (.atom s) [112] 3 (by omega)) ?_⟩
    simp only[qk,↓zq,zs,ae,zf]
    exact⟨fun h=>(by cases h),fun _=>rfl⟩
 |
  .list l,hok=>by
  refine Lz _ ((cU _).mpr trivial) ?_
  have hd:=n9 (.list l)
  have hlen:=lJ (.list l)
  have hlen2:∀{l:List E},((AV.v (.string (mk [])))::[AV.sl (E.mj l)]).length=2:=rfl
  simp only[E.at]at hd
  have he:fR []=none:=rfl
  simp only[II,↓zq,zs,ae,zt,bM,cU,er,hd]
  refine⟨hlen,fun h=>(by cases h),fun h=>⟨hlen,?_⟩⟩
  refine aj (OV []) ?_
  rw[he]
  simp only[↓zq,zs,ae,zt,zf,bA]
  refine⟨fun h=>(by cases h),fun _=>aj (tH (.list l) [108] 2 (by omega)) ?_⟩
  have hno:∀w:List UInt8,(∀x a,l≠[x,a])->qk (.list l) w 2=false:=by
   intro w h2
   match l,h2 with
   |[],_=>rfl
   |[x],_=>rfl
   |[x,a],h2=>exact absurd rfl (h2 x a)
   |x::y::z::l,_=>simp[qk]
  match l,hok,hno,hlen with
  |
   [x,a],hok,hno,hlen =>
   clear hno
   obtain⟨ok1,ok2,_⟩:=hok
   have e2:∀w:List UInt8,qk (.list [x,a]) w 2=(x.at==w):=fun w=>rfl
   have e3:qk (.list [x,a]) [112] 3=false:=rfl
   have hx:=n9 x
   have hxl:=lJ x
   rw[fN]
   simp only[e2,↓zq,zs,ae]
   refine⟨fun h1=>?_,fun h1=>aj (tH (.list [x,a]) [114] 2 (by omega)) ?_⟩
   ·simp only[E.cE,E.mj,toNat_one,↓zq,zs,ae,zt,cU,er]
    refine⟨by omega,by omega,by omega,aj (zv a ok2) ?_⟩
    cases hv:fN a with
    |none=>simp only[ju,↓zq,zs,ae,gm];exact⟨fun _=>trivial,fun h=>(by cases h)⟩
    |
     some v =>
     simp only[ju,↓zq,zs,ae,zt,aN,fB,hx,h1,cU,er]
     refine⟨fun h=>(by cases h),fun _=>⟨by omega,by omega,by omega,hxl,by simp,?_⟩⟩
     rfl
   ·simp only[e2,↓zq,zs,ae]
    refine⟨fun h2=>?_,fun h2=>aj (tH (.list [x,a]) [102] 2 (by omega)) ?_⟩
    ·simp only[E.cE,E.mj,toNat_one,↓zq,zs,ae,zt,cU,er]
     refine⟨by omega,by omega,by omega,aj (zv a ok2) ?_⟩
     cases hv:fN a with
     |none=>simp only[ju,↓zq,zs,ae,gm];exact⟨fun _=>trivial,fun h=>(by cases h)⟩
     |
      some v =>
      simp only[ju,↓zq,zs,ae,zt,aN,fB,hx,h2,cU,er]
      refine⟨fun h=>(by cases h),fun _=>⟨by omega,by omega,by omega,hxl,by simp,?_⟩⟩
      rfl
    ·simp only[e2,↓zq,zs,ae]
     refine⟨fun h3=>?_,fun h3=>aj (tH (.list [x,a]) [112] 3 (by omega)) ?_⟩
     ·simp only[E.cE,E.mj,toNat_one,↓zq,zs,ae,zt,cU,er]
      refine⟨by omega,by omega,by omega,aj (zv a ok2) ?_⟩
      cases hv:fN a with
      |none=>simp only[ju,↓zq,zs,ae,gm];exact⟨fun _=>trivial,fun h=>(by cases h)⟩
      |
       some v =>
       simp only[ju,↓zq,zs,ae,zt,aN,fB,hx,h3,cU,er]
       refine⟨fun h=>(by cases h),fun _=>⟨by omega,by omega,by omega,hxl,by simp,?_⟩⟩
       rfl
     ·rw[e3]
      simp only[↓zq,zs,ae]
      refine⟨fun h=>(by cases h),fun _=>?_⟩
      cases fN a with
      |none=>rfl
      |some v=>simp only[if_neg h1,if_neg h2,if_neg h3];rfl
  |
   [x,a,b],hok,hno,hlen =>
   obtain⟨ok1,ok2,ok3,_⟩:=hok
   have h2:=fun w=>hno w (fun x a h=>(by cases h))
   rw[h2]
   simp only[↓zq,zs,ae]
   refine⟨fun h=>(by cases h),fun _=>aj (tH (.list [x,a,b]) [114] 2 (by omega)) ?_⟩
   rw[h2]
   simp only[↓zq,zs,ae]
   refine⟨fun h=>(by cases h),fun _=>aj (tH (.list [x,a,b]) [102] 2 (by omega)) ?_⟩
   rw[h2]
   simp only[↓zq,zs,ae]
   refine⟨fun h=>(by cases h),fun _=>aj (tH (.list [x,a,b]) [112] 3 (by omega)) ?_⟩
   have e3:qk (.list [x,a,b]) [112] 3=(x.at==[112]):=rfl
   rw[e3,fN]
   simp only[↓zq,zs,ae]
   refine⟨fun h1=>?_,fun h1=>?_⟩
   ·rw[if_pos h1]
    simp only[E.cE,E.mj,toNat_one,bg,↓zq,zs,ae,zt,cU,er]
    refine⟨by omega,by omega,by omega,aj (zv a ok2) ?_⟩
    simp only[↓zq,zs,ae,gm,cU]
    refine⟨by omega,by omega,by omega,aj (zv b ok3) ?_⟩
    cases hv:fN a with
    |none=>cases hw:fN b<;>simp only[ju,↓zq,zs,ae,gm,aN]<;>exact⟨fun _=>trivial,fun h=>(by cases h)⟩
    |
     some v =>
     cases hw:fN b with
     |
      none =>
      simp only[ju,↓zq,zs,ae,gm,aN,fB]
      exact⟨fun h=>(by cases h),fun _=>⟨fun _=>trivial,fun h=>(by cases h)⟩⟩
     |
      some w =>
      simp only[ju,↓zq,zs,ae,aN,fB]
      refine⟨fun h=>(by cases h),fun _=>⟨fun h=>(by cases h),fun _=>?_⟩⟩
      refine aj (Am _ _ ((aN _).mpr trivial) ((aN _).mpr trivial)) ?_
      simp only[↓zq,zs,ae];rfl
   ·rw[if_neg h1];rfl
  |
   [],hok,hno,hlen =>
   have h2:=fun w=>hno w (fun x a h=>(by cases h))
   have e3:qk (.list []) [112] 3=false:=rfl
   rw[h2]
   simp only[↓zq,zs,ae]
   refine⟨fun h=>(by cases h),fun _=>aj (tH (.list []) [114] 2 (by omega)) ?_⟩
   rw[h2]
   simp only[↓zq,zs,ae]
   refine⟨fun h=>(by cases h),fun _=>aj (tH (.list []) [102] 2 (by omega)) ?_⟩
   rw[h2]
   simp only[↓zq,zs,ae]
   refine⟨fun h=>(by cases h),fun _=>aj (tH (.list []) [112] 3 (by omega)) ?_⟩
   rw[e3]
   simp only[↓zq,zs,ae]
   exact⟨fun h=>(by cases h),fun _=>rfl⟩
  |
   [x],hok,hno,hlen =>
   have h2:=fun w=>hno w (fun x a h=>(by cases h))
   have e3:qk (.list [x]) [112] 3=false:=rfl
   rw[h2]
   simp only[↓zq,zs,ae]
   refine⟨fun h=>(by cases h),fun _=>aj (tH (.list [x]) [114] 2 (by omega)) ?_⟩
   rw[h2]
   simp only[↓zq,zs,ae]
   refine⟨fun h=>(by cases h),fun _=>aj (tH (.list [x]) [102] 2 (by omega)) ?_⟩
   rw[h2]
   simp only[↓zq,zs,ae]
   refine⟨fun h=>(by cases h),fun _=>aj (tH (.list [x]) [112] 3 (by omega)) ?_⟩
   rw[e3]
   simp only[↓zq,zs,ae]
   exact⟨fun h=>(by cases h),fun _=>rfl⟩
  |
   x::y::z::w::l,hok,hno,hlen =>
   have h2:=fun w=>hno w (fun x a h=>(by cases h))
   have e3:qk (.list (x::y::z::w::l)) [112] 3=false:=by simp[qk]
   rw[h2]
   simp only[↓zq,zs,ae]
   refine⟨fun h=>(by cases h),fun _=>aj (tH (.list (x::y::z::w::l)) [114] 2 (by omega)) ?_⟩
   rw[h2]
   simp only[↓zq,zs,ae]
   refine⟨fun h=>(by cases h),fun _=>aj (tH (.list (x::y::z::w::l)) [102] 2 (by omega)) ?_⟩
   rw[h2]
   simp only[↓zq,zs,ae]
   refine⟨fun h=>(by cases h),fun _=>aj (tH (.list (x::y::z::w::l)) [112] 3 (by omega)) ?_⟩
   rw[e3]
   simp only[↓zq,zs,ae]
   exact⟨fun h=>(by cases h),fun _=>rfl⟩
def sD(s:List UInt8):Option Vl:=match rh s with
 |none=>none
 |
  some e=>match fN e with
  |none=>none
  |some v=>if v.nodes>200 then none else some v
theorem lD{s:List UInt8}{v:Vl}(h:sD s=some v):rh s=some v.cK/\v.ij 100/\v.nodes<=200:=by
 unfold sD at h
 split at h
 ·cases h
 ·rename_i e he
  split at h
  ·cases h
  ·rename_i w hw
   split at h
   ·cases h
   ·cases h
    obtain⟨h1,h2⟩:=kY e _ hw
    rw[h1]
    exact⟨he,h2,by omega⟩
theorem xj{e:E}{v:Vl}(h:fN e=some v):v.nodes<=e.sz:=by
 obtain⟨h1,_⟩:=kY e v h
 rw[<-nP,h1];exact BS e
theorem QC(s:List UInt8):an Tryz.prog 100 [.v (.string (mk s))] [] (bM (ju (sD s))):=by
 refine Sn _ ?_
 unfold Kt
 refine aj (K9 s) ?_
 unfold sD
 cases he:rh s with
 |none=>simp only[uL,↓zq,zs,ae,bM,ju];simp
 |
  some e =>
  obtain⟨h1,h2⟩:=nN he
  simp only[uL,↓zq,zs,ae,cU,er]
  refine⟨fun h=>(by cases h),fun _=>?_⟩
  refine aj (zv e h1) ?_
  cases hv:fN e with
  |none=>simp only[ju,↓zq,zs,ae,bM];simp
  |
   some v =>
   have hn:=xj hv
   simp only[ju,↓zq,zs,ae,aN,fB]
   refine⟨fun h=>(by cases h),fun _=>?_⟩
   refine aj (EP v (by omega)) ?_
   simp only[↓zq,zs,ae,bM]
   refine⟨fun h=>?_,fun h=>?_⟩
   ·rw[if_pos (by omega)]
   ·rw[if_neg (by omega)]
theorem zW:∀(e:E),e.ok->an Tryz.prog 103 [e.kF] [] (bM (.v (.bool (yL e))))
 |
  .atom s,hok=>by
  refine Aa _ _ ((bh).mpr trivial) ?_
  have hne:s≠[]:=hok
  simp only[xt,↓zq,zs,ae,zt,bM,yL]
  refine⟨fun _=>⟨fun h=>?_,fun h=>?_⟩,fun h=>absurd h hne⟩
  ·simp[h]
  ·refine aj (MS s) ?_
   have h':(s==[117])=false:=by simpa using h
   simp only[↓zq,zs,ae,h',Bool.false_or]
   congr 2
   rw[Ba]
   cases fR s with
   |none=>rfl
   |some k=>simp
 |
  .list [],hok=>by
  refine Aa _ _ ((cg _).mpr trivial) ?_
  simp only[xt,↓zq,zs,ae,zt,bM,yL]
  refine⟨fun h=>absurd rfl h,fun _=>?_⟩
  refine aj QE ?_
  simp[↓zq,zs,ae,zt]
 |
  .list [x],hok=>by
  refine Aa _ _ ((cg _).mpr trivial) ?_
  simp only[xt,↓zq,zs,ae,zt,bM,yL]
  refine⟨fun h=>absurd rfl h,fun _=>?_⟩
  refine aj (vf x _) ?_
  simp[↓zq,zs,ae,zt,E.bw]
 |
  .list (x::y::z::w::l),hok=>by
  refine Aa _ _ ((cg _).mpr trivial) ?_
  simp only[xt,↓zq,zs,ae,zt,bM,yL]
  refine⟨fun h=>absurd rfl h,fun _=>?_⟩
  refine aj (vf x _) ?_
  simp only[↓zq,zs,ae,zt,E.bw]
  refine⟨fun _=>⟨fun h=>by omega,fun _=>trivial⟩,fun _=>⟨fun _=>⟨fun h=>by omega,fun _=>trivial⟩,fun _=>⟨fun _=>⟨fun h=>by omega,fun _=>trivial⟩,fun _=>⟨fun _=>⟨fun h=>by omega,fun _=>trivial⟩,fun _=>trivial⟩⟩⟩⟩
 |
  .list [x,a],hok=>by
  refine Aa _ _ ((cg _).mpr trivial) ?_
  obtain⟨ok1,ok2,_⟩:=hok
  simp only[xt,↓zq,zs,ae,zt,bM,yL]
  refine⟨fun h=>absurd rfl h,fun _=>?_⟩
  refine aj (vf x _) ?_
  simp only[E.bw,toNat_one,bg,↓zq,zs,ae,zt,iR,gl,ja,mF,au]
  refine⟨fun h=>⟨fun _=>⟨by omega,?_⟩,fun h=>by omega⟩,fun h1=>⟨fun h=>⟨fun _=>⟨by omega,?_⟩,fun h=>by omega⟩,fun h2=>⟨fun h=>⟨fun _=>⟨by omega,?_⟩,fun h=>by omega⟩,fun h3=>⟨fun h=>⟨fun h=>by omega,fun _=>?_⟩,fun h=>?_⟩⟩⟩⟩
  ·refine aj (zW a ok2) ?_
   simp[↓zq,zs,ae,h]
  ·refine aj (zW a ok2) ?_
   simp[↓zq,zs,ae,h]
  ·refine aj (zW a ok2) ?_
   simp[↓zq,zs,ae,h]
  ·simp[h]
  ·simp[h1,h2,h3]
 |
  .list [x,a,b],hok=>by
  refine Aa _ _ ((cg _).mpr trivial) ?_
  obtain⟨ok1,ok2,ok3,_⟩:=hok
  simp only[xt,↓zq,zs,ae,zt,bM,yL]
  refine⟨fun h=>absurd rfl h,fun _=>?_⟩
  refine aj (vf x _) ?_
  simp only[E.bw,toNat_one,bg,↓zq,zs,ae,zt,iR,gl,ja,mF,au]
  refine⟨fun h=>⟨fun h=>by omega,fun _=>?_⟩,fun h1=>⟨fun h=>⟨fun h=>by omega,fun _=>?_⟩,fun h2=>⟨fun h=>⟨fun h=>by omega,fun _=>?_⟩,fun h3=>⟨fun h=>⟨fun _=>⟨by omega,?_⟩,fun h=>by omega⟩,fun h=>?_⟩⟩⟩⟩
  ·simp[h]
  ·simp[h]
  ·simp[h]
  ·refine aj (zW a ok2) ?_
   simp only[↓zq,zs,ae,h]
   refine⟨fun ha=>⟨by omega,aj (zW b ok3) ?_⟩,fun ha=>?_⟩
   ·simp[↓zq,zs,ae,ha]
   ·simp[ha]
  ·simp[h]
theorem Ej(s:List UInt8):an Tryz.prog 72 [.v (.string (mk s))] [] (jI ((sD s).map Vl.cK) (sD s).isSome):=by
 refine Si _ ?_
 unfold N4
 refine aP (Oh s) (jI.ne _ _ (fun h=>h)) ?_
 rintro r o ⟨c,d,hd,rfl,hh⟩
 simp only[↓zq,zs,ae,zt,bK,sD]
 refine⟨hd,fun h=>?_,fun h=>?_⟩
 ·obtain⟨e,he,hce⟩:=hh h
  obtain⟨hok,hsz⟩:=nN he
  rw[he,hce]
  refine aj (zW e hok) ?_
  simp only[↓zq,zs,ae]
  have hs:=py e
  refine⟨fun hi=>?_,fun hi=>?_⟩
  ·rw[hi]at hs
   obtain⟨v,hv⟩:=bU.1 hs
   obtain⟨h1,h2⟩:=kY e v hv
   refine aj (Sb e (by omega)) ?_
   simp only[↓zq,zs,ae,hv]
   have hnd:e.nd=v.nodes:=by rw[<-h1,nP]
   rw[hnd]
   refine⟨c,d,hd,?_,?_⟩
   ·rw[hce]
    by_cases h4:v.nodes>200
    ·rw[if_pos h4];exact congrArg (fun b=>AV.cG [e.kF,.v (.bool b)]) (decide_eq_false (show ¬((v.nodes:Nat):Int)<=200 by omega))
    ·rw[if_neg h4];exact congrArg (fun b=>AV.cG [e.kF,.v (.bool b)]) (decide_eq_true (show ((v.nodes:Nat):Int)<=200 by omega))
   ·split
    ·exact fun h=>by cases h
    ·exact fun _=>⟨e,by simp[h1],hce⟩
  ·rw[hi]at hs
   have hn:fN e=none:=by cases hq:fN e<;>simp[hq]at hs |-
   rw[hn]
   exact⟨c,d,hd,by rw[hce];rfl,fun h=>by cases h⟩
 ·have hn:rh s=none:=by cases hq:rh s<;>simp[hq]at h |-
  rw[hn]
  exact⟨c,d,hd,rfl,fun h=>by cases h⟩
end Go.Proofs.Trees
namespace Go.Proofs.Trees
open Go Go.VL Go.RowKit
inductive Fr where
 |mk (s:List UInt8) (e:E) (o:List Fr)
def Fr.nm:Fr->List UInt8| .mk s _ _=>s
def Fr.ex:Fr->E| .mk _ e _=>e
def Fr.out:Fr->List Fr| .mk _ _ o=>o
def names:List Fr->List (List UInt8)
 |[]=>[]
 |f::r=>names r++[f.nm]
def yh(e:E)(o:List Fr):Ty:=(cS e (names o)).getD .zero
def E.sp:E->AV
 | .atom _=>.v (.slice none 0 0)
 | .list l=>.sl (E.bw l)
theorem fI(e:E):e.ir=[.v (.string (mk e.at)),e.sp]:=by cases e<;>rfl
theorem dj(e:E):e.kF=.agg [.v (.string (mk e.at)),e.sp]:=by cases e<;>rfl
theorem aY(e:E):LK.has .sl e.sp=True:=by cases e<;>simp[E.sp,bh,cg]
mutual
def Fr.cells:Fr->List AV
 | .mk s e o=>[.v (.string (mk s)),.v (.string (mk e.at)),e.sp,.sl (ka o)]
def ka:List Fr->List (List AV)
 |[]=>[]
 |f::r=>ka r++[f.cells]
end
mutual
def Fr.cE:Fr->AV
 | .mk s e o=>.ptr [(yh e o).av,pn o]
def pn:List Fr->AV
 |[]=>gH
 |f::r=>.ptr [f.cE,pn r]
end
inductive WF:List Fr->Prop
 |nil:WF []
 |cons {s:List UInt8} {x a b:E} {t:Ty} {r:List Fr} (hs:dm s=true) (hok:(E.list [x,a,b]).ok) (hx:x.at=[114,101,99]) (ht:cS (.list [x,a,b]) (names r)=some t) (hf:cc t=false) (hr:WF r):WF (.mk s (.list [x,a,b]) r::r)
theorem kT:∀env:List Fr,(ka env).length=env.length
 |[]=>rfl
 |f::r=>by simp[ka,kT r]
theorem ez(env:List Fr):LK.has .ptr (pn env)=True:=by cases env<;>simp[pn,gx,cb]
theorem AZ(f:Fr):LK.has .ptr f.cE=True:=by cases f;simp[Fr.cE,cb]
def findF(s:List UInt8):List Fr->Option Fr
 |[]=>none
 |f::r=>if f.nm=s then some f else findF s r
def hd(e:E)(env:List Fr):E×List Fr:=match findF e.at env with|some f=>(f.ex,f.out)|none=>(e,env)
theorem kL{env:List Fr}(h:WF env):findF [] env=none:=by
 induction h with
 |nil=>rfl
 |
  @cons s x a b t r hs hok hx ht hf hr ih =>
  rw[findF,if_neg (show ¬(Fr.mk s (.list [x,a,b]) r).nm=[] from CG hs)];exact ih
theorem Ar{env:List Fr}(h:WF env){s:List UInt8}{f:Fr}(hf:findF s env=some f):dm s=true:=by
 induction h with
 |nil=>cases hf
 |
  cons hs hok hx ht hf' hr ih =>
  rw[findF]at hf
  split at hf
  ·rename_i e;exact e ▸ hs
  ·exact ih hf
theorem oI{env:List Fr}(h:WF env){s:List UInt8}{f:Fr}(hf:findF s env=some f):∃x a b t,f.ex=.list [x,a,b]/\(E.list [x,a,b]).ok/\x.at=[114,101,99]/\cS f.ex (names f.out)=some t/\cc t=false/\WF f.out/\f.out.length<env.length:=by
 induction h with
 |nil=>cases hf
 |
  cons hs hok hx ht hf' hr ih =>
  rw[findF]at hf
  split at hf
  ·cases hf;exact⟨_,_,_,_,rfl,hok,hx,ht,hf',hr,by simp[Fr.out]⟩
  ·obtain⟨x,a,b,t,h1,h2,h3,h4,h5,h6,h7⟩:=ih hf
   exact⟨x,a,b,t,h1,h2,h3,h4,h5,h6,by simp;omega⟩
theorem ko(s w:List UInt8)(ar:List (List UInt8)):∀i,i<=ar.length->bR s (ar++[w]) i=(bR s ar i).map (·+1)
 |0,_=>rfl
 |
  i+1,hi=>by
  have hlt:i<ar.length:=by omega
  have e:(ar++[w]).getD i []=ar.getD i []:=by simp[aa,List.getElem?_append_left hlt]
  rw[bR,bR,e,ko s w ar i (by omega)]
  split
  ·simp only[aq,aA,aG,cz,Option.some.injEq];omega
  ·rfl
theorem vQ(s:List UInt8)(f:Fr)(r:List Fr):bR s (names (f::r)) (names (f::r)).length=if f.nm=s then some 0 else(bR s (names r) (names r).length).map (·+1):=by
 have e:(names (f::r)).length=(names r).length+1:=by simp[names]
 rw[e,bR]
 have e2:(names (f::r)).getD (names r).length []=f.nm:=by simp[names,aa]
 rw[e2]
 split
 ·rw[e];simp
 ·rw[names,ko _ _ _ _ (au _)]
theorem pA(s:List UInt8):∀env:List Fr,bR s (names env) (names env).length=none/\findF s env=none\/∃(u:Nat) (f:Fr),bR s (names env) (names env).length=some u/\findF s env=some f/\env[u]?=some f
 |[]=>.inl ⟨rfl,rfl⟩
 |
  f::r=>by
  rw[vQ,findF]
  split
  ·exact .inr ⟨0,f,rfl,rfl,rfl⟩
  ·rcases pA s r with⟨h1,h2⟩|⟨u,g,h1,h2,h3⟩
   ·exact .inl ⟨by rw[h1];rfl,h2⟩
   ·exact .inr ⟨u+1,g,by rw[h1];rfl,h2,by simpa using h3⟩
def Ty.Pq:Ty->Bool
 | .bound _=>true
 |_=>false
theorem gp{e:E}{env:List Fr}{t:Ty}(hw:WF env)(ht:cS e (names env)=some t) :
 (t.Pq=false/\findF e.at env=none)\/∃(u:Nat) (f:Fr),t=.bound u/\findF e.at env=some f/\env[u]?=some f:=by
 cases e with
 |
  list l =>
  left
  refine⟨?_,kL hw⟩
  match l,ht with
  |
   [x,a,b],ht =>
   by_cases h0:x.at=[43]
   ·obtain⟨t1,t2,_,_,rfl⟩:=fL h0 ht;rfl
   ·by_cases h1:x.at=[42]
    ·obtain⟨t1,t2,_,_,rfl⟩:=fp h1 ht;rfl
    ·by_cases h2:x.at=[114,101,99]
     ·obtain⟨t1,_,_,rfl⟩:=dx h2 ht;rfl
     ·rw[jd _ h0 h1 h2]at ht;cases ht
  |[],ht=>cases ht
  |[_],ht=>cases ht
  |[_,_],ht=>cases ht
  |_::_::_::_::_,ht=>cases ht
 |
  atom s =>
  simp only[cS]at ht
  have hno:dm s=false->findF s env=none:=fun h=>by
   cases hq:findF s env with
   |none=>rfl
   |some f=>rw[Ar hw hq]at h;cases h
  split at ht
  ·rename_i h;cases ht;subst h;exact .inl ⟨rfl,hno rfl⟩
  ·split at ht
   ·rename_i h;cases ht;subst h;exact .inl ⟨rfl,hno rfl⟩
   ·split at ht
    ·rename_i h
     cases ht
     refine .inl ⟨rfl,hno ?_⟩
     cases hq:dm s with
     |false=>rfl
     |
      true =>
      obtain⟨c,r,rfl,h1,h2⟩:=lW h
      obtain⟨c',r',he,h3,h4⟩:=lW hq
      cases he;omega
    ·split at ht
     ·rcases pA s env with⟨h1,h2⟩|⟨u,f,h1,h2,h3⟩
      ·rw[h1]at ht;cases ht;exact .inl ⟨rfl,h2⟩
      ·rw[h1]at ht;cases ht;exact .inr ⟨u,f,rfl,h2,h3⟩
     ·cases ht
def eX(n:Nat):Vl->E×List Fr->Bool
 | .u,p=>match hd p.1 p.2 with|(.atom s,_)=>s==[49]|_=>false
 | .el k,p=>match hd p.1 p.2 with|(.atom s,_)=>!(s==[49])&&(gP s&&decide (k<n))|_=>false
 | .l w,p=>match hd p.1 p.2 with|(.list [x,a,b],o)=>(x.at==[43])&&eX n w (a,o)|_=>false
 | .r w,p=>match hd p.1 p.2 with|(.list [x,a,b],o)=>(x.at==[43])&&eX n w (b,o)|_=>false
 | .f w,p=>match hd p.1 p.2 with|(.list [x,a,b],o)=>(x.at==[114,101,99])&&eX n w (b,.mk a.at (.list [x,a,b]) o::o)|_=>false
 | .p v w,p=>match hd p.1 p.2 with|(.list [x,a,b],o)=>(x.at==[42])&&(eX n v (a,o)&&eX n w (b,o))|_=>false
theorem kh{e:E}{env:List Fr}(h:findF e.at env=none):hd e env=(e,env):=by rw[hd,h]
theorem rb{e:E}{env:List Fr}{f:Fr}(h:findF e.at env=some f):hd e env=(f.ex,f.out):=by rw[hd,h]
theorem pN{x a b:E}{o:List Fr}(h:WF o):hd (.list [x,a,b]) o=(.list [x,a,b],o):=kh (kL h)
theorem tY(n:Nat)(v:Vl){e e':E}{env o:List Fr}(h:hd e env=(e',o))(h':hd e' o=(e',o)):eX n v (e,env)=eX n v (e',o):=by
 cases v<;>simp only[eX,h,h']
theorem jx{x a b:E}{env:List Fr}{t:Ty}(hw:WF env)(hok:(E.list [x,a,b]).ok)(hx:x.at=[114,101,99])(ht:cS (.list [x,a,b]) (names env)=some t)(hf:cc t=false) :
 ∃t1,t=.rc t1/\cS b (names (.mk a.at (.list [x,a,b]) env::env))=some t1/\cc t1=false/\WF (.mk a.at (.list [x,a,b]) env::env):=by
 obtain⟨t1,hl,h1,rfl⟩:=dx hx ht
 exact⟨t1,rfl,h1,hf,.cons hl hok hx ht hf hw⟩
theorem zZ(a b env:AV)(n:Int)(s:ByteArray)(u:Int)(ha:LK.ptr.has a)(he:LK.ptr.has env):an Tryz.prog 107 [.agg [.ptr [.v (.int .u8 n),.v (.string s),.v (.int .i64 u),a,b],env]] [] (bM (.agg [a,env])):=by
 refine Sm _ _ ((cb _).mpr trivial) he ?_
 simp only[MB,↓zq,zs,ae,bM]
 exact⟨ha,by omega⟩
theorem zK(a b env:AV)(n:Int)(s:ByteArray)(u:Int)(hb:LK.ptr.has b)(he:LK.ptr.has env):an Tryz.prog 108 [.agg [.ptr [.v (.int .u8 n),.v (.string s),.v (.int .i64 u),a,b],env]] [] (bM (.agg [b,env])):=by
 refine SO _ _ ((cb _).mpr trivial) he ?_
 simp only[Jy,↓zq,zs,ae,bM]
 exact⟨hb,by omega⟩
theorem RU(t:Ty)(env:List Fr)(s:List UInt8)(e:E)(ht:yh e env=.rc t):an Tryz.prog 77 [.agg [(Ty.rc t).av,pn env]] [] (bM (.cG [.agg [t.av,pn (.mk s e env::env)],(Fr.mk s e env).cE])):=by
 refine PL _ _ ((aE _).mpr trivial) ((ez _).mpr trivial) ?_
 simp only[Ky,Ty.av,↓zq,zs,ae,aE,bM,pn,Fr.cE,ht]
 omega
theorem s4(env:List Fr)(i:Nat)(f:Fr)(h:env[i]?=some f):pn (env.drop i)=.ptr [f.cE,pn (env.drop (i+1))]:=by
 obtain⟨hlt,he⟩:=List.getElem?_eq_some_iff.1 h
 rw[aU hlt,he,pn]
theorem L9(env:List Fr)(u:Nat)(hu:u<env.length)(hl:env.length<1000000):∀(k i:Nat),i+k=u->Dx [pn (env.drop i),.v (.int .i64 (u:Int)),.v (.int .i64 (i:Int))] [] (gZ 1 [pn (env.drop u)] [])
 |
  0,i,hi=>by
  refine Eg _ _ _ ?_
  have:i=u:=by omega
  subst this
  simp only[BR,↓zq,zs,ae,ez]
  exact⟨fun h=>by omega,fun _=>by simp[gZ]⟩
 |
  k+1,i,hi=>by
  refine Eg _ _ _ ?_
  have hlt:i<env.length:=by omega
  have hg:env[i]?=some env[i]:=bp hlt
  have hd:=s4 env i _ hg
  rw[hd]
  simp only[BR,↓zq,zs,ae,ez]
  refine⟨fun _=>⟨by omega,?_⟩,fun h=>by omega⟩
  rw[bx i (by omega)]
  exact L9 env u hu hl k (i+1) (by omega)
theorem RO(env:List Fr)(u:Nat)(f:Fr)(hf:env[u]?=some f)(hl:env.length<1000000):an Tryz.prog 141 [.agg [(Ty.bound u).av,pn env]] [] (bM f.cE):=by
 refine OA _ _ ((aE _).mpr trivial) ((ez _).mpr trivial) ?_
 obtain⟨hlt,he⟩:=List.getElem?_eq_some_iff.1 hf
 simp only[H5,Ty.av,↓zq,zs,ae]
 refine⟨by omega,?_⟩
 have h:=L9 env u hlt hl u 0 (by omega)
 simp only[bf]at h
 refine cA h ?_
 rw[s4 env u f hf]
 simp only[↓zq,zs,ae,AZ,bM]
 omega
theorem Ep(k:Nat)(h:k<100):Lib.atoi (dd k)=some (k:Int):=by
 have e:∀k,k<100->dd k=if k<10 then [bj (48+k)]else [bj (48+k/10),bj (48+k%10)]:=by
  intro k hk
  by_cases h1:k<10
  ·rw[eH h1,if_pos h1]
  ·rw[fQ h1,eH (by omega),if_neg h1];rfl
 have key:∀k:Fin 100,Lib.atoi (if k.val<10 then [bj (48+k.val)]else [bj (48+k.val/10),bj (48+k.val%10)])=some (k.val:Int):=by decide +kernel
 rw[e k h];exact key ⟨k,h⟩
theorem PZ(k:Nat)(hk:k<100):an Tryz.prog 140 [.v (.string (mk (dd k)))] [] (bM (.cG [.v (.int .i64 (k:Int)),.v .nilIface])):=by
 have hl:=mQ 1000 k (by omega)
 have hl2:(dd k).length<=18:=by
  have e:(dd k).length<=2:=by
   by_cases h1:k<10
   ·rw[eH h1];simp
   ·rw[fQ h1,eH (by omega)];simp
  omega
 refine an.Q2 (xs:=[.string (mk (dd k))]) (v:=.tuple #[.int .i64 (k:Int),.nilIface]) ⟨qz,by kernel_rfl,by kernel_rfl,by kernel_rfl⟩ (fun M=>?_) fun w=>?_
 ·refine bF.cG _ _ [.int .i64 (k:Int),.nilIface] rfl fun i hi=>?_
  match i,hi with
  |0,_=>exact .v _ _
  |1,_=>exact .v _ _
 ·have:=Any.strconv_Atoi Tryz.Ea (mk (dd k)) (k:Int) (by rw[cM];exact hl2) (by
   have:(mk (dd k)).data.toList=dd k:=by simp[mk]
   rw[this];exact Ep k hk) w
  refine Calls.mono this fun e w' ⟨h1,t,h2⟩=>⟨h1,?_⟩
  subst h2
  refine⟨rfl,rfl,rfl,?_,fun b hb=>Lib.bytesWorld_at_old _ _ _ _ hb⟩
  simp[Lib.bytesWorld,World.freeze]
end Go.Proofs.Trees
namespace Go.Proofs.Trees
open Go Go.VL Go.RowKit
theorem fD{a b:Ty}(h:cc (.plus a b)=false):cc a=false/\cc b=false:=by simpa[cc]using h
theorem eY{a b:Ty}(h:cc (.times a b)=false):cc a=false/\cc b=false:=by simpa[cc]using h
theorem fK{e:E}{ar:List (List UInt8)}{t:Ty}(ht:cS e ar=some t)(hb:t.Pq=false)(hf:cc t=false) :
 (e=.atom [48]/\t=.zero)\/(e=.atom [49]/\t=.one)\/(∃s,e=.atom s/\t=.name s/\gP s=true/\s≠[48]/\s≠[49]) ∨
 (∃x a b t1 t2,e=.list [x,a,b]/\x.at=[43]/\t=.plus t1 t2/\cS a ar=some t1/\cS b ar=some t2) ∨
 (∃x a b t1 t2,e=.list [x,a,b]/\x.at=[42]/\t=.times t1 t2/\cS a ar=some t1/\cS b ar=some t2) ∨
 (∃x a b t1,e=.list [x,a,b]/\x.at=[114,101,99]/\t=.rc t1):=by
 cases e with
 |
  list l =>
  match l,ht with
  |
   [x,a,b],ht =>
   by_cases h0:x.at=[43]
   ·obtain⟨t1,t2,h1,h2,rfl⟩:=fL h0 ht
    exact .inr (.inr (.inr (.inl ⟨x,a,b,t1,t2,rfl,h0,rfl,h1,h2⟩)))
   ·by_cases h1:x.at=[42]
    ·obtain⟨t1,t2,h3,h2,rfl⟩:=fp h1 ht
     exact .inr (.inr (.inr (.inr (.inl ⟨x,a,b,t1,t2,rfl,h1,rfl,h3,h2⟩))))
    ·by_cases h2:x.at=[114,101,99]
     ·obtain⟨t1,_,_,rfl⟩:=dx h2 ht
      exact .inr (.inr (.inr (.inr (.inr ⟨x,a,b,t1,rfl,h2,rfl⟩))))
     ·rw[jd _ h0 h1 h2]at ht;cases ht
  |[],ht=>cases ht
  |[_],ht=>cases ht
  |[_,_],ht=>cases ht
  |_::_::_::_::_,ht=>cases ht
 |
  atom s =>
  simp only[cS]at ht
  split at ht
  ·rename_i h;cases ht;subst h;exact .inl ⟨rfl,rfl⟩
  ·rename_i h0
   split at ht
   ·rename_i h;cases ht;subst h;exact .inr (.inl ⟨rfl,rfl⟩)
   ·rename_i h1
    split at ht
    ·rename_i h;cases ht;exact .inr (.inr (.inl ⟨s,rfl,rfl,h,h0,h1⟩))
    ·split at ht
     ·rename_i h
      split at ht
      ·cases ht;cases hb
      ·cases ht;simp only[cc]at hf;rw[h]at hf;cases hf
     ·cases ht
def qs(n:Nat)(v:Vl)(e:E)(env:List Fr)(t:Ty):Prop:=an Tryz.prog 101 [.agg [t.av,pn env],v.cE,.v (.int .i64 (n:Int))] [] (bM (.v (.bool (eX n v (e,env)))))
structure Ask(e:E)(env:List Fr)(t:Ty):Prop where
 ok:e.ok
 wf:WF env
 ty:cS e (names env)=some t
 cl:cc t=false
theorem KU(n:Nat)(hn:n<=100)(v:Vl)(hv:v.ij 100)(IH:∀w:Vl,w.nodes<v.nodes->w.ij 100->∀e env t,Ask e env t->env.length+w.nodes<100000->qs n w e env t)
 (e:E) (env:List Fr) (t:Ty) (A:Ask e env t) (hl:env.length+v.nodes<100000) (hb:t.Pq=false) (hh:findF e.at env=none):qs n v e env t:=by
 have hhd:hd e env=(e,env):=kh hh
 unfold qs
 refine Ou _ _ _ _ ((aE _).mpr trivial) ((ez _).mpr trivial) ((aN _).mpr trivial) ?_
 rcases fK A.ty hb A.cl with⟨rfl,rfl⟩|⟨rfl,rfl⟩|⟨s,rfl,rfl,hp,h0,h1⟩|⟨x,a,b,t1,t2,rfl,hx,rfl,ha,hbb⟩|⟨x,a,b,t1,t2,rfl,hx,rfl,ha,hbb⟩|⟨x,a,b,t1,rfl,hx,rfl⟩
 ·have hp0:gP [48]=false:=rfl
  cases v<;>simp[AB,Ty.av,↓zq,zs,ae,bM,eX,hhd,hp0]
 ·have hp0:gP [49]=false:=rfl
  cases v<;>simp[AB,Ty.av,Vl.cE,↓zq,zs,ae,bM,eX,hhd,hp0]
 ·have h1':(s==[49])=false:=by simpa using h1
  cases v with
  |
   el k =>
   have hk:k<100:=hv
   simp only[AB,Ty.av,Vl.cE,↓zq,zs,ae,zt]
   refine⟨by omega,fun h=>by omega,fun _=>⟨fun _=>⟨by omega,fun h=>absurd rfl h,fun _=>⟨by omega,by omega,?_⟩⟩,fun h=>absurd rfl h⟩⟩
   have e1:(List.take ((dd k).length+1) (wI k)).drop (bG 1)=dd k:=by simp[wI]
   rw[e1]
   refine aj (PZ k hk) ?_
   simp only[↓zq,zs,ae,bM,eX,hhd,h1',hp,zf]
   refine⟨rfl,?_⟩
   congr 2
   rw[cy];simp
  |
   _ =>
   simp only[AB,Ty.av,Vl.cE,↓zq,zs,ae,zt,eX,hhd,h1',bM]
   exact⟨by omega,fun h=>by omega,fun _=>⟨fun _=>⟨by omega,fun _=>trivial,fun h=>by omega⟩,fun h=>absurd rfl h⟩⟩
 ·have hok:=A.ok
  obtain⟨ok1,ok2,ok3,_⟩:=hok
  obtain⟨f1,f2⟩:=fD A.cl
  cases v with
  |
   l w =>
   simp only[Vl.nodes]at hl
   simp only[AB,Ty.av,Vl.cE,↓zq,zs,ae]
   refine⟨by omega,fun h=>by omega,fun _=>⟨fun h=>by omega,fun _=>⟨fun h=>by omega,fun _=>⟨fun _=>⟨by omega,fun _=>?_,fun h=>absurd rfl h⟩,fun h=>absurd rfl h⟩⟩⟩⟩
   refine aj (zZ _ _ _ _ _ _ ((aE _).mpr trivial) ((ez _).mpr trivial)) ?_
   simp only[↓zq,zs,ae,bK,aE,ez,aN]
   refine⟨by omega,?_⟩
   refine aj (IH w (by simp only[Vl.nodes];omega) hv a env t1 ⟨ok2,A.wf,ha,f1⟩ (by omega)) ?_
   simp only[↓zq,zs,ae,bM,eX,hhd,hx]
   refine⟨fun h=>?_,fun h=>⟨by omega,fun h=>by omega,fun _=>?_⟩⟩
   ·simp[h]
   ·simp[h]
  |
   r w =>
   simp only[Vl.nodes]at hl
   simp only[AB,Ty.av,Vl.cE,↓zq,zs,ae]
   refine⟨by omega,fun h=>by omega,fun _=>⟨fun h=>by omega,fun _=>⟨fun h=>by omega,fun _=>⟨fun _=>⟨by omega,fun h=>by omega,fun _=>⟨by omega,fun _=>?_,fun h=>absurd rfl h⟩⟩,fun h=>absurd rfl h⟩⟩⟩⟩
   refine aj (zK _ _ _ _ _ _ ((aE _).mpr trivial) ((ez _).mpr trivial)) ?_
   simp only[↓zq,zs,ae,bK,aE,ez,aN]
   refine⟨by omega,?_⟩
   refine aj (IH w (by simp only[Vl.nodes];omega) hv b env t2 ⟨ok3,A.wf,hbb,f2⟩ (by omega)) ?_
   simp[↓zq,zs,ae,bM,eX,hhd,hx]
  |
   _ =>
   simp only[AB,Ty.av,Vl.cE,↓zq,zs,ae,eX,hhd,bM]
   exact⟨by omega,fun h=>by omega,fun _=>⟨fun h=>by omega,fun _=>⟨fun h=>by omega,fun _=>⟨fun _=>⟨by omega,fun h=>by omega,fun _=>⟨by omega,fun h=>by omega,fun _=>by simp[hx]⟩⟩,fun h=>absurd rfl h⟩⟩⟩⟩
 ·have hok:=A.ok
  obtain⟨ok1,ok2,ok3,_⟩:=hok
  obtain⟨f1,f2⟩:=eY A.cl
  cases v with
  |
   p v w =>
   simp only[Vl.nodes]at hl
   simp only[AB,Ty.av,Vl.cE,↓zq,zs,ae]
   refine⟨by omega,fun h=>by omega,fun _=>⟨fun h=>by omega,fun _=>⟨fun h=>by omega,fun _=>⟨fun h=>by omega,fun _=>⟨fun _=>⟨by omega,fun _=>?_,fun h=>absurd rfl h⟩,fun h=>absurd rfl h⟩⟩⟩⟩⟩
   refine aj (zZ _ _ _ _ _ _ ((aE _).mpr trivial) ((ez _).mpr trivial)) ?_
   simp only[↓zq,zs,ae,bK,aE,ez,aN]
   refine⟨by omega,?_⟩
   refine aj (IH v (by simp only[Vl.nodes];omega) hv.1 a env t1 ⟨ok2,A.wf,ha,f1⟩ (by omega)) ?_
   simp only[↓zq,zs,ae,bM,eX,hhd,hx]
   refine⟨fun h=>?_,fun h=>?_⟩
   ·refine aj (zK _ _ _ _ _ _ ((aE _).mpr trivial) ((ez _).mpr trivial)) ?_
    simp only[↓zq,zs,ae,bK,aE,ez,aN]
    refine⟨by omega,?_⟩
    refine aj (IH w (by simp only[Vl.nodes];omega) hv.2 b env t2 ⟨ok3,A.wf,hbb,f2⟩ (by omega)) ?_
    simp[↓zq,zs,ae,h]
   ·simp[h]
  |
   _ =>
   simp only[AB,Ty.av,Vl.cE,↓zq,zs,ae,eX,hhd,bM]
   exact⟨by omega,fun h=>by omega,fun _=>⟨fun h=>by omega,fun _=>⟨fun h=>by omega,fun _=>⟨fun h=>by omega,fun _=>⟨fun _=>⟨by omega,fun h=>by omega,fun _=>by simp[hx]⟩,fun h=>absurd rfl h⟩⟩⟩⟩⟩
 ·obtain⟨t1',he1,h1,f1,hw1⟩:=jx A.wf A.ok hx A.ty A.cl
  cases he1
  have hok:=A.ok
  obtain⟨ok1,ok2,ok3,_⟩:=hok
  have htD:yh (.list [x,a,b]) env=.rc t1:=by rw[yh,A.ty];rfl
  have hin:=RU t1 env a.at (.list [x,a,b]) htD
  simp only[Ty.av]at hin
  simp only[AB,Ty.av,↓zq,zs,ae]
  refine⟨by omega,fun h=>by omega,fun _=>⟨fun h=>by omega,fun _=>⟨fun h=>by omega,fun _=>⟨fun h=>by omega,fun _=>⟨fun h=>by omega,fun _=>⟨fun _=>?_,fun h=>absurd rfl h⟩⟩⟩⟩⟩⟩
  refine aj hin ?_
  simp only[↓zq,zs,ae,bK,aE,ez,AZ,aN,fB]
  cases v with
  |
   f w =>
   simp only[Vl.nodes]at hl
   simp only[Vl.cE,↓zq,zs,ae,aN]
   refine⟨by omega,fun _=>⟨by omega,?_⟩,fun h=>absurd rfl h⟩
   refine aj (IH w (by simp only[Vl.nodes];omega) hv b (.mk a.at (.list [x,a,b]) env::env) t1 ⟨ok3,hw1,h1,f1⟩ (by simp;omega)) ?_
   simp[↓zq,zs,ae,bM,eX,hhd,hx]
  |
   _ =>
   simp only[Vl.cE,↓zq,zs,ae,eX,hhd,bM]
   exact⟨by omega,fun h=>by omega,fun _=>by simp[hx]⟩
theorem MC(n:Nat)(hn:n<=100):∀(m:Nat) (v:Vl),v.nodes<m->v.ij 100->∀e env t,Ask e env t->env.length+v.nodes<100000->qs n v e env t
 |0,v,h,_=>by omega
 |
  m+1,v,h,hv=>by
  intro e env t A hl
  have IH:∀w:Vl,w.nodes<v.nodes->w.ij 100->∀e env t,Ask e env t->env.length+w.nodes<100000->qs n w e env t:=fun w hw hb=>MC n hn m w (by omega) hb
  rcases gp A.wf A.ty with⟨hb,hh⟩|⟨u,f,rfl,hh,hu⟩
  ·exact KU n hn v hv IH e env t A hl hb hh
  ·obtain⟨x,a,b,t',hfe,hok,hx,ht',hf',hwf,hlt⟩:=oI A.wf hh
   obtain⟨t1,hl1,h1,rfl⟩:=dx hx (hfe ▸ ht')
   have hvis:eX n v (e,env)=eX n v (f.ex,f.out):=tY n v (rb hh) (by rw[hfe];exact pN hwf)
   unfold qs
   refine Ou _ _ _ _ ((aE _).mpr trivial) ((ez _).mpr trivial) ((aN _).mpr trivial) ?_
   have hbd:=RO env u f hu (by omega)
   simp only[Ty.av]at hbd
   simp only[AB,Ty.av,↓zq,zs,ae]
   refine⟨by omega,fun h=>by omega,fun _=>⟨fun h=>by omega,fun _=>⟨fun _=>?_,fun h=>absurd rfl h⟩⟩⟩
   refine aj hbd ?_
   cases f with
   |
    mk s ee oo =>
    simp only[Fr.ex,Fr.out]at hfe ht' hf' hwf hvis hlt
    have htD:yh ee oo=.rc t1:=by rw[yh,ht'];rfl
    simp only[Fr.cE,htD,↓zq,zs,ae,bK,aE,ez]
    refine⟨by omega,?_⟩
    have hs:=KU n hn v hv IH ee oo (.rc t1) ⟨by rw[hfe];exact hok,hwf,ht',hf'⟩ (by omega) rfl (by rw[hfe];exact kL hwf)
    unfold qs at hs
    refine aj hs ?_
    simp[↓zq,zs,ae,bM,hvis]
end Go.Proofs.Trees
namespace Go.Proofs.Trees
open Go Go.VL Go.RowKit
theorem sO:∀(env:List Fr) (k:Nat) (f:Fr),env[k]?=some f->(ka env).getD (env.length-1-k) []=f.cells
 |[],k,f,h=>by cases h
 |
  g::r,0,f,h=>by
  cases h
  have:(g::r).length-1-0=(ka r).length:=by simp[kT]
  rw[this,ka];simp[aa]
 |
  g::r,k+1,f,h=>by
  have h':r[k]?=some f:=by simpa using h
  have hlt:=(List.getElem?_eq_some_iff.1 h').1
  have e:(g::r).length-1-(k+1)=r.length-1-k:=by simp;omega
  have:=sO r k f h'
  rw[e,ka,aa,List.getElem?_append_left (by rw[kT];omega),<-aa]
  exact this
theorem rG(f:Fr):f.cells=[.v (.string (mk f.nm)),.v (.string (mk f.ex.at)),f.ex.sp,.sl (ka f.out)]:=by cases f;rfl
theorem Ku(e:E)(env:List Fr)(hl:env.length<1000000):∀(j k:Nat),k+j=env.length->GH [.sl (ka env),.v (.int .i64 ((env.length:Int)-1-(k:Int)))] [.cells [.v (.string (mk e.at)),e.sp],.cells [.v (.string (mk [])),.v (.slice none 0 0)]]
 (nH (match findF e.at (env.drop k)with|some f=>(2,[.sl (ka f.out)],[.cells [.v (.string (mk f.ex.at)),f.ex.sp]])|none=>(1,[.sl (ka env)],[.cells [.v (.string (mk e.at)),e.sp],.cells [.v (.string (mk [])),.v (.slice none 0 0)]])))
 |
  0,k,hk=>by
  refine Om _ _ _ _ _ _ ?_
  have hd:env.drop k=[]:=bV (by omega)
  simp only[Fj,↓zq,zs,ae,aY,hd,findF]
  exact⟨fun h=>by omega,fun _=>by first|trivial|rfl⟩
 |
  j+1,k,hk=>by
  refine Om _ _ _ _ _ _ ?_
  have hlt:k<env.length:=by omega
  have hg:env[k]?=some env[k]:=bp hlt
  have hc:=sO env k _ hg
  have e1:((env.length:Int)-1-(k:Int))=((env.length-1-k:Nat):Int):=by omega
  have hdr:env.drop k=env[k]::env.drop (k+1):=aU hlt
  rw[hdr,findF,e1]
  simp only[Fj,bH,hc,rG,↓zq,zs,ae,zt,aY,kT,bK]
  refine⟨fun _=>⟨by omega,by omega,fun h=>⟨by omega,by omega,by omega,by omega,?_⟩,fun h=>?_⟩,fun h=>by omega⟩
  ·rw[if_pos h]
  ·rw[if_neg h]
   have e2:IntKind.wrap .i64 (((env.length-1-k:Nat):Int)-1)=(env.length:Int)-1-((k+1:Nat):Int):=by
    have:IntKind.wrap .i64 (((env.length-1-k:Nat):Int)-1)=((env.length-1-k:Nat):Int)-1:=wrap64 _ (by omega) (by omega)
    omega
   rw[e2]
   exact Ku e env hl j (k+1) (by omega)
theorem Qo(e:E)(env:List Fr)(hl:env.length<1000000):an Tryz.prog 125 [e.kF,.sl (ka env)] [] (bM (.cG [(hd e env).1.kF,.sl (ka (hd e env).2)])):=by
 rw[dj e]
 refine PV _ _ _ ((aY _).mpr trivial) ((cg _).mpr trivial) ?_
 simp only[Lu,↓zq,zs,ae,kT,bM]
 have h:=Ku e env hl env.length 0 (by omega)
 simp only[bf]at h
 rw[wrap64 _ (by omega) (by omega)]
 rw[show (env.length:Int)-1-((0:Nat):Int)=(env.length:Int)-1 by omega]at h
 refine fj h (fun ys o e'=>?_) (fun ys o e'=>?_)
 ·unfold hd
  cases hq:findF e.at env<;>rw[hq]at e'<;>cases e'
  simp only[↓zq,zs,ae,zt,aY,dj]
 ·unfold hd
  cases hq:findF e.at env<;>rw[hq]at e'<;>cases e'
  simp only[↓zq,zs,ae,zt,aY,dj]
theorem qp:∀env:List Fr,cD 4 (ka env)
 |[]=>fun c hc=>by cases hc
 |
  f::r=>fun c hc=>by
  simp only[ka,aO,aQ]at hc
  rcases hc with hc|rfl
  ·exact qp r c hc
  ·rw[rG];rfl
theorem RD(x a b:E)(env:List Fr)(hl:env.length<1000000):an Tryz.prog 128 [(E.list [x,a,b]).kF,.sl (ka env)] [] (bM (.cG [b.kF,.sl (ka (.mk a.at (.list [x,a,b]) env::env))])):=by
 refine PU _ _ _ ((cg _).mpr trivial) ((cg _).mpr trivial) ?_
 simp only[OI,E.bw,toNat_one,bg,↓zq,zs,ae,zt,iR,gl,ja,mF,au,kT,bM,aT]
 refine⟨by omega,⟨qp env,by omega⟩,by omega,by omega,⟨fun c hc=>(by simp at hc;rw[hc];rfl),by omega⟩,?_⟩
 simp only[ka,rG,Fr.nm,Fr.ex,Fr.out,E.at,E.sp,E.bw]
theorem CV(s:ByteArray)(e:E):bK [.str,.sl] [.v (.string s),e.sp] 0=True:=by apply eq_true;simp[bK,dY,aY]
theorem Ho{e:E}{env:List Fr}{t:Ty}(A:Ask e env t):∃e' o t',hd e env=(e',o)/\Ask e' o t'/\t'.Pq=false/\hd e' o=(e',o)/\o.length<=env.length:=by
 rcases gp A.wf A.ty with⟨hb,hh⟩|⟨u,f,rfl,hh,hu⟩
 ·exact⟨e,env,t,kh hh,A,hb,kh hh,au _⟩
 ·obtain⟨x,a,b,t',hfe,hok,hx,ht',hf',hwf,hlt⟩:=oI A.wf hh
  refine⟨f.ex,f.out,t',rb hh,⟨by rw[hfe];exact hok,hwf,ht',hf'⟩,?_,?_,by omega⟩
  ·obtain⟨t1,_,_,rfl⟩:=dx hx (hfe ▸ ht');rfl
  ·rw[hfe];exact pN hwf
def vh:Vl->List UInt8
 | .l _=>[108]
 | .r _=>[114]
 | .f _=>[102]
 | .p _ _=>[112]
 |_=>[]
theorem AY(v:Vl):an Tryz.prog 86 [v.cK.kF] [] (bM (.v (.string (mk (vh v))))):=by
 cases v with
 |u=>exact Ao _ _ ((bh).mpr trivial) (by simp)
 |el k=>exact Ao _ _ ((bh).mpr trivial) (by simp)
 |l v=>exact vf _ _
 |r v=>exact vf _ _
 |f v=>exact vf _ _
 |p v w=>exact vf _ _
theorem TH(v:Vl)(hv:v.ij 100):v.cK.at=(match v with| .u=>[117]| .el k=>wI k|_=>[])/\Ba v.cK.at=(match v with| .el k=>(k:Int)|_=>-1):=by
 cases v with
 |el k=>exact⟨rfl,Fi k hv⟩
 |u=>exact⟨rfl,rfl⟩
 |_=>exact⟨rfl,rfl⟩
theorem zQ(n:Nat)(hn:n<=100):∀(m:Nat) (v:Vl),v.nodes<m->v.ij 100->∀e env t,Ask e env t->env.length+v.nodes<100000->an Tryz.prog 94 [e.kF,.sl (ka env),v.cK.kF,.v (.int .i64 (n:Int))] [] (bM (.v (.bool (eX n v (e,env)))))
 |0,v,hm,hv,e,env,t,A,hl=>by omega
 |
  m+1,v,hm,hv,e,env,t,A,hl=>by
  obtain⟨e',o,t',hhd,A',hb,hh',hlen⟩:=Ho A
  rw[tY n v hhd hh',dj e,dj v.cK]
  refine QI _ _ _ _ _ _ ((aY _).mpr trivial) ((cg _).mpr trivial) ((aY _).mpr trivial) ?_
  have hf:=Qo e env (by omega)
  rw[dj e,hhd]at hf
  have hvh:=AY v
  rw[dj]at hvh
  unfold Mu
  refine aj hf ?_
  simp only[dj e',↓zq,zs,ae,zt,aY,CV,bM]
  rcases fK A'.ty hb A'.cl with⟨rfl,rfl⟩|⟨rfl,rfl⟩|⟨s,rfl,rfl,hp,h0,h1⟩|⟨x,a,b,t1,t2,rfl,hx,rfl,ha,hbb⟩|⟨x,a,b,t1,t2,rfl,hx,rfl,ha,hbb⟩|⟨x,a,b,t1,rfl,hx,rfl⟩
  ·refine⟨fun _=>⟨fun h=>by simp[E.at]at h,fun _=>aj (FT _) ?_⟩,fun h=>by simp[E.at]at h⟩
   have hp0:gP (E.atom [48]).at=false:=rfl
   have hp1:gP [48]=false:=rfl
   cases v<;>simp[↓zq,zs,ae,hp0,eX,hh',hp1]
  ·refine⟨fun _=>⟨fun _=>?_,fun h=>absurd rfl h⟩,fun h=>by simp[E.at]at h⟩
   have hp1:gP [49]=false:=rfl
   cases v<;>simp[eX,hh',hp1,Vl.cK,E.at]
  ·have hne:s≠[]:=A'.ok
   have h1':(s==[49])=false:=by simpa using h1
   refine⟨fun _=>⟨fun h=>absurd h h1,fun _=>aj (FT _) ?_⟩,fun h=>absurd h hne⟩
   have hat:(E.atom s).at=s:=rfl
   simp only[hat,hp,↓zq,zs,ae]
   refine⟨fun _=>aj (MS _) ?_,fun h=>by cases h⟩
   simp only[↓zq,zs,ae]
   rw[wrap64 _ (by omega) (by omega)]
   refine aj (Bs _ _ _) ?_
   simp only[↓zq,zs,ae,CM,(TH v hv).2]
   cases v with
   |
    el k =>
    simp only[eX,hh',h1',hp,zf]
    congr 2
    rw[cy];simp;omega
   |_=>simp[eX,hh',h1']
  ·have hok:=A'.ok
   obtain⟨ok1,ok2,ok3,_⟩:=hok
   obtain⟨f1,f2⟩:=fD A'.cl
   refine⟨fun h=>absurd rfl h,fun _=>aj (vf x [a,b]) ?_⟩
   simp only[↓zq,zs,ae]
   refine aj hvh ?_
   rw[hx]
   cases v with
   |
    l w =>
    simp only[Vl.nodes]at hl
    simp only[vh,Vl.cK,E.sp,E.bw,toNat_one,bg,↓zq,zs,ae,zt,iR,gl,ja,mF,au]
    refine⟨by simp,fun _=>⟨by omega,by omega,aj (zQ n hn m w (by simp only[Vl.nodes]at hm;omega) hv a o t1 ⟨ok2,A'.wf,ha,f1⟩ (by omega)) ?_⟩,fun h=>absurd rfl h⟩
    simp[↓zq,zs,ae,eX,hh',hx]
   |
    r w =>
    simp only[Vl.nodes]at hl
    simp only[vh,Vl.cK,E.sp,E.bw,toNat_one,bg,↓zq,zs,ae,zt,iR,gl,ja,mF,au]
    refine⟨by simp,fun h=>by simp at h,fun _=>⟨fun _=>⟨by omega,by omega,aj (zQ n hn m w (by simp only[Vl.nodes]at hm;omega) hv b o t2 ⟨ok3,A'.wf,hbb,f2⟩ (by omega)) ?_⟩,fun h=>absurd rfl h⟩⟩
    simp[↓zq,zs,ae,eX,hh',hx]
   |_=>simp[vh,↓zq,zs,ae,zt,eX,hh',hx]
  ·have hok:=A'.ok
   obtain⟨ok1,ok2,ok3,_⟩:=hok
   obtain⟨f1,f2⟩:=eY A'.cl
   refine⟨fun h=>absurd rfl h,fun _=>aj (vf x [a,b]) ?_⟩
   simp only[↓zq,zs,ae]
   refine aj hvh ?_
   rw[hx]
   cases v with
   |
    p w z =>
    simp only[Vl.nodes]at hl
    simp only[vh,Vl.cK,E.sp,E.bw,toNat_one,bg,↓zq,zs,ae,zt,iR,gl,ja,mF,au]
    refine⟨by simp,fun h=>by simp at h,fun _=>⟨fun h=>by simp at h,fun _=>⟨fun _=>⟨by omega,by omega,aj (zQ n hn m w (by simp only[Vl.nodes]at hm;omega) hv.1 a o t1 ⟨ok2,A'.wf,ha,f1⟩ (by omega)) ?_⟩,fun h=>absurd rfl h⟩⟩⟩
    simp only[↓zq,zs,ae,eX,hh',hx]
    refine⟨fun h=>⟨by omega,by omega,aj (zQ n hn m z (by simp only[Vl.nodes]at hm;omega) hv.2 b o t2 ⟨ok3,A'.wf,hbb,f2⟩ (by omega)) ?_⟩,fun h=>?_⟩
    ·simp[↓zq,zs,ae,h]
    ·simp[h]
   |_=>simp[vh,↓zq,zs,ae,zt,eX,hh',hx]
  ·obtain⟨t1',he1,h1,f1,hw1⟩:=jx A'.wf A'.ok hx A'.ty A'.cl
   cases he1
   have hok:=A'.ok
   obtain⟨ok1,ok2,ok3,_⟩:=hok
   refine⟨fun h=>absurd rfl h,fun _=>aj (vf x [a,b]) ?_⟩
   simp only[↓zq,zs,ae]
   refine aj hvh ?_
   rw[hx]
   cases v with
   |
    f w =>
    simp only[Vl.nodes]at hl
    simp only[vh,Vl.cK,E.sp,E.bw,toNat_one,bg,↓zq,zs,ae,zt,iR,gl,ja,mF,au]
    refine⟨by simp,fun h=>by simp at h,fun _=>⟨fun h=>by simp at h,fun _=>⟨fun h=>by simp at h,fun _=>⟨fun _=>aj (RD x a b o (by omega)) ?_,fun h=>absurd rfl h⟩⟩⟩⟩
    simp only[↓zq,zs,ae,yQ,DI]
    refine⟨by omega,aj (zQ n hn m w (by simp only[Vl.nodes]at hm;omega) hv b (.mk a.at (.list [x,a,b]) o::o) t1 ⟨ok3,hw1,h1,f1⟩ (by simp;omega)) ?_⟩
    simp[↓zq,zs,ae,eX,hh',hx]
   |_=>simp[vh,↓zq,zs,ae,zt,eX,hh',hx]
theorem RN(n:Nat)(hn:n<=100)(v:Vl)(hv:v.ij 100)(e:E)(env:List Fr)(t:Ty)(A:Ask e env t)(hl:env.length+v.nodes<100000):an Tryz.prog 94 [e.kF,.sl (ka env),v.cK.kF,.v (.int .i64 (n:Int))] [] (bM (.v (.bool (eX n v (e,env))))):=zQ n hn (v.nodes+1) v (by omega) hv e env t A hl
end Go.Proofs.Trees
namespace Go.Proofs.Trees
open Go Go.VL Go.RowKit
theorem JX(l:List (List UInt8))(a:AV)(ha:cm a l)(s:List UInt8)(hl:l.length<1000000):∀(k i:Nat),i+k=l.length->GG [a,.v (.string (mk s)),.v (.int .i64 (i:Int))] []
 (nH (if s∈l.drop i then(2,[.v (.bool true)],[])else(1,[],[])))
 |
  0,i,hi=>by
  refine Nz _ _ _ ?_
  have hd:l.drop i=[]:=bV (by omega)
  simp only[Ih,↓zq,zs,ae,hd,ha.len]
  exact⟨ha.1,ha.1,fun h=>by omega,fun _=>by simp[nH]⟩
 |
  k+1,i,hi=>by
  have hlt:i<l.length:=by omega
  have hdr:l.drop i=l.getD i []::l.drop (i+1):=by
   rw[aU hlt];simp[aa,hlt]
  refine Nz _ _ _ ?_
  simp only[Ih,↓zq,zs,ae,zt,ha.len,ha.idx hlt]
  refine⟨ha.1,ha.1,fun _=>⟨⟨ha.1,by omega,by omega⟩,by omega,fun h=>?_,fun h=>?_⟩,fun h=>by omega⟩
  ·rw[hdr,h];simp[nH]
  ·rw[bx i (by omega)]
   have:=JX l a ha s hl k (i+1) (by omega)
   have e:s∈l.drop i↔s∈l.drop (i+1):=by
    rw[hdr,aL];exact⟨fun q=>q.resolve_left (fun q=>h q.symm),.inr⟩
   simp only[e];exact this
theorem xD(l:List (List UInt8))(a:AV)(ha:cm a l)(s:List UInt8)(hl:l.length<1000000):an Tryz.prog 118 [a,.v (.string (mk s))] [] (bM (.v (.bool (decide (s∈l))))):=by
 refine Rc _ _ ha.1 ?_
 unfold Mi
 refine fj (JX l a ha s hl l.length 0 (by omega)) (fun ys o e=>?_) (fun ys o e=>?_)
 ·simp only[bf]at e
  split at e<;>cases e
  rename_i h
  simp[↓zq,zs,ae,bM,h]
 ·simp only[bf]at e
  split at e<;>cases e
  rename_i h
  simp[↓zq,zs,ae,bM,h]
theorem wZ(l:List (List UInt8))(a:AV)(ha:cm a l)(s:List UInt8)(hl:l.length<1000000):an Tryz.prog 52 [a,.v (.string (mk s))] [] (df (.vec 0) [.vec 1 (bE (l++[s]))]):=by
 refine Qz _ _ ha.1 ?_
 simp only[On,↓zq,zs,ae,ha.2,df,aT]
 have:(bE l).length=l.length:=by simp[bE]
 refine⟨⟨ha.1,kj l,by omega⟩,⟨fun c hc=>(by simp at hc;rw[hc];rfl),by omega⟩,?_⟩
 first|exact⟨rfl,by rw[E2]⟩|rw[E2]
def kf:E->List (List UInt8)->List (List UInt8)->List (List UInt8)
 | .atom s,bd,l=>if s=[48]\/s=[49]\/s∈bd\/s∈l then l else l++[s]
 | .list [x,a,b],bd,l=>if x.at=[114,101,99]then kf b (bd++[a.at]) l else kf b bd (kf a bd l)
 | .list _,_,l=>l
theorem gd:∀(e:E) (bd l:List (List UInt8)),(kf e bd l).length<=l.length+e.sz
 | .atom s,bd,l=>by rw[kf];split<;>simp[E.sz]
 | .list [],bd,l=>by simp[kf]
 | .list [_],bd,l=>by simp[kf]
 | .list [_,_],bd,l=>by simp[kf]
 | .list (_::_::_::_::_),bd,l=>by simp[kf]
 |
  .list [x,a,b],bd,l=>by
  rw[kf]
  simp only[E.sz,E.jm]
  split
  ·have:=gd b (bd++[a.at]) l;omega
  ·have:=gd a bd l
   have:=gd b bd (kf a bd l)
   omega
theorem DS:∀(e:E) (bd l:List (List UInt8)) (a:AV),e.ok->j4 e=true->cm a bd->bd.length+l.length+e.sz<100000->an Tryz.prog 84 [e.kF,a,.vec 0] [.vec 1 (bE l)] (df (.vec 1) [.dead,.vec 1 (bE (kf e bd l))])
 |
  .atom s,bd,l,a,hok,hty,ha,hl=>by
  simp only[E.sz]at hl
  refine zx _ _ _ _ ((bh).mpr trivial) ha.1 ?_
  have hne:s≠[]:=hok
  have hll:(bE l).length=l.length:=by simp[bE]
  simp only[w9,↓zq,zs,ae,zt,df,kf]
  refine⟨fun _=>⟨fun h=>?_,fun h=>⟨fun h1=>?_,fun h1=>?_⟩⟩,fun h=>absurd h hne⟩
  ·rw[if_pos (.inl h)]
  ·rw[if_pos (.inr (.inl h1))]
  ·refine aj (xD bd a ha s (by omega)) ?_
   simp only[↓zq,zs,ae]
   refine⟨fun h2=>?_,fun h2=>aj (xD l _ (.of l) s (by omega)) ?_⟩
   ·rw[if_pos (.inr (.inr (.inl h2)))]
   ·simp only[↓zq,zs,ae]
    refine⟨fun h3=>?_,fun h3=>⟨⟨fun c hc=>(by simp at hc;rw[hc];rfl),by omega⟩,?_⟩⟩
    ·rw[if_pos (.inr (.inr (.inr h3)))]
    ·rw[E2,if_neg]
     rintro(q|q|q|q)
     ·exact h q
     ·exact h1 q
     ·exact h2 q
     ·exact h3 q
 | .list [],_,_,_,_,h,_,_=>by cases h
 | .list [_],_,_,_,_,h,_,_=>by cases h
 | .list [_,_],_,_,_,_,h,_,_=>by cases h
 | .list (_::_::_::_::_),_,_,_,_,h,_,_=>by cases h
 |
  .list [x,y,z],bd,l,a,hok,hty,ha,hl=>by
  simp only[E.sz,E.jm]at hl
  obtain⟨ok1,ok2,ok3,_⟩:=hok
  refine zx _ _ _ _ ((cg _).mpr trivial) ha.1 ?_
  simp only[w9,E.bw,toNat_one,bg,↓zq,zs,ae,zt,iR,gl,ja,mF,au,df]
  refine⟨fun h=>absurd rfl h,fun _=>aj (vf x [y,z]) ?_⟩
  simp only[↓zq,zs,ae,zt]
  have hyl:=gd y bd l
  rw[j4]at hty
  refine⟨fun h=>⟨by omega,by omega,by omega,aV (wZ bd a ha y.at (by omega)) ?_⟩,fun h=>⟨by omega,by omega,?_⟩⟩
  ·have hz:j4 z=true:=by
    rw[if_neg (by rw[h];decide),if_neg (by rw[h];decide),if_pos h]at hty
    simp only[aw]at hty;exact hty.2
   simp only[↓zq,zs,ae,Ob.es,aJ]
   refine⟨dJ _,?_⟩
   refine aV (DS z (bd++[y.at]) l _ ok3 hz (.of _) (by simp;omega)) ?_
   simp only[↓zq,zs,ae]
   rw[kf,if_pos h]
  ·have hyz:j4 y=true/\j4 z=true:=by
    split at hty
    ·simpa using hty
    ·split at hty
     ·simpa using hty
     ·cases hty
   refine aV (DS y bd l a ok2 hyz.1 ha (by omega)) ?_
   simp only[↓zq,zs,ae]
   refine aV (DS z bd (kf y bd l) a ok3 hyz.2 ha (by omega)) ?_
   simp only[↓zq,zs,ae]
   rw[kf,if_neg h]
theorem km{s:List UInt8}(h:gP s=true):dm s=false:=by
 cases hq:dm s with
 |false=>rfl
 |
  true =>
  obtain⟨c,r,rfl,h1,h2⟩:=lW h
  obtain⟨c',r',he,h3,h4⟩:=lW hq
  cases he;omega
theorem mR(s:List UInt8)(ar:List (List UInt8)):∀i,i<=ar.length->(bR s ar i=none↔s∉ar.take i)
 |0,_=>by simp[bR]
 |
  i+1,hi=>by
  have hlt:i<ar.length:=by omega
  have e:ar.getD i []=ar[i]:=by simp[aa,hlt]
  have e2:s∈ar.take (i+1)↔s∈ar.take i\/s=ar[i]:=by
   rw[show ar.take (i+1)=ar.take i++[ar[i]] from (List.take_append_getElem hlt).symm]
   simp only[aO,aQ]
  rw[bR,e,e2]
  by_cases h:ar[i]=s
  ·rw[if_pos h]
   exact⟨fun h=>(by cases h),fun h'=>absurd (.inr h.symm) h'⟩
  ·rw[if_neg h,mR s ar i (by omega)]
   exact⟨fun h1 h2=>h2.elim h1 (fun h3=>h h3.symm),fun h1 h2=>h1 (.inl h2)⟩
theorem lI:∀(e:E) (ar l:List (List UInt8)) (t:Ty),cS e ar=some t->(∀w,w∈ar->dm w=true)->(kf e ar l).any dm=(l.any dm||cc t)
 |
  .atom s,ar,l,t,h,har=>by
  simp only[cS]at h
  rw[kf]
  split at h
  ·rename_i h0;cases h;rw[if_pos (.inl h0)];simp[cc]
  ·rename_i h0
   split at h
   ·rename_i h1;cases h;rw[if_pos (.inr (.inl h1))];simp[cc]
   ·rename_i h1
    split at h
    ·rename_i h2
     cases h
     have hn:=km h2
     simp only[cc,hn]
     split
     ·simp
     ·simp[hn]
    ·split at h
     ·rename_i h2 h3
      have hlo:=mR s ar ar.length (au _)
      rw[List.take_length]at hlo
      cases hq:bR s ar ar.length with
      |
       some u =>
       rw[hq]at h;cases h
       have hm:s∈ar:=Classical.byContradiction fun hm=>by rw[hlo.2 hm]at hq;cases hq
       rw[if_pos (.inr (.inr (.inl hm)))];simp[cc]
      |
       none =>
       rw[hq]at h;cases h
       have hm:=hlo.1 hq
       simp only[cc,h3,Bool.or_true]
       split
       ·rename_i hh
        rcases hh with q|q|q|q
        ·exact absurd q h0
        ·exact absurd q h1
        ·exact absurd q hm
        ·rw[cr];exact⟨s,q,h3⟩
       ·simp[h3]
     ·cases h
 | .list [],_,_,_,h,_=>by cases h
 | .list [_],_,_,_,h,_=>by cases h
 | .list [_,_],_,_,_,h,_=>by cases h
 | .list (_::_::_::_::_),_,_,_,h,_=>by cases h
 |
  .list [x,a,b],ar,l,t,h,har=>by
  rw[kf]
  by_cases h0:x.at=[43]
  ·obtain⟨t1,t2,e1,e2,rfl⟩:=fL h0 h
   rw[if_neg (by rw[h0];decide),lI b ar _ t2 e2 har,lI a ar l t1 e1 har,cc,Bool.or_assoc]
  ·by_cases h1:x.at=[42]
   ·obtain⟨t1,t2,e1,e2,rfl⟩:=fp h1 h
    rw[if_neg (by rw[h1];decide),lI b ar _ t2 e2 har,lI a ar l t1 e1 har,cc,Bool.or_assoc]
   ·by_cases h2:x.at=[114,101,99]
    ·obtain⟨t1,hl,e1,rfl⟩:=dx h2 h
     rw[if_pos h2,lI b _ l t1 e1 (fun w hw=>by
      simp only[aO,aQ]at hw
      rcases hw with hw|rfl
      ·exact har w hw
      ·exact hl),cc]
    ·rw[jd _ h0 h1 h2]at h;cases h
def jG(s:List UInt8):Option E:=match wF s with
 |none=>none
 |some e=>if(kf e [] []).any dm=true then none else some e
theorem Bi{s:List UInt8}:wR s=match jG s with|none=>none|some e=>cS e []:=by
 unfold wR jG
 rw[uI]
 cases he:wF s with
 |none=>rfl
 |
  some e =>
  obtain⟨h1,h2,h3⟩:=p8 he
  have hs:=i7 e []
  rw[h2]at hs
  obtain⟨t,ht⟩:=bU.1 hs
  have ha:=lI e [] [] t ht (fun w hw=>by cases hw)
  simp only[ht,sP,ha,List.any_nil,Bool.false_or]
  cases hf:cc t<;>simp[ht]
theorem ia{s:List UInt8}{e:E}(h:jG s=some e):∃t,wR s=some t/\Ask e [] t/\j4 e=true/\e.sz<=8000/\t.atoms<=400/\rh s=some e:=by
 have h0:=h
 unfold jG at h
 split at h
 ·cases h
 ·rename_i e' he
  split at h
  ·cases h
  ·rename_i hn
   cases h
   obtain⟨h1,h2,h3⟩:=p8 he
   obtain⟨hok,hsz⟩:=nN h1
   have hs:=i7 e []
   rw[h2]at hs
   obtain⟨t,ht⟩:=bU.1 hs
   have ha:=lI e [] [] t ht (fun w hw=>by cases hw)
   rw[ha]at hn
   refine⟨t,by rw[Bi,h0];exact ht,⟨hok,.nil,ht,by simpa using hn⟩,h2,hsz,?_,h1⟩
   rw[<-jP e [] t ht];exact h3
theorem nk{s:List UInt8}(h:jG s=none):wR s=none:=by rw[Bi,h]
theorem MX(e:E)(l:List (List UInt8))(hl:l.length<1000000):∀(k i:Nat),i+k=l.length->Gt [.v (.int .i64 (i:Int))] [.cells [.v (.string (mk [])),.v (.slice none 0 0)],.cells [.v (.string (mk e.at)),e.sp],.vec 1 (bE l)]
 (nH (if(l.drop i).any dm=true then(2,[.v (.bool false)],[.cells [.v (.string (mk e.at)),e.sp]])else(1,[],[.cells [.v (.string (mk [])),.v (.slice none 0 0)],.cells [.v (.string (mk e.at)),e.sp]])))
 |
  0,i,hi=>by
  refine MJ _ _ _ _ _ _ ?_
  have hd:l.drop i=[]:=bV (by omega)
  have hll:(bE l).length=l.length:=by simp[bE]
  simp only[F0,↓zq,zs,ae,hd,hll,aY]
  exact⟨fun h=>by omega,fun _=>by simp[nH]⟩
 |
  k+1,i,hi=>by
  have hlt:i<l.length:=by omega
  have hll:(bE l).length=l.length:=by simp[bE]
  have hdr:l.drop i=l.getD i []::l.drop (i+1):=by
   rw[aU hlt];simp[aa,hlt]
  have hg:=(cm.of l).idx hlt
  simp only[fE]at hg
  refine MJ _ _ _ _ _ _ ?_
  simp only[F0,↓zq,zs,ae,zt,hll,hg,aY]
  refine⟨fun _=>⟨by omega,by omega,aj (Ib _) ?_⟩,fun h=>by omega⟩
  simp only[↓zq,zs,ae,hdr,List.any_cons]
  refine⟨fun h=>?_,fun h=>?_⟩
  ·rw[h];simp[nH]
  ·rw[h,bx i (by omega)]
   simp only[Bool.false_or]
   exact MX e l hl k (i+1) (by omega)
theorem GC(s:List UInt8):an Tryz.prog 61 [.v (.string (mk s))] [] (jI (jG s) (jG s).isSome):=by
 refine RZ _ ?_
 unfold Jt
 refine aP (FJ s) (jI.ne _ _ (fun h=>h)) ?_
 rintro r o ⟨c,d,hd,rfl,hh⟩
 have hhas:bK [.str,.sl] [.v (.string (mk c)),d] 0:=by simp[bK,dY,hd]
 simp only[↓zq,zs,ae,zt]
 refine⟨hhas,fun h=>?_,fun h=>?_⟩
 ·have hn:wF s=none:=by cases hq:wF s<;>simp[hq]at h |-
  unfold jG
  rw[hn]
  exact⟨c,d,hd,rfl,fun h=>by cases h⟩
 ·obtain⟨e,he,hce⟩:=hh h
  obtain⟨h1,h2,h3⟩:=p8 he
  obtain⟨hok,hsz⟩:=nN h1
  have hce':=hce
  rw[dj]at hce'
  simp only[AV.agg.injEq,List.cons.injEq,AV.v.injEq,Value.string.injEq,and_true]at hce'
  obtain⟨hc1,rfl⟩:=hce'
  have hc2:=mk_inj hc1
  subst hc2
  rw[<-dj]
  refine aV (DS e [] [] _ hok h2 (.of []) (by simp;omega)) ?_
  have hfl:=gd e [] []
  simp only[↓zq,zs,ae]
  have hLS:=MX e (kf e [] []) (by simp at hfl;omega) (kf e [] []).length 0 (by omega)
  simp only[bf]at hLS
  unfold jG
  rw[he]
  refine fj hLS (fun ys o e'=>?_) (fun ys o e'=>?_)
  ·split at e'<;>cases e'
   rename_i hn
   simp only[↓zq,zs,ae,aY,if_neg hn]
   exact⟨e.at,e.sp,hd,rfl,fun _=>⟨e,rfl,(dj e).symm⟩⟩
  ·split at e'<;>cases e'
   rename_i hn
   simp only[↓zq,zs,ae,aY,if_pos hn]
   exact⟨e.at,e.sp,hd,rfl,fun h=>by cases h⟩
def nJ(s v:List UInt8)(n:Int):Option Vl:=match jG s,sD v with
 |some e,some w=>if(0<=n/\n<=100)/\eX n.toNat w (e,[])=true then some w else none
 |_,_=>none
theorem pw{s v:List UInt8}{n:Int}{w:Vl}(h:nJ s v n=some w):∃e t m,jG s=some e/\sD v=some w/\wR s=some t/\Ask e [] t/\n=(m:Nat)/\m<=100/\eX m w (e,[])=true:=by
 unfold nJ at h
 split at h
 ·rename_i e w' he hw
  split at h
  ·rename_i hh
   cases h
   obtain⟨t,h1,h2,_⟩:=ia he
   exact⟨e,t,n.toNat,he,hw,h1,h2,by omega,by omega,hh.2⟩
  ·cases h
 ·cases h
theorem MA(s v:List UInt8)(n:Int):an Tryz.prog 71 [.v (.string (mk s)),.v (.string (mk v)),.v (.int .i64 n)] [] (bM (.cG [ik (wR s),ju (nJ s v n)])):=by
 refine RC _ _ _ ?_
 unfold Nx
 refine aj (KX s) ?_
 simp only[↓zq,zs,ae,iF]
 refine aj (QC v) ?_
 simp only[↓zq,zs,ae,gm,bM]
 unfold nJ
 cases he:jG s with
 |none=>rw[nk he];cases sD v<;>simp[ik,ju,↓zq,zs,ae]
 |
  some e =>
  obtain⟨t,h1,h2,h3,h4,h5,_⟩:=ia he
  rw[h1]
  cases hv:sD v with
  |none=>simp only[ik,ju,aE,fO,↓zq,zs,ae];exact⟨fun h=>(by cases h),fun _=>⟨fun _=>trivial,fun h=>(by cases h)⟩⟩
  |
   some w =>
   obtain⟨h6,h7,h8⟩:=lD hv
   simp only[ik,ju,aE,fO,aN,fB,↓zq,zs,ae]
   refine⟨fun h=>(by cases h),fun _=>⟨fun h=>(by cases h),fun _=>⟨fun h=>?_,fun h=>⟨fun h'=>?_,fun h'=>?_⟩⟩⟩⟩
   ·rw[if_neg (by omega)]
   ·rw[if_neg (by omega)]
   ·obtain⟨m,rfl⟩:∃m:Nat,n=(m:Int):=⟨n.toNat,by omega⟩
    have hi:=MC m (by omega) (w.nodes+1) w (by omega) h7 e [] t h2 (by simp;omega)
    unfold qs at hi
    refine aj hi ?_
    simp only[↓zq,zs,ae,bH]
    refine⟨fun hq=>?_,fun hq=>?_⟩
    ·rw[if_neg (by rw[hq];simp)]
    ·rw[if_pos ⟨by omega,hq⟩]
theorem Ap(s v:List UInt8)(n:Int):an Tryz.prog 68 [.v (.string (mk s)),.v (.string (mk v)),.v (.int .i64 n)] [] (bM (.v (.bool (nJ s v n).isSome))):=by
 refine QZ _ _ _ ?_
 unfold LC
 refine aP (GC s) (jI.ne _ _ (fun h=>h)) ?_
 rintro r o ⟨c,d,hd,rfl,hh⟩
 have hhas:bK [.str,.sl] [.v (.string (mk c)),d] 0:=by simp[bK,dY,hd]
 simp only[↓zq,zs,ae,zt]
 refine⟨hhas,?_⟩
 refine aP (Ej v) (jI.ne _ _ (fun h=>by cases hq:sD v<;>simp[hq]at h |-)) ?_
 rintro r o ⟨c',d',hd',rfl,hh'⟩
 have hhas':bK [.str,.sl] [.v (.string (mk c')),d'] 0:=by simp[bK,dY,hd']
 simp only[↓zq,zs,ae,zt,bM]
 refine⟨hhas',fun h=>⟨fun h2=>?_,fun h2=>?_⟩,fun h=>?_⟩
 ·obtain⟨e,he,hce⟩:=hh h
  obtain⟨t,h1,hA,h3,h4,h5,_⟩:=ia he
  obtain⟨w,hw⟩:=bU.1 h2
  obtain⟨e2,he2,hce2⟩:=hh' h2
  rw[hw]at he2
  cases he2
  obtain⟨h6,h7,h8⟩:=lD hw
  refine aj (Bs _ _ _) ?_
  simp only[↓zq,zs,ae,CM,nJ,he,hw]
  refine⟨fun hq=>?_,fun hq=>?_⟩
  ·have hq':0<=n/\n<=100:=by simpa using hq
   obtain⟨m,rfl⟩:∃m:Nat,n=(m:Int):=⟨n.toNat,by omega⟩
   rw[hce,hce2]
   have:=RN m (by omega) w h7 e [] t hA (by simp;omega)
   rw[show ka []=[] from rfl]at this
   refine aj this ?_
   simp only[↓zq,zs,ae,bH]
   by_cases hb:eX m w (e,[])=true
   ·rw[if_pos ⟨hq',hb⟩,hb];rfl
   ·rw[if_neg (fun h=>hb h.2)]
    rw[Bool.not_eq_true]at hb
    rw[hb];rfl
  ·have hq':¬(0<=n/\n<=100):=by simpa using hq
   rw[if_neg (fun h=>hq' h.1)];rfl
 ·have hn:sD v=none:=by cases hq:sD v<;>simp[hq]at h2 |-
  unfold nJ
  rw[hn];cases jG s<;>rfl
 ·have hn:jG s=none:=by cases hq:jG s<;>simp[hq]at h |-
  unfold nJ
  rw[hn];rfl
end Go.Proofs.Trees
namespace Go.Proofs.Trees
open Go Go.VL Go.RowKit
inductive Tg where
 |nm (s:List UInt8)
 |bd (k:Nat)
 deriving DecidableEq
def Tg.up:Tg->Tg
 | .nm s=>.nm s
 | .bd k=>.bd (k+1)
def eF:Ty->Tg->Bool
 | .name s,.nm s'=>decide (s=s')
 | .bound u,.bd k=>decide (u=k)
 |_,_=>false
abbrev Hl:=Vl×Vl
def iH(g:Vl->Vl)(l:List Hl):List Hl:=l.map fun h=>(g h.1,h.2)
def iV(f:Ty->Tg->Vl->List Hl)(tg:Tg):Ty->Vl->List Hl
 | .plus a _,.l w=>iH .l (f a tg w)
 | .plus _ b,.r w=>iH .r (f b tg w)
 | .times a b,.p x y=>iH (fun c=>.l (.p c y)) (f a tg x)++iH (fun c=>.r (.p x c)) (f b tg y)
 | .rc a,.f w=>iH (fun c=>.f (.l c)) (f a tg.up w)++(f a (.bd 0) w).flatMap fun h=>iH (fun c=>.f (.r (.p h.1 c))) (f (.rc a) tg h.2)
 |_,_=>[]
def dC:Nat->Ty->Tg->Vl->List Hl
 |0,_,_,_=>[]
 |n+1,t,tg,v=>if eF t tg=true then [(.u,v)]else iV (dC n) tg t v
def stuck:Ty->Vl->Bool
 | .plus _ _,.l _=>false
 | .plus _ _,.r _=>false
 | .times _ _,.p _ _=>false
 | .rc _,.f _=>false
 |_,_=>true
def ck(t:Ty)(tg:Tg)(v:Vl):List Hl:=dC v.nodes t tg v
theorem cY{g:Vl->Vl}{l:List Hl}{h:Hl}(hm:h∈iH g l):∃k,k∈l/\h=(g k.1,k.2):=by
 obtain⟨k,h1,h2⟩:=bP.1 hm
 exact⟨k,h1,h2.symm⟩
theorem iN{f g:Hl->List Hl}:∀{l:List Hl},(∀h,h∈l->f h=g h)->l.flatMap f=l.flatMap g
 |[],_=>rfl
 |h::l,hl=>by rw[List.flatMap_cons,List.flatMap_cons,hl h ak,iN (l:=l) fun k hk=>hl k (al _ hk)]
theorem fh:∀(n:Nat) (t:Ty) (tg:Tg) (v:Vl) (h:Hl),h∈dC n t tg v->h.2.nodes<=v.nodes/\h.1.nodes+4*h.2.nodes<=4*v.nodes+1
 |0,t,tg,v,h,hm=>by simp[dC]at hm
 |
  n+1,t,tg,v,h,hm=>by
  unfold dC at hm
  split at hm
  ·simp only[aQ]at hm
   subst hm
   simp only[Vl.nodes];omega
  ·unfold iV at hm
   split at hm
   ·obtain⟨k,h1,rfl⟩:=cY hm
    have:=fh n _ _ _ k h1
    simp only[Vl.nodes];omega
   ·obtain⟨k,h1,rfl⟩:=cY hm
    have:=fh n _ _ _ k h1
    simp only[Vl.nodes];omega
   ·rcases aO.1 hm with hm|hm
    ·obtain⟨k,h1,rfl⟩:=cY hm
     have:=fh n _ _ _ k h1
     simp only[Vl.nodes];omega
    ·obtain⟨k,h1,rfl⟩:=cY hm
     have:=fh n _ _ _ k h1
     simp only[Vl.nodes];omega
   ·rcases aO.1 hm with hm|hm
    ·obtain⟨k,h1,rfl⟩:=cY hm
     have:=fh n _ _ _ k h1
     simp only[Vl.nodes];omega
    ·obtain⟨k,h1,h2⟩:=List.mem_flatMap.1 hm
     obtain⟨k2,h3,rfl⟩:=cY h2
     have:=fh n _ _ _ k h1
     have:=fh n _ _ _ k2 h3
     simp only[Vl.nodes];omega
   ·simp at hm
theorem ib:∀(n m:Nat) (t:Ty) (tg:Tg) (v:Vl),v.nodes<=n->v.nodes<=m->dC n t tg v=dC m t tg v
 |0,m,t,tg,v,h,_=>by have:=dr v;omega
 |n+1,0,t,tg,v,_,h=>by have:=dr v;omega
 |
  n+1,m+1,t,tg,v,hn,hm=>by
  rw[dC,dC]
  split
  ·rfl
  ·unfold iV
   split
   ·simp only[Vl.nodes]at hn hm;rw[ib n m _ _ _ (by omega) (by omega)]
   ·simp only[Vl.nodes]at hn hm;rw[ib n m _ _ _ (by omega) (by omega)]
   ·simp only[Vl.nodes]at hn hm;rw[ib n m _ _ _ (by omega) (by omega),ib n m _ _ _ (by omega) (by omega)]
   ·rename_i a w
    simp only[Vl.nodes]at hn hm;rw[ib n m _ _ _ (by omega) (by omega),ib n m _ (.bd 0) _ (by omega) (by omega)]
    congr 1
    apply iN
    intro h hh
    have:=(fh _ _ _ _ _ hh).1
    rw[ib n m _ _ _ (by omega) (by omega)]
   ·rfl
theorem ou{n:Nat}(t:Ty)(tg:Tg){v:Vl}(h:v.nodes<=n):dC n t tg v=ck t tg v:=ib _ _ _ _ _ h (au _)
theorem mP{t:Ty}{tg:Tg}(v:Vl)(h:eF t tg=true):ck t tg v=[(.u,v)]:=by
 have:=dr v
 unfold ck
 cases e:v.nodes with
 |zero=>omega
 |succ n=>rw[dC,if_pos h]
theorem nn(a b:Ty)(tg:Tg)(w:Vl):ck (.plus a b) tg (.l w)=iH .l (ck a tg w):=by
 unfold ck;rw[show (Vl.l w).nodes=w.nodes+1 by simp[Vl.nodes];omega,dC,if_neg (by simp[eF])];rfl
theorem nf(a b:Ty)(tg:Tg)(w:Vl):ck (.plus a b) tg (.r w)=iH .r (ck b tg w):=by
 unfold ck;rw[show (Vl.r w).nodes=w.nodes+1 by simp[Vl.nodes];omega,dC,if_neg (by simp[eF])];rfl
theorem ng(a b:Ty)(tg:Tg)(x y:Vl):ck (.times a b) tg (.p x y)=iH (fun c=>.l (.p c y)) (ck a tg x)++iH (fun c=>.r (.p x c)) (ck b tg y):=by
 rw[ck,show (Vl.p x y).nodes=(x.nodes+y.nodes)+1 by simp[Vl.nodes];omega,dC,if_neg (by simp[eF])]
 rw[iV,ou a tg (by omega),ou b tg (by omega)]
theorem ns(a:Ty)(tg:Tg)(w:Vl):ck (.rc a) tg (.f w)=iH (fun c=>.f (.l c)) (ck a tg.up w)++(ck a (.bd 0) w).flatMap fun h=>iH (fun c=>.f (.r (.p h.1 c))) (ck (.rc a) tg h.2):=by
 rw[ck,show (Vl.f w).nodes=w.nodes+1 by simp[Vl.nodes];omega,dC,if_neg (by simp[eF])]
 rw[iV,ou a tg.up (au _),ou a (.bd 0) (au _)]
 congr 1
 apply iN
 intro h hh
 have:=(fh _ _ _ _ _ hh).1
 rw[ou (.rc a) tg this]
theorem dU{t:Ty}{tg:Tg}{v:Vl}(h:eF t tg=false)(h2:stuck t v=true):ck t tg v=[]:=by
 unfold ck
 cases e:v.nodes with
 |zero=>rfl
 |
  succ n =>
  rw[dC,if_neg (by rw[h];simp)]
  unfold iV
  split<;>first|(simp[stuck]at h2;done)|rfl
theorem iE{t:Ty}{tg:Tg}{v:Vl}{h:Hl}(hm:h∈ck t tg v):h.2.nodes<=v.nodes/\h.1.nodes+4*h.2.nodes<=4*v.nodes+1:=fh _ _ _ _ _ hm
theorem gT(n:Nat):∀(m:Nat) (t:Ty) (tg:Tg) (v:Vl) (h:Hl),v.ij n->h∈dC m t tg v->h.1.ij n/\h.2.ij n
 |0,t,tg,v,h,hv,hm=>by simp[dC]at hm
 |
  m+1,t,tg,v,h,hv,hm=>by
  unfold dC at hm
  split at hm
  ·simp only[aQ]at hm
   subst hm
   exact⟨trivial,hv⟩
  ·unfold iV at hm
   split at hm
   ·obtain⟨k,h1,rfl⟩:=cY hm
    exact(fun q=>gT n m _ _ _ k q h1) hv
   ·obtain⟨k,h1,rfl⟩:=cY hm
    exact(fun q=>gT n m _ _ _ k q h1) hv
   ·rcases aO.1 hm with hm|hm
    ·obtain⟨k,h1,rfl⟩:=cY hm
     obtain⟨q1,q2⟩:=gT n m _ _ _ k hv.1 h1
     exact⟨⟨q1,hv.2⟩,q2⟩
    ·obtain⟨k,h1,rfl⟩:=cY hm
     obtain⟨q1,q2⟩:=gT n m _ _ _ k hv.2 h1
     exact⟨⟨hv.1,q1⟩,q2⟩
   ·rcases aO.1 hm with hm|hm
    ·obtain⟨k,h1,rfl⟩:=cY hm
     exact(fun q=>gT n m _ _ _ k q h1) hv
    ·obtain⟨k,h1,h2⟩:=List.mem_flatMap.1 hm
     obtain⟨k2,h3,rfl⟩:=cY h2
     obtain⟨q1,q2⟩:=(fun q=>gT n m _ _ _ k q h1) hv
     obtain⟨q3,q4⟩:=gT n m _ _ _ k2 q2 h3
     exact⟨⟨q1,q3⟩,q4⟩
   ·simp at hm
def kQ(l:List Hl):Nat:=(l.map fun h=>h.2.nodes).sum
theorem rD(l r:List Hl):kQ (l++r)=kQ l+kQ r:=by simp[kQ]
theorem pf(g:Vl->Vl)(l:List Hl):kQ (iH g l)=kQ l:=by simp[kQ,iH,Function.comp_def]
def ky(f:Tg->Nat)(T:List Tg):Nat:=(T.map f).sum
theorem oG(f g:Tg->Nat):∀T:List Tg,ky (fun x=>f x+g x) T=ky f T+ky g T
 |[]=>rfl
 |x::T=>by have:=oG f g T;simp only[ky,bI,List.sum_cons]at this |-;omega
theorem yw{f g:Tg->Nat}:∀{T:List Tg},(∀x,x∈T->f x<=g x)->ky f T<=ky g T
 |[],_=>au _
 |
  x::T,h=>by
  have:=yw (T:=T) fun y hy=>h y (al _ hy)
  have:=h x ak
  simp only[ky,bI,List.sum_cons]at *;omega
theorem pP{f:Tg->Nat}:∀{T:List Tg},(∀x,x∈T->f x=0)->ky f T=0
 |[],_=>rfl
 |
  x::T,h=>by
  have:=pP (T:=T) fun y hy=>h y (al _ hy)
  have:=h x ak
  simp only[ky,bI,List.sum_cons]at *;omega
theorem tF(g:Hl->Tg->Nat)(T:List Tg):∀l:List Hl,ky (fun x=>(l.map fun h=>g h x).sum) T=(l.map fun h=>ky (g h) T).sum
 |[]=>pP fun _ _=>rfl
 |
  h::l=>by
  have:=tF g T l
  simp only[bI,List.sum_cons]
  rw[oG,this]
theorem s9(f:Hl->List Hl):∀l:List Hl,kQ (l.flatMap f)=(l.map fun h=>kQ (f h)).sum
 |[]=>rfl
 |h::l=>by rw[List.flatMap_cons,rD,s9 f l];simp
theorem Cv{f g:Hl->Nat}:∀{l:List Hl},(∀x,x∈l->f x<=g x)->(l.map f).sum<=(l.map g).sum
 |[],_=>au _
 |
  x::l,h=>by
  have:=Cv (l:=l) fun y hy=>h y (al _ hy)
  have:=h x ak
  simp only[bI,List.sum_cons]at *;omega
theorem Cy{t:Ty}{x y:Tg}(h:eF t x=true)(h':eF t y=true):x=y:=by
 cases t<;>cases x<;>cases y<;>simp[eF]at h h'<;>simp_all
theorem za{t:Ty}(n:Nat):∀{T:List Tg},T.Nodup->ky (fun x=>if eF t x=true then n else 0) T<=n
 |[],_=>dQ _
 |
  x::T,h=>by
  obtain⟨h1,h2⟩:=List.nodup_cons.1 h
  have ih:=za (t:=t) n h2
  by_cases hx:eF t x=true
  ·have:ky (fun x=>if eF t x=true then n else 0) T=0:=pP fun y hy=>by
    rw[if_neg fun hy'=>h1 (by rw[Cy hx hy'];exact hy)]
   simp only[ky,bI,List.sum_cons]at *
   rw[if_pos hx];omega
  ·simp only[ky,bI,List.sum_cons]at *
   rw[if_neg hx];omega
theorem By{T:List Tg}(h:T.Nodup):(Tg.bd 0::T.map Tg.up).Nodup:=by
 refine List.nodup_cons.2 ⟨fun hm=>?_,?_⟩
 ·obtain⟨x,_,e⟩:=bP.1 hm
  cases x<;>simp[Tg.up]at e
 ·refine List.Pairwise.map _ (fun a b hab e=>hab ?_) h
  cases a<;>cases b<;>simp[Tg.up]at e<;>simp_all
theorem apart:∀(n:Nat) (v:Vl),v.nodes<=n->∀(t:Ty) (T:List Tg),T.Nodup->ky (fun x=>kQ (ck t x v)) T<=v.nodes
 |0,v,h=>by have:=dr v;omega
 |
  n+1,v,hn=>by
  intro t T hT
  have base:∀(hno:∀x,eF t x=false->ck t x v=[]),ky (fun x=>kQ (ck t x v)) T<=v.nodes:=fun hno=>by
   refine Nat.le_trans (yw fun x _=>?_) (za (t:=t) v.nodes hT)
   cases e:eF t x with
   |true=>rw[mP v e];simp[kQ]
   |false=>rw[hno x e];simp[kQ]
  cases hm:stuck t v with
  |true=>exact base fun x hx=>dU hx hm
  |
   false =>
   unfold stuck at hm
   split at hm
   ·rename_i a b w
    simp only[Vl.nodes]at hn |-
    simp only[nn,pf]
    have:=apart n w (by omega) a T hT
    omega
   ·rename_i a b w
    simp only[Vl.nodes]at hn |-
    simp only[nf,pf]
    have:=apart n w (by omega) b T hT
    omega
   ·rename_i a b x y
    simp only[Vl.nodes]at hn |-
    simp only[ng,rD,pf]
    rw[oG]
    have:=apart n x (by omega) a T hT
    have:=apart n y (by omega) b T hT
    omega
   ·rename_i a w
    simp only[Vl.nodes]at hn |-
    simp only[ns,rD,pf,s9]
    rw[oG,tF]
    have h1:=apart n w (by omega) a _ (By hT)
    simp only[ky,bI,List.sum_cons,List.map_map]at h1
    have h2:((ck a (.bd 0) w).map fun h=>ky (fun x=>kQ (ck (.rc a) x h.2)) T).sum<=kQ (ck a (.bd 0) w):=Cv fun h hh=>by
     have:=(iE hh).1
     exact apart n h.2 (by omega) (.rc a) T hT
    simp only[ky,Function.comp_def]at h1 h2 |-
    omega
   ·cases hm
theorem sg(t:Ty)(tg:Tg)(v:Vl):kQ (ck t tg v)<=v.nodes:=by
 have:=apart v.nodes v (au _) t [tg] (by simp)
 simpa[ky]using this
theorem lf:∀l:List Hl,l.length<=kQ l
 |[]=>dQ _
 |
  h::l=>by
  have:=lf l
  have:=dr h.2
  simp only[kQ,bI,List.sum_cons,aA]at *;omega
theorem mW(t:Ty)(tg:Tg)(v:Vl):(ck t tg v).length<=v.nodes:=Nat.le_trans (lf _) (sg t tg v)
end Go.Proofs.Trees
namespace Go.Proofs.Trees
open Go Go.VL Go.RowKit
def gk(ar:List (List UInt8))(k:Nat):List UInt8:=ar.getD (ar.length-1-k) []
theorem fH{s:List UInt8}{ar:List (List UInt8)}:∀(i u:Nat),i<=ar.length->bR s ar i=some u->u<ar.length/\gk ar u=s
 |0,u,_,h=>by cases h
 |
  i+1,u,hi,h=>by
  rw[bR]at h
  split at h
  ·rename_i e
   cases h
   refine⟨by omega,?_⟩
   rw[gk,show ar.length-1-(ar.length-1-i)=i by omega];exact e
  ·exact fH i u (by omega) h
def vg:Ty->Tg->Bool
 | .plus a b,tg=>vg a tg||vg b tg
 | .times a b,tg=>vg a tg||vg b tg
 | .rc a,tg=>vg a tg.up
 |t,tg=>eF t tg
theorem iS:∀(n:Nat) (v:Vl),v.nodes<=n->∀(t:Ty) (tg:Tg),vg t tg=false->ck t tg v=[]
 |0,v,h=>by have:=dr v;omega
 |
  n+1,v,hn=>by
  intro t tg ho
  cases hm:stuck t v with
  |
   true =>
   refine dU ?_ hm
   cases t<;>first|exact ho|rfl
  |
   false =>
   unfold stuck at hm
   split at hm
   ·simp only[Vl.nodes]at hn
    simp only[vg,cf]at ho
    rw[nn,iS n _ (by omega) _ _ ho.1];rfl
   ·simp only[Vl.nodes]at hn
    simp only[vg,cf]at ho
    rw[nf,iS n _ (by omega) _ _ ho.2];rfl
   ·simp only[Vl.nodes]at hn
    simp only[vg,cf]at ho
    rw[ng,iS n _ (by omega) _ _ ho.1,iS n _ (by omega) _ _ ho.2];rfl
   ·rename_i a w
    simp only[Vl.nodes]at hn
    have ho':vg a tg.up=false:=ho
    rw[ns,iS n _ (by omega) _ _ ho']
    have:(ck a (.bd 0) w).flatMap (fun h=>iH (fun c=>.f (.r (.p h.1 c))) (ck (.rc a) tg h.2))=(ck a (.bd 0) w).flatMap (fun _=>[]):=iN fun h hh=>by
     have:=(iE hh).1
     rw[iS n h.2 (by omega) (.rc a) tg ho];rfl
    rw[this]
    induction ck a (.bd 0) w<;>simp_all[iH]
   ·cases hm
theorem lh:∀(e:E) (ar:List (List UInt8)) (t:Ty) (k:Nat),cS e ar=some t->vg t (.bd k)=true->k<ar.length/\bR (gk ar k) ar ar.length=some k
 |
  .atom s,ar,t,k,ht,ho=>by
  simp only[cS]at ht
  split at ht
  ·cases ht;cases ho
  ·split at ht
   ·cases ht;cases ho
   ·split at ht
    ·cases ht;cases ho
    ·split at ht
     ·split at ht
      ·rename_i u hu
       cases ht
       have:u=k:=by simpa[vg,eF]using ho
       subst this
       obtain⟨h1,h2⟩:=fH _ _ (au _) hu
       exact⟨h1,by rw[h2];exact hu⟩
      ·cases ht;cases ho
     ·cases ht
 |
  .list [x,a,b],ar,t,k,ht,ho=>by
  by_cases h0:x.at=[43]
  ·obtain⟨t1,t2,h1,h2,rfl⟩:=fL h0 ht
   simp only[vg,bC]at ho
   rcases ho with ho|ho
   ·exact lh a ar t1 k h1 ho
   ·exact lh b ar t2 k h2 ho
  ·by_cases h1:x.at=[42]
   ·obtain⟨t1,t2,h1,h2,rfl⟩:=fp h1 ht
    simp only[vg,bC]at ho
    rcases ho with ho|ho
    ·exact lh a ar t1 k h1 ho
    ·exact lh b ar t2 k h2 ho
   ·by_cases h2:x.at=[114,101,99]
    ·obtain⟨t1,_,h3,rfl⟩:=dx h2 ht
     obtain⟨q1,q2⟩:=lh b (ar++[a.at]) t1 (k+1) h3 ho
     simp only[aq,aA,aG]at q1
     have hk:k<ar.length:=by omega
     have e:gk (ar++[a.at]) (k+1)=gk ar k:=by
      unfold gk
      rw[aq,show ar.length+[a.at].length-1-(k+1)=ar.length-1-k by simp;omega]
      simp[aa,List.getElem?_append_left (show ar.length-1-k<ar.length by omega)]
     rw[e]at q2
     refine⟨hk,?_⟩
     have e2:(ar++[a.at]).length=ar.length+1:=by simp
     rw[e2,bR]at q2
     split at q2
     ·rw[e2]at q2;simp at q2
     ·rw[ko _ _ _ _ (au _)]at q2
      cases hq:bR (gk ar k) ar ar.length with
      |none=>rw[hq]at q2;cases q2
      |some u=>rw[hq]at q2;simpa using q2
    ·rw[jd _ h0 h1 h2]at ht;cases ht
 | .list [],ar,t,k,ht,ho=>by cases ht
 | .list [_],ar,t,k,ht,ho=>by cases ht
 | .list [_,_],ar,t,k,ht,ho=>by cases ht
 | .list (_::_::_::_::_),ar,t,k,ht,ho=>by cases ht
theorem fq(w:List UInt8)(ar:List (List UInt8)):bR w (ar++[w]) (ar++[w]).length=some 0:=by
 have e2:(ar++[w]).length=ar.length+1:=by simp
 rw[e2,bR,if_pos (by simp[aa]),e2];simp
theorem jE{s w:List UInt8}(ar:List (List UInt8))(h:w≠s):bR s (ar++[w]) (ar++[w]).length=(bR s ar ar.length).map (·+1):=by
 have e2:(ar++[w]).length=ar.length+1:=by simp
 rw[e2,bR,if_neg (by simpa[aa]using h),ko _ _ _ _ (au _)]
theorem FA{b:E}{ar:List (List UInt8)}{w:List UInt8}{t:Ty}{k:Nat}(hb:cS b (ar++[w])=some t)(hk:bR w ar ar.length=some k):vg t (.bd (k+1))=false:=by
 cases h:vg t (.bd (k+1))with
 |false=>rfl
 |
  true =>
  obtain⟨_,q2⟩:=lh _ _ _ _ hb h
  obtain⟨h1,h2⟩:=fH _ _ (au _) hk
  have e:gk (ar++[w]) (k+1)=gk ar k:=by
   unfold gk
   rw[aq,show ar.length+[w].length-1-(k+1)=ar.length-1-k by simp;omega]
   simp[aa,List.getElem?_append_left (show ar.length-1-k<ar.length by omega)]
  rw[e,h2,fq]at q2
  cases q2
def oM(s:List UInt8)(ar:List (List UInt8)):Tg:=match bR s ar ar.length with|some u=>.bd u|none=>.nm s
theorem vZ(w:List UInt8)(ar:List (List UInt8)):oM w (ar++[w])=.bd 0:=by rw[oM,fq]
theorem zP{s w:List UInt8}(ar:List (List UInt8))(h:w≠s):oM s (ar++[w])=(oM s ar).up:=by
 rw[oM,oM,jE ar h]
 cases bR s ar ar.length<;>rfl
theorem iq(n:Nat):∀(m:Nat) (v:Vl),v.nodes<=m->∀(e:E) (env:List Fr) (t:Ty),Ask e env t->eX n v (e,env)=true->∀(k:Nat) (f:Fr),env[k]?=some f->∀h,h∈ck t (.bd k) v->eX n h.2 (f.ex,f.out)=true
 |0,v,hm=>by have:=dr v;omega
 |
  m+1,v,hm=>by
  intro e env t A hv k f hf h hh
  rcases gp A.wf A.ty with⟨hb,hq⟩|⟨u,g,rfl,hq,hu⟩
  ·have hhd:hd e env=(e,env):=kh hq
   rcases fK A.ty hb A.cl with⟨rfl,rfl⟩|⟨rfl,rfl⟩|⟨s,rfl,rfl,hp,h0,h1⟩|⟨x,a,b,t1,t2,rfl,hx,rfl,ha,hbb⟩|⟨x,a,b,t1,t2,rfl,hx,rfl,ha,hbb⟩|⟨x,a,b,t1,rfl,hx,rfl⟩
   ·rw[dU rfl (by cases v<;>rfl)]at hh;cases hh
   ·rw[dU rfl (by cases v<;>rfl)]at hh;cases hh
   ·rw[dU rfl (by cases v<;>rfl)]at hh;cases hh
   ·obtain⟨ok1,ok2,ok3,_⟩:=A.ok
    obtain⟨f1,f2⟩:=fD A.cl
    cases v with
    |
     l w =>
     simp only[eX,hhd,hx,beq_self_eq_true,bX]at hv
     simp only[Vl.nodes]at hm
     rw[nn]at hh
     obtain⟨h2,h3,rfl⟩:=cY hh
     exact iq n m w (by omega) a env t1 ⟨ok2,A.wf,ha,f1⟩ hv k f hf h2 h3
    |
     r w =>
     simp only[eX,hhd,hx,beq_self_eq_true,bX]at hv
     simp only[Vl.nodes]at hm
     rw[nf]at hh
     obtain⟨h2,h3,rfl⟩:=cY hh
     exact iq n m w (by omega) b env t2 ⟨ok3,A.wf,hbb,f2⟩ hv k f hf h2 h3
    |_=>rw[dU rfl rfl]at hh;cases hh
   ·obtain⟨ok1,ok2,ok3,_⟩:=A.ok
    obtain⟨f1,f2⟩:=eY A.cl
    cases v with
    |
     p w w' =>
     simp only[eX,hhd,hx,beq_self_eq_true,bX,aw]at hv
     simp only[Vl.nodes]at hm
     rw[ng]at hh
     rcases aO.1 hh with hh|hh
     ·obtain⟨h2,h3,rfl⟩:=cY hh
      exact iq n m w (by omega) a env t1 ⟨ok2,A.wf,ha,f1⟩ hv.1 k f hf h2 h3
     ·obtain⟨h2,h3,rfl⟩:=cY hh
      exact iq n m w' (by omega) b env t2 ⟨ok3,A.wf,hbb,f2⟩ hv.2 k f hf h2 h3
    |_=>rw[dU rfl rfl]at hh;cases hh
   ·obtain⟨t1',he1,h1,f1,hw1⟩:=jx A.wf A.ok hx A.ty A.cl
    cases he1
    obtain⟨ok1,ok2,ok3,_⟩:=A.ok
    cases v with
    |
     f w =>
     simp only[eX,hhd,hx,beq_self_eq_true,bX]at hv
     simp only[Vl.nodes]at hm
     rw[ns]at hh
     have A':Ask b (.mk a.at (.list [x,a,b]) env::env) t1:=⟨ok3,hw1,h1,f1⟩
     rcases aO.1 hh with hh|hh
     ·obtain⟨h2,h3,rfl⟩:=cY hh
      exact iq n m w (by omega) b _ t1 A' hv (k+1) f (by simpa using hf) h2 h3
     ·obtain⟨kd,h2,h3⟩:=List.mem_flatMap.1 hh
      obtain⟨h4,h5,rfl⟩:=cY h3
      have hkd:=iq n m w (by omega) b _ t1 A' hv 0 _ rfl kd h2
      have:=(iE h2).1
      exact iq n m kd.2 (by omega) (.list [x,a,b]) env _ A hkd k f hf h4 h5
    |_=>rw[dU rfl rfl]at hh;cases hh
  ·by_cases huk:u=k
   ·subst huk
    rw[hu]at hf;cases hf
    rw[mP v (by simp[eF])]at hh
    simp only[aQ]at hh
    subst hh
    obtain⟨x,a,b,t',hfe,hok,hx,ht',hf',hwf,hlt⟩:=oI A.wf hq
    rw[<-tY n v (rb hq) (by rw[hfe];exact pN hwf)];exact hv
   ·rw[dU (by simpa[eF]using huk) (by cases v<;>rfl)]at hh;cases hh
end Go.Proofs.Trees
namespace Go.Proofs.Trees
open Go Go.VL Go.RowKit
def cR:E->List Nm->Ty
 | .atom s,ar=>if s=[48]then .zero else if s=[49]then .one else match bR s ar ar.length with|some u=>.bound u|none=>.name s
 | .list [x,a,b],ar=>if x.at=[43]then .plus (cR a ar) (cR b ar)else if x.at=[42]then .times (cR a ar) (cR b ar)else .rc (cR b (ar++[a.at]))
 | .list _,_=>.zero
def qR(s:Nm):Prop:=s≠[]/\s≠[48]/\s≠[49]
inductive Wf:E->Prop
 |atom {s} (h:s≠[]):Wf (.atom s)
 |plus {a b} (ha:Wf a) (hb:Wf b):Wf (.list [.atom [43],a,b])
 |times {a b} (ha:Wf a) (hb:Wf b):Wf (.list [.atom [42],a,b])
 |rc {n b} (hn:qR n) (hb:Wf b):Wf (.list [.atom [114,101,99],.atom n,b])
theorem dM(a b:E)(ar:List Nm):cR (.list [.atom [43],a,b]) ar=.plus (cR a ar) (cR b ar):=by rw[cR,if_pos (show (E.atom [43]).at=[43] from rfl)]
theorem du(a b:E)(ar:List Nm):cR (.list [.atom [42],a,b]) ar=.times (cR a ar) (cR b ar):=by rw[cR,if_neg (by decide),if_pos (show (E.atom [42]).at=[42] from rfl)]
theorem fk(a b:E)(ar:List Nm):cR (.list [.atom [114,101,99],a,b]) ar=.rc (cR b (ar++[a.at])):=by rw[cR,if_neg (by decide),if_neg (by decide)]
theorem Wf.ok{e:E}(h:Wf e):e.ok:=by
 induction h with
 |atom h=>exact h
 |plus ha hb i1 i2=>exact⟨by simp[E.ok],i1,i2,trivial⟩
 |times ha hb i1 i2=>exact⟨by simp[E.ok],i1,i2,trivial⟩
 |rc hn hb i=>exact⟨by simp[E.ok],hn.1,i,trivial⟩
theorem Wf.db{e:E}(h:Wf e):∀ar,e.db=(cR e ar).atoms:=by
 induction h with
 |
  @atom s h =>
  intro ar
  simp only[E.db,cR]
  split
  ·rfl
  ·split
   ·rfl
   ·split<;>rfl
 |plus ha hb i1 i2=>intro ar;rw[dM];simp only[E.db,E.eZ,Ty.atoms,<-i1 ar,<-i2 ar];omega
 |times ha hb i1 i2=>intro ar;rw[du];simp only[E.db,E.eZ,Ty.atoms,<-i1 ar,<-i2 ar];omega
 |@rc n b hn hb i=>intro ar;rw[fk];simp only[E.db,E.eZ,Ty.atoms,<-i];omega
theorem Wf.sz{e:E}(h:Wf e):e.sz<=3*e.db:=by
 induction h with
 |atom h=>simp[E.sz,E.db]
 |plus ha hb i1 i2=>simp only[E.sz,E.jm,E.db,E.eZ];omega
 |times ha hb i1 i2=>simp only[E.sz,E.jm,E.db,E.eZ];omega
 |rc hn hb i=>simp only[E.sz,E.jm,E.db,E.eZ];omega
theorem ki:∀(e:E) (ar:List Nm) (t:Ty),e.ok->(∀w,w∈ar->dm w=true)->cS e ar=some t->Wf e/\cR e ar=t
 |
  .atom s,ar,t,hok,hl,ht=>by
  refine⟨.atom hok,?_⟩
  simp only[cS,cR]at ht |-
  split at ht
  ·rename_i h;rw[if_pos h];simpa using ht
  ·rename_i h;rw[if_neg h]
   split at ht
   ·rename_i h1;rw[if_pos h1];simpa using ht
   ·rename_i h1;rw[if_neg h1]
    split at ht
    ·rename_i hp
     cases q:bR s ar ar.length with
     |none=>simpa using ht
     |
      some u =>
      obtain⟨h1,h2⟩:=fH _ _ (au _) q
      have:=hl (gk ar u) (by
       unfold gk
       have:ar.length-1-u<ar.length:=by omega
       simp[aa,this])
      rw[h2,km hp]at this;cases this
    ·split at ht
     ·split at ht<;>rename_i q<;>rw[q]<;>simpa using ht
     ·cases ht
 |
  .list [x,a,b],ar,t,hok,hl,ht=>by
  obtain⟨ok1,ok2,ok3,_⟩:=hok
  by_cases h0:x.at=[43]
  ·obtain⟨t1,t2,h1,h2,rfl⟩:=fL h0 ht
   obtain rfl:=kq h0 (by simp)
   obtain⟨w1,e1⟩:=ki a ar t1 ok2 hl h1
   obtain⟨w2,e2⟩:=ki b ar t2 ok3 hl h2
   exact⟨.plus w1 w2,by rw[dM,e1,e2]⟩
  ·by_cases h1:x.at=[42]
   ·obtain⟨t1,t2,h2,h3,rfl⟩:=fp h1 ht
    obtain rfl:=kq h1 (by simp)
    obtain⟨w1,e1⟩:=ki a ar t1 ok2 hl h2
    obtain⟨w2,e2⟩:=ki b ar t2 ok3 hl h3
    exact⟨.times w1 w2,by rw[du,e1,e2]⟩
   ·by_cases h2:x.at=[114,101,99]
    ·obtain⟨t1,hla,h3,rfl⟩:=dx h2 ht
     obtain rfl:=kq h2 (by simp)
     have hne:a.at≠[]:=by intro e;rw[e]at hla;cases hla
     have ha:a=.atom a.at:=kq rfl hne
     obtain⟨w1,e1⟩:=ki b (ar++[a.at]) t1 ok3 (fun w hw=>by
      rcases aO.1 hw with hw|hw
      ·exact hl w hw
      ·simp only[aQ]at hw;rw[hw];exact hla) h3
     have hN:qR a.at:=⟨hne,fun e=>by rw[e]at hla;revert hla;decide,fun e=>by rw[e]at hla;revert hla;decide⟩
     refine⟨?_,by rw[fk,e1]⟩
     rw[ha];exact .rc hN w1
    ·rw[jd _ h0 h1 h2]at ht;cases ht
 | .list [],ar,t,_,_,ht=>by cases ht
 | .list [_],ar,t,_,_,ht=>by cases ht
 | .list [_,_],ar,t,_,_,ht=>by cases ht
 | .list (_::_::_::_::_),ar,t,_,_,ht=>by cases ht
theorem fu(s:Nm)(ar:List Nm):bR s ar ar.length=none↔s∉ar:=by
 have:=mR s ar ar.length (au _)
 rwa[List.take_length]at this
theorem nV(s:Nm)(ar:List Nm):∀(n:Nat) (br:List Nm),br.length=n->bR s (ar++br) (ar++br).length=match bR s br br.length with|some u=>some u|none=>(bR s ar ar.length).map (·+br.length)
 |
  0,br,h=>by
  obtain rfl:=bJ h
  rw[cX]
  cases h:bR s ar ar.length<;>simp[bR]
 |
  n+1,br,h=>by
  obtain⟨b2,w,rfl⟩:∃b2 w,br=b2++[w]:=⟨br.dropLast,br.getLast (by intro e;rw[e]at h;cases h),(List.dropLast_concat_getLast _).symm⟩
  rw[<-a8]
  by_cases hw:w=s
  ·subst hw;rw[fq,fq]
  ·rw[jE _ hw,jE _ hw,nV s ar n b2 (by simpa using h)]
   cases bR s b2 b2.length with
   |some u=>rfl
   |
    none =>
    cases bR s ar ar.length with
    |none=>rfl
    |some u=>simp only[Option.map_none,cz,aq,aA,aG];congr 1
theorem uq(ar:List Nm){e:E}(h:Wf e):∀br,(∀y,bn y (cR e br)=true->y∉ar)->cR e (ar++br)=cR e br:=by
 induction h with
 |
  @atom s h =>
  intro br hy
  simp only[cR]at hy |-
  split
  ·rfl
  ·rename_i h0
   split
   ·rfl
   ·rename_i h1
    rw[if_neg h0,if_neg h1]at hy
    rw[nV s ar _ br rfl]
    cases q:bR s br br.length with
    |some u=>rfl
    |
     none =>
     rw[q]at hy
     have:=(fu s ar).2 (hy s (by simp[bn]))
     rw[this];rfl
 |
  plus ha hb i1 i2 =>
  intro br hy
  rw[dM]at hy |-
  rw[dM,i1 br fun y h=>hy y (by simp[bn,h]),i2 br fun y h=>hy y (by simp[bn,h])]
 |
  times ha hb i1 i2 =>
  intro br hy
  rw[du]at hy |-
  rw[du,i1 br fun y h=>hy y (by simp[bn,h]),i2 br fun y h=>hy y (by simp[bn,h])]
 |
  @rc n b hn hb i =>
  intro br hy
  rw[fk]at hy |-
  rw[fk,a8,i _ hy]
theorem zk(x:Nm){e:E}(h:Wf e):∀ar,cR e ar=dA (.name x) (cR e ([x]++ar)) ar.length:=by
 induction h with
 |
  @atom s h =>
  intro ar
  simp only[cR]
  split
  ·rfl
  ·split
   ·rfl
   ·rw[nV s [x] _ ar rfl]
    cases q:bR s ar ar.length with
    |
     some u =>
     have:=(fH _ _ (au _) q).1
     simp only[dA];rw[if_neg (by omega)]
    |
     none =>
     by_cases hx:x=s
     ·subst hx
      have:bR x [x] [x].length=some 0:=fq x []
      rw[this];simp[dA]
     ·have:bR s [x] [x].length=none:=(fu s [x]).2 (by simpa using fun e=>hx e.symm)
      rw[this];rfl
 |plus ha hb i1 i2=>intro ar;rw[dM,dM,dA,<-i1 ar,<-i2 ar]
 |times ha hb i1 i2=>intro ar;rw[du,du,dA,<-i1 ar,<-i2 ar]
 |
  @rc n b hn hb i =>
  intro ar
  rw[fk,fk,dA,i (ar++[E.at (.atom n)]),a8]
  simp
theorem mY{e:E}(h:Wf e):∀ar y,bn y (cR e ar)=true->qR y/\y∉ar:=by
 induction h with
 |
  @atom s h =>
  intro ar y hy
  simp only[cR]at hy
  split at hy
  ·cases hy
  ·rename_i h0
   split at hy
   ·cases hy
   ·rename_i h1
    split at hy
    ·cases hy
    ·rename_i q
     simp only[bn,decide_eq_true_eq]at hy
     subst hy
     exact⟨⟨h,h0,h1⟩,(fu _ _).1 q⟩
 |
  plus ha hb i1 i2 =>
  intro ar y hy
  rw[dM]at hy
  simp only[bn,bC]at hy
  rcases hy with hy|hy
  ·exact i1 ar y hy
  ·exact i2 ar y hy
 |
  times ha hb i1 i2 =>
  intro ar y hy
  rw[du]at hy
  simp only[bn,bC]at hy
  rcases hy with hy|hy
  ·exact i1 ar y hy
  ·exact i2 ar y hy
 |
  rc hn hb i =>
  intro ar y hy
  rw[fk]at hy
  obtain⟨h1,h2⟩:=i _ y hy
  exact⟨h1,fun h=>h2 (aD _ h)⟩
theorem lY{e:E}(h:Wf e):∀(bd l:List Nm) (y:Nm),y∈kf e bd l↔y∈l\/bn y (cR e bd)=true:=by
 induction h with
 |
  @atom s h =>
  intro bd l y
  simp only[kf,cR]
  by_cases h0:s=[48]
  ·simp[h0,bn]
  ·by_cases h1:s=[49]
   ·simp[h1,bn]
   ·rw[if_neg h0,if_neg h1]
    by_cases h2:s∈bd
    ·cases q:bR s bd bd.length with
     |none=>exact absurd h2 ((fu _ _).1 q)
     |some u=>simp[h2,bn]
    ·rw[(fu _ _).2 h2]
     simp only[h0,h1,h2,false_or,bn,decide_eq_true_eq]
     by_cases h3:s∈l
     ·simp only[h3,if_true]
      exact⟨fun h=>.inl h,fun h=>by rcases h with h|rfl<;>assumption⟩
     ·simp only[h3,if_false,aO,aQ,eq_comm]
 |
  plus ha hb i1 i2 =>
  intro bd l y
  rw[kf,if_neg (by decide),dM,i2,i1]
  simp[bn,or_assoc]
 |
  times ha hb i1 i2 =>
  intro bd l y
  rw[kf,if_neg (by decide),du,i2,i1]
  simp[bn,or_assoc]
 |
  rc hn hb i =>
  intro bd l y
  rw[kf,if_pos (show (E.atom [114,101,99]).at=[114,101,99] from rfl),fk,i]
  rfl
theorem eN:∀(t:Ty) (out:List Nm) (y:Nm),y∈bQ t out↔y∈out\/bn y t=true
 |
  .name s,out,y=>by
  simp only[bQ,pZ,bn,decide_eq_true_eq]
  split
  ·rename_i h;exact⟨fun h=>.inl h,fun h'=>by rcases h' with h'|rfl<;>assumption⟩
  ·simp[eq_comm]
 | .plus a b,out,y=>by rw[bQ,eN b,eN a];simp[bn,or_assoc]
 | .times a b,out,y=>by rw[bQ,eN b,eN a];simp[bn,or_assoc]
 | .rc a,out,y=>by rw[bQ,eN a];rfl
 | .zero,out,y=>by simp[bQ,bn]
 | .one,out,y=>by simp[bQ,bn]
 | .bound k,out,y=>by simp[bQ,bn]
end Go.Proofs.Trees
namespace Go.Proofs.Trees
open Go Go.VL Go.RowKit
abbrev dE:Nm:=[114,101,99]
theorem dT(s:Nm):(E.atom s).at=s:=rfl
def rl(x:Nm)(u:E):E->E
 | .atom s=>if s=x then u else .atom s
 | .list [h,a,b]=>if h.at=dE then(if a.at=x then .list [h,a,b]else .list [.atom dE,a,rl x u b])else .list [.atom h.at,rl x u a,rl x u b]
 | .list l=>.list l
def nh(x:Nm):E->Nat
 | .atom s=>if s=x then 1 else 0
 | .list [h,a,b]=>if h.at=dE then(if a.at=x then 0 else nh x b)else nh x a+nh x b
 | .list _=>0
def ue(p:Nm->Prop):E->Prop
 | .atom _=>True
 | .list [h,a,b]=>(if h.at=dE then p a.at else ue p a)/\ue p b
 | .list _=>True
def fw(x:Nm):Ty->Nat
 | .name s=>if s=x then 1 else 0
 | .plus a b=>fw x a+fw x b
 | .times a b=>fw x a+fw x b
 | .rc a=>fw x a
 |_=>0
theorem vt(x:Nm)(u a b:E):rl x u (.list [.atom [43],a,b])=.list [.atom [43],rl x u a,rl x u b]:=by rw[rl,if_neg (by decide)];rfl
theorem sV(x:Nm)(u a b:E):rl x u (.list [.atom [42],a,b])=.list [.atom [42],rl x u a,rl x u b]:=by rw[rl,if_neg (by decide)];rfl
theorem Bz(x:Nm)(u:E)(n:Nm)(b:E):rl x u (.list [.atom dE,.atom n,b])=if n=x then .list [.atom dE,.atom n,b]else .list [.atom dE,.atom n,rl x u b]:=by rw[rl,if_pos (dT _)];rfl
theorem sd(x:Nm)(a b:E):nh x (.list [.atom [43],a,b])=nh x a+nh x b:=by rw[nh,if_neg (by decide)]
theorem p7(x:Nm)(a b:E):nh x (.list [.atom [42],a,b])=nh x a+nh x b:=by rw[nh,if_neg (by decide)]
theorem xA(x:Nm)(n:Nm)(b:E):nh x (.list [.atom dE,.atom n,b])=if n=x then 0 else nh x b:=by rw[nh,if_pos (dT _)];rfl
theorem oN(p:Nm->Prop)(a b:E):ue p (.list [.atom [43],a,b])↔ue p a/\ue p b:=by rw[ue,if_neg (by decide)]
theorem nj(p:Nm->Prop)(a b:E):ue p (.list [.atom [42],a,b])↔ue p a/\ue p b:=by rw[ue,if_neg (by decide)]
theorem tX(p:Nm->Prop)(n:Nm)(b:E):ue p (.list [.atom dE,.atom n,b])↔p n/\ue p b:=by rw[ue,if_pos (dT _)];rfl
theorem AJ{p q:Nm->Prop}(h:∀n,p n->q n){e:E}(hw:Wf e):ue p e->ue q e:=by
 induction hw with
 |atom _=>exact fun _=>trivial
 |plus _ _ i1 i2=>rw[oN,oN];exact fun g=>⟨i1 g.1,i2 g.2⟩
 |times _ _ i1 i2=>rw[nj,nj];exact fun g=>⟨i1 g.1,i2 g.2⟩
 |rc _ _ i=>rw[tX,tX];exact fun g=>⟨h _ g.1,i g.2⟩
theorem jf{s:Nm}(hs:qR s){ar:List Nm}(h:s∉ar):cR (.atom s) ar=.name s:=by
 simp only[cR];rw[if_neg hs.2.1,if_neg hs.2.2,(fu s ar).2 h]
theorem D4{x:Nm}(hx:qR x){u:E}(hu:Wf u){e:E}(h:Wf e):ue (fun n=>n≠x/\bn n (cR u [])=false) e->∀ar,x∉ar->(∀y,y∈ar->bn y (cR u [])=false)->Wf (rl x u e)/\cR (rl x u e) ar=sub x (cR u []) (cR e ar):=by
 induction h with
 |
  @atom s hs =>
  intro _ ar har hy
  by_cases e:s=x
  ·subst e
   have:cR u (ar++[])=cR u []:=uq ar hu [] fun y hy' hm=>by rw[hy y hm]at hy';cases hy'
   rw[cX]at this
   rw[jf hx har]
   simp only[rl,sub,if_true]
   exact⟨hu,this⟩
  ·simp only[rl,if_neg e]
   refine⟨.atom hs,?_⟩
   simp only[cR]
   split
   ·rfl
   ·split
    ·rfl
    ·split
     ·rfl
     ·simp only[sub,if_neg e]
 |
  plus ha hb i1 i2 =>
  intro hap ar har hy
  rw[oN]at hap
  obtain⟨w1,e1⟩:=i1 hap.1 ar har hy
  obtain⟨w2,e2⟩:=i2 hap.2 ar har hy
  rw[vt,dM,dM,e1,e2]
  exact⟨.plus w1 w2,rfl⟩
 |
  times ha hb i1 i2 =>
  intro hap ar har hy
  rw[nj]at hap
  obtain⟨w1,e1⟩:=i1 hap.1 ar har hy
  obtain⟨w2,e2⟩:=i2 hap.2 ar har hy
  rw[sV,du,du,e1,e2]
  exact⟨.times w1 w2,rfl⟩
 |
  @rc n b hn hb i =>
  intro hap ar har hy
  rw[tX]at hap
  obtain⟨w1,e1⟩:=i hap.2 (ar++[n]) (by
   simp only[aO,aQ]
   rintro(h|h)
   ·exact har h
   ·exact hap.1.1 h.symm) (fun y hm=>by
   simp only[aO,aQ]at hm
   rcases hm with hm|rfl
   ·exact hy y hm
   ·exact hap.1.2)
  rw[Bz,if_neg hap.1.1,fk,fk]
  refine⟨.rc hn w1,?_⟩
  show Ty.rc (cR (rl x u b) (ar++[n]))=_
  rw[e1];rfl
theorem Dw{x:Nm}(hx:qR x){e:E}(h:Wf e):∀ar,fw x (cR e ar)=if x∈ar then 0 else nh x e:=by
 induction h with
 |
  @atom s hs =>
  intro ar
  by_cases e:s=x
  ·subst e
   by_cases hm:s∈ar
   ·rw[if_pos hm]
    simp only[cR];rw[if_neg hx.2.1,if_neg hx.2.2]
    cases q:bR s ar ar.length with
    |none=>exact absurd hm ((fu _ _).1 q)
    |some u=>rfl
   ·rw[if_neg hm,jf hx hm];simp[fw,nh]
  ·have:fw x (cR (.atom s) ar)=0:=by
    simp only[cR]
    split
    ·rfl
    ·split
     ·rfl
     ·split
      ·rfl
      ·simp[fw,e]
   rw[this];simp[nh,e]
 |plus ha hb i1 i2=>intro ar;rw[dM,sd,fw,i1,i2];split<;>simp
 |times ha hb i1 i2=>intro ar;rw[du,p7,fw,i1,i2];split<;>simp
 |
  @rc n b hn hb i =>
  intro ar
  rw[fk,xA,fw,i]
  simp only[dT,aO,aQ]
  by_cases h1:x∈ar
  ·simp[h1]
  ·by_cases h2:x=n
   ·simp[h2]
   ·simp[h1,h2,Ne.symm h2]
theorem dW(x:Nm)(u:Ty):∀t:Ty,(sub x u t).atoms+fw x t=t.atoms+fw x t*u.atoms
 | .name s=>by simp only[sub,fw];split<;>simp[Ty.atoms];omega
 | .plus a b=>by have:=dW x u a;have:=dW x u b;simp only[sub,Ty.atoms,fw,Nat.add_mul];omega
 | .times a b=>by have:=dW x u a;have:=dW x u b;simp only[sub,Ty.atoms,fw,Nat.add_mul];omega
 | .rc a=>by have:=dW x u a;simp only[sub,Ty.atoms,fw];omega
 | .zero=>by simp[sub,fw]
 | .one=>by simp[sub,fw]
 | .bound k=>by simp[sub,fw]
abbrev tN(m:Nat):Nm:=116::dd m
theorem EI(m:Nat):dd m≠[]:=by
 by_cases h:m<10
 ·rw[eH h];simp
 ·rw[fQ h];simp
theorem xc:∀(n m k:Nat),m<n->dd m=dd k->m=k
 |0,m,k,h,_=>by omega
 |
  n+1,m,k,h,e=>by
  have d10:∀{a b:Nat},a<10->b<10->bj (48+a)=bj (48+b)->a=b:=fun {a b} ha hb h=>by
   have:=congrArg UInt8.toNat h
   simp only[UInt8.toNat_ofNat']at this
   omega
  by_cases h1:m<10<;>by_cases h2:k<10
  ·rw[eH h1,eH h2]at e
   simp only[List.cons.injEq,and_true]at e
   exact d10 h1 h2 e
  ·rw[eH h1,fQ h2]at e
   have:=congrArg List.length e
   have:dd (k/10)=[]:=by
    apply bJ
    simp at this;simpa using this
   exact absurd this (EI _)
  ·rw[fQ h1,eH h2]at e
   have:=congrArg List.length e
   have:dd (m/10)=[]:=by
    apply bJ
    simp at this;simpa using this
   exact absurd this (EI _)
  ·rw[fQ h1,fQ h2]at e
   obtain⟨e1,e2⟩:=List.append_inj' e rfl
   have:=xc n (m/10) (k/10) (by omega) e1
   simp only[List.cons.injEq,and_true]at e2
   have:=d10 (Nat.mod_lt _ (by omega)) (Nat.mod_lt _ (by omega)) e2
   omega
theorem Bv{m k:Nat}(h:tN m=tN k):m=k:=xc (m+1) m k (by omega) (List.cons.inj h).2
theorem yb(m:Nat):qR (tN m):=⟨by simp,by simp,by simp⟩
theorem Te:∀(l F:List Nm),l.Nodup->(∀x,x∈l->x∈F)->l.length<=F.length
 |[],_,_,_=>dQ _
 |
  x::l,F,hn,hs=>by
  obtain⟨h1,h2⟩:=List.nodup_cons.1 hn
  have hx:=hs x ak
  have:=Te l (F.erase x) h2 fun y hy=>(List.mem_erase_of_ne (fun e=>h1 (by rw[<-e];exact hy))).2 (hs y (al _ hy))
  rw[List.length_erase_of_mem hx]at this
  have:0<F.length:=List.length_pos_of_mem hx
  simp only[aA];omega
def qd(F:List Nm):Nat->Nat->Nat
 |0,k=>k
 |n+1,k=>if tN k∈F then qd F n (k+1)else k
theorem vY(F:List Nm):∀(n k:Nat),k<=qd F n k/\qd F n k<=k+n/\(∀j,k<=j->j<qd F n k->tN j∈F)/\(qd F n k<k+n->tN (qd F n k)∉F)
 |0,k=>⟨au _,au _,fun j h1 h2=>by simp only[qd]at h2;omega,fun h=>by simp only[qd]at h;omega⟩
 |
  n+1,k=>by
  rw[qd]
  split
  ·rename_i hm
   obtain⟨h1,h2,h3,h4⟩:=vY F n (k+1)
   refine⟨by omega,by omega,fun j hj hl=>?_,fun h=>h4 (by omega)⟩
   by_cases e:j=k
   ·subst e;exact hm
   ·exact h3 j (by omega) hl
  ·rename_i hm
   exact⟨au _,by omega,fun j h1 h2=>by omega,fun _=>hm⟩
def nx(F:List Nm)(k:Nat):Nat:=qd F (F.length+1) k
theorem gv(F:List Nm)(k:Nat):k<=nx F k/\nx F k<=k+F.length/\(∀j,k<=j->j<nx F k->tN j∈F)/\tN (nx F k)∉F:=by
 obtain⟨h1,h2,h3,h4⟩:=vY F (F.length+1) k
 have hlt:nx F k<k+(F.length+1):=by
  rcases Nat.lt_or_ge (nx F k) (k+(F.length+1))with h|h
  ·exact h
  ·exfalso
   have:=Te ((List.range' k (F.length+1)).map tN) F (by
    refine List.Pairwise.map _ (fun a b hab e=>hab (Bv e)) List.nodup_range') (fun x hx=>by
    obtain⟨j,hj,rfl⟩:=bP.1 hx
    obtain⟨i,hi,rfl⟩:=List.mem_range'.1 hj
    exact h3 _ (by omega) (by show _<nx F k;omega))
   simp at this
   omega
 exact⟨h1,by unfold nx at hlt |-;omega,h3,h4 hlt⟩
theorem AP{F F':List Nm}(h:∀y,y∈F↔y∈F')(k:Nat):nx F k=nx F' k:=by
 obtain⟨a1,a2,a3,a4⟩:=gv F k
 obtain⟨b1,b2,b3,b4⟩:=gv F' k
 rcases Nat.lt_trichotomy (nx F k) (nx F' k)with hl|he|hl
 ·exact absurd ((h _).2 (b3 _ a1 hl)) a4
 ·exact he
 ·exact absurd ((h _).1 (a3 _ b1 hl)) b4
def gY(F:List Nm):Ty->List Nm->Nat->E×Nat
 | .zero,_,k=>(.atom [48],k)
 | .one,_,k=>(.atom [49],k)
 | .name s,_,k=>(.atom s,k)
 | .bound u,to,k=>(.atom (gk to u),k)
 | .plus a b,to,k=>(.list [.atom [43],(gY F a to k).1,(gY F b to (gY F a to k).2).1],(gY F b to (gY F a to k).2).2)
 | .times a b,to,k=>(.list [.atom [42],(gY F a to k).1,(gY F b to (gY F a to k).2).1],(gY F b to (gY F a to k).2).2)
 | .rc a,to,k=>(.list [.atom dE,.atom (tN (nx F k)),(gY F a (to++[tN (nx F k)]) (nx F k+1)).1],(gY F a (to++[tN (nx F k)]) (nx F k+1)).2)
theorem jK{F F':List Nm}(h:∀y,y∈F↔y∈F'):∀(t:Ty) (to:List Nm) (k:Nat),gY F t to k=gY F' t to k
 | .zero,_,_=>rfl
 | .one,_,_=>rfl
 | .name _,_,_=>rfl
 | .bound _,_,_=>rfl
 | .plus a b,to,k=>by simp only[gY];rw[jK h a,jK h b]
 | .times a b,to,k=>by simp only[gY];rw[jK h a,jK h b]
 | .rc a,to,k=>by simp only[gY];rw[AP h,jK h a]
def jy:Ty->Nat->Prop
 | .bound u,i=>u<i
 | .plus a b,i=>jy a i/\jy b i
 | .times a b,i=>jy a i/\jy b i
 | .rc a,i=>jy a (i+1)
 |_,_=>True
theorem tV{e:E}(h:Wf e):∀ar,jy (cR e ar) ar.length:=by
 induction h with
 |
  @atom s hs =>
  intro ar
  simp only[cR]
  split
  ·trivial
  ·split
   ·trivial
   ·split
    ·rename_i u q;exact(fH _ _ (au _) q).1
    ·trivial
 |plus ha hb i1 i2=>intro ar;rw[dM];exact⟨i1 ar,i2 ar⟩
 |times ha hb i1 i2=>intro ar;rw[du];exact⟨i1 ar,i2 ar⟩
 |
  @rc n b hn hb i =>
  intro ar;rw[fk]
  have:=i (ar++[(E.atom n).at])
  rw[aq]at this
  exact this
structure Gn(F to:List Nm)(k:Nat):Prop where
 out:∀w,w∈to->w∉F
 lt:∀w,w∈to->∃j,j<k/\w=tN j
 nd:to.Nodup
theorem Gn.nil(F:List Nm)(k:Nat):Gn F [] k:=⟨fun _ h=>(by cases h),fun _ h=>(by cases h),by simp⟩
theorem Gn.mono{F to:List Nm}{k k':Nat}(h:Gn F to k)(hk:k<=k'):Gn F to k':=⟨h.out,fun w hw=>by obtain⟨j,h1,h2⟩:=h.lt w hw;exact⟨j,by omega,h2⟩,h.nd⟩
theorem Gn.push{F to:List Nm}{k:Nat}(h:Gn F to k):Gn F (to++[tN (nx F k)]) (nx F k+1):=by
 obtain⟨h1,h2,h3,h4⟩:=gv F k
 refine⟨fun w hw=>?_,fun w hw=>?_,?_⟩
 ·rcases aO.1 hw with hw|hw
  ·exact h.out w hw
  ·simp only[aQ]at hw;rw[hw];exact h4
 ·rcases aO.1 hw with hw|hw
  ·obtain⟨j,g1,g2⟩:=h.lt w hw;exact⟨j,by omega,g2⟩
  ·simp only[aQ]at hw;exact⟨_,by omega,hw⟩
 ·refine List.nodup_append.2 ⟨h.nd,by simp,fun a ha b hb e=>?_⟩
  simp only[aQ]at hb
  obtain⟨j,g1,g2⟩:=h.lt a ha
  rw[e,hb]at g2
  have:=Bv g2
  omega
theorem uR{to:List Nm}(hn:to.Nodup){u:Nat}(hu:u<to.length):bR (gk to u) to to.length=some u:=by
 have hm:gk to u∈to:=by
  unfold gk
  have:to.length-1-u<to.length:=by omega
  simp[aa,this]
 cases q:bR (gk to u) to to.length with
 |none=>exact absurd hm ((fu _ _).1 q)
 |
  some v =>
  obtain⟨h1,h2⟩:=fH _ _ (au _) q
  unfold gk at h2
  have e1:to.length-1-v<to.length:=by omega
  have e2:to.length-1-u<to.length:=by omega
  rw[aa,aa,bp e1,bp e2]at h2
  have hp:=List.pairwise_iff_getElem.1 hn
  have h3:to[to.length-1-v]=to[to.length-1-u]:=by simpa using h2
  rcases Nat.lt_trichotomy (to.length-1-v) (to.length-1-u)with hl|he|hl
  ·exact absurd h3 (hp _ _ e1 e2 hl)
  ·congr 1;omega
  ·exact absurd h3.symm (hp _ _ e2 e1 hl)
theorem kB(F:List Nm):∀(t:Ty) (to:List Nm) (k:Nat),Gn F to k->jy t to.length->(∀y,bn y t=true->y∈F/\qR y) ->
 Wf (gY F t to k).1/\cR (gY F t to k).1 to=t/\k<=(gY F t to k).2/\(gY F t to k).2<=k+(F.length+1)*t.atoms/\ue (·∉F) (gY F t to k).1
 | .zero,to,k,_,_,_=>⟨.atom (by simp),rfl,au _,da _ _,trivial⟩
 | .one,to,k,_,_,_=>⟨.atom (by simp),rfl,au _,da _ _,trivial⟩
 |
  .name s,to,k,g,hl,hn=>by
  obtain⟨h1,h2⟩:=hn s (by simp[bn])
  exact⟨.atom h2.1,jf h2 (fun h=>g.out s h h1),au _,da _ _,trivial⟩
 |
  .bound u,to,k,g,hl,hn=>by
  have hm:gk to u∈to:=by
   unfold gk
   have:to.length-1-u<to.length:=by have:u<to.length:=hl;omega
   simp[aa,this]
  obtain⟨j,_,e⟩:=g.lt _ hm
  have hok:qR (gk to u):=by rw[e];exact yb j
  refine⟨.atom hok.1,?_,au _,da _ _,trivial⟩
  simp only[gY,cR]
  rw[if_neg hok.2.1,if_neg hok.2.2,uR g.nd hl]
 |
  .plus a b,to,k,g,hl,hn=>by
  obtain⟨a1,a2,a3,a4,a5⟩:=kB F a to k g hl.1 fun y hy=>hn y (by simp[bn,hy])
  obtain⟨b1,b2,b3,b4,b5⟩:=kB F b to _ (g.mono a3) hl.2 fun y hy=>hn y (by simp[bn,hy])
  simp only[gY,dM,a2,b2,oN,Ty.atoms]
  refine⟨.plus a1 b1,trivial,by omega,?_,a5,b5⟩
  have:(F.length+1)*(1+a.atoms+b.atoms)=(F.length+1)+(F.length+1)*a.atoms+(F.length+1)*b.atoms:=by simp only[cT,dG]
  omega
 |
  .times a b,to,k,g,hl,hn=>by
  obtain⟨a1,a2,a3,a4,a5⟩:=kB F a to k g hl.1 fun y hy=>hn y (by simp[bn,hy])
  obtain⟨b1,b2,b3,b4,b5⟩:=kB F b to _ (g.mono a3) hl.2 fun y hy=>hn y (by simp[bn,hy])
  simp only[gY,du,a2,b2,nj,Ty.atoms]
  refine⟨.times a1 b1,trivial,by omega,?_,a5,b5⟩
  have:(F.length+1)*(1+a.atoms+b.atoms)=(F.length+1)+(F.length+1)*a.atoms+(F.length+1)*b.atoms:=by simp only[cT,dG]
  omega
 |
  .rc a,to,k,g,hl,hn=>by
  obtain⟨h1,h2,h3,h4⟩:=gv F k
  obtain⟨a1,a2,a3,a4,a5⟩:=kB F a (to++[tN (nx F k)]) (nx F k+1) g.push (by rw[aq];exact hl) hn
  simp only[gY,fk,dT,a2,tX,Ty.atoms]
  refine⟨.rc (yb _) a1,trivial,by omega,?_,h4,a5⟩
  have:(F.length+1)*(2+a.atoms)=(F.length+1)*2+(F.length+1)*a.atoms:=by simp only[cT]
  omega
end Go.Proofs.Trees
namespace Go.Proofs.Trees
open Go Go.VL Go.RowKit
inductive kH:AV->List Nat->Prop
 |nil:kH gH []
 |cons {m:Nat} {cs:List AV} {e:AV} {ids:List Nat} (hm:m∉ids) (h:kH e ids):kH (.ptr [.pid m cs,e]) (m::ids)
theorem kH.has{a:AV}{ids:List Nat}(h:kH a ids):LK.has .ptr a:=by
 cases h
 ·exact(gx).mpr trivial
 ·exact(cb _).mpr trivial
theorem kH.Ts{M:Mem}{a:AV}{ids:List Nat}(h:kH a ids):∀{v:Value},bF M dy a v->∀b,b∈ids->M.p b:=by
 induction h with
 |nil=>intro v _ b hb;cases hb
 |
  @cons m cs e ids hm h ih =>
  intro v hr b hb
  cases hr with
  |
   ptr _ _ _ off us hc hr =>
   have h0:=hr 0 (by simp)
   have h1:=hr 1 (by simp)
   simp only[bq,List.getD_cons_succ]at h0 h1
   rcases aL.1 hb with rfl|hb
   ·generalize us 0=u0 at h0
    cases h0 with
    |pid _ _ _ us hp _ _=>exact hp
   ·exact ih h1 b hb
theorem kH.nodup{a:AV}{ids:List Nat}(h:kH a ids):ids.Nodup:=by
 induction h with
 |nil=>simp
 |cons hm h ih=>exact List.nodup_cons.2 ⟨hm,ih⟩
theorem Af(a b:AV)(S:Nat->Prop)(R:AV->Prop):B9 Le cfg eA (cC eA) [.agg [.x a,.x b]] S (fun o=>aK o 7) R =
 .ai (LK.has .ptr a/\a.isNil=false) (.ai (LK.has .ptr a/\a.isNil=false) (.ai (LK.has .ptr ((a.deref.drop 3).headD .any)/\1<=(a.deref.drop 3).length)
  (.ai (∀ids:Nat->Nat,(∀o,¬S (ids o))->(True/\R (.cG [.agg [(a.deref.drop 3).headD .any,.ptr [.pid (ids 7) [a,b],b]],.pid (ids 7) [a,b]]))) (.done 0 [] [])))):=by kernel_rfl
def CF(t:Ty)(ea:AV)(ids:List Nat):AV->List Ob->Prop:=fun r o=>(∃m,m∉ids/\r=.cG [.agg [t.av,.ptr [.pid m [(Ty.rc t).av,ea],ea]],.pid m [(Ty.rc t).av,ea]])/\o=[]
theorem CF.ne(t:Ty)(ea:AV)(ids:List Nat):∃r o,CF t ea ids r o:=by
 have:∃m,m∉ids:=⟨ids.foldr max 0+1,fun h=>by
  have key:∀(l:List Nat) (x:Nat),x∈l->x<=l.foldr max 0:=by
   intro l
   induction l with
   |nil=>intro x hx;cases hx
   |
    cons y l ih =>
    intro x hx
    rcases aL.1 hx with rfl|hx
    ·simp only[List.foldr_cons];omega
    ·have:=ih x hx;simp only[List.foldr_cons];omega
  have:=key _ _ h
  omega⟩
 obtain⟨m,hm⟩:=this
 exact⟨_,_,⟨m,hm,rfl⟩,rfl⟩
theorem Df(t:Ty)(ea:AV)(ids:List Nat)(he:kH ea ids):an Tryz.prog 77 [.agg [(Ty.rc t).av,ea]] [] (CF t ea ids):=by
 have hup:wP [.agg [(Ty.rc t).av,ea]] [.agg [.x (Ty.rc t).av,.x ea]]:=ah (bZ (ah (bB ((aE _).mpr trivial)) (ah (bB he.has) aC))) aC
 refine an.up hup ?_
 refine an.Tj (cfg:=cfg) (F:=eA) (S:=fun b=>b∈ids) (sel:=fun o=>aK o 7) uy mixed (by kernel_rfl) (by kernel_rfl) (c:=cC eA) (by kernel_rfl) (by kernel_rfl) (fun M β vs hr b hb=>?_) ?_
 ·have h0:=hr 0 (by simp)
  simp only[bq]at h0
  obtain⟨us,_,hl,hq,_⟩:=fY h0
  have h1:=hq 1 (by simp at hl |-)
  simp only[List.getD_cons_succ,bq]at h1
  cases h1 with
  |x _ _ _ _ h=>exact he.Ts h b hb
 ·rw[Af]
  simp only[Ty.av,↓zq,zs,ae,aE]
  exact⟨by omega,fun ids' hf=>⟨ids' 7,hf 7,rfl⟩⟩
theorem LG(u:Nat)(hu:u<1000000):∀(k i:Nat) (ea:AV) (ids:List Nat),i+k=u->kH ea ids->k<=ids.length->Dx [ea,.v (.int .i64 (u:Int)),.v (.int .i64 (i:Int))] [] (fun t ys o=>t=1/\∃e',kH e' (ids.drop k)/\ys=[e']/\o=[])
 |
  0,i,ea,ids,hi,he,hk=>by
  refine Eg _ _ _ ?_
  have:i=u:=by omega
  subst this
  simp only[BR,↓zq,zs,ae]
  exact⟨he.has,fun h=>by omega,fun _=>⟨ea,he,rfl⟩⟩
 |
  k+1,i,ea,ids,hi,he,hk=>by
  refine Eg _ _ _ ?_
  cases he with
  |nil=>simp at hk
  |
   @cons m cs e ids' hm h =>
   simp only[BR,↓zq,zs,ae,h.has]
   refine⟨fun _=>⟨by omega,?_⟩,fun h=>by omega⟩
   rw[bx i (by omega)]
   exact LG u hu k (i+1) e ids' (by omega) h (by simpa using hk)
theorem Rh(u:Nat)(ea:AV)(ids:List Nat)(he:kH ea ids)(hu:u<ids.length)(hl:ids.length<1000000):an Tryz.prog 141 [.agg [(Ty.bound u).av,ea]] [] (fun r o=>(∃cs,r=.pid (ids.getD u 0) cs)/\o=[]):=by
 refine OA _ _ ((aE _).mpr trivial) he.has ?_
 simp only[H5,Ty.av,↓zq,zs,ae,he.has]
 refine⟨by omega,kM (LG u (by omega) u 0 ea ids (by omega) he (by omega)) ?_ (fun ys o h=>by cases h.1)⟩
 rintro ys o ⟨_,e',he',rfl,rfl⟩
 have hd:ids.drop u=ids.getD u 0::ids.drop (u+1):=by
  rw[aU hu];simp[aa,hu]
 rw[hd]at he'
 cases he' with
 |
  @cons m cs e ids' hm h =>
  have hp:LK.has .ptr (AV.pid (ids.getD u 0) cs):=.inr (.inr ⟨_,_,rfl⟩)
  simp only[↓zq,zs,ae,hp]
  exact⟨by omega,cs,rfl⟩
inductive AE:Tg->List Nat->List UInt8->AV->Prop
 |nm (s:List UInt8) (ids:List Nat):AE (.nm s) ids s gH
 |bd {k:Nat} {ids:List Nat} (hk:k<ids.length) (cs:List AV) (s:List UInt8):AE (.bd k) ids s (.pid (ids.getD k 0) cs)
theorem AE.has{tg:Tg}{ids:List Nat}{s:List UInt8}{fr:AV}(h:AE tg ids s fr):LK.has .ptr fr:=by
 cases h
 ·exact(gx).mpr trivial
 ·exact .inr (.inr ⟨_,_,rfl⟩)
theorem AE.push{tg:Tg}{ids:List Nat}{s:List UInt8}{fr:AV}(h:AE tg ids s fr)(m:Nat):AE tg.up (m::ids) s fr:=by
 cases h with
 |nm=>exact .nm _ _
 |
  @bd k _ hk cs =>
  have:=AE.bd (k:=k+1) (ids:=m::ids) (by simpa using hk) cs s
  simpa[Tg.up]using this
theorem zG{ids:List Nat}(h:ids.Nodup){i j:Nat}(hi:i<ids.length)(hj:j<ids.length)(he:ids.getD i 0=ids.getD j 0):i=j:=by
 have e1:ids.getD i 0=ids[i]:=by simp[aa,hi]
 have e2:ids.getD j 0=ids[j]:=by simp[aa,hj]
 rw[e1,e2]at he
 have hp:=List.pairwise_iff_getElem.1 h
 rcases Nat.lt_trichotomy i j with hlt|rfl|hlt
 ·exact absurd he (hp i j hi hj hlt)
 ·rfl
 ·exact absurd he.symm (hp j i hj hi hlt)
theorem Rz(t:Ty)(tg:Tg)(ea:AV)(ids:List Nat)(s:List UInt8)(fr:AV)(he:kH ea ids)(ht:AE tg ids s fr)(hu:∀u,t=.bound u->u<ids.length)(hl:ids.length<1000000) :
 an Tryz.prog 110 [.agg [.v (.string (mk s)),fr],.agg [t.av,ea]] [] (bM (.v (.bool (eF t tg)))):=by
 refine Rx _ _ _ _ ht.has ((aE _).mpr trivial) he.has ?_
 cases ht with
 |
  nm s =>
  cases t<;>simp[DZ,Ty.av,↓zq,zs,ae,zt,bM,eF]
  rw[cy];simp
 |
  @bd k _ hk cs s =>
  generalize hm0:ids.getD k 0=m0
  have hp:LK.has .ptr (AV.pid m0 cs):=.inr (.inr ⟨_,_,rfl⟩)
  have hn:(AV.pid m0 cs).isNil=false:=rfl
  cases t with
  |
   bound u =>
   have hu:=hu u rfl
   simp only[DZ,Ty.av,↓zq,zs,ae,hp,hn]
   refine⟨fun _=>⟨by omega,fun _=>?_,fun h=>absurd rfl h⟩,fun h=>by cases h⟩
   have hb:=Rh u ea ids he hu hl
   simp only[Ty.av]at hb
   refine aP hb ⟨_,_,⟨[],rfl⟩,rfl⟩ ?_
   rintro r o ⟨⟨cs',rfl⟩,rfl⟩
   have hp':LK.has .ptr (AV.pid (ids.getD u 0) cs'):=.inr (.inr ⟨_,_,rfl⟩)
   simp only[↓zq,zs,ae,hp',AV.rS,AV.Cg,bM,eF]
   congr 2
   rw[cy,Nat.beq_eq,decide_eq_true_eq,<-hm0]
   exact⟨fun h=>zG he.nodup hu hk h,fun h=>by rw[h]⟩
  |_=>simp[DZ,Ty.av,↓zq,zs,ae,hp,hn,bM,eF]
end Go.Proofs.Trees
namespace Go.Proofs.Trees
open Go Go.VL Go.RowKit
theorem zV(b:Int)(a:AV)(h:LK.ptr.has a):an Tryz.prog 78 [.v (.int .u8 b),a] [] (bM (.ptr [.v (.int .u8 b),.v (.string (mk [])),a,gH])):=by
 refine S0 _ _ h ?_
 simp[Nv,↓zq,zs,ae,bM]
end Go.Proofs.Trees
namespace Go.Proofs.Trees
open Go Go.VL Go.RowKit
def gJ(l:List Hl):List (List AV):=l.map fun h=>[h.1.cE,h.2.cE]
theorem ep(l:List Hl):(gJ l).length=l.length:=by simp[gJ]
theorem lE{l:List Hl}{i:Nat}(hi:i<l.length):(gJ l).getD i []=[(l[i]).1.cE,(l[i]).2.cE]:=by simp[gJ,aa,hi]
theorem oC(out:List Hl)(a b:Vl):gJ out++[[a.cE,b.cE]]=gJ (out++[(a,b)]):=by simp[gJ]
theorem gq(g:Vl->Vl)(l:List Hl){i:Nat}(hi:i<l.length):iH g (l.drop i)=(g (l[i]).1,(l[i]).2)::iH g (l.drop (i+1)):=by
 rw[aU hi];rfl
theorem fS(g:Vl->Vl)(l:List Hl):(iH g l).length=l.length:=by simp[iH]
theorem Cw(a b:AV):cD 2 [[a,b]]:=fun c hc=>by simp at hc;rw[hc];rfl
theorem Jm(x0:AV)(hx0:LK.ptr.has x0)(g:Vl->Vl)(hg:∀c:Vl,an Tryz.prog 112 [c.cE,.ref 0 0] [.cells [x0]] (df (g c).cE [.cells [x0]]))(l:List Hl):∀(k i:Nat) (out:List Hl),i+k=l.length->out.length+k<=1000000->l.length<=1000000 ->
 GW [.sl (gJ l),.v (.int .i64 (l.length:Int)),.v (.int .i64 (i:Int))] [.cells [x0],.cells [.any],.vec 2 (gJ out)] (gZ 1 [] [.cells [x0],.cells [.any],.vec 2 (gJ (out++iH g (l.drop i)))])
 |
  0,i,out,hi,ho,hl=>by
  refine Kq _ _ _ _ _ ?_
  have:i=l.length:=by omega
  subst this
  simp only[H3,↓zq,zs,ae,ep,hx0]
  exact⟨fun h=>by omega,fun _=>by simp[gZ,iH]⟩
 |
  k+1,i,out,hi,ho,hl=>by
  have hlt:i<l.length:=by omega
  refine Kq _ _ _ _ _ ?_
  simp only[H3,↓zq,zs,ae,zt,ep,lE hlt,aN,bK,hx0]
  refine⟨fun _=>⟨by omega,by omega,?_⟩,fun h=>by omega⟩
  refine aV (hg _) ?_
  simp only[↓zq,zs,ae,aN,aI,bM,df,hx0]
  refine⟨⟨Cw _ _,by omega⟩,?_⟩
  rw[bx i (by omega)]
  have:=Jm x0 hx0 g hg l k (i+1) (out++[(g (l[i]).1,(l[i]).2)]) (by omega) (by simp;omega) hl
  rw[a8]at this
  rw[gq g l hlt,oC]
  exact this
theorem Jk(x0:AV)(hx0:LK.ptr.has x0)(g:Vl->Vl)(hg:∀c:Vl,an Tryz.prog 112 [c.cE,.ref 0 0] [.cells [x0]] (df (g c).cE [.cells [x0]]))(l out:List Hl)(hl:out.length+l.length<=1000000) :
 an Tryz.prog 111 [.sl (gJ l),.fn 112 [.ref 0 0],.ref 1 0] [.cells [x0],.cells [.vec 2],.vec 2 (gJ out)] (df .any [.cells [x0],.cells [.vec 2],.vec 2 (gJ (out++iH g l))]):=by
 refine Sq _ _ _ ((cg _).mpr trivial) hx0 ?_
 simp only[LB,↓zq,zs,ae,ep]
 have h:=Jm x0 hx0 g hg l l.length 0 out (by omega) (by omega) (by omega)
 rw[bf]at h
 refine cA h ?_
 simp[↓zq,zs,ae,df,aI,hx0]
theorem Na(x0:AV)(hx0:LK.ptr.has x0)(g:Vl->Vl)(hg:∀c:Vl,an Tryz.prog 113 [c.cE,.ref 0 0] [.cells [x0]] (df (g c).cE [.cells [x0]]))(l:List Hl):∀(k i:Nat) (out:List Hl),i+k=l.length->out.length+k<=1000000->l.length<=1000000 ->
 HK [.sl (gJ l),.v (.int .i64 (l.length:Int)),.v (.int .i64 (i:Int))] [.cells [x0],.cells [.any],.vec 2 (gJ out)] (gZ 1 [] [.cells [x0],.cells [.any],.vec 2 (gJ (out++iH g (l.drop i)))])
 |
  0,i,out,hi,ho,hl=>by
  refine I5 _ _ _ _ _ ?_
  have:i=l.length:=by omega
  subst this
  simp only[Gu,↓zq,zs,ae,ep,hx0]
  exact⟨fun h=>by omega,fun _=>by simp[gZ,iH]⟩
 |
  k+1,i,out,hi,ho,hl=>by
  have hlt:i<l.length:=by omega
  refine I5 _ _ _ _ _ ?_
  simp only[Gu,↓zq,zs,ae,zt,ep,lE hlt,aN,bK,hx0]
  refine⟨fun _=>⟨by omega,by omega,?_⟩,fun h=>by omega⟩
  refine aV (hg _) ?_
  simp only[↓zq,zs,ae,aN,aI,bM,df,hx0]
  refine⟨⟨Cw _ _,by omega⟩,?_⟩
  rw[bx i (by omega)]
  have:=Na x0 hx0 g hg l k (i+1) (out++[(g (l[i]).1,(l[i]).2)]) (by omega) (by simp;omega) hl
  rw[a8]at this
  rw[gq g l hlt,oC]
  exact this
theorem Q3(x0:AV)(hx0:LK.ptr.has x0)(g:Vl->Vl)(hg:∀c:Vl,an Tryz.prog 113 [c.cE,.ref 0 0] [.cells [x0]] (df (g c).cE [.cells [x0]]))(l out:List Hl)(hl:out.length+l.length<=1000000) :
 an Tryz.prog 111 [.sl (gJ l),.fn 113 [.ref 0 0],.ref 1 0] [.cells [x0],.cells [.vec 2],.vec 2 (gJ out)] (df .any [.cells [x0],.cells [.vec 2],.vec 2 (gJ (out++iH g l))]):=by
 refine R4 _ _ _ ((cg _).mpr trivial) hx0 ?_
 simp only[KD,↓zq,zs,ae,ep]
 have h:=Na x0 hx0 g hg l l.length 0 out (by omega) (by omega) (by omega)
 rw[bf]at h
 refine cA h ?_
 simp[↓zq,zs,ae,df,aI,hx0]
theorem KS(x0:AV)(hx0:LK.ptr.has x0)(g:Vl->Vl)(hg:∀c:Vl,an Tryz.prog 114 [c.cE,.ref 0 0] [.cells [x0]] (df (g c).cE [.cells [x0]]))(l:List Hl):∀(k i:Nat) (out:List Hl),i+k=l.length->out.length+k<=1000000->l.length<=1000000 ->
 Ii [.sl (gJ l),.v (.int .i64 (l.length:Int)),.v (.int .i64 (i:Int))] [.cells [x0],.cells [.any],.vec 2 (gJ out)] (gZ 1 [] [.cells [x0],.cells [.any],.vec 2 (gJ (out++iH g (l.drop i)))])
 |
  0,i,out,hi,ho,hl=>by
  refine KT _ _ _ _ _ ?_
  have:i=l.length:=by omega
  subst this
  simp only[HI,↓zq,zs,ae,ep,hx0]
  exact⟨fun h=>by omega,fun _=>by simp[gZ,iH]⟩
 |
  k+1,i,out,hi,ho,hl=>by
  have hlt:i<l.length:=by omega
  refine KT _ _ _ _ _ ?_
  simp only[HI,↓zq,zs,ae,zt,ep,lE hlt,aN,bK,hx0]
  refine⟨fun _=>⟨by omega,by omega,?_⟩,fun h=>by omega⟩
  refine aV (hg _) ?_
  simp only[↓zq,zs,ae,aN,aI,bM,df,hx0]
  refine⟨⟨Cw _ _,by omega⟩,?_⟩
  rw[bx i (by omega)]
  have:=KS x0 hx0 g hg l k (i+1) (out++[(g (l[i]).1,(l[i]).2)]) (by omega) (by simp;omega) hl
  rw[a8]at this
  rw[gq g l hlt,oC]
  exact this
theorem Ri(x0:AV)(hx0:LK.ptr.has x0)(g:Vl->Vl)(hg:∀c:Vl,an Tryz.prog 114 [c.cE,.ref 0 0] [.cells [x0]] (df (g c).cE [.cells [x0]]))(l out:List Hl)(hl:out.length+l.length<=1000000) :
 an Tryz.prog 111 [.sl (gJ l),.fn 114 [.ref 0 0],.ref 1 0] [.cells [x0],.cells [.vec 2],.vec 2 (gJ out)] (df .any [.cells [x0],.cells [.vec 2],.vec 2 (gJ (out++iH g l))]):=by
 refine QW _ _ _ ((cg _).mpr trivial) hx0 ?_
 simp only[OR,↓zq,zs,ae,ep]
 have h:=KS x0 hx0 g hg l l.length 0 out (by omega) (by omega) (by omega)
 rw[bf]at h
 refine cA h ?_
 simp[↓zq,zs,ae,df,aI,hx0]
theorem Lr(g:Vl->Vl)(hg:∀c:Vl,an Tryz.prog 115 [c.cE] [] (bM (g c).cE))(l:List Hl):∀(k i:Nat) (out:List Hl),i+k=l.length->out.length+k<=1000000->l.length<=1000000 ->
 Fx [.v (.func (.func 115) #[] #[]),.sl (gJ l),.v (.int .i64 (l.length:Int)),.v (.int .i64 (i:Int))] [.cells [.any],.vec 2 (gJ out)] (gZ 1 [] [.cells [.any],.vec 2 (gJ (out++iH g (l.drop i)))])
 |
  0,i,out,hi,ho,hl=>by
  refine KZ _ _ _ _ ?_
  have:i=l.length:=by omega
  subst this
  simp only[HJ,↓zq,zs,ae,ep]
  exact⟨fun h=>by omega,fun _=>by simp[gZ,iH]⟩
 |
  k+1,i,out,hi,ho,hl=>by
  have hlt:i<l.length:=by omega
  refine KZ _ _ _ _ ?_
  simp only[HJ,↓zq,zs,ae,zt,ep,lE hlt,aN,bK]
  refine⟨fun _=>⟨by omega,by omega,?_⟩,fun h=>by omega⟩
  refine aj (hg _) ?_
  simp only[↓zq,zs,ae,aN,aI,bM,df]
  refine⟨⟨Cw _ _,by omega⟩,?_⟩
  rw[bx i (by omega)]
  have:=Lr g hg l k (i+1) (out++[(g (l[i]).1,(l[i]).2)]) (by omega) (by simp;omega) hl
  rw[a8]at this
  rw[gq g l hlt,oC]
  exact this
theorem QR(g:Vl->Vl)(hg:∀c:Vl,an Tryz.prog 115 [c.cE] [] (bM (g c).cE))(l out:List Hl)(hl:out.length+l.length<=1000000) :
 an Tryz.prog 111 [.sl (gJ l),.v (.func (.func 115) #[] #[]),.ref 0 0] [.cells [.vec 1],.vec 2 (gJ out)] (df .any [.cells [.vec 1],.vec 2 (gJ (out++iH g l))]):=by
 refine Sy _ _ ((cg _).mpr trivial) ?_
 simp only[N8,↓zq,zs,ae,ep]
 have h:=Lr g hg l l.length 0 out (by omega) (by omega) (by omega)
 rw[bf]at h
 refine cA h ?_
 simp[↓zq,zs,ae,df,aI]
theorem Ka(x0:AV)(x1:AV)(hx0:LK.ptr.has x0)(hx1:LK.ptr.has x1)(g:Vl->Vl)(hg:∀c:Vl,an Tryz.prog 116 [c.cE,.ref 0 0] [.cells [x0,x1]] (df (g c).cE [.cells [x0,x1]]))(l:List Hl):∀(k i:Nat) (out:List Hl),i+k=l.length->out.length+k<=1000000->l.length<=1000000 ->
 H9 [.sl (gJ l),.v (.int .i64 (l.length:Int)),.v (.int .i64 (i:Int))] [.cells [x0,x1],.cells [.any],.vec 2 (gJ out)] (gZ 1 [] [.cells [x0,x1],.cells [.any],.vec 2 (gJ (out++iH g (l.drop i)))])
 |
  0,i,out,hi,ho,hl=>by
  refine LW _ _ _ _ _ _ ?_
  have:i=l.length:=by omega
  subst this
  simp only[G7,↓zq,zs,ae,ep,hx0,hx1]
  exact⟨fun h=>by omega,fun _=>by simp[gZ,iH]⟩
 |
  k+1,i,out,hi,ho,hl=>by
  have hlt:i<l.length:=by omega
  refine LW _ _ _ _ _ _ ?_
  simp only[G7,↓zq,zs,ae,zt,ep,lE hlt,aN,bK,hx0,hx1]
  refine⟨fun _=>⟨by omega,by omega,?_⟩,fun h=>by omega⟩
  refine aV (hg _) ?_
  simp only[↓zq,zs,ae,aN,aI,bM,df,hx0,hx1]
  refine⟨⟨Cw _ _,by omega⟩,?_⟩
  rw[bx i (by omega)]
  have:=Ka x0 x1 hx0 hx1 g hg l k (i+1) (out++[(g (l[i]).1,(l[i]).2)]) (by omega) (by simp;omega) hl
  rw[a8]at this
  rw[gq g l hlt,oC]
  exact this
theorem PT(x0:AV)(x1:AV)(hx0:LK.ptr.has x0)(hx1:LK.ptr.has x1)(g:Vl->Vl)(hg:∀c:Vl,an Tryz.prog 116 [c.cE,.ref 0 0] [.cells [x0,x1]] (df (g c).cE [.cells [x0,x1]]))(l out:List Hl)(hl:out.length+l.length<=1000000) :
 an Tryz.prog 111 [.sl (gJ l),.fn 116 [.ref 0 0],.ref 1 0] [.cells [x0,x1],.cells [.vec 2],.vec 2 (gJ out)] (df .any [.cells [x0,x1],.cells [.vec 2],.vec 2 (gJ (out++iH g l))]):=by
 refine Rg _ _ _ _ ((cg _).mpr trivial) hx0 hx1 ?_
 simp only[Nn,↓zq,zs,ae,ep]
 have h:=Ka x0 x1 hx0 hx1 g hg l l.length 0 out (by omega) (by omega) (by omega)
 rw[bf]at h
 refine cA h ?_
 simp[↓zq,zs,ae,df,aI,hx0,hx1]
theorem Q9(w c:Vl):an Tryz.prog 112 [c.cE,.ref 0 0] [.cells [(Vl.l w).cE]] (df (Vl.l c).cE [.cells [(Vl.l w).cE]]):=by
 refine NY _ _ ((aN _).mpr trivial) ((aN _).mpr trivial) ?_
 simp only[Iq,Vl.cE,↓zq,zs,ae,aN]
 refine⟨by omega,?_⟩
 refine aj (zV _ _ ((aN _).mpr trivial)) ?_
 simp[↓zq,zs,ae,df,Vl.cE]
theorem QX(w c:Vl):an Tryz.prog 112 [c.cE,.ref 0 0] [.cells [(Vl.r w).cE]] (df (Vl.r c).cE [.cells [(Vl.r w).cE]]):=by
 refine NY _ _ ((aN _).mpr trivial) ((aN _).mpr trivial) ?_
 simp only[Iq,Vl.cE,↓zq,zs,ae,aN]
 refine⟨by omega,?_⟩
 refine aj (zV _ _ ((aN _).mpr trivial)) ?_
 simp[↓zq,zs,ae,df,Vl.cE]
theorem Se(x y c:Vl):an Tryz.prog 113 [c.cE,.ref 0 0] [.cells [(Vl.p x y).cE]] (df (Vl.l (.p c y)).cE [.cells [(Vl.p x y).cE]]):=by
 refine SY _ _ ((aN _).mpr trivial) ((aN _).mpr trivial) ?_
 simp only[MH,Vl.cE,↓zq,zs,ae,aN]
 refine⟨by omega,?_⟩
 refine aj (Am _ _ ((aN _).mpr trivial) ((aN _).mpr trivial)) ?_
 simp only[↓zq,zs,ae]
 refine aj (zV _ _ ((cb _).mpr trivial)) ?_
 simp[↓zq,zs,ae,df,Vl.cE]
theorem RJ(x y c:Vl):an Tryz.prog 114 [c.cE,.ref 0 0] [.cells [(Vl.p x y).cE]] (df (Vl.r (.p x c)).cE [.cells [(Vl.p x y).cE]]):=by
 refine PG _ _ ((aN _).mpr trivial) ((aN _).mpr trivial) ?_
 simp only[J1,Vl.cE,↓zq,zs,ae,aN]
 refine⟨by omega,?_⟩
 refine aj (Am _ _ ((aN _).mpr trivial) ((aN _).mpr trivial)) ?_
 simp only[↓zq,zs,ae]
 refine aj (zV _ _ ((cb _).mpr trivial)) ?_
 simp[↓zq,zs,ae,df,Vl.cE]
theorem S2(kc kv c:Vl):an Tryz.prog 116 [c.cE,.ref 0 0] [.cells [kc.cE,kv.cE]] (df (Vl.f (.r (.p kc c))).cE [.cells [kc.cE,kv.cE]]):=by
 refine R5 _ _ _ ((aN _).mpr trivial) ((aN _).mpr trivial) ((aN _).mpr trivial) ?_
 simp only[JT,Vl.cE,↓zq,zs,ae,aN]
 refine aj (Am _ _ ((aN _).mpr trivial) ((aN _).mpr trivial)) ?_
 simp only[↓zq,zs,ae]
 refine aj (zV _ _ ((cb _).mpr trivial)) ?_
 simp only[↓zq,zs,ae]
 refine aj (zV _ _ ((cb _).mpr trivial)) ?_
 simp[↓zq,zs,ae,df,Vl.cE,aN]
theorem Sw(c:Vl):an Tryz.prog 115 [c.cE] [] (bM (Vl.f (.l c)).cE):=by
 refine Qc _ ((aN _).mpr trivial) ?_
 simp only[Lm,↓zq,zs,ae]
 refine aj (zV _ _ ((aN _).mpr trivial)) ?_
 simp only[↓zq,zs,ae]
 refine aj (zV _ _ ((cb _).mpr trivial)) ?_
 simp[↓zq,zs,ae,bM,Vl.cE]
end Go.Proofs.Trees
namespace Go.Proofs.Trees
open Go Go.VL Go.RowKit
abbrev AH(a:Ty)(tg:Tg):Hl->List Hl:=fun h=>iH (fun c=>.f (.r (.p h.1 c))) (ck (.rc a) tg h.2)
theorem B8(l:List Hl){i:Nat}(hi:i<l.length):l[i]∈l:=bD _
def Ge(t:Ty)(ea:AV)(s:List UInt8)(fr:AV)(tg:Tg)(v:Vl):Prop:=an Tryz.prog 80 [.agg [t.av,ea],v.cE,.agg [.v (.string (mk s)),fr]] [] (bM (.sl (gJ (ck t tg v))))
theorem JR(a:Ty)(ea:AV)(s:List UInt8)(fr:AV)(tg:Tg)(he:LK.ptr.has ea)(hf:LK.ptr.has fr)(l:List Hl)(hl:l.length<=1000000)(ih:∀h,h∈l->Ge (.rc a) ea s fr tg h.2) :
 ∀(k i:Nat) (out:List Hl),i+k=l.length->(out++(l.drop i).flatMap (AH a tg)).length<=1000000 ->
 GD [.sl (gJ l),.v (.int .i64 (l.length:Int)),.v (.int .i64 (i:Int))] [.cells [(Ty.rc a).av,ea],.cells [.v (.string (mk s)),fr],.cells [.any],.vec 2 (gJ out)] (gZ 1 [] [.cells [.any],.vec 2 (gJ (out++(l.drop i).flatMap (AH a tg)))])
 |
  0,i,out,hi,ho=>by
  refine L0 _ _ _ _ _ _ _ _ ?_
  have:i=l.length:=by omega
  subst this
  simp only[G3,↓zq,zs,ae,ep,aE,he,hf]
  exact⟨fun h=>by omega,fun _=>by simp[gZ]⟩
 |
  k+1,i,out,hi,ho=>by
  have hlt:i<l.length:=by omega
  have hd:(l.drop i).flatMap (AH a tg)=AH a tg (l[i])++(l.drop (i+1)).flatMap (AH a tg):=by rw[aU hlt,List.flatMap_cons]
  rw[hd]at ho |-
  refine L0 _ _ _ _ _ _ _ _ ?_
  simp only[G3,↓zq,zs,ae,zt,ep,lE hlt,aE,aN,bK,he,hf]
  refine⟨fun _=>⟨by omega,by omega,?_⟩,fun h=>by omega⟩
  refine aj (ih _ (B8 l hlt)) ?_
  simp only[↓zq,zs,ae]
  have hb:out.length+(ck (.rc a) tg (l[i]).2).length<=1000000:=by
   simp only[aq,fS]at ho;omega
  refine aV (PT _ _ ((aN _).mpr trivial) ((aN _).mpr trivial) (fun c=>.f (.r (.p (l[i]).1 c))) (fun c=>S2 (l[i]).1 (l[i]).2 c) (ck (.rc a) tg (l[i]).2) out hb) ?_
  simp only[↓zq,zs,ae,aI,aN]
  rw[bx i (by omega),<-a8]
  exact JR a ea s fr tg he hf l hl ih k (i+1) _ (by omega) (by rw[a8];exact ho)
end Go.Proofs.Trees
