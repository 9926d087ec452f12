/-
  Part of a proof: Go functions read by values, trees of functions, their contracts.
-/
import Derived.Test.YthcjhageibaepaaGreatDoorP4
import Derived.Test.YthcjhageibaepaaGreatDoorProg
import Derived.Lib.Atoi
set_option linter.unusedVariables false
set_option linter.unusedSimpArgs false
open And renaming intro→aH
open Bool renaming and_eq_true→aw,eq_iff_iff→cy,or_eq_false_iff→cj,or_eq_true→bC,true_and→bX
open ByteArray renaming extract→cq,size→ag,toList→af
open Int renaming tmod→dF,toNat→bL,toNat_natCast→bH
open List renaming all_cons→cZ,any_eq_true→cr,append_assoc→ba,append_nil→cX,drop_eq_getElem_cons→aU,drop_eq_nil_of_le→bV,drop_zero→bf,eq_nil_of_length_eq_zero→bR,getD_cons_zero→bq,getD_eq_getElem?_getD→aa,getElem?_eq_getElem→bp,getElem_mem→bD,headD_cons→aO,length_append→aq,length_cons→aA,length_drop→cx,length_nil→aG,map_cons→bE,mem_append→aN,mem_append_left→aD,mem_cons→aK,mem_cons_of_mem→al,mem_cons_self→ak,mem_map→bO,mem_singleton→aR,nil_append→aT
open Nat renaming beq→aI,le_add_right→da,le_refl→au,mul_add→cT,mul_one→dG,zero_add→aW,zero_le→dO
open Option renaming bind_eq_some_iff→a7,isSome_iff_exists→bU,isSome_none→bu,map_some→cg
open UInt8 renaming ofNat→bj
namespace Go.Proofs.Trees
open Go Go.VL
noncomputable section
variable {R:AV->List Ob->Prop}{U:RL}
def Kk(a0_0:ByteArray)(a0_1:AV)(a1:ByteArray):Tree :=
 .call 65 [.agg [VS a0_0,a0_1],.sl [[VS a1,.v (.slice none 0 0)]]] [] fun r1 o1=>NA r1<|NG (r1.cs.getD 1 .any) 1 2<|kH ((r1.cs.getD 1 .any).ix (1:Int))<|NG (r1.cs.getD 1 .any) 2 2<|NE ((r1.cs.getD 1 .any).ix (2:Int))<|.call 122 [.agg [VS ((((r1.cs.getD 1 .any).ix (2:Int)).getD 0 .any).toStr),(((r1.cs.getD 1 .any).ix (2:Int)).getD 1 .any)],VS a1] [] fun r2 o2=>NT r2<|.aj ((r2.comp 0)=.agg (r2.comp 0).cs/\(r2.comp 0).cs.length=2/\bF [.str,.sl] ((r2.comp 0).cs) 0)<|NB (r2.comp 1)<|NG (r1.cs.getD 1 .any) 2 2<|NE ((r1.cs.getD 1 .any).ix (2:Int))<|.call 122 [.agg [VS ((((r1.cs.getD 1 .any).ix (2:Int)).getD 0 .any).toStr),(((r1.cs.getD 1 .any).ix (2:Int)).getD 1 .any)],VS ((((r1.cs.getD 1 .any).ix (1:Int)).hA).toStr)] [] fun r3 o3=>NT r3<|.aj ((r3.comp 0)=.agg (r3.comp 0).cs/\(r3.comp 0).cs.length=2/\bF [.str,.sl] ((r3.comp 0).cs) 0)<|NB (r3.comp 1)<|.test (!((r2.comp 1).toBool)) (.done 0 [.cG [.agg [VS ((r1.cs.getD 0 .any).toStr),(r1.cs.getD 1 .any)],VB false]] []) (.test (!((r3.comp 1).toBool)) (.done 0 [.cG [.agg [VS ((r1.cs.getD 0 .any).toStr),(r1.cs.getD 1 .any)],VB false]] []) (.call 123 [.agg [VS (((r2.comp 0).cs.getD 0 .any).toStr),((r2.comp 0).cs.getD 1 .any)],VS ((((r1.cs.getD 1 .any).ix (1:Int)).hA).toStr),.agg [VS ((r1.cs.getD 0 .any).toStr),(r1.cs.getD 1 .any)]] [] fun r4 o4=>NT r4<|.aj ((r4.comp 0)=.agg (r4.comp 0).cs/\(r4.comp 0).cs.length=2/\bF [.str,.sl] ((r4.comp 0).cs) 0)<|NB (r4.comp 1)<|.call 123 [.agg [VS (((r3.comp 0).cs.getD 0 .any).toStr),((r3.comp 0).cs.getD 1 .any)],VS ((((r1.cs.getD 1 .any).ix (1:Int)).hA).toStr),.agg [VS ((r1.cs.getD 0 .any).toStr),(r1.cs.getD 1 .any)]] [] fun r5 o5=>NT r5<|.aj ((r5.comp 0)=.agg (r5.comp 0).cs/\(r5.comp 0).cs.length=2/\bF [.str,.sl] ((r5.comp 0).cs) 0)<|NB (r5.comp 1)<|.test (!((r4.comp 1).toBool)) (.done 0 [.cG [.agg [VS ((r1.cs.getD 0 .any).toStr),(r1.cs.getD 1 .any)],VB false]] []) (.test (!((r5.comp 1).toBool)) (.done 0 [.cG [.agg [VS ((r1.cs.getD 0 .any).toStr),(r1.cs.getD 1 .any)],VB false]] []) (.call 84 [.agg [VS (((r5.comp 0).cs.getD 0 .any).toStr),((r5.comp 0).cs.getD 1 .any)],.sl [],.vec 0] [.vec 1 []] fun r6 o6=>.aj (r6=.vec 1/\(o6.tail.hO)=.vec 1 (o6.tail.hO).es)<|.call 84 [.agg [VS (((r4.comp 0).cs.getD 0 .any).toStr),((r4.comp 0).cs.getD 1 .any)],.sl [],.vec 0] [.vec 1 ((o6.tail.hO).es)] fun r7 o7=>.aj (r7=.vec 1/\(o7.tail.hO)=.vec 1 (o7.tail.hO).es)<|.loop MY GS [VI 0] [.cells [VS (mk []),.v (.slice none 0 0)],.cells [VS (((r4.comp 0).cs.getD 0 .any).toStr),((r4.comp 0).cs.getD 1 .any)],.cells [VS (((r5.comp 0).cs.getD 0 .any).toStr),((r5.comp 0).cs.getD 1 .any)],.vec 1 ((o7.tail.hO).es)] (fun y10 q10=>NI (y10.hA)<|.aj ((q10.hO)=.cells (q10.hO).cs)<|.aj (ae [.lk .str,.lk .sl] ((q10.hO).cs) 0 q10.tail)<|.aj (((q10.tail.drop 0).hO)=.cells ((q10.tail.drop 0).hO).cs)<|.aj (ae [.lk .str,.lk .sl] (((q10.tail.drop 0).hO).cs) 0 ((q10.tail.drop 0).tail))<|.aj ((((q10.tail.drop 0).tail.drop 0).hO)=.cells (((q10.tail.drop 0).tail.drop 0).hO).cs)<|.aj (ae [.lk .str,.lk .sl] ((((q10.tail.drop 0).tail.drop 0).hO).cs) 0 (((q10.tail.drop 0).tail.drop 0).tail))<|.call 90 [VI ((y10.hA).toInt)] [] fun r11 o11=>NS r11<|.aj (ag (mk [116])+ag r11.toStr<=9223372036854775807)<|.call 81 [VS (mk [42]),.sl [[VS (((q10.tail.tail.hO).cs.getD 0 .any).toStr),((q10.tail.tail.hO).cs.getD 1 .any)],[VS (((mk [116]):ByteArray)++r11.toStr),.v (.slice none 0 0)]]] [] fun r12 o12=>NA r12<|.call 81 [VS (mk [43]),.sl [[VS (((q10.tail.hO).cs.getD 0 .any).toStr),((q10.tail.hO).cs.getD 1 .any)],[VS ((r12.cs.getD 0 .any).toStr),(r12.cs.getD 1 .any)]]] [] fun r13 o13=>NA r13<|.call 81 [VS (mk [114,101,99]),.sl [[VS (((mk [116]):ByteArray)++r11.toStr),.v (.slice none 0 0)],[VS ((r13.cs.getD 0 .any).toStr),(r13.cs.getD 1 .any)]]] [] fun r14 o14=>NA r14<|.call 88 [.agg [VS ((r14.cs.getD 0 .any).toStr),(r14.cs.getD 1 .any)]] [] fun r15 o15=>NI r15<|.done 0 [.cG [.agg [VS ((r14.cs.getD 0 .any).toStr),(r14.cs.getD 1 .any)],VB (decide (r15.toInt<=(400:Int)))]] []) (fun y10 q10=>.fail)))))
theorem R4(a0_0:ByteArray)(a0_1:AV)(a1:ByteArray)(ha0_1:LK.has .sl a0_1)(h:dh 108 (Kk a0_0 a0_1 a1) R):an Tryz.prog 147 [.agg [VS a0_0,a0_1],VS a1] [] R :=
 uQ (ah (bY (ah (az _) (ah (bN ha0_1) aC))) (ah (az _) aC)) (oQ I1 Tryz.f147 h)
def MH(x17:Int)(o4_0:ByteArray)(o4_1:AV)(o12_0:ByteArray)(o12_1:AV)(o14_0:ByteArray)(o14_1:AV)(e16:List (List AV)):Tree :=
 NI (VI x17)<|.aj (Ob.cells [VS o4_0,o4_1]=.cells [VS o4_0,o4_1])<|.aj (ae [.lk .str,.lk .sl] [VS o4_0,o4_1] 0 [.cells [VS o12_0,o12_1],.cells [VS o14_0,o14_1],.vec 1 e16])<|.aj (Ob.cells [VS o12_0,o12_1]=.cells [VS o12_0,o12_1])<|.aj (ae [.lk .str,.lk .sl] [VS o12_0,o12_1] 0 [.cells [VS o14_0,o14_1],.vec 1 e16])<|.aj (Ob.cells [VS o14_0,o14_1]=.cells [VS o14_0,o14_1])<|.aj (ae [.lk .str,.lk .sl] [VS o14_0,o14_1] 0 [.vec 1 e16])<|.aj (Ob.vec 1 e16=.vec 1 e16)<|.call 90 [VI x17] [] fun r1 o1=>NS r1<|.aj (ag (mk [116])+ag r1.toStr<=9223372036854775807)<|.call 118 [.sl e16,VS (((mk [116]):ByteArray)++r1.toStr)] [] fun r2 o2=>NB r2<|.test r2.toBool (.done 0 [VI (IntKind.wrap .i64 (x17+1))] [.cells [VS o4_0,o4_1],.cells [VS o12_0,o12_1],.cells [VS o14_0,o14_1],.vec 1 e16]) (.done 1 [VI x17] [.cells [VS o4_0,o4_1],.cells [VS o12_0,o12_1],.cells [VS o14_0,o14_1]])
abbrev GX:=cE Tryz.prog 108 MY GS
theorem Rf(x17:Int)(o4_0:ByteArray)(o4_1:AV)(o12_0:ByteArray)(o12_1:AV)(o14_0:ByteArray)(o14_1:AV)(e16:List (List AV))(h:j8 108 (MH x17 o4_0 o4_1 o12_0 o12_1 o14_0 o14_1 e16) GX U):GX [VI x17] [.cells [VS o4_0,o4_1],.cells [VS o12_0,o12_1],.cells [VS o14_0,o14_1],.vec 1 e16] U :=
 gQ I1 h
def G4:LI:={hd:={bT:=[(0,.k .str),(1,.k (.int .i64)),(6,.k (.int .i64))]},xs:={bT:=[(0,.k .str),(1,.k (.int .i64)),(6,.k (.int .i64))]},rt:={},ex:=0}
def Mo:Code:=cI (cF Tryz.f148) 2
def Ih:LI:={hd:={bT:=[(0,.k .str),(1,.k (.int .i64)),(7,.k .str)],refs:=[(8,48)],cv:=[(48,[.lk .str,.vec 1])]},xs:={},rt:={bT:=[(4,.k .ptr),(5,.k .str)]},ex:=999}
def JW:Code:=cI (cF Tryz.f148) 10
def Gq:List (Nat×LI):=[(2,G4),(10,Ih)]
def GD(a0:ByteArray)(a1:Int):Tree :=
 .loop Mo G4 [VS a0,VI a1,VI 0] [] (fun y2 q2=>NS (y2.hA)<|NI (y2.tail.hA)<|NI (y2.tail.tail.hA)<|.test (decide (((y2.tail.tail.hA).toInt)>(0:Int))) (.aj (0<=(0:Int)/\(0:Int)<=((y2.tail.tail.hA).toInt)/\((y2.tail.tail.hA).toInt)<=(ag ((y2.hA).toStr):Int))<|.aj (0<=((y2.tail.tail.hA).toInt)/\((y2.tail.tail.hA).toInt)<=(ag ((y2.hA).toStr):Int)/\(ag ((y2.hA).toStr):Int)<=(ag ((y2.hA).toStr):Int))<|.done 0 [.cG [.ptr [VS (cq ((y2.hA).toStr) (bL 0) (bL ((y2.tail.tail.hA).toInt))),.v (.slice none 0 0)],VS (cq ((y2.hA).toStr) (bL ((y2.tail.tail.hA).toInt)) (bL (ag ((y2.hA).toStr):Int)))]] []) (.test (af ((y2.hA).toStr)==af (mk [])) (.done 0 [.cG [.v (.pointer none),VS ((y2.hA).toStr)]] []) (.aj (0<=(0:Int)/\(0:Int)<ag ((y2.hA).toStr))<|.test ((bt ((y2.hA).toStr) 0) != (40:Int)) (.done 0 [.cG [.v (.pointer none),VS ((y2.hA).toStr)]] []) (.test (((y2.tail.hA).toInt)==(300:Int)) (.done 0 [.cG [.v (.pointer none),VS ((y2.hA).toStr)]] []) (.aj (0<=(1:Int)/\(1:Int)<=(ag ((y2.hA).toStr):Int)/\(ag ((y2.hA).toStr):Int)<=(ag ((y2.hA).toStr):Int))<|.loop JW Ih [VS ((y2.hA).toStr),VI ((y2.tail.hA).toInt),VS (cq ((y2.hA).toStr) (bL 1) (bL (ag ((y2.hA).toStr):Int)))] [.cells [VS (mk []),.any],.vec 1 []] (fun y5 q5=>.fail) (fun y5 q5=>NP (y5.hA)<|NS (y5.tail.hA)<|.done 0 [.cG [(y5.hA),VS ((y5.tail.hA).toStr)]] [])))))) (fun y2 q2=>.done 0 [.cG [.any,.any]] [])
theorem OP(a0:ByteArray)(a1:Int)(h:dh 84 (GD a0 a1) R):an Tryz.prog 148 [VS a0,VI a1] [] R :=
 uQ (ah (az _) (ah (az _) aC)) (oQ Gq Tryz.f148 h)
def Ha(x0:ByteArray)(x1:Int)(x6:Int):Tree :=
 NS (VS x0)<|NI (VI x1)<|NI (VI x6)<|.test (decide (x6<(ag x0:Int))) (.aj (0<=x6/\x6<ag x0)<|.call 162 [.v (.int .u8 (bt x0 x6))] [] fun r1 o1=>NB r1<|.test r1.toBool (.done 0 [VS x0,VI x1,VI (IntKind.wrap .i64 (x6+1))] []) (.done 1 [VS x0,VI x1,VI x6] [])) (.done 1 [VS x0,VI x1,VI x6] [])
abbrev Iq:=cE Tryz.prog 84 Mo G4
theorem NH(x0:ByteArray)(x1:Int)(x6:Int)(h:j8 84 (Ha x0 x1 x6) Iq U):Iq [VS x0,VI x1,VI x6] [] U :=
 gQ Gq h
def Jg(x0:ByteArray)(x1:Int)(x7:ByteArray)(o48_0:ByteArray)(o48_1:List (List AV)):Tree :=
 NS (VS x0)<|NI (VI x1)<|NS (VS x7)<|.aj (Ob.cells [VS o48_0,.any]=.cells [VS o48_0,.any])<|.aj (ae [.lk .str,.vec 1] [VS o48_0,.any] 0 [.vec 1 o48_1])<|.call 148 [VS x7,VI (IntKind.wrap .i64 (x1+1))] [] fun r1 o1=>NT r1<|NP (r1.comp 0)<|NS (r1.comp 1)<|NP (r1.comp 0)<|.test ((r1.comp 0).isNil) (.done 2 [.v (.pointer none),VS x0] []) (.test (af ((r1.comp 1).toStr)==af (mk [])) (.done 2 [.v (.pointer none),VS x0] []) (.aj (cB 1 [[(r1.comp 0)]]/\((o48_1.length)+([[(r1.comp 0)]]:List (List AV)).length)*8<=140737488355328)<|.aj (0<=(1:Int)/\(1:Int)<=(ag ((r1.comp 1).toStr):Int)/\(ag ((r1.comp 1).toStr):Int)<=(ag ((r1.comp 1).toStr):Int))<|.aj (0<=(0:Int)/\(0:Int)<ag ((r1.comp 1).toStr))<|.test ((bt ((r1.comp 1).toStr) 0)==(41:Int)) (.done 2 [.ptr [VS o48_0,.sl (o48_1++([[(r1.comp 0)]]:List (List AV)))],VS (cq ((r1.comp 1).toStr) (bL 1) (bL (ag ((r1.comp 1).toStr):Int)))] []) (.aj (0<=(0:Int)/\(0:Int)<ag ((r1.comp 1).toStr))<|.test ((bt ((r1.comp 1).toStr) 0) != (32:Int)) (.done 2 [.v (.pointer none),VS x0] []) (.done 0 [VS x0,VI x1,VS (cq ((r1.comp 1).toStr) (bL 1) (bL (ag ((r1.comp 1).toStr):Int)))] [.cells [VS o48_0,.any],.vec 1 (o48_1++([[(r1.comp 0)]]:List (List AV)))]))))
abbrev HA:=cE Tryz.prog 84 JW Ih
theorem QM(x0:ByteArray)(x1:Int)(x7:ByteArray)(o48_0:ByteArray)(o48_1:List (List AV))(h:j8 84 (Jg x0 x1 x7 o48_0 o48_1) HA U):HA [VS x0,VI x1,VS x7] [.cells [VS o48_0,.any],.vec 1 o48_1] U :=
 gQ Gq h
def K5(a0:ByteArray):Tree :=
 .call 163 [VS a0,VS (mk [120,121,122])] [] fun r1 o1=>NB r1<|.done 0 [VB r1.toBool] []
theorem Rg(a0:ByteArray)(h:dh 5 (K5 a0) R):an Tryz.prog 149 [VS a0] [] R :=
 uQ (ah (az _) aC) (oQ [] Tryz.f149 h)
def OY(a0:ByteArray):Tree :=
 .call 163 [VS a0,VS (mk [116])] [] fun r1 o1=>NB r1<|.done 0 [VB r1.toBool] []
theorem Pj(a0:ByteArray)(h:dh 5 (OY a0) R):an Tryz.prog 150 [VS a0] [] R :=
 uQ (ah (az _) aC) (oQ [] Tryz.f150 h)
def BE(a0:AV)(a1:ByteArray)(a2:Int):Tree :=
 NZ a0<|NZ a0<|nt (a0.deref.drop 1)<|NL ((a0.deref.drop 1).hA)<|.test (((((a0.deref.drop 1).hA).elems).length:Int)==a2) (NZ a0<|NZ a0<|nt (a0.deref.drop 1)<|NG ((a0.deref.drop 1).hA) 0 1<|dP (((a0.deref.drop 1).hA).ix (0:Int))<|NZ ((((a0.deref.drop 1).hA).ix (0:Int)).hA)<|NZ ((((a0.deref.drop 1).hA).ix (0:Int)).hA)<|.aj (LK.has .str (((((a0.deref.drop 1).hA).ix (0:Int)).hA).deref.hA)/\1<=(((((a0.deref.drop 1).hA).ix (0:Int)).hA).deref).length)<|.done 0 [VB (af ((((((a0.deref.drop 1).hA).ix (0:Int)).hA).deref.hA).toStr)==af a1)] []) (.done 0 [VB false] [])
theorem Oy(a0:AV)(a1:ByteArray)(a2:Int)(ha0:LK.has .ptr a0)(h:dh 27 (BE a0 a1 a2) R):an Tryz.prog 151 [a0,VS a1,VI a2] [] R :=
 uQ (ah (bB ha0) (ah (az _) (ah (az _) aC))) (oQ [] Tryz.f151 h)
def JN(a0:Int)(a1:AV)(a2:AV):Tree :=
 .done 0 [.ptr [.v (.int .u8 a0),VS (mk []),VI 0,a1,a2]] []
theorem QK(a0:Int)(a1:AV)(a2:AV)(ha1:LK.has .ptr a1)(ha2:LK.has .ptr a2)(h:dh 12 (JN a0 a1 a2) R):an Tryz.prog 153 [.v (.int .u8 a0),a1,a2] [] R :=
 uQ (ah (az _) (ah (bB ha1) (ah (bB ha2) aC))) (oQ [] Tryz.f153 h)
def Ks(a0:AV):Tree :=
 .call 165 [a0,.fn 166 [.ref 0 0]] [.cells [.vec 1],.vec 1 []] fun r1 o1=>.aj ((o1.hO)=.cells (o1.hO).cs)<|.aj (aJ [.vec 1] ((o1.hO).cs) 0 1 o1.tail)<|.done 0 [.sl ((o1.tail.hO).es)] []
theorem Sq(a0:AV)(ha0:LK.has .ptr a0)(h:dh 9 (Ks a0) R):an Tryz.prog 154 [a0] [] R :=
 uQ (ah (bB ha0) aC) (oQ [] Tryz.f154 h)
def Ib:LI:={hd:={bT:=[(0,.k .ptr),(1,.k .sl),(9,.k .str)],refs:=[(3,0),(4,1)],cv:=[(0,[.lk .sl]),(1,[.lk (.int .i64)])],vR:=[(2,155,[none,some 0,some 1])]},xs:={bT:=[(0,.k .ptr),(1,.k .sl),(9,.k .str)],cv:=[(0,[.lk .sl]),(1,[.lk (.int .i64)])],vR:=[(2,155,[none,some 0,some 1])]},rt:={cv:=[(0,[.lk .sl]),(1,[.lk (.int .i64)])]},ex:=1,fx:=[0,1]}
def JZ:Code:=cI (cF Tryz.f155) 12
def Mn:List (Nat×LI):=[(12,Ib)]
def ET(a0:AV)(a1:AV)(a3_0:AV)(a4_0:Int):Tree :=
 NZ a0<|NZ a0<|.aj (LK.has (.int .u8) (a0.deref.hA)/\1<=a0.deref.length)<|.test (((a0.deref.hA).toInt)==(110:Int)) (NZ a0<|NZ a0<|kH (a0.deref.drop 1)<|.done 0 [VS (((a0.deref.drop 1).hA).toStr)] [.cells [a3_0],.cells [VI a4_0]]) (.test (((a0.deref.hA).toInt)==(98:Int)) (NL a1<|NZ a0<|NZ a0<|.aj (LK.has (.int .i64) ((a0.deref.drop 2).hA)/\1<=(a0.deref.drop 2).length)<|.aj (LK.has .sl a1/\0<=(IntKind.wrap .i64 ((IntKind.wrap .i64 ((a1.elems.length:Int)-1))-(((a0.deref.drop 2).hA).toInt)))/\(IntKind.wrap .i64 ((IntKind.wrap .i64 ((a1.elems.length:Int)-1))-(((a0.deref.drop 2).hA).toInt)))<a1.elems.length/\(a1.ix (IntKind.wrap .i64 ((IntKind.wrap .i64 ((a1.elems.length:Int)-1))-(((a0.deref.drop 2).hA).toInt)))).length=1)<|kH (a1.ix (IntKind.wrap .i64 ((IntKind.wrap .i64 ((a1.elems.length:Int)-1))-(((a0.deref.drop 2).hA).toInt))))<|.done 0 [VS (((a1.ix (IntKind.wrap .i64 ((IntKind.wrap .i64 ((a1.elems.length:Int)-1))-(((a0.deref.drop 2).hA).toInt)))).hA).toStr)] [.cells [a3_0],.cells [VI a4_0]]) (.test (((a0.deref.hA).toInt)==(43:Int)) (NZ a0<|NZ a0<|dP (a0.deref.drop 3)<|.call 155 [((a0.deref.drop 3).hA),a1,.gI 155 [none,some 0,some 1],.ref 0 0,.ref 1 0] [.cells [a3_0],.cells [VI a4_0]] fun r1 o1=>.aj ((o1.hO)=.cells (o1.hO).cs)<|.aj (aJ [.lk .sl] ((o1.hO).cs) 0 1 o1.tail)<|.aj ((o1.tail.hO)=.cells (o1.tail.hO).cs)<|.aj (aJ [.lk (.int .i64)] ((o1.tail.hO).cs) 0 2 o1.tail.tail)<|NS r1<|NZ a0<|NZ a0<|.aj (LK.has (.int .u8) (a0.deref.hA)/\1<=a0.deref.length)<|.aj (jA [[.v (.int .u8 ((a0.deref.hA).toInt))]])<|.aj (ag (mk [40])+ag (⟨(bytesOf [[.v (.int .u8 ((a0.deref.hA).toInt))]]).toArray⟩)<=9223372036854775807)<|.aj (ag (((mk [40]):ByteArray)++(⟨(bytesOf [[.v (.int .u8 ((a0.deref.hA).toInt))]]).toArray⟩))+ag (mk [32])<=9223372036854775807)<|.aj (ag (((((mk [40]):ByteArray)++(⟨(bytesOf [[.v (.int .u8 ((a0.deref.hA).toInt))]]).toArray⟩)):ByteArray)++(mk [32]))+ag r1.toStr<=9223372036854775807)<|.aj (ag (((((((mk [40]):ByteArray)++(⟨(bytesOf [[.v (.int .u8 ((a0.deref.hA).toInt))]]).toArray⟩)):ByteArray)++(mk [32])):ByteArray)++r1.toStr)+ag (mk [32])<=9223372036854775807)<|NZ a0<|NZ a0<|dP (a0.deref.drop 4)<|.call 155 [((a0.deref.drop 4).hA),a1,.gI 155 [none,some 0,some 1],.ref 0 0,.ref 1 0] [.cells [((o1.hO).cs.getD 0 .any)],.cells [VI (((o1.tail.hO).cs.getD 0 .any).toInt)]] fun r2 o2=>.aj ((o2.hO)=.cells (o2.hO).cs)<|.aj (aJ [.lk .sl] ((o2.hO).cs) 0 1 o2.tail)<|.aj ((o2.tail.hO)=.cells (o2.tail.hO).cs)<|.aj (aJ [.lk (.int .i64)] ((o2.tail.hO).cs) 0 2 o2.tail.tail)<|NS r2<|.aj (ag (((((((((mk [40]):ByteArray)++(⟨(bytesOf [[.v (.int .u8 ((a0.deref.hA).toInt))]]).toArray⟩)):ByteArray)++(mk [32])):ByteArray)++r1.toStr):ByteArray)++(mk [32]))+ag r2.toStr<=9223372036854775807)<|.aj (ag (((((((((((mk [40]):ByteArray)++(⟨(bytesOf [[.v (.int .u8 ((a0.deref.hA).toInt))]]).toArray⟩)):ByteArray)++(mk [32])):ByteArray)++r1.toStr):ByteArray)++(mk [32])):ByteArray)++r2.toStr)+ag (mk [41])<=9223372036854775807)<|.done 0 [VS (((((((((((((mk [40]):ByteArray)++(⟨(bytesOf [[.v (.int .u8 ((a0.deref.hA).toInt))]]).toArray⟩)):ByteArray)++(mk [32])):ByteArray)++r1.toStr):ByteArray)++(mk [32])):ByteArray)++r2.toStr):ByteArray)++(mk [41]))] [.cells [((o2.hO).cs.getD 0 .any)],.cells [VI (((o2.tail.hO).cs.getD 0 .any).toInt)]]) (.test (((a0.deref.hA).toInt)==(42:Int)) (NZ a0<|NZ a0<|dP (a0.deref.drop 3)<|.call 155 [((a0.deref.drop 3).hA),a1,.gI 155 [none,some 0,some 1],.ref 0 0,.ref 1 0] [.cells [a3_0],.cells [VI a4_0]] fun r3 o3=>.aj ((o3.hO)=.cells (o3.hO).cs)<|.aj (aJ [.lk .sl] ((o3.hO).cs) 0 1 o3.tail)<|.aj ((o3.tail.hO)=.cells (o3.tail.hO).cs)<|.aj (aJ [.lk (.int .i64)] ((o3.tail.hO).cs) 0 2 o3.tail.tail)<|NS r3<|NZ a0<|NZ a0<|.aj (LK.has (.int .u8) (a0.deref.hA)/\1<=a0.deref.length)<|.aj (jA [[.v (.int .u8 ((a0.deref.hA).toInt))]])<|.aj (ag (mk [40])+ag (⟨(bytesOf [[.v (.int .u8 ((a0.deref.hA).toInt))]]).toArray⟩)<=9223372036854775807)<|.aj (ag (((mk [40]):ByteArray)++(⟨(bytesOf [[.v (.int .u8 ((a0.deref.hA).toInt))]]).toArray⟩))+ag (mk [32])<=9223372036854775807)<|.aj (ag (((((mk [40]):ByteArray)++(⟨(bytesOf [[.v (.int .u8 ((a0.deref.hA).toInt))]]).toArray⟩)):ByteArray)++(mk [32]))+ag r3.toStr<=9223372036854775807)<|.aj (ag (((((((mk [40]):ByteArray)++(⟨(bytesOf [[.v (.int .u8 ((a0.deref.hA).toInt))]]).toArray⟩)):ByteArray)++(mk [32])):ByteArray)++r3.toStr)+ag (mk [32])<=9223372036854775807)<|NZ a0<|NZ a0<|dP (a0.deref.drop 4)<|.call 155 [((a0.deref.drop 4).hA),a1,.gI 155 [none,some 0,some 1],.ref 0 0,.ref 1 0] [.cells [((o3.hO).cs.getD 0 .any)],.cells [VI (((o3.tail.hO).cs.getD 0 .any).toInt)]] fun r4 o4=>.aj ((o4.hO)=.cells (o4.hO).cs)<|.aj (aJ [.lk .sl] ((o4.hO).cs) 0 1 o4.tail)<|.aj ((o4.tail.hO)=.cells (o4.tail.hO).cs)<|.aj (aJ [.lk (.int .i64)] ((o4.tail.hO).cs) 0 2 o4.tail.tail)<|NS r4<|.aj (ag (((((((((mk [40]):ByteArray)++(⟨(bytesOf [[.v (.int .u8 ((a0.deref.hA).toInt))]]).toArray⟩)):ByteArray)++(mk [32])):ByteArray)++r3.toStr):ByteArray)++(mk [32]))+ag r4.toStr<=9223372036854775807)<|.aj (ag (((((((((((mk [40]):ByteArray)++(⟨(bytesOf [[.v (.int .u8 ((a0.deref.hA).toInt))]]).toArray⟩)):ByteArray)++(mk [32])):ByteArray)++r3.toStr):ByteArray)++(mk [32])):ByteArray)++r4.toStr)+ag (mk [41])<=9223372036854775807)<|.done 0 [VS (((((((((((((mk [40]):ByteArray)++(⟨(bytesOf [[.v (.int .u8 ((a0.deref.hA).toInt))]]).toArray⟩)):ByteArray)++(mk [32])):ByteArray)++r3.toStr):ByteArray)++(mk [32])):ByteArray)++r4.toStr):ByteArray)++(mk [41]))] [.cells [((o4.hO).cs.getD 0 .any)],.cells [VI (((o4.tail.hO).cs.getD 0 .any).toInt)]]) (.test (((a0.deref.hA).toInt)==(114:Int)) (.loop JZ Ib [a0,a1,VS (mk [])] [.cells [a3_0],.cells [VI a4_0]] (fun y8 q8=>NP (y8.hA)<|NL (y8.tail.hA)<|NS (y8.tail.tail.hA)<|.aj ((q8.hO)=.cells (q8.hO).cs)<|.aj (ae [.lk .sl] ((q8.hO).cs) 0 q8.tail)<|.aj (((q8.tail.drop 0).hO)=.cells ((q8.tail.drop 0).hO).cs)<|.aj (ae [.lk (.int .i64)] (((q8.tail.drop 0).hO).cs) 0 ((q8.tail.drop 0).tail))<|.aj (ag (mk [40,114,101,99,32])+ag ((y8.tail.tail.hA).toStr)<=9223372036854775807)<|.aj (ag (((mk [40,114,101,99,32]):ByteArray)++((y8.tail.tail.hA).toStr))+ag (mk [32])<=9223372036854775807)<|NZ (y8.hA)<|NZ (y8.hA)<|dP ((y8.hA).deref.drop 3)<|.aj (LK.has .sl (y8.tail.hA)/\cB 1 ((y8.tail.hA).elems)/\((([]:List (List AV)).length)+((y8.tail.hA).elems).length)*16<=140737488355328)<|.aj (cB 1 [[VS ((y8.tail.tail.hA).toStr)]]/\(((([]:List (List AV))++((y8.tail.hA).elems)).length)+([[VS ((y8.tail.tail.hA).toStr)]]:List (List AV)).length)*16<=140737488355328)<|.call 155 [(((y8.hA).deref.drop 3).hA),.sl ((([]:List (List AV))++((y8.tail.hA).elems))++([[VS ((y8.tail.tail.hA).toStr)]]:List (List AV))),.gI 155 [none,some 0,some 1],.ref 0 0,.ref 1 0] [.cells [((q8.hO).cs.getD 0 .any)],.cells [VI (((q8.tail.hO).cs.getD 0 .any).toInt)]] fun r9 o9=>.aj ((o9.hO)=.cells (o9.hO).cs)<|.aj (aJ [.lk .sl] ((o9.hO).cs) 0 1 o9.tail)<|.aj ((o9.tail.hO)=.cells (o9.tail.hO).cs)<|.aj (aJ [.lk (.int .i64)] ((o9.tail.hO).cs) 0 2 o9.tail.tail)<|NS r9<|.aj (ag (((((mk [40,114,101,99,32]):ByteArray)++((y8.tail.tail.hA).toStr)):ByteArray)++(mk [32]))+ag r9.toStr<=9223372036854775807)<|.aj (ag (((((((mk [40,114,101,99,32]):ByteArray)++((y8.tail.tail.hA).toStr)):ByteArray)++(mk [32])):ByteArray)++r9.toStr)+ag (mk [41])<=9223372036854775807)<|.done 0 [VS (((((((((mk [40,114,101,99,32]):ByteArray)++((y8.tail.tail.hA).toStr)):ByteArray)++(mk [32])):ByteArray)++r9.toStr):ByteArray)++(mk [41]))] [.cells [((o9.hO).cs.getD 0 .any)],.cells [VI (((o9.tail.hO).cs.getD 0 .any).toInt)]]) (fun y8 q8=>.aj ((q8.hO)=.cells (q8.hO).cs)<|.aj (ae [.lk .sl] ((q8.hO).cs) 0 q8.tail)<|.aj (((q8.tail.drop 0).hO)=.cells ((q8.tail.drop 0).hO).cs)<|.aj (ae [.lk (.int .i64)] (((q8.tail.drop 0).hO).cs) 0 ((q8.tail.drop 0).tail))<|.done 0 [.any] [.cells [((q8.hO).cs.getD 0 .any)],.cells [VI (((q8.tail.hO).cs.getD 0 .any).toInt)]])) (NZ a0<|NZ a0<|.aj (LK.has (.int .u8) (a0.deref.hA)/\1<=a0.deref.length)<|.aj (jA [[.v (.int .u8 ((a0.deref.hA).toInt))]])<|.done 0 [VS (⟨(bytesOf [[.v (.int .u8 ((a0.deref.hA).toInt))]]).toArray⟩)] [.cells [a3_0],.cells [VI a4_0]])))))
theorem xe(a0:AV)(a1:AV)(a3_0:AV)(a4_0:Int)(ha0:LK.has .ptr a0)(ha1:LK.has .sl a1)(ha3_0:LK.has .sl a3_0)(h:dh 100 (ET a0 a1 a3_0 a4_0) R):an Tryz.prog 155 [a0,a1,.gI 155 [none,some 0,some 1],.ref 0 0,.ref 1 0] [.cells [a3_0],.cells [VI a4_0]] R :=
 an.mW (bx (ca (ah (bN ha3_0) aC)) (bx (ca (ah (az _) aC)) cw)) (an.up (ah (bB ha0) (ah (bN ha1) (ah (az _) (ah (az _) (ah (az _) aC))))) (oF Mn {mu:=[(2,.sf 155 [none,some 0,some 1]),(3,.one (.obj [.lk .sl])),(4,.one (.obj [.lk (.int .i64)]))],own:=[]} Tryz.f155 h))
def F6(x0:AV)(x1:AV)(x9:ByteArray)(o0_0:AV)(o1_0:Int):Tree :=
 NP x0<|NL x1<|NS (VS x9)<|.aj (Ob.cells [o0_0]=.cells [o0_0])<|.aj (ae [.lk .sl] [o0_0] 0 [.cells [VI o1_0]])<|.aj (Ob.cells [VI o1_0]=.cells [VI o1_0])<|.aj (ae [.lk (.int .i64)] [VI o1_0] 0 [])<|.test (af x9==af (mk [])) (.call 152 [VI o1_0] [] fun r1 o1=>NS r1<|.aj (ag (mk [116])+ag r1.toStr<=9223372036854775807)<|.done 0 [x0,x1,VS (((mk [116]):ByteArray)++r1.toStr)] [.cells [o0_0],.cells [VI (IntKind.wrap .i64 (o1_0+1))]]) (.call 156 [o0_0,VS x9] [] fun r2 o2=>NB r2<|.test r2.toBool (.call 152 [VI o1_0] [] fun r3 o3=>NS r3<|.aj (ag (mk [116])+ag r3.toStr<=9223372036854775807)<|.done 0 [x0,x1,VS (((mk [116]):ByteArray)++r3.toStr)] [.cells [o0_0],.cells [VI (IntKind.wrap .i64 (o1_0+1))]]) (.done 1 [x0,x1,VS x9] [.cells [o0_0],.cells [VI o1_0]]))
abbrev En:=cE Tryz.prog 100 JZ Ib
theorem Jj(x0:AV)(x1:AV)(x9:ByteArray)(o0_0:AV)(o1_0:Int)(h:j8 100 (F6 x0 x1 x9 o0_0 o1_0) En U):En [x0,x1,VS x9] [.cells [o0_0],.cells [VI o1_0]] U :=
 gQ Mn h
def Ki(a0:AV)(a1:ByteArray):Tree :=
 .call 167 [a0,VS a1] [] fun r1 o1=>NI r1<|.done 0 [VB (decide (r1.toInt≥(0:Int)))] []
theorem QB(a0:AV)(a1:ByteArray)(ha0:LK.has .sl a0)(h:dh 9 (Ki a0 a1) R):an Tryz.prog 156 [a0,VS a1] [] R :=
 uQ (ah (bN ha0) (ah (az _) aC)) (oQ [] Tryz.f156 h)
def MX(a0:AV):Tree :=
 .call 168 [a0,.v (.func (.func 150) #[] #[])] [] fun r1 o1=>NI r1<|.done 0 [VB (decide (r1.toInt≥(0:Int)))] []
theorem RO(a0:AV)(ha0:LK.has .sl a0)(h:dh 9 (MX a0) R):an Tryz.prog 157 [a0,.v (.func (.func 150) #[] #[])] [] R :=
 uQ (ah (bN ha0) (ah (az _) aC)) (oQ [] Tryz.f157 h)
def OG(a0:ByteArray):Tree :=
 .test (decide ((ag a0:Int)<(2:Int))) (.done 0 [VB false] []) (.test (decide ((ag a0:Int)>(3:Int))) (.done 0 [VB false] []) (.aj (0<=(0:Int)/\(0:Int)<ag a0)<|.test ((bt a0 0) != (101:Int)) (.done 0 [VB false] []) (.aj (0<=(1:Int)/\(1:Int)<=(ag a0:Int)/\(ag a0:Int)<=(ag a0:Int))<|.call 169 [VS (cq a0 (bL 1) (bL (ag a0:Int))),VS (mk [48,49,50,51,52,53,54,55,56,57])] [] fun r1 o1=>NS r1<|.test (!(af r1.toStr==af (mk []))) (.done 0 [VB false] []) (.test ((ag a0:Int)==(2:Int)) (.done 0 [VB true] []) (.aj (0<=(1:Int)/\(1:Int)<ag a0)<|.done 0 [VB ((bt a0 1) != (48:Int))] [])))))
theorem QN(a0:ByteArray)(h:dh 30 (OG a0) R):an Tryz.prog 158 [VS a0] [] R :=
 uQ (ah (az _) aC) (oQ [] Tryz.f158 h)
def Md(a0:Int):Tree :=
 .test (decide (a0≥(97:Int))) (.test (decide (a0<=(122:Int))) (.done 0 [VB true] []) (.test (decide (a0≥(48:Int))) (.test (decide (a0<=(57:Int))) (.done 0 [VB true] []) (.test (a0==(42:Int)) (.done 0 [VB true] []) (.done 0 [VB (a0==(43:Int))] []))) (.test (a0==(42:Int)) (.done 0 [VB true] []) (.done 0 [VB (a0==(43:Int))] [])))) (.test (decide (a0≥(48:Int))) (.test (decide (a0<=(57:Int))) (.done 0 [VB true] []) (.test (a0==(42:Int)) (.done 0 [VB true] []) (.done 0 [VB (a0==(43:Int))] []))) (.test (a0==(42:Int)) (.done 0 [VB true] []) (.done 0 [VB (a0==(43:Int))] [])))
theorem R0(a0:Int)(h:dh 25 (Md a0) R):an Tryz.prog 161 [.v (.int .u8 a0)] [] R :=
 uQ (ah (az _) aC) (oQ [] Tryz.f161 h)
def Kc(a0:Int):Tree :=
 .test (decide (a0≥(97:Int))) (.test (decide (a0<=(122:Int))) (.done 0 [VB true] []) (.test (decide (a0≥(48:Int))) (.test (decide (a0<=(57:Int))) (.done 0 [VB true] []) (.test (a0==(43:Int)) (.done 0 [VB true] []) (.done 0 [VB (a0==(42:Int))] []))) (.test (a0==(43:Int)) (.done 0 [VB true] []) (.done 0 [VB (a0==(42:Int))] [])))) (.test (decide (a0≥(48:Int))) (.test (decide (a0<=(57:Int))) (.done 0 [VB true] []) (.test (a0==(43:Int)) (.done 0 [VB true] []) (.done 0 [VB (a0==(42:Int))] []))) (.test (a0==(43:Int)) (.done 0 [VB true] []) (.done 0 [VB (a0==(42:Int))] [])))
theorem P5(a0:Int)(h:dh 25 (Kc a0) R):an Tryz.prog 162 [.v (.int .u8 a0)] [] R :=
 uQ (ah (az _) aC) (oQ [] Tryz.f162 h)
def KX(a0:ByteArray)(a1:ByteArray):Tree :=
 .test (decide ((ag a0:Int)≥(1:Int))) (.test (decide ((ag a0:Int)<=(3:Int))) (.aj (0<=(0:Int)/\(0:Int)<=(1:Int)/\(1:Int)<=(ag a0:Int))<|.call 175 [VS a1,VS (cq a0 (bL 0) (bL 1))] [] fun r1 o1=>NB r1<|.test r1.toBool (.aj (0<=(1:Int)/\(1:Int)<=(ag a0:Int)/\(ag a0:Int)<=(ag a0:Int))<|.call 169 [VS (cq a0 (bL 1) (bL (ag a0:Int))),VS (mk [48,49,50,51,52,53,54,55,56,57])] [] fun r2 o2=>NS r2<|.done 0 [VB (af r2.toStr==af (mk []))] []) (.done 0 [VB false] [])) (.done 0 [VB false] [])) (.done 0 [VB false] [])
theorem Qc(a0:ByteArray)(a1:ByteArray)(h:dh 25 (KX a0 a1) R):an Tryz.prog 163 [VS a0,VS a1] [] R :=
 uQ (ah (az _) (ah (az _) aC)) (oQ [] Tryz.f163 h)
def E8(a0:AV)(e1_0_0:List (List AV)):Tree :=
 .call 166 [a0,.ref 0 0] [.cells [.vec 1],.vec 1 e1_0_0] fun r1 o1=>.aj ((o1.hO)=.cells (o1.hO).cs)<|.aj (aJ [.vec 1] ((o1.hO).cs) 0 1 o1.tail)<|NZ a0<|NZ a0<|dP (a0.deref.drop 3)<|NP ((a0.deref.drop 3).hA)<|.test (!((a0.deref.drop 3).hA).isNil) (NZ a0<|NZ a0<|dP (a0.deref.drop 3)<|.call 165 [((a0.deref.drop 3).hA),.fn 166 [.ref 0 0]] [.cells [.vec 1],.vec 1 ((o1.tail.hO).es)] fun r2 o2=>.aj ((o2.hO)=.cells (o2.hO).cs)<|.aj (aJ [.vec 1] ((o2.hO).cs) 0 1 o2.tail)<|NZ a0<|NZ a0<|dP (a0.deref.drop 4)<|NP ((a0.deref.drop 4).hA)<|.test (!((a0.deref.drop 4).hA).isNil) (NZ a0<|NZ a0<|dP (a0.deref.drop 4)<|.call 165 [((a0.deref.drop 4).hA),.fn 166 [.ref 0 0]] [.cells [.vec 1],.vec 1 ((o2.tail.hO).es)] fun r3 o3=>.aj ((o3.hO)=.cells (o3.hO).cs)<|.aj (aJ [.vec 1] ((o3.hO).cs) 0 1 o3.tail)<|.done 0 [.any] [.cells [.vec 1],.vec 1 ((o3.tail.hO).es)]) (.done 0 [.any] [.cells [.vec 1],.vec 1 ((o2.tail.hO).es)])) (NZ a0<|NZ a0<|dP (a0.deref.drop 4)<|NP ((a0.deref.drop 4).hA)<|.test (!((a0.deref.drop 4).hA).isNil) (NZ a0<|NZ a0<|dP (a0.deref.drop 4)<|.call 165 [((a0.deref.drop 4).hA),.fn 166 [.ref 0 0]] [.cells [.vec 1],.vec 1 ((o1.tail.hO).es)] fun r4 o4=>.aj ((o4.hO)=.cells (o4.hO).cs)<|.aj (aJ [.vec 1] ((o4.hO).cs) 0 1 o4.tail)<|.done 0 [.any] [.cells [.vec 1],.vec 1 ((o4.tail.hO).es)]) (.done 0 [.any] [.cells [.vec 1],.vec 1 ((o1.tail.hO).es)]))
theorem xp(a0:AV)(e1_0_0:List (List AV))(ha0:LK.has .ptr a0)(h:dh 29 (E8 a0 e1_0_0) R):an Tryz.prog 165 [a0,.fn 166 [.ref 0 0]] [.cells [.vec 1],.vec 1 e1_0_0] R :=
 an.mW (bx (ca (ah (az _) aC)) (bx (fD _) cw)) (an.up (ah (bB ha0) (ah (az _) aC)) (oF [] {mu:=[(1,.fn [some (.obj [.vec 1])])],own:=[]} Tryz.f165 h))
def HH(a0:AV)(e1_0:List (List AV)):Tree :=
 NZ a0<|NZ a0<|.aj (LK.has (.int .u8) (a0.deref.hA)/\1<=a0.deref.length)<|.test (((a0.deref.hA).toInt)==(110:Int)) (NZ a0<|NZ a0<|kH (a0.deref.drop 1)<|.call 156 [.sl e1_0,VS (((a0.deref.drop 1).hA).toStr)] [] fun r1 o1=>NB r1<|.test (!r1.toBool) (NZ a0<|NZ a0<|kH (a0.deref.drop 1)<|.aj (cB 1 [[VS (((a0.deref.drop 1).hA).toStr)]]/\((e1_0.length)+([[VS (((a0.deref.drop 1).hA).toStr)]]:List (List AV)).length)*16<=140737488355328)<|.done 0 [.any] [.cells [.vec 1],.vec 1 (e1_0++([[VS (((a0.deref.drop 1).hA).toStr)]]:List (List AV)))]) (.done 0 [.any] [.cells [.vec 1],.vec 1 e1_0])) (.done 0 [.any] [.cells [.vec 1],.vec 1 e1_0])
theorem Pr(a0:AV)(e1_0:List (List AV))(ha0:LK.has .ptr a0)(h:dh 24 (HH a0 e1_0) R):an Tryz.prog 166 [a0,.ref 0 0] [.cells [.vec 1],.vec 1 e1_0] R :=
 an.mW (bx (ca (ah (az _) aC)) (bx (fD _) cw)) (an.up (ah (bB ha0) (ah (az _) aC)) (oF [] {mu:=[(1,.one (.obj [.vec 1]))],own:=[]} Tryz.f166 h))
def Iu:LI:={hd:={bT:=[(0,.k .sl),(1,.k .str),(7,.k (.int .i64)),(8,.k (.int .i64))]},xs:={},rt:={bT:=[(4,.k (.int .i64))]},ex:=0}
def Km:Code:=cI (cF Tryz.f167) 2
def Mv:List (Nat×LI):=[(2,Iu)]
def JO(a0:AV)(a1:ByteArray):Tree :=
 NL a0<|.loop Km Iu [a0,VS a1,VI (a0.elems.length:Int),VI 0] [] (fun y1 q1=>.done 0 [VI (-1)] []) (fun y1 q1=>NI (y1.hA)<|.done 0 [VI ((y1.hA).toInt)] [])
theorem Pe(a0:AV)(a1:ByteArray)(ha0:LK.has .sl a0)(h:dh 19 (JO a0 a1) R):an Tryz.prog 167 [a0,VS a1] [] R :=
 uQ (ah (bN ha0) (ah (az _) aC)) (oQ Mv Tryz.f167 h)
def Iv(x0:AV)(x1:ByteArray)(x7:Int)(x8:Int):Tree :=
 NL x0<|NS (VS x1)<|NI (VI x7)<|NI (VI x8)<|.test (decide (x8<x7)) (NG x0 x8 1<|kH (x0.ix x8)<|.test (af x1==af (((x0.ix x8).hA).toStr)) (.done 2 [VI x8] []) (.done 0 [x0,VS x1,VI x7,VI (IntKind.wrap .i64 (x8+1))] [])) (.done 1 [] [])
abbrev Gj:=cE Tryz.prog 19 Km Iu
theorem OK(x0:AV)(x1:ByteArray)(x7:Int)(x8:Int)(h:j8 19 (Iv x0 x1 x7 x8) Gj U):Gj [x0,VS x1,VI x7,VI x8] [] U :=
 gQ Mv h
def GI:LI:={hd:={bT:=[(0,.k .sl),(1,.c (.func (.func 150) #[] #[])),(7,.k (.int .i64)),(8,.k (.int .i64))]},xs:={},rt:={bT:=[(4,.k (.int .i64))]},ex:=0}
def Ko:Code:=cI (cF Tryz.f168) 2
def Ni:List (Nat×LI):=[(2,GI)]
def Nw(a0:AV):Tree :=
 NL a0<|.loop Ko GI [a0,.v (.func (.func 150) #[] #[]),VI (a0.elems.length:Int),VI 0] [] (fun y2 q2=>.done 0 [VI (-1)] []) (fun y2 q2=>NI (y2.hA)<|.done 0 [VI ((y2.hA).toInt)] [])
theorem RU(a0:AV)(ha0:LK.has .sl a0)(h:dh 19 (Nw a0) R):an Tryz.prog 168 [a0,.v (.func (.func 150) #[] #[])] [] R :=
 uQ (ah (bN ha0) (ah (az _) aC)) (oQ Ni Tryz.f168 h)
def GP(x0:AV)(x7:Int)(x8:Int):Tree :=
 NL x0<|.aj (AV.v (.func (.func 150) #[] #[])=.v (.func (.func 150) #[] #[]))<|NI (VI x7)<|NI (VI x8)<|.test (decide (x8<x7)) (NG x0 x8 1<|kH (x0.ix x8)<|.call 150 [VS (((x0.ix x8).hA).toStr)] [] fun r1 o1=>NB r1<|.test r1.toBool (.done 2 [VI x8] []) (.done 0 [x0,.v (.func (.func 150) #[] #[]),VI x7,VI (IntKind.wrap .i64 (x8+1))] [])) (.done 1 [] [])
abbrev Fk:=cE Tryz.prog 19 Ko GI
theorem LQ(x0:AV)(x7:Int)(x8:Int)(h:j8 19 (GP x0 x7 x8) Fk U):Fk [x0,.v (.func (.func 150) #[] #[]),VI x7,VI x8] [] U :=
 gQ Ni h
end
end Go.Proofs.Trees
namespace Go.Proofs.Trees
open Go Go.VL
theorem bA(i:Nat)(h:i<1000000000000):IntKind.wrap .i64 ((i:Int)+1)=((i+1:Nat):Int):=by rw[wrap64]<;>omega
inductive E where
 |atom (s:List UInt8)
 |list (l:List E)
mutual
def E.cD:E->AV
 | .atom s=>.ptr [.v (.string (mk s)),.v (.slice none 0 0)]
 | .list l=>.ptr [.v (.string (mk [])),.sl (E.mj l)]
def E.mj:List E->List (List AV)
 |[]=>[]
 |e::l=>[e.cD]::E.mj l
end
mutual
def E.im:E->List AV
 | .atom s=>[.v (.string (mk s)),.v (.slice none 0 0)]
 | .list l=>[.v (.string (mk [])),.sl (E.bw l)]
def E.bw:List E->List (List AV)
 |[]=>[]
 |e::l=>e.im::E.bw l
end
def E.kF(e:E):AV:=.agg e.im
theorem vz(l r:List E):E.mj (l++r)=E.mj l++E.mj r:=by
 induction l with
 |nil=>rfl
 |cons e l ih=>simp[E.mj,ih]
theorem qi(l r:List E):E.bw (l++r)=E.bw l++E.bw r:=by
 induction l with
 |nil=>rfl
 |cons e l ih=>simp[E.bw,ih]
theorem rD(l:List E):(E.mj l).length=l.length:=by
 induction l with
 |nil=>rfl
 |cons e l ih=>simp[E.mj,ih]
theorem eg(l:List E):(E.bw l).length=l.length:=by
 induction l with
 |nil=>rfl
 |cons e l ih=>simp[E.bw,ih]
def fe(b:UInt8):Bool:=decide ((97<=b.toNat/\b.toNat<=122)\/(48<=b.toNat/\b.toNat<=57)\/b.toNat=43\/b.toNat=42)
def sA(f:List UInt8->Option (E×List UInt8)):Nat->List UInt8->List E->Option (E×List UInt8)
 |0,_,_=>none
 |
  n+1,s,acc=>match f s with
  |some (p,c::r)=>if c.toNat=41 then some (.list (acc++[p]),r)else if c.toNat=32 then sA f n r (acc++[p])else none
  |_=>none
def rd:Nat->List UInt8->Option (E×List UInt8)
 |0,s=>if s.takeWhile fe=[]then none else some (.atom (s.takeWhile fe),s.dropWhile fe)
 |k+1,s=>if s.takeWhile fe=[]then(match s with
  |c::r=>if c.toNat=40 then sA (rd k) (r.length+1) r []else none
  |[]=>none)else some (.atom (s.takeWhile fe),s.dropWhile fe)
theorem Bw{f:List UInt8->Option (E×List UInt8)}(hf:∀s e r,f s=some (e,r)->r.length<s.length):∀(n:Nat) (s:List UInt8) (acc:List E) (e:E) (r:List UInt8),sA f n s acc=some (e,r)->r.length<s.length
 |0,s,acc,e,r,h=>by cases h
 |
  n+1,s,acc,e,r,h=>by
  simp only[sA]at h
  split at h
  ·rename_i p c r' hs
   have:=hf _ _ _ hs
   simp only[aA]at this
   split at h
   ·cases h;omega
   ·split at h
    ·have:=Bw hf n _ _ _ _ h;omega
    ·cases h
  ·cases h
theorem oR{s:List UInt8}(h:¬s.takeWhile fe=[]):(s.dropWhile fe).length<s.length:=by
 have h1:=congrArg List.length (List.takeWhile_append_dropWhile (p:=fe) (l:=s))
 simp only[aq]at h1
 have:0<(s.takeWhile fe).length:=List.length_pos_iff.2 h
 omega
theorem ye:∀(k:Nat) (s:List UInt8) (e:E) (r:List UInt8),rd k s=some (e,r)->r.length<s.length
 |
  0,s,e,r,h=>by
  simp only[rd]at h
  split at h
  ·cases h
  ·rename_i hn;cases h;exact oR hn
 |
  k+1,s,e,r,h=>by
  simp only[rd]at h
  split at h
  ·split at h
   ·split at h
    ·have:=Bw (ye k) _ _ _ _ _ h
     simp only[aA];omega
    ·cases h
   ·cases h
  ·rename_i hn;cases h;exact oR hn
theorem R8(b:UInt8):an Tryz.prog 162 [.v (.int .u8 (b.toNat:Int))] [] (bK (.v (.bool (fe b)))):=by
 refine P5 _ ?_
 simp only[Kc,↓zq,zs,ae,bK,fe]
 repeat' (apply aH<;>intro _)
 all_goals first|(congr 2;rw[cy];simp;omega)|(congr 2;simp;omega)
theorem yN{s:List UInt8}{i:Nat}(hi:i<s.length)(hb:fe (s.getD i 0)=true):((s.drop i).takeWhile fe).length=((s.drop (i+1)).takeWhile fe).length+1:=by
 have e:s.drop i=s.getD i 0::s.drop (i+1):=by
  rw[aU hi];simp[aa,hi]
 rw[e,List.takeWhile_cons_of_pos hb];simp
theorem qM{s:List UInt8}{i:Nat}(hi:i<s.length)(hb:fe (s.getD i 0)=false):(s.drop i).takeWhile fe=[]:=by
 have e:s.drop i=s.getD i 0::s.drop (i+1):=by
  rw[aU hi];simp[aa,hi]
 rw[e,List.takeWhile_cons_of_neg (by rw[hb];simp)]
theorem Hf(s:List UInt8)(hs:s.length<=8000)(d:Int):∀(k i:Nat),i+k=s.length->Iq [.v (.string (mk s)),.v (.int .i64 d),.v (.int .i64 (i:Int))] [] (gV 1 [.v (.string (mk s)),.v (.int .i64 d),.v (.int .i64 ((i+((s.drop i).takeWhile fe).length:Nat):Int))] [])
 |
  0,i,hi=>by
  refine NH _ _ _ ?_
  have hd:s.drop i=[]:=bV (by omega)
  simp only[Ha,↓zq,zs,ae,zt]
  exact⟨fun h=>by omega,fun _=>by simp[gV,hd]⟩
 |
  k+1,i,hi=>by
  have hlt:i<s.length:=by omega
  refine NH _ _ _ ?_
  simp only[Ha,↓zq,zs,ae,zt,mf s i hlt]
  refine⟨fun _=>⟨by omega,?_⟩,fun h=>by omega⟩
  refine ai (R8 _) ?_
  simp only[↓zq,zs,ae]
  refine⟨fun hb=>?_,fun hb=>?_⟩
  ·rw[bA i (by omega)]
   have:=Hf s hs d k (i+1) (by omega)
   rw[yN hlt hb,show i+(((s.drop (i+1)).takeWhile fe).length+1)=i+1+((s.drop (i+1)).takeWhile fe).length by omega]
   exact this
  ·simp[gV,qM hlt hb]
def ph(s:List UInt8):Option (E×List UInt8)->AV
 |some (e,r)=>.cG [e.cD,.v (.string (mk r))]
 |none=>.cG [.v (.pointer none),.v (.string (mk s))]
theorem cU(e:E):LK.has .ptr e.cD=True:=by cases e<;>simp[E.cD,cb]
theorem en(e:E):e.cD.isNil=false:=by cases e<;>rfl
theorem tV(s:List UInt8):s.take (s.takeWhile fe).length=s.takeWhile fe:=by
 have h:=List.takeWhile_append_dropWhile (p:=fe) (l:=s)
 have:(s.takeWhile fe++s.dropWhile fe).take (s.takeWhile fe).length=s.takeWhile fe:=List.take_left
 rw[h]at this;exact this
theorem zb(s:List UInt8):s.drop (s.takeWhile fe).length=s.dropWhile fe:=by
 have h:=List.takeWhile_append_dropWhile (p:=fe) (l:=s)
 have:(s.takeWhile fe++s.dropWhile fe).drop (s.takeWhile fe).length=s.dropWhile fe:=List.drop_left
 rw[h]at this;exact this
theorem BF(c:UInt8)(r:List UInt8):(List.take (r.length+1) (c::r)).drop (bL 1)=r:=by simp
theorem LA(s0:List UInt8)(k:Nat)(hk:k<300)(ih:∀s,s.length<=8000->an Tryz.prog 148 [.v (.string (mk s)),.v (.int .i64 ((300-k:Nat):Int))] [] (bK (ph s (rd k s)))) :
 ∀(n:Nat) (s:List UInt8) (acc:List E),s.length<n->s.length+acc.length<=8000->HA [.v (.string (mk s0)),.v (.int .i64 ((300-(k+1):Nat):Int)),.v (.string (mk s))] [.cells [.v (.string (mk [])),.any],.vec 1 (E.mj acc)]
  (oq (match sA (rd k) n s acc with|some (e,r)=>(2,[e.cD,.v (.string (mk r))],[])|none=>(2,[.v (.pointer none),.v (.string (mk s0))],[])))
 |0,s,acc,hn,_=>by omega
 |
  n+1,s,acc,hn,hl=>by
  refine QM _ _ _ _ _ ?_
  simp only[Jg,↓zq,zs,ae,Cb]
  have hd:IntKind.wrap .i64 (((300-(k+1):Nat):Int)+1)=((300-k:Nat):Int):=by rw[wrap64]<;>omega
  rw[hd]
  refine ai (ih s (by omega)) ?_
  have hlt:=ye k s
  cases hr:rd k s with
  |
   none =>
   simp only[ph,↓zq,zs,ae,sA,hr]
   simp[oq]
  |
   some q =>
   obtain⟨e,r⟩:=q
   have:=hlt e r hr
   cases r with
   |
    nil =>
    simp only[ph,↓zq,zs,ae,zt,sA,hr,cU,en]
    simp[oq]
   |
    cons c r =>
    simp only[aA]at this
    have hb:=mf (c::r) 0 (by simp)
    simp only[Int.ofNat_eq_natCast,Int.cast_ofNat_Int]at hb
    have e2:(List.take (c::r).length (c::r)).drop 1=r:=by simp
    simp only[ph,↓zq,zs,ae,zt,sA,hr,cU,en,hb,e2,rD]
    refine⟨fun h=>(by cases h),fun _=>⟨fun h=>(by cases h),fun _=>⟨⟨fun c hc=>(by simp at hc;rw[hc];rfl),by omega⟩,by omega,by omega,fun h41=>?_,fun h41=>⟨by omega,fun h32=>?_,fun h32=>?_⟩⟩⟩⟩
    ·have h41':c.toNat=41:=by omega
     rw[BF,if_pos h41']
     simp[oq,E.cD,vz,E.mj]
    ·have h41':¬c.toNat=41:=by omega
     have h32':¬c.toNat=32:=by omega
     rw[if_neg h41',if_neg h32']
    ·have h41':¬c.toNat=41:=by omega
     have h32':c.toNat=32:=by omega
     rw[BF,if_neg h41',if_pos h32']
     have:=LA s0 k hk ih n r (acc++[e]) (by omega) (by simp;omega)
     simpa[vz,E.mj]using this
theorem Pm:∀(k:Nat),k<=300->∀s:List UInt8,s.length<=8000->an Tryz.prog 148 [.v (.string (mk s)),.v (.int .i64 ((300-k:Nat):Int))] [] (bK (ph s (rd k s))):=by
 intro k
 induction k with
 |
  zero =>
  intro hk s hs
  refine OP _ _ ?_
  unfold GD
  refine cz (Hf s hs _ s.length 0 (by omega)) ?_
  simp only[↓zq,zs,ae,zt,aW,bK]
  have hw:(s.takeWhile fe).length<=s.length:=by
   have:=congrArg List.length (List.takeWhile_append_dropWhile (p:=fe) (l:=s))
   simp only[aq]at this;omega
  refine⟨fun h=>⟨by omega,by omega,?_⟩,fun h=>?_⟩
  ·have hne:¬s.takeWhile fe=[]:=fun e=>by rw[e]at h;simp at h
   simp only[rd,if_neg hne,ph,E.cD,tV,zb]
  ·have hnil:s.takeWhile fe=[]:=bR (by omega)
   simp only[rd,if_pos hnil,ph]
   refine⟨fun _=>trivial,fun hne=>⟨?_,?_⟩⟩
   ·cases s with
    |nil=>exact absurd rfl hne
    |cons c s=>simp
   ·exact⟨fun _=>trivial,fun _=>⟨fun _=>trivial,fun h=>absurd rfl h⟩⟩
 |
  succ k ih =>
  intro hk s hs
  refine OP _ _ ?_
  unfold GD
  refine cz (Hf s hs _ s.length 0 (by omega)) ?_
  simp only[↓zq,zs,ae,zt,aW,bK]
  have hw:(s.takeWhile fe).length<=s.length:=by
   have:=congrArg List.length (List.takeWhile_append_dropWhile (p:=fe) (l:=s))
   simp only[aq]at this;omega
  refine⟨fun h=>⟨by omega,by omega,?_⟩,fun h=>?_⟩
  ·have hne:¬s.takeWhile fe=[]:=fun e=>by rw[e]at h;simp at h
   simp only[rd,if_neg hne,ph,E.cD,tV,zb]
  ·have hnil:s.takeWhile fe=[]:=bR (by omega)
   simp only[rd,if_pos hnil]
   cases s with
   |nil=>simp[ph]
   |
    cons c s =>
    have hb:=mf (c::s) 0 (by simp)
    simp only[Int.ofNat_eq_natCast,Int.cast_ofNat_Int]at hb
    simp only[aA]at hs
    simp only[↓zq,zs,ae,hb,BF]
    refine⟨fun h=>(by cases h),fun _=>⟨by omega,fun h40=>?_,fun h40=>⟨fun h300=>?_,fun h300=>⟨by omega,?_⟩⟩⟩⟩
    ·have:¬c.toNat=40:=by omega
     rw[if_neg this];rfl
    ·omega
    ·have h40':c.toNat=40:=by omega
     rw[if_pos h40']
     refine fE (LA (c::s) k (by omega) (ih (by omega)) (s.length+1) s [] (by omega) (by simp;omega)) (fun ys o e=>?_) (fun ys o e=>?_)
     ·split at e<;>cases e
     ·split at e<;>cases e
      ·rename_i e' r' hr
       simp only[↓zq,zs,ae,cU]
       simp only[hr,ph]
      ·rename_i hr
       simp only[↓zq,zs,ae]
       simp only[hr,ph]
end Go.Proofs.Trees
namespace Go.Proofs.Trees
open Go Go.VL
mutual
def E.sz:E->Nat
 | .atom _=>1
 | .list l=>1+E.jr l
def E.jr:List E->Nat
 |[]=>0
 |e::l=>e.sz+E.jr l
end
mutual
def E.ok:E->Prop
 | .atom s=>s≠[]
 | .list l=>E.Ef l
def E.Ef:List E->Prop
 |[]=>True
 |e::l=>e.ok/\E.Ef l
end
theorem yF(l r:List E):E.jr (l++r)=E.jr l+E.jr r:=by
 induction l with
 |nil=>simp[E.jr]
 |cons e l ih=>simp[E.jr,ih];omega
theorem za(l r:List E):E.Ef (l++r)↔E.Ef l/\E.Ef r:=by
 induction l with
 |nil=>simp[E.Ef]
 |cons e l ih=>simp[E.Ef,ih,and_assoc]
theorem A3{f:List UInt8->Option (E×List UInt8)}(hf:∀s e r,f s=some (e,r)->e.ok/\e.sz+r.length<=s.length):∀(n:Nat) (s:List UInt8) (acc:List E) (e:E) (r:List UInt8),sA f n s acc=some (e,r)->E.Ef acc->e.ok/\e.sz+r.length<=s.length+1+E.jr acc
 |0,s,acc,e,r,h,_=>by cases h
 |
  n+1,s,acc,e,r,h,ha=>by
  simp only[sA]at h
  split at h
  ·rename_i p c r' hs
   obtain⟨h1,h2⟩:=hf _ _ _ hs
   simp only[aA]at h2
   split at h
   ·cases h
    refine⟨(za _ _).2 ⟨ha,h1,trivial⟩,?_⟩
    simp only[E.sz,yF,E.jr];omega
   ·split at h
    ·have:=A3 hf n _ _ _ _ h ((za _ _).2 ⟨ha,h1,trivial⟩)
     refine⟨this.1,?_⟩
     have h3:=this.2
     simp only[yF,E.jr]at h3;omega
    ·cases h
  ·cases h
theorem uh(s:List UInt8):(s.takeWhile fe).length+(s.dropWhile fe).length=s.length:=by
 have:=congrArg List.length (List.takeWhile_append_dropWhile (p:=fe) (l:=s))
 simpa only[aq]using this
theorem EI:∀(k:Nat) (s:List UInt8) (e:E) (r:List UInt8),rd k s=some (e,r)->e.ok/\e.sz+r.length<=s.length
 |
  0,s,e,r,h=>by
  simp only[rd]at h
  split at h
  ·cases h
  ·rename_i hn;cases h
   have:=uh s
   have:0<(s.takeWhile fe).length:=List.length_pos_iff.2 hn
   exact⟨hn,by simp only[E.sz];omega⟩
 |
  k+1,s,e,r,h=>by
  simp only[rd]at h
  split at h
  ·split at h
   ·split at h
    ·have:=A3 (EI k) _ _ _ _ _ h trivial
     refine⟨this.1,?_⟩
     have h3:=this.2
     simp only[E.jr,aA]at h3 |-;omega
    ·cases h
   ·cases h
  ·rename_i hn;cases h
   have:=uh s
   have:0<(s.takeWhile fe).length:=List.length_pos_iff.2 hn
   exact⟨hn,by simp only[E.sz];omega⟩
def qU(s:List UInt8):Option E:=if s.length>8000 then none else match rd 300 s with|some (e,[])=>some e|_=>none
theorem nO{s:List UInt8}{e:E}(h:qU s=some e):e.ok/\e.sz<=8000:=by
 unfold qU at h
 split at h
 ·cases h
 ·split at h
  ·rename_i e' hr
   cases h
   have:=EI _ _ _ _ hr
   exact⟨this.1,by have:=this.2;simp at this;omega⟩
  ·cases h
def uE:Option E->AV
 |some e=>e.cD
 |none=>.v (.pointer none)
theorem M5(s:List UInt8):an Tryz.prog 129 [.v (.string (mk s))] [] (bK (uE (qU s))):=by
 refine SJ _ ?_
 simp only[JC,↓zq,zs,ae,zt,bK,qU]
 refine⟨fun h=>?_,fun h=>?_⟩
 ·rw[if_pos (by omega)];simp[uE]
 ·rw[if_neg (by omega)]
  refine ai (Pm 300 (by omega) s (by omega)) ?_
  cases hr:rd 300 s with
  |
   none =>
   simp only[ph,↓zq,zs,ae,zt,uE]
   refine⟨fun _=>trivial,fun _=>trivial⟩
  |
   some q =>
   obtain⟨e,r⟩:=q
   cases r with
   |nil=>simp only[ph,↓zq,zs,ae,zt,uE,cU];simp
   |cons c r=>simp only[ph,↓zq,zs,ae,zt,uE,cU];simp
def ij(b:UInt8):Bool:=decide (48<=b.toNat/\b.toNat<=57)
def named(lo hi:Nat):List UInt8->Bool
 |[]=>false
 |c::r=>decide (r.length<=2)&&decide (lo<=c.toNat/\c.toNat<=hi)&&r.all ij
def hD(s:List UInt8):Bool:=named 120 122 s
def dk(s:List UInt8):Bool:=named 116 116 s
def CH(v lo hi:Int):Bool:=decide (lo<=v/\v<=hi)
theorem AG(v lo hi:Int):an Tryz.prog 45 [.v (.int .i64 v),.v (.int .i64 lo),.v (.int .i64 hi)] [] (bK (.v (.bool (CH v lo hi)))):=by
 refine Pw _ _ _ ?_
 simp only[NJ,↓zq,zs,ae,bK,CH]
 constructor<;>intro h<;>simp at h<;>simp[h]
 omega
theorem Lb(s:List UInt8)(hs:s.length<=3):∀(k i:Nat),i+k=s.length->Hm [.v (.string (mk s)),.v (.int .i64 (i:Int))] [] (oq (if(s.drop i).all ij=true then(1,[],[])else(2,[.v (.bool false)],[])))
 |
  0,i,hi=>by
  have hd:s.drop i=[]:=bV (by omega)
  refine MR _ _ ?_
  simp only[FU,↓zq,zs,ae,zt]
  exact⟨fun h=>by omega,fun _=>by simp[oq,hd]⟩
 |
  k+1,i,hi=>by
  have hlt:i<s.length:=by omega
  have e:s.drop i=s.getD i 0::s.drop (i+1):=by
   rw[aU hlt];simp[aa,hlt]
  refine MR _ _ ?_
  simp only[FU,↓zq,zs,ae,zt,mf s i hlt,e,cZ]
  generalize hb:s.getD i 0=b
  refine⟨fun _=>⟨by omega,fun h=>?_,fun h=>⟨by omega,fun h2=>?_,fun h2=>?_⟩⟩,fun h=>by omega⟩
  ·have:ij b=false:=by simp[ij];omega
   simp only[this,zf,oq]
  ·have:ij b=false:=by simp[ij];omega
   simp only[this,zf,oq]
  ·have:ij b=true:=by simp[ij];omega
   rw[bA i (by omega),this,bX]
   exact Lb s hs k (i+1) (by omega)
theorem Ow(s:List UInt8)(lo hi:Nat):an Tryz.prog 119 [.v (.string (mk s)),.v (.int .u8 (lo:Int)),.v (.int .u8 (hi:Int))] [] (bK (.v (.bool (named lo hi s)))):=by
 refine Rb _ _ _ ?_
 unfold MB
 rw[cM]
 refine ai (AG _ _ _) ?_
 simp only[↓zq,zs,ae,zt,bK]
 refine⟨fun h=>?_,fun h=>?_⟩
 ·cases s with
  |nil=>rfl
  |
   cons c s =>
   simp[CH]at h
   have:¬s.length<=2:=by omega
   simp[named,this]
 ·cases s with
  |nil=>simp[CH]at h
  |
   cons c s =>
   simp[CH]at h
   have hl:s.length<=2:=by omega
   have hb:=mf (c::s) 0 (by simp)
   simp only[Int.ofNat_eq_natCast,Int.cast_ofNat_Int]at hb
   simp only[↓zq,zs,ae,hb]
   refine⟨by omega,fun h1=>?_,fun h1=>⟨by omega,fun h2=>?_,fun h2=>?_⟩⟩
   ·have:¬lo<=c.toNat:=by omega
    simp[named,this]
   ·have:¬c.toNat<=hi:=by omega
    simp[named,this]
   ·refine fE (Lb (c::s) (by simp;omega) s.length 1 (by simp;omega)) (fun ys o e=>?_) (fun ys o e=>?_)
    ·split at e<;>cases e
     rename_i ha
     simp at ha
     simp only[↓zq,zs,ae]
     simp[named,hl]
     exact⟨⟨by omega,by omega⟩,fun x hx=>by simpa using ha x hx⟩
    ·split at e<;>cases e
     rename_i ha
     simp only[↓zq,zs,ae]
     have:s.all ij=false:=by simpa using ha
     simp[named,this]
theorem Hx(s:List UInt8):an Tryz.prog 126 [.v (.string (mk s))] [] (bK (.v (.bool (hD s)))):=by
 refine Qk _ ?_
 unfold Jx
 refine ai (Ow s 120 122) ?_
 simp only[↓zq,zs,ae,bK,hD]
theorem HV(s:List UInt8):an Tryz.prog 85 [.v (.string (mk s))] [] (bK (.v (.bool (dk s)))):=by
 refine RT _ ?_
 unfold OW
 refine ai (Ow s 116 116) ?_
 simp only[↓zq,zs,ae,bK,dk]
end Go.Proofs.Trees
namespace Go.Proofs.Trees
open Go Go.VL Go.RowKit
theorem SC(l:List UInt8)(c:UInt8):an Tryz.prog 175 [.v (.string (mk l)),.v (.string (mk [c]))] [] (bK (.v (.bool (decide (0<=Lib.indexByte l c))))):=by
 refine an.SZ (xs:=[.string (mk l),.string (mk [c])]) ⟨nw,by kernel_rfl,by kernel_rfl,by kernel_rfl⟩ fun w=>?_
 have:=Any.strings_Contains_one Tryz.DO (mk l) c w
 refine Calls.mono this fun e w' ⟨h1,h2⟩=>?_
 rw[h2]
 have hd:(mk l).data.toList=l:=by simp[mk]
 exact⟨by rw[h1,hd],Below.refl _ _⟩
theorem Nv(l cs:List UInt8)(hl:l.length<=1000000)(hc:cs.length<=1000)(ha:∀b,b∈cs->b.toNat<128):an Tryz.prog 169 [.v (.string (mk l)),.v (.string (mk cs))] [] (bK (.v (.string (mk (Lib.trimS l cs))))):=by
 refine an.SZ (xs:=[.string (mk l),.string (mk cs)]) ⟨qE,by kernel_rfl,by kernel_rfl,by kernel_rfl⟩ fun w=>?_
 have:=Any.strings_Trim_laid Tryz.Dd (by kernel_rfl) (mk l) (mk cs) w (by rw[cM];omega) (by rw[cM];omega) (fun j b hj=>ha b (by
  have:(mk cs).data.toList=cs:=by simp[mk]
  rw[this]at hj
  exact List.mem_of_getElem? hj))
 refine Calls.mono this fun e w' ⟨h1,h2⟩=>⟨?_,h2⟩
 rw[h1]
 simp[mk]
theorem nC:∀(l:List UInt8) (c:UInt8),(0<=Lib.indexByte l c↔c∈l)/\-1<=Lib.indexByte l c
 |[],c=>by simp[Lib.indexByte]
 |
  b::l,c=>by
  obtain⟨h1,h2⟩:=nC l c
  unfold Lib.indexByte
  by_cases e:b=c
  ·subst e;simp
  ·have e':(b==c)=false:=by simp[e]
   rw[e']
   by_cases q:Lib.indexByte l c = -1
   ·have:c∉l:=fun h=>by have:=h1.2 h;omega
    simp[q,this,Ne.symm e]
   ·have q':(Lib.indexByte l c==-1)=false:=by simp[q]
    simp only[q',Bool.false_eq_true,if_false,aK]
    constructor
    ·constructor
     ·intro h;exact .inr (h1.1 (by omega))
     ·intro h
      rcases h with h|h
      ·exact absurd h.symm e
      ·have:=h1.2 h;omega
    ·omega
theorem dropWhile_nil{p:UInt8->Bool}:∀(l:List UInt8),l.dropWhile p=[]↔l.all p=true
 |[]=>by simp
 |
  b::l=>by
  cases h:p b with
  |true=>rw[List.dropWhile_cons_of_pos h,dropWhile_nil l];simp[h]
  |false=>rw[List.dropWhile_cons_of_neg (by rw[h];simp)];simp[h]
theorem s4(l cs:List UInt8):Lib.trimS l cs=[]↔l.all (cs.contains ·)=true:=by
 unfold Lib.trimS Lib.trimLeftS
 rw[dropWhile_nil]
 unfold Lib.trimRightS
 constructor
 ·intro h
  by_cases hn:l.reverse.dropWhile (cs.contains ·)=[]
  ·rw[dropWhile_nil]at hn
   simpa using hn
  ·exfalso
   rw[List.all_reverse]at h
   obtain⟨b,r,e⟩:=List.exists_cons_of_ne_nil hn
   have h1:cs.contains b=false:=by
    have:=List.head_dropWhile_not (p:=(cs.contains ·)) (l:=l.reverse) hn
    simp only[e,List.head_cons]at this
    exact this
   rw[e]at h
   simp only[cZ,aw]at h
   rw[h1]at h;cases h.1
 ·intro h
  have:l.reverse.dropWhile (cs.contains ·)=[]:=by rw[dropWhile_nil];simpa using h
  rw[this];rfl
def F2:List UInt8:=[48,49,50,51,52,53,54,55,56,57]
theorem vG(b:UInt8):F2.contains b=ij b:=by
 have:∀n:Fin 256,F2.contains (bj n.val)=ij (bj n.val):=by decide +kernel
 have:=this ⟨b.toNat,b.toNat_lt⟩
 simpa using this
theorem J4(s ls:List UInt8)(lo hi:Nat)(hls:∀c:UInt8,c∈ls↔lo<=c.toNat/\c.toNat<=hi):an Tryz.prog 163 [.v (.string (mk s)),.v (.string (mk ls))] [] (bK (.v (.bool (named lo hi s)))):=by
 refine Qc _ _ ?_
 simp only[KX,↓zq,zs,ae,zt,bK]
 cases s with
 |nil=>exact⟨fun h=>by simp at h,fun _=>rfl⟩
 |
  cons c s =>
  have e1:(List.take (bL 1) (c::s))=[c]:=rfl
  have e2:(List.take (s.length+1) (c::s)).drop (bL 1)=s:=by simp
  simp only[aA,e1,e2]
  refine⟨fun _=>⟨fun h3=>⟨by omega,?_⟩,fun h3=>?_⟩,fun h=>by omega⟩
  ·have hl:s.length<=2:=by omega
   refine ai (SC ls c) ?_
   simp only[↓zq,zs,ae]
   have hi1:=(nC ls c).1
   refine⟨fun h=>⟨by omega,?_⟩,fun h=>?_⟩
   ·refine ai (Nv s F2 (by omega) (by decide) (by decide)) ?_
    simp only[↓zq,zs,ae,zt]
    have hc:=(hls c).1 (hi1.1 h)
    congr 2
    rw[cy,beq_iff_eq,s4]
    simp only[named,hl,hc,decide_true,bX,and_self]
    have:(fun x=>F2.contains x)=ij:=funext vG
    rw[this]
   ·have hc:¬(lo<=c.toNat/\c.toNat<=hi):=fun h'=>h (hi1.2 ((hls c).2 h'))
    simp only[named,hc,zf]
  ·have hl:¬s.length<=2:=by omega
   simp only[named,hl,zf]
theorem Oi(s:List UInt8):an Tryz.prog 149 [.v (.string (mk s))] [] (bK (.v (.bool (hD s)))):=by
 refine Rg _ ?_
 unfold K5
 have h:∀n:Fin 256,(bj n.val∈[(120:UInt8),121,122])↔120<=(bj n.val).toNat/\(bj n.val).toNat<=122:=by decide +kernel
 refine ai (J4 s [120,121,122] 120 122 fun c=>by simpa using h ⟨c.toNat,c.toNat_lt⟩) ?_
 simp only[↓zq,zs,ae,bK,hD]
theorem Dg(s:List UInt8):an Tryz.prog 150 [.v (.string (mk s))] [] (bK (.v (.bool (dk s)))):=by
 refine Pj _ ?_
 unfold OY
 have h:∀n:Fin 256,(bj n.val∈[(116:UInt8)])↔116<=(bj n.val).toNat/\(bj n.val).toNat<=116:=by decide +kernel
 refine ai (J4 s [116] 116 116 fun c=>by simpa using h ⟨c.toNat,c.toNat_lt⟩) ?_
 simp only[↓zq,zs,ae,bK,dk]
end Go.Proofs.Trees
namespace Go.Proofs.Trees
open Go Go.VL
inductive Ty where
 |zero|one
 |name (s:List UInt8)
 |bound (up:Nat)
 |plus (a b:Ty)
 |times (a b:Ty)
 |rc (a:Ty)
def Ty.av:Ty->AV
 | .zero=>.ptr [.v (.int .u8 48),.v (.string (mk [])),.v (.int .i64 0),.v (.pointer none),.v (.pointer none)]
 | .one=>.ptr [.v (.int .u8 49),.v (.string (mk [])),.v (.int .i64 0),.v (.pointer none),.v (.pointer none)]
 | .name s=>.ptr [.v (.int .u8 110),.v (.string (mk s)),.v (.int .i64 0),.v (.pointer none),.v (.pointer none)]
 | .bound up=>.ptr [.v (.int .u8 98),.v (.string (mk [])),.v (.int .i64 (up:Int)),.v (.pointer none),.v (.pointer none)]
 | .plus a b=>.ptr [.v (.int .u8 43),.v (.string (mk [])),.v (.int .i64 0),a.av,b.av]
 | .times a b=>.ptr [.v (.int .u8 42),.v (.string (mk [])),.v (.int .i64 0),a.av,b.av]
 | .rc a=>.ptr [.v (.int .u8 114),.v (.string (mk [])),.v (.int .i64 0),a.av,.v (.pointer none)]
theorem aE(t:Ty):LK.has .ptr t.av=True:=by cases t<;>simp[Ty.av,cb]
theorem fP(t:Ty):t.av.isNil=false:=by cases t<;>rfl
def ic:Option Ty->AV
 |some t=>t.av
 |none=>.v (.pointer none)
theorem il(t:Option Ty):LK.has .ptr (ic t)=True:=by cases t<;>simp[ic,aE,gD]
def E.at:E->List UInt8
 | .atom s=>s
 | .list _=>[]
def bQ(s:List UInt8)(ar:List (List UInt8)):Nat->Option Nat
 |0=>none
 |i+1=>if ar.getD i []=s then some (ar.length-1-i)else bQ s ar i
def cS:E->List (List UInt8)->Option Ty
 | .atom s,ar=>if s=[48]then some .zero else if s=[49]then some .one else if hD s=true then some (.name s)else if dk s=true then(match bQ s ar ar.length with|some u=>some (.bound u)|none=>some (.name s))else none
 |
  .list [x,a,b],ar =>
  if x.at=[43]then(match cS a ar,cS b ar with|some t,some u=>some (.plus t u)|_,_=>none)
  else if x.at=[42]then(match cS a ar,cS b ar with|some t,some u=>some (.times t u)|_,_=>none)
  else if x.at=[114,101,99]then(if dk a.at=true then(match cS b (ar++[a.at])with|some t=>some (.rc t)|none=>none)else none)
  else none
 | .list _,_=>none
def bJ(l:List (List UInt8)):List (List AV):=l.map fun s=>[.v (.string (mk s))]
def ct(a:AV)(l:List (List UInt8)):Prop:=LK.sl.has a/\a.elems=bJ l
theorem ct.len{a:AV}{l:List (List UInt8)}(h:ct a l):a.elems.length=l.length:=by rw[h.2];simp[bJ]
theorem ct.idx{a:AV}{l:List (List UInt8)}(h:ct a l){i:Nat}(hi:i<l.length):a.elems.getD i []=[.v (.string (mk (l.getD i [])))]:=by
 rw[h.2];simp[bJ,aa,hi]
theorem ct.of(l:List (List UInt8)):ct (.sl (bJ l)) l:=⟨(cf _).mpr trivial,rfl⟩
theorem ct.nil:ct (.v (.slice none 0 0)) []:=⟨(bh).mpr trivial,rfl⟩
theorem yE(e:E)(w:List UInt8):an Tryz.prog 151 [e.cD,.v (.string (mk w)),.v (.int .i64 3)] [] (bK (.v (.bool (match e with| .list [x,_,_]=>x.at==w|_=>false)))):=by
 refine Oy _ _ _ ((cU e).mpr trivial) ?_
 cases e with
 |atom s=>simp only[BE,E.cD,↓zq,zs,ae,zt,bK];exact⟨by omega,fun h=>by omega,fun _=>trivial⟩
 |
  list l =>
  simp only[BE,E.cD,↓zq,zs,ae,zt,bK,rD]
  match l with
  |[]=>exact⟨by simp,fun h=>by simp at h,fun _=>rfl⟩
  |[_]=>exact⟨by simp,fun h=>by simp at h,fun _=>rfl⟩
  |[_,_]=>exact⟨by simp,fun h=>by simp at h,fun _=>rfl⟩
  |
   [x,y,z] =>
   refine⟨by simp,fun _=>?_,fun h=>by simp at h⟩
   cases x<;>simp[E.mj,E.cD,cb,pJ,jJ,dX,uI,toList_mk,E.at]
  |_::_::_::_::l=>exact⟨by simp,fun h=>by simp at h;omega,fun _=>rfl⟩
theorem I4(e:E)(a:AV)(ar:List (List UInt8))(ha:ct a ar)(hl:ar.length<1000000):∀(i:Nat),i<=ar.length->Fy [e.cD,a,.v (.int .i64 ((i:Int)-1))] []
 (oq (match bQ e.at ar i with|some u=>(2,[],[.cells [.v (.int .u8 98),.v (.string (mk [])),.v (.int .i64 (u:Int)),.v (.pointer none),.v (.pointer none)]])|none=>(1,[e.cD],[])))
 |
  0,hi=>by
  refine Jo _ _ _ ?_
  simp only[GN,↓zq,zs,ae,cU]
  exact⟨ha.1,fun h=>by omega,fun _=>rfl⟩
 |
  i+1,hi=>by
  have hlt:i<ar.length:=by omega
  have e1:((i+1:Nat):Int)-1=(i:Int):=by omega
  rw[e1]
  refine Jo _ _ _ ?_
  have hd:e.cD.deref.headD .any=.v (.string (mk e.at)):=by cases e<;>rfl
  have hdl:1<=e.cD.deref.length:=by cases e<;>simp[E.cD,jJ]
  simp only[GN,↓zq,zs,ae,zt,cU,en,ha.len,ha.idx hlt,hd,rT]
  refine⟨ha.1,fun _=>⟨⟨ha.1,by omega,by omega⟩,by omega,hdl,fun h=>⟨ha.1,?_⟩,fun h=>?_⟩,fun h=>by omega⟩
  ·simp only[bQ,h,if_true,oq]
   rw[wrap64 ((ar.length:Int)-1) (by omega) (by omega),wrap64 _ (by omega) (by omega)]
   have:(ar.length:Int)-1-(i:Int)=((ar.length-1-i:Nat):Int):=by omega
   rw[this]
  ·simp only[bQ,h,if_false]
   rw[wrap64 _ (by omega) (by omega)]
   exact I4 e a ar ha hl i (by omega)
end Go.Proofs.Trees
namespace Go.Proofs.Trees
open Go Go.VL
theorem nP(e:E):e.cD.deref.headD .any=.v (.string (mk e.at)):=by cases e<;>rfl
theorem lQ(e:E):1<=e.cD.deref.length:=by cases e<;>simp[E.cD,jJ]
theorem toNat_one:bL 1=1:=rfl
theorem bg:bL 2=2:=rfl
theorem EU{ar:List (List UInt8)}(s:List UInt8):bJ ar++[[.v (.string (mk s))]]=bJ (ar++[s]):=by simp[bJ]
theorem ki(ar:List (List UInt8)):cB 1 (bJ ar):=fun c hc=>by
 obtain⟨s,_,rfl⟩:=bO.1 hc;rfl
theorem kP{x a b:E}(ar:List (List UInt8))(hx:x.at=[43]):cS (.list [x,a,b]) ar=match cS a ar,cS b ar with|some t,some u=>some (.plus t u)|_,_=>none:=by rw[cS,if_pos hx]<;>cases cS a ar<;>cases cS b ar<;>rfl
theorem j6{x a b:E}(ar:List (List UInt8))(hx:x.at=[42]):cS (.list [x,a,b]) ar=match cS a ar,cS b ar with|some t,some u=>some (.times t u)|_,_=>none:=by rw[cS,if_neg (by rw[hx];decide),if_pos hx]<;>cases cS a ar<;>cases cS b ar<;>rfl
theorem mN{x a b:E}(ar:List (List UInt8))(hx:x.at=[114,101,99]):cS (.list [x,a,b]) ar=if dk a.at=true then(match cS b (ar++[a.at])with|some t=>some (.rc t)|none=>none)else none:=by rw[cS,if_neg (by rw[hx];decide),if_neg (by rw[hx];decide),if_pos hx]<;>cases cS b (ar++[a.at])<;>rfl
theorem je{x a b:E}(ar:List (List UInt8))(h1:x.at≠[43])(h2:x.at≠[42])(h3:x.at≠[114,101,99]):cS (.list [x,a,b]) ar=none:=by rw[cS,if_neg h1,if_neg h2,if_neg h3]
theorem CZ:∀(e:E) (ar:List (List UInt8)) (a:AV),e.ok->ct a ar->ar.length+e.sz<100000->an Tryz.prog 130 [e.cD,a] [] (bK (ic (cS e ar)))
 |
  .atom s,ar,a,hok,ha,hl=>by
  simp only[E.sz]at hl
  refine OT _ _ ((cU _).mpr trivial) ha.1 ?_
  have hd:=nP (.atom s)
  have hlen:=lQ (.atom s)
  simp only[E.at]at hd
  simp only[FT,↓zq,zs,ae,zt,bK,cU,en,hd,cS]
  refine⟨hlen,fun h=>⟨hlen,?_,?_⟩,fun h=>⟨hlen,fun h1=>⟨hlen,?_,?_⟩,fun h1=>⟨hlen,?_⟩⟩⟩
  ·rw[h];decide
  ·rw[if_pos h,h];rfl
  ·rw[h1];decide
  ·rw[if_neg h,if_pos h1,h1];rfl
  ·rw[if_neg h,if_neg h1]
   refine ai (Oi s) ?_
   simp only[↓zq,zs,ae]
   refine⟨fun hp=>⟨hlen,?_⟩,fun hp=>⟨hlen,?_⟩⟩
   ·rw[if_pos hp];rfl
   ·rw[if_neg (by rw[hp];simp)]
    refine ai (Dg s) ?_
    simp only[↓zq,zs,ae,ha.len]
    refine⟨fun hq=>⟨ha.1,?_⟩,fun hq=>?_⟩
    ·rw[if_pos hq,wrap64 _ (by omega) (by omega)]
     refine fE (I4 (.atom s) a ar ha (by omega) ar.length (by omega)) (fun ys o e=>?_) (fun ys o e=>?_)
     ·simp only[E.at]at e
      cases hq2:bQ s ar ar.length<;>rw[hq2]at e<;>cases e
      simp only[↓zq,zs,ae,zt,cU,en,hd]
      exact⟨hlen,rfl⟩
     ·simp only[E.at]at e
      cases hq2:bQ s ar ar.length<;>rw[hq2]at e<;>cases e
      simp only[↓zq,zs,ae,zt,LK.has]
      simp[ic,Ty.av,ae,LK.has]
    ·rw[if_neg (by rw[hq];simp)]
     refine ai (yE (.atom s) [43]) ?_
     simp only[↓zq,zs,ae]
     refine⟨fun h=>(by simp at h),fun _=>?_⟩
     refine ai (yE (.atom s) [42]) ?_
     simp only[↓zq,zs,ae]
     refine⟨fun h=>(by simp at h),fun _=>?_⟩
     refine ai (yE (.atom s) [114,101,99]) ?_
     simp only[↓zq,zs,ae]
     refine⟨fun h=>(by simp at h),fun _=>?_⟩
     trivial
 |
  .list l,ar,a,hok,ha,hl=>by
  simp only[E.sz]at hl
  refine OT _ _ ((cU _).mpr trivial) ha.1 ?_
  have hd:=nP (.list l)
  have hlen:=lQ (.list l)
  simp only[E.at]at hd
  have hp:hD []=false:=rfl
  have hq:dk []=false:=rfl
  simp only[FT,↓zq,zs,ae,zt,bK,cU,en,hd]
  refine⟨hlen,fun h=>(by simp at h),fun h=>⟨hlen,fun h1=>(by simp at h1),fun h1=>⟨hlen,?_⟩⟩⟩
  refine ai (Oi []) ?_
  simp only[↓zq,zs,ae,hp]
  refine⟨fun h=>(by simp at h),fun _=>⟨hlen,?_⟩⟩
  refine ai (Dg []) ?_
  simp only[↓zq,zs,ae,hq]
  refine⟨fun h=>(by simp at h),fun _=>?_⟩
  refine ai (yE (.list l) [43]) ?_
  match l,hok,hl with
  |
   [x,y,z],hok,hl =>
   simp only[E.jr]at hl
   obtain⟨ok1,ok2,ok3,_⟩:=hok
   have iy:=CZ y ar a ok2 ha (by omega)
   have iz:=CZ z ar a ok3 ha (by omega)
   have hds:((E.list [x,y,z]).cD.deref.drop 1).headD .any=.sl [[x.cD],[y.cD],[z.cD]]:=rfl
   have hdl:1<=((E.list [x,y,z]).cD.deref.drop 1).length:=by simp[E.cD,jJ]
   have hxd:=nP x
   have hxl:=lQ x
   have hyd:=nP y
   have hyl:=lQ y
   have bin:∀(c:UInt8) (mkT:Ty->Ty->Ty),(∀t u:Ty,(mkT t u).av=.ptr [.v (.int .u8 (c.toNat:Int)),.v (.string (mk [])),.v (.int .i64 0),t.av,u.av])->x.at=[c]->bt (mk x.at) 0=(c.toNat:Int):=fun c _ _ hx=>by
    have:=mf x.at 0 (by rw[hx];simp)
    simp only[Int.ofNat_eq_natCast,Int.cast_ofNat_Int]at this
    rw[this,hx];rfl
   simp only[↓zq,zs,ae,zt,hds,hdl,cU,en,toNat_one,bg,hxd,hyd,rT]
   refine⟨fun hx=>?_,fun hx=>?_⟩
   ·refine⟨by omega,by omega,?_⟩
    refine ai iy ?_
    simp only[↓zq,zs,ae,il]
    refine⟨by omega,by omega,?_⟩
    refine ai iz ?_
    have hb:=bin 43 Ty.plus (fun _ _=>rfl) hx
    rw[kP ar hx]
    simp only[↓zq,zs,ae,zt,il]
    cases h1:cS y ar with
    |none=>simp[ic,jL]
    |
     some t =>
     cases h2:cS z ar with
     |none=>simp[ic,jL,fP]
     |
      some u =>
      simp only[ic,fP,hb]
      refine⟨fun h=>(by cases h),fun _=>⟨fun h=>(by cases h),fun _=>⟨by omega,by omega,hxl,⟨by omega,by rw[hx];simp⟩,rfl⟩⟩⟩
   ·refine ai (yE (.list [x,y,z]) [42]) ?_
    simp only[↓zq,zs,ae,hds,hdl,cU,en,toNat_one,bg,hxd,hyd,rT]
    refine⟨fun hx2=>?_,fun hx2=>?_⟩
    ·refine⟨by omega,by omega,?_⟩
     refine ai iy ?_
     simp only[↓zq,zs,ae,il]
     refine⟨by omega,by omega,?_⟩
     refine ai iz ?_
     have hb:=bin 42 Ty.times (fun _ _=>rfl) hx2
     rw[j6 ar hx2]
     simp only[↓zq,zs,ae,zt,il]
     cases h1:cS y ar with
     |none=>simp[ic,jL]
     |
      some t =>
      cases h2:cS z ar with
      |none=>simp[ic,jL,fP]
      |
       some u =>
       simp only[ic,fP,hb]
       refine⟨fun h=>(by cases h),fun _=>⟨fun h=>(by cases h),fun _=>⟨by omega,by omega,hxl,⟨by omega,by rw[hx2];simp⟩,rfl⟩⟩⟩
    ·refine ai (yE (.list [x,y,z]) [114,101,99]) ?_
     simp only[↓zq,zs,ae,zt,hds,hdl,cU,en,toNat_one,bg,hxd,hyd,rT]
     refine⟨fun hx3=>⟨by omega,by omega,hyl,?_⟩,fun hx3=>?_⟩
     ·refine ai (Dg y.at) ?_
      rw[mN ar hx3]
      simp only[↓zq,zs,ae]
      have hal:cB 1 a.elems:=by rw[ha.2];exact ki ar
      have hal1:cB 1 [[AV.v (.string (mk y.at))]]:=fun c hc=>by simp at hc;rw[hc];rfl
      refine⟨fun hlo=>⟨by omega,by omega,⟨ha.1,hal,by rw[ha.len];omega⟩,by omega,by omega,hyl,⟨hal1,by rw[aT,ha.len];omega⟩,?_⟩,fun hlo=>?_⟩
      ·rw[aT,ha.2,EU,if_pos hlo]
       refine ai (CZ z (ar++[y.at]) _ ok3 (.of _) (by simp;omega)) ?_
       simp only[↓zq,zs,ae,il]
       cases h2:cS z (ar++[y.at])with
       |none=>simp[ic,jL]
       |
        some u =>
        simp only[ic,fP]
        refine⟨fun h=>(by cases h),fun _=>rfl⟩
      ·rw[if_neg (by rw[hlo];simp)];rfl
     ·rw[je ar hx hx2 hx3];rfl
  |
   [],_,_ =>
   simp only[↓zq,zs,ae]
   refine⟨fun h=>(by cases h),fun _=>?_⟩
   refine ai (yE (.list []) [42]) ?_
   simp only[↓zq,zs,ae]
   refine⟨fun h=>(by cases h),fun _=>?_⟩
   refine ai (yE (.list []) [114,101,99]) ?_
   simp only[↓zq,zs,ae]
   refine⟨fun h=>(by cases h),fun _=>?_⟩
   rfl
  |
   [x1],_,_ =>
   simp only[↓zq,zs,ae]
   refine⟨fun h=>(by cases h),fun _=>?_⟩
   refine ai (yE (.list [x1]) [42]) ?_
   simp only[↓zq,zs,ae]
   refine⟨fun h=>(by cases h),fun _=>?_⟩
   refine ai (yE (.list [x1]) [114,101,99]) ?_
   simp only[↓zq,zs,ae]
   refine⟨fun h=>(by cases h),fun _=>?_⟩
   rfl
  |
   [x1,x2],_,_ =>
   simp only[↓zq,zs,ae]
   refine⟨fun h=>(by cases h),fun _=>?_⟩
   refine ai (yE (.list [x1,x2]) [42]) ?_
   simp only[↓zq,zs,ae]
   refine⟨fun h=>(by cases h),fun _=>?_⟩
   refine ai (yE (.list [x1,x2]) [114,101,99]) ?_
   simp only[↓zq,zs,ae]
   refine⟨fun h=>(by cases h),fun _=>?_⟩
   rfl
  |
   x1::x2::x3::x4::l,_,_ =>
   simp only[↓zq,zs,ae]
   refine⟨fun h=>(by cases h),fun _=>?_⟩
   refine ai (yE (.list (x1::x2::x3::x4::l)) [42]) ?_
   simp only[↓zq,zs,ae]
   refine⟨fun h=>(by cases h),fun _=>?_⟩
   refine ai (yE (.list (x1::x2::x3::x4::l)) [114,101,99]) ?_
   simp only[↓zq,zs,ae]
   refine⟨fun h=>(by cases h),fun _=>?_⟩
   rfl
end Go.Proofs.Trees
namespace Go.Proofs.Trees
open Go Go.VL
def df(v:AV)(obs:List Ob):AV->List Ob->Prop:=fun r o=>r=v/\o=obs
theorem aV{P:Program}{n:Nat}{Q:Nat->List AV->List Ob->Prop}{f:Nat}{xs:List AV}{ins:List Ob}{k:AV->List Ob->Tree}{v:AV}{obs:List Ob}(h:an P f xs ins (df v obs))(hk:eZ P n (k v obs) Q):eZ P n (.call f xs ins k) Q :=
 ⟨df v obs,h,⟨v,obs,rfl,rfl⟩,fun r o ⟨h1,h2⟩=>by rw[h1,h2];exact hk⟩
def Ty.atoms:Ty->Nat
 | .plus a b=>1+a.atoms+b.atoms
 | .times a b=>1+a.atoms+b.atoms
 | .rc a=>2+a.atoms
 |_=>1
theorem EE:∀(t:Ty),t.atoms<1000000->an Tryz.prog 131 [t.av] [] (bK (.v (.int .i64 (t.atoms:Int))))
 | .zero,h=>by refine xx _ ((aE _).mpr trivial) ?_;simp[EN,Ty.av,↓zq,zs,ae,bK,Ty.atoms]
 | .one,h=>by refine xx _ ((aE _).mpr trivial) ?_;simp[EN,Ty.av,↓zq,zs,ae,bK,Ty.atoms]
 | .name s,h=>by refine xx _ ((aE _).mpr trivial) ?_;simp[EN,Ty.av,↓zq,zs,ae,bK,Ty.atoms]
 | .bound u,h=>by refine xx _ ((aE _).mpr trivial) ?_;simp[EN,Ty.av,↓zq,zs,ae,bK,Ty.atoms]
 |
  .plus a b,h=>by
  simp only[Ty.atoms]at h
  refine xx _ ((aE _).mpr trivial) ?_
  simp only[EN,Ty.av,↓zq,zs,ae,aE]
  refine⟨by omega,fun _=>⟨by omega,?_⟩,fun h=>absurd rfl h⟩
  refine ai (EE a (by omega)) ?_
  simp only[↓zq,zs,ae,aE]
  refine⟨by omega,?_⟩
  refine ai (EE b (by omega)) ?_
  simp only[↓zq,zs,ae,bK,Ty.atoms]
  rw[wrap64 (1+(a.atoms:Int)) (by omega) (by omega),wrap64 _ (by omega) (by omega)]
  congr 2
 |
  .times a b,h=>by
  simp only[Ty.atoms]at h
  refine xx _ ((aE _).mpr trivial) ?_
  simp only[EN,Ty.av,↓zq,zs,ae,aE]
  refine⟨by omega,fun h=>by omega,fun _=>⟨fun _=>⟨by omega,?_⟩,fun h=>absurd rfl h⟩⟩
  refine ai (EE a (by omega)) ?_
  simp only[↓zq,zs,ae,aE]
  refine⟨by omega,?_⟩
  refine ai (EE b (by omega)) ?_
  simp only[↓zq,zs,ae,bK,Ty.atoms]
  rw[wrap64 (1+(a.atoms:Int)) (by omega) (by omega),wrap64 _ (by omega) (by omega)]
  congr 2
 |
  .rc a,h=>by
  simp only[Ty.atoms]at h
  refine xx _ ((aE _).mpr trivial) ?_
  simp only[EN,Ty.av,↓zq,zs,ae,aE]
  refine⟨by omega,fun h=>by omega,fun _=>⟨fun h=>by omega,fun _=>⟨fun _=>⟨by omega,?_⟩,fun h=>absurd rfl h⟩⟩⟩
  refine ai (EE a (by omega)) ?_
  simp only[↓zq,zs,ae,bK,Ty.atoms]
  rw[wrap64 _ (by omega) (by omega)]
  congr 2
theorem iZ:∀(e:E) (ar:List (List UInt8)) (t:Ty),cS e ar=some t->t.atoms<=e.sz
 |
  .atom s,ar,t,h=>by
  simp only[cS]at h
  simp only[E.sz]
  split at h
  ·cases h;simp[Ty.atoms]
  ·split at h
   ·cases h;simp[Ty.atoms]
   ·split at h
    ·cases h;simp[Ty.atoms]
    ·split at h
     ·split at h<;>cases h<;>simp[Ty.atoms]
     ·cases h
 |
  .list [x,a,b],ar,t,h=>by
  have hs:∀e:E,1<=e.sz:=fun e=>by cases e<;>simp[E.sz];try omega
  have hx:=hs x
  have ha:=hs a
  simp only[E.sz,E.jr]
  by_cases h1:x.at=[43]
  ·rw[kP ar h1]at h
   split at h
   ·rename_i t1 t2 e1 e2
    cases h
    have:=iZ a ar t1 e1
    have:=iZ b ar t2 e2
    simp only[Ty.atoms];omega
   ·cases h
  ·by_cases h2:x.at=[42]
   ·rw[j6 ar h2]at h
    split at h
    ·rename_i t1 t2 e1 e2
     cases h
     have:=iZ a ar t1 e1
     have:=iZ b ar t2 e2
     simp only[Ty.atoms];omega
    ·cases h
   ·by_cases h3:x.at=[114,101,99]
    ·rw[mN ar h3]at h
     split at h
     ·split at h
      ·rename_i t1 e1
       cases h
       have:=iZ b _ t1 e1
       simp only[Ty.atoms];omega
      ·cases h
     ·cases h
    ·rw[je ar h1 h2 h3]at h;cases h
 | .list [],_,_,h=>by cases h
 | .list [_],_,_,h=>by cases h
 | .list [_,_],_,_,h=>by cases h
 | .list (_::_::_::_::_),_,_,h=>by cases h
def qL(s:List UInt8):Option Ty:=match qU s with
 |none=>none
 |
  some e=>match cS e []with
  |none=>none
  |some t=>if t.atoms>400 then none else some t
theorem IB(s:List UInt8):an Tryz.prog 96 [.v (.string (mk s))] [] (bK (ic (qL s))):=by
 refine SH _ ?_
 unfold Mc
 refine ai (M5 s) ?_
 unfold qL
 cases he:qU s with
 |none=>simp only[uE,↓zq,zs,ae,bK,ic];simp
 |
  some e =>
  obtain⟨h1,h2⟩:=nO he
  simp only[uE,↓zq,zs,ae,cU,en]
  refine⟨fun h=>(by cases h),fun _=>?_⟩
  refine ai (CZ e [] _ h1 .nil (by simp;omega)) ?_
  cases ht:cS e []with
  |none=>simp only[ic,↓zq,zs,ae,bK];simp
  |
   some t =>
   have:=iZ e [] t ht
   simp only[ic,↓zq,zs,ae,aE,fP]
   refine⟨fun h=>(by cases h),fun _=>?_⟩
   refine ai (EE t (by omega)) ?_
   simp only[↓zq,zs,ae,bK]
   refine⟨fun h=>?_,fun h=>?_⟩
   ·rw[if_pos (by omega)]
   ·rw[if_neg (by omega)]
end Go.Proofs.Trees
namespace Go.Proofs.Trees
open Go Go.VL
def Ck(p:Prop):Nat->List AV->List Ob->Prop:=fun t ys o=>(t=1/\¬p/\ys=[]/\o=[])\/(t=2/\p/\∃j:Nat,ys=[.v (.int .i64 (j:Int))]/\o=[])
theorem IX(l:List (List UInt8))(a:AV)(ha:ct a l)(s:List UInt8)(hl:l.length<1000000):∀(k i:Nat),i+k=l.length->s∉l.take i->Gj [a,.v (.string (mk s)),.v (.int .i64 (l.length:Int)),.v (.int .i64 (i:Int))] []
 (Ck (s∈l))
 |
  0,i,hi,hn=>by
  refine OK _ _ _ _ ?_
  simp only[Iv,↓zq,zs,ae]
  have:l.take i=l:=List.take_of_length_le (by omega)
  rw[this]at hn
  exact⟨ha.1,fun h=>by omega,fun _=>.inl ⟨rfl,hn,rfl,rfl⟩⟩
 |
  k+1,i,hi,hn=>by
  have hlt:i<l.length:=by omega
  refine OK _ _ _ _ ?_
  simp only[Iv,↓zq,zs,ae,zt,ha.len,ha.idx hlt]
  have hm:l.getD i []∈l:=by simp[aa,hlt]
  refine⟨ha.1,fun _=>⟨⟨ha.1,by omega,by omega⟩,by omega,fun h=>?_,fun h=>?_⟩,fun h=>by omega⟩
  ·exact .inr ⟨rfl,by rw[h];exact hm,i,rfl,rfl⟩
  ·rw[bA i (by omega)]
   refine IX l a ha s hl k (i+1) (by omega) ?_
   rw[List.take_add_one]
   simp only[aN,not_or]
   refine⟨hn,?_⟩
   have:l[i]?=some (l.getD i []):=by simp[aa,hlt]
   rw[this];simpa using h
theorem Jr(l:List (List UInt8))(a:AV)(ha:ct a l)(s:List UInt8)(hl:l.length<1000000):an Tryz.prog 156 [a,.v (.string (mk s))] [] (bK (.v (.bool (decide (s∈l))))):=by
 have hI:an Tryz.prog 167 [a,.v (.string (mk s))] [] (fun r o=>∃n:Int,r=.v (.int .i64 n)/\(0<=n↔s∈l)/\o=[]):=by
  refine Pe _ _ ha.1 ?_
  simp only[JO,↓zq,zs,ae,ha.len]
  refine⟨ha.1,kZ (IX l a ha s hl l.length 0 (by omega) (by simp)) ?_ ?_⟩
  ·rintro ys o (⟨_,h1,rfl,rfl⟩|⟨h,_⟩)
   ·simp only[↓zq,zs,ae]
    exact⟨-1,rfl,⟨fun h=>(by omega),fun h=>absurd h h1⟩⟩
   ·cases h
  ·rintro ys o (⟨h,_⟩|⟨_,h1,j,rfl,rfl⟩)
   ·cases h
   ·simp only[↓zq,zs,ae]
    exact⟨j,rfl,⟨fun _=>h1,fun _=>(by omega)⟩⟩
 refine QB _ _ ha.1 ?_
 unfold Ki
 refine aP hI ⟨.v (.int .i64 (if s∈l then 0 else -1)),[],_,rfl,by split<;>simp_all,rfl⟩ ?_
 rintro r o ⟨n,rfl,hn,rfl⟩
 simp only[↓zq,zs,ae,bK]
 congr 2
 rw[cy];simp[hn]
def pI(out:List (List UInt8)):Ty->List (List UInt8)
 | .name s=>if s∈out then out else out++[s]
 |_=>out
theorem H5(t:Ty)(out:List (List UInt8))(hl:out.length<100000):an Tryz.prog 166 [t.av,.ref 0 0] [.cells [.vec 1],.vec 1 (bJ out)] (df .any [.cells [.vec 1],.vec 1 (bJ (pI out t))]):=by
 refine Pr _ _ ((aE _).mpr trivial) ?_
 have hlen:(bJ out).length=out.length:=by simp[bJ]
 cases t with
 |
  name s =>
  simp only[HH,Ty.av,↓zq,zs,ae,df,hlen]
  refine⟨by omega,fun _=>⟨by omega,?_⟩,fun h=>absurd rfl h⟩
  refine ai (Jr out _ (.of out) s (by omega)) ?_
  simp only[↓zq,zs,ae,pI]
  refine⟨fun h=>⟨by omega,⟨fun c hc=>(by simp at hc;rw[hc];rfl),by omega⟩,?_⟩,fun h=>?_⟩
  ·rw[EU,if_neg h]
  ·rw[if_pos h]
 |_=>simp[HH,Ty.av,↓zq,zs,ae,df,pI]
def bP:Ty->List (List UInt8)->List (List UInt8)
 | .name s,out=>pI out (.name s)
 | .plus a b,out=>bP b (bP a out)
 | .times a b,out=>bP b (bP a out)
 | .rc a,out=>bP a out
 |_,out=>out
theorem ez:∀(t:Ty) (out:List (List UInt8)),(bP t out).length<=out.length+t.atoms
 | .name s,out=>by simp only[bP,pI,Ty.atoms];split<;>simp
 |
  .plus a b,out=>by
  have:=ez a out
  have:=ez b (bP a out)
  simp only[bP,Ty.atoms];omega
 |
  .times a b,out=>by
  have:=ez a out
  have:=ez b (bP a out)
  simp only[bP,Ty.atoms];omega
 |
  .rc a,out=>by
  have:=ez a out
  simp only[bP,Ty.atoms];omega
 | .zero,out=>by simp[bP]
 | .one,out=>by simp[bP]
 | .bound u,out=>by simp[bP]
theorem zI:∀(t:Ty) (out:List (List UInt8)),out.length+t.atoms<100000->an Tryz.prog 165 [t.av,.fn 166 [.ref 0 0]] [.cells [.vec 1],.vec 1 (bJ out)] (df .any [.cells [.vec 1],.vec 1 (bJ (bP t out))])
 |
  .plus a b,out,hl=>by
  simp only[Ty.atoms]at hl
  have:=ez a out
  refine xp _ _ ((aE _).mpr trivial) ?_
  unfold E8
  refine aV (H5 (.plus a b) out (by omega)) ?_
  simp only[Ty.av,↓zq,zs,ae,aE,fP,pI,aJ,df]
  refine⟨by omega,fun _=>⟨by omega,?_⟩,fun h=>(by cases h)⟩
  refine aV (zI a out (by omega)) ?_
  simp only[↓zq,zs,ae,aE,fP,aJ]
  refine⟨by omega,fun _=>⟨by omega,?_⟩,fun h=>(by cases h)⟩
  refine aV (zI b (bP a out) (by omega)) ?_
  simp only[↓zq,zs,ae,aJ,bP]
 |
  .times a b,out,hl=>by
  simp only[Ty.atoms]at hl
  have:=ez a out
  refine xp _ _ ((aE _).mpr trivial) ?_
  unfold E8
  refine aV (H5 (.times a b) out (by omega)) ?_
  simp only[Ty.av,↓zq,zs,ae,aE,fP,pI,aJ,df]
  refine⟨by omega,fun _=>⟨by omega,?_⟩,fun h=>(by cases h)⟩
  refine aV (zI a out (by omega)) ?_
  simp only[↓zq,zs,ae,aE,fP,aJ]
  refine⟨by omega,fun _=>⟨by omega,?_⟩,fun h=>(by cases h)⟩
  refine aV (zI b (bP a out) (by omega)) ?_
  simp only[↓zq,zs,ae,aJ,bP]
 |
  .rc a,out,hl=>by
  simp only[Ty.atoms]at hl
  refine xp _ _ ((aE _).mpr trivial) ?_
  unfold E8
  refine aV (H5 (.rc a) out (by omega)) ?_
  simp only[Ty.av,↓zq,zs,ae,aE,fP,pI,aJ,df]
  refine⟨by omega,fun _=>⟨by omega,?_⟩,fun h=>(by cases h)⟩
  refine aV (zI a out (by omega)) ?_
  simp[↓zq,zs,ae,aE,fP,aJ,bP]
 |
  .name s,out,hl=>by
  refine xp _ _ ((aE _).mpr trivial) ?_
  unfold E8
  refine aV (H5 (.name s) out (by omega)) ?_
  simp[Ty.av,↓zq,zs,ae,aJ,df,bP]
 |
  .zero,out,hl=>by
  refine xp _ _ ((aE _).mpr trivial) ?_
  unfold E8
  refine aV (H5 .zero out (by omega)) ?_
  simp[Ty.av,↓zq,zs,ae,aJ,df,bP,pI]
 |
  .one,out,hl=>by
  refine xp _ _ ((aE _).mpr trivial) ?_
  unfold E8
  refine aV (H5 .one out (by omega)) ?_
  simp[Ty.av,↓zq,zs,ae,aJ,df,bP,pI]
 |
  .bound u,out,hl=>by
  refine xp _ _ ((aE _).mpr trivial) ?_
  unfold E8
  refine aV (H5 (.bound u) out (by omega)) ?_
  simp[Ty.av,↓zq,zs,ae,aJ,df,bP,pI]
theorem LB(t:Ty)(hl:t.atoms<100000):an Tryz.prog 154 [t.av] [] (bK (.sl (bJ (bP t [])))):=by
 refine Sq _ ((aE _).mpr trivial) ?_
 unfold Ks
 refine aV (zI t [] (by simpa using hl)) ?_
 simp[↓zq,zs,ae,aJ,bK]
theorem Jn(l:List (List UInt8))(a:AV)(ha:ct a l)(hl:l.length<1000000):∀(k i:Nat),i+k=l.length->(∀s,s∈l.take i->dk s=false)->Fk [a,.v (.func (.func 150) #[] #[]),.v (.int .i64 (l.length:Int)),.v (.int .i64 (i:Int))] []
 (Ck (l.any dk=true))
 |
  0,i,hi,hn=>by
  refine LQ _ _ _ ?_
  simp only[GP,↓zq,zs,ae]
  have:l.take i=l:=List.take_of_length_le (by omega)
  rw[this]at hn
  exact⟨ha.1,fun h=>by omega,fun _=>.inl ⟨rfl,fun hh=>(by obtain⟨x,hx,hy⟩:=cr.1 hh;rw[hn x hx]at hy;cases hy),rfl,rfl⟩⟩
 |
  k+1,i,hi,hn=>by
  have hlt:i<l.length:=by omega
  refine LQ _ _ _ ?_
  simp only[GP,↓zq,zs,ae,zt,ha.len,ha.idx hlt]
  have hm:l.getD i []∈l:=by simp[aa,hlt]
  refine⟨ha.1,fun _=>⟨⟨ha.1,by omega,by omega⟩,by omega,?_⟩,fun h=>by omega⟩
  refine ai (Dg _) ?_
  simp only[↓zq,zs,ae]
  refine⟨fun h=>?_,fun h=>?_⟩
  ·exact .inr ⟨rfl,cr.2 ⟨_,hm,h⟩,i,rfl,rfl⟩
  ·rw[bA i (by omega)]
   refine Jn l a ha hl k (i+1) (by omega) ?_
   intro s hs
   rw[List.take_add_one]at hs
   have:l[i]?=some (l.getD i []):=by simp[aa,hlt]
   rw[this]at hs
   rcases aN.1 hs with hs|hs
   ·exact hn s hs
   ·simp at hs;rw[hs];simpa using h
theorem Pd(l:List (List UInt8))(a:AV)(ha:ct a l)(hl:l.length<1000000):an Tryz.prog 157 [a,.v (.func (.func 150) #[] #[])] [] (bK (.v (.bool (l.any dk)))):=by
 have hI:an Tryz.prog 168 [a,.v (.func (.func 150) #[] #[])] [] (fun r o=>∃n:Int,r=.v (.int .i64 n)/\(0<=n↔l.any dk=true)/\o=[]):=by
  refine RU _ ha.1 ?_
  simp only[Nw,↓zq,zs,ae,ha.len]
  refine⟨ha.1,kZ (Jn l a ha hl l.length 0 (by omega) (by simp)) ?_ ?_⟩
  ·rintro ys o (⟨_,h1,rfl,rfl⟩|⟨h,_⟩)
   ·simp only[↓zq,zs,ae]
    exact⟨-1,rfl,⟨fun h=>(by omega),fun h=>absurd h h1⟩⟩
   ·cases h
  ·rintro ys o (⟨h,_⟩|⟨_,h1,j,rfl,rfl⟩)
   ·cases h
   ·simp only[↓zq,zs,ae]
    exact⟨j,rfl,⟨fun _=>h1,fun _=>(by omega)⟩⟩
 refine RO _ ha.1 ?_
 unfold MX
 refine aP hI ⟨.v (.int .i64 (if l.any dk=true then 0 else -1)),[],_,rfl,by split<;>simp_all,rfl⟩ ?_
 rintro r o ⟨n,rfl,hn,rfl⟩
 simp only[↓zq,zs,ae,bK]
 congr 2
 rw[cy];simp only[decide_eq_true_eq,ge_iff_le,hn]
def Ty.closed(t:Ty):Bool:=!((bP t []).any dk)
theorem Se(t:Ty)(hl:t.atoms<100000):an Tryz.prog 138 [t.av] [] (bK (.v (.bool t.closed))):=by
 refine Qx _ ((aE _).mpr trivial) ?_
 unfold Jp
 refine ai (LB t hl) ?_
 simp only[↓zq,zs,ae]
 have:=ez t []
 refine ai (Pd _ _ (.of _) (by simp at this;omega)) ?_
 simp only[↓zq,zs,ae,bK,Ty.closed]
def w8(s:List UInt8):Option Ty:=match qL s with
 |none=>none
 |some t=>if t.closed=true then some t else none
theorem sU{s:List UInt8}{t:Ty}(h:qL s=some t):t.atoms<=400:=by
 unfold qL at h
 split at h
 ·cases h
 ·split at h
  ·cases h
  ·split at h<;>cases h
   omega
theorem I5(s:List UInt8):an Tryz.prog 99 [.v (.string (mk s))] [] (bK (ic (w8 s))):=by
 refine Sf _ ?_
 unfold I2
 refine ai (IB s) ?_
 unfold w8
 cases ht:qL s with
 |none=>simp[ic,↓zq,zs,ae,bK]
 |
  some t =>
  have:=sU ht
  simp only[ic,↓zq,zs,ae,aE,fP]
  refine⟨fun h=>(by cases h),fun _=>?_⟩
  refine ai (Se t (by omega)) ?_
  simp only[↓zq,zs,ae,bK]
  refine⟨fun h=>?_,fun h=>?_⟩
  ·rw[if_neg (by rw[h];simp)]
  ·rw[if_pos h]
theorem dU(l:List (List UInt8)):∀x,x∈[Ob.vec 1 (bJ l)]->eG x:=by
 intro x hx
 simp only[aR]at hx
 subst hx
 intro e he c hc
 simp only[bJ,bO]at he
 obtain⟨k,_,rfl⟩:=he
 simp only[aR]at hc
 exact⟨_,hc⟩
end Go.Proofs.Trees
namespace Go.Proofs.Trees
open Go Go.VL Go.RowKit
abbrev Nm:=List UInt8
def dy(u:Ty):Ty->Nat->Ty
 | .bound k,i=>if k=i then u else .bound k
 | .plus a b,i=>.plus (dy u a i) (dy u b i)
 | .times a b,i=>.times (dy u a i) (dy u b i)
 | .rc a,i=>.rc (dy u a (i+1))
 |t,_=>t
def sub(x:Nm)(u:Ty):Ty->Ty
 | .name s=>if s=x then u else .name s
 | .plus a b=>.plus (sub x u a) (sub x u b)
 | .times a b=>.times (sub x u a) (sub x u b)
 | .rc a=>.rc (sub x u a)
 |t=>t
def bn(x:Nm):Ty->Bool
 | .name s=>decide (s=x)
 | .plus a b=>bn x a||bn x b
 | .times a b=>bn x a||bn x b
 | .rc a=>bn x a
 |_=>false
def jK(f:Nm->Nm):Ty->Ty
 | .name s=>.name (f s)
 | .plus a b=>.plus (jK f a) (jK f b)
 | .times a b=>.times (jK f a) (jK f b)
 | .rc a=>.rc (jK f a)
 |t=>t
def Ma(f:Nm->Nm):Prop:=∀x y,f x=f y->x=y
theorem lK(f:Nm->Nm)(x:Nm):∀(t:Ty) (i:Nat),jK f (dy (.name x) t i)=dy (.name (f x)) (jK f t) i
 | .bound k,i=>by simp only[dy,jK];split<;>rfl
 | .plus a b,i=>by simp only[dy,jK,lK f x a i,lK f x b i]
 | .times a b,i=>by simp only[dy,jK,lK f x a i,lK f x b i]
 | .rc a,i=>by simp only[dy,jK,lK f x a (i+1)]
 | .zero,i=>rfl
 | .one,i=>rfl
 | .name s,i=>rfl
theorem lI{f:Nm->Nm}(hf:Ma f)(x:Nm)(u:Ty):∀t:Ty,jK f (sub x u t)=sub (f x) (jK f u) (jK f t)
 |
  .name s=>by
  simp only[sub,jK]
  by_cases h:s=x
  ·subst h;simp
  ·rw[if_neg h,if_neg fun e=>h (hf _ _ e)];rfl
 | .plus a b=>by simp only[sub,jK,lI hf x u a,lI hf x u b]
 | .times a b=>by simp only[sub,jK,lI hf x u a,lI hf x u b]
 | .rc a=>by simp only[sub,jK,lI hf x u a]
 | .zero=>rfl
 | .one=>rfl
 | .bound k=>rfl
theorem nr{f:Nm->Nm}(hf:Ma f)(x:Nm):∀t:Ty,bn (f x) (jK f t)=bn x t
 | .name s=>by simp only[bn,jK];rw[cy];simp only[decide_eq_true_eq];exact⟨fun e=>hf _ _ e,fun e=>by rw[e]⟩
 | .plus a b=>by simp only[bn,jK,nr hf x a,nr hf x b]
 | .times a b=>by simp only[bn,jK,nr hf x a,nr hf x b]
 | .rc a=>by simp only[bn,jK,nr hf x a]
 | .zero=>rfl
 | .one=>rfl
 | .bound k=>rfl
theorem hZ(f:Nm->Nm):∀t:Ty,(jK f t).atoms=t.atoms
 | .plus a b=>by simp only[Ty.atoms,jK,hZ f a,hZ f b]
 | .times a b=>by simp only[Ty.atoms,jK,hZ f a,hZ f b]
 | .rc a=>by simp only[Ty.atoms,jK,hZ f a]
 | .name s=>rfl
 | .zero=>rfl
 | .one=>rfl
 | .bound k=>rfl
theorem pL{f:Nm->Nm}:∀t:Ty,(∀x,bn x t=true->f x=x)->jK f t=t
 | .name s,h=>by simp only[jK];rw[h s (by simp[bn])]
 | .plus a b,h=>by simp only[jK];rw[pL a fun x hx=>h x (by simp[bn,hx]),pL b fun x hx=>h x (by simp[bn,hx])]
 | .times a b,h=>by simp only[jK];rw[pL a fun x hx=>h x (by simp[bn,hx]),pL b fun x hx=>h x (by simp[bn,hx])]
 | .rc a,h=>by simp only[jK];rw[pL a fun x hx=>h x hx]
 | .zero,_=>rfl
 | .one,_=>rfl
 | .bound k,_=>rfl
theorem fK(x:Nm):∀(t:Ty) (i:Nat),(dy (.name x) t i).atoms=t.atoms
 | .bound k,i=>by simp only[dy];split<;>rfl
 | .plus a b,i=>by simp only[dy,Ty.atoms,fK x a i,fK x b i]
 | .times a b,i=>by simp only[dy,Ty.atoms,fK x a i,fK x b i]
 | .rc a,i=>by simp only[dy,Ty.atoms,fK x a (i+1)]
 | .zero,i=>rfl
 | .one,i=>rfl
 | .name s,i=>rfl
theorem ej(t:Ty):1<=t.atoms:=by cases t<;>simp only[Ty.atoms]<;>omega
theorem hG(x:Nm)(u:Ty):∀t:Ty,t.atoms<=(sub x u t).atoms
 | .name s=>by simp only[sub];split<;>simp only[Ty.atoms];exact ej u;omega
 | .plus a b=>by have:=hG x u a;have:=hG x u b;simp only[sub,Ty.atoms];omega
 | .times a b=>by have:=hG x u a;have:=hG x u b;simp only[sub,Ty.atoms];omega
 | .rc a=>by have:=hG x u a;simp only[sub,Ty.atoms];omega
 | .zero=>au _
 | .one=>au _
 | .bound k=>au _
theorem gy{x y:Nm}:∀(t:Ty) (i:Nat),bn y (dy (.name x) t i)=true->y=x\/bn y t=true
 |
  .bound k,i,h=>by
  simp only[dy]at h
  split at h
  ·left;simp only[bn,decide_eq_true_eq]at h;exact h.symm
  ·cases h
 |
  .plus a b,i,h=>by
  simp only[dy,bn,bC]at h |-
  rcases h with h|h
  ·rcases gy a i h with h|h<;>simp[h]
  ·rcases gy b i h with h|h<;>simp[h]
 |
  .times a b,i,h=>by
  simp only[dy,bn,bC]at h |-
  rcases h with h|h
  ·rcases gy a i h with h|h<;>simp[h]
  ·rcases gy b i h with h|h<;>simp[h]
 | .rc a,i,h=>gy a (i+1) h
 | .zero,i,h=>by cases h
 | .one,i,h=>by cases h
 | .name s,i,h=>.inr h
theorem jb{x y:Nm}{u:Ty}:∀t:Ty,bn y (sub x u t)=true->bn y u=true\/(y≠x/\bn y t=true)
 |
  .name s,h=>by
  simp only[sub]at h
  split at h
  ·exact .inl h
  ·rename_i hs
   simp only[bn,decide_eq_true_eq]at h
   subst h
   exact .inr ⟨hs,by simp[bn]⟩
 |
  .plus a b,h=>by
  simp only[sub,bn,bC]at h |-
  rcases h with h|h
  ·rcases jb a h with h|h<;>simp[h]
  ·rcases jb b h with h|h<;>simp[h]
 |
  .times a b,h=>by
  simp only[sub,bn,bC]at h |-
  rcases h with h|h
  ·rcases jb a h with h|h<;>simp[h]
  ·rcases jb b h with h|h<;>simp[h]
 |
  .rc a,h=>by
  simp only[sub,bn]at h |-
  exact jb a h
 | .zero,h=>by cases h
 | .one,h=>by cases h
 | .bound k,h=>by cases h
def swp(x y:Nm):Nm->Nm:=fun s=>if s=x then y else if s=y then x else s
theorem yJ(x y:Nm):Ma (swp x y):=by
 intro a b h
 unfold swp at h
 by_cases h1:a=x<;>by_cases h2:a=y<;>by_cases h3:b=x<;>by_cases h4:b=y<;>simp_all
theorem vm(x y:Nm):swp x y x=y:=by simp[swp]
theorem A2{x y s:Nm}(h:s≠x)(h':s≠y):swp x y s=s:=by simp[swp,h,h']
theorem uS{x y:Nm}{t:Ty}(h:bn x t=false)(h':bn y t=false):jK (swp x y) t=t :=
 pL t fun z hz=>A2 (fun e=>by subst e;rw[h]at hz;cases hz) (fun e=>by subst e;rw[h']at hz;cases hz)
def pW(a:Ty)(x:Nm)(c d:Ty):Ty:=.rc (.plus (sub x (.rc a) c) (.times (sub x (.rc a) d) (.bound 0)))
inductive Dv:Ty->Nm->Ty->Prop
 |zero (s):Dv .zero s .zero
 |one (s):Dv .one s .zero
 |bound (k s):Dv (.bound k) s .zero
 |hit (s):Dv (.name s) s .one
 |qx {n s} (h:n≠s):Dv (.name n) s .zero
 |plus {a b s a' b'} (h1:Dv a s a') (h2:Dv b s b') (hl:(Ty.plus a' b').atoms<=400):Dv (.plus a b) s (.plus a' b')
 |times {a b s a' b'} (h1:Dv a s a') (h2:Dv b s b') (hl:(Ty.plus (.times a' b) (.times a b')).atoms<=400):Dv (.times a b) s (.plus (.times a' b) (.times a b'))
 |rc {a s c d} (x:Nm) (hx:bn x a=false) (hs:x≠s) (h1:Dv (dy (.name x) a 0) s c) (h2:Dv (dy (.name x) a 0) x d) (hl:(pW a x c d).atoms<=400):Dv (.rc a) s (pW a x c d)
theorem yo{f:Nm->Nm}(hf:Ma f)(a:Ty)(x:Nm)(c d:Ty):jK f (pW a x c d)=pW (jK f a) (f x) (jK f c) (jK f d):=by
 simp only[pW,jK,lI hf]
theorem Dv.jK{f:Nm->Nm}(hf:Ma f){t d:Ty}{s:Nm}(h:Dv t s d):Dv (jK f t) (f s) (jK f d):=by
 induction h with
 |zero s=>exact .zero _
 |one s=>exact .one _
 |bound k s=>exact .bound _ _
 |hit s=>exact .hit _
 |qx h=>exact .qx fun e=>h (hf _ _ e)
 |plus h1 h2 hl i1 i2=>exact .plus i1 i2 (by rw[<-hZ f]at hl;exact hl)
 |times h1 h2 hl i1 i2=>exact .times i1 i2 (by rw[<-hZ f]at hl;exact hl)
 |
  rc x hx hs h1 h2 hl i1 i2 =>
  rw[yo hf]
  rw[lK]at i1 i2
  exact .rc (f x) (by rw[nr hf];exact hx) (fun e=>hs (hf _ _ e)) i1 i2 (by rw[<-yo hf,hZ];exact hl)
theorem Dv.names{t d:Ty}{s:Nm}(h:Dv t s d):∀y,bn y d=true->bn y t=true:=by
 induction h with
 |zero s=>intro y hy;cases hy
 |one s=>intro y hy;cases hy
 |bound k s=>intro y hy;cases hy
 |hit s=>intro y hy;cases hy
 |qx h=>intro y hy;cases hy
 |
  plus h1 h2 hl i1 i2 =>
  intro y hy
  simp only[bn,bC]at hy |-
  rcases hy with hy|hy
  ·exact .inl (i1 y hy)
  ·exact .inr (i2 y hy)
 |
  times h1 h2 hl i1 i2 =>
  intro y hy
  simp only[bn,bC]at hy |-
  rcases hy with(hy|hy)|(hy|hy)
  ·exact .inl (i1 y hy)
  ·exact .inr hy
  ·exact .inl hy
  ·exact .inr (i2 y hy)
 |
  rc x hx hs h1 h2 hl i1 i2 =>
  intro y hy
  simp only[pW,bn,bC,Bool.or_false]at hy |-
  have key:∀{a c:Ty},(∀y,bn y c=true->bn y (dy (.name x) a 0)=true)->bn y (sub x (.rc a) c)=true->bn y a=true:=fun i h=>by
   rcases jb _ h with h|⟨h,h'⟩
   ·exact h
   ·rcases gy _ _ (i y h')with e|e
    ·exact absurd e h
    ·exact e
  rcases hy with hy|hy
  ·exact key i1 hy
  ·exact key i2 hy
theorem Dv.fresh{t d:Ty}{s y:Nm}(h:Dv t s d)(hy:bn y t=false):bn y d=false:=by
 cases e:bn y d with
 |false=>rfl
 |true=>rw[h.names y e]at hy;cases hy
theorem Dv.move{a c:Ty}{x y s:Nm}(hx:bn x a=false)(hy:bn y a=false)(h:Dv (dy (.name x) a 0) s c):Dv (dy (.name y) a 0) (swp x y s) (Go.Proofs.Trees.jK (swp x y) c):=by
 have:=h.jK (yJ x y)
 rw[lK,vm,uS hx hy]at this
 exact this
theorem my{a c:Ty}{x y s:Nm}(hx:bn x a=false)(hy:bn y a=false)(h:Dv (dy (.name x) a 0) s c):sub y (.rc a) (jK (swp x y) c)=sub x (.rc a) c:=by
 have e:=lI (yJ x y) x (.rc a) c
 rw[vm,uS (t:=.rc a) hx hy]at e
 rw[<-e]
 have key:∀z,(z=x\/z=y)->bn z (sub x (.rc a) c)=false:=fun z hz=>by
  cases q:bn z (sub x (.rc a) c)with
  |false=>rfl
  |
   true =>
   exfalso
   have hz':bn z a=false:=by rcases hz with rfl|rfl<;>assumption
   rcases jb _ q with h1|⟨h1,h2⟩
   ·rw[show bn z (.rc a)=bn z a from rfl,hz']at h1;cases h1
   ·rcases gy _ _ (h.names z h2)with e|e
    ·exact h1 e
    ·rw[hz']at e;cases e
 exact uS (key x (.inl rfl)) (key y (.inr rfl))
theorem Dv.uniq:∀(n:Nat) (t:Ty),t.atoms<=n->∀{s:Nm} {d d':Ty},Dv t s d->Dv t s d'->d=d'
 |0,t,h,_,_,_,_,_=>by have:=ej t;omega
 |
  n+1,t,hn,s,d,d',h,h'=>by
  cases h with
  |zero=>cases h';rfl
  |one=>cases h';rfl
  |bound=>cases h';rfl
  |
   hit =>
   cases h' with
   |hit=>rfl
   |qx h=>exact absurd rfl h
  |
   qx h =>
   cases h' with
   |hit=>exact absurd rfl h
   |qx _=>rfl
  |
   plus h1 h2 =>
   simp only[Ty.atoms]at hn
   cases h' with
   |plus g1 g2=>rw[Dv.uniq n _ (by omega) h1 g1,Dv.uniq n _ (by omega) h2 g2]
  |
   times h1 h2 =>
   simp only[Ty.atoms]at hn
   cases h' with
   |times g1 g2=>rw[Dv.uniq n _ (by omega) h1 g1,Dv.uniq n _ (by omega) h2 g2]
  |
   rc x hx hs h1 h2 =>
   simp only[Ty.atoms]at hn
   cases h' with
   |
    rc y hy hs' g1 g2 =>
    rename_i a _ _ _ _ _ _
    have m1:=h1.move hx hy
    have m2:=h2.move hx hy
    rw[A2 (Ne.symm hs) (Ne.symm hs')]at m1
    rw[vm]at m2
    have e1:=Dv.uniq n _ (by rw[fK];omega) m1 g1
    have e2:=Dv.uniq n _ (by rw[fK];omega) m2 g2
    rw[pW,pW,<-e1,<-e2,my hx hy h1,my hx hy h2]
theorem Dv.small{t d:Ty}{s:Nm}(h:Dv t s d):d.atoms<=400:=by
 cases h<;>first|assumption|simp[Ty.atoms]
open Classical in
noncomputable def lH (t:Ty) (s:Nm):Option Ty:=if h:∃d,Dv t s d then some (Classical.choose h)else none
theorem cQ{t:Ty}{s:Nm}{d:Ty}:lH t s=some d↔Dv t s d:=by
 unfold lH
 by_cases h:∃d,Dv t s d
 ·rw[dif_pos h]
  have:=Classical.choose_spec h
  constructor
  ·intro e;cases e;exact this
  ·intro g;rw[Dv.uniq _ t (au _) this g]
 ·rw[dif_neg h]
  exact⟨fun e=>(by cases e),fun g=>absurd ⟨d,g⟩ h⟩
def nD(t:Ty):Option Ty:=if t.atoms<=400 then some t else none
theorem eN{t d:Ty}:nD t=some d↔t.atoms<=400/\t=d:=by
 unfold nD
 split
 ·rename_i h;simp[h]
 ·rename_i h;simp[h]
theorem qI{α:Type}{a b:Option α}(h:∀d,a=some d↔b=some d):a=b:=by
 cases a with
 |
  none=>cases b with
  |none=>rfl
  |some x=>have:=(h x).2 rfl;cases this
 |some x=>exact((h x).1 rfl).symm
theorem wh(s:Nm):lH .zero s=some .zero:=cQ.2 (.zero _)
theorem yg(s:Nm):lH .one s=some .zero:=cQ.2 (.one _)
theorem zB(k:Nat)(s:Nm):lH (.bound k) s=some .zero:=cQ.2 (.bound _ _)
theorem ov(n s:Nm):lH (.name n) s=some (if n=s then .one else .zero):=by
 split
 ·rename_i h;subst h;exact cQ.2 (.hit _)
 ·rename_i h;exact cQ.2 (.qx h)
theorem wa(a b:Ty)(s:Nm):lH (.plus a b) s=(lH a s).bind fun a'=>(lH b s).bind fun b'=>nD (.plus a' b'):=by
 refine qI fun d=>?_
 rw[cQ]
 simp only[a7,cQ,eN]
 constructor
 ·intro h;cases h with|plus h1 h2 hl=>exact⟨_,h1,_,h2,hl,rfl⟩
 ·rintro⟨a',h1,b',h2,hl,rfl⟩;exact .plus h1 h2 hl
theorem sN(a b:Ty)(s:Nm):lH (.times a b) s=(lH a s).bind fun a'=>(lH b s).bind fun b'=>nD (.plus (.times a' b) (.times a b')):=by
 refine qI fun d=>?_
 rw[cQ]
 simp only[a7,cQ,eN]
 constructor
 ·intro h;cases h with|times h1 h2 hl=>exact⟨_,h1,_,h2,hl,rfl⟩
 ·rintro⟨a',h1,b',h2,hl,rfl⟩;exact .times h1 h2 hl
theorem Co{a:Ty}{s x:Nm}(hx:bn x a=false)(hs:x≠s):lH (.rc a) s=(lH (dy (.name x) a 0) s).bind fun c=>(lH (dy (.name x) a 0) x).bind fun d=>nD (pW a x c d):=by
 refine qI fun d=>?_
 rw[cQ]
 simp only[a7,cQ,eN]
 constructor
 ·intro h
  cases h with
  |
   rc y hy hs' h1 h2 hl =>
   have m1:=h1.move hy hx
   have m2:=h2.move hy hx
   rw[A2 (Ne.symm hs') (Ne.symm hs)]at m1
   rw[vm]at m2
   refine⟨_,m1,_,m2,?_⟩
   have e:∀c d,sub x (.rc a) (jK (swp y x) c)=sub y (.rc a) c->sub x (.rc a) (jK (swp y x) d)=sub y (.rc a) d->pW a x (jK (swp y x) c) (jK (swp y x) d)=pW a y c d:=fun c d e1 e2=>by rw[pW,pW,e1,e2]
   rw[e _ _ (my hy hx h1) (my hy hx h2)]
   exact⟨hl,rfl⟩
 ·rintro⟨c,h1,d',h2,hl,rfl⟩;exact .rc x hx hs h1 h2 hl
noncomputable def n6 (a:Ty) (x:Nm):Option Ty:=(lH (dy (.name x) a 0) x).bind fun d=>nD (sub x (.rc a) d)
theorem HR{a:Ty}{x y:Nm}(hx:bn x a=false)(hy:bn y a=false):n6 a x=n6 a y:=by
 have key:∀{x y:Nm} {d:Ty},bn x a=false->bn y a=false->n6 a x=some d->n6 a y=some d:=fun {x y d} hx hy h=>by
  simp only[n6,a7,cQ,eN]at h |-
  obtain⟨d',h1,hl,rfl⟩:=h
  have m1:=h1.move hx hy
  rw[vm]at m1
  exact⟨_,m1,by rw[my hx hy h1];exact⟨hl,rfl⟩⟩
 exact qI fun d=>⟨key hx hy,key hy hx⟩
end Go.Proofs.Trees
namespace Go.Proofs.Trees
open Go Go.VL
theorem SY(b:UInt8):an Tryz.prog 161 [.v (.int .u8 (b.toNat:Int))] [] (bK (.v (.bool (fe b)))):=by
 refine R0 _ ?_
 simp only[Md,↓zq,zs,ae,bK,fe]
 repeat' (apply aH<;>intro _)
 all_goals first|(congr 2;rw[cy];simp;omega)|(congr 2;simp;omega)
def DS(s:List UInt8)(x:Option (E×List UInt8)):AV->List Ob->Prop:=fun r o=>o=[] /\
 match x with
 |some (e,u)=>r=.cG [e.kF,.v (.int .i64 ((s.length-u.length:Nat):Int))]
 |none=>∃(c:List UInt8) (d:AV),LK.sl.has d/\r=.cG [.agg [.v (.string (mk c)),d],.v (.int .i64 (-1))]
theorem DS.ne(s:List UInt8)(x:Option (E×List UInt8)):∃r o,DS s x r o:=by
 cases x with
 |some q=>exact⟨_,_,rfl,rfl⟩
 |none=>exact⟨_,_,rfl,[],.v (.slice none 0 0),(bh).mpr trivial,rfl⟩
def jc(c:List UInt8)(d:AV):Ob:=.cells [.v (.string (mk c)),d]
theorem KI(s:List UInt8)(hs:s.length<=8000)(from_:Int)(c1 c2:List UInt8)(d1 d2:AV)(h1:LK.sl.has d1)(h2:LK.sl.has d2):∀(k i:Nat),i+k=s.length->HS [.v (.string (mk s)),.v (.int .i64 (i:Int)),.v (.int .i64 from_)] [jc c1 d1,jc c2 d2]
 (gV 1 [.v (.string (mk s)),.v (.int .i64 ((i+((s.drop i).takeWhile fe).length:Nat):Int)),.v (.int .i64 from_)] [jc c1 d1,jc c2 d2])
 |
  0,i,hi=>by
  refine K8 _ _ _ _ _ _ _ ?_
  have hd:s.drop i=[]:=bV (by omega)
  simp only[F8,↓zq,zs,ae,zt]
  exact⟨h1,h2,fun h=>by omega,fun _=>by simp[gV,hd,jc]⟩
 |
  k+1,i,hi=>by
  have hlt:i<s.length:=by omega
  refine K8 _ _ _ _ _ _ _ ?_
  simp only[F8,↓zq,zs,ae,zt,mf s i hlt]
  refine⟨h1,h2,fun _=>⟨by omega,?_⟩,fun h=>by omega⟩
  refine ai (SY _) ?_
  simp only[↓zq,zs,ae]
  refine⟨fun hb=>?_,fun hb=>?_⟩
  ·rw[bA i (by omega)]
   have:=KI s hs from_ c1 c2 d1 d2 h1 h2 k (i+1) (by omega)
   rw[yN hlt hb,show i+(((s.drop (i+1)).takeWhile fe).length+1)=i+1+((s.drop (i+1)).takeWhile fe).length by omega]
   exact this
  ·simp[gV,qM hlt hb,jc]
def Tq(s:List UInt8)(x:Option (E×List UInt8)):Nat->List AV->List Ob->Prop:=fun t ys o=>t=2 /\
 match x with
 |some (e,u)=>∃l,e=.list l/\ys=[.v (.int .i64 ((s.length-u.length:Nat):Int))]/\o=[jc [] .any,.vec 2 (E.bw l)]
 |none=>∃es,ys=[.v (.int .i64 (-1))]/\o=[jc [] .any,.vec 2 es]
theorem xT(e:E):(e.kF=.agg e.kF.cs/\e.kF.cs.length=2/\bF [.str,.sl] e.kF.cs 0)=True:=by
 apply eq_true
 cases e<;>simp[E.kF,E.im,BL,bF,dX,bh,cf]
theorem wZ(e:E):[AV.v (.string ((e.kF.cs.getD 0 .any).toStr)),e.kF.cs.getD 1 .any]=e.im:=by
 cases e<;>rfl
theorem drop_cons{s:List UInt8}{j:Nat}(hj:j<s.length):s.drop j=s.getD j 0::s.drop (j+1):=by
 rw[aU hj];simp[aa,hj]
theorem Ku(s:List UInt8)(hs:s.length<=8000)(d:Nat)(hd:d<=300)(f:List UInt8->Option (E×List UInt8))(hf:∀u e r,f u=some (e,r)->∃j,r=u.drop j/\0<j/\j<=u.length)
 (ih:∀j,j<=s.length->an Tryz.prog 142 [.v (.string (mk s)),.v (.int .i64 (j:Int)),.v (.int .i64 ((d+1:Nat):Int))] [] (DS s (f (s.drop j)))) :
 ∀(n i:Nat) (acc:List E) (c1:List UInt8) (d1:AV),LK.sl.has d1->s.length-(i+1)<n->i<s.length->s.length-i+acc.length<=8001->HW [.v (.string (mk s)),.v (.int .i64 (i:Int)),.v (.int .i64 (d:Int))] [jc c1 d1,jc [] .any,.vec 2 (E.bw acc)]
  (Tq s (sA f n (s.drop (i+1)) acc))
 |0,i,acc,c1,d1,h1,hn,_,_=>by omega
 |
  n+1,i,acc,c1,d1,h1,hn,hi,hl=>by
  refine Py _ _ _ _ _ _ _ ?_
  simp only[Lr,↓zq,zs,ae,jc]
  refine⟨h1,?_⟩
  rw[bA i (by omega),bA d (by omega)]
  refine aP (ih (i+1) (by omega)) (DS.ne _ _) ?_
  rintro r o ⟨rfl,hr⟩
  have hff:=hf (s.drop (i+1))
  unfold sA
  cases hq:f (s.drop (i+1))with
  |
   none =>
   rw[hq]at hr
   obtain⟨c,d',hd',rfl⟩:=hr
   simp only[↓zq,zs,ae,zt,bF]
   refine⟨hd',fun _=>⟨rfl,_,rfl,rfl⟩,fun h=>by omega⟩
  |
   some q =>
   obtain⟨e,u⟩:=q
   rw[hq]at hr
   subst hr
   obtain⟨j,hu,hj0,hj⟩:=hff e u hq
   rw[List.drop_drop]at hu
   simp only[cx]at hj
   have hul:u.length=s.length-(i+1+j):=by rw[hu,cx]
   have hpos:s.length-u.length=i+1+j:=by omega
   simp only[↓zq,zs,ae,zt,xT,hpos,wZ,eg]
   refine⟨fun h=>by omega,fun _=>⟨fun h=>?_,fun h=>⟨⟨fun c hc=>(by simp at hc;rw[hc];cases e<;>rfl),by omega⟩,?_⟩⟩⟩
   ·have:u=[]:=by rw[hu];exact bV (by omega)
    subst this
    exact⟨rfl,_,rfl,rfl⟩
   ·have hlt:i+1+j<s.length:=by omega
    rw[drop_cons hlt]at hu
    subst hu
    rw[mf s _ hlt]
    generalize hb:s.getD (i+1+j) 0=b
    refine⟨by omega,fun h41=>?_,fun h41=>⟨by omega,fun h32=>?_,fun h32=>?_⟩⟩
    ·have h41':b.toNat=41:=by omega
     dsimp only
     rw[if_pos h41',bA _ (by omega)]
     refine⟨rfl,acc++[e],rfl,?_,?_⟩
     ·rw[cx];congr 3;omega
     ·simp[jc,qi,E.bw]
    ·have h41':¬b.toNat=41:=by omega
     have h32':¬b.toNat=32:=by omega
     dsimp only
     rw[if_neg h41',if_neg h32']
     exact⟨rfl,_,rfl,rfl⟩
    ·have h41':¬b.toNat=41:=by omega
     have h32':b.toNat=32:=by omega
     dsimp only
     rw[if_neg h41',if_pos h32']
     have:=Ku s hs d hd f hf ih n (i+1+j) (acc++[e]) c1 d1 h1 (by omega) hlt (by simp;omega)
     simpa[jc,qi,E.bw]using this
theorem Dc(k:Nat)(u:List UInt8)(e:E)(r:List UInt8)(h:rd k u=some (e,r)):∃j,r=u.drop j/\0<j/\j<=u.length:=by
 have suf:∀(k:Nat) (u:List UInt8) (e:E) (r:List UInt8),rd k u=some (e,r)->r <:+ u:=by
  intro k
  have tw:∀u:List UInt8,u.dropWhile fe <:+ u:=fun u=>List.dropWhile_suffix _
  have ll:∀(f:List UInt8->Option (E×List UInt8)),(∀u e r,f u=some (e,r)->r <:+ u)->∀(n:Nat) (u:List UInt8) (acc:List E) (e:E) (r:List UInt8),sA f n u acc=some (e,r)->r <:+ u:=by
   intro f hf n
   induction n with
   |zero=>intro u acc e r h;cases h
   |
    succ n ih =>
    intro u acc e r h
    simp only[sA]at h
    split at h
    ·rename_i p c r' hs
     have h1:r' <:+ u:=(List.suffix_cons c r').trans (hf _ _ _ hs)
     split at h
     ·cases h;exact h1
     ·split at h
      ·exact(ih _ _ _ _ h).trans h1
      ·cases h
    ·cases h
  induction k with
  |
   zero =>
   intro u e r h
   simp only[rd]at h
   split at h
   ·cases h
   ·cases h;exact tw u
  |
   succ k ih =>
   intro u e r h
   simp only[rd]at h
   split at h
   ·split at h
    ·split at h
     ·exact(ll _ ih _ _ _ _ _ h).trans (List.suffix_cons _ _)
     ·cases h
    ·cases h
   ·cases h;exact tw u
 obtain⟨p,hp⟩:=suf k u e r h
 have hlt:=ye k u e r h
 have:=congrArg List.length hp
 simp only[aq]at this
 exact⟨p.length,by rw[<-hp];simp,by omega,by omega⟩
theorem Bq(n:Nat)(u:List UInt8)(acc:List E):sA (fun _=>none) n u acc=none:=by
 cases n<;>rfl
theorem Rv(s:List UInt8)(j:Nat):an Tryz.prog 142 [.v (.string (mk s)),.v (.int .i64 (j:Int)),.v (.int .i64 ((300+1:Nat):Int))] [] (DS s none):=by
 refine KV _ _ _ ?_
 simp only[Gw,↓zq,zs,ae]
 exact⟨fun _=>⟨rfl,[],_,(bh).mpr trivial,rfl⟩,fun h=>by omega⟩
theorem qd(s:List UInt8)(hs:s.length<=8000)(d i:Nat)(hd:d<=300)(hi:i<=s.length)(f:List UInt8->Option (E×List UInt8))(hf:∀u e r,f u=some (e,r)->∃j,r=u.drop j/\0<j/\j<=u.length)
 (ih:∀j,j<=s.length->an Tryz.prog 142 [.v (.string (mk s)),.v (.int .i64 (j:Int)),.v (.int .i64 ((d+1:Nat):Int))] [] (DS s (f (s.drop j)))) (x:Option (E×List UInt8))
 (h0:i=s.length->x=none)
 (h1:i<s.length->(s.drop i).takeWhile fe≠[]->x=some (.atom ((s.drop i).takeWhile fe),(s.drop i).dropWhile fe))
 (h2:i<s.length->(s.drop i).takeWhile fe=[]->¬(s.getD i 0).toNat=40->x=none)
 (h3:i<s.length->(s.getD i 0).toNat=40->x=sA f (s.length-(i+1)+1) (s.drop (i+1)) []) :
 an Tryz.prog 142 [.v (.string (mk s)),.v (.int .i64 (i:Int)),.v (.int .i64 (d:Int))] [] (DS s x):=by
 refine KV _ _ _ ?_
 simp only[Gw,↓zq,zs,ae,zt]
 refine⟨fun h=>by omega,fun _=>⟨fun h=>?_,fun h=>⟨by omega,?_⟩⟩⟩
 ·rw[h0 (by omega)]
  exact⟨rfl,[],_,(bh).mpr trivial,rfl⟩
 ·have hlt:i<s.length:=by omega
  rw[mf s i hlt]
  refine⟨fun h40=>?_,fun h40=>?_⟩
  ·have h40':¬(s.getD i 0).toNat=40:=by omega
   refine cz (KI s hs _ [] [] _ _ ((bh).mpr trivial) ((bh).mpr trivial) (s.length-i) i (by omega)) ?_
   have hex:(List.take (i+((s.drop i).takeWhile fe).length) s).drop i=(s.drop i).takeWhile fe:=by
    rw[List.drop_take,Nat.add_sub_cancel_left];exact tV _
   have hle:i+((s.drop i).takeWhile fe).length<=s.length:=by
    have:=uh (s.drop i);simp only[cx]at this;omega
   simp only[jc,↓zq,zs,ae,zt,hex]
   refine⟨by omega,fun hnil=>?_,fun hnil=>?_⟩
   ·rw[h2 hlt hnil h40',hnil]
    exact⟨rfl,[],_,(bh).mpr trivial,rfl⟩
   ·rw[h1 hlt hnil]
    refine⟨rfl,?_⟩
    have:=uh (s.drop i)
    simp only[cx]at this
    show _=AV.cG [E.kF (.atom _),_]
    have e:s.length-((s.drop i).dropWhile fe).length=i+((s.drop i).takeWhile fe).length:=by omega
    rw[e];rfl
  ·have h40':(s.getD i 0).toNat=40:=by omega
   rw[h3 hlt h40']
   refine kZ (Ku s hs d hd f hf ih (s.length-(i+1)+1) i [] [] _ ((bh).mpr trivial) (by omega) hlt (by simp;omega)) ?_ ?_
   ·rintro ys o ⟨h,_⟩;cases h
   ·rintro ys o ⟨_,hr⟩
    cases hq:sA f (s.length-(i+1)+1) (s.drop (i+1)) []with
    |
     none =>
     rw[hq]at hr
     obtain⟨es,rfl,rfl⟩:=hr
     simp only[jc,↓zq,zs,ae]
     exact⟨rfl,[],_,(cf _).mpr trivial,rfl⟩
    |
     some q =>
     obtain⟨e,u⟩:=q
     rw[hq]at hr
     obtain⟨l,rfl,rfl,rfl⟩:=hr
     simp only[jc,↓zq,zs,ae]
     exact⟨rfl,rfl⟩
theorem Ry(s:List UInt8)(hs:s.length<=8000):∀(k:Nat),k<=300->∀i,i<=s.length->an Tryz.prog 142 [.v (.string (mk s)),.v (.int .i64 (i:Int)),.v (.int .i64 ((300-k:Nat):Int))] [] (DS s (rd k (s.drop i))):=by
 intro k
 have hnil:∀k,rd k []=none:=fun k=>by cases k<;>simp[rd]
 have ha40:∀b:UInt8,b.toNat=40->fe b=false:=fun b hb=>by simp[fe,hb]
 induction k with
 |
  zero =>
  intro hk i hi
  refine qd s hs 300 i (by omega) hi (fun _=>none) (fun _ _ _ h=>by cases h) (fun j _=>Rv s j) _ (fun h=>?_) (fun hlt h=>?_) (fun hlt h h40=>?_) (fun hlt h40=>?_)
  ·rw[bV (by omega)];exact hnil 0
  ·simp only[rd,if_neg h]
  ·simp only[rd,if_pos h]
  ·rw[Bq]
   have:(s.drop i).takeWhile fe=[]:=qM hlt (ha40 _ h40)
   simp only[rd,if_pos this]
 |
  succ k ih =>
  intro hk i hi
  have hd:300-(k+1)+1=300-k:=by omega
  refine qd s hs (300-(k+1)) i (by omega) hi (rd k) (Dc k) (fun j hj=>by rw[hd];exact ih (by omega) j hj) _ (fun h=>?_) (fun hlt h=>?_) (fun hlt h h40=>?_) (fun hlt h40=>?_)
  ·rw[bV (by omega)];exact hnil _
  ·simp only[rd,if_neg h]
  ·rw[drop_cons hlt]at h |-
   simp only[rd,if_pos h,if_neg h40]
  ·have h:=qM hlt (ha40 _ h40)
   rw[drop_cons hlt]at h |-
   simp only[rd,if_pos h,if_pos h40,cx]
end Go.Proofs.Trees
namespace Go.Proofs.Trees
open Go Go.VL
theorem iS(e:E):AV.agg [.v (.string ((e.im.getD 0 .any).toStr)),e.im.getD 1 .any]=e.kF:=by cases e<;>rfl
theorem gf(e:E):e.im.length=2:=by cases e<;>rfl
theorem i7(e:E):bF [.str,.sl] e.im 0=True:=by
 apply eq_true
 cases e<;>simp[E.im,bF,dX,bh,cf]
theorem mz(e:E):e.im.headD .any=.v (.string (mk e.at)):=by cases e<;>rfl
theorem vd(x:E)(l:List E):an Tryz.prog 86 [.agg [.v (.string (mk [])),.sl (E.bw (x::l))]] [] (bK (.v (.string (mk x.at)))):=by
 refine H0 _ _ ((cf _).mpr trivial) ?_
 simp only[DB,E.bw,↓zq,zs,ae,zt,bK,gf,mz,au]
 refine⟨fun h=>absurd rfl h,fun _=>⟨fun h=>by omega,fun _=>⟨by omega,by omega⟩⟩⟩
theorem Rk:an Tryz.prog 86 [.agg [.v (.string (mk [])),.sl (E.bw [])]] [] (bK (.v (.string (mk [])))):=by
 refine H0 _ _ ((cf _).mpr trivial) ?_
 simp only[DB,E.bw,↓zq,zs,ae,zt,bK,gf,mz,au]
 simp
def j4:E->Bool
 | .atom s=>(s==[48])||(s==[49])||hD s||dk s
 | .list [x,a,b]=>if x.at=[43]then j4 a&&j4 b else if x.at=[42]then j4 a&&j4 b else if x.at=[114,101,99]then dk a.at&&j4 b else false
 | .list _=>false
theorem zy:∀(e:E),e.ok->an Tryz.prog 117 [e.kF] [] (bK (.v (.bool (j4 e))))
 |
  .atom s,hok=>by
  refine JB _ _ ((bh).mpr trivial) ?_
  have hne:s≠[]:=hok
  simp only[xc,↓zq,zs,ae,zt,bK,j4]
  refine⟨fun _=>⟨fun h=>?_,fun h=>⟨fun h1=>?_,fun h1=>?_⟩⟩,fun h=>absurd h hne⟩
  ·simp[h]
  ·simp[h1]
  ·refine ai (Hx s) ?_
   simp only[↓zq,zs,ae]
   refine⟨fun hp=>?_,fun hp=>?_⟩
   ·simp[hp]
   ·refine ai (HV s) ?_
    simp[↓zq,zs,ae,hp,h,h1]
 |
  .list l,hok=>by
  refine JB _ _ ((cf _).mpr trivial) ?_
  match l,hok with
  |[],hok=>simp[xc,E.bw,↓zq,zs,ae,zt,bK,j4]
  |[x],hok=>simp[xc,E.bw,↓zq,zs,ae,zt,bK,j4]
  |[x,y],hok=>simp[xc,E.bw,↓zq,zs,ae,zt,bK,j4]
  |
   x::y::z::w::l,hok =>
   simp only[xc,E.bw,↓zq,zs,ae,zt,bK,j4]
   exact⟨fun h=>absurd rfl h,fun _=>⟨fun _=>trivial,fun h=>by omega⟩⟩
  |
   [x,y,z],hok =>
   obtain⟨ok1,ok2,ok3,_⟩:=hok
   simp only[xc,↓zq,zs,ae,zt,bK]
   refine⟨fun h=>absurd rfl h,fun _=>⟨fun h=>absurd rfl h,fun _=>?_⟩⟩
   refine ai (vd x _) ?_
   simp only[E.bw,toNat_one,bg,↓zq,zs,ae,zt,iS,gf,i7,mz,au,j4]
   refine⟨fun h=>?_,fun h=>⟨fun h1=>?_,fun h1=>⟨fun h2=>?_,fun h2=>?_⟩⟩⟩
   ·rw[if_pos h]
    refine⟨by omega,ai (zy y ok2) ?_⟩
    simp only[↓zq,zs,ae]
    refine⟨fun hy=>⟨by omega,ai (zy z ok3) ?_⟩,fun hy=>?_⟩
    ·simp only[↓zq,zs,ae,hy,bX]
    ·rw[hy];rfl
   ·rw[if_neg h,if_pos h1]
    refine⟨by omega,ai (zy y ok2) ?_⟩
    simp only[↓zq,zs,ae]
    refine⟨fun hy=>⟨by omega,ai (zy z ok3) ?_⟩,fun hy=>?_⟩
    ·simp only[↓zq,zs,ae,hy,bX]
    ·rw[hy];rfl
   ·rw[if_neg h,if_neg h1,if_pos h2]
    refine⟨by omega,by omega,ai (HV _) ?_⟩
    simp only[↓zq,zs,ae]
    refine⟨fun hy=>⟨by omega,ai (zy z ok3) ?_⟩,fun hy=>?_⟩
    ·simp only[↓zq,zs,ae,hy,bX]
    ·rw[hy];rfl
   ·rw[if_neg h,if_neg h1,if_neg h2]
theorem iU:∀(e:E) (ar:List (List UInt8)),(cS e ar).isSome=j4 e
 |
  .atom s,ar=>by
  simp only[cS,j4]
  by_cases h:s=[48]
  ·simp[h]
  ·by_cases h1:s=[49]
   ·simp[h1]
   ·rw[if_neg h,if_neg h1]
    by_cases h2:hD s=true
    ·simp[h2]
    ·rw[if_neg h2]
     by_cases h3:dk s=true
     ·rw[if_pos h3];cases bQ s ar ar.length<;>simp[h3]
     ·rw[if_neg h3];simp[h,h1,h2,h3]
 | .list [],_=>rfl
 | .list [_],_=>rfl
 | .list [_,_],_=>rfl
 | .list (_::_::_::_::_),_=>rfl
 |
  .list [x,a,b],ar=>by
  have ha:=iU a ar
  have hb:=iU b ar
  have hb2:=iU b (ar++[a.at])
  rw[j4]
  by_cases h:x.at=[43]
  ·rw[kP ar h,if_pos h,<-ha,<-hb];cases cS a ar<;>cases cS b ar<;>rfl
  ·by_cases h1:x.at=[42]
   ·rw[j6 ar h1,if_neg h,if_pos h1,<-ha,<-hb];cases cS a ar<;>cases cS b ar<;>rfl
   ·by_cases h2:x.at=[114,101,99]
    ·rw[mN ar h2,if_neg h,if_neg h1,if_pos h2,<-hb2]
     cases dk a.at<;>cases cS b (ar++[a.at])<;>rfl
    ·rw[je ar h h1 h2,if_neg h,if_neg h1,if_neg h2];rfl
mutual
def E.db:E->Nat
 | .atom _=>1
 | .list l=>E.eY l
def E.eY:List E->Nat
 |[]=>0
 |e::l=>e.db+E.eY l
end
mutual
theorem iN:∀e:E,e.db<=e.sz
 | .atom s=>by simp[E.db,E.sz]
 | .list l=>by have:=uB l;simp only[E.db,E.sz];omega
theorem uB:∀l:List E,E.eY l<=E.jr l
 |[]=>by simp[E.eY,E.jr]
 |e::l=>by have:=iN e;have:=uB l;simp only[E.eY,E.jr];omega
end
theorem jG:∀(l:List E) (i:Nat) (h:i<l.length),(E.bw l).getD i []=(l[i]).im
 |e::l,0,_=>rfl
 |
  e::l,i+1,h=>by
  have:=jG l i (by simpa using h)
  simp only[E.bw,List.getD_cons_succ,List.getElem_cons_succ];exact this
theorem Ac:∀(l:List E) (i:Nat) (h:i<l.length),E.eY (l.drop i)=(l[i]).db+E.eY (l.drop (i+1)):=by
 intro l i h
 rw[aU h];rfl
theorem uU:∀(l:List E) (i:Nat) (h:i<l.length),E.Ef l->(l[i]).ok
 |e::l,0,_,h=>h.1
 |e::l,i+1,hi,h=>uU l i (by simpa using hi) h.2
theorem Kx(l:List E)(hl:E.eY l<1000000)(hll:l.length<1000000)(ih:∀i (h:i<l.length),an Tryz.prog 88 [(l[i]).kF] [] (bK (.v (.int .i64 ((l[i]).db:Int))))) :
 ∀(k i n:Nat),i+k=l.length->n+E.eY (l.drop i)<=E.eY l->F4 [.v (.int .i64 (n:Int)),.v (.int .i64 (i:Int))] [.cells [.v (.string (mk [])),.sl (E.bw l)]] (gV 1 [.v (.int .i64 ((n+E.eY (l.drop i):Nat):Int))] [])
 |
  0,i,n,hi,hn=>by
  refine MS _ _ _ _ ?_
  simp only[FV,↓zq,zs,ae,eg]
  have:l.drop i=[]:=bV (by omega)
  refine⟨fun h=>by omega,fun _=>?_⟩
  simp[gV,this,E.eY]
 |
  k+1,i,n,hi,hn=>by
  have hlt:i<l.length:=by omega
  refine MS _ _ _ _ ?_
  simp only[FV,↓zq,zs,ae,zt,eg,jG l i hlt,gf,i7,iS,au]
  refine⟨fun _=>⟨by omega,?_⟩,fun h=>by omega⟩
  refine ai (ih i hlt) ?_
  have h1:=Ac l i hlt
  simp only[↓zq,zs,ae]
  rw[bA i (by omega),wrap64 _ (by omega) (by omega)]
  have:=Kx l hl hll ih k (i+1) (n+(l[i]).db) (by omega) (by omega)
  rw[h1,<-Nat.add_assoc]
  simpa using this
theorem uH:∀l:List E,l.length<=E.jr l
 |[]=>by simp[E.jr]
 |
  e::l=>by
  have:=uH l
  have:1<=e.sz:=by cases e<;>simp[E.sz]
  simp only[E.jr,aA];omega
theorem uJ:∀(l:List E) (i:Nat) (h:i<l.length),(l[i]).sz<=E.jr l
 |e::l,0,_=>by simp[E.jr]
 |e::l,i+1,h=>by have:=uJ l i (by simpa using h);simp only[E.jr,List.getElem_cons_succ];omega
theorem Jy:∀(n:Nat) (e:E),e.sz<n->e.ok->e.sz<1000000->an Tryz.prog 88 [e.kF] [] (bK (.v (.int .i64 (e.db:Int))))
 |0,e,hn,_,_=>by omega
 |
  n+1,.atom s,hn,hok,hl=>by
  refine I7 _ _ ((bh).mpr trivial) ?_
  have hne:s≠[]:=hok
  simp only[GM,↓zq,zs,ae,zt,bK]
  exact⟨fun _=>rfl,fun h=>absurd h hne⟩
 |
  n+1,.list l,hn,hok,hl=>by
  refine I7 _ _ ((cf _).mpr trivial) ?_
  simp only[E.sz]at hn hl
  have h1:=uB l
  have h2:=uH l
  simp only[GM,↓zq,zs,ae,zt,bK]
  refine⟨fun h=>absurd rfl h,fun _=>?_⟩
  refine cz (Kx l (by omega) (by omega) (fun i hi=>?_) l.length 0 0 (by omega) (by simp)) ?_
  ·have:=uJ l i hi
   exact Jy n (l[i]) (by omega) (uU l i hi hok) (by omega)
  ·simp[↓zq,zs,ae,E.db]
theorem Ep(e:E)(h:e.ok)(hl:e.sz<1000000):an Tryz.prog 88 [e.kF] [] (bK (.v (.int .i64 (e.db:Int)))):=Jy (e.sz+1) e (by omega) h hl
theorem uw{x:E}(h:x.at≠[]):x.db=1:=by cases x<;>simp[E.at,E.db]at h |-
theorem CC{s:List UInt8}(h:dk s=true):s≠[]:=by rintro rfl;cases h
theorem jZ:∀(e:E) (ar:List (List UInt8)) (t:Ty),cS e ar=some t->e.db=t.atoms
 |
  .atom s,ar,t,h=>by
  simp only[cS]at h
  simp only[E.db]
  split at h
  ·cases h;rfl
  ·split at h
   ·cases h;rfl
   ·split at h
    ·cases h;rfl
    ·split at h
     ·split at h<;>cases h<;>rfl
     ·cases h
 | .list [],_,_,h=>by cases h
 | .list [_],_,_,h=>by cases h
 | .list [_,_],_,_,h=>by cases h
 | .list (_::_::_::_::_),_,_,h=>by cases h
 |
  .list [x,a,b],ar,t,h=>by
  simp only[E.db,E.eY]
  by_cases h0:x.at=[43]
  ·rw[kP ar h0]at h
   have:=uw (x:=x) (by rw[h0];simp)
   split at h
   ·rename_i t1 t2 e1 e2
    cases h
    have:=jZ a ar _ e1
    have:=jZ b ar _ e2
    simp only[Ty.atoms];omega
   ·cases h
  ·by_cases h1:x.at=[42]
   ·rw[j6 ar h1]at h
    have:=uw (x:=x) (by rw[h1];simp)
    split at h
    ·rename_i t1 t2 e1 e2
     cases h
     have:=jZ a ar _ e1
     have:=jZ b ar _ e2
     simp only[Ty.atoms];omega
    ·cases h
   ·by_cases h2:x.at=[114,101,99]
    ·rw[mN ar h2]at h
     have:=uw (x:=x) (by rw[h2];simp)
     split at h
     ·rename_i hl
      have:=uw (CC hl)
      split at h
      ·rename_i t1 e1
       cases h
       have:=jZ b _ _ e1
       simp only[Ty.atoms];omega
      ·cases h
     ·cases h
    ·rw[je ar h0 h1 h2]at h;cases h
def jH(x:Option E)(b:Bool):AV->List Ob->Prop:=fun r o=>∃c:List UInt8,∃d:AV,LK.sl.has d/\r=.cG [.agg [.v (.string (mk c)),d],.v (.bool b)]/\(b=true->∃e,x=some e/\AV.agg [.v (.string (mk c)),d]=e.kF)
theorem Cf(e:E):∃c:List UInt8,∃d:AV,LK.sl.has d/\e.kF=AV.agg [.v (.string (mk c)),d]:=by
 cases e with
 |atom s=>exact⟨s,_,(bh).mpr trivial,rfl⟩
 |list l=>exact⟨[],_,(cf _).mpr trivial,rfl⟩
theorem jH.ne(x:Option E)(b:Bool)(h:b=true->x.isSome=true):∃r o,jH x b r o:=by
 cases b with
 |false=>exact⟨_,[],[],.v (.slice none 0 0),(bh).mpr trivial,rfl,fun h=>by cases h⟩
 |
  true =>
  cases x with
  |none=>cases h rfl
  |
   some e =>
   obtain⟨c,d,hd,he⟩:=Cf e
   exact⟨_,[],c,d,hd,rfl,fun _=>⟨e,rfl,he.symm⟩⟩
theorem OC(s:List UInt8):an Tryz.prog 102 [.v (.string (mk s))] [] (jH (qU s) (qU s).isSome):=by
 refine PS _ ?_
 simp only[KH,↓zq,zs,ae,zt,qU]
 refine⟨fun h=>?_,fun h=>?_⟩
 ·rw[if_pos (by omega)]
  exact⟨[],_,(bh).mpr trivial,rfl,fun h=>by cases h⟩
 ·rw[if_neg (by omega)]
  refine aP (Ry s (by omega) 300 (by omega) 0 (by omega)) (DS.ne _ _) ?_
  rintro r o ⟨rfl,hr⟩
  rw[bf]at hr
  cases hq:rd 300 s with
  |
   none =>
   rw[hq]at hr
   obtain⟨c,d,hd,rfl⟩:=hr
   simp only[↓zq,zs,ae,zt,bF]
   refine⟨hd,c,d,hd,?_,fun h=>by cases h⟩
   have:((-1:Int)==(s.length:Int))=false:=by
    rw[beq_eq_false_iff_ne];omega
   rw[this];rfl
  |
   some q =>
   obtain⟨e,u⟩:=q
   rw[hq]at hr
   subst hr
   have hlt:=ye _ _ _ _ hq
   obtain⟨c,d,hd,he⟩:=Cf e
   simp only[he,↓zq,zs,ae,zt,bF]
   cases u with
   |
    nil =>
    refine⟨hd,c,d,hd,?_,fun _=>⟨e,rfl,he.symm⟩⟩
    simp
   |
    cons b u =>
    simp only[aA]at hlt |-
    refine⟨hd,c,d,hd,?_,fun h=>by cases h⟩
    have:(((s.length-(u.length+1):Nat):Int)==(s.length:Int))=false:=by simp;omega
    rw[this];rfl
def wE(s:List UInt8):Option E:=match qU s with
 |none=>none
 |some e=>if j4 e=true/\e.db<=400 then some e else none
theorem G8(s:List UInt8):an Tryz.prog 83 [.v (.string (mk s))] [] (jH (wE s) (wE s).isSome):=by
 refine So _ ?_
 unfold Kb
 refine aP (OC s) (jH.ne _ _ (fun h=>h)) ?_
 rintro r o ⟨c,d,hd,rfl,hh⟩
 simp only[↓zq,zs,ae,zt,bF,wE]
 refine⟨hd,fun h=>?_,fun h=>?_⟩
 ·obtain⟨e,he,hce⟩:=hh h
  obtain⟨hok,hsz⟩:=nO he
  rw[he,hce]
  refine ai (zy e hok) ?_
  simp only[↓zq,zs,ae]
  refine⟨fun hi=>?_,fun hi=>?_⟩
  ·refine ai (Ep e hok (by omega)) ?_
   simp only[↓zq,zs,ae,hi]
   refine⟨c,d,hd,?_,?_⟩
   ·rw[hce]
    by_cases h4:e.db<=400
    ·rw[if_pos h4];exact congrArg (fun b=>AV.cG [e.kF,.v (.bool b)]) (decide_eq_true (show ((e.db:Nat):Int)<=400 by omega))
    ·rw[if_neg h4];exact congrArg (fun b=>AV.cG [e.kF,.v (.bool b)]) (decide_eq_false (show ¬((e.db:Nat):Int)<=400 by omega))
   ·split
    ·exact fun _=>⟨e,rfl,hce⟩
    ·exact fun h=>by cases h
  ·refine⟨c,d,hd,?_,?_⟩
   ·rw[hce,if_neg (by rw[hi];simp)];rfl
   ·rw[if_neg (by rw[hi];simp)];exact fun h=>by cases h
 ·have hn:qU s=none:=by cases hq:qU s<;>simp[hq]at h |-
  rw[hn]
  exact⟨c,d,hd,rfl,fun h=>by cases h⟩
theorem pB{s:List UInt8}{e:E}(h:wE s=some e):qU s=some e/\j4 e=true/\e.db<=400:=by
 unfold wE at h
 split at h
 ·cases h
 ·split at h
  ·rename_i e' h1 h2;cases h;exact⟨h1,h2⟩
  ·cases h
end Go.Proofs.Trees
namespace Go.Proofs.Trees
open Go Go.VL
def cc:Ty->Bool
 | .name s=>dk s
 | .plus a b=>cc a||cc b
 | .times a b=>cc a||cc b
 | .rc a=>cc a
 |_=>false
theorem hJ:∀(t:Ty) (out:List (List UInt8)),(bP t out).any dk=(out.any dk||cc t)
 |
  .name s,out=>by
  simp only[bP,pI,cc]
  split
  ·rename_i h
   cases hs:dk s with
   |false=>simp
   |true=>rw[Bool.or_true,cr];exact⟨s,h,hs⟩
  ·simp
 | .plus a b,out=>by simp only[bP,cc,hJ a,hJ b,Bool.or_assoc]
 | .times a b,out=>by simp only[bP,cc,hJ a,hJ b,Bool.or_assoc]
 | .rc a,out=>by simp only[bP,cc,hJ a]
 | .zero,out=>by simp[bP,cc]
 | .one,out=>by simp[bP,cc]
 | .bound u,out=>by simp[bP,cc]
theorem sL(t:Ty):t.closed = !cc t:=by simp[Ty.closed,hJ]
def pl:Ty->Bool
 | .name s=>decide (s.length<=1)
 | .plus a b=>pl a&&pl b
 | .times a b=>pl a&&pl b
 | .rc a=>false
 |_=>true
theorem lC{lo hi:Nat}{s:List UInt8}(h:named lo hi s=true):∃c r,s=c::r/\lo<=c.toNat/\c.toNat<=hi:=by
 cases s with
 |nil=>cases h
 |cons c r=>simp only[named,aw,decide_eq_true_eq]at h;exact⟨c,r,rfl,by omega,by omega⟩
theorem fN{x a b:E}{ar:List (List UInt8)}{t:Ty}(hx:x.at=[43])(h:cS (.list [x,a,b]) ar=some t):∃t1 t2,cS a ar=some t1/\cS b ar=some t2/\t=.plus t1 t2:=by
 rw[kP ar hx]at h
 split at h
 ·rename_i t1 t2 e1 e2;cases h;exact⟨t1,t2,e1,e2,rfl⟩
 ·cases h
theorem fh{x a b:E}{ar:List (List UInt8)}{t:Ty}(hx:x.at=[42])(h:cS (.list [x,a,b]) ar=some t):∃t1 t2,cS a ar=some t1/\cS b ar=some t2/\t=.times t1 t2:=by
 rw[j6 ar hx]at h
 split at h
 ·rename_i t1 t2 e1 e2;cases h;exact⟨t1,t2,e1,e2,rfl⟩
 ·cases h
theorem dA{x a b:E}{ar:List (List UInt8)}{t:Ty}(hx:x.at=[114,101,99])(h:cS (.list [x,a,b]) ar=some t):∃t1,dk a.at=true/\cS b (ar++[a.at])=some t1/\t=.rc t1:=by
 rw[mN ar hx]at h
 split at h
 ·rename_i hl
  split at h
  ·rename_i t1 e1;cases h;exact⟨t1,hl,e1,rfl⟩
  ·cases h
 ·cases h
theorem uN{s:List UInt8}:qL s=match wE s with|none=>none|some e=>cS e []:=by
 unfold qL wE
 cases he:qU s with
 |none=>rfl
 |
  some e =>
  have hs:=iU e []
  simp only
  cases ht:cS e []with
  |
   none =>
   rw[ht]at hs
   rw[if_neg (by rw[<-hs];simp)]
  |
   some t =>
   rw[ht]at hs
   have ha:=jZ e [] t ht
   by_cases h4:e.db<=400
   ·rw[if_pos ⟨hs.symm,h4⟩];dsimp only;rw[if_neg (by omega)];exact ht.symm
   ·rw[if_neg (fun h=>h4 h.2)];dsimp only;rw[if_pos (by omega)]
end Go.Proofs.Trees
namespace Go.Proofs.Trees
open Go Go.VL
def pure:Ty->Bool
 | .zero=>true
 | .one=>true
 | .name s=>(s==[120])||(s==[121])||(s==[122])
 | .plus a b=>pure a&&pure b
 | .times a b=>pure a&&pure b
 |_=>false
def Nj(v:Nat):Option Nat:=if v<=1000000000 then some v else none
def IK(n:Nat):Ty->Option Nat
 | .zero=>some 0
 | .one=>some 1
 | .name _=>some n
 | .plus a b=>match IK n a,IK n b with|some x,some y=>Nj (x+y)|_,_=>none
 | .times a b=>match IK n a,IK n b with|some x,some y=>Nj (x*y)|_,_=>none
 |_=>none
def Nb(x:Option Nat):AV->List Ob->Prop:=fun r o=>∃v:Int,r=.cG [.v (.int .i64 v),.v (.bool x.isSome)]/\∀c,x=some c->v=(c:Int)
theorem Nb.ne(x:Option Nat):∃r o,Nb x r o:=by
 cases x with
 |none=>exact⟨_,[],0,rfl,fun c h=>by cases h⟩
 |some c=>exact⟨_,[],(c:Int),rfl,fun c' h=>by cases h;rfl⟩
end Go.Proofs.Trees
namespace Go.Proofs.Trees
open Go Go.VL Go.RowKit
abbrev dd(n:Nat):List UInt8:=Lib.decDigits n
theorem eH{k:Nat}(h:k<10):dd k=[bj (48+k)]:=by rw[dd,Lib.decDigits,dif_pos h]
theorem fR{k:Nat}(h:¬k<10):dd k=dd (k/10)++[bj (48+k%10)]:=by rw[dd,Lib.decDigits,dif_neg h]
theorem mB:∀(n k:Nat),k<n->(dd k).length<=k+1
 |0,k,h=>by omega
 |
  n+1,k,h=>by
  by_cases h1:k<10
  ·rw[eH h1];simp
  ·rw[fR h1]
   have:=mB n (k/10) (by omega)
   simp only[aq,aA,aG];omega
theorem zi(d:Nat)(h:d<10):(Value.int .u8 (IntKind.wrap .u8 (IntKind.wrap .i64 (48+(d:Int)))))=.int .u8 ((bj (48+d)).toNat:Int):=by
 have:d=0\/d=1\/d=2\/d=3\/d=4\/d=5\/d=6\/d=7\/d=8\/d=9:=by omega
 rcases this with rfl|rfl|rfl|rfl|rfl|rfl|rfl|rfl|rfl|rfl<;>rfl
theorem qg(b:UInt8):bytesOf [[.v (.int .u8 (b.toNat:Int))]]=[b]:=by simp[bytesOf,yV]
theorem lf(b:UInt8):jA [[.v (.int .u8 (b.toNat:Int))]]:=⟨rfl,(lM _ _).mpr trivial,trivial⟩
theorem zo:∀(n k:Nat),k<n->k<1000000000->an Tryz.prog 90 [.v (.int .i64 (k:Int))] [] (bK (.v (.string (mk (dd k)))))
 |0,k,h,_=>by omega
 |
  n+1,k,h,hk=>by
  refine RR _ ?_
  simp only[Mg,↓zq,zs,ae,bK]
  refine⟨fun h=>by omega,fun _=>⟨fun h=>by omega,fun _=>⟨fun h1=>?_,fun h1=>⟨by omega,?_⟩⟩⟩⟩
  ·rw[zi k (by omega)]
   refine⟨lf _,?_⟩
   rw[qg,eH (by omega)];rfl
  ·have e1:IntKind.wrap .i64 (Int.tdiv (k:Int) 10)=((k/10:Nat):Int):=by
    rw[show Int.tdiv (k:Int) 10=((k/10:Nat):Int) from (Int.ofNat_tdiv k 10).symm,wrap64 _ (by omega) (by omega)]
   have e2:dF (k:Int) 10=((k%10:Nat):Int):=(Int.ofNat_tmod k 10).symm
   rw[e1,e2,zi (k%10) (by omega)]
   refine ai (zo n (k/10) (by omega) (by omega)) ?_
   have hl:=mB (k+1) (k/10) (by omega)
   simp only[↓zq,zs,ae,zt,qg]
   have h9:(k:Int)<1000000000:=by omega
   refine⟨by omega,lf _,?_,?_⟩
   ·show (mk (dd (k/10))).size+(mk [bj (48+k%10)]).size<=_
    rw[cM,cM];simp;omega
   ·show AV.v (.string (mk (dd (k/10))++mk [bj (48+k%10)]))=_
    rw[lr,fR (k:=k) (by omega)]
theorem zx(s:List UInt8)(d:AV)(hd:LK.sl.has d)(h:s≠[]):an Tryz.prog 86 [.agg [.v (.string (mk s)),d]] [] (bK (.v (.string (mk [])))):=by
 refine H0 _ _ hd ?_
 simp only[DB,↓zq,zs,ae,zt,bK]
 exact⟨fun _=>trivial,fun h'=>absurd h' h⟩
theorem CT(e:E):AV.agg [.v (.string ((e.kF.cs.getD 0 .any).toStr)),e.kF.cs.getD 1 .any]=e.kF:=by cases e<;>rfl
mutual
def e9:E->List UInt8
 | .atom s=>s
 | .list []=>[40,41]
 | .list (e::l)=>40::(e9 e++(ei l++[41]))
def ei:List E->List UInt8
 |[]=>[]
 |e::l=>32::(e9 e++ei l)
end
theorem Aa:∀(l:List E) (i:Nat) (h:i<l.length),ei (l.drop i)=32::(e9 l[i]++ei (l.drop (i+1))):=by
 intro l i h
 rw[aU h,ei]
theorem Np(l:List E)(hll:l.length<1000000000000)(ih:∀i (h:i<l.length),an Tryz.prog 63 [(l[i]).kF] [] (bK (.v (.string (mk (e9 l[i])))))) :
 ∀(k i:Nat) (out:List UInt8),i+k=l.length->1<=i->out.length+(ei (l.drop i)).length<=1000000000000->BB [.v (.string (mk out)),.v (.int .i64 (i:Int))] [.cells [.v (.string (mk [])),.sl (E.bw l)]] (gV 1 [.v (.string (mk (out++ei (l.drop i))))] [])
 |
  0,i,out,hi,h1,hn=>by
  refine CQ _ _ _ _ ?_
  simp only[AU,↓zq,zs,ae,eg]
  have:l.drop i=[]:=bV (by omega)
  refine⟨fun h=>by omega,fun _=>?_⟩
  simp[gV,this,ei]
 |
  k+1,i,out,hi,h1,hn=>by
  have hlt:i<l.length:=by omega
  have hd:=Aa l i hlt
  rw[hd]at hn
  simp only[aA,aq]at hn
  refine CQ _ _ _ _ ?_
  simp only[AU,↓zq,zs,ae,zt,eg,jG l i hlt,gf,i7,iS,au]
  refine⟨fun _=>⟨fun _=>⟨by omega,by omega,?_⟩,fun h=>by omega⟩,fun h=>by omega⟩
  refine ai (ih i hlt) ?_
  simp only[↓zq,zs,ae,zt]
  refine⟨by simp;omega,?_⟩
  rw[bA i (by omega),hd]
  have:=Np l hll ih k (i+1) (out++[32]++e9 l[i]) (by omega) (by omega) (by simp;omega)
  simpa using this
theorem xZ:∀(l:List E) (i:Nat) (h:i<l.length),(e9 l[i]).length<=(ei l).length
 |e::l,0,_=>by simp only[ei,List.getElem_cons_zero,aA,aq];omega
 |e::l,i+1,h=>by have:=xZ l i (by simpa using h);simp only[ei,List.getElem_cons_succ,aA,aq];omega
theorem rS:∀l:List E,l.length<=(ei l).length
 |[]=>by simp[ei]
 |e::l=>by have:=rS l;simp only[ei,aA,aq];omega
theorem DJ:∀(n:Nat) (e:E),e.sz<n->e.ok->(e9 e).length<=900000000000->an Tryz.prog 63 [e.kF] [] (bK (.v (.string (mk (e9 e)))))
 |0,e,hn,_,_=>by omega
 |
  n+1,.atom s,hn,hok,hl=>by
  refine Is _ _ ((bh).mpr trivial) ?_
  have hne:s≠[]:=hok
  simp only[Dn,↓zq,zs,ae,zt,bK]
  exact⟨fun _=>rfl,fun h=>absurd h hne⟩
 |
  n+1,.list [],hn,hok,hl=>by
  refine Is _ _ ((cf _).mpr trivial) ?_
  simp only[Dn,↓zq,zs,ae,zt,bK]
  refine⟨fun h=>absurd rfl h,fun _=>?_⟩
  have h1:BB [.v (.string (mk [40])),.v (.int .i64 0)] [.cells [.v (.string (mk [])),.sl (E.bw [])]] (gV 1 [.v (.string (mk [40]))] []):=by
   refine CQ _ _ _ _ ?_
   simp[AU,↓zq,zs,ae,E.bw,gV]
  refine cz h1 ?_
  simp only[↓zq,zs,ae,zt]
  exact⟨by simp,rfl⟩
 |
  n+1,.list (x::l),hn,hok,hl=>by
  refine Is _ _ ((cf _).mpr trivial) ?_
  simp only[E.sz,E.jr]at hn
  simp only[e9,aA,aq,aG]at hl
  have h2:=rS l
  simp only[Dn,↓zq,zs,ae,zt,bK]
  refine⟨fun h=>absurd rfl h,fun _=>?_⟩
  have hL:BB [.v (.string (mk [40])),.v (.int .i64 0)] [.cells [.v (.string (mk [])),.sl (E.bw (x::l))]] (gV 1 [.v (.string (mk ([40]++e9 x++ei l)))] []):=by
   refine CQ _ _ _ _ ?_
   simp only[AU,E.bw,Int.toNat_zero,↓zq,zs,ae,zt,eg,gf,i7,iS,au]
   refine⟨fun _=>⟨fun h=>by omega,fun _=>⟨by omega,?_⟩⟩,fun h=>by omega⟩
   refine ai (DJ n x (by omega) hok.1 (by omega)) ?_
   simp only[↓zq,zs,ae,zt]
   refine⟨by simp;omega,?_⟩
   have:=Np (x::l) (by simp;omega) (fun i hi=>by
    have h3:=uJ (x::l) i hi
    simp only[E.jr]at h3
    refine DJ n _ (by omega) (uU _ i hi hok) ?_
    have h4:=xZ (x::l) i hi
    simp only[ei,aA,aq]at h4
    omega) l.length 1 ([40]++e9 x) (by simp;omega) (by omega) (by simp;omega)
   rw[show IntKind.wrap .i64 (0+1)=1 from rfl]
   simpa[E.bw]using this
  refine cz hL ?_
  simp only[↓zq,zs,ae,zt]
  refine⟨by simp;omega,?_⟩
  simp[e9]
theorem DK(e:E)(h:e.ok)(hl:(e9 e).length<=900000):an Tryz.prog 63 [e.kF] [] (bK (.v (.string (mk (e9 e))))):=DJ (e.sz+1) e (by omega) h (by omega)
mutual
def E.nd:E->Nat
 | .atom _=>1
 | .list []=>1
 | .list (_::l)=>1+E.u5 l
def E.u5:List E->Nat
 |[]=>0
 |e::l=>e.nd+E.u5 l
end
mutual
theorem Bh:∀e:E,e.nd<=e.sz
 | .atom s=>by simp[E.nd,E.sz]
 | .list []=>by simp[E.nd,E.sz,E.jr]
 | .list (x::l)=>by have:=wX l;simp only[E.nd,E.sz,E.jr];omega
theorem wX:∀l:List E,E.u5 l<=E.jr l
 |[]=>by simp[E.u5,E.jr]
 |e::l=>by have:=Bh e;have:=wX l;simp only[E.u5,E.jr];omega
end
theorem Bm:∀(l:List E) (i:Nat) (h:i<l.length),E.u5 (l.drop i)=(l[i]).nd+E.u5 (l.drop (i+1)):=by
 intro l i h
 rw[aU h];rfl
theorem LC(l:List E)(hl:E.u5 l<1000000)(hll:l.length<1000000)(ih:∀i (h:i<l.length),an Tryz.prog 104 [(l[i]).kF] [] (bK (.v (.int .i64 ((l[i]).nd:Int))))) :
 ∀(k i n:Nat),i+k=l.length->n+E.u5 (l.drop i)<=1+E.u5 l->AX [.v (.int .i64 (n:Int)),.v (.int .i64 (i:Int))] [.cells [.v (.string (mk [])),.sl (E.bw l)]] (gV 1 [.v (.int .i64 ((n+E.u5 (l.drop i):Nat):Int))] [])
 |
  0,i,n,hi,hn=>by
  refine Ey _ _ _ _ ?_
  simp only[A8,↓zq,zs,ae,eg]
  have:l.drop i=[]:=bV (by omega)
  refine⟨fun h=>by omega,fun _=>?_⟩
  simp[gV,this,E.u5]
 |
  k+1,i,n,hi,hn=>by
  have hlt:i<l.length:=by omega
  refine Ey _ _ _ _ ?_
  simp only[A8,↓zq,zs,ae,zt,eg,jG l i hlt,gf,i7,iS,au]
  refine⟨fun _=>⟨by omega,?_⟩,fun h=>by omega⟩
  refine ai (ih i hlt) ?_
  have h1:=Bm l i hlt
  simp only[↓zq,zs,ae]
  rw[bA i (by omega),wrap64 _ (by omega) (by omega)]
  have:=LC l hl hll ih k (i+1) (n+(l[i]).nd) (by omega) (by omega)
  rw[h1,<-Nat.add_assoc]
  simpa using this
theorem I6:∀(n:Nat) (e:E),e.sz<n->e.sz<900000->an Tryz.prog 104 [e.kF] [] (bK (.v (.int .i64 (e.nd:Int))))
 |0,e,hn,_=>by omega
 |
  n+1,.atom s,hn,hl=>by
  refine OO _ _ ((bh).mpr trivial) ?_
  simp only[Iw]
  have hL:AX [.v (.int .i64 1),.v (.int .i64 1)] [.cells [.v (.string (mk s)),.v (.slice none 0 0)]] (gV 1 [.v (.int .i64 1)] []):=by
   refine Ey _ _ _ _ ?_
   simp[A8,↓zq,zs,ae,gV]
  refine cz hL ?_
  simp[↓zq,zs,ae,bK,E.nd]
 |
  n+1,.list l,hn,hl=>by
  refine OO _ _ ((cf _).mpr trivial) ?_
  simp only[E.sz]at hn hl
  simp only[Iw]
  match l,hn,hl with
  |
   [],hn,hl =>
   have hL:AX [.v (.int .i64 1),.v (.int .i64 1)] [.cells [.v (.string (mk [])),.sl (E.bw [])]] (gV 1 [.v (.int .i64 1)] []):=by
    refine Ey _ _ _ _ ?_
    simp[A8,↓zq,zs,ae,gV,E.bw]
   refine cz hL ?_
   simp[↓zq,zs,ae,bK,E.nd]
  |
   x::l,hn,hl =>
   simp only[E.jr]at hn hl
   have h1:=wX l
   have h2:=uH l
   have h0:=Bh x
   refine cz (LC (x::l) (by simp only[E.u5];omega) (by simp;omega) (fun i hi=>?_) l.length 1 1 (by simp;omega) (by simp[E.u5])) ?_
   ·have:=uJ (x::l) i hi
    simp only[E.jr]at this
    exact I6 n _ (by omega) (by omega)
   ·simp[↓zq,zs,ae,E.nd,bK]
theorem Rp(e:E)(hl:e.sz<900000):an Tryz.prog 104 [e.kF] [] (bK (.v (.int .i64 (e.nd:Int)))):=I6 (e.sz+1) e (by omega) hl
inductive Vl where
 |u
 |el (k:Nat)
 |l (v:Vl)
 |r (v:Vl)
 |f (v:Vl)
 |p (a b:Vl)
abbrev w4(k:Nat):List UInt8:=101::dd k
abbrev gJ:AV:=.v (.pointer none)
def Vl.cD:Vl->AV
 | .u=>.ptr [.v (.int .u8 117),.v (.string (mk [])),gJ,gJ]
 | .el k=>.ptr [.v (.int .u8 101),.v (.string (mk (w4 k))),gJ,gJ]
 | .l v=>.ptr [.v (.int .u8 108),.v (.string (mk [])),v.cD,gJ]
 | .r v=>.ptr [.v (.int .u8 114),.v (.string (mk [])),v.cD,gJ]
 | .f v=>.ptr [.v (.int .u8 102),.v (.string (mk [])),v.cD,gJ]
 | .p a b=>.ptr [.v (.int .u8 112),.v (.string (mk [])),a.cD,b.cD]
def Vl.cL:Vl->E
 | .u=>.atom [117]
 | .el k=>.atom (w4 k)
 | .l v=>.list [.atom [108],v.cL]
 | .r v=>.list [.atom [114],v.cL]
 | .f v=>.list [.atom [102],v.cL]
 | .p a b=>.list [.atom [112],a.cL,b.cL]
def Vl.nodes:Vl->Nat
 | .l v=>1+v.nodes
 | .r v=>1+v.nodes
 | .f v=>1+v.nodes
 | .p a b=>1+a.nodes+b.nodes
 |_=>1
def Vl.ig(n:Nat):Vl->Prop
 | .el k=>k<n
 | .l v=>v.ig n
 | .r v=>v.ig n
 | .f v=>v.ig n
 | .p a b=>a.ig n/\b.ig n
 | .u=>True
abbrev Vl.cA(v:Vl):List UInt8:=e9 v.cL
theorem aM(v:Vl):LK.has .ptr v.cD=True:=by cases v<;>simp[Vl.cD,cb]
theorem fy(v:Vl):v.cD.isNil=false:=by cases v<;>rfl
theorem mq:∀v:Vl,v.cL.ok
 | .u=>by simp[Vl.cL,E.ok]
 | .el k=>by simp[Vl.cL,E.ok]
 | .l v=>⟨by simp[E.ok],mq v,trivial⟩
 | .r v=>⟨by simp[E.ok],mq v,trivial⟩
 | .f v=>⟨by simp[E.ok],mq v,trivial⟩
 | .p a b=>⟨by simp[E.ok],mq a,mq b,trivial⟩
theorem nW:∀v:Vl,v.cL.nd=v.nodes
 | .u=>rfl
 | .el k=>rfl
 | .l v=>by simp[Vl.cL,E.nd,E.u5,Vl.nodes,nW v]
 | .r v=>by simp[Vl.cL,E.nd,E.u5,Vl.nodes,nW v]
 | .f v=>by simp[Vl.cL,E.nd,E.u5,Vl.nodes,nW v]
 | .p a b=>by simp[Vl.cL,E.nd,E.u5,Vl.nodes,nW a,nW b,Nat.add_assoc]
theorem jk:∀v:Vl,v.ig 100->v.cA.length<=200*v.nodes
 | .u,_=>by simp[Vl.cA,Vl.cL,e9,Vl.nodes]
 |
  .el k,h=>by
  have h':k<100:=h
  have:=mB 1000 k (by omega)
  simp only[Vl.cA,Vl.cL,e9,Vl.nodes,aA];omega
 | .l v,h=>by have:=jk v h;simp only[Vl.cA,Vl.cL,e9,ei,Vl.nodes,aA,aq,aG]at this |-;omega
 | .r v,h=>by have:=jk v h;simp only[Vl.cA,Vl.cL,e9,ei,Vl.nodes,aA,aq,aG]at this |-;omega
 | .f v,h=>by have:=jk v h;simp only[Vl.cA,Vl.cL,e9,ei,Vl.nodes,aA,aq,aG]at this |-;omega
 | .p a b,h=>by have:=jk a h.1;have:=jk b h.2;simp only[Vl.cA,Vl.cL,e9,ei,Vl.nodes,aA,aq,aG]at *;omega
theorem Ap(a b:AV)(h:LK.ptr.has a)(h':LK.ptr.has b):an Tryz.prog 109 [a,b] [] (bK (.ptr [.v (.int .u8 112),.v (.string (mk [])),a,b])):=by
 refine R3 _ _ h h' ?_
 simp[OV,↓zq,zs,ae,bK]
theorem du(v:Vl):1<=v.nodes:=by cases v<;>simp[Vl.nodes]<;>omega
theorem E2:∀(v:Vl),v.nodes<1000000->an Tryz.prog 56 [v.cD] [] (bK (.v (.int .i64 (v.nodes:Int))))
 | .u,h=>by refine zQ _ ((aM _).mpr trivial) ?_;simp[xJ,Vl.cD,↓zq,zs,ae,bK,Vl.nodes]
 | .el k,h=>by refine zQ _ ((aM _).mpr trivial) ?_;simp[xJ,Vl.cD,↓zq,zs,ae,bK,Vl.nodes]
 |
  .l v,h=>by
  simp only[Vl.nodes]at h
  refine zQ _ ((aM _).mpr trivial) ?_
  simp only[xJ,Vl.cD,↓zq,zs,ae,aM,fy]
  refine⟨by omega,fun _=>⟨by omega,?_⟩,fun h=>(by cases h)⟩
  refine ai (E2 v (by omega)) ?_
  simp only[↓zq,zs,ae,bK,Vl.nodes]
  rw[wrap64 _ (by omega) (by omega)]
  simp
 |
  .r v,h=>by
  simp only[Vl.nodes]at h
  refine zQ _ ((aM _).mpr trivial) ?_
  simp only[xJ,Vl.cD,↓zq,zs,ae,aM,fy]
  refine⟨by omega,fun _=>⟨by omega,?_⟩,fun h=>(by cases h)⟩
  refine ai (E2 v (by omega)) ?_
  simp only[↓zq,zs,ae,bK,Vl.nodes]
  rw[wrap64 _ (by omega) (by omega)]
  simp
 |
  .f v,h=>by
  simp only[Vl.nodes]at h
  refine zQ _ ((aM _).mpr trivial) ?_
  simp only[xJ,Vl.cD,↓zq,zs,ae,aM,fy]
  refine⟨by omega,fun _=>⟨by omega,?_⟩,fun h=>(by cases h)⟩
  refine ai (E2 v (by omega)) ?_
  simp only[↓zq,zs,ae,bK,Vl.nodes]
  rw[wrap64 _ (by omega) (by omega)]
  simp
 |
  .p a b,h=>by
  simp only[Vl.nodes]at h
  refine zQ _ ((aM _).mpr trivial) ?_
  simp only[xJ,Vl.cD,↓zq,zs,ae,aM,fy]
  refine⟨by omega,fun _=>⟨by omega,?_⟩,fun h=>(by cases h)⟩
  refine ai (E2 a (by omega)) ?_
  simp only[↓zq,zs,ae,aM,fy]
  rw[wrap64 (1+(a.nodes:Int)) (by omega) (by omega)]
  refine⟨by omega,fun _=>⟨by omega,?_⟩,fun h=>(by cases h)⟩
  refine ai (E2 b (by omega)) ?_
  simp only[↓zq,zs,ae,bK,Vl.nodes]
  rw[wrap64 _ (by omega) (by omega)]
  congr 2
end Go.Proofs.Trees
namespace Go.Proofs.Trees
open Go Go.VL Go.RowKit
def zD:List UInt8->Nat->Option Nat
 |[],n=>some n
 |b::r,n=>if ij b=true then zD r (10*n+(b.toNat-48))else none
def fT(s:List UInt8):Option Nat :=
 if s.length=2\/s.length=3 then(if s.getD 0 0=101/\¬(s.length=3/\s.getD 1 0=48)then zD (s.drop 1) 0 else none)else none
def Cl(s:List UInt8):Int:=match fT s with|some k=>(k:Int)|none=>-1
theorem NW(s:List UInt8)(hs:s.length<=3):∀(k i n:Nat),i+k=s.length->1<=i->(n+1)*10 ^ k<=1000->F7 [.v (.string (mk s)),.v (.int .i64 (n:Int)),.v (.int .i64 (i:Int))] []
 (oq (match zD (s.drop i) n with|some m=>(1,[.v (.int .i64 (m:Int))],[])|none=>(2,[.v (.int .i64 (-1))],[])))
 |
  0,i,n,hi,h1,hn=>by
  refine Lw _ _ _ ?_
  have hd:s.drop i=[]:=bV (by omega)
  simp only[HD,↓zq,zs,ae,zt,hd,zD]
  exact⟨fun h=>by omega,fun _=>by first|trivial|rfl⟩
 |
  k+1,i,n,hi,h1,hn=>by
  have hlt:i<s.length:=by omega
  refine Lw _ _ _ ?_
  rw[drop_cons hlt,zD]
  simp only[HD,↓zq,zs,ae,zt,mf s i hlt]
  generalize s.getD i 0=b
  have hb:=b.toNat_lt
  refine⟨fun _=>⟨by omega,fun h48=>?_,fun h48=>⟨by omega,fun h57=>?_,fun h57=>⟨by omega,?_⟩⟩⟩,fun h=>by omega⟩
  ·have:ij b=false:=by simp only[ij,decide_eq_false_iff_not];omega
   rw[this];rfl
  ·have:ij b=false:=by simp only[ij,decide_eq_false_iff_not];omega
   rw[this];rfl
  ·have:ij b=true:=by simp only[ij,decide_eq_true_eq];omega
   rw[if_pos this]
   have hk:k=0\/k=1:=by omega
   have hn2:n*10<=1000:=by
    rcases hk with rfl|rfl<;>simp at hn<;>omega
   have e8:IntKind.wrap .u8 ((b.toNat:Int)-48)=((b.toNat-48:Nat):Int):=by
    have:b.toNat=48\/b.toNat=49\/b.toNat=50\/b.toNat=51\/b.toNat=52\/b.toNat=53\/b.toNat=54\/b.toNat=55\/b.toNat=56\/b.toNat=57:=by omega
    rcases this with h|h|h|h|h|h|h|h|h|h<;>rw[h]<;>rfl
   rw[e8,bA i (by omega),wrap64 ((b.toNat-48:Nat):Int) (by omega) (by omega),wrap64 (10*(n:Int)) (by omega) (by omega),wrap64 _ (by omega) (by omega)]
   have e:(10*(n:Int)+((b.toNat-48:Nat):Int))=((10*n+(b.toNat-48):Nat):Int):=by omega
   rw[e]
   exact NW s hs k (i+1) _ (by omega) (by omega) (by rcases hk with rfl|rfl<;>simp at hn |-<;>omega)
theorem IW(s:List UInt8):an Tryz.prog 127 [.v (.string (mk s))] [] (bK (.v (.int .i64 (Cl s)))):=by
 refine Q7 _ ?_
 unfold N6
 refine ai (AG _ _ _) ?_
 simp only[↓zq,zs,ae,zt,CH,bK]
 have hL:∀(Q:Nat->List AV->List Ob->Prop),(s.length=2\/s.length=3)->s.getD 0 0=101->¬(s.length=3/\s.getD 1 0=48)->(Q 0 [.v (.int .i64 (Cl s))] []) ->
  eZ Tryz.prog 49 (.loop Dj Ca [.v (.string (mk s)),.v (.int .i64 0),.v (.int .i64 1)] [] (fun y2 q2=>.aj (LK.has (.int .i64) (y2.headD .any))<|.done 0 [.v (.int .i64 ((y2.headD .any).toInt))] []) (fun y2 q2=>.aj (LK.has (.int .i64) (y2.headD .any))<|.done 0 [.v (.int .i64 ((y2.headD .any).toInt))] [])) Q:=by
  intro Q hl h0 h1 hQ
  have e:fT s=zD (s.drop 1) 0:=by rw[fT,if_pos hl,if_pos ⟨h0,h1⟩]
  refine fE (NW s (by omega) (s.length-1) 1 0 (by omega) (by omega) (by rcases hl with h|h<;>rw[h]<;>decide)) (fun ys o e'=>?_) (fun ys o e'=>?_)
  ·cases hq:zD (s.drop 1) 0<;>rw[hq]at e'<;>cases e'
   rw[hq]at e
   simp only[Cl,e]at hQ
   simp only[↓zq,zs,ae];exact hQ
  ·cases hq:zD (s.drop 1) 0<;>rw[hq]at e'<;>cases e'
   rw[hq]at e
   simp only[Cl,e]at hQ
   simp only[↓zq,zs,ae];exact hQ
 have hz:∀{i:Nat},i<s.length->bt (mk s) (i:Int)=((s.getD i 0).toNat:Int):=fun h=>mf s _ h
 refine⟨fun h=>?_,fun h=>⟨?_,fun h0=>?_,fun h0=>⟨fun h3=>⟨by omega,fun h1=>?_,fun h1=>?_⟩,fun h3=>?_⟩⟩⟩
 ·have h':¬(2<=(s.length:Int)/\(s.length:Int)<=3):=by simpa using h
  rw[Cl,fT,if_neg (by omega)]
 ·have h':2<=(s.length:Int)/\(s.length:Int)<=3:=by simpa using h
  omega
 ·have h':2<=(s.length:Int)/\(s.length:Int)<=3:=by simpa using h
  have e0:=hz (i:=0) (by omega)
  simp only[Int.ofNat_eq_natCast,Int.cast_ofNat_Int]at e0
  rw[e0]at h0
  rw[Cl,fT,if_pos (by omega),if_neg]
  rintro⟨e,_⟩
  rw[e]at h0;exact h0 rfl
 ·have h':2<=(s.length:Int)/\(s.length:Int)<=3:=by simpa using h
  have e1:=hz (i:=1) (by omega)
  simp only[Int.ofNat_eq_natCast,Int.cast_ofNat_Int]at e1
  rw[e1]at h1
  rw[Cl,fT,if_pos (by omega),if_neg]
  rintro⟨_,e⟩
  refine e ⟨by omega,?_⟩
  rw[<-UInt8.toNat_inj];show (s.getD 1 0).toNat=48;omega
 ·have h':2<=(s.length:Int)/\(s.length:Int)<=3:=by simpa using h
  have e0:=hz (i:=0) (by omega)
  have e1:=hz (i:=1) (by omega)
  simp only[Int.ofNat_eq_natCast,Int.cast_ofNat_Int]at e0 e1
  rw[e0]at h0;rw[e1]at h1
  refine hL _ (by omega) ?_ ?_ ⟨rfl,rfl⟩
  ·rw[<-UInt8.toNat_inj];show (s.getD 0 0).toNat=101;omega
  ·rintro⟨_,e⟩;rw[e]at h1;exact h1 rfl
 ·have h':2<=(s.length:Int)/\(s.length:Int)<=3:=by simpa using h
  have e0:=hz (i:=0) (by omega)
  simp only[Int.ofNat_eq_natCast,Int.cast_ofNat_Int]at e0
  rw[e0]at h0
  refine hL _ (by omega) ?_ ?_ ⟨rfl,rfl⟩
  ·rw[<-UInt8.toNat_inj];show (s.getD 0 0).toNat=101;omega
  ·rintro⟨e,_⟩;omega
theorem pw:∀(l:List UInt8) (n:Nat),(zD l n).isSome=l.all ij
 |[],n=>rfl
 |
  b::l,n=>by
  rw[zD]
  cases hb:ij b with
  |true=>rw[if_pos rfl,pw l];simp[hb]
  |false=>rw[if_neg (by simp)];simp[hb]
theorem ND(s:List UInt8):an Tryz.prog 158 [.v (.string (mk s))] [] (bK (.v (.bool (fT s).isSome))):=by
 refine QN _ ?_
 simp only[OG,↓zq,zs,ae,zt,bK]
 have hz:∀{i:Nat},i<s.length->bt (mk s) (i:Int)=((s.getD i 0).toNat:Int):=fun h=>mf s _ h
 refine⟨fun h=>?_,fun h=>⟨fun h3=>?_,fun h3=>?_⟩⟩
 ·rw[fT,if_neg (by omega)];rfl
 ·rw[fT,if_neg (by omega)];rfl
 ·have e0:=hz (i:=0) (by omega)
  have e1:=hz (i:=1) (by omega)
  simp only[Int.ofNat_eq_natCast,Int.cast_ofNat_Int]at e0 e1
  rw[e0,e1]
  have hx:s.drop (bL 1)=s.drop 1:=rfl
  refine⟨by omega,fun h0=>?_,fun h0=>⟨by omega,?_⟩⟩
  ·rw[fT,if_pos (by omega),if_neg]
   ·rfl
   ·rintro⟨e,_⟩;rw[e]at h0;exact h0 rfl
  ·rw[hx]
   refine ai (Nv (s.drop 1) F2 (by simp;omega) (by decide) (by decide)) ?_
   simp only[↓zq,zs,ae,zt]
   have h101:s.getD 0 0=101:=by rw[<-UInt8.toNat_inj];show (s.getD 0 0).toNat=101;omega
   have hall:Lib.trimS (s.drop 1) F2=[]↔(s.drop 1).all ij=true:=by
    rw[s4]
    have:(fun x=>F2.contains x)=ij:=funext vG
    rw[this]
   refine⟨fun ht=>?_,fun ht=>⟨fun h2=>?_,fun h2=>⟨by omega,?_⟩⟩⟩
   ·have:(s.drop 1).all ij=false:=by
     cases hq:(s.drop 1).all ij with
     |false=>rfl
     |true=>exact absurd (hall.2 hq) ht
    rw[fT,if_pos (by omega)]
    split
    ·rw[pw,this]
    ·rfl
   ·have hq:=hall.1 ht
    rw[fT,if_pos (by omega),if_pos ⟨h101,by omega⟩,pw,hq]
   ·have hq:=hall.1 ht
    rw[fT,if_pos (by omega)]
    by_cases h48:s.getD 1 0=48
    ·rw[if_neg (by rintro⟨_,e⟩;exact e ⟨by omega,h48⟩),h48];rfl
    ·rw[if_pos ⟨h101,fun e=>h48 e.2⟩,pw,hq]
     have:¬((s.getD 1 0).toNat:Int)=48:=fun e=>h48 (by rw[<-UInt8.toNat_inj];show (s.getD 1 0).toNat=48;omega)
     rw[bne_iff_ne.2 this]
theorem sT{s:List UInt8}{k:Nat}(h:fT s=some k):s=w4 k/\k<100:=by
 have key1:∀a:Fin 256,ij (bj a.val)=true->zD [bj a.val] 0=some ((bj a.val).toNat-48)/\(bj a.val).toNat-48<10/\[bj a.val]=[bj (48+((bj a.val).toNat-48))]:=by decide +kernel
 unfold fT at h
 split at h
 ·rename_i hl
  split at h
  ·rename_i hh
   obtain⟨h0,h1⟩:=hh
   rcases hl with hl|hl
   ·match s,hl with
    |
     [c,a],_ =>
     simp only[bq]at h0
     subst h0
     simp only[List.drop_succ_cons,bf,zD]at h
     split at h
     ·rename_i ha
      have:=key1 ⟨a.toNat,a.toNat_lt⟩ (by simpa using ha)
      simp only[UInt8.ofNat_toNat]at this
      cases h
      refine⟨?_,by omega⟩
      rw[w4,eH (by omega)]
      simp only[Nat.mul_zero,aW]
      rw[<-this.2.2]
     ·cases h
   ·match s,hl with
    |
     [c,a,b],_ =>
     simp only[bq,List.getD_cons_succ,aA,aG,true_and]at h0 h1
     subst h0
     simp only[List.drop_succ_cons,bf,zD]at h
     split at h
     ·rename_i ha
      split at h
      ·rename_i hb
       have k1:=key1 ⟨a.toNat,a.toNat_lt⟩ (by simpa using ha)
       have k2:=key1 ⟨b.toNat,b.toNat_lt⟩ (by simpa using hb)
       simp only[UInt8.ofNat_toNat]at k1 k2
       have ha':48<=a.toNat/\a.toNat<=57:=by simpa[ij]using ha
       have hb':48<=b.toNat/\b.toNat<=57:=by simpa[ij]using hb
       have h48:a.toNat≠48:=fun e=>h1 (by rw[<-UInt8.toNat_inj];simpa using e)
       cases h
       simp only[Nat.mul_zero,aW]
       refine⟨?_,by omega⟩
       rw[w4,fR (by omega),eH (by omega)]
       have e1:(10*(a.toNat-48)+(b.toNat-48))/10=a.toNat-48:=by omega
       have e2:(10*(a.toNat-48)+(b.toNat-48))%10=b.toNat-48:=by omega
       rw[e1,e2,<-k1.2.2,<-k2.2.2];rfl
      ·cases h
     ·cases h
  ·cases h
 ·cases h
theorem vf(k:Nat)(h:k<100):fT (w4 k)=some k:=by
 have e:∀k,k<100->dd k=if k<10 then [bj (48+k)]else [bj (48+k/10),bj (48+k%10)]:=by
  intro k hk
  by_cases h1:k<10
  ·rw[eH h1,if_pos h1]
  ·rw[fR h1,eH (by omega),if_neg h1];rfl
 have key:∀k:Fin 100,fT (101::(if k.val<10 then [bj (48+k.val)]else [bj (48+k.val/10),bj (48+k.val%10)]))=some k.val:=by decide +kernel
 rw[w4,e k h];exact key ⟨k,h⟩
theorem IF(k:Nat)(h:k<100):Cl (w4 k)=(k:Int):=by rw[Cl,vf k h]
def xW:E->Bool
 | .atom s=>(s==[117])||(fT s).isSome
 | .list [x,a]=>((x.at==[108])||(x.at==[114])||(x.at==[102]))&&xW a
 | .list [x,a,b]=>(x.at==[112])&&(xW a&&xW b)
 | .list _=>false
def fO:E->Option Vl
 | .atom s=>if s=[117]then some .u else match fT s with|some k=>some (.el k)|none=>none
 |
  .list [x,a]=>match fO a with
  |none=>none
  |some v=>if x.at=[108]then some (.l v)else if x.at=[114]then some (.r v)else if x.at=[102]then some (.f v)else none
 | .list [x,a,b]=>if x.at=[112]then(match fO a,fO b with|some v,some w=>some (.p v w)|_,_=>none)else none
 | .list _=>none
theorem oH:∀e:E,(fO e).isSome=xW e
 |
  .atom s=>by
  simp only[fO,xW]
  by_cases h:s=[117]
  ·simp[h]
  ·rw[if_neg h];cases fT s<;>simp[h]
 | .list []=>rfl
 | .list [_]=>rfl
 |
  .list [x,a]=>by
  have ha:=oH a
  rw[fO,xW,<-ha]
  cases fO a with
  |none=>simp
  |
   some v =>
   by_cases h1:x.at=[108]
   ·simp[h1]
   ·by_cases h2:x.at=[114]
    ·simp[h2]
    ·by_cases h3:x.at=[102]
     ·simp[h3]
     ·simp[h1,h2,h3]
 |
  .list [x,a,b]=>by
  have ha:=oH a
  have hb:=oH b
  rw[fO,xW,<-ha,<-hb]
  by_cases h1:x.at=[112]
  ·rw[if_pos h1,h1];cases fO a<;>cases fO b<;>rfl
  ·simp[h1]
 | .list (_::_::_::_::_)=>rfl
theorem kj{x:E}{w:List UInt8}(h:x.at=w)(hw:w≠[]):x=.atom w:=by
 cases x with
 |atom s=>exact congrArg E.atom h
 |list l=>exact absurd h.symm hw
theorem kN:∀(e:E) (v:Vl),fO e=some v->v.cL=e/\v.ig 100
 |
  .atom s,v,h=>by
  simp only[fO]at h
  split at h
  ·rename_i h1;cases h;exact⟨by rw[h1];rfl,trivial⟩
  ·split at h
   ·rename_i k hk
    cases h
    obtain⟨h1,h2⟩:=sT hk
    exact⟨by rw[h1];rfl,h2⟩
   ·cases h
 | .list [],_,h=>by cases h
 | .list [_],_,h=>by cases h
 | .list (_::_::_::_::_),_,h=>by cases h
 |
  .list [x,a],v,h=>by
  rw[fO]at h
  split at h
  ·cases h
  ·rename_i w hw
   obtain⟨h1,h2⟩:=kN a w hw
   split at h
   ·rename_i hx;cases h;rw[kj hx (by simp)];exact⟨by rw[Vl.cL,h1],h2⟩
   ·split at h
    ·rename_i hx;cases h;rw[kj hx (by simp)];exact⟨by rw[Vl.cL,h1],h2⟩
    ·split at h
     ·rename_i hx;cases h;rw[kj hx (by simp)];exact⟨by rw[Vl.cL,h1],h2⟩
     ·cases h
 |
  .list [x,a,b],v,h=>by
  rw[fO]at h
  split at h
  ·rename_i hx
   split at h
   ·rename_i w1 w2 hw1 hw2
    cases h
    obtain⟨h1,h2⟩:=kN a w1 hw1
    obtain⟨h3,h4⟩:=kN b w2 hw2
    rw[kj hx (by simp)]
    exact⟨by rw[Vl.cL,h1,h3],h2,h4⟩
   ·cases h
  ·cases h
def qc(e:E)(w:List UInt8)(k:Nat):Bool:=match e with| .list (x::l)=>decide (l.length+1=k)&&(x.at==w)|_=>false
theorem tb(e:E)(w:List UInt8)(k:Nat)(hk:1<=k):an Tryz.prog 151 [e.cD,.v (.string (mk w)),.v (.int .i64 (k:Int))] [] (bK (.v (.bool (qc e w k)))):=by
 refine Oy _ _ _ ((cU e).mpr trivial) ?_
 cases e with
 |atom s=>simp only[BE,E.cD,↓zq,zs,ae,zt,bK,qc];exact⟨by omega,fun h=>by omega,fun _=>trivial⟩
 |
  list l =>
  simp only[BE,E.cD,↓zq,zs,ae,zt,bK,rD]
  cases l with
  |nil=>exact⟨by simp,fun h=>by simp at h;omega,fun _=>rfl⟩
  |
   cons x l =>
   simp only[aA]
   refine⟨by simp,fun h=>?_,fun h=>?_⟩
   ·have:decide (l.length+1=k)=true:=by rw[decide_eq_true_eq];omega
    simp only[qc,this]
    cases x<;>simp[E.mj,E.cD,cb,pJ,jJ,dX,uI,toList_mk,E.at]
   ·have:decide (l.length+1=k)=false:=by rw[decide_eq_false_iff_not];omega
    simp only[qc,this];rfl
def jv:Option Vl->AV
 |some v=>v.cD
 |none=>.v (.pointer none)
end Go.Proofs.Trees
namespace Go.Proofs.Trees
open Go Go.VL Go.RowKit
theorem gq(v:Option Vl):LK.has .ptr (jv v)=True:=by cases v<;>simp[jv,aM,gD]
theorem Ak:∀(e:E),e.ok->an Tryz.prog 139 [e.cD] [] (bK (jv (fO e)))
 |
  .atom s,hok=>by
  refine KN _ ((cU _).mpr trivial) ?_
  have hd:=nP (.atom s)
  have hlen:=lQ (.atom s)
  simp only[E.at]at hd
  simp only[Ho,↓zq,zs,ae,zt,bK,cU,en,hd,fO]
  refine⟨hlen,fun h=>?_,fun h=>⟨hlen,?_⟩⟩
  ·rw[if_pos h];rfl
  ·rw[if_neg h]
   refine ai (ND s) ?_
   simp only[↓zq,zs,ae,zt]
   refine⟨fun he=>⟨hlen,?_⟩,fun he=>?_⟩
   ·obtain⟨k,hk⟩:=bU.1 he
    obtain⟨h1,h2⟩:=sT hk
    rw[hk,h1];rfl
   ·have hn:fT s=none:=by cases hq:fT s<;>simp[hq]at he |-
    rw[hn]
    refine ai (tb (.atom s) [108] 2 (by omega)) ?_
    simp only[qc,↓zq,zs,ae,zf]
    refine⟨fun h=>(by cases h),fun _=>ai (tb (.atom s) [114] 2 (by omega)) ?_⟩
    simp only[qc,↓zq,zs,ae,zf]
    refine⟨fun h=>(by cases h),fun _=>ai (tb (.atom s) [102] 2 (by omega)) ?_⟩
    simp only[qc,↓zq,zs,ae,zf]
    refine⟨fun h=>(by cases h),fun _=>ai (tb (.atom s) [112] 3 (by omega)) ?_⟩
    simp only[qc,↓zq,zs,ae,zf]
    exact⟨fun h=>(by cases h),fun _=>rfl⟩
 |
  .list l,hok=>by
  refine KN _ ((cU _).mpr trivial) ?_
  have hd:=nP (.list l)
  have hlen:=lQ (.list l)
  have hlen2:∀{l:List E},((AV.v (.string (mk [])))::[AV.sl (E.mj l)]).length=2:=rfl
  simp only[E.at]at hd
  have he:fT []=none:=rfl
  simp only[Ho,↓zq,zs,ae,zt,bK,cU,en,hd]
  refine⟨hlen,fun h=>(by cases h),fun h=>⟨hlen,?_⟩⟩
  refine ai (ND []) ?_
  rw[he]
  simp only[↓zq,zs,ae,zt,zf,bu]
  refine⟨fun h=>(by cases h),fun _=>ai (tb (.list l) [108] 2 (by omega)) ?_⟩
  have hno:∀w:List UInt8,(∀x a,l≠[x,a])->qc (.list l) w 2=false:=by
   intro w h2
   match l,h2 with
   |[],_=>rfl
   |[x],_=>rfl
   |[x,a],h2=>exact absurd rfl (h2 x a)
   |x::y::z::l,_=>simp[qc]
  match l,hok,hno,hlen with
  |
   [x,a],hok,hno,hlen =>
   clear hno
   obtain⟨ok1,ok2,_⟩:=hok
   have e2:∀w:List UInt8,qc (.list [x,a]) w 2=(x.at==w):=fun w=>rfl
   have e3:qc (.list [x,a]) [112] 3=false:=rfl
   have hx:=nP x
   have hxl:=lQ x
   rw[fO]
   simp only[e2,↓zq,zs,ae]
   refine⟨fun h1=>?_,fun h1=>ai (tb (.list [x,a]) [114] 2 (by omega)) ?_⟩
   ·simp only[E.cD,E.mj,toNat_one,↓zq,zs,ae,zt,cU,en]
    refine⟨by omega,by omega,by omega,ai (Ak a ok2) ?_⟩
    cases hv:fO a with
    |none=>simp only[jv,↓zq,zs,ae,gq];exact⟨fun _=>trivial,fun h=>(by cases h)⟩
    |
     some v =>
     simp only[jv,↓zq,zs,ae,zt,aM,fy,hx,h1,cU,en]
     refine⟨fun h=>(by cases h),fun _=>⟨by omega,by omega,by omega,hxl,by simp,?_⟩⟩
     rfl
   ·simp only[e2,↓zq,zs,ae]
    refine⟨fun h2=>?_,fun h2=>ai (tb (.list [x,a]) [102] 2 (by omega)) ?_⟩
    ·simp only[E.cD,E.mj,toNat_one,↓zq,zs,ae,zt,cU,en]
     refine⟨by omega,by omega,by omega,ai (Ak a ok2) ?_⟩
     cases hv:fO a with
     |none=>simp only[jv,↓zq,zs,ae,gq];exact⟨fun _=>trivial,fun h=>(by cases h)⟩
     |
      some v =>
      simp only[jv,↓zq,zs,ae,zt,aM,fy,hx,h2,cU,en]
      refine⟨fun h=>(by cases h),fun _=>⟨by omega,by omega,by omega,hxl,by simp,?_⟩⟩
      rfl
    ·simp only[e2,↓zq,zs,ae]
     refine⟨fun h3=>?_,fun h3=>ai (tb (.list [x,a]) [112] 3 (by omega)) ?_⟩
     ·simp only[E.cD,E.mj,toNat_one,↓zq,zs,ae,zt,cU,en]
      refine⟨by omega,by omega,by omega,ai (Ak a ok2) ?_⟩
      cases hv:fO a with
      |none=>simp only[jv,↓zq,zs,ae,gq];exact⟨fun _=>trivial,fun h=>(by cases h)⟩
      |
       some v =>
       simp only[jv,↓zq,zs,ae,zt,aM,fy,hx,h3,cU,en]
       refine⟨fun h=>(by cases h),fun _=>⟨by omega,by omega,by omega,hxl,by simp,?_⟩⟩
       rfl
     ·rw[e3]
      simp only[↓zq,zs,ae]
      refine⟨fun h=>(by cases h),fun _=>?_⟩
      cases fO a with
      |none=>rfl
      |some v=>simp only[if_neg h1,if_neg h2,if_neg h3];rfl
  |
   [x,a,b],hok,hno,hlen =>
   obtain⟨ok1,ok2,ok3,_⟩:=hok
   have h2:=fun w=>hno w (fun x a h=>(by cases h))
   rw[h2]
   simp only[↓zq,zs,ae]
   refine⟨fun h=>(by cases h),fun _=>ai (tb (.list [x,a,b]) [114] 2 (by omega)) ?_⟩
   rw[h2]
   simp only[↓zq,zs,ae]
   refine⟨fun h=>(by cases h),fun _=>ai (tb (.list [x,a,b]) [102] 2 (by omega)) ?_⟩
   rw[h2]
   simp only[↓zq,zs,ae]
   refine⟨fun h=>(by cases h),fun _=>ai (tb (.list [x,a,b]) [112] 3 (by omega)) ?_⟩
   have e3:qc (.list [x,a,b]) [112] 3=(x.at==[112]):=rfl
   rw[e3,fO]
   simp only[↓zq,zs,ae]
   refine⟨fun h1=>?_,fun h1=>?_⟩
   ·rw[if_pos h1]
    simp only[E.cD,E.mj,toNat_one,bg,↓zq,zs,ae,zt,cU,en]
    refine⟨by omega,by omega,by omega,ai (Ak a ok2) ?_⟩
    simp only[↓zq,zs,ae,gq,cU]
    refine⟨by omega,by omega,by omega,ai (Ak b ok3) ?_⟩
    cases hv:fO a with
    |none=>cases hw:fO b<;>simp only[jv,↓zq,zs,ae,gq,aM]<;>exact⟨fun _=>trivial,fun h=>(by cases h)⟩
    |
     some v =>
     cases hw:fO b with
     |
      none =>
      simp only[jv,↓zq,zs,ae,gq,aM,fy]
      exact⟨fun h=>(by cases h),fun _=>⟨fun _=>trivial,fun h=>(by cases h)⟩⟩
     |
      some w =>
      simp only[jv,↓zq,zs,ae,aM,fy]
      refine⟨fun h=>(by cases h),fun _=>⟨fun h=>(by cases h),fun _=>?_⟩⟩
      refine ai (Ap _ _ ((aM _).mpr trivial) ((aM _).mpr trivial)) ?_
      simp only[↓zq,zs,ae];rfl
   ·rw[if_neg h1];rfl
  |
   [],hok,hno,hlen =>
   have h2:=fun w=>hno w (fun x a h=>(by cases h))
   have e3:qc (.list []) [112] 3=false:=rfl
   rw[h2]
   simp only[↓zq,zs,ae]
   refine⟨fun h=>(by cases h),fun _=>ai (tb (.list []) [114] 2 (by omega)) ?_⟩
   rw[h2]
   simp only[↓zq,zs,ae]
   refine⟨fun h=>(by cases h),fun _=>ai (tb (.list []) [102] 2 (by omega)) ?_⟩
   rw[h2]
   simp only[↓zq,zs,ae]
   refine⟨fun h=>(by cases h),fun _=>ai (tb (.list []) [112] 3 (by omega)) ?_⟩
   rw[e3]
   simp only[↓zq,zs,ae]
   exact⟨fun h=>(by cases h),fun _=>rfl⟩
  |
   [x],hok,hno,hlen =>
   have h2:=fun w=>hno w (fun x a h=>(by cases h))
   have e3:qc (.list [x]) [112] 3=false:=rfl
   rw[h2]
   simp only[↓zq,zs,ae]
   refine⟨fun h=>(by cases h),fun _=>ai (tb (.list [x]) [114] 2 (by omega)) ?_⟩
   rw[h2]
   simp only[↓zq,zs,ae]
   refine⟨fun h=>(by cases h),fun _=>ai (tb (.list [x]) [102] 2 (by omega)) ?_⟩
   rw[h2]
   simp only[↓zq,zs,ae]
   refine⟨fun h=>(by cases h),fun _=>ai (tb (.list [x]) [112] 3 (by omega)) ?_⟩
   rw[e3]
   simp only[↓zq,zs,ae]
   exact⟨fun h=>(by cases h),fun _=>rfl⟩
  |
   x::y::z::w::l,hok,hno,hlen =>
   have h2:=fun w=>hno w (fun x a h=>(by cases h))
   have e3:qc (.list (x::y::z::w::l)) [112] 3=false:=by simp[qc]
   rw[h2]
   simp only[↓zq,zs,ae]
   refine⟨fun h=>(by cases h),fun _=>ai (tb (.list (x::y::z::w::l)) [114] 2 (by omega)) ?_⟩
   rw[h2]
   simp only[↓zq,zs,ae]
   refine⟨fun h=>(by cases h),fun _=>ai (tb (.list (x::y::z::w::l)) [102] 2 (by omega)) ?_⟩
   rw[h2]
   simp only[↓zq,zs,ae]
   refine⟨fun h=>(by cases h),fun _=>ai (tb (.list (x::y::z::w::l)) [112] 3 (by omega)) ?_⟩
   rw[e3]
   simp only[↓zq,zs,ae]
   exact⟨fun h=>(by cases h),fun _=>rfl⟩
def sw(s:List UInt8):Option Vl:=match qU s with
 |none=>none
 |
  some e=>match fO e with
  |none=>none
  |some v=>if v.nodes>200 then none else some v
theorem lW{s:List UInt8}{v:Vl}(h:sw s=some v):qU s=some v.cL/\v.ig 100/\v.nodes<=200:=by
 unfold sw at h
 split at h
 ·cases h
 ·rename_i e he
  split at h
  ·cases h
  ·rename_i w hw
   split at h
   ·cases h
   ·cases h
    obtain⟨h1,h2⟩:=kN e _ hw
    rw[h1]
    exact⟨he,h2,by omega⟩
theorem xB{e:E}{v:Vl}(h:fO e=some v):v.nodes<=e.sz:=by
 obtain⟨h1,_⟩:=kN e v h
 rw[<-nW,h1];exact Bh e
theorem QV(s:List UInt8):an Tryz.prog 100 [.v (.string (mk s))] [] (bK (jv (sw s))):=by
 refine Qo _ ?_
 unfold Kg
 refine ai (M5 s) ?_
 unfold sw
 cases he:qU s with
 |none=>simp only[uE,↓zq,zs,ae,bK,jv];simp
 |
  some e =>
  obtain⟨h1,h2⟩:=nO he
  simp only[uE,↓zq,zs,ae,cU,en]
  refine⟨fun h=>(by cases h),fun _=>?_⟩
  refine ai (Ak e h1) ?_
  cases hv:fO e with
  |none=>simp only[jv,↓zq,zs,ae,bK];simp
  |
   some v =>
   have hn:=xB hv
   simp only[jv,↓zq,zs,ae,aM,fy]
   refine⟨fun h=>(by cases h),fun _=>?_⟩
   refine ai (E2 v (by omega)) ?_
   simp only[↓zq,zs,ae,bK]
   refine⟨fun h=>?_,fun h=>?_⟩
   ·rw[if_pos (by omega)]
   ·rw[if_neg (by omega)]
theorem zT:∀(e:E),e.ok->an Tryz.prog 103 [e.kF] [] (bK (.v (.bool (xW e))))
 |
  .atom s,hok=>by
  refine Ab _ _ ((bh).mpr trivial) ?_
  have hne:s≠[]:=hok
  simp only[xn,↓zq,zs,ae,zt,bK,xW]
  refine⟨fun _=>⟨fun h=>?_,fun h=>?_⟩,fun h=>absurd h hne⟩
  ·simp[h]
  ·refine ai (IW s) ?_
   have h':(s==[117])=false:=by simpa using h
   simp only[↓zq,zs,ae,h',Bool.false_or]
   congr 2
   rw[Cl]
   cases fT s with
   |none=>rfl
   |some k=>simp
 |
  .list [],hok=>by
  refine Ab _ _ ((cf _).mpr trivial) ?_
  simp only[xn,↓zq,zs,ae,zt,bK,xW]
  refine⟨fun h=>absurd rfl h,fun _=>?_⟩
  refine ai Rk ?_
  simp[↓zq,zs,ae,zt]
 |
  .list [x],hok=>by
  refine Ab _ _ ((cf _).mpr trivial) ?_
  simp only[xn,↓zq,zs,ae,zt,bK,xW]
  refine⟨fun h=>absurd rfl h,fun _=>?_⟩
  refine ai (vd x _) ?_
  simp[↓zq,zs,ae,zt,E.bw]
 |
  .list (x::y::z::w::l),hok=>by
  refine Ab _ _ ((cf _).mpr trivial) ?_
  simp only[xn,↓zq,zs,ae,zt,bK,xW]
  refine⟨fun h=>absurd rfl h,fun _=>?_⟩
  refine ai (vd x _) ?_
  simp only[↓zq,zs,ae,zt,E.bw]
  refine⟨fun _=>⟨fun h=>by omega,fun _=>trivial⟩,fun _=>⟨fun _=>⟨fun h=>by omega,fun _=>trivial⟩,fun _=>⟨fun _=>⟨fun h=>by omega,fun _=>trivial⟩,fun _=>⟨fun _=>⟨fun h=>by omega,fun _=>trivial⟩,fun _=>trivial⟩⟩⟩⟩
 |
  .list [x,a],hok=>by
  refine Ab _ _ ((cf _).mpr trivial) ?_
  obtain⟨ok1,ok2,_⟩:=hok
  simp only[xn,↓zq,zs,ae,zt,bK,xW]
  refine⟨fun h=>absurd rfl h,fun _=>?_⟩
  refine ai (vd x _) ?_
  simp only[E.bw,toNat_one,bg,↓zq,zs,ae,zt,iS,gf,i7,mz,au]
  refine⟨fun h=>⟨fun _=>⟨by omega,?_⟩,fun h=>by omega⟩,fun h1=>⟨fun h=>⟨fun _=>⟨by omega,?_⟩,fun h=>by omega⟩,fun h2=>⟨fun h=>⟨fun _=>⟨by omega,?_⟩,fun h=>by omega⟩,fun h3=>⟨fun h=>⟨fun h=>by omega,fun _=>?_⟩,fun h=>?_⟩⟩⟩⟩
  ·refine ai (zT a ok2) ?_
   simp[↓zq,zs,ae,h]
  ·refine ai (zT a ok2) ?_
   simp[↓zq,zs,ae,h]
  ·refine ai (zT a ok2) ?_
   simp[↓zq,zs,ae,h]
  ·simp[h]
  ·simp[h1,h2,h3]
 |
  .list [x,a,b],hok=>by
  refine Ab _ _ ((cf _).mpr trivial) ?_
  obtain⟨ok1,ok2,ok3,_⟩:=hok
  simp only[xn,↓zq,zs,ae,zt,bK,xW]
  refine⟨fun h=>absurd rfl h,fun _=>?_⟩
  refine ai (vd x _) ?_
  simp only[E.bw,toNat_one,bg,↓zq,zs,ae,zt,iS,gf,i7,mz,au]
  refine⟨fun h=>⟨fun h=>by omega,fun _=>?_⟩,fun h1=>⟨fun h=>⟨fun h=>by omega,fun _=>?_⟩,fun h2=>⟨fun h=>⟨fun h=>by omega,fun _=>?_⟩,fun h3=>⟨fun h=>⟨fun _=>⟨by omega,?_⟩,fun h=>by omega⟩,fun h=>?_⟩⟩⟩⟩
  ·simp[h]
  ·simp[h]
  ·simp[h]
  ·refine ai (zT a ok2) ?_
   simp only[↓zq,zs,ae,h]
   refine⟨fun ha=>⟨by omega,ai (zT b ok3) ?_⟩,fun ha=>?_⟩
   ·simp[↓zq,zs,ae,ha]
   ·simp[ha]
  ·simp[h]
theorem D4(s:List UInt8):an Tryz.prog 72 [.v (.string (mk s))] [] (jH ((sw s).map Vl.cL) (sw s).isSome):=by
 refine Sy _ ?_
 unfold LJ
 refine aP (OC s) (jH.ne _ _ (fun h=>h)) ?_
 rintro r o ⟨c,d,hd,rfl,hh⟩
 simp only[↓zq,zs,ae,zt,bF,sw]
 refine⟨hd,fun h=>?_,fun h=>?_⟩
 ·obtain⟨e,he,hce⟩:=hh h
  obtain⟨hok,hsz⟩:=nO he
  rw[he,hce]
  refine ai (zT e hok) ?_
  simp only[↓zq,zs,ae]
  have hs:=oH e
  refine⟨fun hi=>?_,fun hi=>?_⟩
  ·rw[hi]at hs
   obtain⟨v,hv⟩:=bU.1 hs
   obtain⟨h1,h2⟩:=kN e v hv
   refine ai (Rp e (by omega)) ?_
   simp only[↓zq,zs,ae,hv]
   have hnd:e.nd=v.nodes:=by rw[<-h1,nW]
   rw[hnd]
   refine⟨c,d,hd,?_,?_⟩
   ·rw[hce]
    by_cases h4:v.nodes>200
    ·rw[if_pos h4];exact congrArg (fun b=>AV.cG [e.kF,.v (.bool b)]) (decide_eq_false (show ¬((v.nodes:Nat):Int)<=200 by omega))
    ·rw[if_neg h4];exact congrArg (fun b=>AV.cG [e.kF,.v (.bool b)]) (decide_eq_true (show ((v.nodes:Nat):Int)<=200 by omega))
   ·split
    ·exact fun h=>by cases h
    ·exact fun _=>⟨e,by simp[h1],hce⟩
  ·rw[hi]at hs
   have hn:fO e=none:=by cases hq:fO e<;>simp[hq]at hs |-
   rw[hn]
   exact⟨c,d,hd,by rw[hce];rfl,fun h=>by cases h⟩
 ·have hn:qU s=none:=by cases hq:qU s<;>simp[hq]at h |-
  rw[hn]
  exact⟨c,d,hd,rfl,fun h=>by cases h⟩
end Go.Proofs.Trees
namespace Go.Proofs.Trees
open Go Go.VL Go.RowKit
inductive Fr where
 |mk (s:List UInt8) (e:E) (o:List Fr)
def Fr.nm:Fr->List UInt8| .mk s _ _=>s
def Fr.ex:Fr->E| .mk _ e _=>e
def Fr.out:Fr->List Fr| .mk _ _ o=>o
def names:List Fr->List (List UInt8)
 |[]=>[]
 |f::r=>names r++[f.nm]
def yk(e:E)(o:List Fr):Ty:=(cS e (names o)).getD .zero
def E.sp:E->AV
 | .atom _=>.v (.slice none 0 0)
 | .list l=>.sl (E.bw l)
theorem fM(e:E):e.im=[.v (.string (mk e.at)),e.sp]:=by cases e<;>rfl
theorem dj(e:E):e.kF=.agg [.v (.string (mk e.at)),e.sp]:=by cases e<;>rfl
theorem aX(e:E):LK.has .sl e.sp=True:=by cases e<;>simp[E.sp,bh,cf]
mutual
def Fr.cells:Fr->List AV
 | .mk s e o=>[.v (.string (mk s)),.v (.string (mk e.at)),e.sp,.sl (j7 o)]
def j7:List Fr->List (List AV)
 |[]=>[]
 |f::r=>j7 r++[f.cells]
end
mutual
def Fr.cD:Fr->AV
 | .mk s e o=>.ptr [(yk e o).av,po o]
def po:List Fr->AV
 |[]=>gJ
 |f::r=>.ptr [f.cD,po r]
end
inductive WF:List Fr->Prop
 |nil:WF []
 |cons {s:List UInt8} {x a b:E} {t:Ty} {r:List Fr} (hs:dk s=true) (hok:(E.list [x,a,b]).ok) (hx:x.at=[114,101,99]) (ht:cS (.list [x,a,b]) (names r)=some t) (hf:cc t=false) (hr:WF r):WF (.mk s (.list [x,a,b]) r::r)
theorem lh:∀env:List Fr,(j7 env).length=env.length
 |[]=>rfl
 |f::r=>by simp[j7,lh r]
theorem er(env:List Fr):LK.has .ptr (po env)=True:=by cases env<;>simp[po,gD,cb]
theorem AD(f:Fr):LK.has .ptr f.cD=True:=by cases f;simp[Fr.cD,cb]
def findF(s:List UInt8):List Fr->Option Fr
 |[]=>none
 |f::r=>if f.nm=s then some f else findF s r
def hd(e:E)(env:List Fr):E×List Fr:=match findF e.at env with|some f=>(f.ex,f.out)|none=>(e,env)
theorem kM{env:List Fr}(h:WF env):findF [] env=none:=by
 induction h with
 |nil=>rfl
 |
  @cons s x a b t r hs hok hx ht hf hr ih =>
  rw[findF,if_neg (show ¬(Fr.mk s (.list [x,a,b]) r).nm=[] from CC hs)];exact ih
theorem zr{env:List Fr}(h:WF env){s:List UInt8}{f:Fr}(hf:findF s env=some f):dk s=true:=by
 induction h with
 |nil=>cases hf
 |
  cons hs hok hx ht hf' hr ih =>
  rw[findF]at hf
  split at hf
  ·rename_i e;exact e ▸ hs
  ·exact ih hf
theorem oz{env:List Fr}(h:WF env){s:List UInt8}{f:Fr}(hf:findF s env=some f):∃x a b t,f.ex=.list [x,a,b]/\(E.list [x,a,b]).ok/\x.at=[114,101,99]/\cS f.ex (names f.out)=some t/\cc t=false/\WF f.out/\f.out.length<env.length:=by
 induction h with
 |nil=>cases hf
 |
  cons hs hok hx ht hf' hr ih =>
  rw[findF]at hf
  split at hf
  ·cases hf;exact⟨_,_,_,_,rfl,hok,hx,ht,hf',hr,by simp[Fr.out]⟩
  ·obtain⟨x,a,b,t,h1,h2,h3,h4,h5,h6,h7⟩:=ih hf
   exact⟨x,a,b,t,h1,h2,h3,h4,h5,h6,by simp;omega⟩
theorem kl(s w:List UInt8)(ar:List (List UInt8)):∀i,i<=ar.length->bQ s (ar++[w]) i=(bQ s ar i).map (·+1)
 |0,_=>rfl
 |
  i+1,hi=>by
  have hlt:i<ar.length:=by omega
  have e:(ar++[w]).getD i []=ar.getD i []:=by simp[aa,List.getElem?_append_left hlt]
  rw[bQ,bQ,e,kl s w ar i (by omega)]
  split
  ·simp only[aq,aA,aG,cg,Option.some.injEq];omega
  ·rfl
theorem vi(s:List UInt8)(f:Fr)(r:List Fr):bQ s (names (f::r)) (names (f::r)).length=if f.nm=s then some 0 else(bQ s (names r) (names r).length).map (·+1):=by
 have e:(names (f::r)).length=(names r).length+1:=by simp[names]
 rw[e,bQ]
 have e2:(names (f::r)).getD (names r).length []=f.nm:=by simp[names,aa]
 rw[e2]
 split
 ·rw[e];simp
 ·rw[names,kl _ _ _ _ (au _)]
theorem pj(s:List UInt8):∀env:List Fr,bQ s (names env) (names env).length=none/\findF s env=none\/∃(u:Nat) (f:Fr),bQ s (names env) (names env).length=some u/\findF s env=some f/\env[u]?=some f
 |[]=>.inl ⟨rfl,rfl⟩
 |
  f::r=>by
  rw[vi,findF]
  split
  ·exact .inr ⟨0,f,rfl,rfl,rfl⟩
  ·rcases pj s r with⟨h1,h2⟩|⟨u,g,h1,h2,h3⟩
   ·exact .inl ⟨by rw[h1];rfl,h2⟩
   ·exact .inr ⟨u+1,g,by rw[h1];rfl,h2,by simpa using h3⟩
def Ty.O7:Ty->Bool
 | .bound _=>true
 |_=>false
theorem gn{e:E}{env:List Fr}{t:Ty}(hw:WF env)(ht:cS e (names env)=some t) :
 (t.O7=false/\findF e.at env=none)\/∃(u:Nat) (f:Fr),t=.bound u/\findF e.at env=some f/\env[u]?=some f:=by
 cases e with
 |
  list l =>
  left
  refine⟨?_,kM hw⟩
  match l,ht with
  |
   [x,a,b],ht =>
   by_cases h0:x.at=[43]
   ·obtain⟨t1,t2,_,_,rfl⟩:=fN h0 ht;rfl
   ·by_cases h1:x.at=[42]
    ·obtain⟨t1,t2,_,_,rfl⟩:=fh h1 ht;rfl
    ·by_cases h2:x.at=[114,101,99]
     ·obtain⟨t1,_,_,rfl⟩:=dA h2 ht;rfl
     ·rw[je _ h0 h1 h2]at ht;cases ht
  |[],ht=>cases ht
  |[_],ht=>cases ht
  |[_,_],ht=>cases ht
  |_::_::_::_::_,ht=>cases ht
 |
  atom s =>
  simp only[cS]at ht
  have hno:dk s=false->findF s env=none:=fun h=>by
   cases hq:findF s env with
   |none=>rfl
   |some f=>rw[zr hw hq]at h;cases h
  split at ht
  ·rename_i h;cases ht;subst h;exact .inl ⟨rfl,hno rfl⟩
  ·split at ht
   ·rename_i h;cases ht;subst h;exact .inl ⟨rfl,hno rfl⟩
   ·split at ht
    ·rename_i h
     cases ht
     refine .inl ⟨rfl,hno ?_⟩
     cases hq:dk s with
     |false=>rfl
     |
      true =>
      obtain⟨c,r,rfl,h1,h2⟩:=lC h
      obtain⟨c',r',he,h3,h4⟩:=lC hq
      cases he;omega
    ·split at ht
     ·rcases pj s env with⟨h1,h2⟩|⟨u,f,h1,h2,h3⟩
      ·rw[h1]at ht;cases ht;exact .inl ⟨rfl,h2⟩
      ·rw[h1]at ht;cases ht;exact .inr ⟨u,f,rfl,h2,h3⟩
     ·cases ht
def eV(n:Nat):Vl->E×List Fr->Bool
 | .u,p=>match hd p.1 p.2 with|(.atom s,_)=>s==[49]|_=>false
 | .el k,p=>match hd p.1 p.2 with|(.atom s,_)=>!(s==[49])&&(hD s&&decide (k<n))|_=>false
 | .l w,p=>match hd p.1 p.2 with|(.list [x,a,b],o)=>(x.at==[43])&&eV n w (a,o)|_=>false
 | .r w,p=>match hd p.1 p.2 with|(.list [x,a,b],o)=>(x.at==[43])&&eV n w (b,o)|_=>false
 | .f w,p=>match hd p.1 p.2 with|(.list [x,a,b],o)=>(x.at==[114,101,99])&&eV n w (b,.mk a.at (.list [x,a,b]) o::o)|_=>false
 | .p v w,p=>match hd p.1 p.2 with|(.list [x,a,b],o)=>(x.at==[42])&&(eV n v (a,o)&&eV n w (b,o))|_=>false
theorem ka{e:E}{env:List Fr}(h:findF e.at env=none):hd e env=(e,env):=by rw[hd,h]
theorem qY{e:E}{env:List Fr}{f:Fr}(h:findF e.at env=some f):hd e env=(f.ex,f.out):=by rw[hd,h]
theorem pX{x a b:E}{o:List Fr}(h:WF o):hd (.list [x,a,b]) o=(.list [x,a,b],o):=ka (kM h)
theorem um(n:Nat)(v:Vl){e e':E}{env o:List Fr}(h:hd e env=(e',o))(h':hd e' o=(e',o)):eV n v (e,env)=eV n v (e',o):=by
 cases v<;>simp only[eV,h,h']
theorem jw{x a b:E}{env:List Fr}{t:Ty}(hw:WF env)(hok:(E.list [x,a,b]).ok)(hx:x.at=[114,101,99])(ht:cS (.list [x,a,b]) (names env)=some t)(hf:cc t=false) :
 ∃t1,t=.rc t1/\cS b (names (.mk a.at (.list [x,a,b]) env::env))=some t1/\cc t1=false/\WF (.mk a.at (.list [x,a,b]) env::env):=by
 obtain⟨t1,hl,h1,rfl⟩:=dA hx ht
 exact⟨t1,rfl,h1,hf,.cons hl hok hx ht hf hw⟩
theorem zF(a b env:AV)(n:Int)(s:ByteArray)(u:Int)(ha:LK.ptr.has a)(he:LK.ptr.has env):an Tryz.prog 107 [.agg [.ptr [.v (.int .u8 n),.v (.string s),.v (.int .i64 u),a,b],env]] [] (bK (.agg [a,env])):=by
 refine QX _ _ ((cb _).mpr trivial) he ?_
 simp only[Ln,↓zq,zs,ae,bK]
 exact⟨ha,by omega⟩
theorem zO(a b env:AV)(n:Int)(s:ByteArray)(u:Int)(hb:LK.ptr.has b)(he:LK.ptr.has env):an Tryz.prog 108 [.agg [.ptr [.v (.int .u8 n),.v (.string s),.v (.int .i64 u),a,b],env]] [] (bK (.agg [b,env])):=by
 refine SF _ _ ((cb _).mpr trivial) he ?_
 simp only[Kj,↓zq,zs,ae,bK]
 exact⟨hb,by omega⟩
theorem RY(t:Ty)(env:List Fr)(s:List UInt8)(e:E)(ht:yk e env=.rc t):an Tryz.prog 77 [.agg [(Ty.rc t).av,po env]] [] (bK (.cG [.agg [t.av,po (.mk s e env::env)],(Fr.mk s e env).cD])):=by
 refine RW _ _ ((aE _).mpr trivial) ((er _).mpr trivial) ?_
 simp only[LW,Ty.av,↓zq,zs,ae,aE,bK,po,Fr.cD,ht]
 omega
theorem sR(env:List Fr)(i:Nat)(f:Fr)(h:env[i]?=some f):po (env.drop i)=.ptr [f.cD,po (env.drop (i+1))]:=by
 obtain⟨hlt,he⟩:=List.getElem?_eq_some_iff.1 h
 rw[aU hlt,he,po]
theorem N0(env:List Fr)(u:Nat)(hu:u<env.length)(hl:env.length<1000000):∀(k i:Nat),i+k=u->CW [po (env.drop i),.v (.int .i64 (u:Int)),.v (.int .i64 (i:Int))] [] (gV 1 [po (env.drop u)] [])
 |
  0,i,hi=>by
  refine C3 _ _ _ ?_
  have:i=u:=by omega
  subst this
  simp only[AM,↓zq,zs,ae,er]
  exact⟨fun h=>by omega,fun _=>by simp[gV]⟩
 |
  k+1,i,hi=>by
  refine C3 _ _ _ ?_
  have hlt:i<env.length:=by omega
  have hg:env[i]?=some env[i]:=bp hlt
  have hd:=sR env i _ hg
  rw[hd]
  simp only[AM,↓zq,zs,ae,er]
  refine⟨fun _=>⟨by omega,?_⟩,fun h=>by omega⟩
  rw[bA i (by omega)]
  exact N0 env u hu hl k (i+1) (by omega)
theorem Rs(env:List Fr)(u:Nat)(f:Fr)(hf:env[u]?=some f)(hl:env.length<1000000):an Tryz.prog 141 [.agg [(Ty.bound u).av,po env]] [] (bK f.cD):=by
 refine Lg _ _ ((aE _).mpr trivial) ((er _).mpr trivial) ?_
 obtain⟨hlt,he⟩:=List.getElem?_eq_some_iff.1 hf
 simp only[HN,Ty.av,↓zq,zs,ae]
 refine⟨by omega,?_⟩
 have h:=N0 env u hlt hl u 0 (by omega)
 simp only[bf]at h
 refine cz h ?_
 rw[sR env u f hf]
 simp only[↓zq,zs,ae,AD,bK]
 omega
theorem C6(k:Nat)(h:k<100):Lib.atoi (dd k)=some (k:Int):=by
 have e:∀k,k<100->dd k=if k<10 then [bj (48+k)]else [bj (48+k/10),bj (48+k%10)]:=by
  intro k hk
  by_cases h1:k<10
  ·rw[eH h1,if_pos h1]
  ·rw[fR h1,eH (by omega),if_neg h1];rfl
 have key:∀k:Fin 100,Lib.atoi (if k.val<10 then [bj (48+k.val)]else [bj (48+k.val/10),bj (48+k.val%10)])=some (k.val:Int):=by decide +kernel
 rw[e k h];exact key ⟨k,h⟩
theorem Sg(k:Nat)(hk:k<100):an Tryz.prog 140 [.v (.string (mk (dd k)))] [] (bK (.cG [.v (.int .i64 (k:Int)),.v .nilIface])):=by
 have hl:=mB 1000 k (by omega)
 have hl2:(dd k).length<=18:=by
  have e:(dd k).length<=2:=by
   by_cases h1:k<10
   ·rw[eH h1];simp
   ·rw[fR h1,eH (by omega)];simp
  omega
 refine an.RM (xs:=[.string (mk (dd k))]) (v:=.tuple #[.int .i64 (k:Int),.nilIface]) ⟨qu,by kernel_rfl,by kernel_rfl,by kernel_rfl⟩ (fun M=>?_) fun w=>?_
 ·refine bG.cG _ _ [.int .i64 (k:Int),.nilIface] rfl fun i hi=>?_
  match i,hi with
  |0,_=>exact .v _ _
  |1,_=>exact .v _ _
 ·have:=Any.strconv_Atoi Tryz.C4 (mk (dd k)) (k:Int) (by rw[cM];exact hl2) (by
   have:(mk (dd k)).data.toList=dd k:=by simp[mk]
   rw[this];exact C6 k hk) w
  refine Calls.mono this fun e w' ⟨h1,t,h2⟩=>⟨h1,?_⟩
  subst h2
  refine⟨rfl,rfl,rfl,?_,fun b hb=>Lib.bytesWorld_at_old _ _ _ _ hb⟩
  simp[Lib.bytesWorld,World.freeze]
end Go.Proofs.Trees
namespace Go.Proofs.Trees
open Go Go.VL Go.RowKit
theorem fq{a b:Ty}(h:cc (.plus a b)=false):cc a=false/\cc b=false:=by simpa[cc]using h
theorem eW{a b:Ty}(h:cc (.times a b)=false):cc a=false/\cc b=false:=by simpa[cc]using h
theorem fI{e:E}{ar:List (List UInt8)}{t:Ty}(ht:cS e ar=some t)(hb:t.O7=false)(hf:cc t=false) :
 (e=.atom [48]/\t=.zero)\/(e=.atom [49]/\t=.one)\/(∃s,e=.atom s/\t=.name s/\hD s=true/\s≠[48]/\s≠[49]) ∨
 (∃x a b t1 t2,e=.list [x,a,b]/\x.at=[43]/\t=.plus t1 t2/\cS a ar=some t1/\cS b ar=some t2) ∨
 (∃x a b t1 t2,e=.list [x,a,b]/\x.at=[42]/\t=.times t1 t2/\cS a ar=some t1/\cS b ar=some t2) ∨
 (∃x a b t1,e=.list [x,a,b]/\x.at=[114,101,99]/\t=.rc t1):=by
 cases e with
 |
  list l =>
  match l,ht with
  |
   [x,a,b],ht =>
   by_cases h0:x.at=[43]
   ·obtain⟨t1,t2,h1,h2,rfl⟩:=fN h0 ht
    exact .inr (.inr (.inr (.inl ⟨x,a,b,t1,t2,rfl,h0,rfl,h1,h2⟩)))
   ·by_cases h1:x.at=[42]
    ·obtain⟨t1,t2,h3,h2,rfl⟩:=fh h1 ht
     exact .inr (.inr (.inr (.inr (.inl ⟨x,a,b,t1,t2,rfl,h1,rfl,h3,h2⟩))))
    ·by_cases h2:x.at=[114,101,99]
     ·obtain⟨t1,_,_,rfl⟩:=dA h2 ht
      exact .inr (.inr (.inr (.inr (.inr ⟨x,a,b,t1,rfl,h2,rfl⟩))))
     ·rw[je _ h0 h1 h2]at ht;cases ht
  |[],ht=>cases ht
  |[_],ht=>cases ht
  |[_,_],ht=>cases ht
  |_::_::_::_::_,ht=>cases ht
 |
  atom s =>
  simp only[cS]at ht
  split at ht
  ·rename_i h;cases ht;subst h;exact .inl ⟨rfl,rfl⟩
  ·rename_i h0
   split at ht
   ·rename_i h;cases ht;subst h;exact .inr (.inl ⟨rfl,rfl⟩)
   ·rename_i h1
    split at ht
    ·rename_i h;cases ht;exact .inr (.inr (.inl ⟨s,rfl,rfl,h,h0,h1⟩))
    ·split at ht
     ·rename_i h
      split at ht
      ·cases ht;cases hb
      ·cases ht;simp only[cc]at hf;rw[h]at hf;cases hf
     ·cases ht
def qk(n:Nat)(v:Vl)(e:E)(env:List Fr)(t:Ty):Prop:=an Tryz.prog 101 [.agg [t.av,po env],v.cD,.v (.int .i64 (n:Int))] [] (bK (.v (.bool (eV n v (e,env)))))
structure Ask(e:E)(env:List Fr)(t:Ty):Prop where
 ok:e.ok
 wf:WF env
 ty:cS e (names env)=some t
 cl:cc t=false
theorem Oh(n:Nat)(hn:n<=100)(v:Vl)(hv:v.ig 100)(IH:∀w:Vl,w.nodes<v.nodes->w.ig 100->∀e env t,Ask e env t->env.length+w.nodes<100000->qk n w e env t)
 (e:E) (env:List Fr) (t:Ty) (A:Ask e env t) (hl:env.length+v.nodes<100000) (hb:t.O7=false) (hh:findF e.at env=none):qk n v e env t:=by
 have hhd:hd e env=(e,env):=ka hh
 unfold qk
 refine KY _ _ _ _ ((aE _).mpr trivial) ((er _).mpr trivial) ((aM _).mpr trivial) ?_
 rcases fI A.ty hb A.cl with⟨rfl,rfl⟩|⟨rfl,rfl⟩|⟨s,rfl,rfl,hp,h0,h1⟩|⟨x,a,b,t1,t2,rfl,hx,rfl,ha,hbb⟩|⟨x,a,b,t1,t2,rfl,hx,rfl,ha,hbb⟩|⟨x,a,b,t1,rfl,hx,rfl⟩
 ·have hp0:hD [48]=false:=rfl
  cases v<;>simp[Aw,Ty.av,↓zq,zs,ae,bK,eV,hhd,hp0]
 ·have hp0:hD [49]=false:=rfl
  cases v<;>simp[Aw,Ty.av,Vl.cD,↓zq,zs,ae,bK,eV,hhd,hp0]
 ·have h1':(s==[49])=false:=by simpa using h1
  cases v with
  |
   el k =>
   have hk:k<100:=hv
   simp only[Aw,Ty.av,Vl.cD,↓zq,zs,ae,zt]
   refine⟨by omega,fun h=>by omega,fun _=>⟨fun _=>⟨by omega,fun h=>absurd rfl h,fun _=>⟨by omega,by omega,?_⟩⟩,fun h=>absurd rfl h⟩⟩
   have e1:(List.take ((dd k).length+1) (w4 k)).drop (bL 1)=dd k:=by simp[w4]
   rw[e1]
   refine ai (Sg k hk) ?_
   simp only[↓zq,zs,ae,bK,eV,hhd,h1',hp,zf]
   refine⟨rfl,?_⟩
   congr 2
   rw[cy];simp
  |
   _ =>
   simp only[Aw,Ty.av,Vl.cD,↓zq,zs,ae,zt,eV,hhd,h1',bK]
   exact⟨by omega,fun h=>by omega,fun _=>⟨fun _=>⟨by omega,fun _=>trivial,fun h=>by omega⟩,fun h=>absurd rfl h⟩⟩
 ·have hok:=A.ok
  obtain⟨ok1,ok2,ok3,_⟩:=hok
  obtain⟨f1,f2⟩:=fq A.cl
  cases v with
  |
   l w =>
   simp only[Vl.nodes]at hl
   simp only[Aw,Ty.av,Vl.cD,↓zq,zs,ae]
   refine⟨by omega,fun h=>by omega,fun _=>⟨fun h=>by omega,fun _=>⟨fun h=>by omega,fun _=>⟨fun _=>⟨by omega,fun _=>?_,fun h=>absurd rfl h⟩,fun h=>absurd rfl h⟩⟩⟩⟩
   refine ai (zF _ _ _ _ _ _ ((aE _).mpr trivial) ((er _).mpr trivial)) ?_
   simp only[↓zq,zs,ae,bF,aE,er,aM]
   refine⟨by omega,?_⟩
   refine ai (IH w (by simp only[Vl.nodes];omega) hv a env t1 ⟨ok2,A.wf,ha,f1⟩ (by omega)) ?_
   simp only[↓zq,zs,ae,bK,eV,hhd,hx]
   refine⟨fun h=>?_,fun h=>⟨by omega,fun h=>by omega,fun _=>?_⟩⟩
   ·simp[h]
   ·simp[h]
  |
   r w =>
   simp only[Vl.nodes]at hl
   simp only[Aw,Ty.av,Vl.cD,↓zq,zs,ae]
   refine⟨by omega,fun h=>by omega,fun _=>⟨fun h=>by omega,fun _=>⟨fun h=>by omega,fun _=>⟨fun _=>⟨by omega,fun h=>by omega,fun _=>⟨by omega,fun _=>?_,fun h=>absurd rfl h⟩⟩,fun h=>absurd rfl h⟩⟩⟩⟩
   refine ai (zO _ _ _ _ _ _ ((aE _).mpr trivial) ((er _).mpr trivial)) ?_
   simp only[↓zq,zs,ae,bF,aE,er,aM]
   refine⟨by omega,?_⟩
   refine ai (IH w (by simp only[Vl.nodes];omega) hv b env t2 ⟨ok3,A.wf,hbb,f2⟩ (by omega)) ?_
   simp[↓zq,zs,ae,bK,eV,hhd,hx]
  |
   _ =>
   simp only[Aw,Ty.av,Vl.cD,↓zq,zs,ae,eV,hhd,bK]
   exact⟨by omega,fun h=>by omega,fun _=>⟨fun h=>by omega,fun _=>⟨fun h=>by omega,fun _=>⟨fun _=>⟨by omega,fun h=>by omega,fun _=>⟨by omega,fun h=>by omega,fun _=>by simp[hx]⟩⟩,fun h=>absurd rfl h⟩⟩⟩⟩
 ·have hok:=A.ok
  obtain⟨ok1,ok2,ok3,_⟩:=hok
  obtain⟨f1,f2⟩:=eW A.cl
  cases v with
  |
   p v w =>
   simp only[Vl.nodes]at hl
   simp only[Aw,Ty.av,Vl.cD,↓zq,zs,ae]
   refine⟨by omega,fun h=>by omega,fun _=>⟨fun h=>by omega,fun _=>⟨fun h=>by omega,fun _=>⟨fun h=>by omega,fun _=>⟨fun _=>⟨by omega,fun _=>?_,fun h=>absurd rfl h⟩,fun h=>absurd rfl h⟩⟩⟩⟩⟩
   refine ai (zF _ _ _ _ _ _ ((aE _).mpr trivial) ((er _).mpr trivial)) ?_
   simp only[↓zq,zs,ae,bF,aE,er,aM]
   refine⟨by omega,?_⟩
   refine ai (IH v (by simp only[Vl.nodes];omega) hv.1 a env t1 ⟨ok2,A.wf,ha,f1⟩ (by omega)) ?_
   simp only[↓zq,zs,ae,bK,eV,hhd,hx]
   refine⟨fun h=>?_,fun h=>?_⟩
   ·refine ai (zO _ _ _ _ _ _ ((aE _).mpr trivial) ((er _).mpr trivial)) ?_
    simp only[↓zq,zs,ae,bF,aE,er,aM]
    refine⟨by omega,?_⟩
    refine ai (IH w (by simp only[Vl.nodes];omega) hv.2 b env t2 ⟨ok3,A.wf,hbb,f2⟩ (by omega)) ?_
    simp[↓zq,zs,ae,h]
   ·simp[h]
  |
   _ =>
   simp only[Aw,Ty.av,Vl.cD,↓zq,zs,ae,eV,hhd,bK]
   exact⟨by omega,fun h=>by omega,fun _=>⟨fun h=>by omega,fun _=>⟨fun h=>by omega,fun _=>⟨fun h=>by omega,fun _=>⟨fun _=>⟨by omega,fun h=>by omega,fun _=>by simp[hx]⟩,fun h=>absurd rfl h⟩⟩⟩⟩⟩
 ·obtain⟨t1',he1,h1,f1,hw1⟩:=jw A.wf A.ok hx A.ty A.cl
  cases he1
  have hok:=A.ok
  obtain⟨ok1,ok2,ok3,_⟩:=hok
  have htD:yk (.list [x,a,b]) env=.rc t1:=by rw[yk,A.ty];rfl
  have hin:=RY t1 env a.at (.list [x,a,b]) htD
  simp only[Ty.av]at hin
  simp only[Aw,Ty.av,↓zq,zs,ae]
  refine⟨by omega,fun h=>by omega,fun _=>⟨fun h=>by omega,fun _=>⟨fun h=>by omega,fun _=>⟨fun h=>by omega,fun _=>⟨fun h=>by omega,fun _=>⟨fun _=>?_,fun h=>absurd rfl h⟩⟩⟩⟩⟩⟩
  refine ai hin ?_
  simp only[↓zq,zs,ae,bF,aE,er,AD,aM,fy]
  cases v with
  |
   f w =>
   simp only[Vl.nodes]at hl
   simp only[Vl.cD,↓zq,zs,ae,aM]
   refine⟨by omega,fun _=>⟨by omega,?_⟩,fun h=>absurd rfl h⟩
   refine ai (IH w (by simp only[Vl.nodes];omega) hv b (.mk a.at (.list [x,a,b]) env::env) t1 ⟨ok3,hw1,h1,f1⟩ (by simp;omega)) ?_
   simp[↓zq,zs,ae,bK,eV,hhd,hx]
  |
   _ =>
   simp only[Vl.cD,↓zq,zs,ae,eV,hhd,bK]
   exact⟨by omega,fun h=>by omega,fun _=>by simp[hx]⟩
theorem OM(n:Nat)(hn:n<=100):∀(m:Nat) (v:Vl),v.nodes<m->v.ig 100->∀e env t,Ask e env t->env.length+v.nodes<100000->qk n v e env t
 |0,v,h,_=>by omega
 |
  m+1,v,h,hv=>by
  intro e env t A hl
  have IH:∀w:Vl,w.nodes<v.nodes->w.ig 100->∀e env t,Ask e env t->env.length+w.nodes<100000->qk n w e env t:=fun w hw hb=>OM n hn m w (by omega) hb
  rcases gn A.wf A.ty with⟨hb,hh⟩|⟨u,f,rfl,hh,hu⟩
  ·exact Oh n hn v hv IH e env t A hl hb hh
  ·obtain⟨x,a,b,t',hfe,hok,hx,ht',hf',hwf,hlt⟩:=oz A.wf hh
   obtain⟨t1,hl1,h1,rfl⟩:=dA hx (hfe ▸ ht')
   have hvis:eV n v (e,env)=eV n v (f.ex,f.out):=um n v (qY hh) (by rw[hfe];exact pX hwf)
   unfold qk
   refine KY _ _ _ _ ((aE _).mpr trivial) ((er _).mpr trivial) ((aM _).mpr trivial) ?_
   have hbd:=Rs env u f hu (by omega)
   simp only[Ty.av]at hbd
   simp only[Aw,Ty.av,↓zq,zs,ae]
   refine⟨by omega,fun h=>by omega,fun _=>⟨fun h=>by omega,fun _=>⟨fun _=>?_,fun h=>absurd rfl h⟩⟩⟩
   refine ai hbd ?_
   cases f with
   |
    mk s ee oo =>
    simp only[Fr.ex,Fr.out]at hfe ht' hf' hwf hvis hlt
    have htD:yk ee oo=.rc t1:=by rw[yk,ht'];rfl
    simp only[Fr.cD,htD,↓zq,zs,ae,bF,aE,er]
    refine⟨by omega,?_⟩
    have hs:=Oh n hn v hv IH ee oo (.rc t1) ⟨by rw[hfe];exact hok,hwf,ht',hf'⟩ (by omega) rfl (by rw[hfe];exact kM hwf)
    unfold qk at hs
    refine ai hs ?_
    simp[↓zq,zs,ae,bK,hvis]
end Go.Proofs.Trees
namespace Go.Proofs.Trees
open Go Go.VL Go.RowKit
theorem tu:∀(env:List Fr) (k:Nat) (f:Fr),env[k]?=some f->(j7 env).getD (env.length-1-k) []=f.cells
 |[],k,f,h=>by cases h
 |
  g::r,0,f,h=>by
  cases h
  have:(g::r).length-1-0=(j7 r).length:=by simp[lh]
  rw[this,j7];simp[aa]
 |
  g::r,k+1,f,h=>by
  have h':r[k]?=some f:=by simpa using h
  have hlt:=(List.getElem?_eq_some_iff.1 h').1
  have e:(g::r).length-1-(k+1)=r.length-1-k:=by simp;omega
  have:=tu r k f h'
  rw[e,j7,aa,List.getElem?_append_left (by rw[lh];omega),<-aa]
  exact this
theorem sk(f:Fr):f.cells=[.v (.string (mk f.nm)),.v (.string (mk f.ex.at)),f.ex.sp,.sl (j7 f.out)]:=by cases f;rfl
theorem Ny(e:E)(env:List Fr)(hl:env.length<1000000):∀(j k:Nat),k+j=env.length->HL [.sl (j7 env),.v (.int .i64 ((env.length:Int)-1-(k:Int)))] [.cells [.v (.string (mk e.at)),e.sp],.cells [.v (.string (mk [])),.v (.slice none 0 0)]]
 (oq (match findF e.at (env.drop k)with|some f=>(2,[.sl (j7 f.out)],[.cells [.v (.string (mk f.ex.at)),f.ex.sp]])|none=>(1,[.sl (j7 env)],[.cells [.v (.string (mk e.at)),e.sp],.cells [.v (.string (mk [])),.v (.slice none 0 0)]])))
 |
  0,k,hk=>by
  refine MJ _ _ _ _ _ _ ?_
  have hd:env.drop k=[]:=bV (by omega)
  simp only[HZ,↓zq,zs,ae,aX,hd,findF]
  exact⟨fun h=>by omega,fun _=>by first|trivial|rfl⟩
 |
  j+1,k,hk=>by
  refine MJ _ _ _ _ _ _ ?_
  have hlt:k<env.length:=by omega
  have hg:env[k]?=some env[k]:=bp hlt
  have hc:=tu env k _ hg
  have e1:((env.length:Int)-1-(k:Int))=((env.length-1-k:Nat):Int):=by omega
  have hdr:env.drop k=env[k]::env.drop (k+1):=aU hlt
  rw[hdr,findF,e1]
  simp only[HZ,bH,hc,sk,↓zq,zs,ae,zt,aX,lh,bF]
  refine⟨fun _=>⟨by omega,by omega,fun h=>⟨by omega,by omega,by omega,by omega,?_⟩,fun h=>?_⟩,fun h=>by omega⟩
  ·rw[if_pos h]
  ·rw[if_neg h]
   have e2:IntKind.wrap .i64 (((env.length-1-k:Nat):Int)-1)=(env.length:Int)-1-((k+1:Nat):Int):=by
    have:IntKind.wrap .i64 (((env.length-1-k:Nat):Int)-1)=((env.length-1-k:Nat):Int)-1:=wrap64 _ (by omega) (by omega)
    omega
   rw[e2]
   exact Ny e env hl j (k+1) (by omega)
theorem PB(e:E)(env:List Fr)(hl:env.length<1000000):an Tryz.prog 125 [e.kF,.sl (j7 env)] [] (bK (.cG [(hd e env).1.kF,.sl (j7 (hd e env).2)])):=by
 rw[dj e]
 refine Sr _ _ _ ((aX _).mpr trivial) ((cf _).mpr trivial) ?_
 simp only[IZ,↓zq,zs,ae,lh,bK]
 have h:=Ny e env hl env.length 0 (by omega)
 simp only[bf]at h
 rw[wrap64 _ (by omega) (by omega)]
 rw[show (env.length:Int)-1-((0:Nat):Int)=(env.length:Int)-1 by omega]at h
 refine fE h (fun ys o e'=>?_) (fun ys o e'=>?_)
 ·unfold hd
  cases hq:findF e.at env<;>rw[hq]at e'<;>cases e'
  simp only[↓zq,zs,ae,zt,aX,dj]
 ·unfold hd
  cases hq:findF e.at env<;>rw[hq]at e'<;>cases e'
  simp only[↓zq,zs,ae,zt,aX,dj]
theorem qs:∀env:List Fr,cB 4 (j7 env)
 |[]=>fun c hc=>by cases hc
 |
  f::r=>fun c hc=>by
  simp only[j7,aN,aR]at hc
  rcases hc with hc|rfl
  ·exact qs r c hc
  ·rw[sk];rfl
theorem Su(x a b:E)(env:List Fr)(hl:env.length<1000000):an Tryz.prog 128 [(E.list [x,a,b]).kF,.sl (j7 env)] [] (bK (.cG [b.kF,.sl (j7 (.mk a.at (.list [x,a,b]) env::env))])):=by
 refine Qm _ _ _ ((cf _).mpr trivial) ((cf _).mpr trivial) ?_
 simp only[Oe,E.bw,toNat_one,bg,↓zq,zs,ae,zt,iS,gf,i7,mz,au,lh,bK,aT]
 refine⟨by omega,⟨qs env,by omega⟩,by omega,by omega,⟨fun c hc=>(by simp at hc;rw[hc];rfl),by omega⟩,?_⟩
 simp only[j7,sk,Fr.nm,Fr.ex,Fr.out,E.at,E.sp,E.bw]
theorem CM(s:ByteArray)(e:E):bF [.str,.sl] [.v (.string s),e.sp] 0=True:=by apply eq_true;simp[bF,dX,aX]
theorem Gp{e:E}{env:List Fr}{t:Ty}(A:Ask e env t):∃e' o t',hd e env=(e',o)/\Ask e' o t'/\t'.O7=false/\hd e' o=(e',o)/\o.length<=env.length:=by
 rcases gn A.wf A.ty with⟨hb,hh⟩|⟨u,f,rfl,hh,hu⟩
 ·exact⟨e,env,t,ka hh,A,hb,ka hh,au _⟩
 ·obtain⟨x,a,b,t',hfe,hok,hx,ht',hf',hwf,hlt⟩:=oz A.wf hh
  refine⟨f.ex,f.out,t',qY hh,⟨by rw[hfe];exact hok,hwf,ht',hf'⟩,?_,?_,by omega⟩
  ·obtain⟨t1,_,_,rfl⟩:=dA hx (hfe ▸ ht');rfl
  ·rw[hfe];exact pX hwf
def vh:Vl->List UInt8
 | .l _=>[108]
 | .r _=>[114]
 | .f _=>[102]
 | .p _ _=>[112]
 |_=>[]
theorem AB(v:Vl):an Tryz.prog 86 [v.cL.kF] [] (bK (.v (.string (mk (vh v))))):=by
 cases v with
 |u=>exact zx _ _ ((bh).mpr trivial) (by simp)
 |el k=>exact zx _ _ ((bh).mpr trivial) (by simp)
 |l v=>exact vd _ _
 |r v=>exact vd _ _
 |f v=>exact vd _ _
 |p v w=>exact vd _ _
theorem Tf(v:Vl)(hv:v.ig 100):v.cL.at=(match v with| .u=>[117]| .el k=>w4 k|_=>[])/\Cl v.cL.at=(match v with| .el k=>(k:Int)|_=>-1):=by
 cases v with
 |el k=>exact⟨rfl,IF k hv⟩
 |u=>exact⟨rfl,rfl⟩
 |_=>exact⟨rfl,rfl⟩
theorem Ar(n:Nat)(hn:n<=100):∀(m:Nat) (v:Vl),v.nodes<m->v.ig 100->∀e env t,Ask e env t->env.length+v.nodes<100000->an Tryz.prog 94 [e.kF,.sl (j7 env),v.cL.kF,.v (.int .i64 (n:Int))] [] (bK (.v (.bool (eV n v (e,env)))))
 |0,v,hm,hv,e,env,t,A,hl=>by omega
 |
  m+1,v,hm,hv,e,env,t,A,hl=>by
  obtain⟨e',o,t',hhd,A',hb,hh',hlen⟩:=Gp A
  rw[um n v hhd hh',dj e,dj v.cL]
  refine RE _ _ _ _ _ _ ((aX _).mpr trivial) ((cf _).mpr trivial) ((aX _).mpr trivial) ?_
  have hf:=PB e env (by omega)
  rw[dj e,hhd]at hf
  have hvh:=AB v
  rw[dj]at hvh
  unfold Nr
  refine ai hf ?_
  simp only[dj e',↓zq,zs,ae,zt,aX,CM,bK]
  rcases fI A'.ty hb A'.cl with⟨rfl,rfl⟩|⟨rfl,rfl⟩|⟨s,rfl,rfl,hp,h0,h1⟩|⟨x,a,b,t1,t2,rfl,hx,rfl,ha,hbb⟩|⟨x,a,b,t1,t2,rfl,hx,rfl,ha,hbb⟩|⟨x,a,b,t1,rfl,hx,rfl⟩
  ·refine⟨fun _=>⟨fun h=>by simp[E.at]at h,fun _=>ai (Hx _) ?_⟩,fun h=>by simp[E.at]at h⟩
   have hp0:hD (E.atom [48]).at=false:=rfl
   have hp1:hD [48]=false:=rfl
   cases v<;>simp[↓zq,zs,ae,hp0,eV,hh',hp1]
  ·refine⟨fun _=>⟨fun _=>?_,fun h=>absurd rfl h⟩,fun h=>by simp[E.at]at h⟩
   have hp1:hD [49]=false:=rfl
   cases v<;>simp[eV,hh',hp1,Vl.cL,E.at]
  ·have hne:s≠[]:=A'.ok
   have h1':(s==[49])=false:=by simpa using h1
   refine⟨fun _=>⟨fun h=>absurd h h1,fun _=>ai (Hx _) ?_⟩,fun h=>absurd h hne⟩
   have hat:(E.atom s).at=s:=rfl
   simp only[hat,hp,↓zq,zs,ae]
   refine⟨fun _=>ai (IW _) ?_,fun h=>by cases h⟩
   simp only[↓zq,zs,ae]
   rw[wrap64 _ (by omega) (by omega)]
   refine ai (AG _ _ _) ?_
   simp only[↓zq,zs,ae,CH,(Tf v hv).2]
   cases v with
   |
    el k =>
    simp only[eV,hh',h1',hp,zf]
    congr 2
    rw[cy];simp;omega
   |_=>simp[eV,hh',h1']
  ·have hok:=A'.ok
   obtain⟨ok1,ok2,ok3,_⟩:=hok
   obtain⟨f1,f2⟩:=fq A'.cl
   refine⟨fun h=>absurd rfl h,fun _=>ai (vd x [a,b]) ?_⟩
   simp only[↓zq,zs,ae]
   refine ai hvh ?_
   rw[hx]
   cases v with
   |
    l w =>
    simp only[Vl.nodes]at hl
    simp only[vh,Vl.cL,E.sp,E.bw,toNat_one,bg,↓zq,zs,ae,zt,iS,gf,i7,mz,au]
    refine⟨by simp,fun _=>⟨by omega,by omega,ai (Ar n hn m w (by simp only[Vl.nodes]at hm;omega) hv a o t1 ⟨ok2,A'.wf,ha,f1⟩ (by omega)) ?_⟩,fun h=>absurd rfl h⟩
    simp[↓zq,zs,ae,eV,hh',hx]
   |
    r w =>
    simp only[Vl.nodes]at hl
    simp only[vh,Vl.cL,E.sp,E.bw,toNat_one,bg,↓zq,zs,ae,zt,iS,gf,i7,mz,au]
    refine⟨by simp,fun h=>by simp at h,fun _=>⟨fun _=>⟨by omega,by omega,ai (Ar n hn m w (by simp only[Vl.nodes]at hm;omega) hv b o t2 ⟨ok3,A'.wf,hbb,f2⟩ (by omega)) ?_⟩,fun h=>absurd rfl h⟩⟩
    simp[↓zq,zs,ae,eV,hh',hx]
   |_=>simp[vh,↓zq,zs,ae,zt,eV,hh',hx]
  ·have hok:=A'.ok
   obtain⟨ok1,ok2,ok3,_⟩:=hok
   obtain⟨f1,f2⟩:=eW A'.cl
   refine⟨fun h=>absurd rfl h,fun _=>ai (vd x [a,b]) ?_⟩
   simp only[↓zq,zs,ae]
   refine ai hvh ?_
   rw[hx]
   cases v with
   |
    p w z =>
    simp only[Vl.nodes]at hl
    simp only[vh,Vl.cL,E.sp,E.bw,toNat_one,bg,↓zq,zs,ae,zt,iS,gf,i7,mz,au]
    refine⟨by simp,fun h=>by simp at h,fun _=>⟨fun h=>by simp at h,fun _=>⟨fun _=>⟨by omega,by omega,ai (Ar n hn m w (by simp only[Vl.nodes]at hm;omega) hv.1 a o t1 ⟨ok2,A'.wf,ha,f1⟩ (by omega)) ?_⟩,fun h=>absurd rfl h⟩⟩⟩
    simp only[↓zq,zs,ae,eV,hh',hx]
    refine⟨fun h=>⟨by omega,by omega,ai (Ar n hn m z (by simp only[Vl.nodes]at hm;omega) hv.2 b o t2 ⟨ok3,A'.wf,hbb,f2⟩ (by omega)) ?_⟩,fun h=>?_⟩
    ·simp[↓zq,zs,ae,h]
    ·simp[h]
   |_=>simp[vh,↓zq,zs,ae,zt,eV,hh',hx]
  ·obtain⟨t1',he1,h1,f1,hw1⟩:=jw A'.wf A'.ok hx A'.ty A'.cl
   cases he1
   have hok:=A'.ok
   obtain⟨ok1,ok2,ok3,_⟩:=hok
   refine⟨fun h=>absurd rfl h,fun _=>ai (vd x [a,b]) ?_⟩
   simp only[↓zq,zs,ae]
   refine ai hvh ?_
   rw[hx]
   cases v with
   |
    f w =>
    simp only[Vl.nodes]at hl
    simp only[vh,Vl.cL,E.sp,E.bw,toNat_one,bg,↓zq,zs,ae,zt,iS,gf,i7,mz,au]
    refine⟨by simp,fun h=>by simp at h,fun _=>⟨fun h=>by simp at h,fun _=>⟨fun h=>by simp at h,fun _=>⟨fun _=>ai (Su x a b o (by omega)) ?_,fun h=>absurd rfl h⟩⟩⟩⟩
    simp only[↓zq,zs,ae,xT,CT]
    refine⟨by omega,ai (Ar n hn m w (by simp only[Vl.nodes]at hm;omega) hv b (.mk a.at (.list [x,a,b]) o::o) t1 ⟨ok3,hw1,h1,f1⟩ (by simp;omega)) ?_⟩
    simp[↓zq,zs,ae,eV,hh',hx]
   |_=>simp[vh,↓zq,zs,ae,zt,eV,hh',hx]
theorem Pu(n:Nat)(hn:n<=100)(v:Vl)(hv:v.ig 100)(e:E)(env:List Fr)(t:Ty)(A:Ask e env t)(hl:env.length+v.nodes<100000):an Tryz.prog 94 [e.kF,.sl (j7 env),v.cL.kF,.v (.int .i64 (n:Int))] [] (bK (.v (.bool (eV n v (e,env))))):=Ar n hn (v.nodes+1) v (by omega) hv e env t A hl
end Go.Proofs.Trees
namespace Go.Proofs.Trees
open Go Go.VL Go.RowKit
theorem IS(l:List (List UInt8))(a:AV)(ha:ct a l)(s:List UInt8)(hl:l.length<1000000):∀(k i:Nat),i+k=l.length->Iy [a,.v (.string (mk s)),.v (.int .i64 (i:Int))] []
 (oq (if s∈l.drop i then(2,[.v (.bool true)],[])else(1,[],[])))
 |
  0,i,hi=>by
  refine L7 _ _ _ ?_
  have hd:l.drop i=[]:=bV (by omega)
  simp only[GB,↓zq,zs,ae,hd,ha.len]
  exact⟨ha.1,ha.1,fun h=>by omega,fun _=>by simp[oq]⟩
 |
  k+1,i,hi=>by
  have hlt:i<l.length:=by omega
  have hdr:l.drop i=l.getD i []::l.drop (i+1):=by
   rw[aU hlt];simp[aa,hlt]
  refine L7 _ _ _ ?_
  simp only[GB,↓zq,zs,ae,zt,ha.len,ha.idx hlt]
  refine⟨ha.1,ha.1,fun _=>⟨⟨ha.1,by omega,by omega⟩,by omega,fun h=>?_,fun h=>?_⟩,fun h=>by omega⟩
  ·rw[hdr,h];simp[oq]
  ·rw[bA i (by omega)]
   have:=IS l a ha s hl k (i+1) (by omega)
   have e:s∈l.drop i↔s∈l.drop (i+1):=by
    rw[hdr,aK];exact⟨fun q=>q.resolve_left (fun q=>h q.symm),.inr⟩
   simp only[e];exact this
theorem FQ(l:List (List UInt8))(a:AV)(ha:ct a l)(s:List UInt8)(hl:l.length<1000000):an Tryz.prog 118 [a,.v (.string (mk s))] [] (bK (.v (.bool (decide (s∈l))))):=by
 refine Qj _ _ ha.1 ?_
 unfold K1
 refine fE (IS l a ha s hl l.length 0 (by omega)) (fun ys o e=>?_) (fun ys o e=>?_)
 ·simp only[bf]at e
  split at e<;>cases e
  rename_i h
  simp[↓zq,zs,ae,bK,h]
 ·simp only[bf]at e
  split at e<;>cases e
  rename_i h
  simp[↓zq,zs,ae,bK,h]
theorem Fi(l:List (List UInt8))(a:AV)(ha:ct a l)(s:List UInt8)(hl:l.length<1000000):an Tryz.prog 52 [a,.v (.string (mk s))] [] (df (.vec 0) [.vec 1 (bJ (l++[s]))]):=by
 refine Qz _ _ ha.1 ?_
 simp only[Mj,↓zq,zs,ae,ha.2,df,aT]
 have:(bJ l).length=l.length:=by simp[bJ]
 refine⟨⟨ha.1,ki l,by omega⟩,⟨fun c hc=>(by simp at hc;rw[hc];rfl),by omega⟩,?_⟩
 first|exact⟨rfl,by rw[EU]⟩|rw[EU]
def kp:E->List (List UInt8)->List (List UInt8)->List (List UInt8)
 | .atom s,bd,l=>if s=[48]\/s=[49]\/s∈bd\/s∈l then l else l++[s]
 | .list [x,a,b],bd,l=>if x.at=[114,101,99]then kp b (bd++[a.at]) l else kp b bd (kp a bd l)
 | .list _,_,l=>l
theorem fY:∀(e:E) (bd l:List (List UInt8)),(kp e bd l).length<=l.length+e.sz
 | .atom s,bd,l=>by rw[kp];split<;>simp[E.sz]
 | .list [],bd,l=>by simp[kp]
 | .list [_],bd,l=>by simp[kp]
 | .list [_,_],bd,l=>by simp[kp]
 | .list (_::_::_::_::_),bd,l=>by simp[kp]
 |
  .list [x,a,b],bd,l=>by
  rw[kp]
  simp only[E.sz,E.jr]
  split
  ·have:=fY b (bd++[a.at]) l;omega
  ·have:=fY a bd l
   have:=fY b bd (kp a bd l)
   omega
theorem Ed:∀(e:E) (bd l:List (List UInt8)) (a:AV),e.ok->j4 e=true->ct a bd->bd.length+l.length+e.sz<100000->an Tryz.prog 84 [e.kF,a,.vec 0] [.vec 1 (bJ l)] (df (.vec 1) [.dead,.vec 1 (bJ (kp e bd l))])
 |
  .atom s,bd,l,a,hok,hty,ha,hl=>by
  simp only[E.sz]at hl
  refine zX _ _ _ _ ((bh).mpr trivial) ha.1 ?_
  have hne:s≠[]:=hok
  have hll:(bJ l).length=l.length:=by simp[bJ]
  simp only[xz,↓zq,zs,ae,zt,df,kp]
  refine⟨fun _=>⟨fun h=>?_,fun h=>⟨fun h1=>?_,fun h1=>?_⟩⟩,fun h=>absurd h hne⟩
  ·rw[if_pos (.inl h)]
  ·rw[if_pos (.inr (.inl h1))]
  ·refine ai (FQ bd a ha s (by omega)) ?_
   simp only[↓zq,zs,ae]
   refine⟨fun h2=>?_,fun h2=>ai (FQ l _ (.of l) s (by omega)) ?_⟩
   ·rw[if_pos (.inr (.inr (.inl h2)))]
   ·simp only[↓zq,zs,ae]
    refine⟨fun h3=>?_,fun h3=>⟨⟨fun c hc=>(by simp at hc;rw[hc];rfl),by omega⟩,?_⟩⟩
    ·rw[if_pos (.inr (.inr (.inr h3)))]
    ·rw[EU,if_neg]
     rintro(q|q|q|q)
     ·exact h q
     ·exact h1 q
     ·exact h2 q
     ·exact h3 q
 | .list [],_,_,_,_,h,_,_=>by cases h
 | .list [_],_,_,_,_,h,_,_=>by cases h
 | .list [_,_],_,_,_,_,h,_,_=>by cases h
 | .list (_::_::_::_::_),_,_,_,_,h,_,_=>by cases h
 |
  .list [x,y,z],bd,l,a,hok,hty,ha,hl=>by
  simp only[E.sz,E.jr]at hl
  obtain⟨ok1,ok2,ok3,_⟩:=hok
  refine zX _ _ _ _ ((cf _).mpr trivial) ha.1 ?_
  simp only[xz,E.bw,toNat_one,bg,↓zq,zs,ae,zt,iS,gf,i7,mz,au,df]
  refine⟨fun h=>absurd rfl h,fun _=>ai (vd x [y,z]) ?_⟩
  simp only[↓zq,zs,ae,zt]
  have hyl:=fY y bd l
  rw[j4]at hty
  refine⟨fun h=>⟨by omega,by omega,by omega,aV (Fi bd a ha y.at (by omega)) ?_⟩,fun h=>⟨by omega,by omega,?_⟩⟩
  ·have hz:j4 z=true:=by
    rw[if_neg (by rw[h];decide),if_neg (by rw[h];decide),if_pos h]at hty
    simp only[aw]at hty;exact hty.2
   simp only[↓zq,zs,ae,Ob.es,aO]
   refine⟨dU _,?_⟩
   refine aV (Ed z (bd++[y.at]) l _ ok3 hz (.of _) (by simp;omega)) ?_
   simp only[↓zq,zs,ae]
   rw[kp,if_pos h]
  ·have hyz:j4 y=true/\j4 z=true:=by
    split at hty
    ·simpa using hty
    ·split at hty
     ·simpa using hty
     ·cases hty
   refine aV (Ed y bd l a ok2 hyz.1 ha (by omega)) ?_
   simp only[↓zq,zs,ae]
   refine aV (Ed z bd (kp y bd l) a ok3 hyz.2 ha (by omega)) ?_
   simp only[↓zq,zs,ae]
   rw[kp,if_neg h]
theorem km{s:List UInt8}(h:hD s=true):dk s=false:=by
 cases hq:dk s with
 |false=>rfl
 |
  true =>
  obtain⟨c,r,rfl,h1,h2⟩:=lC h
  obtain⟨c',r',he,h3,h4⟩:=lC hq
  cases he;omega
theorem mw(s:List UInt8)(ar:List (List UInt8)):∀i,i<=ar.length->(bQ s ar i=none↔s∉ar.take i)
 |0,_=>by simp[bQ]
 |
  i+1,hi=>by
  have hlt:i<ar.length:=by omega
  have e:ar.getD i []=ar[i]:=by simp[aa,hlt]
  have e2:s∈ar.take (i+1)↔s∈ar.take i\/s=ar[i]:=by
   rw[show ar.take (i+1)=ar.take i++[ar[i]] from (List.take_append_getElem hlt).symm]
   simp only[aN,aR]
  rw[bQ,e,e2]
  by_cases h:ar[i]=s
  ·rw[if_pos h]
   exact⟨fun h=>(by cases h),fun h'=>absurd (.inr h.symm) h'⟩
  ·rw[if_neg h,mw s ar i (by omega)]
   exact⟨fun h1 h2=>h2.elim h1 (fun h3=>h h3.symm),fun h1 h2=>h1 (.inl h2)⟩
theorem lB:∀(e:E) (ar l:List (List UInt8)) (t:Ty),cS e ar=some t->(∀w,w∈ar->dk w=true)->(kp e ar l).any dk=(l.any dk||cc t)
 |
  .atom s,ar,l,t,h,har=>by
  simp only[cS]at h
  rw[kp]
  split at h
  ·rename_i h0;cases h;rw[if_pos (.inl h0)];simp[cc]
  ·rename_i h0
   split at h
   ·rename_i h1;cases h;rw[if_pos (.inr (.inl h1))];simp[cc]
   ·rename_i h1
    split at h
    ·rename_i h2
     cases h
     have hn:=km h2
     simp only[cc,hn]
     split
     ·simp
     ·simp[hn]
    ·split at h
     ·rename_i h2 h3
      have hlo:=mw s ar ar.length (au _)
      rw[List.take_length]at hlo
      cases hq:bQ s ar ar.length with
      |
       some u =>
       rw[hq]at h;cases h
       have hm:s∈ar:=Classical.byContradiction fun hm=>by rw[hlo.2 hm]at hq;cases hq
       rw[if_pos (.inr (.inr (.inl hm)))];simp[cc]
      |
       none =>
       rw[hq]at h;cases h
       have hm:=hlo.1 hq
       simp only[cc,h3,Bool.or_true]
       split
       ·rename_i hh
        rcases hh with q|q|q|q
        ·exact absurd q h0
        ·exact absurd q h1
        ·exact absurd q hm
        ·rw[cr];exact⟨s,q,h3⟩
       ·simp[h3]
     ·cases h
 | .list [],_,_,_,h,_=>by cases h
 | .list [_],_,_,_,h,_=>by cases h
 | .list [_,_],_,_,_,h,_=>by cases h
 | .list (_::_::_::_::_),_,_,_,h,_=>by cases h
 |
  .list [x,a,b],ar,l,t,h,har=>by
  rw[kp]
  by_cases h0:x.at=[43]
  ·obtain⟨t1,t2,e1,e2,rfl⟩:=fN h0 h
   rw[if_neg (by rw[h0];decide),lB b ar _ t2 e2 har,lB a ar l t1 e1 har,cc,Bool.or_assoc]
  ·by_cases h1:x.at=[42]
   ·obtain⟨t1,t2,e1,e2,rfl⟩:=fh h1 h
    rw[if_neg (by rw[h1];decide),lB b ar _ t2 e2 har,lB a ar l t1 e1 har,cc,Bool.or_assoc]
   ·by_cases h2:x.at=[114,101,99]
    ·obtain⟨t1,hl,e1,rfl⟩:=dA h2 h
     rw[if_pos h2,lB b _ l t1 e1 (fun w hw=>by
      simp only[aN,aR]at hw
      rcases hw with hw|rfl
      ·exact har w hw
      ·exact hl),cc]
    ·rw[je _ h0 h1 h2]at h;cases h
def jI(s:List UInt8):Option E:=match wE s with
 |none=>none
 |some e=>if(kp e [] []).any dk=true then none else some e
theorem BN{s:List UInt8}:w8 s=match jI s with|none=>none|some e=>cS e []:=by
 unfold w8 jI
 rw[uN]
 cases he:wE s with
 |none=>rfl
 |
  some e =>
  obtain⟨h1,h2,h3⟩:=pB he
  have hs:=iU e []
  rw[h2]at hs
  obtain⟨t,ht⟩:=bU.1 hs
  have ha:=lB e [] [] t ht (fun w hw=>by cases hw)
  simp only[ht,sL,ha,List.any_nil,Bool.false_or]
  cases hf:cc t<;>simp[ht]
theorem gZ{s:List UInt8}{e:E}(h:jI s=some e):∃t,w8 s=some t/\Ask e [] t/\j4 e=true/\e.sz<=8000/\t.atoms<=400/\qU s=some e:=by
 have h0:=h
 unfold jI at h
 split at h
 ·cases h
 ·rename_i e' he
  split at h
  ·cases h
  ·rename_i hn
   cases h
   obtain⟨h1,h2,h3⟩:=pB he
   obtain⟨hok,hsz⟩:=nO h1
   have hs:=iU e []
   rw[h2]at hs
   obtain⟨t,ht⟩:=bU.1 hs
   have ha:=lB e [] [] t ht (fun w hw=>by cases hw)
   rw[ha]at hn
   refine⟨t,by rw[BN,h0];exact ht,⟨hok,.nil,ht,by simpa using hn⟩,h2,hsz,?_,h1⟩
   rw[<-jZ e [] t ht];exact h3
theorem nj{s:List UInt8}(h:jI s=none):w8 s=none:=by rw[BN,h]
theorem Oo(e:E)(l:List (List UInt8))(hl:l.length<1000000):∀(k i:Nat),i+k=l.length->Fh [.v (.int .i64 (i:Int))] [.cells [.v (.string (mk [])),.v (.slice none 0 0)],.cells [.v (.string (mk e.at)),e.sp],.vec 1 (bJ l)]
 (oq (if(l.drop i).any dk=true then(2,[.v (.bool false)],[.cells [.v (.string (mk e.at)),e.sp]])else(1,[],[.cells [.v (.string (mk [])),.v (.slice none 0 0)],.cells [.v (.string (mk e.at)),e.sp]])))
 |
  0,i,hi=>by
  refine N1 _ _ _ _ _ _ ?_
  have hd:l.drop i=[]:=bV (by omega)
  have hll:(bJ l).length=l.length:=by simp[bJ]
  simp only[FH,↓zq,zs,ae,hd,hll,aX]
  exact⟨fun h=>by omega,fun _=>by simp[oq]⟩
 |
  k+1,i,hi=>by
  have hlt:i<l.length:=by omega
  have hll:(bJ l).length=l.length:=by simp[bJ]
  have hdr:l.drop i=l.getD i []::l.drop (i+1):=by
   rw[aU hlt];simp[aa,hlt]
  have hg:=(ct.of l).idx hlt
  simp only[fG]at hg
  refine N1 _ _ _ _ _ _ ?_
  simp only[FH,↓zq,zs,ae,zt,hll,hg,aX]
  refine⟨fun _=>⟨by omega,by omega,ai (HV _) ?_⟩,fun h=>by omega⟩
  simp only[↓zq,zs,ae,hdr,List.any_cons]
  refine⟨fun h=>?_,fun h=>?_⟩
  ·rw[h];simp[oq]
  ·rw[h,bA i (by omega)]
   simp only[Bool.false_or]
   exact Oo e l hl k (i+1) (by omega)
theorem F9(s:List UInt8):an Tryz.prog 61 [.v (.string (mk s))] [] (jH (jI s) (jI s).isSome):=by
 refine PM _ ?_
 unfold Oa
 refine aP (G8 s) (jH.ne _ _ (fun h=>h)) ?_
 rintro r o ⟨c,d,hd,rfl,hh⟩
 have hhas:bF [.str,.sl] [.v (.string (mk c)),d] 0:=by simp[bF,dX,hd]
 simp only[↓zq,zs,ae,zt]
 refine⟨hhas,fun h=>?_,fun h=>?_⟩
 ·have hn:wE s=none:=by cases hq:wE s<;>simp[hq]at h |-
  unfold jI
  rw[hn]
  exact⟨c,d,hd,rfl,fun h=>by cases h⟩
 ·obtain⟨e,he,hce⟩:=hh h
  obtain⟨h1,h2,h3⟩:=pB he
  obtain⟨hok,hsz⟩:=nO h1
  have hce':=hce
  rw[dj]at hce'
  simp only[AV.agg.injEq,List.cons.injEq,AV.v.injEq,Value.string.injEq,and_true]at hce'
  obtain⟨hc1,rfl⟩:=hce'
  have hc2:=mk_inj hc1
  subst hc2
  rw[<-dj]
  refine aV (Ed e [] [] _ hok h2 (.of []) (by simp;omega)) ?_
  have hfl:=fY e [] []
  simp only[↓zq,zs,ae]
  have hLS:=Oo e (kp e [] []) (by simp at hfl;omega) (kp e [] []).length 0 (by omega)
  simp only[bf]at hLS
  unfold jI
  rw[he]
  refine fE hLS (fun ys o e'=>?_) (fun ys o e'=>?_)
  ·split at e'<;>cases e'
   rename_i hn
   simp only[↓zq,zs,ae,aX,if_neg hn]
   exact⟨e.at,e.sp,hd,rfl,fun _=>⟨e,rfl,(dj e).symm⟩⟩
  ·split at e'<;>cases e'
   rename_i hn
   simp only[↓zq,zs,ae,aX,if_pos hn]
   exact⟨e.at,e.sp,hd,rfl,fun h=>by cases h⟩
def m9(s v:List UInt8)(n:Int):Option Vl:=match jI s,sw v with
 |some e,some w=>if(0<=n/\n<=100)/\eV n.toNat w (e,[])=true then some w else none
 |_,_=>none
theorem oG{s v:List UInt8}{n:Int}{w:Vl}(h:m9 s v n=some w):∃e t m,jI s=some e/\sw v=some w/\w8 s=some t/\Ask e [] t/\n=(m:Nat)/\m<=100/\eV m w (e,[])=true:=by
 unfold m9 at h
 split at h
 ·rename_i e w' he hw
  split at h
  ·rename_i hh
   cases h
   obtain⟨t,h1,h2,_⟩:=gZ he
   exact⟨e,t,n.toNat,he,hw,h1,h2,by omega,by omega,hh.2⟩
  ·cases h
 ·cases h
theorem L3(s v:List UInt8)(n:Int):an Tryz.prog 71 [.v (.string (mk s)),.v (.string (mk v)),.v (.int .i64 n)] [] (bK (.cG [ic (w8 s),jv (m9 s v n)])):=by
 refine SM _ _ _ ?_
 unfold Ml
 refine ai (I5 s) ?_
 simp only[↓zq,zs,ae,il]
 refine ai (QV v) ?_
 simp only[↓zq,zs,ae,gq,bK]
 unfold m9
 cases he:jI s with
 |none=>rw[nj he];cases sw v<;>simp[ic,jv,↓zq,zs,ae]
 |
  some e =>
  obtain⟨t,h1,h2,h3,h4,h5,_⟩:=gZ he
  rw[h1]
  cases hv:sw v with
  |none=>simp only[ic,jv,aE,fP,↓zq,zs,ae];exact⟨fun h=>(by cases h),fun _=>⟨fun _=>trivial,fun h=>(by cases h)⟩⟩
  |
   some w =>
   obtain⟨h6,h7,h8⟩:=lW hv
   simp only[ic,jv,aE,fP,aM,fy,↓zq,zs,ae]
   refine⟨fun h=>(by cases h),fun _=>⟨fun h=>(by cases h),fun _=>⟨fun h=>?_,fun h=>⟨fun h'=>?_,fun h'=>?_⟩⟩⟩⟩
   ·rw[if_neg (by omega)]
   ·rw[if_neg (by omega)]
   ·obtain⟨m,rfl⟩:∃m:Nat,n=(m:Int):=⟨n.toNat,by omega⟩
    have hi:=OM m (by omega) (w.nodes+1) w (by omega) h7 e [] t h2 (by simp;omega)
    unfold qk at hi
    refine ai hi ?_
    simp only[↓zq,zs,ae,bH]
    refine⟨fun hq=>?_,fun hq=>?_⟩
    ·rw[if_neg (by rw[hq];simp)]
    ·rw[if_pos ⟨by omega,hq⟩]
theorem zU(s v:List UInt8)(n:Int):an Tryz.prog 68 [.v (.string (mk s)),.v (.string (mk v)),.v (.int .i64 n)] [] (bK (.v (.bool (m9 s v n).isSome))):=by
 refine SR _ _ _ ?_
 unfold Kz
 refine aP (F9 s) (jH.ne _ _ (fun h=>h)) ?_
 rintro r o ⟨c,d,hd,rfl,hh⟩
 have hhas:bF [.str,.sl] [.v (.string (mk c)),d] 0:=by simp[bF,dX,hd]
 simp only[↓zq,zs,ae,zt]
 refine⟨hhas,?_⟩
 refine aP (D4 v) (jH.ne _ _ (fun h=>by cases hq:sw v<;>simp[hq]at h |-)) ?_
 rintro r o ⟨c',d',hd',rfl,hh'⟩
 have hhas':bF [.str,.sl] [.v (.string (mk c')),d'] 0:=by simp[bF,dX,hd']
 simp only[↓zq,zs,ae,zt,bK]
 refine⟨hhas',fun h=>⟨fun h2=>?_,fun h2=>?_⟩,fun h=>?_⟩
 ·obtain⟨e,he,hce⟩:=hh h
  obtain⟨t,h1,hA,h3,h4,h5,_⟩:=gZ he
  obtain⟨w,hw⟩:=bU.1 h2
  obtain⟨e2,he2,hce2⟩:=hh' h2
  rw[hw]at he2
  cases he2
  obtain⟨h6,h7,h8⟩:=lW hw
  refine ai (AG _ _ _) ?_
  simp only[↓zq,zs,ae,CH,m9,he,hw]
  refine⟨fun hq=>?_,fun hq=>?_⟩
  ·have hq':0<=n/\n<=100:=by simpa using hq
   obtain⟨m,rfl⟩:∃m:Nat,n=(m:Int):=⟨n.toNat,by omega⟩
   rw[hce,hce2]
   have:=Pu m (by omega) w h7 e [] t hA (by simp;omega)
   rw[show j7 []=[] from rfl]at this
   refine ai this ?_
   simp only[↓zq,zs,ae,bH]
   by_cases hb:eV m w (e,[])=true
   ·rw[if_pos ⟨hq',hb⟩,hb];rfl
   ·rw[if_neg (fun h=>hb h.2)]
    rw[Bool.not_eq_true]at hb
    rw[hb];rfl
  ·have hq':¬(0<=n/\n<=100):=by simpa using hq
   rw[if_neg (fun h=>hq' h.1)];rfl
 ·have hn:sw v=none:=by cases hq:sw v<;>simp[hq]at h2 |-
  unfold m9
  rw[hn];cases jI s<;>rfl
 ·have hn:jI s=none:=by cases hq:jI s<;>simp[hq]at h |-
  unfold m9
  rw[hn];rfl
end Go.Proofs.Trees
namespace Go.Proofs.Trees
open Go Go.VL Go.RowKit
inductive Tg where
 |nm (s:List UInt8)
 |bd (k:Nat)
 deriving DecidableEq
def Tg.up:Tg->Tg
 | .nm s=>.nm s
 | .bd k=>.bd (k+1)
def eE:Ty->Tg->Bool
 | .name s,.nm s'=>decide (s=s')
 | .bound u,.bd k=>decide (u=k)
 |_,_=>false
abbrev Hl:=Vl×Vl
def iI(g:Vl->Vl)(l:List Hl):List Hl:=l.map fun h=>(g h.1,h.2)
def iT(f:Ty->Tg->Vl->List Hl)(tg:Tg):Ty->Vl->List Hl
 | .plus a _,.l w=>iI .l (f a tg w)
 | .plus _ b,.r w=>iI .r (f b tg w)
 | .times a b,.p x y=>iI (fun c=>.l (.p c y)) (f a tg x)++iI (fun c=>.r (.p x c)) (f b tg y)
 | .rc a,.f w=>iI (fun c=>.f (.l c)) (f a tg.up w)++(f a (.bd 0) w).flatMap fun h=>iI (fun c=>.f (.r (.p h.1 c))) (f (.rc a) tg h.2)
 |_,_=>[]
def dC:Nat->Ty->Tg->Vl->List Hl
 |0,_,_,_=>[]
 |n+1,t,tg,v=>if eE t tg=true then [(.u,v)]else iT (dC n) tg t v
def stuck:Ty->Vl->Bool
 | .plus _ _,.l _=>false
 | .plus _ _,.r _=>false
 | .times _ _,.p _ _=>false
 | .rc _,.f _=>false
 |_,_=>true
def cm(t:Ty)(tg:Tg)(v:Vl):List Hl:=dC v.nodes t tg v
theorem cY{g:Vl->Vl}{l:List Hl}{h:Hl}(hm:h∈iI g l):∃k,k∈l/\h=(g k.1,k.2):=by
 obtain⟨k,h1,h2⟩:=bO.1 hm
 exact⟨k,h1,h2.symm⟩
theorem iQ{f g:Hl->List Hl}:∀{l:List Hl},(∀h,h∈l->f h=g h)->l.flatMap f=l.flatMap g
 |[],_=>rfl
 |h::l,hl=>by rw[List.flatMap_cons,List.flatMap_cons,hl h ak,iQ (l:=l) fun k hk=>hl k (al _ hk)]
theorem fg:∀(n:Nat) (t:Ty) (tg:Tg) (v:Vl) (h:Hl),h∈dC n t tg v->h.2.nodes<=v.nodes/\h.1.nodes+4*h.2.nodes<=4*v.nodes+1
 |0,t,tg,v,h,hm=>by simp[dC]at hm
 |
  n+1,t,tg,v,h,hm=>by
  unfold dC at hm
  split at hm
  ·simp only[aR]at hm
   subst hm
   simp only[Vl.nodes];omega
  ·unfold iT at hm
   split at hm
   ·obtain⟨k,h1,rfl⟩:=cY hm
    have:=fg n _ _ _ k h1
    simp only[Vl.nodes];omega
   ·obtain⟨k,h1,rfl⟩:=cY hm
    have:=fg n _ _ _ k h1
    simp only[Vl.nodes];omega
   ·rcases aN.1 hm with hm|hm
    ·obtain⟨k,h1,rfl⟩:=cY hm
     have:=fg n _ _ _ k h1
     simp only[Vl.nodes];omega
    ·obtain⟨k,h1,rfl⟩:=cY hm
     have:=fg n _ _ _ k h1
     simp only[Vl.nodes];omega
   ·rcases aN.1 hm with hm|hm
    ·obtain⟨k,h1,rfl⟩:=cY hm
     have:=fg n _ _ _ k h1
     simp only[Vl.nodes];omega
    ·obtain⟨k,h1,h2⟩:=List.mem_flatMap.1 hm
     obtain⟨k2,h3,rfl⟩:=cY h2
     have:=fg n _ _ _ k h1
     have:=fg n _ _ _ k2 h3
     simp only[Vl.nodes];omega
   ·simp at hm
theorem gO:∀(n m:Nat) (t:Ty) (tg:Tg) (v:Vl),v.nodes<=n->v.nodes<=m->dC n t tg v=dC m t tg v
 |0,m,t,tg,v,h,_=>by have:=du v;omega
 |n+1,0,t,tg,v,_,h=>by have:=du v;omega
 |
  n+1,m+1,t,tg,v,hn,hm=>by
  rw[dC,dC]
  split
  ·rfl
  ·unfold iT
   split
   ·simp only[Vl.nodes]at hn hm;rw[gO n m _ _ _ (by omega) (by omega)]
   ·simp only[Vl.nodes]at hn hm;rw[gO n m _ _ _ (by omega) (by omega)]
   ·simp only[Vl.nodes]at hn hm;rw[gO n m _ _ _ (by omega) (by omega),gO n m _ _ _ (by omega) (by omega)]
   ·rename_i a w
    simp only[Vl.nodes]at hn hm;rw[gO n m _ _ _ (by omega) (by omega),gO n m _ (.bd 0) _ (by omega) (by omega)]
    congr 1
    apply iQ
    intro h hh
    have:=(fg _ _ _ _ _ hh).1
    rw[gO n m _ _ _ (by omega) (by omega)]
   ·rfl
theorem oK{n:Nat}(t:Ty)(tg:Tg){v:Vl}(h:v.nodes<=n):dC n t tg v=cm t tg v:=gO _ _ _ _ _ h (au _)
theorem mS{t:Ty}{tg:Tg}(v:Vl)(h:eE t tg=true):cm t tg v=[(.u,v)]:=by
 have:=du v
 unfold cm
 cases e:v.nodes with
 |zero=>omega
 |succ n=>rw[dC,if_pos h]
theorem mZ(a b:Ty)(tg:Tg)(w:Vl):cm (.plus a b) tg (.l w)=iI .l (cm a tg w):=by
 unfold cm;rw[show (Vl.l w).nodes=w.nodes+1 by simp[Vl.nodes];omega,dC,if_neg (by simp[eE])];rfl
theorem mY(a b:Ty)(tg:Tg)(w:Vl):cm (.plus a b) tg (.r w)=iI .r (cm b tg w):=by
 unfold cm;rw[show (Vl.r w).nodes=w.nodes+1 by simp[Vl.nodes];omega,dC,if_neg (by simp[eE])];rfl
theorem mX(a b:Ty)(tg:Tg)(x y:Vl):cm (.times a b) tg (.p x y)=iI (fun c=>.l (.p c y)) (cm a tg x)++iI (fun c=>.r (.p x c)) (cm b tg y):=by
 rw[cm,show (Vl.p x y).nodes=(x.nodes+y.nodes)+1 by simp[Vl.nodes];omega,dC,if_neg (by simp[eE])]
 rw[iT,oK a tg (by omega),oK b tg (by omega)]
theorem nn(a:Ty)(tg:Tg)(w:Vl):cm (.rc a) tg (.f w)=iI (fun c=>.f (.l c)) (cm a tg.up w)++(cm a (.bd 0) w).flatMap fun h=>iI (fun c=>.f (.r (.p h.1 c))) (cm (.rc a) tg h.2):=by
 rw[cm,show (Vl.f w).nodes=w.nodes+1 by simp[Vl.nodes];omega,dC,if_neg (by simp[eE])]
 rw[iT,oK a tg.up (au _),oK a (.bd 0) (au _)]
 congr 1
 apply iQ
 intro h hh
 have:=(fg _ _ _ _ _ hh).1
 rw[oK (.rc a) tg this]
theorem dS{t:Ty}{tg:Tg}{v:Vl}(h:eE t tg=false)(h2:stuck t v=true):cm t tg v=[]:=by
 unfold cm
 cases e:v.nodes with
 |zero=>rfl
 |
  succ n =>
  rw[dC,if_neg (by rw[h];simp)]
  unfold iT
  split<;>first|(simp[stuck]at h2;done)|rfl
theorem iE{t:Ty}{tg:Tg}{v:Vl}{h:Hl}(hm:h∈cm t tg v):h.2.nodes<=v.nodes/\h.1.nodes+4*h.2.nodes<=4*v.nodes+1:=fg _ _ _ _ _ hm
theorem gS(n:Nat):∀(m:Nat) (t:Ty) (tg:Tg) (v:Vl) (h:Hl),v.ig n->h∈dC m t tg v->h.1.ig n/\h.2.ig n
 |0,t,tg,v,h,hv,hm=>by simp[dC]at hm
 |
  m+1,t,tg,v,h,hv,hm=>by
  unfold dC at hm
  split at hm
  ·simp only[aR]at hm
   subst hm
   exact⟨trivial,hv⟩
  ·unfold iT at hm
   split at hm
   ·obtain⟨k,h1,rfl⟩:=cY hm
    exact(fun q=>gS n m _ _ _ k q h1) hv
   ·obtain⟨k,h1,rfl⟩:=cY hm
    exact(fun q=>gS n m _ _ _ k q h1) hv
   ·rcases aN.1 hm with hm|hm
    ·obtain⟨k,h1,rfl⟩:=cY hm
     obtain⟨q1,q2⟩:=gS n m _ _ _ k hv.1 h1
     exact⟨⟨q1,hv.2⟩,q2⟩
    ·obtain⟨k,h1,rfl⟩:=cY hm
     obtain⟨q1,q2⟩:=gS n m _ _ _ k hv.2 h1
     exact⟨⟨hv.1,q1⟩,q2⟩
   ·rcases aN.1 hm with hm|hm
    ·obtain⟨k,h1,rfl⟩:=cY hm
     exact(fun q=>gS n m _ _ _ k q h1) hv
    ·obtain⟨k,h1,h2⟩:=List.mem_flatMap.1 hm
     obtain⟨k2,h3,rfl⟩:=cY h2
     obtain⟨q1,q2⟩:=(fun q=>gS n m _ _ _ k q h1) hv
     obtain⟨q3,q4⟩:=gS n m _ _ _ k2 q2 h3
     exact⟨⟨q1,q3⟩,q4⟩
   ·simp at hm
def k8(l:List Hl):Nat:=(l.map fun h=>h.2.nodes).sum
theorem rR(l r:List Hl):k8 (l++r)=k8 l+k8 r:=by simp[k8]
theorem og(g:Vl->Vl)(l:List Hl):k8 (iI g l)=k8 l:=by simp[k8,iI,Function.comp_def]
def kE(f:Tg->Nat)(T:List Tg):Nat:=(T.map f).sum
theorem oL(f g:Tg->Nat):∀T:List Tg,kE (fun x=>f x+g x) T=kE f T+kE g T
 |[]=>rfl
 |x::T=>by have:=oL f g T;simp only[kE,bE,List.sum_cons]at this |-;omega
theorem yW{f g:Tg->Nat}:∀{T:List Tg},(∀x,x∈T->f x<=g x)->kE f T<=kE g T
 |[],_=>au _
 |
  x::T,h=>by
  have:=yW (T:=T) fun y hy=>h y (al _ hy)
  have:=h x ak
  simp only[kE,bE,List.sum_cons]at *;omega
theorem pR{f:Tg->Nat}:∀{T:List Tg},(∀x,x∈T->f x=0)->kE f T=0
 |[],_=>rfl
 |
  x::T,h=>by
  have:=pR (T:=T) fun y hy=>h y (al _ hy)
  have:=h x ak
  simp only[kE,bE,List.sum_cons]at *;omega
theorem sJ(g:Hl->Tg->Nat)(T:List Tg):∀l:List Hl,kE (fun x=>(l.map fun h=>g h x).sum) T=(l.map fun h=>kE (g h) T).sum
 |[]=>pR fun _ _=>rfl
 |
  h::l=>by
  have:=sJ g T l
  simp only[bE,List.sum_cons]
  rw[oL,this]
theorem tv(f:Hl->List Hl):∀l:List Hl,k8 (l.flatMap f)=(l.map fun h=>k8 (f h)).sum
 |[]=>rfl
 |h::l=>by rw[List.flatMap_cons,rR,tv f l];simp
theorem AN{f g:Hl->Nat}:∀{l:List Hl},(∀x,x∈l->f x<=g x)->(l.map f).sum<=(l.map g).sum
 |[],_=>au _
 |
  x::l,h=>by
  have:=AN (l:=l) fun y hy=>h y (al _ hy)
  have:=h x ak
  simp only[bE,List.sum_cons]at *;omega
theorem Cs{t:Ty}{x y:Tg}(h:eE t x=true)(h':eE t y=true):x=y:=by
 cases t<;>cases x<;>cases y<;>simp[eE]at h h'<;>simp_all
theorem zl{t:Ty}(n:Nat):∀{T:List Tg},T.Nodup->kE (fun x=>if eE t x=true then n else 0) T<=n
 |[],_=>dO _
 |
  x::T,h=>by
  obtain⟨h1,h2⟩:=List.nodup_cons.1 h
  have ih:=zl (t:=t) n h2
  by_cases hx:eE t x=true
  ·have:kE (fun x=>if eE t x=true then n else 0) T=0:=pR fun y hy=>by
    rw[if_neg fun hy'=>h1 (by rw[Cs hx hy'];exact hy)]
   simp only[kE,bE,List.sum_cons]at *
   rw[if_pos hx];omega
  ·simp only[kE,bE,List.sum_cons]at *
   rw[if_neg hx];omega
theorem AS{T:List Tg}(h:T.Nodup):(Tg.bd 0::T.map Tg.up).Nodup:=by
 refine List.nodup_cons.2 ⟨fun hm=>?_,?_⟩
 ·obtain⟨x,_,e⟩:=bO.1 hm
  cases x<;>simp[Tg.up]at e
 ·refine List.Pairwise.map _ (fun a b hab e=>hab ?_) h
  cases a<;>cases b<;>simp[Tg.up]at e<;>simp_all
theorem apart:∀(n:Nat) (v:Vl),v.nodes<=n->∀(t:Ty) (T:List Tg),T.Nodup->kE (fun x=>k8 (cm t x v)) T<=v.nodes
 |0,v,h=>by have:=du v;omega
 |
  n+1,v,hn=>by
  intro t T hT
  have base:∀(hno:∀x,eE t x=false->cm t x v=[]),kE (fun x=>k8 (cm t x v)) T<=v.nodes:=fun hno=>by
   refine Nat.le_trans (yW fun x _=>?_) (zl (t:=t) v.nodes hT)
   cases e:eE t x with
   |true=>rw[mS v e];simp[k8]
   |false=>rw[hno x e];simp[k8]
  cases hm:stuck t v with
  |true=>exact base fun x hx=>dS hx hm
  |
   false =>
   unfold stuck at hm
   split at hm
   ·rename_i a b w
    simp only[Vl.nodes]at hn |-
    simp only[mZ,og]
    have:=apart n w (by omega) a T hT
    omega
   ·rename_i a b w
    simp only[Vl.nodes]at hn |-
    simp only[mY,og]
    have:=apart n w (by omega) b T hT
    omega
   ·rename_i a b x y
    simp only[Vl.nodes]at hn |-
    simp only[mX,rR,og]
    rw[oL]
    have:=apart n x (by omega) a T hT
    have:=apart n y (by omega) b T hT
    omega
   ·rename_i a w
    simp only[Vl.nodes]at hn |-
    simp only[nn,rR,og,tv]
    rw[oL,sJ]
    have h1:=apart n w (by omega) a _ (AS hT)
    simp only[kE,bE,List.sum_cons,List.map_map]at h1
    have h2:((cm a (.bd 0) w).map fun h=>kE (fun x=>k8 (cm (.rc a) x h.2)) T).sum<=k8 (cm a (.bd 0) w):=AN fun h hh=>by
     have:=(iE hh).1
     exact apart n h.2 (by omega) (.rc a) T hT
    simp only[kE,Function.comp_def]at h1 h2 |-
    omega
   ·cases hm
theorem rW(t:Ty)(tg:Tg)(v:Vl):k8 (cm t tg v)<=v.nodes:=by
 have:=apart v.nodes v (au _) t [tg] (by simp)
 simpa[kE]using this
theorem kY:∀l:List Hl,l.length<=k8 l
 |[]=>dO _
 |
  h::l=>by
  have:=kY l
  have:=du h.2
  simp only[k8,bE,List.sum_cons,aA]at *;omega
theorem nq(t:Ty)(tg:Tg)(v:Vl):(cm t tg v).length<=v.nodes:=Nat.le_trans (kY _) (rW t tg v)
end Go.Proofs.Trees
namespace Go.Proofs.Trees
open Go Go.VL Go.RowKit
def gj(ar:List (List UInt8))(k:Nat):List UInt8:=ar.getD (ar.length-1-k) []
theorem fJ{s:List UInt8}{ar:List (List UInt8)}:∀(i u:Nat),i<=ar.length->bQ s ar i=some u->u<ar.length/\gj ar u=s
 |0,u,_,h=>by cases h
 |
  i+1,u,hi,h=>by
  rw[bQ]at h
  split at h
  ·rename_i e
   cases h
   refine⟨by omega,?_⟩
   rw[gj,show ar.length-1-(ar.length-1-i)=i by omega];exact e
  ·exact fJ i u (by omega) h
def u7:Ty->Tg->Bool
 | .plus a b,tg=>u7 a tg||u7 b tg
 | .times a b,tg=>u7 a tg||u7 b tg
 | .rc a,tg=>u7 a tg.up
 |t,tg=>eE t tg
theorem iP:∀(n:Nat) (v:Vl),v.nodes<=n->∀(t:Ty) (tg:Tg),u7 t tg=false->cm t tg v=[]
 |0,v,h=>by have:=du v;omega
 |
  n+1,v,hn=>by
  intro t tg ho
  cases hm:stuck t v with
  |
   true =>
   refine dS ?_ hm
   cases t<;>first|exact ho|rfl
  |
   false =>
   unfold stuck at hm
   split at hm
   ·simp only[Vl.nodes]at hn
    simp only[u7,cj]at ho
    rw[mZ,iP n _ (by omega) _ _ ho.1];rfl
   ·simp only[Vl.nodes]at hn
    simp only[u7,cj]at ho
    rw[mY,iP n _ (by omega) _ _ ho.2];rfl
   ·simp only[Vl.nodes]at hn
    simp only[u7,cj]at ho
    rw[mX,iP n _ (by omega) _ _ ho.1,iP n _ (by omega) _ _ ho.2];rfl
   ·rename_i a w
    simp only[Vl.nodes]at hn
    have ho':u7 a tg.up=false:=ho
    rw[nn,iP n _ (by omega) _ _ ho']
    have:(cm a (.bd 0) w).flatMap (fun h=>iI (fun c=>.f (.r (.p h.1 c))) (cm (.rc a) tg h.2))=(cm a (.bd 0) w).flatMap (fun _=>[]):=iQ fun h hh=>by
     have:=(iE hh).1
     rw[iP n h.2 (by omega) (.rc a) tg ho];rfl
    rw[this]
    induction cm a (.bd 0) w<;>simp_all[iI]
   ·cases hm
theorem kJ:∀(e:E) (ar:List (List UInt8)) (t:Ty) (k:Nat),cS e ar=some t->u7 t (.bd k)=true->k<ar.length/\bQ (gj ar k) ar ar.length=some k
 |
  .atom s,ar,t,k,ht,ho=>by
  simp only[cS]at ht
  split at ht
  ·cases ht;cases ho
  ·split at ht
   ·cases ht;cases ho
   ·split at ht
    ·cases ht;cases ho
    ·split at ht
     ·split at ht
      ·rename_i u hu
       cases ht
       have:u=k:=by simpa[u7,eE]using ho
       subst this
       obtain⟨h1,h2⟩:=fJ _ _ (au _) hu
       exact⟨h1,by rw[h2];exact hu⟩
      ·cases ht;cases ho
     ·cases ht
 |
  .list [x,a,b],ar,t,k,ht,ho=>by
  by_cases h0:x.at=[43]
  ·obtain⟨t1,t2,h1,h2,rfl⟩:=fN h0 ht
   simp only[u7,bC]at ho
   rcases ho with ho|ho
   ·exact kJ a ar t1 k h1 ho
   ·exact kJ b ar t2 k h2 ho
  ·by_cases h1:x.at=[42]
   ·obtain⟨t1,t2,h1,h2,rfl⟩:=fh h1 ht
    simp only[u7,bC]at ho
    rcases ho with ho|ho
    ·exact kJ a ar t1 k h1 ho
    ·exact kJ b ar t2 k h2 ho
   ·by_cases h2:x.at=[114,101,99]
    ·obtain⟨t1,_,h3,rfl⟩:=dA h2 ht
     obtain⟨q1,q2⟩:=kJ b (ar++[a.at]) t1 (k+1) h3 ho
     simp only[aq,aA,aG]at q1
     have hk:k<ar.length:=by omega
     have e:gj (ar++[a.at]) (k+1)=gj ar k:=by
      unfold gj
      rw[aq,show ar.length+[a.at].length-1-(k+1)=ar.length-1-k by simp;omega]
      simp[aa,List.getElem?_append_left (show ar.length-1-k<ar.length by omega)]
     rw[e]at q2
     refine⟨hk,?_⟩
     have e2:(ar++[a.at]).length=ar.length+1:=by simp
     rw[e2,bQ]at q2
     split at q2
     ·rw[e2]at q2;simp at q2
     ·rw[kl _ _ _ _ (au _)]at q2
      cases hq:bQ (gj ar k) ar ar.length with
      |none=>rw[hq]at q2;cases q2
      |some u=>rw[hq]at q2;simpa using q2
    ·rw[je _ h0 h1 h2]at ht;cases ht
 | .list [],ar,t,k,ht,ho=>by cases ht
 | .list [_],ar,t,k,ht,ho=>by cases ht
 | .list [_,_],ar,t,k,ht,ho=>by cases ht
 | .list (_::_::_::_::_),ar,t,k,ht,ho=>by cases ht
theorem fm(w:List UInt8)(ar:List (List UInt8)):bQ w (ar++[w]) (ar++[w]).length=some 0:=by
 have e2:(ar++[w]).length=ar.length+1:=by simp
 rw[e2,bQ,if_pos (by simp[aa]),e2];simp
theorem jE{s w:List UInt8}(ar:List (List UInt8))(h:w≠s):bQ s (ar++[w]) (ar++[w]).length=(bQ s ar ar.length).map (·+1):=by
 have e2:(ar++[w]).length=ar.length+1:=by simp
 rw[e2,bQ,if_neg (by simpa[aa]using h),kl _ _ _ _ (au _)]
theorem FW{b:E}{ar:List (List UInt8)}{w:List UInt8}{t:Ty}{k:Nat}(hb:cS b (ar++[w])=some t)(hk:bQ w ar ar.length=some k):u7 t (.bd (k+1))=false:=by
 cases h:u7 t (.bd (k+1))with
 |false=>rfl
 |
  true =>
  obtain⟨_,q2⟩:=kJ _ _ _ _ hb h
  obtain⟨h1,h2⟩:=fJ _ _ (au _) hk
  have e:gj (ar++[w]) (k+1)=gj ar k:=by
   unfold gj
   rw[aq,show ar.length+[w].length-1-(k+1)=ar.length-1-k by simp;omega]
   simp[aa,List.getElem?_append_left (show ar.length-1-k<ar.length by omega)]
  rw[e,h2,fm]at q2
  cases q2
def oJ(s:List UInt8)(ar:List (List UInt8)):Tg:=match bQ s ar ar.length with|some u=>.bd u|none=>.nm s
theorem vM(w:List UInt8)(ar:List (List UInt8)):oJ w (ar++[w])=.bd 0:=by rw[oJ,fm]
theorem Ae{s w:List UInt8}(ar:List (List UInt8))(h:w≠s):oJ s (ar++[w])=(oJ s ar).up:=by
 rw[oJ,oJ,jE ar h]
 cases bQ s ar ar.length<;>rfl
theorem iv(n:Nat):∀(m:Nat) (v:Vl),v.nodes<=m->∀(e:E) (env:List Fr) (t:Ty),Ask e env t->eV n v (e,env)=true->∀(k:Nat) (f:Fr),env[k]?=some f->∀h,h∈cm t (.bd k) v->eV n h.2 (f.ex,f.out)=true
 |0,v,hm=>by have:=du v;omega
 |
  m+1,v,hm=>by
  intro e env t A hv k f hf h hh
  rcases gn A.wf A.ty with⟨hb,hq⟩|⟨u,g,rfl,hq,hu⟩
  ·have hhd:hd e env=(e,env):=ka hq
   rcases fI A.ty hb A.cl with⟨rfl,rfl⟩|⟨rfl,rfl⟩|⟨s,rfl,rfl,hp,h0,h1⟩|⟨x,a,b,t1,t2,rfl,hx,rfl,ha,hbb⟩|⟨x,a,b,t1,t2,rfl,hx,rfl,ha,hbb⟩|⟨x,a,b,t1,rfl,hx,rfl⟩
   ·rw[dS rfl (by cases v<;>rfl)]at hh;cases hh
   ·rw[dS rfl (by cases v<;>rfl)]at hh;cases hh
   ·rw[dS rfl (by cases v<;>rfl)]at hh;cases hh
   ·obtain⟨ok1,ok2,ok3,_⟩:=A.ok
    obtain⟨f1,f2⟩:=fq A.cl
    cases v with
    |
     l w =>
     simp only[eV,hhd,hx,beq_self_eq_true,bX]at hv
     simp only[Vl.nodes]at hm
     rw[mZ]at hh
     obtain⟨h2,h3,rfl⟩:=cY hh
     exact iv n m w (by omega) a env t1 ⟨ok2,A.wf,ha,f1⟩ hv k f hf h2 h3
    |
     r w =>
     simp only[eV,hhd,hx,beq_self_eq_true,bX]at hv
     simp only[Vl.nodes]at hm
     rw[mY]at hh
     obtain⟨h2,h3,rfl⟩:=cY hh
     exact iv n m w (by omega) b env t2 ⟨ok3,A.wf,hbb,f2⟩ hv k f hf h2 h3
    |_=>rw[dS rfl rfl]at hh;cases hh
   ·obtain⟨ok1,ok2,ok3,_⟩:=A.ok
    obtain⟨f1,f2⟩:=eW A.cl
    cases v with
    |
     p w w' =>
     simp only[eV,hhd,hx,beq_self_eq_true,bX,aw]at hv
     simp only[Vl.nodes]at hm
     rw[mX]at hh
     rcases aN.1 hh with hh|hh
     ·obtain⟨h2,h3,rfl⟩:=cY hh
      exact iv n m w (by omega) a env t1 ⟨ok2,A.wf,ha,f1⟩ hv.1 k f hf h2 h3
     ·obtain⟨h2,h3,rfl⟩:=cY hh
      exact iv n m w' (by omega) b env t2 ⟨ok3,A.wf,hbb,f2⟩ hv.2 k f hf h2 h3
    |_=>rw[dS rfl rfl]at hh;cases hh
   ·obtain⟨t1',he1,h1,f1,hw1⟩:=jw A.wf A.ok hx A.ty A.cl
    cases he1
    obtain⟨ok1,ok2,ok3,_⟩:=A.ok
    cases v with
    |
     f w =>
     simp only[eV,hhd,hx,beq_self_eq_true,bX]at hv
     simp only[Vl.nodes]at hm
     rw[nn]at hh
     have A':Ask b (.mk a.at (.list [x,a,b]) env::env) t1:=⟨ok3,hw1,h1,f1⟩
     rcases aN.1 hh with hh|hh
     ·obtain⟨h2,h3,rfl⟩:=cY hh
      exact iv n m w (by omega) b _ t1 A' hv (k+1) f (by simpa using hf) h2 h3
     ·obtain⟨kd,h2,h3⟩:=List.mem_flatMap.1 hh
      obtain⟨h4,h5,rfl⟩:=cY h3
      have hkd:=iv n m w (by omega) b _ t1 A' hv 0 _ rfl kd h2
      have:=(iE h2).1
      exact iv n m kd.2 (by omega) (.list [x,a,b]) env _ A hkd k f hf h4 h5
    |_=>rw[dS rfl rfl]at hh;cases hh
  ·by_cases huk:u=k
   ·subst huk
    rw[hu]at hf;cases hf
    rw[mS v (by simp[eE])]at hh
    simp only[aR]at hh
    subst hh
    obtain⟨x,a,b,t',hfe,hok,hx,ht',hf',hwf,hlt⟩:=oz A.wf hq
    rw[<-um n v (qY hq) (by rw[hfe];exact pX hwf)];exact hv
   ·rw[dS (by simpa[eE]using huk) (by cases v<;>rfl)]at hh;cases hh
end Go.Proofs.Trees
namespace Go.Proofs.Trees
open Go Go.VL Go.RowKit
def cR:E->List Nm->Ty
 | .atom s,ar=>if s=[48]then .zero else if s=[49]then .one else match bQ s ar ar.length with|some u=>.bound u|none=>.name s
 | .list [x,a,b],ar=>if x.at=[43]then .plus (cR a ar) (cR b ar)else if x.at=[42]then .times (cR a ar) (cR b ar)else .rc (cR b (ar++[a.at]))
 | .list _,_=>.zero
def qO(s:Nm):Prop:=s≠[]/\s≠[48]/\s≠[49]
inductive Wf:E->Prop
 |atom {s} (h:s≠[]):Wf (.atom s)
 |plus {a b} (ha:Wf a) (hb:Wf b):Wf (.list [.atom [43],a,b])
 |times {a b} (ha:Wf a) (hb:Wf b):Wf (.list [.atom [42],a,b])
 |rc {n b} (hn:qO n) (hb:Wf b):Wf (.list [.atom [114,101,99],.atom n,b])
theorem dJ(a b:E)(ar:List Nm):cR (.list [.atom [43],a,b]) ar=.plus (cR a ar) (cR b ar):=by rw[cR,if_pos (show (E.atom [43]).at=[43] from rfl)]
theorem dr(a b:E)(ar:List Nm):cR (.list [.atom [42],a,b]) ar=.times (cR a ar) (cR b ar):=by rw[cR,if_neg (by decide),if_pos (show (E.atom [42]).at=[42] from rfl)]
theorem ff(a b:E)(ar:List Nm):cR (.list [.atom [114,101,99],a,b]) ar=.rc (cR b (ar++[a.at])):=by rw[cR,if_neg (by decide),if_neg (by decide)]
theorem Wf.ok{e:E}(h:Wf e):e.ok:=by
 induction h with
 |atom h=>exact h
 |plus ha hb i1 i2=>exact⟨by simp[E.ok],i1,i2,trivial⟩
 |times ha hb i1 i2=>exact⟨by simp[E.ok],i1,i2,trivial⟩
 |rc hn hb i=>exact⟨by simp[E.ok],hn.1,i,trivial⟩
theorem Wf.db{e:E}(h:Wf e):∀ar,e.db=(cR e ar).atoms:=by
 induction h with
 |
  @atom s h =>
  intro ar
  simp only[E.db,cR]
  split
  ·rfl
  ·split
   ·rfl
   ·split<;>rfl
 |plus ha hb i1 i2=>intro ar;rw[dJ];simp only[E.db,E.eY,Ty.atoms,<-i1 ar,<-i2 ar];omega
 |times ha hb i1 i2=>intro ar;rw[dr];simp only[E.db,E.eY,Ty.atoms,<-i1 ar,<-i2 ar];omega
 |@rc n b hn hb i=>intro ar;rw[ff];simp only[E.db,E.eY,Ty.atoms,<-i];omega
theorem Wf.sz{e:E}(h:Wf e):e.sz<=3*e.db:=by
 induction h with
 |atom h=>simp[E.sz,E.db]
 |plus ha hb i1 i2=>simp only[E.sz,E.jr,E.db,E.eY];omega
 |times ha hb i1 i2=>simp only[E.sz,E.jr,E.db,E.eY];omega
 |rc hn hb i=>simp only[E.sz,E.jr,E.db,E.eY];omega
theorem ko:∀(e:E) (ar:List Nm) (t:Ty),e.ok->(∀w,w∈ar->dk w=true)->cS e ar=some t->Wf e/\cR e ar=t
 |
  .atom s,ar,t,hok,hl,ht=>by
  refine⟨.atom hok,?_⟩
  simp only[cS,cR]at ht |-
  split at ht
  ·rename_i h;rw[if_pos h];simpa using ht
  ·rename_i h;rw[if_neg h]
   split at ht
   ·rename_i h1;rw[if_pos h1];simpa using ht
   ·rename_i h1;rw[if_neg h1]
    split at ht
    ·rename_i hp
     cases q:bQ s ar ar.length with
     |none=>simpa using ht
     |
      some u =>
      obtain⟨h1,h2⟩:=fJ _ _ (au _) q
      have:=hl (gj ar u) (by
       unfold gj
       have:ar.length-1-u<ar.length:=by omega
       simp[aa,this])
      rw[h2,km hp]at this;cases this
    ·split at ht
     ·split at ht<;>rename_i q<;>rw[q]<;>simpa using ht
     ·cases ht
 |
  .list [x,a,b],ar,t,hok,hl,ht=>by
  obtain⟨ok1,ok2,ok3,_⟩:=hok
  by_cases h0:x.at=[43]
  ·obtain⟨t1,t2,h1,h2,rfl⟩:=fN h0 ht
   obtain rfl:=kj h0 (by simp)
   obtain⟨w1,e1⟩:=ko a ar t1 ok2 hl h1
   obtain⟨w2,e2⟩:=ko b ar t2 ok3 hl h2
   exact⟨.plus w1 w2,by rw[dJ,e1,e2]⟩
  ·by_cases h1:x.at=[42]
   ·obtain⟨t1,t2,h2,h3,rfl⟩:=fh h1 ht
    obtain rfl:=kj h1 (by simp)
    obtain⟨w1,e1⟩:=ko a ar t1 ok2 hl h2
    obtain⟨w2,e2⟩:=ko b ar t2 ok3 hl h3
    exact⟨.times w1 w2,by rw[dr,e1,e2]⟩
   ·by_cases h2:x.at=[114,101,99]
    ·obtain⟨t1,hla,h3,rfl⟩:=dA h2 ht
     obtain rfl:=kj h2 (by simp)
     have hne:a.at≠[]:=by intro e;rw[e]at hla;cases hla
     have ha:a=.atom a.at:=kj rfl hne
     obtain⟨w1,e1⟩:=ko b (ar++[a.at]) t1 ok3 (fun w hw=>by
      rcases aN.1 hw with hw|hw
      ·exact hl w hw
      ·simp only[aR]at hw;rw[hw];exact hla) h3
     have hN:qO a.at:=⟨hne,fun e=>by rw[e]at hla;revert hla;decide,fun e=>by rw[e]at hla;revert hla;decide⟩
     refine⟨?_,by rw[ff,e1]⟩
     rw[ha];exact .rc hN w1
    ·rw[je _ h0 h1 h2]at ht;cases ht
 | .list [],ar,t,_,_,ht=>by cases ht
 | .list [_],ar,t,_,_,ht=>by cases ht
 | .list [_,_],ar,t,_,_,ht=>by cases ht
 | .list (_::_::_::_::_),ar,t,_,_,ht=>by cases ht
theorem fw(s:Nm)(ar:List Nm):bQ s ar ar.length=none↔s∉ar:=by
 have:=mw s ar ar.length (au _)
 rwa[List.take_length]at this
theorem nK(s:Nm)(ar:List Nm):∀(n:Nat) (br:List Nm),br.length=n->bQ s (ar++br) (ar++br).length=match bQ s br br.length with|some u=>some u|none=>(bQ s ar ar.length).map (·+br.length)
 |
  0,br,h=>by
  obtain rfl:=bR h
  rw[cX]
  cases h:bQ s ar ar.length<;>simp[bQ]
 |
  n+1,br,h=>by
  obtain⟨b2,w,rfl⟩:∃b2 w,br=b2++[w]:=⟨br.dropLast,br.getLast (by intro e;rw[e]at h;cases h),(List.dropLast_concat_getLast _).symm⟩
  rw[<-ba]
  by_cases hw:w=s
  ·subst hw;rw[fm,fm]
  ·rw[jE _ hw,jE _ hw,nK s ar n b2 (by simpa using h)]
   cases bQ s b2 b2.length with
   |some u=>rfl
   |
    none =>
    cases bQ s ar ar.length with
    |none=>rfl
    |some u=>simp only[Option.map_none,cg,aq,aA,aG];congr 1
theorem uo(ar:List Nm){e:E}(h:Wf e):∀br,(∀y,bn y (cR e br)=true->y∉ar)->cR e (ar++br)=cR e br:=by
 induction h with
 |
  @atom s h =>
  intro br hy
  simp only[cR]at hy |-
  split
  ·rfl
  ·rename_i h0
   split
   ·rfl
   ·rename_i h1
    rw[if_neg h0,if_neg h1]at hy
    rw[nK s ar _ br rfl]
    cases q:bQ s br br.length with
    |some u=>rfl
    |
     none =>
     rw[q]at hy
     have:=(fw s ar).2 (hy s (by simp[bn]))
     rw[this];rfl
 |
  plus ha hb i1 i2 =>
  intro br hy
  rw[dJ]at hy |-
  rw[dJ,i1 br fun y h=>hy y (by simp[bn,h]),i2 br fun y h=>hy y (by simp[bn,h])]
 |
  times ha hb i1 i2 =>
  intro br hy
  rw[dr]at hy |-
  rw[dr,i1 br fun y h=>hy y (by simp[bn,h]),i2 br fun y h=>hy y (by simp[bn,h])]
 |
  @rc n b hn hb i =>
  intro br hy
  rw[ff]at hy |-
  rw[ff,ba,i _ hy]
theorem yU(x:Nm){e:E}(h:Wf e):∀ar,cR e ar=dy (.name x) (cR e ([x]++ar)) ar.length:=by
 induction h with
 |
  @atom s h =>
  intro ar
  simp only[cR]
  split
  ·rfl
  ·split
   ·rfl
   ·rw[nK s [x] _ ar rfl]
    cases q:bQ s ar ar.length with
    |
     some u =>
     have:=(fJ _ _ (au _) q).1
     simp only[dy];rw[if_neg (by omega)]
    |
     none =>
     by_cases hx:x=s
     ·subst hx
      have:bQ x [x] [x].length=some 0:=fm x []
      rw[this];simp[dy]
     ·have:bQ s [x] [x].length=none:=(fw s [x]).2 (by simpa using fun e=>hx e.symm)
      rw[this];rfl
 |plus ha hb i1 i2=>intro ar;rw[dJ,dJ,dy,<-i1 ar,<-i2 ar]
 |times ha hb i1 i2=>intro ar;rw[dr,dr,dy,<-i1 ar,<-i2 ar]
 |
  @rc n b hn hb i =>
  intro ar
  rw[ff,ff,dy,i (ar++[E.at (.atom n)]),ba]
  simp
theorem ns{e:E}(h:Wf e):∀ar y,bn y (cR e ar)=true->qO y/\y∉ar:=by
 induction h with
 |
  @atom s h =>
  intro ar y hy
  simp only[cR]at hy
  split at hy
  ·cases hy
  ·rename_i h0
   split at hy
   ·cases hy
   ·rename_i h1
    split at hy
    ·cases hy
    ·rename_i q
     simp only[bn,decide_eq_true_eq]at hy
     subst hy
     exact⟨⟨h,h0,h1⟩,(fw _ _).1 q⟩
 |
  plus ha hb i1 i2 =>
  intro ar y hy
  rw[dJ]at hy
  simp only[bn,bC]at hy
  rcases hy with hy|hy
  ·exact i1 ar y hy
  ·exact i2 ar y hy
 |
  times ha hb i1 i2 =>
  intro ar y hy
  rw[dr]at hy
  simp only[bn,bC]at hy
  rcases hy with hy|hy
  ·exact i1 ar y hy
  ·exact i2 ar y hy
 |
  rc hn hb i =>
  intro ar y hy
  rw[ff]at hy
  obtain⟨h1,h2⟩:=i _ y hy
  exact⟨h1,fun h=>h2 (aD _ h)⟩
theorem lV{e:E}(h:Wf e):∀(bd l:List Nm) (y:Nm),y∈kp e bd l↔y∈l\/bn y (cR e bd)=true:=by
 induction h with
 |
  @atom s h =>
  intro bd l y
  simp only[kp,cR]
  by_cases h0:s=[48]
  ·simp[h0,bn]
  ·by_cases h1:s=[49]
   ·simp[h1,bn]
   ·rw[if_neg h0,if_neg h1]
    by_cases h2:s∈bd
    ·cases q:bQ s bd bd.length with
     |none=>exact absurd h2 ((fw _ _).1 q)
     |some u=>simp[h2,bn]
    ·rw[(fw _ _).2 h2]
     simp only[h0,h1,h2,false_or,bn,decide_eq_true_eq]
     by_cases h3:s∈l
     ·simp only[h3,if_true]
      exact⟨fun h=>.inl h,fun h=>by rcases h with h|rfl<;>assumption⟩
     ·simp only[h3,if_false,aN,aR,eq_comm]
 |
  plus ha hb i1 i2 =>
  intro bd l y
  rw[kp,if_neg (by decide),dJ,i2,i1]
  simp[bn,or_assoc]
 |
  times ha hb i1 i2 =>
  intro bd l y
  rw[kp,if_neg (by decide),dr,i2,i1]
  simp[bn,or_assoc]
 |
  rc hn hb i =>
  intro bd l y
  rw[kp,if_pos (show (E.atom [114,101,99]).at=[114,101,99] from rfl),ff,i]
  rfl
theorem eQ:∀(t:Ty) (out:List Nm) (y:Nm),y∈bP t out↔y∈out\/bn y t=true
 |
  .name s,out,y=>by
  simp only[bP,pI,bn,decide_eq_true_eq]
  split
  ·rename_i h;exact⟨fun h=>.inl h,fun h'=>by rcases h' with h'|rfl<;>assumption⟩
  ·simp[eq_comm]
 | .plus a b,out,y=>by rw[bP,eQ b,eQ a];simp[bn,or_assoc]
 | .times a b,out,y=>by rw[bP,eQ b,eQ a];simp[bn,or_assoc]
 | .rc a,out,y=>by rw[bP,eQ a];rfl
 | .zero,out,y=>by simp[bP,bn]
 | .one,out,y=>by simp[bP,bn]
 | .bound k,out,y=>by simp[bP,bn]
end Go.Proofs.Trees
namespace Go.Proofs.Trees
open Go Go.VL Go.RowKit
abbrev dE:Nm:=[114,101,99]
theorem dR(s:Nm):(E.atom s).at=s:=rfl
def rj(x:Nm)(u:E):E->E
 | .atom s=>if s=x then u else .atom s
 | .list [h,a,b]=>if h.at=dE then(if a.at=x then .list [h,a,b]else .list [.atom dE,a,rj x u b])else .list [.atom h.at,rj x u a,rj x u b]
 | .list l=>.list l
def m8(x:Nm):E->Nat
 | .atom s=>if s=x then 1 else 0
 | .list [h,a,b]=>if h.at=dE then(if a.at=x then 0 else m8 x b)else m8 x a+m8 x b
 | .list _=>0
def tY(p:Nm->Prop):E->Prop
 | .atom _=>True
 | .list [h,a,b]=>(if h.at=dE then p a.at else tY p a)/\tY p b
 | .list _=>True
def fu(x:Nm):Ty->Nat
 | .name s=>if s=x then 1 else 0
 | .plus a b=>fu x a+fu x b
 | .times a b=>fu x a+fu x b
 | .rc a=>fu x a
 |_=>0
theorem wA(x:Nm)(u a b:E):rj x u (.list [.atom [43],a,b])=.list [.atom [43],rj x u a,rj x u b]:=by rw[rj,if_neg (by decide)];rfl
theorem tq(x:Nm)(u a b:E):rj x u (.list [.atom [42],a,b])=.list [.atom [42],rj x u a,rj x u b]:=by rw[rj,if_neg (by decide)];rfl
theorem A0(x:Nm)(u:E)(n:Nm)(b:E):rj x u (.list [.atom dE,.atom n,b])=if n=x then .list [.atom dE,.atom n,b]else .list [.atom dE,.atom n,rj x u b]:=by rw[rj,if_pos (dR _)];rfl
theorem si(x:Nm)(a b:E):m8 x (.list [.atom [43],a,b])=m8 x a+m8 x b:=by rw[m8,if_neg (by decide)]
theorem pS(x:Nm)(a b:E):m8 x (.list [.atom [42],a,b])=m8 x a+m8 x b:=by rw[m8,if_neg (by decide)]
theorem xk(x:Nm)(n:Nm)(b:E):m8 x (.list [.atom dE,.atom n,b])=if n=x then 0 else m8 x b:=by rw[m8,if_pos (dR _)];rfl
theorem pq(p:Nm->Prop)(a b:E):tY p (.list [.atom [43],a,b])↔tY p a/\tY p b:=by rw[tY,if_neg (by decide)]
theorem ni(p:Nm->Prop)(a b:E):tY p (.list [.atom [42],a,b])↔tY p a/\tY p b:=by rw[tY,if_neg (by decide)]
theorem uy(p:Nm->Prop)(n:Nm)(b:E):tY p (.list [.atom dE,.atom n,b])↔p n/\tY p b:=by rw[tY,if_pos (dR _)];rfl
theorem Bu{p q:Nm->Prop}(h:∀n,p n->q n){e:E}(hw:Wf e):tY p e->tY q e:=by
 induction hw with
 |atom _=>exact fun _=>trivial
 |plus _ _ i1 i2=>rw[pq,pq];exact fun g=>⟨i1 g.1,i2 g.2⟩
 |times _ _ i1 i2=>rw[ni,ni];exact fun g=>⟨i1 g.1,i2 g.2⟩
 |rc _ _ i=>rw[uy,uy];exact fun g=>⟨h _ g.1,i g.2⟩
theorem ja{s:Nm}(hs:qO s){ar:List Nm}(h:s∉ar):cR (.atom s) ar=.name s:=by
 simp only[cR];rw[if_neg hs.2.1,if_neg hs.2.2,(fw s ar).2 h]
theorem Ev{x:Nm}(hx:qO x){u:E}(hu:Wf u){e:E}(h:Wf e):tY (fun n=>n≠x/\bn n (cR u [])=false) e->∀ar,x∉ar->(∀y,y∈ar->bn y (cR u [])=false)->Wf (rj x u e)/\cR (rj x u e) ar=sub x (cR u []) (cR e ar):=by
 induction h with
 |
  @atom s hs =>
  intro _ ar har hy
  by_cases e:s=x
  ·subst e
   have:cR u (ar++[])=cR u []:=uo ar hu [] fun y hy' hm=>by rw[hy y hm]at hy';cases hy'
   rw[cX]at this
   rw[ja hx har]
   simp only[rj,sub,if_true]
   exact⟨hu,this⟩
  ·simp only[rj,if_neg e]
   refine⟨.atom hs,?_⟩
   simp only[cR]
   split
   ·rfl
   ·split
    ·rfl
    ·split
     ·rfl
     ·simp only[sub,if_neg e]
 |
  plus ha hb i1 i2 =>
  intro hap ar har hy
  rw[pq]at hap
  obtain⟨w1,e1⟩:=i1 hap.1 ar har hy
  obtain⟨w2,e2⟩:=i2 hap.2 ar har hy
  rw[wA,dJ,dJ,e1,e2]
  exact⟨.plus w1 w2,rfl⟩
 |
  times ha hb i1 i2 =>
  intro hap ar har hy
  rw[ni]at hap
  obtain⟨w1,e1⟩:=i1 hap.1 ar har hy
  obtain⟨w2,e2⟩:=i2 hap.2 ar har hy
  rw[tq,dr,dr,e1,e2]
  exact⟨.times w1 w2,rfl⟩
 |
  @rc n b hn hb i =>
  intro hap ar har hy
  rw[uy]at hap
  obtain⟨w1,e1⟩:=i hap.2 (ar++[n]) (by
   simp only[aN,aR]
   rintro(h|h)
   ·exact har h
   ·exact hap.1.1 h.symm) (fun y hm=>by
   simp only[aN,aR]at hm
   rcases hm with hm|rfl
   ·exact hy y hm
   ·exact hap.1.2)
  rw[A0,if_neg hap.1.1,ff,ff]
  refine⟨.rc hn w1,?_⟩
  show Ty.rc (cR (rj x u b) (ar++[n]))=_
  rw[e1];rfl
theorem EB{x:Nm}(hx:qO x){e:E}(h:Wf e):∀ar,fu x (cR e ar)=if x∈ar then 0 else m8 x e:=by
 induction h with
 |
  @atom s hs =>
  intro ar
  by_cases e:s=x
  ·subst e
   by_cases hm:s∈ar
   ·rw[if_pos hm]
    simp only[cR];rw[if_neg hx.2.1,if_neg hx.2.2]
    cases q:bQ s ar ar.length with
    |none=>exact absurd hm ((fw _ _).1 q)
    |some u=>rfl
   ·rw[if_neg hm,ja hx hm];simp[fu,m8]
  ·have:fu x (cR (.atom s) ar)=0:=by
    simp only[cR]
    split
    ·rfl
    ·split
     ·rfl
     ·split
      ·rfl
      ·simp[fu,e]
   rw[this];simp[m8,e]
 |plus ha hb i1 i2=>intro ar;rw[dJ,si,fu,i1,i2];split<;>simp
 |times ha hb i1 i2=>intro ar;rw[dr,pS,fu,i1,i2];split<;>simp
 |
  @rc n b hn hb i =>
  intro ar
  rw[ff,xk,fu,i]
  simp only[dR,aN,aR]
  by_cases h1:x∈ar
  ·simp[h1]
  ·by_cases h2:x=n
   ·simp[h2]
   ·simp[h1,h2,Ne.symm h2]
theorem dV(x:Nm)(u:Ty):∀t:Ty,(sub x u t).atoms+fu x t=t.atoms+fu x t*u.atoms
 | .name s=>by simp only[sub,fu];split<;>simp[Ty.atoms];omega
 | .plus a b=>by have:=dV x u a;have:=dV x u b;simp only[sub,Ty.atoms,fu,Nat.add_mul];omega
 | .times a b=>by have:=dV x u a;have:=dV x u b;simp only[sub,Ty.atoms,fu,Nat.add_mul];omega
 | .rc a=>by have:=dV x u a;simp only[sub,Ty.atoms,fu];omega
 | .zero=>by simp[sub,fu]
 | .one=>by simp[sub,fu]
 | .bound k=>by simp[sub,fu]
abbrev tN(m:Nat):Nm:=116::dd m
theorem EZ(m:Nat):dd m≠[]:=by
 by_cases h:m<10
 ·rw[eH h];simp
 ·rw[fR h];simp
theorem xg:∀(n m k:Nat),m<n->dd m=dd k->m=k
 |0,m,k,h,_=>by omega
 |
  n+1,m,k,h,e=>by
  have d10:∀{a b:Nat},a<10->b<10->bj (48+a)=bj (48+b)->a=b:=fun {a b} ha hb h=>by
   have:=congrArg UInt8.toNat h
   simp only[UInt8.toNat_ofNat']at this
   omega
  by_cases h1:m<10<;>by_cases h2:k<10
  ·rw[eH h1,eH h2]at e
   simp only[List.cons.injEq,and_true]at e
   exact d10 h1 h2 e
  ·rw[eH h1,fR h2]at e
   have:=congrArg List.length e
   have:dd (k/10)=[]:=by
    apply bR
    simp at this;simpa using this
   exact absurd this (EZ _)
  ·rw[fR h1,eH h2]at e
   have:=congrArg List.length e
   have:dd (m/10)=[]:=by
    apply bR
    simp at this;simpa using this
   exact absurd this (EZ _)
  ·rw[fR h1,fR h2]at e
   obtain⟨e1,e2⟩:=List.append_inj' e rfl
   have:=xg n (m/10) (k/10) (by omega) e1
   simp only[List.cons.injEq,and_true]at e2
   have:=d10 (Nat.mod_lt _ (by omega)) (Nat.mod_lt _ (by omega)) e2
   omega
theorem B0{m k:Nat}(h:tN m=tN k):m=k:=xg (m+1) m k (by omega) (List.cons.inj h).2
theorem yP(m:Nat):qO (tN m):=⟨by simp,by simp,by simp⟩
theorem S3:∀(l F:List Nm),l.Nodup->(∀x,x∈l->x∈F)->l.length<=F.length
 |[],_,_,_=>dO _
 |
  x::l,F,hn,hs=>by
  obtain⟨h1,h2⟩:=List.nodup_cons.1 hn
  have hx:=hs x ak
  have:=S3 l (F.erase x) h2 fun y hy=>(List.mem_erase_of_ne (fun e=>h1 (by rw[<-e];exact hy))).2 (hs y (al _ hy))
  rw[List.length_erase_of_mem hx]at this
  have:0<F.length:=List.length_pos_of_mem hx
  simp only[aA];omega
def qo(F:List Nm):Nat->Nat->Nat
 |0,k=>k
 |n+1,k=>if tN k∈F then qo F n (k+1)else k
theorem vZ(F:List Nm):∀(n k:Nat),k<=qo F n k/\qo F n k<=k+n/\(∀j,k<=j->j<qo F n k->tN j∈F)/\(qo F n k<k+n->tN (qo F n k)∉F)
 |0,k=>⟨au _,au _,fun j h1 h2=>by simp only[qo]at h2;omega,fun h=>by simp only[qo]at h;omega⟩
 |
  n+1,k=>by
  rw[qo]
  split
  ·rename_i hm
   obtain⟨h1,h2,h3,h4⟩:=vZ F n (k+1)
   refine⟨by omega,by omega,fun j hj hl=>?_,fun h=>h4 (by omega)⟩
   by_cases e:j=k
   ·subst e;exact hm
   ·exact h3 j (by omega) hl
  ·rename_i hm
   exact⟨au _,by omega,fun j h1 h2=>by omega,fun _=>hm⟩
def nx(F:List Nm)(k:Nat):Nat:=qo F (F.length+1) k
theorem gA(F:List Nm)(k:Nat):k<=nx F k/\nx F k<=k+F.length/\(∀j,k<=j->j<nx F k->tN j∈F)/\tN (nx F k)∉F:=by
 obtain⟨h1,h2,h3,h4⟩:=vZ F (F.length+1) k
 have hlt:nx F k<k+(F.length+1):=by
  rcases Nat.lt_or_ge (nx F k) (k+(F.length+1))with h|h
  ·exact h
  ·exfalso
   have:=S3 ((List.range' k (F.length+1)).map tN) F (by
    refine List.Pairwise.map _ (fun a b hab e=>hab (B0 e)) List.nodup_range') (fun x hx=>by
    obtain⟨j,hj,rfl⟩:=bO.1 hx
    obtain⟨i,hi,rfl⟩:=List.mem_range'.1 hj
    exact h3 _ (by omega) (by show _<nx F k;omega))
   simp at this
   omega
 exact⟨h1,by unfold nx at hlt |-;omega,h3,h4 hlt⟩
theorem BH{F F':List Nm}(h:∀y,y∈F↔y∈F')(k:Nat):nx F k=nx F' k:=by
 obtain⟨a1,a2,a3,a4⟩:=gA F k
 obtain⟨b1,b2,b3,b4⟩:=gA F' k
 rcases Nat.lt_trichotomy (nx F k) (nx F' k)with hl|he|hl
 ·exact absurd ((h _).2 (b3 _ a1 hl)) a4
 ·exact he
 ·exact absurd ((h _).1 (a3 _ b1 hl)) b4
def gY(F:List Nm):Ty->List Nm->Nat->E×Nat
 | .zero,_,k=>(.atom [48],k)
 | .one,_,k=>(.atom [49],k)
 | .name s,_,k=>(.atom s,k)
 | .bound u,to,k=>(.atom (gj to u),k)
 | .plus a b,to,k=>(.list [.atom [43],(gY F a to k).1,(gY F b to (gY F a to k).2).1],(gY F b to (gY F a to k).2).2)
 | .times a b,to,k=>(.list [.atom [42],(gY F a to k).1,(gY F b to (gY F a to k).2).1],(gY F b to (gY F a to k).2).2)
 | .rc a,to,k=>(.list [.atom dE,.atom (tN (nx F k)),(gY F a (to++[tN (nx F k)]) (nx F k+1)).1],(gY F a (to++[tN (nx F k)]) (nx F k+1)).2)
theorem jM{F F':List Nm}(h:∀y,y∈F↔y∈F'):∀(t:Ty) (to:List Nm) (k:Nat),gY F t to k=gY F' t to k
 | .zero,_,_=>rfl
 | .one,_,_=>rfl
 | .name _,_,_=>rfl
 | .bound _,_,_=>rfl
 | .plus a b,to,k=>by simp only[gY];rw[jM h a,jM h b]
 | .times a b,to,k=>by simp only[gY];rw[jM h a,jM h b]
 | .rc a,to,k=>by simp only[gY];rw[BH h,jM h a]
def jx:Ty->Nat->Prop
 | .bound u,i=>u<i
 | .plus a b,i=>jx a i/\jx b i
 | .times a b,i=>jx a i/\jx b i
 | .rc a,i=>jx a (i+1)
 |_,_=>True
theorem ub{e:E}(h:Wf e):∀ar,jx (cR e ar) ar.length:=by
 induction h with
 |
  @atom s hs =>
  intro ar
  simp only[cR]
  split
  ·trivial
  ·split
   ·trivial
   ·split
    ·rename_i u q;exact(fJ _ _ (au _) q).1
    ·trivial
 |plus ha hb i1 i2=>intro ar;rw[dJ];exact⟨i1 ar,i2 ar⟩
 |times ha hb i1 i2=>intro ar;rw[dr];exact⟨i1 ar,i2 ar⟩
 |
  @rc n b hn hb i =>
  intro ar;rw[ff]
  have:=i (ar++[(E.atom n).at])
  rw[aq]at this
  exact this
structure Gn(F to:List Nm)(k:Nat):Prop where
 out:∀w,w∈to->w∉F
 lt:∀w,w∈to->∃j,j<k/\w=tN j
 nd:to.Nodup
theorem Gn.nil(F:List Nm)(k:Nat):Gn F [] k:=⟨fun _ h=>(by cases h),fun _ h=>(by cases h),by simp⟩
theorem Gn.mono{F to:List Nm}{k k':Nat}(h:Gn F to k)(hk:k<=k'):Gn F to k':=⟨h.out,fun w hw=>by obtain⟨j,h1,h2⟩:=h.lt w hw;exact⟨j,by omega,h2⟩,h.nd⟩
theorem Gn.push{F to:List Nm}{k:Nat}(h:Gn F to k):Gn F (to++[tN (nx F k)]) (nx F k+1):=by
 obtain⟨h1,h2,h3,h4⟩:=gA F k
 refine⟨fun w hw=>?_,fun w hw=>?_,?_⟩
 ·rcases aN.1 hw with hw|hw
  ·exact h.out w hw
  ·simp only[aR]at hw;rw[hw];exact h4
 ·rcases aN.1 hw with hw|hw
  ·obtain⟨j,g1,g2⟩:=h.lt w hw;exact⟨j,by omega,g2⟩
  ·simp only[aR]at hw;exact⟨_,by omega,hw⟩
 ·refine List.nodup_append.2 ⟨h.nd,by simp,fun a ha b hb e=>?_⟩
  simp only[aR]at hb
  obtain⟨j,g1,g2⟩:=h.lt a ha
  rw[e,hb]at g2
  have:=B0 g2
  omega
theorem uG{to:List Nm}(hn:to.Nodup){u:Nat}(hu:u<to.length):bQ (gj to u) to to.length=some u:=by
 have hm:gj to u∈to:=by
  unfold gj
  have:to.length-1-u<to.length:=by omega
  simp[aa,this]
 cases q:bQ (gj to u) to to.length with
 |none=>exact absurd hm ((fw _ _).1 q)
 |
  some v =>
  obtain⟨h1,h2⟩:=fJ _ _ (au _) q
  unfold gj at h2
  have e1:to.length-1-v<to.length:=by omega
  have e2:to.length-1-u<to.length:=by omega
  rw[aa,aa,bp e1,bp e2]at h2
  have hp:=List.pairwise_iff_getElem.1 hn
  have h3:to[to.length-1-v]=to[to.length-1-u]:=by simpa using h2
  rcases Nat.lt_trichotomy (to.length-1-v) (to.length-1-u)with hl|he|hl
  ·exact absurd h3 (hp _ _ e1 e2 hl)
  ·congr 1;omega
  ·exact absurd h3.symm (hp _ _ e2 e1 hl)
theorem ku(F:List Nm):∀(t:Ty) (to:List Nm) (k:Nat),Gn F to k->jx t to.length->(∀y,bn y t=true->y∈F/\qO y) ->
 Wf (gY F t to k).1/\cR (gY F t to k).1 to=t/\k<=(gY F t to k).2/\(gY F t to k).2<=k+(F.length+1)*t.atoms/\tY (·∉F) (gY F t to k).1
 | .zero,to,k,_,_,_=>⟨.atom (by simp),rfl,au _,da _ _,trivial⟩
 | .one,to,k,_,_,_=>⟨.atom (by simp),rfl,au _,da _ _,trivial⟩
 |
  .name s,to,k,g,hl,hn=>by
  obtain⟨h1,h2⟩:=hn s (by simp[bn])
  exact⟨.atom h2.1,ja h2 (fun h=>g.out s h h1),au _,da _ _,trivial⟩
 |
  .bound u,to,k,g,hl,hn=>by
  have hm:gj to u∈to:=by
   unfold gj
   have:to.length-1-u<to.length:=by have:u<to.length:=hl;omega
   simp[aa,this]
  obtain⟨j,_,e⟩:=g.lt _ hm
  have hok:qO (gj to u):=by rw[e];exact yP j
  refine⟨.atom hok.1,?_,au _,da _ _,trivial⟩
  simp only[gY,cR]
  rw[if_neg hok.2.1,if_neg hok.2.2,uG g.nd hl]
 |
  .plus a b,to,k,g,hl,hn=>by
  obtain⟨a1,a2,a3,a4,a5⟩:=ku F a to k g hl.1 fun y hy=>hn y (by simp[bn,hy])
  obtain⟨b1,b2,b3,b4,b5⟩:=ku F b to _ (g.mono a3) hl.2 fun y hy=>hn y (by simp[bn,hy])
  simp only[gY,dJ,a2,b2,pq,Ty.atoms]
  refine⟨.plus a1 b1,trivial,by omega,?_,a5,b5⟩
  have:(F.length+1)*(1+a.atoms+b.atoms)=(F.length+1)+(F.length+1)*a.atoms+(F.length+1)*b.atoms:=by simp only[cT,dG]
  omega
 |
  .times a b,to,k,g,hl,hn=>by
  obtain⟨a1,a2,a3,a4,a5⟩:=ku F a to k g hl.1 fun y hy=>hn y (by simp[bn,hy])
  obtain⟨b1,b2,b3,b4,b5⟩:=ku F b to _ (g.mono a3) hl.2 fun y hy=>hn y (by simp[bn,hy])
  simp only[gY,dr,a2,b2,ni,Ty.atoms]
  refine⟨.times a1 b1,trivial,by omega,?_,a5,b5⟩
  have:(F.length+1)*(1+a.atoms+b.atoms)=(F.length+1)+(F.length+1)*a.atoms+(F.length+1)*b.atoms:=by simp only[cT,dG]
  omega
 |
  .rc a,to,k,g,hl,hn=>by
  obtain⟨h1,h2,h3,h4⟩:=gA F k
  obtain⟨a1,a2,a3,a4,a5⟩:=ku F a (to++[tN (nx F k)]) (nx F k+1) g.push (by rw[aq];exact hl) hn
  simp only[gY,ff,dR,a2,uy,Ty.atoms]
  refine⟨.rc (yP _) a1,trivial,by omega,?_,h4,a5⟩
  have:(F.length+1)*(2+a.atoms)=(F.length+1)*2+(F.length+1)*a.atoms:=by simp only[cT]
  omega
end Go.Proofs.Trees
namespace Go.Proofs.Trees
open Go Go.VL Go.RowKit
inductive kD:AV->List Nat->Prop
 |nil:kD gJ []
 |cons {m:Nat} {cs:List AV} {e:AV} {ids:List Nat} (hm:m∉ids) (h:kD e ids):kD (.ptr [.pid m cs,e]) (m::ids)
theorem kD.has{a:AV}{ids:List Nat}(h:kD a ids):LK.has .ptr a:=by
 cases h
 ·exact(gD).mpr trivial
 ·exact(cb _).mpr trivial
theorem kD.Td{M:Mem}{a:AV}{ids:List Nat}(h:kD a ids):∀{v:Value},bG M dz a v->∀b,b∈ids->M.p b:=by
 induction h with
 |nil=>intro v _ b hb;cases hb
 |
  @cons m cs e ids hm h ih =>
  intro v hr b hb
  cases hr with
  |
   ptr _ _ _ off us hc hr =>
   have h0:=hr 0 (by simp)
   have h1:=hr 1 (by simp)
   simp only[bq,List.getD_cons_succ]at h0 h1
   rcases aK.1 hb with rfl|hb
   ·generalize us 0=u0 at h0
    cases h0 with
    |pid _ _ _ us hp _ _=>exact hp
   ·exact ih h1 b hb
theorem kD.nodup{a:AV}{ids:List Nat}(h:kD a ids):ids.Nodup:=by
 induction h with
 |nil=>simp
 |cons hm h ih=>exact List.nodup_cons.2 ⟨hm,ih⟩
theorem z7(a b:AV)(S:Nat->Prop)(R:AV->Prop):BI JJ cfg ew (cF ew) [.agg [.x a,.x b]] S (fun o=>aI o 7) R =
 .aj (LK.has .ptr a/\a.isNil=false) (.aj (LK.has .ptr a/\a.isNil=false) (.aj (LK.has .ptr ((a.deref.drop 3).headD .any)/\1<=(a.deref.drop 3).length)
  (.aj (∀ids:Nat->Nat,(∀o,¬S (ids o))->(True/\R (.cG [.agg [(a.deref.drop 3).headD .any,.ptr [.pid (ids 7) [a,b],b]],.pid (ids 7) [a,b]]))) (.done 0 [] [])))):=by kernel_rfl
def B4(t:Ty)(ea:AV)(ids:List Nat):AV->List Ob->Prop:=fun r o=>(∃m,m∉ids/\r=.cG [.agg [t.av,.ptr [.pid m [(Ty.rc t).av,ea],ea]],.pid m [(Ty.rc t).av,ea]])/\o=[]
theorem B4.ne(t:Ty)(ea:AV)(ids:List Nat):∃r o,B4 t ea ids r o:=by
 have:∃m,m∉ids:=⟨ids.foldr max 0+1,fun h=>by
  have key:∀(l:List Nat) (x:Nat),x∈l->x<=l.foldr max 0:=by
   intro l
   induction l with
   |nil=>intro x hx;cases hx
   |
    cons y l ih =>
    intro x hx
    rcases aK.1 hx with rfl|hx
    ·simp only[List.foldr_cons];omega
    ·have:=ih x hx;simp only[List.foldr_cons];omega
  have:=key _ _ h
  omega⟩
 obtain⟨m,hm⟩:=this
 exact⟨_,_,⟨m,hm,rfl⟩,rfl⟩
theorem D9(t:Ty)(ea:AV)(ids:List Nat)(he:kD ea ids):an Tryz.prog 77 [.agg [(Ty.rc t).av,ea]] [] (B4 t ea ids):=by
 have hup:xD [.agg [(Ty.rc t).av,ea]] [.agg [.x (Ty.rc t).av,.x ea]]:=ah (bY (ah (bB ((aE _).mpr trivial)) (ah (bB he.has) aC))) aC
 refine an.up hup ?_
 refine an.Te (cfg:=cfg) (F:=ew) (S:=fun b=>b∈ids) (sel:=fun o=>aI o 7) uq mixed (by kernel_rfl) (by kernel_rfl) (c:=cF ew) (by kernel_rfl) (by kernel_rfl) (fun M β vs hr b hb=>?_) ?_
 ·have h0:=hr 0 (by simp)
  simp only[bq]at h0
  obtain⟨us,_,hl,hq,_⟩:=ga h0
  have h1:=hq 1 (by simp at hl |-)
  simp only[List.getD_cons_succ,bq]at h1
  cases h1 with
  |x _ _ _ _ h=>exact he.Td h b hb
 ·rw[z7]
  simp only[Ty.av,↓zq,zs,ae,aE]
  exact⟨by omega,fun ids' hf=>⟨ids' 7,hf 7,rfl⟩⟩
theorem JF(u:Nat)(hu:u<1000000):∀(k i:Nat) (ea:AV) (ids:List Nat),i+k=u->kD ea ids->k<=ids.length->CW [ea,.v (.int .i64 (u:Int)),.v (.int .i64 (i:Int))] [] (fun t ys o=>t=1/\∃e',kD e' (ids.drop k)/\ys=[e']/\o=[])
 |
  0,i,ea,ids,hi,he,hk=>by
  refine C3 _ _ _ ?_
  have:i=u:=by omega
  subst this
  simp only[AM,↓zq,zs,ae]
  exact⟨he.has,fun h=>by omega,fun _=>⟨ea,he,rfl⟩⟩
 |
  k+1,i,ea,ids,hi,he,hk=>by
  refine C3 _ _ _ ?_
  cases he with
  |nil=>simp at hk
  |
   @cons m cs e ids' hm h =>
   simp only[AM,↓zq,zs,ae,h.has]
   refine⟨fun _=>⟨by omega,?_⟩,fun h=>by omega⟩
   rw[bA i (by omega)]
   exact JF u hu k (i+1) e ids' (by omega) h (by simpa using hk)
theorem Sb(u:Nat)(ea:AV)(ids:List Nat)(he:kD ea ids)(hu:u<ids.length)(hl:ids.length<1000000):an Tryz.prog 141 [.agg [(Ty.bound u).av,ea]] [] (fun r o=>(∃cs,r=.pid (ids.getD u 0) cs)/\o=[]):=by
 refine Lg _ _ ((aE _).mpr trivial) he.has ?_
 simp only[HN,Ty.av,↓zq,zs,ae,he.has]
 refine⟨by omega,kZ (JF u (by omega) u 0 ea ids (by omega) he (by omega)) ?_ (fun ys o h=>by cases h.1)⟩
 rintro ys o ⟨_,e',he',rfl,rfl⟩
 have hd:ids.drop u=ids.getD u 0::ids.drop (u+1):=by
  rw[aU hu];simp[aa,hu]
 rw[hd]at he'
 cases he' with
 |
  @cons m cs e ids' hm h =>
  have hp:LK.has .ptr (AV.pid (ids.getD u 0) cs):=.inr (.inr ⟨_,_,rfl⟩)
  simp only[↓zq,zs,ae,hp]
  exact⟨by omega,cs,rfl⟩
inductive Az:Tg->List Nat->List UInt8->AV->Prop
 |nm (s:List UInt8) (ids:List Nat):Az (.nm s) ids s gJ
 |bd {k:Nat} {ids:List Nat} (hk:k<ids.length) (cs:List AV) (s:List UInt8):Az (.bd k) ids s (.pid (ids.getD k 0) cs)
theorem Az.has{tg:Tg}{ids:List Nat}{s:List UInt8}{fr:AV}(h:Az tg ids s fr):LK.has .ptr fr:=by
 cases h
 ·exact(gD).mpr trivial
 ·exact .inr (.inr ⟨_,_,rfl⟩)
theorem Az.push{tg:Tg}{ids:List Nat}{s:List UInt8}{fr:AV}(h:Az tg ids s fr)(m:Nat):Az tg.up (m::ids) s fr:=by
 cases h with
 |nm=>exact .nm _ _
 |
  @bd k _ hk cs =>
  have:=Az.bd (k:=k+1) (ids:=m::ids) (by simpa using hk) cs s
  simpa[Tg.up]using this
theorem Ai{ids:List Nat}(h:ids.Nodup){i j:Nat}(hi:i<ids.length)(hj:j<ids.length)(he:ids.getD i 0=ids.getD j 0):i=j:=by
 have e1:ids.getD i 0=ids[i]:=by simp[aa,hi]
 have e2:ids.getD j 0=ids[j]:=by simp[aa,hj]
 rw[e1,e2]at he
 have hp:=List.pairwise_iff_getElem.1 h
 rcases Nat.lt_trichotomy i j with hlt|rfl|hlt
 ·exact absurd he (hp i j hi hj hlt)
 ·rfl
 ·exact absurd he.symm (hp j i hj hi hlt)
theorem RC(t:Ty)(tg:Tg)(ea:AV)(ids:List Nat)(s:List UInt8)(fr:AV)(he:kD ea ids)(ht:Az tg ids s fr)(hu:∀u,t=.bound u->u<ids.length)(hl:ids.length<1000000) :
 an Tryz.prog 110 [.agg [.v (.string (mk s)),fr],.agg [t.av,ea]] [] (bK (.v (.bool (eE t tg)))):=by
 refine PR _ _ _ _ ht.has ((aE _).mpr trivial) he.has ?_
 cases ht with
 |
  nm s =>
  cases t<;>simp[CX,Ty.av,↓zq,zs,ae,zt,bK,eE]
  rw[cy];simp
 |
  @bd k _ hk cs s =>
  generalize hm0:ids.getD k 0=m0
  have hp:LK.has .ptr (AV.pid m0 cs):=.inr (.inr ⟨_,_,rfl⟩)
  have hn:(AV.pid m0 cs).isNil=false:=rfl
  cases t with
  |
   bound u =>
   have hu:=hu u rfl
   simp only[CX,Ty.av,↓zq,zs,ae,hp,hn]
   refine⟨fun _=>⟨by omega,fun _=>?_,fun h=>absurd rfl h⟩,fun h=>by cases h⟩
   have hb:=Sb u ea ids he hu hl
   simp only[Ty.av]at hb
   refine aP hb ⟨_,_,⟨[],rfl⟩,rfl⟩ ?_
   rintro r o ⟨⟨cs',rfl⟩,rfl⟩
   have hp':LK.has .ptr (AV.pid (ids.getD u 0) cs'):=.inr (.inr ⟨_,_,rfl⟩)
   simp only[↓zq,zs,ae,hp',AV.sj,AV.Bf,bK,eE]
   congr 2
   rw[cy,Nat.beq_eq,decide_eq_true_eq,<-hm0]
   exact⟨fun h=>Ai he.nodup hu hk h,fun h=>by rw[h]⟩
  |_=>simp[CX,Ty.av,↓zq,zs,ae,hp,hn,bK,eE]
end Go.Proofs.Trees
namespace Go.Proofs.Trees
open Go Go.VL Go.RowKit
theorem Am(b:Int)(a:AV)(h:LK.ptr.has a):an Tryz.prog 78 [.v (.int .u8 b),a] [] (bK (.ptr [.v (.int .u8 b),.v (.string (mk [])),a,gJ])):=by
 refine Ru _ _ h ?_
 simp[Jk,↓zq,zs,ae,bK]
end Go.Proofs.Trees
namespace Go.Proofs.Trees
open Go Go.VL Go.RowKit
def gF(l:List Hl):List (List AV):=l.map fun h=>[h.1.cD,h.2.cD]
theorem ek(l:List Hl):(gF l).length=l.length:=by simp[gF]
theorem lO{l:List Hl}{i:Nat}(hi:i<l.length):(gF l).getD i []=[(l[i]).1.cD,(l[i]).2.cD]:=by simp[gF,aa,hi]
theorem o0(out:List Hl)(a b:Vl):gF out++[[a.cD,b.cD]]=gF (out++[(a,b)]):=by simp[gF]
theorem gp(g:Vl->Vl)(l:List Hl){i:Nat}(hi:i<l.length):iI g (l.drop i)=(g (l[i]).1,(l[i]).2)::iI g (l.drop (i+1)):=by
 rw[aU hi];rfl
theorem fQ(g:Vl->Vl)(l:List Hl):(iI g l).length=l.length:=by simp[iI]
theorem A1(a b:AV):cB 2 [[a,b]]:=fun c hc=>by simp at hc;rw[hc];rfl
theorem Nq(x0:AV)(hx0:LK.ptr.has x0)(g:Vl->Vl)(hg:∀c:Vl,an Tryz.prog 112 [c.cD,.ref 0 0] [.cells [x0]] (df (g c).cD [.cells [x0]]))(l:List Hl):∀(k i:Nat) (out:List Hl),i+k=l.length->out.length+k<=1000000->l.length<=1000000 ->
 Hy [.sl (gF l),.v (.int .i64 (l.length:Int)),.v (.int .i64 (i:Int))] [.cells [x0],.cells [.any],.vec 2 (gF out)] (gV 1 [] [.cells [x0],.cells [.any],.vec 2 (gF (out++iI g (l.drop i)))])
 |
  0,i,out,hi,ho,hl=>by
  refine Ka _ _ _ _ _ ?_
  have:i=l.length:=by omega
  subst this
  simp only[G5,↓zq,zs,ae,ek,hx0]
  exact⟨fun h=>by omega,fun _=>by simp[gV,iI]⟩
 |
  k+1,i,out,hi,ho,hl=>by
  have hlt:i<l.length:=by omega
  refine Ka _ _ _ _ _ ?_
  simp only[G5,↓zq,zs,ae,zt,ek,lO hlt,aM,bF,hx0]
  refine⟨fun _=>⟨by omega,by omega,?_⟩,fun h=>by omega⟩
  refine aV (hg _) ?_
  simp only[↓zq,zs,ae,aM,aJ,bK,df,hx0]
  refine⟨⟨A1 _ _,by omega⟩,?_⟩
  rw[bA i (by omega)]
  have:=Nq x0 hx0 g hg l k (i+1) (out++[(g (l[i]).1,(l[i]).2)]) (by omega) (by simp;omega) hl
  rw[ba]at this
  rw[gp g l hlt,o0]
  exact this
theorem Lq(x0:AV)(hx0:LK.ptr.has x0)(g:Vl->Vl)(hg:∀c:Vl,an Tryz.prog 112 [c.cD,.ref 0 0] [.cells [x0]] (df (g c).cD [.cells [x0]]))(l out:List Hl)(hl:out.length+l.length<=1000000) :
 an Tryz.prog 111 [.sl (gF l),.fn 112 [.ref 0 0],.ref 1 0] [.cells [x0],.cells [.vec 2],.vec 2 (gF out)] (df .any [.cells [x0],.cells [.vec 2],.vec 2 (gF (out++iI g l))]):=by
 refine QI _ _ _ ((cf _).mpr trivial) hx0 ?_
 simp only[KR,↓zq,zs,ae,ek]
 have h:=Nq x0 hx0 g hg l l.length 0 out (by omega) (by omega) (by omega)
 rw[bf]at h
 refine cz h ?_
 simp[↓zq,zs,ae,df,aJ,hx0]
theorem LS(x0:AV)(hx0:LK.ptr.has x0)(g:Vl->Vl)(hg:∀c:Vl,an Tryz.prog 113 [c.cD,.ref 0 0] [.cells [x0]] (df (g c).cD [.cells [x0]]))(l:List Hl):∀(k i:Nat) (out:List Hl),i+k=l.length->out.length+k<=1000000->l.length<=1000000 ->
 FL [.sl (gF l),.v (.int .i64 (l.length:Int)),.v (.int .i64 (i:Int))] [.cells [x0],.cells [.any],.vec 2 (gF out)] (gV 1 [] [.cells [x0],.cells [.any],.vec 2 (gF (out++iI g (l.drop i)))])
 |
  0,i,out,hi,ho,hl=>by
  refine MN _ _ _ _ _ ?_
  have:i=l.length:=by omega
  subst this
  simp only[Gr,↓zq,zs,ae,ek,hx0]
  exact⟨fun h=>by omega,fun _=>by simp[gV,iI]⟩
 |
  k+1,i,out,hi,ho,hl=>by
  have hlt:i<l.length:=by omega
  refine MN _ _ _ _ _ ?_
  simp only[Gr,↓zq,zs,ae,zt,ek,lO hlt,aM,bF,hx0]
  refine⟨fun _=>⟨by omega,by omega,?_⟩,fun h=>by omega⟩
  refine aV (hg _) ?_
  simp only[↓zq,zs,ae,aM,aJ,bK,df,hx0]
  refine⟨⟨A1 _ _,by omega⟩,?_⟩
  rw[bA i (by omega)]
  have:=LS x0 hx0 g hg l k (i+1) (out++[(g (l[i]).1,(l[i]).2)]) (by omega) (by simp;omega) hl
  rw[ba]at this
  rw[gp g l hlt,o0]
  exact this
theorem R6(x0:AV)(hx0:LK.ptr.has x0)(g:Vl->Vl)(hg:∀c:Vl,an Tryz.prog 113 [c.cD,.ref 0 0] [.cells [x0]] (df (g c).cD [.cells [x0]]))(l out:List Hl)(hl:out.length+l.length<=1000000) :
 an Tryz.prog 111 [.sl (gF l),.fn 113 [.ref 0 0],.ref 1 0] [.cells [x0],.cells [.vec 2],.vec 2 (gF out)] (df .any [.cells [x0],.cells [.vec 2],.vec 2 (gF (out++iI g l))]):=by
 refine Q6 _ _ _ ((cf _).mpr trivial) hx0 ?_
 simp only[Ky,↓zq,zs,ae,ek]
 have h:=LS x0 hx0 g hg l l.length 0 out (by omega) (by omega) (by omega)
 rw[bf]at h
 refine cz h ?_
 simp[↓zq,zs,ae,df,aJ,hx0]
theorem LY(x0:AV)(hx0:LK.ptr.has x0)(g:Vl->Vl)(hg:∀c:Vl,an Tryz.prog 114 [c.cD,.ref 0 0] [.cells [x0]] (df (g c).cD [.cells [x0]]))(l:List Hl):∀(k i:Nat) (out:List Hl),i+k=l.length->out.length+k<=1000000->l.length<=1000000 ->
 II [.sl (gF l),.v (.int .i64 (l.length:Int)),.v (.int .i64 (i:Int))] [.cells [x0],.cells [.any],.vec 2 (gF out)] (gV 1 [] [.cells [x0],.cells [.any],.vec 2 (gF (out++iI g (l.drop i)))])
 |
  0,i,out,hi,ho,hl=>by
  refine KF _ _ _ _ _ ?_
  have:i=l.length:=by omega
  subst this
  simp only[Gg,↓zq,zs,ae,ek,hx0]
  exact⟨fun h=>by omega,fun _=>by simp[gV,iI]⟩
 |
  k+1,i,out,hi,ho,hl=>by
  have hlt:i<l.length:=by omega
  refine KF _ _ _ _ _ ?_
  simp only[Gg,↓zq,zs,ae,zt,ek,lO hlt,aM,bF,hx0]
  refine⟨fun _=>⟨by omega,by omega,?_⟩,fun h=>by omega⟩
  refine aV (hg _) ?_
  simp only[↓zq,zs,ae,aM,aJ,bK,df,hx0]
  refine⟨⟨A1 _ _,by omega⟩,?_⟩
  rw[bA i (by omega)]
  have:=LY x0 hx0 g hg l k (i+1) (out++[(g (l[i]).1,(l[i]).2)]) (by omega) (by simp;omega) hl
  rw[ba]at this
  rw[gp g l hlt,o0]
  exact this
theorem PO(x0:AV)(hx0:LK.ptr.has x0)(g:Vl->Vl)(hg:∀c:Vl,an Tryz.prog 114 [c.cD,.ref 0 0] [.cells [x0]] (df (g c).cD [.cells [x0]]))(l out:List Hl)(hl:out.length+l.length<=1000000) :
 an Tryz.prog 111 [.sl (gF l),.fn 114 [.ref 0 0],.ref 1 0] [.cells [x0],.cells [.vec 2],.vec 2 (gF out)] (df .any [.cells [x0],.cells [.vec 2],.vec 2 (gF (out++iI g l))]):=by
 refine RV _ _ _ ((cf _).mpr trivial) hx0 ?_
 simp only[KA,↓zq,zs,ae,ek]
 have h:=LY x0 hx0 g hg l l.length 0 out (by omega) (by omega) (by omega)
 rw[bf]at h
 refine cz h ?_
 simp[↓zq,zs,ae,df,aJ,hx0]
theorem Mf(g:Vl->Vl)(hg:∀c:Vl,an Tryz.prog 115 [c.cD] [] (bK (g c).cD))(l:List Hl):∀(k i:Nat) (out:List Hl),i+k=l.length->out.length+k<=1000000->l.length<=1000000 ->
 Fa [.v (.func (.func 115) #[] #[]),.sl (gF l),.v (.int .i64 (l.length:Int)),.v (.int .i64 (i:Int))] [.cells [.any],.vec 2 (gF out)] (gV 1 [] [.cells [.any],.vec 2 (gF (out++iI g (l.drop i)))])
 |
  0,i,out,hi,ho,hl=>by
  refine N8 _ _ _ _ ?_
  have:i=l.length:=by omega
  subst this
  simp only[Gf,↓zq,zs,ae,ek]
  exact⟨fun h=>by omega,fun _=>by simp[gV,iI]⟩
 |
  k+1,i,out,hi,ho,hl=>by
  have hlt:i<l.length:=by omega
  refine N8 _ _ _ _ ?_
  simp only[Gf,↓zq,zs,ae,zt,ek,lO hlt,aM,bF]
  refine⟨fun _=>⟨by omega,by omega,?_⟩,fun h=>by omega⟩
  refine ai (hg _) ?_
  simp only[↓zq,zs,ae,aM,aJ,bK,df]
  refine⟨⟨A1 _ _,by omega⟩,?_⟩
  rw[bA i (by omega)]
  have:=Mf g hg l k (i+1) (out++[(g (l[i]).1,(l[i]).2)]) (by omega) (by simp;omega) hl
  rw[ba]at this
  rw[gp g l hlt,o0]
  exact this
theorem Qq(g:Vl->Vl)(hg:∀c:Vl,an Tryz.prog 115 [c.cD] [] (bK (g c).cD))(l out:List Hl)(hl:out.length+l.length<=1000000) :
 an Tryz.prog 111 [.sl (gF l),.v (.func (.func 115) #[] #[]),.ref 0 0] [.cells [.vec 1],.vec 2 (gF out)] (df .any [.cells [.vec 1],.vec 2 (gF (out++iI g l))]):=by
 refine Rm _ _ ((cf _).mpr trivial) ?_
 simp only[KU,↓zq,zs,ae,ek]
 have h:=Mf g hg l l.length 0 out (by omega) (by omega) (by omega)
 rw[bf]at h
 refine cz h ?_
 simp[↓zq,zs,ae,df,aJ]
theorem LN(x0:AV)(x1:AV)(hx0:LK.ptr.has x0)(hx1:LK.ptr.has x1)(g:Vl->Vl)(hg:∀c:Vl,an Tryz.prog 116 [c.cD,.ref 0 0] [.cells [x0,x1]] (df (g c).cD [.cells [x0,x1]]))(l:List Hl):∀(k i:Nat) (out:List Hl),i+k=l.length->out.length+k<=1000000->l.length<=1000000 ->
 F5 [.sl (gF l),.v (.int .i64 (l.length:Int)),.v (.int .i64 (i:Int))] [.cells [x0,x1],.cells [.any],.vec 2 (gF out)] (gV 1 [] [.cells [x0,x1],.cells [.any],.vec 2 (gF (out++iI g (l.drop i)))])
 |
  0,i,out,hi,ho,hl=>by
  refine MO _ _ _ _ _ _ ?_
  have:i=l.length:=by omega
  subst this
  simp only[H7,↓zq,zs,ae,ek,hx0,hx1]
  exact⟨fun h=>by omega,fun _=>by simp[gV,iI]⟩
 |
  k+1,i,out,hi,ho,hl=>by
  have hlt:i<l.length:=by omega
  refine MO _ _ _ _ _ _ ?_
  simp only[H7,↓zq,zs,ae,zt,ek,lO hlt,aM,bF,hx0,hx1]
  refine⟨fun _=>⟨by omega,by omega,?_⟩,fun h=>by omega⟩
  refine aV (hg _) ?_
  simp only[↓zq,zs,ae,aM,aJ,bK,df,hx0,hx1]
  refine⟨⟨A1 _ _,by omega⟩,?_⟩
  rw[bA i (by omega)]
  have:=LN x0 x1 hx0 hx1 g hg l k (i+1) (out++[(g (l[i]).1,(l[i]).2)]) (by omega) (by simp;omega) hl
  rw[ba]at this
  rw[gp g l hlt,o0]
  exact this
theorem SU(x0:AV)(x1:AV)(hx0:LK.ptr.has x0)(hx1:LK.ptr.has x1)(g:Vl->Vl)(hg:∀c:Vl,an Tryz.prog 116 [c.cD,.ref 0 0] [.cells [x0,x1]] (df (g c).cD [.cells [x0,x1]]))(l out:List Hl)(hl:out.length+l.length<=1000000) :
 an Tryz.prog 111 [.sl (gF l),.fn 116 [.ref 0 0],.ref 1 0] [.cells [x0,x1],.cells [.vec 2],.vec 2 (gF out)] (df .any [.cells [x0,x1],.cells [.vec 2],.vec 2 (gF (out++iI g l))]):=by
 refine SQ _ _ _ _ ((cf _).mpr trivial) hx0 hx1 ?_
 simp only[Jb,↓zq,zs,ae,ek]
 have h:=LN x0 x1 hx0 hx1 g hg l l.length 0 out (by omega) (by omega) (by omega)
 rw[bf]at h
 refine cz h ?_
 simp[↓zq,zs,ae,df,aJ,hx0,hx1]
theorem PW(w c:Vl):an Tryz.prog 112 [c.cD,.ref 0 0] [.cells [(Vl.l w).cD]] (df (Vl.l c).cD [.cells [(Vl.l w).cD]]):=by
 refine Ok _ _ ((aM _).mpr trivial) ((aM _).mpr trivial) ?_
 simp only[HK,Vl.cD,↓zq,zs,ae,aM]
 refine⟨by omega,?_⟩
 refine ai (Am _ _ ((aM _).mpr trivial)) ?_
 simp[↓zq,zs,ae,df,Vl.cD]
theorem QG(w c:Vl):an Tryz.prog 112 [c.cD,.ref 0 0] [.cells [(Vl.r w).cD]] (df (Vl.r c).cD [.cells [(Vl.r w).cD]]):=by
 refine Ok _ _ ((aM _).mpr trivial) ((aM _).mpr trivial) ?_
 simp only[HK,Vl.cD,↓zq,zs,ae,aM]
 refine⟨by omega,?_⟩
 refine ai (Am _ _ ((aM _).mpr trivial)) ?_
 simp[↓zq,zs,ae,df,Vl.cD]
theorem Pt(x y c:Vl):an Tryz.prog 113 [c.cD,.ref 0 0] [.cells [(Vl.p x y).cD]] (df (Vl.l (.p c y)).cD [.cells [(Vl.p x y).cD]]):=by
 refine RX _ _ ((aM _).mpr trivial) ((aM _).mpr trivial) ?_
 simp only[JL,Vl.cD,↓zq,zs,ae,aM]
 refine⟨by omega,?_⟩
 refine ai (Ap _ _ ((aM _).mpr trivial) ((aM _).mpr trivial)) ?_
 simp only[↓zq,zs,ae]
 refine ai (Am _ _ ((cb _).mpr trivial)) ?_
 simp[↓zq,zs,ae,df,Vl.cD]
theorem PE(x y c:Vl):an Tryz.prog 114 [c.cD,.ref 0 0] [.cells [(Vl.p x y).cD]] (df (Vl.r (.p x c)).cD [.cells [(Vl.p x y).cD]]):=by
 refine Qp _ _ ((aM _).mpr trivial) ((aM _).mpr trivial) ?_
 simp only[Nd,Vl.cD,↓zq,zs,ae,aM]
 refine⟨by omega,?_⟩
 refine ai (Ap _ _ ((aM _).mpr trivial) ((aM _).mpr trivial)) ?_
 simp only[↓zq,zs,ae]
 refine ai (Am _ _ ((cb _).mpr trivial)) ?_
 simp[↓zq,zs,ae,df,Vl.cD]
theorem Qd(kc kv c:Vl):an Tryz.prog 116 [c.cD,.ref 0 0] [.cells [kc.cD,kv.cD]] (df (Vl.f (.r (.p kc c))).cD [.cells [kc.cD,kv.cD]]):=by
 refine RI _ _ _ ((aM _).mpr trivial) ((aM _).mpr trivial) ((aM _).mpr trivial) ?_
 simp only[JP,Vl.cD,↓zq,zs,ae,aM]
 refine ai (Ap _ _ ((aM _).mpr trivial) ((aM _).mpr trivial)) ?_
 simp only[↓zq,zs,ae]
 refine ai (Am _ _ ((cb _).mpr trivial)) ?_
 simp only[↓zq,zs,ae]
 refine ai (Am _ _ ((cb _).mpr trivial)) ?_
 simp[↓zq,zs,ae,df,Vl.cD,aM]
theorem RA(c:Vl):an Tryz.prog 115 [c.cD] [] (bK (Vl.f (.l c)).cD):=by
 refine PV _ ((aM _).mpr trivial) ?_
 simp only[JY,↓zq,zs,ae]
 refine ai (Am _ _ ((aM _).mpr trivial)) ?_
 simp only[↓zq,zs,ae]
 refine ai (Am _ _ ((cb _).mpr trivial)) ?_
 simp[↓zq,zs,ae,bK,Vl.cD]
end Go.Proofs.Trees
namespace Go.Proofs.Trees
open Go Go.VL Go.RowKit
abbrev Av(a:Ty)(tg:Tg):Hl->List Hl:=fun h=>iI (fun c=>.f (.r (.p h.1 c))) (cm (.rc a) tg h.2)
theorem Cm(l:List Hl){i:Nat}(hi:i<l.length):l[i]∈l:=bD _
def Hu(t:Ty)(ea:AV)(s:List UInt8)(fr:AV)(tg:Tg)(v:Vl):Prop:=an Tryz.prog 80 [.agg [t.av,ea],v.cD,.agg [.v (.string (mk s)),fr]] [] (bK (.sl (gF (cm t tg v))))
theorem KC(a:Ty)(ea:AV)(s:List UInt8)(fr:AV)(tg:Tg)(he:LK.ptr.has ea)(hf:LK.ptr.has fr)(l:List Hl)(hl:l.length<=1000000)(ih:∀h,h∈l->Hu (.rc a) ea s fr tg h.2) :
 ∀(k i:Nat) (out:List Hl),i+k=l.length->(out++(l.drop i).flatMap (Av a tg)).length<=1000000 ->
 ID [.sl (gF l),.v (.int .i64 (l.length:Int)),.v (.int .i64 (i:Int))] [.cells [(Ty.rc a).av,ea],.cells [.v (.string (mk s)),fr],.cells [.any],.vec 2 (gF out)] (gV 1 [] [.cells [.any],.vec 2 (gF (out++(l.drop i).flatMap (Av a tg)))])
 |
  0,i,out,hi,ho=>by
  refine Je _ _ _ _ _ _ _ _ ?_
  have:i=l.length:=by omega
  subst this
  simp only[FN,↓zq,zs,ae,ek,aE,he,hf]
  exact⟨fun h=>by omega,fun _=>by simp[gV]⟩
 |
  k+1,i,out,hi,ho=>by
  have hlt:i<l.length:=by omega
  have hd:(l.drop i).flatMap (Av a tg)=Av a tg (l[i])++(l.drop (i+1)).flatMap (Av a tg):=by rw[aU hlt,List.flatMap_cons]
  rw[hd]at ho |-
  refine Je _ _ _ _ _ _ _ _ ?_
  simp only[FN,↓zq,zs,ae,zt,ek,lO hlt,aE,aM,bF,he,hf]
  refine⟨fun _=>⟨by omega,by omega,?_⟩,fun h=>by omega⟩
  refine ai (ih _ (Cm l hlt)) ?_
  simp only[↓zq,zs,ae]
  have hb:out.length+(cm (.rc a) tg (l[i]).2).length<=1000000:=by
   simp only[aq,fQ]at ho;omega
  refine aV (SU _ _ ((aM _).mpr trivial) ((aM _).mpr trivial) (fun c=>.f (.r (.p (l[i]).1 c))) (fun c=>Qd (l[i]).1 (l[i]).2 c) (cm (.rc a) tg (l[i]).2) out hb) ?_
  simp only[↓zq,zs,ae,aJ,aM]
  rw[bA i (by omega),<-ba]
  exact KC a ea s fr tg he hf l hl ih k (i+1) _ (by omega) (by rw[ba];exact ho)
end Go.Proofs.Trees
