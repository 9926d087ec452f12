/-
  Part of a proof: Go functions read by values, trees of functions, their contracts.
-/
import Derived.Test.YtggigekpnbafbaaGreatDoorP4
import Derived.Test.YtggigekpnbafbaaGreatDoorProg
import Derived.Lib.Atoi
set_option linter.unusedVariables false
set_option linter.unusedSimpArgs false
open And renaming intro→aI
open Bool renaming and_eq_true→az,eq_iff_iff→cF,or_eq_true→bD,true_and→cn
open ByteArray renaming size→af,toList→ae
open Int renaming tmod→da,toNat→bq,toNat_natCast→bR
open List renaming all_cons→cT,any_eq_true→cf,append_assoc→bK,append_nil→cR,cons_append→aW,drop_eq_getElem_cons→aY,drop_eq_nil_of_le→bP,drop_zero→bG,eq_nil_of_length_eq_zero→bV,getD_cons_zero→bp,getD_eq_getElem?_getD→aa,getElem?_eq_getElem→bg,getElem_mem→bN,headD_cons→aP,length_append→aq,length_cons→au,length_drop→cm,length_nil→aG,map_cons→bz,mem_append→aK,mem_append_left→aC,mem_cons→aH,mem_cons_of_mem→al,mem_cons_self→ai,mem_map→bJ,mem_singleton→aS,nil_append→aT
open Nat renaming beq→aJ,le_add_right→cU,le_refl→aw,mul_add→cM,mul_one→dq,zero_add→aZ,zero_le→dN
open Option renaming bind_eq_some_iff→bc,isSome_none→bC,map_some→cu
open UInt8 renaming ofNat→a8
namespace Go.Proofs.Trees
open Go Go.VL
noncomputable section
variable {R:AV->List Ob->Prop}{U:RL}
def Ik(a0_0:ByteArray)(a0_1:AV)(a1:AV):Tree :=
 NL a1<|.loop K2 Fs [a1,VI (IntKind.wrap .i64 ((a1.elems.length:Int)-1))] [.cells [VS a0_0,a0_1],.cells [VS (mk []),.v (.slice none 0 0)]] (fun y1 q1=>NL (y1.hA)<|.aj ((q1.hO)=.cells (q1.hO).cs)<|.aj (ag [.lk .str,.lk .sl] ((q1.hO).cs) 0 q1.tail)<|.aj (((q1.tail.drop 0).hO)=.cells ((q1.tail.drop 0).hO).cs)<|.aj (ag [.lk .str,.lk .sl] (((q1.tail.drop 0).hO).cs) 0 ((q1.tail.drop 0).tail))<|.done 0 [.cy [.agg [VS (((q1.hO).cs.getD 0 .any).toStr),((q1.hO).cs.getD 1 .any)],(y1.hA)]] []) (fun y1 q1=>NL (y1.hA)<|.aj ((q1.hO)=.cells (q1.hO).cs)<|.aj (ag [.lk .str,.lk .sl] ((q1.hO).cs) 0 q1.tail)<|.done 0 [.cy [.agg [VS (((q1.hO).cs.getD 0 .any).toStr),((q1.hO).cs.getD 1 .any)],(y1.hA)]] [])
theorem OW(a0_0:ByteArray)(a0_1:AV)(a1:AV)(ha0_1:LK.has .sl a0_1)(ha1:LK.has .sl a1)(h:dj 34 (Ik a0_0 a0_1 a1) R):an Tryz.prog 212 [.agg [VS a0_0,a0_1],a1] [] R :=
 uQ (ah (cj (ah (aA _) (ah (bT ha0_1) aD))) (ah (bT ha1) aD)) (oQ Nc Tryz.f212 h)
def Fl(x1:AV)(x6:Int)(o2_0:ByteArray)(o2_1:AV)(o4_0:ByteArray)(o4_1:AV):Tree :=
 NL x1<|NI (VI x6)<|.aj (Ob.cells [VS o2_0,o2_1]=.cells [VS o2_0,o2_1])<|.aj (ag [.lk .str,.lk .sl] [VS o2_0,o2_1] 0 [.cells [VS o4_0,o4_1]])<|.aj (Ob.cells [VS o4_0,o4_1]=.cells [VS o4_0,o4_1])<|.aj (ag [.lk .str,.lk .sl] [VS o4_0,o4_1] 0 [])<|.test (decide (x6≥(0:Int))) (NG x1 x6 4<|kS (x1.ix x6)<|.test (ae (((x1.ix x6).hA).toStr)==ae o2_0) (NG x1 x6 4<|NE ((x1.ix x6).drop 1)<|NG x1 x6 4<|oT ((x1.ix x6).drop 3)<|.done 2 [(((x1.ix x6).drop 3).hA)] [.cells [VS ((((x1.ix x6).drop 1).getD 0 .any).toStr),(((x1.ix x6).drop 1).getD 1 .any)]]) (.done 0 [x1,VI (IntKind.wrap .i64 (x6-1))] [.cells [VS o2_0,o2_1],.cells [VS o4_0,o4_1]])) (.done 1 [x1] [.cells [VS o2_0,o2_1],.cells [VS o4_0,o4_1]])
abbrev E2:=cH Tryz.prog 34 K2 Fs
theorem Kr(x1:AV)(x6:Int)(o2_0:ByteArray)(o2_1:AV)(o4_0:ByteArray)(o4_1:AV)(h:mi 34 (Fl x1 x6 o2_0 o2_1 o4_0 o4_1) E2 U):E2 [x1,VI x6] [.cells [VS o2_0,o2_1],.cells [VS o4_0,o4_1]] U :=
 gQ Nc h
def B3:LI:={hd:={bZ:=[(0,.k .str),(3,.k (.int .i64)),(4,.k (.int .i64))]},xs:={bZ:=[(3,.k (.int .i64))]},rt:={bZ:=[(2,.k (.int .i64))]},ex:=0}
def CC:Code:=db (cQ Tryz.f213) 5
def Lv:List (Nat×LI):=[(5,B3)]
def Ii(a0:ByteArray):Tree :=
 .call 168 [VI (af a0:Int),VI 2,VI 3] [] fun r1 o1=>NB r1<|.test (!r1.toBool) (.done 0 [VI (-1)] []) (.aj (0<=(0:Int)/\(0:Int)<af a0)<|.test ((bt a0 0) != (101:Int)) (.done 0 [VI (-1)] []) (.test ((af a0:Int)==(3:Int)) (.aj (0<=(1:Int)/\(1:Int)<af a0)<|.test ((bt a0 1)==(48:Int)) (.done 0 [VI (-1)] []) (.loop CC B3 [VS a0,VI 0,VI 1] [] (fun y2 q2=>NI (y2.hA)<|.done 0 [VI ((y2.hA).toInt)] []) (fun y2 q2=>NI (y2.hA)<|.done 0 [VI ((y2.hA).toInt)] []))) (.loop CC B3 [VS a0,VI 0,VI 1] [] (fun y3 q3=>NI (y3.hA)<|.done 0 [VI ((y3.hA).toInt)] []) (fun y3 q3=>NI (y3.hA)<|.done 0 [VI ((y3.hA).toInt)] []))))
theorem OK(a0:ByteArray)(h:dj 49 (Ii a0) R):an Tryz.prog 213 [VS a0] [] R :=
 uQ (ah (aA _) aD) (oQ Lv Tryz.f213 h)
def Gl(x0:ByteArray)(x3:Int)(x4:Int):Tree :=
 NS (VS x0)<|NI (VI x3)<|NI (VI x4)<|.test (decide (x4<(af x0:Int))) (.aj (0<=x4/\x4<af x0)<|.test (decide ((bt x0 x4)<(48:Int))) (.done 2 [VI (-1)] []) (.aj (0<=x4/\x4<af x0)<|.test (decide ((bt x0 x4)>(57:Int))) (.done 2 [VI (-1)] []) (.aj (0<=x4/\x4<af x0)<|.done 0 [VS x0,VI (IntKind.wrap .i64 ((IntKind.wrap .i64 (10*x3))+(IntKind.wrap .i64 (IntKind.wrap .u8 ((bt x0 x4)-48))))),VI (IntKind.wrap .i64 (x4+1))] []))) (.done 1 [VI x3] [])
abbrev Gk:=cH Tryz.prog 49 CC B3
theorem Nf(x0:ByteArray)(x3:Int)(x4:Int)(h:mi 49 (Gl x0 x3 x4) Gk U):Gk [VS x0,VI x3,VI x4] [] U :=
 gQ Lv h
def LC(a0_0:ByteArray)(a0_1:AV)(a1:AV):Tree :=
 NG a0_1 2 2<|NE (a0_1.ix (2:Int))<|.aj (LK.has .sl a1/\cV 4 a1.elems/\((([]:List (List AV)).length)+a1.elems.length)*80<=140737488355328)<|NG a0_1 1 2<|kS (a0_1.ix (1:Int))<|.aj (cV 4 [[VS (((a0_1.ix (1:Int)).hA).toStr),VS a0_0,a0_1,a1]]/\(((([]:List (List AV))++a1.elems).length)+([[VS (((a0_1.ix (1:Int)).hA).toStr),VS a0_0,a0_1,a1]]:List (List AV)).length)*80<=140737488355328)<|.done 0 [.cy [.agg [VS (((a0_1.ix (2:Int)).getD 0 .any).toStr),((a0_1.ix (2:Int)).getD 1 .any)],.sl ((([]:List (List AV))++a1.elems)++([[VS (((a0_1.ix (1:Int)).hA).toStr),VS a0_0,a0_1,a1]]:List (List AV)))]] []
theorem OJ(a0_0:ByteArray)(a0_1:AV)(a1:AV)(ha0_1:LK.has .sl a0_1)(ha1:LK.has .sl a1)(h:dj 23 (LC a0_0 a0_1 a1) R):an Tryz.prog 214 [.agg [VS a0_0,a0_1],a1] [] R :=
 uQ (ah (cj (ah (aA _) (ah (bT ha0_1) aD))) (ah (bT ha1) aD)) (oQ [] Tryz.f214 h)
def DD(a0_0:ByteArray)(a0_1:AV)(a1:ByteArray)(a2_0:ByteArray)(a2_1:AV)(a3_0:ByteArray)(a3_1:AV):Tree :=
 .test (!(ae a0_0==ae (mk []))) (.done 0 [.agg [VS a3_0,a3_1]] []) (NG a2_1 1 2<|NE (a2_1.ix (1:Int))<|.call 104 [.agg [VS a0_0,a0_1]] [] fun r1 o1=>NS r1<|.call 104 [.agg [VS a2_0,a2_1]] [] fun r2 o2=>NS r2<|.aj (af r1.toStr+af r2.toStr<=9223372036854775807)<|.test (ae ((r1.toStr:ByteArray)++r2.toStr)==ae (mk [43,108])) (NG a0_1 1 2<|NE (a0_1.ix (1:Int))<|.call 215 [.agg [VS (((a0_1.ix (1:Int)).getD 0 .any).toStr),((a0_1.ix (1:Int)).getD 1 .any)],VS a1,.agg [VS (((a2_1.ix (1:Int)).getD 0 .any).toStr),((a2_1.ix (1:Int)).getD 1 .any)],.agg [VS a3_0,a3_1]] [] fun r3 o3=>NA r3<|.call 107 [VS (mk [108]),.sl [[VS ((r3.cs.getD 0 .any).toStr),(r3.cs.getD 1 .any)]]] [] fun r4 o4=>NA r4<|.done 0 [.agg [VS ((r4.cs.getD 0 .any).toStr),(r4.cs.getD 1 .any)]] []) (.test (ae ((r1.toStr:ByteArray)++r2.toStr)==ae (mk [43,114])) (NG a0_1 2 2<|NE (a0_1.ix (2:Int))<|.call 215 [.agg [VS (((a0_1.ix (2:Int)).getD 0 .any).toStr),((a0_1.ix (2:Int)).getD 1 .any)],VS a1,.agg [VS (((a2_1.ix (1:Int)).getD 0 .any).toStr),((a2_1.ix (1:Int)).getD 1 .any)],.agg [VS a3_0,a3_1]] [] fun r5 o5=>NA r5<|.call 107 [VS (mk [114]),.sl [[VS ((r5.cs.getD 0 .any).toStr),(r5.cs.getD 1 .any)]]] [] fun r6 o6=>NA r6<|.done 0 [.agg [VS ((r6.cs.getD 0 .any).toStr),(r6.cs.getD 1 .any)]] []) (.test (ae ((r1.toStr:ByteArray)++r2.toStr)==ae (mk [42,108])) (NG a0_1 1 2<|NE (a0_1.ix (1:Int))<|NG ((a2_1.ix (1:Int)).getD 1 .any) 1 2<|NE (((a2_1.ix (1:Int)).getD 1 .any).ix (1:Int))<|.call 215 [.agg [VS (((a0_1.ix (1:Int)).getD 0 .any).toStr),((a0_1.ix (1:Int)).getD 1 .any)],VS a1,.agg [VS (((((a2_1.ix (1:Int)).getD 1 .any).ix (1:Int)).getD 0 .any).toStr),((((a2_1.ix (1:Int)).getD 1 .any).ix (1:Int)).getD 1 .any)],.agg [VS a3_0,a3_1]] [] fun r7 o7=>NA r7<|NG ((a2_1.ix (1:Int)).getD 1 .any) 2 2<|NE (((a2_1.ix (1:Int)).getD 1 .any).ix (2:Int))<|.call 107 [VS (mk [112]),.sl [[VS ((r7.cs.getD 0 .any).toStr),(r7.cs.getD 1 .any)],[VS (((((a2_1.ix (1:Int)).getD 1 .any).ix (2:Int)).getD 0 .any).toStr),((((a2_1.ix (1:Int)).getD 1 .any).ix (2:Int)).getD 1 .any)]]] [] fun r8 o8=>NA r8<|.done 0 [.agg [VS ((r8.cs.getD 0 .any).toStr),(r8.cs.getD 1 .any)]] []) (.test (ae ((r1.toStr:ByteArray)++r2.toStr)==ae (mk [42,114])) (NG ((a2_1.ix (1:Int)).getD 1 .any) 1 2<|NE (((a2_1.ix (1:Int)).getD 1 .any).ix (1:Int))<|NG a0_1 2 2<|NE (a0_1.ix (2:Int))<|NG ((a2_1.ix (1:Int)).getD 1 .any) 2 2<|NE (((a2_1.ix (1:Int)).getD 1 .any).ix (2:Int))<|.call 215 [.agg [VS (((a0_1.ix (2:Int)).getD 0 .any).toStr),((a0_1.ix (2:Int)).getD 1 .any)],VS a1,.agg [VS (((((a2_1.ix (1:Int)).getD 1 .any).ix (2:Int)).getD 0 .any).toStr),((((a2_1.ix (1:Int)).getD 1 .any).ix (2:Int)).getD 1 .any)],.agg [VS a3_0,a3_1]] [] fun r9 o9=>NA r9<|.call 107 [VS (mk [112]),.sl [[VS (((((a2_1.ix (1:Int)).getD 1 .any).ix (1:Int)).getD 0 .any).toStr),((((a2_1.ix (1:Int)).getD 1 .any).ix (1:Int)).getD 1 .any)],[VS ((r9.cs.getD 0 .any).toStr),(r9.cs.getD 1 .any)]]] [] fun r10 o10=>NA r10<|.done 0 [.agg [VS ((r10.cs.getD 0 .any).toStr),(r10.cs.getD 1 .any)]] []) (.call 104 [.agg [VS (((a2_1.ix (1:Int)).getD 0 .any).toStr),((a2_1.ix (1:Int)).getD 1 .any)]] [] fun r11 o11=>NS r11<|.test (ae r11.toStr==ae (mk [108])) (NG a0_1 2 2<|NE (a0_1.ix (2:Int))<|NG ((a2_1.ix (1:Int)).getD 1 .any) 1 2<|NE (((a2_1.ix (1:Int)).getD 1 .any).ix (1:Int))<|.call 215 [.agg [VS (((a0_1.ix (2:Int)).getD 0 .any).toStr),((a0_1.ix (2:Int)).getD 1 .any)],VS a1,.agg [VS (((((a2_1.ix (1:Int)).getD 1 .any).ix (1:Int)).getD 0 .any).toStr),((((a2_1.ix (1:Int)).getD 1 .any).ix (1:Int)).getD 1 .any)],.agg [VS a3_0,a3_1]] [] fun r12 o12=>NA r12<|.call 107 [VS (mk [102]),.sl [[VS ((r12.cs.getD 0 .any).toStr),(r12.cs.getD 1 .any)]]] [] fun r13 o13=>NA r13<|.done 0 [.agg [VS ((r13.cs.getD 0 .any).toStr),(r13.cs.getD 1 .any)]] []) (NG ((a2_1.ix (1:Int)).getD 1 .any) 1 2<|NE (((a2_1.ix (1:Int)).getD 1 .any).ix (1:Int))<|NG ((((a2_1.ix (1:Int)).getD 1 .any).ix (1:Int)).getD 1 .any) 2 2<|NE (((((a2_1.ix (1:Int)).getD 1 .any).ix (1:Int)).getD 1 .any).ix (2:Int))<|.call 215 [.agg [VS a0_0,a0_1],VS a1,.agg [VS (((((((a2_1.ix (1:Int)).getD 1 .any).ix (1:Int)).getD 1 .any).ix (2:Int)).getD 0 .any).toStr),((((((a2_1.ix (1:Int)).getD 1 .any).ix (1:Int)).getD 1 .any).ix (2:Int)).getD 1 .any)],.agg [VS a3_0,a3_1]] [] fun r14 o14=>NA r14<|NG a0_1 2 2<|NE (a0_1.ix (2:Int))<|NG a0_1 1 2<|kS (a0_1.ix (1:Int))<|NG ((((a2_1.ix (1:Int)).getD 1 .any).ix (1:Int)).getD 1 .any) 1 2<|NE (((((a2_1.ix (1:Int)).getD 1 .any).ix (1:Int)).getD 1 .any).ix (1:Int))<|.call 215 [.agg [VS (((a0_1.ix (2:Int)).getD 0 .any).toStr),((a0_1.ix (2:Int)).getD 1 .any)],VS (((a0_1.ix (1:Int)).hA).toStr),.agg [VS (((((((a2_1.ix (1:Int)).getD 1 .any).ix (1:Int)).getD 1 .any).ix (1:Int)).getD 0 .any).toStr),((((((a2_1.ix (1:Int)).getD 1 .any).ix (1:Int)).getD 1 .any).ix (1:Int)).getD 1 .any)],.agg [VS ((r14.cs.getD 0 .any).toStr),(r14.cs.getD 1 .any)]] [] fun r15 o15=>NA r15<|.call 107 [VS (mk [102]),.sl [[VS ((r15.cs.getD 0 .any).toStr),(r15.cs.getD 1 .any)]]] [] fun r16 o16=>NA r16<|.done 0 [.agg [VS ((r16.cs.getD 0 .any).toStr),(r16.cs.getD 1 .any)]] []))))))
theorem Oh(a0_0:ByteArray)(a0_1:AV)(a1:ByteArray)(a2_0:ByteArray)(a2_1:AV)(a3_0:ByteArray)(a3_1:AV)(ha0_1:LK.has .sl a0_1)(ha2_1:LK.has .sl a2_1)(ha3_1:LK.has .sl a3_1)(h:dj 132 (DD a0_0 a0_1 a1 a2_0 a2_1 a3_0 a3_1) R):an Tryz.prog 215 [.agg [VS a0_0,a0_1],VS a1,.agg [VS a2_0,a2_1],.agg [VS a3_0,a3_1]] [] R :=
 uQ (ah (cj (ah (aA _) (ah (bT ha0_1) aD))) (ah (aA _) (ah (cj (ah (aA _) (ah (bT ha2_1) aD))) (ah (cj (ah (aA _) (ah (bT ha3_1) aD))) aD)))) (oQ [] Tryz.f215 h)
def Il(a0:Int):Tree :=
 .test (decide (a0≥(97:Int))) (.test (decide (a0<=(122:Int))) (.done 0 [VB true] []) (.test (decide (a0≥(48:Int))) (.test (decide (a0<=(57:Int))) (.done 0 [VB true] []) (.test (a0==(42:Int)) (.done 0 [VB true] []) (.done 0 [VB (a0==(43:Int))] []))) (.test (a0==(42:Int)) (.done 0 [VB true] []) (.done 0 [VB (a0==(43:Int))] [])))) (.test (decide (a0≥(48:Int))) (.test (decide (a0<=(57:Int))) (.done 0 [VB true] []) (.test (a0==(42:Int)) (.done 0 [VB true] []) (.done 0 [VB (a0==(43:Int))] []))) (.test (a0==(42:Int)) (.done 0 [VB true] []) (.done 0 [VB (a0==(43:Int))] [])))
theorem Ql(a0:Int)(h:dj 25 (Il a0) R):an Tryz.prog 234 [.v (.int .u8 a0)] [] R :=
 uQ (ah (aA _) aD) (oQ [] Tryz.f234 h)
def Gw:LI:={hd:={bZ:=[(17,.k (.int .i64))],refs:=[(4,4),(12,12),(14,14)],cr:=[(4,[.lk .str,.lk .sl]),(12,[.lk .str,.lk .sl]),(14,[.lk .str,.lk .sl])],gK:=[(16,1)]},xs:={bZ:=[(17,.k (.int .i64))],refs:=[(4,4),(12,12),(14,14)],cr:=[(4,[.lk .str,.lk .sl]),(12,[.lk .str,.lk .sl]),(14,[.lk .str,.lk .sl])]},rt:={},ex:=0}
def Jt:Code:=db (cQ Tryz.f238) 13
def LF:List (Nat×LI):=[(13,Gw)]
def MB(a0_0:ByteArray)(a0_1:AV)(a1:ByteArray):Tree :=
 .call 57 [.agg [VS a0_0,a0_1],.sl [[VS a1,.v (.slice none 0 0)]]] [] fun r1 o1=>NA r1<|NG (r1.cs.getD 1 .any) 1 2<|kS ((r1.cs.getD 1 .any).ix (1:Int))<|NG (r1.cs.getD 1 .any) 2 2<|NE ((r1.cs.getD 1 .any).ix (2:Int))<|.call 207 [.agg [VS ((((r1.cs.getD 1 .any).ix (2:Int)).getD 0 .any).toStr),(((r1.cs.getD 1 .any).ix (2:Int)).getD 1 .any)],VS a1] [] fun r2 o2=>NT r2<|.aj ((r2.comp 0)=.agg (r2.comp 0).cs/\(r2.comp 0).cs.length=2/\bF [.str,.sl] ((r2.comp 0).cs) 0)<|NB (r2.comp 1)<|NG (r1.cs.getD 1 .any) 2 2<|NE ((r1.cs.getD 1 .any).ix (2:Int))<|.call 207 [.agg [VS ((((r1.cs.getD 1 .any).ix (2:Int)).getD 0 .any).toStr),(((r1.cs.getD 1 .any).ix (2:Int)).getD 1 .any)],VS ((((r1.cs.getD 1 .any).ix (1:Int)).hA).toStr)] [] fun r3 o3=>NT r3<|.aj ((r3.comp 0)=.agg (r3.comp 0).cs/\(r3.comp 0).cs.length=2/\bF [.str,.sl] ((r3.comp 0).cs) 0)<|NB (r3.comp 1)<|.test (!((r2.comp 1).toBool)) (.done 0 [.cy [.agg [VS ((r1.cs.getD 0 .any).toStr),(r1.cs.getD 1 .any)],VB false]] []) (.test (!((r3.comp 1).toBool)) (.done 0 [.cy [.agg [VS ((r1.cs.getD 0 .any).toStr),(r1.cs.getD 1 .any)],VB false]] []) (.call 208 [.agg [VS (((r2.comp 0).cs.getD 0 .any).toStr),((r2.comp 0).cs.getD 1 .any)],VS ((((r1.cs.getD 1 .any).ix (1:Int)).hA).toStr),.agg [VS ((r1.cs.getD 0 .any).toStr),(r1.cs.getD 1 .any)]] [] fun r4 o4=>NT r4<|.aj ((r4.comp 0)=.agg (r4.comp 0).cs/\(r4.comp 0).cs.length=2/\bF [.str,.sl] ((r4.comp 0).cs) 0)<|NB (r4.comp 1)<|.call 208 [.agg [VS (((r3.comp 0).cs.getD 0 .any).toStr),((r3.comp 0).cs.getD 1 .any)],VS ((((r1.cs.getD 1 .any).ix (1:Int)).hA).toStr),.agg [VS ((r1.cs.getD 0 .any).toStr),(r1.cs.getD 1 .any)]] [] fun r5 o5=>NT r5<|.aj ((r5.comp 0)=.agg (r5.comp 0).cs/\(r5.comp 0).cs.length=2/\bF [.str,.sl] ((r5.comp 0).cs) 0)<|NB (r5.comp 1)<|.test (!((r4.comp 1).toBool)) (.done 0 [.cy [.agg [VS ((r1.cs.getD 0 .any).toStr),(r1.cs.getD 1 .any)],VB false]] []) (.test (!((r5.comp 1).toBool)) (.done 0 [.cy [.agg [VS ((r1.cs.getD 0 .any).toStr),(r1.cs.getD 1 .any)],VB false]] []) (.call 102 [.agg [VS (((r5.comp 0).cs.getD 0 .any).toStr),((r5.comp 0).cs.getD 1 .any)],.sl [],.vec 0] [.vec 1 []] fun r6 o6=>.aj (r6=.vec 1/\(o6.tail.hO)=.vec 1 (o6.tail.hO).es)<|.call 102 [.agg [VS (((r4.comp 0).cs.getD 0 .any).toStr),((r4.comp 0).cs.getD 1 .any)],.sl [],.vec 0] [.vec 1 ((o6.tail.hO).es)] fun r7 o7=>.aj (r7=.vec 1/\(o7.tail.hO)=.vec 1 (o7.tail.hO).es)<|.loop Jt Gw [VI 0] [.cells [VS (mk []),.v (.slice none 0 0)],.cells [VS (((r4.comp 0).cs.getD 0 .any).toStr),((r4.comp 0).cs.getD 1 .any)],.cells [VS (((r5.comp 0).cs.getD 0 .any).toStr),((r5.comp 0).cs.getD 1 .any)],.vec 1 ((o7.tail.hO).es)] (fun y10 q10=>NI (y10.hA)<|.aj ((q10.hO)=.cells (q10.hO).cs)<|.aj (ag [.lk .str,.lk .sl] ((q10.hO).cs) 0 q10.tail)<|.aj (((q10.tail.drop 0).hO)=.cells ((q10.tail.drop 0).hO).cs)<|.aj (ag [.lk .str,.lk .sl] (((q10.tail.drop 0).hO).cs) 0 ((q10.tail.drop 0).tail))<|.aj ((((q10.tail.drop 0).tail.drop 0).hO)=.cells (((q10.tail.drop 0).tail.drop 0).hO).cs)<|.aj (ag [.lk .str,.lk .sl] ((((q10.tail.drop 0).tail.drop 0).hO).cs) 0 (((q10.tail.drop 0).tail.drop 0).tail))<|.call 109 [VI ((y10.hA).toInt)] [] fun r11 o11=>NS r11<|.aj (af (mk [116])+af r11.toStr<=9223372036854775807)<|.call 107 [VS (mk [42]),.sl [[VS (((q10.tail.tail.hO).cs.getD 0 .any).toStr),((q10.tail.tail.hO).cs.getD 1 .any)],[VS (((mk [116]):ByteArray)++r11.toStr),.v (.slice none 0 0)]]] [] fun r12 o12=>NA r12<|.call 107 [VS (mk [43]),.sl [[VS (((q10.tail.hO).cs.getD 0 .any).toStr),((q10.tail.hO).cs.getD 1 .any)],[VS ((r12.cs.getD 0 .any).toStr),(r12.cs.getD 1 .any)]]] [] fun r13 o13=>NA r13<|.call 107 [VS (mk [114,101,99]),.sl [[VS (((mk [116]):ByteArray)++r11.toStr),.v (.slice none 0 0)],[VS ((r13.cs.getD 0 .any).toStr),(r13.cs.getD 1 .any)]]] [] fun r14 o14=>NA r14<|.call 106 [.agg [VS ((r14.cs.getD 0 .any).toStr),(r14.cs.getD 1 .any)]] [] fun r15 o15=>NI r15<|.done 0 [.cy [.agg [VS ((r14.cs.getD 0 .any).toStr),(r14.cs.getD 1 .any)],VB (decide (r15.toInt<=(400:Int)))]] []) (fun y10 q10=>.fail)))))
theorem NH(a0_0:ByteArray)(a0_1:AV)(a1:ByteArray)(ha0_1:LK.has .sl a0_1)(h:dj 108 (MB a0_0 a0_1 a1) R):an Tryz.prog 238 [.agg [VS a0_0,a0_1],VS a1] [] R :=
 uQ (ah (cj (ah (aA _) (ah (bT ha0_1) aD))) (ah (aA _) aD)) (oQ LF Tryz.f238 h)
def H4(x17:Int)(o4_0:ByteArray)(o4_1:AV)(o12_0:ByteArray)(o12_1:AV)(o14_0:ByteArray)(o14_1:AV)(e16:List (List AV)):Tree :=
 NI (VI x17)<|.aj (Ob.cells [VS o4_0,o4_1]=.cells [VS o4_0,o4_1])<|.aj (ag [.lk .str,.lk .sl] [VS o4_0,o4_1] 0 [.cells [VS o12_0,o12_1],.cells [VS o14_0,o14_1],.vec 1 e16])<|.aj (Ob.cells [VS o12_0,o12_1]=.cells [VS o12_0,o12_1])<|.aj (ag [.lk .str,.lk .sl] [VS o12_0,o12_1] 0 [.cells [VS o14_0,o14_1],.vec 1 e16])<|.aj (Ob.cells [VS o14_0,o14_1]=.cells [VS o14_0,o14_1])<|.aj (ag [.lk .str,.lk .sl] [VS o14_0,o14_1] 0 [.vec 1 e16])<|.aj (Ob.vec 1 e16=.vec 1 e16)<|.call 109 [VI x17] [] fun r1 o1=>NS r1<|.aj (af (mk [116])+af r1.toStr<=9223372036854775807)<|.call 153 [.sl e16,VS (((mk [116]):ByteArray)++r1.toStr)] [] fun r2 o2=>NB r2<|.test r2.toBool (.done 0 [VI (IntKind.wrap .i64 (x17+1))] [.cells [VS o4_0,o4_1],.cells [VS o12_0,o12_1],.cells [VS o14_0,o14_1],.vec 1 e16]) (.done 1 [VI x17] [.cells [VS o4_0,o4_1],.cells [VS o12_0,o12_1],.cells [VS o14_0,o14_1]])
abbrev Gy:=cH Tryz.prog 108 Jt Gw
theorem Pg(x17:Int)(o4_0:ByteArray)(o4_1:AV)(o12_0:ByteArray)(o12_1:AV)(o14_0:ByteArray)(o14_1:AV)(e16:List (List AV))(h:mi 108 (H4 x17 o4_0 o4_1 o12_0 o12_1 o14_0 o14_1 e16) Gy U):Gy [VI x17] [.cells [VS o4_0,o4_1],.cells [VS o12_0,o12_1],.cells [VS o14_0,o14_1],.vec 1 e16] U :=
 gQ LF h
end
end Go.Proofs.Trees
namespace Go.Proofs.Trees
open Go Go.VL
theorem bS(i:Nat)(h:i<1000000000000):IntKind.wrap .i64 ((i:Int)+1)=((i+1:Nat):Int):=by rw[wrap64]<;>omega
inductive E where
 |atom (s:List UInt8)
 |list (l:List E)
mutual
def E.cv:E->AV
 | .atom s=>.ptr [.v (.string (mk s)),.v (.slice none 0 0)]
 | .list l=>.ptr [.v (.string (mk [])),.sl (E.lS l)]
def E.lS:List E->List (List AV)
 |[]=>[]
 |e::l=>[e.cv]::E.lS l
end
mutual
def E.gV:E->List AV
 | .atom s=>[.v (.string (mk s)),.v (.slice none 0 0)]
 | .list l=>[.v (.string (mk [])),.sl (E.bo l)]
def E.bo:List E->List (List AV)
 |[]=>[]
 |e::l=>e.gV::E.bo l
end
def E.kj(e:E):AV:=.agg e.gV
theorem vj(l r:List E):E.lS (l++r)=E.lS l++E.lS r:=by
 induction l with
 |nil=>rfl
 |cons e l ih=>simp[E.lS,ih]
theorem pO(l r:List E):E.bo (l++r)=E.bo l++E.bo r:=by
 induction l with
 |nil=>rfl
 |cons e l ih=>simp[E.bo,ih]
theorem qU(l:List E):(E.lS l).length=l.length:=by
 induction l with
 |nil=>rfl
 |cons e l ih=>simp[E.lS,ih]
theorem dX(l:List E):(E.bo l).length=l.length:=by
 induction l with
 |nil=>rfl
 |cons e l ih=>simp[E.bo,ih]
def eV(b:UInt8):Bool:=decide ((97<=b.toNat/\b.toNat<=122)\/(48<=b.toNat/\b.toNat<=57)\/b.toNat=43\/b.toNat=42)
def sg(f:List UInt8->Option (E×List UInt8)):Nat->List UInt8->List E->Option (E×List UInt8)
 |0,_,_=>none
 |
  n+1,s,acc=>match f s with
  |some (p,c::r)=>if c.toNat=41 then some (.list (acc++[p]),r)else if c.toNat=32 then sg f n r (acc++[p])else none
  |_=>none
def rd:Nat->List UInt8->Option (E×List UInt8)
 |0,s=>if s.takeWhile eV=[]then none else some (.atom (s.takeWhile eV),s.dropWhile eV)
 |k+1,s=>if s.takeWhile eV=[]then(match s with
  |c::r=>if c.toNat=40 then sg (rd k) (r.length+1) r []else none
  |[]=>none)else some (.atom (s.takeWhile eV),s.dropWhile eV)
theorem A6{f:List UInt8->Option (E×List UInt8)}(hf:∀s e r,f s=some (e,r)->r.length<s.length):∀(n:Nat) (s:List UInt8) (acc:List E) (e:E) (r:List UInt8),sg f n s acc=some (e,r)->r.length<s.length
 |0,s,acc,e,r,h=>by cases h
 |
  n+1,s,acc,e,r,h=>by
  simp only[sg]at h
  split at h
  ·rename_i p c r' hs
   have:=hf _ _ _ hs
   simp only[au]at this
   split at h
   ·cases h;omega
   ·split at h
    ·have:=A6 hf n _ _ _ _ h;omega
    ·cases h
  ·cases h
theorem n9{s:List UInt8}(h:¬s.takeWhile eV=[]):(s.dropWhile eV).length<s.length:=by
 have h1:=congrArg List.length (List.takeWhile_append_dropWhile (p:=eV) (l:=s))
 simp only[aq]at h1
 have:0<(s.takeWhile eV).length:=List.length_pos_iff.2 h
 omega
theorem yC:∀(k:Nat) (s:List UInt8) (e:E) (r:List UInt8),rd k s=some (e,r)->r.length<s.length
 |
  0,s,e,r,h=>by
  simp only[rd]at h
  split at h
  ·cases h
  ·rename_i hn;cases h;exact n9 hn
 |
  k+1,s,e,r,h=>by
  simp only[rd]at h
  split at h
  ·split at h
   ·split at h
    ·have:=A6 (yC k) _ _ _ _ _ h
     simp only[au];omega
    ·cases h
   ·cases h
  ·rename_i hn;cases h;exact n9 hn
theorem PS(b:UInt8):an Tryz.prog 149 [.v (.int .u8 (b.toNat:Int))] [] (bB (.v (.bool (eV b)))):=by
 refine Qx _ ?_
 simp only[KU,↓zq,zs,ag,bB,eV]
 repeat' (apply aI<;>intro _)
 all_goals first|(congr 2;rw[cF];simp;omega)|(congr 2;simp;omega)
theorem xu{s:List UInt8}{i:Nat}(hi:i<s.length)(hb:eV (s.getD i 0)=true):((s.drop i).takeWhile eV).length=((s.drop (i+1)).takeWhile eV).length+1:=by
 have e:s.drop i=s.getD i 0::s.drop (i+1):=by
  rw[aY hi];simp[aa,hi]
 rw[e,List.takeWhile_cons_of_pos hb];simp
theorem qL{s:List UInt8}{i:Nat}(hi:i<s.length)(hb:eV (s.getD i 0)=false):(s.drop i).takeWhile eV=[]:=by
 have e:s.drop i=s.getD i 0::s.drop (i+1):=by
  rw[aY hi];simp[aa,hi]
 rw[e,List.takeWhile_cons_of_neg (by rw[hb];simp)]
theorem FF(s:List UInt8)(hs:s.length<=8000)(d:Int):∀(k i:Nat),i+k=s.length->EL [.v (.string (mk s)),.v (.int .i64 d),.v (.int .i64 (i:Int))] [] (jX 1 [.v (.string (mk s)),.v (.int .i64 d),.v (.int .i64 ((i+((s.drop i).takeWhile eV).length:Nat):Int))] [])
 |
  0,i,hi=>by
  refine IK _ _ _ ?_
  have hd:s.drop i=[]:=bP (by omega)
  simp only[FE,↓zq,zs,ag,zt]
  exact⟨fun h=>by omega,fun _=>by simp[jX,hd]⟩
 |
  k+1,i,hi=>by
  have hlt:i<s.length:=by omega
  refine IK _ _ _ ?_
  simp only[FE,↓zq,zs,ag,zt,lL s i hlt]
  refine⟨fun _=>⟨by omega,?_⟩,fun h=>by omega⟩
  refine ak (PS _) ?_
  simp only[↓zq,zs,ag]
  refine⟨fun hb=>?_,fun hb=>?_⟩
  ·rw[bS i (by omega)]
   have:=FF s hs d k (i+1) (by omega)
   rw[xu hlt hb,show i+(((s.drop (i+1)).takeWhile eV).length+1)=i+1+((s.drop (i+1)).takeWhile eV).length by omega]
   exact this
  ·simp[jX,qL hlt hb]
def og(s:List UInt8):Option (E×List UInt8)->AV
 |some (e,r)=>.cy [e.cv,.v (.string (mk r))]
 |none=>.cy [.v (.pointer none),.v (.string (mk s))]
theorem cN(e:E):LK.has .ptr e.cv=True:=by cases e<;>simp[E.cv,ca]
theorem eg(e:E):e.cv.isNil=false:=by cases e<;>rfl
theorem uL(s:List UInt8):s.take (s.takeWhile eV).length=s.takeWhile eV:=by
 have h:=List.takeWhile_append_dropWhile (p:=eV) (l:=s)
 have:(s.takeWhile eV++s.dropWhile eV).take (s.takeWhile eV).length=s.takeWhile eV:=List.take_left
 rw[h]at this;exact this
theorem xp(s:List UInt8):s.drop (s.takeWhile eV).length=s.dropWhile eV:=by
 have h:=List.takeWhile_append_dropWhile (p:=eV) (l:=s)
 have:(s.takeWhile eV++s.dropWhile eV).drop (s.takeWhile eV).length=s.dropWhile eV:=List.drop_left
 rw[h]at this;exact this
theorem AB(c:UInt8)(r:List UInt8):(List.take (r.length+1) (c::r)).drop (bq 1)=r:=by simp
theorem La(s0:List UInt8)(k:Nat)(hk:k<300)(ih:∀s,s.length<=8000->an Tryz.prog 96 [.v (.string (mk s)),.v (.int .i64 ((300-k:Nat):Int))] [] (bB (og s (rd k s)))) :
 ∀(n:Nat) (s:List UInt8) (acc:List E),s.length<n->s.length+acc.length<=8000->FN [.v (.string (mk s0)),.v (.int .i64 ((300-(k+1):Nat):Int)),.v (.string (mk s))] [.cells [.v (.string (mk [])),.any],.vec 1 (E.lS acc)]
  (pk (match sg (rd k) n s acc with|some (e,r)=>(2,[e.cv,.v (.string (mk r))],[])|none=>(2,[.v (.pointer none),.v (.string (mk s0))],[])))
 |0,s,acc,hn,_=>by omega
 |
  n+1,s,acc,hn,hl=>by
  refine OL _ _ _ _ _ ?_
  simp only[JH,↓zq,zs,ag,Bo]
  have hd:IntKind.wrap .i64 (((300-(k+1):Nat):Int)+1)=((300-k:Nat):Int):=by rw[wrap64]<;>omega
  rw[hd]
  refine ak (ih s (by omega)) ?_
  have hlt:=yC k s
  cases hr:rd k s with
  |
   none =>
   simp only[og,↓zq,zs,ag,sg,hr]
   simp[pk]
  |
   some q =>
   obtain⟨e,r⟩:=q
   have:=hlt e r hr
   cases r with
   |
    nil =>
    simp only[og,↓zq,zs,ag,zt,sg,hr,cN,eg]
    simp[pk]
   |
    cons c r =>
    simp only[au]at this
    have hb:=lL (c::r) 0 (by simp)
    simp only[Int.ofNat_eq_natCast,Int.cast_ofNat_Int]at hb
    have e2:(List.take (c::r).length (c::r)).drop 1=r:=by simp
    simp only[og,↓zq,zs,ag,zt,sg,hr,cN,eg,hb,e2,qU]
    refine⟨fun h=>(by cases h),fun _=>⟨fun h=>(by cases h),fun _=>⟨⟨fun c hc=>(by simp at hc;rw[hc];rfl),by omega⟩,by omega,by omega,fun h41=>?_,fun h41=>⟨by omega,fun h32=>?_,fun h32=>?_⟩⟩⟩⟩
    ·have h41':c.toNat=41:=by omega
     rw[AB,if_pos h41']
     simp[pk,E.cv,vj,E.lS]
    ·have h41':¬c.toNat=41:=by omega
     have h32':¬c.toNat=32:=by omega
     rw[if_neg h41',if_neg h32']
    ·have h41':¬c.toNat=41:=by omega
     have h32':c.toNat=32:=by omega
     rw[AB,if_neg h41',if_pos h32']
     have:=La s0 k hk ih n r (acc++[e]) (by omega) (by simp;omega)
     simpa[vj,E.lS]using this
theorem P9:∀(k:Nat),k<=300->∀s:List UInt8,s.length<=8000->an Tryz.prog 96 [.v (.string (mk s)),.v (.int .i64 ((300-k:Nat):Int))] [] (bB (og s (rd k s))):=by
 intro k
 induction k with
 |
  zero =>
  intro hk s hs
  refine MX _ _ ?_
  unfold E3
  refine cX (FF s hs _ s.length 0 (by omega)) ?_
  simp only[↓zq,zs,ag,zt,aZ,bB]
  have hw:(s.takeWhile eV).length<=s.length:=by
   have:=congrArg List.length (List.takeWhile_append_dropWhile (p:=eV) (l:=s))
   simp only[aq]at this;omega
  refine⟨fun h=>⟨by omega,by omega,?_⟩,fun h=>?_⟩
  ·have hne:¬s.takeWhile eV=[]:=fun e=>by rw[e]at h;simp at h
   simp only[rd,if_neg hne,og,E.cv,uL,xp]
  ·have hnil:s.takeWhile eV=[]:=bV (by omega)
   simp only[rd,if_pos hnil,og]
   refine⟨fun _=>trivial,fun hne=>⟨?_,?_⟩⟩
   ·cases s with
    |nil=>exact absurd rfl hne
    |cons c s=>simp
   ·exact⟨fun _=>trivial,fun _=>⟨fun _=>trivial,fun h=>absurd rfl h⟩⟩
 |
  succ k ih =>
  intro hk s hs
  refine MX _ _ ?_
  unfold E3
  refine cX (FF s hs _ s.length 0 (by omega)) ?_
  simp only[↓zq,zs,ag,zt,aZ,bB]
  have hw:(s.takeWhile eV).length<=s.length:=by
   have:=congrArg List.length (List.takeWhile_append_dropWhile (p:=eV) (l:=s))
   simp only[aq]at this;omega
  refine⟨fun h=>⟨by omega,by omega,?_⟩,fun h=>?_⟩
  ·have hne:¬s.takeWhile eV=[]:=fun e=>by rw[e]at h;simp at h
   simp only[rd,if_neg hne,og,E.cv,uL,xp]
  ·have hnil:s.takeWhile eV=[]:=bV (by omega)
   simp only[rd,if_pos hnil]
   cases s with
   |nil=>simp[og]
   |
    cons c s =>
    have hb:=lL (c::s) 0 (by simp)
    simp only[Int.ofNat_eq_natCast,Int.cast_ofNat_Int]at hb
    simp only[au]at hs
    simp only[↓zq,zs,ag,hb,AB]
    refine⟨fun h=>(by cases h),fun _=>⟨by omega,fun h40=>?_,fun h40=>⟨fun h300=>?_,fun h300=>⟨by omega,?_⟩⟩⟩⟩
    ·have:¬c.toNat=40:=by omega
     rw[if_neg this];rfl
    ·omega
    ·have h40':c.toNat=40:=by omega
     rw[if_pos h40']
     refine fH (La (c::s) k (by omega) (ih (by omega)) (s.length+1) s [] (by omega) (by simp;omega)) (fun ys o e=>?_) (fun ys o e=>?_)
     ·split at e<;>cases e
     ·split at e<;>cases e
      ·rename_i e' r' hr
       simp only[↓zq,zs,ag,cN]
       simp only[hr,og]
      ·rename_i hr
       simp only[↓zq,zs,ag]
       simp only[hr,og]
end Go.Proofs.Trees
namespace Go.Proofs.Trees
open Go Go.VL
mutual
def E.sz:E->Nat
 | .atom _=>1
 | .list l=>1+E.iY l
def E.iY:List E->Nat
 |[]=>0
 |e::l=>e.sz+E.iY l
end
mutual
def E.ok:E->Prop
 | .atom s=>s≠[]
 | .list l=>E.Dj l
def E.Dj:List E->Prop
 |[]=>True
 |e::l=>e.ok/\E.Dj l
end
theorem xQ(l r:List E):E.iY (l++r)=E.iY l+E.iY r:=by
 induction l with
 |nil=>simp[E.iY]
 |cons e l ih=>simp[E.iY,ih];omega
theorem xw(l r:List E):E.Dj (l++r)↔E.Dj l/\E.Dj r:=by
 induction l with
 |nil=>simp[E.Dj]
 |cons e l ih=>simp[E.Dj,ih,and_assoc]
theorem Ay{f:List UInt8->Option (E×List UInt8)}(hf:∀s e r,f s=some (e,r)->e.ok/\e.sz+r.length<=s.length):∀(n:Nat) (s:List UInt8) (acc:List E) (e:E) (r:List UInt8),sg f n s acc=some (e,r)->E.Dj acc->e.ok/\e.sz+r.length<=s.length+1+E.iY acc
 |0,s,acc,e,r,h,_=>by cases h
 |
  n+1,s,acc,e,r,h,ha=>by
  simp only[sg]at h
  split at h
  ·rename_i p c r' hs
   obtain⟨h1,h2⟩:=hf _ _ _ hs
   simp only[au]at h2
   split at h
   ·cases h
    refine⟨(xw _ _).2 ⟨ha,h1,trivial⟩,?_⟩
    simp only[E.sz,xQ,E.iY];omega
   ·split at h
    ·have:=Ay hf n _ _ _ _ h ((xw _ _).2 ⟨ha,h1,trivial⟩)
     refine⟨this.1,?_⟩
     have h3:=this.2
     simp only[xQ,E.iY]at h3;omega
    ·cases h
  ·cases h
theorem uu(s:List UInt8):(s.takeWhile eV).length+(s.dropWhile eV).length=s.length:=by
 have:=congrArg List.length (List.takeWhile_append_dropWhile (p:=eV) (l:=s))
 simpa only[aq]using this
theorem EB:∀(k:Nat) (s:List UInt8) (e:E) (r:List UInt8),rd k s=some (e,r)->e.ok/\e.sz+r.length<=s.length
 |
  0,s,e,r,h=>by
  simp only[rd]at h
  split at h
  ·cases h
  ·rename_i hn;cases h
   have:=uu s
   have:0<(s.takeWhile eV).length:=List.length_pos_iff.2 hn
   exact⟨hn,by simp only[E.sz];omega⟩
 |
  k+1,s,e,r,h=>by
  simp only[rd]at h
  split at h
  ·split at h
   ·split at h
    ·have:=Ay (EB k) _ _ _ _ _ h trivial
     refine⟨this.1,?_⟩
     have h3:=this.2
     simp only[E.iY,au]at h3 |-;omega
    ·cases h
   ·cases h
  ·rename_i hn;cases h
   have:=uu s
   have:0<(s.takeWhile eV).length:=List.length_pos_iff.2 hn
   exact⟨hn,by simp only[E.sz];omega⟩
def qt(s:List UInt8):Option E:=if s.length>8000 then none else match rd 300 s with|some (e,[])=>some e|_=>none
theorem nB{s:List UInt8}{e:E}(h:qt s=some e):e.ok/\e.sz<=8000:=by
 unfold qt at h
 split at h
 ·cases h
 ·split at h
  ·rename_i e' hr
   cases h
   have:=EB _ _ _ _ hr
   exact⟨this.1,by have:=this.2;simp at this;omega⟩
  ·cases h
def tV:Option E->AV
 |some e=>e.cv
 |none=>.v (.pointer none)
theorem M3(s:List UInt8):an Tryz.prog 50 [.v (.string (mk s))] [] (bB (tV (qt s))):=by
 refine PE _ ?_
 simp only[Ms,↓zq,zs,ag,zt,bB,qt]
 refine⟨fun h=>?_,fun h=>?_⟩
 ·rw[if_pos (by omega)];simp[tV]
 ·rw[if_neg (by omega)]
  refine ak (P9 300 (by omega) s (by omega)) ?_
  cases hr:rd 300 s with
  |
   none =>
   simp only[og,↓zq,zs,ag,zt,tV]
   refine⟨fun _=>trivial,fun _=>trivial⟩
  |
   some q =>
   obtain⟨e,r⟩:=q
   cases r with
   |nil=>simp only[og,↓zq,zs,ag,zt,tV,cN];simp
   |cons c r=>simp only[og,↓zq,zs,ag,zt,tV,cN];simp
def gL(b:UInt8):Bool:=decide (48<=b.toNat/\b.toNat<=57)
def named(lo hi:Nat):List UInt8->Bool
 |[]=>false
 |c::r=>decide (r.length<=2)&&decide (lo<=c.toNat/\c.toNat<=hi)&&r.all gL
def iq(s:List UInt8):Bool:=named 120 122 s
def dD(s:List UInt8):Bool:=named 116 116 s
def Ef(v lo hi:Int):Bool:=decide (lo<=v/\v<=hi)
theorem C3(v lo hi:Int):an Tryz.prog 168 [.v (.int .i64 v),.v (.int .i64 lo),.v (.int .i64 hi)] [] (bB (.v (.bool (Ef v lo hi)))):=by
 refine Qj _ _ _ ?_
 simp only[Lq,↓zq,zs,ag,bB,Ef]
 constructor<;>intro h<;>simp at h<;>simp[h]
 omega
theorem Kl(s:List UInt8)(hs:s.length<=3):∀(k i:Nat),i+k=s.length->EP [.v (.string (mk s)),.v (.int .i64 (i:Int))] [] (pk (if(s.drop i).all gL=true then(1,[],[])else(2,[.v (.bool false)],[])))
 |
  0,i,hi=>by
  have hd:s.drop i=[]:=bP (by omega)
  refine ML _ _ ?_
  simp only[Fy,↓zq,zs,ag,zt]
  exact⟨fun h=>by omega,fun _=>by simp[pk,hd]⟩
 |
  k+1,i,hi=>by
  have hlt:i<s.length:=by omega
  have e:s.drop i=s.getD i 0::s.drop (i+1):=by
   rw[aY hlt];simp[aa,hlt]
  refine ML _ _ ?_
  simp only[Fy,↓zq,zs,ag,zt,lL s i hlt,e,cT]
  generalize hb:s.getD i 0=b
  refine⟨fun _=>⟨by omega,fun h=>?_,fun h=>⟨by omega,fun h2=>?_,fun h2=>?_⟩⟩,fun h=>by omega⟩
  ·have:gL b=false:=by simp[gL];omega
   simp only[this,zf,pk]
  ·have:gL b=false:=by simp[gL];omega
   simp only[this,zf,pk]
  ·have:gL b=true:=by simp[gL];omega
   rw[bS i (by omega),this,cn]
   exact Kl s hs k (i+1) (by omega)
theorem Ls(s:List UInt8)(lo hi:Nat):an Tryz.prog 154 [.v (.string (mk s)),.v (.int .u8 (lo:Int)),.v (.int .u8 (hi:Int))] [] (bB (.v (.bool (named lo hi s)))):=by
 refine Rk _ _ _ ?_
 unfold J3
 rw[cq]
 refine ak (C3 _ _ _) ?_
 simp only[↓zq,zs,ag,zt,bB]
 refine⟨fun h=>?_,fun h=>?_⟩
 ·cases s with
  |nil=>rfl
  |
   cons c s =>
   simp[Ef]at h
   have:¬s.length<=2:=by omega
   simp[named,this]
 ·cases s with
  |nil=>simp[Ef]at h
  |
   cons c s =>
   simp[Ef]at h
   have hl:s.length<=2:=by omega
   have hb:=lL (c::s) 0 (by simp)
   simp only[Int.ofNat_eq_natCast,Int.cast_ofNat_Int]at hb
   simp only[↓zq,zs,ag,hb]
   refine⟨by omega,fun h1=>?_,fun h1=>⟨by omega,fun h2=>?_,fun h2=>?_⟩⟩
   ·have:¬lo<=c.toNat:=by omega
    simp[named,this]
   ·have:¬c.toNat<=hi:=by omega
    simp[named,this]
   ·refine fH (Kl (c::s) (by simp;omega) s.length 1 (by simp;omega)) (fun ys o e=>?_) (fun ys o e=>?_)
    ·split at e<;>cases e
     rename_i ha
     simp at ha
     simp only[↓zq,zs,ag]
     simp[named,hl]
     exact⟨⟨by omega,by omega⟩,fun x hx=>by simpa using ha x hx⟩
    ·split at e<;>cases e
     rename_i ha
     simp only[↓zq,zs,ag]
     have:s.all gL=false:=by simpa using ha
     simp[named,this]
theorem Hi(s:List UInt8):an Tryz.prog 195 [.v (.string (mk s))] [] (bB (.v (.bool (iq s)))):=by
 refine N8 _ ?_
 unfold L4
 refine ak (Ls s 120 122) ?_
 simp only[↓zq,zs,ag,bB,iq]
theorem E5(s:List UInt8):an Tryz.prog 103 [.v (.string (mk s))] [] (bB (.v (.bool (dD s)))):=by
 refine O0 _ ?_
 unfold IA
 refine ak (Ls s 116 116) ?_
 simp only[↓zq,zs,ag,bB,dD]
end Go.Proofs.Trees
namespace Go.Proofs.Trees
open Go Go.VL Go.RowKit
theorem ON(l:List UInt8)(c:UInt8):an Tryz.prog 231 [.v (.string (mk l)),.v (.string (mk [c]))] [] (bB (.v (.bool (decide (0<=Lib.indexByte l c))))):=by
 refine an.Rp (xs:=[.string (mk l),.string (mk [c])]) ⟨mV,by kernel_rfl,by kernel_rfl,by kernel_rfl⟩ fun w=>?_
 have:=Any.strings_Contains_one Tryz.C8 (mk l) c w
 refine Calls.mono this fun e w' ⟨h1,h2⟩=>?_
 rw[h2]
 have hd:(mk l).data.toList=l:=by simp[mk]
 exact⟨by rw[h1,hd],Below.refl _ _⟩
theorem Jq(l cs:List UInt8)(hl:l.length<=1000000)(hc:cs.length<=1000)(ha:∀b,b∈cs->b.toNat<128):an Tryz.prog 134 [.v (.string (mk l)),.v (.string (mk cs))] [] (bB (.v (.string (mk (Lib.trimS l cs))))):=by
 refine an.Rp (xs:=[.string (mk l),.string (mk cs)]) ⟨qi,by kernel_rfl,by kernel_rfl,by kernel_rfl⟩ fun w=>?_
 have:=Any.strings_Trim_laid Tryz.Eb (by kernel_rfl) (mk l) (mk cs) w (by rw[cq];omega) (by rw[cq];omega) (fun j b hj=>ha b (by
  have:(mk cs).data.toList=cs:=by simp[mk]
  rw[this]at hj
  exact List.mem_of_getElem? hj))
 refine Calls.mono this fun e w' ⟨h1,h2⟩=>⟨?_,h2⟩
 rw[h1]
 simp[mk]
theorem mX:∀(l:List UInt8) (c:UInt8),(0<=Lib.indexByte l c↔c∈l)/\-1<=Lib.indexByte l c
 |[],c=>by simp[Lib.indexByte]
 |
  b::l,c=>by
  obtain⟨h1,h2⟩:=mX l c
  unfold Lib.indexByte
  by_cases e:b=c
  ·subst e;simp
  ·have e':(b==c)=false:=by simp[e]
   rw[e']
   by_cases q:Lib.indexByte l c = -1
   ·have:c∉l:=fun h=>by have:=h1.2 h;omega
    simp[q,this,Ne.symm e]
   ·have q':(Lib.indexByte l c==-1)=false:=by simp[q]
    simp only[q',Bool.false_eq_true,if_false,aH]
    constructor
    ·constructor
     ·intro h;exact .inr (h1.1 (by omega))
     ·intro h
      rcases h with h|h
      ·exact absurd h.symm e
      ·have:=h1.2 h;omega
    ·omega
theorem dropWhile_nil{p:UInt8->Bool}:∀(l:List UInt8),l.dropWhile p=[]↔l.all p=true
 |[]=>by simp
 |
  b::l=>by
  cases h:p b with
  |true=>rw[List.dropWhile_cons_of_pos h,dropWhile_nil l];simp[h]
  |false=>rw[List.dropWhile_cons_of_neg (by rw[h];simp)];simp[h]
theorem sD(l cs:List UInt8):Lib.trimS l cs=[]↔l.all (cs.contains ·)=true:=by
 unfold Lib.trimS Lib.trimLeftS
 rw[dropWhile_nil]
 unfold Lib.trimRightS
 constructor
 ·intro h
  by_cases hn:l.reverse.dropWhile (cs.contains ·)=[]
  ·rw[dropWhile_nil]at hn
   simpa using hn
  ·exfalso
   rw[List.all_reverse]at h
   obtain⟨b,r,e⟩:=List.exists_cons_of_ne_nil hn
   have h1:cs.contains b=false:=by
    have:=List.head_dropWhile_not (p:=(cs.contains ·)) (l:=l.reverse) hn
    simp only[e,List.head_cons]at this
    exact this
   rw[e]at h
   simp only[cT,az]at h
   rw[h1]at h;cases h.1
 ·intro h
  have:l.reverse.dropWhile (cs.contains ·)=[]:=by rw[dropWhile_nil];simpa using h
  rw[this];rfl
def E6:List UInt8:=[48,49,50,51,52,53,54,55,56,57]
theorem vp(b:UInt8):E6.contains b=gL b:=by
 have:∀n:Fin 256,E6.contains (a8 n.val)=gL (a8 n.val):=by decide +kernel
 have:=this ⟨b.toNat,b.toNat_lt⟩
 simpa using this
theorem KN(s ls:List UInt8)(lo hi:Nat)(hls:∀c:UInt8,c∈ls↔lo<=c.toNat/\c.toNat<=hi):an Tryz.prog 186 [.v (.string (mk s)),.v (.string (mk ls))] [] (bB (.v (.bool (named lo hi s)))):=by
 refine QZ _ _ ?_
 simp only[Ke,↓zq,zs,ag,zt,bB]
 cases s with
 |nil=>exact⟨fun h=>by simp at h,fun _=>rfl⟩
 |
  cons c s =>
  have e1:(List.take (bq 1) (c::s))=[c]:=rfl
  have e2:(List.take (s.length+1) (c::s)).drop (bq 1)=s:=by simp
  simp only[au,e1,e2]
  refine⟨fun _=>⟨fun h3=>⟨by omega,?_⟩,fun h3=>?_⟩,fun h=>by omega⟩
  ·have hl:s.length<=2:=by omega
   refine ak (ON ls c) ?_
   simp only[↓zq,zs,ag]
   have hi1:=(mX ls c).1
   refine⟨fun h=>⟨by omega,?_⟩,fun h=>?_⟩
   ·refine ak (Jq s E6 (by omega) (by decide) (by decide)) ?_
    simp only[↓zq,zs,ag,zt]
    have hc:=(hls c).1 (hi1.1 h)
    congr 2
    rw[cF,beq_iff_eq,sD]
    simp only[named,hl,hc,decide_true,cn,and_self]
    have:(fun x=>E6.contains x)=gL:=funext vp
    rw[this]
   ·have hc:¬(lo<=c.toNat/\c.toNat<=hi):=fun h'=>h (hi1.2 ((hls c).2 h'))
    simp only[named,hc,zf]
  ·have hl:¬s.length<=2:=by omega
   simp only[named,hl,zf]
theorem Mh(s:List UInt8):an Tryz.prog 135 [.v (.string (mk s))] [] (bB (.v (.bool (iq s)))):=by
 refine Oq _ ?_
 unfold HX
 have h:∀n:Fin 256,(a8 n.val∈[(120:UInt8),121,122])↔120<=(a8 n.val).toNat/\(a8 n.val).toNat<=122:=by decide +kernel
 refine ak (KN s [120,121,122] 120 122 fun c=>by simpa using h ⟨c.toNat,c.toNat_lt⟩) ?_
 simp only[↓zq,zs,ag,bB,iq]
theorem D6(s:List UInt8):an Tryz.prog 157 [.v (.string (mk s))] [] (bB (.v (.bool (dD s)))):=by
 refine Qf _ ?_
 unfold MT
 have h:∀n:Fin 256,(a8 n.val∈[(116:UInt8)])↔116<=(a8 n.val).toNat/\(a8 n.val).toNat<=116:=by decide +kernel
 refine ak (KN s [116] 116 116 fun c=>by simpa using h ⟨c.toNat,c.toNat_lt⟩) ?_
 simp only[↓zq,zs,ag,bB,dD]
end Go.Proofs.Trees
namespace Go.Proofs.Trees
open Go Go.VL
inductive Ty where
 |zero|one
 |name (s:List UInt8)
 |bound (up:Nat)
 |plus (a b:Ty)
 |times (a b:Ty)
 |rc (a:Ty)
def Ty.av:Ty->AV
 | .zero=>.ptr [.v (.int .u8 48),.v (.string (mk [])),.v (.int .i64 0),.v (.pointer none),.v (.pointer none)]
 | .one=>.ptr [.v (.int .u8 49),.v (.string (mk [])),.v (.int .i64 0),.v (.pointer none),.v (.pointer none)]
 | .name s=>.ptr [.v (.int .u8 110),.v (.string (mk s)),.v (.int .i64 0),.v (.pointer none),.v (.pointer none)]
 | .bound up=>.ptr [.v (.int .u8 98),.v (.string (mk [])),.v (.int .i64 (up:Int)),.v (.pointer none),.v (.pointer none)]
 | .plus a b=>.ptr [.v (.int .u8 43),.v (.string (mk [])),.v (.int .i64 0),a.av,b.av]
 | .times a b=>.ptr [.v (.int .u8 42),.v (.string (mk [])),.v (.int .i64 0),a.av,b.av]
 | .rc a=>.ptr [.v (.int .u8 114),.v (.string (mk [])),.v (.int .i64 0),a.av,.v (.pointer none)]
theorem aF(t:Ty):LK.has .ptr t.av=True:=by cases t<;>simp[Ty.av,ca]
theorem fC(t:Ty):t.av.isNil=false:=by cases t<;>rfl
def gM:Option Ty->AV
 |some t=>t.av
 |none=>.v (.pointer none)
theorem hZ(t:Option Ty):LK.has .ptr (gM t)=True:=by cases t<;>simp[gM,aF,iT]
def E.at:E->List UInt8
 | .atom s=>s
 | .list _=>[]
def cb(s:List UInt8)(ar:List (List UInt8)):Nat->Option Nat
 |0=>none
 |i+1=>if ar.getD i []=s then some (ar.length-1-i)else cb s ar i
def cY:E->List (List UInt8)->Option Ty
 | .atom s,ar=>if s=[48]then some .zero else if s=[49]then some .one else if iq s=true then some (.name s)else if dD s=true then(match cb s ar ar.length with|some u=>some (.bound u)|none=>some (.name s))else none
 |
  .list [x,a,b],ar =>
  if x.at=[43]then(match cY a ar,cY b ar with|some t,some u=>some (.plus t u)|_,_=>none)
  else if x.at=[42]then(match cY a ar,cY b ar with|some t,some u=>some (.times t u)|_,_=>none)
  else if x.at=[114,101,99]then(if dD a.at=true then(match cY b (ar++[a.at])with|some t=>some (.rc t)|none=>none)else none)
  else none
 | .list _,_=>none
def bn(l:List (List UInt8)):List (List AV):=l.map fun s=>[.v (.string (mk s))]
def cw(a:AV)(l:List (List UInt8)):Prop:=LK.sl.has a/\a.elems=bn l
theorem cw.len{a:AV}{l:List (List UInt8)}(h:cw a l):a.elems.length=l.length:=by rw[h.2];simp[bn]
theorem cw.idx{a:AV}{l:List (List UInt8)}(h:cw a l){i:Nat}(hi:i<l.length):a.elems.getD i []=[.v (.string (mk (l.getD i [])))]:=by
 rw[h.2];simp[bn,aa,hi]
theorem cw.of(l:List (List UInt8)):cw (.sl (bn l)) l:=⟨(ck _).mpr trivial,rfl⟩
theorem cw.nil:cw (.v (.slice none 0 0)) []:=⟨(bj).mpr trivial,rfl⟩
theorem yi(e:E)(w:List UInt8):an Tryz.prog 98 [e.cv,.v (.string (mk w)),.v (.int .i64 3)] [] (bB (.v (.bool (match e with| .list [x,_,_]=>x.at==w|_=>false)))):=by
 refine Iv _ _ _ ((cN e).mpr trivial) ?_
 cases e with
 |atom s=>simp only[Bt,E.cv,↓zq,zs,ag,zt,bB];exact⟨by omega,fun h=>by omega,fun _=>trivial⟩
 |
  list l =>
  simp only[Bt,E.cv,↓zq,zs,ag,zt,bB,qU]
  match l with
  |[]=>exact⟨by simp,fun h=>by simp at h,fun _=>rfl⟩
  |[_]=>exact⟨by simp,fun h=>by simp at h,fun _=>rfl⟩
  |[_,_]=>exact⟨by simp,fun h=>by simp at h,fun _=>rfl⟩
  |
   [x,y,z] =>
   refine⟨by simp,fun _=>?_,fun h=>by simp at h⟩
   cases x<;>simp[E.lS,E.cv,ca,pB,jv,eh,uK,toList_mk,E.at]
  |_::_::_::_::l=>exact⟨by simp,fun h=>by simp at h;omega,fun _=>rfl⟩
theorem IX(e:E)(a:AV)(ar:List (List UInt8))(ha:cw a ar)(hl:ar.length<1000000):∀(i:Nat),i<=ar.length->GC [e.cv,a,.v (.int .i64 ((i:Int)-1))] []
 (pk (match cb e.at ar i with|some u=>(2,[],[.cells [.v (.int .u8 98),.v (.string (mk [])),.v (.int .i64 (u:Int)),.v (.pointer none),.v (.pointer none)]])|none=>(1,[e.cv],[])))
 |
  0,hi=>by
  refine IE _ _ _ ?_
  simp only[ET,↓zq,zs,ag,cN]
  exact⟨ha.1,fun h=>by omega,fun _=>rfl⟩
 |
  i+1,hi=>by
  have hlt:i<ar.length:=by omega
  have e1:((i+1:Nat):Int)-1=(i:Int):=by omega
  rw[e1]
  refine IE _ _ _ ?_
  have hd:e.cv.deref.headD .any=.v (.string (mk e.at)):=by cases e<;>rfl
  have hdl:1<=e.cv.deref.length:=by cases e<;>simp[E.cv,jv]
  simp only[ET,↓zq,zs,ag,zt,cN,eg,ha.len,ha.idx hlt,hd,rH]
  refine⟨ha.1,fun _=>⟨⟨ha.1,by omega,by omega⟩,by omega,hdl,fun h=>⟨ha.1,?_⟩,fun h=>?_⟩,fun h=>by omega⟩
  ·simp only[cb,h,if_true,pk]
   rw[wrap64 ((ar.length:Int)-1) (by omega) (by omega),wrap64 _ (by omega) (by omega)]
   have:(ar.length:Int)-1-(i:Int)=((ar.length-1-i:Nat):Int):=by omega
   rw[this]
  ·simp only[cb,h,if_false]
   rw[wrap64 _ (by omega) (by omega)]
   exact IX e a ar ha hl i (by omega)
end Go.Proofs.Trees
namespace Go.Proofs.Trees
open Go Go.VL
theorem nj(e:E):e.cv.deref.headD .any=.v (.string (mk e.at)):=by cases e<;>rfl
theorem lB(e:E):1<=e.cv.deref.length:=by cases e<;>simp[E.cv,jv]
theorem toNat_one:bq 1=1:=rfl
theorem bw:bq 2=2:=rfl
theorem Ez{ar:List (List UInt8)}(s:List UInt8):bn ar++[[.v (.string (mk s))]]=bn (ar++[s]):=by simp[bn]
theorem j9(ar:List (List UInt8)):cV 1 (bn ar):=fun c hc=>by
 obtain⟨s,_,rfl⟩:=bJ.1 hc;rfl
theorem kN{x a b:E}(ar:List (List UInt8))(hx:x.at=[43]):cY (.list [x,a,b]) ar=match cY a ar,cY b ar with|some t,some u=>some (.plus t u)|_,_=>none:=by rw[cY,if_pos hx]<;>cases cY a ar<;>cases cY b ar<;>rfl
theorem jA{x a b:E}(ar:List (List UInt8))(hx:x.at=[42]):cY (.list [x,a,b]) ar=match cY a ar,cY b ar with|some t,some u=>some (.times t u)|_,_=>none:=by rw[cY,if_neg (by rw[hx];decide),if_pos hx]<;>cases cY a ar<;>cases cY b ar<;>rfl
theorem mA{x a b:E}(ar:List (List UInt8))(hx:x.at=[114,101,99]):cY (.list [x,a,b]) ar=if dD a.at=true then(match cY b (ar++[a.at])with|some t=>some (.rc t)|none=>none)else none:=by rw[cY,if_neg (by rw[hx];decide),if_neg (by rw[hx];decide),if_pos hx]<;>cases cY b (ar++[a.at])<;>rfl
theorem ji{x a b:E}(ar:List (List UInt8))(h1:x.at≠[43])(h2:x.at≠[42])(h3:x.at≠[114,101,99]):cY (.list [x,a,b]) ar=none:=by rw[cY,if_neg h1,if_neg h2,if_neg h3]
theorem D5:∀(e:E) (ar:List (List UInt8)) (a:AV),e.ok->cw a ar->ar.length+e.sz<100000->an Tryz.prog 111 [e.cv,a] [] (bB (gM (cY e ar)))
 |
  .atom s,ar,a,hok,ha,hl=>by
  simp only[E.sz]at hl
  refine Mo _ _ ((cN _).mpr trivial) ha.1 ?_
  have hd:=nj (.atom s)
  have hlen:=lB (.atom s)
  simp only[E.at]at hd
  simp only[E1,↓zq,zs,ag,zt,bB,cN,eg,hd,cY]
  refine⟨hlen,fun h=>⟨hlen,?_,?_⟩,fun h=>⟨hlen,fun h1=>⟨hlen,?_,?_⟩,fun h1=>⟨hlen,?_⟩⟩⟩
  ·rw[h];decide
  ·rw[if_pos h,h];rfl
  ·rw[h1];decide
  ·rw[if_neg h,if_pos h1,h1];rfl
  ·rw[if_neg h,if_neg h1]
   refine ak (Mh s) ?_
   simp only[↓zq,zs,ag]
   refine⟨fun hp=>⟨hlen,?_⟩,fun hp=>⟨hlen,?_⟩⟩
   ·rw[if_pos hp];rfl
   ·rw[if_neg (by rw[hp];simp)]
    refine ak (D6 s) ?_
    simp only[↓zq,zs,ag,ha.len]
    refine⟨fun hq=>⟨ha.1,?_⟩,fun hq=>?_⟩
    ·rw[if_pos hq,wrap64 _ (by omega) (by omega)]
     refine fH (IX (.atom s) a ar ha (by omega) ar.length (by omega)) (fun ys o e=>?_) (fun ys o e=>?_)
     ·simp only[E.at]at e
      cases hq2:cb s ar ar.length<;>rw[hq2]at e<;>cases e
      simp only[↓zq,zs,ag,zt,cN,eg,hd]
      exact⟨hlen,rfl⟩
     ·simp only[E.at]at e
      cases hq2:cb s ar ar.length<;>rw[hq2]at e<;>cases e
      simp only[↓zq,zs,ag,zt,LK.has]
      simp[gM,Ty.av,ag,LK.has]
    ·rw[if_neg (by rw[hq];simp)]
     refine ak (yi (.atom s) [43]) ?_
     simp only[↓zq,zs,ag]
     refine⟨fun h=>(by simp at h),fun _=>?_⟩
     refine ak (yi (.atom s) [42]) ?_
     simp only[↓zq,zs,ag]
     refine⟨fun h=>(by simp at h),fun _=>?_⟩
     refine ak (yi (.atom s) [114,101,99]) ?_
     simp only[↓zq,zs,ag]
     refine⟨fun h=>(by simp at h),fun _=>?_⟩
     trivial
 |
  .list l,ar,a,hok,ha,hl=>by
  simp only[E.sz]at hl
  refine Mo _ _ ((cN _).mpr trivial) ha.1 ?_
  have hd:=nj (.list l)
  have hlen:=lB (.list l)
  simp only[E.at]at hd
  have hp:iq []=false:=rfl
  have hq:dD []=false:=rfl
  simp only[E1,↓zq,zs,ag,zt,bB,cN,eg,hd]
  refine⟨hlen,fun h=>(by simp at h),fun h=>⟨hlen,fun h1=>(by simp at h1),fun h1=>⟨hlen,?_⟩⟩⟩
  refine ak (Mh []) ?_
  simp only[↓zq,zs,ag,hp]
  refine⟨fun h=>(by simp at h),fun _=>⟨hlen,?_⟩⟩
  refine ak (D6 []) ?_
  simp only[↓zq,zs,ag,hq]
  refine⟨fun h=>(by simp at h),fun _=>?_⟩
  refine ak (yi (.list l) [43]) ?_
  match l,hok,hl with
  |
   [x,y,z],hok,hl =>
   simp only[E.iY]at hl
   obtain⟨ok1,ok2,ok3,_⟩:=hok
   have iy:=D5 y ar a ok2 ha (by omega)
   have iz:=D5 z ar a ok3 ha (by omega)
   have hds:((E.list [x,y,z]).cv.deref.drop 1).headD .any=.sl [[x.cv],[y.cv],[z.cv]]:=rfl
   have hdl:1<=((E.list [x,y,z]).cv.deref.drop 1).length:=by simp[E.cv,jv]
   have hxd:=nj x
   have hxl:=lB x
   have hyd:=nj y
   have hyl:=lB y
   have bin:∀(c:UInt8) (mkT:Ty->Ty->Ty),(∀t u:Ty,(mkT t u).av=.ptr [.v (.int .u8 (c.toNat:Int)),.v (.string (mk [])),.v (.int .i64 0),t.av,u.av])->x.at=[c]->bt (mk x.at) 0=(c.toNat:Int):=fun c _ _ hx=>by
    have:=lL x.at 0 (by rw[hx];simp)
    simp only[Int.ofNat_eq_natCast,Int.cast_ofNat_Int]at this
    rw[this,hx];rfl
   simp only[↓zq,zs,ag,zt,hds,hdl,cN,eg,toNat_one,bw,hxd,hyd,rH]
   refine⟨fun hx=>?_,fun hx=>?_⟩
   ·refine⟨by omega,by omega,?_⟩
    refine ak iy ?_
    simp only[↓zq,zs,ag,hZ]
    refine⟨by omega,by omega,?_⟩
    refine ak iz ?_
    have hb:=bin 43 Ty.plus (fun _ _=>rfl) hx
    rw[kN ar hx]
    simp only[↓zq,zs,ag,zt,hZ]
    cases h1:cY y ar with
    |none=>simp[gM,jr]
    |
     some t =>
     cases h2:cY z ar with
     |none=>simp[gM,jr,fC]
     |
      some u =>
      simp only[gM,fC,hb]
      refine⟨fun h=>(by cases h),fun _=>⟨fun h=>(by cases h),fun _=>⟨by omega,by omega,hxl,⟨by omega,by rw[hx];simp⟩,rfl⟩⟩⟩
   ·refine ak (yi (.list [x,y,z]) [42]) ?_
    simp only[↓zq,zs,ag,hds,hdl,cN,eg,toNat_one,bw,hxd,hyd,rH]
    refine⟨fun hx2=>?_,fun hx2=>?_⟩
    ·refine⟨by omega,by omega,?_⟩
     refine ak iy ?_
     simp only[↓zq,zs,ag,hZ]
     refine⟨by omega,by omega,?_⟩
     refine ak iz ?_
     have hb:=bin 42 Ty.times (fun _ _=>rfl) hx2
     rw[jA ar hx2]
     simp only[↓zq,zs,ag,zt,hZ]
     cases h1:cY y ar with
     |none=>simp[gM,jr]
     |
      some t =>
      cases h2:cY z ar with
      |none=>simp[gM,jr,fC]
      |
       some u =>
       simp only[gM,fC,hb]
       refine⟨fun h=>(by cases h),fun _=>⟨fun h=>(by cases h),fun _=>⟨by omega,by omega,hxl,⟨by omega,by rw[hx2];simp⟩,rfl⟩⟩⟩
    ·refine ak (yi (.list [x,y,z]) [114,101,99]) ?_
     simp only[↓zq,zs,ag,zt,hds,hdl,cN,eg,toNat_one,bw,hxd,hyd,rH]
     refine⟨fun hx3=>⟨by omega,by omega,hyl,?_⟩,fun hx3=>?_⟩
     ·refine ak (D6 y.at) ?_
      rw[mA ar hx3]
      simp only[↓zq,zs,ag]
      have hal:cV 1 a.elems:=by rw[ha.2];exact j9 ar
      have hal1:cV 1 [[AV.v (.string (mk y.at))]]:=fun c hc=>by simp at hc;rw[hc];rfl
      refine⟨fun hlo=>⟨by omega,by omega,⟨ha.1,hal,by rw[ha.len];omega⟩,by omega,by omega,hyl,⟨hal1,by rw[aT,ha.len];omega⟩,?_⟩,fun hlo=>?_⟩
      ·rw[aT,ha.2,Ez,if_pos hlo]
       refine ak (D5 z (ar++[y.at]) _ ok3 (.of _) (by simp;omega)) ?_
       simp only[↓zq,zs,ag,hZ]
       cases h2:cY z (ar++[y.at])with
       |none=>simp[gM,jr]
       |
        some u =>
        simp only[gM,fC]
        refine⟨fun h=>(by cases h),fun _=>rfl⟩
      ·rw[if_neg (by rw[hlo];simp)];rfl
     ·rw[ji ar hx hx2 hx3];rfl
  |
   [],_,_ =>
   simp only[↓zq,zs,ag]
   refine⟨fun h=>(by cases h),fun _=>?_⟩
   refine ak (yi (.list []) [42]) ?_
   simp only[↓zq,zs,ag]
   refine⟨fun h=>(by cases h),fun _=>?_⟩
   refine ak (yi (.list []) [114,101,99]) ?_
   simp only[↓zq,zs,ag]
   refine⟨fun h=>(by cases h),fun _=>?_⟩
   rfl
  |
   [x1],_,_ =>
   simp only[↓zq,zs,ag]
   refine⟨fun h=>(by cases h),fun _=>?_⟩
   refine ak (yi (.list [x1]) [42]) ?_
   simp only[↓zq,zs,ag]
   refine⟨fun h=>(by cases h),fun _=>?_⟩
   refine ak (yi (.list [x1]) [114,101,99]) ?_
   simp only[↓zq,zs,ag]
   refine⟨fun h=>(by cases h),fun _=>?_⟩
   rfl
  |
   [x1,x2],_,_ =>
   simp only[↓zq,zs,ag]
   refine⟨fun h=>(by cases h),fun _=>?_⟩
   refine ak (yi (.list [x1,x2]) [42]) ?_
   simp only[↓zq,zs,ag]
   refine⟨fun h=>(by cases h),fun _=>?_⟩
   refine ak (yi (.list [x1,x2]) [114,101,99]) ?_
   simp only[↓zq,zs,ag]
   refine⟨fun h=>(by cases h),fun _=>?_⟩
   rfl
  |
   x1::x2::x3::x4::l,_,_ =>
   simp only[↓zq,zs,ag]
   refine⟨fun h=>(by cases h),fun _=>?_⟩
   refine ak (yi (.list (x1::x2::x3::x4::l)) [42]) ?_
   simp only[↓zq,zs,ag]
   refine⟨fun h=>(by cases h),fun _=>?_⟩
   refine ak (yi (.list (x1::x2::x3::x4::l)) [114,101,99]) ?_
   simp only[↓zq,zs,ag]
   refine⟨fun h=>(by cases h),fun _=>?_⟩
   rfl
end Go.Proofs.Trees
namespace Go.Proofs.Trees
open Go Go.VL
def cK(v:AV)(obs:List Ob):AV->List Ob->Prop:=fun r o=>r=v/\o=obs
theorem aU{P:Program}{n:Nat}{Q:Nat->List AV->List Ob->Prop}{f:Nat}{xs:List AV}{ins:List Ob}{k:AV->List Ob->Tree}{v:AV}{obs:List Ob}(h:an P f xs ins (cK v obs))(hk:eU P n (k v obs) Q):eU P n (.call f xs ins k) Q :=
 ⟨cK v obs,h,⟨v,obs,rfl,rfl⟩,fun r o ⟨h1,h2⟩=>by rw[h1,h2];exact hk⟩
def Ty.atoms:Ty->Nat
 | .plus a b=>1+a.atoms+b.atoms
 | .times a b=>1+a.atoms+b.atoms
 | .rc a=>2+a.atoms
 |_=>1
theorem Ew:∀(t:Ty),t.atoms<1000000->an Tryz.prog 112 [t.av] [] (bB (.v (.int .i64 (t.atoms:Int))))
 | .zero,h=>by refine wY _ ((aF _).mpr trivial) ?_;simp[EG,Ty.av,↓zq,zs,ag,bB,Ty.atoms]
 | .one,h=>by refine wY _ ((aF _).mpr trivial) ?_;simp[EG,Ty.av,↓zq,zs,ag,bB,Ty.atoms]
 | .name s,h=>by refine wY _ ((aF _).mpr trivial) ?_;simp[EG,Ty.av,↓zq,zs,ag,bB,Ty.atoms]
 | .bound u,h=>by refine wY _ ((aF _).mpr trivial) ?_;simp[EG,Ty.av,↓zq,zs,ag,bB,Ty.atoms]
 |
  .plus a b,h=>by
  simp only[Ty.atoms]at h
  refine wY _ ((aF _).mpr trivial) ?_
  simp only[EG,Ty.av,↓zq,zs,ag,aF]
  refine⟨by omega,fun _=>⟨by omega,?_⟩,fun h=>absurd rfl h⟩
  refine ak (Ew a (by omega)) ?_
  simp only[↓zq,zs,ag,aF]
  refine⟨by omega,?_⟩
  refine ak (Ew b (by omega)) ?_
  simp only[↓zq,zs,ag,bB,Ty.atoms]
  rw[wrap64 (1+(a.atoms:Int)) (by omega) (by omega),wrap64 _ (by omega) (by omega)]
  congr 2
 |
  .times a b,h=>by
  simp only[Ty.atoms]at h
  refine wY _ ((aF _).mpr trivial) ?_
  simp only[EG,Ty.av,↓zq,zs,ag,aF]
  refine⟨by omega,fun h=>by omega,fun _=>⟨fun _=>⟨by omega,?_⟩,fun h=>absurd rfl h⟩⟩
  refine ak (Ew a (by omega)) ?_
  simp only[↓zq,zs,ag,aF]
  refine⟨by omega,?_⟩
  refine ak (Ew b (by omega)) ?_
  simp only[↓zq,zs,ag,bB,Ty.atoms]
  rw[wrap64 (1+(a.atoms:Int)) (by omega) (by omega),wrap64 _ (by omega) (by omega)]
  congr 2
 |
  .rc a,h=>by
  simp only[Ty.atoms]at h
  refine wY _ ((aF _).mpr trivial) ?_
  simp only[EG,Ty.av,↓zq,zs,ag,aF]
  refine⟨by omega,fun h=>by omega,fun _=>⟨fun h=>by omega,fun _=>⟨fun _=>⟨by omega,?_⟩,fun h=>absurd rfl h⟩⟩⟩
  refine ak (Ew a (by omega)) ?_
  simp only[↓zq,zs,ag,bB,Ty.atoms]
  rw[wrap64 _ (by omega) (by omega)]
  congr 2
theorem iv:∀(e:E) (ar:List (List UInt8)) (t:Ty),cY e ar=some t->t.atoms<=e.sz
 |
  .atom s,ar,t,h=>by
  simp only[cY]at h
  simp only[E.sz]
  split at h
  ·cases h;simp[Ty.atoms]
  ·split at h
   ·cases h;simp[Ty.atoms]
   ·split at h
    ·cases h;simp[Ty.atoms]
    ·split at h
     ·split at h<;>cases h<;>simp[Ty.atoms]
     ·cases h
 |
  .list [x,a,b],ar,t,h=>by
  have hs:∀e:E,1<=e.sz:=fun e=>by cases e<;>simp[E.sz];try omega
  have hx:=hs x
  have ha:=hs a
  simp only[E.sz,E.iY]
  by_cases h1:x.at=[43]
  ·rw[kN ar h1]at h
   split at h
   ·rename_i t1 t2 e1 e2
    cases h
    have:=iv a ar t1 e1
    have:=iv b ar t2 e2
    simp only[Ty.atoms];omega
   ·cases h
  ·by_cases h2:x.at=[42]
   ·rw[jA ar h2]at h
    split at h
    ·rename_i t1 t2 e1 e2
     cases h
     have:=iv a ar t1 e1
     have:=iv b ar t2 e2
     simp only[Ty.atoms];omega
    ·cases h
   ·by_cases h3:x.at=[114,101,99]
    ·rw[mA ar h3]at h
     split at h
     ·split at h
      ·rename_i t1 e1
       cases h
       have:=iv b _ t1 e1
       simp only[Ty.atoms];omega
      ·cases h
     ·cases h
    ·rw[ji ar h1 h2 h3]at h;cases h
 | .list [],_,_,h=>by cases h
 | .list [_],_,_,h=>by cases h
 | .list [_,_],_,_,h=>by cases h
 | .list (_::_::_::_::_),_,_,h=>by cases h
def qD(s:List UInt8):Option Ty:=match qt s with
 |none=>none
 |
  some e=>match cY e []with
  |none=>none
  |some t=>if t.atoms>400 then none else some t
theorem Gs(s:List UInt8):an Tryz.prog 59 [.v (.string (mk s))] [] (bB (gM (qD s))):=by
 refine OT _ ?_
 unfold Ji
 refine ak (M3 s) ?_
 unfold qD
 cases he:qt s with
 |none=>simp only[tV,↓zq,zs,ag,bB,gM];simp
 |
  some e =>
  obtain⟨h1,h2⟩:=nB he
  simp only[tV,↓zq,zs,ag,cN,eg]
  refine⟨fun h=>(by cases h),fun _=>?_⟩
  refine ak (D5 e [] _ h1 .nil (by simp;omega)) ?_
  cases ht:cY e []with
  |none=>simp only[gM,↓zq,zs,ag,bB];simp
  |
   some t =>
   have:=iv e [] t ht
   simp only[gM,↓zq,zs,ag,aF,fC]
   refine⟨fun h=>(by cases h),fun _=>?_⟩
   refine ak (Ew t (by omega)) ?_
   simp only[↓zq,zs,ag,bB]
   refine⟨fun h=>?_,fun h=>?_⟩
   ·rw[if_pos (by omega)]
   ·rw[if_neg (by omega)]
end Go.Proofs.Trees
namespace Go.Proofs.Trees
open Go Go.VL
def Bc(p:Prop):Nat->List AV->List Ob->Prop:=fun t ys o=>(t=1/\¬p/\ys=[]/\o=[])\/(t=2/\p/\∃j:Nat,ys=[.v (.int .i64 (j:Int))]/\o=[])
theorem JE(l:List (List UInt8))(a:AV)(ha:cw a l)(s:List UInt8)(hl:l.length<1000000):∀(k i:Nat),i+k=l.length->s∉l.take i->Hc [a,.v (.string (mk s)),.v (.int .i64 (l.length:Int)),.v (.int .i64 (i:Int))] []
 (Bc (s∈l))
 |
  0,i,hi,hn=>by
  refine JX _ _ _ _ ?_
  simp only[GS,↓zq,zs,ag]
  have:l.take i=l:=List.take_of_length_le (by omega)
  rw[this]at hn
  exact⟨ha.1,fun h=>by omega,fun _=>.inl ⟨rfl,hn,rfl,rfl⟩⟩
 |
  k+1,i,hi,hn=>by
  have hlt:i<l.length:=by omega
  refine JX _ _ _ _ ?_
  simp only[GS,↓zq,zs,ag,zt,ha.len,ha.idx hlt]
  have hm:l.getD i []∈l:=by simp[aa,hlt]
  refine⟨ha.1,fun _=>⟨⟨ha.1,by omega,by omega⟩,by omega,fun h=>?_,fun h=>?_⟩,fun h=>by omega⟩
  ·exact .inr ⟨rfl,by rw[h];exact hm,i,rfl,rfl⟩
  ·rw[bS i (by omega)]
   refine JE l a ha s hl k (i+1) (by omega) ?_
   rw[List.take_add_one]
   simp only[aK,not_or]
   refine⟨hn,?_⟩
   have:l[i]?=some (l.getD i []):=by simp[aa,hlt]
   rw[this];simpa using h
theorem Jp(l:List (List UInt8))(a:AV)(ha:cw a l)(s:List UInt8)(hl:l.length<1000000):an Tryz.prog 161 [a,.v (.string (mk s))] [] (bB (.v (.bool (decide (s∈l))))):=by
 have hI:an Tryz.prog 200 [a,.v (.string (mk s))] [] (fun r o=>∃n:Int,r=.v (.int .i64 n)/\(0<=n↔s∈l)/\o=[]):=by
  refine On _ _ ha.1 ?_
  simp only[Nn,↓zq,zs,ag,ha.len]
  refine⟨ha.1,mq (JE l a ha s hl l.length 0 (by omega) (by simp)) ?_ ?_⟩
  ·rintro ys o (⟨_,h1,rfl,rfl⟩|⟨h,_⟩)
   ·simp only[↓zq,zs,ag]
    exact⟨-1,rfl,⟨fun h=>(by omega),fun h=>absurd h h1⟩⟩
   ·cases h
  ·rintro ys o (⟨h,_⟩|⟨_,h1,j,rfl,rfl⟩)
   ·cases h
   ·simp only[↓zq,zs,ag]
    exact⟨j,rfl,⟨fun _=>h1,fun _=>(by omega)⟩⟩
 refine Q8 _ _ ha.1 ?_
 unfold I0
 refine aO hI ⟨.v (.int .i64 (if s∈l then 0 else -1)),[],_,rfl,by split<;>simp_all,rfl⟩ ?_
 rintro r o ⟨n,rfl,hn,rfl⟩
 simp only[↓zq,zs,ag,bB]
 congr 2
 rw[cF];simp[hn]
def oV(out:List (List UInt8)):Ty->List (List UInt8)
 | .name s=>if s∈out then out else out++[s]
 |_=>out
theorem w7(t:Ty)(out:List (List UInt8))(hl:out.length<100000):an Tryz.prog 199 [t.av,.ref 0 0] [.cells [.vec 1],.vec 1 (bn out)] (cK .any [.cells [.vec 1],.vec 1 (bn (oV out t))]):=by
 refine O6 _ _ ((aF _).mpr trivial) ?_
 have hlen:(bn out).length=out.length:=by simp[bn]
 cases t with
 |
  name s =>
  simp only[EO,Ty.av,↓zq,zs,ag,cK,hlen]
  refine⟨by omega,fun _=>⟨by omega,?_⟩,fun h=>absurd rfl h⟩
  refine ak (Jp out _ (.of out) s (by omega)) ?_
  simp only[↓zq,zs,ag,oV]
  refine⟨fun h=>⟨by omega,⟨fun c hc=>(by simp at hc;rw[hc];rfl),by omega⟩,?_⟩,fun h=>?_⟩
  ·rw[Ez,if_neg h]
  ·rw[if_pos h]
 |_=>simp[EO,Ty.av,↓zq,zs,ag,cK,oV]
def bI:Ty->List (List UInt8)->List (List UInt8)
 | .name s,out=>oV out (.name s)
 | .plus a b,out=>bI b (bI a out)
 | .times a b,out=>bI b (bI a out)
 | .rc a,out=>bI a out
 |_,out=>out
theorem er:∀(t:Ty) (out:List (List UInt8)),(bI t out).length<=out.length+t.atoms
 | .name s,out=>by simp only[bI,oV,Ty.atoms];split<;>simp
 |
  .plus a b,out=>by
  have:=er a out
  have:=er b (bI a out)
  simp only[bI,Ty.atoms];omega
 |
  .times a b,out=>by
  have:=er a out
  have:=er b (bI a out)
  simp only[bI,Ty.atoms];omega
 |
  .rc a,out=>by
  have:=er a out
  simp only[bI,Ty.atoms];omega
 | .zero,out=>by simp[bI]
 | .one,out=>by simp[bI]
 | .bound u,out=>by simp[bI]
theorem zF:∀(t:Ty) (out:List (List UInt8)),out.length+t.atoms<100000->an Tryz.prog 198 [t.av,.fn 199 [.ref 0 0]] [.cells [.vec 1],.vec 1 (bn out)] (cK .any [.cells [.vec 1],.vec 1 (bn (bI t out))])
 |
  .plus a b,out,hl=>by
  simp only[Ty.atoms]at hl
  have:=er a out
  refine FL _ _ ((aF _).mpr trivial) ?_
  unfold Ed
  refine aU (w7 (.plus a b) out (by omega)) ?_
  simp only[Ty.av,↓zq,zs,ag,aF,fC,oV,aL,cK]
  refine⟨by omega,fun _=>⟨by omega,?_⟩,fun h=>(by cases h)⟩
  refine aU (zF a out (by omega)) ?_
  simp only[↓zq,zs,ag,aF,fC,aL]
  refine⟨by omega,fun _=>⟨by omega,?_⟩,fun h=>(by cases h)⟩
  refine aU (zF b (bI a out) (by omega)) ?_
  simp only[↓zq,zs,ag,aL,bI]
 |
  .times a b,out,hl=>by
  simp only[Ty.atoms]at hl
  have:=er a out
  refine FL _ _ ((aF _).mpr trivial) ?_
  unfold Ed
  refine aU (w7 (.times a b) out (by omega)) ?_
  simp only[Ty.av,↓zq,zs,ag,aF,fC,oV,aL,cK]
  refine⟨by omega,fun _=>⟨by omega,?_⟩,fun h=>(by cases h)⟩
  refine aU (zF a out (by omega)) ?_
  simp only[↓zq,zs,ag,aF,fC,aL]
  refine⟨by omega,fun _=>⟨by omega,?_⟩,fun h=>(by cases h)⟩
  refine aU (zF b (bI a out) (by omega)) ?_
  simp only[↓zq,zs,ag,aL,bI]
 |
  .rc a,out,hl=>by
  simp only[Ty.atoms]at hl
  refine FL _ _ ((aF _).mpr trivial) ?_
  unfold Ed
  refine aU (w7 (.rc a) out (by omega)) ?_
  simp only[Ty.av,↓zq,zs,ag,aF,fC,oV,aL,cK]
  refine⟨by omega,fun _=>⟨by omega,?_⟩,fun h=>(by cases h)⟩
  refine aU (zF a out (by omega)) ?_
  simp[↓zq,zs,ag,aF,fC,aL,bI]
 |
  .name s,out,hl=>by
  refine FL _ _ ((aF _).mpr trivial) ?_
  unfold Ed
  refine aU (w7 (.name s) out (by omega)) ?_
  simp[Ty.av,↓zq,zs,ag,aL,cK,bI]
 |
  .zero,out,hl=>by
  refine FL _ _ ((aF _).mpr trivial) ?_
  unfold Ed
  refine aU (w7 .zero out (by omega)) ?_
  simp[Ty.av,↓zq,zs,ag,aL,cK,bI,oV]
 |
  .one,out,hl=>by
  refine FL _ _ ((aF _).mpr trivial) ?_
  unfold Ed
  refine aU (w7 .one out (by omega)) ?_
  simp[Ty.av,↓zq,zs,ag,aL,cK,bI,oV]
 |
  .bound u,out,hl=>by
  refine FL _ _ ((aF _).mpr trivial) ?_
  unfold Ed
  refine aU (w7 (.bound u) out (by omega)) ?_
  simp[Ty.av,↓zq,zs,ag,aL,cK,bI,oV]
theorem ME(t:Ty)(hl:t.atoms<100000):an Tryz.prog 159 [t.av] [] (bB (.sl (bn (bI t [])))):=by
 refine Q0 _ ((aF _).mpr trivial) ?_
 unfold Ld
 refine aU (zF t [] (by simpa using hl)) ?_
 simp[↓zq,zs,ag,aL,bB]
theorem KL(l:List (List UInt8))(a:AV)(ha:cw a l)(hl:l.length<1000000):∀(k i:Nat),i+k=l.length->(∀s,s∈l.take i->dD s=false)->Gq [a,.v (.func (.func 157) #[] #[]),.v (.int .i64 (l.length:Int)),.v (.int .i64 (i:Int))] []
 (Bc (l.any dD=true))
 |
  0,i,hi,hn=>by
  refine Ib _ _ _ ?_
  simp only[HB,↓zq,zs,ag]
  have:l.take i=l:=List.take_of_length_le (by omega)
  rw[this]at hn
  exact⟨ha.1,fun h=>by omega,fun _=>.inl ⟨rfl,fun hh=>(by obtain⟨x,hx,hy⟩:=cf.1 hh;rw[hn x hx]at hy;cases hy),rfl,rfl⟩⟩
 |
  k+1,i,hi,hn=>by
  have hlt:i<l.length:=by omega
  refine Ib _ _ _ ?_
  simp only[HB,↓zq,zs,ag,zt,ha.len,ha.idx hlt]
  have hm:l.getD i []∈l:=by simp[aa,hlt]
  refine⟨ha.1,fun _=>⟨⟨ha.1,by omega,by omega⟩,by omega,?_⟩,fun h=>by omega⟩
  refine ak (D6 _) ?_
  simp only[↓zq,zs,ag]
  refine⟨fun h=>?_,fun h=>?_⟩
  ·exact .inr ⟨rfl,cf.2 ⟨_,hm,h⟩,i,rfl,rfl⟩
  ·rw[bS i (by omega)]
   refine KL l a ha hl k (i+1) (by omega) ?_
   intro s hs
   rw[List.take_add_one]at hs
   have:l[i]?=some (l.getD i []):=by simp[aa,hlt]
   rw[this]at hs
   rcases aK.1 hs with hs|hs
   ·exact hn s hs
   ·simp at hs;rw[hs];simpa using h
theorem P6(l:List (List UInt8))(a:AV)(ha:cw a l)(hl:l.length<1000000):an Tryz.prog 162 [a,.v (.func (.func 157) #[] #[])] [] (bB (.v (.bool (l.any dD)))):=by
 have hI:an Tryz.prog 201 [a,.v (.func (.func 157) #[] #[])] [] (fun r o=>∃n:Int,r=.v (.int .i64 n)/\(0<=n↔l.any dD=true)/\o=[]):=by
  refine P4 _ ha.1 ?_
  simp only[JS,↓zq,zs,ag,ha.len]
  refine⟨ha.1,mq (KL l a ha hl l.length 0 (by omega) (by simp)) ?_ ?_⟩
  ·rintro ys o (⟨_,h1,rfl,rfl⟩|⟨h,_⟩)
   ·simp only[↓zq,zs,ag]
    exact⟨-1,rfl,⟨fun h=>(by omega),fun h=>absurd h h1⟩⟩
   ·cases h
  ·rintro ys o (⟨h,_⟩|⟨_,h1,j,rfl,rfl⟩)
   ·cases h
   ·simp only[↓zq,zs,ag]
    exact⟨j,rfl,⟨fun _=>h1,fun _=>(by omega)⟩⟩
 refine Qi _ ha.1 ?_
 unfold MJ
 refine aO hI ⟨.v (.int .i64 (if l.any dD=true then 0 else -1)),[],_,rfl,by split<;>simp_all,rfl⟩ ?_
 rintro r o ⟨n,rfl,hn,rfl⟩
 simp only[↓zq,zs,ag,bB]
 congr 2
 rw[cF];simp only[decide_eq_true_eq,ge_iff_le,hn]
def Ty.closed(t:Ty):Bool:=!((bI t []).any dD)
theorem Qg(t:Ty)(hl:t.atoms<100000):an Tryz.prog 119 [t.av] [] (bB (.v (.bool t.closed))):=by
 refine Py _ ((aF _).mpr trivial) ?_
 unfold K8
 refine ak (ME t hl) ?_
 simp only[↓zq,zs,ag]
 have:=er t []
 refine ak (P6 _ _ (.of _) (by simp at this;omega)) ?_
 simp only[↓zq,zs,ag,bB,Ty.closed]
def wC(s:List UInt8):Option Ty:=match qD s with
 |none=>none
 |some t=>if t.closed=true then some t else none
theorem tu{s:List UInt8}{t:Ty}(h:qD s=some t):t.atoms<=400:=by
 unfold qD at h
 split at h
 ·cases h
 ·split at h
  ·cases h
  ·split at h<;>cases h
   omega
theorem H8(s:List UInt8):an Tryz.prog 62 [.v (.string (mk s))] [] (bB (gM (wC s))):=by
 refine NY _ ?_
 unfold Jd
 refine ak (Gs s) ?_
 unfold wC
 cases ht:qD s with
 |none=>simp[gM,↓zq,zs,ag,bB]
 |
  some t =>
  have:=tu ht
  simp only[gM,↓zq,zs,ag,aF,fC]
  refine⟨fun h=>(by cases h),fun _=>?_⟩
  refine ak (Qg t (by omega)) ?_
  simp only[↓zq,zs,ag,bB]
  refine⟨fun h=>?_,fun h=>?_⟩
  ·rw[if_neg (by rw[h];simp)]
  ·rw[if_pos h]
theorem ej(l:List (List UInt8)):∀x,x∈[Ob.vec 1 (bn l)]->dL x:=by
 intro x hx
 simp only[aS]at hx
 subst hx
 intro e he c hc
 simp only[bn,bJ]at he
 obtain⟨k,_,rfl⟩:=he
 simp only[aS]at hc
 exact⟨_,hc⟩
end Go.Proofs.Trees
namespace Go.Proofs.Trees
open Go Go.VL Go.RowKit
abbrev Nm:=List UInt8
def du(u:Ty):Ty->Nat->Ty
 | .bound k,i=>if k=i then u else .bound k
 | .plus a b,i=>.plus (du u a i) (du u b i)
 | .times a b,i=>.times (du u a i) (du u b i)
 | .rc a,i=>.rc (du u a (i+1))
 |t,_=>t
def sub(x:Nm)(u:Ty):Ty->Ty
 | .name s=>if s=x then u else .name s
 | .plus a b=>.plus (sub x u a) (sub x u b)
 | .times a b=>.times (sub x u a) (sub x u b)
 | .rc a=>.rc (sub x u a)
 |t=>t
def bb(x:Nm):Ty->Bool
 | .name s=>decide (s=x)
 | .plus a b=>bb x a||bb x b
 | .times a b=>bb x a||bb x b
 | .rc a=>bb x a
 |_=>false
def ju(f:Nm->Nm):Ty->Ty
 | .name s=>.name (f s)
 | .plus a b=>.plus (ju f a) (ju f b)
 | .times a b=>.times (ju f a) (ju f b)
 | .rc a=>.rc (ju f a)
 |t=>t
def KK(f:Nm->Nm):Prop:=∀x y,f x=f y->x=y
theorem lK(f:Nm->Nm)(x:Nm):∀(t:Ty) (i:Nat),ju f (du (.name x) t i)=du (.name (f x)) (ju f t) i
 | .bound k,i=>by simp only[du,ju];split<;>rfl
 | .plus a b,i=>by simp only[du,ju,lK f x a i,lK f x b i]
 | .times a b,i=>by simp only[du,ju,lK f x a i,lK f x b i]
 | .rc a,i=>by simp only[du,ju,lK f x a (i+1)]
 | .zero,i=>rfl
 | .one,i=>rfl
 | .name s,i=>rfl
theorem lq{f:Nm->Nm}(hf:KK f)(x:Nm)(u:Ty):∀t:Ty,ju f (sub x u t)=sub (f x) (ju f u) (ju f t)
 |
  .name s=>by
  simp only[sub,ju]
  by_cases h:s=x
  ·subst h;simp
  ·rw[if_neg h,if_neg fun e=>h (hf _ _ e)];rfl
 | .plus a b=>by simp only[sub,ju,lq hf x u a,lq hf x u b]
 | .times a b=>by simp only[sub,ju,lq hf x u a,lq hf x u b]
 | .rc a=>by simp only[sub,ju,lq hf x u a]
 | .zero=>rfl
 | .one=>rfl
 | .bound k=>rfl
theorem mD{f:Nm->Nm}(hf:KK f)(x:Nm):∀t:Ty,bb (f x) (ju f t)=bb x t
 | .name s=>by simp only[bb,ju];rw[cF];simp only[decide_eq_true_eq];exact⟨fun e=>hf _ _ e,fun e=>by rw[e]⟩
 | .plus a b=>by simp only[bb,ju,mD hf x a,mD hf x b]
 | .times a b=>by simp only[bb,ju,mD hf x a,mD hf x b]
 | .rc a=>by simp only[bb,ju,mD hf x a]
 | .zero=>rfl
 | .one=>rfl
 | .bound k=>rfl
theorem gr(f:Nm->Nm):∀t:Ty,(ju f t).atoms=t.atoms
 | .plus a b=>by simp only[Ty.atoms,ju,gr f a,gr f b]
 | .times a b=>by simp only[Ty.atoms,ju,gr f a,gr f b]
 | .rc a=>by simp only[Ty.atoms,ju,gr f a]
 | .name s=>rfl
 | .zero=>rfl
 | .one=>rfl
 | .bound k=>rfl
theorem pF{f:Nm->Nm}:∀t:Ty,(∀x,bb x t=true->f x=x)->ju f t=t
 | .name s,h=>by simp only[ju];rw[h s (by simp[bb])]
 | .plus a b,h=>by simp only[ju];rw[pF a fun x hx=>h x (by simp[bb,hx]),pF b fun x hx=>h x (by simp[bb,hx])]
 | .times a b,h=>by simp only[ju];rw[pF a fun x hx=>h x (by simp[bb,hx]),pF b fun x hx=>h x (by simp[bb,hx])]
 | .rc a,h=>by simp only[ju];rw[pF a fun x hx=>h x hx]
 | .zero,_=>rfl
 | .one,_=>rfl
 | .bound k,_=>rfl
theorem fw(x:Nm):∀(t:Ty) (i:Nat),(du (.name x) t i).atoms=t.atoms
 | .bound k,i=>by simp only[du];split<;>rfl
 | .plus a b,i=>by simp only[du,Ty.atoms,fw x a i,fw x b i]
 | .times a b,i=>by simp only[du,Ty.atoms,fw x a i,fw x b i]
 | .rc a,i=>by simp only[du,Ty.atoms,fw x a (i+1)]
 | .zero,i=>rfl
 | .one,i=>rfl
 | .name s,i=>rfl
theorem ef(t:Ty):1<=t.atoms:=by cases t<;>simp only[Ty.atoms]<;>omega
theorem gJ(x:Nm)(u:Ty):∀t:Ty,t.atoms<=(sub x u t).atoms
 | .name s=>by simp only[sub];split<;>simp only[Ty.atoms];exact ef u;omega
 | .plus a b=>by have:=gJ x u a;have:=gJ x u b;simp only[sub,Ty.atoms];omega
 | .times a b=>by have:=gJ x u a;have:=gJ x u b;simp only[sub,Ty.atoms];omega
 | .rc a=>by have:=gJ x u a;simp only[sub,Ty.atoms];omega
 | .zero=>aw _
 | .one=>aw _
 | .bound k=>aw _
theorem gf{x y:Nm}:∀(t:Ty) (i:Nat),bb y (du (.name x) t i)=true->y=x\/bb y t=true
 |
  .bound k,i,h=>by
  simp only[du]at h
  split at h
  ·left;simp only[bb,decide_eq_true_eq]at h;exact h.symm
  ·cases h
 |
  .plus a b,i,h=>by
  simp only[du,bb,bD]at h |-
  rcases h with h|h
  ·rcases gf a i h with h|h<;>simp[h]
  ·rcases gf b i h with h|h<;>simp[h]
 |
  .times a b,i,h=>by
  simp only[du,bb,bD]at h |-
  rcases h with h|h
  ·rcases gf a i h with h|h<;>simp[h]
  ·rcases gf b i h with h|h<;>simp[h]
 | .rc a,i,h=>gf a (i+1) h
 | .zero,i,h=>by cases h
 | .one,i,h=>by cases h
 | .name s,i,h=>.inr h
theorem iU{x y:Nm}{u:Ty}:∀t:Ty,bb y (sub x u t)=true->bb y u=true\/(y≠x/\bb y t=true)
 |
  .name s,h=>by
  simp only[sub]at h
  split at h
  ·exact .inl h
  ·rename_i hs
   simp only[bb,decide_eq_true_eq]at h
   subst h
   exact .inr ⟨hs,by simp[bb]⟩
 |
  .plus a b,h=>by
  simp only[sub,bb,bD]at h |-
  rcases h with h|h
  ·rcases iU a h with h|h<;>simp[h]
  ·rcases iU b h with h|h<;>simp[h]
 |
  .times a b,h=>by
  simp only[sub,bb,bD]at h |-
  rcases h with h|h
  ·rcases iU a h with h|h<;>simp[h]
  ·rcases iU b h with h|h<;>simp[h]
 |
  .rc a,h=>by
  simp only[sub,bb]at h |-
  exact iU a h
 | .zero,h=>by cases h
 | .one,h=>by cases h
 | .bound k,h=>by cases h
def swp(x y:Nm):Nm->Nm:=fun s=>if s=x then y else if s=y then x else s
theorem xM(x y:Nm):KK (swp x y):=by
 intro a b h
 unfold swp at h
 by_cases h1:a=x<;>by_cases h2:a=y<;>by_cases h3:b=x<;>by_cases h4:b=y<;>simp_all
theorem wb(x y:Nm):swp x y x=y:=by simp[swp]
theorem AZ{x y s:Nm}(h:s≠x)(h':s≠y):swp x y s=s:=by simp[swp,h,h']
theorem uF{x y:Nm}{t:Ty}(h:bb x t=false)(h':bb y t=false):ju (swp x y) t=t :=
 pF t fun z hz=>AZ (fun e=>by subst e;rw[h]at hz;cases hz) (fun e=>by subst e;rw[h']at hz;cases hz)
def pK(a:Ty)(x:Nm)(c d:Ty):Ty:=.rc (.plus (sub x (.rc a) c) (.times (sub x (.rc a) d) (.bound 0)))
inductive Dv:Ty->Nm->Ty->Prop
 |zero (s):Dv .zero s .zero
 |one (s):Dv .one s .zero
 |bound (k s):Dv (.bound k) s .zero
 |hit (s):Dv (.name s) s .one
 |qf {n s} (h:n≠s):Dv (.name n) s .zero
 |plus {a b s a' b'} (h1:Dv a s a') (h2:Dv b s b') (hl:(Ty.plus a' b').atoms<=400):Dv (.plus a b) s (.plus a' b')
 |times {a b s a' b'} (h1:Dv a s a') (h2:Dv b s b') (hl:(Ty.plus (.times a' b) (.times a b')).atoms<=400):Dv (.times a b) s (.plus (.times a' b) (.times a b'))
 |rc {a s c d} (x:Nm) (hx:bb x a=false) (hs:x≠s) (h1:Dv (du (.name x) a 0) s c) (h2:Dv (du (.name x) a 0) x d) (hl:(pK a x c d).atoms<=400):Dv (.rc a) s (pK a x c d)
theorem yD{f:Nm->Nm}(hf:KK f)(a:Ty)(x:Nm)(c d:Ty):ju f (pK a x c d)=pK (ju f a) (f x) (ju f c) (ju f d):=by
 simp only[pK,ju,lq hf]
theorem Dv.ju{f:Nm->Nm}(hf:KK f){t d:Ty}{s:Nm}(h:Dv t s d):Dv (ju f t) (f s) (ju f d):=by
 induction h with
 |zero s=>exact .zero _
 |one s=>exact .one _
 |bound k s=>exact .bound _ _
 |hit s=>exact .hit _
 |qf h=>exact .qf fun e=>h (hf _ _ e)
 |plus h1 h2 hl i1 i2=>exact .plus i1 i2 (by rw[<-gr f]at hl;exact hl)
 |times h1 h2 hl i1 i2=>exact .times i1 i2 (by rw[<-gr f]at hl;exact hl)
 |
  rc x hx hs h1 h2 hl i1 i2 =>
  rw[yD hf]
  rw[lK]at i1 i2
  exact .rc (f x) (by rw[mD hf];exact hx) (fun e=>hs (hf _ _ e)) i1 i2 (by rw[<-yD hf,gr];exact hl)
theorem Dv.names{t d:Ty}{s:Nm}(h:Dv t s d):∀y,bb y d=true->bb y t=true:=by
 induction h with
 |zero s=>intro y hy;cases hy
 |one s=>intro y hy;cases hy
 |bound k s=>intro y hy;cases hy
 |hit s=>intro y hy;cases hy
 |qf h=>intro y hy;cases hy
 |
  plus h1 h2 hl i1 i2 =>
  intro y hy
  simp only[bb,bD]at hy |-
  rcases hy with hy|hy
  ·exact .inl (i1 y hy)
  ·exact .inr (i2 y hy)
 |
  times h1 h2 hl i1 i2 =>
  intro y hy
  simp only[bb,bD]at hy |-
  rcases hy with(hy|hy)|(hy|hy)
  ·exact .inl (i1 y hy)
  ·exact .inr hy
  ·exact .inl hy
  ·exact .inr (i2 y hy)
 |
  rc x hx hs h1 h2 hl i1 i2 =>
  intro y hy
  simp only[pK,bb,bD,Bool.or_false]at hy |-
  have key:∀{a c:Ty},(∀y,bb y c=true->bb y (du (.name x) a 0)=true)->bb y (sub x (.rc a) c)=true->bb y a=true:=fun i h=>by
   rcases iU _ h with h|⟨h,h'⟩
   ·exact h
   ·rcases gf _ _ (i y h')with e|e
    ·exact absurd e h
    ·exact e
  rcases hy with hy|hy
  ·exact key i1 hy
  ·exact key i2 hy
theorem Dv.fresh{t d:Ty}{s y:Nm}(h:Dv t s d)(hy:bb y t=false):bb y d=false:=by
 cases e:bb y d with
 |false=>rfl
 |true=>rw[h.names y e]at hy;cases hy
theorem Dv.move{a c:Ty}{x y s:Nm}(hx:bb x a=false)(hy:bb y a=false)(h:Dv (du (.name x) a 0) s c):Dv (du (.name y) a 0) (swp x y s) (Go.Proofs.Trees.ju (swp x y) c):=by
 have:=h.ju (xM x y)
 rw[lK,wb,uF hx hy]at this
 exact this
theorem lU{a c:Ty}{x y s:Nm}(hx:bb x a=false)(hy:bb y a=false)(h:Dv (du (.name x) a 0) s c):sub y (.rc a) (ju (swp x y) c)=sub x (.rc a) c:=by
 have e:=lq (xM x y) x (.rc a) c
 rw[wb,uF (t:=.rc a) hx hy]at e
 rw[<-e]
 have key:∀z,(z=x\/z=y)->bb z (sub x (.rc a) c)=false:=fun z hz=>by
  cases q:bb z (sub x (.rc a) c)with
  |false=>rfl
  |
   true =>
   exfalso
   have hz':bb z a=false:=by rcases hz with rfl|rfl<;>assumption
   rcases iU _ q with h1|⟨h1,h2⟩
   ·rw[show bb z (.rc a)=bb z a from rfl,hz']at h1;cases h1
   ·rcases gf _ _ (h.names z h2)with e|e
    ·exact h1 e
    ·rw[hz']at e;cases e
 exact uF (key x (.inl rfl)) (key y (.inr rfl))
theorem Dv.uniq:∀(n:Nat) (t:Ty),t.atoms<=n->∀{s:Nm} {d d':Ty},Dv t s d->Dv t s d'->d=d'
 |0,t,h,_,_,_,_,_=>by have:=ef t;omega
 |
  n+1,t,hn,s,d,d',h,h'=>by
  cases h with
  |zero=>cases h';rfl
  |one=>cases h';rfl
  |bound=>cases h';rfl
  |
   hit =>
   cases h' with
   |hit=>rfl
   |qf h=>exact absurd rfl h
  |
   qf h =>
   cases h' with
   |hit=>exact absurd rfl h
   |qf _=>rfl
  |
   plus h1 h2 =>
   simp only[Ty.atoms]at hn
   cases h' with
   |plus g1 g2=>rw[Dv.uniq n _ (by omega) h1 g1,Dv.uniq n _ (by omega) h2 g2]
  |
   times h1 h2 =>
   simp only[Ty.atoms]at hn
   cases h' with
   |times g1 g2=>rw[Dv.uniq n _ (by omega) h1 g1,Dv.uniq n _ (by omega) h2 g2]
  |
   rc x hx hs h1 h2 =>
   simp only[Ty.atoms]at hn
   cases h' with
   |
    rc y hy hs' g1 g2 =>
    rename_i a _ _ _ _ _ _
    have m1:=h1.move hx hy
    have m2:=h2.move hx hy
    rw[AZ (Ne.symm hs) (Ne.symm hs')]at m1
    rw[wb]at m2
    have e1:=Dv.uniq n _ (by rw[fw];omega) m1 g1
    have e2:=Dv.uniq n _ (by rw[fw];omega) m2 g2
    rw[pK,pK,<-e1,<-e2,lU hx hy h1,lU hx hy h2]
theorem Dv.small{t d:Ty}{s:Nm}(h:Dv t s d):d.atoms<=400:=by
 cases h<;>first|assumption|simp[Ty.atoms]
open Classical in
noncomputable def lC (t:Ty) (s:Nm):Option Ty:=if h:∃d,Dv t s d then some (Classical.choose h)else none
theorem cI{t:Ty}{s:Nm}{d:Ty}:lC t s=some d↔Dv t s d:=by
 unfold lC
 by_cases h:∃d,Dv t s d
 ·rw[dif_pos h]
  have:=Classical.choose_spec h
  constructor
  ·intro e;cases e;exact this
  ·intro g;rw[Dv.uniq _ t (aw _) this g]
 ·rw[dif_neg h]
  exact⟨fun e=>(by cases e),fun g=>absurd ⟨d,g⟩ h⟩
def m8(t:Ty):Option Ty:=if t.atoms<=400 then some t else none
theorem eS{t d:Ty}:m8 t=some d↔t.atoms<=400/\t=d:=by
 unfold m8
 split
 ·rename_i h;simp[h]
 ·rename_i h;simp[h]
theorem qB{α:Type}{a b:Option α}(h:∀d,a=some d↔b=some d):a=b:=by
 cases a with
 |
  none=>cases b with
  |none=>rfl
  |some x=>have:=(h x).2 rfl;cases this
 |some x=>exact((h x).1 rfl).symm
theorem uY(s:Nm):lC .zero s=some .zero:=cI.2 (.zero _)
theorem xy(s:Nm):lC .one s=some .zero:=cI.2 (.one _)
theorem zh(k:Nat)(s:Nm):lC (.bound k) s=some .zero:=cI.2 (.bound _ _)
theorem oj(n s:Nm):lC (.name n) s=some (if n=s then .one else .zero):=by
 split
 ·rename_i h;subst h;exact cI.2 (.hit _)
 ·rename_i h;exact cI.2 (.qf h)
theorem vC(a b:Ty)(s:Nm):lC (.plus a b) s=(lC a s).bind fun a'=>(lC b s).bind fun b'=>m8 (.plus a' b'):=by
 refine qB fun d=>?_
 rw[cI]
 simp only[bc,cI,eS]
 constructor
 ·intro h;cases h with|plus h1 h2 hl=>exact⟨_,h1,_,h2,hl,rfl⟩
 ·rintro⟨a',h1,b',h2,hl,rfl⟩;exact .plus h1 h2 hl
theorem sP(a b:Ty)(s:Nm):lC (.times a b) s=(lC a s).bind fun a'=>(lC b s).bind fun b'=>m8 (.plus (.times a' b) (.times a b')):=by
 refine qB fun d=>?_
 rw[cI]
 simp only[bc,cI,eS]
 constructor
 ·intro h;cases h with|times h1 h2 hl=>exact⟨_,h1,_,h2,hl,rfl⟩
 ·rintro⟨a',h1,b',h2,hl,rfl⟩;exact .times h1 h2 hl
theorem BB{a:Ty}{s x:Nm}(hx:bb x a=false)(hs:x≠s):lC (.rc a) s=(lC (du (.name x) a 0) s).bind fun c=>(lC (du (.name x) a 0) x).bind fun d=>m8 (pK a x c d):=by
 refine qB fun d=>?_
 rw[cI]
 simp only[bc,cI,eS]
 constructor
 ·intro h
  cases h with
  |
   rc y hy hs' h1 h2 hl =>
   have m1:=h1.move hy hx
   have m2:=h2.move hy hx
   rw[AZ (Ne.symm hs') (Ne.symm hs)]at m1
   rw[wb]at m2
   refine⟨_,m1,_,m2,?_⟩
   have e:∀c d,sub x (.rc a) (ju (swp y x) c)=sub y (.rc a) c->sub x (.rc a) (ju (swp y x) d)=sub y (.rc a) d->pK a x (ju (swp y x) c) (ju (swp y x) d)=pK a y c d:=fun c d e1 e2=>by rw[pK,pK,e1,e2]
   rw[e _ _ (lU hy hx h1) (lU hy hx h2)]
   exact⟨hl,rfl⟩
 ·rintro⟨c,h1,d',h2,hl,rfl⟩;exact .rc x hx hs h1 h2 hl
noncomputable def nH (a:Ty) (x:Nm):Option Ty:=(lC (du (.name x) a 0) x).bind fun d=>m8 (sub x (.rc a) d)
theorem EW{a:Ty}{x y:Nm}(hx:bb x a=false)(hy:bb y a=false):nH a x=nH a y:=by
 have key:∀{x y:Nm} {d:Ty},bb x a=false->bb y a=false->nH a x=some d->nH a y=some d:=fun {x y d} hx hy h=>by
  simp only[nH,bc,cI,eS]at h |-
  obtain⟨d',h1,hl,rfl⟩:=h
  have m1:=h1.move hx hy
  rw[wb]at m1
  exact⟨_,m1,by rw[lU hx hy h1];exact⟨hl,rfl⟩⟩
 exact qB fun d=>⟨key hx hy,key hy hx⟩
end Go.Proofs.Trees
namespace Go.Proofs.Trees
open Go Go.VL
theorem Pp(b:UInt8):an Tryz.prog 234 [.v (.int .u8 (b.toNat:Int))] [] (bB (.v (.bool (eV b)))):=by
 refine Ql _ ?_
 simp only[Il,↓zq,zs,ag,bB,eV]
 repeat' (apply aI<;>intro _)
 all_goals first|(congr 2;rw[cF];simp;omega)|(congr 2;simp;omega)
def DI(s:List UInt8)(x:Option (E×List UInt8)):AV->List Ob->Prop:=fun r o=>o=[] /\
 match x with
 |some (e,u)=>r=.cy [e.kj,.v (.int .i64 ((s.length-u.length:Nat):Int))]
 |none=>∃(c:List UInt8) (d:AV),LK.sl.has d/\r=.cy [.agg [.v (.string (mk c)),d],.v (.int .i64 (-1))]
theorem DI.ne(s:List UInt8)(x:Option (E×List UInt8)):∃r o,DI s x r o:=by
 cases x with
 |some q=>exact⟨_,_,rfl,rfl⟩
 |none=>exact⟨_,_,rfl,[],.v (.slice none 0 0),(bj).mpr trivial,rfl⟩
def jc(c:List UInt8)(d:AV):Ob:=.cells [.v (.string (mk c)),d]
theorem IM(s:List UInt8)(hs:s.length<=8000)(from_:Int)(c1 c2:List UInt8)(d1 d2:AV)(h1:LK.sl.has d1)(h2:LK.sl.has d2):∀(k i:Nat),i+k=s.length->GG [.v (.string (mk s)),.v (.int .i64 (i:Int)),.v (.int .i64 from_)] [jc c1 d1,jc c2 d2]
 (jX 1 [.v (.string (mk s)),.v (.int .i64 ((i+((s.drop i).takeWhile eV).length:Nat):Int)),.v (.int .i64 from_)] [jc c1 d1,jc c2 d2])
 |
  0,i,hi=>by
  refine Jo _ _ _ _ _ _ _ ?_
  have hd:s.drop i=[]:=bP (by omega)
  simp only[FG,↓zq,zs,ag,zt]
  exact⟨h1,h2,fun h=>by omega,fun _=>by simp[jX,hd,jc]⟩
 |
  k+1,i,hi=>by
  have hlt:i<s.length:=by omega
  refine Jo _ _ _ _ _ _ _ ?_
  simp only[FG,↓zq,zs,ag,zt,lL s i hlt]
  refine⟨h1,h2,fun _=>⟨by omega,?_⟩,fun h=>by omega⟩
  refine ak (Pp _) ?_
  simp only[↓zq,zs,ag]
  refine⟨fun hb=>?_,fun hb=>?_⟩
  ·rw[bS i (by omega)]
   have:=IM s hs from_ c1 c2 d1 d2 h1 h2 k (i+1) (by omega)
   rw[xu hlt hb,show i+(((s.drop (i+1)).takeWhile eV).length+1)=i+1+((s.drop (i+1)).takeWhile eV).length by omega]
   exact this
  ·simp[jX,qL hlt hb,jc]
def RA(s:List UInt8)(x:Option (E×List UInt8)):Nat->List AV->List Ob->Prop:=fun t ys o=>t=2 /\
 match x with
 |some (e,u)=>∃l,e=.list l/\ys=[.v (.int .i64 ((s.length-u.length:Nat):Int))]/\o=[jc [] .any,.vec 2 (E.bo l)]
 |none=>∃es,ys=[.v (.int .i64 (-1))]/\o=[jc [] .any,.vec 2 es]
theorem xJ(e:E):(e.kj=.agg e.kj.cs/\e.kj.cs.length=2/\bF [.str,.sl] e.kj.cs 0)=True:=by
 apply eq_true
 cases e<;>simp[E.kj,E.gV,B9,bF,eh,bj,ck]
theorem wj(e:E):[AV.v (.string ((e.kj.cs.getD 0 .any).toStr)),e.kj.cs.getD 1 .any]=e.gV:=by
 cases e<;>rfl
theorem drop_cons{s:List UInt8}{j:Nat}(hj:j<s.length):s.drop j=s.getD j 0::s.drop (j+1):=by
 rw[aY hj];simp[aa,hj]
theorem Ks(s:List UInt8)(hs:s.length<=8000)(d:Nat)(hd:d<=300)(f:List UInt8->Option (E×List UInt8))(hf:∀u e r,f u=some (e,r)->∃j,r=u.drop j/\0<j/\j<=u.length)
 (ih:∀j,j<=s.length->an Tryz.prog 194 [.v (.string (mk s)),.v (.int .i64 (j:Int)),.v (.int .i64 ((d+1:Nat):Int))] [] (DI s (f (s.drop j)))) :
 ∀(n i:Nat) (acc:List E) (c1:List UInt8) (d1:AV),LK.sl.has d1->s.length-(i+1)<n->i<s.length->s.length-i+acc.length<=8001->Hg [.v (.string (mk s)),.v (.int .i64 (i:Int)),.v (.int .i64 (d:Int))] [jc c1 d1,jc [] .any,.vec 2 (E.bo acc)]
  (RA s (sg f n (s.drop (i+1)) acc))
 |0,i,acc,c1,d1,h1,hn,_,_=>by omega
 |
  n+1,i,acc,c1,d1,h1,hn,hi,hl=>by
  refine PA _ _ _ _ _ _ _ ?_
  simp only[Ky,↓zq,zs,ag,jc]
  refine⟨h1,?_⟩
  rw[bS i (by omega),bS d (by omega)]
  refine aO (ih (i+1) (by omega)) (DI.ne _ _) ?_
  rintro r o ⟨rfl,hr⟩
  have hff:=hf (s.drop (i+1))
  unfold sg
  cases hq:f (s.drop (i+1))with
  |
   none =>
   rw[hq]at hr
   obtain⟨c,d',hd',rfl⟩:=hr
   simp only[↓zq,zs,ag,zt,bF]
   refine⟨hd',fun _=>⟨rfl,_,rfl,rfl⟩,fun h=>by omega⟩
  |
   some q =>
   obtain⟨e,u⟩:=q
   rw[hq]at hr
   subst hr
   obtain⟨j,hu,hj0,hj⟩:=hff e u hq
   rw[List.drop_drop]at hu
   simp only[cm]at hj
   have hul:u.length=s.length-(i+1+j):=by rw[hu,cm]
   have hpos:s.length-u.length=i+1+j:=by omega
   simp only[↓zq,zs,ag,zt,xJ,hpos,wj,dX]
   refine⟨fun h=>by omega,fun _=>⟨fun h=>?_,fun h=>⟨⟨fun c hc=>(by simp at hc;rw[hc];cases e<;>rfl),by omega⟩,?_⟩⟩⟩
   ·have:u=[]:=by rw[hu];exact bP (by omega)
    subst this
    exact⟨rfl,_,rfl,rfl⟩
   ·have hlt:i+1+j<s.length:=by omega
    rw[drop_cons hlt]at hu
    subst hu
    rw[lL s _ hlt]
    generalize hb:s.getD (i+1+j) 0=b
    refine⟨by omega,fun h41=>?_,fun h41=>⟨by omega,fun h32=>?_,fun h32=>?_⟩⟩
    ·have h41':b.toNat=41:=by omega
     dsimp only
     rw[if_pos h41',bS _ (by omega)]
     refine⟨rfl,acc++[e],rfl,?_,?_⟩
     ·rw[cm];congr 3;omega
     ·simp[jc,pO,E.bo]
    ·have h41':¬b.toNat=41:=by omega
     have h32':¬b.toNat=32:=by omega
     dsimp only
     rw[if_neg h41',if_neg h32']
     exact⟨rfl,_,rfl,rfl⟩
    ·have h41':¬b.toNat=41:=by omega
     have h32':b.toNat=32:=by omega
     dsimp only
     rw[if_neg h41',if_pos h32']
     have:=Ks s hs d hd f hf ih n (i+1+j) (acc++[e]) c1 d1 h1 (by omega) hlt (by simp;omega)
     simpa[jc,pO,E.bo]using this
theorem CS(k:Nat)(u:List UInt8)(e:E)(r:List UInt8)(h:rd k u=some (e,r)):∃j,r=u.drop j/\0<j/\j<=u.length:=by
 have suf:∀(k:Nat) (u:List UInt8) (e:E) (r:List UInt8),rd k u=some (e,r)->r <:+ u:=by
  intro k
  have tw:∀u:List UInt8,u.dropWhile eV <:+ u:=fun u=>List.dropWhile_suffix _
  have ll:∀(f:List UInt8->Option (E×List UInt8)),(∀u e r,f u=some (e,r)->r <:+ u)->∀(n:Nat) (u:List UInt8) (acc:List E) (e:E) (r:List UInt8),sg f n u acc=some (e,r)->r <:+ u:=by
   intro f hf n
   induction n with
   |zero=>intro u acc e r h;cases h
   |
    succ n ih =>
    intro u acc e r h
    simp only[sg]at h
    split at h
    ·rename_i p c r' hs
     have h1:r' <:+ u:=(List.suffix_cons c r').trans (hf _ _ _ hs)
     split at h
     ·cases h;exact h1
     ·split at h
      ·exact(ih _ _ _ _ h).trans h1
      ·cases h
    ·cases h
  induction k with
  |
   zero =>
   intro u e r h
   simp only[rd]at h
   split at h
   ·cases h
   ·cases h;exact tw u
  |
   succ k ih =>
   intro u e r h
   simp only[rd]at h
   split at h
   ·split at h
    ·split at h
     ·exact(ll _ ih _ _ _ _ _ h).trans (List.suffix_cons _ _)
     ·cases h
    ·cases h
   ·cases h;exact tw u
 obtain⟨p,hp⟩:=suf k u e r h
 have hlt:=yC k u e r h
 have:=congrArg List.length hp
 simp only[aq]at this
 exact⟨p.length,by rw[<-hp];simp,by omega,by omega⟩
theorem Am(n:Nat)(u:List UInt8)(acc:List E):sg (fun _=>none) n u acc=none:=by
 cases n<;>rfl
theorem QS(s:List UInt8)(j:Nat):an Tryz.prog 194 [.v (.string (mk s)),.v (.int .i64 (j:Int)),.v (.int .i64 ((300+1:Nat):Int))] [] (DI s none):=by
 refine LD _ _ _ ?_
 simp only[F7,↓zq,zs,ag]
 exact⟨fun _=>⟨rfl,[],_,(bj).mpr trivial,rfl⟩,fun h=>by omega⟩
theorem pR(s:List UInt8)(hs:s.length<=8000)(d i:Nat)(hd:d<=300)(hi:i<=s.length)(f:List UInt8->Option (E×List UInt8))(hf:∀u e r,f u=some (e,r)->∃j,r=u.drop j/\0<j/\j<=u.length)
 (ih:∀j,j<=s.length->an Tryz.prog 194 [.v (.string (mk s)),.v (.int .i64 (j:Int)),.v (.int .i64 ((d+1:Nat):Int))] [] (DI s (f (s.drop j)))) (x:Option (E×List UInt8))
 (h0:i=s.length->x=none)
 (h1:i<s.length->(s.drop i).takeWhile eV≠[]->x=some (.atom ((s.drop i).takeWhile eV),(s.drop i).dropWhile eV))
 (h2:i<s.length->(s.drop i).takeWhile eV=[]->¬(s.getD i 0).toNat=40->x=none)
 (h3:i<s.length->(s.getD i 0).toNat=40->x=sg f (s.length-(i+1)+1) (s.drop (i+1)) []) :
 an Tryz.prog 194 [.v (.string (mk s)),.v (.int .i64 (i:Int)),.v (.int .i64 (d:Int))] [] (DI s x):=by
 refine LD _ _ _ ?_
 simp only[F7,↓zq,zs,ag,zt]
 refine⟨fun h=>by omega,fun _=>⟨fun h=>?_,fun h=>⟨by omega,?_⟩⟩⟩
 ·rw[h0 (by omega)]
  exact⟨rfl,[],_,(bj).mpr trivial,rfl⟩
 ·have hlt:i<s.length:=by omega
  rw[lL s i hlt]
  refine⟨fun h40=>?_,fun h40=>?_⟩
  ·have h40':¬(s.getD i 0).toNat=40:=by omega
   refine cX (IM s hs _ [] [] _ _ ((bj).mpr trivial) ((bj).mpr trivial) (s.length-i) i (by omega)) ?_
   have hex:(List.take (i+((s.drop i).takeWhile eV).length) s).drop i=(s.drop i).takeWhile eV:=by
    rw[List.drop_take,Nat.add_sub_cancel_left];exact uL _
   have hle:i+((s.drop i).takeWhile eV).length<=s.length:=by
    have:=uu (s.drop i);simp only[cm]at this;omega
   simp only[jc,↓zq,zs,ag,zt,hex]
   refine⟨by omega,fun hnil=>?_,fun hnil=>?_⟩
   ·rw[h2 hlt hnil h40',hnil]
    exact⟨rfl,[],_,(bj).mpr trivial,rfl⟩
   ·rw[h1 hlt hnil]
    refine⟨rfl,?_⟩
    have:=uu (s.drop i)
    simp only[cm]at this
    show _=AV.cy [E.kj (.atom _),_]
    have e:s.length-((s.drop i).dropWhile eV).length=i+((s.drop i).takeWhile eV).length:=by omega
    rw[e];rfl
  ·have h40':(s.getD i 0).toNat=40:=by omega
   rw[h3 hlt h40']
   refine mq (Ks s hs d hd f hf ih (s.length-(i+1)+1) i [] [] _ ((bj).mpr trivial) (by omega) hlt (by simp;omega)) ?_ ?_
   ·rintro ys o ⟨h,_⟩;cases h
   ·rintro ys o ⟨_,hr⟩
    cases hq:sg f (s.length-(i+1)+1) (s.drop (i+1)) []with
    |
     none =>
     rw[hq]at hr
     obtain⟨es,rfl,rfl⟩:=hr
     simp only[jc,↓zq,zs,ag]
     exact⟨rfl,[],_,(ck _).mpr trivial,rfl⟩
    |
     some q =>
     obtain⟨e,u⟩:=q
     rw[hq]at hr
     obtain⟨l,rfl,rfl,rfl⟩:=hr
     simp only[jc,↓zq,zs,ag]
     exact⟨rfl,rfl⟩
theorem Oz(s:List UInt8)(hs:s.length<=8000):∀(k:Nat),k<=300->∀i,i<=s.length->an Tryz.prog 194 [.v (.string (mk s)),.v (.int .i64 (i:Int)),.v (.int .i64 ((300-k:Nat):Int))] [] (DI s (rd k (s.drop i))):=by
 intro k
 have hnil:∀k,rd k []=none:=fun k=>by cases k<;>simp[rd]
 have ha40:∀b:UInt8,b.toNat=40->eV b=false:=fun b hb=>by simp[eV,hb]
 induction k with
 |
  zero =>
  intro hk i hi
  refine pR s hs 300 i (by omega) hi (fun _=>none) (fun _ _ _ h=>by cases h) (fun j _=>QS s j) _ (fun h=>?_) (fun hlt h=>?_) (fun hlt h h40=>?_) (fun hlt h40=>?_)
  ·rw[bP (by omega)];exact hnil 0
  ·simp only[rd,if_neg h]
  ·simp only[rd,if_pos h]
  ·rw[Am]
   have:(s.drop i).takeWhile eV=[]:=qL hlt (ha40 _ h40)
   simp only[rd,if_pos this]
 |
  succ k ih =>
  intro hk i hi
  have hd:300-(k+1)+1=300-k:=by omega
  refine pR s hs (300-(k+1)) i (by omega) hi (rd k) (CS k) (fun j hj=>by rw[hd];exact ih (by omega) j hj) _ (fun h=>?_) (fun hlt h=>?_) (fun hlt h h40=>?_) (fun hlt h40=>?_)
  ·rw[bP (by omega)];exact hnil _
  ·simp only[rd,if_neg h]
  ·rw[drop_cons hlt]at h |-
   simp only[rd,if_pos h,if_neg h40]
  ·have h:=qL hlt (ha40 _ h40)
   rw[drop_cons hlt]at h |-
   simp only[rd,if_pos h,if_pos h40,cm]
end Go.Proofs.Trees
namespace Go.Proofs.Trees
open Go Go.VL
theorem iB(e:E):AV.agg [.v (.string ((e.gV.getD 0 .any).toStr)),e.gV.getD 1 .any]=e.kj:=by cases e<;>rfl
theorem fU(e:E):e.gV.length=2:=by cases e<;>rfl
theorem iE(e:E):bF [.str,.sl] e.gV 0=True:=by
 apply eq_true
 cases e<;>simp[E.gV,bF,eh,bj,ck]
theorem mw(e:E):e.gV.headD .any=.v (.string (mk e.at)):=by cases e<;>rfl
theorem uM(x:E)(l:List E):an Tryz.prog 104 [.agg [.v (.string (mk [])),.sl (E.bo (x::l))]] [] (bB (.v (.string (mk x.at)))):=by
 refine Gr _ _ ((ck _).mpr trivial) ?_
 simp only[Dn,E.bo,↓zq,zs,ag,zt,bB,fU,mw,aw]
 refine⟨fun h=>absurd rfl h,fun _=>⟨fun h=>by omega,fun _=>⟨by omega,by omega⟩⟩⟩
theorem Rj:an Tryz.prog 104 [.agg [.v (.string (mk [])),.sl (E.bo [])]] [] (bB (.v (.string (mk [])))):=by
 refine Gr _ _ ((ck _).mpr trivial) ?_
 simp only[Dn,E.bo,↓zq,zs,ag,zt,bB,fU,mw,aw]
 simp
def jR:E->Bool
 | .atom s=>(s==[48])||(s==[49])||iq s||dD s
 | .list [x,a,b]=>if x.at=[43]then jR a&&jR b else if x.at=[42]then jR a&&jR b else if x.at=[114,101,99]then dD a.at&&jR b else false
 | .list _=>false
theorem zx:∀(e:E),e.ok->an Tryz.prog 152 [e.kj] [] (bB (.v (.bool (jR e))))
 |
  .atom s,hok=>by
  refine I5 _ _ ((bj).mpr trivial) ?_
  have hne:s≠[]:=hok
  simp only[wI,↓zq,zs,ag,zt,bB,jR]
  refine⟨fun _=>⟨fun h=>?_,fun h=>⟨fun h1=>?_,fun h1=>?_⟩⟩,fun h=>absurd h hne⟩
  ·simp[h]
  ·simp[h1]
  ·refine ak (Hi s) ?_
   simp only[↓zq,zs,ag]
   refine⟨fun hp=>?_,fun hp=>?_⟩
   ·simp[hp]
   ·refine ak (E5 s) ?_
    simp[↓zq,zs,ag,hp,h,h1]
 |
  .list l,hok=>by
  refine I5 _ _ ((ck _).mpr trivial) ?_
  match l,hok with
  |[],hok=>simp[wI,E.bo,↓zq,zs,ag,zt,bB,jR]
  |[x],hok=>simp[wI,E.bo,↓zq,zs,ag,zt,bB,jR]
  |[x,y],hok=>simp[wI,E.bo,↓zq,zs,ag,zt,bB,jR]
  |
   x::y::z::w::l,hok =>
   simp only[wI,E.bo,↓zq,zs,ag,zt,bB,jR]
   exact⟨fun h=>absurd rfl h,fun _=>⟨fun _=>trivial,fun h=>by omega⟩⟩
  |
   [x,y,z],hok =>
   obtain⟨ok1,ok2,ok3,_⟩:=hok
   simp only[wI,↓zq,zs,ag,zt,bB]
   refine⟨fun h=>absurd rfl h,fun _=>⟨fun h=>absurd rfl h,fun _=>?_⟩⟩
   refine ak (uM x _) ?_
   simp only[E.bo,toNat_one,bw,↓zq,zs,ag,zt,iB,fU,iE,mw,aw,jR]
   refine⟨fun h=>?_,fun h=>⟨fun h1=>?_,fun h1=>⟨fun h2=>?_,fun h2=>?_⟩⟩⟩
   ·rw[if_pos h]
    refine⟨by omega,ak (zx y ok2) ?_⟩
    simp only[↓zq,zs,ag]
    refine⟨fun hy=>⟨by omega,ak (zx z ok3) ?_⟩,fun hy=>?_⟩
    ·simp only[↓zq,zs,ag,hy,cn]
    ·rw[hy];rfl
   ·rw[if_neg h,if_pos h1]
    refine⟨by omega,ak (zx y ok2) ?_⟩
    simp only[↓zq,zs,ag]
    refine⟨fun hy=>⟨by omega,ak (zx z ok3) ?_⟩,fun hy=>?_⟩
    ·simp only[↓zq,zs,ag,hy,cn]
    ·rw[hy];rfl
   ·rw[if_neg h,if_neg h1,if_pos h2]
    refine⟨by omega,by omega,ak (E5 _) ?_⟩
    simp only[↓zq,zs,ag]
    refine⟨fun hy=>⟨by omega,ak (zx z ok3) ?_⟩,fun hy=>?_⟩
    ·simp only[↓zq,zs,ag,hy,cn]
    ·rw[hy];rfl
   ·rw[if_neg h,if_neg h1,if_neg h2]
theorem iF:∀(e:E) (ar:List (List UInt8)),(cY e ar).isSome=jR e
 |
  .atom s,ar=>by
  simp only[cY,jR]
  by_cases h:s=[48]
  ·simp[h]
  ·by_cases h1:s=[49]
   ·simp[h1]
   ·rw[if_neg h,if_neg h1]
    by_cases h2:iq s=true
    ·simp[h2]
    ·rw[if_neg h2]
     by_cases h3:dD s=true
     ·rw[if_pos h3];cases cb s ar ar.length<;>simp[h3]
     ·rw[if_neg h3];simp[h,h1,h2,h3]
 | .list [],_=>rfl
 | .list [_],_=>rfl
 | .list [_,_],_=>rfl
 | .list (_::_::_::_::_),_=>rfl
 |
  .list [x,a,b],ar=>by
  have ha:=iF a ar
  have hb:=iF b ar
  have hb2:=iF b (ar++[a.at])
  rw[jR]
  by_cases h:x.at=[43]
  ·rw[kN ar h,if_pos h,<-ha,<-hb];cases cY a ar<;>cases cY b ar<;>rfl
  ·by_cases h1:x.at=[42]
   ·rw[jA ar h1,if_neg h,if_pos h1,<-ha,<-hb];cases cY a ar<;>cases cY b ar<;>rfl
   ·by_cases h2:x.at=[114,101,99]
    ·rw[mA ar h2,if_neg h,if_neg h1,if_pos h2,<-hb2]
     cases dD a.at<;>cases cY b (ar++[a.at])<;>rfl
    ·rw[ji ar h h1 h2,if_neg h,if_neg h1,if_neg h2];rfl
mutual
def E.cW:E->Nat
 | .atom _=>1
 | .list l=>E.eT l
def E.eT:List E->Nat
 |[]=>0
 |e::l=>e.cW+E.eT l
end
mutual
theorem ir:∀e:E,e.cW<=e.sz
 | .atom s=>by simp[E.cW,E.sz]
 | .list l=>by have:=uo l;simp only[E.cW,E.sz];omega
theorem uo:∀l:List E,E.eT l<=E.iY l
 |[]=>by simp[E.eT,E.iY]
 |e::l=>by have:=ir e;have:=uo l;simp only[E.eT,E.iY];omega
end
theorem jk:∀(l:List E) (i:Nat) (h:i<l.length),(E.bo l).getD i []=(l[i]).gV
 |e::l,0,_=>rfl
 |
  e::l,i+1,h=>by
  have:=jk l i (by simpa using h)
  simp only[E.bo,List.getD_cons_succ,List.getElem_cons_succ];exact this
theorem zb:∀(l:List E) (i:Nat) (h:i<l.length),E.eT (l.drop i)=(l[i]).cW+E.eT (l.drop (i+1)):=by
 intro l i h
 rw[aY h];rfl
theorem tW:∀(l:List E) (i:Nat) (h:i<l.length),E.Dj l->(l[i]).ok
 |e::l,0,_,h=>h.1
 |e::l,i+1,hi,h=>tW l i (by simpa using hi) h.2
theorem MH(l:List E)(hl:E.eT l<1000000)(hll:l.length<1000000)(ih:∀i (h:i<l.length),an Tryz.prog 106 [(l[i]).kj] [] (bB (.v (.int .i64 ((l[i]).cW:Int))))) :
 ∀(k i n:Nat),i+k=l.length->n+E.eT (l.drop i)<=E.eT l->GN [.v (.int .i64 (n:Int)),.v (.int .i64 (i:Int))] [.cells [.v (.string (mk [])),.sl (E.bo l)]] (jX 1 [.v (.int .i64 ((n+E.eT (l.drop i):Nat):Int))] [])
 |
  0,i,n,hi,hn=>by
  refine Lg _ _ _ _ ?_
  simp only[HH,↓zq,zs,ag,dX]
  have:l.drop i=[]:=bP (by omega)
  refine⟨fun h=>by omega,fun _=>?_⟩
  simp[jX,this,E.eT]
 |
  k+1,i,n,hi,hn=>by
  have hlt:i<l.length:=by omega
  refine Lg _ _ _ _ ?_
  simp only[HH,↓zq,zs,ag,zt,dX,jk l i hlt,fU,iE,iB,aw]
  refine⟨fun _=>⟨by omega,?_⟩,fun h=>by omega⟩
  refine ak (ih i hlt) ?_
  have h1:=zb l i hlt
  simp only[↓zq,zs,ag]
  rw[bS i (by omega),wrap64 _ (by omega) (by omega)]
  have:=MH l hl hll ih k (i+1) (n+(l[i]).cW) (by omega) (by omega)
  rw[h1,<-Nat.add_assoc]
  simpa using this
theorem uy:∀l:List E,l.length<=E.iY l
 |[]=>by simp[E.iY]
 |
  e::l=>by
  have:=uy l
  have:1<=e.sz:=by cases e<;>simp[E.sz]
  simp only[E.iY,au];omega
theorem tT:∀(l:List E) (i:Nat) (h:i<l.length),(l[i]).sz<=E.iY l
 |e::l,0,_=>by simp[E.iY]
 |e::l,i+1,h=>by have:=tT l i (by simpa using h);simp only[E.iY,List.getElem_cons_succ];omega
theorem Nh:∀(n:Nat) (e:E),e.sz<n->e.ok->e.sz<1000000->an Tryz.prog 106 [e.kj] [] (bB (.v (.int .i64 (e.cW:Int))))
 |0,e,hn,_,_=>by omega
 |
  n+1,.atom s,hn,hok,hl=>by
  refine JC _ _ ((bj).mpr trivial) ?_
  have hne:s≠[]:=hok
  simp only[EZ,↓zq,zs,ag,zt,bB]
  exact⟨fun _=>rfl,fun h=>absurd h hne⟩
 |
  n+1,.list l,hn,hok,hl=>by
  refine JC _ _ ((ck _).mpr trivial) ?_
  simp only[E.sz]at hn hl
  have h1:=uo l
  have h2:=uy l
  simp only[EZ,↓zq,zs,ag,zt,bB]
  refine⟨fun h=>absurd rfl h,fun _=>?_⟩
  refine cX (MH l (by omega) (by omega) (fun i hi=>?_) l.length 0 0 (by omega) (by simp)) ?_
  ·have:=tT l i hi
   exact Nh n (l[i]) (by omega) (tW l i hi hok) (by omega)
  ·simp[↓zq,zs,ag,E.cW]
theorem Cn(e:E)(h:e.ok)(hl:e.sz<1000000):an Tryz.prog 106 [e.kj] [] (bB (.v (.int .i64 (e.cW:Int)))):=Nh (e.sz+1) e (by omega) h hl
theorem tH{x:E}(h:x.at≠[]):x.cW=1:=by cases x<;>simp[E.at,E.cW]at h |-
theorem Ag{s:List UInt8}(h:dD s=true):s≠[]:=by rintro rfl;cases h
theorem jC:∀(e:E) (ar:List (List UInt8)) (t:Ty),cY e ar=some t->e.cW=t.atoms
 |
  .atom s,ar,t,h=>by
  simp only[cY]at h
  simp only[E.cW]
  split at h
  ·cases h;rfl
  ·split at h
   ·cases h;rfl
   ·split at h
    ·cases h;rfl
    ·split at h
     ·split at h<;>cases h<;>rfl
     ·cases h
 | .list [],_,_,h=>by cases h
 | .list [_],_,_,h=>by cases h
 | .list [_,_],_,_,h=>by cases h
 | .list (_::_::_::_::_),_,_,h=>by cases h
 |
  .list [x,a,b],ar,t,h=>by
  simp only[E.cW,E.eT]
  by_cases h0:x.at=[43]
  ·rw[kN ar h0]at h
   have:=tH (x:=x) (by rw[h0];simp)
   split at h
   ·rename_i t1 t2 e1 e2
    cases h
    have:=jC a ar _ e1
    have:=jC b ar _ e2
    simp only[Ty.atoms];omega
   ·cases h
  ·by_cases h1:x.at=[42]
   ·rw[jA ar h1]at h
    have:=tH (x:=x) (by rw[h1];simp)
    split at h
    ·rename_i t1 t2 e1 e2
     cases h
     have:=jC a ar _ e1
     have:=jC b ar _ e2
     simp only[Ty.atoms];omega
    ·cases h
   ·by_cases h2:x.at=[114,101,99]
    ·rw[mA ar h2]at h
     have:=tH (x:=x) (by rw[h2];simp)
     split at h
     ·rename_i hl
      have:=tH (Ag hl)
      split at h
      ·rename_i t1 e1
       cases h
       have:=jC b _ _ e1
       simp only[Ty.atoms];omega
      ·cases h
     ·cases h
    ·rw[ji ar h0 h1 h2]at h;cases h
def j0(x:Option E)(b:Bool):AV->List Ob->Prop:=fun r o=>∃c:List UInt8,∃d:AV,LK.sl.has d/\r=.cy [.agg [.v (.string (mk c)),d],.v (.bool b)]/\(b=true->∃e,x=some e/\AV.agg [.v (.string (mk c)),d]=e.kj)
theorem Bw(e:E):∃c:List UInt8,∃d:AV,LK.sl.has d/\e.kj=AV.agg [.v (.string (mk c)),d]:=by
 cases e with
 |atom s=>exact⟨s,_,(bj).mpr trivial,rfl⟩
 |list l=>exact⟨[],_,(ck _).mpr trivial,rfl⟩
theorem j0.ne(x:Option E)(b:Bool)(h:b=true->x.isSome=true):∃r o,j0 x b r o:=by
 cases b with
 |false=>exact⟨_,[],[],.v (.slice none 0 0),(bj).mpr trivial,rfl,fun h=>by cases h⟩
 |
  true =>
  cases x with
  |none=>cases h rfl
  |
   some e =>
   obtain⟨c,d,hd,he⟩:=Bw e
   exact⟨_,[],c,d,hd,rfl,fun _=>⟨e,rfl,he.symm⟩⟩
theorem Nb(s:List UInt8):an Tryz.prog 151 [.v (.string (mk s))] [] (j0 (qt s) (qt s).isSome):=by
 refine PT _ ?_
 simp only[J2,↓zq,zs,ag,zt,qt]
 refine⟨fun h=>?_,fun h=>?_⟩
 ·rw[if_pos (by omega)]
  exact⟨[],_,(bj).mpr trivial,rfl,fun h=>by cases h⟩
 ·rw[if_neg (by omega)]
  refine aO (Oz s (by omega) 300 (by omega) 0 (by omega)) (DI.ne _ _) ?_
  rintro r o ⟨rfl,hr⟩
  rw[bG]at hr
  cases hq:rd 300 s with
  |
   none =>
   rw[hq]at hr
   obtain⟨c,d,hd,rfl⟩:=hr
   simp only[↓zq,zs,ag,zt,bF]
   refine⟨hd,c,d,hd,?_,fun h=>by cases h⟩
   have:((-1:Int)==(s.length:Int))=false:=by
    rw[beq_eq_false_iff_ne];omega
   rw[this];rfl
  |
   some q =>
   obtain⟨e,u⟩:=q
   rw[hq]at hr
   subst hr
   have hlt:=yC _ _ _ _ hq
   obtain⟨c,d,hd,he⟩:=Bw e
   simp only[he,↓zq,zs,ag,zt,bF]
   cases u with
   |
    nil =>
    refine⟨hd,c,d,hd,?_,fun _=>⟨e,rfl,he.symm⟩⟩
    simp
   |
    cons b u =>
    simp only[au]at hlt |-
    refine⟨hd,c,d,hd,?_,fun h=>by cases h⟩
    have:(((s.length-(u.length+1):Nat):Int)==(s.length:Int))=false:=by simp;omega
    rw[this];rfl
def we(s:List UInt8):Option E:=match qt s with
 |none=>none
 |some e=>if jR e=true/\e.cW<=400 then some e else none
theorem EY(s:List UInt8):an Tryz.prog 101 [.v (.string (mk s))] [] (j0 (we s) (we s).isSome):=by
 refine NU _ ?_
 unfold Ng
 refine aO (Nb s) (j0.ne _ _ (fun h=>h)) ?_
 rintro r o ⟨c,d,hd,rfl,hh⟩
 simp only[↓zq,zs,ag,zt,bF,we]
 refine⟨hd,fun h=>?_,fun h=>?_⟩
 ·obtain⟨e,he,hce⟩:=hh h
  obtain⟨hok,hsz⟩:=nB he
  rw[he,hce]
  refine ak (zx e hok) ?_
  simp only[↓zq,zs,ag]
  refine⟨fun hi=>?_,fun hi=>?_⟩
  ·refine ak (Cn e hok (by omega)) ?_
   simp only[↓zq,zs,ag,hi]
   refine⟨c,d,hd,?_,?_⟩
   ·rw[hce]
    by_cases h4:e.cW<=400
    ·rw[if_pos h4];exact congrArg (fun b=>AV.cy [e.kj,.v (.bool b)]) (decide_eq_true (show ((e.cW:Nat):Int)<=400 by omega))
    ·rw[if_neg h4];exact congrArg (fun b=>AV.cy [e.kj,.v (.bool b)]) (decide_eq_false (show ¬((e.cW:Nat):Int)<=400 by omega))
   ·split
    ·exact fun _=>⟨e,rfl,hce⟩
    ·exact fun h=>by cases h
  ·refine⟨c,d,hd,?_,?_⟩
   ·rw[hce,if_neg (by rw[hi];simp)];rfl
   ·rw[if_neg (by rw[hi];simp)];exact fun h=>by cases h
 ·have hn:qt s=none:=by cases hq:qt s<;>simp[hq]at h |-
  rw[hn]
  exact⟨c,d,hd,rfl,fun h=>by cases h⟩
theorem oW{s:List UInt8}{e:E}(h:we s=some e):qt s=some e/\jR e=true/\e.cW<=400:=by
 unfold we at h
 split at h
 ·cases h
 ·split at h
  ·rename_i e' h1 h2;cases h;exact⟨h1,h2⟩
  ·cases h
end Go.Proofs.Trees
namespace Go.Proofs.Trees
open Go Go.VL
def bW:Ty->Bool
 | .name s=>dD s
 | .plus a b=>bW a||bW b
 | .times a b=>bW a||bW b
 | .rc a=>bW a
 |_=>false
theorem gB:∀(t:Ty) (out:List (List UInt8)),(bI t out).any dD=(out.any dD||bW t)
 |
  .name s,out=>by
  simp only[bI,oV,bW]
  split
  ·rename_i h
   cases hs:dD s with
   |false=>simp
   |true=>rw[Bool.or_true,cf];exact⟨s,h,hs⟩
  ·simp
 | .plus a b,out=>by simp only[bI,bW,gB a,gB b,Bool.or_assoc]
 | .times a b,out=>by simp only[bI,bW,gB a,gB b,Bool.or_assoc]
 | .rc a,out=>by simp only[bI,bW,gB a]
 | .zero,out=>by simp[bI,bW]
 | .one,out=>by simp[bI,bW]
 | .bound u,out=>by simp[bI,bW]
theorem sR(t:Ty):t.closed = !bW t:=by simp[Ty.closed,gB]
def pl:Ty->Bool
 | .name s=>decide (s.length<=1)
 | .plus a b=>pl a&&pl b
 | .times a b=>pl a&&pl b
 | .rc a=>false
 |_=>true
theorem kY{lo hi:Nat}{s:List UInt8}(h:named lo hi s=true):∃c r,s=c::r/\lo<=c.toNat/\c.toNat<=hi:=by
 cases s with
 |nil=>cases h
 |cons c r=>simp only[named,az,decide_eq_true_eq]at h;exact⟨c,r,rfl,by omega,by omega⟩
theorem fZ{x a b:E}{ar:List (List UInt8)}{t:Ty}(hx:x.at=[43])(h:cY (.list [x,a,b]) ar=some t):∃t1 t2,cY a ar=some t1/\cY b ar=some t2/\t=.plus t1 t2:=by
 rw[kN ar hx]at h
 split at h
 ·rename_i t1 t2 e1 e2;cases h;exact⟨t1,t2,e1,e2,rfl⟩
 ·cases h
theorem fG{x a b:E}{ar:List (List UInt8)}{t:Ty}(hx:x.at=[42])(h:cY (.list [x,a,b]) ar=some t):∃t1 t2,cY a ar=some t1/\cY b ar=some t2/\t=.times t1 t2:=by
 rw[jA ar hx]at h
 split at h
 ·rename_i t1 t2 e1 e2;cases h;exact⟨t1,t2,e1,e2,rfl⟩
 ·cases h
theorem dU{x a b:E}{ar:List (List UInt8)}{t:Ty}(hx:x.at=[114,101,99])(h:cY (.list [x,a,b]) ar=some t):∃t1,dD a.at=true/\cY b (ar++[a.at])=some t1/\t=.rc t1:=by
 rw[mA ar hx]at h
 split at h
 ·rename_i hl
  split at h
  ·rename_i t1 e1;cases h;exact⟨t1,hl,e1,rfl⟩
  ·cases h
 ·cases h
theorem tJ{s:List UInt8}:qD s=match we s with|none=>none|some e=>cY e []:=by
 unfold qD we
 cases he:qt s with
 |none=>rfl
 |
  some e =>
  have hs:=iF e []
  simp only
  cases ht:cY e []with
  |
   none =>
   rw[ht]at hs
   rw[if_neg (by rw[<-hs];simp)]
  |
   some t =>
   rw[ht]at hs
   have ha:=jC e [] t ht
   by_cases h4:e.cW<=400
   ·rw[if_pos ⟨hs.symm,h4⟩];dsimp only;rw[if_neg (by omega)];exact ht.symm
   ·rw[if_neg (fun h=>h4 h.2)];dsimp only;rw[if_pos (by omega)]
end Go.Proofs.Trees
namespace Go.Proofs.Trees
open Go Go.VL
def pure:Ty->Bool
 | .zero=>true
 | .one=>true
 | .name s=>(s==[120])||(s==[121])||(s==[122])
 | .plus a b=>pure a&&pure b
 | .times a b=>pure a&&pure b
 |_=>false
def Is(v:Nat):Option Nat:=if v<=1000000000 then some v else none
def HR(n:Nat):Ty->Option Nat
 | .zero=>some 0
 | .one=>some 1
 | .name _=>some n
 | .plus a b=>match HR n a,HR n b with|some x,some y=>Is (x+y)|_,_=>none
 | .times a b=>match HR n a,HR n b with|some x,some y=>Is (x*y)|_,_=>none
 |_=>none
def Lm(x:Option Nat):AV->List Ob->Prop:=fun r o=>∃v:Int,r=.cy [.v (.int .i64 v),.v (.bool x.isSome)]/\∀c,x=some c->v=(c:Int)
theorem Lm.ne(x:Option Nat):∃r o,Lm x r o:=by
 cases x with
 |none=>exact⟨_,[],0,rfl,fun c h=>by cases h⟩
 |some c=>exact⟨_,[],(c:Int),rfl,fun c' h=>by cases h;rfl⟩
end Go.Proofs.Trees
namespace Go.Proofs.Trees
open Go Go.VL Go.RowKit
abbrev dd(n:Nat):List UInt8:=Lib.decDigits n
theorem ez{k:Nat}(h:k<10):dd k=[a8 (48+k)]:=by rw[dd,Lib.decDigits,dif_pos h]
theorem fe{k:Nat}(h:¬k<10):dd k=dd (k/10)++[a8 (48+k%10)]:=by rw[dd,Lib.decDigits,dif_neg h]
theorem iw:∀(n k:Nat),k<n->(dd k).length<=k+1
 |0,k,h=>by omega
 |
  n+1,k,h=>by
  by_cases h1:k<10
  ·rw[ez h1];simp
  ·rw[fe h1]
   have:=iw n (k/10) (by omega)
   simp only[aq,au,aG];omega
theorem qO(d:Nat)(h:d<10):(Value.int .u8 (IntKind.wrap .u8 (IntKind.wrap .i64 (48+(d:Int)))))=.int .u8 ((a8 (48+d)).toNat:Int):=by
 have:d=0\/d=1\/d=2\/d=3\/d=4\/d=5\/d=6\/d=7\/d=8\/d=9:=by omega
 rcases this with rfl|rfl|rfl|rfl|rfl|rfl|rfl|rfl|rfl|rfl<;>rfl
theorem ke(b:UInt8):bytesOf [[.v (.int .u8 (b.toNat:Int))]]=[b]:=by simp[bytesOf,yF]
theorem iH(b:UInt8):im [[.v (.int .u8 (b.toNat:Int))]]:=⟨rfl,(kW _ _).mpr trivial,trivial⟩
theorem zG:∀(n k:Nat),k<n->k<1000000000->an Tryz.prog 109 [.v (.int .i64 (k:Int))] [] (bB (.v (.string (mk (dd k)))))
 |0,k,h,_=>by omega
 |
  n+1,k,h,hk=>by
  refine PY _ ?_
  simp only[Ll,↓zq,zs,ag,bB]
  refine⟨fun h=>by omega,fun _=>⟨fun h=>by omega,fun _=>⟨fun h1=>?_,fun h1=>⟨by omega,?_⟩⟩⟩⟩
  ·rw[qO k (by omega)]
   refine⟨iH _,?_⟩
   rw[ke,ez (by omega)];rfl
  ·have e1:IntKind.wrap .i64 (Int.tdiv (k:Int) 10)=((k/10:Nat):Int):=by
    rw[show Int.tdiv (k:Int) 10=((k/10:Nat):Int) from (Int.ofNat_tdiv k 10).symm,wrap64 _ (by omega) (by omega)]
   have e2:da (k:Int) 10=((k%10:Nat):Int):=(Int.ofNat_tmod k 10).symm
   rw[e1,e2,qO (k%10) (by omega)]
   refine ak (zG n (k/10) (by omega) (by omega)) ?_
   have hl:=iw (k+1) (k/10) (by omega)
   simp only[↓zq,zs,ag,zt,ke]
   have h9:(k:Int)<1000000000:=by omega
   refine⟨by omega,iH _,?_,?_⟩
   ·show (mk (dd (k/10))).size+(mk [a8 (48+k%10)]).size<=_
    rw[cq,cq];simp;omega
   ·show AV.v (.string (mk (dd (k/10))++mk [a8 (48+k%10)]))=_
    rw[jw,fe (k:=k) (by omega)]
theorem zd(s:List UInt8)(d:AV)(hd:LK.sl.has d)(h:s≠[]):an Tryz.prog 104 [.agg [.v (.string (mk s)),d]] [] (bB (.v (.string (mk [])))):=by
 refine Gr _ _ hd ?_
 simp only[Dn,↓zq,zs,ag,zt,bB]
 exact⟨fun _=>trivial,fun h'=>absurd h' h⟩
theorem Ec(e:E):AV.agg [.v (.string ((e.kj.cs.getD 0 .any).toStr)),e.kj.cs.getD 1 .any]=e.kj:=by cases e<;>rfl
mutual
def eG:E->List UInt8
 | .atom s=>s
 | .list []=>[40,41]
 | .list (e::l)=>40::(eG e++(dP l++[41]))
def dP:List E->List UInt8
 |[]=>[]
 |e::l=>32::(eG e++dP l)
end
theorem zu:∀(l:List E) (i:Nat) (h:i<l.length),dP (l.drop i)=32::(eG l[i]++dP (l.drop (i+1))):=by
 intro l i h
 rw[aY h,dP]
theorem Jk(l:List E)(hll:l.length<1000000000000)(ih:∀i (h:i<l.length),an Tryz.prog 55 [(l[i]).kj] [] (bB (.v (.string (mk (eG l[i])))))) :
 ∀(k i:Nat) (out:List UInt8),i+k=l.length->1<=i->out.length+(dP (l.drop i)).length<=1000000000000->B8 [.v (.string (mk out)),.v (.int .i64 (i:Int))] [.cells [.v (.string (mk [])),.sl (E.bo l)]] (jX 1 [.v (.string (mk (out++dP (l.drop i))))] [])
 |
  0,i,out,hi,h1,hn=>by
  refine CN _ _ _ _ ?_
  simp only[Ab,↓zq,zs,ag,dX]
  have:l.drop i=[]:=bP (by omega)
  refine⟨fun h=>by omega,fun _=>?_⟩
  simp[jX,this,dP]
 |
  k+1,i,out,hi,h1,hn=>by
  have hlt:i<l.length:=by omega
  have hd:=zu l i hlt
  rw[hd]at hn
  simp only[au,aq]at hn
  refine CN _ _ _ _ ?_
  simp only[Ab,↓zq,zs,ag,zt,dX,jk l i hlt,fU,iE,iB,aw]
  refine⟨fun _=>⟨fun _=>⟨by omega,by omega,?_⟩,fun h=>by omega⟩,fun h=>by omega⟩
  refine ak (ih i hlt) ?_
  simp only[↓zq,zs,ag,zt]
  refine⟨by simp;omega,?_⟩
  rw[bS i (by omega),hd]
  have:=Jk l hll ih k (i+1) (out++[32]++eG l[i]) (by omega) (by omega) (by simp;omega)
  simpa using this
theorem yr:∀(l:List E) (i:Nat) (h:i<l.length),(eG l[i]).length<=(dP l).length
 |e::l,0,_=>by simp only[dP,List.getElem_cons_zero,au,aq];omega
 |e::l,i+1,h=>by have:=yr l i (by simpa using h);simp only[dP,List.getElem_cons_succ,au,aq];omega
theorem rY:∀l:List E,l.length<=(dP l).length
 |[]=>by simp[dP]
 |e::l=>by have:=rY l;simp only[dP,au,aq];omega
theorem Dc:∀(n:Nat) (e:E),e.sz<n->e.ok->(eG e).length<=900000000000->an Tryz.prog 55 [e.kj] [] (bB (.v (.string (mk (eG e)))))
 |0,e,hn,_,_=>by omega
 |
  n+1,.atom s,hn,hok,hl=>by
  refine FJ _ _ ((bj).mpr trivial) ?_
  have hne:s≠[]:=hok
  simp only[CW,↓zq,zs,ag,zt,bB]
  exact⟨fun _=>rfl,fun h=>absurd h hne⟩
 |
  n+1,.list [],hn,hok,hl=>by
  refine FJ _ _ ((ck _).mpr trivial) ?_
  simp only[CW,↓zq,zs,ag,zt,bB]
  refine⟨fun h=>absurd rfl h,fun _=>?_⟩
  have h1:B8 [.v (.string (mk [40])),.v (.int .i64 0)] [.cells [.v (.string (mk [])),.sl (E.bo [])]] (jX 1 [.v (.string (mk [40]))] []):=by
   refine CN _ _ _ _ ?_
   simp[Ab,↓zq,zs,ag,E.bo,jX]
  refine cX h1 ?_
  simp only[↓zq,zs,ag,zt]
  exact⟨by simp,rfl⟩
 |
  n+1,.list (x::l),hn,hok,hl=>by
  refine FJ _ _ ((ck _).mpr trivial) ?_
  simp only[E.sz,E.iY]at hn
  simp only[eG,au,aq,aG]at hl
  have h2:=rY l
  simp only[CW,↓zq,zs,ag,zt,bB]
  refine⟨fun h=>absurd rfl h,fun _=>?_⟩
  have hL:B8 [.v (.string (mk [40])),.v (.int .i64 0)] [.cells [.v (.string (mk [])),.sl (E.bo (x::l))]] (jX 1 [.v (.string (mk ([40]++eG x++dP l)))] []):=by
   refine CN _ _ _ _ ?_
   simp only[Ab,E.bo,Int.toNat_zero,↓zq,zs,ag,zt,dX,fU,iE,iB,aw]
   refine⟨fun _=>⟨fun h=>by omega,fun _=>⟨by omega,?_⟩⟩,fun h=>by omega⟩
   refine ak (Dc n x (by omega) hok.1 (by omega)) ?_
   simp only[↓zq,zs,ag,zt]
   refine⟨by simp;omega,?_⟩
   have:=Jk (x::l) (by simp;omega) (fun i hi=>by
    have h3:=tT (x::l) i hi
    simp only[E.iY]at h3
    refine Dc n _ (by omega) (tW _ i hi hok) ?_
    have h4:=yr (x::l) i hi
    simp only[dP,au,aq]at h4
    omega) l.length 1 ([40]++eG x) (by simp;omega) (by omega) (by simp;omega)
   rw[show IntKind.wrap .i64 (0+1)=1 from rfl]
   simpa[E.bo]using this
  refine cX hL ?_
  simp only[↓zq,zs,ag,zt]
  refine⟨by simp;omega,?_⟩
  simp[eG]
theorem JR(e:E)(h:e.ok)(hl:(eG e).length<=900000):an Tryz.prog 55 [e.kj] [] (bB (.v (.string (mk (eG e))))):=Dc (e.sz+1) e (by omega) h (by omega)
mutual
def E.nd:E->Nat
 | .atom _=>1
 | .list []=>1
 | .list (_::l)=>1+E.uN l
def E.uN:List E->Nat
 |[]=>0
 |e::l=>e.nd+E.uN l
end
mutual
theorem BW:∀e:E,e.nd<=e.sz
 | .atom s=>by simp[E.nd,E.sz]
 | .list []=>by simp[E.nd,E.sz,E.iY]
 | .list (x::l)=>by have:=xh l;simp only[E.nd,E.sz,E.iY];omega
theorem xh:∀l:List E,E.uN l<=E.iY l
 |[]=>by simp[E.uN,E.iY]
 |e::l=>by have:=BW e;have:=xh l;simp only[E.uN,E.iY];omega
end
theorem Bz:∀(l:List E) (i:Nat) (h:i<l.length),E.uN (l.drop i)=(l[i]).nd+E.uN (l.drop (i+1)):=by
 intro l i h
 rw[aY h];rfl
theorem I6(l:List E)(hl:E.uN l<1000000)(hll:l.length<1000000)(ih:∀i (h:i<l.length),an Tryz.prog 211 [(l[i]).kj] [] (bB (.v (.int .i64 ((l[i]).nd:Int))))) :
 ∀(k i n:Nat),i+k=l.length->n+E.uN (l.drop i)<=1+E.uN l->Bv [.v (.int .i64 (n:Int)),.v (.int .i64 (i:Int))] [.cells [.v (.string (mk [])),.sl (E.bo l)]] (jX 1 [.v (.int .i64 ((n+E.uN (l.drop i):Nat):Int))] [])
 |
  0,i,n,hi,hn=>by
  refine Cj _ _ _ _ ?_
  simp only[Bf,↓zq,zs,ag,dX]
  have:l.drop i=[]:=bP (by omega)
  refine⟨fun h=>by omega,fun _=>?_⟩
  simp[jX,this,E.uN]
 |
  k+1,i,n,hi,hn=>by
  have hlt:i<l.length:=by omega
  refine Cj _ _ _ _ ?_
  simp only[Bf,↓zq,zs,ag,zt,dX,jk l i hlt,fU,iE,iB,aw]
  refine⟨fun _=>⟨by omega,?_⟩,fun h=>by omega⟩
  refine ak (ih i hlt) ?_
  have h1:=Bz l i hlt
  simp only[↓zq,zs,ag]
  rw[bS i (by omega),wrap64 _ (by omega) (by omega)]
  have:=I6 l hl hll ih k (i+1) (n+(l[i]).nd) (by omega) (by omega)
  rw[h1,<-Nat.add_assoc]
  simpa using this
theorem Lp:∀(n:Nat) (e:E),e.sz<n->e.sz<900000->an Tryz.prog 211 [e.kj] [] (bB (.v (.int .i64 (e.nd:Int))))
 |0,e,hn,_=>by omega
 |
  n+1,.atom s,hn,hl=>by
  refine Js _ _ ((bj).mpr trivial) ?_
  simp only[F1]
  have hL:Bv [.v (.int .i64 1),.v (.int .i64 1)] [.cells [.v (.string (mk s)),.v (.slice none 0 0)]] (jX 1 [.v (.int .i64 1)] []):=by
   refine Cj _ _ _ _ ?_
   simp[Bf,↓zq,zs,ag,jX]
  refine cX hL ?_
  simp[↓zq,zs,ag,bB,E.nd]
 |
  n+1,.list l,hn,hl=>by
  refine Js _ _ ((ck _).mpr trivial) ?_
  simp only[E.sz]at hn hl
  simp only[F1]
  match l,hn,hl with
  |
   [],hn,hl =>
   have hL:Bv [.v (.int .i64 1),.v (.int .i64 1)] [.cells [.v (.string (mk [])),.sl (E.bo [])]] (jX 1 [.v (.int .i64 1)] []):=by
    refine Cj _ _ _ _ ?_
    simp[Bf,↓zq,zs,ag,jX,E.bo]
   refine cX hL ?_
   simp[↓zq,zs,ag,bB,E.nd]
  |
   x::l,hn,hl =>
   simp only[E.iY]at hn hl
   have h1:=xh l
   have h2:=uy l
   have h0:=BW x
   refine cX (I6 (x::l) (by simp only[E.uN];omega) (by simp;omega) (fun i hi=>?_) l.length 1 1 (by simp;omega) (by simp[E.uN])) ?_
   ·have:=tT (x::l) i hi
    simp only[E.iY]at this
    exact Lp n _ (by omega) (by omega)
   ·simp[↓zq,zs,ag,E.nd,bB]
theorem O3(e:E)(hl:e.sz<900000):an Tryz.prog 211 [e.kj] [] (bB (.v (.int .i64 (e.nd:Int)))):=Lp (e.sz+1) e (by omega) hl
inductive Vl where
 |u
 |el (k:Nat)
 |l (v:Vl)
 |r (v:Vl)
 |f (v:Vl)
 |p (a b:Vl)
abbrev wo(k:Nat):List UInt8:=101::dd k
abbrev gR:AV:=.v (.pointer none)
def Vl.cv:Vl->AV
 | .u=>.ptr [.v (.int .u8 117),.v (.string (mk [])),gR,gR]
 | .el k=>.ptr [.v (.int .u8 101),.v (.string (mk (wo k))),gR,gR]
 | .l v=>.ptr [.v (.int .u8 108),.v (.string (mk [])),v.cv,gR]
 | .r v=>.ptr [.v (.int .u8 114),.v (.string (mk [])),v.cv,gR]
 | .f v=>.ptr [.v (.int .u8 102),.v (.string (mk [])),v.cv,gR]
 | .p a b=>.ptr [.v (.int .u8 112),.v (.string (mk [])),a.cv,b.cv]
def Vl.dG:Vl->E
 | .u=>.atom [117]
 | .el k=>.atom (wo k)
 | .l v=>.list [.atom [108],v.dG]
 | .r v=>.list [.atom [114],v.dG]
 | .f v=>.list [.atom [102],v.dG]
 | .p a b=>.list [.atom [112],a.dG,b.dG]
def Vl.nodes:Vl->Nat
 | .l v=>1+v.nodes
 | .r v=>1+v.nodes
 | .f v=>1+v.nodes
 | .p a b=>1+a.nodes+b.nodes
 |_=>1
def Vl.gX(n:Nat):Vl->Prop
 | .el k=>k<n
 | .l v=>v.gX n
 | .r v=>v.gX n
 | .f v=>v.gX n
 | .p a b=>a.gX n/\b.gX n
 | .u=>True
abbrev Vl.df(v:Vl):List UInt8:=eG v.dG
theorem aM(v:Vl):LK.has .ptr v.cv=True:=by cases v<;>simp[Vl.cv,ca]
theorem e9(v:Vl):v.cv.isNil=false:=by cases v<;>rfl
theorem pj:∀v:Vl,v.dG.ok
 | .u=>by simp[Vl.dG,E.ok]
 | .el k=>by simp[Vl.dG,E.ok]
 | .l v=>⟨by simp[E.ok],pj v,trivial⟩
 | .r v=>⟨by simp[E.ok],pj v,trivial⟩
 | .f v=>⟨by simp[E.ok],pj v,trivial⟩
 | .p a b=>⟨by simp[E.ok],pj a,pj b,trivial⟩
theorem ng:∀v:Vl,v.dG.nd=v.nodes
 | .u=>rfl
 | .el k=>rfl
 | .l v=>by simp[Vl.dG,E.nd,E.uN,Vl.nodes,ng v]
 | .r v=>by simp[Vl.dG,E.nd,E.uN,Vl.nodes,ng v]
 | .f v=>by simp[Vl.dG,E.nd,E.uN,Vl.nodes,ng v]
 | .p a b=>by simp[Vl.dG,E.nd,E.uN,Vl.nodes,ng a,ng b,Nat.add_assoc]
theorem jo:∀v:Vl,v.gX 100->v.df.length<=200*v.nodes
 | .u,_=>by simp[Vl.df,Vl.dG,eG,Vl.nodes]
 |
  .el k,h=>by
  have h':k<100:=h
  have:=iw 1000 k (by omega)
  simp only[Vl.df,Vl.dG,eG,Vl.nodes,au];omega
 | .l v,h=>by have:=jo v h;simp only[Vl.df,Vl.dG,eG,dP,Vl.nodes,au,aq,aG]at this |-;omega
 | .r v,h=>by have:=jo v h;simp only[Vl.df,Vl.dG,eG,dP,Vl.nodes,au,aq,aG]at this |-;omega
 | .f v,h=>by have:=jo v h;simp only[Vl.df,Vl.dG,eG,dP,Vl.nodes,au,aq,aG]at this |-;omega
 | .p a b,h=>by have:=jo a h.1;have:=jo b h.2;simp only[Vl.df,Vl.dG,eG,dP,Vl.nodes,au,aq,aG]at *;omega
theorem zN(a b:AV)(h:LK.ptr.has a)(h':LK.ptr.has b):an Tryz.prog 92 [a,b] [] (bB (.ptr [.v (.int .u8 112),.v (.string (mk [])),a,b])):=by
 refine Qy _ _ h h' ?_
 simp[Nj,↓zq,zs,ag,bB]
theorem dB(v:Vl):1<=v.nodes:=by cases v<;>simp[Vl.nodes]<;>omega
theorem Er:∀(v:Vl),v.nodes<1000000->an Tryz.prog 25 [v.cv] [] (bB (.v (.int .i64 (v.nodes:Int))))
 | .u,h=>by refine yX _ ((aM _).mpr trivial) ?_;simp[Fb,Vl.cv,↓zq,zs,ag,bB,Vl.nodes]
 | .el k,h=>by refine yX _ ((aM _).mpr trivial) ?_;simp[Fb,Vl.cv,↓zq,zs,ag,bB,Vl.nodes]
 |
  .l v,h=>by
  simp only[Vl.nodes]at h
  refine yX _ ((aM _).mpr trivial) ?_
  simp only[Fb,Vl.cv,↓zq,zs,ag,aM,e9]
  refine⟨by omega,fun _=>⟨by omega,?_⟩,fun h=>(by cases h)⟩
  refine ak (Er v (by omega)) ?_
  simp only[↓zq,zs,ag,bB,Vl.nodes]
  rw[wrap64 _ (by omega) (by omega)]
  simp
 |
  .r v,h=>by
  simp only[Vl.nodes]at h
  refine yX _ ((aM _).mpr trivial) ?_
  simp only[Fb,Vl.cv,↓zq,zs,ag,aM,e9]
  refine⟨by omega,fun _=>⟨by omega,?_⟩,fun h=>(by cases h)⟩
  refine ak (Er v (by omega)) ?_
  simp only[↓zq,zs,ag,bB,Vl.nodes]
  rw[wrap64 _ (by omega) (by omega)]
  simp
 |
  .f v,h=>by
  simp only[Vl.nodes]at h
  refine yX _ ((aM _).mpr trivial) ?_
  simp only[Fb,Vl.cv,↓zq,zs,ag,aM,e9]
  refine⟨by omega,fun _=>⟨by omega,?_⟩,fun h=>(by cases h)⟩
  refine ak (Er v (by omega)) ?_
  simp only[↓zq,zs,ag,bB,Vl.nodes]
  rw[wrap64 _ (by omega) (by omega)]
  simp
 |
  .p a b,h=>by
  simp only[Vl.nodes]at h
  refine yX _ ((aM _).mpr trivial) ?_
  simp only[Fb,Vl.cv,↓zq,zs,ag,aM,e9]
  refine⟨by omega,fun _=>⟨by omega,?_⟩,fun h=>(by cases h)⟩
  refine ak (Er a (by omega)) ?_
  simp only[↓zq,zs,ag,aM,e9]
  rw[wrap64 (1+(a.nodes:Int)) (by omega) (by omega)]
  refine⟨by omega,fun _=>⟨by omega,?_⟩,fun h=>(by cases h)⟩
  refine ak (Er b (by omega)) ?_
  simp only[↓zq,zs,ag,bB,Vl.nodes]
  rw[wrap64 _ (by omega) (by omega)]
  congr 2
end Go.Proofs.Trees
namespace Go.Proofs.Trees
open Go Go.VL Go.RowKit
def zU:List UInt8->Nat->Option Nat
 |[],n=>some n
 |b::r,n=>if gL b=true then zU r (10*n+(b.toNat-48))else none
def fD(s:List UInt8):Option Nat :=
 if s.length=2\/s.length=3 then(if s.getD 0 0=101/\¬(s.length=3/\s.getD 1 0=48)then zU (s.drop 1) 0 else none)else none
def BC(s:List UInt8):Int:=match fD s with|some k=>(k:Int)|none=>-1
theorem IT(s:List UInt8)(hs:s.length<=3):∀(k i n:Nat),i+k=s.length->1<=i->(n+1)*10 ^ k<=1000->Gk [.v (.string (mk s)),.v (.int .i64 (n:Int)),.v (.int .i64 (i:Int))] []
 (pk (match zU (s.drop i) n with|some m=>(1,[.v (.int .i64 (m:Int))],[])|none=>(2,[.v (.int .i64 (-1))],[])))
 |
  0,i,n,hi,h1,hn=>by
  refine Nf _ _ _ ?_
  have hd:s.drop i=[]:=bP (by omega)
  simp only[Gl,↓zq,zs,ag,zt,hd,zU]
  exact⟨fun h=>by omega,fun _=>by first|trivial|rfl⟩
 |
  k+1,i,n,hi,h1,hn=>by
  have hlt:i<s.length:=by omega
  refine Nf _ _ _ ?_
  rw[drop_cons hlt,zU]
  simp only[Gl,↓zq,zs,ag,zt,lL s i hlt]
  generalize s.getD i 0=b
  have hb:=b.toNat_lt
  refine⟨fun _=>⟨by omega,fun h48=>?_,fun h48=>⟨by omega,fun h57=>?_,fun h57=>⟨by omega,?_⟩⟩⟩,fun h=>by omega⟩
  ·have:gL b=false:=by simp only[gL,decide_eq_false_iff_not];omega
   rw[this];rfl
  ·have:gL b=false:=by simp only[gL,decide_eq_false_iff_not];omega
   rw[this];rfl
  ·have:gL b=true:=by simp only[gL,decide_eq_true_eq];omega
   rw[if_pos this]
   have hk:k=0\/k=1:=by omega
   have hn2:n*10<=1000:=by
    rcases hk with rfl|rfl<;>simp at hn<;>omega
   have e8:IntKind.wrap .u8 ((b.toNat:Int)-48)=((b.toNat-48:Nat):Int):=by
    have:b.toNat=48\/b.toNat=49\/b.toNat=50\/b.toNat=51\/b.toNat=52\/b.toNat=53\/b.toNat=54\/b.toNat=55\/b.toNat=56\/b.toNat=57:=by omega
    rcases this with h|h|h|h|h|h|h|h|h|h<;>rw[h]<;>rfl
   rw[e8,bS i (by omega),wrap64 ((b.toNat-48:Nat):Int) (by omega) (by omega),wrap64 (10*(n:Int)) (by omega) (by omega),wrap64 _ (by omega) (by omega)]
   have e:(10*(n:Int)+((b.toNat-48:Nat):Int))=((10*n+(b.toNat-48):Nat):Int):=by omega
   rw[e]
   exact IT s hs k (i+1) _ (by omega) (by omega) (by rcases hk with rfl|rfl<;>simp at hn |-<;>omega)
theorem KO(s:List UInt8):an Tryz.prog 213 [.v (.string (mk s))] [] (bB (.v (.int .i64 (BC s)))):=by
 refine OK _ ?_
 unfold Ii
 refine ak (C3 _ _ _) ?_
 simp only[↓zq,zs,ag,zt,Ef,bB]
 have hL:∀(Q:Nat->List AV->List Ob->Prop),(s.length=2\/s.length=3)->s.getD 0 0=101->¬(s.length=3/\s.getD 1 0=48)->(Q 0 [.v (.int .i64 (BC s))] []) ->
  eU Tryz.prog 49 (.loop CC B3 [.v (.string (mk s)),.v (.int .i64 0),.v (.int .i64 1)] [] (fun y2 q2=>.aj (LK.has (.int .i64) (y2.headD .any))<|.done 0 [.v (.int .i64 ((y2.headD .any).toInt))] []) (fun y2 q2=>.aj (LK.has (.int .i64) (y2.headD .any))<|.done 0 [.v (.int .i64 ((y2.headD .any).toInt))] [])) Q:=by
  intro Q hl h0 h1 hQ
  have e:fD s=zU (s.drop 1) 0:=by rw[fD,if_pos hl,if_pos ⟨h0,h1⟩]
  refine fH (IT s (by omega) (s.length-1) 1 0 (by omega) (by omega) (by rcases hl with h|h<;>rw[h]<;>decide)) (fun ys o e'=>?_) (fun ys o e'=>?_)
  ·cases hq:zU (s.drop 1) 0<;>rw[hq]at e'<;>cases e'
   rw[hq]at e
   simp only[BC,e]at hQ
   simp only[↓zq,zs,ag];exact hQ
  ·cases hq:zU (s.drop 1) 0<;>rw[hq]at e'<;>cases e'
   rw[hq]at e
   simp only[BC,e]at hQ
   simp only[↓zq,zs,ag];exact hQ
 have hz:∀{i:Nat},i<s.length->bt (mk s) (i:Int)=((s.getD i 0).toNat:Int):=fun h=>lL s _ h
 refine⟨fun h=>?_,fun h=>⟨?_,fun h0=>?_,fun h0=>⟨fun h3=>⟨by omega,fun h1=>?_,fun h1=>?_⟩,fun h3=>?_⟩⟩⟩
 ·have h':¬(2<=(s.length:Int)/\(s.length:Int)<=3):=by simpa using h
  rw[BC,fD,if_neg (by omega)]
 ·have h':2<=(s.length:Int)/\(s.length:Int)<=3:=by simpa using h
  omega
 ·have h':2<=(s.length:Int)/\(s.length:Int)<=3:=by simpa using h
  have e0:=hz (i:=0) (by omega)
  simp only[Int.ofNat_eq_natCast,Int.cast_ofNat_Int]at e0
  rw[e0]at h0
  rw[BC,fD,if_pos (by omega),if_neg]
  rintro⟨e,_⟩
  rw[e]at h0;exact h0 rfl
 ·have h':2<=(s.length:Int)/\(s.length:Int)<=3:=by simpa using h
  have e1:=hz (i:=1) (by omega)
  simp only[Int.ofNat_eq_natCast,Int.cast_ofNat_Int]at e1
  rw[e1]at h1
  rw[BC,fD,if_pos (by omega),if_neg]
  rintro⟨_,e⟩
  refine e ⟨by omega,?_⟩
  rw[<-UInt8.toNat_inj];show (s.getD 1 0).toNat=48;omega
 ·have h':2<=(s.length:Int)/\(s.length:Int)<=3:=by simpa using h
  have e0:=hz (i:=0) (by omega)
  have e1:=hz (i:=1) (by omega)
  simp only[Int.ofNat_eq_natCast,Int.cast_ofNat_Int]at e0 e1
  rw[e0]at h0;rw[e1]at h1
  refine hL _ (by omega) ?_ ?_ ⟨rfl,rfl⟩
  ·rw[<-UInt8.toNat_inj];show (s.getD 0 0).toNat=101;omega
  ·rintro⟨_,e⟩;rw[e]at h1;exact h1 rfl
 ·have h':2<=(s.length:Int)/\(s.length:Int)<=3:=by simpa using h
  have e0:=hz (i:=0) (by omega)
  simp only[Int.ofNat_eq_natCast,Int.cast_ofNat_Int]at e0
  rw[e0]at h0
  refine hL _ (by omega) ?_ ?_ ⟨rfl,rfl⟩
  ·rw[<-UInt8.toNat_inj];show (s.getD 0 0).toNat=101;omega
  ·rintro⟨e,_⟩;omega
theorem oK:∀(l:List UInt8) (n:Nat),(zU l n).isSome=l.all gL
 |[],n=>rfl
 |
  b::l,n=>by
  rw[zU]
  cases hb:gL b with
  |true=>rw[if_pos rfl,oK l];simp[hb]
  |false=>rw[if_neg (by simp)];simp[hb]
theorem LR(s:List UInt8):an Tryz.prog 97 [.v (.string (mk s))] [] (bB (.v (.bool (fD s).isSome))):=by
 refine PJ _ ?_
 simp only[IL,↓zq,zs,ag,zt,bB]
 have hz:∀{i:Nat},i<s.length->bt (mk s) (i:Int)=((s.getD i 0).toNat:Int):=fun h=>lL s _ h
 refine⟨fun h=>?_,fun h=>⟨fun h3=>?_,fun h3=>?_⟩⟩
 ·rw[fD,if_neg (by omega)];rfl
 ·rw[fD,if_neg (by omega)];rfl
 ·have e0:=hz (i:=0) (by omega)
  have e1:=hz (i:=1) (by omega)
  simp only[Int.ofNat_eq_natCast,Int.cast_ofNat_Int]at e0 e1
  rw[e0,e1]
  have hx:s.drop (bq 1)=s.drop 1:=rfl
  refine⟨by omega,fun h0=>?_,fun h0=>⟨by omega,?_⟩⟩
  ·rw[fD,if_pos (by omega),if_neg]
   ·rfl
   ·rintro⟨e,_⟩;rw[e]at h0;exact h0 rfl
  ·rw[hx]
   refine ak (Jq (s.drop 1) E6 (by simp;omega) (by decide) (by decide)) ?_
   simp only[↓zq,zs,ag,zt]
   have h101:s.getD 0 0=101:=by rw[<-UInt8.toNat_inj];show (s.getD 0 0).toNat=101;omega
   have hall:Lib.trimS (s.drop 1) E6=[]↔(s.drop 1).all gL=true:=by
    rw[sD]
    have:(fun x=>E6.contains x)=gL:=funext vp
    rw[this]
   refine⟨fun ht=>?_,fun ht=>⟨fun h2=>?_,fun h2=>⟨by omega,?_⟩⟩⟩
   ·have:(s.drop 1).all gL=false:=by
     cases hq:(s.drop 1).all gL with
     |false=>rfl
     |true=>exact absurd (hall.2 hq) ht
    rw[fD,if_pos (by omega)]
    split
    ·rw[oK,this]
    ·rfl
   ·have hq:=hall.1 ht
    rw[fD,if_pos (by omega),if_pos ⟨h101,by omega⟩,oK,hq]
   ·have hq:=hall.1 ht
    rw[fD,if_pos (by omega)]
    by_cases h48:s.getD 1 0=48
    ·rw[if_neg (by rintro⟨_,e⟩;exact e ⟨by omega,h48⟩),h48];rfl
    ·rw[if_pos ⟨h101,fun e=>h48 e.2⟩,oK,hq]
     have:¬((s.getD 1 0).toNat:Int)=48:=fun e=>h48 (by rw[<-UInt8.toNat_inj];show (s.getD 1 0).toNat=48;omega)
     rw[bne_iff_ne.2 this]
theorem tb{s:List UInt8}{k:Nat}(h:fD s=some k):s=wo k/\k<100:=by
 have key1:∀a:Fin 256,gL (a8 a.val)=true->zU [a8 a.val] 0=some ((a8 a.val).toNat-48)/\(a8 a.val).toNat-48<10/\[a8 a.val]=[a8 (48+((a8 a.val).toNat-48))]:=by decide +kernel
 unfold fD at h
 split at h
 ·rename_i hl
  split at h
  ·rename_i hh
   obtain⟨h0,h1⟩:=hh
   rcases hl with hl|hl
   ·match s,hl with
    |
     [c,a],_ =>
     simp only[bp]at h0
     subst h0
     simp only[List.drop_succ_cons,bG,zU]at h
     split at h
     ·rename_i ha
      have:=key1 ⟨a.toNat,a.toNat_lt⟩ (by simpa using ha)
      simp only[UInt8.ofNat_toNat]at this
      cases h
      refine⟨?_,by omega⟩
      rw[wo,ez (by omega)]
      simp only[Nat.mul_zero,aZ]
      rw[<-this.2.2]
     ·cases h
   ·match s,hl with
    |
     [c,a,b],_ =>
     simp only[bp,List.getD_cons_succ,au,aG,true_and]at h0 h1
     subst h0
     simp only[List.drop_succ_cons,bG,zU]at h
     split at h
     ·rename_i ha
      split at h
      ·rename_i hb
       have k1:=key1 ⟨a.toNat,a.toNat_lt⟩ (by simpa using ha)
       have k2:=key1 ⟨b.toNat,b.toNat_lt⟩ (by simpa using hb)
       simp only[UInt8.ofNat_toNat]at k1 k2
       have ha':48<=a.toNat/\a.toNat<=57:=by simpa[gL]using ha
       have hb':48<=b.toNat/\b.toNat<=57:=by simpa[gL]using hb
       have h48:a.toNat≠48:=fun e=>h1 (by rw[<-UInt8.toNat_inj];simpa using e)
       cases h
       simp only[Nat.mul_zero,aZ]
       refine⟨?_,by omega⟩
       rw[wo,fe (by omega),ez (by omega)]
       have e1:(10*(a.toNat-48)+(b.toNat-48))/10=a.toNat-48:=by omega
       have e2:(10*(a.toNat-48)+(b.toNat-48))%10=b.toNat-48:=by omega
       rw[e1,e2,<-k1.2.2,<-k2.2.2];rfl
      ·cases h
     ·cases h
  ·cases h
 ·cases h
theorem ve(k:Nat)(h:k<100):fD (wo k)=some k:=by
 have e:∀k,k<100->dd k=if k<10 then [a8 (48+k)]else [a8 (48+k/10),a8 (48+k%10)]:=by
  intro k hk
  by_cases h1:k<10
  ·rw[ez h1,if_pos h1]
  ·rw[fe h1,ez (by omega),if_neg h1];rfl
 have key:∀k:Fin 100,fD (101::(if k.val<10 then [a8 (48+k.val)]else [a8 (48+k.val/10),a8 (48+k.val%10)]))=some k.val:=by decide +kernel
 rw[wo,e k h];exact key ⟨k,h⟩
theorem Hw(k:Nat)(h:k<100):BC (wo k)=(k:Int):=by rw[BC,ve k h]
def xD:E->Bool
 | .atom s=>(s==[117])||(fD s).isSome
 | .list [x,a]=>((x.at==[108])||(x.at==[114])||(x.at==[102]))&&xD a
 | .list [x,a,b]=>(x.at==[112])&&(xD a&&xD b)
 | .list _=>false
def fB:E->Option Vl
 | .atom s=>if s=[117]then some .u else match fD s with|some k=>some (.el k)|none=>none
 |
  .list [x,a]=>match fB a with
  |none=>none
  |some v=>if x.at=[108]then some (.l v)else if x.at=[114]then some (.r v)else if x.at=[102]then some (.f v)else none
 | .list [x,a,b]=>if x.at=[112]then(match fB a,fB b with|some v,some w=>some (.p v w)|_,_=>none)else none
 | .list _=>none
theorem nZ:∀e:E,(fB e).isSome=xD e
 |
  .atom s=>by
  simp only[fB,xD]
  by_cases h:s=[117]
  ·simp[h]
  ·rw[if_neg h];cases fD s<;>simp[h]
 | .list []=>rfl
 | .list [_]=>rfl
 |
  .list [x,a]=>by
  have ha:=nZ a
  rw[fB,xD,<-ha]
  cases fB a with
  |none=>simp
  |
   some v =>
   by_cases h1:x.at=[108]
   ·simp[h1]
   ·by_cases h2:x.at=[114]
    ·simp[h2]
    ·by_cases h3:x.at=[102]
     ·simp[h3]
     ·simp[h1,h2,h3]
 |
  .list [x,a,b]=>by
  have ha:=nZ a
  have hb:=nZ b
  rw[fB,xD,<-ha,<-hb]
  by_cases h1:x.at=[112]
  ·rw[if_pos h1,h1];cases fB a<;>cases fB b<;>rfl
  ·simp[h1]
 | .list (_::_::_::_::_)=>rfl
theorem j5{x:E}{w:List UInt8}(h:x.at=w)(hw:w≠[]):x=.atom w:=by
 cases x with
 |atom s=>exact congrArg E.atom h
 |list l=>exact absurd h.symm hw
theorem kE:∀(e:E) (v:Vl),fB e=some v->v.dG=e/\v.gX 100
 |
  .atom s,v,h=>by
  simp only[fB]at h
  split at h
  ·rename_i h1;cases h;exact⟨by rw[h1];rfl,trivial⟩
  ·split at h
   ·rename_i k hk
    cases h
    obtain⟨h1,h2⟩:=tb hk
    exact⟨by rw[h1];rfl,h2⟩
   ·cases h
 | .list [],_,h=>by cases h
 | .list [_],_,h=>by cases h
 | .list (_::_::_::_::_),_,h=>by cases h
 |
  .list [x,a],v,h=>by
  rw[fB]at h
  split at h
  ·cases h
  ·rename_i w hw
   obtain⟨h1,h2⟩:=kE a w hw
   split at h
   ·rename_i hx;cases h;rw[j5 hx (by simp)];exact⟨by rw[Vl.dG,h1],h2⟩
   ·split at h
    ·rename_i hx;cases h;rw[j5 hx (by simp)];exact⟨by rw[Vl.dG,h1],h2⟩
    ·split at h
     ·rename_i hx;cases h;rw[j5 hx (by simp)];exact⟨by rw[Vl.dG,h1],h2⟩
     ·cases h
 |
  .list [x,a,b],v,h=>by
  rw[fB]at h
  split at h
  ·rename_i hx
   split at h
   ·rename_i w1 w2 hw1 hw2
    cases h
    obtain⟨h1,h2⟩:=kE a w1 hw1
    obtain⟨h3,h4⟩:=kE b w2 hw2
    rw[j5 hx (by simp)]
    exact⟨by rw[Vl.dG,h1,h3],h2,h4⟩
   ·cases h
  ·cases h
def pN(e:E)(w:List UInt8)(k:Nat):Bool:=match e with| .list (x::l)=>decide (l.length+1=k)&&(x.at==w)|_=>false
theorem s3(e:E)(w:List UInt8)(k:Nat)(hk:1<=k):an Tryz.prog 98 [e.cv,.v (.string (mk w)),.v (.int .i64 (k:Int))] [] (bB (.v (.bool (pN e w k)))):=by
 refine Iv _ _ _ ((cN e).mpr trivial) ?_
 cases e with
 |atom s=>simp only[Bt,E.cv,↓zq,zs,ag,zt,bB,pN];exact⟨by omega,fun h=>by omega,fun _=>trivial⟩
 |
  list l =>
  simp only[Bt,E.cv,↓zq,zs,ag,zt,bB,qU]
  cases l with
  |nil=>exact⟨by simp,fun h=>by simp at h;omega,fun _=>rfl⟩
  |
   cons x l =>
   simp only[au]
   refine⟨by simp,fun h=>?_,fun h=>?_⟩
   ·have:decide (l.length+1=k)=true:=by rw[decide_eq_true_eq];omega
    simp only[pN,this]
    cases x<;>simp[E.lS,E.cv,ca,pB,jv,eh,uK,toList_mk,E.at]
   ·have:decide (l.length+1=k)=false:=by rw[decide_eq_false_iff_not];omega
    simp only[pN,this];rfl
def ij:Option Vl->AV
 |some v=>v.cv
 |none=>.v (.pointer none)
end Go.Proofs.Trees
namespace Go.Proofs.Trees
open Go Go.VL Go.RowKit
theorem fF(v:Option Vl):LK.has .ptr (ij v)=True:=by cases v<;>simp[ij,aM,iT]
theorem zH:∀(e:E),e.ok->an Tryz.prog 51 [e.cv] [] (bB (ij (fB e)))
 |
  .atom s,hok=>by
  refine JQ _ ((cN _).mpr trivial) ?_
  have hd:=nj (.atom s)
  have hlen:=lB (.atom s)
  simp only[E.at]at hd
  simp only[Fq,↓zq,zs,ag,zt,bB,cN,eg,hd,fB]
  refine⟨hlen,fun h=>?_,fun h=>⟨hlen,?_⟩⟩
  ·rw[if_pos h];rfl
  ·rw[if_neg h]
   refine ak (LR s) ?_
   simp only[↓zq,zs,ag,zt]
   refine⟨fun he=>⟨hlen,?_⟩,fun he=>?_⟩
   ·obtain⟨k,hk⟩:=Option.isSome_iff_exists.1 he
    obtain⟨h1,h2⟩:=tb hk
    rw[hk,h1];rfl
   ·have hn:fD s=none:=by cases hq:fD s<;>simp[hq]at he |-
    rw[hn]
    refine ak (s3 (.atom s) [108] 2 (by omega)) ?_
    simp only[pN,↓zq,zs,ag,zf]
    refine⟨fun h=>(by cases h),fun _=>ak (s3 (.atom s) [114] 2 (by omega)) ?_⟩
    simp only[pN,↓zq,zs,ag,zf]
    refine⟨fun h=>(by cases h),fun _=>ak (s3 (.atom s) [102] 2 (by omega)) ?_⟩
    simp only[pN,↓zq,zs,ag,zf]
    refine⟨fun h=>(by cases h),fun _=>ak (s3 (.atom s) [112] 3 (by omega)) ?_⟩
    simp only[pN,↓zq,zs,ag,zf]
    exact⟨fun h=>(by cases h),fun _=>rfl⟩
 |
  .list l,hok=>by
  refine JQ _ ((cN _).mpr trivial) ?_
  have hd:=nj (.list l)
  have hlen:=lB (.list l)
  have hlen2:∀{l:List E},((AV.v (.string (mk [])))::[AV.sl (E.lS l)]).length=2:=rfl
  simp only[E.at]at hd
  have he:fD []=none:=rfl
  simp only[Fq,↓zq,zs,ag,zt,bB,cN,eg,hd]
  refine⟨hlen,fun h=>(by cases h),fun h=>⟨hlen,?_⟩⟩
  refine ak (LR []) ?_
  rw[he]
  simp only[↓zq,zs,ag,zt,zf,bC]
  refine⟨fun h=>(by cases h),fun _=>ak (s3 (.list l) [108] 2 (by omega)) ?_⟩
  have hno:∀w:List UInt8,(∀x a,l≠[x,a])->pN (.list l) w 2=false:=by
   intro w h2
   match l,h2 with
   |[],_=>rfl
   |[x],_=>rfl
   |[x,a],h2=>exact absurd rfl (h2 x a)
   |x::y::z::l,_=>simp[pN]
  match l,hok,hno,hlen with
  |
   [x,a],hok,hno,hlen =>
   clear hno
   obtain⟨ok1,ok2,_⟩:=hok
   have e2:∀w:List UInt8,pN (.list [x,a]) w 2=(x.at==w):=fun w=>rfl
   have e3:pN (.list [x,a]) [112] 3=false:=rfl
   have hx:=nj x
   have hxl:=lB x
   rw[fB]
   simp only[e2,↓zq,zs,ag]
   refine⟨fun h1=>?_,fun h1=>ak (s3 (.list [x,a]) [114] 2 (by omega)) ?_⟩
   ·simp only[E.cv,E.lS,toNat_one,↓zq,zs,ag,zt,cN,eg]
    refine⟨by omega,by omega,by omega,ak (zH a ok2) ?_⟩
    cases hv:fB a with
    |none=>simp only[ij,↓zq,zs,ag,fF];exact⟨fun _=>trivial,fun h=>(by cases h)⟩
    |
     some v =>
     simp only[ij,↓zq,zs,ag,zt,aM,e9,hx,h1,cN,eg]
     refine⟨fun h=>(by cases h),fun _=>⟨by omega,by omega,by omega,hxl,by simp,?_⟩⟩
     rfl
   ·simp only[e2,↓zq,zs,ag]
    refine⟨fun h2=>?_,fun h2=>ak (s3 (.list [x,a]) [102] 2 (by omega)) ?_⟩
    ·simp only[E.cv,E.lS,toNat_one,↓zq,zs,ag,zt,cN,eg]
     refine⟨by omega,by omega,by omega,ak (zH a ok2) ?_⟩
     cases hv:fB a with
     |none=>simp only[ij,↓zq,zs,ag,fF];exact⟨fun _=>trivial,fun h=>(by cases h)⟩
     |
      some v =>
      simp only[ij,↓zq,zs,ag,zt,aM,e9,hx,h2,cN,eg]
      refine⟨fun h=>(by cases h),fun _=>⟨by omega,by omega,by omega,hxl,by simp,?_⟩⟩
      rfl
    ·simp only[e2,↓zq,zs,ag]
     refine⟨fun h3=>?_,fun h3=>ak (s3 (.list [x,a]) [112] 3 (by omega)) ?_⟩
     ·simp only[E.cv,E.lS,toNat_one,↓zq,zs,ag,zt,cN,eg]
      refine⟨by omega,by omega,by omega,ak (zH a ok2) ?_⟩
      cases hv:fB a with
      |none=>simp only[ij,↓zq,zs,ag,fF];exact⟨fun _=>trivial,fun h=>(by cases h)⟩
      |
       some v =>
       simp only[ij,↓zq,zs,ag,zt,aM,e9,hx,h3,cN,eg]
       refine⟨fun h=>(by cases h),fun _=>⟨by omega,by omega,by omega,hxl,by simp,?_⟩⟩
       rfl
     ·rw[e3]
      simp only[↓zq,zs,ag]
      refine⟨fun h=>(by cases h),fun _=>?_⟩
      cases fB a with
      |none=>rfl
      |some v=>simp only[if_neg h1,if_neg h2,if_neg h3];rfl
  |
   [x,a,b],hok,hno,hlen =>
   obtain⟨ok1,ok2,ok3,_⟩:=hok
   have h2:=fun w=>hno w (fun x a h=>(by cases h))
   rw[h2]
   simp only[↓zq,zs,ag]
   refine⟨fun h=>(by cases h),fun _=>ak (s3 (.list [x,a,b]) [114] 2 (by omega)) ?_⟩
   rw[h2]
   simp only[↓zq,zs,ag]
   refine⟨fun h=>(by cases h),fun _=>ak (s3 (.list [x,a,b]) [102] 2 (by omega)) ?_⟩
   rw[h2]
   simp only[↓zq,zs,ag]
   refine⟨fun h=>(by cases h),fun _=>ak (s3 (.list [x,a,b]) [112] 3 (by omega)) ?_⟩
   have e3:pN (.list [x,a,b]) [112] 3=(x.at==[112]):=rfl
   rw[e3,fB]
   simp only[↓zq,zs,ag]
   refine⟨fun h1=>?_,fun h1=>?_⟩
   ·rw[if_pos h1]
    simp only[E.cv,E.lS,toNat_one,bw,↓zq,zs,ag,zt,cN,eg]
    refine⟨by omega,by omega,by omega,ak (zH a ok2) ?_⟩
    simp only[↓zq,zs,ag,fF,cN]
    refine⟨by omega,by omega,by omega,ak (zH b ok3) ?_⟩
    cases hv:fB a with
    |none=>cases hw:fB b<;>simp only[ij,↓zq,zs,ag,fF,aM]<;>exact⟨fun _=>trivial,fun h=>(by cases h)⟩
    |
     some v =>
     cases hw:fB b with
     |
      none =>
      simp only[ij,↓zq,zs,ag,fF,aM,e9]
      exact⟨fun h=>(by cases h),fun _=>⟨fun _=>trivial,fun h=>(by cases h)⟩⟩
     |
      some w =>
      simp only[ij,↓zq,zs,ag,aM,e9]
      refine⟨fun h=>(by cases h),fun _=>⟨fun h=>(by cases h),fun _=>?_⟩⟩
      refine ak (zN _ _ ((aM _).mpr trivial) ((aM _).mpr trivial)) ?_
      simp only[↓zq,zs,ag];rfl
   ·rw[if_neg h1];rfl
  |
   [],hok,hno,hlen =>
   have h2:=fun w=>hno w (fun x a h=>(by cases h))
   have e3:pN (.list []) [112] 3=false:=rfl
   rw[h2]
   simp only[↓zq,zs,ag]
   refine⟨fun h=>(by cases h),fun _=>ak (s3 (.list []) [114] 2 (by omega)) ?_⟩
   rw[h2]
   simp only[↓zq,zs,ag]
   refine⟨fun h=>(by cases h),fun _=>ak (s3 (.list []) [102] 2 (by omega)) ?_⟩
   rw[h2]
   simp only[↓zq,zs,ag]
   refine⟨fun h=>(by cases h),fun _=>ak (s3 (.list []) [112] 3 (by omega)) ?_⟩
   rw[e3]
   simp only[↓zq,zs,ag]
   exact⟨fun h=>(by cases h),fun _=>rfl⟩
  |
   [x],hok,hno,hlen =>
   have h2:=fun w=>hno w (fun x a h=>(by cases h))
   have e3:pN (.list [x]) [112] 3=false:=rfl
   rw[h2]
   simp only[↓zq,zs,ag]
   refine⟨fun h=>(by cases h),fun _=>ak (s3 (.list [x]) [114] 2 (by omega)) ?_⟩
   rw[h2]
   simp only[↓zq,zs,ag]
   refine⟨fun h=>(by cases h),fun _=>ak (s3 (.list [x]) [102] 2 (by omega)) ?_⟩
   rw[h2]
   simp only[↓zq,zs,ag]
   refine⟨fun h=>(by cases h),fun _=>ak (s3 (.list [x]) [112] 3 (by omega)) ?_⟩
   rw[e3]
   simp only[↓zq,zs,ag]
   exact⟨fun h=>(by cases h),fun _=>rfl⟩
  |
   x::y::z::w::l,hok,hno,hlen =>
   have h2:=fun w=>hno w (fun x a h=>(by cases h))
   have e3:pN (.list (x::y::z::w::l)) [112] 3=false:=by simp[pN]
   rw[h2]
   simp only[↓zq,zs,ag]
   refine⟨fun h=>(by cases h),fun _=>ak (s3 (.list (x::y::z::w::l)) [114] 2 (by omega)) ?_⟩
   rw[h2]
   simp only[↓zq,zs,ag]
   refine⟨fun h=>(by cases h),fun _=>ak (s3 (.list (x::y::z::w::l)) [102] 2 (by omega)) ?_⟩
   rw[h2]
   simp only[↓zq,zs,ag]
   refine⟨fun h=>(by cases h),fun _=>ak (s3 (.list (x::y::z::w::l)) [112] 3 (by omega)) ?_⟩
   rw[e3]
   simp only[↓zq,zs,ag]
   exact⟨fun h=>(by cases h),fun _=>rfl⟩
def pY(s:List UInt8):Option Vl:=match qt s with
 |none=>none
 |
  some e=>match fB e with
  |none=>none
  |some v=>if v.nodes>200 then none else some v
theorem jy{s:List UInt8}{v:Vl}(h:pY s=some v):qt s=some v.dG/\v.gX 100/\v.nodes<=200:=by
 unfold pY at h
 split at h
 ·cases h
 ·rename_i e he
  split at h
  ·cases h
  ·rename_i w hw
   split at h
   ·cases h
   ·cases h
    obtain⟨h1,h2⟩:=kE e _ hw
    rw[h1]
    exact⟨he,h2,by omega⟩
theorem wN{e:E}{v:Vl}(h:fB e=some v):v.nodes<=e.sz:=by
 obtain⟨h1,_⟩:=kE e v h
 rw[<-ng,h1];exact BW e
theorem HW(s:List UInt8):an Tryz.prog 24 [.v (.string (mk s))] [] (bB (ij (pY s))):=by
 refine Pd _ ?_
 unfold I8
 refine ak (M3 s) ?_
 unfold pY
 cases he:qt s with
 |none=>simp only[tV,↓zq,zs,ag,bB,ij];simp
 |
  some e =>
  obtain⟨h1,h2⟩:=nB he
  simp only[tV,↓zq,zs,ag,cN,eg]
  refine⟨fun h=>(by cases h),fun _=>?_⟩
  refine ak (zH e h1) ?_
  cases hv:fB e with
  |none=>simp only[ij,↓zq,zs,ag,bB];simp
  |
   some v =>
   have hn:=wN hv
   simp only[ij,↓zq,zs,ag,aM,e9]
   refine⟨fun h=>(by cases h),fun _=>?_⟩
   refine ak (Er v (by omega)) ?_
   simp only[↓zq,zs,ag,bB]
   refine⟨fun h=>?_,fun h=>?_⟩
   ·rw[if_pos (by omega)]
   ·rw[if_neg (by omega)]
theorem zB:∀(e:E),e.ok->an Tryz.prog 210 [e.kj] [] (bB (.v (.bool (xD e))))
 |
  .atom s,hok=>by
  refine yU _ _ ((bj).mpr trivial) ?_
  have hne:s≠[]:=hok
  simp only[He,↓zq,zs,ag,zt,bB,xD]
  refine⟨fun _=>⟨fun h=>?_,fun h=>?_⟩,fun h=>absurd h hne⟩
  ·simp[h]
  ·refine ak (KO s) ?_
   have h':(s==[117])=false:=by simpa using h
   simp only[↓zq,zs,ag,h',Bool.false_or]
   congr 2
   rw[BC]
   cases fD s with
   |none=>rfl
   |some k=>simp
 |
  .list [],hok=>by
  refine yU _ _ ((ck _).mpr trivial) ?_
  simp only[He,↓zq,zs,ag,zt,bB,xD]
  refine⟨fun h=>absurd rfl h,fun _=>?_⟩
  refine ak Rj ?_
  simp[↓zq,zs,ag,zt]
 |
  .list [x],hok=>by
  refine yU _ _ ((ck _).mpr trivial) ?_
  simp only[He,↓zq,zs,ag,zt,bB,xD]
  refine⟨fun h=>absurd rfl h,fun _=>?_⟩
  refine ak (uM x _) ?_
  simp[↓zq,zs,ag,zt,E.bo]
 |
  .list (x::y::z::w::l),hok=>by
  refine yU _ _ ((ck _).mpr trivial) ?_
  simp only[He,↓zq,zs,ag,zt,bB,xD]
  refine⟨fun h=>absurd rfl h,fun _=>?_⟩
  refine ak (uM x _) ?_
  simp only[↓zq,zs,ag,zt,E.bo]
  refine⟨fun _=>⟨fun h=>by omega,fun _=>trivial⟩,fun _=>⟨fun _=>⟨fun h=>by omega,fun _=>trivial⟩,fun _=>⟨fun _=>⟨fun h=>by omega,fun _=>trivial⟩,fun _=>⟨fun _=>⟨fun h=>by omega,fun _=>trivial⟩,fun _=>trivial⟩⟩⟩⟩
 |
  .list [x,a],hok=>by
  refine yU _ _ ((ck _).mpr trivial) ?_
  obtain⟨ok1,ok2,_⟩:=hok
  simp only[He,↓zq,zs,ag,zt,bB,xD]
  refine⟨fun h=>absurd rfl h,fun _=>?_⟩
  refine ak (uM x _) ?_
  simp only[E.bo,toNat_one,bw,↓zq,zs,ag,zt,iB,fU,iE,mw,aw]
  refine⟨fun h=>⟨fun _=>⟨by omega,?_⟩,fun h=>by omega⟩,fun h1=>⟨fun h=>⟨fun _=>⟨by omega,?_⟩,fun h=>by omega⟩,fun h2=>⟨fun h=>⟨fun _=>⟨by omega,?_⟩,fun h=>by omega⟩,fun h3=>⟨fun h=>⟨fun h=>by omega,fun _=>?_⟩,fun h=>?_⟩⟩⟩⟩
  ·refine ak (zB a ok2) ?_
   simp[↓zq,zs,ag,h]
  ·refine ak (zB a ok2) ?_
   simp[↓zq,zs,ag,h]
  ·refine ak (zB a ok2) ?_
   simp[↓zq,zs,ag,h]
  ·simp[h]
  ·simp[h1,h2,h3]
 |
  .list [x,a,b],hok=>by
  refine yU _ _ ((ck _).mpr trivial) ?_
  obtain⟨ok1,ok2,ok3,_⟩:=hok
  simp only[He,↓zq,zs,ag,zt,bB,xD]
  refine⟨fun h=>absurd rfl h,fun _=>?_⟩
  refine ak (uM x _) ?_
  simp only[E.bo,toNat_one,bw,↓zq,zs,ag,zt,iB,fU,iE,mw,aw]
  refine⟨fun h=>⟨fun h=>by omega,fun _=>?_⟩,fun h1=>⟨fun h=>⟨fun h=>by omega,fun _=>?_⟩,fun h2=>⟨fun h=>⟨fun h=>by omega,fun _=>?_⟩,fun h3=>⟨fun h=>⟨fun _=>⟨by omega,?_⟩,fun h=>by omega⟩,fun h=>?_⟩⟩⟩⟩
  ·simp[h]
  ·simp[h]
  ·simp[h]
  ·refine ak (zB a ok2) ?_
   simp only[↓zq,zs,ag,h]
   refine⟨fun ha=>⟨by omega,ak (zB b ok3) ?_⟩,fun ha=>?_⟩
   ·simp[↓zq,zs,ag,ha]
   ·simp[ha]
  ·simp[h]
theorem E4(s:List UInt8):an Tryz.prog 167 [.v (.string (mk s))] [] (j0 ((pY s).map Vl.dG) (pY s).isSome):=by
 refine O2 _ ?_
 unfold KY
 refine aO (Nb s) (j0.ne _ _ (fun h=>h)) ?_
 rintro r o ⟨c,d,hd,rfl,hh⟩
 simp only[↓zq,zs,ag,zt,bF,pY]
 refine⟨hd,fun h=>?_,fun h=>?_⟩
 ·obtain⟨e,he,hce⟩:=hh h
  obtain⟨hok,hsz⟩:=nB he
  rw[he,hce]
  refine ak (zB e hok) ?_
  simp only[↓zq,zs,ag]
  have hs:=nZ e
  refine⟨fun hi=>?_,fun hi=>?_⟩
  ·rw[hi]at hs
   obtain⟨v,hv⟩:=Option.isSome_iff_exists.1 hs
   obtain⟨h1,h2⟩:=kE e v hv
   refine ak (O3 e (by omega)) ?_
   simp only[↓zq,zs,ag,hv]
   have hnd:e.nd=v.nodes:=by rw[<-h1,ng]
   rw[hnd]
   refine⟨c,d,hd,?_,?_⟩
   ·rw[hce]
    by_cases h4:v.nodes>200
    ·rw[if_pos h4];exact congrArg (fun b=>AV.cy [e.kj,.v (.bool b)]) (decide_eq_false (show ¬((v.nodes:Nat):Int)<=200 by omega))
    ·rw[if_neg h4];exact congrArg (fun b=>AV.cy [e.kj,.v (.bool b)]) (decide_eq_true (show ((v.nodes:Nat):Int)<=200 by omega))
   ·split
    ·exact fun h=>by cases h
    ·exact fun _=>⟨e,by simp[h1],hce⟩
  ·rw[hi]at hs
   have hn:fB e=none:=by cases hq:fB e<;>simp[hq]at hs |-
   rw[hn]
   exact⟨c,d,hd,by rw[hce];rfl,fun h=>by cases h⟩
 ·have hn:qt s=none:=by cases hq:qt s<;>simp[hq]at h |-
  rw[hn]
  exact⟨c,d,hd,rfl,fun h=>by cases h⟩
end Go.Proofs.Trees
namespace Go.Proofs.Trees
open Go Go.VL Go.RowKit
inductive Fr where
 |mk (s:List UInt8) (e:E) (o:List Fr)
def Fr.nm:Fr->List UInt8| .mk s _ _=>s
def Fr.ex:Fr->E| .mk _ e _=>e
def Fr.out:Fr->List Fr| .mk _ _ o=>o
def names:List Fr->List (List UInt8)
 |[]=>[]
 |f::r=>names r++[f.nm]
def ym(e:E)(o:List Fr):Ty:=(cY e (names o)).getD .zero
def E.sp:E->AV
 | .atom _=>.v (.slice none 0 0)
 | .list l=>.sl (E.bo l)
theorem fq(e:E):e.gV=[.v (.string (mk e.at)),e.sp]:=by cases e<;>rfl
theorem dA(e:E):e.kj=.agg [.v (.string (mk e.at)),e.sp]:=by cases e<;>rfl
theorem bh(e:E):LK.has .sl e.sp=True:=by cases e<;>simp[E.sp,bj,ck]
mutual
def Fr.cells:Fr->List AV
 | .mk s e o=>[.v (.string (mk s)),.v (.string (mk e.at)),e.sp,.sl (jZ o)]
def jZ:List Fr->List (List AV)
 |[]=>[]
 |f::r=>jZ r++[f.cells]
end
mutual
def Fr.cv:Fr->AV
 | .mk s e o=>.ptr [(ym e o).av,nU o]
def nU:List Fr->AV
 |[]=>gR
 |f::r=>.ptr [f.cv,nU r]
end
inductive WF:List Fr->Prop
 |nil:WF []
 |cons {s:List UInt8} {x a b:E} {t:Ty} {r:List Fr} (hs:dD s=true) (hok:(E.list [x,a,b]).ok) (hx:x.at=[114,101,99]) (ht:cY (.list [x,a,b]) (names r)=some t) (hf:bW t=false) (hr:WF r):WF (.mk s (.list [x,a,b]) r::r)
theorem kC:∀env:List Fr,(jZ env).length=env.length
 |[]=>rfl
 |f::r=>by simp[jZ,kC r]
theorem ek(env:List Fr):LK.has .ptr (nU env)=True:=by cases env<;>simp[nU,iT,ca]
theorem Aj(f:Fr):LK.has .ptr f.cv=True:=by cases f;simp[Fr.cv,ca]
def findF(s:List UInt8):List Fr->Option Fr
 |[]=>none
 |f::r=>if f.nm=s then some f else findF s r
def hd(e:E)(env:List Fr):E×List Fr:=match findF e.at env with|some f=>(f.ex,f.out)|none=>(e,env)
theorem mQ{env:List Fr}(h:WF env):findF [] env=none:=by
 induction h with
 |nil=>rfl
 |
  @cons s x a b t r hs hok hx ht hf hr ih =>
  rw[findF,if_neg (show ¬(Fr.mk s (.list [x,a,b]) r).nm=[] from Ag hs)];exact ih
theorem y7{env:List Fr}(h:WF env){s:List UInt8}{f:Fr}(hf:findF s env=some f):dD s=true:=by
 induction h with
 |nil=>cases hf
 |
  cons hs hok hx ht hf' hr ih =>
  rw[findF]at hf
  split at hf
  ·rename_i e;exact e ▸ hs
  ·exact ih hf
theorem nV{env:List Fr}(h:WF env){s:List UInt8}{f:Fr}(hf:findF s env=some f):∃x a b t,f.ex=.list [x,a,b]/\(E.list [x,a,b]).ok/\x.at=[114,101,99]/\cY f.ex (names f.out)=some t/\bW t=false/\WF f.out/\f.out.length<env.length:=by
 induction h with
 |nil=>cases hf
 |
  cons hs hok hx ht hf' hr ih =>
  rw[findF]at hf
  split at hf
  ·cases hf;exact⟨_,_,_,_,rfl,hok,hx,ht,hf',hr,by simp[Fr.out]⟩
  ·obtain⟨x,a,b,t,h1,h2,h3,h4,h5,h6,h7⟩:=ih hf
   exact⟨x,a,b,t,h1,h2,h3,h4,h5,h6,by simp;omega⟩
theorem ml(s w:List UInt8)(ar:List (List UInt8)):∀i,i<=ar.length->cb s (ar++[w]) i=(cb s ar i).map (·+1)
 |0,_=>rfl
 |
  i+1,hi=>by
  have hlt:i<ar.length:=by omega
  have e:(ar++[w]).getD i []=ar.getD i []:=by simp[aa,List.getElem?_append_left hlt]
  rw[cb,cb,e,ml s w ar i (by omega)]
  split
  ·simp only[aq,au,aG,cu,Option.some.injEq];omega
  ·rfl
theorem vZ(s:List UInt8)(f:Fr)(r:List Fr):cb s (names (f::r)) (names (f::r)).length=if f.nm=s then some 0 else(cb s (names r) (names r).length).map (·+1):=by
 have e:(names (f::r)).length=(names r).length+1:=by simp[names]
 rw[e,cb]
 have e2:(names (f::r)).getD (names r).length []=f.nm:=by simp[names,aa]
 rw[e2]
 split
 ·rw[e];simp
 ·rw[names,ml _ _ _ _ (aw _)]
theorem ou(s:List UInt8):∀env:List Fr,cb s (names env) (names env).length=none/\findF s env=none\/∃(u:Nat) (f:Fr),cb s (names env) (names env).length=some u/\findF s env=some f/\env[u]?=some f
 |[]=>.inl ⟨rfl,rfl⟩
 |
  f::r=>by
  rw[vZ,findF]
  split
  ·exact .inr ⟨0,f,rfl,rfl,rfl⟩
  ·rcases ou s r with⟨h1,h2⟩|⟨u,g,h1,h2,h3⟩
   ·exact .inl ⟨by rw[h1];rfl,h2⟩
   ·exact .inr ⟨u+1,g,by rw[h1];rfl,h2,by simpa using h3⟩
def Ty.Nr:Ty->Bool
 | .bound _=>true
 |_=>false
theorem hG{e:E}{env:List Fr}{t:Ty}(hw:WF env)(ht:cY e (names env)=some t) :
 (t.Nr=false/\findF e.at env=none)\/∃(u:Nat) (f:Fr),t=.bound u/\findF e.at env=some f/\env[u]?=some f:=by
 cases e with
 |
  list l =>
  left
  refine⟨?_,mQ hw⟩
  match l,ht with
  |
   [x,a,b],ht =>
   by_cases h0:x.at=[43]
   ·obtain⟨t1,t2,_,_,rfl⟩:=fZ h0 ht;rfl
   ·by_cases h1:x.at=[42]
    ·obtain⟨t1,t2,_,_,rfl⟩:=fG h1 ht;rfl
    ·by_cases h2:x.at=[114,101,99]
     ·obtain⟨t1,_,_,rfl⟩:=dU h2 ht;rfl
     ·rw[ji _ h0 h1 h2]at ht;cases ht
  |[],ht=>cases ht
  |[_],ht=>cases ht
  |[_,_],ht=>cases ht
  |_::_::_::_::_,ht=>cases ht
 |
  atom s =>
  simp only[cY]at ht
  have hno:dD s=false->findF s env=none:=fun h=>by
   cases hq:findF s env with
   |none=>rfl
   |some f=>rw[y7 hw hq]at h;cases h
  split at ht
  ·rename_i h;cases ht;subst h;exact .inl ⟨rfl,hno rfl⟩
  ·split at ht
   ·rename_i h;cases ht;subst h;exact .inl ⟨rfl,hno rfl⟩
   ·split at ht
    ·rename_i h
     cases ht
     refine .inl ⟨rfl,hno ?_⟩
     cases hq:dD s with
     |false=>rfl
     |
      true =>
      obtain⟨c,r,rfl,h1,h2⟩:=kY h
      obtain⟨c',r',he,h3,h4⟩:=kY hq
      cases he;omega
    ·split at ht
     ·rcases ou s env with⟨h1,h2⟩|⟨u,f,h1,h2,h3⟩
      ·rw[h1]at ht;cases ht;exact .inl ⟨rfl,h2⟩
      ·rw[h1]at ht;cases ht;exact .inr ⟨u,f,rfl,h2,h3⟩
     ·cases ht
def fA(n:Nat):Vl->E×List Fr->Bool
 | .u,p=>match hd p.1 p.2 with|(.atom s,_)=>s==[49]|_=>false
 | .el k,p=>match hd p.1 p.2 with|(.atom s,_)=>!(s==[49])&&(iq s&&decide (k<n))|_=>false
 | .l w,p=>match hd p.1 p.2 with|(.list [x,a,b],o)=>(x.at==[43])&&fA n w (a,o)|_=>false
 | .r w,p=>match hd p.1 p.2 with|(.list [x,a,b],o)=>(x.at==[43])&&fA n w (b,o)|_=>false
 | .f w,p=>match hd p.1 p.2 with|(.list [x,a,b],o)=>(x.at==[114,101,99])&&fA n w (b,.mk a.at (.list [x,a,b]) o::o)|_=>false
 | .p v w,p=>match hd p.1 p.2 with|(.list [x,a,b],o)=>(x.at==[42])&&(fA n v (a,o)&&fA n w (b,o))|_=>false
theorem lG{e:E}{env:List Fr}(h:findF e.at env=none):hd e env=(e,env):=by rw[hd,h]
theorem qM{e:E}{env:List Fr}{f:Fr}(h:findF e.at env=some f):hd e env=(f.ex,f.out):=by rw[hd,h]
theorem oX{x a b:E}{o:List Fr}(h:WF o):hd (.list [x,a,b]) o=(.list [x,a,b],o):=lG (mQ h)
theorem ue(n:Nat)(v:Vl){e e':E}{env o:List Fr}(h:hd e env=(e',o))(h':hd e' o=(e',o)):fA n v (e,env)=fA n v (e',o):=by
 cases v<;>simp only[fA,h,h']
theorem jJ{x a b:E}{env:List Fr}{t:Ty}(hw:WF env)(hok:(E.list [x,a,b]).ok)(hx:x.at=[114,101,99])(ht:cY (.list [x,a,b]) (names env)=some t)(hf:bW t=false) :
 ∃t1,t=.rc t1/\cY b (names (.mk a.at (.list [x,a,b]) env::env))=some t1/\bW t1=false/\WF (.mk a.at (.list [x,a,b]) env::env):=by
 obtain⟨t1,hl,h1,rfl⟩:=dU hx ht
 exact⟨t1,rfl,h1,hf,.cons hl hok hx ht hf hw⟩
theorem yY(a b env:AV)(n:Int)(s:ByteArray)(u:Int)(ha:LK.ptr.has a)(he:LK.ptr.has env):an Tryz.prog 87 [.agg [.ptr [.v (.int .u8 n),.v (.string s),.v (.int .i64 u),a,b],env]] [] (bB (.agg [a,env])):=by
 refine Q1 _ _ ((ca _).mpr trivial) he ?_
 simp only[Km,↓zq,zs,ag,bB]
 exact⟨ha,by omega⟩
theorem zI(a b env:AV)(n:Int)(s:ByteArray)(u:Int)(hb:LK.ptr.has b)(he:LK.ptr.has env):an Tryz.prog 88 [.agg [.ptr [.v (.int .u8 n),.v (.string s),.v (.int .i64 u),a,b],env]] [] (bB (.agg [b,env])):=by
 refine PO _ _ ((ca _).mpr trivial) he ?_
 simp only[H2,↓zq,zs,ag,bB]
 exact⟨hb,by omega⟩
theorem Rd(t:Ty)(env:List Fr)(s:List UInt8)(e:E)(ht:ym e env=.rc t):an Tryz.prog 48 [.agg [(Ty.rc t).av,nU env]] [] (bB (.cy [.agg [t.av,nU (.mk s e env::env)],(Fr.mk s e env).cv])):=by
 refine PV _ _ ((aF _).mpr trivial) ((ek _).mpr trivial) ?_
 simp only[JY,Ty.av,↓zq,zs,ag,aF,bB,nU,Fr.cv,ht]
 omega
theorem tp(env:List Fr)(i:Nat)(f:Fr)(h:env[i]?=some f):nU (env.drop i)=.ptr [f.cv,nU (env.drop (i+1))]:=by
 obtain⟨hlt,he⟩:=List.getElem?_eq_some_iff.1 h
 rw[aY hlt,he,nU]
theorem HY(env:List Fr)(u:Nat)(hu:u<env.length)(hl:env.length<1000000):∀(k i:Nat),i+k=u->Cg [nU (env.drop i),.v (.int .i64 (u:Int)),.v (.int .i64 (i:Int))] [] (jX 1 [nU (env.drop u)] [])
 |
  0,i,hi=>by
  refine CE _ _ _ ?_
  have:i=u:=by omega
  subst this
  simp only[Ax,↓zq,zs,ag,ek]
  exact⟨fun h=>by omega,fun _=>by simp[jX]⟩
 |
  k+1,i,hi=>by
  refine CE _ _ _ ?_
  have hlt:i<env.length:=by omega
  have hg:env[i]?=some env[i]:=bg hlt
  have hd:=tp env i _ hg
  rw[hd]
  simp only[Ax,↓zq,zs,ag,ek]
  refine⟨fun _=>⟨by omega,?_⟩,fun h=>by omega⟩
  rw[bS i (by omega)]
  exact HY env u hu hl k (i+1) (by omega)
theorem Qc(env:List Fr)(u:Nat)(f:Fr)(hf:env[u]?=some f)(hl:env.length<1000000):an Tryz.prog 121 [.agg [(Ty.bound u).av,nU env]] [] (bB f.cv):=by
 refine IG _ _ ((aF _).mpr trivial) ((ek _).mpr trivial) ?_
 obtain⟨hlt,he⟩:=List.getElem?_eq_some_iff.1 hf
 simp only[GJ,Ty.av,↓zq,zs,ag]
 refine⟨by omega,?_⟩
 have h:=HY env u hlt hl u 0 (by omega)
 simp only[bG]at h
 refine cX h ?_
 rw[tp env u f hf]
 simp only[↓zq,zs,ag,Aj,bB]
 omega
theorem DO(k:Nat)(h:k<100):Lib.atoi (dd k)=some (k:Int):=by
 have e:∀k,k<100->dd k=if k<10 then [a8 (48+k)]else [a8 (48+k/10),a8 (48+k%10)]:=by
  intro k hk
  by_cases h1:k<10
  ·rw[ez h1,if_pos h1]
  ·rw[fe h1,ez (by omega),if_neg h1];rfl
 have key:∀k:Fin 100,Lib.atoi (if k.val<10 then [a8 (48+k.val)]else [a8 (48+k.val/10),a8 (48+k.val%10)])=some (k.val:Int):=by decide +kernel
 rw[e k h];exact key ⟨k,h⟩
theorem Pv(k:Nat)(hk:k<100):an Tryz.prog 120 [.v (.string (mk (dd k)))] [] (bB (.cy [.v (.int .i64 (k:Int)),.v .nilIface])):=by
 have hl:=iw 1000 k (by omega)
 have hl2:(dd k).length<=18:=by
  have e:(dd k).length<=2:=by
   by_cases h1:k<10
   ·rw[ez h1];simp
   ·rw[fe h1,ez (by omega)];simp
  omega
 refine an.Qm (xs:=[.string (mk (dd k))]) (v:=.tuple #[.int .i64 (k:Int),.nilIface]) ⟨qg,by kernel_rfl,by kernel_rfl,by kernel_rfl⟩ (fun M=>?_) fun w=>?_
 ·refine bx.cy _ _ [.int .i64 (k:Int),.nilIface] rfl fun i hi=>?_
  match i,hi with
  |0,_=>exact .v _ _
  |1,_=>exact .v _ _
 ·have:=Any.strconv_Atoi Tryz.Dh (mk (dd k)) (k:Int) (by rw[cq];exact hl2) (by
   have:(mk (dd k)).data.toList=dd k:=by simp[mk]
   rw[this];exact DO k hk) w
  refine Calls.mono this fun e w' ⟨h1,t,h2⟩=>⟨h1,?_⟩
  subst h2
  refine⟨rfl,rfl,rfl,?_,fun b hb=>Lib.bytesWorld_at_old _ _ _ _ hb⟩
  simp[Lib.bytesWorld,World.freeze]
end Go.Proofs.Trees
namespace Go.Proofs.Trees
open Go Go.VL Go.RowKit
theorem fQ{a b:Ty}(h:bW (.plus a b)=false):bW a=false/\bW b=false:=by simpa[bW]using h
theorem fu{a b:Ty}(h:bW (.times a b)=false):bW a=false/\bW b=false:=by simpa[bW]using h
theorem fL{e:E}{ar:List (List UInt8)}{t:Ty}(ht:cY e ar=some t)(hb:t.Nr=false)(hf:bW t=false) :
 (e=.atom [48]/\t=.zero)\/(e=.atom [49]/\t=.one)\/(∃s,e=.atom s/\t=.name s/\iq s=true/\s≠[48]/\s≠[49]) ∨
 (∃x a b t1 t2,e=.list [x,a,b]/\x.at=[43]/\t=.plus t1 t2/\cY a ar=some t1/\cY b ar=some t2) ∨
 (∃x a b t1 t2,e=.list [x,a,b]/\x.at=[42]/\t=.times t1 t2/\cY a ar=some t1/\cY b ar=some t2) ∨
 (∃x a b t1,e=.list [x,a,b]/\x.at=[114,101,99]/\t=.rc t1):=by
 cases e with
 |
  list l =>
  match l,ht with
  |
   [x,a,b],ht =>
   by_cases h0:x.at=[43]
   ·obtain⟨t1,t2,h1,h2,rfl⟩:=fZ h0 ht
    exact .inr (.inr (.inr (.inl ⟨x,a,b,t1,t2,rfl,h0,rfl,h1,h2⟩)))
   ·by_cases h1:x.at=[42]
    ·obtain⟨t1,t2,h3,h2,rfl⟩:=fG h1 ht
     exact .inr (.inr (.inr (.inr (.inl ⟨x,a,b,t1,t2,rfl,h1,rfl,h3,h2⟩))))
    ·by_cases h2:x.at=[114,101,99]
     ·obtain⟨t1,_,_,rfl⟩:=dU h2 ht
      exact .inr (.inr (.inr (.inr (.inr ⟨x,a,b,t1,rfl,h2,rfl⟩))))
     ·rw[ji _ h0 h1 h2]at ht;cases ht
  |[],ht=>cases ht
  |[_],ht=>cases ht
  |[_,_],ht=>cases ht
  |_::_::_::_::_,ht=>cases ht
 |
  atom s =>
  simp only[cY]at ht
  split at ht
  ·rename_i h;cases ht;subst h;exact .inl ⟨rfl,rfl⟩
  ·rename_i h0
   split at ht
   ·rename_i h;cases ht;subst h;exact .inr (.inl ⟨rfl,rfl⟩)
   ·rename_i h1
    split at ht
    ·rename_i h;cases ht;exact .inr (.inr (.inl ⟨s,rfl,rfl,h,h0,h1⟩))
    ·split at ht
     ·rename_i h
      split at ht
      ·cases ht;cases hb
      ·cases ht;simp only[bW]at hf;rw[h]at hf;cases hf
     ·cases ht
def qc(n:Nat)(v:Vl)(e:E)(env:List Fr)(t:Ty):Prop:=an Tryz.prog 63 [.agg [t.av,nU env],v.cv,.v (.int .i64 (n:Int))] [] (bB (.v (.bool (fA n v (e,env)))))
structure Ask(e:E)(env:List Fr)(t:Ty):Prop where
 ok:e.ok
 wf:WF env
 ty:cY e (names env)=some t
 cl:bW t=false
theorem Kq(n:Nat)(hn:n<=100)(v:Vl)(hv:v.gX 100)(IH:∀w:Vl,w.nodes<v.nodes->w.gX 100->∀e env t,Ask e env t->env.length+w.nodes<100000->qc n w e env t)
 (e:E) (env:List Fr) (t:Ty) (A:Ask e env t) (hl:env.length+v.nodes<100000) (hb:t.Nr=false) (hh:findF e.at env=none):qc n v e env t:=by
 have hhd:hd e env=(e,env):=lG hh
 unfold qc
 refine MD _ _ _ _ ((aF _).mpr trivial) ((ek _).mpr trivial) ((aM _).mpr trivial) ?_
 rcases fL A.ty hb A.cl with⟨rfl,rfl⟩|⟨rfl,rfl⟩|⟨s,rfl,rfl,hp,h0,h1⟩|⟨x,a,b,t1,t2,rfl,hx,rfl,ha,hbb⟩|⟨x,a,b,t1,t2,rfl,hx,rfl,ha,hbb⟩|⟨x,a,b,t1,rfl,hx,rfl⟩
 ·have hp0:iq [48]=false:=rfl
  cases v<;>simp[zY,Ty.av,↓zq,zs,ag,bB,fA,hhd,hp0]
 ·have hp0:iq [49]=false:=rfl
  cases v<;>simp[zY,Ty.av,Vl.cv,↓zq,zs,ag,bB,fA,hhd,hp0]
 ·have h1':(s==[49])=false:=by simpa using h1
  cases v with
  |
   el k =>
   have hk:k<100:=hv
   simp only[zY,Ty.av,Vl.cv,↓zq,zs,ag,zt]
   refine⟨by omega,fun h=>by omega,fun _=>⟨fun _=>⟨by omega,fun h=>absurd rfl h,fun _=>⟨by omega,by omega,?_⟩⟩,fun h=>absurd rfl h⟩⟩
   have e1:(List.take ((dd k).length+1) (wo k)).drop (bq 1)=dd k:=by simp[wo]
   rw[e1]
   refine ak (Pv k hk) ?_
   simp only[↓zq,zs,ag,bB,fA,hhd,h1',hp,zf]
   refine⟨rfl,?_⟩
   congr 2
   rw[cF];simp
  |
   _ =>
   simp only[zY,Ty.av,Vl.cv,↓zq,zs,ag,zt,fA,hhd,h1',bB]
   exact⟨by omega,fun h=>by omega,fun _=>⟨fun _=>⟨by omega,fun _=>trivial,fun h=>by omega⟩,fun h=>absurd rfl h⟩⟩
 ·have hok:=A.ok
  obtain⟨ok1,ok2,ok3,_⟩:=hok
  obtain⟨f1,f2⟩:=fQ A.cl
  cases v with
  |
   l w =>
   simp only[Vl.nodes]at hl
   simp only[zY,Ty.av,Vl.cv,↓zq,zs,ag]
   refine⟨by omega,fun h=>by omega,fun _=>⟨fun h=>by omega,fun _=>⟨fun h=>by omega,fun _=>⟨fun _=>⟨by omega,fun _=>?_,fun h=>absurd rfl h⟩,fun h=>absurd rfl h⟩⟩⟩⟩
   refine ak (yY _ _ _ _ _ _ ((aF _).mpr trivial) ((ek _).mpr trivial)) ?_
   simp only[↓zq,zs,ag,bF,aF,ek,aM]
   refine⟨by omega,?_⟩
   refine ak (IH w (by simp only[Vl.nodes];omega) hv a env t1 ⟨ok2,A.wf,ha,f1⟩ (by omega)) ?_
   simp only[↓zq,zs,ag,bB,fA,hhd,hx]
   refine⟨fun h=>?_,fun h=>⟨by omega,fun h=>by omega,fun _=>?_⟩⟩
   ·simp[h]
   ·simp[h]
  |
   r w =>
   simp only[Vl.nodes]at hl
   simp only[zY,Ty.av,Vl.cv,↓zq,zs,ag]
   refine⟨by omega,fun h=>by omega,fun _=>⟨fun h=>by omega,fun _=>⟨fun h=>by omega,fun _=>⟨fun _=>⟨by omega,fun h=>by omega,fun _=>⟨by omega,fun _=>?_,fun h=>absurd rfl h⟩⟩,fun h=>absurd rfl h⟩⟩⟩⟩
   refine ak (zI _ _ _ _ _ _ ((aF _).mpr trivial) ((ek _).mpr trivial)) ?_
   simp only[↓zq,zs,ag,bF,aF,ek,aM]
   refine⟨by omega,?_⟩
   refine ak (IH w (by simp only[Vl.nodes];omega) hv b env t2 ⟨ok3,A.wf,hbb,f2⟩ (by omega)) ?_
   simp[↓zq,zs,ag,bB,fA,hhd,hx]
  |
   _ =>
   simp only[zY,Ty.av,Vl.cv,↓zq,zs,ag,fA,hhd,bB]
   exact⟨by omega,fun h=>by omega,fun _=>⟨fun h=>by omega,fun _=>⟨fun h=>by omega,fun _=>⟨fun _=>⟨by omega,fun h=>by omega,fun _=>⟨by omega,fun h=>by omega,fun _=>by simp[hx]⟩⟩,fun h=>absurd rfl h⟩⟩⟩⟩
 ·have hok:=A.ok
  obtain⟨ok1,ok2,ok3,_⟩:=hok
  obtain⟨f1,f2⟩:=fu A.cl
  cases v with
  |
   p v w =>
   simp only[Vl.nodes]at hl
   simp only[zY,Ty.av,Vl.cv,↓zq,zs,ag]
   refine⟨by omega,fun h=>by omega,fun _=>⟨fun h=>by omega,fun _=>⟨fun h=>by omega,fun _=>⟨fun h=>by omega,fun _=>⟨fun _=>⟨by omega,fun _=>?_,fun h=>absurd rfl h⟩,fun h=>absurd rfl h⟩⟩⟩⟩⟩
   refine ak (yY _ _ _ _ _ _ ((aF _).mpr trivial) ((ek _).mpr trivial)) ?_
   simp only[↓zq,zs,ag,bF,aF,ek,aM]
   refine⟨by omega,?_⟩
   refine ak (IH v (by simp only[Vl.nodes];omega) hv.1 a env t1 ⟨ok2,A.wf,ha,f1⟩ (by omega)) ?_
   simp only[↓zq,zs,ag,bB,fA,hhd,hx]
   refine⟨fun h=>?_,fun h=>?_⟩
   ·refine ak (zI _ _ _ _ _ _ ((aF _).mpr trivial) ((ek _).mpr trivial)) ?_
    simp only[↓zq,zs,ag,bF,aF,ek,aM]
    refine⟨by omega,?_⟩
    refine ak (IH w (by simp only[Vl.nodes];omega) hv.2 b env t2 ⟨ok3,A.wf,hbb,f2⟩ (by omega)) ?_
    simp[↓zq,zs,ag,h]
   ·simp[h]
  |
   _ =>
   simp only[zY,Ty.av,Vl.cv,↓zq,zs,ag,fA,hhd,bB]
   exact⟨by omega,fun h=>by omega,fun _=>⟨fun h=>by omega,fun _=>⟨fun h=>by omega,fun _=>⟨fun h=>by omega,fun _=>⟨fun _=>⟨by omega,fun h=>by omega,fun _=>by simp[hx]⟩,fun h=>absurd rfl h⟩⟩⟩⟩⟩
 ·obtain⟨t1',he1,h1,f1,hw1⟩:=jJ A.wf A.ok hx A.ty A.cl
  cases he1
  have hok:=A.ok
  obtain⟨ok1,ok2,ok3,_⟩:=hok
  have htD:ym (.list [x,a,b]) env=.rc t1:=by rw[ym,A.ty];rfl
  have hin:=Rd t1 env a.at (.list [x,a,b]) htD
  simp only[Ty.av]at hin
  simp only[zY,Ty.av,↓zq,zs,ag]
  refine⟨by omega,fun h=>by omega,fun _=>⟨fun h=>by omega,fun _=>⟨fun h=>by omega,fun _=>⟨fun h=>by omega,fun _=>⟨fun h=>by omega,fun _=>⟨fun _=>?_,fun h=>absurd rfl h⟩⟩⟩⟩⟩⟩
  refine ak hin ?_
  simp only[↓zq,zs,ag,bF,aF,ek,Aj,aM,e9]
  cases v with
  |
   f w =>
   simp only[Vl.nodes]at hl
   simp only[Vl.cv,↓zq,zs,ag,aM]
   refine⟨by omega,fun _=>⟨by omega,?_⟩,fun h=>absurd rfl h⟩
   refine ak (IH w (by simp only[Vl.nodes];omega) hv b (.mk a.at (.list [x,a,b]) env::env) t1 ⟨ok3,hw1,h1,f1⟩ (by simp;omega)) ?_
   simp[↓zq,zs,ag,bB,fA,hhd,hx]
  |
   _ =>
   simp only[Vl.cv,↓zq,zs,ag,fA,hhd,bB]
   exact⟨by omega,fun h=>by omega,fun _=>by simp[hx]⟩
theorem KF(n:Nat)(hn:n<=100):∀(m:Nat) (v:Vl),v.nodes<m->v.gX 100->∀e env t,Ask e env t->env.length+v.nodes<100000->qc n v e env t
 |0,v,h,_=>by omega
 |
  m+1,v,h,hv=>by
  intro e env t A hl
  have IH:∀w:Vl,w.nodes<v.nodes->w.gX 100->∀e env t,Ask e env t->env.length+w.nodes<100000->qc n w e env t:=fun w hw hb=>KF n hn m w (by omega) hb
  rcases hG A.wf A.ty with⟨hb,hh⟩|⟨u,f,rfl,hh,hu⟩
  ·exact Kq n hn v hv IH e env t A hl hb hh
  ·obtain⟨x,a,b,t',hfe,hok,hx,ht',hf',hwf,hlt⟩:=nV A.wf hh
   obtain⟨t1,hl1,h1,rfl⟩:=dU hx (hfe ▸ ht')
   have hvis:fA n v (e,env)=fA n v (f.ex,f.out):=ue n v (qM hh) (by rw[hfe];exact oX hwf)
   unfold qc
   refine MD _ _ _ _ ((aF _).mpr trivial) ((ek _).mpr trivial) ((aM _).mpr trivial) ?_
   have hbd:=Qc env u f hu (by omega)
   simp only[Ty.av]at hbd
   simp only[zY,Ty.av,↓zq,zs,ag]
   refine⟨by omega,fun h=>by omega,fun _=>⟨fun h=>by omega,fun _=>⟨fun _=>?_,fun h=>absurd rfl h⟩⟩⟩
   refine ak hbd ?_
   cases f with
   |
    mk s ee oo =>
    simp only[Fr.ex,Fr.out]at hfe ht' hf' hwf hvis hlt
    have htD:ym ee oo=.rc t1:=by rw[ym,ht'];rfl
    simp only[Fr.cv,htD,↓zq,zs,ag,bF,aF,ek]
    refine⟨by omega,?_⟩
    have hs:=Kq n hn v hv IH ee oo (.rc t1) ⟨by rw[hfe];exact hok,hwf,ht',hf'⟩ (by omega) rfl (by rw[hfe];exact mQ hwf)
    unfold qc at hs
    refine ak hs ?_
    simp[↓zq,zs,ag,bB,hvis]
end Go.Proofs.Trees
namespace Go.Proofs.Trees
open Go Go.VL Go.RowKit
theorem sI:∀(env:List Fr) (k:Nat) (f:Fr),env[k]?=some f->(jZ env).getD (env.length-1-k) []=f.cells
 |[],k,f,h=>by cases h
 |
  g::r,0,f,h=>by
  cases h
  have:(g::r).length-1-0=(jZ r).length:=by simp[kC]
  rw[this,jZ];simp[aa]
 |
  g::r,k+1,f,h=>by
  have h':r[k]?=some f:=by simpa using h
  have hlt:=(List.getElem?_eq_some_iff.1 h').1
  have e:(g::r).length-1-(k+1)=r.length-1-k:=by simp;omega
  have:=sI r k f h'
  rw[e,jZ,aa,List.getElem?_append_left (by rw[kC];omega),<-aa]
  exact this
theorem rM(f:Fr):f.cells=[.v (.string (mk f.nm)),.v (.string (mk f.ex.at)),f.ex.sp,.sl (jZ f.out)]:=by cases f;rfl
theorem Lc(e:E)(env:List Fr)(hl:env.length<1000000):∀(j k:Nat),k+j=env.length->E2 [.sl (jZ env),.v (.int .i64 ((env.length:Int)-1-(k:Int)))] [.cells [.v (.string (mk e.at)),e.sp],.cells [.v (.string (mk [])),.v (.slice none 0 0)]]
 (pk (match findF e.at (env.drop k)with|some f=>(2,[.sl (jZ f.out)],[.cells [.v (.string (mk f.ex.at)),f.ex.sp]])|none=>(1,[.sl (jZ env)],[.cells [.v (.string (mk e.at)),e.sp],.cells [.v (.string (mk [])),.v (.slice none 0 0)]])))
 |
  0,k,hk=>by
  refine Kr _ _ _ _ _ _ ?_
  have hd:env.drop k=[]:=bP (by omega)
  simp only[Fl,↓zq,zs,ag,bh,hd,findF]
  exact⟨fun h=>by omega,fun _=>by first|trivial|rfl⟩
 |
  j+1,k,hk=>by
  refine Kr _ _ _ _ _ _ ?_
  have hlt:k<env.length:=by omega
  have hg:env[k]?=some env[k]:=bg hlt
  have hc:=sI env k _ hg
  have e1:((env.length:Int)-1-(k:Int))=((env.length-1-k:Nat):Int):=by omega
  have hdr:env.drop k=env[k]::env.drop (k+1):=aY hlt
  rw[hdr,findF,e1]
  simp only[Fl,bR,hc,rM,↓zq,zs,ag,zt,bh,kC,bF]
  refine⟨fun _=>⟨by omega,by omega,fun h=>⟨by omega,by omega,by omega,by omega,?_⟩,fun h=>?_⟩,fun h=>by omega⟩
  ·rw[if_pos h]
  ·rw[if_neg h]
   have e2:IntKind.wrap .i64 (((env.length-1-k:Nat):Int)-1)=(env.length:Int)-1-((k+1:Nat):Int):=by
    have:IntKind.wrap .i64 (((env.length-1-k:Nat):Int)-1)=((env.length-1-k:Nat):Int)-1:=wrap64 _ (by omega) (by omega)
    omega
   rw[e2]
   exact Lc e env hl j (k+1) (by omega)
theorem Rc(e:E)(env:List Fr)(hl:env.length<1000000):an Tryz.prog 212 [e.kj,.sl (jZ env)] [] (bB (.cy [(hd e env).1.kj,.sl (jZ (hd e env).2)])):=by
 rw[dA e]
 refine OW _ _ _ ((bh _).mpr trivial) ((ck _).mpr trivial) ?_
 simp only[Ik,↓zq,zs,ag,kC,bB]
 have h:=Lc e env hl env.length 0 (by omega)
 simp only[bG]at h
 rw[wrap64 _ (by omega) (by omega)]
 rw[show (env.length:Int)-1-((0:Nat):Int)=(env.length:Int)-1 by omega]at h
 refine fH h (fun ys o e'=>?_) (fun ys o e'=>?_)
 ·unfold hd
  cases hq:findF e.at env<;>rw[hq]at e'<;>cases e'
  simp only[↓zq,zs,ag,zt,bh,dA]
 ·unfold hd
  cases hq:findF e.at env<;>rw[hq]at e'<;>cases e'
  simp only[↓zq,zs,ag,zt,bh,dA]
theorem p7:∀env:List Fr,cV 4 (jZ env)
 |[]=>fun c hc=>by cases hc
 |
  f::r=>fun c hc=>by
  simp only[jZ,aK,aS]at hc
  rcases hc with hc|rfl
  ·exact p7 r c hc
  ·rw[rM];rfl
theorem N1(x a b:E)(env:List Fr)(hl:env.length<1000000):an Tryz.prog 214 [(E.list [x,a,b]).kj,.sl (jZ env)] [] (bB (.cy [b.kj,.sl (jZ (.mk a.at (.list [x,a,b]) env::env))])):=by
 refine OJ _ _ _ ((ck _).mpr trivial) ((ck _).mpr trivial) ?_
 simp only[LC,E.bo,toNat_one,bw,↓zq,zs,ag,zt,iB,fU,iE,mw,aw,kC,bB,aT]
 refine⟨by omega,⟨p7 env,by omega⟩,by omega,by omega,⟨fun c hc=>(by simp at hc;rw[hc];rfl),by omega⟩,?_⟩
 simp only[jZ,rM,Fr.nm,Fr.ex,Fr.out,E.at,E.sp,E.bo]
theorem Dy(s:ByteArray)(e:E):bF [.str,.sl] [.v (.string s),e.sp] 0=True:=by apply eq_true;simp[bF,eh,bh]
theorem GP{e:E}{env:List Fr}{t:Ty}(A:Ask e env t):∃e' o t',hd e env=(e',o)/\Ask e' o t'/\t'.Nr=false/\hd e' o=(e',o)/\o.length<=env.length:=by
 rcases hG A.wf A.ty with⟨hb,hh⟩|⟨u,f,rfl,hh,hu⟩
 ·exact⟨e,env,t,lG hh,A,hb,lG hh,aw _⟩
 ·obtain⟨x,a,b,t',hfe,hok,hx,ht',hf',hwf,hlt⟩:=nV A.wf hh
  refine⟨f.ex,f.out,t',qM hh,⟨by rw[hfe];exact hok,hwf,ht',hf'⟩,?_,?_,by omega⟩
  ·obtain⟨t1,_,_,rfl⟩:=dU hx (hfe ▸ ht');rfl
  ·rw[hfe];exact oX hwf
def vh:Vl->List UInt8
 | .l _=>[108]
 | .r _=>[114]
 | .f _=>[102]
 | .p _ _=>[112]
 |_=>[]
theorem Dp(v:Vl):an Tryz.prog 104 [v.dG.kj] [] (bB (.v (.string (mk (vh v))))):=by
 cases v with
 |u=>exact zd _ _ ((bj).mpr trivial) (by simp)
 |el k=>exact zd _ _ ((bj).mpr trivial) (by simp)
 |l v=>exact uM _ _
 |r v=>exact uM _ _
 |f v=>exact uM _ _
 |p v w=>exact uM _ _
theorem Rz(v:Vl)(hv:v.gX 100):v.dG.at=(match v with| .u=>[117]| .el k=>wo k|_=>[])/\BC v.dG.at=(match v with| .el k=>(k:Int)|_=>-1):=by
 cases v with
 |el k=>exact⟨rfl,Hw k hv⟩
 |u=>exact⟨rfl,rfl⟩
 |_=>exact⟨rfl,rfl⟩
theorem zv(n:Nat)(hn:n<=100):∀(m:Nat) (v:Vl),v.nodes<m->v.gX 100->∀e env t,Ask e env t->env.length+v.nodes<100000->an Tryz.prog 169 [e.kj,.sl (jZ env),v.dG.kj,.v (.int .i64 (n:Int))] [] (bB (.v (.bool (fA n v (e,env)))))
 |0,v,hm,hv,e,env,t,A,hl=>by omega
 |
  m+1,v,hm,hv,e,env,t,A,hl=>by
  obtain⟨e',o,t',hhd,A',hb,hh',hlen⟩:=GP A
  rw[ue n v hhd hh',dA e,dA v.dG]
  refine P5 _ _ _ _ _ _ ((bh _).mpr trivial) ((ck _).mpr trivial) ((bh _).mpr trivial) ?_
  have hf:=Rc e env (by omega)
  rw[dA e,hhd]at hf
  have hvh:=Dp v
  rw[dA]at hvh
  unfold Jv
  refine ak hf ?_
  simp only[dA e',↓zq,zs,ag,zt,bh,Dy,bB]
  rcases fL A'.ty hb A'.cl with⟨rfl,rfl⟩|⟨rfl,rfl⟩|⟨s,rfl,rfl,hp,h0,h1⟩|⟨x,a,b,t1,t2,rfl,hx,rfl,ha,hbb⟩|⟨x,a,b,t1,t2,rfl,hx,rfl,ha,hbb⟩|⟨x,a,b,t1,rfl,hx,rfl⟩
  ·refine⟨fun _=>⟨fun h=>by simp[E.at]at h,fun _=>ak (Hi _) ?_⟩,fun h=>by simp[E.at]at h⟩
   have hp0:iq (E.atom [48]).at=false:=rfl
   have hp1:iq [48]=false:=rfl
   cases v<;>simp[↓zq,zs,ag,hp0,fA,hh',hp1]
  ·refine⟨fun _=>⟨fun _=>?_,fun h=>absurd rfl h⟩,fun h=>by simp[E.at]at h⟩
   have hp1:iq [49]=false:=rfl
   cases v<;>simp[fA,hh',hp1,Vl.dG,E.at]
  ·have hne:s≠[]:=A'.ok
   have h1':(s==[49])=false:=by simpa using h1
   refine⟨fun _=>⟨fun h=>absurd h h1,fun _=>ak (Hi _) ?_⟩,fun h=>absurd h hne⟩
   have hat:(E.atom s).at=s:=rfl
   simp only[hat,hp,↓zq,zs,ag]
   refine⟨fun _=>ak (KO _) ?_,fun h=>by cases h⟩
   simp only[↓zq,zs,ag]
   rw[wrap64 _ (by omega) (by omega)]
   refine ak (C3 _ _ _) ?_
   simp only[↓zq,zs,ag,Ef,(Rz v hv).2]
   cases v with
   |
    el k =>
    simp only[fA,hh',h1',hp,zf]
    congr 2
    rw[cF];simp;omega
   |_=>simp[fA,hh',h1']
  ·have hok:=A'.ok
   obtain⟨ok1,ok2,ok3,_⟩:=hok
   obtain⟨f1,f2⟩:=fQ A'.cl
   refine⟨fun h=>absurd rfl h,fun _=>ak (uM x [a,b]) ?_⟩
   simp only[↓zq,zs,ag]
   refine ak hvh ?_
   rw[hx]
   cases v with
   |
    l w =>
    simp only[Vl.nodes]at hl
    simp only[vh,Vl.dG,E.sp,E.bo,toNat_one,bw,↓zq,zs,ag,zt,iB,fU,iE,mw,aw]
    refine⟨by simp,fun _=>⟨by omega,by omega,ak (zv n hn m w (by simp only[Vl.nodes]at hm;omega) hv a o t1 ⟨ok2,A'.wf,ha,f1⟩ (by omega)) ?_⟩,fun h=>absurd rfl h⟩
    simp[↓zq,zs,ag,fA,hh',hx]
   |
    r w =>
    simp only[Vl.nodes]at hl
    simp only[vh,Vl.dG,E.sp,E.bo,toNat_one,bw,↓zq,zs,ag,zt,iB,fU,iE,mw,aw]
    refine⟨by simp,fun h=>by simp at h,fun _=>⟨fun _=>⟨by omega,by omega,ak (zv n hn m w (by simp only[Vl.nodes]at hm;omega) hv b o t2 ⟨ok3,A'.wf,hbb,f2⟩ (by omega)) ?_⟩,fun h=>absurd rfl h⟩⟩
    simp[↓zq,zs,ag,fA,hh',hx]
   |_=>simp[vh,↓zq,zs,ag,zt,fA,hh',hx]
  ·have hok:=A'.ok
   obtain⟨ok1,ok2,ok3,_⟩:=hok
   obtain⟨f1,f2⟩:=fu A'.cl
   refine⟨fun h=>absurd rfl h,fun _=>ak (uM x [a,b]) ?_⟩
   simp only[↓zq,zs,ag]
   refine ak hvh ?_
   rw[hx]
   cases v with
   |
    p w z =>
    simp only[Vl.nodes]at hl
    simp only[vh,Vl.dG,E.sp,E.bo,toNat_one,bw,↓zq,zs,ag,zt,iB,fU,iE,mw,aw]
    refine⟨by simp,fun h=>by simp at h,fun _=>⟨fun h=>by simp at h,fun _=>⟨fun _=>⟨by omega,by omega,ak (zv n hn m w (by simp only[Vl.nodes]at hm;omega) hv.1 a o t1 ⟨ok2,A'.wf,ha,f1⟩ (by omega)) ?_⟩,fun h=>absurd rfl h⟩⟩⟩
    simp only[↓zq,zs,ag,fA,hh',hx]
    refine⟨fun h=>⟨by omega,by omega,ak (zv n hn m z (by simp only[Vl.nodes]at hm;omega) hv.2 b o t2 ⟨ok3,A'.wf,hbb,f2⟩ (by omega)) ?_⟩,fun h=>?_⟩
    ·simp[↓zq,zs,ag,h]
    ·simp[h]
   |_=>simp[vh,↓zq,zs,ag,zt,fA,hh',hx]
  ·obtain⟨t1',he1,h1,f1,hw1⟩:=jJ A'.wf A'.ok hx A'.ty A'.cl
   cases he1
   have hok:=A'.ok
   obtain⟨ok1,ok2,ok3,_⟩:=hok
   refine⟨fun h=>absurd rfl h,fun _=>ak (uM x [a,b]) ?_⟩
   simp only[↓zq,zs,ag]
   refine ak hvh ?_
   rw[hx]
   cases v with
   |
    f w =>
    simp only[Vl.nodes]at hl
    simp only[vh,Vl.dG,E.sp,E.bo,toNat_one,bw,↓zq,zs,ag,zt,iB,fU,iE,mw,aw]
    refine⟨by simp,fun h=>by simp at h,fun _=>⟨fun h=>by simp at h,fun _=>⟨fun h=>by simp at h,fun _=>⟨fun _=>ak (N1 x a b o (by omega)) ?_,fun h=>absurd rfl h⟩⟩⟩⟩
    simp only[↓zq,zs,ag,xJ,Ec]
    refine⟨by omega,ak (zv n hn m w (by simp only[Vl.nodes]at hm;omega) hv b (.mk a.at (.list [x,a,b]) o::o) t1 ⟨ok3,hw1,h1,f1⟩ (by simp;omega)) ?_⟩
    simp[↓zq,zs,ag,fA,hh',hx]
   |_=>simp[vh,↓zq,zs,ag,zt,fA,hh',hx]
theorem O7(n:Nat)(hn:n<=100)(v:Vl)(hv:v.gX 100)(e:E)(env:List Fr)(t:Ty)(A:Ask e env t)(hl:env.length+v.nodes<100000):an Tryz.prog 169 [e.kj,.sl (jZ env),v.dG.kj,.v (.int .i64 (n:Int))] [] (bB (.v (.bool (fA n v (e,env))))):=zv n hn (v.nodes+1) v (by omega) hv e env t A hl
end Go.Proofs.Trees
namespace Go.Proofs.Trees
open Go Go.VL Go.RowKit
theorem Jw(l:List (List UInt8))(a:AV)(ha:cw a l)(s:List UInt8)(hl:l.length<1000000):∀(k i:Nat),i+k=l.length->Fh [a,.v (.string (mk s)),.v (.int .i64 (i:Int))] []
 (pk (if s∈l.drop i then(2,[.v (.bool true)],[])else(1,[],[])))
 |
  0,i,hi=>by
  refine Ka _ _ _ ?_
  have hd:l.drop i=[]:=bP (by omega)
  simp only[FI,↓zq,zs,ag,hd,ha.len]
  exact⟨ha.1,ha.1,fun h=>by omega,fun _=>by simp[pk]⟩
 |
  k+1,i,hi=>by
  have hlt:i<l.length:=by omega
  have hdr:l.drop i=l.getD i []::l.drop (i+1):=by
   rw[aY hlt];simp[aa,hlt]
  refine Ka _ _ _ ?_
  simp only[FI,↓zq,zs,ag,zt,ha.len,ha.idx hlt]
  refine⟨ha.1,ha.1,fun _=>⟨⟨ha.1,by omega,by omega⟩,by omega,fun h=>?_,fun h=>?_⟩,fun h=>by omega⟩
  ·rw[hdr,h];simp[pk]
  ·rw[bS i (by omega)]
   have:=Jw l a ha s hl k (i+1) (by omega)
   have e:s∈l.drop i↔s∈l.drop (i+1):=by
    rw[hdr,aH];exact⟨fun q=>q.resolve_left (fun q=>h q.symm),.inr⟩
   simp only[e];exact this
theorem wv(l:List (List UInt8))(a:AV)(ha:cw a l)(s:List UInt8)(hl:l.length<1000000):an Tryz.prog 153 [a,.v (.string (mk s))] [] (bB (.v (.bool (decide (s∈l))))):=by
 refine Oa _ _ ha.1 ?_
 unfold Kj
 refine fH (Jw l a ha s hl l.length 0 (by omega)) (fun ys o e=>?_) (fun ys o e=>?_)
 ·simp only[bG]at e
  split at e<;>cases e
  rename_i h
  simp[↓zq,zs,ag,bB,h]
 ·simp only[bG]at e
  split at e<;>cases e
  rename_i h
  simp[↓zq,zs,ag,bB,h]
theorem zg(l:List (List UInt8))(a:AV)(ha:cw a l)(s:List UInt8)(hl:l.length<1000000):an Tryz.prog 150 [a,.v (.string (mk s))] [] (cK (.vec 0) [.vec 1 (bn (l++[s]))]):=by
 refine P1 _ _ ha.1 ?_
 simp only[Jh,↓zq,zs,ag,ha.2,cK,aT]
 have:(bn l).length=l.length:=by simp[bn]
 refine⟨⟨ha.1,j9 l,by omega⟩,⟨fun c hc=>(by simp at hc;rw[hc];rfl),by omega⟩,?_⟩
 first|exact⟨rfl,by rw[Ez]⟩|rw[Ez]
def j1:E->List (List UInt8)->List (List UInt8)->List (List UInt8)
 | .atom s,bd,l=>if s=[48]\/s=[49]\/s∈bd\/s∈l then l else l++[s]
 | .list [x,a,b],bd,l=>if x.at=[114,101,99]then j1 b (bd++[a.at]) l else j1 b bd (j1 a bd l)
 | .list _,_,l=>l
theorem fP:∀(e:E) (bd l:List (List UInt8)),(j1 e bd l).length<=l.length+e.sz
 | .atom s,bd,l=>by rw[j1];split<;>simp[E.sz]
 | .list [],bd,l=>by simp[j1]
 | .list [_],bd,l=>by simp[j1]
 | .list [_,_],bd,l=>by simp[j1]
 | .list (_::_::_::_::_),bd,l=>by simp[j1]
 |
  .list [x,a,b],bd,l=>by
  rw[j1]
  simp only[E.sz,E.iY]
  split
  ·have:=fP b (bd++[a.at]) l;omega
  ·have:=fP a bd l
   have:=fP b bd (j1 a bd l)
   omega
theorem CB:∀(e:E) (bd l:List (List UInt8)) (a:AV),e.ok->jR e=true->cw a bd->bd.length+l.length+e.sz<100000->an Tryz.prog 102 [e.kj,a,.vec 0] [.vec 1 (bn l)] (cK (.vec 1) [.dead,.vec 1 (bn (j1 e bd l))])
 |
  .atom s,bd,l,a,hok,hty,ha,hl=>by
  simp only[E.sz]at hl
  refine yT _ _ _ _ ((bj).mpr trivial) ha.1 ?_
  have hne:s≠[]:=hok
  have hll:(bn l).length=l.length:=by simp[bn]
  simp only[wE,↓zq,zs,ag,zt,cK,j1]
  refine⟨fun _=>⟨fun h=>?_,fun h=>⟨fun h1=>?_,fun h1=>?_⟩⟩,fun h=>absurd h hne⟩
  ·rw[if_pos (.inl h)]
  ·rw[if_pos (.inr (.inl h1))]
  ·refine ak (wv bd a ha s (by omega)) ?_
   simp only[↓zq,zs,ag]
   refine⟨fun h2=>?_,fun h2=>ak (wv l _ (.of l) s (by omega)) ?_⟩
   ·rw[if_pos (.inr (.inr (.inl h2)))]
   ·simp only[↓zq,zs,ag]
    refine⟨fun h3=>?_,fun h3=>⟨⟨fun c hc=>(by simp at hc;rw[hc];rfl),by omega⟩,?_⟩⟩
    ·rw[if_pos (.inr (.inr (.inr h3)))]
    ·rw[Ez,if_neg]
     rintro(q|q|q|q)
     ·exact h q
     ·exact h1 q
     ·exact h2 q
     ·exact h3 q
 | .list [],_,_,_,_,h,_,_=>by cases h
 | .list [_],_,_,_,_,h,_,_=>by cases h
 | .list [_,_],_,_,_,_,h,_,_=>by cases h
 | .list (_::_::_::_::_),_,_,_,_,h,_,_=>by cases h
 |
  .list [x,y,z],bd,l,a,hok,hty,ha,hl=>by
  simp only[E.sz,E.iY]at hl
  obtain⟨ok1,ok2,ok3,_⟩:=hok
  refine yT _ _ _ _ ((ck _).mpr trivial) ha.1 ?_
  simp only[wE,E.bo,toNat_one,bw,↓zq,zs,ag,zt,iB,fU,iE,mw,aw,cK]
  refine⟨fun h=>absurd rfl h,fun _=>ak (uM x [y,z]) ?_⟩
  simp only[↓zq,zs,ag,zt]
  have hyl:=fP y bd l
  rw[jR]at hty
  refine⟨fun h=>⟨by omega,by omega,by omega,aU (zg bd a ha y.at (by omega)) ?_⟩,fun h=>⟨by omega,by omega,?_⟩⟩
  ·have hz:jR z=true:=by
    rw[if_neg (by rw[h];decide),if_neg (by rw[h];decide),if_pos h]at hty
    simp only[az]at hty;exact hty.2
   simp only[↓zq,zs,ag,Ob.es,aP]
   refine⟨ej _,?_⟩
   refine aU (CB z (bd++[y.at]) l _ ok3 hz (.of _) (by simp;omega)) ?_
   simp only[↓zq,zs,ag]
   rw[j1,if_pos h]
  ·have hyz:jR y=true/\jR z=true:=by
    split at hty
    ·simpa using hty
    ·split at hty
     ·simpa using hty
     ·cases hty
   refine aU (CB y bd l a ok2 hyz.1 ha (by omega)) ?_
   simp only[↓zq,zs,ag]
   refine aU (CB z bd (j1 y bd l) a ok3 hyz.2 ha (by omega)) ?_
   simp only[↓zq,zs,ag]
   rw[j1,if_neg h]
theorem p9{s:List UInt8}(h:iq s=true):dD s=false:=by
 cases hq:dD s with
 |false=>rfl
 |
  true =>
  obtain⟨c,r,rfl,h1,h2⟩:=kY h
  obtain⟨c',r',he,h3,h4⟩:=kY hq
  cases he;omega
theorem lY(s:List UInt8)(ar:List (List UInt8)):∀i,i<=ar.length->(cb s ar i=none↔s∉ar.take i)
 |0,_=>by simp[cb]
 |
  i+1,hi=>by
  have hlt:i<ar.length:=by omega
  have e:ar.getD i []=ar[i]:=by simp[aa,hlt]
  have e2:s∈ar.take (i+1)↔s∈ar.take i\/s=ar[i]:=by
   rw[show ar.take (i+1)=ar.take i++[ar[i]] from (List.take_append_getElem hlt).symm]
   simp only[aK,aS]
  rw[cb,e,e2]
  by_cases h:ar[i]=s
  ·rw[if_pos h]
   exact⟨fun h=>(by cases h),fun h'=>absurd (.inr h.symm) h'⟩
  ·rw[if_neg h,lY s ar i (by omega)]
   exact⟨fun h1 h2=>h2.elim h1 (fun h3=>h h3.symm),fun h1 h2=>h1 (.inl h2)⟩
theorem lj:∀(e:E) (ar l:List (List UInt8)) (t:Ty),cY e ar=some t->(∀w,w∈ar->dD w=true)->(j1 e ar l).any dD=(l.any dD||bW t)
 |
  .atom s,ar,l,t,h,har=>by
  simp only[cY]at h
  rw[j1]
  split at h
  ·rename_i h0;cases h;rw[if_pos (.inl h0)];simp[bW]
  ·rename_i h0
   split at h
   ·rename_i h1;cases h;rw[if_pos (.inr (.inl h1))];simp[bW]
   ·rename_i h1
    split at h
    ·rename_i h2
     cases h
     have hn:=p9 h2
     simp only[bW,hn]
     split
     ·simp
     ·simp[hn]
    ·split at h
     ·rename_i h2 h3
      have hlo:=lY s ar ar.length (aw _)
      rw[List.take_length]at hlo
      cases hq:cb s ar ar.length with
      |
       some u =>
       rw[hq]at h;cases h
       have hm:s∈ar:=Classical.byContradiction fun hm=>by rw[hlo.2 hm]at hq;cases hq
       rw[if_pos (.inr (.inr (.inl hm)))];simp[bW]
      |
       none =>
       rw[hq]at h;cases h
       have hm:=hlo.1 hq
       simp only[bW,h3,Bool.or_true]
       split
       ·rename_i hh
        rcases hh with q|q|q|q
        ·exact absurd q h0
        ·exact absurd q h1
        ·exact absurd q hm
        ·rw[cf];exact⟨s,q,h3⟩
       ·simp[h3]
     ·cases h
 | .list [],_,_,_,h,_=>by cases h
 | .list [_],_,_,_,h,_=>by cases h
 | .list [_,_],_,_,_,h,_=>by cases h
 | .list (_::_::_::_::_),_,_,_,h,_=>by cases h
 |
  .list [x,a,b],ar,l,t,h,har=>by
  rw[j1]
  by_cases h0:x.at=[43]
  ·obtain⟨t1,t2,e1,e2,rfl⟩:=fZ h0 h
   rw[if_neg (by rw[h0];decide),lj b ar _ t2 e2 har,lj a ar l t1 e1 har,bW,Bool.or_assoc]
  ·by_cases h1:x.at=[42]
   ·obtain⟨t1,t2,e1,e2,rfl⟩:=fG h1 h
    rw[if_neg (by rw[h1];decide),lj b ar _ t2 e2 har,lj a ar l t1 e1 har,bW,Bool.or_assoc]
   ·by_cases h2:x.at=[114,101,99]
    ·obtain⟨t1,hl,e1,rfl⟩:=dU h2 h
     rw[if_pos h2,lj b _ l t1 e1 (fun w hw=>by
      simp only[aK,aS]at hw
      rcases hw with hw|rfl
      ·exact har w hw
      ·exact hl),bW]
    ·rw[ji _ h0 h1 h2]at h;cases h
def jn(s:List UInt8):Option E:=match we s with
 |none=>none
 |some e=>if(j1 e [] []).any dD=true then none else some e
theorem AD{s:List UInt8}:wC s=match jn s with|none=>none|some e=>cY e []:=by
 unfold wC jn
 rw[tJ]
 cases he:we s with
 |none=>rfl
 |
  some e =>
  obtain⟨h1,h2,h3⟩:=oW he
  have hs:=iF e []
  rw[h2]at hs
  obtain⟨t,ht⟩:=Option.isSome_iff_exists.1 hs
  have ha:=lj e [] [] t ht (fun w hw=>by cases hw)
  simp only[ht,sR,ha,List.any_nil,Bool.false_or]
  cases hf:bW t<;>simp[ht]
theorem gp{s:List UInt8}{e:E}(h:jn s=some e):∃t,wC s=some t/\Ask e [] t/\jR e=true/\e.sz<=8000/\t.atoms<=400/\qt s=some e:=by
 have h0:=h
 unfold jn at h
 split at h
 ·cases h
 ·rename_i e' he
  split at h
  ·cases h
  ·rename_i hn
   cases h
   obtain⟨h1,h2,h3⟩:=oW he
   obtain⟨hok,hsz⟩:=nB h1
   have hs:=iF e []
   rw[h2]at hs
   obtain⟨t,ht⟩:=Option.isSome_iff_exists.1 hs
   have ha:=lj e [] [] t ht (fun w hw=>by cases hw)
   rw[ha]at hn
   refine⟨t,by rw[AD,h0];exact ht,⟨hok,.nil,ht,by simpa using hn⟩,h2,hsz,?_,h1⟩
   rw[<-jC e [] t ht];exact h3
theorem mN{s:List UInt8}(h:jn s=none):wC s=none:=by rw[AD,h]
theorem JF(e:E)(l:List (List UInt8))(hl:l.length<1000000):∀(k i:Nat),i+k=l.length->Fp [.v (.int .i64 (i:Int))] [.cells [.v (.string (mk [])),.v (.slice none 0 0)],.cells [.v (.string (mk e.at)),e.sp],.vec 1 (bn l)]
 (pk (if(l.drop i).any dD=true then(2,[.v (.bool false)],[.cells [.v (.string (mk e.at)),e.sp]])else(1,[],[.cells [.v (.string (mk [])),.v (.slice none 0 0)],.cells [.v (.string (mk e.at)),e.sp]])))
 |
  0,i,hi=>by
  refine LA _ _ _ _ _ _ ?_
  have hd:l.drop i=[]:=bP (by omega)
  have hll:(bn l).length=l.length:=by simp[bn]
  simp only[GQ,↓zq,zs,ag,hd,hll,bh]
  exact⟨fun h=>by omega,fun _=>by simp[pk]⟩
 |
  k+1,i,hi=>by
  have hlt:i<l.length:=by omega
  have hll:(bn l).length=l.length:=by simp[bn]
  have hdr:l.drop i=l.getD i []::l.drop (i+1):=by
   rw[aY hlt];simp[aa,hlt]
  have hg:=(cw.of l).idx hlt
  simp only[fY]at hg
  refine LA _ _ _ _ _ _ ?_
  simp only[GQ,↓zq,zs,ag,zt,hll,hg,bh]
  refine⟨fun _=>⟨by omega,by omega,ak (E5 _) ?_⟩,fun h=>by omega⟩
  simp only[↓zq,zs,ag,hdr,List.any_cons]
  refine⟨fun h=>?_,fun h=>?_⟩
  ·rw[h];simp[pk]
  ·rw[h,bS i (by omega)]
   simp only[Bool.false_or]
   exact JF e l hl k (i+1) (by omega)
theorem FX(s:List UInt8):an Tryz.prog 54 [.v (.string (mk s))] [] (j0 (jn s) (jn s).isSome):=by
 refine OX _ ?_
 unfold Jx
 refine aO (EY s) (j0.ne _ _ (fun h=>h)) ?_
 rintro r o ⟨c,d,hd,rfl,hh⟩
 have hhas:bF [.str,.sl] [.v (.string (mk c)),d] 0:=by simp[bF,eh,hd]
 simp only[↓zq,zs,ag,zt]
 refine⟨hhas,fun h=>?_,fun h=>?_⟩
 ·have hn:we s=none:=by cases hq:we s<;>simp[hq]at h |-
  unfold jn
  rw[hn]
  exact⟨c,d,hd,rfl,fun h=>by cases h⟩
 ·obtain⟨e,he,hce⟩:=hh h
  obtain⟨h1,h2,h3⟩:=oW he
  obtain⟨hok,hsz⟩:=nB h1
  have hce':=hce
  rw[dA]at hce'
  simp only[AV.agg.injEq,List.cons.injEq,AV.v.injEq,Value.string.injEq,and_true]at hce'
  obtain⟨hc1,rfl⟩:=hce'
  have hc2:=mk_inj hc1
  subst hc2
  rw[<-dA]
  refine aU (CB e [] [] _ hok h2 (.of []) (by simp;omega)) ?_
  have hfl:=fP e [] []
  simp only[↓zq,zs,ag]
  have hLS:=JF e (j1 e [] []) (by simp at hfl;omega) (j1 e [] []).length 0 (by omega)
  simp only[bG]at hLS
  unfold jn
  rw[he]
  refine fH hLS (fun ys o e'=>?_) (fun ys o e'=>?_)
  ·split at e'<;>cases e'
   rename_i hn
   simp only[↓zq,zs,ag,bh,if_neg hn]
   exact⟨e.at,e.sp,hd,rfl,fun _=>⟨e,rfl,(dA e).symm⟩⟩
  ·split at e'<;>cases e'
   rename_i hn
   simp only[↓zq,zs,ag,bh,if_pos hn]
   exact⟨e.at,e.sp,hd,rfl,fun h=>by cases h⟩
def nD(s v:List UInt8)(n:Int):Option Vl:=match jn s,pY v with
 |some e,some w=>if(0<=n/\n<=100)/\fA n.toNat w (e,[])=true then some w else none
 |_,_=>none
theorem n6{s v:List UInt8}{n:Int}{w:Vl}(h:nD s v n=some w):∃e t m,jn s=some e/\pY v=some w/\wC s=some t/\Ask e [] t/\n=(m:Nat)/\m<=100/\fA m w (e,[])=true:=by
 unfold nD at h
 split at h
 ·rename_i e w' he hw
  split at h
  ·rename_i hh
   cases h
   obtain⟨t,h1,h2,_⟩:=gp he
   exact⟨e,t,n.toNat,he,hw,h1,h2,by omega,by omega,hh.2⟩
  ·cases h
 ·cases h
theorem Kv(s v:List UInt8)(n:Int):an Tryz.prog 33 [.v (.string (mk s)),.v (.string (mk v)),.v (.int .i64 n)] [] (bB (.cy [gM (wC s),ij (nD s v n)])):=by
 refine Pf _ _ _ ?_
 unfold Mx
 refine ak (H8 s) ?_
 simp only[↓zq,zs,ag,hZ]
 refine ak (HW v) ?_
 simp only[↓zq,zs,ag,fF,bB]
 unfold nD
 cases he:jn s with
 |none=>rw[mN he];cases pY v<;>simp[gM,ij,↓zq,zs,ag]
 |
  some e =>
  obtain⟨t,h1,h2,h3,h4,h5,_⟩:=gp he
  rw[h1]
  cases hv:pY v with
  |none=>simp only[gM,ij,aF,fC,↓zq,zs,ag];exact⟨fun h=>(by cases h),fun _=>⟨fun _=>trivial,fun h=>(by cases h)⟩⟩
  |
   some w =>
   obtain⟨h6,h7,h8⟩:=jy hv
   simp only[gM,ij,aF,fC,aM,e9,↓zq,zs,ag]
   refine⟨fun h=>(by cases h),fun _=>⟨fun h=>(by cases h),fun _=>⟨fun h=>?_,fun h=>⟨fun h'=>?_,fun h'=>?_⟩⟩⟩⟩
   ·rw[if_neg (by omega)]
   ·rw[if_neg (by omega)]
   ·obtain⟨m,rfl⟩:∃m:Nat,n=(m:Int):=⟨n.toNat,by omega⟩
    have hi:=KF m (by omega) (w.nodes+1) w (by omega) h7 e [] t h2 (by simp;omega)
    unfold qc at hi
    refine ak hi ?_
    simp only[↓zq,zs,ag,bR]
    refine⟨fun hq=>?_,fun hq=>?_⟩
    ·rw[if_neg (by rw[hq];simp)]
    ·rw[if_pos ⟨by omega,hq⟩]
theorem BX(s v:List UInt8)(n:Int):an Tryz.prog 124 [.v (.string (mk s)),.v (.string (mk v)),.v (.int .i64 n)] [] (bB (.v (.bool (nD s v n).isSome))):=by
 refine OS _ _ _ ?_
 unfold LM
 refine aO (FX s) (j0.ne _ _ (fun h=>h)) ?_
 rintro r o ⟨c,d,hd,rfl,hh⟩
 have hhas:bF [.str,.sl] [.v (.string (mk c)),d] 0:=by simp[bF,eh,hd]
 simp only[↓zq,zs,ag,zt]
 refine⟨hhas,?_⟩
 refine aO (E4 v) (j0.ne _ _ (fun h=>by cases hq:pY v<;>simp[hq]at h |-)) ?_
 rintro r o ⟨c',d',hd',rfl,hh'⟩
 have hhas':bF [.str,.sl] [.v (.string (mk c')),d'] 0:=by simp[bF,eh,hd']
 simp only[↓zq,zs,ag,zt,bB]
 refine⟨hhas',fun h=>⟨fun h2=>?_,fun h2=>?_⟩,fun h=>?_⟩
 ·obtain⟨e,he,hce⟩:=hh h
  obtain⟨t,h1,hA,h3,h4,h5,_⟩:=gp he
  obtain⟨w,hw⟩:=Option.isSome_iff_exists.1 h2
  obtain⟨e2,he2,hce2⟩:=hh' h2
  rw[hw]at he2
  cases he2
  obtain⟨h6,h7,h8⟩:=jy hw
  refine ak (C3 _ _ _) ?_
  simp only[↓zq,zs,ag,Ef,nD,he,hw]
  refine⟨fun hq=>?_,fun hq=>?_⟩
  ·have hq':0<=n/\n<=100:=by simpa using hq
   obtain⟨m,rfl⟩:∃m:Nat,n=(m:Int):=⟨n.toNat,by omega⟩
   rw[hce,hce2]
   have:=O7 m (by omega) w h7 e [] t hA (by simp;omega)
   rw[show jZ []=[] from rfl]at this
   refine ak this ?_
   simp only[↓zq,zs,ag,bR]
   by_cases hb:fA m w (e,[])=true
   ·rw[if_pos ⟨hq',hb⟩,hb];rfl
   ·rw[if_neg (fun h=>hb h.2)]
    rw[Bool.not_eq_true]at hb
    rw[hb];rfl
  ·have hq':¬(0<=n/\n<=100):=by simpa using hq
   rw[if_neg (fun h=>hq' h.1)];rfl
 ·have hn:pY v=none:=by cases hq:pY v<;>simp[hq]at h2 |-
  unfold nD
  rw[hn];cases jn s<;>rfl
 ·have hn:jn s=none:=by cases hq:jn s<;>simp[hq]at h |-
  unfold nD
  rw[hn];rfl
end Go.Proofs.Trees
namespace Go.Proofs.Trees
open Go Go.VL Go.RowKit
inductive Tg where
 |nm (s:List UInt8)
 |bd (k:Nat)
 deriving DecidableEq
def Tg.up:Tg->Tg
 | .nm s=>.nm s
 | .bd k=>.bd (k+1)
def eN:Ty->Tg->Bool
 | .name s,.nm s'=>decide (s=s')
 | .bound u,.bd k=>decide (u=k)
 |_,_=>false
abbrev Hl:=Vl×Vl
def kp(g:Vl->Vl)(l:List Hl):List Hl:=l.map fun h=>(g h.1,h.2)
def iJ(f:Ty->Tg->Vl->List Hl)(tg:Tg):Ty->Vl->List Hl
 | .plus a _,.l w=>kp .l (f a tg w)
 | .plus _ b,.r w=>kp .r (f b tg w)
 | .times a b,.p x y=>kp (fun c=>.l (.p c y)) (f a tg x)++kp (fun c=>.r (.p x c)) (f b tg y)
 | .rc a,.f w=>kp (fun c=>.f (.l c)) (f a tg.up w)++(f a (.bd 0) w).flatMap fun h=>kp (fun c=>.f (.r (.p h.1 c))) (f (.rc a) tg h.2)
 |_,_=>[]
def dy:Nat->Ty->Tg->Vl->List Hl
 |0,_,_,_=>[]
 |n+1,t,tg,v=>if eN t tg=true then [(.u,v)]else iJ (dy n) tg t v
def stuck:Ty->Vl->Bool
 | .plus _ _,.l _=>false
 | .plus _ _,.r _=>false
 | .times _ _,.p _ _=>false
 | .rc _,.f _=>false
 |_,_=>true
def cL(t:Ty)(tg:Tg)(v:Vl):List Hl:=dy v.nodes t tg v
theorem cS{g:Vl->Vl}{l:List Hl}{h:Hl}(hm:h∈kp g l):∃k,k∈l/\h=(g k.1,k.2):=by
 obtain⟨k,h1,h2⟩:=bJ.1 hm
 exact⟨k,h1,h2.symm⟩
theorem jL{f g:Hl->List Hl}:∀{l:List Hl},(∀h,h∈l->f h=g h)->l.flatMap f=l.flatMap g
 |[],_=>rfl
 |h::l,hl=>by rw[List.flatMap_cons,List.flatMap_cons,hl h ai,jL (l:=l) fun k hk=>hl k (al _ hk)]
theorem eX:∀(n:Nat) (t:Ty) (tg:Tg) (v:Vl) (h:Hl),h∈dy n t tg v->h.2.nodes<=v.nodes/\h.1.nodes+4*h.2.nodes<=4*v.nodes+1
 |0,t,tg,v,h,hm=>by simp[dy]at hm
 |
  n+1,t,tg,v,h,hm=>by
  unfold dy at hm
  split at hm
  ·simp only[aS]at hm
   subst hm
   simp only[Vl.nodes];omega
  ·unfold iJ at hm
   split at hm
   ·obtain⟨k,h1,rfl⟩:=cS hm
    have:=eX n _ _ _ k h1
    simp only[Vl.nodes];omega
   ·obtain⟨k,h1,rfl⟩:=cS hm
    have:=eX n _ _ _ k h1
    simp only[Vl.nodes];omega
   ·rcases aK.1 hm with hm|hm
    ·obtain⟨k,h1,rfl⟩:=cS hm
     have:=eX n _ _ _ k h1
     simp only[Vl.nodes];omega
    ·obtain⟨k,h1,rfl⟩:=cS hm
     have:=eX n _ _ _ k h1
     simp only[Vl.nodes];omega
   ·rcases aK.1 hm with hm|hm
    ·obtain⟨k,h1,rfl⟩:=cS hm
     have:=eX n _ _ _ k h1
     simp only[Vl.nodes];omega
    ·obtain⟨k,h1,h2⟩:=List.mem_flatMap.1 hm
     obtain⟨k2,h3,rfl⟩:=cS h2
     have:=eX n _ _ _ k h1
     have:=eX n _ _ _ k2 h3
     simp only[Vl.nodes];omega
   ·simp at hm
theorem gu:∀(n m:Nat) (t:Ty) (tg:Tg) (v:Vl),v.nodes<=n->v.nodes<=m->dy n t tg v=dy m t tg v
 |0,m,t,tg,v,h,_=>by have:=dB v;omega
 |n+1,0,t,tg,v,_,h=>by have:=dB v;omega
 |
  n+1,m+1,t,tg,v,hn,hm=>by
  rw[dy,dy]
  split
  ·rfl
  ·unfold iJ
   split
   ·simp only[Vl.nodes]at hn hm;rw[gu n m _ _ _ (by omega) (by omega)]
   ·simp only[Vl.nodes]at hn hm;rw[gu n m _ _ _ (by omega) (by omega)]
   ·simp only[Vl.nodes]at hn hm;rw[gu n m _ _ _ (by omega) (by omega),gu n m _ _ _ (by omega) (by omega)]
   ·rename_i a w
    simp only[Vl.nodes]at hn hm;rw[gu n m _ _ _ (by omega) (by omega),gu n m _ (.bd 0) _ (by omega) (by omega)]
    congr 1
    apply jL
    intro h hh
    have:=(eX _ _ _ _ _ hh).1
    rw[gu n m _ _ _ (by omega) (by omega)]
   ·rfl
theorem oq{n:Nat}(t:Ty)(tg:Tg){v:Vl}(h:v.nodes<=n):dy n t tg v=cL t tg v:=gu _ _ _ _ _ h (aw _)
theorem oc{t:Ty}{tg:Tg}(v:Vl)(h:eN t tg=true):cL t tg v=[(.u,v)]:=by
 have:=dB v
 unfold cL
 cases e:v.nodes with
 |zero=>omega
 |succ n=>rw[dy,if_pos h]
theorem qE(a b:Ty)(tg:Tg)(w:Vl):cL (.plus a b) tg (.l w)=kp .l (cL a tg w):=by
 unfold cL;rw[show (Vl.l w).nodes=w.nodes+1 by simp[Vl.nodes];omega,dy,if_neg (by simp[eN])];rfl
theorem qK(a b:Ty)(tg:Tg)(w:Vl):cL (.plus a b) tg (.r w)=kp .r (cL b tg w):=by
 unfold cL;rw[show (Vl.r w).nodes=w.nodes+1 by simp[Vl.nodes];omega,dy,if_neg (by simp[eN])];rfl
theorem qs(a b:Ty)(tg:Tg)(x y:Vl):cL (.times a b) tg (.p x y)=kp (fun c=>.l (.p c y)) (cL a tg x)++kp (fun c=>.r (.p x c)) (cL b tg y):=by
 rw[cL,show (Vl.p x y).nodes=(x.nodes+y.nodes)+1 by simp[Vl.nodes];omega,dy,if_neg (by simp[eN])]
 rw[iJ,oq a tg (by omega),oq b tg (by omega)]
theorem qJ(a:Ty)(tg:Tg)(w:Vl):cL (.rc a) tg (.f w)=kp (fun c=>.f (.l c)) (cL a tg.up w)++(cL a (.bd 0) w).flatMap fun h=>kp (fun c=>.f (.r (.p h.1 c))) (cL (.rc a) tg h.2):=by
 rw[cL,show (Vl.f w).nodes=w.nodes+1 by simp[Vl.nodes];omega,dy,if_neg (by simp[eN])]
 rw[iJ,oq a tg.up (aw _),oq a (.bd 0) (aw _)]
 congr 1
 apply jL
 intro h hh
 have:=(eX _ _ _ _ _ hh).1
 rw[oq (.rc a) tg this]
theorem en{t:Ty}{tg:Tg}{v:Vl}(h:eN t tg=false)(h2:stuck t v=true):cL t tg v=[]:=by
 unfold cL
 cases e:v.nodes with
 |zero=>rfl
 |
  succ n =>
  rw[dy,if_neg (by rw[h];simp)]
  unfold iJ
  split<;>first|(simp[stuck]at h2;done)|rfl
theorem lW{t:Ty}{tg:Tg}{v:Vl}{h:Hl}(hm:h∈cL t tg v):h.2.nodes<=v.nodes/\h.1.nodes+4*h.2.nodes<=4*v.nodes+1:=eX _ _ _ _ _ hm
theorem gx(n:Nat):∀(m:Nat) (t:Ty) (tg:Tg) (v:Vl) (h:Hl),v.gX n->h∈dy m t tg v->h.1.gX n/\h.2.gX n
 |0,t,tg,v,h,hv,hm=>by simp[dy]at hm
 |
  m+1,t,tg,v,h,hv,hm=>by
  unfold dy at hm
  split at hm
  ·simp only[aS]at hm
   subst hm
   exact⟨trivial,hv⟩
  ·unfold iJ at hm
   split at hm
   ·obtain⟨k,h1,rfl⟩:=cS hm
    exact(fun q=>gx n m _ _ _ k q h1) hv
   ·obtain⟨k,h1,rfl⟩:=cS hm
    exact(fun q=>gx n m _ _ _ k q h1) hv
   ·rcases aK.1 hm with hm|hm
    ·obtain⟨k,h1,rfl⟩:=cS hm
     obtain⟨q1,q2⟩:=gx n m _ _ _ k hv.1 h1
     exact⟨⟨q1,hv.2⟩,q2⟩
    ·obtain⟨k,h1,rfl⟩:=cS hm
     obtain⟨q1,q2⟩:=gx n m _ _ _ k hv.2 h1
     exact⟨⟨hv.1,q1⟩,q2⟩
   ·rcases aK.1 hm with hm|hm
    ·obtain⟨k,h1,rfl⟩:=cS hm
     exact(fun q=>gx n m _ _ _ k q h1) hv
    ·obtain⟨k,h1,h2⟩:=List.mem_flatMap.1 hm
     obtain⟨k2,h3,rfl⟩:=cS h2
     obtain⟨q1,q2⟩:=(fun q=>gx n m _ _ _ k q h1) hv
     obtain⟨q3,q4⟩:=gx n m _ _ _ k2 q2 h3
     exact⟨⟨q1,q3⟩,q4⟩
   ·simp at hm
def kL(l:List Hl):Nat:=(l.map fun h=>h.2.nodes).sum
theorem rS(l r:List Hl):kL (l++r)=kL l+kL r:=by simp[kL]
theorem oz(g:Vl->Vl)(l:List Hl):kL (kp g l)=kL l:=by simp[kL,kp,Function.comp_def]
def ko(f:Tg->Nat)(T:List Tg):Nat:=(T.map f).sum
theorem oy(f g:Tg->Nat):∀T:List Tg,ko (fun x=>f x+g x) T=ko f T+ko g T
 |[]=>rfl
 |x::T=>by have:=oy f g T;simp only[ko,bz,List.sum_cons]at this |-;omega
theorem xZ{f g:Tg->Nat}:∀{T:List Tg},(∀x,x∈T->f x<=g x)->ko f T<=ko g T
 |[],_=>aw _
 |
  x::T,h=>by
  have:=xZ (T:=T) fun y hy=>h y (al _ hy)
  have:=h x ai
  simp only[ko,bz,List.sum_cons]at *;omega
theorem o0{f:Tg->Nat}:∀{T:List Tg},(∀x,x∈T->f x=0)->ko f T=0
 |[],_=>rfl
 |
  x::T,h=>by
  have:=o0 (T:=T) fun y hy=>h y (al _ hy)
  have:=h x ai
  simp only[ko,bz,List.sum_cons]at *;omega
theorem tv(g:Hl->Tg->Nat)(T:List Tg):∀l:List Hl,ko (fun x=>(l.map fun h=>g h x).sum) T=(l.map fun h=>ko (g h) T).sum
 |[]=>o0 fun _ _=>rfl
 |
  h::l=>by
  have:=tv g T l
  simp only[bz,List.sum_cons]
  rw[oy,this]
theorem sM(f:Hl->List Hl):∀l:List Hl,kL (l.flatMap f)=(l.map fun h=>kL (f h)).sum
 |[]=>rfl
 |h::l=>by rw[List.flatMap_cons,rS,sM f l];simp
theorem AG{f g:Hl->Nat}:∀{l:List Hl},(∀x,x∈l->f x<=g x)->(l.map f).sum<=(l.map g).sum
 |[],_=>aw _
 |
  x::l,h=>by
  have:=AG (l:=l) fun y hy=>h y (al _ hy)
  have:=h x ai
  simp only[bz,List.sum_cons]at *;omega
theorem BL{t:Ty}{x y:Tg}(h:eN t x=true)(h':eN t y=true):x=y:=by
 cases t<;>cases x<;>cases y<;>simp[eN]at h h'<;>simp_all
theorem xz{t:Ty}(n:Nat):∀{T:List Tg},T.Nodup->ko (fun x=>if eN t x=true then n else 0) T<=n
 |[],_=>dN _
 |
  x::T,h=>by
  obtain⟨h1,h2⟩:=List.nodup_cons.1 h
  have ih:=xz (t:=t) n h2
  by_cases hx:eN t x=true
  ·have:ko (fun x=>if eN t x=true then n else 0) T=0:=o0 fun y hy=>by
    rw[if_neg fun hy'=>h1 (by rw[BL hx hy'];exact hy)]
   simp only[ko,bz,List.sum_cons]at *
   rw[if_pos hx];omega
  ·simp only[ko,bz,List.sum_cons]at *
   rw[if_neg hx];omega
theorem Bp{T:List Tg}(h:T.Nodup):(Tg.bd 0::T.map Tg.up).Nodup:=by
 refine List.nodup_cons.2 ⟨fun hm=>?_,?_⟩
 ·obtain⟨x,_,e⟩:=bJ.1 hm
  cases x<;>simp[Tg.up]at e
 ·refine List.Pairwise.map _ (fun a b hab e=>hab ?_) h
  cases a<;>cases b<;>simp[Tg.up]at e<;>simp_all
theorem apart:∀(n:Nat) (v:Vl),v.nodes<=n->∀(t:Ty) (T:List Tg),T.Nodup->ko (fun x=>kL (cL t x v)) T<=v.nodes
 |0,v,h=>by have:=dB v;omega
 |
  n+1,v,hn=>by
  intro t T hT
  have base:∀(hno:∀x,eN t x=false->cL t x v=[]),ko (fun x=>kL (cL t x v)) T<=v.nodes:=fun hno=>by
   refine Nat.le_trans (xZ fun x _=>?_) (xz (t:=t) v.nodes hT)
   cases e:eN t x with
   |true=>rw[oc v e];simp[kL]
   |false=>rw[hno x e];simp[kL]
  cases hm:stuck t v with
  |true=>exact base fun x hx=>en hx hm
  |
   false =>
   unfold stuck at hm
   split at hm
   ·rename_i a b w
    simp only[Vl.nodes]at hn |-
    simp only[qE,oz]
    have:=apart n w (by omega) a T hT
    omega
   ·rename_i a b w
    simp only[Vl.nodes]at hn |-
    simp only[qK,oz]
    have:=apart n w (by omega) b T hT
    omega
   ·rename_i a b x y
    simp only[Vl.nodes]at hn |-
    simp only[qs,rS,oz]
    rw[oy]
    have:=apart n x (by omega) a T hT
    have:=apart n y (by omega) b T hT
    omega
   ·rename_i a w
    simp only[Vl.nodes]at hn |-
    simp only[qJ,rS,oz,sM]
    rw[oy,tv]
    have h1:=apart n w (by omega) a _ (Bp hT)
    simp only[ko,bz,List.sum_cons,List.map_map]at h1
    have h2:((cL a (.bd 0) w).map fun h=>ko (fun x=>kL (cL (.rc a) x h.2)) T).sum<=kL (cL a (.bd 0) w):=AG fun h hh=>by
     have:=(lW hh).1
     exact apart n h.2 (by omega) (.rc a) T hT
    simp only[ko,Function.comp_def]at h1 h2 |-
    omega
   ·cases hm
theorem rX(t:Ty)(tg:Tg)(v:Vl):kL (cL t tg v)<=v.nodes:=by
 have:=apart v.nodes v (aw _) t [tg] (by simp)
 simpa[ko]using this
theorem rJ:∀l:List Hl,l.length<=kL l
 |[]=>dN _
 |
  h::l=>by
  have:=rJ l
  have:=dB h.2
  simp only[kL,bz,List.sum_cons,au]at *;omega
theorem tj(t:Ty)(tg:Tg)(v:Vl):(cL t tg v).length<=v.nodes:=Nat.le_trans (rJ _) (rX t tg v)
end Go.Proofs.Trees
namespace Go.Proofs.Trees
open Go Go.VL Go.RowKit
def jG(ar:List (List UInt8))(k:Nat):List UInt8:=ar.getD (ar.length-1-k) []
theorem kP{s:List UInt8}{ar:List (List UInt8)}:∀(i u:Nat),i<=ar.length->cb s ar i=some u->u<ar.length/\jG ar u=s
 |0,u,_,h=>by cases h
 |
  i+1,u,hi,h=>by
  rw[cb]at h
  split at h
  ·rename_i e
   cases h
   refine⟨by omega,?_⟩
   rw[jG,show ar.length-1-(ar.length-1-i)=i by omega];exact e
  ·exact kP i u (by omega) h
theorem j8(w:List UInt8)(ar:List (List UInt8)):cb w (ar++[w]) (ar++[w]).length=some 0:=by
 have e2:(ar++[w]).length=ar.length+1:=by simp
 rw[e2,cb,if_pos (by simp[aa]),e2];simp
theorem nT{s w:List UInt8}(ar:List (List UInt8))(h:w≠s):cb s (ar++[w]) (ar++[w]).length=(cb s ar ar.length).map (·+1):=by
 have e2:(ar++[w]).length=ar.length+1:=by simp
 rw[e2,cb,if_neg (by simpa[aa]using h),ml _ _ _ _ (aw _)]
theorem iW(n:Nat):∀(m:Nat) (v:Vl),v.nodes<=m->∀(e:E) (env:List Fr) (t:Ty),Ask e env t->fA n v (e,env)=true->∀(k:Nat) (f:Fr),env[k]?=some f->∀h,h∈cL t (.bd k) v->fA n h.2 (f.ex,f.out)=true
 |0,v,hm=>by have:=dB v;omega
 |
  m+1,v,hm=>by
  intro e env t A hv k f hf h hh
  rcases hG A.wf A.ty with⟨hb,hq⟩|⟨u,g,rfl,hq,hu⟩
  ·have hhd:hd e env=(e,env):=lG hq
   rcases fL A.ty hb A.cl with⟨rfl,rfl⟩|⟨rfl,rfl⟩|⟨s,rfl,rfl,hp,h0,h1⟩|⟨x,a,b,t1,t2,rfl,hx,rfl,ha,hbb⟩|⟨x,a,b,t1,t2,rfl,hx,rfl,ha,hbb⟩|⟨x,a,b,t1,rfl,hx,rfl⟩
   ·rw[en rfl (by cases v<;>rfl)]at hh;cases hh
   ·rw[en rfl (by cases v<;>rfl)]at hh;cases hh
   ·rw[en rfl (by cases v<;>rfl)]at hh;cases hh
   ·obtain⟨ok1,ok2,ok3,_⟩:=A.ok
    obtain⟨f1,f2⟩:=fQ A.cl
    cases v with
    |
     l w =>
     simp only[fA,hhd,hx,beq_self_eq_true,cn]at hv
     simp only[Vl.nodes]at hm
     rw[qE]at hh
     obtain⟨h2,h3,rfl⟩:=cS hh
     exact iW n m w (by omega) a env t1 ⟨ok2,A.wf,ha,f1⟩ hv k f hf h2 h3
    |
     r w =>
     simp only[fA,hhd,hx,beq_self_eq_true,cn]at hv
     simp only[Vl.nodes]at hm
     rw[qK]at hh
     obtain⟨h2,h3,rfl⟩:=cS hh
     exact iW n m w (by omega) b env t2 ⟨ok3,A.wf,hbb,f2⟩ hv k f hf h2 h3
    |_=>rw[en rfl rfl]at hh;cases hh
   ·obtain⟨ok1,ok2,ok3,_⟩:=A.ok
    obtain⟨f1,f2⟩:=fu A.cl
    cases v with
    |
     p w w' =>
     simp only[fA,hhd,hx,beq_self_eq_true,cn,az]at hv
     simp only[Vl.nodes]at hm
     rw[qs]at hh
     rcases aK.1 hh with hh|hh
     ·obtain⟨h2,h3,rfl⟩:=cS hh
      exact iW n m w (by omega) a env t1 ⟨ok2,A.wf,ha,f1⟩ hv.1 k f hf h2 h3
     ·obtain⟨h2,h3,rfl⟩:=cS hh
      exact iW n m w' (by omega) b env t2 ⟨ok3,A.wf,hbb,f2⟩ hv.2 k f hf h2 h3
    |_=>rw[en rfl rfl]at hh;cases hh
   ·obtain⟨t1',he1,h1,f1,hw1⟩:=jJ A.wf A.ok hx A.ty A.cl
    cases he1
    obtain⟨ok1,ok2,ok3,_⟩:=A.ok
    cases v with
    |
     f w =>
     simp only[fA,hhd,hx,beq_self_eq_true,cn]at hv
     simp only[Vl.nodes]at hm
     rw[qJ]at hh
     have A':Ask b (.mk a.at (.list [x,a,b]) env::env) t1:=⟨ok3,hw1,h1,f1⟩
     rcases aK.1 hh with hh|hh
     ·obtain⟨h2,h3,rfl⟩:=cS hh
      exact iW n m w (by omega) b _ t1 A' hv (k+1) f (by simpa using hf) h2 h3
     ·obtain⟨kd,h2,h3⟩:=List.mem_flatMap.1 hh
      obtain⟨h4,h5,rfl⟩:=cS h3
      have hkd:=iW n m w (by omega) b _ t1 A' hv 0 _ rfl kd h2
      have:=(lW h2).1
      exact iW n m kd.2 (by omega) (.list [x,a,b]) env _ A hkd k f hf h4 h5
    |_=>rw[en rfl rfl]at hh;cases hh
  ·by_cases huk:u=k
   ·subst huk
    rw[hu]at hf;cases hf
    rw[oc v (by simp[eN])]at hh
    simp only[aS]at hh
    subst hh
    obtain⟨x,a,b,t',hfe,hok,hx,ht',hf',hwf,hlt⟩:=nV A.wf hq
    rw[<-ue n v (qM hq) (by rw[hfe];exact oX hwf)];exact hv
   ·rw[en (by simpa[eN]using huk) (by cases v<;>rfl)]at hh;cases hh
end Go.Proofs.Trees
namespace Go.Proofs.Trees
open Go Go.VL Go.RowKit
def cJ:E->List Nm->Ty
 | .atom s,ar=>if s=[48]then .zero else if s=[49]then .one else match cb s ar ar.length with|some u=>.bound u|none=>.name s
 | .list [x,a,b],ar=>if x.at=[43]then .plus (cJ a ar) (cJ b ar)else if x.at=[42]then .times (cJ a ar) (cJ b ar)else .rc (cJ b (ar++[a.at]))
 | .list _,_=>.zero
def qG(s:Nm):Prop:=s≠[]/\s≠[48]/\s≠[49]
inductive Wf:E->Prop
 |atom {s} (h:s≠[]):Wf (.atom s)
 |plus {a b} (ha:Wf a) (hb:Wf b):Wf (.list [.atom [43],a,b])
 |times {a b} (ha:Wf a) (hb:Wf b):Wf (.list [.atom [42],a,b])
 |rc {n b} (hn:qG n) (hb:Wf b):Wf (.list [.atom [114,101,99],.atom n,b])
theorem dI(a b:E)(ar:List Nm):cJ (.list [.atom [43],a,b]) ar=.plus (cJ a ar) (cJ b ar):=by rw[cJ,if_pos (show (E.atom [43]).at=[43] from rfl)]
theorem dk(a b:E)(ar:List Nm):cJ (.list [.atom [42],a,b]) ar=.times (cJ a ar) (cJ b ar):=by rw[cJ,if_neg (by decide),if_pos (show (E.atom [42]).at=[42] from rfl)]
theorem e7(a b:E)(ar:List Nm):cJ (.list [.atom [114,101,99],a,b]) ar=.rc (cJ b (ar++[a.at])):=by rw[cJ,if_neg (by decide),if_neg (by decide)]
theorem Wf.ok{e:E}(h:Wf e):e.ok:=by
 induction h with
 |atom h=>exact h
 |plus ha hb i1 i2=>exact⟨by simp[E.ok],i1,i2,trivial⟩
 |times ha hb i1 i2=>exact⟨by simp[E.ok],i1,i2,trivial⟩
 |rc hn hb i=>exact⟨by simp[E.ok],hn.1,i,trivial⟩
theorem Wf.cW{e:E}(h:Wf e):∀ar,e.cW=(cJ e ar).atoms:=by
 induction h with
 |
  @atom s h =>
  intro ar
  simp only[E.cW,cJ]
  split
  ·rfl
  ·split
   ·rfl
   ·split<;>rfl
 |plus ha hb i1 i2=>intro ar;rw[dI];simp only[E.cW,E.eT,Ty.atoms,<-i1 ar,<-i2 ar];omega
 |times ha hb i1 i2=>intro ar;rw[dk];simp only[E.cW,E.eT,Ty.atoms,<-i1 ar,<-i2 ar];omega
 |@rc n b hn hb i=>intro ar;rw[e7];simp only[E.cW,E.eT,Ty.atoms,<-i];omega
theorem Wf.sz{e:E}(h:Wf e):e.sz<=3*e.cW:=by
 induction h with
 |atom h=>simp[E.sz,E.cW]
 |plus ha hb i1 i2=>simp only[E.sz,E.iY,E.cW,E.eT];omega
 |times ha hb i1 i2=>simp only[E.sz,E.iY,E.cW,E.eT];omega
 |rc hn hb i=>simp only[E.sz,E.iY,E.cW,E.eT];omega
theorem j2:∀(e:E) (ar:List Nm) (t:Ty),e.ok->(∀w,w∈ar->dD w=true)->cY e ar=some t->Wf e/\cJ e ar=t
 |
  .atom s,ar,t,hok,hl,ht=>by
  refine⟨.atom hok,?_⟩
  simp only[cY,cJ]at ht |-
  split at ht
  ·rename_i h;rw[if_pos h];simpa using ht
  ·rename_i h;rw[if_neg h]
   split at ht
   ·rename_i h1;rw[if_pos h1];simpa using ht
   ·rename_i h1;rw[if_neg h1]
    split at ht
    ·rename_i hp
     cases q:cb s ar ar.length with
     |none=>simpa using ht
     |
      some u =>
      obtain⟨h1,h2⟩:=kP _ _ (aw _) q
      have:=hl (jG ar u) (by
       unfold jG
       have:ar.length-1-u<ar.length:=by omega
       simp[aa,this])
      rw[h2,p9 hp]at this;cases this
    ·split at ht
     ·split at ht<;>rename_i q<;>rw[q]<;>simpa using ht
     ·cases ht
 |
  .list [x,a,b],ar,t,hok,hl,ht=>by
  obtain⟨ok1,ok2,ok3,_⟩:=hok
  by_cases h0:x.at=[43]
  ·obtain⟨t1,t2,h1,h2,rfl⟩:=fZ h0 ht
   obtain rfl:=j5 h0 (by simp)
   obtain⟨w1,e1⟩:=j2 a ar t1 ok2 hl h1
   obtain⟨w2,e2⟩:=j2 b ar t2 ok3 hl h2
   exact⟨.plus w1 w2,by rw[dI,e1,e2]⟩
  ·by_cases h1:x.at=[42]
   ·obtain⟨t1,t2,h2,h3,rfl⟩:=fG h1 ht
    obtain rfl:=j5 h1 (by simp)
    obtain⟨w1,e1⟩:=j2 a ar t1 ok2 hl h2
    obtain⟨w2,e2⟩:=j2 b ar t2 ok3 hl h3
    exact⟨.times w1 w2,by rw[dk,e1,e2]⟩
   ·by_cases h2:x.at=[114,101,99]
    ·obtain⟨t1,hla,h3,rfl⟩:=dU h2 ht
     obtain rfl:=j5 h2 (by simp)
     have hne:a.at≠[]:=by intro e;rw[e]at hla;cases hla
     have ha:a=.atom a.at:=j5 rfl hne
     obtain⟨w1,e1⟩:=j2 b (ar++[a.at]) t1 ok3 (fun w hw=>by
      rcases aK.1 hw with hw|hw
      ·exact hl w hw
      ·simp only[aS]at hw;rw[hw];exact hla) h3
     have hN:qG a.at:=⟨hne,fun e=>by rw[e]at hla;revert hla;decide,fun e=>by rw[e]at hla;revert hla;decide⟩
     refine⟨?_,by rw[e7,e1]⟩
     rw[ha];exact .rc hN w1
    ·rw[ji _ h0 h1 h2]at ht;cases ht
 | .list [],ar,t,_,_,ht=>by cases ht
 | .list [_],ar,t,_,_,ht=>by cases ht
 | .list [_,_],ar,t,_,_,ht=>by cases ht
 | .list (_::_::_::_::_),ar,t,_,_,ht=>by cases ht
theorem fg(s:Nm)(ar:List Nm):cb s ar ar.length=none↔s∉ar:=by
 have:=lY s ar ar.length (aw _)
 rwa[List.take_length]at this
theorem nu(s:Nm)(ar:List Nm):∀(n:Nat) (br:List Nm),br.length=n->cb s (ar++br) (ar++br).length=match cb s br br.length with|some u=>some u|none=>(cb s ar ar.length).map (·+br.length)
 |
  0,br,h=>by
  obtain rfl:=bV h
  rw[cR]
  cases h:cb s ar ar.length<;>simp[cb]
 |
  n+1,br,h=>by
  obtain⟨b2,w,rfl⟩:∃b2 w,br=b2++[w]:=⟨br.dropLast,br.getLast (by intro e;rw[e]at h;cases h),(List.dropLast_concat_getLast _).symm⟩
  rw[<-bK]
  by_cases hw:w=s
  ·subst hw;rw[j8,j8]
  ·rw[nT _ hw,nT _ hw,nu s ar n b2 (by simpa using h)]
   cases cb s b2 b2.length with
   |some u=>rfl
   |
    none =>
    cases cb s ar ar.length with
    |none=>rfl
    |some u=>simp only[Option.map_none,cu,aq,au,aG];congr 1
theorem ub(ar:List Nm){e:E}(h:Wf e):∀br,(∀y,bb y (cJ e br)=true->y∉ar)->cJ e (ar++br)=cJ e br:=by
 induction h with
 |
  @atom s h =>
  intro br hy
  simp only[cJ]at hy |-
  split
  ·rfl
  ·rename_i h0
   split
   ·rfl
   ·rename_i h1
    rw[if_neg h0,if_neg h1]at hy
    rw[nu s ar _ br rfl]
    cases q:cb s br br.length with
    |some u=>rfl
    |
     none =>
     rw[q]at hy
     have:=(fg s ar).2 (hy s (by simp[bb]))
     rw[this];rfl
 |
  plus ha hb i1 i2 =>
  intro br hy
  rw[dI]at hy |-
  rw[dI,i1 br fun y h=>hy y (by simp[bb,h]),i2 br fun y h=>hy y (by simp[bb,h])]
 |
  times ha hb i1 i2 =>
  intro br hy
  rw[dk]at hy |-
  rw[dk,i1 br fun y h=>hy y (by simp[bb,h]),i2 br fun y h=>hy y (by simp[bb,h])]
 |
  @rc n b hn hb i =>
  intro br hy
  rw[e7]at hy |-
  rw[e7,bK,i _ hy]
theorem xG(x:Nm){e:E}(h:Wf e):∀ar,cJ e ar=du (.name x) (cJ e ([x]++ar)) ar.length:=by
 induction h with
 |
  @atom s h =>
  intro ar
  simp only[cJ]
  split
  ·rfl
  ·split
   ·rfl
   ·rw[nu s [x] _ ar rfl]
    cases q:cb s ar ar.length with
    |
     some u =>
     have:=(kP _ _ (aw _) q).1
     simp only[du];rw[if_neg (by omega)]
    |
     none =>
     by_cases hx:x=s
     ·subst hx
      have:cb x [x] [x].length=some 0:=j8 x []
      rw[this];simp[du]
     ·have:cb s [x] [x].length=none:=(fg s [x]).2 (by simpa using fun e=>hx e.symm)
      rw[this];rfl
 |plus ha hb i1 i2=>intro ar;rw[dI,dI,du,<-i1 ar,<-i2 ar]
 |times ha hb i1 i2=>intro ar;rw[dk,dk,du,<-i1 ar,<-i2 ar]
 |
  @rc n b hn hb i =>
  intro ar
  rw[e7,e7,du,i (ar++[E.at (.atom n)]),bK]
  simp
theorem mI{e:E}(h:Wf e):∀ar y,bb y (cJ e ar)=true->qG y/\y∉ar:=by
 induction h with
 |
  @atom s h =>
  intro ar y hy
  simp only[cJ]at hy
  split at hy
  ·cases hy
  ·rename_i h0
   split at hy
   ·cases hy
   ·rename_i h1
    split at hy
    ·cases hy
    ·rename_i q
     simp only[bb,decide_eq_true_eq]at hy
     subst hy
     exact⟨⟨h,h0,h1⟩,(fg _ _).1 q⟩
 |
  plus ha hb i1 i2 =>
  intro ar y hy
  rw[dI]at hy
  simp only[bb,bD]at hy
  rcases hy with hy|hy
  ·exact i1 ar y hy
  ·exact i2 ar y hy
 |
  times ha hb i1 i2 =>
  intro ar y hy
  rw[dk]at hy
  simp only[bb,bD]at hy
  rcases hy with hy|hy
  ·exact i1 ar y hy
  ·exact i2 ar y hy
 |
  rc hn hb i =>
  intro ar y hy
  rw[e7]at hy
  obtain⟨h1,h2⟩:=i _ y hy
  exact⟨h1,fun h=>h2 (aC _ h)⟩
theorem kU{e:E}(h:Wf e):∀(bd l:List Nm) (y:Nm),y∈j1 e bd l↔y∈l\/bb y (cJ e bd)=true:=by
 induction h with
 |
  @atom s h =>
  intro bd l y
  simp only[j1,cJ]
  by_cases h0:s=[48]
  ·simp[h0,bb]
  ·by_cases h1:s=[49]
   ·simp[h1,bb]
   ·rw[if_neg h0,if_neg h1]
    by_cases h2:s∈bd
    ·cases q:cb s bd bd.length with
     |none=>exact absurd h2 ((fg _ _).1 q)
     |some u=>simp[h2,bb]
    ·rw[(fg _ _).2 h2]
     simp only[h0,h1,h2,false_or,bb,decide_eq_true_eq]
     by_cases h3:s∈l
     ·simp only[h3,if_true]
      exact⟨fun h=>.inl h,fun h=>by rcases h with h|rfl<;>assumption⟩
     ·simp only[h3,if_false,aK,aS,eq_comm]
 |
  plus ha hb i1 i2 =>
  intro bd l y
  rw[j1,if_neg (by decide),dI,i2,i1]
  simp[bb,or_assoc]
 |
  times ha hb i1 i2 =>
  intro bd l y
  rw[j1,if_neg (by decide),dk,i2,i1]
  simp[bb,or_assoc]
 |
  rc hn hb i =>
  intro bd l y
  rw[j1,if_pos (show (E.atom [114,101,99]).at=[114,101,99] from rfl),e7,i]
  rfl
theorem eM:∀(t:Ty) (out:List Nm) (y:Nm),y∈bI t out↔y∈out\/bb y t=true
 |
  .name s,out,y=>by
  simp only[bI,oV,bb,decide_eq_true_eq]
  split
  ·rename_i h;exact⟨fun h=>.inl h,fun h'=>by rcases h' with h'|rfl<;>assumption⟩
  ·simp[eq_comm]
 | .plus a b,out,y=>by rw[bI,eM b,eM a];simp[bb,or_assoc]
 | .times a b,out,y=>by rw[bI,eM b,eM a];simp[bb,or_assoc]
 | .rc a,out,y=>by rw[bI,eM a];rfl
 | .zero,out,y=>by simp[bI,bb]
 | .one,out,y=>by simp[bI,bb]
 | .bound k,out,y=>by simp[bI,bb]
end Go.Proofs.Trees
namespace Go.Proofs.Trees
open Go Go.VL Go.RowKit
abbrev dC:Nm:=[114,101,99]
theorem dQ(s:Nm):(E.atom s).at=s:=rfl
def rC(x:Nm)(u:E):E->E
 | .atom s=>if s=x then u else .atom s
 | .list [h,a,b]=>if h.at=dC then(if a.at=x then .list [h,a,b]else .list [.atom dC,a,rC x u b])else .list [.atom h.at,rC x u a,rC x u b]
 | .list l=>.list l
def mF(x:Nm):E->Nat
 | .atom s=>if s=x then 1 else 0
 | .list [h,a,b]=>if h.at=dC then(if a.at=x then 0 else mF x b)else mF x a+mF x b
 | .list _=>0
def uB(p:Nm->Prop):E->Prop
 | .atom _=>True
 | .list [h,a,b]=>(if h.at=dC then p a.at else uB p a)/\uB p b
 | .list _=>True
def ff(x:Nm):Ty->Nat
 | .name s=>if s=x then 1 else 0
 | .plus a b=>ff x a+ff x b
 | .times a b=>ff x a+ff x b
 | .rc a=>ff x a
 |_=>0
theorem vr(x:Nm)(u a b:E):rC x u (.list [.atom [43],a,b])=.list [.atom [43],rC x u a,rC x u b]:=by rw[rC,if_neg (by decide)];rfl
theorem tD(x:Nm)(u a b:E):rC x u (.list [.atom [42],a,b])=.list [.atom [42],rC x u a,rC x u b]:=by rw[rC,if_neg (by decide)];rfl
theorem AA(x:Nm)(u:E)(n:Nm)(b:E):rC x u (.list [.atom dC,.atom n,b])=if n=x then .list [.atom dC,.atom n,b]else .list [.atom dC,.atom n,rC x u b]:=by rw[rC,if_pos (dQ _)];rfl
theorem rK(x:Nm)(a b:E):mF x (.list [.atom [43],a,b])=mF x a+mF x b:=by rw[mF,if_neg (by decide)]
theorem pI(x:Nm)(a b:E):mF x (.list [.atom [42],a,b])=mF x a+mF x b:=by rw[mF,if_neg (by decide)]
theorem wJ(x:Nm)(n:Nm)(b:E):mF x (.list [.atom dC,.atom n,b])=if n=x then 0 else mF x b:=by rw[mF,if_pos (dQ _)];rfl
theorem oM(p:Nm->Prop)(a b:E):uB p (.list [.atom [43],a,b])↔uB p a/\uB p b:=by rw[uB,if_neg (by decide)]
theorem mH(p:Nm->Prop)(a b:E):uB p (.list [.atom [42],a,b])↔uB p a/\uB p b:=by rw[uB,if_neg (by decide)]
theorem uq(p:Nm->Prop)(n:Nm)(b:E):uB p (.list [.atom dC,.atom n,b])↔p n/\uB p b:=by rw[uB,if_pos (dQ _)];rfl
theorem Ai{p q:Nm->Prop}(h:∀n,p n->q n){e:E}(hw:Wf e):uB p e->uB q e:=by
 induction hw with
 |atom _=>exact fun _=>trivial
 |plus _ _ i1 i2=>rw[oM,oM];exact fun g=>⟨i1 g.1,i2 g.2⟩
 |times _ _ i1 i2=>rw[mH,mH];exact fun g=>⟨i1 g.1,i2 g.2⟩
 |rc _ _ i=>rw[uq,uq];exact fun g=>⟨h _ g.1,i g.2⟩
theorem iN{s:Nm}(hs:qG s){ar:List Nm}(h:s∉ar):cJ (.atom s) ar=.name s:=by
 simp only[cJ];rw[if_neg hs.2.1,if_neg hs.2.2,(fg s ar).2 h]
theorem D7{x:Nm}(hx:qG x){u:E}(hu:Wf u){e:E}(h:Wf e):uB (fun n=>n≠x/\bb n (cJ u [])=false) e->∀ar,x∉ar->(∀y,y∈ar->bb y (cJ u [])=false)->Wf (rC x u e)/\cJ (rC x u e) ar=sub x (cJ u []) (cJ e ar):=by
 induction h with
 |
  @atom s hs =>
  intro _ ar har hy
  by_cases e:s=x
  ·subst e
   have:cJ u (ar++[])=cJ u []:=ub ar hu [] fun y hy' hm=>by rw[hy y hm]at hy';cases hy'
   rw[cR]at this
   rw[iN hx har]
   simp only[rC,sub,if_true]
   exact⟨hu,this⟩
  ·simp only[rC,if_neg e]
   refine⟨.atom hs,?_⟩
   simp only[cJ]
   split
   ·rfl
   ·split
    ·rfl
    ·split
     ·rfl
     ·simp only[sub,if_neg e]
 |
  plus ha hb i1 i2 =>
  intro hap ar har hy
  rw[oM]at hap
  obtain⟨w1,e1⟩:=i1 hap.1 ar har hy
  obtain⟨w2,e2⟩:=i2 hap.2 ar har hy
  rw[vr,dI,dI,e1,e2]
  exact⟨.plus w1 w2,rfl⟩
 |
  times ha hb i1 i2 =>
  intro hap ar har hy
  rw[mH]at hap
  obtain⟨w1,e1⟩:=i1 hap.1 ar har hy
  obtain⟨w2,e2⟩:=i2 hap.2 ar har hy
  rw[tD,dk,dk,e1,e2]
  exact⟨.times w1 w2,rfl⟩
 |
  @rc n b hn hb i =>
  intro hap ar har hy
  rw[uq]at hap
  obtain⟨w1,e1⟩:=i hap.2 (ar++[n]) (by
   simp only[aK,aS]
   rintro(h|h)
   ·exact har h
   ·exact hap.1.1 h.symm) (fun y hm=>by
   simp only[aK,aS]at hm
   rcases hm with hm|rfl
   ·exact hy y hm
   ·exact hap.1.2)
  rw[AA,if_neg hap.1.1,e7,e7]
  refine⟨.rc hn w1,?_⟩
  show Ty.rc (cJ (rC x u b) (ar++[n]))=_
  rw[e1];rfl
theorem Cr{x:Nm}(hx:qG x){e:E}(h:Wf e):∀ar,ff x (cJ e ar)=if x∈ar then 0 else mF x e:=by
 induction h with
 |
  @atom s hs =>
  intro ar
  by_cases e:s=x
  ·subst e
   by_cases hm:s∈ar
   ·rw[if_pos hm]
    simp only[cJ];rw[if_neg hx.2.1,if_neg hx.2.2]
    cases q:cb s ar ar.length with
    |none=>exact absurd hm ((fg _ _).1 q)
    |some u=>rfl
   ·rw[if_neg hm,iN hx hm];simp[ff,mF]
  ·have:ff x (cJ (.atom s) ar)=0:=by
    simp only[cJ]
    split
    ·rfl
    ·split
     ·rfl
     ·split
      ·rfl
      ·simp[ff,e]
   rw[this];simp[mF,e]
 |plus ha hb i1 i2=>intro ar;rw[dI,rK,ff,i1,i2];split<;>simp
 |times ha hb i1 i2=>intro ar;rw[dk,pI,ff,i1,i2];split<;>simp
 |
  @rc n b hn hb i =>
  intro ar
  rw[e7,wJ,ff,i]
  simp only[dQ,aK,aS]
  by_cases h1:x∈ar
  ·simp[h1]
  ·by_cases h2:x=n
   ·simp[h2]
   ·simp[h1,h2,Ne.symm h2]
theorem dT(x:Nm)(u:Ty):∀t:Ty,(sub x u t).atoms+ff x t=t.atoms+ff x t*u.atoms
 | .name s=>by simp only[sub,ff];split<;>simp[Ty.atoms];omega
 | .plus a b=>by have:=dT x u a;have:=dT x u b;simp only[sub,Ty.atoms,ff,Nat.add_mul];omega
 | .times a b=>by have:=dT x u a;have:=dT x u b;simp only[sub,Ty.atoms,ff,Nat.add_mul];omega
 | .rc a=>by have:=dT x u a;simp only[sub,Ty.atoms,ff];omega
 | .zero=>by simp[sub,ff]
 | .one=>by simp[sub,ff]
 | .bound k=>by simp[sub,ff]
abbrev tN(m:Nat):Nm:=116::dd m
theorem ED(m:Nat):dd m≠[]:=by
 by_cases h:m<10
 ·rw[ez h];simp
 ·rw[fe h];simp
theorem wh:∀(n m k:Nat),m<n->dd m=dd k->m=k
 |0,m,k,h,_=>by omega
 |
  n+1,m,k,h,e=>by
  have d10:∀{a b:Nat},a<10->b<10->a8 (48+a)=a8 (48+b)->a=b:=fun {a b} ha hb h=>by
   have:=congrArg UInt8.toNat h
   simp only[UInt8.toNat_ofNat']at this
   omega
  by_cases h1:m<10<;>by_cases h2:k<10
  ·rw[ez h1,ez h2]at e
   simp only[List.cons.injEq,and_true]at e
   exact d10 h1 h2 e
  ·rw[ez h1,fe h2]at e
   have:=congrArg List.length e
   have:dd (k/10)=[]:=by
    apply bV
    simp at this;simpa using this
   exact absurd this (ED _)
  ·rw[fe h1,ez h2]at e
   have:=congrArg List.length e
   have:dd (m/10)=[]:=by
    apply bV
    simp at this;simpa using this
   exact absurd this (ED _)
  ·rw[fe h1,fe h2]at e
   obtain⟨e1,e2⟩:=List.append_inj' e rfl
   have:=wh n (m/10) (k/10) (by omega) e1
   simp only[List.cons.injEq,and_true]at e2
   have:=d10 (Nat.mod_lt _ (by omega)) (Nat.mod_lt _ (by omega)) e2
   omega
theorem An{m k:Nat}(h:tN m=tN k):m=k:=wh (m+1) m k (by omega) (List.cons.inj h).2
theorem xV(m:Nat):qG (tN m):=⟨by simp,by simp,by simp⟩
theorem Rt:∀(l F:List Nm),l.Nodup->(∀x,x∈l->x∈F)->l.length<=F.length
 |[],_,_,_=>dN _
 |
  x::l,F,hn,hs=>by
  obtain⟨h1,h2⟩:=List.nodup_cons.1 hn
  have hx:=hs x ai
  have:=Rt l (F.erase x) h2 fun y hy=>(List.mem_erase_of_ne (fun e=>h1 (by rw[<-e];exact hy))).2 (hs y (al _ hy))
  rw[List.length_erase_of_mem hx]at this
  have:0<F.length:=List.length_pos_of_mem hx
  simp only[au];omega
def p8(F:List Nm):Nat->Nat->Nat
 |0,k=>k
 |n+1,k=>if tN k∈F then p8 F n (k+1)else k
theorem vR(F:List Nm):∀(n k:Nat),k<=p8 F n k/\p8 F n k<=k+n/\(∀j,k<=j->j<p8 F n k->tN j∈F)/\(p8 F n k<k+n->tN (p8 F n k)∉F)
 |0,k=>⟨aw _,aw _,fun j h1 h2=>by simp only[p8]at h2;omega,fun h=>by simp only[p8]at h;omega⟩
 |
  n+1,k=>by
  rw[p8]
  split
  ·rename_i hm
   obtain⟨h1,h2,h3,h4⟩:=vR F n (k+1)
   refine⟨by omega,by omega,fun j hj hl=>?_,fun h=>h4 (by omega)⟩
   by_cases e:j=k
   ·subst e;exact hm
   ·exact h3 j (by omega) hl
  ·rename_i hm
   exact⟨aw _,by omega,fun j h1 h2=>by omega,fun _=>hm⟩
def nx(F:List Nm)(k:Nat):Nat:=p8 F (F.length+1) k
theorem gb(F:List Nm)(k:Nat):k<=nx F k/\nx F k<=k+F.length/\(∀j,k<=j->j<nx F k->tN j∈F)/\tN (nx F k)∉F:=by
 obtain⟨h1,h2,h3,h4⟩:=vR F (F.length+1) k
 have hlt:nx F k<k+(F.length+1):=by
  rcases Nat.lt_or_ge (nx F k) (k+(F.length+1))with h|h
  ·exact h
  ·exfalso
   have:=Rt ((List.range' k (F.length+1)).map tN) F (by
    refine List.Pairwise.map _ (fun a b hab e=>hab (An e)) List.nodup_range') (fun x hx=>by
    obtain⟨j,hj,rfl⟩:=bJ.1 hx
    obtain⟨i,hi,rfl⟩:=List.mem_range'.1 hj
    exact h3 _ (by omega) (by show _<nx F k;omega))
   simp at this
   omega
 exact⟨h1,by unfold nx at hlt |-;omega,h3,h4 hlt⟩
theorem AE{F F':List Nm}(h:∀y,y∈F↔y∈F')(k:Nat):nx F k=nx F' k:=by
 obtain⟨a1,a2,a3,a4⟩:=gb F k
 obtain⟨b1,b2,b3,b4⟩:=gb F' k
 rcases Nat.lt_trichotomy (nx F k) (nx F' k)with hl|he|hl
 ·exact absurd ((h _).2 (b3 _ a1 hl)) a4
 ·exact he
 ·exact absurd ((h _).1 (a3 _ b1 hl)) b4
def gD(F:List Nm):Ty->List Nm->Nat->E×Nat
 | .zero,_,k=>(.atom [48],k)
 | .one,_,k=>(.atom [49],k)
 | .name s,_,k=>(.atom s,k)
 | .bound u,to,k=>(.atom (jG to u),k)
 | .plus a b,to,k=>(.list [.atom [43],(gD F a to k).1,(gD F b to (gD F a to k).2).1],(gD F b to (gD F a to k).2).2)
 | .times a b,to,k=>(.list [.atom [42],(gD F a to k).1,(gD F b to (gD F a to k).2).1],(gD F b to (gD F a to k).2).2)
 | .rc a,to,k=>(.list [.atom dC,.atom (tN (nx F k)),(gD F a (to++[tN (nx F k)]) (nx F k+1)).1],(gD F a (to++[tN (nx F k)]) (nx F k+1)).2)
theorem jt{F F':List Nm}(h:∀y,y∈F↔y∈F'):∀(t:Ty) (to:List Nm) (k:Nat),gD F t to k=gD F' t to k
 | .zero,_,_=>rfl
 | .one,_,_=>rfl
 | .name _,_,_=>rfl
 | .bound _,_,_=>rfl
 | .plus a b,to,k=>by simp only[gD];rw[jt h a,jt h b]
 | .times a b,to,k=>by simp only[gD];rw[jt h a,jt h b]
 | .rc a,to,k=>by simp only[gD];rw[AE h,jt h a]
def jd:Ty->Nat->Prop
 | .bound u,i=>u<i
 | .plus a b,i=>jd a i/\jd b i
 | .times a b,i=>jd a i/\jd b i
 | .rc a,i=>jd a (i+1)
 |_,_=>True
theorem tL{e:E}(h:Wf e):∀ar,jd (cJ e ar) ar.length:=by
 induction h with
 |
  @atom s hs =>
  intro ar
  simp only[cJ]
  split
  ·trivial
  ·split
   ·trivial
   ·split
    ·rename_i u q;exact(kP _ _ (aw _) q).1
    ·trivial
 |plus ha hb i1 i2=>intro ar;rw[dI];exact⟨i1 ar,i2 ar⟩
 |times ha hb i1 i2=>intro ar;rw[dk];exact⟨i1 ar,i2 ar⟩
 |
  @rc n b hn hb i =>
  intro ar;rw[e7]
  have:=i (ar++[(E.atom n).at])
  rw[aq]at this
  exact this
structure Gn(F to:List Nm)(k:Nat):Prop where
 out:∀w,w∈to->w∉F
 lt:∀w,w∈to->∃j,j<k/\w=tN j
 nd:to.Nodup
theorem Gn.nil(F:List Nm)(k:Nat):Gn F [] k:=⟨fun _ h=>(by cases h),fun _ h=>(by cases h),by simp⟩
theorem Gn.mono{F to:List Nm}{k k':Nat}(h:Gn F to k)(hk:k<=k'):Gn F to k':=⟨h.out,fun w hw=>by obtain⟨j,h1,h2⟩:=h.lt w hw;exact⟨j,by omega,h2⟩,h.nd⟩
theorem Gn.push{F to:List Nm}{k:Nat}(h:Gn F to k):Gn F (to++[tN (nx F k)]) (nx F k+1):=by
 obtain⟨h1,h2,h3,h4⟩:=gb F k
 refine⟨fun w hw=>?_,fun w hw=>?_,?_⟩
 ·rcases aK.1 hw with hw|hw
  ·exact h.out w hw
  ·simp only[aS]at hw;rw[hw];exact h4
 ·rcases aK.1 hw with hw|hw
  ·obtain⟨j,g1,g2⟩:=h.lt w hw;exact⟨j,by omega,g2⟩
  ·simp only[aS]at hw;exact⟨_,by omega,hw⟩
 ·refine List.nodup_append.2 ⟨h.nd,by simp,fun a ha b hb e=>?_⟩
  simp only[aS]at hb
  obtain⟨j,g1,g2⟩:=h.lt a ha
  rw[e,hb]at g2
  have:=An g2
  omega
theorem uJ{to:List Nm}(hn:to.Nodup){u:Nat}(hu:u<to.length):cb (jG to u) to to.length=some u:=by
 have hm:jG to u∈to:=by
  unfold jG
  have:to.length-1-u<to.length:=by omega
  simp[aa,this]
 cases q:cb (jG to u) to to.length with
 |none=>exact absurd hm ((fg _ _).1 q)
 |
  some v =>
  obtain⟨h1,h2⟩:=kP _ _ (aw _) q
  unfold jG at h2
  have e1:to.length-1-v<to.length:=by omega
  have e2:to.length-1-u<to.length:=by omega
  rw[aa,aa,bg e1,bg e2]at h2
  have hp:=List.pairwise_iff_getElem.1 hn
  have h3:to[to.length-1-v]=to[to.length-1-u]:=by simpa using h2
  rcases Nat.lt_trichotomy (to.length-1-v) (to.length-1-u)with hl|he|hl
  ·exact absurd h3 (hp _ _ e1 e2 hl)
  ·congr 1;omega
  ·exact absurd h3.symm (hp _ _ e2 e1 hl)
theorem ki(F:List Nm):∀(t:Ty) (to:List Nm) (k:Nat),Gn F to k->jd t to.length->(∀y,bb y t=true->y∈F/\qG y) ->
 Wf (gD F t to k).1/\cJ (gD F t to k).1 to=t/\k<=(gD F t to k).2/\(gD F t to k).2<=k+(F.length+1)*t.atoms/\uB (·∉F) (gD F t to k).1
 | .zero,to,k,_,_,_=>⟨.atom (by simp),rfl,aw _,cU _ _,trivial⟩
 | .one,to,k,_,_,_=>⟨.atom (by simp),rfl,aw _,cU _ _,trivial⟩
 |
  .name s,to,k,g,hl,hn=>by
  obtain⟨h1,h2⟩:=hn s (by simp[bb])
  exact⟨.atom h2.1,iN h2 (fun h=>g.out s h h1),aw _,cU _ _,trivial⟩
 |
  .bound u,to,k,g,hl,hn=>by
  have hm:jG to u∈to:=by
   unfold jG
   have:to.length-1-u<to.length:=by have:u<to.length:=hl;omega
   simp[aa,this]
  obtain⟨j,_,e⟩:=g.lt _ hm
  have hok:qG (jG to u):=by rw[e];exact xV j
  refine⟨.atom hok.1,?_,aw _,cU _ _,trivial⟩
  simp only[gD,cJ]
  rw[if_neg hok.2.1,if_neg hok.2.2,uJ g.nd hl]
 |
  .plus a b,to,k,g,hl,hn=>by
  obtain⟨a1,a2,a3,a4,a5⟩:=ki F a to k g hl.1 fun y hy=>hn y (by simp[bb,hy])
  obtain⟨b1,b2,b3,b4,b5⟩:=ki F b to _ (g.mono a3) hl.2 fun y hy=>hn y (by simp[bb,hy])
  simp only[gD,dI,a2,b2,oM,Ty.atoms]
  refine⟨.plus a1 b1,trivial,by omega,?_,a5,b5⟩
  have:(F.length+1)*(1+a.atoms+b.atoms)=(F.length+1)+(F.length+1)*a.atoms+(F.length+1)*b.atoms:=by simp only[cM,dq]
  omega
 |
  .times a b,to,k,g,hl,hn=>by
  obtain⟨a1,a2,a3,a4,a5⟩:=ki F a to k g hl.1 fun y hy=>hn y (by simp[bb,hy])
  obtain⟨b1,b2,b3,b4,b5⟩:=ki F b to _ (g.mono a3) hl.2 fun y hy=>hn y (by simp[bb,hy])
  simp only[gD,dk,a2,b2,mH,Ty.atoms]
  refine⟨.times a1 b1,trivial,by omega,?_,a5,b5⟩
  have:(F.length+1)*(1+a.atoms+b.atoms)=(F.length+1)+(F.length+1)*a.atoms+(F.length+1)*b.atoms:=by simp only[cM,dq]
  omega
 |
  .rc a,to,k,g,hl,hn=>by
  obtain⟨h1,h2,h3,h4⟩:=gb F k
  obtain⟨a1,a2,a3,a4,a5⟩:=ki F a (to++[tN (nx F k)]) (nx F k+1) g.push (by rw[aq];exact hl) hn
  simp only[gD,e7,dQ,a2,uq,Ty.atoms]
  refine⟨.rc (xV _) a1,trivial,by omega,?_,h4,a5⟩
  have:(F.length+1)*(2+a.atoms)=(F.length+1)*2+(F.length+1)*a.atoms:=by simp only[cM]
  omega
end Go.Proofs.Trees
namespace Go.Proofs.Trees
open Go Go.VL Go.RowKit
inductive kg:AV->List Nat->Prop
 |nil:kg gR []
 |cons {m:Nat} {cs:List AV} {e:AV} {ids:List Nat} (hm:m∉ids) (h:kg e ids):kg (.ptr [.pid m cs,e]) (m::ids)
theorem kg.has{a:AV}{ids:List Nat}(h:kg a ids):LK.has .ptr a:=by
 cases h
 ·exact(iT).mpr trivial
 ·exact(ca _).mpr trivial
theorem kg.RC{M:Mem}{a:AV}{ids:List Nat}(h:kg a ids):∀{v:Value},bx M dm a v->∀b,b∈ids->M.p b:=by
 induction h with
 |nil=>intro v _ b hb;cases hb
 |
  @cons m cs e ids hm h ih =>
  intro v hr b hb
  cases hr with
  |
   ptr _ _ _ off us hc hr =>
   have h0:=hr 0 (by simp)
   have h1:=hr 1 (by simp)
   simp only[bp,List.getD_cons_succ]at h0 h1
   rcases aH.1 hb with rfl|hb
   ·generalize us 0=u0 at h0
    cases h0 with
    |pid _ _ _ us hp _ _=>exact hp
   ·exact ih h1 b hb
theorem kg.nodup{a:AV}{ids:List Nat}(h:kg a ids):ids.Nodup:=by
 induction h with
 |nil=>simp
 |cons hm h ih=>exact List.nodup_cons.2 ⟨hm,ih⟩
theorem zS(a b:AV)(S:Nat->Prop)(R:AV->Prop):Bj Jc cfg ep (cQ ep) [.agg [.x a,.x b]] S (fun o=>aJ o 7) R =
 .aj (LK.has .ptr a/\a.isNil=false) (.aj (LK.has .ptr a/\a.isNil=false) (.aj (LK.has .ptr ((a.deref.drop 3).headD .any)/\1<=(a.deref.drop 3).length)
  (.aj (∀ids:Nat->Nat,(∀o,¬S (ids o))->(True/\R (.cy [.agg [(a.deref.drop 3).headD .any,.ptr [.pid (ids 7) [a,b],b]],.pid (ids 7) [a,b]]))) (.done 0 [] [])))):=by kernel_rfl
def BF(t:Ty)(ea:AV)(ids:List Nat):AV->List Ob->Prop:=fun r o=>(∃m,m∉ids/\r=.cy [.agg [t.av,.ptr [.pid m [(Ty.rc t).av,ea],ea]],.pid m [(Ty.rc t).av,ea]])/\o=[]
theorem BF.ne(t:Ty)(ea:AV)(ids:List Nat):∃r o,BF t ea ids r o:=by
 have:∃m,m∉ids:=⟨ids.foldr max 0+1,fun h=>by
  have key:∀(l:List Nat) (x:Nat),x∈l->x<=l.foldr max 0:=by
   intro l
   induction l with
   |nil=>intro x hx;cases hx
   |
    cons y l ih =>
    intro x hx
    rcases aH.1 hx with rfl|hx
    ·simp only[List.foldr_cons];omega
    ·have:=ih x hx;simp only[List.foldr_cons];omega
  have:=key _ _ h
  omega⟩
 obtain⟨m,hm⟩:=this
 exact⟨_,_,⟨m,hm,rfl⟩,rfl⟩
theorem CD(t:Ty)(ea:AV)(ids:List Nat)(he:kg ea ids):an Tryz.prog 48 [.agg [(Ty.rc t).av,ea]] [] (BF t ea ids):=by
 have hup:wi [.agg [(Ty.rc t).av,ea]] [.agg [.x (Ty.rc t).av,.x ea]]:=ah (cj (ah (bA ((aF _).mpr trivial)) (ah (bA he.has) aD))) aD
 refine an.up hup ?_
 refine an.RU (cfg:=cfg) (F:=ep) (S:=fun b=>b∈ids) (sel:=fun o=>aJ o 7) tF mixed (by kernel_rfl) (by kernel_rfl) (c:=cQ ep) (by kernel_rfl) (by kernel_rfl) (fun M β vs hr b hb=>?_) ?_
 ·have h0:=hr 0 (by simp)
  simp only[bp]at h0
  obtain⟨us,_,hl,hq,_⟩:=fM h0
  have h1:=hq 1 (by simp at hl |-)
  simp only[List.getD_cons_succ,bp]at h1
  cases h1 with
  |x _ _ _ _ h=>exact he.RC h b hb
 ·rw[zS]
  simp only[Ty.av,↓zq,zs,ag,aF]
  exact⟨by omega,fun ids' hf=>⟨ids' 7,hf 7,rfl⟩⟩
theorem KV(u:Nat)(hu:u<1000000):∀(k i:Nat) (ea:AV) (ids:List Nat),i+k=u->kg ea ids->k<=ids.length->Cg [ea,.v (.int .i64 (u:Int)),.v (.int .i64 (i:Int))] [] (fun t ys o=>t=1/\∃e',kg e' (ids.drop k)/\ys=[e']/\o=[])
 |
  0,i,ea,ids,hi,he,hk=>by
  refine CE _ _ _ ?_
  have:i=u:=by omega
  subst this
  simp only[Ax,↓zq,zs,ag]
  exact⟨he.has,fun h=>by omega,fun _=>⟨ea,he,rfl⟩⟩
 |
  k+1,i,ea,ids,hi,he,hk=>by
  refine CE _ _ _ ?_
  cases he with
  |nil=>simp at hk
  |
   @cons m cs e ids' hm h =>
   simp only[Ax,↓zq,zs,ag,h.has]
   refine⟨fun _=>⟨by omega,?_⟩,fun h=>by omega⟩
   rw[bS i (by omega)]
   exact KV u hu k (i+1) e ids' (by omega) h (by simpa using hk)
theorem PX(u:Nat)(ea:AV)(ids:List Nat)(he:kg ea ids)(hu:u<ids.length)(hl:ids.length<1000000):an Tryz.prog 121 [.agg [(Ty.bound u).av,ea]] [] (fun r o=>(∃cs,r=.pid (ids.getD u 0) cs)/\o=[]):=by
 refine IG _ _ ((aF _).mpr trivial) he.has ?_
 simp only[GJ,Ty.av,↓zq,zs,ag,he.has]
 refine⟨by omega,mq (KV u (by omega) u 0 ea ids (by omega) he (by omega)) ?_ (fun ys o h=>by cases h.1)⟩
 rintro ys o ⟨_,e',he',rfl,rfl⟩
 have hd:ids.drop u=ids.getD u 0::ids.drop (u+1):=by
  rw[aY hu];simp[aa,hu]
 rw[hd]at he'
 cases he' with
 |
  @cons m cs e ids' hm h =>
  have hp:LK.has .ptr (AV.pid (ids.getD u 0) cs):=.inr (.inr ⟨_,_,rfl⟩)
  simp only[↓zq,zs,ag,hp]
  exact⟨by omega,cs,rfl⟩
inductive zW:Tg->List Nat->List UInt8->AV->Prop
 |nm (s:List UInt8) (ids:List Nat):zW (.nm s) ids s gR
 |bd {k:Nat} {ids:List Nat} (hk:k<ids.length) (cs:List AV) (s:List UInt8):zW (.bd k) ids s (.pid (ids.getD k 0) cs)
theorem zW.has{tg:Tg}{ids:List Nat}{s:List UInt8}{fr:AV}(h:zW tg ids s fr):LK.has .ptr fr:=by
 cases h
 ·exact(iT).mpr trivial
 ·exact .inr (.inr ⟨_,_,rfl⟩)
theorem zW.push{tg:Tg}{ids:List Nat}{s:List UInt8}{fr:AV}(h:zW tg ids s fr)(m:Nat):zW tg.up (m::ids) s fr:=by
 cases h with
 |nm=>exact .nm _ _
 |
  @bd k _ hk cs =>
  have:=zW.bd (k:=k+1) (ids:=m::ids) (by simpa using hk) cs s
  simpa[Tg.up]using this
theorem za{ids:List Nat}(h:ids.Nodup){i j:Nat}(hi:i<ids.length)(hj:j<ids.length)(he:ids.getD i 0=ids.getD j 0):i=j:=by
 have e1:ids.getD i 0=ids[i]:=by simp[aa,hi]
 have e2:ids.getD j 0=ids[j]:=by simp[aa,hj]
 rw[e1,e2]at he
 have hp:=List.pairwise_iff_getElem.1 h
 rcases Nat.lt_trichotomy i j with hlt|rfl|hlt
 ·exact absurd he (hp i j hi hj hlt)
 ·rfl
 ·exact absurd he.symm (hp j i hj hi hlt)
theorem OU(t:Ty)(tg:Tg)(ea:AV)(ids:List Nat)(s:List UInt8)(fr:AV)(he:kg ea ids)(ht:zW tg ids s fr)(hu:∀u,t=.bound u->u<ids.length)(hl:ids.length<1000000) :
 an Tryz.prog 85 [.agg [.v (.string (mk s)),fr],.agg [t.av,ea]] [] (bB (.v (.bool (eN t tg)))):=by
 refine Ol _ _ _ _ ht.has ((aF _).mpr trivial) he.has ?_
 cases ht with
 |
  nm s =>
  cases t<;>simp[CV,Ty.av,↓zq,zs,ag,zt,bB,eN]
  rw[cF];simp
 |
  @bd k _ hk cs s =>
  generalize hm0:ids.getD k 0=m0
  have hp:LK.has .ptr (AV.pid m0 cs):=.inr (.inr ⟨_,_,rfl⟩)
  have hn:(AV.pid m0 cs).isNil=false:=rfl
  cases t with
  |
   bound u =>
   have hu:=hu u rfl
   simp only[CV,Ty.av,↓zq,zs,ag,hp,hn]
   refine⟨fun _=>⟨by omega,fun _=>?_,fun h=>absurd rfl h⟩,fun h=>by cases h⟩
   have hb:=PX u ea ids he hu hl
   simp only[Ty.av]at hb
   refine aO hb ⟨_,_,⟨[],rfl⟩,rfl⟩ ?_
   rintro r o ⟨⟨cs',rfl⟩,rfl⟩
   have hp':LK.has .ptr (AV.pid (ids.getD u 0) cs'):=.inr (.inr ⟨_,_,rfl⟩)
   simp only[↓zq,zs,ag,hp',AV.rQ,AV.Bq,bB,eN]
   congr 2
   rw[cF,Nat.beq_eq,decide_eq_true_eq,<-hm0]
   exact⟨fun h=>za he.nodup hu hk h,fun h=>by rw[h]⟩
  |_=>simp[CV,Ty.av,↓zq,zs,ag,hp,hn,bB,eN]
end Go.Proofs.Trees
namespace Go.Proofs.Trees
open Go Go.VL Go.RowKit
theorem zD(b:Int)(a:AV)(h:LK.ptr.has a):an Tryz.prog 90 [.v (.int .u8 b),a] [] (bB (.ptr [.v (.int .u8 b),.v (.string (mk [])),a,gR])):=by
 refine QC _ _ h ?_
 simp[Iw,↓zq,zs,ag,bB]
end Go.Proofs.Trees
namespace Go.Proofs.Trees
open Go Go.VL Go.RowKit
def ia(l:List Hl):List (List AV):=l.map fun h=>[h.1.cv,h.2.cv]
theorem eC(l:List Hl):(ia l).length=l.length:=by simp[ia]
theorem mL{l:List Hl}{i:Nat}(hi:i<l.length):(ia l).getD i []=[(l[i]).1.cv,(l[i]).2.cv]:=by simp[ia,aa,hi]
theorem nW(out:List Hl)(a b:Vl):ia out++[[a.cv,b.cv]]=ia (out++[(a,b)]):=by simp[ia]
theorem l7(g:Vl->Vl)(l:List Hl){i:Nat}(hi:i<l.length):kp g (l.drop i)=(g (l[i]).1,(l[i]).2)::kp g (l.drop (i+1)):=by
 rw[aY hi];rfl
theorem lh(g:Vl->Vl)(l:List Hl):(kp g l).length=l.length:=by simp[kp]
theorem AJ(a b:AV):cV 2 [[a,b]]:=fun c hc=>by simp at hc;rw[hc];rfl
theorem KA(x0:AV)(hx0:LK.ptr.has x0)(g:Vl->Vl)(hg:∀c:Vl,an Tryz.prog 89 [c.cv,.ref 0 0] [.cells [x0]] (cK (g c).cv [.cells [x0]]))(l:List Hl):∀(k i:Nat) (out:List Hl),i+k=l.length->out.length+k<=1000000->l.length<=1000000 ->
 Hs [.sl (ia l),.v (.int .i64 (l.length:Int)),.v (.int .i64 (i:Int))] [.cells [x0],.cells [.any],.vec 2 (ia out)] (jX 1 [] [.cells [x0],.cells [.any],.vec 2 (ia (out++kp g (l.drop i)))])
 |
  0,i,out,hi,ho,hl=>by
  refine Ij _ _ _ _ _ ?_
  have:i=l.length:=by omega
  subst this
  simp only[Hk,↓zq,zs,ag,eC,hx0]
  exact⟨fun h=>by omega,fun _=>by simp[jX,kp]⟩
 |
  k+1,i,out,hi,ho,hl=>by
  have hlt:i<l.length:=by omega
  refine Ij _ _ _ _ _ ?_
  simp only[Hk,↓zq,zs,ag,zt,eC,mL hlt,aM,bF,hx0]
  refine⟨fun _=>⟨by omega,by omega,?_⟩,fun h=>by omega⟩
  refine aU (hg _) ?_
  simp only[↓zq,zs,ag,aM,aL,bB,cK,hx0]
  refine⟨⟨AJ _ _,by omega⟩,?_⟩
  rw[bS i (by omega)]
  have:=KA x0 hx0 g hg l k (i+1) (out++[(g (l[i]).1,(l[i]).2)]) (by omega) (by simp;omega) hl
  rw[bK]at this
  rw[l7 g l hlt,nW]
  exact this
theorem L3(x0:AV)(hx0:LK.ptr.has x0)(g:Vl->Vl)(hg:∀c:Vl,an Tryz.prog 89 [c.cv,.ref 0 0] [.cells [x0]] (cK (g c).cv [.cells [x0]]))(l out:List Hl)(hl:out.length+l.length<=1000000) :
 an Tryz.prog 86 [.sl (ia l),.fn 89 [.ref 0 0],.ref 1 0] [.cells [x0],.cells [.vec 2],.vec 2 (ia out)] (cK .any [.cells [x0],.cells [.vec 2],.vec 2 (ia (out++kp g l))]):=by
 refine NW _ _ _ ((ck _).mpr trivial) hx0 ?_
 simp only[LX,↓zq,zs,ag,eC]
 have h:=KA x0 hx0 g hg l l.length 0 out (by omega) (by omega) (by omega)
 rw[bG]at h
 refine cX h ?_
 simp[↓zq,zs,ag,cK,aL,hx0]
theorem Lt(x0:AV)(hx0:LK.ptr.has x0)(g:Vl->Vl)(hg:∀c:Vl,an Tryz.prog 91 [c.cv,.ref 0 0] [.cells [x0]] (cK (g c).cv [.cells [x0]]))(l:List Hl):∀(k i:Nat) (out:List Hl),i+k=l.length->out.length+k<=1000000->l.length<=1000000 ->
 EU [.sl (ia l),.v (.int .i64 (l.length:Int)),.v (.int .i64 (i:Int))] [.cells [x0],.cells [.any],.vec 2 (ia out)] (jX 1 [] [.cells [x0],.cells [.any],.vec 2 (ia (out++kp g (l.drop i)))])
 |
  0,i,out,hi,ho,hl=>by
  refine Ko _ _ _ _ _ ?_
  have:i=l.length:=by omega
  subst this
  simp only[Hn,↓zq,zs,ag,eC,hx0]
  exact⟨fun h=>by omega,fun _=>by simp[jX,kp]⟩
 |
  k+1,i,out,hi,ho,hl=>by
  have hlt:i<l.length:=by omega
  refine Ko _ _ _ _ _ ?_
  simp only[Hn,↓zq,zs,ag,zt,eC,mL hlt,aM,bF,hx0]
  refine⟨fun _=>⟨by omega,by omega,?_⟩,fun h=>by omega⟩
  refine aU (hg _) ?_
  simp only[↓zq,zs,ag,aM,aL,bB,cK,hx0]
  refine⟨⟨AJ _ _,by omega⟩,?_⟩
  rw[bS i (by omega)]
  have:=Lt x0 hx0 g hg l k (i+1) (out++[(g (l[i]).1,(l[i]).2)]) (by omega) (by simp;omega) hl
  rw[bK]at this
  rw[l7 g l hlt,nW]
  exact this
theorem PW(x0:AV)(hx0:LK.ptr.has x0)(g:Vl->Vl)(hg:∀c:Vl,an Tryz.prog 91 [c.cv,.ref 0 0] [.cells [x0]] (cK (g c).cv [.cells [x0]]))(l out:List Hl)(hl:out.length+l.length<=1000000) :
 an Tryz.prog 86 [.sl (ia l),.fn 91 [.ref 0 0],.ref 1 0] [.cells [x0],.cells [.vec 2],.vec 2 (ia out)] (cK .any [.cells [x0],.cells [.vec 2],.vec 2 (ia (out++kp g l))]):=by
 refine NJ _ _ _ ((ck _).mpr trivial) hx0 ?_
 simp only[KX,↓zq,zs,ag,eC]
 have h:=Lt x0 hx0 g hg l l.length 0 out (by omega) (by omega) (by omega)
 rw[bG]at h
 refine cX h ?_
 simp[↓zq,zs,ag,cK,aL,hx0]
theorem IY(x0:AV)(hx0:LK.ptr.has x0)(g:Vl->Vl)(hg:∀c:Vl,an Tryz.prog 93 [c.cv,.ref 0 0] [.cells [x0]] (cK (g c).cv [.cells [x0]]))(l:List Hl):∀(k i:Nat) (out:List Hl),i+k=l.length->out.length+k<=1000000->l.length<=1000000 ->
 F5 [.sl (ia l),.v (.int .i64 (l.length:Int)),.v (.int .i64 (i:Int))] [.cells [x0],.cells [.any],.vec 2 (ia out)] (jX 1 [] [.cells [x0],.cells [.any],.vec 2 (ia (out++kp g (l.drop i)))])
 |
  0,i,out,hi,ho,hl=>by
  refine MV _ _ _ _ _ ?_
  have:i=l.length:=by omega
  subst this
  simp only[Hv,↓zq,zs,ag,eC,hx0]
  exact⟨fun h=>by omega,fun _=>by simp[jX,kp]⟩
 |
  k+1,i,out,hi,ho,hl=>by
  have hlt:i<l.length:=by omega
  refine MV _ _ _ _ _ ?_
  simp only[Hv,↓zq,zs,ag,zt,eC,mL hlt,aM,bF,hx0]
  refine⟨fun _=>⟨by omega,by omega,?_⟩,fun h=>by omega⟩
  refine aU (hg _) ?_
  simp only[↓zq,zs,ag,aM,aL,bB,cK,hx0]
  refine⟨⟨AJ _ _,by omega⟩,?_⟩
  rw[bS i (by omega)]
  have:=IY x0 hx0 g hg l k (i+1) (out++[(g (l[i]).1,(l[i]).2)]) (by omega) (by simp;omega) hl
  rw[bK]at this
  rw[l7 g l hlt,nW]
  exact this
theorem Rf(x0:AV)(hx0:LK.ptr.has x0)(g:Vl->Vl)(hg:∀c:Vl,an Tryz.prog 93 [c.cv,.ref 0 0] [.cells [x0]] (cK (g c).cv [.cells [x0]]))(l out:List Hl)(hl:out.length+l.length<=1000000) :
 an Tryz.prog 86 [.sl (ia l),.fn 93 [.ref 0 0],.ref 1 0] [.cells [x0],.cells [.vec 2],.vec 2 (ia out)] (cK .any [.cells [x0],.cells [.vec 2],.vec 2 (ia (out++kp g l))]):=by
 refine QJ _ _ _ ((ck _).mpr trivial) hx0 ?_
 simp only[Mt,↓zq,zs,ag,eC]
 have h:=IY x0 hx0 g hg l l.length 0 out (by omega) (by omega) (by omega)
 rw[bG]at h
 refine cX h ?_
 simp[↓zq,zs,ag,cK,aL,hx0]
theorem M8(g:Vl->Vl)(hg:∀c:Vl,an Tryz.prog 94 [c.cv] [] (bB (g c).cv))(l:List Hl):∀(k i:Nat) (out:List Hl),i+k=l.length->out.length+k<=1000000->l.length<=1000000 ->
 GD [.v (.func (.func 94) #[] #[]),.sl (ia l),.v (.int .i64 (l.length:Int)),.v (.int .i64 (i:Int))] [.cells [.any],.vec 2 (ia out)] (jX 1 [] [.cells [.any],.vec 2 (ia (out++kp g (l.drop i)))])
 |
  0,i,out,hi,ho,hl=>by
  refine LQ _ _ _ _ ?_
  have:i=l.length:=by omega
  subst this
  simp only[ES,↓zq,zs,ag,eC]
  exact⟨fun h=>by omega,fun _=>by simp[jX,kp]⟩
 |
  k+1,i,out,hi,ho,hl=>by
  have hlt:i<l.length:=by omega
  refine LQ _ _ _ _ ?_
  simp only[ES,↓zq,zs,ag,zt,eC,mL hlt,aM,bF]
  refine⟨fun _=>⟨by omega,by omega,?_⟩,fun h=>by omega⟩
  refine ak (hg _) ?_
  simp only[↓zq,zs,ag,aM,aL,bB,cK]
  refine⟨⟨AJ _ _,by omega⟩,?_⟩
  rw[bS i (by omega)]
  have:=M8 g hg l k (i+1) (out++[(g (l[i]).1,(l[i]).2)]) (by omega) (by simp;omega) hl
  rw[bK]at this
  rw[l7 g l hlt,nW]
  exact this
theorem QF(g:Vl->Vl)(hg:∀c:Vl,an Tryz.prog 94 [c.cv] [] (bB (g c).cv))(l out:List Hl)(hl:out.length+l.length<=1000000) :
 an Tryz.prog 86 [.sl (ia l),.v (.func (.func 94) #[] #[]),.ref 0 0] [.cells [.vec 1],.vec 2 (ia out)] (cK .any [.cells [.vec 1],.vec 2 (ia (out++kp g l))]):=by
 refine O4 _ _ ((ck _).mpr trivial) ?_
 simp only[IW,↓zq,zs,ag,eC]
 have h:=M8 g hg l l.length 0 out (by omega) (by omega) (by omega)
 rw[bG]at h
 refine cX h ?_
 simp[↓zq,zs,ag,cK,aL]
theorem Mw(x0:AV)(x1:AV)(hx0:LK.ptr.has x0)(hx1:LK.ptr.has x1)(g:Vl->Vl)(hg:∀c:Vl,an Tryz.prog 95 [c.cv,.ref 0 0] [.cells [x0,x1]] (cK (g c).cv [.cells [x0,x1]]))(l:List Hl):∀(k i:Nat) (out:List Hl),i+k=l.length->out.length+k<=1000000->l.length<=1000000 ->
 Fk [.sl (ia l),.v (.int .i64 (l.length:Int)),.v (.int .i64 (i:Int))] [.cells [x0,x1],.cells [.any],.vec 2 (ia out)] (jX 1 [] [.cells [x0,x1],.cells [.any],.vec 2 (ia (out++kp g (l.drop i)))])
 |
  0,i,out,hi,ho,hl=>by
  refine Kc _ _ _ _ _ _ ?_
  have:i=l.length:=by omega
  subst this
  simp only[HD,↓zq,zs,ag,eC,hx0,hx1]
  exact⟨fun h=>by omega,fun _=>by simp[jX,kp]⟩
 |
  k+1,i,out,hi,ho,hl=>by
  have hlt:i<l.length:=by omega
  refine Kc _ _ _ _ _ _ ?_
  simp only[HD,↓zq,zs,ag,zt,eC,mL hlt,aM,bF,hx0,hx1]
  refine⟨fun _=>⟨by omega,by omega,?_⟩,fun h=>by omega⟩
  refine aU (hg _) ?_
  simp only[↓zq,zs,ag,aM,aL,bB,cK,hx0,hx1]
  refine⟨⟨AJ _ _,by omega⟩,?_⟩
  rw[bS i (by omega)]
  have:=Mw x0 x1 hx0 hx1 g hg l k (i+1) (out++[(g (l[i]).1,(l[i]).2)]) (by omega) (by simp;omega) hl
  rw[bK]at this
  rw[l7 g l hlt,nW]
  exact this
theorem Of(x0:AV)(x1:AV)(hx0:LK.ptr.has x0)(hx1:LK.ptr.has x1)(g:Vl->Vl)(hg:∀c:Vl,an Tryz.prog 95 [c.cv,.ref 0 0] [.cells [x0,x1]] (cK (g c).cv [.cells [x0,x1]]))(l out:List Hl)(hl:out.length+l.length<=1000000) :
 an Tryz.prog 86 [.sl (ia l),.fn 95 [.ref 0 0],.ref 1 0] [.cells [x0,x1],.cells [.vec 2],.vec 2 (ia out)] (cK .any [.cells [x0,x1],.cells [.vec 2],.vec 2 (ia (out++kp g l))]):=by
 refine Pq _ _ _ _ ((ck _).mpr trivial) hx0 hx1 ?_
 simp only[K0,↓zq,zs,ag,eC]
 have h:=Mw x0 x1 hx0 hx1 g hg l l.length 0 out (by omega) (by omega) (by omega)
 rw[bG]at h
 refine cX h ?_
 simp[↓zq,zs,ag,cK,aL,hx0,hx1]
theorem QL(w c:Vl):an Tryz.prog 89 [c.cv,.ref 0 0] [.cells [(Vl.l w).cv]] (cK (Vl.l c).cv [.cells [(Vl.l w).cv]]):=by
 refine Ia _ _ ((aM _).mpr trivial) ((aM _).mpr trivial) ?_
 simp only[ER,Vl.cv,↓zq,zs,ag,aM]
 refine⟨by omega,?_⟩
 refine ak (zD _ _ ((aM _).mpr trivial)) ?_
 simp[↓zq,zs,ag,cK,Vl.cv]
theorem Px(w c:Vl):an Tryz.prog 89 [c.cv,.ref 0 0] [.cells [(Vl.r w).cv]] (cK (Vl.r c).cv [.cells [(Vl.r w).cv]]):=by
 refine Ia _ _ ((aM _).mpr trivial) ((aM _).mpr trivial) ?_
 simp only[ER,Vl.cv,↓zq,zs,ag,aM]
 refine⟨by omega,?_⟩
 refine ak (zD _ _ ((aM _).mpr trivial)) ?_
 simp[↓zq,zs,ag,cK,Vl.cv]
theorem Rh(x y c:Vl):an Tryz.prog 91 [c.cv,.ref 0 0] [.cells [(Vl.p x y).cv]] (cK (Vl.l (.p c y)).cv [.cells [(Vl.p x y).cv]]):=by
 refine Ov _ _ ((aM _).mpr trivial) ((aM _).mpr trivial) ?_
 simp only[MP,Vl.cv,↓zq,zs,ag,aM]
 refine⟨by omega,?_⟩
 refine ak (zN _ _ ((aM _).mpr trivial) ((aM _).mpr trivial)) ?_
 simp only[↓zq,zs,ag]
 refine ak (zD _ _ ((ca _).mpr trivial)) ?_
 simp[↓zq,zs,ag,cK,Vl.cv]
theorem Qq(x y c:Vl):an Tryz.prog 93 [c.cv,.ref 0 0] [.cells [(Vl.p x y).cv]] (cK (Vl.r (.p x c)).cv [.cells [(Vl.p x y).cv]]):=by
 refine Q9 _ _ ((aM _).mpr trivial) ((aM _).mpr trivial) ?_
 simp only[Lw,Vl.cv,↓zq,zs,ag,aM]
 refine⟨by omega,?_⟩
 refine ak (zN _ _ ((aM _).mpr trivial) ((aM _).mpr trivial)) ?_
 simp only[↓zq,zs,ag]
 refine ak (zD _ _ ((ca _).mpr trivial)) ?_
 simp[↓zq,zs,ag,cK,Vl.cv]
theorem QG(kc kv c:Vl):an Tryz.prog 95 [c.cv,.ref 0 0] [.cells [kc.cv,kv.cv]] (cK (Vl.f (.r (.p kc c))).cv [.cells [kc.cv,kv.cv]]):=by
 refine QU _ _ _ ((aM _).mpr trivial) ((aM _).mpr trivial) ((aM _).mpr trivial) ?_
 simp only[JD,Vl.cv,↓zq,zs,ag,aM]
 refine ak (zN _ _ ((aM _).mpr trivial) ((aM _).mpr trivial)) ?_
 simp only[↓zq,zs,ag]
 refine ak (zD _ _ ((ca _).mpr trivial)) ?_
 simp only[↓zq,zs,ag]
 refine ak (zD _ _ ((ca _).mpr trivial)) ?_
 simp[↓zq,zs,ag,cK,Vl.cv,aM]
theorem Pw(c:Vl):an Tryz.prog 94 [c.cv] [] (bB (Vl.f (.l c)).cv):=by
 refine Re _ ((aM _).mpr trivial) ?_
 simp only[Mk,↓zq,zs,ag]
 refine ak (zD _ _ ((aM _).mpr trivial)) ?_
 simp only[↓zq,zs,ag]
 refine ak (zD _ _ ((ca _).mpr trivial)) ?_
 simp[↓zq,zs,ag,bB,Vl.cv]
end Go.Proofs.Trees
namespace Go.Proofs.Trees
open Go Go.VL Go.RowKit
abbrev HS(a:Ty)(tg:Tg):Hl->List Hl:=fun h=>kp (fun c=>.f (.r (.p h.1 c))) (cL (.rc a) tg h.2)
theorem G0(l:List Hl){i:Nat}(hi:i<l.length):l[i]∈l:=bN _
def FW(t:Ty)(ea:AV)(s:List UInt8)(fr:AV)(tg:Tg)(v:Vl):Prop:=an Tryz.prog 49 [.agg [t.av,ea],v.cv,.agg [.v (.string (mk s)),fr]] [] (bB (.sl (ia (cL t tg v))))
theorem M4(a:Ty)(ea:AV)(s:List UInt8)(fr:AV)(tg:Tg)(he:LK.ptr.has ea)(hf:LK.ptr.has fr)(l:List Hl)(hl:l.length<=1000000)(ih:∀h,h∈l->FW (.rc a) ea s fr tg h.2) :
 ∀(k i:Nat) (out:List Hl),i+k=l.length->(out++(l.drop i).flatMap (HS a tg)).length<=1000000 ->
 Fv [.sl (ia l),.v (.int .i64 (l.length:Int)),.v (.int .i64 (i:Int))] [.cells [(Ty.rc a).av,ea],.cells [.v (.string (mk s)),fr],.cells [.any],.vec 2 (ia out)] (jX 1 [] [.cells [.any],.vec 2 (ia (out++(l.drop i).flatMap (HS a tg)))])
 |
  0,i,out,hi,ho=>by
  refine MC _ _ _ _ _ _ _ _ ?_
  have:i=l.length:=by omega
  subst this
  simp only[G4,↓zq,zs,ag,eC,aF,he,hf]
  exact⟨fun h=>by omega,fun _=>by simp[jX]⟩
 |
  k+1,i,out,hi,ho=>by
  have hlt:i<l.length:=by omega
  have hd:(l.drop i).flatMap (HS a tg)=HS a tg (l[i])++(l.drop (i+1)).flatMap (HS a tg):=by rw[aY hlt,List.flatMap_cons]
  rw[hd]at ho |-
  refine MC _ _ _ _ _ _ _ _ ?_
  simp only[G4,↓zq,zs,ag,zt,eC,mL hlt,aF,aM,bF,he,hf]
  refine⟨fun _=>⟨by omega,by omega,?_⟩,fun h=>by omega⟩
  refine ak (ih _ (G0 l hlt)) ?_
  simp only[↓zq,zs,ag]
  have hb:out.length+(cL (.rc a) tg (l[i]).2).length<=1000000:=by
   simp only[aq,lh]at ho;omega
  refine aU (Of _ _ ((aM _).mpr trivial) ((aM _).mpr trivial) (fun c=>.f (.r (.p (l[i]).1 c))) (fun c=>QG (l[i]).1 (l[i]).2 c) (cL (.rc a) tg (l[i]).2) out hb) ?_
  simp only[↓zq,zs,ag,aL,aM]
  rw[bS i (by omega),<-bK]
  exact M4 a ea s fr tg he hf l hl ih k (i+1) _ (by omega) (by rw[bK];exact ho)
theorem Ek(n:Nat):∀(m:Nat) (v:Vl),v.nodes<=m->∀(e:E) (env:List Fr) (t:Ty),Ask e env t->fA n v (e,env)=true->env.length+v.nodes<100000->∀(ea:AV) (ids:List Nat),kg ea ids->ids.length=env.length->∀(tg:Tg) (s:List UInt8) (fr:AV),zW tg ids s fr->FW t ea s fr tg v
 |0,v,hm=>by have:=dB v;omega
 |
  m+1,v,hm=>by
  intro e env t A hv hl ea ids he hids tg s fr ht
  unfold FW
  refine Ra _ _ _ _ _ ((aF _).mpr trivial) he.has ((aM _).mpr trivial) ht.has ?_
  unfold Ju
  refine ak (OU t tg ea ids s fr he ht (fun u hu=>by
   rcases hG A.wf A.ty with⟨hb,_⟩|⟨u',g,rfl,_,hg⟩
   ·rw[hu]at hb;cases hb
   ·cases hu;rw[hids];exact(List.getElem?_eq_some_iff.1 hg).1) (by omega)) ?_
  have hlen:=tj t tg v
  cases hat:eN t tg with
  |
   true =>
   rw[oc v hat]
   simp only[↓zq,zs,ag,bB,ia,bz,List.map_nil,Vl.cv]
   exact⟨fun _=>trivial,fun h=>(by cases h)⟩
  |false =>
  simp only[↓zq,zs,ag]
  refine⟨fun h=>(by cases h),fun _=>?_⟩
  rcases hG A.wf A.ty with⟨hb,hq⟩|⟨u,g,rfl,hq,hu⟩
  ·have hhd:hd e env=(e,env):=lG hq
   rcases fL A.ty hb A.cl with⟨rfl,rfl⟩|⟨rfl,rfl⟩|⟨s,rfl,rfl,hp,h0,h1⟩|⟨x,a,b,t1,t2,rfl,hx,rfl,ha,hbb⟩|⟨x,a,b,t1,t2,rfl,hx,rfl,ha,hbb⟩|⟨x,a,b,t1,rfl,hx,rfl⟩
   ·rw[en hat (by cases v<;>rfl)]
    simp[Ty.av,↓zq,zs,ag,bB,ia]
   ·rw[en hat (by cases v<;>rfl)]
    simp[Ty.av,↓zq,zs,ag,bB,ia]
   ·rw[en hat (by cases v<;>rfl)]
    simp[Ty.av,↓zq,zs,ag,bB,ia]
   ·obtain⟨ok1,ok2,ok3,_⟩:=A.ok
    obtain⟨f1,f2⟩:=fQ A.cl
    have hL:=yY t1.av t2.av ea 43 (mk []) 0 ((aF _).mpr trivial) he.has
    have hR:=zI t1.av t2.av ea 43 (mk []) 0 ((aF _).mpr trivial) he.has
    cases v with
    |
     l w =>
     simp only[fA,hhd,hx,beq_self_eq_true,cn]at hv
     simp only[Vl.nodes]at hm hl hlen
     rw[qE]at hlen |-
     rw[lh]at hlen
     simp only[Ty.av,↓zq,zs,ag]
     refine⟨by omega,fun _=>?_,fun h=>absurd rfl h⟩
     refine ak hL ?_
     simp only[↓zq,zs,ag,bF,aF,he.has,Vl.cv,aM]
     refine⟨by omega,fun h=>by omega,fun _=>⟨by omega,?_⟩⟩
     refine ak (Ek n m w (by omega) a env t1 ⟨ok2,A.wf,ha,f1⟩ hv (by omega) ea ids he hids tg s fr ht) ?_
     simp only[↓zq,zs,ag]
     have hadd:=L3 (Vl.l w).cv ((aM _).mpr trivial) Vl.l (fun c=>QL w c) (cL t1 tg w) [] (by simp;omega)
     simp only[Vl.cv,ia,List.map_nil,aT]at hadd
     refine aU hadd ?_
     simp[↓zq,zs,ag,aL,bB,aM,ia,ca]
    |
     r w =>
     simp only[fA,hhd,hx,beq_self_eq_true,cn]at hv
     simp only[Vl.nodes]at hm hl hlen
     rw[qK]at hlen |-
     rw[lh]at hlen
     simp only[Ty.av,↓zq,zs,ag]
     refine⟨by omega,fun _=>?_,fun h=>absurd rfl h⟩
     refine ak hL ?_
     simp only[↓zq,zs,ag,bF,aF,he.has,Vl.cv,aM]
     refine⟨by omega,fun _=>?_,fun h=>absurd rfl h⟩
     refine ak hR ?_
     simp only[↓zq,zs,ag,bF,aF,he.has,aM]
     refine⟨by omega,?_⟩
     refine ak (Ek n m w (by omega) b env t2 ⟨ok3,A.wf,hbb,f2⟩ hv (by omega) ea ids he hids tg s fr ht) ?_
     simp only[↓zq,zs,ag]
     have hadd:=L3 (Vl.r w).cv ((aM _).mpr trivial) Vl.r (fun c=>Px w c) (cL t2 tg w) [] (by simp;omega)
     simp only[Vl.cv,ia,List.map_nil,aT]at hadd
     refine aU hadd ?_
     simp[↓zq,zs,ag,aL,bB,aM,ia,ca]
    |_=>simp[fA,hhd,hx]at hv
   ·obtain⟨ok1,ok2,ok3,_⟩:=A.ok
    obtain⟨f1,f2⟩:=fu A.cl
    have hL:=yY t1.av t2.av ea 42 (mk []) 0 ((aF _).mpr trivial) he.has
    have hR:=zI t1.av t2.av ea 42 (mk []) 0 ((aF _).mpr trivial) he.has
    cases v with
    |
     p w w' =>
     simp only[fA,hhd,hx,beq_self_eq_true,cn,az]at hv
     simp only[Vl.nodes]at hm hl hlen
     rw[qs]at hlen |-
     simp only[aq,lh]at hlen
     simp only[Ty.av,↓zq,zs,ag]
     refine⟨by omega,fun h=>by omega,fun _=>⟨fun _=>?_,fun h=>absurd rfl h⟩⟩
     refine ak hL ?_
     simp only[↓zq,zs,ag,bF,aF,he.has,Vl.cv,aM]
     refine⟨by omega,?_⟩
     refine ak (Ek n m w (by omega) a env t1 ⟨ok2,A.wf,ha,f1⟩ hv.1 (by omega) ea ids he hids tg s fr ht) ?_
     simp only[↓zq,zs,ag]
     have hadd:=PW (Vl.p w w').cv ((aM _).mpr trivial) (fun c=>.l (.p c w')) (fun c=>Rh w w' c) (cL t1 tg w) [] (by simp;omega)
     simp only[Vl.cv,ia,List.map_nil,aT]at hadd
     refine aU hadd ?_
     simp only[↓zq,zs,ag,aL,aM]
     refine ak hR ?_
     simp only[↓zq,zs,ag,bF,aF,he.has,aM]
     refine⟨by omega,?_⟩
     refine ak (Ek n m w' (by omega) b env t2 ⟨ok3,A.wf,hbb,f2⟩ hv.2 (by omega) ea ids he hids tg s fr ht) ?_
     simp only[↓zq,zs,ag]
     have hadd2:=Rf (Vl.p w w').cv ((aM _).mpr trivial) (fun c=>.r (.p w c)) (fun c=>Qq w w' c) (cL t2 tg w') (kp (fun c=>.l (.p c w')) (cL t1 tg w)) (by rw[lh];omega)
     simp only[Vl.cv,ia]at hadd2
     refine aU hadd2 ?_
     simp[↓zq,zs,ag,aL,bB,aM,ia,ca]
    |_=>simp[fA,hhd,hx]at hv
   ·obtain⟨t1',he1,h1,f1,hw1⟩:=jJ A.wf A.ok hx A.ty A.cl
    cases he1
    obtain⟨ok1,ok2,ok3,_⟩:=A.ok
    have A':Ask b (.mk a.at (.list [x,a,b]) env::env) t1:=⟨ok3,hw1,h1,f1⟩
    cases v with
    |
     f w =>
     simp only[fA,hhd,hx,beq_self_eq_true,cn]at hv
     simp only[Vl.nodes]at hm hl hlen
     rw[qJ]at hlen |-
     simp only[aq,lh]at hlen
     have hin:=CD t1 ea ids he
     simp only[Ty.av]at hin
     simp only[Ty.av,↓zq,zs,ag]
     refine⟨by omega,fun h=>by omega,fun _=>⟨fun h=>by omega,fun _=>⟨fun _=>?_,fun h=>absurd rfl h⟩⟩⟩
     refine aO hin (by have:=BF.ne t1 ea ids;simpa only[BF,Ty.av]using this) ?_
     intro r o hr
     obtain⟨⟨mm,hmm,rfl⟩,rfl⟩:=hr
     have he2:kg (.ptr [.pid mm [(Ty.rc t1).av,ea],ea]) (mm::ids):=.cons hmm he
     have hfr:LK.ptr.has (.pid mm [(Ty.rc t1).av,ea]):=.inr (.inr ⟨_,_,rfl⟩)
     simp only[Ty.av]at he2 hfr
     simp only[↓zq,zs,ag,bF,aF,he2.has,hfr,Vl.cv,aM,Ty.av]
     refine⟨by omega,?_⟩
     have i1:=Ek n m w (by omega) b _ t1 A' hv (by simp;omega) _ _ he2 (by simp[hids]) tg.up s fr (ht.push mm)
     unfold FW at i1
     refine ak i1 ?_
     simp only[↓zq,zs,ag]
     have hadd:=QF (fun c=>.f (.l c)) (fun c=>Pw c) (cL t1 tg.up w) [] (by simp;omega)
     simp only[Vl.cv,ia,List.map_nil,aT]at hadd
     refine aU hadd ?_
     simp only[↓zq,zs,ag,aL,aM]
     have i2:=Ek n m w (by omega) b _ t1 A' hv (by simp;omega) _ _ he2 (by simp[hids]) (.bd 0) [] _ (by have:=zW.bd (k:=0) (ids:=mm::ids) (by simp) [(Ty.rc t1).av,ea] [];simpa only[bp,Ty.av]using this)
     unfold FW at i2
     refine⟨by omega,?_⟩
     refine ak i2 ?_
     simp only[↓zq,zs,ag,eC]
     have hl2:=tj t1 (.bd 0) w
     have ih3:∀h,h∈cL t1 (.bd 0) w->FW (.rc t1) ea s fr tg h.2:=fun h hh=>by
      have h3:=(lW hh).1
      have h4:=iW n m w (by omega) b _ t1 A' hv 0 _ rfl h hh
      exact Ek n m h.2 (by omega) (.list [x,a,b]) env (.rc t1) A h4 (by omega) ea ids he hids tg s fr ht
     have hloop:=M4 t1 ea s fr tg he.has ht.has (cL t1 (.bd 0) w) (by omega) ih3 (cL t1 (.bd 0) w).length 0 (kp (fun c=>.f (.l c)) (cL t1 tg.up w)) (by omega) (by
      simp only[bG,aq,lh]
      have hlen2:(cL t1 tg.up w).length+((cL t1 (.bd 0) w).flatMap (HS t1 tg)).length<=1+w.nodes:=hlen
      omega)
     simp only[Ty.av,ia,bG]at hloop
     refine cX hloop ?_
     simp[↓zq,zs,ag,ag,bB,ia]
    |_=>simp[fA,hhd,hx]at hv
  ·rw[en hat (by cases v<;>rfl)]
   simp[Ty.av,↓zq,zs,ag,bB,ia]
end Go.Proofs.Trees
namespace Go.Proofs.Trees
open Go Go.VL Go.RowKit
theorem EH:∀(v:Vl),v.df.length<=900000->an Tryz.prog 30 [v.cv] [] (bB (.v (.string (mk v.df))))
 | .u,h=>by refine zc _ ((aM _).mpr trivial) ?_;simp[wQ,Vl.cv,↓zq,zs,ag,bB,Vl.df,Vl.dG,eG]
 | .el k,h=>by refine zc _ ((aM _).mpr trivial) ?_;simp[wQ,Vl.cv,↓zq,zs,ag,bB,Vl.df,Vl.dG,eG]
 |
  .l v,h=>by
  simp only[Vl.df,Vl.dG,eG,dP,au,aq,aG]at h
  refine zc _ ((aM _).mpr trivial) ?_
  have hb:(⟨(bytesOf [[.v (.int .u8 108)]]).toArray⟩:ByteArray)=mk [108]:=rfl
  have ha:im [[.v (.int .u8 108)]]:=iH 108
  simp only[wQ,Vl.cv,↓zq,zs,ag,aM,e9,hb]
  refine⟨by omega,fun h=>by omega,fun _=>⟨fun h=>by omega,fun _=>⟨fun h=>by omega,fun _=>⟨by omega,ha,by simp[cq],by rw[jw,cq,cq];simp,by omega,?_⟩⟩⟩⟩
  refine ak (EH v (by simp only[Vl.df];omega)) ?_
  simp only[↓zq,zs,ag,zt,bB,Vl.df,Vl.dG,eG,dP]
  refine⟨by simp;omega,by simp;omega,by simp⟩
 |
  .r v,h=>by
  simp only[Vl.df,Vl.dG,eG,dP,au,aq,aG]at h
  refine zc _ ((aM _).mpr trivial) ?_
  have hb:(⟨(bytesOf [[.v (.int .u8 114)]]).toArray⟩:ByteArray)=mk [114]:=rfl
  have ha:im [[.v (.int .u8 114)]]:=iH 114
  simp only[wQ,Vl.cv,↓zq,zs,ag,aM,e9,hb]
  refine⟨by omega,fun h=>by omega,fun _=>⟨fun h=>by omega,fun _=>⟨fun h=>by omega,fun _=>⟨by omega,ha,by simp[cq],by rw[jw,cq,cq];simp,by omega,?_⟩⟩⟩⟩
  refine ak (EH v (by simp only[Vl.df];omega)) ?_
  simp only[↓zq,zs,ag,zt,bB,Vl.df,Vl.dG,eG,dP]
  refine⟨by simp;omega,by simp;omega,by simp⟩
 |
  .f v,h=>by
  simp only[Vl.df,Vl.dG,eG,dP,au,aq,aG]at h
  refine zc _ ((aM _).mpr trivial) ?_
  have hb:(⟨(bytesOf [[.v (.int .u8 102)]]).toArray⟩:ByteArray)=mk [102]:=rfl
  have ha:im [[.v (.int .u8 102)]]:=iH 102
  simp only[wQ,Vl.cv,↓zq,zs,ag,aM,e9,hb]
  refine⟨by omega,fun h=>by omega,fun _=>⟨fun h=>by omega,fun _=>⟨fun h=>by omega,fun _=>⟨by omega,ha,by simp[cq],by rw[jw,cq,cq];simp,by omega,?_⟩⟩⟩⟩
  refine ak (EH v (by simp only[Vl.df];omega)) ?_
  simp only[↓zq,zs,ag,zt,bB,Vl.df,Vl.dG,eG,dP]
  refine⟨by simp;omega,by simp;omega,by simp⟩
 |
  .p a b,h=>by
  simp only[Vl.df,Vl.dG,eG,dP,au,aq,aG]at h
  refine zc _ ((aM _).mpr trivial) ?_
  simp only[wQ,Vl.cv,↓zq,zs,ag,aM,e9]
  refine⟨by omega,fun h=>by omega,fun _=>⟨fun h=>by omega,fun _=>⟨fun _=>⟨by omega,?_⟩,fun h=>absurd rfl h⟩⟩⟩
  refine ak (EH a (by simp only[Vl.df];omega)) ?_
  simp only[↓zq,zs,ag,zt,aM,Vl.df]
  refine⟨by simp;omega,by simp;omega,by omega,?_⟩
  refine ak (EH b (by simp only[Vl.df];omega)) ?_
  simp only[↓zq,zs,ag,zt,bB,Vl.df,Vl.dG,eG,dP]
  refine⟨by simp;omega,by simp;omega,by simp⟩
def qY:Option (List UInt8)->AV
 |some s=>.cy [.v (.string (mk s)),.v (.bool true)]
 |none=>.cy [.v (.string (mk [])),.v (.bool false)]
end Go.Proofs.Trees
namespace Go.Proofs.Trees
open Go Go.VL Go.RowKit
def back(n:Nat):Ty->Nat->Vl
 | .name _,c=>.el c
 | .plus a b,c=>match HR n a with|some x=>if c<x then .l (back n a c)else .r (back n b (c-x))|none=>.u
 | .times a b,c=>match HR n b with|some y=>.p (back n a (c/y)) (back n b (c%y))|none=>.u
 |_,_=>.u
theorem xS:∀l:List E,cV 2 (E.bo l)
 |[]=>fun c hc=>by cases hc
 |
  e::l=>fun c hc=>by
  simp only[E.bo,aH]at hc
  rcases hc with rfl|hc
  ·exact fU e
  ·exact xS l c hc
theorem I9(w:List UInt8)(l:List E)(hl:l.length<1000000):an Tryz.prog 107 [.v (.string (mk w)),.sl (E.bo l)] [] (bB (E.kj (.list (.atom w::l)))):=by
 refine KH _ _ ((ck _).mpr trivial) ?_
 simp only[Hz,↓zq,zs,ag,dX,bB,E.kj,E.gV,E.bo]
 exact⟨⟨xS l,by omega⟩,rfl⟩
end Go.Proofs.Trees
namespace Go.Proofs.Trees
open Go Go.VL Go.RowKit
theorem aR(s:ByteArray)(e:E):bF [.str,.sl] [.v (.string s),e.sp] 0=True:=by simp[bF,eh,bh]
theorem Ey(w:List UInt8)(e:E):an Tryz.prog 107 [.v (.string (mk w)),.sl [[.v (.string (mk e.at)),e.sp]]] [] (bB (.agg [.v (.string (mk [])),(E.list [.atom w,e]).sp])):=by
 have:=I9 w [e] (by simp)
 simpa only[E.bo,fq,dA,E.at]using this
theorem z7(w:List UInt8)(e e':E):an Tryz.prog 107 [.v (.string (mk w)),.sl [[.v (.string (mk e.at)),e.sp],[.v (.string (mk e'.at)),e'.sp]]] [] (bB (.agg [.v (.string (mk [])),(E.list [.atom w,e,e']).sp])):=by
 have:=I9 w [e,e'] (by simp)
 simpa only[E.bo,fq,dA,E.at]using this
def P3(pv:AV)(a b:E):Prop:=LK.sl.has pv/\pv.elems.length=3/\pv.elems.getD 1 []=[.v (.string (mk a.at)),a.sp]/\pv.elems.getD 2 []=[.v (.string (mk b.at)),b.sp]
theorem P3.of(x a b:E):P3 (E.list [x,a,b]).sp a b:=⟨by simp[E.sp,ck],by simp[E.sp,E.bo,fY],by simp[E.sp,E.bo,fY,fq],by simp[E.sp,E.bo,fY,fq]⟩
def P2(pv:AV)(a:E):Prop:=LK.sl.has pv/\pv.elems.length=2/\pv.elems.getD 1 []=[.v (.string (mk a.at)),a.sp]
theorem P2.of(x a:E):P2 (E.list [x,a]).sp a:=⟨by simp[E.sp,ck],by simp[E.sp,E.bo,fY],by simp[E.sp,E.bo,fY,fq]⟩
end Go.Proofs.Trees
namespace Go.Proofs.Trees
open Go Go.VL Go.RowKit
def kids(a:Ty):Vl->List Hl
 | .f w=>cL a (.bd 0) w
 |_=>[]
theorem yZ(a:Ty)(v:Vl):kL (kids a v)+1<=v.nodes:=by
 cases v with
 |f w=>have:=rX a (.bd 0) w;simp only[kids,Vl.nodes];omega
 |_=>simp only[kids,kL,Vl.nodes,List.map_nil,List.sum_nil];omega
theorem CF{a:Ty}{v:Vl}{h:Hl}(hh:h∈kids a v):h.2.nodes<v.nodes:=by
 cases v with
 |f w=>have:=(lW hh).1;simp only[Vl.nodes];omega
 |_=>cases hh
theorem l9{n:Nat}{a:Ty}{v:Vl}{h:Hl}(hv:v.gX n)(hh:h∈kids a v):h.1.gX n/\h.2.gX n:=by
 cases v with
 |f w=>exact gx n _ _ _ w h hv hh
 |_=>cases hh
end Go.Proofs.Trees
namespace Go.Proofs.Trees
open Go Go.VL
mutual
def E.pr:E->Prop
 | .atom s=>s≠[]/\s.all eV=true
 | .list l=>l≠[]/\E.As l
def E.As:List E->Prop
 |[]=>True
 |e::l=>e.pr/\E.As l
end
mutual
def E.dp:E->Nat
 | .atom _=>0
 | .list l=>1+E.uO l
def E.uO:List E->Nat
 |[]=>0
 |e::l=>max e.dp (E.uO l)
end
def I1(r:List UInt8):Prop:=∀c t,r=c::t->eV c=false
theorem uz:I1 []:=by intro c t h;cases h
theorem AY{s r:List UInt8}(hs:s.all eV=true)(hr:I1 r):(s++r).takeWhile eV=s/\(s++r).dropWhile eV=r:=by
 induction s with
 |
  nil =>
  cases r with
  |nil=>exact⟨rfl,rfl⟩
  |cons c t=>have:=hr c t rfl;simp[List.takeWhile,List.dropWhile,this]
 |
  cons c s ih =>
  simp only[cT,az]at hs
  have:=ih hs.2
  simp[List.takeWhile,List.dropWhile,hs.1,this.1,this.2]
theorem vF(l:List E)(r:List UInt8):I1 (dP l++41::r):=by
 intro c t h
 cases l with
 |nil=>simp only[dP,aT,List.cons.injEq]at h;rw[<-h.1];decide
 |cons e l=>simp only[dP,aW,List.cons.injEq]at h;rw[<-h.1];decide
theorem AP{f:List UInt8->Option (E×List UInt8)}(r:List UInt8):∀(l:List E) (e:E) (acc:List E) (n:Nat),l.length<n->(∀x,x=e\/x∈l->∀r,I1 r->f (eG x++r)=some (x,r)) ->
 sg f n (eG e++(dP l++41::r)) acc=some (.list (acc++e::l),r)
 |l,e,acc,0,hn,hf=>by omega
 |
  [],e,acc,n+1,hn,hf=>by
  simp only[sg]
  rw[hf e (.inl rfl) _ (vF [] r)]
  simp[dP]
 |
  x::l,e,acc,n+1,hn,hf=>by
  simp only[sg]
  rw[hf e (.inl rfl) _ (vF (x::l) r)]
  simp only[au]at hn
  have ih:=AP r l x (acc++[e]) n (by omega) (fun y hy=>hf y (.inr (by cases hy with|inl h=>rw[h];exact ai|inr h=>exact al _ h)))
  simp only[bK,aW,aT]at ih
  simp only[dP,aW,bK]
  simp[ih]
theorem DZ{l:List E}{k:Nat}:E.As l->E.uO l<=k->∀x,x∈l->x.pr/\x.dp<=k:=by
 induction l with
 |nil=>intro _ _ x h;cases h
 |
  cons e l ih =>
  intro h hd x hx
  simp only[E.As,E.uO]at h hd
  cases hx with
  |head=>exact⟨h.1,by omega⟩
  |tail _ hx=>exact ih h.2 (by omega) x hx
theorem xl:∀(k:Nat) (e:E) (r:List UInt8),e.pr->e.dp<=k->I1 r->rd k (eG e++r)=some (e,r)
 |
  0,.atom s,r,hp,hd,hr=>by
  have h:=AY hp.2 hr
  simp only[eG,rd,h.1,h.2,hp.1,if_false]
 |
  k+1,.atom s,r,hp,hd,hr=>by
  have h:=AY hp.2 hr
  simp only[eG,rd,h.1,h.2,hp.1,if_false]
 |0,.list l,r,hp,hd,hr=>by simp only[E.dp]at hd;omega
 |k+1,.list [],r,hp,hd,hr=>by exact absurd rfl hp.1
 |
  k+1,.list (e::l),r,hp,hd,hr=>by
  have hs:eV 40=false:=by decide
  simp only[E.dp,E.pr]at hd hp
  have hm:=DZ (k:=k) hp.2 (by omega)
  have:=AP (f:=rd k) r l e [] ((eG e++(dP l++41::r)).length+1) (by have:=rY l;simp only[aq,au];omega)
   (fun x hx r hr=>xl k x r (hm x (by cases hx with|inl h=>rw[h];exact ai|inr h=>exact al _ h)).1 (hm x (by cases hx with|inl h=>rw[h];exact ai|inr h=>exact al _ h)).2 hr)
  simp only[eG,aW,bK,aT]at *
  simp only[rd,List.takeWhile,hs,if_true]
  simpa using this
theorem AX{e e':E}(h:e.pr)(h':e'.pr)(ht:eG e=eG e'):e=e':=by
 have a:=xl (max e.dp e'.dp) e [] h (by omega) uz
 have b:=xl (max e.dp e'.dp) e' [] h' (by omega) uz
 rw[ht,b]at a;cases a;rfl
theorem Fa{e:E}(h:e.pr)(hd:e.dp<=300)(hl:(eG e).length<=8000):qt (eG e)=some e:=by
 have:=xl 300 e [] h hd uz
 rw[cR]at this
 rw[qt,this];simp;omega
theorem BV(s:List UInt8):(s.takeWhile eV).all eV=true:=by
 induction s with
 |nil=>rfl
 |cons c s ih =>
  cases h:eV c
  ·simp[List.takeWhile,h]
  ·simp only[List.takeWhile,h,cT,ih];rfl
theorem D3(l r:List E):E.As (l++r)↔E.As l/\E.As r:=by
 induction l with
 |nil=>simp[E.As]
 |cons e l ih=>simp[E.As,ih,and_assoc]
theorem C0(l r:List E):E.uO (l++r)=max (E.uO l) (E.uO r):=by
 induction l with
 |nil=>simp[E.uO]
 |cons e l ih=>simp[E.uO,ih,Nat.max_assoc]
theorem xr{k:Nat}{f:List UInt8->Option (E×List UInt8)}(hf:∀s e r,f s=some (e,r)->s=eG e++r/\e.pr/\e.dp<=k):∀(n:Nat) (s:List UInt8) (acc:List E) (e:E) (r:List UInt8),sg f n s acc=some (e,r)->E.As acc->E.uO acc<=k ->
 ∃l,e=.list (acc++l)/\l≠[]/\32::s=dP l++41::r/\E.As l/\E.uO l<=k
 |0,s,acc,e,r,h,hp,hd=>by cases h
 |
  n+1,s,acc,e,r,h,hp,hd=>by
  simp only[sg]at h
  split at h
  ·rename_i p c r' hs
   obtain⟨h1,h2,h3⟩:=hf _ _ _ hs
   split at h
   ·rename_i hc
    have hc:c=41:=UInt8.toNat_inj.mp hc
    cases h
    exact⟨[p],rfl,by simp,by simp[dP,h1,hc],⟨h2,trivial⟩,by simp[E.uO];omega⟩
   ·split at h
    ·rename_i hc
     have hc:c=32:=UInt8.toNat_inj.mp hc
     obtain⟨l,g1,g2,g3,g4,g5⟩:=xr hf n _ _ _ _ h ((D3 _ _).mpr ⟨hp,h2,trivial⟩) (by rw[C0];simp[E.uO];omega)
     refine⟨p::l,by simpa using g1,by simp,?_,⟨h2,g4⟩,by simp only[E.uO];omega⟩
     rw[h1,hc,g3];simp[dP]
    ·cases h
  ·cases h
theorem Bl:∀(k:Nat) (s:List UInt8) (e:E) (r:List UInt8),rd k s=some (e,r)->s=eG e++r/\e.pr/\e.dp<=k
 |
  0,s,e,r,h=>by
  simp only[rd]at h
  split at h
  ·cases h
  ·rename_i hs;cases h
   exact⟨(List.takeWhile_append_dropWhile).symm,⟨hs,BV s⟩,aw _⟩
 |
  k+1,s,e,r,h=>by
  simp only[rd]at h
  split at h
  ·split at h
   ·rename_i c r' _
    split at h
    ·rename_i hc
     have hc:c=40:=UInt8.toNat_inj.mp hc
     obtain⟨l,g1,g2,g3,g4,g5⟩:=xr (k:=k) (fun s e r h=>Bl k s e r h) _ _ _ _ _ h trivial (dN _)
     simp only[aT]at g1
     subst g1;subst hc
     refine⟨?_,⟨g2,g4⟩,by simp only[E.dp];omega⟩
     cases l with
     |nil=>exact absurd rfl g2
     |
      cons x l =>
      simp only[dP,aW,bK,List.cons.injEq,true_and]at g3
      rw[g3];simp[eG]
    ·cases h
   ·cases h
  ·rename_i hs;cases h
   exact⟨(List.takeWhile_append_dropWhile).symm,⟨hs,BV s⟩,by simp[E.dp]⟩
theorem xx{s:List UInt8}{e:E}(h:qt s=some e):s=eG e/\e.pr/\e.dp<=300/\s.length<=8000:=by
 unfold qt at h
 split at h
 ·cases h
 ·rename_i hl
  split at h
  ·rename_i e' hr
   cases h
   have:=Bl _ _ _ _ hr
   exact⟨by simpa using this.1,this.2.1,this.2.2,by omega⟩
  ·cases h
theorem BE{k:Nat}(h:k<10):eV (a8 (48+k))=true:=by
 have:∀k:Fin 10,eV (a8 (48+k.val))=true:=by decide
 exact this ⟨k,h⟩
theorem tX:∀(n k:Nat),k<n->(dd k).all eV=true
 |0,k,h=>by omega
 |
  n+1,k,h=>by
  by_cases hk:k<10
  ·rw[ez hk,cT,BE hk];rfl
  ·rw[fe hk]
   have:=tX n (k/10) (by omega)
   rw[List.all_append,this,cT,BE (Nat.mod_lt k (by omega:0<10))];rfl
theorem Fe(k:Nat):(E.atom (wo k)).pr:=⟨by simp,by have:=tX (k+1) k (by omega);simp only[wo,cT,this];decide⟩
theorem me:∀v:Vl,v.dG.pr
 | .u=>⟨by simp,by decide⟩
 | .el k=>Fe k
 | .l v=>⟨by simp,⟨by simp,by decide⟩,me v,trivial⟩
 | .r v=>⟨by simp,⟨by simp,by decide⟩,me v,trivial⟩
 | .f v=>⟨by simp,⟨by simp,by decide⟩,me v,trivial⟩
 | .p a b=>⟨by simp,⟨by simp,by decide⟩,me a,me b,trivial⟩
theorem pC:∀v:Vl,v.dG.dp<v.nodes+1
 | .u=>by simp[Vl.dG,E.dp,Vl.nodes]
 | .el k=>by simp[Vl.dG,E.dp,Vl.nodes]
 | .l v=>by have:=pC v;simp only[Vl.dG,E.dp,E.uO,Vl.nodes]at *;omega
 | .r v=>by have:=pC v;simp only[Vl.dG,E.dp,E.uO,Vl.nodes]at *;omega
 | .f v=>by have:=pC v;simp only[Vl.dG,E.dp,E.uO,Vl.nodes]at *;omega
 | .p a b=>by have:=pC a;have:=pC b;simp only[Vl.dG,E.dp,E.uO,Vl.nodes]at *;omega
theorem Dx(k:Nat)(h:k<100):(dd k).length<=2:=by
 by_cases hk:k<10
 ·rw[ez hk];simp
 ·rw[fe hk,ez (by omega:k/10<10)];simp
theorem kB:∀v:Vl,v.gX 100->v.df.length<=5*v.nodes
 | .u,_=>by simp[Vl.df,Vl.dG,eG,Vl.nodes]
 |
  .el k,h=>by
  have:=Dx k h
  simp only[Vl.df,Vl.dG,eG,Vl.nodes,au];omega
 | .l v,h=>by have:=kB v h;simp only[Vl.df,Vl.dG,eG,dP,Vl.nodes,au,aq,aG]at this |-;omega
 | .r v,h=>by have:=kB v h;simp only[Vl.df,Vl.dG,eG,dP,Vl.nodes,au,aq,aG]at this |-;omega
 | .f v,h=>by have:=kB v h;simp only[Vl.df,Vl.dG,eG,dP,Vl.nodes,au,aq,aG]at this |-;omega
 | .p a b,h=>by have:=kB a h.1;have:=kB b h.2;simp only[Vl.df,Vl.dG,eG,dP,Vl.nodes,au,aq,aG]at *;omega
theorem Gd(k:Nat):wo k≠[117]:=by simp[wo]
theorem j4:∀v:Vl,v.gX 100->fB v.dG=some v
 | .u,_=>by simp[Vl.dG,fB]
 | .el k,h=>by simp only[Vl.dG,fB,Gd,if_false,ve k h]
 | .l v,h=>by simp only[Vl.dG,fB,j4 v h,E.at];simp
 | .r v,h=>by simp only[Vl.dG,fB,j4 v h,E.at];simp
 | .f v,h=>by simp only[Vl.dG,fB,j4 v h,E.at];simp
 | .p a b,h=>by simp only[Vl.dG,fB,j4 a h.1,j4 b h.2,E.at];simp
theorem qC{v:Vl}(h:v.gX 100)(hn:v.nodes<=200):pY v.df=some v:=by
 have hd:=pC v
 have hl:=kB v h
 rw[pY,Fa (me v) (by omega) (by show v.df.length<=8000;omega)]
 simp only[j4 v h]
 rw[if_neg (by omega)]
theorem tE{v w:Vl}(h:v.gX 100)(h':w.gX 100)(ht:v.df=w.df):v=w:=by
 have:=AX (me v) (me w) ht
 have a:=j4 v h
 rw[this,j4 w h']at a;cases a;rfl
theorem qQ{s:List UInt8}{v:Vl}(h:pY s=some v):s=v.df:=(xx (jy h).1).1
end Go.Proofs.Trees
namespace Go.Proofs.Trees
open Go Go.VL Go.RowKit
theorem bH(l:List E):(E.list l).at=[]:=rfl
def cP:Ty->Vl->Vl->Vl
 | .plus a _,.l c,v=>.l (cP a c v)
 | .plus _ b,.r c,v=>.r (cP b c v)
 | .times a _,.l (.p x y),v=>.p (cP a x v) y
 | .times _ b,.r (.p x y),v=>.p x (cP b y v)
 | .rc a,.f (.l x),v=>.f (cP a x v)
 | .rc a,.f (.r (.p x y)),v=>.f (cP a x (cP (.rc a) y v))
 |_,_,v=>v
def dH:Ty->Vl->Bool
 | .plus a _,.l c=>dH a c
 | .plus _ b,.r c=>dH b c
 | .times a _,.l (.p x _)=>dH a x
 | .times _ b,.r (.p _ y)=>dH b y
 | .rc a,.f (.l x)=>dH a x
 | .rc a,.f (.r (.p x y))=>dH a x&&dH (.rc a) y
 | .plus _ _,_=>false
 | .times _ _,_=>false
 | .rc _,_=>false
 |_,_=>true
theorem s7(c v:Vl):cP .zero c v=v:=by cases c<;>rfl
theorem vO(c v:Vl):cP .one c v=v:=by cases c<;>rfl
theorem ky(s:List UInt8)(c v:Vl):cP (.name s) c v=v:=by cases c<;>rfl
theorem sb(u:Nat)(c v:Vl):cP (.bound u) c v=v:=by cases c<;>rfl
theorem u9{a b:Ty}{c:Vl}(h:dH (.plus a b) c=true):(∃x,c=.l x/\dH a x=true)\/∃x,c=.r x/\dH b x=true:=by
 cases c<;>simp[dH]at h<;>simp[h]
theorem tA{a b:Ty}{c:Vl}(h:dH (.times a b) c=true):(∃x y,c=.l (.p x y)/\dH a x=true)\/∃x y,c=.r (.p x y)/\dH b y=true:=by
 cases c with
 |l c=>cases c<;>simp[dH]at h<;>simp[h]
 |r c=>cases c<;>simp[dH]at h<;>exact .inr ⟨_,_,rfl,h⟩
 |_=>simp[dH]at h
theorem Bi{a:Ty}{c:Vl}(h:dH (.rc a) c=true):(∃x,c=.f (.l x)/\dH a x=true)\/∃x y,c=.f (.r (.p x y))/\dH a x=true/\dH (.rc a) y=true:=by
 cases c with
 |
  f c =>
  cases c with
  |l c=>simp[dH]at h;simp[h]
  |r c=>cases c<;>simp[dH]at h<;>exact .inr ⟨_,_,rfl,h⟩
  |_=>simp[dH]at h
 |_=>simp[dH]at h
theorem rL(t:Ty)(c v:Vl):(cP t c v).nodes<=c.nodes+v.nodes:=by
 induction t,c,v using cP.induct<;>simp only[cP,Vl.nodes]at*<;> omega
end Go.Proofs.Trees
