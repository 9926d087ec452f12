/-
  Part of a proof: Go functions read by values, trees of functions, their contracts.
-/
import Derived.Test.YthcjhageibaepaaGreatDoorP4
import Derived.Test.YthcjhageibaepaaGreatDoorProg
import Derived.Lib.Atoi
set_option linter.unusedVariables false
set_option linter.unusedSimpArgs false
open And renaming intro→aH
open Bool renaming and_eq_true→aw,eq_iff_iff→cA,or_eq_false_iff→cm,or_eq_true→bC,true_and→bY
open ByteArray renaming extract→ct,size→ag,toList→af
open Int renaming tmod→dJ,toNat→bK,toNat_natCast→bF
open List renaming all_cons→db,any_eq_true→cu,append_assoc→a6,append_nil→cZ,drop_eq_getElem_cons→aT,drop_eq_nil_of_le→bV,drop_zero→bf,eq_nil_of_length_eq_zero→bS,flatMap_cons→cf,getD_cons_zero→bu,getD_eq_getElem?_getD→aa,getElem?_eq_getElem→bp,getElem_mem→bI,headD_cons→aL,length_append→aq,length_cons→az,length_drop→cy,length_nil→aG,map_cons→bB,mem_append→aN,mem_append_left→aD,mem_cons→aK,mem_cons_of_mem→al,mem_cons_self→ak,mem_map→bO,mem_singleton→aQ,nil_append→aS
open Nat renaming beq→aJ,le_add_right→dc,le_refl→au,mul_add→cW,mul_one→dK,zero_add→aW,zero_le→dS
open Option renaming bind_eq_some_iff→bc,isSome_iff_exists→cc,isSome_none→bw,map_some→cD
open UInt8 renaming ofNat→bj
namespace Go.Proofs.Trees
open Go Go.VL
noncomputable section
variable {R:AV->List Ob->Prop}{U:RL}
theorem Rh(a0_0:ByteArray)(a0_1:AV)(a1:ByteArray)(ha0_1:LK.has .sl a0_1)(h:dm 108 (JK a0_0 a0_1 a1) R):an Tryz.prog 147 [.agg [VS a0_0,a0_1],VS a1] [] R :=
 uQ (ah (cb (ah (aA _) (ah (bN ha0_1) aC))) (ah (aA _) aC)) (oQ Nv Tryz.f147 h)
def Mz(x17:Int)(o4_0:ByteArray)(o4_1:AV)(o12_0:ByteArray)(o12_1:AV)(o14_0:ByteArray)(o14_1:AV)(e16:List (List AV)):Tree :=
 NI (VI x17)<|.ai (Ob.cells [VS o4_0,o4_1]=.cells [VS o4_0,o4_1])<|.ai (ae [.lk .str,.lk .sl] [VS o4_0,o4_1] 0 [.cells [VS o12_0,o12_1],.cells [VS o14_0,o14_1],.vec 1 e16])<|.ai (Ob.cells [VS o12_0,o12_1]=.cells [VS o12_0,o12_1])<|.ai (ae [.lk .str,.lk .sl] [VS o12_0,o12_1] 0 [.cells [VS o14_0,o14_1],.vec 1 e16])<|.ai (Ob.cells [VS o14_0,o14_1]=.cells [VS o14_0,o14_1])<|.ai (ae [.lk .str,.lk .sl] [VS o14_0,o14_1] 0 [.vec 1 e16])<|.ai (Ob.vec 1 e16=.vec 1 e16)<|.call 90 [VI x17] [] fun r1 o1=>NS r1<|.ai (ag (mk [116])+ag r1.toStr<=9223372036854775807)<|.call 118 [.sl e16,VS (((mk [116]):ByteArray)++r1.toStr)] [] fun r2 o2=>NB r2<|.test r2.toBool (.done 0 [VI (IntKind.wrap .i64 (x17+1))] [.cells [VS o4_0,o4_1],.cells [VS o12_0,o12_1],.cells [VS o14_0,o14_1],.vec 1 e16]) (.done 1 [VI x17] [.cells [VS o4_0,o4_1],.cells [VS o12_0,o12_1],.cells [VS o14_0,o14_1]])
abbrev IY:=cC Tryz.prog 108 Jd IA
theorem QL(x17:Int)(o4_0:ByteArray)(o4_1:AV)(o12_0:ByteArray)(o12_1:AV)(o14_0:ByteArray)(o14_1:AV)(e16:List (List AV))(h:kp 108 (Mz x17 o4_0 o4_1 o12_0 o12_1 o14_0 o14_1 e16) IY U):IY [VI x17] [.cells [VS o4_0,o4_1],.cells [VS o12_0,o12_1],.cells [VS o14_0,o14_1],.vec 1 e16] U :=
 gQ Nv h
def Gt:LI:={hd:={bU:=[(0,.k .str),(1,.k (.int .i64)),(6,.k (.int .i64))]},xs:={bU:=[(0,.k .str),(1,.k (.int .i64)),(6,.k (.int .i64))]},rt:={},ex:=0}
def NH:Code:=cJ (cH Tryz.f148) 2
def Gr:LI:={hd:={bU:=[(0,.k .str),(1,.k (.int .i64)),(7,.k .str)],refs:=[(8,48)],cv:=[(48,[.lk .str,.vec 1])]},xs:={},rt:={bU:=[(4,.k .ptr),(5,.k .str)]},ex:=999}
def Mc:Code:=cJ (cH Tryz.f148) 10
def GU:List (Nat×LI):=[(2,Gt),(10,Gr)]
def GB(a0:ByteArray)(a1:Int):Tree :=
 .loop NH Gt [VS a0,VI a1,VI 0] [] (fun y2 q2=>NS (y2.hA)<|NI (y2.tail.hA)<|NI (y2.tail.tail.hA)<|.test (decide (((y2.tail.tail.hA).toInt)>(0:Int))) (.ai (0<=(0:Int)/\(0:Int)<=((y2.tail.tail.hA).toInt)/\((y2.tail.tail.hA).toInt)<=(ag ((y2.hA).toStr):Int))<|.ai (0<=((y2.tail.tail.hA).toInt)/\((y2.tail.tail.hA).toInt)<=(ag ((y2.hA).toStr):Int)/\(ag ((y2.hA).toStr):Int)<=(ag ((y2.hA).toStr):Int))<|.done 0 [.cI [.ptr [VS (ct ((y2.hA).toStr) (bK 0) (bK ((y2.tail.tail.hA).toInt))),.v (.slice none 0 0)],VS (ct ((y2.hA).toStr) (bK ((y2.tail.tail.hA).toInt)) (bK (ag ((y2.hA).toStr):Int)))]] []) (.test (af ((y2.hA).toStr)==af (mk [])) (.done 0 [.cI [.v (.pointer none),VS ((y2.hA).toStr)]] []) (.ai (0<=(0:Int)/\(0:Int)<ag ((y2.hA).toStr))<|.test ((bt ((y2.hA).toStr) 0) != (40:Int)) (.done 0 [.cI [.v (.pointer none),VS ((y2.hA).toStr)]] []) (.test (((y2.tail.hA).toInt)==(300:Int)) (.done 0 [.cI [.v (.pointer none),VS ((y2.hA).toStr)]] []) (.ai (0<=(1:Int)/\(1:Int)<=(ag ((y2.hA).toStr):Int)/\(ag ((y2.hA).toStr):Int)<=(ag ((y2.hA).toStr):Int))<|.loop Mc Gr [VS ((y2.hA).toStr),VI ((y2.tail.hA).toInt),VS (ct ((y2.hA).toStr) (bK 1) (bK (ag ((y2.hA).toStr):Int)))] [.cells [VS (mk []),.any],.vec 1 []] (fun y5 q5=>.fail) (fun y5 q5=>NP (y5.hA)<|NS (y5.tail.hA)<|.done 0 [.cI [(y5.hA),VS ((y5.tail.hA).toStr)]] [])))))) (fun y2 q2=>.done 0 [.cI [.any,.any]] [])
theorem Nw(a0:ByteArray)(a1:Int)(h:dm 84 (GB a0 a1) R):an Tryz.prog 148 [VS a0,VI a1] [] R :=
 uQ (ah (aA _) (ah (aA _) aC)) (oQ GU Tryz.f148 h)
def Iw(x0:ByteArray)(x1:Int)(x6:Int):Tree :=
 NS (VS x0)<|NI (VI x1)<|NI (VI x6)<|.test (decide (x6<(ag x0:Int))) (.ai (0<=x6/\x6<ag x0)<|.call 162 [.v (.int .u8 (bt x0 x6))] [] fun r1 o1=>NB r1<|.test r1.toBool (.done 0 [VS x0,VI x1,VI (IntKind.wrap .i64 (x6+1))] []) (.done 1 [VS x0,VI x1,VI x6] [])) (.done 1 [VS x0,VI x1,VI x6] [])
abbrev HN:=cC Tryz.prog 84 NH Gt
theorem MS(x0:ByteArray)(x1:Int)(x6:Int)(h:kp 84 (Iw x0 x1 x6) HN U):HN [VS x0,VI x1,VI x6] [] U :=
 gQ GU h
def Jh(x0:ByteArray)(x1:Int)(x7:ByteArray)(o48_0:ByteArray)(o48_1:List (List AV)):Tree :=
 NS (VS x0)<|NI (VI x1)<|NS (VS x7)<|.ai (Ob.cells [VS o48_0,.any]=.cells [VS o48_0,.any])<|.ai (ae [.lk .str,.vec 1] [VS o48_0,.any] 0 [.vec 1 o48_1])<|.call 148 [VS x7,VI (IntKind.wrap .i64 (x1+1))] [] fun r1 o1=>NT r1<|NP (r1.comp 0)<|NS (r1.comp 1)<|NP (r1.comp 0)<|.test ((r1.comp 0).isNil) (.done 2 [.v (.pointer none),VS x0] []) (.test (af ((r1.comp 1).toStr)==af (mk [])) (.done 2 [.v (.pointer none),VS x0] []) (.ai (cG 1 [[(r1.comp 0)]]/\((o48_1.length)+([[(r1.comp 0)]]:List (List AV)).length)*8<=140737488355328)<|.ai (0<=(1:Int)/\(1:Int)<=(ag ((r1.comp 1).toStr):Int)/\(ag ((r1.comp 1).toStr):Int)<=(ag ((r1.comp 1).toStr):Int))<|.ai (0<=(0:Int)/\(0:Int)<ag ((r1.comp 1).toStr))<|.test ((bt ((r1.comp 1).toStr) 0)==(41:Int)) (.done 2 [.ptr [VS o48_0,.sl (o48_1++([[(r1.comp 0)]]:List (List AV)))],VS (ct ((r1.comp 1).toStr) (bK 1) (bK (ag ((r1.comp 1).toStr):Int)))] []) (.ai (0<=(0:Int)/\(0:Int)<ag ((r1.comp 1).toStr))<|.test ((bt ((r1.comp 1).toStr) 0) != (32:Int)) (.done 2 [.v (.pointer none),VS x0] []) (.done 0 [VS x0,VI x1,VS (ct ((r1.comp 1).toStr) (bK 1) (bK (ag ((r1.comp 1).toStr):Int)))] [.cells [VS o48_0,.any],.vec 1 (o48_1++([[(r1.comp 0)]]:List (List AV)))]))))
abbrev Ge:=cC Tryz.prog 84 Mc Gr
theorem Ry(x0:ByteArray)(x1:Int)(x7:ByteArray)(o48_0:ByteArray)(o48_1:List (List AV))(h:kp 84 (Jh x0 x1 x7 o48_0 o48_1) Ge U):Ge [VS x0,VI x1,VS x7] [.cells [VS o48_0,.any],.vec 1 o48_1] U :=
 gQ GU h
def Lj(a0:ByteArray):Tree :=
 .call 163 [VS a0,VS (mk [120,121,122])] [] fun r1 o1=>NB r1<|.done 0 [VB r1.toBool] []
theorem Rv(a0:ByteArray)(h:dm 5 (Lj a0) R):an Tryz.prog 149 [VS a0] [] R :=
 uQ (ah (aA _) aC) (oQ [] Tryz.f149 h)
def O7(a0:ByteArray):Tree :=
 .call 163 [VS a0,VS (mk [116])] [] fun r1 o1=>NB r1<|.done 0 [VB r1.toBool] []
theorem QR(a0:ByteArray)(h:dm 5 (O7 a0) R):an Tryz.prog 150 [VS a0] [] R :=
 uQ (ah (aA _) aC) (oQ [] Tryz.f150 h)
def BU(a0:AV)(a1:ByteArray)(a2:Int):Tree :=
 NZ a0<|NZ a0<|oj (a0.deref.drop 1)<|NL ((a0.deref.drop 1).hA)<|.test (((((a0.deref.drop 1).hA).elems).length:Int)==a2) (NZ a0<|NZ a0<|oj (a0.deref.drop 1)<|NG ((a0.deref.drop 1).hA) 0 1<|en (((a0.deref.drop 1).hA).ix (0:Int))<|NZ ((((a0.deref.drop 1).hA).ix (0:Int)).hA)<|NZ ((((a0.deref.drop 1).hA).ix (0:Int)).hA)<|.ai (LK.has .str (((((a0.deref.drop 1).hA).ix (0:Int)).hA).deref.hA)/\1<=(((((a0.deref.drop 1).hA).ix (0:Int)).hA).deref).length)<|.done 0 [VB (af ((((((a0.deref.drop 1).hA).ix (0:Int)).hA).deref.hA).toStr)==af a1)] []) (.done 0 [VB false] [])
theorem OC(a0:AV)(a1:ByteArray)(a2:Int)(ha0:LK.has .ptr a0)(h:dm 27 (BU a0 a1 a2) R):an Tryz.prog 151 [a0,VS a1,VI a2] [] R :=
 uQ (ah (bD ha0) (ah (aA _) (ah (aA _) aC))) (oQ [] Tryz.f151 h)
def K7(a0:Int)(a1:AV)(a2:AV):Tree :=
 .done 0 [.ptr [.v (.int .u8 a0),VS (mk []),VI 0,a1,a2]] []
theorem Rm(a0:Int)(a1:AV)(a2:AV)(ha1:LK.has .ptr a1)(ha2:LK.has .ptr a2)(h:dm 12 (K7 a0 a1 a2) R):an Tryz.prog 153 [.v (.int .u8 a0),a1,a2] [] R :=
 uQ (ah (aA _) (ah (bD ha1) (ah (bD ha2) aC))) (oQ [] Tryz.f153 h)
def Mv(a0:AV):Tree :=
 .call 165 [a0,.fn 166 [.ref 0 0]] [.cells [.vec 1],.vec 1 []] fun r1 o1=>.ai ((o1.hO)=.cells (o1.hO).cs)<|.ai (aI [.vec 1] ((o1.hO).cs) 0 1 o1.tail)<|.done 0 [.sl ((o1.tail.hO).es)] []
theorem Q7(a0:AV)(ha0:LK.has .ptr a0)(h:dm 9 (Mv a0) R):an Tryz.prog 154 [a0] [] R :=
 uQ (ah (bD ha0) aC) (oQ [] Tryz.f154 h)
def GD:LI:={hd:={bU:=[(0,.k .ptr),(1,.k .sl),(9,.k .str)],refs:=[(3,0),(4,1)],cv:=[(0,[.lk .sl]),(1,[.lk (.int .i64)])],vz:=[(2,155,[none,some 0,some 1])]},xs:={bU:=[(0,.k .ptr),(1,.k .sl),(9,.k .str)],cv:=[(0,[.lk .sl]),(1,[.lk (.int .i64)])],vz:=[(2,155,[none,some 0,some 1])]},rt:={cv:=[(0,[.lk .sl]),(1,[.lk (.int .i64)])]},ex:=1,fx:=[0,1]}
def Lu:Code:=cJ (cH Tryz.f155) 12
def NY:List (Nat×LI):=[(12,GD)]
def Fk(a0:AV)(a1:AV)(a3_0:AV)(a4_0:Int):Tree :=
 NZ a0<|NZ a0<|.ai (LK.has (.int .u8) (a0.deref.hA)/\1<=a0.deref.length)<|.test (((a0.deref.hA).toInt)==(110:Int)) (NZ a0<|NZ a0<|kX (a0.deref.drop 1)<|.done 0 [VS (((a0.deref.drop 1).hA).toStr)] [.cells [a3_0],.cells [VI a4_0]]) (.test (((a0.deref.hA).toInt)==(98:Int)) (NL a1<|NZ a0<|NZ a0<|.ai (LK.has (.int .i64) ((a0.deref.drop 2).hA)/\1<=(a0.deref.drop 2).length)<|.ai (LK.has .sl a1/\0<=(IntKind.wrap .i64 ((IntKind.wrap .i64 ((a1.elems.length:Int)-1))-(((a0.deref.drop 2).hA).toInt)))/\(IntKind.wrap .i64 ((IntKind.wrap .i64 ((a1.elems.length:Int)-1))-(((a0.deref.drop 2).hA).toInt)))<a1.elems.length/\(a1.ix (IntKind.wrap .i64 ((IntKind.wrap .i64 ((a1.elems.length:Int)-1))-(((a0.deref.drop 2).hA).toInt)))).length=1)<|kX (a1.ix (IntKind.wrap .i64 ((IntKind.wrap .i64 ((a1.elems.length:Int)-1))-(((a0.deref.drop 2).hA).toInt))))<|.done 0 [VS (((a1.ix (IntKind.wrap .i64 ((IntKind.wrap .i64 ((a1.elems.length:Int)-1))-(((a0.deref.drop 2).hA).toInt)))).hA).toStr)] [.cells [a3_0],.cells [VI a4_0]]) (.test (((a0.deref.hA).toInt)==(43:Int)) (NZ a0<|NZ a0<|en (a0.deref.drop 3)<|.call 155 [((a0.deref.drop 3).hA),a1,.gN 155 [none,some 0,some 1],.ref 0 0,.ref 1 0] [.cells [a3_0],.cells [VI a4_0]] fun r1 o1=>.ai ((o1.hO)=.cells (o1.hO).cs)<|.ai (aI [.lk .sl] ((o1.hO).cs) 0 1 o1.tail)<|.ai ((o1.tail.hO)=.cells (o1.tail.hO).cs)<|.ai (aI [.lk (.int .i64)] ((o1.tail.hO).cs) 0 2 o1.tail.tail)<|NS r1<|NZ a0<|NZ a0<|.ai (LK.has (.int .u8) (a0.deref.hA)/\1<=a0.deref.length)<|.ai (jH [[.v (.int .u8 ((a0.deref.hA).toInt))]])<|.ai (ag (mk [40])+ag (⟨(bytesOf [[.v (.int .u8 ((a0.deref.hA).toInt))]]).toArray⟩)<=9223372036854775807)<|.ai (ag (((mk [40]):ByteArray)++(⟨(bytesOf [[.v (.int .u8 ((a0.deref.hA).toInt))]]).toArray⟩))+ag (mk [32])<=9223372036854775807)<|.ai (ag (((((mk [40]):ByteArray)++(⟨(bytesOf [[.v (.int .u8 ((a0.deref.hA).toInt))]]).toArray⟩)):ByteArray)++(mk [32]))+ag r1.toStr<=9223372036854775807)<|.ai (ag (((((((mk [40]):ByteArray)++(⟨(bytesOf [[.v (.int .u8 ((a0.deref.hA).toInt))]]).toArray⟩)):ByteArray)++(mk [32])):ByteArray)++r1.toStr)+ag (mk [32])<=9223372036854775807)<|NZ a0<|NZ a0<|en (a0.deref.drop 4)<|.call 155 [((a0.deref.drop 4).hA),a1,.gN 155 [none,some 0,some 1],.ref 0 0,.ref 1 0] [.cells [((o1.hO).cs.getD 0 .any)],.cells [VI (((o1.tail.hO).cs.getD 0 .any).toInt)]] fun r2 o2=>.ai ((o2.hO)=.cells (o2.hO).cs)<|.ai (aI [.lk .sl] ((o2.hO).cs) 0 1 o2.tail)<|.ai ((o2.tail.hO)=.cells (o2.tail.hO).cs)<|.ai (aI [.lk (.int .i64)] ((o2.tail.hO).cs) 0 2 o2.tail.tail)<|NS r2<|.ai (ag (((((((((mk [40]):ByteArray)++(⟨(bytesOf [[.v (.int .u8 ((a0.deref.hA).toInt))]]).toArray⟩)):ByteArray)++(mk [32])):ByteArray)++r1.toStr):ByteArray)++(mk [32]))+ag r2.toStr<=9223372036854775807)<|.ai (ag (((((((((((mk [40]):ByteArray)++(⟨(bytesOf [[.v (.int .u8 ((a0.deref.hA).toInt))]]).toArray⟩)):ByteArray)++(mk [32])):ByteArray)++r1.toStr):ByteArray)++(mk [32])):ByteArray)++r2.toStr)+ag (mk [41])<=9223372036854775807)<|.done 0 [VS (((((((((((((mk [40]):ByteArray)++(⟨(bytesOf [[.v (.int .u8 ((a0.deref.hA).toInt))]]).toArray⟩)):ByteArray)++(mk [32])):ByteArray)++r1.toStr):ByteArray)++(mk [32])):ByteArray)++r2.toStr):ByteArray)++(mk [41]))] [.cells [((o2.hO).cs.getD 0 .any)],.cells [VI (((o2.tail.hO).cs.getD 0 .any).toInt)]]) (.test (((a0.deref.hA).toInt)==(42:Int)) (NZ a0<|NZ a0<|en (a0.deref.drop 3)<|.call 155 [((a0.deref.drop 3).hA),a1,.gN 155 [none,some 0,some 1],.ref 0 0,.ref 1 0] [.cells [a3_0],.cells [VI a4_0]] fun r3 o3=>.ai ((o3.hO)=.cells (o3.hO).cs)<|.ai (aI [.lk .sl] ((o3.hO).cs) 0 1 o3.tail)<|.ai ((o3.tail.hO)=.cells (o3.tail.hO).cs)<|.ai (aI [.lk (.int .i64)] ((o3.tail.hO).cs) 0 2 o3.tail.tail)<|NS r3<|NZ a0<|NZ a0<|.ai (LK.has (.int .u8) (a0.deref.hA)/\1<=a0.deref.length)<|.ai (jH [[.v (.int .u8 ((a0.deref.hA).toInt))]])<|.ai (ag (mk [40])+ag (⟨(bytesOf [[.v (.int .u8 ((a0.deref.hA).toInt))]]).toArray⟩)<=9223372036854775807)<|.ai (ag (((mk [40]):ByteArray)++(⟨(bytesOf [[.v (.int .u8 ((a0.deref.hA).toInt))]]).toArray⟩))+ag (mk [32])<=9223372036854775807)<|.ai (ag (((((mk [40]):ByteArray)++(⟨(bytesOf [[.v (.int .u8 ((a0.deref.hA).toInt))]]).toArray⟩)):ByteArray)++(mk [32]))+ag r3.toStr<=9223372036854775807)<|.ai (ag (((((((mk [40]):ByteArray)++(⟨(bytesOf [[.v (.int .u8 ((a0.deref.hA).toInt))]]).toArray⟩)):ByteArray)++(mk [32])):ByteArray)++r3.toStr)+ag (mk [32])<=9223372036854775807)<|NZ a0<|NZ a0<|en (a0.deref.drop 4)<|.call 155 [((a0.deref.drop 4).hA),a1,.gN 155 [none,some 0,some 1],.ref 0 0,.ref 1 0] [.cells [((o3.hO).cs.getD 0 .any)],.cells [VI (((o3.tail.hO).cs.getD 0 .any).toInt)]] fun r4 o4=>.ai ((o4.hO)=.cells (o4.hO).cs)<|.ai (aI [.lk .sl] ((o4.hO).cs) 0 1 o4.tail)<|.ai ((o4.tail.hO)=.cells (o4.tail.hO).cs)<|.ai (aI [.lk (.int .i64)] ((o4.tail.hO).cs) 0 2 o4.tail.tail)<|NS r4<|.ai (ag (((((((((mk [40]):ByteArray)++(⟨(bytesOf [[.v (.int .u8 ((a0.deref.hA).toInt))]]).toArray⟩)):ByteArray)++(mk [32])):ByteArray)++r3.toStr):ByteArray)++(mk [32]))+ag r4.toStr<=9223372036854775807)<|.ai (ag (((((((((((mk [40]):ByteArray)++(⟨(bytesOf [[.v (.int .u8 ((a0.deref.hA).toInt))]]).toArray⟩)):ByteArray)++(mk [32])):ByteArray)++r3.toStr):ByteArray)++(mk [32])):ByteArray)++r4.toStr)+ag (mk [41])<=9223372036854775807)<|.done 0 [VS (((((((((((((mk [40]):ByteArray)++(⟨(bytesOf [[.v (.int .u8 ((a0.deref.hA).toInt))]]).toArray⟩)):ByteArray)++(mk [32])):ByteArray)++r3.toStr):ByteArray)++(mk [32])):ByteArray)++r4.toStr):ByteArray)++(mk [41]))] [.cells [((o4.hO).cs.getD 0 .any)],.cells [VI (((o4.tail.hO).cs.getD 0 .any).toInt)]]) (.test (((a0.deref.hA).toInt)==(114:Int)) (.loop Lu GD [a0,a1,VS (mk [])] [.cells [a3_0],.cells [VI a4_0]] (fun y8 q8=>NP (y8.hA)<|NL (y8.tail.hA)<|NS (y8.tail.tail.hA)<|.ai ((q8.hO)=.cells (q8.hO).cs)<|.ai (ae [.lk .sl] ((q8.hO).cs) 0 q8.tail)<|.ai (((q8.tail.drop 0).hO)=.cells ((q8.tail.drop 0).hO).cs)<|.ai (ae [.lk (.int .i64)] (((q8.tail.drop 0).hO).cs) 0 ((q8.tail.drop 0).tail))<|.ai (ag (mk [40,114,101,99,32])+ag ((y8.tail.tail.hA).toStr)<=9223372036854775807)<|.ai (ag (((mk [40,114,101,99,32]):ByteArray)++((y8.tail.tail.hA).toStr))+ag (mk [32])<=9223372036854775807)<|NZ (y8.hA)<|NZ (y8.hA)<|en ((y8.hA).deref.drop 3)<|.ai (LK.has .sl (y8.tail.hA)/\cG 1 ((y8.tail.hA).elems)/\((([]:List (List AV)).length)+((y8.tail.hA).elems).length)*16<=140737488355328)<|.ai (cG 1 [[VS ((y8.tail.tail.hA).toStr)]]/\(((([]:List (List AV))++((y8.tail.hA).elems)).length)+([[VS ((y8.tail.tail.hA).toStr)]]:List (List AV)).length)*16<=140737488355328)<|.call 155 [(((y8.hA).deref.drop 3).hA),.sl ((([]:List (List AV))++((y8.tail.hA).elems))++([[VS ((y8.tail.tail.hA).toStr)]]:List (List AV))),.gN 155 [none,some 0,some 1],.ref 0 0,.ref 1 0] [.cells [((q8.hO).cs.getD 0 .any)],.cells [VI (((q8.tail.hO).cs.getD 0 .any).toInt)]] fun r9 o9=>.ai ((o9.hO)=.cells (o9.hO).cs)<|.ai (aI [.lk .sl] ((o9.hO).cs) 0 1 o9.tail)<|.ai ((o9.tail.hO)=.cells (o9.tail.hO).cs)<|.ai (aI [.lk (.int .i64)] ((o9.tail.hO).cs) 0 2 o9.tail.tail)<|NS r9<|.ai (ag (((((mk [40,114,101,99,32]):ByteArray)++((y8.tail.tail.hA).toStr)):ByteArray)++(mk [32]))+ag r9.toStr<=9223372036854775807)<|.ai (ag (((((((mk [40,114,101,99,32]):ByteArray)++((y8.tail.tail.hA).toStr)):ByteArray)++(mk [32])):ByteArray)++r9.toStr)+ag (mk [41])<=9223372036854775807)<|.done 0 [VS (((((((((mk [40,114,101,99,32]):ByteArray)++((y8.tail.tail.hA).toStr)):ByteArray)++(mk [32])):ByteArray)++r9.toStr):ByteArray)++(mk [41]))] [.cells [((o9.hO).cs.getD 0 .any)],.cells [VI (((o9.tail.hO).cs.getD 0 .any).toInt)]]) (fun y8 q8=>.ai ((q8.hO)=.cells (q8.hO).cs)<|.ai (ae [.lk .sl] ((q8.hO).cs) 0 q8.tail)<|.ai (((q8.tail.drop 0).hO)=.cells ((q8.tail.drop 0).hO).cs)<|.ai (ae [.lk (.int .i64)] (((q8.tail.drop 0).hO).cs) 0 ((q8.tail.drop 0).tail))<|.done 0 [.any] [.cells [((q8.hO).cs.getD 0 .any)],.cells [VI (((q8.tail.hO).cs.getD 0 .any).toInt)]])) (NZ a0<|NZ a0<|.ai (LK.has (.int .u8) (a0.deref.hA)/\1<=a0.deref.length)<|.ai (jH [[.v (.int .u8 ((a0.deref.hA).toInt))]])<|.done 0 [VS (⟨(bytesOf [[.v (.int .u8 ((a0.deref.hA).toInt))]]).toArray⟩)] [.cells [a3_0],.cells [VI a4_0]])))))
theorem xD(a0:AV)(a1:AV)(a3_0:AV)(a4_0:Int)(ha0:LK.has .ptr a0)(ha1:LK.has .sl a1)(ha3_0:LK.has .sl a3_0)(h:dm 100 (Fk a0 a1 a3_0 a4_0) R):an Tryz.prog 155 [a0,a1,.gN 155 [none,some 0,some 1],.ref 0 0,.ref 1 0] [.cells [a3_0],.cells [VI a4_0]] R :=
 an.nj (bz (ca (ah (bN ha3_0) aC)) (bz (ca (ah (aA _) aC)) cx)) (an.up (ah (bD ha0) (ah (bN ha1) (ah (aA _) (ah (aA _) (ah (aA _) aC))))) (oF NY {mu:=[(2,.tF 155 [none,some 0,some 1]),(3,.one (.obj [.lk .sl])),(4,.one (.obj [.lk (.int .i64)]))],own:=[]} Tryz.f155 h))
def I5(x0:AV)(x1:AV)(x9:ByteArray)(o0_0:AV)(o1_0:Int):Tree :=
 NP x0<|NL x1<|NS (VS x9)<|.ai (Ob.cells [o0_0]=.cells [o0_0])<|.ai (ae [.lk .sl] [o0_0] 0 [.cells [VI o1_0]])<|.ai (Ob.cells [VI o1_0]=.cells [VI o1_0])<|.ai (ae [.lk (.int .i64)] [VI o1_0] 0 [])<|.test (af x9==af (mk [])) (.call 152 [VI o1_0] [] fun r1 o1=>NS r1<|.ai (ag (mk [116])+ag r1.toStr<=9223372036854775807)<|.done 0 [x0,x1,VS (((mk [116]):ByteArray)++r1.toStr)] [.cells [o0_0],.cells [VI (IntKind.wrap .i64 (o1_0+1))]]) (.call 156 [o0_0,VS x9] [] fun r2 o2=>NB r2<|.test r2.toBool (.call 152 [VI o1_0] [] fun r3 o3=>NS r3<|.ai (ag (mk [116])+ag r3.toStr<=9223372036854775807)<|.done 0 [x0,x1,VS (((mk [116]):ByteArray)++r3.toStr)] [.cells [o0_0],.cells [VI (IntKind.wrap .i64 (o1_0+1))]]) (.done 1 [x0,x1,VS x9] [.cells [o0_0],.cells [VI o1_0]]))
abbrev En:=cC Tryz.prog 100 Lu GD
theorem Kl(x0:AV)(x1:AV)(x9:ByteArray)(o0_0:AV)(o1_0:Int)(h:kp 100 (I5 x0 x1 x9 o0_0 o1_0) En U):En [x0,x1,VS x9] [.cells [o0_0],.cells [VI o1_0]] U :=
 gQ NY h
def Jj(a0:AV)(a1:ByteArray):Tree :=
 .call 167 [a0,VS a1] [] fun r1 o1=>NI r1<|.done 0 [VB (decide (r1.toInt≥(0:Int)))] []
theorem S9(a0:AV)(a1:ByteArray)(ha0:LK.has .sl a0)(h:dm 9 (Jj a0 a1) R):an Tryz.prog 156 [a0,VS a1] [] R :=
 uQ (ah (bN ha0) (ah (aA _) aC)) (oQ [] Tryz.f156 h)
def Lx(a0:AV):Tree :=
 .call 168 [a0,.v (.func (.func 150) #[] #[])] [] fun r1 o1=>NI r1<|.done 0 [VB (decide (r1.toInt≥(0:Int)))] []
theorem QS(a0:AV)(ha0:LK.has .sl a0)(h:dm 9 (Lx a0) R):an Tryz.prog 157 [a0,.v (.func (.func 150) #[] #[])] [] R :=
 uQ (ah (bN ha0) (ah (aA _) aC)) (oQ [] Tryz.f157 h)
def Jr(a0:ByteArray):Tree :=
 .test (decide ((ag a0:Int)<(2:Int))) (.done 0 [VB false] []) (.test (decide ((ag a0:Int)>(3:Int))) (.done 0 [VB false] []) (.ai (0<=(0:Int)/\(0:Int)<ag a0)<|.test ((bt a0 0) != (101:Int)) (.done 0 [VB false] []) (.ai (0<=(1:Int)/\(1:Int)<=(ag a0:Int)/\(ag a0:Int)<=(ag a0:Int))<|.call 169 [VS (ct a0 (bK 1) (bK (ag a0:Int))),VS (mk [48,49,50,51,52,53,54,55,56,57])] [] fun r1 o1=>NS r1<|.test (!(af r1.toStr==af (mk []))) (.done 0 [VB false] []) (.test ((ag a0:Int)==(2:Int)) (.done 0 [VB true] []) (.ai (0<=(1:Int)/\(1:Int)<ag a0)<|.done 0 [VB ((bt a0 1) != (48:Int))] [])))))
theorem Qj(a0:ByteArray)(h:dm 30 (Jr a0) R):an Tryz.prog 158 [VS a0] [] R :=
 uQ (ah (aA _) aC) (oQ [] Tryz.f158 h)
def My(a0:Int):Tree :=
 .test (decide (a0≥(97:Int))) (.test (decide (a0<=(122:Int))) (.done 0 [VB true] []) (.test (decide (a0≥(48:Int))) (.test (decide (a0<=(57:Int))) (.done 0 [VB true] []) (.test (a0==(42:Int)) (.done 0 [VB true] []) (.done 0 [VB (a0==(43:Int))] []))) (.test (a0==(42:Int)) (.done 0 [VB true] []) (.done 0 [VB (a0==(43:Int))] [])))) (.test (decide (a0≥(48:Int))) (.test (decide (a0<=(57:Int))) (.done 0 [VB true] []) (.test (a0==(42:Int)) (.done 0 [VB true] []) (.done 0 [VB (a0==(43:Int))] []))) (.test (a0==(42:Int)) (.done 0 [VB true] []) (.done 0 [VB (a0==(43:Int))] [])))
theorem Rt(a0:Int)(h:dm 25 (My a0) R):an Tryz.prog 161 [.v (.int .u8 a0)] [] R :=
 uQ (ah (aA _) aC) (oQ [] Tryz.f161 h)
def MY(a0:Int):Tree :=
 .test (decide (a0≥(97:Int))) (.test (decide (a0<=(122:Int))) (.done 0 [VB true] []) (.test (decide (a0≥(48:Int))) (.test (decide (a0<=(57:Int))) (.done 0 [VB true] []) (.test (a0==(43:Int)) (.done 0 [VB true] []) (.done 0 [VB (a0==(42:Int))] []))) (.test (a0==(43:Int)) (.done 0 [VB true] []) (.done 0 [VB (a0==(42:Int))] [])))) (.test (decide (a0≥(48:Int))) (.test (decide (a0<=(57:Int))) (.done 0 [VB true] []) (.test (a0==(43:Int)) (.done 0 [VB true] []) (.done 0 [VB (a0==(42:Int))] []))) (.test (a0==(43:Int)) (.done 0 [VB true] []) (.done 0 [VB (a0==(42:Int))] [])))
theorem Rn(a0:Int)(h:dm 25 (MY a0) R):an Tryz.prog 162 [.v (.int .u8 a0)] [] R :=
 uQ (ah (aA _) aC) (oQ [] Tryz.f162 h)
def OO(a0:ByteArray)(a1:ByteArray):Tree :=
 .test (decide ((ag a0:Int)≥(1:Int))) (.test (decide ((ag a0:Int)<=(3:Int))) (.ai (0<=(0:Int)/\(0:Int)<=(1:Int)/\(1:Int)<=(ag a0:Int))<|.call 175 [VS a1,VS (ct a0 (bK 0) (bK 1))] [] fun r1 o1=>NB r1<|.test r1.toBool (.ai (0<=(1:Int)/\(1:Int)<=(ag a0:Int)/\(ag a0:Int)<=(ag a0:Int))<|.call 169 [VS (ct a0 (bK 1) (bK (ag a0:Int))),VS (mk [48,49,50,51,52,53,54,55,56,57])] [] fun r2 o2=>NS r2<|.done 0 [VB (af r2.toStr==af (mk []))] []) (.done 0 [VB false] [])) (.done 0 [VB false] [])) (.done 0 [VB false] [])
theorem QA(a0:ByteArray)(a1:ByteArray)(h:dm 25 (OO a0 a1) R):an Tryz.prog 163 [VS a0,VS a1] [] R :=
 uQ (ah (aA _) (ah (aA _) aC)) (oQ [] Tryz.f163 h)
def E8(a0:AV)(e1_0_0:List (List AV)):Tree :=
 .call 166 [a0,.ref 0 0] [.cells [.vec 1],.vec 1 e1_0_0] fun r1 o1=>.ai ((o1.hO)=.cells (o1.hO).cs)<|.ai (aI [.vec 1] ((o1.hO).cs) 0 1 o1.tail)<|NZ a0<|NZ a0<|en (a0.deref.drop 3)<|NP ((a0.deref.drop 3).hA)<|.test (!((a0.deref.drop 3).hA).isNil) (NZ a0<|NZ a0<|en (a0.deref.drop 3)<|.call 165 [((a0.deref.drop 3).hA),.fn 166 [.ref 0 0]] [.cells [.vec 1],.vec 1 ((o1.tail.hO).es)] fun r2 o2=>.ai ((o2.hO)=.cells (o2.hO).cs)<|.ai (aI [.vec 1] ((o2.hO).cs) 0 1 o2.tail)<|NZ a0<|NZ a0<|en (a0.deref.drop 4)<|NP ((a0.deref.drop 4).hA)<|.test (!((a0.deref.drop 4).hA).isNil) (NZ a0<|NZ a0<|en (a0.deref.drop 4)<|.call 165 [((a0.deref.drop 4).hA),.fn 166 [.ref 0 0]] [.cells [.vec 1],.vec 1 ((o2.tail.hO).es)] fun r3 o3=>.ai ((o3.hO)=.cells (o3.hO).cs)<|.ai (aI [.vec 1] ((o3.hO).cs) 0 1 o3.tail)<|.done 0 [.any] [.cells [.vec 1],.vec 1 ((o3.tail.hO).es)]) (.done 0 [.any] [.cells [.vec 1],.vec 1 ((o2.tail.hO).es)])) (NZ a0<|NZ a0<|en (a0.deref.drop 4)<|NP ((a0.deref.drop 4).hA)<|.test (!((a0.deref.drop 4).hA).isNil) (NZ a0<|NZ a0<|en (a0.deref.drop 4)<|.call 165 [((a0.deref.drop 4).hA),.fn 166 [.ref 0 0]] [.cells [.vec 1],.vec 1 ((o1.tail.hO).es)] fun r4 o4=>.ai ((o4.hO)=.cells (o4.hO).cs)<|.ai (aI [.vec 1] ((o4.hO).cs) 0 1 o4.tail)<|.done 0 [.any] [.cells [.vec 1],.vec 1 ((o4.tail.hO).es)]) (.done 0 [.any] [.cells [.vec 1],.vec 1 ((o1.tail.hO).es)]))
theorem xr(a0:AV)(e1_0_0:List (List AV))(ha0:LK.has .ptr a0)(h:dm 29 (E8 a0 e1_0_0) R):an Tryz.prog 165 [a0,.fn 166 [.ref 0 0]] [.cells [.vec 1],.vec 1 e1_0_0] R :=
 an.nj (bz (ca (ah (aA _) aC)) (bz (fJ _) cx)) (an.up (ah (bD ha0) (ah (aA _) aC)) (oF [] {mu:=[(1,.fn [some (.obj [.vec 1])])],own:=[]} Tryz.f165 h))
def H5(a0:AV)(e1_0:List (List AV)):Tree :=
 NZ a0<|NZ a0<|.ai (LK.has (.int .u8) (a0.deref.hA)/\1<=a0.deref.length)<|.test (((a0.deref.hA).toInt)==(110:Int)) (NZ a0<|NZ a0<|kX (a0.deref.drop 1)<|.call 156 [.sl e1_0,VS (((a0.deref.drop 1).hA).toStr)] [] fun r1 o1=>NB r1<|.test (!r1.toBool) (NZ a0<|NZ a0<|kX (a0.deref.drop 1)<|.ai (cG 1 [[VS (((a0.deref.drop 1).hA).toStr)]]/\((e1_0.length)+([[VS (((a0.deref.drop 1).hA).toStr)]]:List (List AV)).length)*16<=140737488355328)<|.done 0 [.any] [.cells [.vec 1],.vec 1 (e1_0++([[VS (((a0.deref.drop 1).hA).toStr)]]:List (List AV)))]) (.done 0 [.any] [.cells [.vec 1],.vec 1 e1_0])) (.done 0 [.any] [.cells [.vec 1],.vec 1 e1_0])
theorem Sa(a0:AV)(e1_0:List (List AV))(ha0:LK.has .ptr a0)(h:dm 24 (H5 a0 e1_0) R):an Tryz.prog 166 [a0,.ref 0 0] [.cells [.vec 1],.vec 1 e1_0] R :=
 an.nj (bz (ca (ah (aA _) aC)) (bz (fJ _) cx)) (an.up (ah (bD ha0) (ah (aA _) aC)) (oF [] {mu:=[(1,.one (.obj [.vec 1]))],own:=[]} Tryz.f166 h))
def IU:LI:={hd:={bU:=[(0,.k .sl),(1,.k .str),(7,.k (.int .i64)),(8,.k (.int .i64))]},xs:={},rt:={bU:=[(4,.k (.int .i64))]},ex:=0}
def Oi:Code:=cJ (cH Tryz.f167) 2
def NM:List (Nat×LI):=[(2,IU)]
def L0(a0:AV)(a1:ByteArray):Tree :=
 NL a0<|.loop Oi IU [a0,VS a1,VI (a0.elems.length:Int),VI 0] [] (fun y1 q1=>.done 0 [VI (-1)] []) (fun y1 q1=>NI (y1.hA)<|.done 0 [VI ((y1.hA).toInt)] [])
theorem Qg(a0:AV)(a1:ByteArray)(ha0:LK.has .sl a0)(h:dm 19 (L0 a0 a1) R):an Tryz.prog 167 [a0,VS a1] [] R :=
 uQ (ah (bN ha0) (ah (aA _) aC)) (oQ NM Tryz.f167 h)
def F6(x0:AV)(x1:ByteArray)(x7:Int)(x8:Int):Tree :=
 NL x0<|NS (VS x1)<|NI (VI x7)<|NI (VI x8)<|.test (decide (x8<x7)) (NG x0 x8 1<|kX (x0.ix x8)<|.test (af x1==af (((x0.ix x8).hA).toStr)) (.done 2 [VI x8] []) (.done 0 [x0,VS x1,VI x7,VI (IntKind.wrap .i64 (x8+1))] [])) (.done 1 [] [])
abbrev Il:=cC Tryz.prog 19 Oi IU
theorem MW(x0:AV)(x1:ByteArray)(x7:Int)(x8:Int)(h:kp 19 (F6 x0 x1 x7 x8) Il U):Il [x0,VS x1,VI x7,VI x8] [] U :=
 gQ NM h
def G9:LI:={hd:={bU:=[(0,.k .sl),(1,.c (.func (.func 150) #[] #[])),(7,.k (.int .i64)),(8,.k (.int .i64))]},xs:={},rt:={bU:=[(4,.k (.int .i64))]},ex:=0}
def NJ:Code:=cJ (cH Tryz.f168) 2
def Nk:List (Nat×LI):=[(2,G9)]
def Jy(a0:AV):Tree :=
 NL a0<|.loop NJ G9 [a0,.v (.func (.func 150) #[] #[]),VI (a0.elems.length:Int),VI 0] [] (fun y2 q2=>.done 0 [VI (-1)] []) (fun y2 q2=>NI (y2.hA)<|.done 0 [VI ((y2.hA).toInt)] [])
theorem Qu(a0:AV)(ha0:LK.has .sl a0)(h:dm 19 (Jy a0) R):an Tryz.prog 168 [a0,.v (.func (.func 150) #[] #[])] [] R :=
 uQ (ah (bN ha0) (ah (aA _) aC)) (oQ Nk Tryz.f168 h)
def F0(x0:AV)(x7:Int)(x8:Int):Tree :=
 NL x0<|.ai (AV.v (.func (.func 150) #[] #[])=.v (.func (.func 150) #[] #[]))<|NI (VI x7)<|NI (VI x8)<|.test (decide (x8<x7)) (NG x0 x8 1<|kX (x0.ix x8)<|.call 150 [VS (((x0.ix x8).hA).toStr)] [] fun r1 o1=>NB r1<|.test r1.toBool (.done 2 [VI x8] []) (.done 0 [x0,.v (.func (.func 150) #[] #[]),VI x7,VI (IntKind.wrap .i64 (x8+1))] [])) (.done 1 [] [])
abbrev Gs:=cC Tryz.prog 19 NJ G9
theorem Mj(x0:AV)(x7:Int)(x8:Int)(h:kp 19 (F0 x0 x7 x8) Gs U):Gs [x0,.v (.func (.func 150) #[] #[]),VI x7,VI x8] [] U :=
 gQ Nk h
end
end Go.Proofs.Trees
namespace Go.Proofs.Trees
open Go Go.VL
theorem bA(i:Nat)(h:i<1000000000000):IntKind.wrap .i64 ((i:Int)+1)=((i+1:Nat):Int):=by rw[wrap64]<;>omega
inductive E where
 |atom (s:List UInt8)
 |list (l:List E)
mutual
def E.cE:E->AV
 | .atom s=>.ptr [.v (.string (mk s)),.v (.slice none 0 0)]
 | .list l=>.ptr [.v (.string (mk [])),.sl (E.mE l)]
def E.mE:List E->List (List AV)
 |[]=>[]
 |e::l=>[e.cE]::E.mE l
end
mutual
def E.iH:E->List AV
 | .atom s=>[.v (.string (mk s)),.v (.slice none 0 0)]
 | .list l=>[.v (.string (mk [])),.sl (E.bx l)]
def E.bx:List E->List (List AV)
 |[]=>[]
 |e::l=>e.iH::E.bx l
end
def E.kT(e:E):AV:=.agg e.iH
theorem wh(l r:List E):E.mE (l++r)=E.mE l++E.mE r:=by
 induction l with
 |nil=>rfl
 |cons e l ih=>simp[E.mE,ih]
theorem qB(l r:List E):E.bx (l++r)=E.bx l++E.bx r:=by
 induction l with
 |nil=>rfl
 |cons e l ih=>simp[E.bx,ih]
theorem sd(l:List E):(E.mE l).length=l.length:=by
 induction l with
 |nil=>rfl
 |cons e l ih=>simp[E.mE,ih]
theorem eh(l:List E):(E.bx l).length=l.length:=by
 induction l with
 |nil=>rfl
 |cons e l ih=>simp[E.bx,ih]
def fm(b:UInt8):Bool:=decide ((97<=b.toNat/\b.toNat<=122)\/(48<=b.toNat/\b.toNat<=57)\/b.toNat=43\/b.toNat=42)
def sL(f:List UInt8->Option (E×List UInt8)):Nat->List UInt8->List E->Option (E×List UInt8)
 |0,_,_=>none
 |
  n+1,s,acc=>match f s with
  |some (p,c::r)=>if c.toNat=41 then some (.list (acc++[p]),r)else if c.toNat=32 then sL f n r (acc++[p])else none
  |_=>none
def rd:Nat->List UInt8->Option (E×List UInt8)
 |0,s=>if s.takeWhile fm=[]then none else some (.atom (s.takeWhile fm),s.dropWhile fm)
 |k+1,s=>if s.takeWhile fm=[]then(match s with
  |c::r=>if c.toNat=40 then sL (rd k) (r.length+1) r []else none
  |[]=>none)else some (.atom (s.takeWhile fm),s.dropWhile fm)
theorem Cm{f:List UInt8->Option (E×List UInt8)}(hf:∀s e r,f s=some (e,r)->r.length<s.length):∀(n:Nat) (s:List UInt8) (acc:List E) (e:E) (r:List UInt8),sL f n s acc=some (e,r)->r.length<s.length
 |0,s,acc,e,r,h=>by cases h
 |
  n+1,s,acc,e,r,h=>by
  simp only[sL]at h
  split at h
  ·rename_i p c r' hs
   have:=hf _ _ _ hs
   simp only[az]at this
   split at h
   ·cases h;omega
   ·split at h
    ·have:=Cm hf n _ _ _ _ h;omega
    ·cases h
  ·cases h
theorem ot{s:List UInt8}(h:¬s.takeWhile fm=[]):(s.dropWhile fm).length<s.length:=by
 have h1:=congrArg List.length (List.takeWhile_append_dropWhile (p:=fm) (l:=s))
 simp only[aq]at h1
 have:0<(s.takeWhile fm).length:=List.length_pos_iff.2 h
 omega
theorem yM:∀(k:Nat) (s:List UInt8) (e:E) (r:List UInt8),rd k s=some (e,r)->r.length<s.length
 |
  0,s,e,r,h=>by
  simp only[rd]at h
  split at h
  ·cases h
  ·rename_i hn;cases h;exact ot hn
 |
  k+1,s,e,r,h=>by
  simp only[rd]at h
  split at h
  ·split at h
   ·split at h
    ·have:=Cm (yM k) _ _ _ _ _ h
     simp only[az];omega
    ·cases h
   ·cases h
  ·rename_i hn;cases h;exact ot hn
theorem Sr(b:UInt8):an Tryz.prog 162 [.v (.int .u8 (b.toNat:Int))] [] (bJ (.v (.bool (fm b)))):=by
 refine Rn _ ?_
 simp only[MY,↓zq,zs,ae,bJ,fm]
 repeat' (apply aH<;>intro _)
 all_goals first|(congr 2;rw[cA];simp;omega)|(congr 2;simp;omega)
theorem zv{s:List UInt8}{i:Nat}(hi:i<s.length)(hb:fm (s.getD i 0)=true):((s.drop i).takeWhile fm).length=((s.drop (i+1)).takeWhile fm).length+1:=by
 have e:s.drop i=s.getD i 0::s.drop (i+1):=by
  rw[aT hi];simp[aa,hi]
 rw[e,List.takeWhile_cons_of_pos hb];simp
theorem rh{s:List UInt8}{i:Nat}(hi:i<s.length)(hb:fm (s.getD i 0)=false):(s.drop i).takeWhile fm=[]:=by
 have e:s.drop i=s.getD i 0::s.drop (i+1):=by
  rw[aT hi];simp[aa,hi]
 rw[e,List.takeWhile_cons_of_neg (by rw[hb];simp)]
theorem Is(s:List UInt8)(hs:s.length<=8000)(d:Int):∀(k i:Nat),i+k=s.length->HN [.v (.string (mk s)),.v (.int .i64 d),.v (.int .i64 (i:Int))] [] (iq 1 [.v (.string (mk s)),.v (.int .i64 d),.v (.int .i64 ((i+((s.drop i).takeWhile fm).length:Nat):Int))] [])
 |
  0,i,hi=>by
  refine MS _ _ _ ?_
  have hd:s.drop i=[]:=bV (by omega)
  simp only[Iw,↓zq,zs,ae,zt]
  exact⟨fun h=>by omega,fun _=>by simp[iq,hd]⟩
 |
  k+1,i,hi=>by
  have hlt:i<s.length:=by omega
  refine MS _ _ _ ?_
  simp only[Iw,↓zq,zs,ae,zt,my s i hlt]
  refine⟨fun _=>⟨by omega,?_⟩,fun h=>by omega⟩
  refine aj (Sr _) ?_
  simp only[↓zq,zs,ae]
  refine⟨fun hb=>?_,fun hb=>?_⟩
  ·rw[bA i (by omega)]
   have:=Is s hs d k (i+1) (by omega)
   rw[zv hlt hb,show i+(((s.drop (i+1)).takeWhile fm).length+1)=i+1+((s.drop (i+1)).takeWhile fm).length by omega]
   exact this
  ·simp[iq,rh hlt hb]
def ou(s:List UInt8):Option (E×List UInt8)->AV
 |some (e,r)=>.cI [e.cE,.v (.string (mk r))]
 |none=>.cI [.v (.pointer none),.v (.string (mk s))]
theorem cX(e:E):LK.has .ptr e.cE=True:=by cases e<;>simp[E.cE,cj]
theorem eu(e:E):e.cE.isNil=false:=by cases e<;>rfl
theorem uR(s:List UInt8):s.take (s.takeWhile fm).length=s.takeWhile fm:=by
 have h:=List.takeWhile_append_dropWhile (p:=fm) (l:=s)
 have:(s.takeWhile fm++s.dropWhile fm).take (s.takeWhile fm).length=s.takeWhile fm:=List.take_left
 rw[h]at this;exact this
theorem yV(s:List UInt8):s.drop (s.takeWhile fm).length=s.dropWhile fm:=by
 have h:=List.takeWhile_append_dropWhile (p:=fm) (l:=s)
 have:(s.takeWhile fm++s.dropWhile fm).drop (s.takeWhile fm).length=s.dropWhile fm:=List.drop_left
 rw[h]at this;exact this
theorem Bj(c:UInt8)(r:List UInt8):(List.take (r.length+1) (c::r)).drop (bK 1)=r:=by simp
theorem Ka(s0:List UInt8)(k:Nat)(hk:k<300)(ih:∀s,s.length<=8000->an Tryz.prog 148 [.v (.string (mk s)),.v (.int .i64 ((300-k:Nat):Int))] [] (bJ (ou s (rd k s)))) :
 ∀(n:Nat) (s:List UInt8) (acc:List E),s.length<n->s.length+acc.length<=8000->Ge [.v (.string (mk s0)),.v (.int .i64 ((300-(k+1):Nat):Int)),.v (.string (mk s))] [.cells [.v (.string (mk [])),.any],.vec 1 (E.mE acc)]
  (nK (match sL (rd k) n s acc with|some (e,r)=>(2,[e.cE,.v (.string (mk r))],[])|none=>(2,[.v (.pointer none),.v (.string (mk s0))],[])))
 |0,s,acc,hn,_=>by omega
 |
  n+1,s,acc,hn,hl=>by
  refine Ry _ _ _ _ _ ?_
  simp only[Jh,↓zq,zs,ae,Ch]
  have hd:IntKind.wrap .i64 (((300-(k+1):Nat):Int)+1)=((300-k:Nat):Int):=by rw[wrap64]<;>omega
  rw[hd]
  refine aj (ih s (by omega)) ?_
  have hlt:=yM k s
  cases hr:rd k s with
  |
   none =>
   simp only[ou,↓zq,zs,ae,sL,hr]
   simp[nK]
  |
   some q =>
   obtain⟨e,r⟩:=q
   have:=hlt e r hr
   cases r with
   |
    nil =>
    simp only[ou,↓zq,zs,ae,zt,sL,hr,cX,eu]
    simp[nK]
   |
    cons c r =>
    simp only[az]at this
    have hb:=my (c::r) 0 (by simp)
    simp only[Int.ofNat_eq_natCast,Int.cast_ofNat_Int]at hb
    have e2:(List.take (c::r).length (c::r)).drop 1=r:=by simp
    simp only[ou,↓zq,zs,ae,zt,sL,hr,cX,eu,hb,e2,sd]
    refine⟨fun h=>(by cases h),fun _=>⟨fun h=>(by cases h),fun _=>⟨⟨fun c hc=>(by simp at hc;rw[hc];rfl),by omega⟩,by omega,by omega,fun h41=>?_,fun h41=>⟨by omega,fun h32=>?_,fun h32=>?_⟩⟩⟩⟩
    ·have h41':c.toNat=41:=by omega
     rw[Bj,if_pos h41']
     simp[nK,E.cE,wh,E.mE]
    ·have h41':¬c.toNat=41:=by omega
     have h32':¬c.toNat=32:=by omega
     rw[if_neg h41',if_neg h32']
    ·have h41':¬c.toNat=41:=by omega
     have h32':c.toNat=32:=by omega
     rw[Bj,if_neg h41',if_pos h32']
     have:=Ka s0 k hk ih n r (acc++[e]) (by omega) (by simp;omega)
     simpa[wh,E.mE]using this
theorem So:∀(k:Nat),k<=300->∀s:List UInt8,s.length<=8000->an Tryz.prog 148 [.v (.string (mk s)),.v (.int .i64 ((300-k:Nat):Int))] [] (bJ (ou s (rd k s))):=by
 intro k
 induction k with
 |
  zero =>
  intro hk s hs
  refine Nw _ _ ?_
  unfold GB
  refine cF (Is s hs _ s.length 0 (by omega)) ?_
  simp only[↓zq,zs,ae,zt,aW,bJ]
  have hw:(s.takeWhile fm).length<=s.length:=by
   have:=congrArg List.length (List.takeWhile_append_dropWhile (p:=fm) (l:=s))
   simp only[aq]at this;omega
  refine⟨fun h=>⟨by omega,by omega,?_⟩,fun h=>?_⟩
  ·have hne:¬s.takeWhile fm=[]:=fun e=>by rw[e]at h;simp at h
   simp only[rd,if_neg hne,ou,E.cE,uR,yV]
  ·have hnil:s.takeWhile fm=[]:=bS (by omega)
   simp only[rd,if_pos hnil,ou]
   refine⟨fun _=>trivial,fun hne=>⟨?_,?_⟩⟩
   ·cases s with
    |nil=>exact absurd rfl hne
    |cons c s=>simp
   ·exact⟨fun _=>trivial,fun _=>⟨fun _=>trivial,fun h=>absurd rfl h⟩⟩
 |
  succ k ih =>
  intro hk s hs
  refine Nw _ _ ?_
  unfold GB
  refine cF (Is s hs _ s.length 0 (by omega)) ?_
  simp only[↓zq,zs,ae,zt,aW,bJ]
  have hw:(s.takeWhile fm).length<=s.length:=by
   have:=congrArg List.length (List.takeWhile_append_dropWhile (p:=fm) (l:=s))
   simp only[aq]at this;omega
  refine⟨fun h=>⟨by omega,by omega,?_⟩,fun h=>?_⟩
  ·have hne:¬s.takeWhile fm=[]:=fun e=>by rw[e]at h;simp at h
   simp only[rd,if_neg hne,ou,E.cE,uR,yV]
  ·have hnil:s.takeWhile fm=[]:=bS (by omega)
   simp only[rd,if_pos hnil]
   cases s with
   |nil=>simp[ou]
   |
    cons c s =>
    have hb:=my (c::s) 0 (by simp)
    simp only[Int.ofNat_eq_natCast,Int.cast_ofNat_Int]at hb
    simp only[az]at hs
    simp only[↓zq,zs,ae,hb,Bj]
    refine⟨fun h=>(by cases h),fun _=>⟨by omega,fun h40=>?_,fun h40=>⟨fun h300=>?_,fun h300=>⟨by omega,?_⟩⟩⟩⟩
    ·have:¬c.toNat=40:=by omega
     rw[if_neg this];rfl
    ·omega
    ·have h40':c.toNat=40:=by omega
     rw[if_pos h40']
     refine fA (Ka (c::s) k (by omega) (ih (by omega)) (s.length+1) s [] (by omega) (by simp;omega)) (fun ys o e=>?_) (fun ys o e=>?_)
     ·split at e<;>cases e
     ·split at e<;>cases e
      ·rename_i e' r' hr
       simp only[↓zq,zs,ae,cX]
       simp only[hr,ou]
      ·rename_i hr
       simp only[↓zq,zs,ae]
       simp only[hr,ou]
end Go.Proofs.Trees
namespace Go.Proofs.Trees
open Go Go.VL
mutual
def E.sz:E->Nat
 | .atom _=>1
 | .list l=>1+E.jB l
def E.jB:List E->Nat
 |[]=>0
 |e::l=>e.sz+E.jB l
end
mutual
def E.ok:E->Prop
 | .atom s=>s≠[]
 | .list l=>E.Dp l
def E.Dp:List E->Prop
 |[]=>True
 |e::l=>e.ok/\E.Dp l
end
theorem yD(l r:List E):E.jB (l++r)=E.jB l+E.jB r:=by
 induction l with
 |nil=>simp[E.jB]
 |cons e l ih=>simp[E.jB,ih];omega
theorem yY(l r:List E):E.Dp (l++r)↔E.Dp l/\E.Dp r:=by
 induction l with
 |nil=>simp[E.Dp]
 |cons e l ih=>simp[E.Dp,ih,and_assoc]
theorem Cu{f:List UInt8->Option (E×List UInt8)}(hf:∀s e r,f s=some (e,r)->e.ok/\e.sz+r.length<=s.length):∀(n:Nat) (s:List UInt8) (acc:List E) (e:E) (r:List UInt8),sL f n s acc=some (e,r)->E.Dp acc->e.ok/\e.sz+r.length<=s.length+1+E.jB acc
 |0,s,acc,e,r,h,_=>by cases h
 |
  n+1,s,acc,e,r,h,ha=>by
  simp only[sL]at h
  split at h
  ·rename_i p c r' hs
   obtain⟨h1,h2⟩:=hf _ _ _ hs
   simp only[az]at h2
   split at h
   ·cases h
    refine⟨(yY _ _).2 ⟨ha,h1,trivial⟩,?_⟩
    simp only[E.sz,yD,E.jB];omega
   ·split at h
    ·have:=Cu hf n _ _ _ _ h ((yY _ _).2 ⟨ha,h1,trivial⟩)
     refine⟨this.1,?_⟩
     have h3:=this.2
     simp only[yD,E.jB]at h3;omega
    ·cases h
  ·cases h
theorem uO(s:List UInt8):(s.takeWhile fm).length+(s.dropWhile fm).length=s.length:=by
 have:=congrArg List.length (List.takeWhile_append_dropWhile (p:=fm) (l:=s))
 simpa only[aq]using this
theorem Fv:∀(k:Nat) (s:List UInt8) (e:E) (r:List UInt8),rd k s=some (e,r)->e.ok/\e.sz+r.length<=s.length
 |
  0,s,e,r,h=>by
  simp only[rd]at h
  split at h
  ·cases h
  ·rename_i hn;cases h
   have:=uO s
   have:0<(s.takeWhile fm).length:=List.length_pos_iff.2 hn
   exact⟨hn,by simp only[E.sz];omega⟩
 |
  k+1,s,e,r,h=>by
  simp only[rd]at h
  split at h
  ·split at h
   ·split at h
    ·have:=Cu (Fv k) _ _ _ _ _ h trivial
     refine⟨this.1,?_⟩
     have h3:=this.2
     simp only[E.jB,az]at h3 |-;omega
    ·cases h
   ·cases h
  ·rename_i hn;cases h
   have:=uO s
   have:0<(s.takeWhile fm).length:=List.length_pos_iff.2 hn
   exact⟨hn,by simp only[E.sz];omega⟩
def qU(s:List UInt8):Option E:=if s.length>8000 then none else match rd 300 s with|some (e,[])=>some e|_=>none
theorem nS{s:List UInt8}{e:E}(h:qU s=some e):e.ok/\e.sz<=8000:=by
 unfold qU at h
 split at h
 ·cases h
 ·split at h
  ·rename_i e' hr
   cases h
   have:=Fv _ _ _ _ hr
   exact⟨this.1,by have:=this.2;simp at this;omega⟩
  ·cases h
def uB:Option E->AV
 |some e=>e.cE
 |none=>.v (.pointer none)
theorem N4(s:List UInt8):an Tryz.prog 129 [.v (.string (mk s))] [] (bJ (uB (qU s))):=by
 refine Sb _ ?_
 simp only[Pb,↓zq,zs,ae,zt,bJ,qU]
 refine⟨fun h=>?_,fun h=>?_⟩
 ·rw[if_pos (by omega)];simp[uB]
 ·rw[if_neg (by omega)]
  refine aj (So 300 (by omega) s (by omega)) ?_
  cases hr:rd 300 s with
  |
   none =>
   simp only[ou,↓zq,zs,ae,zt,uB]
   refine⟨fun _=>trivial,fun _=>trivial⟩
  |
   some q =>
   obtain⟨e,r⟩:=q
   cases r with
   |nil=>simp only[ou,↓zq,zs,ae,zt,uB,cX];simp
   |cons c r=>simp only[ou,↓zq,zs,ae,zt,uB,cX];simp
def im(b:UInt8):Bool:=decide (48<=b.toNat/\b.toNat<=57)
def named(lo hi:Nat):List UInt8->Bool
 |[]=>false
 |c::r=>decide (r.length<=2)&&decide (lo<=c.toNat/\c.toNat<=hi)&&r.all im
def ia(s:List UInt8):Bool:=named 120 122 s
def dr(s:List UInt8):Bool:=named 116 116 s
def C5(v lo hi:Int):Bool:=decide (lo<=v/\v<=hi)
theorem B3(v lo hi:Int):an Tryz.prog 45 [.v (.int .i64 v),.v (.int .i64 lo),.v (.int .i64 hi)] [] (bJ (.v (.bool (C5 v lo hi)))):=by
 refine QD _ _ _ ?_
 simp only[Ly,↓zq,zs,ae,bJ,C5]
 constructor<;>intro h<;>simp at h<;>simp[h]
 omega
theorem Lw(s:List UInt8)(hs:s.length<=3):∀(k i:Nat),i+k=s.length->H8 [.v (.string (mk s)),.v (.int .i64 (i:Int))] [] (nK (if(s.drop i).all im=true then(1,[],[])else(2,[.v (.bool false)],[])))
 |
  0,i,hi=>by
  have hd:s.drop i=[]:=bV (by omega)
  refine M6 _ _ ?_
  simp only[GS,↓zq,zs,ae,zt]
  exact⟨fun h=>by omega,fun _=>by simp[nK,hd]⟩
 |
  k+1,i,hi=>by
  have hlt:i<s.length:=by omega
  have e:s.drop i=s.getD i 0::s.drop (i+1):=by
   rw[aT hlt];simp[aa,hlt]
  refine M6 _ _ ?_
  simp only[GS,↓zq,zs,ae,zt,my s i hlt,e,db]
  generalize hb:s.getD i 0=b
  refine⟨fun _=>⟨by omega,fun h=>?_,fun h=>⟨by omega,fun h2=>?_,fun h2=>?_⟩⟩,fun h=>by omega⟩
  ·have:im b=false:=by simp[im];omega
   simp only[this,zf,nK]
  ·have:im b=false:=by simp[im];omega
   simp only[this,zf,nK]
  ·have:im b=true:=by simp[im];omega
   rw[bA i (by omega),this,bY]
   exact Lw s hs k (i+1) (by omega)
theorem Ns(s:List UInt8)(lo hi:Nat):an Tryz.prog 119 [.v (.string (mk s)),.v (.int .u8 (lo:Int)),.v (.int .u8 (hi:Int))] [] (bJ (.v (.bool (named lo hi s)))):=by
 refine RR _ _ _ ?_
 unfold Lp
 rw[cP]
 refine aj (B3 _ _ _) ?_
 simp only[↓zq,zs,ae,zt,bJ]
 refine⟨fun h=>?_,fun h=>?_⟩
 ·cases s with
  |nil=>rfl
  |
   cons c s =>
   simp[C5]at h
   have:¬s.length<=2:=by omega
   simp[named,this]
 ·cases s with
  |nil=>simp[C5]at h
  |
   cons c s =>
   simp[C5]at h
   have hl:s.length<=2:=by omega
   have hb:=my (c::s) 0 (by simp)
   simp only[Int.ofNat_eq_natCast,Int.cast_ofNat_Int]at hb
   simp only[↓zq,zs,ae,hb]
   refine⟨by omega,fun h1=>?_,fun h1=>⟨by omega,fun h2=>?_,fun h2=>?_⟩⟩
   ·have:¬lo<=c.toNat:=by omega
    simp[named,this]
   ·have:¬c.toNat<=hi:=by omega
    simp[named,this]
   ·refine fA (Lw (c::s) (by simp;omega) s.length 1 (by simp;omega)) (fun ys o e=>?_) (fun ys o e=>?_)
    ·split at e<;>cases e
     rename_i ha
     simp at ha
     simp only[↓zq,zs,ae]
     simp[named,hl]
     exact⟨⟨by omega,by omega⟩,fun x hx=>by simpa using ha x hx⟩
    ·split at e<;>cases e
     rename_i ha
     simp only[↓zq,zs,ae]
     have:s.all im=false:=by simpa using ha
     simp[named,this]
theorem ID(s:List UInt8):an Tryz.prog 126 [.v (.string (mk s))] [] (bJ (.v (.bool (ia s)))):=by
 refine QE _ ?_
 unfold LW
 refine aj (Ns s 120 122) ?_
 simp only[↓zq,zs,ae,bJ,ia]
theorem G0(s:List UInt8):an Tryz.prog 85 [.v (.string (mk s))] [] (bJ (.v (.bool (dr s)))):=by
 refine RU _ ?_
 unfold KT
 refine aj (Ns s 116 116) ?_
 simp only[↓zq,zs,ae,bJ,dr]
end Go.Proofs.Trees
namespace Go.Proofs.Trees
open Go Go.VL Go.RowKit
theorem Q5(l:List UInt8)(c:UInt8):an Tryz.prog 175 [.v (.string (mk l)),.v (.string (mk [c]))] [] (bJ (.v (.bool (decide (0<=Lib.indexByte l c))))):=by
 refine an.Tl (xs:=[.string (mk l),.string (mk [c])]) ⟨nE,by kernel_rfl,by kernel_rfl,by kernel_rfl⟩ fun w=>?_
 have:=Any.strings_Contains_one Tryz.EU (mk l) c w
 refine Calls.mono this fun e w' ⟨h1,h2⟩=>?_
 rw[h2]
 have hd:(mk l).data.toList=l:=by simp[mk]
 exact⟨by rw[h1,hd],Below.refl _ _⟩
theorem OX(l cs:List UInt8)(hl:l.length<=1000000)(hc:cs.length<=1000)(ha:∀b,b∈cs->b.toNat<128):an Tryz.prog 169 [.v (.string (mk l)),.v (.string (mk cs))] [] (bJ (.v (.string (mk (Lib.trimS l cs))))):=by
 refine an.Tl (xs:=[.string (mk l),.string (mk cs)]) ⟨qL,by kernel_rfl,by kernel_rfl,by kernel_rfl⟩ fun w=>?_
 have:=Any.strings_Trim_laid Tryz.Ed (by kernel_rfl) (mk l) (mk cs) w (by rw[cP];omega) (by rw[cP];omega) (fun j b hj=>ha b (by
  have:(mk cs).data.toList=cs:=by simp[mk]
  rw[this]at hj
  exact List.mem_of_getElem? hj))
 refine Calls.mono this fun e w' ⟨h1,h2⟩=>⟨?_,h2⟩
 rw[h1]
 simp[mk]
theorem nP:∀(l:List UInt8) (c:UInt8),(0<=Lib.indexByte l c↔c∈l)/\-1<=Lib.indexByte l c
 |[],c=>by simp[Lib.indexByte]
 |
  b::l,c=>by
  obtain⟨h1,h2⟩:=nP l c
  unfold Lib.indexByte
  by_cases e:b=c
  ·subst e;simp
  ·have e':(b==c)=false:=by simp[e]
   rw[e']
   by_cases q:Lib.indexByte l c = -1
   ·have:c∉l:=fun h=>by have:=h1.2 h;omega
    simp[q,this,Ne.symm e]
   ·have q':(Lib.indexByte l c==-1)=false:=by simp[q]
    simp only[q',Bool.false_eq_true,if_false,aK]
    constructor
    ·constructor
     ·intro h;exact .inr (h1.1 (by omega))
     ·intro h
      rcases h with h|h
      ·exact absurd h.symm e
      ·have:=h1.2 h;omega
    ·omega
theorem dropWhile_nil{p:UInt8->Bool}:∀(l:List UInt8),l.dropWhile p=[]↔l.all p=true
 |[]=>by simp
 |
  b::l=>by
  cases h:p b with
  |true=>rw[List.dropWhile_cons_of_pos h,dropWhile_nil l];simp[h]
  |false=>rw[List.dropWhile_cons_of_neg (by rw[h];simp)];simp[h]
theorem tG(l cs:List UInt8):Lib.trimS l cs=[]↔l.all (cs.contains ·)=true:=by
 unfold Lib.trimS Lib.trimLeftS
 rw[dropWhile_nil]
 unfold Lib.trimRightS
 constructor
 ·intro h
  by_cases hn:l.reverse.dropWhile (cs.contains ·)=[]
  ·rw[dropWhile_nil]at hn
   simpa using hn
  ·exfalso
   rw[List.all_reverse]at h
   obtain⟨b,r,e⟩:=List.exists_cons_of_ne_nil hn
   have h1:cs.contains b=false:=by
    have:=List.head_dropWhile_not (p:=(cs.contains ·)) (l:=l.reverse) hn
    simp only[e,List.head_cons]at this
    exact this
   rw[e]at h
   simp only[db,aw]at h
   rw[h1]at h;cases h.1
 ·intro h
  have:l.reverse.dropWhile (cs.contains ·)=[]:=by rw[dropWhile_nil];simpa using h
  rw[this];rfl
def Ii:List UInt8:=[48,49,50,51,52,53,54,55,56,57]
theorem vM(b:UInt8):Ii.contains b=im b:=by
 have:∀n:Fin 256,Ii.contains (bj n.val)=im (bj n.val):=by decide +kernel
 have:=this ⟨b.toNat,b.toNat_lt⟩
 simpa using this
theorem LD(s ls:List UInt8)(lo hi:Nat)(hls:∀c:UInt8,c∈ls↔lo<=c.toNat/\c.toNat<=hi):an Tryz.prog 163 [.v (.string (mk s)),.v (.string (mk ls))] [] (bJ (.v (.bool (named lo hi s)))):=by
 refine QA _ _ ?_
 simp only[OO,↓zq,zs,ae,zt,bJ]
 cases s with
 |nil=>exact⟨fun h=>by simp at h,fun _=>rfl⟩
 |
  cons c s =>
  have e1:(List.take (bK 1) (c::s))=[c]:=rfl
  have e2:(List.take (s.length+1) (c::s)).drop (bK 1)=s:=by simp
  simp only[az,e1,e2]
  refine⟨fun _=>⟨fun h3=>⟨by omega,?_⟩,fun h3=>?_⟩,fun h=>by omega⟩
  ·have hl:s.length<=2:=by omega
   refine aj (Q5 ls c) ?_
   simp only[↓zq,zs,ae]
   have hi1:=(nP ls c).1
   refine⟨fun h=>⟨by omega,?_⟩,fun h=>?_⟩
   ·refine aj (OX s Ii (by omega) (by decide) (by decide)) ?_
    simp only[↓zq,zs,ae,zt]
    have hc:=(hls c).1 (hi1.1 h)
    congr 2
    rw[cA,beq_iff_eq,tG]
    simp only[named,hl,hc,decide_true,bY,and_self]
    have:(fun x=>Ii.contains x)=im:=funext vM
    rw[this]
   ·have hc:¬(lo<=c.toNat/\c.toNat<=hi):=fun h'=>h (hi1.2 ((hls c).2 h'))
    simp only[named,hc,zf]
  ·have hl:¬s.length<=2:=by omega
   simp only[named,hl,zf]
theorem N1(s:List UInt8):an Tryz.prog 149 [.v (.string (mk s))] [] (bJ (.v (.bool (ia s)))):=by
 refine Rv _ ?_
 unfold Lj
 have h:∀n:Fin 256,(bj n.val∈[(120:UInt8),121,122])↔120<=(bj n.val).toNat/\(bj n.val).toNat<=122:=by decide +kernel
 refine aj (LD s [120,121,122] 120 122 fun c=>by simpa using h ⟨c.toNat,c.toNat_lt⟩) ?_
 simp only[↓zq,zs,ae,bJ,ia]
theorem ED(s:List UInt8):an Tryz.prog 150 [.v (.string (mk s))] [] (bJ (.v (.bool (dr s)))):=by
 refine QR _ ?_
 unfold O7
 have h:∀n:Fin 256,(bj n.val∈[(116:UInt8)])↔116<=(bj n.val).toNat/\(bj n.val).toNat<=116:=by decide +kernel
 refine aj (LD s [116] 116 116 fun c=>by simpa using h ⟨c.toNat,c.toNat_lt⟩) ?_
 simp only[↓zq,zs,ae,bJ,dr]
end Go.Proofs.Trees
namespace Go.Proofs.Trees
open Go Go.VL
inductive Ty where
 |zero|one
 |name (s:List UInt8)
 |bound (up:Nat)
 |plus (a b:Ty)
 |times (a b:Ty)
 |rc (a:Ty)
def Ty.av:Ty->AV
 | .zero=>.ptr [.v (.int .u8 48),.v (.string (mk [])),.v (.int .i64 0),.v (.pointer none),.v (.pointer none)]
 | .one=>.ptr [.v (.int .u8 49),.v (.string (mk [])),.v (.int .i64 0),.v (.pointer none),.v (.pointer none)]
 | .name s=>.ptr [.v (.int .u8 110),.v (.string (mk s)),.v (.int .i64 0),.v (.pointer none),.v (.pointer none)]
 | .bound up=>.ptr [.v (.int .u8 98),.v (.string (mk [])),.v (.int .i64 (up:Int)),.v (.pointer none),.v (.pointer none)]
 | .plus a b=>.ptr [.v (.int .u8 43),.v (.string (mk [])),.v (.int .i64 0),a.av,b.av]
 | .times a b=>.ptr [.v (.int .u8 42),.v (.string (mk [])),.v (.int .i64 0),a.av,b.av]
 | .rc a=>.ptr [.v (.int .u8 114),.v (.string (mk [])),.v (.int .i64 0),a.av,.v (.pointer none)]
theorem aF(t:Ty):LK.has .ptr t.av=True:=by cases t<;>simp[Ty.av,cj]
theorem fT(t:Ty):t.av.isNil=false:=by cases t<;>rfl
def ik:Option Ty->AV
 |some t=>t.av
 |none=>.v (.pointer none)
theorem iG(t:Option Ty):LK.has .ptr (ik t)=True:=by cases t<;>simp[ik,aF,jr]
def E.at:E->List UInt8
 | .atom s=>s
 | .list _=>[]
def bR(s:List UInt8)(ar:List (List UInt8)):Nat->Option Nat
 |0=>none
 |i+1=>if ar.getD i []=s then some (ar.length-1-i)else bR s ar i
def cV:E->List (List UInt8)->Option Ty
 | .atom s,ar=>if s=[48]then some .zero else if s=[49]then some .one else if ia s=true then some (.name s)else if dr s=true then(match bR s ar ar.length with|some u=>some (.bound u)|none=>some (.name s))else none
 |
  .list [x,a,b],ar =>
  if x.at=[43]then(match cV a ar,cV b ar with|some t,some u=>some (.plus t u)|_,_=>none)
  else if x.at=[42]then(match cV a ar,cV b ar with|some t,some u=>some (.times t u)|_,_=>none)
  else if x.at=[114,101,99]then(if dr a.at=true then(match cV b (ar++[a.at])with|some t=>some (.rc t)|none=>none)else none)
  else none
 | .list _,_=>none
def bG(l:List (List UInt8)):List (List AV):=l.map fun s=>[.v (.string (mk s))]
def cw(a:AV)(l:List (List UInt8)):Prop:=LK.sl.has a/\a.elems=bG l
theorem cw.len{a:AV}{l:List (List UInt8)}(h:cw a l):a.elems.length=l.length:=by rw[h.2];simp[bG]
theorem cw.idx{a:AV}{l:List (List UInt8)}(h:cw a l){i:Nat}(hi:i<l.length):a.elems.getD i []=[.v (.string (mk (l.getD i [])))]:=by
 rw[h.2];simp[bG,aa,hi]
theorem cw.of(l:List (List UInt8)):cw (.sl (bG l)) l:=⟨(cn _).mpr trivial,rfl⟩
theorem cw.nil:cw (.v (.slice none 0 0)) []:=⟨(bh).mpr trivial,rfl⟩
theorem yl(e:E)(w:List UInt8):an Tryz.prog 151 [e.cE,.v (.string (mk w)),.v (.int .i64 3)] [] (bJ (.v (.bool (match e with| .list [x,_,_]=>x.at==w|_=>false)))):=by
 refine OC _ _ _ ((cX e).mpr trivial) ?_
 cases e with
 |atom s=>simp only[BU,E.cE,↓zq,zs,ae,zt,bJ];exact⟨by omega,fun h=>by omega,fun _=>trivial⟩
 |
  list l =>
  simp only[BU,E.cE,↓zq,zs,ae,zt,bJ,sd]
  match l with
  |[]=>exact⟨by simp,fun h=>by simp at h,fun _=>rfl⟩
  |[_]=>exact⟨by simp,fun h=>by simp at h,fun _=>rfl⟩
  |[_,_]=>exact⟨by simp,fun h=>by simp at h,fun _=>rfl⟩
  |
   [x,y,z] =>
   refine⟨by simp,fun _=>?_,fun h=>by simp at h⟩
   cases x<;>simp[E.mE,E.cE,cj,pJ,jU,ef,u7,toList_mk,E.at]
  |_::_::_::_::l=>exact⟨by simp,fun h=>by simp at h;omega,fun _=>rfl⟩
theorem M4(e:E)(a:AV)(ar:List (List UInt8))(ha:cw a ar)(hl:ar.length<1000000):∀(i:Nat),i<=ar.length->Hn [e.cE,a,.v (.int .i64 ((i:Int)-1))] []
 (nK (match bR e.at ar i with|some u=>(2,[],[.cells [.v (.int .u8 98),.v (.string (mk [])),.v (.int .i64 (u:Int)),.v (.pointer none),.v (.pointer none)]])|none=>(1,[e.cE],[])))
 |
  0,hi=>by
  refine Mw _ _ _ ?_
  simp only[I7,↓zq,zs,ae,cX]
  exact⟨ha.1,fun h=>by omega,fun _=>rfl⟩
 |
  i+1,hi=>by
  have hlt:i<ar.length:=by omega
  have e1:((i+1:Nat):Int)-1=(i:Int):=by omega
  rw[e1]
  refine Mw _ _ _ ?_
  have hd:e.cE.deref.headD .any=.v (.string (mk e.at)):=by cases e<;>rfl
  have hdl:1<=e.cE.deref.length:=by cases e<;>simp[E.cE,jU]
  simp only[I7,↓zq,zs,ae,zt,cX,eu,ha.len,ha.idx hlt,hd,rX]
  refine⟨ha.1,fun _=>⟨⟨ha.1,by omega,by omega⟩,by omega,hdl,fun h=>⟨ha.1,?_⟩,fun h=>?_⟩,fun h=>by omega⟩
  ·simp only[bR,h,if_true,nK]
   rw[wrap64 ((ar.length:Int)-1) (by omega) (by omega),wrap64 _ (by omega) (by omega)]
   have:(ar.length:Int)-1-(i:Int)=((ar.length-1-i:Nat):Int):=by omega
   rw[this]
  ·simp only[bR,h,if_false]
   rw[wrap64 _ (by omega) (by omega)]
   exact M4 e a ar ha hl i (by omega)
end Go.Proofs.Trees
namespace Go.Proofs.Trees
open Go Go.VL
theorem od(e:E):e.cE.deref.headD .any=.v (.string (mk e.at)):=by cases e<;>rfl
theorem lS(e:E):1<=e.cE.deref.length:=by cases e<;>simp[E.cE,jU]
theorem toNat_one:bK 1=1:=rfl
theorem bg:bK 2=2:=rfl
theorem Ft{ar:List (List UInt8)}(s:List UInt8):bG ar++[[.v (.string (mk s))]]=bG (ar++[s]):=by simp[bG]
theorem kL(ar:List (List UInt8)):cG 1 (bG ar):=fun c hc=>by
 obtain⟨s,_,rfl⟩:=bO.1 hc;rfl
theorem lz{x a b:E}(ar:List (List UInt8))(hx:x.at=[43]):cV (.list [x,a,b]) ar=match cV a ar,cV b ar with|some t,some u=>some (.plus t u)|_,_=>none:=by rw[cV,if_pos hx]<;>cases cV a ar<;>cases cV b ar<;>rfl
theorem kf{x a b:E}(ar:List (List UInt8))(hx:x.at=[42]):cV (.list [x,a,b]) ar=match cV a ar,cV b ar with|some t,some u=>some (.times t u)|_,_=>none:=by rw[cV,if_neg (by rw[hx];decide),if_pos hx]<;>cases cV a ar<;>cases cV b ar<;>rfl
theorem mY{x a b:E}(ar:List (List UInt8))(hx:x.at=[114,101,99]):cV (.list [x,a,b]) ar=if dr a.at=true then(match cV b (ar++[a.at])with|some t=>some (.rc t)|none=>none)else none:=by rw[cV,if_neg (by rw[hx];decide),if_neg (by rw[hx];decide),if_pos hx]<;>cases cV b (ar++[a.at])<;>rfl
theorem jq{x a b:E}(ar:List (List UInt8))(h1:x.at≠[43])(h2:x.at≠[42])(h3:x.at≠[114,101,99]):cV (.list [x,a,b]) ar=none:=by rw[cV,if_neg h1,if_neg h2,if_neg h3]
theorem EY:∀(e:E) (ar:List (List UInt8)) (a:AV),e.ok->cw a ar->ar.length+e.sz<100000->an Tryz.prog 130 [e.cE,a] [] (bJ (ik (cV e ar)))
 |
  .atom s,ar,a,hok,ha,hl=>by
  simp only[E.sz]at hl
  refine K1 _ _ ((cX _).mpr trivial) ha.1 ?_
  have hd:=od (.atom s)
  have hlen:=lS (.atom s)
  simp only[E.at]at hd
  simp only[G3,↓zq,zs,ae,zt,bJ,cX,eu,hd,cV]
  refine⟨hlen,fun h=>⟨hlen,?_,?_⟩,fun h=>⟨hlen,fun h1=>⟨hlen,?_,?_⟩,fun h1=>⟨hlen,?_⟩⟩⟩
  ·rw[h];decide
  ·rw[if_pos h,h];rfl
  ·rw[h1];decide
  ·rw[if_neg h,if_pos h1,h1];rfl
  ·rw[if_neg h,if_neg h1]
   refine aj (N1 s) ?_
   simp only[↓zq,zs,ae]
   refine⟨fun hp=>⟨hlen,?_⟩,fun hp=>⟨hlen,?_⟩⟩
   ·rw[if_pos hp];rfl
   ·rw[if_neg (by rw[hp];simp)]
    refine aj (ED s) ?_
    simp only[↓zq,zs,ae,ha.len]
    refine⟨fun hq=>⟨ha.1,?_⟩,fun hq=>?_⟩
    ·rw[if_pos hq,wrap64 _ (by omega) (by omega)]
     refine fA (M4 (.atom s) a ar ha (by omega) ar.length (by omega)) (fun ys o e=>?_) (fun ys o e=>?_)
     ·simp only[E.at]at e
      cases hq2:bR s ar ar.length<;>rw[hq2]at e<;>cases e
      simp only[↓zq,zs,ae,zt,cX,eu,hd]
      exact⟨hlen,rfl⟩
     ·simp only[E.at]at e
      cases hq2:bR s ar ar.length<;>rw[hq2]at e<;>cases e
      simp only[↓zq,zs,ae,zt,LK.has]
      simp[ik,Ty.av,ae,LK.has]
    ·rw[if_neg (by rw[hq];simp)]
     refine aj (yl (.atom s) [43]) ?_
     simp only[↓zq,zs,ae]
     refine⟨fun h=>(by simp at h),fun _=>?_⟩
     refine aj (yl (.atom s) [42]) ?_
     simp only[↓zq,zs,ae]
     refine⟨fun h=>(by simp at h),fun _=>?_⟩
     refine aj (yl (.atom s) [114,101,99]) ?_
     simp only[↓zq,zs,ae]
     refine⟨fun h=>(by simp at h),fun _=>?_⟩
     trivial
 |
  .list l,ar,a,hok,ha,hl=>by
  simp only[E.sz]at hl
  refine K1 _ _ ((cX _).mpr trivial) ha.1 ?_
  have hd:=od (.list l)
  have hlen:=lS (.list l)
  simp only[E.at]at hd
  have hp:ia []=false:=rfl
  have hq:dr []=false:=rfl
  simp only[G3,↓zq,zs,ae,zt,bJ,cX,eu,hd]
  refine⟨hlen,fun h=>(by simp at h),fun h=>⟨hlen,fun h1=>(by simp at h1),fun h1=>⟨hlen,?_⟩⟩⟩
  refine aj (N1 []) ?_
  simp only[↓zq,zs,ae,hp]
  refine⟨fun h=>(by simp at h),fun _=>⟨hlen,?_⟩⟩
  refine aj (ED []) ?_
  simp only[↓zq,zs,ae,hq]
  refine⟨fun h=>(by simp at h),fun _=>?_⟩
  refine aj (yl (.list l) [43]) ?_
  match l,hok,hl with
  |
   [x,y,z],hok,hl =>
   simp only[E.jB]at hl
   obtain⟨ok1,ok2,ok3,_⟩:=hok
   have iy:=EY y ar a ok2 ha (by omega)
   have iz:=EY z ar a ok3 ha (by omega)
   have hds:((E.list [x,y,z]).cE.deref.drop 1).headD .any=.sl [[x.cE],[y.cE],[z.cE]]:=rfl
   have hdl:1<=((E.list [x,y,z]).cE.deref.drop 1).length:=by simp[E.cE,jU]
   have hxd:=od x
   have hxl:=lS x
   have hyd:=od y
   have hyl:=lS y
   have bin:∀(c:UInt8) (mkT:Ty->Ty->Ty),(∀t u:Ty,(mkT t u).av=.ptr [.v (.int .u8 (c.toNat:Int)),.v (.string (mk [])),.v (.int .i64 0),t.av,u.av])->x.at=[c]->bt (mk x.at) 0=(c.toNat:Int):=fun c _ _ hx=>by
    have:=my x.at 0 (by rw[hx];simp)
    simp only[Int.ofNat_eq_natCast,Int.cast_ofNat_Int]at this
    rw[this,hx];rfl
   simp only[↓zq,zs,ae,zt,hds,hdl,cX,eu,toNat_one,bg,hxd,hyd,rX]
   refine⟨fun hx=>?_,fun hx=>?_⟩
   ·refine⟨by omega,by omega,?_⟩
    refine aj iy ?_
    simp only[↓zq,zs,ae,iG]
    refine⟨by omega,by omega,?_⟩
    refine aj iz ?_
    have hb:=bin 43 Ty.plus (fun _ _=>rfl) hx
    rw[lz ar hx]
    simp only[↓zq,zs,ae,zt,iG]
    cases h1:cV y ar with
    |none=>simp[ik,jW]
    |
     some t =>
     cases h2:cV z ar with
     |none=>simp[ik,jW,fT]
     |
      some u =>
      simp only[ik,fT,hb]
      refine⟨fun h=>(by cases h),fun _=>⟨fun h=>(by cases h),fun _=>⟨by omega,by omega,hxl,⟨by omega,by rw[hx];simp⟩,rfl⟩⟩⟩
   ·refine aj (yl (.list [x,y,z]) [42]) ?_
    simp only[↓zq,zs,ae,hds,hdl,cX,eu,toNat_one,bg,hxd,hyd,rX]
    refine⟨fun hx2=>?_,fun hx2=>?_⟩
    ·refine⟨by omega,by omega,?_⟩
     refine aj iy ?_
     simp only[↓zq,zs,ae,iG]
     refine⟨by omega,by omega,?_⟩
     refine aj iz ?_
     have hb:=bin 42 Ty.times (fun _ _=>rfl) hx2
     rw[kf ar hx2]
     simp only[↓zq,zs,ae,zt,iG]
     cases h1:cV y ar with
     |none=>simp[ik,jW]
     |
      some t =>
      cases h2:cV z ar with
      |none=>simp[ik,jW,fT]
      |
       some u =>
       simp only[ik,fT,hb]
       refine⟨fun h=>(by cases h),fun _=>⟨fun h=>(by cases h),fun _=>⟨by omega,by omega,hxl,⟨by omega,by rw[hx2];simp⟩,rfl⟩⟩⟩
    ·refine aj (yl (.list [x,y,z]) [114,101,99]) ?_
     simp only[↓zq,zs,ae,zt,hds,hdl,cX,eu,toNat_one,bg,hxd,hyd,rX]
     refine⟨fun hx3=>⟨by omega,by omega,hyl,?_⟩,fun hx3=>?_⟩
     ·refine aj (ED y.at) ?_
      rw[mY ar hx3]
      simp only[↓zq,zs,ae]
      have hal:cG 1 a.elems:=by rw[ha.2];exact kL ar
      have hal1:cG 1 [[AV.v (.string (mk y.at))]]:=fun c hc=>by simp at hc;rw[hc];rfl
      refine⟨fun hlo=>⟨by omega,by omega,⟨ha.1,hal,by rw[ha.len];omega⟩,by omega,by omega,hyl,⟨hal1,by rw[aS,ha.len];omega⟩,?_⟩,fun hlo=>?_⟩
      ·rw[aS,ha.2,Ft,if_pos hlo]
       refine aj (EY z (ar++[y.at]) _ ok3 (.of _) (by simp;omega)) ?_
       simp only[↓zq,zs,ae,iG]
       cases h2:cV z (ar++[y.at])with
       |none=>simp[ik,jW]
       |
        some u =>
        simp only[ik,fT]
        refine⟨fun h=>(by cases h),fun _=>rfl⟩
      ·rw[if_neg (by rw[hlo];simp)];rfl
     ·rw[jq ar hx hx2 hx3];rfl
  |
   [],_,_ =>
   simp only[↓zq,zs,ae]
   refine⟨fun h=>(by cases h),fun _=>?_⟩
   refine aj (yl (.list []) [42]) ?_
   simp only[↓zq,zs,ae]
   refine⟨fun h=>(by cases h),fun _=>?_⟩
   refine aj (yl (.list []) [114,101,99]) ?_
   simp only[↓zq,zs,ae]
   refine⟨fun h=>(by cases h),fun _=>?_⟩
   rfl
  |
   [x1],_,_ =>
   simp only[↓zq,zs,ae]
   refine⟨fun h=>(by cases h),fun _=>?_⟩
   refine aj (yl (.list [x1]) [42]) ?_
   simp only[↓zq,zs,ae]
   refine⟨fun h=>(by cases h),fun _=>?_⟩
   refine aj (yl (.list [x1]) [114,101,99]) ?_
   simp only[↓zq,zs,ae]
   refine⟨fun h=>(by cases h),fun _=>?_⟩
   rfl
  |
   [x1,x2],_,_ =>
   simp only[↓zq,zs,ae]
   refine⟨fun h=>(by cases h),fun _=>?_⟩
   refine aj (yl (.list [x1,x2]) [42]) ?_
   simp only[↓zq,zs,ae]
   refine⟨fun h=>(by cases h),fun _=>?_⟩
   refine aj (yl (.list [x1,x2]) [114,101,99]) ?_
   simp only[↓zq,zs,ae]
   refine⟨fun h=>(by cases h),fun _=>?_⟩
   rfl
  |
   x1::x2::x3::x4::l,_,_ =>
   simp only[↓zq,zs,ae]
   refine⟨fun h=>(by cases h),fun _=>?_⟩
   refine aj (yl (.list (x1::x2::x3::x4::l)) [42]) ?_
   simp only[↓zq,zs,ae]
   refine⟨fun h=>(by cases h),fun _=>?_⟩
   refine aj (yl (.list (x1::x2::x3::x4::l)) [114,101,99]) ?_
   simp only[↓zq,zs,ae]
   refine⟨fun h=>(by cases h),fun _=>?_⟩
   rfl
end Go.Proofs.Trees
namespace Go.Proofs.Trees
open Go Go.VL
def di(v:AV)(obs:List Ob):AV->List Ob->Prop:=fun r o=>r=v/\o=obs
theorem aV{P:Program}{n:Nat}{Q:Nat->List AV->List Ob->Prop}{f:Nat}{xs:List AV}{ins:List Ob}{k:AV->List Ob->Tree}{v:AV}{obs:List Ob}(h:an P f xs ins (di v obs))(hk:fk P n (k v obs) Q):fk P n (.call f xs ins k) Q :=
 ⟨di v obs,h,⟨v,obs,rfl,rfl⟩,fun r o ⟨h1,h2⟩=>by rw[h1,h2];exact hk⟩
def Ty.atoms:Ty->Nat
 | .plus a b=>1+a.atoms+b.atoms
 | .times a b=>1+a.atoms+b.atoms
 | .rc a=>2+a.atoms
 |_=>1
theorem Fa:∀(t:Ty),t.atoms<1000000->an Tryz.prog 131 [t.av] [] (bJ (.v (.int .i64 (t.atoms:Int))))
 | .zero,h=>by refine xC _ ((aF _).mpr trivial) ?_;simp[Fe,Ty.av,↓zq,zs,ae,bJ,Ty.atoms]
 | .one,h=>by refine xC _ ((aF _).mpr trivial) ?_;simp[Fe,Ty.av,↓zq,zs,ae,bJ,Ty.atoms]
 | .name s,h=>by refine xC _ ((aF _).mpr trivial) ?_;simp[Fe,Ty.av,↓zq,zs,ae,bJ,Ty.atoms]
 | .bound u,h=>by refine xC _ ((aF _).mpr trivial) ?_;simp[Fe,Ty.av,↓zq,zs,ae,bJ,Ty.atoms]
 |
  .plus a b,h=>by
  simp only[Ty.atoms]at h
  refine xC _ ((aF _).mpr trivial) ?_
  simp only[Fe,Ty.av,↓zq,zs,ae,aF]
  refine⟨by omega,fun _=>⟨by omega,?_⟩,fun h=>absurd rfl h⟩
  refine aj (Fa a (by omega)) ?_
  simp only[↓zq,zs,ae,aF]
  refine⟨by omega,?_⟩
  refine aj (Fa b (by omega)) ?_
  simp only[↓zq,zs,ae,bJ,Ty.atoms]
  rw[wrap64 (1+(a.atoms:Int)) (by omega) (by omega),wrap64 _ (by omega) (by omega)]
  congr 2
 |
  .times a b,h=>by
  simp only[Ty.atoms]at h
  refine xC _ ((aF _).mpr trivial) ?_
  simp only[Fe,Ty.av,↓zq,zs,ae,aF]
  refine⟨by omega,fun h=>by omega,fun _=>⟨fun _=>⟨by omega,?_⟩,fun h=>absurd rfl h⟩⟩
  refine aj (Fa a (by omega)) ?_
  simp only[↓zq,zs,ae,aF]
  refine⟨by omega,?_⟩
  refine aj (Fa b (by omega)) ?_
  simp only[↓zq,zs,ae,bJ,Ty.atoms]
  rw[wrap64 (1+(a.atoms:Int)) (by omega) (by omega),wrap64 _ (by omega) (by omega)]
  congr 2
 |
  .rc a,h=>by
  simp only[Ty.atoms]at h
  refine xC _ ((aF _).mpr trivial) ?_
  simp only[Fe,Ty.av,↓zq,zs,ae,aF]
  refine⟨by omega,fun h=>by omega,fun _=>⟨fun h=>by omega,fun _=>⟨fun _=>⟨by omega,?_⟩,fun h=>absurd rfl h⟩⟩⟩
  refine aj (Fa a (by omega)) ?_
  simp only[↓zq,zs,ae,bJ,Ty.atoms]
  rw[wrap64 _ (by omega) (by omega)]
  congr 2
theorem iV:∀(e:E) (ar:List (List UInt8)) (t:Ty),cV e ar=some t->t.atoms<=e.sz
 |
  .atom s,ar,t,h=>by
  simp only[cV]at h
  simp only[E.sz]
  split at h
  ·cases h;simp[Ty.atoms]
  ·split at h
   ·cases h;simp[Ty.atoms]
   ·split at h
    ·cases h;simp[Ty.atoms]
    ·split at h
     ·split at h<;>cases h<;>simp[Ty.atoms]
     ·cases h
 |
  .list [x,a,b],ar,t,h=>by
  have hs:∀e:E,1<=e.sz:=fun e=>by cases e<;>simp[E.sz];try omega
  have hx:=hs x
  have ha:=hs a
  simp only[E.sz,E.jB]
  by_cases h1:x.at=[43]
  ·rw[lz ar h1]at h
   split at h
   ·rename_i t1 t2 e1 e2
    cases h
    have:=iV a ar t1 e1
    have:=iV b ar t2 e2
    simp only[Ty.atoms];omega
   ·cases h
  ·by_cases h2:x.at=[42]
   ·rw[kf ar h2]at h
    split at h
    ·rename_i t1 t2 e1 e2
     cases h
     have:=iV a ar t1 e1
     have:=iV b ar t2 e2
     simp only[Ty.atoms];omega
    ·cases h
   ·by_cases h3:x.at=[114,101,99]
    ·rw[mY ar h3]at h
     split at h
     ·split at h
      ·rename_i t1 e1
       cases h
       have:=iV b _ t1 e1
       simp only[Ty.atoms];omega
      ·cases h
     ·cases h
    ·rw[jq ar h1 h2 h3]at h;cases h
 | .list [],_,_,h=>by cases h
 | .list [_],_,_,h=>by cases h
 | .list [_,_],_,_,h=>by cases h
 | .list (_::_::_::_::_),_,_,h=>by cases h
def qV(s:List UInt8):Option Ty:=match qU s with
 |none=>none
 |
  some e=>match cV e []with
  |none=>none
  |some t=>if t.atoms>400 then none else some t
theorem GP(s:List UInt8):an Tryz.prog 96 [.v (.string (mk s))] [] (bJ (ik (qV s))):=by
 refine RI _ ?_
 unfold J1
 refine aj (N4 s) ?_
 unfold qV
 cases he:qU s with
 |none=>simp only[uB,↓zq,zs,ae,bJ,ik];simp
 |
  some e =>
  obtain⟨h1,h2⟩:=nS he
  simp only[uB,↓zq,zs,ae,cX,eu]
  refine⟨fun h=>(by cases h),fun _=>?_⟩
  refine aj (EY e [] _ h1 .nil (by simp;omega)) ?_
  cases ht:cV e []with
  |none=>simp only[ik,↓zq,zs,ae,bJ];simp
  |
   some t =>
   have:=iV e [] t ht
   simp only[ik,↓zq,zs,ae,aF,fT]
   refine⟨fun h=>(by cases h),fun _=>?_⟩
   refine aj (Fa t (by omega)) ?_
   simp only[↓zq,zs,ae,bJ]
   refine⟨fun h=>?_,fun h=>?_⟩
   ·rw[if_pos (by omega)]
   ·rw[if_neg (by omega)]
end Go.Proofs.Trees
namespace Go.Proofs.Trees
open Go Go.VL
def CZ(p:Prop):Nat->List AV->List Ob->Prop:=fun t ys o=>(t=1/\¬p/\ys=[]/\o=[])\/(t=2/\p/\∃j:Nat,ys=[.v (.int .i64 (j:Int))]/\o=[])
theorem Kt(l:List (List UInt8))(a:AV)(ha:cw a l)(s:List UInt8)(hl:l.length<1000000):∀(k i:Nat),i+k=l.length->s∉l.take i->Il [a,.v (.string (mk s)),.v (.int .i64 (l.length:Int)),.v (.int .i64 (i:Int))] []
 (CZ (s∈l))
 |
  0,i,hi,hn=>by
  refine MW _ _ _ _ ?_
  simp only[F6,↓zq,zs,ae]
  have:l.take i=l:=List.take_of_length_le (by omega)
  rw[this]at hn
  exact⟨ha.1,fun h=>by omega,fun _=>.inl ⟨rfl,hn,rfl,rfl⟩⟩
 |
  k+1,i,hi,hn=>by
  have hlt:i<l.length:=by omega
  refine MW _ _ _ _ ?_
  simp only[F6,↓zq,zs,ae,zt,ha.len,ha.idx hlt]
  have hm:l.getD i []∈l:=by simp[aa,hlt]
  refine⟨ha.1,fun _=>⟨⟨ha.1,by omega,by omega⟩,by omega,fun h=>?_,fun h=>?_⟩,fun h=>by omega⟩
  ·exact .inr ⟨rfl,by rw[h];exact hm,i,rfl,rfl⟩
  ·rw[bA i (by omega)]
   refine Kt l a ha s hl k (i+1) (by omega) ?_
   rw[List.take_add_one]
   simp only[aN,not_or]
   refine⟨hn,?_⟩
   have:l[i]?=some (l.getD i []):=by simp[aa,hlt]
   rw[this];simpa using h
theorem Pg(l:List (List UInt8))(a:AV)(ha:cw a l)(s:List UInt8)(hl:l.length<1000000):an Tryz.prog 156 [a,.v (.string (mk s))] [] (bJ (.v (.bool (decide (s∈l))))):=by
 have hI:an Tryz.prog 167 [a,.v (.string (mk s))] [] (fun r o=>∃n:Int,r=.v (.int .i64 n)/\(0<=n↔s∈l)/\o=[]):=by
  refine Qg _ _ ha.1 ?_
  simp only[L0,↓zq,zs,ae,ha.len]
  refine⟨ha.1,k9 (Kt l a ha s hl l.length 0 (by omega) (by simp)) ?_ ?_⟩
  ·rintro ys o (⟨_,h1,rfl,rfl⟩|⟨h,_⟩)
   ·simp only[↓zq,zs,ae]
    exact⟨-1,rfl,⟨fun h=>(by omega),fun h=>absurd h h1⟩⟩
   ·cases h
  ·rintro ys o (⟨h,_⟩|⟨_,h1,j,rfl,rfl⟩)
   ·cases h
   ·simp only[↓zq,zs,ae]
    exact⟨j,rfl,⟨fun _=>h1,fun _=>(by omega)⟩⟩
 refine S9 _ _ ha.1 ?_
 unfold Jj
 refine aP hI ⟨.v (.int .i64 (if s∈l then 0 else -1)),[],_,rfl,by split<;>simp_all,rfl⟩ ?_
 rintro r o ⟨n,rfl,hn,rfl⟩
 simp only[↓zq,zs,ae,bJ]
 congr 2
 rw[cA];simp[hn]
def pU(out:List (List UInt8)):Ty->List (List UInt8)
 | .name s=>if s∈out then out else out++[s]
 |_=>out
theorem wY(t:Ty)(out:List (List UInt8))(hl:out.length<100000):an Tryz.prog 166 [t.av,.ref 0 0] [.cells [.vec 1],.vec 1 (bG out)] (di .any [.cells [.vec 1],.vec 1 (bG (pU out t))]):=by
 refine Sa _ _ ((aF _).mpr trivial) ?_
 have hlen:(bG out).length=out.length:=by simp[bG]
 cases t with
 |
  name s =>
  simp only[H5,Ty.av,↓zq,zs,ae,di,hlen]
  refine⟨by omega,fun _=>⟨by omega,?_⟩,fun h=>absurd rfl h⟩
  refine aj (Pg out _ (.of out) s (by omega)) ?_
  simp only[↓zq,zs,ae,pU]
  refine⟨fun h=>⟨by omega,⟨fun c hc=>(by simp at hc;rw[hc];rfl),by omega⟩,?_⟩,fun h=>?_⟩
  ·rw[Ft,if_neg h]
  ·rw[if_pos h]
 |_=>simp[H5,Ty.av,↓zq,zs,ae,di,pU]
def bQ:Ty->List (List UInt8)->List (List UInt8)
 | .name s,out=>pU out (.name s)
 | .plus a b,out=>bQ b (bQ a out)
 | .times a b,out=>bQ b (bQ a out)
 | .rc a,out=>bQ a out
 |_,out=>out
theorem eF:∀(t:Ty) (out:List (List UInt8)),(bQ t out).length<=out.length+t.atoms
 | .name s,out=>by simp only[bQ,pU,Ty.atoms];split<;>simp
 |
  .plus a b,out=>by
  have:=eF a out
  have:=eF b (bQ a out)
  simp only[bQ,Ty.atoms];omega
 |
  .times a b,out=>by
  have:=eF a out
  have:=eF b (bQ a out)
  simp only[bQ,Ty.atoms];omega
 |
  .rc a,out=>by
  have:=eF a out
  simp only[bQ,Ty.atoms];omega
 | .zero,out=>by simp[bQ]
 | .one,out=>by simp[bQ]
 | .bound u,out=>by simp[bQ]
theorem Ai:∀(t:Ty) (out:List (List UInt8)),out.length+t.atoms<100000->an Tryz.prog 165 [t.av,.fn 166 [.ref 0 0]] [.cells [.vec 1],.vec 1 (bG out)] (di .any [.cells [.vec 1],.vec 1 (bG (bQ t out))])
 |
  .plus a b,out,hl=>by
  simp only[Ty.atoms]at hl
  have:=eF a out
  refine xr _ _ ((aF _).mpr trivial) ?_
  unfold E8
  refine aV (wY (.plus a b) out (by omega)) ?_
  simp only[Ty.av,↓zq,zs,ae,aF,fT,pU,aI,di]
  refine⟨by omega,fun _=>⟨by omega,?_⟩,fun h=>(by cases h)⟩
  refine aV (Ai a out (by omega)) ?_
  simp only[↓zq,zs,ae,aF,fT,aI]
  refine⟨by omega,fun _=>⟨by omega,?_⟩,fun h=>(by cases h)⟩
  refine aV (Ai b (bQ a out) (by omega)) ?_
  simp only[↓zq,zs,ae,aI,bQ]
 |
  .times a b,out,hl=>by
  simp only[Ty.atoms]at hl
  have:=eF a out
  refine xr _ _ ((aF _).mpr trivial) ?_
  unfold E8
  refine aV (wY (.times a b) out (by omega)) ?_
  simp only[Ty.av,↓zq,zs,ae,aF,fT,pU,aI,di]
  refine⟨by omega,fun _=>⟨by omega,?_⟩,fun h=>(by cases h)⟩
  refine aV (Ai a out (by omega)) ?_
  simp only[↓zq,zs,ae,aF,fT,aI]
  refine⟨by omega,fun _=>⟨by omega,?_⟩,fun h=>(by cases h)⟩
  refine aV (Ai b (bQ a out) (by omega)) ?_
  simp only[↓zq,zs,ae,aI,bQ]
 |
  .rc a,out,hl=>by
  simp only[Ty.atoms]at hl
  refine xr _ _ ((aF _).mpr trivial) ?_
  unfold E8
  refine aV (wY (.rc a) out (by omega)) ?_
  simp only[Ty.av,↓zq,zs,ae,aF,fT,pU,aI,di]
  refine⟨by omega,fun _=>⟨by omega,?_⟩,fun h=>(by cases h)⟩
  refine aV (Ai a out (by omega)) ?_
  simp[↓zq,zs,ae,aF,fT,aI,bQ]
 |
  .name s,out,hl=>by
  refine xr _ _ ((aF _).mpr trivial) ?_
  unfold E8
  refine aV (wY (.name s) out (by omega)) ?_
  simp[Ty.av,↓zq,zs,ae,aI,di,bQ]
 |
  .zero,out,hl=>by
  refine xr _ _ ((aF _).mpr trivial) ?_
  unfold E8
  refine aV (wY .zero out (by omega)) ?_
  simp[Ty.av,↓zq,zs,ae,aI,di,bQ,pU]
 |
  .one,out,hl=>by
  refine xr _ _ ((aF _).mpr trivial) ?_
  unfold E8
  refine aV (wY .one out (by omega)) ?_
  simp[Ty.av,↓zq,zs,ae,aI,di,bQ,pU]
 |
  .bound u,out,hl=>by
  refine xr _ _ ((aF _).mpr trivial) ?_
  unfold E8
  refine aV (wY (.bound u) out (by omega)) ?_
  simp[Ty.av,↓zq,zs,ae,aI,di,bQ,pU]
theorem JQ(t:Ty)(hl:t.atoms<100000):an Tryz.prog 154 [t.av] [] (bJ (.sl (bG (bQ t [])))):=by
 refine Q7 _ ((aF _).mpr trivial) ?_
 unfold Mv
 refine aV (Ai t [] (by simpa using hl)) ?_
 simp[↓zq,zs,ae,aI,bJ]
theorem OT(l:List (List UInt8))(a:AV)(ha:cw a l)(hl:l.length<1000000):∀(k i:Nat),i+k=l.length->(∀s,s∈l.take i->dr s=false)->Gs [a,.v (.func (.func 150) #[] #[]),.v (.int .i64 (l.length:Int)),.v (.int .i64 (i:Int))] []
 (CZ (l.any dr=true))
 |
  0,i,hi,hn=>by
  refine Mj _ _ _ ?_
  simp only[F0,↓zq,zs,ae]
  have:l.take i=l:=List.take_of_length_le (by omega)
  rw[this]at hn
  exact⟨ha.1,fun h=>by omega,fun _=>.inl ⟨rfl,fun hh=>(by obtain⟨x,hx,hy⟩:=cu.1 hh;rw[hn x hx]at hy;cases hy),rfl,rfl⟩⟩
 |
  k+1,i,hi,hn=>by
  have hlt:i<l.length:=by omega
  refine Mj _ _ _ ?_
  simp only[F0,↓zq,zs,ae,zt,ha.len,ha.idx hlt]
  have hm:l.getD i []∈l:=by simp[aa,hlt]
  refine⟨ha.1,fun _=>⟨⟨ha.1,by omega,by omega⟩,by omega,?_⟩,fun h=>by omega⟩
  refine aj (ED _) ?_
  simp only[↓zq,zs,ae]
  refine⟨fun h=>?_,fun h=>?_⟩
  ·exact .inr ⟨rfl,cu.2 ⟨_,hm,h⟩,i,rfl,rfl⟩
  ·rw[bA i (by omega)]
   refine OT l a ha hl k (i+1) (by omega) ?_
   intro s hs
   rw[List.take_add_one]at hs
   have:l[i]?=some (l.getD i []):=by simp[aa,hlt]
   rw[this]at hs
   rcases aN.1 hs with hs|hs
   ·exact hn s hs
   ·simp at hs;rw[hs];simpa using h
theorem Si(l:List (List UInt8))(a:AV)(ha:cw a l)(hl:l.length<1000000):an Tryz.prog 157 [a,.v (.func (.func 150) #[] #[])] [] (bJ (.v (.bool (l.any dr)))):=by
 have hI:an Tryz.prog 168 [a,.v (.func (.func 150) #[] #[])] [] (fun r o=>∃n:Int,r=.v (.int .i64 n)/\(0<=n↔l.any dr=true)/\o=[]):=by
  refine Qu _ ha.1 ?_
  simp only[Jy,↓zq,zs,ae,ha.len]
  refine⟨ha.1,k9 (OT l a ha hl l.length 0 (by omega) (by simp)) ?_ ?_⟩
  ·rintro ys o (⟨_,h1,rfl,rfl⟩|⟨h,_⟩)
   ·simp only[↓zq,zs,ae]
    exact⟨-1,rfl,⟨fun h=>(by omega),fun h=>absurd h h1⟩⟩
   ·cases h
  ·rintro ys o (⟨h,_⟩|⟨_,h1,j,rfl,rfl⟩)
   ·cases h
   ·simp only[↓zq,zs,ae]
    exact⟨j,rfl,⟨fun _=>h1,fun _=>(by omega)⟩⟩
 refine QS _ ha.1 ?_
 unfold Lx
 refine aP hI ⟨.v (.int .i64 (if l.any dr=true then 0 else -1)),[],_,rfl,by split<;>simp_all,rfl⟩ ?_
 rintro r o ⟨n,rfl,hn,rfl⟩
 simp only[↓zq,zs,ae,bJ]
 congr 2
 rw[cA];simp only[decide_eq_true_eq,ge_iff_le,hn]
def Ty.closed(t:Ty):Bool:=!((bQ t []).any dr)
theorem PS(t:Ty)(hl:t.atoms<100000):an Tryz.prog 138 [t.av] [] (bJ (.v (.bool t.closed))):=by
 refine PT _ ((aF _).mpr trivial) ?_
 unfold KL
 refine aj (JQ t hl) ?_
 simp only[↓zq,zs,ae]
 have:=eF t []
 refine aj (Si _ _ (.of _) (by simp at this;omega)) ?_
 simp only[↓zq,zs,ae,bJ,Ty.closed]
def xu(s:List UInt8):Option Ty:=match qV s with
 |none=>none
 |some t=>if t.closed=true then some t else none
theorem tH{s:List UInt8}{t:Ty}(h:qV s=some t):t.atoms<=400:=by
 unfold qV at h
 split at h
 ·cases h
 ·split at h
  ·cases h
  ·split at h<;>cases h
   omega
theorem Ld(s:List UInt8):an Tryz.prog 99 [.v (.string (mk s))] [] (bJ (ik (xu s))):=by
 refine QX _ ?_
 unfold MJ
 refine aj (GP s) ?_
 unfold xu
 cases ht:qV s with
 |none=>simp[ik,↓zq,zs,ae,bJ]
 |
  some t =>
  have:=tH ht
  simp only[ik,↓zq,zs,ae,aF,fT]
  refine⟨fun h=>(by cases h),fun _=>?_⟩
  refine aj (PS t (by omega)) ?_
  simp only[↓zq,zs,ae,bJ]
  refine⟨fun h=>?_,fun h=>?_⟩
  ·rw[if_neg (by rw[h];simp)]
  ·rw[if_pos h]
theorem dW(l:List (List UInt8)):∀x,x∈[Ob.vec 1 (bG l)]->eD x:=by
 intro x hx
 simp only[aQ]at hx
 subst hx
 intro e he c hc
 simp only[bG,bO]at he
 obtain⟨k,_,rfl⟩:=he
 simp only[aQ]at hc
 exact⟨_,hc⟩
end Go.Proofs.Trees
namespace Go.Proofs.Trees
open Go Go.VL Go.RowKit
abbrev Nm:=List UInt8
def dC(u:Ty):Ty->Nat->Ty
 | .bound k,i=>if k=i then u else .bound k
 | .plus a b,i=>.plus (dC u a i) (dC u b i)
 | .times a b,i=>.times (dC u a i) (dC u b i)
 | .rc a,i=>.rc (dC u a (i+1))
 |t,_=>t
def sub(x:Nm)(u:Ty):Ty->Ty
 | .name s=>if s=x then u else .name s
 | .plus a b=>.plus (sub x u a) (sub x u b)
 | .times a b=>.times (sub x u a) (sub x u b)
 | .rc a=>.rc (sub x u a)
 |t=>t
def bn(x:Nm):Ty->Bool
 | .name s=>decide (s=x)
 | .plus a b=>bn x a||bn x b
 | .times a b=>bn x a||bn x b
 | .rc a=>bn x a
 |_=>false
def jV(f:Nm->Nm):Ty->Ty
 | .name s=>.name (f s)
 | .plus a b=>.plus (jV f a) (jV f b)
 | .times a b=>.times (jV f a) (jV f b)
 | .rc a=>.rc (jV f a)
 |t=>t
def Lq(f:Nm->Nm):Prop:=∀x y,f x=f y->x=y
theorem mn(f:Nm->Nm)(x:Nm):∀(t:Ty) (i:Nat),jV f (dC (.name x) t i)=dC (.name (f x)) (jV f t) i
 | .bound k,i=>by simp only[dC,jV];split<;>rfl
 | .plus a b,i=>by simp only[dC,jV,mn f x a i,mn f x b i]
 | .times a b,i=>by simp only[dC,jV,mn f x a i,mn f x b i]
 | .rc a,i=>by simp only[dC,jV,mn f x a (i+1)]
 | .zero,i=>rfl
 | .one,i=>rfl
 | .name s,i=>rfl
theorem lY{f:Nm->Nm}(hf:Lq f)(x:Nm)(u:Ty):∀t:Ty,jV f (sub x u t)=sub (f x) (jV f u) (jV f t)
 |
  .name s=>by
  simp only[sub,jV]
  by_cases h:s=x
  ·subst h;simp
  ·rw[if_neg h,if_neg fun e=>h (hf _ _ e)];rfl
 | .plus a b=>by simp only[sub,jV,lY hf x u a,lY hf x u b]
 | .times a b=>by simp only[sub,jV,lY hf x u a,lY hf x u b]
 | .rc a=>by simp only[sub,jV,lY hf x u a]
 | .zero=>rfl
 | .one=>rfl
 | .bound k=>rfl
theorem np{f:Nm->Nm}(hf:Lq f)(x:Nm):∀t:Ty,bn (f x) (jV f t)=bn x t
 | .name s=>by simp only[bn,jV];rw[cA];simp only[decide_eq_true_eq];exact⟨fun e=>hf _ _ e,fun e=>by rw[e]⟩
 | .plus a b=>by simp only[bn,jV,np hf x a,np hf x b]
 | .times a b=>by simp only[bn,jV,np hf x a,np hf x b]
 | .rc a=>by simp only[bn,jV,np hf x a]
 | .zero=>rfl
 | .one=>rfl
 | .bound k=>rfl
theorem gY(f:Nm->Nm):∀t:Ty,(jV f t).atoms=t.atoms
 | .plus a b=>by simp only[Ty.atoms,jV,gY f a,gY f b]
 | .times a b=>by simp only[Ty.atoms,jV,gY f a,gY f b]
 | .rc a=>by simp only[Ty.atoms,jV,gY f a]
 | .name s=>rfl
 | .zero=>rfl
 | .one=>rfl
 | .bound k=>rfl
theorem qc{f:Nm->Nm}:∀t:Ty,(∀x,bn x t=true->f x=x)->jV f t=t
 | .name s,h=>by simp only[jV];rw[h s (by simp[bn])]
 | .plus a b,h=>by simp only[jV];rw[qc a fun x hx=>h x (by simp[bn,hx]),qc b fun x hx=>h x (by simp[bn,hx])]
 | .times a b,h=>by simp only[jV];rw[qc a fun x hx=>h x (by simp[bn,hx]),qc b fun x hx=>h x (by simp[bn,hx])]
 | .rc a,h=>by simp only[jV];rw[qc a fun x hx=>h x hx]
 | .zero,_=>rfl
 | .one,_=>rfl
 | .bound k,_=>rfl
theorem fP(x:Nm):∀(t:Ty) (i:Nat),(dC (.name x) t i).atoms=t.atoms
 | .bound k,i=>by simp only[dC];split<;>rfl
 | .plus a b,i=>by simp only[dC,Ty.atoms,fP x a i,fP x b i]
 | .times a b,i=>by simp only[dC,Ty.atoms,fP x a i,fP x b i]
 | .rc a,i=>by simp only[dC,Ty.atoms,fP x a (i+1)]
 | .zero,i=>rfl
 | .one,i=>rfl
 | .name s,i=>rfl
theorem eA(t:Ty):1<=t.atoms:=by cases t<;>simp only[Ty.atoms]<;>omega
theorem gW(x:Nm)(u:Ty):∀t:Ty,t.atoms<=(sub x u t).atoms
 | .name s=>by simp only[sub];split<;>simp only[Ty.atoms];exact eA u;omega
 | .plus a b=>by have:=gW x u a;have:=gW x u b;simp only[sub,Ty.atoms];omega
 | .times a b=>by have:=gW x u a;have:=gW x u b;simp only[sub,Ty.atoms];omega
 | .rc a=>by have:=gW x u a;simp only[sub,Ty.atoms];omega
 | .zero=>au _
 | .one=>au _
 | .bound k=>au _
theorem gH{x y:Nm}:∀(t:Ty) (i:Nat),bn y (dC (.name x) t i)=true->y=x\/bn y t=true
 |
  .bound k,i,h=>by
  simp only[dC]at h
  split at h
  ·left;simp only[bn,decide_eq_true_eq]at h;exact h.symm
  ·cases h
 |
  .plus a b,i,h=>by
  simp only[dC,bn,bC]at h |-
  rcases h with h|h
  ·rcases gH a i h with h|h<;>simp[h]
  ·rcases gH b i h with h|h<;>simp[h]
 |
  .times a b,i,h=>by
  simp only[dC,bn,bC]at h |-
  rcases h with h|h
  ·rcases gH a i h with h|h<;>simp[h]
  ·rcases gH b i h with h|h<;>simp[h]
 | .rc a,i,h=>gH a (i+1) h
 | .zero,i,h=>by cases h
 | .one,i,h=>by cases h
 | .name s,i,h=>.inr h
theorem jg{x y:Nm}{u:Ty}:∀t:Ty,bn y (sub x u t)=true->bn y u=true\/(y≠x/\bn y t=true)
 |
  .name s,h=>by
  simp only[sub]at h
  split at h
  ·exact .inl h
  ·rename_i hs
   simp only[bn,decide_eq_true_eq]at h
   subst h
   exact .inr ⟨hs,by simp[bn]⟩
 |
  .plus a b,h=>by
  simp only[sub,bn,bC]at h |-
  rcases h with h|h
  ·rcases jg a h with h|h<;>simp[h]
  ·rcases jg b h with h|h<;>simp[h]
 |
  .times a b,h=>by
  simp only[sub,bn,bC]at h |-
  rcases h with h|h
  ·rcases jg a h with h|h<;>simp[h]
  ·rcases jg b h with h|h<;>simp[h]
 |
  .rc a,h=>by
  simp only[sub,bn]at h |-
  exact jg a h
 | .zero,h=>by cases h
 | .one,h=>by cases h
 | .bound k,h=>by cases h
def swp(x y:Nm):Nm->Nm:=fun s=>if s=x then y else if s=y then x else s
theorem zk(x y:Nm):Lq (swp x y):=by
 intro a b h
 unfold swp at h
 by_cases h1:a=x<;>by_cases h2:a=y<;>by_cases h3:b=x<;>by_cases h4:b=y<;>simp_all
theorem vY(x y:Nm):swp x y x=y:=by simp[swp]
theorem A8{x y s:Nm}(h:s≠x)(h':s≠y):swp x y s=s:=by simp[swp,h,h']
theorem uN{x y:Nm}{t:Ty}(h:bn x t=false)(h':bn y t=false):jV (swp x y) t=t :=
 qc t fun z hz=>A8 (fun e=>by subst e;rw[h]at hz;cases hz) (fun e=>by subst e;rw[h']at hz;cases hz)
def qg(a:Ty)(x:Nm)(c d:Ty):Ty:=.rc (.plus (sub x (.rc a) c) (.times (sub x (.rc a) d) (.bound 0)))
inductive Dv:Ty->Nm->Ty->Prop
 |zero (s):Dv .zero s .zero
 |one (s):Dv .one s .zero
 |bound (k s):Dv (.bound k) s .zero
 |hit (s):Dv (.name s) s .one
 |qN {n s} (h:n≠s):Dv (.name n) s .zero
 |plus {a b s a' b'} (h1:Dv a s a') (h2:Dv b s b') (hl:(Ty.plus a' b').atoms<=400):Dv (.plus a b) s (.plus a' b')
 |times {a b s a' b'} (h1:Dv a s a') (h2:Dv b s b') (hl:(Ty.plus (.times a' b) (.times a b')).atoms<=400):Dv (.times a b) s (.plus (.times a' b) (.times a b'))
 |rc {a s c d} (x:Nm) (hx:bn x a=false) (hs:x≠s) (h1:Dv (dC (.name x) a 0) s c) (h2:Dv (dC (.name x) a 0) x d) (hl:(qg a x c d).atoms<=400):Dv (.rc a) s (qg a x c d)
theorem zB{f:Nm->Nm}(hf:Lq f)(a:Ty)(x:Nm)(c d:Ty):jV f (qg a x c d)=qg (jV f a) (f x) (jV f c) (jV f d):=by
 simp only[qg,jV,lY hf]
theorem Dv.jV{f:Nm->Nm}(hf:Lq f){t d:Ty}{s:Nm}(h:Dv t s d):Dv (jV f t) (f s) (jV f d):=by
 induction h with
 |zero s=>exact .zero _
 |one s=>exact .one _
 |bound k s=>exact .bound _ _
 |hit s=>exact .hit _
 |qN h=>exact .qN fun e=>h (hf _ _ e)
 |plus h1 h2 hl i1 i2=>exact .plus i1 i2 (by rw[<-gY f]at hl;exact hl)
 |times h1 h2 hl i1 i2=>exact .times i1 i2 (by rw[<-gY f]at hl;exact hl)
 |
  rc x hx hs h1 h2 hl i1 i2 =>
  rw[zB hf]
  rw[mn]at i1 i2
  exact .rc (f x) (by rw[np hf];exact hx) (fun e=>hs (hf _ _ e)) i1 i2 (by rw[<-zB hf,gY];exact hl)
theorem Dv.names{t d:Ty}{s:Nm}(h:Dv t s d):∀y,bn y d=true->bn y t=true:=by
 induction h with
 |zero s=>intro y hy;cases hy
 |one s=>intro y hy;cases hy
 |bound k s=>intro y hy;cases hy
 |hit s=>intro y hy;cases hy
 |qN h=>intro y hy;cases hy
 |
  plus h1 h2 hl i1 i2 =>
  intro y hy
  simp only[bn,bC]at hy |-
  rcases hy with hy|hy
  ·exact .inl (i1 y hy)
  ·exact .inr (i2 y hy)
 |
  times h1 h2 hl i1 i2 =>
  intro y hy
  simp only[bn,bC]at hy |-
  rcases hy with(hy|hy)|(hy|hy)
  ·exact .inl (i1 y hy)
  ·exact .inr hy
  ·exact .inl hy
  ·exact .inr (i2 y hy)
 |
  rc x hx hs h1 h2 hl i1 i2 =>
  intro y hy
  simp only[qg,bn,bC,Bool.or_false]at hy |-
  have key:∀{a c:Ty},(∀y,bn y c=true->bn y (dC (.name x) a 0)=true)->bn y (sub x (.rc a) c)=true->bn y a=true:=fun i h=>by
   rcases jg _ h with h|⟨h,h'⟩
   ·exact h
   ·rcases gH _ _ (i y h')with e|e
    ·exact absurd e h
    ·exact e
  rcases hy with hy|hy
  ·exact key i1 hy
  ·exact key i2 hy
theorem Dv.fresh{t d:Ty}{s y:Nm}(h:Dv t s d)(hy:bn y t=false):bn y d=false:=by
 cases e:bn y d with
 |false=>rfl
 |true=>rw[h.names y e]at hy;cases hy
theorem Dv.move{a c:Ty}{x y s:Nm}(hx:bn x a=false)(hy:bn y a=false)(h:Dv (dC (.name x) a 0) s c):Dv (dC (.name y) a 0) (swp x y s) (Go.Proofs.Trees.jV (swp x y) c):=by
 have:=h.jV (zk x y)
 rw[mn,vY,uN hx hy]at this
 exact this
theorem mV{a c:Ty}{x y s:Nm}(hx:bn x a=false)(hy:bn y a=false)(h:Dv (dC (.name x) a 0) s c):sub y (.rc a) (jV (swp x y) c)=sub x (.rc a) c:=by
 have e:=lY (zk x y) x (.rc a) c
 rw[vY,uN (t:=.rc a) hx hy]at e
 rw[<-e]
 have key:∀z,(z=x\/z=y)->bn z (sub x (.rc a) c)=false:=fun z hz=>by
  cases q:bn z (sub x (.rc a) c)with
  |false=>rfl
  |
   true =>
   exfalso
   have hz':bn z a=false:=by rcases hz with rfl|rfl<;>assumption
   rcases jg _ q with h1|⟨h1,h2⟩
   ·rw[show bn z (.rc a)=bn z a from rfl,hz']at h1;cases h1
   ·rcases gH _ _ (h.names z h2)with e|e
    ·exact h1 e
    ·rw[hz']at e;cases e
 exact uN (key x (.inl rfl)) (key y (.inr rfl))
theorem Dv.uniq:∀(n:Nat) (t:Ty),t.atoms<=n->∀{s:Nm} {d d':Ty},Dv t s d->Dv t s d'->d=d'
 |0,t,h,_,_,_,_,_=>by have:=eA t;omega
 |
  n+1,t,hn,s,d,d',h,h'=>by
  cases h with
  |zero=>cases h';rfl
  |one=>cases h';rfl
  |bound=>cases h';rfl
  |
   hit =>
   cases h' with
   |hit=>rfl
   |qN h=>exact absurd rfl h
  |
   qN h =>
   cases h' with
   |hit=>exact absurd rfl h
   |qN _=>rfl
  |
   plus h1 h2 =>
   simp only[Ty.atoms]at hn
   cases h' with
   |plus g1 g2=>rw[Dv.uniq n _ (by omega) h1 g1,Dv.uniq n _ (by omega) h2 g2]
  |
   times h1 h2 =>
   simp only[Ty.atoms]at hn
   cases h' with
   |times g1 g2=>rw[Dv.uniq n _ (by omega) h1 g1,Dv.uniq n _ (by omega) h2 g2]
  |
   rc x hx hs h1 h2 =>
   simp only[Ty.atoms]at hn
   cases h' with
   |
    rc y hy hs' g1 g2 =>
    rename_i a _ _ _ _ _ _
    have m1:=h1.move hx hy
    have m2:=h2.move hx hy
    rw[A8 (Ne.symm hs) (Ne.symm hs')]at m1
    rw[vY]at m2
    have e1:=Dv.uniq n _ (by rw[fP];omega) m1 g1
    have e2:=Dv.uniq n _ (by rw[fP];omega) m2 g2
    rw[qg,qg,<-e1,<-e2,mV hx hy h1,mV hx hy h2]
theorem Dv.small{t d:Ty}{s:Nm}(h:Dv t s d):d.atoms<=400:=by
 cases h<;>first|assumption|simp[Ty.atoms]
open Classical in
noncomputable def mo (t:Ty) (s:Nm):Option Ty:=if h:∃d,Dv t s d then some (Classical.choose h)else none
theorem cT{t:Ty}{s:Nm}{d:Ty}:mo t s=some d↔Dv t s d:=by
 unfold mo
 by_cases h:∃d,Dv t s d
 ·rw[dif_pos h]
  have:=Classical.choose_spec h
  constructor
  ·intro e;cases e;exact this
  ·intro g;rw[Dv.uniq _ t (au _) this g]
 ·rw[dif_neg h]
  exact⟨fun e=>(by cases e),fun g=>absurd ⟨d,g⟩ h⟩
def nN(t:Ty):Option Ty:=if t.atoms<=400 then some t else none
theorem eV{t d:Ty}:nN t=some d↔t.atoms<=400/\t=d:=by
 unfold nN
 split
 ·rename_i h;simp[h]
 ·rename_i h;simp[h]
theorem rk{α:Type}{a b:Option α}(h:∀d,a=some d↔b=some d):a=b:=by
 cases a with
 |
  none=>cases b with
  |none=>rfl
  |some x=>have:=(h x).2 rfl;cases this
 |some x=>exact((h x).1 rfl).symm
theorem vt(s:Nm):mo .zero s=some .zero:=cT.2 (.zero _)
theorem yO(s:Nm):mo .one s=some .zero:=cT.2 (.one _)
theorem AG(k:Nat)(s:Nm):mo (.bound k) s=some .zero:=cT.2 (.bound _ _)
theorem oL(n s:Nm):mo (.name n) s=some (if n=s then .one else .zero):=by
 split
 ·rename_i h;subst h;exact cT.2 (.hit _)
 ·rename_i h;exact cT.2 (.qN h)
theorem wb(a b:Ty)(s:Nm):mo (.plus a b) s=(mo a s).bind fun a'=>(mo b s).bind fun b'=>nN (.plus a' b'):=by
 refine rk fun d=>?_
 rw[cT]
 simp only[bc,cT,eV]
 constructor
 ·intro h;cases h with|plus h1 h2 hl=>exact⟨_,h1,_,h2,hl,rfl⟩
 ·rintro⟨a',h1,b',h2,hl,rfl⟩;exact .plus h1 h2 hl
theorem tW(a b:Ty)(s:Nm):mo (.times a b) s=(mo a s).bind fun a'=>(mo b s).bind fun b'=>nN (.plus (.times a' b) (.times a b')):=by
 refine rk fun d=>?_
 rw[cT]
 simp only[bc,cT,eV]
 constructor
 ·intro h;cases h with|times h1 h2 hl=>exact⟨_,h1,_,h2,hl,rfl⟩
 ·rintro⟨a',h1,b',h2,hl,rfl⟩;exact .times h1 h2 hl
theorem A4{a:Ty}{s x:Nm}(hx:bn x a=false)(hs:x≠s):mo (.rc a) s=(mo (dC (.name x) a 0) s).bind fun c=>(mo (dC (.name x) a 0) x).bind fun d=>nN (qg a x c d):=by
 refine rk fun d=>?_
 rw[cT]
 simp only[bc,cT,eV]
 constructor
 ·intro h
  cases h with
  |
   rc y hy hs' h1 h2 hl =>
   have m1:=h1.move hy hx
   have m2:=h2.move hy hx
   rw[A8 (Ne.symm hs') (Ne.symm hs)]at m1
   rw[vY]at m2
   refine⟨_,m1,_,m2,?_⟩
   have e:∀c d,sub x (.rc a) (jV (swp y x) c)=sub y (.rc a) c->sub x (.rc a) (jV (swp y x) d)=sub y (.rc a) d->qg a x (jV (swp y x) c) (jV (swp y x) d)=qg a y c d:=fun c d e1 e2=>by rw[qg,qg,e1,e2]
   rw[e _ _ (mV hy hx h1) (mV hy hx h2)]
   exact⟨hl,rfl⟩
 ·rintro⟨c,h1,d',h2,hl,rfl⟩;exact .rc x hx hs h1 h2 hl
noncomputable def om (a:Ty) (x:Nm):Option Ty:=(mo (dC (.name x) a 0) x).bind fun d=>nN (sub x (.rc a) d)
theorem FG{a:Ty}{x y:Nm}(hx:bn x a=false)(hy:bn y a=false):om a x=om a y:=by
 have key:∀{x y:Nm} {d:Ty},bn x a=false->bn y a=false->om a x=some d->om a y=some d:=fun {x y d} hx hy h=>by
  simp only[om,bc,cT,eV]at h |-
  obtain⟨d',h1,hl,rfl⟩:=h
  have m1:=h1.move hx hy
  rw[vY]at m1
  exact⟨_,m1,by rw[mV hx hy h1];exact⟨hl,rfl⟩⟩
 exact rk fun d=>⟨key hx hy,key hy hx⟩
end Go.Proofs.Trees
namespace Go.Proofs.Trees
open Go Go.VL
theorem Rw(b:UInt8):an Tryz.prog 161 [.v (.int .u8 (b.toNat:Int))] [] (bJ (.v (.bool (fm b)))):=by
 refine Rt _ ?_
 simp only[My,↓zq,zs,ae,bJ,fm]
 repeat' (apply aH<;>intro _)
 all_goals first|(congr 2;rw[cA];simp;omega)|(congr 2;simp;omega)
def Eg(s:List UInt8)(x:Option (E×List UInt8)):AV->List Ob->Prop:=fun r o=>o=[] /\
 match x with
 |some (e,u)=>r=.cI [e.kT,.v (.int .i64 ((s.length-u.length:Nat):Int))]
 |none=>∃(c:List UInt8) (d:AV),LK.sl.has d/\r=.cI [.agg [.v (.string (mk c)),d],.v (.int .i64 (-1))]
theorem Eg.ne(s:List UInt8)(x:Option (E×List UInt8)):∃r o,Eg s x r o:=by
 cases x with
 |some q=>exact⟨_,_,rfl,rfl⟩
 |none=>exact⟨_,_,rfl,[],.v (.slice none 0 0),(bh).mpr trivial,rfl⟩
def jc(c:List UInt8)(d:AV):Ob:=.cells [.v (.string (mk c)),d]
theorem MZ(s:List UInt8)(hs:s.length<=8000)(from_:Int)(c1 c2:List UInt8)(d1 d2:AV)(h1:LK.sl.has d1)(h2:LK.sl.has d2):∀(k i:Nat),i+k=s.length->Ho [.v (.string (mk s)),.v (.int .i64 (i:Int)),.v (.int .i64 from_)] [jc c1 d1,jc c2 d2]
 (iq 1 [.v (.string (mk s)),.v (.int .i64 ((i+((s.drop i).takeWhile fm).length:Nat):Int)),.v (.int .i64 from_)] [jc c1 d1,jc c2 d2])
 |
  0,i,hi=>by
  refine Nf _ _ _ _ _ _ _ ?_
  have hd:s.drop i=[]:=bV (by omega)
  simp only[F8,↓zq,zs,ae,zt]
  exact⟨h1,h2,fun h=>by omega,fun _=>by simp[iq,hd,jc]⟩
 |
  k+1,i,hi=>by
  have hlt:i<s.length:=by omega
  refine Nf _ _ _ _ _ _ _ ?_
  simp only[F8,↓zq,zs,ae,zt,my s i hlt]
  refine⟨h1,h2,fun _=>⟨by omega,?_⟩,fun h=>by omega⟩
  refine aj (Rw _) ?_
  simp only[↓zq,zs,ae]
  refine⟨fun hb=>?_,fun hb=>?_⟩
  ·rw[bA i (by omega)]
   have:=MZ s hs from_ c1 c2 d1 d2 h1 h2 k (i+1) (by omega)
   rw[zv hlt hb,show i+(((s.drop (i+1)).takeWhile fm).length+1)=i+1+((s.drop (i+1)).takeWhile fm).length by omega]
   exact this
  ·simp[iq,rh hlt hb,jc]
def Tx(s:List UInt8)(x:Option (E×List UInt8)):Nat->List AV->List Ob->Prop:=fun t ys o=>t=2 /\
 match x with
 |some (e,u)=>∃l,e=.list l/\ys=[.v (.int .i64 ((s.length-u.length:Nat):Int))]/\o=[jc [] .any,.vec 2 (E.bx l)]
 |none=>∃es,ys=[.v (.int .i64 (-1))]/\o=[jc [] .any,.vec 2 es]
theorem yw(e:E):(e.kT=.agg e.kT.cs/\e.kT.cs.length=2/\bH [.str,.sl] e.kT.cs 0)=True:=by
 apply eq_true
 cases e<;>simp[E.kT,E.iH,Bu,bH,ef,bh,cn]
theorem xF(e:E):[AV.v (.string ((e.kT.cs.getD 0 .any).toStr)),e.kT.cs.getD 1 .any]=e.iH:=by
 cases e<;>rfl
theorem drop_cons{s:List UInt8}{j:Nat}(hj:j<s.length):s.drop j=s.getD j 0::s.drop (j+1):=by
 rw[aT hj];simp[aa,hj]
theorem Kd(s:List UInt8)(hs:s.length<=8000)(d:Nat)(hd:d<=300)(f:List UInt8->Option (E×List UInt8))(hf:∀u e r,f u=some (e,r)->∃j,r=u.drop j/\0<j/\j<=u.length)
 (ih:∀j,j<=s.length->an Tryz.prog 142 [.v (.string (mk s)),.v (.int .i64 (j:Int)),.v (.int .i64 ((d+1:Nat):Int))] [] (Eg s (f (s.drop j)))) :
 ∀(n i:Nat) (acc:List E) (c1:List UInt8) (d1:AV),LK.sl.has d1->s.length-(i+1)<n->i<s.length->s.length-i+acc.length<=8001->HV [.v (.string (mk s)),.v (.int .i64 (i:Int)),.v (.int .i64 (d:Int))] [jc c1 d1,jc [] .any,.vec 2 (E.bx acc)]
  (Tx s (sL f n (s.drop (i+1)) acc))
 |0,i,acc,c1,d1,h1,hn,_,_=>by omega
 |
  n+1,i,acc,c1,d1,h1,hn,hi,hl=>by
  refine P1 _ _ _ _ _ _ _ ?_
  simp only[NN,↓zq,zs,ae,jc]
  refine⟨h1,?_⟩
  rw[bA i (by omega),bA d (by omega)]
  refine aP (ih (i+1) (by omega)) (Eg.ne _ _) ?_
  rintro r o ⟨rfl,hr⟩
  have hff:=hf (s.drop (i+1))
  unfold sL
  cases hq:f (s.drop (i+1))with
  |
   none =>
   rw[hq]at hr
   obtain⟨c,d',hd',rfl⟩:=hr
   simp only[↓zq,zs,ae,zt,bH]
   refine⟨hd',fun _=>⟨rfl,_,rfl,rfl⟩,fun h=>by omega⟩
  |
   some q =>
   obtain⟨e,u⟩:=q
   rw[hq]at hr
   subst hr
   obtain⟨j,hu,hj0,hj⟩:=hff e u hq
   rw[List.drop_drop]at hu
   simp only[cy]at hj
   have hul:u.length=s.length-(i+1+j):=by rw[hu,cy]
   have hpos:s.length-u.length=i+1+j:=by omega
   simp only[↓zq,zs,ae,zt,yw,hpos,xF,eh]
   refine⟨fun h=>by omega,fun _=>⟨fun h=>?_,fun h=>⟨⟨fun c hc=>(by simp at hc;rw[hc];cases e<;>rfl),by omega⟩,?_⟩⟩⟩
   ·have:u=[]:=by rw[hu];exact bV (by omega)
    subst this
    exact⟨rfl,_,rfl,rfl⟩
   ·have hlt:i+1+j<s.length:=by omega
    rw[drop_cons hlt]at hu
    subst hu
    rw[my s _ hlt]
    generalize hb:s.getD (i+1+j) 0=b
    refine⟨by omega,fun h41=>?_,fun h41=>⟨by omega,fun h32=>?_,fun h32=>?_⟩⟩
    ·have h41':b.toNat=41:=by omega
     dsimp only
     rw[if_pos h41',bA _ (by omega)]
     refine⟨rfl,acc++[e],rfl,?_,?_⟩
     ·rw[cy];congr 3;omega
     ·simp[jc,qB,E.bx]
    ·have h41':¬b.toNat=41:=by omega
     have h32':¬b.toNat=32:=by omega
     dsimp only
     rw[if_neg h41',if_neg h32']
     exact⟨rfl,_,rfl,rfl⟩
    ·have h41':¬b.toNat=41:=by omega
     have h32':b.toNat=32:=by omega
     dsimp only
     rw[if_neg h41',if_pos h32']
     have:=Kd s hs d hd f hf ih n (i+1+j) (acc++[e]) c1 d1 h1 (by omega) hlt (by simp;omega)
     simpa[jc,qB,E.bx]using this
theorem EN(k:Nat)(u:List UInt8)(e:E)(r:List UInt8)(h:rd k u=some (e,r)):∃j,r=u.drop j/\0<j/\j<=u.length:=by
 have suf:∀(k:Nat) (u:List UInt8) (e:E) (r:List UInt8),rd k u=some (e,r)->r <:+ u:=by
  intro k
  have tw:∀u:List UInt8,u.dropWhile fm <:+ u:=fun u=>List.dropWhile_suffix _
  have ll:∀(f:List UInt8->Option (E×List UInt8)),(∀u e r,f u=some (e,r)->r <:+ u)->∀(n:Nat) (u:List UInt8) (acc:List E) (e:E) (r:List UInt8),sL f n u acc=some (e,r)->r <:+ u:=by
   intro f hf n
   induction n with
   |zero=>intro u acc e r h;cases h
   |
    succ n ih =>
    intro u acc e r h
    simp only[sL]at h
    split at h
    ·rename_i p c r' hs
     have h1:r' <:+ u:=(List.suffix_cons c r').trans (hf _ _ _ hs)
     split at h
     ·cases h;exact h1
     ·split at h
      ·exact(ih _ _ _ _ h).trans h1
      ·cases h
    ·cases h
  induction k with
  |
   zero =>
   intro u e r h
   simp only[rd]at h
   split at h
   ·cases h
   ·cases h;exact tw u
  |
   succ k ih =>
   intro u e r h
   simp only[rd]at h
   split at h
   ·split at h
    ·split at h
     ·exact(ll _ ih _ _ _ _ _ h).trans (List.suffix_cons _ _)
     ·cases h
    ·cases h
   ·cases h;exact tw u
 obtain⟨p,hp⟩:=suf k u e r h
 have hlt:=yM k u e r h
 have:=congrArg List.length hp
 simp only[aq]at this
 exact⟨p.length,by rw[<-hp];simp,by omega,by omega⟩
theorem BN(n:Nat)(u:List UInt8)(acc:List E):sL (fun _=>none) n u acc=none:=by
 cases n<;>rfl
theorem Rf(s:List UInt8)(j:Nat):an Tryz.prog 142 [.v (.string (mk s)),.v (.int .i64 (j:Int)),.v (.int .i64 ((300+1:Nat):Int))] [] (Eg s none):=by
 refine Na _ _ _ ?_
 simp only[Ih,↓zq,zs,ae]
 exact⟨fun _=>⟨rfl,[],_,(bh).mpr trivial,rfl⟩,fun h=>by omega⟩
theorem qy(s:List UInt8)(hs:s.length<=8000)(d i:Nat)(hd:d<=300)(hi:i<=s.length)(f:List UInt8->Option (E×List UInt8))(hf:∀u e r,f u=some (e,r)->∃j,r=u.drop j/\0<j/\j<=u.length)
 (ih:∀j,j<=s.length->an Tryz.prog 142 [.v (.string (mk s)),.v (.int .i64 (j:Int)),.v (.int .i64 ((d+1:Nat):Int))] [] (Eg s (f (s.drop j)))) (x:Option (E×List UInt8))
 (h0:i=s.length->x=none)
 (h1:i<s.length->(s.drop i).takeWhile fm≠[]->x=some (.atom ((s.drop i).takeWhile fm),(s.drop i).dropWhile fm))
 (h2:i<s.length->(s.drop i).takeWhile fm=[]->¬(s.getD i 0).toNat=40->x=none)
 (h3:i<s.length->(s.getD i 0).toNat=40->x=sL f (s.length-(i+1)+1) (s.drop (i+1)) []) :
 an Tryz.prog 142 [.v (.string (mk s)),.v (.int .i64 (i:Int)),.v (.int .i64 (d:Int))] [] (Eg s x):=by
 refine Na _ _ _ ?_
 simp only[Ih,↓zq,zs,ae,zt]
 refine⟨fun h=>by omega,fun _=>⟨fun h=>?_,fun h=>⟨by omega,?_⟩⟩⟩
 ·rw[h0 (by omega)]
  exact⟨rfl,[],_,(bh).mpr trivial,rfl⟩
 ·have hlt:i<s.length:=by omega
  rw[my s i hlt]
  refine⟨fun h40=>?_,fun h40=>?_⟩
  ·have h40':¬(s.getD i 0).toNat=40:=by omega
   refine cF (MZ s hs _ [] [] _ _ ((bh).mpr trivial) ((bh).mpr trivial) (s.length-i) i (by omega)) ?_
   have hex:(List.take (i+((s.drop i).takeWhile fm).length) s).drop i=(s.drop i).takeWhile fm:=by
    rw[List.drop_take,Nat.add_sub_cancel_left];exact uR _
   have hle:i+((s.drop i).takeWhile fm).length<=s.length:=by
    have:=uO (s.drop i);simp only[cy]at this;omega
   simp only[jc,↓zq,zs,ae,zt,hex]
   refine⟨by omega,fun hnil=>?_,fun hnil=>?_⟩
   ·rw[h2 hlt hnil h40',hnil]
    exact⟨rfl,[],_,(bh).mpr trivial,rfl⟩
   ·rw[h1 hlt hnil]
    refine⟨rfl,?_⟩
    have:=uO (s.drop i)
    simp only[cy]at this
    show _=AV.cI [E.kT (.atom _),_]
    have e:s.length-((s.drop i).dropWhile fm).length=i+((s.drop i).takeWhile fm).length:=by omega
    rw[e];rfl
  ·have h40':(s.getD i 0).toNat=40:=by omega
   rw[h3 hlt h40']
   refine k9 (Kd s hs d hd f hf ih (s.length-(i+1)+1) i [] [] _ ((bh).mpr trivial) (by omega) hlt (by simp;omega)) ?_ ?_
   ·rintro ys o ⟨h,_⟩;cases h
   ·rintro ys o ⟨_,hr⟩
    cases hq:sL f (s.length-(i+1)+1) (s.drop (i+1)) []with
    |
     none =>
     rw[hq]at hr
     obtain⟨es,rfl,rfl⟩:=hr
     simp only[jc,↓zq,zs,ae]
     exact⟨rfl,[],_,(cn _).mpr trivial,rfl⟩
    |
     some q =>
     obtain⟨e,u⟩:=q
     rw[hq]at hr
     obtain⟨l,rfl,rfl,rfl⟩:=hr
     simp only[jc,↓zq,zs,ae]
     exact⟨rfl,rfl⟩
theorem Rr(s:List UInt8)(hs:s.length<=8000):∀(k:Nat),k<=300->∀i,i<=s.length->an Tryz.prog 142 [.v (.string (mk s)),.v (.int .i64 (i:Int)),.v (.int .i64 ((300-k:Nat):Int))] [] (Eg s (rd k (s.drop i))):=by
 intro k
 have hnil:∀k,rd k []=none:=fun k=>by cases k<;>simp[rd]
 have ha40:∀b:UInt8,b.toNat=40->fm b=false:=fun b hb=>by simp[fm,hb]
 induction k with
 |
  zero =>
  intro hk i hi
  refine qy s hs 300 i (by omega) hi (fun _=>none) (fun _ _ _ h=>by cases h) (fun j _=>Rf s j) _ (fun h=>?_) (fun hlt h=>?_) (fun hlt h h40=>?_) (fun hlt h40=>?_)
  ·rw[bV (by omega)];exact hnil 0
  ·simp only[rd,if_neg h]
  ·simp only[rd,if_pos h]
  ·rw[BN]
   have:(s.drop i).takeWhile fm=[]:=rh hlt (ha40 _ h40)
   simp only[rd,if_pos this]
 |
  succ k ih =>
  intro hk i hi
  have hd:300-(k+1)+1=300-k:=by omega
  refine qy s hs (300-(k+1)) i (by omega) hi (rd k) (EN k) (fun j hj=>by rw[hd];exact ih (by omega) j hj) _ (fun h=>?_) (fun hlt h=>?_) (fun hlt h h40=>?_) (fun hlt h40=>?_)
  ·rw[bV (by omega)];exact hnil _
  ·simp only[rd,if_neg h]
  ·rw[drop_cons hlt]at h |-
   simp only[rd,if_pos h,if_neg h40]
  ·have h:=rh hlt (ha40 _ h40)
   rw[drop_cons hlt]at h |-
   simp only[rd,if_pos h,if_pos h40,cy]
end Go.Proofs.Trees
namespace Go.Proofs.Trees
open Go Go.VL
theorem iT(e:E):AV.agg [.v (.string ((e.iH.getD 0 .any).toStr)),e.iH.getD 1 .any]=e.kT:=by cases e<;>rfl
theorem gu(e:E):e.iH.length=2:=by cases e<;>rfl
theorem ja(e:E):bH [.str,.sl] e.iH 0=True:=by
 apply eq_true
 cases e<;>simp[E.iH,bH,ef,bh,cn]
theorem mF(e:E):e.iH.headD .any=.v (.string (mk e.at)):=by cases e<;>rfl
theorem vo(x:E)(l:List E):an Tryz.prog 86 [.agg [.v (.string (mk [])),.sl (E.bx (x::l))]] [] (bJ (.v (.string (mk x.at)))):=by
 refine Hg _ _ ((cn _).mpr trivial) ?_
 simp only[EX,E.bx,↓zq,zs,ae,zt,bJ,gu,mF,au]
 refine⟨fun h=>absurd rfl h,fun _=>⟨fun h=>by omega,fun _=>⟨by omega,by omega⟩⟩⟩
theorem Qx:an Tryz.prog 86 [.agg [.v (.string (mk [])),.sl (E.bx [])]] [] (bJ (.v (.string (mk [])))):=by
 refine Hg _ _ ((cn _).mpr trivial) ?_
 simp only[EX,E.bx,↓zq,zs,ae,zt,bJ,gu,mF,au]
 simp
def kj:E->Bool
 | .atom s=>(s==[48])||(s==[49])||ia s||dr s
 | .list [x,a,b]=>if x.at=[43]then kj a&&kj b else if x.at=[42]then kj a&&kj b else if x.at=[114,101,99]then dr a.at&&kj b else false
 | .list _=>false
theorem zO:∀(e:E),e.ok->an Tryz.prog 117 [e.kT] [] (bJ (.v (.bool (kj e))))
 |
  .atom s,hok=>by
  refine KA _ _ ((bh).mpr trivial) ?_
  have hne:s≠[]:=hok
  simp only[xH,↓zq,zs,ae,zt,bJ,kj]
  refine⟨fun _=>⟨fun h=>?_,fun h=>⟨fun h1=>?_,fun h1=>?_⟩⟩,fun h=>absurd h hne⟩
  ·simp[h]
  ·simp[h1]
  ·refine aj (ID s) ?_
   simp only[↓zq,zs,ae]
   refine⟨fun hp=>?_,fun hp=>?_⟩
   ·simp[hp]
   ·refine aj (G0 s) ?_
    simp[↓zq,zs,ae,hp,h,h1]
 |
  .list l,hok=>by
  refine KA _ _ ((cn _).mpr trivial) ?_
  match l,hok with
  |[],hok=>simp[xH,E.bx,↓zq,zs,ae,zt,bJ,kj]
  |[x],hok=>simp[xH,E.bx,↓zq,zs,ae,zt,bJ,kj]
  |[x,y],hok=>simp[xH,E.bx,↓zq,zs,ae,zt,bJ,kj]
  |
   x::y::z::w::l,hok =>
   simp only[xH,E.bx,↓zq,zs,ae,zt,bJ,kj]
   exact⟨fun h=>absurd rfl h,fun _=>⟨fun _=>trivial,fun h=>by omega⟩⟩
  |
   [x,y,z],hok =>
   obtain⟨ok1,ok2,ok3,_⟩:=hok
   simp only[xH,↓zq,zs,ae,zt,bJ]
   refine⟨fun h=>absurd rfl h,fun _=>⟨fun h=>absurd rfl h,fun _=>?_⟩⟩
   refine aj (vo x _) ?_
   simp only[E.bx,toNat_one,bg,↓zq,zs,ae,zt,iT,gu,ja,mF,au,kj]
   refine⟨fun h=>?_,fun h=>⟨fun h1=>?_,fun h1=>⟨fun h2=>?_,fun h2=>?_⟩⟩⟩
   ·rw[if_pos h]
    refine⟨by omega,aj (zO y ok2) ?_⟩
    simp only[↓zq,zs,ae]
    refine⟨fun hy=>⟨by omega,aj (zO z ok3) ?_⟩,fun hy=>?_⟩
    ·simp only[↓zq,zs,ae,hy,bY]
    ·rw[hy];rfl
   ·rw[if_neg h,if_pos h1]
    refine⟨by omega,aj (zO y ok2) ?_⟩
    simp only[↓zq,zs,ae]
    refine⟨fun hy=>⟨by omega,aj (zO z ok3) ?_⟩,fun hy=>?_⟩
    ·simp only[↓zq,zs,ae,hy,bY]
    ·rw[hy];rfl
   ·rw[if_neg h,if_neg h1,if_pos h2]
    refine⟨by omega,by omega,aj (G0 _) ?_⟩
    simp only[↓zq,zs,ae]
    refine⟨fun hy=>⟨by omega,aj (zO z ok3) ?_⟩,fun hy=>?_⟩
    ·simp only[↓zq,zs,ae,hy,bY]
    ·rw[hy];rfl
   ·rw[if_neg h,if_neg h1,if_neg h2]
theorem iX:∀(e:E) (ar:List (List UInt8)),(cV e ar).isSome=kj e
 |
  .atom s,ar=>by
  simp only[cV,kj]
  by_cases h:s=[48]
  ·simp[h]
  ·by_cases h1:s=[49]
   ·simp[h1]
   ·rw[if_neg h,if_neg h1]
    by_cases h2:ia s=true
    ·simp[h2]
    ·rw[if_neg h2]
     by_cases h3:dr s=true
     ·rw[if_pos h3];cases bR s ar ar.length<;>simp[h3]
     ·rw[if_neg h3];simp[h,h1,h2,h3]
 | .list [],_=>rfl
 | .list [_],_=>rfl
 | .list [_,_],_=>rfl
 | .list (_::_::_::_::_),_=>rfl
 |
  .list [x,a,b],ar=>by
  have ha:=iX a ar
  have hb:=iX b ar
  have hb2:=iX b (ar++[a.at])
  rw[kj]
  by_cases h:x.at=[43]
  ·rw[lz ar h,if_pos h,<-ha,<-hb];cases cV a ar<;>cases cV b ar<;>rfl
  ·by_cases h1:x.at=[42]
   ·rw[kf ar h1,if_neg h,if_pos h1,<-ha,<-hb];cases cV a ar<;>cases cV b ar<;>rfl
   ·by_cases h2:x.at=[114,101,99]
    ·rw[mY ar h2,if_neg h,if_neg h1,if_pos h2,<-hb2]
     cases dr a.at<;>cases cV b (ar++[a.at])<;>rfl
    ·rw[jq ar h h1 h2,if_neg h,if_neg h1,if_neg h2];rfl
mutual
def E.df:E->Nat
 | .atom _=>1
 | .list l=>E.ff l
def E.ff:List E->Nat
 |[]=>0
 |e::l=>e.df+E.ff l
end
mutual
theorem i7:∀e:E,e.df<=e.sz
 | .atom s=>by simp[E.df,E.sz]
 | .list l=>by have:=u9 l;simp only[E.df,E.sz];omega
theorem u9:∀l:List E,E.ff l<=E.jB l
 |[]=>by simp[E.ff,E.jB]
 |e::l=>by have:=i7 e;have:=u9 l;simp only[E.ff,E.jB];omega
end
theorem jN:∀(l:List E) (i:Nat) (h:i<l.length),(E.bx l).getD i []=(l[i]).iH
 |e::l,0,_=>rfl
 |
  e::l,i+1,h=>by
  have:=jN l i (by simpa using h)
  simp only[E.bx,List.getD_cons_succ,List.getElem_cons_succ];exact this
theorem Ap:∀(l:List E) (i:Nat) (h:i<l.length),E.ff (l.drop i)=(l[i]).df+E.ff (l.drop (i+1)):=by
 intro l i h
 rw[aT h];rfl
theorem ug:∀(l:List E) (i:Nat) (h:i<l.length),E.Dp l->(l[i]).ok
 |e::l,0,_,h=>h.1
 |e::l,i+1,hi,h=>ug l i (by simpa using hi) h.2
theorem J5(l:List E)(hl:E.ff l<1000000)(hll:l.length<1000000)(ih:∀i (h:i<l.length),an Tryz.prog 88 [(l[i]).kT] [] (bJ (.v (.int .i64 ((l[i]).df:Int))))) :
 ∀(k i n:Nat),i+k=l.length->n+E.ff (l.drop i)<=E.ff l->Ha [.v (.int .i64 (n:Int)),.v (.int .i64 (i:Int))] [.cells [.v (.string (mk [])),.sl (E.bx l)]] (iq 1 [.v (.int .i64 ((n+E.ff (l.drop i):Nat):Int))] [])
 |
  0,i,n,hi,hn=>by
  refine KN _ _ _ _ ?_
  simp only[HG,↓zq,zs,ae,eh]
  have:l.drop i=[]:=bV (by omega)
  refine⟨fun h=>by omega,fun _=>?_⟩
  simp[iq,this,E.ff]
 |
  k+1,i,n,hi,hn=>by
  have hlt:i<l.length:=by omega
  refine KN _ _ _ _ ?_
  simp only[HG,↓zq,zs,ae,zt,eh,jN l i hlt,gu,ja,iT,au]
  refine⟨fun _=>⟨by omega,?_⟩,fun h=>by omega⟩
  refine aj (ih i hlt) ?_
  have h1:=Ap l i hlt
  simp only[↓zq,zs,ae]
  rw[bA i (by omega),wrap64 _ (by omega) (by omega)]
  have:=J5 l hl hll ih k (i+1) (n+(l[i]).df) (by omega) (by omega)
  rw[h1,<-Nat.add_assoc]
  simpa using this
theorem uG:∀l:List E,l.length<=E.jB l
 |[]=>by simp[E.jB]
 |
  e::l=>by
  have:=uG l
  have:1<=e.sz:=by cases e<;>simp[E.sz]
  simp only[E.jB,az];omega
theorem uD:∀(l:List E) (i:Nat) (h:i<l.length),(l[i]).sz<=E.jB l
 |e::l,0,_=>by simp[E.jB]
 |e::l,i+1,h=>by have:=uD l i (by simpa using h);simp only[E.jB,List.getElem_cons_succ];omega
theorem Ml:∀(n:Nat) (e:E),e.sz<n->e.ok->e.sz<1000000->an Tryz.prog 88 [e.kT] [] (bJ (.v (.int .i64 (e.df:Int))))
 |0,e,hn,_,_=>by omega
 |
  n+1,.atom s,hn,hok,hl=>by
  refine NO _ _ ((bh).mpr trivial) ?_
  have hne:s≠[]:=hok
  simp only[Gx,↓zq,zs,ae,zt,bJ]
  exact⟨fun _=>rfl,fun h=>absurd h hne⟩
 |
  n+1,.list l,hn,hok,hl=>by
  refine NO _ _ ((cn _).mpr trivial) ?_
  simp only[E.sz]at hn hl
  have h1:=u9 l
  have h2:=uG l
  simp only[Gx,↓zq,zs,ae,zt,bJ]
  refine⟨fun h=>absurd rfl h,fun _=>?_⟩
  refine cF (J5 l (by omega) (by omega) (fun i hi=>?_) l.length 0 0 (by omega) (by simp)) ?_
  ·have:=uD l i hi
   exact Ml n (l[i]) (by omega) (ug l i hi hok) (by omega)
  ·simp[↓zq,zs,ae,E.df]
theorem EG(e:E)(h:e.ok)(hl:e.sz<1000000):an Tryz.prog 88 [e.kT] [] (bJ (.v (.int .i64 (e.df:Int)))):=Ml (e.sz+1) e (by omega) h hl
theorem u6{x:E}(h:x.at≠[]):x.df=1:=by cases x<;>simp[E.at,E.df]at h |-
theorem CD{s:List UInt8}(h:dr s=true):s≠[]:=by rintro rfl;cases h
theorem km:∀(e:E) (ar:List (List UInt8)) (t:Ty),cV e ar=some t->e.df=t.atoms
 |
  .atom s,ar,t,h=>by
  simp only[cV]at h
  simp only[E.df]
  split at h
  ·cases h;rfl
  ·split at h
   ·cases h;rfl
   ·split at h
    ·cases h;rfl
    ·split at h
     ·split at h<;>cases h<;>rfl
     ·cases h
 | .list [],_,_,h=>by cases h
 | .list [_],_,_,h=>by cases h
 | .list [_,_],_,_,h=>by cases h
 | .list (_::_::_::_::_),_,_,h=>by cases h
 |
  .list [x,a,b],ar,t,h=>by
  simp only[E.df,E.ff]
  by_cases h0:x.at=[43]
  ·rw[lz ar h0]at h
   have:=u6 (x:=x) (by rw[h0];simp)
   split at h
   ·rename_i t1 t2 e1 e2
    cases h
    have:=km a ar _ e1
    have:=km b ar _ e2
    simp only[Ty.atoms];omega
   ·cases h
  ·by_cases h1:x.at=[42]
   ·rw[kf ar h1]at h
    have:=u6 (x:=x) (by rw[h1];simp)
    split at h
    ·rename_i t1 t2 e1 e2
     cases h
     have:=km a ar _ e1
     have:=km b ar _ e2
     simp only[Ty.atoms];omega
    ·cases h
   ·by_cases h2:x.at=[114,101,99]
    ·rw[mY ar h2]at h
     have:=u6 (x:=x) (by rw[h2];simp)
     split at h
     ·rename_i hl
      have:=u6 (CD hl)
      split at h
      ·rename_i t1 e1
       cases h
       have:=km b _ _ e1
       simp only[Ty.atoms];omega
      ·cases h
     ·cases h
    ·rw[jq ar h0 h1 h2]at h;cases h
def jP(x:Option E)(b:Bool):AV->List Ob->Prop:=fun r o=>∃c:List UInt8,∃d:AV,LK.sl.has d/\r=.cI [.agg [.v (.string (mk c)),d],.v (.bool b)]/\(b=true->∃e,x=some e/\AV.agg [.v (.string (mk c)),d]=e.kT)
theorem BD(e:E):∃c:List UInt8,∃d:AV,LK.sl.has d/\e.kT=AV.agg [.v (.string (mk c)),d]:=by
 cases e with
 |atom s=>exact⟨s,_,(bh).mpr trivial,rfl⟩
 |list l=>exact⟨[],_,(cn _).mpr trivial,rfl⟩
theorem jP.ne(x:Option E)(b:Bool)(h:b=true->x.isSome=true):∃r o,jP x b r o:=by
 cases b with
 |false=>exact⟨_,[],[],.v (.slice none 0 0),(bh).mpr trivial,rfl,fun h=>by cases h⟩
 |
  true =>
  cases x with
  |none=>cases h rfl
  |
   some e =>
   obtain⟨c,d,hd,he⟩:=BD e
   exact⟨_,[],c,d,hd,rfl,fun _=>⟨e,rfl,he.symm⟩⟩
theorem Lz(s:List UInt8):an Tryz.prog 102 [.v (.string (mk s))] [] (jP (qU s) (qU s).isSome):=by
 refine PC _ ?_
 simp only[MR,↓zq,zs,ae,zt,qU]
 refine⟨fun h=>?_,fun h=>?_⟩
 ·rw[if_pos (by omega)]
  exact⟨[],_,(bh).mpr trivial,rfl,fun h=>by cases h⟩
 ·rw[if_neg (by omega)]
  refine aP (Rr s (by omega) 300 (by omega) 0 (by omega)) (Eg.ne _ _) ?_
  rintro r o ⟨rfl,hr⟩
  rw[bf]at hr
  cases hq:rd 300 s with
  |
   none =>
   rw[hq]at hr
   obtain⟨c,d,hd,rfl⟩:=hr
   simp only[↓zq,zs,ae,zt,bH]
   refine⟨hd,c,d,hd,?_,fun h=>by cases h⟩
   have:((-1:Int)==(s.length:Int))=false:=by
    rw[beq_eq_false_iff_ne];omega
   rw[this];rfl
  |
   some q =>
   obtain⟨e,u⟩:=q
   rw[hq]at hr
   subst hr
   have hlt:=yM _ _ _ _ hq
   obtain⟨c,d,hd,he⟩:=BD e
   simp only[he,↓zq,zs,ae,zt,bH]
   cases u with
   |
    nil =>
    refine⟨hd,c,d,hd,?_,fun _=>⟨e,rfl,he.symm⟩⟩
    simp
   |
    cons b u =>
    simp only[az]at hlt |-
    refine⟨hd,c,d,hd,?_,fun h=>by cases h⟩
    have:(((s.length-(u.length+1):Nat):Int)==(s.length:Int))=false:=by simp;omega
    rw[this];rfl
def wN(s:List UInt8):Option E:=match qU s with
 |none=>none
 |some e=>if kj e=true/\e.df<=400 then some e else none
theorem IN(s:List UInt8):an Tryz.prog 83 [.v (.string (mk s))] [] (jP (wN s) (wN s).isSome):=by
 refine Q3 _ ?_
 unfold N5
 refine aP (Lz s) (jP.ne _ _ (fun h=>h)) ?_
 rintro r o ⟨c,d,hd,rfl,hh⟩
 simp only[↓zq,zs,ae,zt,bH,wN]
 refine⟨hd,fun h=>?_,fun h=>?_⟩
 ·obtain⟨e,he,hce⟩:=hh h
  obtain⟨hok,hsz⟩:=nS he
  rw[he,hce]
  refine aj (zO e hok) ?_
  simp only[↓zq,zs,ae]
  refine⟨fun hi=>?_,fun hi=>?_⟩
  ·refine aj (EG e hok (by omega)) ?_
   simp only[↓zq,zs,ae,hi]
   refine⟨c,d,hd,?_,?_⟩
   ·rw[hce]
    by_cases h4:e.df<=400
    ·rw[if_pos h4];exact congrArg (fun b=>AV.cI [e.kT,.v (.bool b)]) (decide_eq_true (show ((e.df:Nat):Int)<=400 by omega))
    ·rw[if_neg h4];exact congrArg (fun b=>AV.cI [e.kT,.v (.bool b)]) (decide_eq_false (show ¬((e.df:Nat):Int)<=400 by omega))
   ·split
    ·exact fun _=>⟨e,rfl,hce⟩
    ·exact fun h=>by cases h
  ·refine⟨c,d,hd,?_,?_⟩
   ·rw[hce,if_neg (by rw[hi];simp)];rfl
   ·rw[if_neg (by rw[hi];simp)];exact fun h=>by cases h
 ·have hn:qU s=none:=by cases hq:qU s<;>simp[hq]at h |-
  rw[hn]
  exact⟨c,d,hd,rfl,fun h=>by cases h⟩
theorem qf{s:List UInt8}{e:E}(h:wN s=some e):qU s=some e/\kj e=true/\e.df<=400:=by
 unfold wN at h
 split at h
 ·cases h
 ·split at h
  ·rename_i e' h1 h2;cases h;exact⟨h1,h2⟩
  ·cases h
end Go.Proofs.Trees
namespace Go.Proofs.Trees
open Go Go.VL
def cd:Ty->Bool
 | .name s=>dr s
 | .plus a b=>cd a||cd b
 | .times a b=>cd a||cd b
 | .rc a=>cd a
 |_=>false
theorem gT:∀(t:Ty) (out:List (List UInt8)),(bQ t out).any dr=(out.any dr||cd t)
 |
  .name s,out=>by
  simp only[bQ,pU,cd]
  split
  ·rename_i h
   cases hs:dr s with
   |false=>simp
   |true=>rw[Bool.or_true,cu];exact⟨s,h,hs⟩
  ·simp
 | .plus a b,out=>by simp only[bQ,cd,gT a,gT b,Bool.or_assoc]
 | .times a b,out=>by simp only[bQ,cd,gT a,gT b,Bool.or_assoc]
 | .rc a,out=>by simp only[bQ,cd,gT a]
 | .zero,out=>by simp[bQ,cd]
 | .one,out=>by simp[bQ,cd]
 | .bound u,out=>by simp[bQ,cd]
theorem tC(t:Ty):t.closed = !cd t:=by simp[Ty.closed,gT]
def pl:Ty->Bool
 | .name s=>decide (s.length<=1)
 | .plus a b=>pl a&&pl b
 | .times a b=>pl a&&pl b
 | .rc a=>false
 |_=>true
theorem ml{lo hi:Nat}{s:List UInt8}(h:named lo hi s=true):∃c r,s=c::r/\lo<=c.toNat/\c.toNat<=hi:=by
 cases s with
 |nil=>cases h
 |cons c r=>simp only[named,aw,decide_eq_true_eq]at h;exact⟨c,r,rfl,by omega,by omega⟩
theorem fQ{x a b:E}{ar:List (List UInt8)}{t:Ty}(hx:x.at=[43])(h:cV (.list [x,a,b]) ar=some t):∃t1 t2,cV a ar=some t1/\cV b ar=some t2/\t=.plus t1 t2:=by
 rw[lz ar hx]at h
 split at h
 ·rename_i t1 t2 e1 e2;cases h;exact⟨t1,t2,e1,e2,rfl⟩
 ·cases h
theorem fu{x a b:E}{ar:List (List UInt8)}{t:Ty}(hx:x.at=[42])(h:cV (.list [x,a,b]) ar=some t):∃t1 t2,cV a ar=some t1/\cV b ar=some t2/\t=.times t1 t2:=by
 rw[kf ar hx]at h
 split at h
 ·rename_i t1 t2 e1 e2;cases h;exact⟨t1,t2,e1,e2,rfl⟩
 ·cases h
theorem dD{x a b:E}{ar:List (List UInt8)}{t:Ty}(hx:x.at=[114,101,99])(h:cV (.list [x,a,b]) ar=some t):∃t1,dr a.at=true/\cV b (ar++[a.at])=some t1/\t=.rc t1:=by
 rw[mY ar hx]at h
 split at h
 ·rename_i hl
  split at h
  ·rename_i t1 e1;cases h;exact⟨t1,hl,e1,rfl⟩
  ·cases h
 ·cases h
theorem uz{s:List UInt8}:qV s=match wN s with|none=>none|some e=>cV e []:=by
 unfold qV wN
 cases he:qU s with
 |none=>rfl
 |
  some e =>
  have hs:=iX e []
  simp only
  cases ht:cV e []with
  |
   none =>
   rw[ht]at hs
   rw[if_neg (by rw[<-hs];simp)]
  |
   some t =>
   rw[ht]at hs
   have ha:=km e [] t ht
   by_cases h4:e.df<=400
   ·rw[if_pos ⟨hs.symm,h4⟩];dsimp only;rw[if_neg (by omega)];exact ht.symm
   ·rw[if_neg (fun h=>h4 h.2)];dsimp only;rw[if_pos (by omega)]
end Go.Proofs.Trees
namespace Go.Proofs.Trees
open Go Go.VL
def pure:Ty->Bool
 | .zero=>true
 | .one=>true
 | .name s=>(s==[120])||(s==[121])||(s==[122])
 | .plus a b=>pure a&&pure b
 | .times a b=>pure a&&pure b
 |_=>false
def Ol(v:Nat):Option Nat:=if v<=1000000000 then some v else none
def Jc(n:Nat):Ty->Option Nat
 | .zero=>some 0
 | .one=>some 1
 | .name _=>some n
 | .plus a b=>match Jc n a,Jc n b with|some x,some y=>Ol (x+y)|_,_=>none
 | .times a b=>match Jc n a,Jc n b with|some x,some y=>Ol (x*y)|_,_=>none
 |_=>none
def KJ(x:Option Nat):AV->List Ob->Prop:=fun r o=>∃v:Int,r=.cI [.v (.int .i64 v),.v (.bool x.isSome)]/\∀c,x=some c->v=(c:Int)
theorem KJ.ne(x:Option Nat):∃r o,KJ x r o:=by
 cases x with
 |none=>exact⟨_,[],0,rfl,fun c h=>by cases h⟩
 |some c=>exact⟨_,[],(c:Int),rfl,fun c' h=>by cases h;rfl⟩
end Go.Proofs.Trees
namespace Go.Proofs.Trees
open Go Go.VL Go.RowKit
abbrev dd(n:Nat):List UInt8:=Lib.decDigits n
theorem eN{k:Nat}(h:k<10):dd k=[bj (48+k)]:=by rw[dd,Lib.decDigits,dif_pos h]
theorem fX{k:Nat}(h:¬k<10):dd k=dd (k/10)++[bj (48+k%10)]:=by rw[dd,Lib.decDigits,dif_neg h]
theorem mT:∀(n k:Nat),k<n->(dd k).length<=k+1
 |0,k,h=>by omega
 |
  n+1,k,h=>by
  by_cases h1:k<10
  ·rw[eN h1];simp
  ·rw[fX h1]
   have:=mT n (k/10) (by omega)
   simp only[aq,az,aG];omega
theorem yG(d:Nat)(h:d<10):(Value.int .u8 (IntKind.wrap .u8 (IntKind.wrap .i64 (48+(d:Int)))))=.int .u8 ((bj (48+d)).toNat:Int):=by
 have:d=0\/d=1\/d=2\/d=3\/d=4\/d=5\/d=6\/d=7\/d=8\/d=9:=by omega
 rcases this with rfl|rfl|rfl|rfl|rfl|rfl|rfl|rfl|rfl|rfl<;>rfl
theorem qx(b:UInt8):bytesOf [[.v (.int .u8 (b.toNat:Int))]]=[b]:=by simp[bytesOf,zj]
theorem lq(b:UInt8):jH [[.v (.int .u8 (b.toNat:Int))]]:=⟨rfl,(mc _ _).mpr trivial,trivial⟩
theorem AE:∀(n k:Nat),k<n->k<1000000000->an Tryz.prog 90 [.v (.int .i64 (k:Int))] [] (bJ (.v (.string (mk (dd k)))))
 |0,k,h,_=>by omega
 |
  n+1,k,h,hk=>by
  refine Sw _ ?_
  simp only[Kv,↓zq,zs,ae,bJ]
  refine⟨fun h=>by omega,fun _=>⟨fun h=>by omega,fun _=>⟨fun h1=>?_,fun h1=>⟨by omega,?_⟩⟩⟩⟩
  ·rw[yG k (by omega)]
   refine⟨lq _,?_⟩
   rw[qx,eN (by omega)];rfl
  ·have e1:IntKind.wrap .i64 (Int.tdiv (k:Int) 10)=((k/10:Nat):Int):=by
    rw[show Int.tdiv (k:Int) 10=((k/10:Nat):Int) from (Int.ofNat_tdiv k 10).symm,wrap64 _ (by omega) (by omega)]
   have e2:dJ (k:Int) 10=((k%10:Nat):Int):=(Int.ofNat_tmod k 10).symm
   rw[e1,e2,yG (k%10) (by omega)]
   refine aj (AE n (k/10) (by omega) (by omega)) ?_
   have hl:=mT (k+1) (k/10) (by omega)
   simp only[↓zq,zs,ae,zt,qx]
   have h9:(k:Int)<1000000000:=by omega
   refine⟨by omega,lq _,?_,?_⟩
   ·show (mk (dd (k/10))).size+(mk [bj (48+k%10)]).size<=_
    rw[cP,cP];simp;omega
   ·show AV.v (.string (mk (dd (k/10))++mk [bj (48+k%10)]))=_
    rw[lg,fX (k:=k) (by omega)]
theorem zP(s:List UInt8)(d:AV)(hd:LK.sl.has d)(h:s≠[]):an Tryz.prog 86 [.agg [.v (.string (mk s)),d]] [] (bJ (.v (.string (mk [])))):=by
 refine Hg _ _ hd ?_
 simp only[EX,↓zq,zs,ae,zt,bJ]
 exact⟨fun _=>trivial,fun h'=>absurd h' h⟩
theorem Ei(e:E):AV.agg [.v (.string ((e.kT.cs.getD 0 .any).toStr)),e.kT.cs.getD 1 .any]=e.kT:=by cases e<;>rfl
mutual
def fj:E->List UInt8
 | .atom s=>s
 | .list []=>[40,41]
 | .list (e::l)=>40::(fj e++(er l++[41]))
def er:List E->List UInt8
 |[]=>[]
 |e::l=>32::(fj e++er l)
end
theorem zX:∀(l:List E) (i:Nat) (h:i<l.length),er (l.drop i)=32::(fj l[i]++er (l.drop (i+1))):=by
 intro l i h
 rw[aT h,er]
theorem L6(l:List E)(hll:l.length<1000000000000)(ih:∀i (h:i<l.length),an Tryz.prog 63 [(l[i]).kT] [] (bJ (.v (.string (mk (fj l[i])))))) :
 ∀(k i:Nat) (out:List UInt8),i+k=l.length->1<=i->out.length+(er (l.drop i)).length<=1000000000000->BK [.v (.string (mk out)),.v (.int .i64 (i:Int))] [.cells [.v (.string (mk [])),.sl (E.bx l)]] (iq 1 [.v (.string (mk (out++er (l.drop i))))] [])
 |
  0,i,out,hi,h1,hn=>by
  refine Eu _ _ _ _ ?_
  simp only[Bb,↓zq,zs,ae,eh]
  have:l.drop i=[]:=bV (by omega)
  refine⟨fun h=>by omega,fun _=>?_⟩
  simp[iq,this,er]
 |
  k+1,i,out,hi,h1,hn=>by
  have hlt:i<l.length:=by omega
  have hd:=zX l i hlt
  rw[hd]at hn
  simp only[az,aq]at hn
  refine Eu _ _ _ _ ?_
  simp only[Bb,↓zq,zs,ae,zt,eh,jN l i hlt,gu,ja,iT,au]
  refine⟨fun _=>⟨fun _=>⟨by omega,by omega,?_⟩,fun h=>by omega⟩,fun h=>by omega⟩
  refine aj (ih i hlt) ?_
  simp only[↓zq,zs,ae,zt]
  refine⟨by simp;omega,?_⟩
  rw[bA i (by omega),hd]
  have:=L6 l hll ih k (i+1) (out++[32]++fj l[i]) (by omega) (by omega) (by simp;omega)
  simpa using this
theorem za:∀(l:List E) (i:Nat) (h:i<l.length),(fj l[i]).length<=(er l).length
 |e::l,0,_=>by simp only[er,List.getElem_cons_zero,az,aq];omega
 |e::l,i+1,h=>by have:=za l i (by simpa using h);simp only[er,List.getElem_cons_succ,az,aq];omega
theorem sF:∀l:List E,l.length<=(er l).length
 |[]=>by simp[er]
 |e::l=>by have:=sF l;simp only[er,az,aq];omega
theorem Ej:∀(n:Nat) (e:E),e.sz<n->e.ok->(fj e).length<=900000000000->an Tryz.prog 63 [e.kT] [] (bJ (.v (.string (mk (fj e)))))
 |0,e,hn,_,_=>by omega
 |
  n+1,.atom s,hn,hok,hl=>by
  refine IC _ _ ((bh).mpr trivial) ?_
  have hne:s≠[]:=hok
  simp only[Dt,↓zq,zs,ae,zt,bJ]
  exact⟨fun _=>rfl,fun h=>absurd h hne⟩
 |
  n+1,.list [],hn,hok,hl=>by
  refine IC _ _ ((cn _).mpr trivial) ?_
  simp only[Dt,↓zq,zs,ae,zt,bJ]
  refine⟨fun h=>absurd rfl h,fun _=>?_⟩
  have h1:BK [.v (.string (mk [40])),.v (.int .i64 0)] [.cells [.v (.string (mk [])),.sl (E.bx [])]] (iq 1 [.v (.string (mk [40]))] []):=by
   refine Eu _ _ _ _ ?_
   simp[Bb,↓zq,zs,ae,E.bx,iq]
  refine cF h1 ?_
  simp only[↓zq,zs,ae,zt]
  exact⟨by simp,rfl⟩
 |
  n+1,.list (x::l),hn,hok,hl=>by
  refine IC _ _ ((cn _).mpr trivial) ?_
  simp only[E.sz,E.jB]at hn
  simp only[fj,az,aq,aG]at hl
  have h2:=sF l
  simp only[Dt,↓zq,zs,ae,zt,bJ]
  refine⟨fun h=>absurd rfl h,fun _=>?_⟩
  have hL:BK [.v (.string (mk [40])),.v (.int .i64 0)] [.cells [.v (.string (mk [])),.sl (E.bx (x::l))]] (iq 1 [.v (.string (mk ([40]++fj x++er l)))] []):=by
   refine Eu _ _ _ _ ?_
   simp only[Bb,E.bx,Int.toNat_zero,↓zq,zs,ae,zt,eh,gu,ja,iT,au]
   refine⟨fun _=>⟨fun h=>by omega,fun _=>⟨by omega,?_⟩⟩,fun h=>by omega⟩
   refine aj (Ej n x (by omega) hok.1 (by omega)) ?_
   simp only[↓zq,zs,ae,zt]
   refine⟨by simp;omega,?_⟩
   have:=L6 (x::l) (by simp;omega) (fun i hi=>by
    have h3:=uD (x::l) i hi
    simp only[E.jB]at h3
    refine Ej n _ (by omega) (ug _ i hi hok) ?_
    have h4:=za (x::l) i hi
    simp only[er,az,aq]at h4
    omega) l.length 1 ([40]++fj x) (by simp;omega) (by omega) (by simp;omega)
   rw[show IntKind.wrap .i64 (0+1)=1 from rfl]
   simpa[E.bx]using this
  refine cF hL ?_
  simp only[↓zq,zs,ae,zt]
  refine⟨by simp;omega,?_⟩
  simp[fj]
theorem Dg(e:E)(h:e.ok)(hl:(fj e).length<=900000):an Tryz.prog 63 [e.kT] [] (bJ (.v (.string (mk (fj e))))):=Ej (e.sz+1) e (by omega) h (by omega)
mutual
def E.nd:E->Nat
 | .atom _=>1
 | .list []=>1
 | .list (_::l)=>1+E.vi l
def E.vi:List E->Nat
 |[]=>0
 |e::l=>e.nd+E.vi l
end
mutual
theorem B7:∀e:E,e.nd<=e.sz
 | .atom s=>by simp[E.nd,E.sz]
 | .list []=>by simp[E.nd,E.sz,E.jB]
 | .list (x::l)=>by have:=xt l;simp only[E.nd,E.sz,E.jB];omega
theorem xt:∀l:List E,E.vi l<=E.jB l
 |[]=>by simp[E.vi,E.jB]
 |e::l=>by have:=B7 e;have:=xt l;simp only[E.vi,E.jB];omega
end
theorem Ct:∀(l:List E) (i:Nat) (h:i<l.length),E.vi (l.drop i)=(l[i]).nd+E.vi (l.drop (i+1)):=by
 intro l i h
 rw[aT h];rfl
theorem LJ(l:List E)(hl:E.vi l<1000000)(hll:l.length<1000000)(ih:∀i (h:i<l.length),an Tryz.prog 104 [(l[i]).kT] [] (bJ (.v (.int .i64 ((l[i]).nd:Int))))) :
 ∀(k i n:Nat),i+k=l.length->n+E.vi (l.drop i)<=1+E.vi l->BM [.v (.int .i64 (n:Int)),.v (.int .i64 (i:Int))] [.cells [.v (.string (mk [])),.sl (E.bx l)]] (iq 1 [.v (.int .i64 ((n+E.vi (l.drop i):Nat):Int))] [])
 |
  0,i,n,hi,hn=>by
  refine Da _ _ _ _ ?_
  simp only[BC,↓zq,zs,ae,eh]
  have:l.drop i=[]:=bV (by omega)
  refine⟨fun h=>by omega,fun _=>?_⟩
  simp[iq,this,E.vi]
 |
  k+1,i,n,hi,hn=>by
  have hlt:i<l.length:=by omega
  refine Da _ _ _ _ ?_
  simp only[BC,↓zq,zs,ae,zt,eh,jN l i hlt,gu,ja,iT,au]
  refine⟨fun _=>⟨by omega,?_⟩,fun h=>by omega⟩
  refine aj (ih i hlt) ?_
  have h1:=Ct l i hlt
  simp only[↓zq,zs,ae]
  rw[bA i (by omega),wrap64 _ (by omega) (by omega)]
  have:=LJ l hl hll ih k (i+1) (n+(l[i]).nd) (by omega) (by omega)
  rw[h1,<-Nat.add_assoc]
  simpa using this
theorem KK:∀(n:Nat) (e:E),e.sz<n->e.sz<900000->an Tryz.prog 104 [e.kT] [] (bJ (.v (.int .i64 (e.nd:Int))))
 |0,e,hn,_=>by omega
 |
  n+1,.atom s,hn,hl=>by
  refine OJ _ _ ((bh).mpr trivial) ?_
  simp only[Hk]
  have hL:BM [.v (.int .i64 1),.v (.int .i64 1)] [.cells [.v (.string (mk s)),.v (.slice none 0 0)]] (iq 1 [.v (.int .i64 1)] []):=by
   refine Da _ _ _ _ ?_
   simp[BC,↓zq,zs,ae,iq]
  refine cF hL ?_
  simp[↓zq,zs,ae,bJ,E.nd]
 |
  n+1,.list l,hn,hl=>by
  refine OJ _ _ ((cn _).mpr trivial) ?_
  simp only[E.sz]at hn hl
  simp only[Hk]
  match l,hn,hl with
  |
   [],hn,hl =>
   have hL:BM [.v (.int .i64 1),.v (.int .i64 1)] [.cells [.v (.string (mk [])),.sl (E.bx [])]] (iq 1 [.v (.int .i64 1)] []):=by
    refine Da _ _ _ _ ?_
    simp[BC,↓zq,zs,ae,iq,E.bx]
   refine cF hL ?_
   simp[↓zq,zs,ae,bJ,E.nd]
  |
   x::l,hn,hl =>
   simp only[E.jB]at hn hl
   have h1:=xt l
   have h2:=uG l
   have h0:=B7 x
   refine cF (LJ (x::l) (by simp only[E.vi];omega) (by simp;omega) (fun i hi=>?_) l.length 1 1 (by simp;omega) (by simp[E.vi])) ?_
   ·have:=uD (x::l) i hi
    simp only[E.jB]at this
    exact KK n _ (by omega) (by omega)
   ·simp[↓zq,zs,ae,E.nd,bJ]
theorem Sk(e:E)(hl:e.sz<900000):an Tryz.prog 104 [e.kT] [] (bJ (.v (.int .i64 (e.nd:Int)))):=KK (e.sz+1) e (by omega) hl
inductive Vl where
 |u
 |el (k:Nat)
 |l (v:Vl)
 |r (v:Vl)
 |f (v:Vl)
 |p (a b:Vl)
abbrev xE(k:Nat):List UInt8:=101::dd k
abbrev iC:AV:=.v (.pointer none)
def Vl.cE:Vl->AV
 | .u=>.ptr [.v (.int .u8 117),.v (.string (mk [])),iC,iC]
 | .el k=>.ptr [.v (.int .u8 101),.v (.string (mk (xE k))),iC,iC]
 | .l v=>.ptr [.v (.int .u8 108),.v (.string (mk [])),v.cE,iC]
 | .r v=>.ptr [.v (.int .u8 114),.v (.string (mk [])),v.cE,iC]
 | .f v=>.ptr [.v (.int .u8 102),.v (.string (mk [])),v.cE,iC]
 | .p a b=>.ptr [.v (.int .u8 112),.v (.string (mk [])),a.cE,b.cE]
def Vl.cN:Vl->E
 | .u=>.atom [117]
 | .el k=>.atom (xE k)
 | .l v=>.list [.atom [108],v.cN]
 | .r v=>.list [.atom [114],v.cN]
 | .f v=>.list [.atom [102],v.cN]
 | .p a b=>.list [.atom [112],a.cN,b.cN]
def Vl.nodes:Vl->Nat
 | .l v=>1+v.nodes
 | .r v=>1+v.nodes
 | .f v=>1+v.nodes
 | .p a b=>1+a.nodes+b.nodes
 |_=>1
def Vl.il(n:Nat):Vl->Prop
 | .el k=>k<n
 | .l v=>v.il n
 | .r v=>v.il n
 | .f v=>v.il n
 | .p a b=>a.il n/\b.il n
 | .u=>True
abbrev Vl.cL(v:Vl):List UInt8:=fj v.cN
theorem aO(v:Vl):LK.has .ptr v.cE=True:=by cases v<;>simp[Vl.cE,cj]
theorem fI(v:Vl):v.cE.isNil=false:=by cases v<;>rfl
theorem mU:∀v:Vl,v.cN.ok
 | .u=>by simp[Vl.cN,E.ok]
 | .el k=>by simp[Vl.cN,E.ok]
 | .l v=>⟨by simp[E.ok],mU v,trivial⟩
 | .r v=>⟨by simp[E.ok],mU v,trivial⟩
 | .f v=>⟨by simp[E.ok],mU v,trivial⟩
 | .p a b=>⟨by simp[E.ok],mU a,mU b,trivial⟩
theorem nV:∀v:Vl,v.cN.nd=v.nodes
 | .u=>rfl
 | .el k=>rfl
 | .l v=>by simp[Vl.cN,E.nd,E.vi,Vl.nodes,nV v]
 | .r v=>by simp[Vl.cN,E.nd,E.vi,Vl.nodes,nV v]
 | .f v=>by simp[Vl.cN,E.nd,E.vi,Vl.nodes,nV v]
 | .p a b=>by simp[Vl.cN,E.nd,E.vi,Vl.nodes,nV a,nV b,Nat.add_assoc]
theorem jh:∀v:Vl,v.il 100->v.cL.length<=200*v.nodes
 | .u,_=>by simp[Vl.cL,Vl.cN,fj,Vl.nodes]
 |
  .el k,h=>by
  have h':k<100:=h
  have:=mT 1000 k (by omega)
  simp only[Vl.cL,Vl.cN,fj,Vl.nodes,az];omega
 | .l v,h=>by have:=jh v h;simp only[Vl.cL,Vl.cN,fj,er,Vl.nodes,az,aq,aG]at this |-;omega
 | .r v,h=>by have:=jh v h;simp only[Vl.cL,Vl.cN,fj,er,Vl.nodes,az,aq,aG]at this |-;omega
 | .f v,h=>by have:=jh v h;simp only[Vl.cL,Vl.cN,fj,er,Vl.nodes,az,aq,aG]at this |-;omega
 | .p a b,h=>by have:=jh a h.1;have:=jh b h.2;simp only[Vl.cL,Vl.cN,fj,er,Vl.nodes,az,aq,aG]at *;omega
theorem Aa(a b:AV)(h:LK.ptr.has a)(h':LK.ptr.has b):an Tryz.prog 109 [a,b] [] (bJ (.ptr [.v (.int .u8 112),.v (.string (mk [])),a,b])):=by
 refine Ro _ _ h h' ?_
 simp[NR,↓zq,zs,ae,bJ]
theorem dk(v:Vl):1<=v.nodes:=by cases v<;>simp[Vl.nodes]<;>omega
theorem I2:∀(v:Vl),v.nodes<1000000->an Tryz.prog 56 [v.cE] [] (bJ (.v (.int .i64 (v.nodes:Int))))
 | .u,h=>by refine Ag _ ((aO _).mpr trivial) ?_;simp[Ik,Vl.cE,↓zq,zs,ae,bJ,Vl.nodes]
 | .el k,h=>by refine Ag _ ((aO _).mpr trivial) ?_;simp[Ik,Vl.cE,↓zq,zs,ae,bJ,Vl.nodes]
 |
  .l v,h=>by
  simp only[Vl.nodes]at h
  refine Ag _ ((aO _).mpr trivial) ?_
  simp only[Ik,Vl.cE,↓zq,zs,ae,aO,fI]
  refine⟨by omega,fun _=>⟨by omega,?_⟩,fun h=>(by cases h)⟩
  refine aj (I2 v (by omega)) ?_
  simp only[↓zq,zs,ae,bJ,Vl.nodes]
  rw[wrap64 _ (by omega) (by omega)]
  simp
 |
  .r v,h=>by
  simp only[Vl.nodes]at h
  refine Ag _ ((aO _).mpr trivial) ?_
  simp only[Ik,Vl.cE,↓zq,zs,ae,aO,fI]
  refine⟨by omega,fun _=>⟨by omega,?_⟩,fun h=>(by cases h)⟩
  refine aj (I2 v (by omega)) ?_
  simp only[↓zq,zs,ae,bJ,Vl.nodes]
  rw[wrap64 _ (by omega) (by omega)]
  simp
 |
  .f v,h=>by
  simp only[Vl.nodes]at h
  refine Ag _ ((aO _).mpr trivial) ?_
  simp only[Ik,Vl.cE,↓zq,zs,ae,aO,fI]
  refine⟨by omega,fun _=>⟨by omega,?_⟩,fun h=>(by cases h)⟩
  refine aj (I2 v (by omega)) ?_
  simp only[↓zq,zs,ae,bJ,Vl.nodes]
  rw[wrap64 _ (by omega) (by omega)]
  simp
 |
  .p a b,h=>by
  simp only[Vl.nodes]at h
  refine Ag _ ((aO _).mpr trivial) ?_
  simp only[Ik,Vl.cE,↓zq,zs,ae,aO,fI]
  refine⟨by omega,fun _=>⟨by omega,?_⟩,fun h=>(by cases h)⟩
  refine aj (I2 a (by omega)) ?_
  simp only[↓zq,zs,ae,aO,fI]
  rw[wrap64 (1+(a.nodes:Int)) (by omega) (by omega)]
  refine⟨by omega,fun _=>⟨by omega,?_⟩,fun h=>(by cases h)⟩
  refine aj (I2 b (by omega)) ?_
  simp only[↓zq,zs,ae,bJ,Vl.nodes]
  rw[wrap64 _ (by omega) (by omega)]
  congr 2
end Go.Proofs.Trees
namespace Go.Proofs.Trees
open Go Go.VL Go.RowKit
def Ac:List UInt8->Nat->Option Nat
 |[],n=>some n
 |b::r,n=>if im b=true then Ac r (10*n+(b.toNat-48))else none
def fV(s:List UInt8):Option Nat :=
 if s.length=2\/s.length=3 then(if s.getD 0 0=101/\¬(s.length=3/\s.getD 1 0=48)then Ac (s.drop 1) 0 else none)else none
def Bx(s:List UInt8):Int:=match fV s with|some k=>(k:Int)|none=>-1
theorem OI(s:List UInt8)(hs:s.length<=3):∀(k i n:Nat),i+k=s.length->1<=i->(n+1)*10 ^ k<=1000->Hf [.v (.string (mk s)),.v (.int .i64 (n:Int)),.v (.int .i64 (i:Int))] []
 (nK (match Ac (s.drop i) n with|some m=>(1,[.v (.int .i64 (m:Int))],[])|none=>(2,[.v (.int .i64 (-1))],[])))
 |
  0,i,n,hi,h1,hn=>by
  refine Jl _ _ _ ?_
  have hd:s.drop i=[]:=bV (by omega)
  simp only[Gm,↓zq,zs,ae,zt,hd,Ac]
  exact⟨fun h=>by omega,fun _=>by first|trivial|rfl⟩
 |
  k+1,i,n,hi,h1,hn=>by
  have hlt:i<s.length:=by omega
  refine Jl _ _ _ ?_
  rw[drop_cons hlt,Ac]
  simp only[Gm,↓zq,zs,ae,zt,my s i hlt]
  generalize s.getD i 0=b
  have hb:=b.toNat_lt
  refine⟨fun _=>⟨by omega,fun h48=>?_,fun h48=>⟨by omega,fun h57=>?_,fun h57=>⟨by omega,?_⟩⟩⟩,fun h=>by omega⟩
  ·have:im b=false:=by simp only[im,decide_eq_false_iff_not];omega
   rw[this];rfl
  ·have:im b=false:=by simp only[im,decide_eq_false_iff_not];omega
   rw[this];rfl
  ·have:im b=true:=by simp only[im,decide_eq_true_eq];omega
   rw[if_pos this]
   have hk:k=0\/k=1:=by omega
   have hn2:n*10<=1000:=by
    rcases hk with rfl|rfl<;>simp at hn<;>omega
   have e8:IntKind.wrap .u8 ((b.toNat:Int)-48)=((b.toNat-48:Nat):Int):=by
    have:b.toNat=48\/b.toNat=49\/b.toNat=50\/b.toNat=51\/b.toNat=52\/b.toNat=53\/b.toNat=54\/b.toNat=55\/b.toNat=56\/b.toNat=57:=by omega
    rcases this with h|h|h|h|h|h|h|h|h|h<;>rw[h]<;>rfl
   rw[e8,bA i (by omega),wrap64 ((b.toNat-48:Nat):Int) (by omega) (by omega),wrap64 (10*(n:Int)) (by omega) (by omega),wrap64 _ (by omega) (by omega)]
   have e:(10*(n:Int)+((b.toNat-48:Nat):Int))=((10*n+(b.toNat-48):Nat):Int):=by omega
   rw[e]
   exact OI s hs k (i+1) _ (by omega) (by omega) (by rcases hk with rfl|rfl<;>simp at hn |-<;>omega)
theorem JL(s:List UInt8):an Tryz.prog 127 [.v (.string (mk s))] [] (bJ (.v (.int .i64 (Bx s)))):=by
 refine Sj _ ?_
 unfold Np
 refine aj (B3 _ _ _) ?_
 simp only[↓zq,zs,ae,zt,C5,bJ]
 have hL:∀(Q:Nat->List AV->List Ob->Prop),(s.length=2\/s.length=3)->s.getD 0 0=101->¬(s.length=3/\s.getD 1 0=48)->(Q 0 [.v (.int .i64 (Bx s))] []) ->
  fk Tryz.prog 49 (.loop Ef CI [.v (.string (mk s)),.v (.int .i64 0),.v (.int .i64 1)] [] (fun y2 q2=>.ai (LK.has (.int .i64) (y2.headD .any))<|.done 0 [.v (.int .i64 ((y2.headD .any).toInt))] []) (fun y2 q2=>.ai (LK.has (.int .i64) (y2.headD .any))<|.done 0 [.v (.int .i64 ((y2.headD .any).toInt))] [])) Q:=by
  intro Q hl h0 h1 hQ
  have e:fV s=Ac (s.drop 1) 0:=by rw[fV,if_pos hl,if_pos ⟨h0,h1⟩]
  refine fA (OI s (by omega) (s.length-1) 1 0 (by omega) (by omega) (by rcases hl with h|h<;>rw[h]<;>decide)) (fun ys o e'=>?_) (fun ys o e'=>?_)
  ·cases hq:Ac (s.drop 1) 0<;>rw[hq]at e'<;>cases e'
   rw[hq]at e
   simp only[Bx,e]at hQ
   simp only[↓zq,zs,ae];exact hQ
  ·cases hq:Ac (s.drop 1) 0<;>rw[hq]at e'<;>cases e'
   rw[hq]at e
   simp only[Bx,e]at hQ
   simp only[↓zq,zs,ae];exact hQ
 have hz:∀{i:Nat},i<s.length->bt (mk s) (i:Int)=((s.getD i 0).toNat:Int):=fun h=>my s _ h
 refine⟨fun h=>?_,fun h=>⟨?_,fun h0=>?_,fun h0=>⟨fun h3=>⟨by omega,fun h1=>?_,fun h1=>?_⟩,fun h3=>?_⟩⟩⟩
 ·have h':¬(2<=(s.length:Int)/\(s.length:Int)<=3):=by simpa using h
  rw[Bx,fV,if_neg (by omega)]
 ·have h':2<=(s.length:Int)/\(s.length:Int)<=3:=by simpa using h
  omega
 ·have h':2<=(s.length:Int)/\(s.length:Int)<=3:=by simpa using h
  have e0:=hz (i:=0) (by omega)
  simp only[Int.ofNat_eq_natCast,Int.cast_ofNat_Int]at e0
  rw[e0]at h0
  rw[Bx,fV,if_pos (by omega),if_neg]
  rintro⟨e,_⟩
  rw[e]at h0;exact h0 rfl
 ·have h':2<=(s.length:Int)/\(s.length:Int)<=3:=by simpa using h
  have e1:=hz (i:=1) (by omega)
  simp only[Int.ofNat_eq_natCast,Int.cast_ofNat_Int]at e1
  rw[e1]at h1
  rw[Bx,fV,if_pos (by omega),if_neg]
  rintro⟨_,e⟩
  refine e ⟨by omega,?_⟩
  rw[<-UInt8.toNat_inj];show (s.getD 1 0).toNat=48;omega
 ·have h':2<=(s.length:Int)/\(s.length:Int)<=3:=by simpa using h
  have e0:=hz (i:=0) (by omega)
  have e1:=hz (i:=1) (by omega)
  simp only[Int.ofNat_eq_natCast,Int.cast_ofNat_Int]at e0 e1
  rw[e0]at h0;rw[e1]at h1
  refine hL _ (by omega) ?_ ?_ ⟨rfl,rfl⟩
  ·rw[<-UInt8.toNat_inj];show (s.getD 0 0).toNat=101;omega
  ·rintro⟨_,e⟩;rw[e]at h1;exact h1 rfl
 ·have h':2<=(s.length:Int)/\(s.length:Int)<=3:=by simpa using h
  have e0:=hz (i:=0) (by omega)
  simp only[Int.ofNat_eq_natCast,Int.cast_ofNat_Int]at e0
  rw[e0]at h0
  refine hL _ (by omega) ?_ ?_ ⟨rfl,rfl⟩
  ·rw[<-UInt8.toNat_inj];show (s.getD 0 0).toNat=101;omega
  ·rintro⟨e,_⟩;omega
theorem oD:∀(l:List UInt8) (n:Nat),(Ac l n).isSome=l.all im
 |[],n=>rfl
 |
  b::l,n=>by
  rw[Ac]
  cases hb:im b with
  |true=>rw[if_pos rfl,oD l];simp[hb]
  |false=>rw[if_neg (by simp)];simp[hb]
theorem JO(s:List UInt8):an Tryz.prog 158 [.v (.string (mk s))] [] (bJ (.v (.bool (fV s).isSome))):=by
 refine Qj _ ?_
 simp only[Jr,↓zq,zs,ae,zt,bJ]
 have hz:∀{i:Nat},i<s.length->bt (mk s) (i:Int)=((s.getD i 0).toNat:Int):=fun h=>my s _ h
 refine⟨fun h=>?_,fun h=>⟨fun h3=>?_,fun h3=>?_⟩⟩
 ·rw[fV,if_neg (by omega)];rfl
 ·rw[fV,if_neg (by omega)];rfl
 ·have e0:=hz (i:=0) (by omega)
  have e1:=hz (i:=1) (by omega)
  simp only[Int.ofNat_eq_natCast,Int.cast_ofNat_Int]at e0 e1
  rw[e0,e1]
  have hx:s.drop (bK 1)=s.drop 1:=rfl
  refine⟨by omega,fun h0=>?_,fun h0=>⟨by omega,?_⟩⟩
  ·rw[fV,if_pos (by omega),if_neg]
   ·rfl
   ·rintro⟨e,_⟩;rw[e]at h0;exact h0 rfl
  ·rw[hx]
   refine aj (OX (s.drop 1) Ii (by simp;omega) (by decide) (by decide)) ?_
   simp only[↓zq,zs,ae,zt]
   have h101:s.getD 0 0=101:=by rw[<-UInt8.toNat_inj];show (s.getD 0 0).toNat=101;omega
   have hall:Lib.trimS (s.drop 1) Ii=[]↔(s.drop 1).all im=true:=by
    rw[tG]
    have:(fun x=>Ii.contains x)=im:=funext vM
    rw[this]
   refine⟨fun ht=>?_,fun ht=>⟨fun h2=>?_,fun h2=>⟨by omega,?_⟩⟩⟩
   ·have:(s.drop 1).all im=false:=by
     cases hq:(s.drop 1).all im with
     |false=>rfl
     |true=>exact absurd (hall.2 hq) ht
    rw[fV,if_pos (by omega)]
    split
    ·rw[oD,this]
    ·rfl
   ·have hq:=hall.1 ht
    rw[fV,if_pos (by omega),if_pos ⟨h101,by omega⟩,oD,hq]
   ·have hq:=hall.1 ht
    rw[fV,if_pos (by omega)]
    by_cases h48:s.getD 1 0=48
    ·rw[if_neg (by rintro⟨_,e⟩;exact e ⟨by omega,h48⟩),h48];rfl
    ·rw[if_pos ⟨h101,fun e=>h48 e.2⟩,oD,hq]
     have:¬((s.getD 1 0).toNat:Int)=48:=fun e=>h48 (by rw[<-UInt8.toNat_inj];show (s.getD 1 0).toNat=48;omega)
     rw[bne_iff_ne.2 this]
theorem s4{s:List UInt8}{k:Nat}(h:fV s=some k):s=xE k/\k<100:=by
 have key1:∀a:Fin 256,im (bj a.val)=true->Ac [bj a.val] 0=some ((bj a.val).toNat-48)/\(bj a.val).toNat-48<10/\[bj a.val]=[bj (48+((bj a.val).toNat-48))]:=by decide +kernel
 unfold fV at h
 split at h
 ·rename_i hl
  split at h
  ·rename_i hh
   obtain⟨h0,h1⟩:=hh
   rcases hl with hl|hl
   ·match s,hl with
    |
     [c,a],_ =>
     simp only[bu]at h0
     subst h0
     simp only[List.drop_succ_cons,bf,Ac]at h
     split at h
     ·rename_i ha
      have:=key1 ⟨a.toNat,a.toNat_lt⟩ (by simpa using ha)
      simp only[UInt8.ofNat_toNat]at this
      cases h
      refine⟨?_,by omega⟩
      rw[xE,eN (by omega)]
      simp only[Nat.mul_zero,aW]
      rw[<-this.2.2]
     ·cases h
   ·match s,hl with
    |
     [c,a,b],_ =>
     simp only[bu,List.getD_cons_succ,az,aG,true_and]at h0 h1
     subst h0
     simp only[List.drop_succ_cons,bf,Ac]at h
     split at h
     ·rename_i ha
      split at h
      ·rename_i hb
       have k1:=key1 ⟨a.toNat,a.toNat_lt⟩ (by simpa using ha)
       have k2:=key1 ⟨b.toNat,b.toNat_lt⟩ (by simpa using hb)
       simp only[UInt8.ofNat_toNat]at k1 k2
       have ha':48<=a.toNat/\a.toNat<=57:=by simpa[im]using ha
       have hb':48<=b.toNat/\b.toNat<=57:=by simpa[im]using hb
       have h48:a.toNat≠48:=fun e=>h1 (by rw[<-UInt8.toNat_inj];simpa using e)
       cases h
       simp only[Nat.mul_zero,aW]
       refine⟨?_,by omega⟩
       rw[xE,fX (by omega),eN (by omega)]
       have e1:(10*(a.toNat-48)+(b.toNat-48))/10=a.toNat-48:=by omega
       have e2:(10*(a.toNat-48)+(b.toNat-48))%10=b.toNat-48:=by omega
       rw[e1,e2,<-k1.2.2,<-k2.2.2];rfl
      ·cases h
     ·cases h
  ·cases h
 ·cases h
theorem vA(k:Nat)(h:k<100):fV (xE k)=some k:=by
 have e:∀k,k<100->dd k=if k<10 then [bj (48+k)]else [bj (48+k/10),bj (48+k%10)]:=by
  intro k hk
  by_cases h1:k<10
  ·rw[eN h1,if_pos h1]
  ·rw[fX h1,eN (by omega),if_neg h1];rfl
 have key:∀k:Fin 100,fV (101::(if k.val<10 then [bj (48+k.val)]else [bj (48+k.val/10),bj (48+k.val%10)]))=some k.val:=by decide +kernel
 rw[xE,e k h];exact key ⟨k,h⟩
theorem IV(k:Nat)(h:k<100):Bx (xE k)=(k:Int):=by rw[Bx,vA k h]
def zi:E->Bool
 | .atom s=>(s==[117])||(fV s).isSome
 | .list [x,a]=>((x.at==[108])||(x.at==[114])||(x.at==[102]))&&zi a
 | .list [x,a,b]=>(x.at==[112])&&(zi a&&zi b)
 | .list _=>false
def fS:E->Option Vl
 | .atom s=>if s=[117]then some .u else match fV s with|some k=>some (.el k)|none=>none
 |
  .list [x,a]=>match fS a with
  |none=>none
  |some v=>if x.at=[108]then some (.l v)else if x.at=[114]then some (.r v)else if x.at=[102]then some (.f v)else none
 | .list [x,a,b]=>if x.at=[112]then(match fS a,fS b with|some v,some w=>some (.p v w)|_,_=>none)else none
 | .list _=>none
theorem oX:∀e:E,(fS e).isSome=zi e
 |
  .atom s=>by
  simp only[fS,zi]
  by_cases h:s=[117]
  ·simp[h]
  ·rw[if_neg h];cases fV s<;>simp[h]
 | .list []=>rfl
 | .list [_]=>rfl
 |
  .list [x,a]=>by
  have ha:=oX a
  rw[fS,zi,<-ha]
  cases fS a with
  |none=>simp
  |
   some v =>
   by_cases h1:x.at=[108]
   ·simp[h1]
   ·by_cases h2:x.at=[114]
    ·simp[h2]
    ·by_cases h3:x.at=[102]
     ·simp[h3]
     ·simp[h1,h2,h3]
 |
  .list [x,a,b]=>by
  have ha:=oX a
  have hb:=oX b
  rw[fS,zi,<-ha,<-hb]
  by_cases h1:x.at=[112]
  ·rw[if_pos h1,h1];cases fS a<;>cases fS b<;>rfl
  ·simp[h1]
 | .list (_::_::_::_::_)=>rfl
theorem kD{x:E}{w:List UInt8}(h:x.at=w)(hw:w≠[]):x=.atom w:=by
 cases x with
 |atom s=>exact congrArg E.atom h
 |list l=>exact absurd h.symm hw
theorem lf:∀(e:E) (v:Vl),fS e=some v->v.cN=e/\v.il 100
 |
  .atom s,v,h=>by
  simp only[fS]at h
  split at h
  ·rename_i h1;cases h;exact⟨by rw[h1];rfl,trivial⟩
  ·split at h
   ·rename_i k hk
    cases h
    obtain⟨h1,h2⟩:=s4 hk
    exact⟨by rw[h1];rfl,h2⟩
   ·cases h
 | .list [],_,h=>by cases h
 | .list [_],_,h=>by cases h
 | .list (_::_::_::_::_),_,h=>by cases h
 |
  .list [x,a],v,h=>by
  rw[fS]at h
  split at h
  ·cases h
  ·rename_i w hw
   obtain⟨h1,h2⟩:=lf a w hw
   split at h
   ·rename_i hx;cases h;rw[kD hx (by simp)];exact⟨by rw[Vl.cN,h1],h2⟩
   ·split at h
    ·rename_i hx;cases h;rw[kD hx (by simp)];exact⟨by rw[Vl.cN,h1],h2⟩
    ·split at h
     ·rename_i hx;cases h;rw[kD hx (by simp)];exact⟨by rw[Vl.cN,h1],h2⟩
     ·cases h
 |
  .list [x,a,b],v,h=>by
  rw[fS]at h
  split at h
  ·rename_i hx
   split at h
   ·rename_i w1 w2 hw1 hw2
    cases h
    obtain⟨h1,h2⟩:=lf a w1 hw1
    obtain⟨h3,h4⟩:=lf b w2 hw2
    rw[kD hx (by simp)]
    exact⟨by rw[Vl.cN,h1,h3],h2,h4⟩
   ·cases h
  ·cases h
def qs(e:E)(w:List UInt8)(k:Nat):Bool:=match e with| .list (x::l)=>decide (l.length+1=k)&&(x.at==w)|_=>false
theorem tD(e:E)(w:List UInt8)(k:Nat)(hk:1<=k):an Tryz.prog 151 [e.cE,.v (.string (mk w)),.v (.int .i64 (k:Int))] [] (bJ (.v (.bool (qs e w k)))):=by
 refine OC _ _ _ ((cX e).mpr trivial) ?_
 cases e with
 |atom s=>simp only[BU,E.cE,↓zq,zs,ae,zt,bJ,qs];exact⟨by omega,fun h=>by omega,fun _=>trivial⟩
 |
  list l =>
  simp only[BU,E.cE,↓zq,zs,ae,zt,bJ,sd]
  cases l with
  |nil=>exact⟨by simp,fun h=>by simp at h;omega,fun _=>rfl⟩
  |
   cons x l =>
   simp only[az]
   refine⟨by simp,fun h=>?_,fun h=>?_⟩
   ·have:decide (l.length+1=k)=true:=by rw[decide_eq_true_eq];omega
    simp only[qs,this]
    cases x<;>simp[E.mE,E.cE,cj,pJ,jU,ef,u7,toList_mk,E.at]
   ·have:decide (l.length+1=k)=false:=by rw[decide_eq_false_iff_not];omega
    simp only[qs,this];rfl
def jE:Option Vl->AV
 |some v=>v.cE
 |none=>.v (.pointer none)
end Go.Proofs.Trees
namespace Go.Proofs.Trees
open Go Go.VL Go.RowKit
theorem gy(v:Option Vl):LK.has .ptr (jE v)=True:=by cases v<;>simp[jE,aO,jr]
theorem z8:∀(e:E),e.ok->an Tryz.prog 139 [e.cE] [] (bJ (jE (fS e)))
 |
  .atom s,hok=>by
  refine O2 _ ((cX _).mpr trivial) ?_
  have hd:=od (.atom s)
  have hlen:=lS (.atom s)
  simp only[E.at]at hd
  simp only[Ix,↓zq,zs,ae,zt,bJ,cX,eu,hd,fS]
  refine⟨hlen,fun h=>?_,fun h=>⟨hlen,?_⟩⟩
  ·rw[if_pos h];rfl
  ·rw[if_neg h]
   refine aj (JO s) ?_
   simp only[↓zq,zs,ae,zt]
   refine⟨fun he=>⟨hlen,?_⟩,fun he=>?_⟩
   ·obtain⟨k,hk⟩:=cc.1 he
    obtain⟨h1,h2⟩:=s4 hk
    rw[hk,h1];rfl
   ·have hn:fV s=none:=by cases hq:fV s<;>simp[hq]at he |-
    rw[hn]
    refine aj (tD (.atom s) [108] 2 (by omega)) ?_
    simp only[qs,↓zq,zs,ae,zf]
    refine⟨fun h=>(by cases h),fun _=>aj (tD (.atom s) [114] 2 (by omega)) ?_⟩
    simp only[qs,↓zq,zs,ae,zf]
    refine⟨fun h=>(by cases h),fun _=>aj (tD (.atom s) [102] 2 (by omega)) ?_⟩
    simp only[qs,↓zq,zs,ae,zf]
    refine⟨fun h=>(by cases h),fun _=>aj (tD (.atom s) [112] 3 (by omega)) ?_⟩
    simp only[qs,↓zq,zs,ae,zf]
    exact⟨fun h=>(by cases h),fun _=>rfl⟩
 |
  .list l,hok=>by
  refine O2 _ ((cX _).mpr trivial) ?_
  have hd:=od (.list l)
  have hlen:=lS (.list l)
  have hlen2:∀{l:List E},((AV.v (.string (mk [])))::[AV.sl (E.mE l)]).length=2:=rfl
  simp only[E.at]at hd
  have he:fV []=none:=rfl
  simp only[Ix,↓zq,zs,ae,zt,bJ,cX,eu,hd]
  refine⟨hlen,fun h=>(by cases h),fun h=>⟨hlen,?_⟩⟩
  refine aj (JO []) ?_
  rw[he]
  simp only[↓zq,zs,ae,zt,zf,bw]
  refine⟨fun h=>(by cases h),fun _=>aj (tD (.list l) [108] 2 (by omega)) ?_⟩
  have hno:∀w:List UInt8,(∀x a,l≠[x,a])->qs (.list l) w 2=false:=by
   intro w h2
   match l,h2 with
   |[],_=>rfl
   |[x],_=>rfl
   |[x,a],h2=>exact absurd rfl (h2 x a)
   |x::y::z::l,_=>simp[qs]
  match l,hok,hno,hlen with
  |
   [x,a],hok,hno,hlen =>
   clear hno
   obtain⟨ok1,ok2,_⟩:=hok
   have e2:∀w:List UInt8,qs (.list [x,a]) w 2=(x.at==w):=fun w=>rfl
   have e3:qs (.list [x,a]) [112] 3=false:=rfl
   have hx:=od x
   have hxl:=lS x
   rw[fS]
   simp only[e2,↓zq,zs,ae]
   refine⟨fun h1=>?_,fun h1=>aj (tD (.list [x,a]) [114] 2 (by omega)) ?_⟩
   ·simp only[E.cE,E.mE,toNat_one,↓zq,zs,ae,zt,cX,eu]
    refine⟨by omega,by omega,by omega,aj (z8 a ok2) ?_⟩
    cases hv:fS a with
    |none=>simp only[jE,↓zq,zs,ae,gy];exact⟨fun _=>trivial,fun h=>(by cases h)⟩
    |
     some v =>
     simp only[jE,↓zq,zs,ae,zt,aO,fI,hx,h1,cX,eu]
     refine⟨fun h=>(by cases h),fun _=>⟨by omega,by omega,by omega,hxl,by simp,?_⟩⟩
     rfl
   ·simp only[e2,↓zq,zs,ae]
    refine⟨fun h2=>?_,fun h2=>aj (tD (.list [x,a]) [102] 2 (by omega)) ?_⟩
    ·simp only[E.cE,E.mE,toNat_one,↓zq,zs,ae,zt,cX,eu]
     refine⟨by omega,by omega,by omega,aj (z8 a ok2) ?_⟩
     cases hv:fS a with
     |none=>simp only[jE,↓zq,zs,ae,gy];exact⟨fun _=>trivial,fun h=>(by cases h)⟩
     |
      some v =>
      simp only[jE,↓zq,zs,ae,zt,aO,fI,hx,h2,cX,eu]
      refine⟨fun h=>(by cases h),fun _=>⟨by omega,by omega,by omega,hxl,by simp,?_⟩⟩
      rfl
    ·simp only[e2,↓zq,zs,ae]
     refine⟨fun h3=>?_,fun h3=>aj (tD (.list [x,a]) [112] 3 (by omega)) ?_⟩
     ·simp only[E.cE,E.mE,toNat_one,↓zq,zs,ae,zt,cX,eu]
      refine⟨by omega,by omega,by omega,aj (z8 a ok2) ?_⟩
      cases hv:fS a with
      |none=>simp only[jE,↓zq,zs,ae,gy];exact⟨fun _=>trivial,fun h=>(by cases h)⟩
      |
       some v =>
       simp only[jE,↓zq,zs,ae,zt,aO,fI,hx,h3,cX,eu]
       refine⟨fun h=>(by cases h),fun _=>⟨by omega,by omega,by omega,hxl,by simp,?_⟩⟩
       rfl
     ·rw[e3]
      simp only[↓zq,zs,ae]
      refine⟨fun h=>(by cases h),fun _=>?_⟩
      cases fS a with
      |none=>rfl
      |some v=>simp only[if_neg h1,if_neg h2,if_neg h3];rfl
  |
   [x,a,b],hok,hno,hlen =>
   obtain⟨ok1,ok2,ok3,_⟩:=hok
   have h2:=fun w=>hno w (fun x a h=>(by cases h))
   rw[h2]
   simp only[↓zq,zs,ae]
   refine⟨fun h=>(by cases h),fun _=>aj (tD (.list [x,a,b]) [114] 2 (by omega)) ?_⟩
   rw[h2]
   simp only[↓zq,zs,ae]
   refine⟨fun h=>(by cases h),fun _=>aj (tD (.list [x,a,b]) [102] 2 (by omega)) ?_⟩
   rw[h2]
   simp only[↓zq,zs,ae]
   refine⟨fun h=>(by cases h),fun _=>aj (tD (.list [x,a,b]) [112] 3 (by omega)) ?_⟩
   have e3:qs (.list [x,a,b]) [112] 3=(x.at==[112]):=rfl
   rw[e3,fS]
   simp only[↓zq,zs,ae]
   refine⟨fun h1=>?_,fun h1=>?_⟩
   ·rw[if_pos h1]
    simp only[E.cE,E.mE,toNat_one,bg,↓zq,zs,ae,zt,cX,eu]
    refine⟨by omega,by omega,by omega,aj (z8 a ok2) ?_⟩
    simp only[↓zq,zs,ae,gy,cX]
    refine⟨by omega,by omega,by omega,aj (z8 b ok3) ?_⟩
    cases hv:fS a with
    |none=>cases hw:fS b<;>simp only[jE,↓zq,zs,ae,gy,aO]<;>exact⟨fun _=>trivial,fun h=>(by cases h)⟩
    |
     some v =>
     cases hw:fS b with
     |
      none =>
      simp only[jE,↓zq,zs,ae,gy,aO,fI]
      exact⟨fun h=>(by cases h),fun _=>⟨fun _=>trivial,fun h=>(by cases h)⟩⟩
     |
      some w =>
      simp only[jE,↓zq,zs,ae,aO,fI]
      refine⟨fun h=>(by cases h),fun _=>⟨fun h=>(by cases h),fun _=>?_⟩⟩
      refine aj (Aa _ _ ((aO _).mpr trivial) ((aO _).mpr trivial)) ?_
      simp only[↓zq,zs,ae];rfl
   ·rw[if_neg h1];rfl
  |
   [],hok,hno,hlen =>
   have h2:=fun w=>hno w (fun x a h=>(by cases h))
   have e3:qs (.list []) [112] 3=false:=rfl
   rw[h2]
   simp only[↓zq,zs,ae]
   refine⟨fun h=>(by cases h),fun _=>aj (tD (.list []) [114] 2 (by omega)) ?_⟩
   rw[h2]
   simp only[↓zq,zs,ae]
   refine⟨fun h=>(by cases h),fun _=>aj (tD (.list []) [102] 2 (by omega)) ?_⟩
   rw[h2]
   simp only[↓zq,zs,ae]
   refine⟨fun h=>(by cases h),fun _=>aj (tD (.list []) [112] 3 (by omega)) ?_⟩
   rw[e3]
   simp only[↓zq,zs,ae]
   exact⟨fun h=>(by cases h),fun _=>rfl⟩
  |
   [x],hok,hno,hlen =>
   have h2:=fun w=>hno w (fun x a h=>(by cases h))
   have e3:qs (.list [x]) [112] 3=false:=rfl
   rw[h2]
   simp only[↓zq,zs,ae]
   refine⟨fun h=>(by cases h),fun _=>aj (tD (.list [x]) [114] 2 (by omega)) ?_⟩
   rw[h2]
   simp only[↓zq,zs,ae]
   refine⟨fun h=>(by cases h),fun _=>aj (tD (.list [x]) [102] 2 (by omega)) ?_⟩
   rw[h2]
   simp only[↓zq,zs,ae]
   refine⟨fun h=>(by cases h),fun _=>aj (tD (.list [x]) [112] 3 (by omega)) ?_⟩
   rw[e3]
   simp only[↓zq,zs,ae]
   exact⟨fun h=>(by cases h),fun _=>rfl⟩
  |
   x::y::z::w::l,hok,hno,hlen =>
   have h2:=fun w=>hno w (fun x a h=>(by cases h))
   have e3:qs (.list (x::y::z::w::l)) [112] 3=false:=by simp[qs]
   rw[h2]
   simp only[↓zq,zs,ae]
   refine⟨fun h=>(by cases h),fun _=>aj (tD (.list (x::y::z::w::l)) [114] 2 (by omega)) ?_⟩
   rw[h2]
   simp only[↓zq,zs,ae]
   refine⟨fun h=>(by cases h),fun _=>aj (tD (.list (x::y::z::w::l)) [102] 2 (by omega)) ?_⟩
   rw[h2]
   simp only[↓zq,zs,ae]
   refine⟨fun h=>(by cases h),fun _=>aj (tD (.list (x::y::z::w::l)) [112] 3 (by omega)) ?_⟩
   rw[e3]
   simp only[↓zq,zs,ae]
   exact⟨fun h=>(by cases h),fun _=>rfl⟩
def sK(s:List UInt8):Option Vl:=match qU s with
 |none=>none
 |
  some e=>match fS e with
  |none=>none
  |some v=>if v.nodes>200 then none else some v
theorem mj{s:List UInt8}{v:Vl}(h:sK s=some v):qU s=some v.cN/\v.il 100/\v.nodes<=200:=by
 unfold sK at h
 split at h
 ·cases h
 ·rename_i e he
  split at h
  ·cases h
  ·rename_i w hw
   split at h
   ·cases h
   ·cases h
    obtain⟨h1,h2⟩:=lf e _ hw
    rw[h1]
    exact⟨he,h2,by omega⟩
theorem w4{e:E}{v:Vl}(h:fS e=some v):v.nodes<=e.sz:=by
 obtain⟨h1,_⟩:=lf e v h
 rw[<-nV,h1];exact B7 e
theorem SX(s:List UInt8):an Tryz.prog 100 [.v (.string (mk s))] [] (bJ (jE (sK s))):=by
 refine RB _ ?_
 unfold JZ
 refine aj (N4 s) ?_
 unfold sK
 cases he:qU s with
 |none=>simp only[uB,↓zq,zs,ae,bJ,jE];simp
 |
  some e =>
  obtain⟨h1,h2⟩:=nS he
  simp only[uB,↓zq,zs,ae,cX,eu]
  refine⟨fun h=>(by cases h),fun _=>?_⟩
  refine aj (z8 e h1) ?_
  cases hv:fS e with
  |none=>simp only[jE,↓zq,zs,ae,bJ];simp
  |
   some v =>
   have hn:=w4 hv
   simp only[jE,↓zq,zs,ae,aO,fI]
   refine⟨fun h=>(by cases h),fun _=>?_⟩
   refine aj (I2 v (by omega)) ?_
   simp only[↓zq,zs,ae,bJ]
   refine⟨fun h=>?_,fun h=>?_⟩
   ·rw[if_pos (by omega)]
   ·rw[if_neg (by omega)]
theorem Ab:∀(e:E),e.ok->an Tryz.prog 103 [e.kT] [] (bJ (.v (.bool (zi e))))
 |
  .atom s,hok=>by
  refine z6 _ _ ((bh).mpr trivial) ?_
  have hne:s≠[]:=hok
  simp only[xJ,↓zq,zs,ae,zt,bJ,zi]
  refine⟨fun _=>⟨fun h=>?_,fun h=>?_⟩,fun h=>absurd h hne⟩
  ·simp[h]
  ·refine aj (JL s) ?_
   have h':(s==[117])=false:=by simpa using h
   simp only[↓zq,zs,ae,h',Bool.false_or]
   congr 2
   rw[Bx]
   cases fV s with
   |none=>rfl
   |some k=>simp
 |
  .list [],hok=>by
  refine z6 _ _ ((cn _).mpr trivial) ?_
  simp only[xJ,↓zq,zs,ae,zt,bJ,zi]
  refine⟨fun h=>absurd rfl h,fun _=>?_⟩
  refine aj Qx ?_
  simp[↓zq,zs,ae,zt]
 |
  .list [x],hok=>by
  refine z6 _ _ ((cn _).mpr trivial) ?_
  simp only[xJ,↓zq,zs,ae,zt,bJ,zi]
  refine⟨fun h=>absurd rfl h,fun _=>?_⟩
  refine aj (vo x _) ?_
  simp[↓zq,zs,ae,zt,E.bx]
 |
  .list (x::y::z::w::l),hok=>by
  refine z6 _ _ ((cn _).mpr trivial) ?_
  simp only[xJ,↓zq,zs,ae,zt,bJ,zi]
  refine⟨fun h=>absurd rfl h,fun _=>?_⟩
  refine aj (vo x _) ?_
  simp only[↓zq,zs,ae,zt,E.bx]
  refine⟨fun _=>⟨fun h=>by omega,fun _=>trivial⟩,fun _=>⟨fun _=>⟨fun h=>by omega,fun _=>trivial⟩,fun _=>⟨fun _=>⟨fun h=>by omega,fun _=>trivial⟩,fun _=>⟨fun _=>⟨fun h=>by omega,fun _=>trivial⟩,fun _=>trivial⟩⟩⟩⟩
 |
  .list [x,a],hok=>by
  refine z6 _ _ ((cn _).mpr trivial) ?_
  obtain⟨ok1,ok2,_⟩:=hok
  simp only[xJ,↓zq,zs,ae,zt,bJ,zi]
  refine⟨fun h=>absurd rfl h,fun _=>?_⟩
  refine aj (vo x _) ?_
  simp only[E.bx,toNat_one,bg,↓zq,zs,ae,zt,iT,gu,ja,mF,au]
  refine⟨fun h=>⟨fun _=>⟨by omega,?_⟩,fun h=>by omega⟩,fun h1=>⟨fun h=>⟨fun _=>⟨by omega,?_⟩,fun h=>by omega⟩,fun h2=>⟨fun h=>⟨fun _=>⟨by omega,?_⟩,fun h=>by omega⟩,fun h3=>⟨fun h=>⟨fun h=>by omega,fun _=>?_⟩,fun h=>?_⟩⟩⟩⟩
  ·refine aj (Ab a ok2) ?_
   simp[↓zq,zs,ae,h]
  ·refine aj (Ab a ok2) ?_
   simp[↓zq,zs,ae,h]
  ·refine aj (Ab a ok2) ?_
   simp[↓zq,zs,ae,h]
  ·simp[h]
  ·simp[h1,h2,h3]
 |
  .list [x,a,b],hok=>by
  refine z6 _ _ ((cn _).mpr trivial) ?_
  obtain⟨ok1,ok2,ok3,_⟩:=hok
  simp only[xJ,↓zq,zs,ae,zt,bJ,zi]
  refine⟨fun h=>absurd rfl h,fun _=>?_⟩
  refine aj (vo x _) ?_
  simp only[E.bx,toNat_one,bg,↓zq,zs,ae,zt,iT,gu,ja,mF,au]
  refine⟨fun h=>⟨fun h=>by omega,fun _=>?_⟩,fun h1=>⟨fun h=>⟨fun h=>by omega,fun _=>?_⟩,fun h2=>⟨fun h=>⟨fun h=>by omega,fun _=>?_⟩,fun h3=>⟨fun h=>⟨fun _=>⟨by omega,?_⟩,fun h=>by omega⟩,fun h=>?_⟩⟩⟩⟩
  ·simp[h]
  ·simp[h]
  ·simp[h]
  ·refine aj (Ab a ok2) ?_
   simp only[↓zq,zs,ae,h]
   refine⟨fun ha=>⟨by omega,aj (Ab b ok3) ?_⟩,fun ha=>?_⟩
   ·simp[↓zq,zs,ae,ha]
   ·simp[ha]
  ·simp[h]
theorem D5(s:List UInt8):an Tryz.prog 72 [.v (.string (mk s))] [] (jP ((sK s).map Vl.cN) (sK s).isSome):=by
 refine SL _ ?_
 unfold Kp
 refine aP (Lz s) (jP.ne _ _ (fun h=>h)) ?_
 rintro r o ⟨c,d,hd,rfl,hh⟩
 simp only[↓zq,zs,ae,zt,bH,sK]
 refine⟨hd,fun h=>?_,fun h=>?_⟩
 ·obtain⟨e,he,hce⟩:=hh h
  obtain⟨hok,hsz⟩:=nS he
  rw[he,hce]
  refine aj (Ab e hok) ?_
  simp only[↓zq,zs,ae]
  have hs:=oX e
  refine⟨fun hi=>?_,fun hi=>?_⟩
  ·rw[hi]at hs
   obtain⟨v,hv⟩:=cc.1 hs
   obtain⟨h1,h2⟩:=lf e v hv
   refine aj (Sk e (by omega)) ?_
   simp only[↓zq,zs,ae,hv]
   have hnd:e.nd=v.nodes:=by rw[<-h1,nV]
   rw[hnd]
   refine⟨c,d,hd,?_,?_⟩
   ·rw[hce]
    by_cases h4:v.nodes>200
    ·rw[if_pos h4];exact congrArg (fun b=>AV.cI [e.kT,.v (.bool b)]) (decide_eq_false (show ¬((v.nodes:Nat):Int)<=200 by omega))
    ·rw[if_neg h4];exact congrArg (fun b=>AV.cI [e.kT,.v (.bool b)]) (decide_eq_true (show ((v.nodes:Nat):Int)<=200 by omega))
   ·split
    ·exact fun h=>by cases h
    ·exact fun _=>⟨e,by simp[h1],hce⟩
  ·rw[hi]at hs
   have hn:fS e=none:=by cases hq:fS e<;>simp[hq]at hs |-
   rw[hn]
   exact⟨c,d,hd,by rw[hce];rfl,fun h=>by cases h⟩
 ·have hn:qU s=none:=by cases hq:qU s<;>simp[hq]at h |-
  rw[hn]
  exact⟨c,d,hd,rfl,fun h=>by cases h⟩
end Go.Proofs.Trees
namespace Go.Proofs.Trees
open Go Go.VL Go.RowKit
inductive Fr where
 |mk (s:List UInt8) (e:E) (o:List Fr)
def Fr.nm:Fr->List UInt8| .mk s _ _=>s
def Fr.ex:Fr->E| .mk _ e _=>e
def Fr.out:Fr->List Fr| .mk _ _ o=>o
def names:List Fr->List (List UInt8)
 |[]=>[]
 |f::r=>names r++[f.nm]
def yQ(e:E)(o:List Fr):Ty:=(cV e (names o)).getD .zero
def E.sp:E->AV
 | .atom _=>.v (.slice none 0 0)
 | .list l=>.sl (E.bx l)
theorem fN(e:E):e.iH=[.v (.string (mk e.at)),e.sp]:=by cases e<;>rfl
theorem dq(e:E):e.kT=.agg [.v (.string (mk e.at)),e.sp]:=by cases e<;>rfl
theorem aY(e:E):LK.has .sl e.sp=True:=by cases e<;>simp[E.sp,bh,cn]
mutual
def Fr.cells:Fr->List AV
 | .mk s e o=>[.v (.string (mk s)),.v (.string (mk e.at)),e.sp,.sl (ku o)]
def ku:List Fr->List (List AV)
 |[]=>[]
 |f::r=>ku r++[f.cells]
end
mutual
def Fr.cE:Fr->AV
 | .mk s e o=>.ptr [(yQ e o).av,po o]
def po:List Fr->AV
 |[]=>iC
 |f::r=>.ptr [f.cE,po r]
end
inductive WF:List Fr->Prop
 |nil:WF []
 |cons {s:List UInt8} {x a b:E} {t:Ty} {r:List Fr} (hs:dr s=true) (hok:(E.list [x,a,b]).ok) (hx:x.at=[114,101,99]) (ht:cV (.list [x,a,b]) (names r)=some t) (hf:cd t=false) (hr:WF r):WF (.mk s (.list [x,a,b]) r::r)
theorem lL:∀env:List Fr,(ku env).length=env.length
 |[]=>rfl
 |f::r=>by simp[ku,lL r]
theorem eC(env:List Fr):LK.has .ptr (po env)=True:=by cases env<;>simp[po,jr,cj]
theorem BF(f:Fr):LK.has .ptr f.cE=True:=by cases f;simp[Fr.cE,cj]
def findF(s:List UInt8):List Fr->Option Fr
 |[]=>none
 |f::r=>if f.nm=s then some f else findF s r
def hd(e:E)(env:List Fr):E×List Fr:=match findF e.at env with|some f=>(f.ex,f.out)|none=>(e,env)
theorem lE{env:List Fr}(h:WF env):findF [] env=none:=by
 induction h with
 |nil=>rfl
 |
  @cons s x a b t r hs hok hx ht hf hr ih =>
  rw[findF,if_neg (show ¬(Fr.mk s (.list [x,a,b]) r).nm=[] from CD hs)];exact ih
theorem AH{env:List Fr}(h:WF env){s:List UInt8}{f:Fr}(hf:findF s env=some f):dr s=true:=by
 induction h with
 |nil=>cases hf
 |
  cons hs hok hx ht hf' hr ih =>
  rw[findF]at hf
  split at hf
  ·rename_i e;exact e ▸ hs
  ·exact ih hf
theorem oC{env:List Fr}(h:WF env){s:List UInt8}{f:Fr}(hf:findF s env=some f):∃x a b t,f.ex=.list [x,a,b]/\(E.list [x,a,b]).ok/\x.at=[114,101,99]/\cV f.ex (names f.out)=some t/\cd t=false/\WF f.out/\f.out.length<env.length:=by
 induction h with
 |nil=>cases hf
 |
  cons hs hok hx ht hf' hr ih =>
  rw[findF]at hf
  split at hf
  ·cases hf;exact⟨_,_,_,_,rfl,hok,hx,ht,hf',hr,by simp[Fr.out]⟩
  ·obtain⟨x,a,b,t,h1,h2,h3,h4,h5,h6,h7⟩:=ih hf
   exact⟨x,a,b,t,h1,h2,h3,h4,h5,h6,by simp;omega⟩
theorem kI(s w:List UInt8)(ar:List (List UInt8)):∀i,i<=ar.length->bR s (ar++[w]) i=(bR s ar i).map (·+1)
 |0,_=>rfl
 |
  i+1,hi=>by
  have hlt:i<ar.length:=by omega
  have e:(ar++[w]).getD i []=ar.getD i []:=by simp[aa,List.getElem?_append_left hlt]
  rw[bR,bR,e,kI s w ar i (by omega)]
  split
  ·simp only[aq,az,aG,cD,Option.some.injEq];omega
  ·rfl
theorem wz(s:List UInt8)(f:Fr)(r:List Fr):bR s (names (f::r)) (names (f::r)).length=if f.nm=s then some 0 else(bR s (names r) (names r).length).map (·+1):=by
 have e:(names (f::r)).length=(names r).length+1:=by simp[names]
 rw[e,bR]
 have e2:(names (f::r)).getD (names r).length []=f.nm:=by simp[names,aa]
 rw[e2]
 split
 ·rw[e];simp
 ·rw[names,kI _ _ _ _ (au _)]
theorem px(s:List UInt8):∀env:List Fr,bR s (names env) (names env).length=none/\findF s env=none\/∃(u:Nat) (f:Fr),bR s (names env) (names env).length=some u/\findF s env=some f/\env[u]?=some f
 |[]=>.inl ⟨rfl,rfl⟩
 |
  f::r=>by
  rw[wz,findF]
  split
  ·exact .inr ⟨0,f,rfl,rfl,rfl⟩
  ·rcases px s r with⟨h1,h2⟩|⟨u,g,h1,h2,h3⟩
   ·exact .inl ⟨by rw[h1];rfl,h2⟩
   ·exact .inr ⟨u+1,g,by rw[h1];rfl,h2,by simpa using h3⟩
def Ty.Ps:Ty->Bool
 | .bound _=>true
 |_=>false
theorem gB{e:E}{env:List Fr}{t:Ty}(hw:WF env)(ht:cV e (names env)=some t) :
 (t.Ps=false/\findF e.at env=none)\/∃(u:Nat) (f:Fr),t=.bound u/\findF e.at env=some f/\env[u]?=some f:=by
 cases e with
 |
  list l =>
  left
  refine⟨?_,lE hw⟩
  match l,ht with
  |
   [x,a,b],ht =>
   by_cases h0:x.at=[43]
   ·obtain⟨t1,t2,_,_,rfl⟩:=fQ h0 ht;rfl
   ·by_cases h1:x.at=[42]
    ·obtain⟨t1,t2,_,_,rfl⟩:=fu h1 ht;rfl
    ·by_cases h2:x.at=[114,101,99]
     ·obtain⟨t1,_,_,rfl⟩:=dD h2 ht;rfl
     ·rw[jq _ h0 h1 h2]at ht;cases ht
  |[],ht=>cases ht
  |[_],ht=>cases ht
  |[_,_],ht=>cases ht
  |_::_::_::_::_,ht=>cases ht
 |
  atom s =>
  simp only[cV]at ht
  have hno:dr s=false->findF s env=none:=fun h=>by
   cases hq:findF s env with
   |none=>rfl
   |some f=>rw[AH hw hq]at h;cases h
  split at ht
  ·rename_i h;cases ht;subst h;exact .inl ⟨rfl,hno rfl⟩
  ·split at ht
   ·rename_i h;cases ht;subst h;exact .inl ⟨rfl,hno rfl⟩
   ·split at ht
    ·rename_i h
     cases ht
     refine .inl ⟨rfl,hno ?_⟩
     cases hq:dr s with
     |false=>rfl
     |
      true =>
      obtain⟨c,r,rfl,h1,h2⟩:=ml h
      obtain⟨c',r',he,h3,h4⟩:=ml hq
      cases he;omega
    ·split at ht
     ·rcases px s env with⟨h1,h2⟩|⟨u,f,h1,h2,h3⟩
      ·rw[h1]at ht;cases ht;exact .inl ⟨rfl,h2⟩
      ·rw[h1]at ht;cases ht;exact .inr ⟨u,f,rfl,h2,h3⟩
     ·cases ht
def fh(n:Nat):Vl->E×List Fr->Bool
 | .u,p=>match hd p.1 p.2 with|(.atom s,_)=>s==[49]|_=>false
 | .el k,p=>match hd p.1 p.2 with|(.atom s,_)=>!(s==[49])&&(ia s&&decide (k<n))|_=>false
 | .l w,p=>match hd p.1 p.2 with|(.list [x,a,b],o)=>(x.at==[43])&&fh n w (a,o)|_=>false
 | .r w,p=>match hd p.1 p.2 with|(.list [x,a,b],o)=>(x.at==[43])&&fh n w (b,o)|_=>false
 | .f w,p=>match hd p.1 p.2 with|(.list [x,a,b],o)=>(x.at==[114,101,99])&&fh n w (b,.mk a.at (.list [x,a,b]) o::o)|_=>false
 | .p v w,p=>match hd p.1 p.2 with|(.list [x,a,b],o)=>(x.at==[42])&&(fh n v (a,o)&&fh n w (b,o))|_=>false
theorem kH{e:E}{env:List Fr}(h:findF e.at env=none):hd e env=(e,env):=by rw[hd,h]
theorem rp{e:E}{env:List Fr}{f:Fr}(h:findF e.at env=some f):hd e env=(f.ex,f.out):=by rw[hd,h]
theorem p5{x a b:E}{o:List Fr}(h:WF o):hd (.list [x,a,b]) o=(.list [x,a,b],o):=kH (lE h)
theorem vc(n:Nat)(v:Vl){e e':E}{env o:List Fr}(h:hd e env=(e',o))(h':hd e' o=(e',o)):fh n v (e,env)=fh n v (e',o):=by
 cases v<;>simp only[fh,h,h']
theorem jy{x a b:E}{env:List Fr}{t:Ty}(hw:WF env)(hok:(E.list [x,a,b]).ok)(hx:x.at=[114,101,99])(ht:cV (.list [x,a,b]) (names env)=some t)(hf:cd t=false) :
 ∃t1,t=.rc t1/\cV b (names (.mk a.at (.list [x,a,b]) env::env))=some t1/\cd t1=false/\WF (.mk a.at (.list [x,a,b]) env::env):=by
 obtain⟨t1,hl,h1,rfl⟩:=dD hx ht
 exact⟨t1,rfl,h1,hf,.cons hl hok hx ht hf hw⟩
theorem Aw(a b env:AV)(n:Int)(s:ByteArray)(u:Int)(ha:LK.ptr.has a)(he:LK.ptr.has env):an Tryz.prog 107 [.agg [.ptr [.v (.int .u8 n),.v (.string s),.v (.int .i64 u),a,b],env]] [] (bJ (.agg [a,env])):=by
 refine R9 _ _ ((cj _).mpr trivial) he ?_
 simp only[Nl,↓zq,zs,ae,bJ]
 exact⟨ha,by omega⟩
theorem Ae(a b env:AV)(n:Int)(s:ByteArray)(u:Int)(hb:LK.ptr.has b)(he:LK.ptr.has env):an Tryz.prog 108 [.agg [.ptr [.v (.int .u8 n),.v (.string s),.v (.int .i64 u),a,b],env]] [] (bJ (.agg [b,env])):=by
 refine P5 _ _ ((cj _).mpr trivial) he ?_
 simp only[O9,↓zq,zs,ae,bJ]
 exact⟨hb,by omega⟩
theorem Pz(t:Ty)(env:List Fr)(s:List UInt8)(e:E)(ht:yQ e env=.rc t):an Tryz.prog 77 [.agg [(Ty.rc t).av,po env]] [] (bJ (.cI [.agg [t.av,po (.mk s e env::env)],(Fr.mk s e env).cE])):=by
 refine Qe _ _ ((aF _).mpr trivial) ((eC _).mpr trivial) ?_
 simp only[N8,Ty.av,↓zq,zs,ae,aF,bJ,po,Fr.cE,ht]
 omega
theorem tU(env:List Fr)(i:Nat)(f:Fr)(h:env[i]?=some f):po (env.drop i)=.ptr [f.cE,po (env.drop (i+1))]:=by
 obtain⟨hlt,he⟩:=List.getElem?_eq_some_iff.1 h
 rw[aT hlt,he,po]
theorem MO(env:List Fr)(u:Nat)(hu:u<env.length)(hl:env.length<1000000):∀(k i:Nat),i+k=u->DS [po (env.drop i),.v (.int .i64 (u:Int)),.v (.int .i64 (i:Int))] [] (iq 1 [po (env.drop u)] [])
 |
  0,i,hi=>by
  refine DY _ _ _ ?_
  have:i=u:=by omega
  subst this
  simp only[Cj,↓zq,zs,ae,eC]
  exact⟨fun h=>by omega,fun _=>by simp[iq]⟩
 |
  k+1,i,hi=>by
  refine DY _ _ _ ?_
  have hlt:i<env.length:=by omega
  have hg:env[i]?=some env[i]:=bp hlt
  have hd:=tU env i _ hg
  rw[hd]
  simp only[Cj,↓zq,zs,ae,eC]
  refine⟨fun _=>⟨by omega,?_⟩,fun h=>by omega⟩
  rw[bA i (by omega)]
  exact MO env u hu hl k (i+1) (by omega)
theorem RG(env:List Fr)(u:Nat)(f:Fr)(hf:env[u]?=some f)(hl:env.length<1000000):an Tryz.prog 141 [.agg [(Ty.bound u).av,po env]] [] (bJ f.cE):=by
 refine Lg _ _ ((aF _).mpr trivial) ((eC _).mpr trivial) ?_
 obtain⟨hlt,he⟩:=List.getElem?_eq_some_iff.1 hf
 simp only[G6,Ty.av,↓zq,zs,ae]
 refine⟨by omega,?_⟩
 have h:=MO env u hlt hl u 0 (by omega)
 simp only[bf]at h
 refine cF h ?_
 rw[tU env u f hf]
 simp only[↓zq,zs,ae,BF,bJ]
 omega
theorem D6(k:Nat)(h:k<100):Lib.atoi (dd k)=some (k:Int):=by
 have e:∀k,k<100->dd k=if k<10 then [bj (48+k)]else [bj (48+k/10),bj (48+k%10)]:=by
  intro k hk
  by_cases h1:k<10
  ·rw[eN h1,if_pos h1]
  ·rw[fX h1,eN (by omega),if_neg h1];rfl
 have key:∀k:Fin 100,Lib.atoi (if k.val<10 then [bj (48+k.val)]else [bj (48+k.val/10),bj (48+k.val%10)])=some (k.val:Int):=by decide +kernel
 rw[e k h];exact key ⟨k,h⟩
theorem Qi(k:Nat)(hk:k<100):an Tryz.prog 140 [.v (.string (mk (dd k)))] [] (bJ (.cI [.v (.int .i64 (k:Int)),.v .nilIface])):=by
 have hl:=mT 1000 k (by omega)
 have hl2:(dd k).length<=18:=by
  have e:(dd k).length<=2:=by
   by_cases h1:k<10
   ·rw[eN h1];simp
   ·rw[fX h1,eN (by omega)];simp
  omega
 refine an.QV (xs:=[.string (mk (dd k))]) (v:=.tuple #[.int .i64 (k:Int),.nilIface]) ⟨qM,by kernel_rfl,by kernel_rfl,by kernel_rfl⟩ (fun M=>?_) fun w=>?_
 ·refine bE.cI _ _ [.int .i64 (k:Int),.nilIface] rfl fun i hi=>?_
  match i,hi with
  |0,_=>exact .v _ _
  |1,_=>exact .v _ _
 ·have:=Any.strconv_Atoi Tryz.Dj (mk (dd k)) (k:Int) (by rw[cP];exact hl2) (by
   have:(mk (dd k)).data.toList=dd k:=by simp[mk]
   rw[this];exact D6 k hk) w
  refine Calls.mono this fun e w' ⟨h1,t,h2⟩=>⟨h1,?_⟩
  subst h2
  refine⟨rfl,rfl,rfl,?_,fun b hb=>Lib.bytesWorld_at_old _ _ _ _ hb⟩
  simp[Lib.bytesWorld,World.freeze]
end Go.Proofs.Trees
namespace Go.Proofs.Trees
open Go Go.VL Go.RowKit
theorem fF{a b:Ty}(h:cd (.plus a b)=false):cd a=false/\cd b=false:=by simpa[cd]using h
theorem fg{a b:Ty}(h:cd (.times a b)=false):cd a=false/\cd b=false:=by simpa[cd]using h
theorem fM{e:E}{ar:List (List UInt8)}{t:Ty}(ht:cV e ar=some t)(hb:t.Ps=false)(hf:cd t=false) :
 (e=.atom [48]/\t=.zero)\/(e=.atom [49]/\t=.one)\/(∃s,e=.atom s/\t=.name s/\ia s=true/\s≠[48]/\s≠[49]) ∨
 (∃x a b t1 t2,e=.list [x,a,b]/\x.at=[43]/\t=.plus t1 t2/\cV a ar=some t1/\cV b ar=some t2) ∨
 (∃x a b t1 t2,e=.list [x,a,b]/\x.at=[42]/\t=.times t1 t2/\cV a ar=some t1/\cV b ar=some t2) ∨
 (∃x a b t1,e=.list [x,a,b]/\x.at=[114,101,99]/\t=.rc t1):=by
 cases e with
 |
  list l =>
  match l,ht with
  |
   [x,a,b],ht =>
   by_cases h0:x.at=[43]
   ·obtain⟨t1,t2,h1,h2,rfl⟩:=fQ h0 ht
    exact .inr (.inr (.inr (.inl ⟨x,a,b,t1,t2,rfl,h0,rfl,h1,h2⟩)))
   ·by_cases h1:x.at=[42]
    ·obtain⟨t1,t2,h3,h2,rfl⟩:=fu h1 ht
     exact .inr (.inr (.inr (.inr (.inl ⟨x,a,b,t1,t2,rfl,h1,rfl,h3,h2⟩))))
    ·by_cases h2:x.at=[114,101,99]
     ·obtain⟨t1,_,_,rfl⟩:=dD h2 ht
      exact .inr (.inr (.inr (.inr (.inr ⟨x,a,b,t1,rfl,h2,rfl⟩))))
     ·rw[jq _ h0 h1 h2]at ht;cases ht
  |[],ht=>cases ht
  |[_],ht=>cases ht
  |[_,_],ht=>cases ht
  |_::_::_::_::_,ht=>cases ht
 |
  atom s =>
  simp only[cV]at ht
  split at ht
  ·rename_i h;cases ht;subst h;exact .inl ⟨rfl,rfl⟩
  ·rename_i h0
   split at ht
   ·rename_i h;cases ht;subst h;exact .inr (.inl ⟨rfl,rfl⟩)
   ·rename_i h1
    split at ht
    ·rename_i h;cases ht;exact .inr (.inr (.inl ⟨s,rfl,rfl,h,h0,h1⟩))
    ·split at ht
     ·rename_i h
      split at ht
      ·cases ht;cases hb
      ·cases ht;simp only[cd]at hf;rw[h]at hf;cases hf
     ·cases ht
def qk(n:Nat)(v:Vl)(e:E)(env:List Fr)(t:Ty):Prop:=an Tryz.prog 101 [.agg [t.av,po env],v.cE,.v (.int .i64 (n:Int))] [] (bJ (.v (.bool (fh n v (e,env)))))
structure Ask(e:E)(env:List Fr)(t:Ty):Prop where
 ok:e.ok
 wf:WF env
 ty:cV e (names env)=some t
 cl:cd t=false
theorem Jg(n:Nat)(hn:n<=100)(v:Vl)(hv:v.il 100)(IH:∀w:Vl,w.nodes<v.nodes->w.il 100->∀e env t,Ask e env t->env.length+w.nodes<100000->qk n w e env t)
 (e:E) (env:List Fr) (t:Ty) (A:Ask e env t) (hl:env.length+v.nodes<100000) (hb:t.Ps=false) (hh:findF e.at env=none):qk n v e env t:=by
 have hhd:hd e env=(e,env):=kH hh
 unfold qk
 refine M7 _ _ _ _ ((aF _).mpr trivial) ((eC _).mpr trivial) ((aO _).mpr trivial) ?_
 rcases fM A.ty hb A.cl with⟨rfl,rfl⟩|⟨rfl,rfl⟩|⟨s,rfl,rfl,hp,h0,h1⟩|⟨x,a,b,t1,t2,rfl,hx,rfl,ha,hbb⟩|⟨x,a,b,t1,t2,rfl,hx,rfl,ha,hbb⟩|⟨x,a,b,t1,rfl,hx,rfl⟩
 ·have hp0:ia [48]=false:=rfl
  cases v<;>simp[AM,Ty.av,↓zq,zs,ae,bJ,fh,hhd,hp0]
 ·have hp0:ia [49]=false:=rfl
  cases v<;>simp[AM,Ty.av,Vl.cE,↓zq,zs,ae,bJ,fh,hhd,hp0]
 ·have h1':(s==[49])=false:=by simpa using h1
  cases v with
  |
   el k =>
   have hk:k<100:=hv
   simp only[AM,Ty.av,Vl.cE,↓zq,zs,ae,zt]
   refine⟨by omega,fun h=>by omega,fun _=>⟨fun _=>⟨by omega,fun h=>absurd rfl h,fun _=>⟨by omega,by omega,?_⟩⟩,fun h=>absurd rfl h⟩⟩
   have e1:(List.take ((dd k).length+1) (xE k)).drop (bK 1)=dd k:=by simp[xE]
   rw[e1]
   refine aj (Qi k hk) ?_
   simp only[↓zq,zs,ae,bJ,fh,hhd,h1',hp,zf]
   refine⟨rfl,?_⟩
   congr 2
   rw[cA];simp
  |
   _ =>
   simp only[AM,Ty.av,Vl.cE,↓zq,zs,ae,zt,fh,hhd,h1',bJ]
   exact⟨by omega,fun h=>by omega,fun _=>⟨fun _=>⟨by omega,fun _=>trivial,fun h=>by omega⟩,fun h=>absurd rfl h⟩⟩
 ·have hok:=A.ok
  obtain⟨ok1,ok2,ok3,_⟩:=hok
  obtain⟨f1,f2⟩:=fF A.cl
  cases v with
  |
   l w =>
   simp only[Vl.nodes]at hl
   simp only[AM,Ty.av,Vl.cE,↓zq,zs,ae]
   refine⟨by omega,fun h=>by omega,fun _=>⟨fun h=>by omega,fun _=>⟨fun h=>by omega,fun _=>⟨fun _=>⟨by omega,fun _=>?_,fun h=>absurd rfl h⟩,fun h=>absurd rfl h⟩⟩⟩⟩
   refine aj (Aw _ _ _ _ _ _ ((aF _).mpr trivial) ((eC _).mpr trivial)) ?_
   simp only[↓zq,zs,ae,bH,aF,eC,aO]
   refine⟨by omega,?_⟩
   refine aj (IH w (by simp only[Vl.nodes];omega) hv a env t1 ⟨ok2,A.wf,ha,f1⟩ (by omega)) ?_
   simp only[↓zq,zs,ae,bJ,fh,hhd,hx]
   refine⟨fun h=>?_,fun h=>⟨by omega,fun h=>by omega,fun _=>?_⟩⟩
   ·simp[h]
   ·simp[h]
  |
   r w =>
   simp only[Vl.nodes]at hl
   simp only[AM,Ty.av,Vl.cE,↓zq,zs,ae]
   refine⟨by omega,fun h=>by omega,fun _=>⟨fun h=>by omega,fun _=>⟨fun h=>by omega,fun _=>⟨fun _=>⟨by omega,fun h=>by omega,fun _=>⟨by omega,fun _=>?_,fun h=>absurd rfl h⟩⟩,fun h=>absurd rfl h⟩⟩⟩⟩
   refine aj (Ae _ _ _ _ _ _ ((aF _).mpr trivial) ((eC _).mpr trivial)) ?_
   simp only[↓zq,zs,ae,bH,aF,eC,aO]
   refine⟨by omega,?_⟩
   refine aj (IH w (by simp only[Vl.nodes];omega) hv b env t2 ⟨ok3,A.wf,hbb,f2⟩ (by omega)) ?_
   simp[↓zq,zs,ae,bJ,fh,hhd,hx]
  |
   _ =>
   simp only[AM,Ty.av,Vl.cE,↓zq,zs,ae,fh,hhd,bJ]
   exact⟨by omega,fun h=>by omega,fun _=>⟨fun h=>by omega,fun _=>⟨fun h=>by omega,fun _=>⟨fun _=>⟨by omega,fun h=>by omega,fun _=>⟨by omega,fun h=>by omega,fun _=>by simp[hx]⟩⟩,fun h=>absurd rfl h⟩⟩⟩⟩
 ·have hok:=A.ok
  obtain⟨ok1,ok2,ok3,_⟩:=hok
  obtain⟨f1,f2⟩:=fg A.cl
  cases v with
  |
   p v w =>
   simp only[Vl.nodes]at hl
   simp only[AM,Ty.av,Vl.cE,↓zq,zs,ae]
   refine⟨by omega,fun h=>by omega,fun _=>⟨fun h=>by omega,fun _=>⟨fun h=>by omega,fun _=>⟨fun h=>by omega,fun _=>⟨fun _=>⟨by omega,fun _=>?_,fun h=>absurd rfl h⟩,fun h=>absurd rfl h⟩⟩⟩⟩⟩
   refine aj (Aw _ _ _ _ _ _ ((aF _).mpr trivial) ((eC _).mpr trivial)) ?_
   simp only[↓zq,zs,ae,bH,aF,eC,aO]
   refine⟨by omega,?_⟩
   refine aj (IH v (by simp only[Vl.nodes];omega) hv.1 a env t1 ⟨ok2,A.wf,ha,f1⟩ (by omega)) ?_
   simp only[↓zq,zs,ae,bJ,fh,hhd,hx]
   refine⟨fun h=>?_,fun h=>?_⟩
   ·refine aj (Ae _ _ _ _ _ _ ((aF _).mpr trivial) ((eC _).mpr trivial)) ?_
    simp only[↓zq,zs,ae,bH,aF,eC,aO]
    refine⟨by omega,?_⟩
    refine aj (IH w (by simp only[Vl.nodes];omega) hv.2 b env t2 ⟨ok3,A.wf,hbb,f2⟩ (by omega)) ?_
    simp[↓zq,zs,ae,h]
   ·simp[h]
  |
   _ =>
   simp only[AM,Ty.av,Vl.cE,↓zq,zs,ae,fh,hhd,bJ]
   exact⟨by omega,fun h=>by omega,fun _=>⟨fun h=>by omega,fun _=>⟨fun h=>by omega,fun _=>⟨fun h=>by omega,fun _=>⟨fun _=>⟨by omega,fun h=>by omega,fun _=>by simp[hx]⟩,fun h=>absurd rfl h⟩⟩⟩⟩⟩
 ·obtain⟨t1',he1,h1,f1,hw1⟩:=jy A.wf A.ok hx A.ty A.cl
  cases he1
  have hok:=A.ok
  obtain⟨ok1,ok2,ok3,_⟩:=hok
  have htD:yQ (.list [x,a,b]) env=.rc t1:=by rw[yQ,A.ty];rfl
  have hin:=Pz t1 env a.at (.list [x,a,b]) htD
  simp only[Ty.av]at hin
  simp only[AM,Ty.av,↓zq,zs,ae]
  refine⟨by omega,fun h=>by omega,fun _=>⟨fun h=>by omega,fun _=>⟨fun h=>by omega,fun _=>⟨fun h=>by omega,fun _=>⟨fun h=>by omega,fun _=>⟨fun _=>?_,fun h=>absurd rfl h⟩⟩⟩⟩⟩⟩
  refine aj hin ?_
  simp only[↓zq,zs,ae,bH,aF,eC,BF,aO,fI]
  cases v with
  |
   f w =>
   simp only[Vl.nodes]at hl
   simp only[Vl.cE,↓zq,zs,ae,aO]
   refine⟨by omega,fun _=>⟨by omega,?_⟩,fun h=>absurd rfl h⟩
   refine aj (IH w (by simp only[Vl.nodes];omega) hv b (.mk a.at (.list [x,a,b]) env::env) t1 ⟨ok3,hw1,h1,f1⟩ (by simp;omega)) ?_
   simp[↓zq,zs,ae,bJ,fh,hhd,hx]
  |
   _ =>
   simp only[Vl.cE,↓zq,zs,ae,fh,hhd,bJ]
   exact⟨by omega,fun h=>by omega,fun _=>by simp[hx]⟩
theorem KP(n:Nat)(hn:n<=100):∀(m:Nat) (v:Vl),v.nodes<m->v.il 100->∀e env t,Ask e env t->env.length+v.nodes<100000->qk n v e env t
 |0,v,h,_=>by omega
 |
  m+1,v,h,hv=>by
  intro e env t A hl
  have IH:∀w:Vl,w.nodes<v.nodes->w.il 100->∀e env t,Ask e env t->env.length+w.nodes<100000->qk n w e env t:=fun w hw hb=>KP n hn m w (by omega) hb
  rcases gB A.wf A.ty with⟨hb,hh⟩|⟨u,f,rfl,hh,hu⟩
  ·exact Jg n hn v hv IH e env t A hl hb hh
  ·obtain⟨x,a,b,t',hfe,hok,hx,ht',hf',hwf,hlt⟩:=oC A.wf hh
   obtain⟨t1,hl1,h1,rfl⟩:=dD hx (hfe ▸ ht')
   have hvis:fh n v (e,env)=fh n v (f.ex,f.out):=vc n v (rp hh) (by rw[hfe];exact p5 hwf)
   unfold qk
   refine M7 _ _ _ _ ((aF _).mpr trivial) ((eC _).mpr trivial) ((aO _).mpr trivial) ?_
   have hbd:=RG env u f hu (by omega)
   simp only[Ty.av]at hbd
   simp only[AM,Ty.av,↓zq,zs,ae]
   refine⟨by omega,fun h=>by omega,fun _=>⟨fun h=>by omega,fun _=>⟨fun _=>?_,fun h=>absurd rfl h⟩⟩⟩
   refine aj hbd ?_
   cases f with
   |
    mk s ee oo =>
    simp only[Fr.ex,Fr.out]at hfe ht' hf' hwf hvis hlt
    have htD:yQ ee oo=.rc t1:=by rw[yQ,ht'];rfl
    simp only[Fr.cE,htD,↓zq,zs,ae,bH,aF,eC]
    refine⟨by omega,?_⟩
    have hs:=Jg n hn v hv IH ee oo (.rc t1) ⟨by rw[hfe];exact hok,hwf,ht',hf'⟩ (by omega) rfl (by rw[hfe];exact lE hwf)
    unfold qk at hs
    refine aj hs ?_
    simp[↓zq,zs,ae,bJ,hvis]
end Go.Proofs.Trees
namespace Go.Proofs.Trees
open Go Go.VL Go.RowKit
theorem th:∀(env:List Fr) (k:Nat) (f:Fr),env[k]?=some f->(ku env).getD (env.length-1-k) []=f.cells
 |[],k,f,h=>by cases h
 |
  g::r,0,f,h=>by
  cases h
  have:(g::r).length-1-0=(ku r).length:=by simp[lL]
  rw[this,ku];simp[aa]
 |
  g::r,k+1,f,h=>by
  have h':r[k]?=some f:=by simpa using h
  have hlt:=(List.getElem?_eq_some_iff.1 h').1
  have e:(g::r).length-1-(k+1)=r.length-1-k:=by simp;omega
  have:=th r k f h'
  rw[e,ku,aa,List.getElem?_append_left (by rw[lL];omega),<-aa]
  exact this
theorem sw(f:Fr):f.cells=[.v (.string (mk f.nm)),.v (.string (mk f.ex.at)),f.ex.sp,.sl (ku f.out)]:=by cases f;rfl
theorem LR(e:E)(env:List Fr)(hl:env.length<1000000):∀(j k:Nat),k+j=env.length->HX [.sl (ku env),.v (.int .i64 ((env.length:Int)-1-(k:Int)))] [.cells [.v (.string (mk e.at)),e.sp],.cells [.v (.string (mk [])),.v (.slice none 0 0)]]
 (nK (match findF e.at (env.drop k)with|some f=>(2,[.sl (ku f.out)],[.cells [.v (.string (mk f.ex.at)),f.ex.sp]])|none=>(1,[.sl (ku env)],[.cells [.v (.string (mk e.at)),e.sp],.cells [.v (.string (mk [])),.v (.slice none 0 0)]])))
 |
  0,k,hk=>by
  refine MN _ _ _ _ _ _ ?_
  have hd:env.drop k=[]:=bV (by omega)
  simp only[H7,↓zq,zs,ae,aY,hd,findF]
  exact⟨fun h=>by omega,fun _=>by first|trivial|rfl⟩
 |
  j+1,k,hk=>by
  refine MN _ _ _ _ _ _ ?_
  have hlt:k<env.length:=by omega
  have hg:env[k]?=some env[k]:=bp hlt
  have hc:=th env k _ hg
  have e1:((env.length:Int)-1-(k:Int))=((env.length-1-k:Nat):Int):=by omega
  have hdr:env.drop k=env[k]::env.drop (k+1):=aT hlt
  rw[hdr,findF,e1]
  simp only[H7,bF,hc,sw,↓zq,zs,ae,zt,aY,lL,bH]
  refine⟨fun _=>⟨by omega,by omega,fun h=>⟨by omega,by omega,by omega,by omega,?_⟩,fun h=>?_⟩,fun h=>by omega⟩
  ·rw[if_pos h]
  ·rw[if_neg h]
   have e2:IntKind.wrap .i64 (((env.length-1-k:Nat):Int)-1)=(env.length:Int)-1-((k+1:Nat):Int):=by
    have:IntKind.wrap .i64 (((env.length-1-k:Nat):Int)-1)=((env.length-1-k:Nat):Int)-1:=wrap64 _ (by omega) (by omega)
    omega
   rw[e2]
   exact LR e env hl j (k+1) (by omega)
theorem QJ(e:E)(env:List Fr)(hl:env.length<1000000):an Tryz.prog 125 [e.kT,.sl (ku env)] [] (bJ (.cI [(hd e env).1.kT,.sl (ku (hd e env).2)])):=by
 rw[dq e]
 refine Qn _ _ _ ((aY _).mpr trivial) ((cn _).mpr trivial) ?_
 simp only[JY,↓zq,zs,ae,lL,bJ]
 have h:=LR e env hl env.length 0 (by omega)
 simp only[bf]at h
 rw[wrap64 _ (by omega) (by omega)]
 rw[show (env.length:Int)-1-((0:Nat):Int)=(env.length:Int)-1 by omega]at h
 refine fA h (fun ys o e'=>?_) (fun ys o e'=>?_)
 ·unfold hd
  cases hq:findF e.at env<;>rw[hq]at e'<;>cases e'
  simp only[↓zq,zs,ae,zt,aY,dq]
 ·unfold hd
  cases hq:findF e.at env<;>rw[hq]at e'<;>cases e'
  simp only[↓zq,zs,ae,zt,aY,dq]
theorem qD:∀env:List Fr,cG 4 (ku env)
 |[]=>fun c hc=>by cases hc
 |
  f::r=>fun c hc=>by
  simp only[ku,aN,aQ]at hc
  rcases hc with hc|rfl
  ·exact qD r c hc
  ·rw[sw];rfl
theorem PX(x a b:E)(env:List Fr)(hl:env.length<1000000):an Tryz.prog 128 [(E.list [x,a,b]).kT,.sl (ku env)] [] (bJ (.cI [b.kT,.sl (ku (.mk a.at (.list [x,a,b]) env::env))])):=by
 refine S7 _ _ _ ((cn _).mpr trivial) ((cn _).mpr trivial) ?_
 simp only[Ni,E.bx,toNat_one,bg,↓zq,zs,ae,zt,iT,gu,ja,mF,au,lL,bJ,aS]
 refine⟨by omega,⟨qD env,by omega⟩,by omega,by omega,⟨fun c hc=>(by simp at hc;rw[hc];rfl),by omega⟩,?_⟩
 simp only[ku,sw,Fr.nm,Fr.ex,Fr.out,E.at,E.sp,E.bx]
theorem EA(s:ByteArray)(e:E):bH [.str,.sl] [.v (.string s),e.sp] 0=True:=by apply eq_true;simp[bH,ef,aY]
theorem Io{e:E}{env:List Fr}{t:Ty}(A:Ask e env t):∃e' o t',hd e env=(e',o)/\Ask e' o t'/\t'.Ps=false/\hd e' o=(e',o)/\o.length<=env.length:=by
 rcases gB A.wf A.ty with⟨hb,hh⟩|⟨u,f,rfl,hh,hu⟩
 ·exact⟨e,env,t,kH hh,A,hb,kH hh,au _⟩
 ·obtain⟨x,a,b,t',hfe,hok,hx,ht',hf',hwf,hlt⟩:=oC A.wf hh
  refine⟨f.ex,f.out,t',rp hh,⟨by rw[hfe];exact hok,hwf,ht',hf'⟩,?_,?_,by omega⟩
  ·obtain⟨t1,_,_,rfl⟩:=dD hx (hfe ▸ ht');rfl
  ·rw[hfe];exact p5 hwf
def vh:Vl->List UInt8
 | .l _=>[108]
 | .r _=>[114]
 | .f _=>[102]
 | .p _ _=>[112]
 |_=>[]
theorem Cz(v:Vl):an Tryz.prog 86 [v.cN.kT] [] (bJ (.v (.string (mk (vh v))))):=by
 cases v with
 |u=>exact zP _ _ ((bh).mpr trivial) (by simp)
 |el k=>exact zP _ _ ((bh).mpr trivial) (by simp)
 |l v=>exact vo _ _
 |r v=>exact vo _ _
 |f v=>exact vo _ _
 |p v w=>exact vo _ _
theorem Tu(v:Vl)(hv:v.il 100):v.cN.at=(match v with| .u=>[117]| .el k=>xE k|_=>[])/\Bx v.cN.at=(match v with| .el k=>(k:Int)|_=>-1):=by
 cases v with
 |el k=>exact⟨rfl,IV k hv⟩
 |u=>exact⟨rfl,rfl⟩
 |_=>exact⟨rfl,rfl⟩
theorem zY(n:Nat)(hn:n<=100):∀(m:Nat) (v:Vl),v.nodes<m->v.il 100->∀e env t,Ask e env t->env.length+v.nodes<100000->an Tryz.prog 94 [e.kT,.sl (ku env),v.cN.kT,.v (.int .i64 (n:Int))] [] (bJ (.v (.bool (fh n v (e,env)))))
 |0,v,hm,hv,e,env,t,A,hl=>by omega
 |
  m+1,v,hm,hv,e,env,t,A,hl=>by
  obtain⟨e',o,t',hhd,A',hb,hh',hlen⟩:=Io A
  rw[vc n v hhd hh',dq e,dq v.cN]
  refine PG _ _ _ _ _ _ ((aY _).mpr trivial) ((cn _).mpr trivial) ((aY _).mpr trivial) ?_
  have hf:=QJ e env (by omega)
  rw[dq e,hhd]at hf
  have hvh:=Cz v
  rw[dq]at hvh
  unfold KX
  refine aj hf ?_
  simp only[dq e',↓zq,zs,ae,zt,aY,EA,bJ]
  rcases fM A'.ty hb A'.cl with⟨rfl,rfl⟩|⟨rfl,rfl⟩|⟨s,rfl,rfl,hp,h0,h1⟩|⟨x,a,b,t1,t2,rfl,hx,rfl,ha,hbb⟩|⟨x,a,b,t1,t2,rfl,hx,rfl,ha,hbb⟩|⟨x,a,b,t1,rfl,hx,rfl⟩
  ·refine⟨fun _=>⟨fun h=>by simp[E.at]at h,fun _=>aj (ID _) ?_⟩,fun h=>by simp[E.at]at h⟩
   have hp0:ia (E.atom [48]).at=false:=rfl
   have hp1:ia [48]=false:=rfl
   cases v<;>simp[↓zq,zs,ae,hp0,fh,hh',hp1]
  ·refine⟨fun _=>⟨fun _=>?_,fun h=>absurd rfl h⟩,fun h=>by simp[E.at]at h⟩
   have hp1:ia [49]=false:=rfl
   cases v<;>simp[fh,hh',hp1,Vl.cN,E.at]
  ·have hne:s≠[]:=A'.ok
   have h1':(s==[49])=false:=by simpa using h1
   refine⟨fun _=>⟨fun h=>absurd h h1,fun _=>aj (ID _) ?_⟩,fun h=>absurd h hne⟩
   have hat:(E.atom s).at=s:=rfl
   simp only[hat,hp,↓zq,zs,ae]
   refine⟨fun _=>aj (JL _) ?_,fun h=>by cases h⟩
   simp only[↓zq,zs,ae]
   rw[wrap64 _ (by omega) (by omega)]
   refine aj (B3 _ _ _) ?_
   simp only[↓zq,zs,ae,C5,(Tu v hv).2]
   cases v with
   |
    el k =>
    simp only[fh,hh',h1',hp,zf]
    congr 2
    rw[cA];simp;omega
   |_=>simp[fh,hh',h1']
  ·have hok:=A'.ok
   obtain⟨ok1,ok2,ok3,_⟩:=hok
   obtain⟨f1,f2⟩:=fF A'.cl
   refine⟨fun h=>absurd rfl h,fun _=>aj (vo x [a,b]) ?_⟩
   simp only[↓zq,zs,ae]
   refine aj hvh ?_
   rw[hx]
   cases v with
   |
    l w =>
    simp only[Vl.nodes]at hl
    simp only[vh,Vl.cN,E.sp,E.bx,toNat_one,bg,↓zq,zs,ae,zt,iT,gu,ja,mF,au]
    refine⟨by simp,fun _=>⟨by omega,by omega,aj (zY n hn m w (by simp only[Vl.nodes]at hm;omega) hv a o t1 ⟨ok2,A'.wf,ha,f1⟩ (by omega)) ?_⟩,fun h=>absurd rfl h⟩
    simp[↓zq,zs,ae,fh,hh',hx]
   |
    r w =>
    simp only[Vl.nodes]at hl
    simp only[vh,Vl.cN,E.sp,E.bx,toNat_one,bg,↓zq,zs,ae,zt,iT,gu,ja,mF,au]
    refine⟨by simp,fun h=>by simp at h,fun _=>⟨fun _=>⟨by omega,by omega,aj (zY n hn m w (by simp only[Vl.nodes]at hm;omega) hv b o t2 ⟨ok3,A'.wf,hbb,f2⟩ (by omega)) ?_⟩,fun h=>absurd rfl h⟩⟩
    simp[↓zq,zs,ae,fh,hh',hx]
   |_=>simp[vh,↓zq,zs,ae,zt,fh,hh',hx]
  ·have hok:=A'.ok
   obtain⟨ok1,ok2,ok3,_⟩:=hok
   obtain⟨f1,f2⟩:=fg A'.cl
   refine⟨fun h=>absurd rfl h,fun _=>aj (vo x [a,b]) ?_⟩
   simp only[↓zq,zs,ae]
   refine aj hvh ?_
   rw[hx]
   cases v with
   |
    p w z =>
    simp only[Vl.nodes]at hl
    simp only[vh,Vl.cN,E.sp,E.bx,toNat_one,bg,↓zq,zs,ae,zt,iT,gu,ja,mF,au]
    refine⟨by simp,fun h=>by simp at h,fun _=>⟨fun h=>by simp at h,fun _=>⟨fun _=>⟨by omega,by omega,aj (zY n hn m w (by simp only[Vl.nodes]at hm;omega) hv.1 a o t1 ⟨ok2,A'.wf,ha,f1⟩ (by omega)) ?_⟩,fun h=>absurd rfl h⟩⟩⟩
    simp only[↓zq,zs,ae,fh,hh',hx]
    refine⟨fun h=>⟨by omega,by omega,aj (zY n hn m z (by simp only[Vl.nodes]at hm;omega) hv.2 b o t2 ⟨ok3,A'.wf,hbb,f2⟩ (by omega)) ?_⟩,fun h=>?_⟩
    ·simp[↓zq,zs,ae,h]
    ·simp[h]
   |_=>simp[vh,↓zq,zs,ae,zt,fh,hh',hx]
  ·obtain⟨t1',he1,h1,f1,hw1⟩:=jy A'.wf A'.ok hx A'.ty A'.cl
   cases he1
   have hok:=A'.ok
   obtain⟨ok1,ok2,ok3,_⟩:=hok
   refine⟨fun h=>absurd rfl h,fun _=>aj (vo x [a,b]) ?_⟩
   simp only[↓zq,zs,ae]
   refine aj hvh ?_
   rw[hx]
   cases v with
   |
    f w =>
    simp only[Vl.nodes]at hl
    simp only[vh,Vl.cN,E.sp,E.bx,toNat_one,bg,↓zq,zs,ae,zt,iT,gu,ja,mF,au]
    refine⟨by simp,fun h=>by simp at h,fun _=>⟨fun h=>by simp at h,fun _=>⟨fun h=>by simp at h,fun _=>⟨fun _=>aj (PX x a b o (by omega)) ?_,fun h=>absurd rfl h⟩⟩⟩⟩
    simp only[↓zq,zs,ae,yw,Ei]
    refine⟨by omega,aj (zY n hn m w (by simp only[Vl.nodes]at hm;omega) hv b (.mk a.at (.list [x,a,b]) o::o) t1 ⟨ok3,hw1,h1,f1⟩ (by simp;omega)) ?_⟩
    simp[↓zq,zs,ae,fh,hh',hx]
   |_=>simp[vh,↓zq,zs,ae,zt,fh,hh',hx]
theorem SW(n:Nat)(hn:n<=100)(v:Vl)(hv:v.il 100)(e:E)(env:List Fr)(t:Ty)(A:Ask e env t)(hl:env.length+v.nodes<100000):an Tryz.prog 94 [e.kT,.sl (ku env),v.cN.kT,.v (.int .i64 (n:Int))] [] (bJ (.v (.bool (fh n v (e,env))))):=zY n hn (v.nodes+1) v (by omega) hv e env t A hl
end Go.Proofs.Trees
namespace Go.Proofs.Trees
open Go Go.VL Go.RowKit
theorem LP(l:List (List UInt8))(a:AV)(ha:cw a l)(s:List UInt8)(hl:l.length<1000000):∀(k i:Nat),i+k=l.length->FL [a,.v (.string (mk s)),.v (.int .i64 (i:Int))] []
 (nK (if s∈l.drop i then(2,[.v (.bool true)],[])else(1,[],[])))
 |
  0,i,hi=>by
  refine Kf _ _ _ ?_
  have hd:l.drop i=[]:=bV (by omega)
  simp only[Gy,↓zq,zs,ae,hd,ha.len]
  exact⟨ha.1,ha.1,fun h=>by omega,fun _=>by simp[nK]⟩
 |
  k+1,i,hi=>by
  have hlt:i<l.length:=by omega
  have hdr:l.drop i=l.getD i []::l.drop (i+1):=by
   rw[aT hlt];simp[aa,hlt]
  refine Kf _ _ _ ?_
  simp only[Gy,↓zq,zs,ae,zt,ha.len,ha.idx hlt]
  refine⟨ha.1,ha.1,fun _=>⟨⟨ha.1,by omega,by omega⟩,by omega,fun h=>?_,fun h=>?_⟩,fun h=>by omega⟩
  ·rw[hdr,h];simp[nK]
  ·rw[bA i (by omega)]
   have:=LP l a ha s hl k (i+1) (by omega)
   have e:s∈l.drop i↔s∈l.drop (i+1):=by
    rw[hdr,aK];exact⟨fun q=>q.resolve_left (fun q=>h q.symm),.inr⟩
   simp only[e];exact this
theorem xB(l:List (List UInt8))(a:AV)(ha:cw a l)(s:List UInt8)(hl:l.length<1000000):an Tryz.prog 118 [a,.v (.string (mk s))] [] (bJ (.v (.bool (decide (s∈l))))):=by
 refine Sy _ _ ha.1 ?_
 unfold Ot
 refine fA (LP l a ha s hl l.length 0 (by omega)) (fun ys o e=>?_) (fun ys o e=>?_)
 ·simp only[bf]at e
  split at e<;>cases e
  rename_i h
  simp[↓zq,zs,ae,bJ,h]
 ·simp only[bf]at e
  split at e<;>cases e
  rename_i h
  simp[↓zq,zs,ae,bJ,h]
theorem HS(l:List (List UInt8))(a:AV)(ha:cw a l)(s:List UInt8)(hl:l.length<1000000):an Tryz.prog 52 [a,.v (.string (mk s))] [] (di (.vec 0) [.vec 1 (bG (l++[s]))]):=by
 refine S2 _ _ ha.1 ?_
 simp only[Nn,↓zq,zs,ae,ha.2,di,aS]
 have:(bG l).length=l.length:=by simp[bG]
 refine⟨⟨ha.1,kL l,by omega⟩,⟨fun c hc=>(by simp at hc;rw[hc];rfl),by omega⟩,?_⟩
 first|exact⟨rfl,by rw[Ft]⟩|rw[Ft]
def kB:E->List (List UInt8)->List (List UInt8)->List (List UInt8)
 | .atom s,bd,l=>if s=[48]\/s=[49]\/s∈bd\/s∈l then l else l++[s]
 | .list [x,a,b],bd,l=>if x.at=[114,101,99]then kB b (bd++[a.at]) l else kB b bd (kB a bd l)
 | .list _,_,l=>l
theorem gl:∀(e:E) (bd l:List (List UInt8)),(kB e bd l).length<=l.length+e.sz
 | .atom s,bd,l=>by rw[kB];split<;>simp[E.sz]
 | .list [],bd,l=>by simp[kB]
 | .list [_],bd,l=>by simp[kB]
 | .list [_,_],bd,l=>by simp[kB]
 | .list (_::_::_::_::_),bd,l=>by simp[kB]
 |
  .list [x,a,b],bd,l=>by
  rw[kB]
  simp only[E.sz,E.jB]
  split
  ·have:=gl b (bd++[a.at]) l;omega
  ·have:=gl a bd l
   have:=gl b bd (kB a bd l)
   omega
theorem Eo:∀(e:E) (bd l:List (List UInt8)) (a:AV),e.ok->kj e=true->cw a bd->bd.length+l.length+e.sz<100000->an Tryz.prog 84 [e.kT,a,.vec 0] [.vec 1 (bG l)] (di (.vec 1) [.dead,.vec 1 (bG (kB e bd l))])
 |
  .atom s,bd,l,a,hok,hty,ha,hl=>by
  simp only[E.sz]at hl
  refine zH _ _ _ _ ((bh).mpr trivial) ha.1 ?_
  have hne:s≠[]:=hok
  have hll:(bG l).length=l.length:=by simp[bG]
  simp only[xz,↓zq,zs,ae,zt,di,kB]
  refine⟨fun _=>⟨fun h=>?_,fun h=>⟨fun h1=>?_,fun h1=>?_⟩⟩,fun h=>absurd h hne⟩
  ·rw[if_pos (.inl h)]
  ·rw[if_pos (.inr (.inl h1))]
  ·refine aj (xB bd a ha s (by omega)) ?_
   simp only[↓zq,zs,ae]
   refine⟨fun h2=>?_,fun h2=>aj (xB l _ (.of l) s (by omega)) ?_⟩
   ·rw[if_pos (.inr (.inr (.inl h2)))]
   ·simp only[↓zq,zs,ae]
    refine⟨fun h3=>?_,fun h3=>⟨⟨fun c hc=>(by simp at hc;rw[hc];rfl),by omega⟩,?_⟩⟩
    ·rw[if_pos (.inr (.inr (.inr h3)))]
    ·rw[Ft,if_neg]
     rintro(q|q|q|q)
     ·exact h q
     ·exact h1 q
     ·exact h2 q
     ·exact h3 q
 | .list [],_,_,_,_,h,_,_=>by cases h
 | .list [_],_,_,_,_,h,_,_=>by cases h
 | .list [_,_],_,_,_,_,h,_,_=>by cases h
 | .list (_::_::_::_::_),_,_,_,_,h,_,_=>by cases h
 |
  .list [x,y,z],bd,l,a,hok,hty,ha,hl=>by
  simp only[E.sz,E.jB]at hl
  obtain⟨ok1,ok2,ok3,_⟩:=hok
  refine zH _ _ _ _ ((cn _).mpr trivial) ha.1 ?_
  simp only[xz,E.bx,toNat_one,bg,↓zq,zs,ae,zt,iT,gu,ja,mF,au,di]
  refine⟨fun h=>absurd rfl h,fun _=>aj (vo x [y,z]) ?_⟩
  simp only[↓zq,zs,ae,zt]
  have hyl:=gl y bd l
  rw[kj]at hty
  refine⟨fun h=>⟨by omega,by omega,by omega,aV (HS bd a ha y.at (by omega)) ?_⟩,fun h=>⟨by omega,by omega,?_⟩⟩
  ·have hz:kj z=true:=by
    rw[if_neg (by rw[h];decide),if_neg (by rw[h];decide),if_pos h]at hty
    simp only[aw]at hty;exact hty.2
   simp only[↓zq,zs,ae,Ob.es,aL]
   refine⟨dW _,?_⟩
   refine aV (Eo z (bd++[y.at]) l _ ok3 hz (.of _) (by simp;omega)) ?_
   simp only[↓zq,zs,ae]
   rw[kB,if_pos h]
  ·have hyz:kj y=true/\kj z=true:=by
    split at hty
    ·simpa using hty
    ·split at hty
     ·simpa using hty
     ·cases hty
   refine aV (Eo y bd l a ok2 hyz.1 ha (by omega)) ?_
   simp only[↓zq,zs,ae]
   refine aV (Eo z bd (kB y bd l) a ok3 hyz.2 ha (by omega)) ?_
   simp only[↓zq,zs,ae]
   rw[kB,if_neg h]
theorem kG{s:List UInt8}(h:ia s=true):dr s=false:=by
 cases hq:dr s with
 |false=>rfl
 |
  true =>
  obtain⟨c,r,rfl,h1,h2⟩:=ml h
  obtain⟨c',r',he,h3,h4⟩:=ml hq
  cases he;omega
theorem mM(s:List UInt8)(ar:List (List UInt8)):∀i,i<=ar.length->(bR s ar i=none↔s∉ar.take i)
 |0,_=>by simp[bR]
 |
  i+1,hi=>by
  have hlt:i<ar.length:=by omega
  have e:ar.getD i []=ar[i]:=by simp[aa,hlt]
  have e2:s∈ar.take (i+1)↔s∈ar.take i\/s=ar[i]:=by
   rw[show ar.take (i+1)=ar.take i++[ar[i]] from (List.take_append_getElem hlt).symm]
   simp only[aN,aQ]
  rw[bR,e,e2]
  by_cases h:ar[i]=s
  ·rw[if_pos h]
   exact⟨fun h=>(by cases h),fun h'=>absurd (.inr h.symm) h'⟩
  ·rw[if_neg h,mM s ar i (by omega)]
   exact⟨fun h1 h2=>h2.elim h1 (fun h3=>h h3.symm),fun h1 h2=>h1 (.inl h2)⟩
theorem mi:∀(e:E) (ar l:List (List UInt8)) (t:Ty),cV e ar=some t->(∀w,w∈ar->dr w=true)->(kB e ar l).any dr=(l.any dr||cd t)
 |
  .atom s,ar,l,t,h,har=>by
  simp only[cV]at h
  rw[kB]
  split at h
  ·rename_i h0;cases h;rw[if_pos (.inl h0)];simp[cd]
  ·rename_i h0
   split at h
   ·rename_i h1;cases h;rw[if_pos (.inr (.inl h1))];simp[cd]
   ·rename_i h1
    split at h
    ·rename_i h2
     cases h
     have hn:=kG h2
     simp only[cd,hn]
     split
     ·simp
     ·simp[hn]
    ·split at h
     ·rename_i h2 h3
      have hlo:=mM s ar ar.length (au _)
      rw[List.take_length]at hlo
      cases hq:bR s ar ar.length with
      |
       some u =>
       rw[hq]at h;cases h
       have hm:s∈ar:=Classical.byContradiction fun hm=>by rw[hlo.2 hm]at hq;cases hq
       rw[if_pos (.inr (.inr (.inl hm)))];simp[cd]
      |
       none =>
       rw[hq]at h;cases h
       have hm:=hlo.1 hq
       simp only[cd,h3,Bool.or_true]
       split
       ·rename_i hh
        rcases hh with q|q|q|q
        ·exact absurd q h0
        ·exact absurd q h1
        ·exact absurd q hm
        ·rw[cu];exact⟨s,q,h3⟩
       ·simp[h3]
     ·cases h
 | .list [],_,_,_,h,_=>by cases h
 | .list [_],_,_,_,h,_=>by cases h
 | .list [_,_],_,_,_,h,_=>by cases h
 | .list (_::_::_::_::_),_,_,_,h,_=>by cases h
 |
  .list [x,a,b],ar,l,t,h,har=>by
  rw[kB]
  by_cases h0:x.at=[43]
  ·obtain⟨t1,t2,e1,e2,rfl⟩:=fQ h0 h
   rw[if_neg (by rw[h0];decide),mi b ar _ t2 e2 har,mi a ar l t1 e1 har,cd,Bool.or_assoc]
  ·by_cases h1:x.at=[42]
   ·obtain⟨t1,t2,e1,e2,rfl⟩:=fu h1 h
    rw[if_neg (by rw[h1];decide),mi b ar _ t2 e2 har,mi a ar l t1 e1 har,cd,Bool.or_assoc]
   ·by_cases h2:x.at=[114,101,99]
    ·obtain⟨t1,hl,e1,rfl⟩:=dD h2 h
     rw[if_pos h2,mi b _ l t1 e1 (fun w hw=>by
      simp only[aN,aQ]at hw
      rcases hw with hw|rfl
      ·exact har w hw
      ·exact hl),cd]
    ·rw[jq _ h0 h1 h2]at h;cases h
def jL(s:List UInt8):Option E:=match wN s with
 |none=>none
 |some e=>if(kB e [] []).any dr=true then none else some e
theorem BS{s:List UInt8}:xu s=match jL s with|none=>none|some e=>cV e []:=by
 unfold xu jL
 rw[uz]
 cases he:wN s with
 |none=>rfl
 |
  some e =>
  obtain⟨h1,h2,h3⟩:=qf he
  have hs:=iX e []
  rw[h2]at hs
  obtain⟨t,ht⟩:=cc.1 hs
  have ha:=mi e [] [] t ht (fun w hw=>by cases hw)
  simp only[ht,tC,ha,List.any_nil,Bool.false_or]
  cases hf:cd t<;>simp[ht]
theorem hD{s:List UInt8}{e:E}(h:jL s=some e):∃t,xu s=some t/\Ask e [] t/\kj e=true/\e.sz<=8000/\t.atoms<=400/\qU s=some e:=by
 have h0:=h
 unfold jL at h
 split at h
 ·cases h
 ·rename_i e' he
  split at h
  ·cases h
  ·rename_i hn
   cases h
   obtain⟨h1,h2,h3⟩:=qf he
   obtain⟨hok,hsz⟩:=nS h1
   have hs:=iX e []
   rw[h2]at hs
   obtain⟨t,ht⟩:=cc.1 hs
   have ha:=mi e [] [] t ht (fun w hw=>by cases hw)
   rw[ha]at hn
   refine⟨t,by rw[BS,h0];exact ht,⟨hok,.nil,ht,by simpa using hn⟩,h2,hsz,?_,h1⟩
   rw[<-km e [] t ht];exact h3
theorem nk{s:List UInt8}(h:jL s=none):xu s=none:=by rw[BS,h]
theorem KH(e:E)(l:List (List UInt8))(hl:l.length<1000000):∀(k i:Nat),i+k=l.length->FR [.v (.int .i64 (i:Int))] [.cells [.v (.string (mk [])),.v (.slice none 0 0)],.cells [.v (.string (mk e.at)),e.sp],.vec 1 (bG l)]
 (nK (if(l.drop i).any dr=true then(2,[.v (.bool false)],[.cells [.v (.string (mk e.at)),e.sp]])else(1,[],[.cells [.v (.string (mk [])),.v (.slice none 0 0)],.cells [.v (.string (mk e.at)),e.sp]])))
 |
  0,i,hi=>by
  refine JE _ _ _ _ _ _ ?_
  have hd:l.drop i=[]:=bV (by omega)
  have hll:(bG l).length=l.length:=by simp[bG]
  simp only[IT,↓zq,zs,ae,hd,hll,aY]
  exact⟨fun h=>by omega,fun _=>by simp[nK]⟩
 |
  k+1,i,hi=>by
  have hlt:i<l.length:=by omega
  have hll:(bG l).length=l.length:=by simp[bG]
  have hdr:l.drop i=l.getD i []::l.drop (i+1):=by
   rw[aT hlt];simp[aa,hlt]
  have hg:=(cw.of l).idx hlt
  simp only[fL]at hg
  refine JE _ _ _ _ _ _ ?_
  simp only[IT,↓zq,zs,ae,zt,hll,hg,aY]
  refine⟨fun _=>⟨by omega,by omega,aj (G0 _) ?_⟩,fun h=>by omega⟩
  simp only[↓zq,zs,ae,hdr,List.any_cons]
  refine⟨fun h=>?_,fun h=>?_⟩
  ·rw[h];simp[nK]
  ·rw[h,bA i (by omega)]
   simp only[Bool.false_or]
   exact KH e l hl k (i+1) (by omega)
theorem HU(s:List UInt8):an Tryz.prog 61 [.v (.string (mk s))] [] (jP (jL s) (jL s).isSome):=by
 refine Tb _ ?_
 unfold LG
 refine aP (IN s) (jP.ne _ _ (fun h=>h)) ?_
 rintro r o ⟨c,d,hd,rfl,hh⟩
 have hhas:bH [.str,.sl] [.v (.string (mk c)),d] 0:=by simp[bH,ef,hd]
 simp only[↓zq,zs,ae,zt]
 refine⟨hhas,fun h=>?_,fun h=>?_⟩
 ·have hn:wN s=none:=by cases hq:wN s<;>simp[hq]at h |-
  unfold jL
  rw[hn]
  exact⟨c,d,hd,rfl,fun h=>by cases h⟩
 ·obtain⟨e,he,hce⟩:=hh h
  obtain⟨h1,h2,h3⟩:=qf he
  obtain⟨hok,hsz⟩:=nS h1
  have hce':=hce
  rw[dq]at hce'
  simp only[AV.agg.injEq,List.cons.injEq,AV.v.injEq,Value.string.injEq,and_true]at hce'
  obtain⟨hc1,rfl⟩:=hce'
  have hc2:=mk_inj hc1
  subst hc2
  rw[<-dq]
  refine aV (Eo e [] [] _ hok h2 (.of []) (by simp;omega)) ?_
  have hfl:=gl e [] []
  simp only[↓zq,zs,ae]
  have hLS:=KH e (kB e [] []) (by simp at hfl;omega) (kB e [] []).length 0 (by omega)
  simp only[bf]at hLS
  unfold jL
  rw[he]
  refine fA hLS (fun ys o e'=>?_) (fun ys o e'=>?_)
  ·split at e'<;>cases e'
   rename_i hn
   simp only[↓zq,zs,ae,aY,if_neg hn]
   exact⟨e.at,e.sp,hd,rfl,fun _=>⟨e,rfl,(dq e).symm⟩⟩
  ·split at e'<;>cases e'
   rename_i hn
   simp only[↓zq,zs,ae,aY,if_pos hn]
   exact⟨e.at,e.sp,hd,rfl,fun h=>by cases h⟩
def nI(s v:List UInt8)(n:Int):Option Vl:=match jL s,sK v with
 |some e,some w=>if(0<=n/\n<=100)/\fh n.toNat w (e,[])=true then some w else none
 |_,_=>none
theorem pB{s v:List UInt8}{n:Int}{w:Vl}(h:nI s v n=some w):∃e t m,jL s=some e/\sK v=some w/\xu s=some t/\Ask e [] t/\n=(m:Nat)/\m<=100/\fh m w (e,[])=true:=by
 unfold nI at h
 split at h
 ·rename_i e w' he hw
  split at h
  ·rename_i hh
   cases h
   obtain⟨t,h1,h2,_⟩:=hD he
   exact⟨e,t,n.toNat,he,hw,h1,h2,by omega,by omega,hh.2⟩
  ·cases h
 ·cases h
theorem Mi(s v:List UInt8)(n:Int):an Tryz.prog 71 [.v (.string (mk s)),.v (.string (mk v)),.v (.int .i64 n)] [] (bJ (.cI [ik (xu s),jE (nI s v n)])):=by
 refine QT _ _ _ ?_
 unfold O6
 refine aj (Ld s) ?_
 simp only[↓zq,zs,ae,iG]
 refine aj (SX v) ?_
 simp only[↓zq,zs,ae,gy,bJ]
 unfold nI
 cases he:jL s with
 |none=>rw[nk he];cases sK v<;>simp[ik,jE,↓zq,zs,ae]
 |
  some e =>
  obtain⟨t,h1,h2,h3,h4,h5,_⟩:=hD he
  rw[h1]
  cases hv:sK v with
  |none=>simp only[ik,jE,aF,fT,↓zq,zs,ae];exact⟨fun h=>(by cases h),fun _=>⟨fun _=>trivial,fun h=>(by cases h)⟩⟩
  |
   some w =>
   obtain⟨h6,h7,h8⟩:=mj hv
   simp only[ik,jE,aF,fT,aO,fI,↓zq,zs,ae]
   refine⟨fun h=>(by cases h),fun _=>⟨fun h=>(by cases h),fun _=>⟨fun h=>?_,fun h=>⟨fun h'=>?_,fun h'=>?_⟩⟩⟩⟩
   ·rw[if_neg (by omega)]
   ·rw[if_neg (by omega)]
   ·obtain⟨m,rfl⟩:∃m:Nat,n=(m:Int):=⟨n.toNat,by omega⟩
    have hi:=KP m (by omega) (w.nodes+1) w (by omega) h7 e [] t h2 (by simp;omega)
    unfold qk at hi
    refine aj hi ?_
    simp only[↓zq,zs,ae,bF]
    refine⟨fun hq=>?_,fun hq=>?_⟩
    ·rw[if_neg (by rw[hq];simp)]
    ·rw[if_pos ⟨by omega,hq⟩]
theorem Aj(s v:List UInt8)(n:Int):an Tryz.prog 68 [.v (.string (mk s)),.v (.string (mk v)),.v (.int .i64 n)] [] (bJ (.v (.bool (nI s v n).isSome))):=by
 refine SB _ _ _ ?_
 unfold Nu
 refine aP (HU s) (jP.ne _ _ (fun h=>h)) ?_
 rintro r o ⟨c,d,hd,rfl,hh⟩
 have hhas:bH [.str,.sl] [.v (.string (mk c)),d] 0:=by simp[bH,ef,hd]
 simp only[↓zq,zs,ae,zt]
 refine⟨hhas,?_⟩
 refine aP (D5 v) (jP.ne _ _ (fun h=>by cases hq:sK v<;>simp[hq]at h |-)) ?_
 rintro r o ⟨c',d',hd',rfl,hh'⟩
 have hhas':bH [.str,.sl] [.v (.string (mk c')),d'] 0:=by simp[bH,ef,hd']
 simp only[↓zq,zs,ae,zt,bJ]
 refine⟨hhas',fun h=>⟨fun h2=>?_,fun h2=>?_⟩,fun h=>?_⟩
 ·obtain⟨e,he,hce⟩:=hh h
  obtain⟨t,h1,hA,h3,h4,h5,_⟩:=hD he
  obtain⟨w,hw⟩:=cc.1 h2
  obtain⟨e2,he2,hce2⟩:=hh' h2
  rw[hw]at he2
  cases he2
  obtain⟨h6,h7,h8⟩:=mj hw
  refine aj (B3 _ _ _) ?_
  simp only[↓zq,zs,ae,C5,nI,he,hw]
  refine⟨fun hq=>?_,fun hq=>?_⟩
  ·have hq':0<=n/\n<=100:=by simpa using hq
   obtain⟨m,rfl⟩:∃m:Nat,n=(m:Int):=⟨n.toNat,by omega⟩
   rw[hce,hce2]
   have:=SW m (by omega) w h7 e [] t hA (by simp;omega)
   rw[show ku []=[] from rfl]at this
   refine aj this ?_
   simp only[↓zq,zs,ae,bF]
   by_cases hb:fh m w (e,[])=true
   ·rw[if_pos ⟨hq',hb⟩,hb];rfl
   ·rw[if_neg (fun h=>hb h.2)]
    rw[Bool.not_eq_true]at hb
    rw[hb];rfl
  ·have hq':¬(0<=n/\n<=100):=by simpa using hq
   rw[if_neg (fun h=>hq' h.1)];rfl
 ·have hn:sK v=none:=by cases hq:sK v<;>simp[hq]at h2 |-
  unfold nI
  rw[hn];cases jL s<;>rfl
 ·have hn:jL s=none:=by cases hq:jL s<;>simp[hq]at h |-
  unfold nI
  rw[hn];rfl
end Go.Proofs.Trees
namespace Go.Proofs.Trees
open Go Go.VL Go.RowKit
inductive Tg where
 |nm (s:List UInt8)
 |bd (k:Nat)
 deriving DecidableEq
def Tg.up:Tg->Tg
 | .nm s=>.nm s
 | .bd k=>.bd (k+1)
def dT:Ty->Tg->Bool
 | .name s,.nm s'=>decide (s=s')
 | .bound u,.bd k=>decide (u=k)
 |_,_=>false
abbrev Hl:=Vl×Vl
def eW(g:Vl->Vl)(l:List Hl):List Hl:=l.map fun h=>(g h.1,h.2)
def iZ(f:Ty->Tg->Vl->List Hl)(tg:Tg):Ty->Vl->List Hl
 | .plus a _,.l w=>eW .l (f a tg w)
 | .plus _ b,.r w=>eW .r (f b tg w)
 | .times a b,.p x y=>eW (fun c=>.l (.p c y)) (f a tg x)++eW (fun c=>.r (.p x c)) (f b tg y)
 | .rc a,.f w=>eW (fun c=>.f (.l c)) (f a tg.up w)++(f a (.bd 0) w).flatMap fun h=>eW (fun c=>.f (.r (.p h.1 c))) (f (.rc a) tg h.2)
 |_,_=>[]
def dH:Nat->Ty->Tg->Vl->List Hl
 |0,_,_,_=>[]
 |n+1,t,tg,v=>if dT t tg=true then [(.u,v)]else iZ (dH n) tg t v
def stuck:Ty->Vl->Bool
 | .plus _ _,.l _=>false
 | .plus _ _,.r _=>false
 | .times _ _,.p _ _=>false
 | .rc _,.f _=>false
 |_,_=>true
def bM(t:Ty)(tg:Tg)(v:Vl):List Hl:=dH v.nodes t tg v
theorem da{g:Vl->Vl}{l:List Hl}{h:Hl}(hm:h∈eW g l):∃k,k∈l/\h=(g k.1,k.2):=by
 obtain⟨k,h1,h2⟩:=bO.1 hm
 exact⟨k,h1,h2.symm⟩
theorem jd{f g:Hl->List Hl}:∀{l:List Hl},(∀h,h∈l->f h=g h)->l.flatMap f=l.flatMap g
 |[],_=>rfl
 |h::l,hl=>by rw[cf,cf,hl h ak,jd (l:=l) fun k hk=>hl k (al _ hk)]
theorem fp:∀(n:Nat) (t:Ty) (tg:Tg) (v:Vl) (h:Hl),h∈dH n t tg v->h.2.nodes<=v.nodes/\h.1.nodes+4*h.2.nodes<=4*v.nodes+1
 |0,t,tg,v,h,hm=>by simp[dH]at hm
 |
  n+1,t,tg,v,h,hm=>by
  unfold dH at hm
  split at hm
  ·simp only[aQ]at hm
   subst hm
   simp only[Vl.nodes];omega
  ·unfold iZ at hm
   split at hm
   ·obtain⟨k,h1,rfl⟩:=da hm
    have:=fp n _ _ _ k h1
    simp only[Vl.nodes];omega
   ·obtain⟨k,h1,rfl⟩:=da hm
    have:=fp n _ _ _ k h1
    simp only[Vl.nodes];omega
   ·rcases aN.1 hm with hm|hm
    ·obtain⟨k,h1,rfl⟩:=da hm
     have:=fp n _ _ _ k h1
     simp only[Vl.nodes];omega
    ·obtain⟨k,h1,rfl⟩:=da hm
     have:=fp n _ _ _ k h1
     simp only[Vl.nodes];omega
   ·rcases aN.1 hm with hm|hm
    ·obtain⟨k,h1,rfl⟩:=da hm
     have:=fp n _ _ _ k h1
     simp only[Vl.nodes];omega
    ·obtain⟨k,h1,h2⟩:=List.mem_flatMap.1 hm
     obtain⟨k2,h3,rfl⟩:=da h2
     have:=fp n _ _ _ k h1
     have:=fp n _ _ _ k2 h3
     simp only[Vl.nodes];omega
   ·simp at hm
theorem gZ:∀(n m:Nat) (t:Ty) (tg:Tg) (v:Vl),v.nodes<=n->v.nodes<=m->dH n t tg v=dH m t tg v
 |0,m,t,tg,v,h,_=>by have:=dk v;omega
 |n+1,0,t,tg,v,_,h=>by have:=dk v;omega
 |
  n+1,m+1,t,tg,v,hn,hm=>by
  rw[dH,dH]
  split
  ·rfl
  ·unfold iZ
   split
   ·simp only[Vl.nodes]at hn hm;rw[gZ n m _ _ _ (by omega) (by omega)]
   ·simp only[Vl.nodes]at hn hm;rw[gZ n m _ _ _ (by omega) (by omega)]
   ·simp only[Vl.nodes]at hn hm;rw[gZ n m _ _ _ (by omega) (by omega),gZ n m _ _ _ (by omega) (by omega)]
   ·rename_i a w
    simp only[Vl.nodes]at hn hm;rw[gZ n m _ _ _ (by omega) (by omega),gZ n m _ (.bd 0) _ (by omega) (by omega)]
    congr 1
    apply jd
    intro h hh
    have:=(fp _ _ _ _ _ hh).1
    rw[gZ n m _ _ _ (by omega) (by omega)]
   ·rfl
theorem oW{n:Nat}(t:Ty)(tg:Tg){v:Vl}(h:v.nodes<=n):dH n t tg v=bM t tg v:=gZ _ _ _ _ _ h (au _)
theorem kh{t:Ty}{tg:Tg}(v:Vl)(h:dT t tg=true):bM t tg v=[(.u,v)]:=by
 have:=dk v
 unfold bM
 cases e:v.nodes with
 |zero=>omega
 |succ n=>rw[dH,if_pos h]
theorem ji(a b:Ty)(tg:Tg)(w:Vl):bM (.plus a b) tg (.l w)=eW .l (bM a tg w):=by
 unfold bM;rw[show (Vl.l w).nodes=w.nodes+1 by simp[Vl.nodes];omega,dH,if_neg (by simp[dT])];rfl
theorem jo(a b:Ty)(tg:Tg)(w:Vl):bM (.plus a b) tg (.r w)=eW .r (bM b tg w):=by
 unfold bM;rw[show (Vl.r w).nodes=w.nodes+1 by simp[Vl.nodes];omega,dH,if_neg (by simp[dT])];rfl
theorem gk(a b:Ty)(tg:Tg)(x y:Vl):bM (.times a b) tg (.p x y)=eW (fun c=>.l (.p c y)) (bM a tg x)++eW (fun c=>.r (.p x c)) (bM b tg y):=by
 rw[bM,show (Vl.p x y).nodes=(x.nodes+y.nodes)+1 by simp[Vl.nodes];omega,dH,if_neg (by simp[dT])]
 rw[iZ,oW a tg (by omega),oW b tg (by omega)]
theorem gd(a:Ty)(tg:Tg)(w:Vl):bM (.rc a) tg (.f w)=eW (fun c=>.f (.l c)) (bM a tg.up w)++(bM a (.bd 0) w).flatMap fun h=>eW (fun c=>.f (.r (.p h.1 c))) (bM (.rc a) tg h.2):=by
 rw[bM,show (Vl.f w).nodes=w.nodes+1 by simp[Vl.nodes];omega,dH,if_neg (by simp[dT])]
 rw[iZ,oW a tg.up (au _),oW a (.bd 0) (au _)]
 congr 1
 apply jd
 intro h hh
 have:=(fp _ _ _ _ _ hh).1
 rw[oW (.rc a) tg this]
theorem dz{t:Ty}{tg:Tg}{v:Vl}(h:dT t tg=false)(h2:stuck t v=true):bM t tg v=[]:=by
 unfold bM
 cases e:v.nodes with
 |zero=>rfl
 |
  succ n =>
  rw[dH,if_neg (by rw[h];simp)]
  unfold iZ
  split<;>first|(simp[stuck]at h2;done)|rfl
theorem ir{t:Ty}{tg:Tg}{v:Vl}{h:Hl}(hm:h∈bM t tg v):h.2.nodes<=v.nodes/\h.1.nodes+4*h.2.nodes<=4*v.nodes+1:=fp _ _ _ _ _ hm
theorem ig(n:Nat):∀(m:Nat) (t:Ty) (tg:Tg) (v:Vl) (h:Hl),v.il n->h∈dH m t tg v->h.1.il n/\h.2.il n
 |0,t,tg,v,h,hv,hm=>by simp[dH]at hm
 |
  m+1,t,tg,v,h,hv,hm=>by
  unfold dH at hm
  split at hm
  ·simp only[aQ]at hm
   subst hm
   exact⟨trivial,hv⟩
  ·unfold iZ at hm
   split at hm
   ·obtain⟨k,h1,rfl⟩:=da hm
    exact(fun q=>ig n m _ _ _ k q h1) hv
   ·obtain⟨k,h1,rfl⟩:=da hm
    exact(fun q=>ig n m _ _ _ k q h1) hv
   ·rcases aN.1 hm with hm|hm
    ·obtain⟨k,h1,rfl⟩:=da hm
     obtain⟨q1,q2⟩:=ig n m _ _ _ k hv.1 h1
     exact⟨⟨q1,hv.2⟩,q2⟩
    ·obtain⟨k,h1,rfl⟩:=da hm
     obtain⟨q1,q2⟩:=ig n m _ _ _ k hv.2 h1
     exact⟨⟨hv.1,q1⟩,q2⟩
   ·rcases aN.1 hm with hm|hm
    ·obtain⟨k,h1,rfl⟩:=da hm
     exact(fun q=>ig n m _ _ _ k q h1) hv
    ·obtain⟨k,h1,h2⟩:=List.mem_flatMap.1 hm
     obtain⟨k2,h3,rfl⟩:=da h2
     obtain⟨q1,q2⟩:=(fun q=>ig n m _ _ _ k q h1) hv
     obtain⟨q3,q4⟩:=ig n m _ _ _ k2 q2 h3
     exact⟨⟨q1,q3⟩,q4⟩
   ·simp at hm
def lC(l:List Hl):Nat:=(l.map fun h=>h.2.nodes).sum
theorem rG(l r:List Hl):lC (l++r)=lC l+lC r:=by simp[lC]
theorem pE(g:Vl->Vl)(l:List Hl):lC (eW g l)=lC l:=by simp[lC,eW,Function.comp_def]
def kO(f:Tg->Nat)(T:List Tg):Nat:=(T.map f).sum
theorem pn(f g:Tg->Nat):∀T:List Tg,kO (fun x=>f x+g x) T=kO f T+kO g T
 |[]=>rfl
 |x::T=>by have:=pn f g T;simp only[kO,bB,List.sum_cons]at this |-;omega
theorem zm{f g:Tg->Nat}:∀{T:List Tg},(∀x,x∈T->f x<=g x)->kO f T<=kO g T
 |[],_=>au _
 |
  x::T,h=>by
  have:=zm (T:=T) fun y hy=>h y (al _ hy)
  have:=h x ak
  simp only[kO,bB,List.sum_cons]at *;omega
theorem pX{f:Tg->Nat}:∀{T:List Tg},(∀x,x∈T->f x=0)->kO f T=0
 |[],_=>rfl
 |
  x::T,h=>by
  have:=pX (T:=T) fun y hy=>h y (al _ hy)
  have:=h x ak
  simp only[kO,bB,List.sum_cons]at *;omega
theorem sT(g:Hl->Tg->Nat)(T:List Tg):∀l:List Hl,kO (fun x=>(l.map fun h=>g h x).sum) T=(l.map fun h=>kO (g h) T).sum
 |[]=>pX fun _ _=>rfl
 |
  h::l=>by
  have:=sT g T l
  simp only[bB,List.sum_cons]
  rw[pn,this]
theorem tO(f:Hl->List Hl):∀l:List Hl,lC (l.flatMap f)=(l.map fun h=>lC (f h)).sum
 |[]=>rfl
 |h::l=>by rw[cf,rG,tO f l];simp
theorem Bt{f g:Hl->Nat}:∀{l:List Hl},(∀x,x∈l->f x<=g x)->(l.map f).sum<=(l.map g).sum
 |[],_=>au _
 |
  x::l,h=>by
  have:=Bt (l:=l) fun y hy=>h y (al _ hy)
  have:=h x ak
  simp only[bB,List.sum_cons]at *;omega
theorem CJ{t:Ty}{x y:Tg}(h:dT t x=true)(h':dT t y=true):x=y:=by
 cases t<;>cases x<;>cases y<;>simp[dT]at h h'<;>simp_all
theorem xZ{t:Ty}(n:Nat):∀{T:List Tg},T.Nodup->kO (fun x=>if dT t x=true then n else 0) T<=n
 |[],_=>dS _
 |
  x::T,h=>by
  obtain⟨h1,h2⟩:=List.nodup_cons.1 h
  have ih:=xZ (t:=t) n h2
  by_cases hx:dT t x=true
  ·have:kO (fun x=>if dT t x=true then n else 0) T=0:=pX fun y hy=>by
    rw[if_neg fun hy'=>h1 (by rw[CJ hx hy'];exact hy)]
   simp only[kO,bB,List.sum_cons]at *
   rw[if_pos hx];omega
  ·simp only[kO,bB,List.sum_cons]at *
   rw[if_neg hx];omega
theorem Be{T:List Tg}(h:T.Nodup):(Tg.bd 0::T.map Tg.up).Nodup:=by
 refine List.nodup_cons.2 ⟨fun hm=>?_,?_⟩
 ·obtain⟨x,_,e⟩:=bO.1 hm
  cases x<;>simp[Tg.up]at e
 ·refine List.Pairwise.map _ (fun a b hab e=>hab ?_) h
  cases a<;>cases b<;>simp[Tg.up]at e<;>simp_all
theorem apart:∀(n:Nat) (v:Vl),v.nodes<=n->∀(t:Ty) (T:List Tg),T.Nodup->kO (fun x=>lC (bM t x v)) T<=v.nodes
 |0,v,h=>by have:=dk v;omega
 |
  n+1,v,hn=>by
  intro t T hT
  have base:∀(hno:∀x,dT t x=false->bM t x v=[]),kO (fun x=>lC (bM t x v)) T<=v.nodes:=fun hno=>by
   refine Nat.le_trans (zm fun x _=>?_) (xZ (t:=t) v.nodes hT)
   cases e:dT t x with
   |true=>rw[kh v e];simp[lC]
   |false=>rw[hno x e];simp[lC]
  cases hm:stuck t v with
  |true=>exact base fun x hx=>dz hx hm
  |
   false =>
   unfold stuck at hm
   split at hm
   ·rename_i a b w
    simp only[Vl.nodes]at hn |-
    simp only[ji,pE]
    have:=apart n w (by omega) a T hT
    omega
   ·rename_i a b w
    simp only[Vl.nodes]at hn |-
    simp only[jo,pE]
    have:=apart n w (by omega) b T hT
    omega
   ·rename_i a b x y
    simp only[Vl.nodes]at hn |-
    simp only[gk,rG,pE]
    rw[pn]
    have:=apart n x (by omega) a T hT
    have:=apart n y (by omega) b T hT
    omega
   ·rename_i a w
    simp only[Vl.nodes]at hn |-
    simp only[gd,rG,pE,tO]
    rw[pn,sT]
    have h1:=apart n w (by omega) a _ (Be hT)
    simp only[kO,bB,List.sum_cons,List.map_map]at h1
    have h2:((bM a (.bd 0) w).map fun h=>kO (fun x=>lC (bM (.rc a) x h.2)) T).sum<=lC (bM a (.bd 0) w):=Bt fun h hh=>by
     have:=(ir hh).1
     exact apart n h.2 (by omega) (.rc a) T hT
    simp only[kO,Function.comp_def]at h1 h2 |-
    omega
   ·cases hm
theorem sk(t:Ty)(tg:Tg)(v:Vl):lC (bM t tg v)<=v.nodes:=by
 have:=apart v.nodes v (au _) t [tg] (by simp)
 simpa[kO]using this
theorem lK:∀l:List Hl,l.length<=lC l
 |[]=>dS _
 |
  h::l=>by
  have:=lK l
  have:=dk h.2
  simp only[lC,bB,List.sum_cons,az]at *;omega
theorem ni(t:Ty)(tg:Tg)(v:Vl):(bM t tg v).length<=v.nodes:=Nat.le_trans (lK _) (sk t tg v)
end Go.Proofs.Trees
namespace Go.Proofs.Trees
open Go Go.VL Go.RowKit
def gn(ar:List (List UInt8))(k:Nat):List UInt8:=ar.getD (ar.length-1-k) []
theorem fO{s:List UInt8}{ar:List (List UInt8)}:∀(i u:Nat),i<=ar.length->bR s ar i=some u->u<ar.length/\gn ar u=s
 |0,u,_,h=>by cases h
 |
  i+1,u,hi,h=>by
  rw[bR]at h
  split at h
  ·rename_i e
   cases h
   refine⟨by omega,?_⟩
   rw[gn,show ar.length-1-(ar.length-1-i)=i by omega];exact e
  ·exact fO i u (by omega) h
def vg:Ty->Tg->Bool
 | .plus a b,tg=>vg a tg||vg b tg
 | .times a b,tg=>vg a tg||vg b tg
 | .rc a,tg=>vg a tg.up
 |t,tg=>dT t tg
theorem iY:∀(n:Nat) (v:Vl),v.nodes<=n->∀(t:Ty) (tg:Tg),vg t tg=false->bM t tg v=[]
 |0,v,h=>by have:=dk v;omega
 |
  n+1,v,hn=>by
  intro t tg ho
  cases hm:stuck t v with
  |
   true =>
   refine dz ?_ hm
   cases t<;>first|exact ho|rfl
  |
   false =>
   unfold stuck at hm
   split at hm
   ·simp only[Vl.nodes]at hn
    simp only[vg,cm]at ho
    rw[ji,iY n _ (by omega) _ _ ho.1];rfl
   ·simp only[Vl.nodes]at hn
    simp only[vg,cm]at ho
    rw[jo,iY n _ (by omega) _ _ ho.2];rfl
   ·simp only[Vl.nodes]at hn
    simp only[vg,cm]at ho
    rw[gk,iY n _ (by omega) _ _ ho.1,iY n _ (by omega) _ _ ho.2];rfl
   ·rename_i a w
    simp only[Vl.nodes]at hn
    have ho':vg a tg.up=false:=ho
    rw[gd,iY n _ (by omega) _ _ ho']
    have:(bM a (.bd 0) w).flatMap (fun h=>eW (fun c=>.f (.r (.p h.1 c))) (bM (.rc a) tg h.2))=(bM a (.bd 0) w).flatMap (fun _=>[]):=jd fun h hh=>by
     have:=(ir hh).1
     rw[iY n h.2 (by omega) (.rc a) tg ho];rfl
    rw[this]
    induction bM a (.bd 0) w<;>simp_all[eW]
   ·cases hm
theorem lr:∀(e:E) (ar:List (List UInt8)) (t:Ty) (k:Nat),cV e ar=some t->vg t (.bd k)=true->k<ar.length/\bR (gn ar k) ar ar.length=some k
 |
  .atom s,ar,t,k,ht,ho=>by
  simp only[cV]at ht
  split at ht
  ·cases ht;cases ho
  ·split at ht
   ·cases ht;cases ho
   ·split at ht
    ·cases ht;cases ho
    ·split at ht
     ·split at ht
      ·rename_i u hu
       cases ht
       have:u=k:=by simpa[vg,dT]using ho
       subst this
       obtain⟨h1,h2⟩:=fO _ _ (au _) hu
       exact⟨h1,by rw[h2];exact hu⟩
      ·cases ht;cases ho
     ·cases ht
 |
  .list [x,a,b],ar,t,k,ht,ho=>by
  by_cases h0:x.at=[43]
  ·obtain⟨t1,t2,h1,h2,rfl⟩:=fQ h0 ht
   simp only[vg,bC]at ho
   rcases ho with ho|ho
   ·exact lr a ar t1 k h1 ho
   ·exact lr b ar t2 k h2 ho
  ·by_cases h1:x.at=[42]
   ·obtain⟨t1,t2,h1,h2,rfl⟩:=fu h1 ht
    simp only[vg,bC]at ho
    rcases ho with ho|ho
    ·exact lr a ar t1 k h1 ho
    ·exact lr b ar t2 k h2 ho
   ·by_cases h2:x.at=[114,101,99]
    ·obtain⟨t1,_,h3,rfl⟩:=dD h2 ht
     obtain⟨q1,q2⟩:=lr b (ar++[a.at]) t1 (k+1) h3 ho
     simp only[aq,az,aG]at q1
     have hk:k<ar.length:=by omega
     have e:gn (ar++[a.at]) (k+1)=gn ar k:=by
      unfold gn
      rw[aq,show ar.length+[a.at].length-1-(k+1)=ar.length-1-k by simp;omega]
      simp[aa,List.getElem?_append_left (show ar.length-1-k<ar.length by omega)]
     rw[e]at q2
     refine⟨hk,?_⟩
     have e2:(ar++[a.at]).length=ar.length+1:=by simp
     rw[e2,bR]at q2
     split at q2
     ·rw[e2]at q2;simp at q2
     ·rw[kI _ _ _ _ (au _)]at q2
      cases hq:bR (gn ar k) ar ar.length with
      |none=>rw[hq]at q2;cases q2
      |some u=>rw[hq]at q2;simpa using q2
    ·rw[jq _ h0 h1 h2]at ht;cases ht
 | .list [],ar,t,k,ht,ho=>by cases ht
 | .list [_],ar,t,k,ht,ho=>by cases ht
 | .list [_,_],ar,t,k,ht,ho=>by cases ht
 | .list (_::_::_::_::_),ar,t,k,ht,ho=>by cases ht
theorem fB(w:List UInt8)(ar:List (List UInt8)):bR w (ar++[w]) (ar++[w]).length=some 0:=by
 have e2:(ar++[w]).length=ar.length+1:=by simp
 rw[e2,bR,if_pos (by simp[aa]),e2];simp
theorem jS{s w:List UInt8}(ar:List (List UInt8))(h:w≠s):bR s (ar++[w]) (ar++[w]).length=(bR s ar ar.length).map (·+1):=by
 have e2:(ar++[w]).length=ar.length+1:=by simp
 rw[e2,bR,if_neg (by simpa[aa]using h),kI _ _ _ _ (au _)]
theorem HL{b:E}{ar:List (List UInt8)}{w:List UInt8}{t:Ty}{k:Nat}(hb:cV b (ar++[w])=some t)(hk:bR w ar ar.length=some k):vg t (.bd (k+1))=false:=by
 cases h:vg t (.bd (k+1))with
 |false=>rfl
 |
  true =>
  obtain⟨_,q2⟩:=lr _ _ _ _ hb h
  obtain⟨h1,h2⟩:=fO _ _ (au _) hk
  have e:gn (ar++[w]) (k+1)=gn ar k:=by
   unfold gn
   rw[aq,show ar.length+[w].length-1-(k+1)=ar.length-1-k by simp;omega]
   simp[aa,List.getElem?_append_left (show ar.length-1-k<ar.length by omega)]
  rw[e,h2,fB]at q2
  cases q2
def oN(s:List UInt8)(ar:List (List UInt8)):Tg:=match bR s ar ar.length with|some u=>.bd u|none=>.nm s
theorem vX(w:List UInt8)(ar:List (List UInt8)):oN w (ar++[w])=.bd 0:=by rw[oN,fB]
theorem zZ{s w:List UInt8}(ar:List (List UInt8))(h:w≠s):oN s (ar++[w])=(oN s ar).up:=by
 rw[oN,oN,jS ar h]
 cases bR s ar ar.length<;>rfl
theorem iu(n:Nat):∀(m:Nat) (v:Vl),v.nodes<=m->∀(e:E) (env:List Fr) (t:Ty),Ask e env t->fh n v (e,env)=true->∀(k:Nat) (f:Fr),env[k]?=some f->∀h,h∈bM t (.bd k) v->fh n h.2 (f.ex,f.out)=true
 |0,v,hm=>by have:=dk v;omega
 |
  m+1,v,hm=>by
  intro e env t A hv k f hf h hh
  rcases gB A.wf A.ty with⟨hb,hq⟩|⟨u,g,rfl,hq,hu⟩
  ·have hhd:hd e env=(e,env):=kH hq
   rcases fM A.ty hb A.cl with⟨rfl,rfl⟩|⟨rfl,rfl⟩|⟨s,rfl,rfl,hp,h0,h1⟩|⟨x,a,b,t1,t2,rfl,hx,rfl,ha,hbb⟩|⟨x,a,b,t1,t2,rfl,hx,rfl,ha,hbb⟩|⟨x,a,b,t1,rfl,hx,rfl⟩
   ·rw[dz rfl (by cases v<;>rfl)]at hh;cases hh
   ·rw[dz rfl (by cases v<;>rfl)]at hh;cases hh
   ·rw[dz rfl (by cases v<;>rfl)]at hh;cases hh
   ·obtain⟨ok1,ok2,ok3,_⟩:=A.ok
    obtain⟨f1,f2⟩:=fF A.cl
    cases v with
    |
     l w =>
     simp only[fh,hhd,hx,beq_self_eq_true,bY]at hv
     simp only[Vl.nodes]at hm
     rw[ji]at hh
     obtain⟨h2,h3,rfl⟩:=da hh
     exact iu n m w (by omega) a env t1 ⟨ok2,A.wf,ha,f1⟩ hv k f hf h2 h3
    |
     r w =>
     simp only[fh,hhd,hx,beq_self_eq_true,bY]at hv
     simp only[Vl.nodes]at hm
     rw[jo]at hh
     obtain⟨h2,h3,rfl⟩:=da hh
     exact iu n m w (by omega) b env t2 ⟨ok3,A.wf,hbb,f2⟩ hv k f hf h2 h3
    |_=>rw[dz rfl rfl]at hh;cases hh
   ·obtain⟨ok1,ok2,ok3,_⟩:=A.ok
    obtain⟨f1,f2⟩:=fg A.cl
    cases v with
    |
     p w w' =>
     simp only[fh,hhd,hx,beq_self_eq_true,bY,aw]at hv
     simp only[Vl.nodes]at hm
     rw[gk]at hh
     rcases aN.1 hh with hh|hh
     ·obtain⟨h2,h3,rfl⟩:=da hh
      exact iu n m w (by omega) a env t1 ⟨ok2,A.wf,ha,f1⟩ hv.1 k f hf h2 h3
     ·obtain⟨h2,h3,rfl⟩:=da hh
      exact iu n m w' (by omega) b env t2 ⟨ok3,A.wf,hbb,f2⟩ hv.2 k f hf h2 h3
    |_=>rw[dz rfl rfl]at hh;cases hh
   ·obtain⟨t1',he1,h1,f1,hw1⟩:=jy A.wf A.ok hx A.ty A.cl
    cases he1
    obtain⟨ok1,ok2,ok3,_⟩:=A.ok
    cases v with
    |
     f w =>
     simp only[fh,hhd,hx,beq_self_eq_true,bY]at hv
     simp only[Vl.nodes]at hm
     rw[gd]at hh
     have A':Ask b (.mk a.at (.list [x,a,b]) env::env) t1:=⟨ok3,hw1,h1,f1⟩
     rcases aN.1 hh with hh|hh
     ·obtain⟨h2,h3,rfl⟩:=da hh
      exact iu n m w (by omega) b _ t1 A' hv (k+1) f (by simpa using hf) h2 h3
     ·obtain⟨kd,h2,h3⟩:=List.mem_flatMap.1 hh
      obtain⟨h4,h5,rfl⟩:=da h3
      have hkd:=iu n m w (by omega) b _ t1 A' hv 0 _ rfl kd h2
      have:=(ir h2).1
      exact iu n m kd.2 (by omega) (.list [x,a,b]) env _ A hkd k f hf h4 h5
    |_=>rw[dz rfl rfl]at hh;cases hh
  ·by_cases huk:u=k
   ·subst huk
    rw[hu]at hf;cases hf
    rw[kh v (by simp[dT])]at hh
    simp only[aQ]at hh
    subst hh
    obtain⟨x,a,b,t',hfe,hok,hx,ht',hf',hwf,hlt⟩:=oC A.wf hq
    rw[<-vc n v (rp hq) (by rw[hfe];exact p5 hwf)];exact hv
   ·rw[dz (by simpa[dT]using huk) (by cases v<;>rfl)]at hh;cases hh
end Go.Proofs.Trees
namespace Go.Proofs.Trees
open Go Go.VL Go.RowKit
def cU:E->List Nm->Ty
 | .atom s,ar=>if s=[48]then .zero else if s=[49]then .one else match bR s ar ar.length with|some u=>.bound u|none=>.name s
 | .list [x,a,b],ar=>if x.at=[43]then .plus (cU a ar) (cU b ar)else if x.at=[42]then .times (cU a ar) (cU b ar)else .rc (cU b (ar++[a.at]))
 | .list _,_=>.zero
def rr(s:Nm):Prop:=s≠[]/\s≠[48]/\s≠[49]
inductive Wf:E->Prop
 |atom {s} (h:s≠[]):Wf (.atom s)
 |plus {a b} (ha:Wf a) (hb:Wf b):Wf (.list [.atom [43],a,b])
 |times {a b} (ha:Wf a) (hb:Wf b):Wf (.list [.atom [42],a,b])
 |rc {n b} (hn:rr n) (hb:Wf b):Wf (.list [.atom [114,101,99],.atom n,b])
theorem dP(a b:E)(ar:List Nm):cU (.list [.atom [43],a,b]) ar=.plus (cU a ar) (cU b ar):=by rw[cU,if_pos (show (E.atom [43]).at=[43] from rfl)]
theorem dx(a b:E)(ar:List Nm):cU (.list [.atom [42],a,b]) ar=.times (cU a ar) (cU b ar):=by rw[cU,if_neg (by decide),if_pos (show (E.atom [42]).at=[42] from rfl)]
theorem fy(a b:E)(ar:List Nm):cU (.list [.atom [114,101,99],a,b]) ar=.rc (cU b (ar++[a.at])):=by rw[cU,if_neg (by decide),if_neg (by decide)]
theorem Wf.ok{e:E}(h:Wf e):e.ok:=by
 induction h with
 |atom h=>exact h
 |plus ha hb i1 i2=>exact⟨by simp[E.ok],i1,i2,trivial⟩
 |times ha hb i1 i2=>exact⟨by simp[E.ok],i1,i2,trivial⟩
 |rc hn hb i=>exact⟨by simp[E.ok],hn.1,i,trivial⟩
theorem Wf.df{e:E}(h:Wf e):∀ar,e.df=(cU e ar).atoms:=by
 induction h with
 |
  @atom s h =>
  intro ar
  simp only[E.df,cU]
  split
  ·rfl
  ·split
   ·rfl
   ·split<;>rfl
 |plus ha hb i1 i2=>intro ar;rw[dP];simp only[E.df,E.ff,Ty.atoms,<-i1 ar,<-i2 ar];omega
 |times ha hb i1 i2=>intro ar;rw[dx];simp only[E.df,E.ff,Ty.atoms,<-i1 ar,<-i2 ar];omega
 |@rc n b hn hb i=>intro ar;rw[fy];simp only[E.df,E.ff,Ty.atoms,<-i];omega
theorem Wf.sz{e:E}(h:Wf e):e.sz<=3*e.df:=by
 induction h with
 |atom h=>simp[E.sz,E.df]
 |plus ha hb i1 i2=>simp only[E.sz,E.jB,E.df,E.ff];omega
 |times ha hb i1 i2=>simp only[E.sz,E.jB,E.df,E.ff];omega
 |rc hn hb i=>simp only[E.sz,E.jB,E.df,E.ff];omega
theorem kK:∀(e:E) (ar:List Nm) (t:Ty),e.ok->(∀w,w∈ar->dr w=true)->cV e ar=some t->Wf e/\cU e ar=t
 |
  .atom s,ar,t,hok,hl,ht=>by
  refine⟨.atom hok,?_⟩
  simp only[cV,cU]at ht |-
  split at ht
  ·rename_i h;rw[if_pos h];simpa using ht
  ·rename_i h;rw[if_neg h]
   split at ht
   ·rename_i h1;rw[if_pos h1];simpa using ht
   ·rename_i h1;rw[if_neg h1]
    split at ht
    ·rename_i hp
     cases q:bR s ar ar.length with
     |none=>simpa using ht
     |
      some u =>
      obtain⟨h1,h2⟩:=fO _ _ (au _) q
      have:=hl (gn ar u) (by
       unfold gn
       have:ar.length-1-u<ar.length:=by omega
       simp[aa,this])
      rw[h2,kG hp]at this;cases this
    ·split at ht
     ·split at ht<;>rename_i q<;>rw[q]<;>simpa using ht
     ·cases ht
 |
  .list [x,a,b],ar,t,hok,hl,ht=>by
  obtain⟨ok1,ok2,ok3,_⟩:=hok
  by_cases h0:x.at=[43]
  ·obtain⟨t1,t2,h1,h2,rfl⟩:=fQ h0 ht
   obtain rfl:=kD h0 (by simp)
   obtain⟨w1,e1⟩:=kK a ar t1 ok2 hl h1
   obtain⟨w2,e2⟩:=kK b ar t2 ok3 hl h2
   exact⟨.plus w1 w2,by rw[dP,e1,e2]⟩
  ·by_cases h1:x.at=[42]
   ·obtain⟨t1,t2,h2,h3,rfl⟩:=fu h1 ht
    obtain rfl:=kD h1 (by simp)
    obtain⟨w1,e1⟩:=kK a ar t1 ok2 hl h2
    obtain⟨w2,e2⟩:=kK b ar t2 ok3 hl h3
    exact⟨.times w1 w2,by rw[dx,e1,e2]⟩
   ·by_cases h2:x.at=[114,101,99]
    ·obtain⟨t1,hla,h3,rfl⟩:=dD h2 ht
     obtain rfl:=kD h2 (by simp)
     have hne:a.at≠[]:=by intro e;rw[e]at hla;cases hla
     have ha:a=.atom a.at:=kD rfl hne
     obtain⟨w1,e1⟩:=kK b (ar++[a.at]) t1 ok3 (fun w hw=>by
      rcases aN.1 hw with hw|hw
      ·exact hl w hw
      ·simp only[aQ]at hw;rw[hw];exact hla) h3
     have hN:rr a.at:=⟨hne,fun e=>by rw[e]at hla;revert hla;decide,fun e=>by rw[e]at hla;revert hla;decide⟩
     refine⟨?_,by rw[fy,e1]⟩
     rw[ha];exact .rc hN w1
    ·rw[jq _ h0 h1 h2]at ht;cases ht
 | .list [],ar,t,_,_,ht=>by cases ht
 | .list [_],ar,t,_,_,ht=>by cases ht
 | .list [_,_],ar,t,_,_,ht=>by cases ht
 | .list (_::_::_::_::_),ar,t,_,_,ht=>by cases ht
theorem fG(s:Nm)(ar:List Nm):bR s ar ar.length=none↔s∉ar:=by
 have:=mM s ar ar.length (au _)
 rwa[List.take_length]at this
theorem nX(s:Nm)(ar:List Nm):∀(n:Nat) (br:List Nm),br.length=n->bR s (ar++br) (ar++br).length=match bR s br br.length with|some u=>some u|none=>(bR s ar ar.length).map (·+br.length)
 |
  0,br,h=>by
  obtain rfl:=bS h
  rw[cZ]
  cases h:bR s ar ar.length<;>simp[bR]
 |
  n+1,br,h=>by
  obtain⟨b2,w,rfl⟩:∃b2 w,br=b2++[w]:=⟨br.dropLast,br.getLast (by intro e;rw[e]at h;cases h),(List.dropLast_concat_getLast _).symm⟩
  rw[<-a6]
  by_cases hw:w=s
  ·subst hw;rw[fB,fB]
  ·rw[jS _ hw,jS _ hw,nX s ar n b2 (by simpa using h)]
   cases bR s b2 b2.length with
   |some u=>rfl
   |
    none =>
    cases bR s ar ar.length with
    |none=>rfl
    |some u=>simp only[Option.map_none,cD,aq,az,aG];congr 1
theorem uM(ar:List Nm){e:E}(h:Wf e):∀br,(∀y,bn y (cU e br)=true->y∉ar)->cU e (ar++br)=cU e br:=by
 induction h with
 |
  @atom s h =>
  intro br hy
  simp only[cU]at hy |-
  split
  ·rfl
  ·rename_i h0
   split
   ·rfl
   ·rename_i h1
    rw[if_neg h0,if_neg h1]at hy
    rw[nX s ar _ br rfl]
    cases q:bR s br br.length with
    |some u=>rfl
    |
     none =>
     rw[q]at hy
     have:=(fG s ar).2 (hy s (by simp[bn]))
     rw[this];rfl
 |
  plus ha hb i1 i2 =>
  intro br hy
  rw[dP]at hy |-
  rw[dP,i1 br fun y h=>hy y (by simp[bn,h]),i2 br fun y h=>hy y (by simp[bn,h])]
 |
  times ha hb i1 i2 =>
  intro br hy
  rw[dx]at hy |-
  rw[dx,i1 br fun y h=>hy y (by simp[bn,h]),i2 br fun y h=>hy y (by simp[bn,h])]
 |
  @rc n b hn hb i =>
  intro br hy
  rw[fy]at hy |-
  rw[fy,a6,i _ hy]
theorem yL(x:Nm){e:E}(h:Wf e):∀ar,cU e ar=dC (.name x) (cU e ([x]++ar)) ar.length:=by
 induction h with
 |
  @atom s h =>
  intro ar
  simp only[cU]
  split
  ·rfl
  ·split
   ·rfl
   ·rw[nX s [x] _ ar rfl]
    cases q:bR s ar ar.length with
    |
     some u =>
     have:=(fO _ _ (au _) q).1
     simp only[dC];rw[if_neg (by omega)]
    |
     none =>
     by_cases hx:x=s
     ·subst hx
      have:bR x [x] [x].length=some 0:=fB x []
      rw[this];simp[dC]
     ·have:bR s [x] [x].length=none:=(fG s [x]).2 (by simpa using fun e=>hx e.symm)
      rw[this];rfl
 |plus ha hb i1 i2=>intro ar;rw[dP,dP,dC,<-i1 ar,<-i2 ar]
 |times ha hb i1 i2=>intro ar;rw[dx,dx,dC,<-i1 ar,<-i2 ar]
 |
  @rc n b hn hb i =>
  intro ar
  rw[fy,fy,dC,i (ar++[E.at (.atom n)]),a6]
  simp
theorem nB{e:E}(h:Wf e):∀ar y,bn y (cU e ar)=true->rr y/\y∉ar:=by
 induction h with
 |
  @atom s h =>
  intro ar y hy
  simp only[cU]at hy
  split at hy
  ·cases hy
  ·rename_i h0
   split at hy
   ·cases hy
   ·rename_i h1
    split at hy
    ·cases hy
    ·rename_i q
     simp only[bn,decide_eq_true_eq]at hy
     subst hy
     exact⟨⟨h,h0,h1⟩,(fG _ _).1 q⟩
 |
  plus ha hb i1 i2 =>
  intro ar y hy
  rw[dP]at hy
  simp only[bn,bC]at hy
  rcases hy with hy|hy
  ·exact i1 ar y hy
  ·exact i2 ar y hy
 |
  times ha hb i1 i2 =>
  intro ar y hy
  rw[dx]at hy
  simp only[bn,bC]at hy
  rcases hy with hy|hy
  ·exact i1 ar y hy
  ·exact i2 ar y hy
 |
  rc hn hb i =>
  intro ar y hy
  rw[fy]at hy
  obtain⟨h1,h2⟩:=i _ y hy
  exact⟨h1,fun h=>h2 (aD _ h)⟩
theorem lQ{e:E}(h:Wf e):∀(bd l:List Nm) (y:Nm),y∈kB e bd l↔y∈l\/bn y (cU e bd)=true:=by
 induction h with
 |
  @atom s h =>
  intro bd l y
  simp only[kB,cU]
  by_cases h0:s=[48]
  ·simp[h0,bn]
  ·by_cases h1:s=[49]
   ·simp[h1,bn]
   ·rw[if_neg h0,if_neg h1]
    by_cases h2:s∈bd
    ·cases q:bR s bd bd.length with
     |none=>exact absurd h2 ((fG _ _).1 q)
     |some u=>simp[h2,bn]
    ·rw[(fG _ _).2 h2]
     simp only[h0,h1,h2,false_or,bn,decide_eq_true_eq]
     by_cases h3:s∈l
     ·simp only[h3,if_true]
      exact⟨fun h=>.inl h,fun h=>by rcases h with h|rfl<;>assumption⟩
     ·simp only[h3,if_false,aN,aQ,eq_comm]
 |
  plus ha hb i1 i2 =>
  intro bd l y
  rw[kB,if_neg (by decide),dP,i2,i1]
  simp[bn,or_assoc]
 |
  times ha hb i1 i2 =>
  intro bd l y
  rw[kB,if_neg (by decide),dx,i2,i1]
  simp[bn,or_assoc]
 |
  rc hn hb i =>
  intro bd l y
  rw[kB,if_pos (show (E.atom [114,101,99]).at=[114,101,99] from rfl),fy,i]
  rfl
theorem eU:∀(t:Ty) (out:List Nm) (y:Nm),y∈bQ t out↔y∈out\/bn y t=true
 |
  .name s,out,y=>by
  simp only[bQ,pU,bn,decide_eq_true_eq]
  split
  ·rename_i h;exact⟨fun h=>.inl h,fun h'=>by rcases h' with h'|rfl<;>assumption⟩
  ·simp[eq_comm]
 | .plus a b,out,y=>by rw[bQ,eU b,eU a];simp[bn,or_assoc]
 | .times a b,out,y=>by rw[bQ,eU b,eU a];simp[bn,or_assoc]
 | .rc a,out,y=>by rw[bQ,eU a];rfl
 | .zero,out,y=>by simp[bQ,bn]
 | .one,out,y=>by simp[bQ,bn]
 | .bound k,out,y=>by simp[bQ,bn]
end Go.Proofs.Trees
namespace Go.Proofs.Trees
open Go Go.VL Go.RowKit
abbrev dI:Nm:=[114,101,99]
theorem dV(s:Nm):(E.atom s).at=s:=rfl
def sf(x:Nm)(u:E):E->E
 | .atom s=>if s=x then u else .atom s
 | .list [h,a,b]=>if h.at=dI then(if a.at=x then .list [h,a,b]else .list [.atom dI,a,sf x u b])else .list [.atom h.at,sf x u a,sf x u b]
 | .list l=>.list l
def nt(x:Nm):E->Nat
 | .atom s=>if s=x then 1 else 0
 | .list [h,a,b]=>if h.at=dI then(if a.at=x then 0 else nt x b)else nt x a+nt x b
 | .list _=>0
def uZ(p:Nm->Prop):E->Prop
 | .atom _=>True
 | .list [h,a,b]=>(if h.at=dI then p a.at else uZ p a)/\uZ p b
 | .list _=>True
def fD(x:Nm):Ty->Nat
 | .name s=>if s=x then 1 else 0
 | .plus a b=>fD x a+fD x b
 | .times a b=>fD x a+fD x b
 | .rc a=>fD x a
 |_=>0
theorem wg(x:Nm)(u a b:E):sf x u (.list [.atom [43],a,b])=.list [.atom [43],sf x u a,sf x u b]:=by rw[sf,if_neg (by decide)];rfl
theorem tJ(x:Nm)(u a b:E):sf x u (.list [.atom [42],a,b])=.list [.atom [42],sf x u a,sf x u b]:=by rw[sf,if_neg (by decide)];rfl
theorem AT(x:Nm)(u:E)(n:Nm)(b:E):sf x u (.list [.atom dI,.atom n,b])=if n=x then .list [.atom dI,.atom n,b]else .list [.atom dI,.atom n,sf x u b]:=by rw[sf,if_pos (dV _)];rfl
theorem sb(x:Nm)(a b:E):nt x (.list [.atom [43],a,b])=nt x a+nt x b:=by rw[nt,if_neg (by decide)]
theorem qd(x:Nm)(a b:E):nt x (.list [.atom [42],a,b])=nt x a+nt x b:=by rw[nt,if_neg (by decide)]
theorem wX(x:Nm)(n:Nm)(b:E):nt x (.list [.atom dI,.atom n,b])=if n=x then 0 else nt x b:=by rw[nt,if_pos (dV _)];rfl
theorem oJ(p:Nm->Prop)(a b:E):uZ p (.list [.atom [43],a,b])↔uZ p a/\uZ p b:=by rw[uZ,if_neg (by decide)]
theorem nC(p:Nm->Prop)(a b:E):uZ p (.list [.atom [42],a,b])↔uZ p a/\uZ p b:=by rw[uZ,if_neg (by decide)]
theorem ue(p:Nm->Prop)(n:Nm)(b:E):uZ p (.list [.atom dI,.atom n,b])↔p n/\uZ p b:=by rw[uZ,if_pos (dV _)];rfl
theorem Bg{p q:Nm->Prop}(h:∀n,p n->q n){e:E}(hw:Wf e):uZ p e->uZ q e:=by
 induction hw with
 |atom _=>exact fun _=>trivial
 |plus _ _ i1 i2=>rw[oJ,oJ];exact fun g=>⟨i1 g.1,i2 g.2⟩
 |times _ _ i1 i2=>rw[nC,nC];exact fun g=>⟨i1 g.1,i2 g.2⟩
 |rc _ _ i=>rw[ue,ue];exact fun g=>⟨h _ g.1,i g.2⟩
theorem jn{s:Nm}(hs:rr s){ar:List Nm}(h:s∉ar):cU (.atom s) ar=.name s:=by
 simp only[cU];rw[if_neg hs.2.1,if_neg hs.2.2,(fG s ar).2 h]
theorem Di{x:Nm}(hx:rr x){u:E}(hu:Wf u){e:E}(h:Wf e):uZ (fun n=>n≠x/\bn n (cU u [])=false) e->∀ar,x∉ar->(∀y,y∈ar->bn y (cU u [])=false)->Wf (sf x u e)/\cU (sf x u e) ar=sub x (cU u []) (cU e ar):=by
 induction h with
 |
  @atom s hs =>
  intro _ ar har hy
  by_cases e:s=x
  ·subst e
   have:cU u (ar++[])=cU u []:=uM ar hu [] fun y hy' hm=>by rw[hy y hm]at hy';cases hy'
   rw[cZ]at this
   rw[jn hx har]
   simp only[sf,sub,if_true]
   exact⟨hu,this⟩
  ·simp only[sf,if_neg e]
   refine⟨.atom hs,?_⟩
   simp only[cU]
   split
   ·rfl
   ·split
    ·rfl
    ·split
     ·rfl
     ·simp only[sub,if_neg e]
 |
  plus ha hb i1 i2 =>
  intro hap ar har hy
  rw[oJ]at hap
  obtain⟨w1,e1⟩:=i1 hap.1 ar har hy
  obtain⟨w2,e2⟩:=i2 hap.2 ar har hy
  rw[wg,dP,dP,e1,e2]
  exact⟨.plus w1 w2,rfl⟩
 |
  times ha hb i1 i2 =>
  intro hap ar har hy
  rw[nC]at hap
  obtain⟨w1,e1⟩:=i1 hap.1 ar har hy
  obtain⟨w2,e2⟩:=i2 hap.2 ar har hy
  rw[tJ,dx,dx,e1,e2]
  exact⟨.times w1 w2,rfl⟩
 |
  @rc n b hn hb i =>
  intro hap ar har hy
  rw[ue]at hap
  obtain⟨w1,e1⟩:=i hap.2 (ar++[n]) (by
   simp only[aN,aQ]
   rintro(h|h)
   ·exact har h
   ·exact hap.1.1 h.symm) (fun y hm=>by
   simp only[aN,aQ]at hm
   rcases hm with hm|rfl
   ·exact hy y hm
   ·exact hap.1.2)
  rw[AT,if_neg hap.1.1,fy,fy]
  refine⟨.rc hn w1,?_⟩
  show Ty.rc (cU (sf x u b) (ar++[n]))=_
  rw[e1];rfl
theorem Db{x:Nm}(hx:rr x){e:E}(h:Wf e):∀ar,fD x (cU e ar)=if x∈ar then 0 else nt x e:=by
 induction h with
 |
  @atom s hs =>
  intro ar
  by_cases e:s=x
  ·subst e
   by_cases hm:s∈ar
   ·rw[if_pos hm]
    simp only[cU];rw[if_neg hx.2.1,if_neg hx.2.2]
    cases q:bR s ar ar.length with
    |none=>exact absurd hm ((fG _ _).1 q)
    |some u=>rfl
   ·rw[if_neg hm,jn hx hm];simp[fD,nt]
  ·have:fD x (cU (.atom s) ar)=0:=by
    simp only[cU]
    split
    ·rfl
    ·split
     ·rfl
     ·split
      ·rfl
      ·simp[fD,e]
   rw[this];simp[nt,e]
 |plus ha hb i1 i2=>intro ar;rw[dP,sb,fD,i1,i2];split<;>simp
 |times ha hb i1 i2=>intro ar;rw[dx,qd,fD,i1,i2];split<;>simp
 |
  @rc n b hn hb i =>
  intro ar
  rw[fy,wX,fD,i]
  simp only[dV,aN,aQ]
  by_cases h1:x∈ar
  ·simp[h1]
  ·by_cases h2:x=n
   ·simp[h2]
   ·simp[h1,h2,Ne.symm h2]
theorem eg(x:Nm)(u:Ty):∀t:Ty,(sub x u t).atoms+fD x t=t.atoms+fD x t*u.atoms
 | .name s=>by simp only[sub,fD];split<;>simp[Ty.atoms];omega
 | .plus a b=>by have:=eg x u a;have:=eg x u b;simp only[sub,Ty.atoms,fD,Nat.add_mul];omega
 | .times a b=>by have:=eg x u a;have:=eg x u b;simp only[sub,Ty.atoms,fD,Nat.add_mul];omega
 | .rc a=>by have:=eg x u a;simp only[sub,Ty.atoms,fD];omega
 | .zero=>by simp[sub,fD]
 | .one=>by simp[sub,fD]
 | .bound k=>by simp[sub,fD]
abbrev tN(m:Nat):Nm:=116::dd m
theorem Fs(m:Nat):dd m≠[]:=by
 by_cases h:m<10
 ·rw[eN h];simp
 ·rw[fX h];simp
theorem wP:∀(n m k:Nat),m<n->dd m=dd k->m=k
 |0,m,k,h,_=>by omega
 |
  n+1,m,k,h,e=>by
  have d10:∀{a b:Nat},a<10->b<10->bj (48+a)=bj (48+b)->a=b:=fun {a b} ha hb h=>by
   have:=congrArg UInt8.toNat h
   simp only[UInt8.toNat_ofNat']at this
   omega
  by_cases h1:m<10<;>by_cases h2:k<10
  ·rw[eN h1,eN h2]at e
   simp only[List.cons.injEq,and_true]at e
   exact d10 h1 h2 e
  ·rw[eN h1,fX h2]at e
   have:=congrArg List.length e
   have:dd (k/10)=[]:=by
    apply bS
    simp at this;simpa using this
   exact absurd this (Fs _)
  ·rw[fX h1,eN h2]at e
   have:=congrArg List.length e
   have:dd (m/10)=[]:=by
    apply bS
    simp at this;simpa using this
   exact absurd this (Fs _)
  ·rw[fX h1,fX h2]at e
   obtain⟨e1,e2⟩:=List.append_inj' e rfl
   have:=wP n (m/10) (k/10) (by omega) e1
   simp only[List.cons.injEq,and_true]at e2
   have:=d10 (Nat.mod_lt _ (by omega)) (Nat.mod_lt _ (by omega)) e2
   omega
theorem CT{m k:Nat}(h:tN m=tN k):m=k:=wP (m+1) m k (by omega) (List.cons.inj h).2
theorem zb(m:Nat):rr (tN m):=⟨by simp,by simp,by simp⟩
theorem Ti:∀(l F:List Nm),l.Nodup->(∀x,x∈l->x∈F)->l.length<=F.length
 |[],_,_,_=>dS _
 |
  x::l,F,hn,hs=>by
  obtain⟨h1,h2⟩:=List.nodup_cons.1 hn
  have hx:=hs x ak
  have:=Ti l (F.erase x) h2 fun y hy=>(List.mem_erase_of_ne (fun e=>h1 (by rw[<-e];exact hy))).2 (hs y (al _ hy))
  rw[List.length_erase_of_mem hx]at this
  have:0<F.length:=List.length_pos_of_mem hx
  simp only[az];omega
def qm(F:List Nm):Nat->Nat->Nat
 |0,k=>k
 |n+1,k=>if tN k∈F then qm F n (k+1)else k
theorem vK(F:List Nm):∀(n k:Nat),k<=qm F n k/\qm F n k<=k+n/\(∀j,k<=j->j<qm F n k->tN j∈F)/\(qm F n k<k+n->tN (qm F n k)∉F)
 |0,k=>⟨au _,au _,fun j h1 h2=>by simp only[qm]at h2;omega,fun h=>by simp only[qm]at h;omega⟩
 |
  n+1,k=>by
  rw[qm]
  split
  ·rename_i hm
   obtain⟨h1,h2,h3,h4⟩:=vK F n (k+1)
   refine⟨by omega,by omega,fun j hj hl=>?_,fun h=>h4 (by omega)⟩
   by_cases e:j=k
   ·subst e;exact hm
   ·exact h3 j (by omega) hl
  ·rename_i hm
   exact⟨au _,by omega,fun j h1 h2=>by omega,fun _=>hm⟩
def nx(F:List Nm)(k:Nat):Nat:=qm F (F.length+1) k
theorem gJ(F:List Nm)(k:Nat):k<=nx F k/\nx F k<=k+F.length/\(∀j,k<=j->j<nx F k->tN j∈F)/\tN (nx F k)∉F:=by
 obtain⟨h1,h2,h3,h4⟩:=vK F (F.length+1) k
 have hlt:nx F k<k+(F.length+1):=by
  rcases Nat.lt_or_ge (nx F k) (k+(F.length+1))with h|h
  ·exact h
  ·exfalso
   have:=Ti ((List.range' k (F.length+1)).map tN) F (by
    refine List.Pairwise.map _ (fun a b hab e=>hab (CT e)) List.nodup_range') (fun x hx=>by
    obtain⟨j,hj,rfl⟩:=bO.1 hx
    obtain⟨i,hi,rfl⟩:=List.mem_range'.1 hj
    exact h3 _ (by omega) (by show _<nx F k;omega))
   simp at this
   omega
 exact⟨h1,by unfold nx at hlt |-;omega,h3,h4 hlt⟩
theorem A5{F F':List Nm}(h:∀y,y∈F↔y∈F')(k:Nat):nx F k=nx F' k:=by
 obtain⟨a1,a2,a3,a4⟩:=gJ F k
 obtain⟨b1,b2,b3,b4⟩:=gJ F' k
 rcases Nat.lt_trichotomy (nx F k) (nx F' k)with hl|he|hl
 ·exact absurd ((h _).2 (b3 _ a1 hl)) a4
 ·exact he
 ·exact absurd ((h _).1 (a3 _ b1 hl)) b4
def gX(F:List Nm):Ty->List Nm->Nat->E×Nat
 | .zero,_,k=>(.atom [48],k)
 | .one,_,k=>(.atom [49],k)
 | .name s,_,k=>(.atom s,k)
 | .bound u,to,k=>(.atom (gn to u),k)
 | .plus a b,to,k=>(.list [.atom [43],(gX F a to k).1,(gX F b to (gX F a to k).2).1],(gX F b to (gX F a to k).2).2)
 | .times a b,to,k=>(.list [.atom [42],(gX F a to k).1,(gX F b to (gX F a to k).2).1],(gX F b to (gX F a to k).2).2)
 | .rc a,to,k=>(.list [.atom dI,.atom (tN (nx F k)),(gX F a (to++[tN (nx F k)]) (nx F k+1)).1],(gX F a (to++[tN (nx F k)]) (nx F k+1)).2)
theorem jY{F F':List Nm}(h:∀y,y∈F↔y∈F'):∀(t:Ty) (to:List Nm) (k:Nat),gX F t to k=gX F' t to k
 | .zero,_,_=>rfl
 | .one,_,_=>rfl
 | .name _,_,_=>rfl
 | .bound _,_,_=>rfl
 | .plus a b,to,k=>by simp only[gX];rw[jY h a,jY h b]
 | .times a b,to,k=>by simp only[gX];rw[jY h a,jY h b]
 | .rc a,to,k=>by simp only[gX];rw[A5 h,jY h a]
def jG:Ty->Nat->Prop
 | .bound u,i=>u<i
 | .plus a b,i=>jG a i/\jG b i
 | .times a b,i=>jG a i/\jG b i
 | .rc a,i=>jG a (i+1)
 |_,_=>True
theorem uu{e:E}(h:Wf e):∀ar,jG (cU e ar) ar.length:=by
 induction h with
 |
  @atom s hs =>
  intro ar
  simp only[cU]
  split
  ·trivial
  ·split
   ·trivial
   ·split
    ·rename_i u q;exact(fO _ _ (au _) q).1
    ·trivial
 |plus ha hb i1 i2=>intro ar;rw[dP];exact⟨i1 ar,i2 ar⟩
 |times ha hb i1 i2=>intro ar;rw[dx];exact⟨i1 ar,i2 ar⟩
 |
  @rc n b hn hb i =>
  intro ar;rw[fy]
  have:=i (ar++[(E.atom n).at])
  rw[aq]at this
  exact this
structure Gn(F to:List Nm)(k:Nat):Prop where
 out:∀w,w∈to->w∉F
 lt:∀w,w∈to->∃j,j<k/\w=tN j
 nd:to.Nodup
theorem Gn.nil(F:List Nm)(k:Nat):Gn F [] k:=⟨fun _ h=>(by cases h),fun _ h=>(by cases h),by simp⟩
theorem Gn.mono{F to:List Nm}{k k':Nat}(h:Gn F to k)(hk:k<=k'):Gn F to k':=⟨h.out,fun w hw=>by obtain⟨j,h1,h2⟩:=h.lt w hw;exact⟨j,by omega,h2⟩,h.nd⟩
theorem Gn.push{F to:List Nm}{k:Nat}(h:Gn F to k):Gn F (to++[tN (nx F k)]) (nx F k+1):=by
 obtain⟨h1,h2,h3,h4⟩:=gJ F k
 refine⟨fun w hw=>?_,fun w hw=>?_,?_⟩
 ·rcases aN.1 hw with hw|hw
  ·exact h.out w hw
  ·simp only[aQ]at hw;rw[hw];exact h4
 ·rcases aN.1 hw with hw|hw
  ·obtain⟨j,g1,g2⟩:=h.lt w hw;exact⟨j,by omega,g2⟩
  ·simp only[aQ]at hw;exact⟨_,by omega,hw⟩
 ·refine List.nodup_append.2 ⟨h.nd,by simp,fun a ha b hb e=>?_⟩
  simp only[aQ]at hb
  obtain⟨j,g1,g2⟩:=h.lt a ha
  rw[e,hb]at g2
  have:=CT g2
  omega
theorem ux{to:List Nm}(hn:to.Nodup){u:Nat}(hu:u<to.length):bR (gn to u) to to.length=some u:=by
 have hm:gn to u∈to:=by
  unfold gn
  have:to.length-1-u<to.length:=by omega
  simp[aa,this]
 cases q:bR (gn to u) to to.length with
 |none=>exact absurd hm ((fG _ _).1 q)
 |
  some v =>
  obtain⟨h1,h2⟩:=fO _ _ (au _) q
  unfold gn at h2
  have e1:to.length-1-v<to.length:=by omega
  have e2:to.length-1-u<to.length:=by omega
  rw[aa,aa,bp e1,bp e2]at h2
  have hp:=List.pairwise_iff_getElem.1 hn
  have h3:to[to.length-1-v]=to[to.length-1-u]:=by simpa using h2
  rcases Nat.lt_trichotomy (to.length-1-v) (to.length-1-u)with hl|he|hl
  ·exact absurd h3 (hp _ _ e1 e2 hl)
  ·congr 1;omega
  ·exact absurd h3.symm (hp _ _ e2 e1 hl)
theorem kQ(F:List Nm):∀(t:Ty) (to:List Nm) (k:Nat),Gn F to k->jG t to.length->(∀y,bn y t=true->y∈F/\rr y) ->
 Wf (gX F t to k).1/\cU (gX F t to k).1 to=t/\k<=(gX F t to k).2/\(gX F t to k).2<=k+(F.length+1)*t.atoms/\uZ (·∉F) (gX F t to k).1
 | .zero,to,k,_,_,_=>⟨.atom (by simp),rfl,au _,dc _ _,trivial⟩
 | .one,to,k,_,_,_=>⟨.atom (by simp),rfl,au _,dc _ _,trivial⟩
 |
  .name s,to,k,g,hl,hn=>by
  obtain⟨h1,h2⟩:=hn s (by simp[bn])
  exact⟨.atom h2.1,jn h2 (fun h=>g.out s h h1),au _,dc _ _,trivial⟩
 |
  .bound u,to,k,g,hl,hn=>by
  have hm:gn to u∈to:=by
   unfold gn
   have:to.length-1-u<to.length:=by have:u<to.length:=hl;omega
   simp[aa,this]
  obtain⟨j,_,e⟩:=g.lt _ hm
  have hok:rr (gn to u):=by rw[e];exact zb j
  refine⟨.atom hok.1,?_,au _,dc _ _,trivial⟩
  simp only[gX,cU]
  rw[if_neg hok.2.1,if_neg hok.2.2,ux g.nd hl]
 |
  .plus a b,to,k,g,hl,hn=>by
  obtain⟨a1,a2,a3,a4,a5⟩:=kQ F a to k g hl.1 fun y hy=>hn y (by simp[bn,hy])
  obtain⟨b1,b2,b3,b4,b5⟩:=kQ F b to _ (g.mono a3) hl.2 fun y hy=>hn y (by simp[bn,hy])
  simp only[gX,dP,a2,b2,oJ,Ty.atoms]
  refine⟨.plus a1 b1,trivial,by omega,?_,a5,b5⟩
  have:(F.length+1)*(1+a.atoms+b.atoms)=(F.length+1)+(F.length+1)*a.atoms+(F.length+1)*b.atoms:=by simp only[cW,dK]
  omega
 |
  .times a b,to,k,g,hl,hn=>by
  obtain⟨a1,a2,a3,a4,a5⟩:=kQ F a to k g hl.1 fun y hy=>hn y (by simp[bn,hy])
  obtain⟨b1,b2,b3,b4,b5⟩:=kQ F b to _ (g.mono a3) hl.2 fun y hy=>hn y (by simp[bn,hy])
  simp only[gX,dx,a2,b2,nC,Ty.atoms]
  refine⟨.times a1 b1,trivial,by omega,?_,a5,b5⟩
  have:(F.length+1)*(1+a.atoms+b.atoms)=(F.length+1)+(F.length+1)*a.atoms+(F.length+1)*b.atoms:=by simp only[cW,dK]
  omega
 |
  .rc a,to,k,g,hl,hn=>by
  obtain⟨h1,h2,h3,h4⟩:=gJ F k
  obtain⟨a1,a2,a3,a4,a5⟩:=kQ F a (to++[tN (nx F k)]) (nx F k+1) g.push (by rw[aq];exact hl) hn
  simp only[gX,fy,dV,a2,ue,Ty.atoms]
  refine⟨.rc (zb _) a1,trivial,by omega,?_,h4,a5⟩
  have:(F.length+1)*(2+a.atoms)=(F.length+1)*2+(F.length+1)*a.atoms:=by simp only[cW]
  omega
end Go.Proofs.Trees
namespace Go.Proofs.Trees
open Go Go.VL Go.RowKit
inductive kS:AV->List Nat->Prop
 |nil:kS iC []
 |cons {m:Nat} {cs:List AV} {e:AV} {ids:List Nat} (hm:m∉ids) (h:kS e ids):kS (.ptr [.pid m cs,e]) (m::ids)
theorem kS.has{a:AV}{ids:List Nat}(h:kS a ids):LK.has .ptr a:=by
 cases h
 ·exact(jr).mpr trivial
 ·exact(cj _).mpr trivial
theorem kS.Tt{M:Mem}{a:AV}{ids:List Nat}(h:kS a ids):∀{v:Value},bE M dA a v->∀b,b∈ids->M.p b:=by
 induction h with
 |nil=>intro v _ b hb;cases hb
 |
  @cons m cs e ids hm h ih =>
  intro v hr b hb
  cases hr with
  |
   ptr _ _ _ off us hc hr =>
   have h0:=hr 0 (by simp)
   have h1:=hr 1 (by simp)
   simp only[bu,List.getD_cons_succ]at h0 h1
   rcases aK.1 hb with rfl|hb
   ·generalize us 0=u0 at h0
    cases h0 with
    |pid _ _ _ us hp _ _=>exact hp
   ·exact ih h1 b hb
theorem kS.nodup{a:AV}{ids:List Nat}(h:kS a ids):ids.Nodup:=by
 induction h with
 |nil=>simp
 |cons hm h ih=>exact List.nodup_cons.2 ⟨hm,ih⟩
theorem zR(a b:AV)(S:Nat->Prop)(R:AV->Prop):Cg Ph cfg eE (cH eE) [.agg [.x a,.x b]] S (fun o=>aJ o 7) R =
 .ai (LK.has .ptr a/\a.isNil=false) (.ai (LK.has .ptr a/\a.isNil=false) (.ai (LK.has .ptr ((a.deref.drop 3).headD .any)/\1<=(a.deref.drop 3).length)
  (.ai (∀ids:Nat->Nat,(∀o,¬S (ids o))->(True/\R (.cI [.agg [(a.deref.drop 3).headD .any,.ptr [.pid (ids 7) [a,b],b]],.pid (ids 7) [a,b]]))) (.done 0 [] [])))):=by kernel_rfl
def AU(t:Ty)(ea:AV)(ids:List Nat):AV->List Ob->Prop:=fun r o=>(∃m,m∉ids/\r=.cI [.agg [t.av,.ptr [.pid m [(Ty.rc t).av,ea],ea]],.pid m [(Ty.rc t).av,ea]])/\o=[]
theorem AU.ne(t:Ty)(ea:AV)(ids:List Nat):∃r o,AU t ea ids r o:=by
 have:∃m,m∉ids:=⟨ids.foldr max 0+1,fun h=>by
  have key:∀(l:List Nat) (x:Nat),x∈l->x<=l.foldr max 0:=by
   intro l
   induction l with
   |nil=>intro x hx;cases hx
   |
    cons y l ih =>
    intro x hx
    rcases aK.1 hx with rfl|hx
    ·simp only[List.foldr_cons];omega
    ·have:=ih x hx;simp only[List.foldr_cons];omega
  have:=key _ _ h
  omega⟩
 obtain⟨m,hm⟩:=this
 exact⟨_,_,⟨m,hm,rfl⟩,rfl⟩
theorem El(t:Ty)(ea:AV)(ids:List Nat)(he:kS ea ids):an Tryz.prog 77 [.agg [(Ty.rc t).av,ea]] [] (AU t ea ids):=by
 have hup:xc [.agg [(Ty.rc t).av,ea]] [.agg [.x (Ty.rc t).av,.x ea]]:=ah (cb (ah (bD ((aF _).mpr trivial)) (ah (bD he.has) aC))) aC
 refine an.up hup ?_
 refine an.Tv (cfg:=cfg) (F:=eE) (S:=fun b=>b∈ids) (sel:=fun o=>aJ o 7) uj mixed (by kernel_rfl) (by kernel_rfl) (c:=cH eE) (by kernel_rfl) (by kernel_rfl) (fun M β vs hr b hb=>?_) ?_
 ·have h0:=hr 0 (by simp)
  simp only[bu]at h0
  obtain⟨us,_,hl,hq,_⟩:=gh h0
  have h1:=hq 1 (by simp at hl |-)
  simp only[List.getD_cons_succ,bu]at h1
  cases h1 with
  |x _ _ _ _ h=>exact he.Tt h b hb
 ·rw[zR]
  simp only[Ty.av,↓zq,zs,ae,aF]
  exact⟨by omega,fun ids' hf=>⟨ids' 7,hf 7,rfl⟩⟩
theorem JG(u:Nat)(hu:u<1000000):∀(k i:Nat) (ea:AV) (ids:List Nat),i+k=u->kS ea ids->k<=ids.length->DS [ea,.v (.int .i64 (u:Int)),.v (.int .i64 (i:Int))] [] (fun t ys o=>t=1/\∃e',kS e' (ids.drop k)/\ys=[e']/\o=[])
 |
  0,i,ea,ids,hi,he,hk=>by
  refine DY _ _ _ ?_
  have:i=u:=by omega
  subst this
  simp only[Cj,↓zq,zs,ae]
  exact⟨he.has,fun h=>by omega,fun _=>⟨ea,he,rfl⟩⟩
 |
  k+1,i,ea,ids,hi,he,hk=>by
  refine DY _ _ _ ?_
  cases he with
  |nil=>simp at hk
  |
   @cons m cs e ids' hm h =>
   simp only[Cj,↓zq,zs,ae,h.has]
   refine⟨fun _=>⟨by omega,?_⟩,fun h=>by omega⟩
   rw[bA i (by omega)]
   exact JG u hu k (i+1) e ids' (by omega) h (by simpa using hk)
theorem SU(u:Nat)(ea:AV)(ids:List Nat)(he:kS ea ids)(hu:u<ids.length)(hl:ids.length<1000000):an Tryz.prog 141 [.agg [(Ty.bound u).av,ea]] [] (fun r o=>(∃cs,r=.pid (ids.getD u 0) cs)/\o=[]):=by
 refine Lg _ _ ((aF _).mpr trivial) he.has ?_
 simp only[G6,Ty.av,↓zq,zs,ae,he.has]
 refine⟨by omega,k9 (JG u (by omega) u 0 ea ids (by omega) he (by omega)) ?_ (fun ys o h=>by cases h.1)⟩
 rintro ys o ⟨_,e',he',rfl,rfl⟩
 have hd:ids.drop u=ids.getD u 0::ids.drop (u+1):=by
  rw[aT hu];simp[aa,hu]
 rw[hd]at he'
 cases he' with
 |
  @cons m cs e ids' hm h =>
  have hp:LK.has .ptr (AV.pid (ids.getD u 0) cs):=.inr (.inr ⟨_,_,rfl⟩)
  simp only[↓zq,zs,ae,hp]
  exact⟨by omega,cs,rfl⟩
inductive AQ:Tg->List Nat->List UInt8->AV->Prop
 |nm (s:List UInt8) (ids:List Nat):AQ (.nm s) ids s iC
 |bd {k:Nat} {ids:List Nat} (hk:k<ids.length) (cs:List AV) (s:List UInt8):AQ (.bd k) ids s (.pid (ids.getD k 0) cs)
theorem AQ.has{tg:Tg}{ids:List Nat}{s:List UInt8}{fr:AV}(h:AQ tg ids s fr):LK.has .ptr fr:=by
 cases h
 ·exact(jr).mpr trivial
 ·exact .inr (.inr ⟨_,_,rfl⟩)
theorem AQ.push{tg:Tg}{ids:List Nat}{s:List UInt8}{fr:AV}(h:AQ tg ids s fr)(m:Nat):AQ tg.up (m::ids) s fr:=by
 cases h with
 |nm=>exact .nm _ _
 |
  @bd k _ hk cs =>
  have:=AQ.bd (k:=k+1) (ids:=m::ids) (by simpa using hk) cs s
  simpa[Tg.up]using this
theorem zK{ids:List Nat}(h:ids.Nodup){i j:Nat}(hi:i<ids.length)(hj:j<ids.length)(he:ids.getD i 0=ids.getD j 0):i=j:=by
 have e1:ids.getD i 0=ids[i]:=by simp[aa,hi]
 have e2:ids.getD j 0=ids[j]:=by simp[aa,hj]
 rw[e1,e2]at he
 have hp:=List.pairwise_iff_getElem.1 h
 rcases Nat.lt_trichotomy i j with hlt|rfl|hlt
 ·exact absurd he (hp i j hi hj hlt)
 ·rfl
 ·exact absurd he.symm (hp j i hj hi hlt)
theorem PF(t:Ty)(tg:Tg)(ea:AV)(ids:List Nat)(s:List UInt8)(fr:AV)(he:kS ea ids)(ht:AQ tg ids s fr)(hu:∀u,t=.bound u->u<ids.length)(hl:ids.length<1000000) :
 an Tryz.prog 110 [.agg [.v (.string (mk s)),fr],.agg [t.av,ea]] [] (bJ (.v (.bool (dT t tg)))):=by
 refine QW _ _ _ _ ht.has ((aF _).mpr trivial) he.has ?_
 cases ht with
 |
  nm s =>
  cases t<;>simp[Ev,Ty.av,↓zq,zs,ae,zt,bJ,dT]
  rw[cA];simp
 |
  @bd k _ hk cs s =>
  generalize hm0:ids.getD k 0=m0
  have hp:LK.has .ptr (AV.pid m0 cs):=.inr (.inr ⟨_,_,rfl⟩)
  have hn:(AV.pid m0 cs).isNil=false:=rfl
  cases t with
  |
   bound u =>
   have hu:=hu u rfl
   simp only[Ev,Ty.av,↓zq,zs,ae,hp,hn]
   refine⟨fun _=>⟨by omega,fun _=>?_,fun h=>absurd rfl h⟩,fun h=>by cases h⟩
   have hb:=SU u ea ids he hu hl
   simp only[Ty.av]at hb
   refine aP hb ⟨_,_,⟨[],rfl⟩,rfl⟩ ?_
   rintro r o ⟨⟨cs',rfl⟩,rfl⟩
   have hp':LK.has .ptr (AV.pid (ids.getD u 0) cs'):=.inr (.inr ⟨_,_,rfl⟩)
   simp only[↓zq,zs,ae,hp',AV.rB,AV.Cy,bJ,dT]
   congr 2
   rw[cA,Nat.beq_eq,decide_eq_true_eq,<-hm0]
   exact⟨fun h=>zK he.nodup hu hk h,fun h=>by rw[h]⟩
  |_=>simp[Ev,Ty.av,↓zq,zs,ae,hp,hn,bJ,dT]
end Go.Proofs.Trees
namespace Go.Proofs.Trees
open Go Go.VL Go.RowKit
theorem Ak(b:Int)(a:AV)(h:LK.ptr.has a):an Tryz.prog 78 [.v (.int .u8 b),a] [] (bJ (.ptr [.v (.int .u8 b),.v (.string (mk [])),a,iC])):=by
 refine R2 _ _ h ?_
 simp[Oy,↓zq,zs,ae,bJ]
end Go.Proofs.Trees
namespace Go.Proofs.Trees
open Go Go.VL Go.RowKit
def iw(l:List Hl):List (List AV):=l.map fun h=>[h.1.cE,h.2.cE]
theorem ew(l:List Hl):(iw l).length=l.length:=by simp[iw]
theorem l7{l:List Hl}{i:Nat}(hi:i<l.length):(iw l).getD i []=[(l[i]).1.cE,(l[i]).2.cE]:=by simp[iw,aa,hi]
theorem pD(out:List Hl)(a b:Vl):iw out++[[a.cE,b.cE]]=iw (out++[(a,b)]):=by simp[iw]
theorem gx(g:Vl->Vl)(l:List Hl){i:Nat}(hi:i<l.length):eW g (l.drop i)=(g (l[i]).1,(l[i]).2)::eW g (l.drop (i+1)):=by
 rw[aT hi];rfl
theorem fW(g:Vl->Vl)(l:List Hl):(eW g l).length=l.length:=by simp[eW]
theorem Cs(a b:AV):cG 2 [[a,b]]:=fun c hc=>by simp at hc;rw[hc];rfl
theorem O4(x0:AV)(hx0:LK.ptr.has x0)(g:Vl->Vl)(hg:∀c:Vl,an Tryz.prog 112 [c.cE,.ref 0 0] [.cells [x0]] (di (g c).cE [.cells [x0]]))(l:List Hl):∀(k i:Nat) (out:List Hl),i+k=l.length->out.length+k<=1000000->l.length<=1000000 ->
 G4 [.sl (iw l),.v (.int .i64 (l.length:Int)),.v (.int .i64 (i:Int))] [.cells [x0],.cells [.any],.vec 2 (iw out)] (iq 1 [] [.cells [x0],.cells [.any],.vec 2 (iw (out++eW g (l.drop i)))])
 |
  0,i,out,hi,ho,hl=>by
  refine OM _ _ _ _ _ ?_
  have:i=l.length:=by omega
  subst this
  simp only[FM,↓zq,zs,ae,ew,hx0]
  exact⟨fun h=>by omega,fun _=>by simp[iq,eW]⟩
 |
  k+1,i,out,hi,ho,hl=>by
  have hlt:i<l.length:=by omega
  refine OM _ _ _ _ _ ?_
  simp only[FM,↓zq,zs,ae,zt,ew,l7 hlt,aO,bH,hx0]
  refine⟨fun _=>⟨by omega,by omega,?_⟩,fun h=>by omega⟩
  refine aV (hg _) ?_
  simp only[↓zq,zs,ae,aO,aI,bJ,di,hx0]
  refine⟨⟨Cs _ _,by omega⟩,?_⟩
  rw[bA i (by omega)]
  have:=O4 x0 hx0 g hg l k (i+1) (out++[(g (l[i]).1,(l[i]).2)]) (by omega) (by simp;omega) hl
  rw[a6]at this
  rw[gx g l hlt,pD]
  exact this
theorem JN(x0:AV)(hx0:LK.ptr.has x0)(g:Vl->Vl)(hg:∀c:Vl,an Tryz.prog 112 [c.cE,.ref 0 0] [.cells [x0]] (di (g c).cE [.cells [x0]]))(l out:List Hl)(hl:out.length+l.length<=1000000) :
 an Tryz.prog 111 [.sl (iw l),.fn 112 [.ref 0 0],.ref 1 0] [.cells [x0],.cells [.vec 2],.vec 2 (iw out)] (di .any [.cells [x0],.cells [.vec 2],.vec 2 (iw (out++eW g l))]):=by
 refine QQ _ _ _ ((cn _).mpr trivial) hx0 ?_
 simp only[J7,↓zq,zs,ae,ew]
 have h:=O4 x0 hx0 g hg l l.length 0 out (by omega) (by omega) (by omega)
 rw[bf]at h
 refine cF h ?_
 simp[↓zq,zs,ae,di,aI,hx0]
theorem Nq(x0:AV)(hx0:LK.ptr.has x0)(g:Vl->Vl)(hg:∀c:Vl,an Tryz.prog 113 [c.cE,.ref 0 0] [.cells [x0]] (di (g c).cE [.cells [x0]]))(l:List Hl):∀(k i:Nat) (out:List Hl),i+k=l.length->out.length+k<=1000000->l.length<=1000000 ->
 Iq [.sl (iw l),.v (.int .i64 (l.length:Int)),.v (.int .i64 (i:Int))] [.cells [x0],.cells [.any],.vec 2 (iw out)] (iq 1 [] [.cells [x0],.cells [.any],.vec 2 (iw (out++eW g (l.drop i)))])
 |
  0,i,out,hi,ho,hl=>by
  refine Ny _ _ _ _ _ ?_
  have:i=l.length:=by omega
  subst this
  simp only[FN,↓zq,zs,ae,ew,hx0]
  exact⟨fun h=>by omega,fun _=>by simp[iq,eW]⟩
 |
  k+1,i,out,hi,ho,hl=>by
  have hlt:i<l.length:=by omega
  refine Ny _ _ _ _ _ ?_
  simp only[FN,↓zq,zs,ae,zt,ew,l7 hlt,aO,bH,hx0]
  refine⟨fun _=>⟨by omega,by omega,?_⟩,fun h=>by omega⟩
  refine aV (hg _) ?_
  simp only[↓zq,zs,ae,aO,aI,bJ,di,hx0]
  refine⟨⟨Cs _ _,by omega⟩,?_⟩
  rw[bA i (by omega)]
  have:=Nq x0 hx0 g hg l k (i+1) (out++[(g (l[i]).1,(l[i]).2)]) (by omega) (by simp;omega) hl
  rw[a6]at this
  rw[gx g l hlt,pD]
  exact this
theorem Sn(x0:AV)(hx0:LK.ptr.has x0)(g:Vl->Vl)(hg:∀c:Vl,an Tryz.prog 113 [c.cE,.ref 0 0] [.cells [x0]] (di (g c).cE [.cells [x0]]))(l out:List Hl)(hl:out.length+l.length<=1000000) :
 an Tryz.prog 111 [.sl (iw l),.fn 113 [.ref 0 0],.ref 1 0] [.cells [x0],.cells [.vec 2],.vec 2 (iw out)] (di .any [.cells [x0],.cells [.vec 2],.vec 2 (iw (out++eW g l))]):=by
 refine S1 _ _ _ ((cn _).mpr trivial) hx0 ?_
 simp only[MA,↓zq,zs,ae,ew]
 have h:=Nq x0 hx0 g hg l l.length 0 out (by omega) (by omega) (by omega)
 rw[bf]at h
 refine cF h ?_
 simp[↓zq,zs,ae,di,aI,hx0]
theorem Kg(x0:AV)(hx0:LK.ptr.has x0)(g:Vl->Vl)(hg:∀c:Vl,an Tryz.prog 114 [c.cE,.ref 0 0] [.cells [x0]] (di (g c).cE [.cells [x0]]))(l:List Hl):∀(k i:Nat) (out:List Hl),i+k=l.length->out.length+k<=1000000->l.length<=1000000 ->
 Gh [.sl (iw l),.v (.int .i64 (l.length:Int)),.v (.int .i64 (i:Int))] [.cells [x0],.cells [.any],.vec 2 (iw out)] (iq 1 [] [.cells [x0],.cells [.any],.vec 2 (iw (out++eW g (l.drop i)))])
 |
  0,i,out,hi,ho,hl=>by
  refine OP _ _ _ _ _ ?_
  have:i=l.length:=by omega
  subst this
  simp only[Gw,↓zq,zs,ae,ew,hx0]
  exact⟨fun h=>by omega,fun _=>by simp[iq,eW]⟩
 |
  k+1,i,out,hi,ho,hl=>by
  have hlt:i<l.length:=by omega
  refine OP _ _ _ _ _ ?_
  simp only[Gw,↓zq,zs,ae,zt,ew,l7 hlt,aO,bH,hx0]
  refine⟨fun _=>⟨by omega,by omega,?_⟩,fun h=>by omega⟩
  refine aV (hg _) ?_
  simp only[↓zq,zs,ae,aO,aI,bJ,di,hx0]
  refine⟨⟨Cs _ _,by omega⟩,?_⟩
  rw[bA i (by omega)]
  have:=Kg x0 hx0 g hg l k (i+1) (out++[(g (l[i]).1,(l[i]).2)]) (by omega) (by simp;omega) hl
  rw[a6]at this
  rw[gx g l hlt,pD]
  exact this
theorem PO(x0:AV)(hx0:LK.ptr.has x0)(g:Vl->Vl)(hg:∀c:Vl,an Tryz.prog 114 [c.cE,.ref 0 0] [.cells [x0]] (di (g c).cE [.cells [x0]]))(l out:List Hl)(hl:out.length+l.length<=1000000) :
 an Tryz.prog 111 [.sl (iw l),.fn 114 [.ref 0 0],.ref 1 0] [.cells [x0],.cells [.vec 2],.vec 2 (iw out)] (di .any [.cells [x0],.cells [.vec 2],.vec 2 (iw (out++eW g l))]):=by
 refine QZ _ _ _ ((cn _).mpr trivial) hx0 ?_
 simp only[NQ,↓zq,zs,ae,ew]
 have h:=Kg x0 hx0 g hg l l.length 0 out (by omega) (by omega) (by omega)
 rw[bf]at h
 refine cF h ?_
 simp[↓zq,zs,ae,di,aI,hx0]
theorem LZ(g:Vl->Vl)(hg:∀c:Vl,an Tryz.prog 115 [c.cE] [] (bJ (g c).cE))(l:List Hl):∀(k i:Nat) (out:List Hl),i+k=l.length->out.length+k<=1000000->l.length<=1000000 ->
 Gk [.v (.func (.func 115) #[] #[]),.sl (iw l),.v (.int .i64 (l.length:Int)),.v (.int .i64 (i:Int))] [.cells [.any],.vec 2 (iw out)] (iq 1 [] [.cells [.any],.vec 2 (iw (out++eW g (l.drop i)))])
 |
  0,i,out,hi,ho,hl=>by
  refine L3 _ _ _ _ ?_
  have:i=l.length:=by omega
  subst this
  simp only[G1,↓zq,zs,ae,ew]
  exact⟨fun h=>by omega,fun _=>by simp[iq,eW]⟩
 |
  k+1,i,out,hi,ho,hl=>by
  have hlt:i<l.length:=by omega
  refine L3 _ _ _ _ ?_
  simp only[G1,↓zq,zs,ae,zt,ew,l7 hlt,aO,bH]
  refine⟨fun _=>⟨by omega,by omega,?_⟩,fun h=>by omega⟩
  refine aj (hg _) ?_
  simp only[↓zq,zs,ae,aO,aI,bJ,di]
  refine⟨⟨Cs _ _,by omega⟩,?_⟩
  rw[bA i (by omega)]
  have:=LZ g hg l k (i+1) (out++[(g (l[i]).1,(l[i]).2)]) (by omega) (by simp;omega) hl
  rw[a6]at this
  rw[gx g l hlt,pD]
  exact this
theorem PH(g:Vl->Vl)(hg:∀c:Vl,an Tryz.prog 115 [c.cE] [] (bJ (g c).cE))(l out:List Hl)(hl:out.length+l.length<=1000000) :
 an Tryz.prog 111 [.sl (iw l),.v (.func (.func 115) #[] #[]),.ref 0 0] [.cells [.vec 1],.vec 2 (iw out)] (di .any [.cells [.vec 1],.vec 2 (iw (out++eW g l))]):=by
 refine Rj _ _ ((cn _).mpr trivial) ?_
 simp only[LC,↓zq,zs,ae,ew]
 have h:=LZ g hg l l.length 0 out (by omega) (by omega) (by omega)
 rw[bf]at h
 refine cF h ?_
 simp[↓zq,zs,ae,di,aI]
theorem MP(x0:AV)(x1:AV)(hx0:LK.ptr.has x0)(hx1:LK.ptr.has x1)(g:Vl->Vl)(hg:∀c:Vl,an Tryz.prog 116 [c.cE,.ref 0 0] [.cells [x0,x1]] (di (g c).cE [.cells [x0,x1]]))(l:List Hl):∀(k i:Nat) (out:List Hl),i+k=l.length->out.length+k<=1000000->l.length<=1000000 ->
 FV [.sl (iw l),.v (.int .i64 (l.length:Int)),.v (.int .i64 (i:Int))] [.cells [x0,x1],.cells [.any],.vec 2 (iw out)] (iq 1 [] [.cells [x0,x1],.cells [.any],.vec 2 (iw (out++eW g (l.drop i)))])
 |
  0,i,out,hi,ho,hl=>by
  refine ML _ _ _ _ _ _ ?_
  have:i=l.length:=by omega
  subst this
  simp only[HK,↓zq,zs,ae,ew,hx0,hx1]
  exact⟨fun h=>by omega,fun _=>by simp[iq,eW]⟩
 |
  k+1,i,out,hi,ho,hl=>by
  have hlt:i<l.length:=by omega
  refine ML _ _ _ _ _ _ ?_
  simp only[HK,↓zq,zs,ae,zt,ew,l7 hlt,aO,bH,hx0,hx1]
  refine⟨fun _=>⟨by omega,by omega,?_⟩,fun h=>by omega⟩
  refine aV (hg _) ?_
  simp only[↓zq,zs,ae,aO,aI,bJ,di,hx0,hx1]
  refine⟨⟨Cs _ _,by omega⟩,?_⟩
  rw[bA i (by omega)]
  have:=MP x0 x1 hx0 hx1 g hg l k (i+1) (out++[(g (l[i]).1,(l[i]).2)]) (by omega) (by simp;omega) hl
  rw[a6]at this
  rw[gx g l hlt,pD]
  exact this
theorem SC(x0:AV)(x1:AV)(hx0:LK.ptr.has x0)(hx1:LK.ptr.has x1)(g:Vl->Vl)(hg:∀c:Vl,an Tryz.prog 116 [c.cE,.ref 0 0] [.cells [x0,x1]] (di (g c).cE [.cells [x0,x1]]))(l out:List Hl)(hl:out.length+l.length<=1000000) :
 an Tryz.prog 111 [.sl (iw l),.fn 116 [.ref 0 0],.ref 1 0] [.cells [x0,x1],.cells [.vec 2],.vec 2 (iw out)] (di .any [.cells [x0,x1],.cells [.vec 2],.vec 2 (iw (out++eW g l))]):=by
 refine RQ _ _ _ _ ((cn _).mpr trivial) hx0 hx1 ?_
 simp only[MQ,↓zq,zs,ae,ew]
 have h:=MP x0 x1 hx0 hx1 g hg l l.length 0 out (by omega) (by omega) (by omega)
 rw[bf]at h
 refine cF h ?_
 simp[↓zq,zs,ae,di,aI,hx0,hx1]
theorem S4(w c:Vl):an Tryz.prog 112 [c.cE,.ref 0 0] [.cells [(Vl.l w).cE]] (di (Vl.l c).cE [.cells [(Vl.l w).cE]]):=by
 refine KF _ _ ((aO _).mpr trivial) ((aO _).mpr trivial) ?_
 simp only[IW,Vl.cE,↓zq,zs,ae,aO]
 refine⟨by omega,?_⟩
 refine aj (Ak _ _ ((aO _).mpr trivial)) ?_
 simp[↓zq,zs,ae,di,Vl.cE]
theorem Ta(w c:Vl):an Tryz.prog 112 [c.cE,.ref 0 0] [.cells [(Vl.r w).cE]] (di (Vl.r c).cE [.cells [(Vl.r w).cE]]):=by
 refine KF _ _ ((aO _).mpr trivial) ((aO _).mpr trivial) ?_
 simp only[IW,Vl.cE,↓zq,zs,ae,aO]
 refine⟨by omega,?_⟩
 refine aj (Ak _ _ ((aO _).mpr trivial)) ?_
 simp[↓zq,zs,ae,di,Vl.cE]
theorem R7(x y c:Vl):an Tryz.prog 113 [c.cE,.ref 0 0] [.cells [(Vl.p x y).cE]] (di (Vl.l (.p c y)).cE [.cells [(Vl.p x y).cE]]):=by
 refine Qy _ _ ((aO _).mpr trivial) ((aO _).mpr trivial) ?_
 simp only[LU,Vl.cE,↓zq,zs,ae,aO]
 refine⟨by omega,?_⟩
 refine aj (Aa _ _ ((aO _).mpr trivial) ((aO _).mpr trivial)) ?_
 simp only[↓zq,zs,ae]
 refine aj (Ak _ _ ((cj _).mpr trivial)) ?_
 simp[↓zq,zs,ae,di,Vl.cE]
theorem RJ(x y c:Vl):an Tryz.prog 114 [c.cE,.ref 0 0] [.cells [(Vl.p x y).cE]] (di (Vl.r (.p x c)).cE [.cells [(Vl.p x y).cE]]):=by
 refine RM _ _ ((aO _).mpr trivial) ((aO _).mpr trivial) ?_
 simp only[KG,Vl.cE,↓zq,zs,ae,aO]
 refine⟨by omega,?_⟩
 refine aj (Aa _ _ ((aO _).mpr trivial) ((aO _).mpr trivial)) ?_
 simp only[↓zq,zs,ae]
 refine aj (Ak _ _ ((cj _).mpr trivial)) ?_
 simp[↓zq,zs,ae,di,Vl.cE]
theorem S0(kc kv c:Vl):an Tryz.prog 116 [c.cE,.ref 0 0] [.cells [kc.cE,kv.cE]] (di (Vl.f (.r (.p kc c))).cE [.cells [kc.cE,kv.cE]]):=by
 refine QO _ _ _ ((aO _).mpr trivial) ((aO _).mpr trivial) ((aO _).mpr trivial) ?_
 simp only[Kc,Vl.cE,↓zq,zs,ae,aO]
 refine aj (Aa _ _ ((aO _).mpr trivial) ((aO _).mpr trivial)) ?_
 simp only[↓zq,zs,ae]
 refine aj (Ak _ _ ((cj _).mpr trivial)) ?_
 simp only[↓zq,zs,ae]
 refine aj (Ak _ _ ((cj _).mpr trivial)) ?_
 simp[↓zq,zs,ae,di,Vl.cE,aO]
theorem RY(c:Vl):an Tryz.prog 115 [c.cE] [] (bJ (Vl.f (.l c)).cE):=by
 refine R4 _ ((aO _).mpr trivial) ?_
 simp only[N9,↓zq,zs,ae]
 refine aj (Ak _ _ ((aO _).mpr trivial)) ?_
 simp only[↓zq,zs,ae]
 refine aj (Ak _ _ ((cj _).mpr trivial)) ?_
 simp[↓zq,zs,ae,bJ,Vl.cE]
end Go.Proofs.Trees
namespace Go.Proofs.Trees
open Go Go.VL Go.RowKit
abbrev AN(a:Ty)(tg:Tg):Hl->List Hl:=fun h=>eW (fun c=>.f (.r (.p h.1 c))) (bM (.rc a) tg h.2)
theorem AX(l:List Hl){i:Nat}(hi:i<l.length):l[i]∈l:=bI _
def Gv(t:Ty)(ea:AV)(s:List UInt8)(fr:AV)(tg:Tg)(v:Vl):Prop:=an Tryz.prog 80 [.agg [t.av,ea],v.cE,.agg [.v (.string (mk s)),fr]] [] (bJ (.sl (iw (bM t tg v))))
theorem Mq(a:Ty)(ea:AV)(s:List UInt8)(fr:AV)(tg:Tg)(he:LK.ptr.has ea)(hf:LK.ptr.has fr)(l:List Hl)(hl:l.length<=1000000)(ih:∀h,h∈l->Gv (.rc a) ea s fr tg h.2) :
 ∀(k i:Nat) (out:List Hl),i+k=l.length->(out++(l.drop i).flatMap (AN a tg)).length<=1000000 ->
 Gp [.sl (iw l),.v (.int .i64 (l.length:Int)),.v (.int .i64 (i:Int))] [.cells [(Ty.rc a).av,ea],.cells [.v (.string (mk s)),fr],.cells [.any],.vec 2 (iw out)] (iq 1 [] [.cells [.any],.vec 2 (iw (out++(l.drop i).flatMap (AN a tg)))])
 |
  0,i,out,hi,ho=>by
  refine Oa _ _ _ _ _ _ _ _ ?_
  have:i=l.length:=by omega
  subst this
  simp only[I1,↓zq,zs,ae,ew,aF,he,hf]
  exact⟨fun h=>by omega,fun _=>by simp[iq]⟩
 |
  k+1,i,out,hi,ho=>by
  have hlt:i<l.length:=by omega
  have hd:(l.drop i).flatMap (AN a tg)=AN a tg (l[i])++(l.drop (i+1)).flatMap (AN a tg):=by rw[aT hlt,cf]
  rw[hd]at ho |-
  refine Oa _ _ _ _ _ _ _ _ ?_
  simp only[I1,↓zq,zs,ae,zt,ew,l7 hlt,aF,aO,bH,he,hf]
  refine⟨fun _=>⟨by omega,by omega,?_⟩,fun h=>by omega⟩
  refine aj (ih _ (AX l hlt)) ?_
  simp only[↓zq,zs,ae]
  have hb:out.length+(bM (.rc a) tg (l[i]).2).length<=1000000:=by
   simp only[aq,fW]at ho;omega
  refine aV (SC _ _ ((aO _).mpr trivial) ((aO _).mpr trivial) (fun c=>.f (.r (.p (l[i]).1 c))) (fun c=>S0 (l[i]).1 (l[i]).2 c) (bM (.rc a) tg (l[i]).2) out hb) ?_
  simp only[↓zq,zs,ae,aI,aO]
  rw[bA i (by omega),<-a6]
  exact Mq a ea s fr tg he hf l hl ih k (i+1) _ (by omega) (by rw[a6];exact ho)
theorem Fl(n:Nat):∀(m:Nat) (v:Vl),v.nodes<=m->∀(e:E) (env:List Fr) (t:Ty),Ask e env t->fh n v (e,env)=true->env.length+v.nodes<100000->∀(ea:AV) (ids:List Nat),kS ea ids->ids.length=env.length->∀(tg:Tg) (s:List UInt8) (fr:AV),AQ tg ids s fr->Gv t ea s fr tg v
 |0,v,hm=>by have:=dk v;omega
 |
  m+1,v,hm=>by
  intro e env t A hv hl ea ids he hids tg s fr ht
  unfold Gv
  refine Q8 _ _ _ _ _ ((aF _).mpr trivial) he.has ((aO _).mpr trivial) ht.has ?_
  unfold Mr
  refine aj (PF t tg ea ids s fr he ht (fun u hu=>by
   rcases gB A.wf A.ty with⟨hb,_⟩|⟨u',g,rfl,_,hg⟩
   ·rw[hu]at hb;cases hb
   ·cases hu;rw[hids];exact(List.getElem?_eq_some_iff.1 hg).1) (by omega)) ?_
  have hlen:=ni t tg v
  cases hat:dT t tg with
  |
   true =>
   rw[kh v hat]
   simp only[↓zq,zs,ae,bJ,iw,bB,List.map_nil,Vl.cE]
   exact⟨fun _=>trivial,fun h=>(by cases h)⟩
  |false =>
  simp only[↓zq,zs,ae]
  refine⟨fun h=>(by cases h),fun _=>?_⟩
  rcases gB A.wf A.ty with⟨hb,hq⟩|⟨u,g,rfl,hq,hu⟩
  ·have hhd:hd e env=(e,env):=kH hq
   rcases fM A.ty hb A.cl with⟨rfl,rfl⟩|⟨rfl,rfl⟩|⟨s,rfl,rfl,hp,h0,h1⟩|⟨x,a,b,t1,t2,rfl,hx,rfl,ha,hbb⟩|⟨x,a,b,t1,t2,rfl,hx,rfl,ha,hbb⟩|⟨x,a,b,t1,rfl,hx,rfl⟩
   ·rw[dz hat (by cases v<;>rfl)]
    simp[Ty.av,↓zq,zs,ae,bJ,iw]
   ·rw[dz hat (by cases v<;>rfl)]
    simp[Ty.av,↓zq,zs,ae,bJ,iw]
   ·rw[dz hat (by cases v<;>rfl)]
    simp[Ty.av,↓zq,zs,ae,bJ,iw]
   ·obtain⟨ok1,ok2,ok3,_⟩:=A.ok
    obtain⟨f1,f2⟩:=fF A.cl
    have hL:=Aw t1.av t2.av ea 43 (mk []) 0 ((aF _).mpr trivial) he.has
    have hR:=Ae t1.av t2.av ea 43 (mk []) 0 ((aF _).mpr trivial) he.has
    cases v with
    |
     l w =>
     simp only[fh,hhd,hx,beq_self_eq_true,bY]at hv
     simp only[Vl.nodes]at hm hl hlen
     rw[ji]at hlen |-
     rw[fW]at hlen
     simp only[Ty.av,↓zq,zs,ae]
     refine⟨by omega,fun _=>?_,fun h=>absurd rfl h⟩
     refine aj hL ?_
     simp only[↓zq,zs,ae,bH,aF,he.has,Vl.cE,aO]
     refine⟨by omega,fun h=>by omega,fun _=>⟨by omega,?_⟩⟩
     refine aj (Fl n m w (by omega) a env t1 ⟨ok2,A.wf,ha,f1⟩ hv (by omega) ea ids he hids tg s fr ht) ?_
     simp only[↓zq,zs,ae]
     have hadd:=JN (Vl.l w).cE ((aO _).mpr trivial) Vl.l (fun c=>S4 w c) (bM t1 tg w) [] (by simp;omega)
     simp only[Vl.cE,iw,List.map_nil,aS]at hadd
     refine aV hadd ?_
     simp[↓zq,zs,ae,aI,bJ,aO,iw,cj]
    |
     r w =>
     simp only[fh,hhd,hx,beq_self_eq_true,bY]at hv
     simp only[Vl.nodes]at hm hl hlen
     rw[jo]at hlen |-
     rw[fW]at hlen
     simp only[Ty.av,↓zq,zs,ae]
     refine⟨by omega,fun _=>?_,fun h=>absurd rfl h⟩
     refine aj hL ?_
     simp only[↓zq,zs,ae,bH,aF,he.has,Vl.cE,aO]
     refine⟨by omega,fun _=>?_,fun h=>absurd rfl h⟩
     refine aj hR ?_
     simp only[↓zq,zs,ae,bH,aF,he.has,aO]
     refine⟨by omega,?_⟩
     refine aj (Fl n m w (by omega) b env t2 ⟨ok3,A.wf,hbb,f2⟩ hv (by omega) ea ids he hids tg s fr ht) ?_
     simp only[↓zq,zs,ae]
     have hadd:=JN (Vl.r w).cE ((aO _).mpr trivial) Vl.r (fun c=>Ta w c) (bM t2 tg w) [] (by simp;omega)
     simp only[Vl.cE,iw,List.map_nil,aS]at hadd
     refine aV hadd ?_
     simp[↓zq,zs,ae,aI,bJ,aO,iw,cj]
    |_=>simp[fh,hhd,hx]at hv
   ·obtain⟨ok1,ok2,ok3,_⟩:=A.ok
    obtain⟨f1,f2⟩:=fg A.cl
    have hL:=Aw t1.av t2.av ea 42 (mk []) 0 ((aF _).mpr trivial) he.has
    have hR:=Ae t1.av t2.av ea 42 (mk []) 0 ((aF _).mpr trivial) he.has
    cases v with
    |
     p w w' =>
     simp only[fh,hhd,hx,beq_self_eq_true,bY,aw]at hv
     simp only[Vl.nodes]at hm hl hlen
     rw[gk]at hlen |-
     simp only[aq,fW]at hlen
     simp only[Ty.av,↓zq,zs,ae]
     refine⟨by omega,fun h=>by omega,fun _=>⟨fun _=>?_,fun h=>absurd rfl h⟩⟩
     refine aj hL ?_
     simp only[↓zq,zs,ae,bH,aF,he.has,Vl.cE,aO]
     refine⟨by omega,?_⟩
     refine aj (Fl n m w (by omega) a env t1 ⟨ok2,A.wf,ha,f1⟩ hv.1 (by omega) ea ids he hids tg s fr ht) ?_
     simp only[↓zq,zs,ae]
     have hadd:=Sn (Vl.p w w').cE ((aO _).mpr trivial) (fun c=>.l (.p c w')) (fun c=>R7 w w' c) (bM t1 tg w) [] (by simp;omega)
     simp only[Vl.cE,iw,List.map_nil,aS]at hadd
     refine aV hadd ?_
     simp only[↓zq,zs,ae,aI,aO]
     refine aj hR ?_
     simp only[↓zq,zs,ae,bH,aF,he.has,aO]
     refine⟨by omega,?_⟩
     refine aj (Fl n m w' (by omega) b env t2 ⟨ok3,A.wf,hbb,f2⟩ hv.2 (by omega) ea ids he hids tg s fr ht) ?_
     simp only[↓zq,zs,ae]
     have hadd2:=PO (Vl.p w w').cE ((aO _).mpr trivial) (fun c=>.r (.p w c)) (fun c=>RJ w w' c) (bM t2 tg w') (eW (fun c=>.l (.p c w')) (bM t1 tg w)) (by rw[fW];omega)
     simp only[Vl.cE,iw]at hadd2
     refine aV hadd2 ?_
     simp[↓zq,zs,ae,aI,bJ,aO,iw,cj]
    |_=>simp[fh,hhd,hx]at hv
   ·obtain⟨t1',he1,h1,f1,hw1⟩:=jy A.wf A.ok hx A.ty A.cl
    cases he1
    obtain⟨ok1,ok2,ok3,_⟩:=A.ok
    have A':Ask b (.mk a.at (.list [x,a,b]) env::env) t1:=⟨ok3,hw1,h1,f1⟩
    cases v with
    |
     f w =>
     simp only[fh,hhd,hx,beq_self_eq_true,bY]at hv
     simp only[Vl.nodes]at hm hl hlen
     rw[gd]at hlen |-
     simp only[aq,fW]at hlen
     have hin:=El t1 ea ids he
     simp only[Ty.av]at hin
     simp only[Ty.av,↓zq,zs,ae]
     refine⟨by omega,fun h=>by omega,fun _=>⟨fun h=>by omega,fun _=>⟨fun _=>?_,fun h=>absurd rfl h⟩⟩⟩
     refine aP hin (by have:=AU.ne t1 ea ids;simpa only[AU,Ty.av]using this) ?_
     intro r o hr
     obtain⟨⟨mm,hmm,rfl⟩,rfl⟩:=hr
     have he2:kS (.ptr [.pid mm [(Ty.rc t1).av,ea],ea]) (mm::ids):=.cons hmm he
     have hfr:LK.ptr.has (.pid mm [(Ty.rc t1).av,ea]):=.inr (.inr ⟨_,_,rfl⟩)
     simp only[Ty.av]at he2 hfr
     simp only[↓zq,zs,ae,bH,aF,he2.has,hfr,Vl.cE,aO,Ty.av]
     refine⟨by omega,?_⟩
     have i1:=Fl n m w (by omega) b _ t1 A' hv (by simp;omega) _ _ he2 (by simp[hids]) tg.up s fr (ht.push mm)
     unfold Gv at i1
     refine aj i1 ?_
     simp only[↓zq,zs,ae]
     have hadd:=PH (fun c=>.f (.l c)) (fun c=>RY c) (bM t1 tg.up w) [] (by simp;omega)
     simp only[Vl.cE,iw,List.map_nil,aS]at hadd
     refine aV hadd ?_
     simp only[↓zq,zs,ae,aI,aO]
     have i2:=Fl n m w (by omega) b _ t1 A' hv (by simp;omega) _ _ he2 (by simp[hids]) (.bd 0) [] _ (by have:=AQ.bd (k:=0) (ids:=mm::ids) (by simp) [(Ty.rc t1).av,ea] [];simpa only[bu,Ty.av]using this)
     unfold Gv at i2
     refine⟨by omega,?_⟩
     refine aj i2 ?_
     simp only[↓zq,zs,ae,ew]
     have hl2:=ni t1 (.bd 0) w
     have ih3:∀h,h∈bM t1 (.bd 0) w->Gv (.rc t1) ea s fr tg h.2:=fun h hh=>by
      have h3:=(ir hh).1
      have h4:=iu n m w (by omega) b _ t1 A' hv 0 _ rfl h hh
      exact Fl n m h.2 (by omega) (.list [x,a,b]) env (.rc t1) A h4 (by omega) ea ids he hids tg s fr ht
     have hloop:=Mq t1 ea s fr tg he.has ht.has (bM t1 (.bd 0) w) (by omega) ih3 (bM t1 (.bd 0) w).length 0 (eW (fun c=>.f (.l c)) (bM t1 tg.up w)) (by omega) (by
      simp only[bf,aq,fW]
      have hlen2:(bM t1 tg.up w).length+((bM t1 (.bd 0) w).flatMap (AN t1 tg)).length<=1+w.nodes:=hlen
      omega)
     simp only[Ty.av,iw,bf]at hloop
     refine cF hloop ?_
     simp[↓zq,zs,ae,ae,bJ,iw]
    |_=>simp[fh,hhd,hx]at hv
  ·rw[dz hat (by cases v<;>rfl)]
   simp[Ty.av,↓zq,zs,ae,bJ,iw]
end Go.Proofs.Trees
namespace Go.Proofs.Trees
open Go Go.VL Go.RowKit
end Go.Proofs.Trees
