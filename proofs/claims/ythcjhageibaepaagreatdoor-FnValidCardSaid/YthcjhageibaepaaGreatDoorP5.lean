/-
  Part of a proof: Go functions read by values, trees of functions, their contracts.
-/
import Derived.Test.YthcjhageibaepaaGreatDoorP4
import Derived.Test.YthcjhageibaepaaGreatDoorProg
import Derived.Lib.Atoi
set_option linter.unusedVariables false
set_option linter.unusedSimpArgs false
open And renaming intro→aH
open Bool renaming and_eq_true→aw,eq_iff_iff→cx,or_eq_false_iff→cg,or_eq_true→bC,true_and→bX
open ByteArray renaming extract→cn,size→ag,toList→af
open Int renaming tmod→dF,toNat→bL,toNat_natCast→bG
open List renaming all_cons→cZ,any_eq_true→cr,append_assoc→a8,append_nil→cX,drop_eq_getElem_cons→aS,drop_eq_nil_of_le→bV,drop_zero→bb,eq_nil_of_length_eq_zero→bH,getD_cons_zero→bq,getD_eq_getElem?_getD→aa,getElem?_eq_getElem→bp,getElem_mem→bD,headD_cons→aO,length_append→aq,length_cons→az,length_drop→cw,length_nil→aG,map_cons→bE,mem_append→aN,mem_append_left→aD,mem_cons→aJ,mem_cons_of_mem→al,mem_cons_self→ak,mem_map→bO,mem_singleton→aQ,nil_append→aU
open Nat renaming beq→aI,le_add_right→da,le_refl→au,mul_add→cT,mul_one→dG,zero_add→aW,zero_le→dO
open Option renaming bind_eq_some_iff→bh,isSome_iff_exists→bU,isSome_none→bA,map_some→ct
open UInt8 renaming ofNat→bj
namespace Go.Proofs.Trees
open Go Go.VL
noncomputable section
variable {R:AV->List Ob->Prop}{U:RL}
def J3(x17:Int)(o4_0:ByteArray)(o4_1:AV)(o12_0:ByteArray)(o12_1:AV)(o14_0:ByteArray)(o14_1:AV)(e16:List (List AV)):Tree :=
 NI (VI x17)<|.ai (Ob.cells [VS o4_0,o4_1]=.cells [VS o4_0,o4_1])<|.ai (ae [.lk .str,.lk .sl] [VS o4_0,o4_1] 0 [.cells [VS o12_0,o12_1],.cells [VS o14_0,o14_1],.vec 1 e16])<|.ai (Ob.cells [VS o12_0,o12_1]=.cells [VS o12_0,o12_1])<|.ai (ae [.lk .str,.lk .sl] [VS o12_0,o12_1] 0 [.cells [VS o14_0,o14_1],.vec 1 e16])<|.ai (Ob.cells [VS o14_0,o14_1]=.cells [VS o14_0,o14_1])<|.ai (ae [.lk .str,.lk .sl] [VS o14_0,o14_1] 0 [.vec 1 e16])<|.ai (Ob.vec 1 e16=.vec 1 e16)<|.call 90 [VI x17] [] fun r1 o1=>NS r1<|.ai (ag (mk [116])+ag r1.toStr<=9223372036854775807)<|.call 118 [.sl e16,VS (((mk [116]):ByteArray)++r1.toStr)] [] fun r2 o2=>NB r2<|.test r2.toBool (.done 0 [VI (IntKind.wrap .i64 (x17+1))] [.cells [VS o4_0,o4_1],.cells [VS o12_0,o12_1],.cells [VS o14_0,o14_1],.vec 1 e16]) (.done 1 [VI x17] [.cells [VS o4_0,o4_1],.cells [VS o12_0,o12_1],.cells [VS o14_0,o14_1]])
abbrev Fv:=cA Tryz.prog 108 Kd HX
theorem Ps(x17:Int)(o4_0:ByteArray)(o4_1:AV)(o12_0:ByteArray)(o12_1:AV)(o14_0:ByteArray)(o14_1:AV)(e16:List (List AV))(h:ka 108 (J3 x17 o4_0 o4_1 o12_0 o12_1 o14_0 o14_1 e16) Fv U):Fv [VI x17] [.cells [VS o4_0,o4_1],.cells [VS o12_0,o12_1],.cells [VS o14_0,o14_1],.vec 1 e16] U :=
 gQ LY h
def Gl:LI:={hd:={bS:=[(0,.k .str),(1,.k (.int .i64)),(6,.k (.int .i64))]},xs:={bS:=[(0,.k .str),(1,.k (.int .i64)),(6,.k (.int .i64))]},rt:={},ex:=0}
def M5:Code:=cG (cB Tryz.f148) 2
def Gb:LI:={hd:={bS:=[(0,.k .str),(1,.k (.int .i64)),(7,.k .str)],refs:=[(8,48)],cq:=[(48,[.lk .str,.vec 1])]},xs:={},rt:={bS:=[(4,.k .ptr),(5,.k .str)]},ex:=999}
def Kv:Code:=cG (cB Tryz.f148) 10
def Iy:List (Nat×LI):=[(2,Gl),(10,Gb)]
def IG(a0:ByteArray)(a1:Int):Tree :=
 .loop M5 Gl [VS a0,VI a1,VI 0] [] (fun y2 q2=>NS (y2.hA)<|NI (y2.tail.hA)<|NI (y2.tail.tail.hA)<|.test (decide (((y2.tail.tail.hA).toInt)>(0:Int))) (.ai (0<=(0:Int)/\(0:Int)<=((y2.tail.tail.hA).toInt)/\((y2.tail.tail.hA).toInt)<=(ag ((y2.hA).toStr):Int))<|.ai (0<=((y2.tail.tail.hA).toInt)/\((y2.tail.tail.hA).toInt)<=(ag ((y2.hA).toStr):Int)/\(ag ((y2.hA).toStr):Int)<=(ag ((y2.hA).toStr):Int))<|.done 0 [.cH [.ptr [VS (cn ((y2.hA).toStr) (bL 0) (bL ((y2.tail.tail.hA).toInt))),.v (.slice none 0 0)],VS (cn ((y2.hA).toStr) (bL ((y2.tail.tail.hA).toInt)) (bL (ag ((y2.hA).toStr):Int)))]] []) (.test (af ((y2.hA).toStr)==af (mk [])) (.done 0 [.cH [.v (.pointer none),VS ((y2.hA).toStr)]] []) (.ai (0<=(0:Int)/\(0:Int)<ag ((y2.hA).toStr))<|.test ((bt ((y2.hA).toStr) 0) != (40:Int)) (.done 0 [.cH [.v (.pointer none),VS ((y2.hA).toStr)]] []) (.test (((y2.tail.hA).toInt)==(300:Int)) (.done 0 [.cH [.v (.pointer none),VS ((y2.hA).toStr)]] []) (.ai (0<=(1:Int)/\(1:Int)<=(ag ((y2.hA).toStr):Int)/\(ag ((y2.hA).toStr):Int)<=(ag ((y2.hA).toStr):Int))<|.loop Kv Gb [VS ((y2.hA).toStr),VI ((y2.tail.hA).toInt),VS (cn ((y2.hA).toStr) (bL 1) (bL (ag ((y2.hA).toStr):Int)))] [.cells [VS (mk []),.any],.vec 1 []] (fun y5 q5=>.fail) (fun y5 q5=>NP (y5.hA)<|NS (y5.tail.hA)<|.done 0 [.cH [(y5.hA),VS ((y5.tail.hA).toStr)]] [])))))) (fun y2 q2=>.done 0 [.cH [.any,.any]] [])
theorem Mi(a0:ByteArray)(a1:Int)(h:di 84 (IG a0 a1) R):an Tryz.prog 148 [VS a0,VI a1] [] R :=
 uQ (ah (aA _) (ah (aA _) aC)) (oQ Iy Tryz.f148 h)
def HZ(x0:ByteArray)(x1:Int)(x6:Int):Tree :=
 NS (VS x0)<|NI (VI x1)<|NI (VI x6)<|.test (decide (x6<(ag x0:Int))) (.ai (0<=x6/\x6<ag x0)<|.call 162 [.v (.int .u8 (bt x0 x6))] [] fun r1 o1=>NB r1<|.test r1.toBool (.done 0 [VS x0,VI x1,VI (IntKind.wrap .i64 (x6+1))] []) (.done 1 [VS x0,VI x1,VI x6] [])) (.done 1 [VS x0,VI x1,VI x6] [])
abbrev FG:=cA Tryz.prog 84 M5 Gl
theorem Nv(x0:ByteArray)(x1:Int)(x6:Int)(h:ka 84 (HZ x0 x1 x6) FG U):FG [VS x0,VI x1,VI x6] [] U :=
 gQ Iy h
def Ld(x0:ByteArray)(x1:Int)(x7:ByteArray)(o48_0:ByteArray)(o48_1:List (List AV)):Tree :=
 NS (VS x0)<|NI (VI x1)<|NS (VS x7)<|.ai (Ob.cells [VS o48_0,.any]=.cells [VS o48_0,.any])<|.ai (ae [.lk .str,.vec 1] [VS o48_0,.any] 0 [.vec 1 o48_1])<|.call 148 [VS x7,VI (IntKind.wrap .i64 (x1+1))] [] fun r1 o1=>NT r1<|NP (r1.comp 0)<|NS (r1.comp 1)<|NP (r1.comp 0)<|.test ((r1.comp 0).isNil) (.done 2 [.v (.pointer none),VS x0] []) (.test (af ((r1.comp 1).toStr)==af (mk [])) (.done 2 [.v (.pointer none),VS x0] []) (.ai (cC 1 [[(r1.comp 0)]]/\((o48_1.length)+([[(r1.comp 0)]]:List (List AV)).length)*8<=140737488355328)<|.ai (0<=(1:Int)/\(1:Int)<=(ag ((r1.comp 1).toStr):Int)/\(ag ((r1.comp 1).toStr):Int)<=(ag ((r1.comp 1).toStr):Int))<|.ai (0<=(0:Int)/\(0:Int)<ag ((r1.comp 1).toStr))<|.test ((bt ((r1.comp 1).toStr) 0)==(41:Int)) (.done 2 [.ptr [VS o48_0,.sl (o48_1++([[(r1.comp 0)]]:List (List AV)))],VS (cn ((r1.comp 1).toStr) (bL 1) (bL (ag ((r1.comp 1).toStr):Int)))] []) (.ai (0<=(0:Int)/\(0:Int)<ag ((r1.comp 1).toStr))<|.test ((bt ((r1.comp 1).toStr) 0) != (32:Int)) (.done 2 [.v (.pointer none),VS x0] []) (.done 0 [VS x0,VI x1,VS (cn ((r1.comp 1).toStr) (bL 1) (bL (ag ((r1.comp 1).toStr):Int)))] [.cells [VS o48_0,.any],.vec 1 (o48_1++([[(r1.comp 0)]]:List (List AV)))]))))
abbrev Hz:=cA Tryz.prog 84 Kv Gb
theorem SX(x0:ByteArray)(x1:Int)(x7:ByteArray)(o48_0:ByteArray)(o48_1:List (List AV))(h:ka 84 (Ld x0 x1 x7 o48_0 o48_1) Hz U):Hz [VS x0,VI x1,VS x7] [.cells [VS o48_0,.any],.vec 1 o48_1] U :=
 gQ Iy h
def Oj(a0:ByteArray):Tree :=
 .call 163 [VS a0,VS (mk [120,121,122])] [] fun r1 o1=>NB r1<|.done 0 [VB r1.toBool] []
theorem PC(a0:ByteArray)(h:di 5 (Oj a0) R):an Tryz.prog 149 [VS a0] [] R :=
 uQ (ah (aA _) aC) (oQ [] Tryz.f149 h)
def I9(a0:ByteArray):Tree :=
 .call 163 [VS a0,VS (mk [116])] [] fun r1 o1=>NB r1<|.done 0 [VB r1.toBool] []
theorem QL(a0:ByteArray)(h:di 5 (I9 a0) R):an Tryz.prog 150 [VS a0] [] R :=
 uQ (ah (aA _) aC) (oQ [] Tryz.f150 h)
def AN(a0:AV)(a1:ByteArray)(a2:Int):Tree :=
 NZ a0<|NZ a0<|nA (a0.deref.drop 1)<|NL ((a0.deref.drop 1).hA)<|.test (((((a0.deref.drop 1).hA).elems).length:Int)==a2) (NZ a0<|NZ a0<|nA (a0.deref.drop 1)<|NG ((a0.deref.drop 1).hA) 0 1<|dP (((a0.deref.drop 1).hA).ix (0:Int))<|NZ ((((a0.deref.drop 1).hA).ix (0:Int)).hA)<|NZ ((((a0.deref.drop 1).hA).ix (0:Int)).hA)<|.ai (LK.has .str (((((a0.deref.drop 1).hA).ix (0:Int)).hA).deref.hA)/\1<=(((((a0.deref.drop 1).hA).ix (0:Int)).hA).deref).length)<|.done 0 [VB (af ((((((a0.deref.drop 1).hA).ix (0:Int)).hA).deref.hA).toStr)==af a1)] []) (.done 0 [VB false] [])
theorem OV(a0:AV)(a1:ByteArray)(a2:Int)(ha0:LK.has .ptr a0)(h:di 27 (AN a0 a1 a2) R):an Tryz.prog 151 [a0,VS a1,VI a2] [] R :=
 uQ (ah (bB ha0) (ah (aA _) (ah (aA _) aC))) (oQ [] Tryz.f151 h)
def KY(a0:Int)(a1:AV)(a2:AV):Tree :=
 .done 0 [.ptr [.v (.int .u8 a0),VS (mk []),VI 0,a1,a2]] []
theorem S4(a0:Int)(a1:AV)(a2:AV)(ha1:LK.has .ptr a1)(ha2:LK.has .ptr a2)(h:di 12 (KY a0 a1 a2) R):an Tryz.prog 153 [.v (.int .u8 a0),a1,a2] [] R :=
 uQ (ah (aA _) (ah (bB ha1) (ah (bB ha2) aC))) (oQ [] Tryz.f153 h)
def Nk(a0:AV):Tree :=
 .call 165 [a0,.fn 166 [.ref 0 0]] [.cells [.vec 1],.vec 1 []] fun r1 o1=>.ai ((o1.hO)=.cells (o1.hO).cs)<|.ai (aK [.vec 1] ((o1.hO).cs) 0 1 o1.tail)<|.done 0 [.sl ((o1.tail.hO).es)] []
theorem Qj(a0:AV)(ha0:LK.has .ptr a0)(h:di 9 (Nk a0) R):an Tryz.prog 154 [a0] [] R :=
 uQ (ah (bB ha0) aC) (oQ [] Tryz.f154 h)
def GP:LI:={hd:={bS:=[(0,.k .ptr),(1,.k .sl),(9,.k .str)],refs:=[(3,0),(4,1)],cq:=[(0,[.lk .sl]),(1,[.lk (.int .i64)])],vO:=[(2,155,[none,some 0,some 1])]},xs:={bS:=[(0,.k .ptr),(1,.k .sl),(9,.k .str)],cq:=[(0,[.lk .sl]),(1,[.lk (.int .i64)])],vO:=[(2,155,[none,some 0,some 1])]},rt:={cq:=[(0,[.lk .sl]),(1,[.lk (.int .i64)])]},ex:=1,fx:=[0,1]}
def N4:Code:=cG (cB Tryz.f155) 12
def L6:List (Nat×LI):=[(12,GP)]
def ES(a0:AV)(a1:AV)(a3_0:AV)(a4_0:Int):Tree :=
 NZ a0<|NZ a0<|.ai (LK.has (.int .u8) (a0.deref.hA)/\1<=a0.deref.length)<|.test (((a0.deref.hA).toInt)==(110:Int)) (NZ a0<|NZ a0<|kK (a0.deref.drop 1)<|.done 0 [VS (((a0.deref.drop 1).hA).toStr)] [.cells [a3_0],.cells [VI a4_0]]) (.test (((a0.deref.hA).toInt)==(98:Int)) (NL a1<|NZ a0<|NZ a0<|.ai (LK.has (.int .i64) ((a0.deref.drop 2).hA)/\1<=(a0.deref.drop 2).length)<|.ai (LK.has .sl a1/\0<=(IntKind.wrap .i64 ((IntKind.wrap .i64 ((a1.elems.length:Int)-1))-(((a0.deref.drop 2).hA).toInt)))/\(IntKind.wrap .i64 ((IntKind.wrap .i64 ((a1.elems.length:Int)-1))-(((a0.deref.drop 2).hA).toInt)))<a1.elems.length/\(a1.ix (IntKind.wrap .i64 ((IntKind.wrap .i64 ((a1.elems.length:Int)-1))-(((a0.deref.drop 2).hA).toInt)))).length=1)<|kK (a1.ix (IntKind.wrap .i64 ((IntKind.wrap .i64 ((a1.elems.length:Int)-1))-(((a0.deref.drop 2).hA).toInt))))<|.done 0 [VS (((a1.ix (IntKind.wrap .i64 ((IntKind.wrap .i64 ((a1.elems.length:Int)-1))-(((a0.deref.drop 2).hA).toInt)))).hA).toStr)] [.cells [a3_0],.cells [VI a4_0]]) (.test (((a0.deref.hA).toInt)==(43:Int)) (NZ a0<|NZ a0<|dP (a0.deref.drop 3)<|.call 155 [((a0.deref.drop 3).hA),a1,.gN 155 [none,some 0,some 1],.ref 0 0,.ref 1 0] [.cells [a3_0],.cells [VI a4_0]] fun r1 o1=>.ai ((o1.hO)=.cells (o1.hO).cs)<|.ai (aK [.lk .sl] ((o1.hO).cs) 0 1 o1.tail)<|.ai ((o1.tail.hO)=.cells (o1.tail.hO).cs)<|.ai (aK [.lk (.int .i64)] ((o1.tail.hO).cs) 0 2 o1.tail.tail)<|NS r1<|NZ a0<|NZ a0<|.ai (LK.has (.int .u8) (a0.deref.hA)/\1<=a0.deref.length)<|.ai (jA [[.v (.int .u8 ((a0.deref.hA).toInt))]])<|.ai (ag (mk [40])+ag (⟨(bytesOf [[.v (.int .u8 ((a0.deref.hA).toInt))]]).toArray⟩)<=9223372036854775807)<|.ai (ag (((mk [40]):ByteArray)++(⟨(bytesOf [[.v (.int .u8 ((a0.deref.hA).toInt))]]).toArray⟩))+ag (mk [32])<=9223372036854775807)<|.ai (ag (((((mk [40]):ByteArray)++(⟨(bytesOf [[.v (.int .u8 ((a0.deref.hA).toInt))]]).toArray⟩)):ByteArray)++(mk [32]))+ag r1.toStr<=9223372036854775807)<|.ai (ag (((((((mk [40]):ByteArray)++(⟨(bytesOf [[.v (.int .u8 ((a0.deref.hA).toInt))]]).toArray⟩)):ByteArray)++(mk [32])):ByteArray)++r1.toStr)+ag (mk [32])<=9223372036854775807)<|NZ a0<|NZ a0<|dP (a0.deref.drop 4)<|.call 155 [((a0.deref.drop 4).hA),a1,.gN 155 [none,some 0,some 1],.ref 0 0,.ref 1 0] [.cells [((o1.hO).cs.getD 0 .any)],.cells [VI (((o1.tail.hO).cs.getD 0 .any).toInt)]] fun r2 o2=>.ai ((o2.hO)=.cells (o2.hO).cs)<|.ai (aK [.lk .sl] ((o2.hO).cs) 0 1 o2.tail)<|.ai ((o2.tail.hO)=.cells (o2.tail.hO).cs)<|.ai (aK [.lk (.int .i64)] ((o2.tail.hO).cs) 0 2 o2.tail.tail)<|NS r2<|.ai (ag (((((((((mk [40]):ByteArray)++(⟨(bytesOf [[.v (.int .u8 ((a0.deref.hA).toInt))]]).toArray⟩)):ByteArray)++(mk [32])):ByteArray)++r1.toStr):ByteArray)++(mk [32]))+ag r2.toStr<=9223372036854775807)<|.ai (ag (((((((((((mk [40]):ByteArray)++(⟨(bytesOf [[.v (.int .u8 ((a0.deref.hA).toInt))]]).toArray⟩)):ByteArray)++(mk [32])):ByteArray)++r1.toStr):ByteArray)++(mk [32])):ByteArray)++r2.toStr)+ag (mk [41])<=9223372036854775807)<|.done 0 [VS (((((((((((((mk [40]):ByteArray)++(⟨(bytesOf [[.v (.int .u8 ((a0.deref.hA).toInt))]]).toArray⟩)):ByteArray)++(mk [32])):ByteArray)++r1.toStr):ByteArray)++(mk [32])):ByteArray)++r2.toStr):ByteArray)++(mk [41]))] [.cells [((o2.hO).cs.getD 0 .any)],.cells [VI (((o2.tail.hO).cs.getD 0 .any).toInt)]]) (.test (((a0.deref.hA).toInt)==(42:Int)) (NZ a0<|NZ a0<|dP (a0.deref.drop 3)<|.call 155 [((a0.deref.drop 3).hA),a1,.gN 155 [none,some 0,some 1],.ref 0 0,.ref 1 0] [.cells [a3_0],.cells [VI a4_0]] fun r3 o3=>.ai ((o3.hO)=.cells (o3.hO).cs)<|.ai (aK [.lk .sl] ((o3.hO).cs) 0 1 o3.tail)<|.ai ((o3.tail.hO)=.cells (o3.tail.hO).cs)<|.ai (aK [.lk (.int .i64)] ((o3.tail.hO).cs) 0 2 o3.tail.tail)<|NS r3<|NZ a0<|NZ a0<|.ai (LK.has (.int .u8) (a0.deref.hA)/\1<=a0.deref.length)<|.ai (jA [[.v (.int .u8 ((a0.deref.hA).toInt))]])<|.ai (ag (mk [40])+ag (⟨(bytesOf [[.v (.int .u8 ((a0.deref.hA).toInt))]]).toArray⟩)<=9223372036854775807)<|.ai (ag (((mk [40]):ByteArray)++(⟨(bytesOf [[.v (.int .u8 ((a0.deref.hA).toInt))]]).toArray⟩))+ag (mk [32])<=9223372036854775807)<|.ai (ag (((((mk [40]):ByteArray)++(⟨(bytesOf [[.v (.int .u8 ((a0.deref.hA).toInt))]]).toArray⟩)):ByteArray)++(mk [32]))+ag r3.toStr<=9223372036854775807)<|.ai (ag (((((((mk [40]):ByteArray)++(⟨(bytesOf [[.v (.int .u8 ((a0.deref.hA).toInt))]]).toArray⟩)):ByteArray)++(mk [32])):ByteArray)++r3.toStr)+ag (mk [32])<=9223372036854775807)<|NZ a0<|NZ a0<|dP (a0.deref.drop 4)<|.call 155 [((a0.deref.drop 4).hA),a1,.gN 155 [none,some 0,some 1],.ref 0 0,.ref 1 0] [.cells [((o3.hO).cs.getD 0 .any)],.cells [VI (((o3.tail.hO).cs.getD 0 .any).toInt)]] fun r4 o4=>.ai ((o4.hO)=.cells (o4.hO).cs)<|.ai (aK [.lk .sl] ((o4.hO).cs) 0 1 o4.tail)<|.ai ((o4.tail.hO)=.cells (o4.tail.hO).cs)<|.ai (aK [.lk (.int .i64)] ((o4.tail.hO).cs) 0 2 o4.tail.tail)<|NS r4<|.ai (ag (((((((((mk [40]):ByteArray)++(⟨(bytesOf [[.v (.int .u8 ((a0.deref.hA).toInt))]]).toArray⟩)):ByteArray)++(mk [32])):ByteArray)++r3.toStr):ByteArray)++(mk [32]))+ag r4.toStr<=9223372036854775807)<|.ai (ag (((((((((((mk [40]):ByteArray)++(⟨(bytesOf [[.v (.int .u8 ((a0.deref.hA).toInt))]]).toArray⟩)):ByteArray)++(mk [32])):ByteArray)++r3.toStr):ByteArray)++(mk [32])):ByteArray)++r4.toStr)+ag (mk [41])<=9223372036854775807)<|.done 0 [VS (((((((((((((mk [40]):ByteArray)++(⟨(bytesOf [[.v (.int .u8 ((a0.deref.hA).toInt))]]).toArray⟩)):ByteArray)++(mk [32])):ByteArray)++r3.toStr):ByteArray)++(mk [32])):ByteArray)++r4.toStr):ByteArray)++(mk [41]))] [.cells [((o4.hO).cs.getD 0 .any)],.cells [VI (((o4.tail.hO).cs.getD 0 .any).toInt)]]) (.test (((a0.deref.hA).toInt)==(114:Int)) (.loop N4 GP [a0,a1,VS (mk [])] [.cells [a3_0],.cells [VI a4_0]] (fun y8 q8=>NP (y8.hA)<|NL (y8.tail.hA)<|NS (y8.tail.tail.hA)<|.ai ((q8.hO)=.cells (q8.hO).cs)<|.ai (ae [.lk .sl] ((q8.hO).cs) 0 q8.tail)<|.ai (((q8.tail.drop 0).hO)=.cells ((q8.tail.drop 0).hO).cs)<|.ai (ae [.lk (.int .i64)] (((q8.tail.drop 0).hO).cs) 0 ((q8.tail.drop 0).tail))<|.ai (ag (mk [40,114,101,99,32])+ag ((y8.tail.tail.hA).toStr)<=9223372036854775807)<|.ai (ag (((mk [40,114,101,99,32]):ByteArray)++((y8.tail.tail.hA).toStr))+ag (mk [32])<=9223372036854775807)<|NZ (y8.hA)<|NZ (y8.hA)<|dP ((y8.hA).deref.drop 3)<|.ai (LK.has .sl (y8.tail.hA)/\cC 1 ((y8.tail.hA).elems)/\((([]:List (List AV)).length)+((y8.tail.hA).elems).length)*16<=140737488355328)<|.ai (cC 1 [[VS ((y8.tail.tail.hA).toStr)]]/\(((([]:List (List AV))++((y8.tail.hA).elems)).length)+([[VS ((y8.tail.tail.hA).toStr)]]:List (List AV)).length)*16<=140737488355328)<|.call 155 [(((y8.hA).deref.drop 3).hA),.sl ((([]:List (List AV))++((y8.tail.hA).elems))++([[VS ((y8.tail.tail.hA).toStr)]]:List (List AV))),.gN 155 [none,some 0,some 1],.ref 0 0,.ref 1 0] [.cells [((q8.hO).cs.getD 0 .any)],.cells [VI (((q8.tail.hO).cs.getD 0 .any).toInt)]] fun r9 o9=>.ai ((o9.hO)=.cells (o9.hO).cs)<|.ai (aK [.lk .sl] ((o9.hO).cs) 0 1 o9.tail)<|.ai ((o9.tail.hO)=.cells (o9.tail.hO).cs)<|.ai (aK [.lk (.int .i64)] ((o9.tail.hO).cs) 0 2 o9.tail.tail)<|NS r9<|.ai (ag (((((mk [40,114,101,99,32]):ByteArray)++((y8.tail.tail.hA).toStr)):ByteArray)++(mk [32]))+ag r9.toStr<=9223372036854775807)<|.ai (ag (((((((mk [40,114,101,99,32]):ByteArray)++((y8.tail.tail.hA).toStr)):ByteArray)++(mk [32])):ByteArray)++r9.toStr)+ag (mk [41])<=9223372036854775807)<|.done 0 [VS (((((((((mk [40,114,101,99,32]):ByteArray)++((y8.tail.tail.hA).toStr)):ByteArray)++(mk [32])):ByteArray)++r9.toStr):ByteArray)++(mk [41]))] [.cells [((o9.hO).cs.getD 0 .any)],.cells [VI (((o9.tail.hO).cs.getD 0 .any).toInt)]]) (fun y8 q8=>.ai ((q8.hO)=.cells (q8.hO).cs)<|.ai (ae [.lk .sl] ((q8.hO).cs) 0 q8.tail)<|.ai (((q8.tail.drop 0).hO)=.cells ((q8.tail.drop 0).hO).cs)<|.ai (ae [.lk (.int .i64)] (((q8.tail.drop 0).hO).cs) 0 ((q8.tail.drop 0).tail))<|.done 0 [.any] [.cells [((q8.hO).cs.getD 0 .any)],.cells [VI (((q8.tail.hO).cs.getD 0 .any).toInt)]])) (NZ a0<|NZ a0<|.ai (LK.has (.int .u8) (a0.deref.hA)/\1<=a0.deref.length)<|.ai (jA [[.v (.int .u8 ((a0.deref.hA).toInt))]])<|.done 0 [VS (⟨(bytesOf [[.v (.int .u8 ((a0.deref.hA).toInt))]]).toArray⟩)] [.cells [a3_0],.cells [VI a4_0]])))))
theorem F1(a0:AV)(a1:AV)(a3_0:AV)(a4_0:Int)(ha0:LK.has .ptr a0)(ha1:LK.has .sl a1)(ha3_0:LK.has .sl a3_0)(h:di 100 (ES a0 a1 a3_0 a4_0) R):an Tryz.prog 155 [a0,a1,.gN 155 [none,some 0,some 1],.ref 0 0,.ref 1 0] [.cells [a3_0],.cells [VI a4_0]] R :=
 an.mY (bw (ca (ah (bP ha3_0) aC)) (bw (ca (ah (aA _) aC)) cv)) (an.up (ah (bB ha0) (ah (bP ha1) (ah (aA _) (ah (aA _) (ah (aA _) aC))))) (oF L6 {mu:=[(2,.sG 155 [none,some 0,some 1]),(3,.one (.obj [.lk .sl])),(4,.one (.obj [.lk (.int .i64)]))],own:=[]} Tryz.f155 h))
def Fl(x0:AV)(x1:AV)(x9:ByteArray)(o0_0:AV)(o1_0:Int):Tree :=
 NP x0<|NL x1<|NS (VS x9)<|.ai (Ob.cells [o0_0]=.cells [o0_0])<|.ai (ae [.lk .sl] [o0_0] 0 [.cells [VI o1_0]])<|.ai (Ob.cells [VI o1_0]=.cells [VI o1_0])<|.ai (ae [.lk (.int .i64)] [VI o1_0] 0 [])<|.test (af x9==af (mk [])) (.call 152 [VI o1_0] [] fun r1 o1=>NS r1<|.ai (ag (mk [116])+ag r1.toStr<=9223372036854775807)<|.done 0 [x0,x1,VS (((mk [116]):ByteArray)++r1.toStr)] [.cells [o0_0],.cells [VI (IntKind.wrap .i64 (o1_0+1))]]) (.call 156 [o0_0,VS x9] [] fun r2 o2=>NB r2<|.test r2.toBool (.call 152 [VI o1_0] [] fun r3 o3=>NS r3<|.ai (ag (mk [116])+ag r3.toStr<=9223372036854775807)<|.done 0 [x0,x1,VS (((mk [116]):ByteArray)++r3.toStr)] [.cells [o0_0],.cells [VI (IntKind.wrap .i64 (o1_0+1))]]) (.done 1 [x0,x1,VS x9] [.cells [o0_0],.cells [VI o1_0]]))
abbrev Ei:=cA Tryz.prog 100 N4 GP
theorem Ny(x0:AV)(x1:AV)(x9:ByteArray)(o0_0:AV)(o1_0:Int)(h:ka 100 (Fl x0 x1 x9 o0_0 o1_0) Ei U):Ei [x0,x1,VS x9] [.cells [o0_0],.cells [VI o1_0]] U :=
 gQ L6 h
def LS(a0:AV)(a1:ByteArray):Tree :=
 .call 167 [a0,VS a1] [] fun r1 o1=>NI r1<|.done 0 [VB (decide (r1.toInt≥(0:Int)))] []
theorem QO(a0:AV)(a1:ByteArray)(ha0:LK.has .sl a0)(h:di 9 (LS a0 a1) R):an Tryz.prog 156 [a0,VS a1] [] R :=
 uQ (ah (bP ha0) (ah (aA _) aC)) (oQ [] Tryz.f156 h)
def NM(a0:AV):Tree :=
 .call 168 [a0,.v (.func (.func 150) #[] #[])] [] fun r1 o1=>NI r1<|.done 0 [VB (decide (r1.toInt≥(0:Int)))] []
theorem Ru(a0:AV)(ha0:LK.has .sl a0)(h:di 9 (NM a0) R):an Tryz.prog 157 [a0,.v (.func (.func 150) #[] #[])] [] R :=
 uQ (ah (bP ha0) (ah (aA _) aC)) (oQ [] Tryz.f157 h)
def K4(a0:ByteArray):Tree :=
 .test (decide ((ag a0:Int)<(2:Int))) (.done 0 [VB false] []) (.test (decide ((ag a0:Int)>(3:Int))) (.done 0 [VB false] []) (.ai (0<=(0:Int)/\(0:Int)<ag a0)<|.test ((bt a0 0) != (101:Int)) (.done 0 [VB false] []) (.ai (0<=(1:Int)/\(1:Int)<=(ag a0:Int)/\(ag a0:Int)<=(ag a0:Int))<|.call 169 [VS (cn a0 (bL 1) (bL (ag a0:Int))),VS (mk [48,49,50,51,52,53,54,55,56,57])] [] fun r1 o1=>NS r1<|.test (!(af r1.toStr==af (mk []))) (.done 0 [VB false] []) (.test ((ag a0:Int)==(2:Int)) (.done 0 [VB true] []) (.ai (0<=(1:Int)/\(1:Int)<ag a0)<|.done 0 [VB ((bt a0 1) != (48:Int))] [])))))
theorem SW(a0:ByteArray)(h:di 30 (K4 a0) R):an Tryz.prog 158 [VS a0] [] R :=
 uQ (ah (aA _) aC) (oQ [] Tryz.f158 h)
def KU(a0:Int):Tree :=
 .test (decide (a0≥(97:Int))) (.test (decide (a0<=(122:Int))) (.done 0 [VB true] []) (.test (decide (a0≥(48:Int))) (.test (decide (a0<=(57:Int))) (.done 0 [VB true] []) (.test (a0==(42:Int)) (.done 0 [VB true] []) (.done 0 [VB (a0==(43:Int))] []))) (.test (a0==(42:Int)) (.done 0 [VB true] []) (.done 0 [VB (a0==(43:Int))] [])))) (.test (decide (a0≥(48:Int))) (.test (decide (a0<=(57:Int))) (.done 0 [VB true] []) (.test (a0==(42:Int)) (.done 0 [VB true] []) (.done 0 [VB (a0==(43:Int))] []))) (.test (a0==(42:Int)) (.done 0 [VB true] []) (.done 0 [VB (a0==(43:Int))] [])))
theorem PJ(a0:Int)(h:di 25 (KU a0) R):an Tryz.prog 161 [.v (.int .u8 a0)] [] R :=
 uQ (ah (aA _) aC) (oQ [] Tryz.f161 h)
def LQ(a0:Int):Tree :=
 .test (decide (a0≥(97:Int))) (.test (decide (a0<=(122:Int))) (.done 0 [VB true] []) (.test (decide (a0≥(48:Int))) (.test (decide (a0<=(57:Int))) (.done 0 [VB true] []) (.test (a0==(43:Int)) (.done 0 [VB true] []) (.done 0 [VB (a0==(42:Int))] []))) (.test (a0==(43:Int)) (.done 0 [VB true] []) (.done 0 [VB (a0==(42:Int))] [])))) (.test (decide (a0≥(48:Int))) (.test (decide (a0<=(57:Int))) (.done 0 [VB true] []) (.test (a0==(43:Int)) (.done 0 [VB true] []) (.done 0 [VB (a0==(42:Int))] []))) (.test (a0==(43:Int)) (.done 0 [VB true] []) (.done 0 [VB (a0==(42:Int))] [])))
theorem Se(a0:Int)(h:di 25 (LQ a0) R):an Tryz.prog 162 [.v (.int .u8 a0)] [] R :=
 uQ (ah (aA _) aC) (oQ [] Tryz.f162 h)
def N3(a0:ByteArray)(a1:ByteArray):Tree :=
 .test (decide ((ag a0:Int)≥(1:Int))) (.test (decide ((ag a0:Int)<=(3:Int))) (.ai (0<=(0:Int)/\(0:Int)<=(1:Int)/\(1:Int)<=(ag a0:Int))<|.call 175 [VS a1,VS (cn a0 (bL 0) (bL 1))] [] fun r1 o1=>NB r1<|.test r1.toBool (.ai (0<=(1:Int)/\(1:Int)<=(ag a0:Int)/\(ag a0:Int)<=(ag a0:Int))<|.call 169 [VS (cn a0 (bL 1) (bL (ag a0:Int))),VS (mk [48,49,50,51,52,53,54,55,56,57])] [] fun r2 o2=>NS r2<|.done 0 [VB (af r2.toStr==af (mk []))] []) (.done 0 [VB false] [])) (.done 0 [VB false] [])) (.done 0 [VB false] [])
theorem QQ(a0:ByteArray)(a1:ByteArray)(h:di 25 (N3 a0 a1) R):an Tryz.prog 163 [VS a0,VS a1] [] R :=
 uQ (ah (aA _) (ah (aA _) aC)) (oQ [] Tryz.f163 h)
def EZ(a0:AV)(e1_0_0:List (List AV)):Tree :=
 .call 166 [a0,.ref 0 0] [.cells [.vec 1],.vec 1 e1_0_0] fun r1 o1=>.ai ((o1.hO)=.cells (o1.hO).cs)<|.ai (aK [.vec 1] ((o1.hO).cs) 0 1 o1.tail)<|NZ a0<|NZ a0<|dP (a0.deref.drop 3)<|NP ((a0.deref.drop 3).hA)<|.test (!((a0.deref.drop 3).hA).isNil) (NZ a0<|NZ a0<|dP (a0.deref.drop 3)<|.call 165 [((a0.deref.drop 3).hA),.fn 166 [.ref 0 0]] [.cells [.vec 1],.vec 1 ((o1.tail.hO).es)] fun r2 o2=>.ai ((o2.hO)=.cells (o2.hO).cs)<|.ai (aK [.vec 1] ((o2.hO).cs) 0 1 o2.tail)<|NZ a0<|NZ a0<|dP (a0.deref.drop 4)<|NP ((a0.deref.drop 4).hA)<|.test (!((a0.deref.drop 4).hA).isNil) (NZ a0<|NZ a0<|dP (a0.deref.drop 4)<|.call 165 [((a0.deref.drop 4).hA),.fn 166 [.ref 0 0]] [.cells [.vec 1],.vec 1 ((o2.tail.hO).es)] fun r3 o3=>.ai ((o3.hO)=.cells (o3.hO).cs)<|.ai (aK [.vec 1] ((o3.hO).cs) 0 1 o3.tail)<|.done 0 [.any] [.cells [.vec 1],.vec 1 ((o3.tail.hO).es)]) (.done 0 [.any] [.cells [.vec 1],.vec 1 ((o2.tail.hO).es)])) (NZ a0<|NZ a0<|dP (a0.deref.drop 4)<|NP ((a0.deref.drop 4).hA)<|.test (!((a0.deref.drop 4).hA).isNil) (NZ a0<|NZ a0<|dP (a0.deref.drop 4)<|.call 165 [((a0.deref.drop 4).hA),.fn 166 [.ref 0 0]] [.cells [.vec 1],.vec 1 ((o1.tail.hO).es)] fun r4 o4=>.ai ((o4.hO)=.cells (o4.hO).cs)<|.ai (aK [.vec 1] ((o4.hO).cs) 0 1 o4.tail)<|.done 0 [.any] [.cells [.vec 1],.vec 1 ((o4.tail.hO).es)]) (.done 0 [.any] [.cells [.vec 1],.vec 1 ((o1.tail.hO).es)]))
theorem xA(a0:AV)(e1_0_0:List (List AV))(ha0:LK.has .ptr a0)(h:di 29 (EZ a0 e1_0_0) R):an Tryz.prog 165 [a0,.fn 166 [.ref 0 0]] [.cells [.vec 1],.vec 1 e1_0_0] R :=
 an.mY (bw (ca (ah (aA _) aC)) (bw (fH _) cv)) (an.up (ah (bB ha0) (ah (aA _) aC)) (oF [] {mu:=[(1,.fn [some (.obj [.vec 1])])],own:=[]} Tryz.f165 h))
def HJ(a0:AV)(e1_0:List (List AV)):Tree :=
 NZ a0<|NZ a0<|.ai (LK.has (.int .u8) (a0.deref.hA)/\1<=a0.deref.length)<|.test (((a0.deref.hA).toInt)==(110:Int)) (NZ a0<|NZ a0<|kK (a0.deref.drop 1)<|.call 156 [.sl e1_0,VS (((a0.deref.drop 1).hA).toStr)] [] fun r1 o1=>NB r1<|.test (!r1.toBool) (NZ a0<|NZ a0<|kK (a0.deref.drop 1)<|.ai (cC 1 [[VS (((a0.deref.drop 1).hA).toStr)]]/\((e1_0.length)+([[VS (((a0.deref.drop 1).hA).toStr)]]:List (List AV)).length)*16<=140737488355328)<|.done 0 [.any] [.cells [.vec 1],.vec 1 (e1_0++([[VS (((a0.deref.drop 1).hA).toStr)]]:List (List AV)))]) (.done 0 [.any] [.cells [.vec 1],.vec 1 e1_0])) (.done 0 [.any] [.cells [.vec 1],.vec 1 e1_0])
theorem R4(a0:AV)(e1_0:List (List AV))(ha0:LK.has .ptr a0)(h:di 24 (HJ a0 e1_0) R):an Tryz.prog 166 [a0,.ref 0 0] [.cells [.vec 1],.vec 1 e1_0] R :=
 an.mY (bw (ca (ah (aA _) aC)) (bw (fH _) cv)) (an.up (ah (bB ha0) (ah (aA _) aC)) (oF [] {mu:=[(1,.one (.obj [.vec 1]))],own:=[]} Tryz.f166 h))
def Gm:LI:={hd:={bS:=[(0,.k .sl),(1,.k .str),(7,.k (.int .i64)),(8,.k (.int .i64))]},xs:={},rt:={bS:=[(4,.k (.int .i64))]},ex:=0}
def LG:Code:=cG (cB Tryz.f167) 2
def Ku:List (Nat×LI):=[(2,Gm)]
def NR(a0:AV)(a1:ByteArray):Tree :=
 NL a0<|.loop LG Gm [a0,VS a1,VI (a0.elems.length:Int),VI 0] [] (fun y1 q1=>.done 0 [VI (-1)] []) (fun y1 q1=>NI (y1.hA)<|.done 0 [VI ((y1.hA).toInt)] [])
theorem Q6(a0:AV)(a1:ByteArray)(ha0:LK.has .sl a0)(h:di 19 (NR a0 a1) R):an Tryz.prog 167 [a0,VS a1] [] R :=
 uQ (ah (bP ha0) (ah (aA _) aC)) (oQ Ku Tryz.f167 h)
def Ho(x0:AV)(x1:ByteArray)(x7:Int)(x8:Int):Tree :=
 NL x0<|NS (VS x1)<|NI (VI x7)<|NI (VI x8)<|.test (decide (x8<x7)) (NG x0 x8 1<|kK (x0.ix x8)<|.test (af x1==af (((x0.ix x8).hA).toStr)) (.done 2 [VI x8] []) (.done 0 [x0,VS x1,VI x7,VI (IntKind.wrap .i64 (x8+1))] [])) (.done 1 [] [])
abbrev H5:=cA Tryz.prog 19 LG Gm
theorem JQ(x0:AV)(x1:ByteArray)(x7:Int)(x8:Int)(h:ka 19 (Ho x0 x1 x7 x8) H5 U):H5 [x0,VS x1,VI x7,VI x8] [] U :=
 gQ Ku h
def HG:LI:={hd:={bS:=[(0,.k .sl),(1,.c (.func (.func 150) #[] #[])),(7,.k (.int .i64)),(8,.k (.int .i64))]},xs:={},rt:={bS:=[(4,.k (.int .i64))]},ex:=0}
def Lq:Code:=cG (cB Tryz.f168) 2
def I8:List (Nat×LI):=[(2,HG)]
def Nb(a0:AV):Tree :=
 NL a0<|.loop Lq HG [a0,.v (.func (.func 150) #[] #[]),VI (a0.elems.length:Int),VI 0] [] (fun y2 q2=>.done 0 [VI (-1)] []) (fun y2 q2=>NI (y2.hA)<|.done 0 [VI ((y2.hA).toInt)] [])
theorem RN(a0:AV)(ha0:LK.has .sl a0)(h:di 19 (Nb a0) R):an Tryz.prog 168 [a0,.v (.func (.func 150) #[] #[])] [] R :=
 uQ (ah (bP ha0) (ah (aA _) aC)) (oQ I8 Tryz.f168 h)
def GH(x0:AV)(x7:Int)(x8:Int):Tree :=
 NL x0<|.ai (AV.v (.func (.func 150) #[] #[])=.v (.func (.func 150) #[] #[]))<|NI (VI x7)<|NI (VI x8)<|.test (decide (x8<x7)) (NG x0 x8 1<|kK (x0.ix x8)<|.call 150 [VS (((x0.ix x8).hA).toStr)] [] fun r1 o1=>NB r1<|.test r1.toBool (.done 2 [VI x8] []) (.done 0 [x0,.v (.func (.func 150) #[] #[]),VI x7,VI (IntKind.wrap .i64 (x8+1))] [])) (.done 1 [] [])
abbrev FT:=cA Tryz.prog 19 Lq HG
theorem Nz(x0:AV)(x7:Int)(x8:Int)(h:ka 19 (GH x0 x7 x8) FT U):FT [x0,.v (.func (.func 150) #[] #[]),VI x7,VI x8] [] U :=
 gQ I8 h
end
end Go.Proofs.Trees
namespace Go.Proofs.Trees
open Go Go.VL
theorem bz(i:Nat)(h:i<1000000000000):IntKind.wrap .i64 ((i:Int)+1)=((i+1:Nat):Int):=by rw[wrap64]<;>omega
inductive E where
 |atom (s:List UInt8)
 |list (l:List E)
mutual
def E.cE:E->AV
 | .atom s=>.ptr [.v (.string (mk s)),.v (.slice none 0 0)]
 | .list l=>.ptr [.v (.string (mk [])),.sl (E.mi l)]
def E.mi:List E->List (List AV)
 |[]=>[]
 |e::l=>[e.cE]::E.mi l
end
mutual
def E.iv:E->List AV
 | .atom s=>[.v (.string (mk s)),.v (.slice none 0 0)]
 | .list l=>[.v (.string (mk [])),.sl (E.bu l)]
def E.bu:List E->List (List AV)
 |[]=>[]
 |e::l=>e.iv::E.bu l
end
def E.kF(e:E):AV:=.agg e.iv
theorem wb(l r:List E):E.mi (l++r)=E.mi l++E.mi r:=by
 induction l with
 |nil=>rfl
 |cons e l ih=>simp[E.mi,ih]
theorem qg(l r:List E):E.bu (l++r)=E.bu l++E.bu r:=by
 induction l with
 |nil=>rfl
 |cons e l ih=>simp[E.bu,ih]
theorem rV(l:List E):(E.mi l).length=l.length:=by
 induction l with
 |nil=>rfl
 |cons e l ih=>simp[E.mi,ih]
theorem dY(l:List E):(E.bu l).length=l.length:=by
 induction l with
 |nil=>rfl
 |cons e l ih=>simp[E.bu,ih]
def ff(b:UInt8):Bool:=decide ((97<=b.toNat/\b.toNat<=122)\/(48<=b.toNat/\b.toNat<=57)\/b.toNat=43\/b.toNat=42)
def sw(f:List UInt8->Option (E×List UInt8)):Nat->List UInt8->List E->Option (E×List UInt8)
 |0,_,_=>none
 |
  n+1,s,acc=>match f s with
  |some (p,c::r)=>if c.toNat=41 then some (.list (acc++[p]),r)else if c.toNat=32 then sw f n r (acc++[p])else none
  |_=>none
def rd:Nat->List UInt8->Option (E×List UInt8)
 |0,s=>if s.takeWhile ff=[]then none else some (.atom (s.takeWhile ff),s.dropWhile ff)
 |k+1,s=>if s.takeWhile ff=[]then(match s with
  |c::r=>if c.toNat=40 then sw (rd k) (r.length+1) r []else none
  |[]=>none)else some (.atom (s.takeWhile ff),s.dropWhile ff)
theorem A5{f:List UInt8->Option (E×List UInt8)}(hf:∀s e r,f s=some (e,r)->r.length<s.length):∀(n:Nat) (s:List UInt8) (acc:List E) (e:E) (r:List UInt8),sw f n s acc=some (e,r)->r.length<s.length
 |0,s,acc,e,r,h=>by cases h
 |
  n+1,s,acc,e,r,h=>by
  simp only[sw]at h
  split at h
  ·rename_i p c r' hs
   have:=hf _ _ _ hs
   simp only[az]at this
   split at h
   ·cases h;omega
   ·split at h
    ·have:=A5 hf n _ _ _ _ h;omega
    ·cases h
  ·cases h
theorem oY{s:List UInt8}(h:¬s.takeWhile ff=[]):(s.dropWhile ff).length<s.length:=by
 have h1:=congrArg List.length (List.takeWhile_append_dropWhile (p:=ff) (l:=s))
 simp only[aq]at h1
 have:0<(s.takeWhile ff).length:=List.length_pos_iff.2 h
 omega
theorem yI:∀(k:Nat) (s:List UInt8) (e:E) (r:List UInt8),rd k s=some (e,r)->r.length<s.length
 |
  0,s,e,r,h=>by
  simp only[rd]at h
  split at h
  ·cases h
  ·rename_i hn;cases h;exact oY hn
 |
  k+1,s,e,r,h=>by
  simp only[rd]at h
  split at h
  ·split at h
   ·split at h
    ·have:=A5 (yI k) _ _ _ _ _ h
     simp only[az];omega
    ·cases h
   ·cases h
  ·rename_i hn;cases h;exact oY hn
theorem PX(b:UInt8):an Tryz.prog 162 [.v (.int .u8 (b.toNat:Int))] [] (bK (.v (.bool (ff b)))):=by
 refine Se _ ?_
 simp only[LQ,↓zq,zs,ae,bK,ff]
 repeat' (apply aH<;>intro _)
 all_goals first|(congr 2;rw[cx];simp;omega)|(congr 2;simp;omega)
theorem xZ{s:List UInt8}{i:Nat}(hi:i<s.length)(hb:ff (s.getD i 0)=true):((s.drop i).takeWhile ff).length=((s.drop (i+1)).takeWhile ff).length+1:=by
 have e:s.drop i=s.getD i 0::s.drop (i+1):=by
  rw[aS hi];simp[aa,hi]
 rw[e,List.takeWhile_cons_of_pos hb];simp
theorem qP{s:List UInt8}{i:Nat}(hi:i<s.length)(hb:ff (s.getD i 0)=false):(s.drop i).takeWhile ff=[]:=by
 have e:s.drop i=s.getD i 0::s.drop (i+1):=by
  rw[aS hi];simp[aa,hi]
 rw[e,List.takeWhile_cons_of_neg (by rw[hb];simp)]
theorem Iz(s:List UInt8)(hs:s.length<=8000)(d:Int):∀(k i:Nat),i+k=s.length->FG [.v (.string (mk s)),.v (.int .i64 d),.v (.int .i64 (i:Int))] [] (gI 1 [.v (.string (mk s)),.v (.int .i64 d),.v (.int .i64 ((i+((s.drop i).takeWhile ff).length:Nat):Int))] [])
 |
  0,i,hi=>by
  refine Nv _ _ _ ?_
  have hd:s.drop i=[]:=bV (by omega)
  simp only[HZ,↓zq,zs,ae,zt]
  exact⟨fun h=>by omega,fun _=>by simp[gI,hd]⟩
 |
  k+1,i,hi=>by
  have hlt:i<s.length:=by omega
  refine Nv _ _ _ ?_
  simp only[HZ,↓zq,zs,ae,zt,mf s i hlt]
  refine⟨fun _=>⟨by omega,?_⟩,fun h=>by omega⟩
  refine aj (PX _) ?_
  simp only[↓zq,zs,ae]
  refine⟨fun hb=>?_,fun hb=>?_⟩
  ·rw[bz i (by omega)]
   have:=Iz s hs d k (i+1) (by omega)
   rw[xZ hlt hb,show i+(((s.drop (i+1)).takeWhile ff).length+1)=i+1+((s.drop (i+1)).takeWhile ff).length by omega]
   exact this
  ·simp[gI,qP hlt hb]
def ot(s:List UInt8):Option (E×List UInt8)->AV
 |some (e,r)=>.cH [e.cE,.v (.string (mk r))]
 |none=>.cH [.v (.pointer none),.v (.string (mk s))]
theorem cU(e:E):LK.has .ptr e.cE=True:=by cases e<;>simp[E.cE,bZ]
theorem ej(e:E):e.cE.isNil=false:=by cases e<;>rfl
theorem uv(s:List UInt8):s.take (s.takeWhile ff).length=s.takeWhile ff:=by
 have h:=List.takeWhile_append_dropWhile (p:=ff) (l:=s)
 have:(s.takeWhile ff++s.dropWhile ff).take (s.takeWhile ff).length=s.takeWhile ff:=List.take_left
 rw[h]at this;exact this
theorem yd(s:List UInt8):s.drop (s.takeWhile ff).length=s.dropWhile ff:=by
 have h:=List.takeWhile_append_dropWhile (p:=ff) (l:=s)
 have:(s.takeWhile ff++s.dropWhile ff).drop (s.takeWhile ff).length=s.dropWhile ff:=List.drop_left
 rw[h]at this;exact this
theorem CL(c:UInt8)(r:List UInt8):(List.take (r.length+1) (c::r)).drop (bL 1)=r:=by simp
theorem Mj(s0:List UInt8)(k:Nat)(hk:k<300)(ih:∀s,s.length<=8000->an Tryz.prog 148 [.v (.string (mk s)),.v (.int .i64 ((300-k:Nat):Int))] [] (bK (ot s (rd k s)))) :
 ∀(n:Nat) (s:List UInt8) (acc:List E),s.length<n->s.length+acc.length<=8000->Hz [.v (.string (mk s0)),.v (.int .i64 ((300-(k+1):Nat):Int)),.v (.string (mk s))] [.cells [.v (.string (mk [])),.any],.vec 1 (E.mi acc)]
  (po (match sw (rd k) n s acc with|some (e,r)=>(2,[e.cE,.v (.string (mk r))],[])|none=>(2,[.v (.pointer none),.v (.string (mk s0))],[])))
 |0,s,acc,hn,_=>by omega
 |
  n+1,s,acc,hn,hl=>by
  refine SX _ _ _ _ _ ?_
  simp only[Ld,↓zq,zs,ae,AH]
  have hd:IntKind.wrap .i64 (((300-(k+1):Nat):Int)+1)=((300-k:Nat):Int):=by rw[wrap64]<;>omega
  rw[hd]
  refine aj (ih s (by omega)) ?_
  have hlt:=yI k s
  cases hr:rd k s with
  |
   none =>
   simp only[ot,↓zq,zs,ae,sw,hr]
   simp[po]
  |
   some q =>
   obtain⟨e,r⟩:=q
   have:=hlt e r hr
   cases r with
   |
    nil =>
    simp only[ot,↓zq,zs,ae,zt,sw,hr,cU,ej]
    simp[po]
   |
    cons c r =>
    simp only[az]at this
    have hb:=mf (c::r) 0 (by simp)
    simp only[Int.ofNat_eq_natCast,Int.cast_ofNat_Int]at hb
    have e2:(List.take (c::r).length (c::r)).drop 1=r:=by simp
    simp only[ot,↓zq,zs,ae,zt,sw,hr,cU,ej,hb,e2,rV]
    refine⟨fun h=>(by cases h),fun _=>⟨fun h=>(by cases h),fun _=>⟨⟨fun c hc=>(by simp at hc;rw[hc];rfl),by omega⟩,by omega,by omega,fun h41=>?_,fun h41=>⟨by omega,fun h32=>?_,fun h32=>?_⟩⟩⟩⟩
    ·have h41':c.toNat=41:=by omega
     rw[CL,if_pos h41']
     simp[po,E.cE,wb,E.mi]
    ·have h41':¬c.toNat=41:=by omega
     have h32':¬c.toNat=32:=by omega
     rw[if_neg h41',if_neg h32']
    ·have h41':¬c.toNat=41:=by omega
     have h32':c.toNat=32:=by omega
     rw[CL,if_neg h41',if_pos h32']
     have:=Mj s0 k hk ih n r (acc++[e]) (by omega) (by simp;omega)
     simpa[wb,E.mi]using this
theorem Pq:∀(k:Nat),k<=300->∀s:List UInt8,s.length<=8000->an Tryz.prog 148 [.v (.string (mk s)),.v (.int .i64 ((300-k:Nat):Int))] [] (bK (ot s (rd k s))):=by
 intro k
 induction k with
 |
  zero =>
  intro hk s hs
  refine Mi _ _ ?_
  unfold IG
  refine cz (Iz s hs _ s.length 0 (by omega)) ?_
  simp only[↓zq,zs,ae,zt,aW,bK]
  have hw:(s.takeWhile ff).length<=s.length:=by
   have:=congrArg List.length (List.takeWhile_append_dropWhile (p:=ff) (l:=s))
   simp only[aq]at this;omega
  refine⟨fun h=>⟨by omega,by omega,?_⟩,fun h=>?_⟩
  ·have hne:¬s.takeWhile ff=[]:=fun e=>by rw[e]at h;simp at h
   simp only[rd,if_neg hne,ot,E.cE,uv,yd]
  ·have hnil:s.takeWhile ff=[]:=bH (by omega)
   simp only[rd,if_pos hnil,ot]
   refine⟨fun _=>trivial,fun hne=>⟨?_,?_⟩⟩
   ·cases s with
    |nil=>exact absurd rfl hne
    |cons c s=>simp
   ·exact⟨fun _=>trivial,fun _=>⟨fun _=>trivial,fun h=>absurd rfl h⟩⟩
 |
  succ k ih =>
  intro hk s hs
  refine Mi _ _ ?_
  unfold IG
  refine cz (Iz s hs _ s.length 0 (by omega)) ?_
  simp only[↓zq,zs,ae,zt,aW,bK]
  have hw:(s.takeWhile ff).length<=s.length:=by
   have:=congrArg List.length (List.takeWhile_append_dropWhile (p:=ff) (l:=s))
   simp only[aq]at this;omega
  refine⟨fun h=>⟨by omega,by omega,?_⟩,fun h=>?_⟩
  ·have hne:¬s.takeWhile ff=[]:=fun e=>by rw[e]at h;simp at h
   simp only[rd,if_neg hne,ot,E.cE,uv,yd]
  ·have hnil:s.takeWhile ff=[]:=bH (by omega)
   simp only[rd,if_pos hnil]
   cases s with
   |nil=>simp[ot]
   |
    cons c s =>
    have hb:=mf (c::s) 0 (by simp)
    simp only[Int.ofNat_eq_natCast,Int.cast_ofNat_Int]at hb
    simp only[az]at hs
    simp only[↓zq,zs,ae,hb,CL]
    refine⟨fun h=>(by cases h),fun _=>⟨by omega,fun h40=>?_,fun h40=>⟨fun h300=>?_,fun h300=>⟨by omega,?_⟩⟩⟩⟩
    ·have:¬c.toNat=40:=by omega
     rw[if_neg this];rfl
    ·omega
    ·have h40':c.toNat=40:=by omega
     rw[if_pos h40']
     refine fF (Mj (c::s) k (by omega) (ih (by omega)) (s.length+1) s [] (by omega) (by simp;omega)) (fun ys o e=>?_) (fun ys o e=>?_)
     ·split at e<;>cases e
     ·split at e<;>cases e
      ·rename_i e' r' hr
       simp only[↓zq,zs,ae,cU]
       simp only[hr,ot]
      ·rename_i hr
       simp only[↓zq,zs,ae]
       simp only[hr,ot]
end Go.Proofs.Trees
namespace Go.Proofs.Trees
open Go Go.VL
mutual
def E.sz:E->Nat
 | .atom _=>1
 | .list l=>1+E.jo l
def E.jo:List E->Nat
 |[]=>0
 |e::l=>e.sz+E.jo l
end
mutual
def E.ok:E->Prop
 | .atom s=>s≠[]
 | .list l=>E.C8 l
def E.C8:List E->Prop
 |[]=>True
 |e::l=>e.ok/\E.C8 l
end
theorem yP(l r:List E):E.jo (l++r)=E.jo l+E.jo r:=by
 induction l with
 |nil=>simp[E.jo]
 |cons e l ih=>simp[E.jo,ih];omega
theorem yJ(l r:List E):E.C8 (l++r)↔E.C8 l/\E.C8 r:=by
 induction l with
 |nil=>simp[E.C8]
 |cons e l ih=>simp[E.C8,ih,and_assoc]
theorem Bw{f:List UInt8->Option (E×List UInt8)}(hf:∀s e r,f s=some (e,r)->e.ok/\e.sz+r.length<=s.length):∀(n:Nat) (s:List UInt8) (acc:List E) (e:E) (r:List UInt8),sw f n s acc=some (e,r)->E.C8 acc->e.ok/\e.sz+r.length<=s.length+1+E.jo acc
 |0,s,acc,e,r,h,_=>by cases h
 |
  n+1,s,acc,e,r,h,ha=>by
  simp only[sw]at h
  split at h
  ·rename_i p c r' hs
   obtain⟨h1,h2⟩:=hf _ _ _ hs
   simp only[az]at h2
   split at h
   ·cases h
    refine⟨(yJ _ _).2 ⟨ha,h1,trivial⟩,?_⟩
    simp only[E.sz,yP,E.jo];omega
   ·split at h
    ·have:=Bw hf n _ _ _ _ h ((yJ _ _).2 ⟨ha,h1,trivial⟩)
     refine⟨this.1,?_⟩
     have h3:=this.2
     simp only[yP,E.jo]at h3;omega
    ·cases h
  ·cases h
theorem uN(s:List UInt8):(s.takeWhile ff).length+(s.dropWhile ff).length=s.length:=by
 have:=congrArg List.length (List.takeWhile_append_dropWhile (p:=ff) (l:=s))
 simpa only[aq]using this
theorem E3:∀(k:Nat) (s:List UInt8) (e:E) (r:List UInt8),rd k s=some (e,r)->e.ok/\e.sz+r.length<=s.length
 |
  0,s,e,r,h=>by
  simp only[rd]at h
  split at h
  ·cases h
  ·rename_i hn;cases h
   have:=uN s
   have:0<(s.takeWhile ff).length:=List.length_pos_iff.2 hn
   exact⟨hn,by simp only[E.sz];omega⟩
 |
  k+1,s,e,r,h=>by
  simp only[rd]at h
  split at h
  ·split at h
   ·split at h
    ·have:=Bw (E3 k) _ _ _ _ _ h trivial
     refine⟨this.1,?_⟩
     have h3:=this.2
     simp only[E.jo,az]at h3 |-;omega
    ·cases h
   ·cases h
  ·rename_i hn;cases h
   have:=uN s
   have:0<(s.takeWhile ff).length:=List.length_pos_iff.2 hn
   exact⟨hn,by simp only[E.sz];omega⟩
def qN(s:List UInt8):Option E:=if s.length>8000 then none else match rd 300 s with|some (e,[])=>some e|_=>none
theorem nZ{s:List UInt8}{e:E}(h:qN s=some e):e.ok/\e.sz<=8000:=by
 unfold qN at h
 split at h
 ·cases h
 ·split at h
  ·rename_i e' hr
   cases h
   have:=E3 _ _ _ _ hr
   exact⟨this.1,by have:=this.2;simp at this;omega⟩
  ·cases h
def ud:Option E->AV
 |some e=>e.cE
 |none=>.v (.pointer none)
theorem Jq(s:List UInt8):an Tryz.prog 129 [.v (.string (mk s))] [] (bK (ud (qN s))):=by
 refine Qh _ ?_
 simp only[Jd,↓zq,zs,ae,zt,bK,qN]
 refine⟨fun h=>?_,fun h=>?_⟩
 ·rw[if_pos (by omega)];simp[ud]
 ·rw[if_neg (by omega)]
  refine aj (Pq 300 (by omega) s (by omega)) ?_
  cases hr:rd 300 s with
  |
   none =>
   simp only[ot,↓zq,zs,ae,zt,ud]
   refine⟨fun _=>trivial,fun _=>trivial⟩
  |
   some q =>
   obtain⟨e,r⟩:=q
   cases r with
   |nil=>simp only[ot,↓zq,zs,ae,zt,ud,cU];simp
   |cons c r=>simp only[ot,↓zq,zs,ae,zt,ud,cU];simp
def ig(b:UInt8):Bool:=decide (48<=b.toNat/\b.toNat<=57)
def named(lo hi:Nat):List UInt8->Bool
 |[]=>false
 |c::r=>decide (r.length<=2)&&decide (lo<=c.toNat/\c.toNat<=hi)&&r.all ig
def hJ(s:List UInt8):Bool:=named 120 122 s
def dk(s:List UInt8):Bool:=named 116 116 s
def CM(v lo hi:Int):Bool:=decide (lo<=v/\v<=hi)
theorem AX(v lo hi:Int):an Tryz.prog 45 [.v (.int .i64 v),.v (.int .i64 lo),.v (.int .i64 hi)] [] (bK (.v (.bool (CM v lo hi)))):=by
 refine P4 _ _ _ ?_
 simp only[KD,↓zq,zs,ae,bK,CM]
 constructor<;>intro h<;>simp at h<;>simp[h]
 omega
theorem J6(s:List UInt8)(hs:s.length<=3):∀(k i:Nat),i+k=s.length->GV [.v (.string (mk s)),.v (.int .i64 (i:Int))] [] (po (if(s.drop i).all ig=true then(1,[],[])else(2,[.v (.bool false)],[])))
 |
  0,i,hi=>by
  have hd:s.drop i=[]:=bV (by omega)
  refine KC _ _ ?_
  simp only[FB,↓zq,zs,ae,zt]
  exact⟨fun h=>by omega,fun _=>by simp[po,hd]⟩
 |
  k+1,i,hi=>by
  have hlt:i<s.length:=by omega
  have e:s.drop i=s.getD i 0::s.drop (i+1):=by
   rw[aS hlt];simp[aa,hlt]
  refine KC _ _ ?_
  simp only[FB,↓zq,zs,ae,zt,mf s i hlt,e,cZ]
  generalize hb:s.getD i 0=b
  refine⟨fun _=>⟨by omega,fun h=>?_,fun h=>⟨by omega,fun h2=>?_,fun h2=>?_⟩⟩,fun h=>by omega⟩
  ·have:ig b=false:=by simp[ig];omega
   simp only[this,zf,po]
  ·have:ig b=false:=by simp[ig];omega
   simp only[this,zf,po]
  ·have:ig b=true:=by simp[ig];omega
   rw[bz i (by omega),this,bX]
   exact J6 s hs k (i+1) (by omega)
theorem MN(s:List UInt8)(lo hi:Nat):an Tryz.prog 119 [.v (.string (mk s)),.v (.int .u8 (lo:Int)),.v (.int .u8 (hi:Int))] [] (bK (.v (.bool (named lo hi s)))):=by
 refine Rc _ _ _ ?_
 unfold On
 rw[cM]
 refine aj (AX _ _ _) ?_
 simp only[↓zq,zs,ae,zt,bK]
 refine⟨fun h=>?_,fun h=>?_⟩
 ·cases s with
  |nil=>rfl
  |
   cons c s =>
   simp[CM]at h
   have:¬s.length<=2:=by omega
   simp[named,this]
 ·cases s with
  |nil=>simp[CM]at h
  |
   cons c s =>
   simp[CM]at h
   have hl:s.length<=2:=by omega
   have hb:=mf (c::s) 0 (by simp)
   simp only[Int.ofNat_eq_natCast,Int.cast_ofNat_Int]at hb
   simp only[↓zq,zs,ae,hb]
   refine⟨by omega,fun h1=>?_,fun h1=>⟨by omega,fun h2=>?_,fun h2=>?_⟩⟩
   ·have:¬lo<=c.toNat:=by omega
    simp[named,this]
   ·have:¬c.toNat<=hi:=by omega
    simp[named,this]
   ·refine fF (J6 (c::s) (by simp;omega) s.length 1 (by simp;omega)) (fun ys o e=>?_) (fun ys o e=>?_)
    ·split at e<;>cases e
     rename_i ha
     simp at ha
     simp only[↓zq,zs,ae]
     simp[named,hl]
     exact⟨⟨by omega,by omega⟩,fun x hx=>by simpa using ha x hx⟩
    ·split at e<;>cases e
     rename_i ha
     simp only[↓zq,zs,ae]
     have:s.all ig=false:=by simpa using ha
     simp[named,this]
theorem HQ(s:List UInt8):an Tryz.prog 126 [.v (.string (mk s))] [] (bK (.v (.bool (hJ s)))):=by
 refine Rm _ ?_
 unfold KX
 refine aj (MN s 120 122) ?_
 simp only[↓zq,zs,ae,bK,hJ]
theorem Gt(s:List UInt8):an Tryz.prog 85 [.v (.string (mk s))] [] (bK (.v (.bool (dk s)))):=by
 refine Sy _ ?_
 unfold K1
 refine aj (MN s 116 116) ?_
 simp only[↓zq,zs,ae,bK,dk]
end Go.Proofs.Trees
namespace Go.Proofs.Trees
open Go Go.VL Go.RowKit
theorem Qo(l:List UInt8)(c:UInt8):an Tryz.prog 175 [.v (.string (mk l)),.v (.string (mk [c]))] [] (bK (.v (.bool (decide (0<=Lib.indexByte l c))))):=by
 refine an.Tc (xs:=[.string (mk l),.string (mk [c])]) ⟨nv,by kernel_rfl,by kernel_rfl,by kernel_rfl⟩ fun w=>?_
 have:=Any.strings_Contains_one Tryz.D1 (mk l) c w
 refine Calls.mono this fun e w' ⟨h1,h2⟩=>?_
 rw[h2]
 have hd:(mk l).data.toList=l:=by simp[mk]
 exact⟨by rw[h1,hd],Below.refl _ _⟩
theorem OB(l cs:List UInt8)(hl:l.length<=1000000)(hc:cs.length<=1000)(ha:∀b,b∈cs->b.toNat<128):an Tryz.prog 169 [.v (.string (mk l)),.v (.string (mk cs))] [] (bK (.v (.string (mk (Lib.trimS l cs))))):=by
 refine an.Tc (xs:=[.string (mk l),.string (mk cs)]) ⟨qu,by kernel_rfl,by kernel_rfl,by kernel_rfl⟩ fun w=>?_
 have:=Any.strings_Trim_laid Tryz.DF (by kernel_rfl) (mk l) (mk cs) w (by rw[cM];omega) (by rw[cM];omega) (fun j b hj=>ha b (by
  have:(mk cs).data.toList=cs:=by simp[mk]
  rw[this]at hj
  exact List.mem_of_getElem? hj))
 refine Calls.mono this fun e w' ⟨h1,h2⟩=>⟨?_,h2⟩
 rw[h1]
 simp[mk]
theorem nB:∀(l:List UInt8) (c:UInt8),(0<=Lib.indexByte l c↔c∈l)/\-1<=Lib.indexByte l c
 |[],c=>by simp[Lib.indexByte]
 |
  b::l,c=>by
  obtain⟨h1,h2⟩:=nB l c
  unfold Lib.indexByte
  by_cases e:b=c
  ·subst e;simp
  ·have e':(b==c)=false:=by simp[e]
   rw[e']
   by_cases q:Lib.indexByte l c = -1
   ·have:c∉l:=fun h=>by have:=h1.2 h;omega
    simp[q,this,Ne.symm e]
   ·have q':(Lib.indexByte l c==-1)=false:=by simp[q]
    simp only[q',Bool.false_eq_true,if_false,aJ]
    constructor
    ·constructor
     ·intro h;exact .inr (h1.1 (by omega))
     ·intro h
      rcases h with h|h
      ·exact absurd h.symm e
      ·have:=h1.2 h;omega
    ·omega
theorem dropWhile_nil{p:UInt8->Bool}:∀(l:List UInt8),l.dropWhile p=[]↔l.all p=true
 |[]=>by simp
 |
  b::l=>by
  cases h:p b with
  |true=>rw[List.dropWhile_cons_of_pos h,dropWhile_nil l];simp[h]
  |false=>rw[List.dropWhile_cons_of_neg (by rw[h];simp)];simp[h]
theorem tb(l cs:List UInt8):Lib.trimS l cs=[]↔l.all (cs.contains ·)=true:=by
 unfold Lib.trimS Lib.trimLeftS
 rw[dropWhile_nil]
 unfold Lib.trimRightS
 constructor
 ·intro h
  by_cases hn:l.reverse.dropWhile (cs.contains ·)=[]
  ·rw[dropWhile_nil]at hn
   simpa using hn
  ·exfalso
   rw[List.all_reverse]at h
   obtain⟨b,r,e⟩:=List.exists_cons_of_ne_nil hn
   have h1:cs.contains b=false:=by
    have:=List.head_dropWhile_not (p:=(cs.contains ·)) (l:=l.reverse) hn
    simp only[e,List.head_cons]at this
    exact this
   rw[e]at h
   simp only[cZ,aw]at h
   rw[h1]at h;cases h.1
 ·intro h
  have:l.reverse.dropWhile (cs.contains ·)=[]:=by rw[dropWhile_nil];simpa using h
  rw[this];rfl
def FM:List UInt8:=[48,49,50,51,52,53,54,55,56,57]
theorem wB(b:UInt8):FM.contains b=ig b:=by
 have:∀n:Fin 256,FM.contains (bj n.val)=ig (bj n.val):=by decide +kernel
 have:=this ⟨b.toNat,b.toNat_lt⟩
 simpa using this
theorem OR(s ls:List UInt8)(lo hi:Nat)(hls:∀c:UInt8,c∈ls↔lo<=c.toNat/\c.toNat<=hi):an Tryz.prog 163 [.v (.string (mk s)),.v (.string (mk ls))] [] (bK (.v (.bool (named lo hi s)))):=by
 refine QQ _ _ ?_
 simp only[N3,↓zq,zs,ae,zt,bK]
 cases s with
 |nil=>exact⟨fun h=>by simp at h,fun _=>rfl⟩
 |
  cons c s =>
  have e1:(List.take (bL 1) (c::s))=[c]:=rfl
  have e2:(List.take (s.length+1) (c::s)).drop (bL 1)=s:=by simp
  simp only[az,e1,e2]
  refine⟨fun _=>⟨fun h3=>⟨by omega,?_⟩,fun h3=>?_⟩,fun h=>by omega⟩
  ·have hl:s.length<=2:=by omega
   refine aj (Qo ls c) ?_
   simp only[↓zq,zs,ae]
   have hi1:=(nB ls c).1
   refine⟨fun h=>⟨by omega,?_⟩,fun h=>?_⟩
   ·refine aj (OB s FM (by omega) (by decide) (by decide)) ?_
    simp only[↓zq,zs,ae,zt]
    have hc:=(hls c).1 (hi1.1 h)
    congr 2
    rw[cx,beq_iff_eq,tb]
    simp only[named,hl,hc,decide_true,bX,and_self]
    have:(fun x=>FM.contains x)=ig:=funext wB
    rw[this]
   ·have hc:¬(lo<=c.toNat/\c.toNat<=hi):=fun h'=>h (hi1.2 ((hls c).2 h'))
    simp only[named,hc,zf]
  ·have hl:¬s.length<=2:=by omega
   simp only[named,hl,zf]
theorem LJ(s:List UInt8):an Tryz.prog 149 [.v (.string (mk s))] [] (bK (.v (.bool (hJ s)))):=by
 refine PC _ ?_
 unfold Oj
 have h:∀n:Fin 256,(bj n.val∈[(120:UInt8),121,122])↔120<=(bj n.val).toNat/\(bj n.val).toNat<=122:=by decide +kernel
 refine aj (OR s [120,121,122] 120 122 fun c=>by simpa using h ⟨c.toNat,c.toNat_lt⟩) ?_
 simp only[↓zq,zs,ae,bK,hJ]
theorem Ep(s:List UInt8):an Tryz.prog 150 [.v (.string (mk s))] [] (bK (.v (.bool (dk s)))):=by
 refine QL _ ?_
 unfold I9
 have h:∀n:Fin 256,(bj n.val∈[(116:UInt8)])↔116<=(bj n.val).toNat/\(bj n.val).toNat<=116:=by decide +kernel
 refine aj (OR s [116] 116 116 fun c=>by simpa using h ⟨c.toNat,c.toNat_lt⟩) ?_
 simp only[↓zq,zs,ae,bK,dk]
end Go.Proofs.Trees
namespace Go.Proofs.Trees
open Go Go.VL
inductive Ty where
 |zero|one
 |name (s:List UInt8)
 |bound (up:Nat)
 |plus (a b:Ty)
 |times (a b:Ty)
 |rc (a:Ty)
def Ty.av:Ty->AV
 | .zero=>.ptr [.v (.int .u8 48),.v (.string (mk [])),.v (.int .i64 0),.v (.pointer none),.v (.pointer none)]
 | .one=>.ptr [.v (.int .u8 49),.v (.string (mk [])),.v (.int .i64 0),.v (.pointer none),.v (.pointer none)]
 | .name s=>.ptr [.v (.int .u8 110),.v (.string (mk s)),.v (.int .i64 0),.v (.pointer none),.v (.pointer none)]
 | .bound up=>.ptr [.v (.int .u8 98),.v (.string (mk [])),.v (.int .i64 (up:Int)),.v (.pointer none),.v (.pointer none)]
 | .plus a b=>.ptr [.v (.int .u8 43),.v (.string (mk [])),.v (.int .i64 0),a.av,b.av]
 | .times a b=>.ptr [.v (.int .u8 42),.v (.string (mk [])),.v (.int .i64 0),a.av,b.av]
 | .rc a=>.ptr [.v (.int .u8 114),.v (.string (mk [])),.v (.int .i64 0),a.av,.v (.pointer none)]
theorem aE(t:Ty):LK.has .ptr t.av=True:=by cases t<;>simp[Ty.av,bZ]
theorem fO(t:Ty):t.av.isNil=false:=by cases t<;>rfl
def ij:Option Ty->AV
 |some t=>t.av
 |none=>.v (.pointer none)
theorem ik(t:Option Ty):LK.has .ptr (ij t)=True:=by cases t<;>simp[ij,aE,iF]
def E.at:E->List UInt8
 | .atom s=>s
 | .list _=>[]
def bR(s:List UInt8)(ar:List (List UInt8)):Nat->Option Nat
 |0=>none
 |i+1=>if ar.getD i []=s then some (ar.length-1-i)else bR s ar i
def cS:E->List (List UInt8)->Option Ty
 | .atom s,ar=>if s=[48]then some .zero else if s=[49]then some .one else if hJ s=true then some (.name s)else if dk s=true then(match bR s ar ar.length with|some u=>some (.bound u)|none=>some (.name s))else none
 |
  .list [x,a,b],ar =>
  if x.at=[43]then(match cS a ar,cS b ar with|some t,some u=>some (.plus t u)|_,_=>none)
  else if x.at=[42]then(match cS a ar,cS b ar with|some t,some u=>some (.times t u)|_,_=>none)
  else if x.at=[114,101,99]then(if dk a.at=true then(match cS b (ar++[a.at])with|some t=>some (.rc t)|none=>none)else none)
  else none
 | .list _,_=>none
def bN(l:List (List UInt8)):List (List AV):=l.map fun s=>[.v (.string (mk s))]
def cy(a:AV)(l:List (List UInt8)):Prop:=LK.sl.has a/\a.elems=bN l
theorem cy.len{a:AV}{l:List (List UInt8)}(h:cy a l):a.elems.length=l.length:=by rw[h.2];simp[bN]
theorem cy.idx{a:AV}{l:List (List UInt8)}(h:cy a l){i:Nat}(hi:i<l.length):a.elems.getD i []=[.v (.string (mk (l.getD i [])))]:=by
 rw[h.2];simp[bN,aa,hi]
theorem cy.of(l:List (List UInt8)):cy (.sl (bN l)) l:=⟨(cf _).mpr trivial,rfl⟩
theorem cy.nil:cy (.v (.slice none 0 0)) []:=⟨(bf).mpr trivial,rfl⟩
theorem zk(e:E)(w:List UInt8):an Tryz.prog 151 [e.cE,.v (.string (mk w)),.v (.int .i64 3)] [] (bK (.v (.bool (match e with| .list [x,_,_]=>x.at==w|_=>false)))):=by
 refine OV _ _ _ ((cU e).mpr trivial) ?_
 cases e with
 |atom s=>simp only[AN,E.cE,↓zq,zs,ae,zt,bK];exact⟨by omega,fun h=>by omega,fun _=>trivial⟩
 |
  list l =>
  simp only[AN,E.cE,↓zq,zs,ae,zt,bK,rV]
  match l with
  |[]=>exact⟨by simp,fun h=>by simp at h,fun _=>rfl⟩
  |[_]=>exact⟨by simp,fun h=>by simp at h,fun _=>rfl⟩
  |[_,_]=>exact⟨by simp,fun h=>by simp at h,fun _=>rfl⟩
  |
   [x,y,z] =>
   refine⟨by simp,fun _=>?_,fun h=>by simp at h⟩
   cases x<;>simp[E.mi,E.cE,bZ,pI,jL,dV,uC,toList_mk,E.at]
  |_::_::_::_::l=>exact⟨by simp,fun h=>by simp at h;omega,fun _=>rfl⟩
theorem JD(e:E)(a:AV)(ar:List (List UInt8))(ha:cy a ar)(hl:ar.length<1000000):∀(i:Nat),i<=ar.length->G6 [e.cE,a,.v (.int .i64 ((i:Int)-1))] []
 (po (match bR e.at ar i with|some u=>(2,[],[.cells [.v (.int .u8 98),.v (.string (mk [])),.v (.int .i64 (u:Int)),.v (.pointer none),.v (.pointer none)]])|none=>(1,[e.cE],[])))
 |
  0,hi=>by
  refine MM _ _ _ ?_
  simp only[Hn,↓zq,zs,ae,cU]
  exact⟨ha.1,fun h=>by omega,fun _=>rfl⟩
 |
  i+1,hi=>by
  have hlt:i<ar.length:=by omega
  have e1:((i+1:Nat):Int)-1=(i:Int):=by omega
  rw[e1]
  refine MM _ _ _ ?_
  have hd:e.cE.deref.headD .any=.v (.string (mk e.at)):=by cases e<;>rfl
  have hdl:1<=e.cE.deref.length:=by cases e<;>simp[E.cE,jL]
  simp only[Hn,↓zq,zs,ae,zt,cU,ej,ha.len,ha.idx hlt,hd,sb]
  refine⟨ha.1,fun _=>⟨⟨ha.1,by omega,by omega⟩,by omega,hdl,fun h=>⟨ha.1,?_⟩,fun h=>?_⟩,fun h=>by omega⟩
  ·simp only[bR,h,if_true,po]
   rw[wrap64 ((ar.length:Int)-1) (by omega) (by omega),wrap64 _ (by omega) (by omega)]
   have:(ar.length:Int)-1-(i:Int)=((ar.length-1-i:Nat):Int):=by omega
   rw[this]
  ·simp only[bR,h,if_false]
   rw[wrap64 _ (by omega) (by omega)]
   exact JD e a ar ha hl i (by omega)
end Go.Proofs.Trees
namespace Go.Proofs.Trees
open Go Go.VL
theorem nM(e:E):e.cE.deref.headD .any=.v (.string (mk e.at)):=by cases e<;>rfl
theorem l6(e:E):1<=e.cE.deref.length:=by cases e<;>simp[E.cE,jL]
theorem toNat_one:bL 1=1:=rfl
theorem bg:bL 2=2:=rfl
theorem EU{ar:List (List UInt8)}(s:List UInt8):bN ar++[[.v (.string (mk s))]]=bN (ar++[s]):=by simp[bN]
theorem kp(ar:List (List UInt8)):cC 1 (bN ar):=fun c hc=>by
 obtain⟨s,_,rfl⟩:=bO.1 hc;rfl
theorem k8{x a b:E}(ar:List (List UInt8))(hx:x.at=[43]):cS (.list [x,a,b]) ar=match cS a ar,cS b ar with|some t,some u=>some (.plus t u)|_,_=>none:=by rw[cS,if_pos hx]<;>cases cS a ar<;>cases cS b ar<;>rfl
theorem j1{x a b:E}(ar:List (List UInt8))(hx:x.at=[42]):cS (.list [x,a,b]) ar=match cS a ar,cS b ar with|some t,some u=>some (.times t u)|_,_=>none:=by rw[cS,if_neg (by rw[hx];decide),if_pos hx]<;>cases cS a ar<;>cases cS b ar<;>rfl
theorem mB{x a b:E}(ar:List (List UInt8))(hx:x.at=[114,101,99]):cS (.list [x,a,b]) ar=if dk a.at=true then(match cS b (ar++[a.at])with|some t=>some (.rc t)|none=>none)else none:=by rw[cS,if_neg (by rw[hx];decide),if_neg (by rw[hx];decide),if_pos hx]<;>cases cS b (ar++[a.at])<;>rfl
theorem jd{x a b:E}(ar:List (List UInt8))(h1:x.at≠[43])(h2:x.at≠[42])(h3:x.at≠[114,101,99]):cS (.list [x,a,b]) ar=none:=by rw[cS,if_neg h1,if_neg h2,if_neg h3]
theorem CS:∀(e:E) (ar:List (List UInt8)) (a:AV),e.ok->cy a ar->ar.length+e.sz<100000->an Tryz.prog 130 [e.cE,a] [] (bK (ij (cS e ar)))
 |
  .atom s,ar,a,hok,ha,hl=>by
  simp only[E.sz]at hl
  refine Kc _ _ ((cU _).mpr trivial) ha.1 ?_
  have hd:=nM (.atom s)
  have hlen:=l6 (.atom s)
  simp only[E.at]at hd
  simp only[FP,↓zq,zs,ae,zt,bK,cU,ej,hd,cS]
  refine⟨hlen,fun h=>⟨hlen,?_,?_⟩,fun h=>⟨hlen,fun h1=>⟨hlen,?_,?_⟩,fun h1=>⟨hlen,?_⟩⟩⟩
  ·rw[h];decide
  ·rw[if_pos h,h];rfl
  ·rw[h1];decide
  ·rw[if_neg h,if_pos h1,h1];rfl
  ·rw[if_neg h,if_neg h1]
   refine aj (LJ s) ?_
   simp only[↓zq,zs,ae]
   refine⟨fun hp=>⟨hlen,?_⟩,fun hp=>⟨hlen,?_⟩⟩
   ·rw[if_pos hp];rfl
   ·rw[if_neg (by rw[hp];simp)]
    refine aj (Ep s) ?_
    simp only[↓zq,zs,ae,ha.len]
    refine⟨fun hq=>⟨ha.1,?_⟩,fun hq=>?_⟩
    ·rw[if_pos hq,wrap64 _ (by omega) (by omega)]
     refine fF (JD (.atom s) a ar ha (by omega) ar.length (by omega)) (fun ys o e=>?_) (fun ys o e=>?_)
     ·simp only[E.at]at e
      cases hq2:bR s ar ar.length<;>rw[hq2]at e<;>cases e
      simp only[↓zq,zs,ae,zt,cU,ej,hd]
      exact⟨hlen,rfl⟩
     ·simp only[E.at]at e
      cases hq2:bR s ar ar.length<;>rw[hq2]at e<;>cases e
      simp only[↓zq,zs,ae,zt,LK.has]
      simp[ij,Ty.av,ae,LK.has]
    ·rw[if_neg (by rw[hq];simp)]
     refine aj (zk (.atom s) [43]) ?_
     simp only[↓zq,zs,ae]
     refine⟨fun h=>(by simp at h),fun _=>?_⟩
     refine aj (zk (.atom s) [42]) ?_
     simp only[↓zq,zs,ae]
     refine⟨fun h=>(by simp at h),fun _=>?_⟩
     refine aj (zk (.atom s) [114,101,99]) ?_
     simp only[↓zq,zs,ae]
     refine⟨fun h=>(by simp at h),fun _=>?_⟩
     trivial
 |
  .list l,ar,a,hok,ha,hl=>by
  simp only[E.sz]at hl
  refine Kc _ _ ((cU _).mpr trivial) ha.1 ?_
  have hd:=nM (.list l)
  have hlen:=l6 (.list l)
  simp only[E.at]at hd
  have hp:hJ []=false:=rfl
  have hq:dk []=false:=rfl
  simp only[FP,↓zq,zs,ae,zt,bK,cU,ej,hd]
  refine⟨hlen,fun h=>(by simp at h),fun h=>⟨hlen,fun h1=>(by simp at h1),fun h1=>⟨hlen,?_⟩⟩⟩
  refine aj (LJ []) ?_
  simp only[↓zq,zs,ae,hp]
  refine⟨fun h=>(by simp at h),fun _=>⟨hlen,?_⟩⟩
  refine aj (Ep []) ?_
  simp only[↓zq,zs,ae,hq]
  refine⟨fun h=>(by simp at h),fun _=>?_⟩
  refine aj (zk (.list l) [43]) ?_
  match l,hok,hl with
  |
   [x,y,z],hok,hl =>
   simp only[E.jo]at hl
   obtain⟨ok1,ok2,ok3,_⟩:=hok
   have iy:=CS y ar a ok2 ha (by omega)
   have iz:=CS z ar a ok3 ha (by omega)
   have hds:((E.list [x,y,z]).cE.deref.drop 1).headD .any=.sl [[x.cE],[y.cE],[z.cE]]:=rfl
   have hdl:1<=((E.list [x,y,z]).cE.deref.drop 1).length:=by simp[E.cE,jL]
   have hxd:=nM x
   have hxl:=l6 x
   have hyd:=nM y
   have hyl:=l6 y
   have bin:∀(c:UInt8) (mkT:Ty->Ty->Ty),(∀t u:Ty,(mkT t u).av=.ptr [.v (.int .u8 (c.toNat:Int)),.v (.string (mk [])),.v (.int .i64 0),t.av,u.av])->x.at=[c]->bt (mk x.at) 0=(c.toNat:Int):=fun c _ _ hx=>by
    have:=mf x.at 0 (by rw[hx];simp)
    simp only[Int.ofNat_eq_natCast,Int.cast_ofNat_Int]at this
    rw[this,hx];rfl
   simp only[↓zq,zs,ae,zt,hds,hdl,cU,ej,toNat_one,bg,hxd,hyd,sb]
   refine⟨fun hx=>?_,fun hx=>?_⟩
   ·refine⟨by omega,by omega,?_⟩
    refine aj iy ?_
    simp only[↓zq,zs,ae,ik]
    refine⟨by omega,by omega,?_⟩
    refine aj iz ?_
    have hb:=bin 43 Ty.plus (fun _ _=>rfl) hx
    rw[k8 ar hx]
    simp only[↓zq,zs,ae,zt,ik]
    cases h1:cS y ar with
    |none=>simp[ij,jO]
    |
     some t =>
     cases h2:cS z ar with
     |none=>simp[ij,jO,fO]
     |
      some u =>
      simp only[ij,fO,hb]
      refine⟨fun h=>(by cases h),fun _=>⟨fun h=>(by cases h),fun _=>⟨by omega,by omega,hxl,⟨by omega,by rw[hx];simp⟩,rfl⟩⟩⟩
   ·refine aj (zk (.list [x,y,z]) [42]) ?_
    simp only[↓zq,zs,ae,hds,hdl,cU,ej,toNat_one,bg,hxd,hyd,sb]
    refine⟨fun hx2=>?_,fun hx2=>?_⟩
    ·refine⟨by omega,by omega,?_⟩
     refine aj iy ?_
     simp only[↓zq,zs,ae,ik]
     refine⟨by omega,by omega,?_⟩
     refine aj iz ?_
     have hb:=bin 42 Ty.times (fun _ _=>rfl) hx2
     rw[j1 ar hx2]
     simp only[↓zq,zs,ae,zt,ik]
     cases h1:cS y ar with
     |none=>simp[ij,jO]
     |
      some t =>
      cases h2:cS z ar with
      |none=>simp[ij,jO,fO]
      |
       some u =>
       simp only[ij,fO,hb]
       refine⟨fun h=>(by cases h),fun _=>⟨fun h=>(by cases h),fun _=>⟨by omega,by omega,hxl,⟨by omega,by rw[hx2];simp⟩,rfl⟩⟩⟩
    ·refine aj (zk (.list [x,y,z]) [114,101,99]) ?_
     simp only[↓zq,zs,ae,zt,hds,hdl,cU,ej,toNat_one,bg,hxd,hyd,sb]
     refine⟨fun hx3=>⟨by omega,by omega,hyl,?_⟩,fun hx3=>?_⟩
     ·refine aj (Ep y.at) ?_
      rw[mB ar hx3]
      simp only[↓zq,zs,ae]
      have hal:cC 1 a.elems:=by rw[ha.2];exact kp ar
      have hal1:cC 1 [[AV.v (.string (mk y.at))]]:=fun c hc=>by simp at hc;rw[hc];rfl
      refine⟨fun hlo=>⟨by omega,by omega,⟨ha.1,hal,by rw[ha.len];omega⟩,by omega,by omega,hyl,⟨hal1,by rw[aU,ha.len];omega⟩,?_⟩,fun hlo=>?_⟩
      ·rw[aU,ha.2,EU,if_pos hlo]
       refine aj (CS z (ar++[y.at]) _ ok3 (.of _) (by simp;omega)) ?_
       simp only[↓zq,zs,ae,ik]
       cases h2:cS z (ar++[y.at])with
       |none=>simp[ij,jO]
       |
        some u =>
        simp only[ij,fO]
        refine⟨fun h=>(by cases h),fun _=>rfl⟩
      ·rw[if_neg (by rw[hlo];simp)];rfl
     ·rw[jd ar hx hx2 hx3];rfl
  |
   [],_,_ =>
   simp only[↓zq,zs,ae]
   refine⟨fun h=>(by cases h),fun _=>?_⟩
   refine aj (zk (.list []) [42]) ?_
   simp only[↓zq,zs,ae]
   refine⟨fun h=>(by cases h),fun _=>?_⟩
   refine aj (zk (.list []) [114,101,99]) ?_
   simp only[↓zq,zs,ae]
   refine⟨fun h=>(by cases h),fun _=>?_⟩
   rfl
  |
   [x1],_,_ =>
   simp only[↓zq,zs,ae]
   refine⟨fun h=>(by cases h),fun _=>?_⟩
   refine aj (zk (.list [x1]) [42]) ?_
   simp only[↓zq,zs,ae]
   refine⟨fun h=>(by cases h),fun _=>?_⟩
   refine aj (zk (.list [x1]) [114,101,99]) ?_
   simp only[↓zq,zs,ae]
   refine⟨fun h=>(by cases h),fun _=>?_⟩
   rfl
  |
   [x1,x2],_,_ =>
   simp only[↓zq,zs,ae]
   refine⟨fun h=>(by cases h),fun _=>?_⟩
   refine aj (zk (.list [x1,x2]) [42]) ?_
   simp only[↓zq,zs,ae]
   refine⟨fun h=>(by cases h),fun _=>?_⟩
   refine aj (zk (.list [x1,x2]) [114,101,99]) ?_
   simp only[↓zq,zs,ae]
   refine⟨fun h=>(by cases h),fun _=>?_⟩
   rfl
  |
   x1::x2::x3::x4::l,_,_ =>
   simp only[↓zq,zs,ae]
   refine⟨fun h=>(by cases h),fun _=>?_⟩
   refine aj (zk (.list (x1::x2::x3::x4::l)) [42]) ?_
   simp only[↓zq,zs,ae]
   refine⟨fun h=>(by cases h),fun _=>?_⟩
   refine aj (zk (.list (x1::x2::x3::x4::l)) [114,101,99]) ?_
   simp only[↓zq,zs,ae]
   refine⟨fun h=>(by cases h),fun _=>?_⟩
   rfl
end Go.Proofs.Trees
namespace Go.Proofs.Trees
open Go Go.VL
def df(v:AV)(obs:List Ob):AV->List Ob->Prop:=fun r o=>r=v/\o=obs
theorem aV{P:Program}{n:Nat}{Q:Nat->List AV->List Ob->Prop}{f:Nat}{xs:List AV}{ins:List Ob}{k:AV->List Ob->Tree}{v:AV}{obs:List Ob}(h:an P f xs ins (df v obs))(hk:eZ P n (k v obs) Q):eZ P n (.call f xs ins k) Q :=
 ⟨df v obs,h,⟨v,obs,rfl,rfl⟩,fun r o ⟨h1,h2⟩=>by rw[h1,h2];exact hk⟩
def Ty.atoms:Ty->Nat
 | .plus a b=>1+a.atoms+b.atoms
 | .times a b=>1+a.atoms+b.atoms
 | .rc a=>2+a.atoms
 |_=>1
theorem EK:∀(t:Ty),t.atoms<1000000->an Tryz.prog 131 [t.av] [] (bK (.v (.int .i64 (t.atoms:Int))))
 | .zero,h=>by refine wW _ ((aE _).mpr trivial) ?_;simp[EI,Ty.av,↓zq,zs,ae,bK,Ty.atoms]
 | .one,h=>by refine wW _ ((aE _).mpr trivial) ?_;simp[EI,Ty.av,↓zq,zs,ae,bK,Ty.atoms]
 | .name s,h=>by refine wW _ ((aE _).mpr trivial) ?_;simp[EI,Ty.av,↓zq,zs,ae,bK,Ty.atoms]
 | .bound u,h=>by refine wW _ ((aE _).mpr trivial) ?_;simp[EI,Ty.av,↓zq,zs,ae,bK,Ty.atoms]
 |
  .plus a b,h=>by
  simp only[Ty.atoms]at h
  refine wW _ ((aE _).mpr trivial) ?_
  simp only[EI,Ty.av,↓zq,zs,ae,aE]
  refine⟨by omega,fun _=>⟨by omega,?_⟩,fun h=>absurd rfl h⟩
  refine aj (EK a (by omega)) ?_
  simp only[↓zq,zs,ae,aE]
  refine⟨by omega,?_⟩
  refine aj (EK b (by omega)) ?_
  simp only[↓zq,zs,ae,bK,Ty.atoms]
  rw[wrap64 (1+(a.atoms:Int)) (by omega) (by omega),wrap64 _ (by omega) (by omega)]
  congr 2
 |
  .times a b,h=>by
  simp only[Ty.atoms]at h
  refine wW _ ((aE _).mpr trivial) ?_
  simp only[EI,Ty.av,↓zq,zs,ae,aE]
  refine⟨by omega,fun h=>by omega,fun _=>⟨fun _=>⟨by omega,?_⟩,fun h=>absurd rfl h⟩⟩
  refine aj (EK a (by omega)) ?_
  simp only[↓zq,zs,ae,aE]
  refine⟨by omega,?_⟩
  refine aj (EK b (by omega)) ?_
  simp only[↓zq,zs,ae,bK,Ty.atoms]
  rw[wrap64 (1+(a.atoms:Int)) (by omega) (by omega),wrap64 _ (by omega) (by omega)]
  congr 2
 |
  .rc a,h=>by
  simp only[Ty.atoms]at h
  refine wW _ ((aE _).mpr trivial) ?_
  simp only[EI,Ty.av,↓zq,zs,ae,aE]
  refine⟨by omega,fun h=>by omega,fun _=>⟨fun h=>by omega,fun _=>⟨fun _=>⟨by omega,?_⟩,fun h=>absurd rfl h⟩⟩⟩
  refine aj (EK a (by omega)) ?_
  simp only[↓zq,zs,ae,bK,Ty.atoms]
  rw[wrap64 _ (by omega) (by omega)]
  congr 2
theorem iR:∀(e:E) (ar:List (List UInt8)) (t:Ty),cS e ar=some t->t.atoms<=e.sz
 |
  .atom s,ar,t,h=>by
  simp only[cS]at h
  simp only[E.sz]
  split at h
  ·cases h;simp[Ty.atoms]
  ·split at h
   ·cases h;simp[Ty.atoms]
   ·split at h
    ·cases h;simp[Ty.atoms]
    ·split at h
     ·split at h<;>cases h<;>simp[Ty.atoms]
     ·cases h
 |
  .list [x,a,b],ar,t,h=>by
  have hs:∀e:E,1<=e.sz:=fun e=>by cases e<;>simp[E.sz];try omega
  have hx:=hs x
  have ha:=hs a
  simp only[E.sz,E.jo]
  by_cases h1:x.at=[43]
  ·rw[k8 ar h1]at h
   split at h
   ·rename_i t1 t2 e1 e2
    cases h
    have:=iR a ar t1 e1
    have:=iR b ar t2 e2
    simp only[Ty.atoms];omega
   ·cases h
  ·by_cases h2:x.at=[42]
   ·rw[j1 ar h2]at h
    split at h
    ·rename_i t1 t2 e1 e2
     cases h
     have:=iR a ar t1 e1
     have:=iR b ar t2 e2
     simp only[Ty.atoms];omega
    ·cases h
   ·by_cases h3:x.at=[114,101,99]
    ·rw[mB ar h3]at h
     split at h
     ·split at h
      ·rename_i t1 e1
       cases h
       have:=iR b _ t1 e1
       simp only[Ty.atoms];omega
      ·cases h
     ·cases h
    ·rw[jd ar h1 h2 h3]at h;cases h
 | .list [],_,_,h=>by cases h
 | .list [_],_,_,h=>by cases h
 | .list [_,_],_,_,h=>by cases h
 | .list (_::_::_::_::_),_,_,h=>by cases h
def qX(s:List UInt8):Option Ty:=match qN s with
 |none=>none
 |
  some e=>match cS e []with
  |none=>none
  |some t=>if t.atoms>400 then none else some t
theorem GG(s:List UInt8):an Tryz.prog 96 [.v (.string (mk s))] [] (bK (ij (qX s))):=by
 refine P8 _ ?_
 unfold Je
 refine aj (Jq s) ?_
 unfold qX
 cases he:qN s with
 |none=>simp only[ud,↓zq,zs,ae,bK,ij];simp
 |
  some e =>
  obtain⟨h1,h2⟩:=nZ he
  simp only[ud,↓zq,zs,ae,cU,ej]
  refine⟨fun h=>(by cases h),fun _=>?_⟩
  refine aj (CS e [] _ h1 .nil (by simp;omega)) ?_
  cases ht:cS e []with
  |none=>simp only[ij,↓zq,zs,ae,bK];simp
  |
   some t =>
   have:=iR e [] t ht
   simp only[ij,↓zq,zs,ae,aE,fO]
   refine⟨fun h=>(by cases h),fun _=>?_⟩
   refine aj (EK t (by omega)) ?_
   simp only[↓zq,zs,ae,bK]
   refine⟨fun h=>?_,fun h=>?_⟩
   ·rw[if_pos (by omega)]
   ·rw[if_neg (by omega)]
end Go.Proofs.Trees
namespace Go.Proofs.Trees
open Go Go.VL
def Bb(p:Prop):Nat->List AV->List Ob->Prop:=fun t ys o=>(t=1/\¬p/\ys=[]/\o=[])\/(t=2/\p/\∃j:Nat,ys=[.v (.int .i64 (j:Int))]/\o=[])
theorem JN(l:List (List UInt8))(a:AV)(ha:cy a l)(s:List UInt8)(hl:l.length<1000000):∀(k i:Nat),i+k=l.length->s∉l.take i->H5 [a,.v (.string (mk s)),.v (.int .i64 (l.length:Int)),.v (.int .i64 (i:Int))] []
 (Bb (s∈l))
 |
  0,i,hi,hn=>by
  refine JQ _ _ _ _ ?_
  simp only[Ho,↓zq,zs,ae]
  have:l.take i=l:=List.take_of_length_le (by omega)
  rw[this]at hn
  exact⟨ha.1,fun h=>by omega,fun _=>.inl ⟨rfl,hn,rfl,rfl⟩⟩
 |
  k+1,i,hi,hn=>by
  have hlt:i<l.length:=by omega
  refine JQ _ _ _ _ ?_
  simp only[Ho,↓zq,zs,ae,zt,ha.len,ha.idx hlt]
  have hm:l.getD i []∈l:=by simp[aa,hlt]
  refine⟨ha.1,fun _=>⟨⟨ha.1,by omega,by omega⟩,by omega,fun h=>?_,fun h=>?_⟩,fun h=>by omega⟩
  ·exact .inr ⟨rfl,by rw[h];exact hm,i,rfl,rfl⟩
  ·rw[bz i (by omega)]
   refine JN l a ha s hl k (i+1) (by omega) ?_
   rw[List.take_add_one]
   simp only[aN,not_or]
   refine⟨hn,?_⟩
   have:l[i]?=some (l.getD i []):=by simp[aa,hlt]
   rw[this];simpa using h
theorem M6(l:List (List UInt8))(a:AV)(ha:cy a l)(s:List UInt8)(hl:l.length<1000000):an Tryz.prog 156 [a,.v (.string (mk s))] [] (bK (.v (.bool (decide (s∈l))))):=by
 have hI:an Tryz.prog 167 [a,.v (.string (mk s))] [] (fun r o=>∃n:Int,r=.v (.int .i64 n)/\(0<=n↔s∈l)/\o=[]):=by
  refine Q6 _ _ ha.1 ?_
  simp only[NR,↓zq,zs,ae,ha.len]
  refine⟨ha.1,lz (JN l a ha s hl l.length 0 (by omega) (by simp)) ?_ ?_⟩
  ·rintro ys o (⟨_,h1,rfl,rfl⟩|⟨h,_⟩)
   ·simp only[↓zq,zs,ae]
    exact⟨-1,rfl,⟨fun h=>(by omega),fun h=>absurd h h1⟩⟩
   ·cases h
  ·rintro ys o (⟨h,_⟩|⟨_,h1,j,rfl,rfl⟩)
   ·cases h
   ·simp only[↓zq,zs,ae]
    exact⟨j,rfl,⟨fun _=>h1,fun _=>(by omega)⟩⟩
 refine QO _ _ ha.1 ?_
 unfold LS
 refine aP hI ⟨.v (.int .i64 (if s∈l then 0 else -1)),[],_,rfl,by split<;>simp_all,rfl⟩ ?_
 rintro r o ⟨n,rfl,hn,rfl⟩
 simp only[↓zq,zs,ae,bK]
 congr 2
 rw[cx];simp[hn]
def pD(out:List (List UInt8)):Ty->List (List UInt8)
 | .name s=>if s∈out then out else out++[s]
 |_=>out
theorem IN(t:Ty)(out:List (List UInt8))(hl:out.length<100000):an Tryz.prog 166 [t.av,.ref 0 0] [.cells [.vec 1],.vec 1 (bN out)] (df .any [.cells [.vec 1],.vec 1 (bN (pD out t))]):=by
 refine R4 _ _ ((aE _).mpr trivial) ?_
 have hlen:(bN out).length=out.length:=by simp[bN]
 cases t with
 |
  name s =>
  simp only[HJ,Ty.av,↓zq,zs,ae,df,hlen]
  refine⟨by omega,fun _=>⟨by omega,?_⟩,fun h=>absurd rfl h⟩
  refine aj (M6 out _ (.of out) s (by omega)) ?_
  simp only[↓zq,zs,ae,pD]
  refine⟨fun h=>⟨by omega,⟨fun c hc=>(by simp at hc;rw[hc];rfl),by omega⟩,?_⟩,fun h=>?_⟩
  ·rw[EU,if_neg h]
  ·rw[if_pos h]
 |_=>simp[HJ,Ty.av,↓zq,zs,ae,df,pD]
def bQ:Ty->List (List UInt8)->List (List UInt8)
 | .name s,out=>pD out (.name s)
 | .plus a b,out=>bQ b (bQ a out)
 | .times a b,out=>bQ b (bQ a out)
 | .rc a,out=>bQ a out
 |_,out=>out
theorem ew:∀(t:Ty) (out:List (List UInt8)),(bQ t out).length<=out.length+t.atoms
 | .name s,out=>by simp only[bQ,pD,Ty.atoms];split<;>simp
 |
  .plus a b,out=>by
  have:=ew a out
  have:=ew b (bQ a out)
  simp only[bQ,Ty.atoms];omega
 |
  .times a b,out=>by
  have:=ew a out
  have:=ew b (bQ a out)
  simp only[bQ,Ty.atoms];omega
 |
  .rc a,out=>by
  have:=ew a out
  simp only[bQ,Ty.atoms];omega
 | .zero,out=>by simp[bQ]
 | .one,out=>by simp[bQ]
 | .bound u,out=>by simp[bQ]
theorem Ag:∀(t:Ty) (out:List (List UInt8)),out.length+t.atoms<100000->an Tryz.prog 165 [t.av,.fn 166 [.ref 0 0]] [.cells [.vec 1],.vec 1 (bN out)] (df .any [.cells [.vec 1],.vec 1 (bN (bQ t out))])
 |
  .plus a b,out,hl=>by
  simp only[Ty.atoms]at hl
  have:=ew a out
  refine xA _ _ ((aE _).mpr trivial) ?_
  unfold EZ
  refine aV (IN (.plus a b) out (by omega)) ?_
  simp only[Ty.av,↓zq,zs,ae,aE,fO,pD,aK,df]
  refine⟨by omega,fun _=>⟨by omega,?_⟩,fun h=>(by cases h)⟩
  refine aV (Ag a out (by omega)) ?_
  simp only[↓zq,zs,ae,aE,fO,aK]
  refine⟨by omega,fun _=>⟨by omega,?_⟩,fun h=>(by cases h)⟩
  refine aV (Ag b (bQ a out) (by omega)) ?_
  simp only[↓zq,zs,ae,aK,bQ]
 |
  .times a b,out,hl=>by
  simp only[Ty.atoms]at hl
  have:=ew a out
  refine xA _ _ ((aE _).mpr trivial) ?_
  unfold EZ
  refine aV (IN (.times a b) out (by omega)) ?_
  simp only[Ty.av,↓zq,zs,ae,aE,fO,pD,aK,df]
  refine⟨by omega,fun _=>⟨by omega,?_⟩,fun h=>(by cases h)⟩
  refine aV (Ag a out (by omega)) ?_
  simp only[↓zq,zs,ae,aE,fO,aK]
  refine⟨by omega,fun _=>⟨by omega,?_⟩,fun h=>(by cases h)⟩
  refine aV (Ag b (bQ a out) (by omega)) ?_
  simp only[↓zq,zs,ae,aK,bQ]
 |
  .rc a,out,hl=>by
  simp only[Ty.atoms]at hl
  refine xA _ _ ((aE _).mpr trivial) ?_
  unfold EZ
  refine aV (IN (.rc a) out (by omega)) ?_
  simp only[Ty.av,↓zq,zs,ae,aE,fO,pD,aK,df]
  refine⟨by omega,fun _=>⟨by omega,?_⟩,fun h=>(by cases h)⟩
  refine aV (Ag a out (by omega)) ?_
  simp[↓zq,zs,ae,aE,fO,aK,bQ]
 |
  .name s,out,hl=>by
  refine xA _ _ ((aE _).mpr trivial) ?_
  unfold EZ
  refine aV (IN (.name s) out (by omega)) ?_
  simp[Ty.av,↓zq,zs,ae,aK,df,bQ]
 |
  .zero,out,hl=>by
  refine xA _ _ ((aE _).mpr trivial) ?_
  unfold EZ
  refine aV (IN .zero out (by omega)) ?_
  simp[Ty.av,↓zq,zs,ae,aK,df,bQ,pD]
 |
  .one,out,hl=>by
  refine xA _ _ ((aE _).mpr trivial) ?_
  unfold EZ
  refine aV (IN .one out (by omega)) ?_
  simp[Ty.av,↓zq,zs,ae,aK,df,bQ,pD]
 |
  .bound u,out,hl=>by
  refine xA _ _ ((aE _).mpr trivial) ?_
  unfold EZ
  refine aV (IN (.bound u) out (by omega)) ?_
  simp[Ty.av,↓zq,zs,ae,aK,df,bQ,pD]
theorem JG(t:Ty)(hl:t.atoms<100000):an Tryz.prog 154 [t.av] [] (bK (.sl (bN (bQ t [])))):=by
 refine Qj _ ((aE _).mpr trivial) ?_
 unfold Nk
 refine aV (Ag t [] (by simpa using hl)) ?_
 simp[↓zq,zs,ae,aK,bK]
theorem MW(l:List (List UInt8))(a:AV)(ha:cy a l)(hl:l.length<1000000):∀(k i:Nat),i+k=l.length->(∀s,s∈l.take i->dk s=false)->FT [a,.v (.func (.func 150) #[] #[]),.v (.int .i64 (l.length:Int)),.v (.int .i64 (i:Int))] []
 (Bb (l.any dk=true))
 |
  0,i,hi,hn=>by
  refine Nz _ _ _ ?_
  simp only[GH,↓zq,zs,ae]
  have:l.take i=l:=List.take_of_length_le (by omega)
  rw[this]at hn
  exact⟨ha.1,fun h=>by omega,fun _=>.inl ⟨rfl,fun hh=>(by obtain⟨x,hx,hy⟩:=cr.1 hh;rw[hn x hx]at hy;cases hy),rfl,rfl⟩⟩
 |
  k+1,i,hi,hn=>by
  have hlt:i<l.length:=by omega
  refine Nz _ _ _ ?_
  simp only[GH,↓zq,zs,ae,zt,ha.len,ha.idx hlt]
  have hm:l.getD i []∈l:=by simp[aa,hlt]
  refine⟨ha.1,fun _=>⟨⟨ha.1,by omega,by omega⟩,by omega,?_⟩,fun h=>by omega⟩
  refine aj (Ep _) ?_
  simp only[↓zq,zs,ae]
  refine⟨fun h=>?_,fun h=>?_⟩
  ·exact .inr ⟨rfl,cr.2 ⟨_,hm,h⟩,i,rfl,rfl⟩
  ·rw[bz i (by omega)]
   refine MW l a ha hl k (i+1) (by omega) ?_
   intro s hs
   rw[List.take_add_one]at hs
   have:l[i]?=some (l.getD i []):=by simp[aa,hlt]
   rw[this]at hs
   rcases aN.1 hs with hs|hs
   ·exact hn s hs
   ·simp at hs;rw[hs];simpa using h
theorem Rp(l:List (List UInt8))(a:AV)(ha:cy a l)(hl:l.length<1000000):an Tryz.prog 157 [a,.v (.func (.func 150) #[] #[])] [] (bK (.v (.bool (l.any dk)))):=by
 have hI:an Tryz.prog 168 [a,.v (.func (.func 150) #[] #[])] [] (fun r o=>∃n:Int,r=.v (.int .i64 n)/\(0<=n↔l.any dk=true)/\o=[]):=by
  refine RN _ ha.1 ?_
  simp only[Nb,↓zq,zs,ae,ha.len]
  refine⟨ha.1,lz (MW l a ha hl l.length 0 (by omega) (by simp)) ?_ ?_⟩
  ·rintro ys o (⟨_,h1,rfl,rfl⟩|⟨h,_⟩)
   ·simp only[↓zq,zs,ae]
    exact⟨-1,rfl,⟨fun h=>(by omega),fun h=>absurd h h1⟩⟩
   ·cases h
  ·rintro ys o (⟨h,_⟩|⟨_,h1,j,rfl,rfl⟩)
   ·cases h
   ·simp only[↓zq,zs,ae]
    exact⟨j,rfl,⟨fun _=>h1,fun _=>(by omega)⟩⟩
 refine Ru _ ha.1 ?_
 unfold NM
 refine aP hI ⟨.v (.int .i64 (if l.any dk=true then 0 else -1)),[],_,rfl,by split<;>simp_all,rfl⟩ ?_
 rintro r o ⟨n,rfl,hn,rfl⟩
 simp only[↓zq,zs,ae,bK]
 congr 2
 rw[cx];simp only[decide_eq_true_eq,ge_iff_le,hn]
def Ty.closed(t:Ty):Bool:=!((bQ t []).any dk)
theorem SI(t:Ty)(hl:t.atoms<100000):an Tryz.prog 138 [t.av] [] (bK (.v (.bool t.closed))):=by
 refine P0 _ ((aE _).mpr trivial) ?_
 unfold LZ
 refine aj (JG t hl) ?_
 simp only[↓zq,zs,ae]
 have:=ew t []
 refine aj (Rp _ _ (.of _) (by simp at this;omega)) ?_
 simp only[↓zq,zs,ae,bK,Ty.closed]
def w6(s:List UInt8):Option Ty:=match qX s with
 |none=>none
 |some t=>if t.closed=true then some t else none
theorem tv{s:List UInt8}{t:Ty}(h:qX s=some t):t.atoms<=400:=by
 unfold qX at h
 split at h
 ·cases h
 ·split at h
  ·cases h
  ·split at h<;>cases h
   omega
theorem N1(s:List UInt8):an Tryz.prog 99 [.v (.string (mk s))] [] (bK (ij (w6 s))):=by
 refine RA _ ?_
 unfold LP
 refine aj (GG s) ?_
 unfold w6
 cases ht:qX s with
 |none=>simp[ij,↓zq,zs,ae,bK]
 |
  some t =>
  have:=tv ht
  simp only[ij,↓zq,zs,ae,aE,fO]
  refine⟨fun h=>(by cases h),fun _=>?_⟩
  refine aj (SI t (by omega)) ?_
  simp only[↓zq,zs,ae,bK]
  refine⟨fun h=>?_,fun h=>?_⟩
  ·rw[if_neg (by rw[h];simp)]
  ·rw[if_pos h]
theorem eB(l:List (List UInt8)):∀x,x∈[Ob.vec 1 (bN l)]->fg x:=by
 intro x hx
 simp only[aQ]at hx
 subst hx
 intro e he c hc
 simp only[bN,bO]at he
 obtain⟨k,_,rfl⟩:=he
 simp only[aQ]at hc
 exact⟨_,hc⟩
end Go.Proofs.Trees
namespace Go.Proofs.Trees
open Go Go.VL Go.RowKit
abbrev Nm:=List UInt8
def dy(u:Ty):Ty->Nat->Ty
 | .bound k,i=>if k=i then u else .bound k
 | .plus a b,i=>.plus (dy u a i) (dy u b i)
 | .times a b,i=>.times (dy u a i) (dy u b i)
 | .rc a,i=>.rc (dy u a (i+1))
 |t,_=>t
def sub(x:Nm)(u:Ty):Ty->Ty
 | .name s=>if s=x then u else .name s
 | .plus a b=>.plus (sub x u a) (sub x u b)
 | .times a b=>.times (sub x u a) (sub x u b)
 | .rc a=>.rc (sub x u a)
 |t=>t
def bn(x:Nm):Ty->Bool
 | .name s=>decide (s=x)
 | .plus a b=>bn x a||bn x b
 | .times a b=>bn x a||bn x b
 | .rc a=>bn x a
 |_=>false
def jM(f:Nm->Nm):Ty->Ty
 | .name s=>.name (f s)
 | .plus a b=>.plus (jM f a) (jM f b)
 | .times a b=>.times (jM f a) (jM f b)
 | .rc a=>.rc (jM f a)
 |t=>t
def KG(f:Nm->Nm):Prop:=∀x y,f x=f y->x=y
theorem l4(f:Nm->Nm)(x:Nm):∀(t:Ty) (i:Nat),jM f (dy (.name x) t i)=dy (.name (f x)) (jM f t) i
 | .bound k,i=>by simp only[dy,jM];split<;>rfl
 | .plus a b,i=>by simp only[dy,jM,l4 f x a i,l4 f x b i]
 | .times a b,i=>by simp only[dy,jM,l4 f x a i,l4 f x b i]
 | .rc a,i=>by simp only[dy,jM,l4 f x a (i+1)]
 | .zero,i=>rfl
 | .one,i=>rfl
 | .name s,i=>rfl
theorem lZ{f:Nm->Nm}(hf:KG f)(x:Nm)(u:Ty):∀t:Ty,jM f (sub x u t)=sub (f x) (jM f u) (jM f t)
 |
  .name s=>by
  simp only[sub,jM]
  by_cases h:s=x
  ·subst h;simp
  ·rw[if_neg h,if_neg fun e=>h (hf _ _ e)];rfl
 | .plus a b=>by simp only[sub,jM,lZ hf x u a,lZ hf x u b]
 | .times a b=>by simp only[sub,jM,lZ hf x u a,lZ hf x u b]
 | .rc a=>by simp only[sub,jM,lZ hf x u a]
 | .zero=>rfl
 | .one=>rfl
 | .bound k=>rfl
theorem ns{f:Nm->Nm}(hf:KG f)(x:Nm):∀t:Ty,bn (f x) (jM f t)=bn x t
 | .name s=>by simp only[bn,jM];rw[cx];simp only[decide_eq_true_eq];exact⟨fun e=>hf _ _ e,fun e=>by rw[e]⟩
 | .plus a b=>by simp only[bn,jM,ns hf x a,ns hf x b]
 | .times a b=>by simp only[bn,jM,ns hf x a,ns hf x b]
 | .rc a=>by simp only[bn,jM,ns hf x a]
 | .zero=>rfl
 | .one=>rfl
 | .bound k=>rfl
theorem gU(f:Nm->Nm):∀t:Ty,(jM f t).atoms=t.atoms
 | .plus a b=>by simp only[Ty.atoms,jM,gU f a,gU f b]
 | .times a b=>by simp only[Ty.atoms,jM,gU f a,gU f b]
 | .rc a=>by simp only[Ty.atoms,jM,gU f a]
 | .name s=>rfl
 | .zero=>rfl
 | .one=>rfl
 | .bound k=>rfl
theorem pL{f:Nm->Nm}:∀t:Ty,(∀x,bn x t=true->f x=x)->jM f t=t
 | .name s,h=>by simp only[jM];rw[h s (by simp[bn])]
 | .plus a b,h=>by simp only[jM];rw[pL a fun x hx=>h x (by simp[bn,hx]),pL b fun x hx=>h x (by simp[bn,hx])]
 | .times a b,h=>by simp only[jM];rw[pL a fun x hx=>h x (by simp[bn,hx]),pL b fun x hx=>h x (by simp[bn,hx])]
 | .rc a,h=>by simp only[jM];rw[pL a fun x hx=>h x hx]
 | .zero,_=>rfl
 | .one,_=>rfl
 | .bound k,_=>rfl
theorem fM(x:Nm):∀(t:Ty) (i:Nat),(dy (.name x) t i).atoms=t.atoms
 | .bound k,i=>by simp only[dy];split<;>rfl
 | .plus a b,i=>by simp only[dy,Ty.atoms,fM x a i,fM x b i]
 | .times a b,i=>by simp only[dy,Ty.atoms,fM x a i,fM x b i]
 | .rc a,i=>by simp only[dy,Ty.atoms,fM x a (i+1)]
 | .zero,i=>rfl
 | .one,i=>rfl
 | .name s,i=>rfl
theorem en(t:Ty):1<=t.atoms:=by cases t<;>simp only[Ty.atoms]<;>omega
theorem gZ(x:Nm)(u:Ty):∀t:Ty,t.atoms<=(sub x u t).atoms
 | .name s=>by simp only[sub];split<;>simp only[Ty.atoms];exact en u;omega
 | .plus a b=>by have:=gZ x u a;have:=gZ x u b;simp only[sub,Ty.atoms];omega
 | .times a b=>by have:=gZ x u a;have:=gZ x u b;simp only[sub,Ty.atoms];omega
 | .rc a=>by have:=gZ x u a;simp only[sub,Ty.atoms];omega
 | .zero=>au _
 | .one=>au _
 | .bound k=>au _
theorem gA{x y:Nm}:∀(t:Ty) (i:Nat),bn y (dy (.name x) t i)=true->y=x\/bn y t=true
 |
  .bound k,i,h=>by
  simp only[dy]at h
  split at h
  ·left;simp only[bn,decide_eq_true_eq]at h;exact h.symm
  ·cases h
 |
  .plus a b,i,h=>by
  simp only[dy,bn,bC]at h |-
  rcases h with h|h
  ·rcases gA a i h with h|h<;>simp[h]
  ·rcases gA b i h with h|h<;>simp[h]
 |
  .times a b,i,h=>by
  simp only[dy,bn,bC]at h |-
  rcases h with h|h
  ·rcases gA a i h with h|h<;>simp[h]
  ·rcases gA b i h with h|h<;>simp[h]
 | .rc a,i,h=>gA a (i+1) h
 | .zero,i,h=>by cases h
 | .one,i,h=>by cases h
 | .name s,i,h=>.inr h
theorem jm{x y:Nm}{u:Ty}:∀t:Ty,bn y (sub x u t)=true->bn y u=true\/(y≠x/\bn y t=true)
 |
  .name s,h=>by
  simp only[sub]at h
  split at h
  ·exact .inl h
  ·rename_i hs
   simp only[bn,decide_eq_true_eq]at h
   subst h
   exact .inr ⟨hs,by simp[bn]⟩
 |
  .plus a b,h=>by
  simp only[sub,bn,bC]at h |-
  rcases h with h|h
  ·rcases jm a h with h|h<;>simp[h]
  ·rcases jm b h with h|h<;>simp[h]
 |
  .times a b,h=>by
  simp only[sub,bn,bC]at h |-
  rcases h with h|h
  ·rcases jm a h with h|h<;>simp[h]
  ·rcases jm b h with h|h<;>simp[h]
 |
  .rc a,h=>by
  simp only[sub,bn]at h |-
  exact jm a h
 | .zero,h=>by cases h
 | .one,h=>by cases h
 | .bound k,h=>by cases h
def swp(x y:Nm):Nm->Nm:=fun s=>if s=x then y else if s=y then x else s
theorem yB(x y:Nm):KG (swp x y):=by
 intro a b h
 unfold swp at h
 by_cases h1:a=x<;>by_cases h2:a=y<;>by_cases h3:b=x<;>by_cases h4:b=y<;>simp_all
theorem vD(x y:Nm):swp x y x=y:=by simp[swp]
theorem Cv{x y s:Nm}(h:s≠x)(h':s≠y):swp x y s=s:=by simp[swp,h,h']
theorem tY{x y:Nm}{t:Ty}(h:bn x t=false)(h':bn y t=false):jM (swp x y) t=t :=
 pL t fun z hz=>Cv (fun e=>by subst e;rw[h]at hz;cases hz) (fun e=>by subst e;rw[h']at hz;cases hz)
def pX(a:Ty)(x:Nm)(c d:Ty):Ty:=.rc (.plus (sub x (.rc a) c) (.times (sub x (.rc a) d) (.bound 0)))
inductive Dv:Ty->Nm->Ty->Prop
 |zero (s):Dv .zero s .zero
 |one (s):Dv .one s .zero
 |bound (k s):Dv (.bound k) s .zero
 |hit (s):Dv (.name s) s .one
 |qv {n s} (h:n≠s):Dv (.name n) s .zero
 |plus {a b s a' b'} (h1:Dv a s a') (h2:Dv b s b') (hl:(Ty.plus a' b').atoms<=400):Dv (.plus a b) s (.plus a' b')
 |times {a b s a' b'} (h1:Dv a s a') (h2:Dv b s b') (hl:(Ty.plus (.times a' b) (.times a b')).atoms<=400):Dv (.times a b) s (.plus (.times a' b) (.times a b'))
 |rc {a s c d} (x:Nm) (hx:bn x a=false) (hs:x≠s) (h1:Dv (dy (.name x) a 0) s c) (h2:Dv (dy (.name x) a 0) x d) (hl:(pX a x c d).atoms<=400):Dv (.rc a) s (pX a x c d)
theorem yT{f:Nm->Nm}(hf:KG f)(a:Ty)(x:Nm)(c d:Ty):jM f (pX a x c d)=pX (jM f a) (f x) (jM f c) (jM f d):=by
 simp only[pX,jM,lZ hf]
theorem Dv.jM{f:Nm->Nm}(hf:KG f){t d:Ty}{s:Nm}(h:Dv t s d):Dv (jM f t) (f s) (jM f d):=by
 induction h with
 |zero s=>exact .zero _
 |one s=>exact .one _
 |bound k s=>exact .bound _ _
 |hit s=>exact .hit _
 |qv h=>exact .qv fun e=>h (hf _ _ e)
 |plus h1 h2 hl i1 i2=>exact .plus i1 i2 (by rw[<-gU f]at hl;exact hl)
 |times h1 h2 hl i1 i2=>exact .times i1 i2 (by rw[<-gU f]at hl;exact hl)
 |
  rc x hx hs h1 h2 hl i1 i2 =>
  rw[yT hf]
  rw[l4]at i1 i2
  exact .rc (f x) (by rw[ns hf];exact hx) (fun e=>hs (hf _ _ e)) i1 i2 (by rw[<-yT hf,gU];exact hl)
theorem Dv.names{t d:Ty}{s:Nm}(h:Dv t s d):∀y,bn y d=true->bn y t=true:=by
 induction h with
 |zero s=>intro y hy;cases hy
 |one s=>intro y hy;cases hy
 |bound k s=>intro y hy;cases hy
 |hit s=>intro y hy;cases hy
 |qv h=>intro y hy;cases hy
 |
  plus h1 h2 hl i1 i2 =>
  intro y hy
  simp only[bn,bC]at hy |-
  rcases hy with hy|hy
  ·exact .inl (i1 y hy)
  ·exact .inr (i2 y hy)
 |
  times h1 h2 hl i1 i2 =>
  intro y hy
  simp only[bn,bC]at hy |-
  rcases hy with(hy|hy)|(hy|hy)
  ·exact .inl (i1 y hy)
  ·exact .inr hy
  ·exact .inl hy
  ·exact .inr (i2 y hy)
 |
  rc x hx hs h1 h2 hl i1 i2 =>
  intro y hy
  simp only[pX,bn,bC,Bool.or_false]at hy |-
  have key:∀{a c:Ty},(∀y,bn y c=true->bn y (dy (.name x) a 0)=true)->bn y (sub x (.rc a) c)=true->bn y a=true:=fun i h=>by
   rcases jm _ h with h|⟨h,h'⟩
   ·exact h
   ·rcases gA _ _ (i y h')with e|e
    ·exact absurd e h
    ·exact e
  rcases hy with hy|hy
  ·exact key i1 hy
  ·exact key i2 hy
theorem Dv.fresh{t d:Ty}{s y:Nm}(h:Dv t s d)(hy:bn y t=false):bn y d=false:=by
 cases e:bn y d with
 |false=>rfl
 |true=>rw[h.names y e]at hy;cases hy
theorem Dv.move{a c:Ty}{x y s:Nm}(hx:bn x a=false)(hy:bn y a=false)(h:Dv (dy (.name x) a 0) s c):Dv (dy (.name y) a 0) (swp x y s) (Go.Proofs.Trees.jM (swp x y) c):=by
 have:=h.jM (yB x y)
 rw[l4,vD,tY hx hy]at this
 exact this
theorem mO{a c:Ty}{x y s:Nm}(hx:bn x a=false)(hy:bn y a=false)(h:Dv (dy (.name x) a 0) s c):sub y (.rc a) (jM (swp x y) c)=sub x (.rc a) c:=by
 have e:=lZ (yB x y) x (.rc a) c
 rw[vD,tY (t:=.rc a) hx hy]at e
 rw[<-e]
 have key:∀z,(z=x\/z=y)->bn z (sub x (.rc a) c)=false:=fun z hz=>by
  cases q:bn z (sub x (.rc a) c)with
  |false=>rfl
  |
   true =>
   exfalso
   have hz':bn z a=false:=by rcases hz with rfl|rfl<;>assumption
   rcases jm _ q with h1|⟨h1,h2⟩
   ·rw[show bn z (.rc a)=bn z a from rfl,hz']at h1;cases h1
   ·rcases gA _ _ (h.names z h2)with e|e
    ·exact h1 e
    ·rw[hz']at e;cases e
 exact tY (key x (.inl rfl)) (key y (.inr rfl))
theorem Dv.uniq:∀(n:Nat) (t:Ty),t.atoms<=n->∀{s:Nm} {d d':Ty},Dv t s d->Dv t s d'->d=d'
 |0,t,h,_,_,_,_,_=>by have:=en t;omega
 |
  n+1,t,hn,s,d,d',h,h'=>by
  cases h with
  |zero=>cases h';rfl
  |one=>cases h';rfl
  |bound=>cases h';rfl
  |
   hit =>
   cases h' with
   |hit=>rfl
   |qv h=>exact absurd rfl h
  |
   qv h =>
   cases h' with
   |hit=>exact absurd rfl h
   |qv _=>rfl
  |
   plus h1 h2 =>
   simp only[Ty.atoms]at hn
   cases h' with
   |plus g1 g2=>rw[Dv.uniq n _ (by omega) h1 g1,Dv.uniq n _ (by omega) h2 g2]
  |
   times h1 h2 =>
   simp only[Ty.atoms]at hn
   cases h' with
   |times g1 g2=>rw[Dv.uniq n _ (by omega) h1 g1,Dv.uniq n _ (by omega) h2 g2]
  |
   rc x hx hs h1 h2 =>
   simp only[Ty.atoms]at hn
   cases h' with
   |
    rc y hy hs' g1 g2 =>
    rename_i a _ _ _ _ _ _
    have m1:=h1.move hx hy
    have m2:=h2.move hx hy
    rw[Cv (Ne.symm hs) (Ne.symm hs')]at m1
    rw[vD]at m2
    have e1:=Dv.uniq n _ (by rw[fM];omega) m1 g1
    have e2:=Dv.uniq n _ (by rw[fM];omega) m2 g2
    rw[pX,pX,<-e1,<-e2,mO hx hy h1,mO hx hy h2]
theorem Dv.small{t d:Ty}{s:Nm}(h:Dv t s d):d.atoms<=400:=by
 cases h<;>first|assumption|simp[Ty.atoms]
open Classical in
noncomputable def lY (t:Ty) (s:Nm):Option Ty:=if h:∃d,Dv t s d then some (Classical.choose h)else none
theorem cQ{t:Ty}{s:Nm}{d:Ty}:lY t s=some d↔Dv t s d:=by
 unfold lY
 by_cases h:∃d,Dv t s d
 ·rw[dif_pos h]
  have:=Classical.choose_spec h
  constructor
  ·intro e;cases e;exact this
  ·intro g;rw[Dv.uniq _ t (au _) this g]
 ·rw[dif_neg h]
  exact⟨fun e=>(by cases e),fun g=>absurd ⟨d,g⟩ h⟩
def nE(t:Ty):Option Ty:=if t.atoms<=400 then some t else none
theorem eU{t d:Ty}:nE t=some d↔t.atoms<=400/\t=d:=by
 unfold nE
 split
 ·rename_i h;simp[h]
 ·rename_i h;simp[h]
theorem qI{α:Type}{a b:Option α}(h:∀d,a=some d↔b=some d):a=b:=by
 cases a with
 |
  none=>cases b with
  |none=>rfl
  |some x=>have:=(h x).2 rfl;cases this
 |some x=>exact((h x).1 rfl).symm
theorem vZ(s:Nm):lY .zero s=some .zero:=cQ.2 (.zero _)
theorem yg(s:Nm):lY .one s=some .zero:=cQ.2 (.one _)
theorem zS(k:Nat)(s:Nm):lY (.bound k) s=some .zero:=cQ.2 (.bound _ _)
theorem oi(n s:Nm):lY (.name n) s=some (if n=s then .one else .zero):=by
 split
 ·rename_i h;subst h;exact cQ.2 (.hit _)
 ·rename_i h;exact cQ.2 (.qv h)
theorem vg(a b:Ty)(s:Nm):lY (.plus a b) s=(lY a s).bind fun a'=>(lY b s).bind fun b'=>nE (.plus a' b'):=by
 refine qI fun d=>?_
 rw[cQ]
 simp only[bh,cQ,eU]
 constructor
 ·intro h;cases h with|plus h1 h2 hl=>exact⟨_,h1,_,h2,hl,rfl⟩
 ·rintro⟨a',h1,b',h2,hl,rfl⟩;exact .plus h1 h2 hl
theorem sO(a b:Ty)(s:Nm):lY (.times a b) s=(lY a s).bind fun a'=>(lY b s).bind fun b'=>nE (.plus (.times a' b) (.times a b')):=by
 refine qI fun d=>?_
 rw[cQ]
 simp only[bh,cQ,eU]
 constructor
 ·intro h;cases h with|times h1 h2 hl=>exact⟨_,h1,_,h2,hl,rfl⟩
 ·rintro⟨a',h1,b',h2,hl,rfl⟩;exact .times h1 h2 hl
theorem AI{a:Ty}{s x:Nm}(hx:bn x a=false)(hs:x≠s):lY (.rc a) s=(lY (dy (.name x) a 0) s).bind fun c=>(lY (dy (.name x) a 0) x).bind fun d=>nE (pX a x c d):=by
 refine qI fun d=>?_
 rw[cQ]
 simp only[bh,cQ,eU]
 constructor
 ·intro h
  cases h with
  |
   rc y hy hs' h1 h2 hl =>
   have m1:=h1.move hy hx
   have m2:=h2.move hy hx
   rw[Cv (Ne.symm hs') (Ne.symm hs)]at m1
   rw[vD]at m2
   refine⟨_,m1,_,m2,?_⟩
   have e:∀c d,sub x (.rc a) (jM (swp y x) c)=sub y (.rc a) c->sub x (.rc a) (jM (swp y x) d)=sub y (.rc a) d->pX a x (jM (swp y x) c) (jM (swp y x) d)=pX a y c d:=fun c d e1 e2=>by rw[pX,pX,e1,e2]
   rw[e _ _ (mO hy hx h1) (mO hy hx h2)]
   exact⟨hl,rfl⟩
 ·rintro⟨c,h1,d',h2,hl,rfl⟩;exact .rc x hx hs h1 h2 hl
noncomputable def n9 (a:Ty) (x:Nm):Option Ty:=(lY (dy (.name x) a 0) x).bind fun d=>nE (sub x (.rc a) d)
theorem H0{a:Ty}{x y:Nm}(hx:bn x a=false)(hy:bn y a=false):n9 a x=n9 a y:=by
 have key:∀{x y:Nm} {d:Ty},bn x a=false->bn y a=false->n9 a x=some d->n9 a y=some d:=fun {x y d} hx hy h=>by
  simp only[n9,bh,cQ,eU]at h |-
  obtain⟨d',h1,hl,rfl⟩:=h
  have m1:=h1.move hx hy
  rw[vD]at m1
  exact⟨_,m1,by rw[mO hx hy h1];exact⟨hl,rfl⟩⟩
 exact qI fun d=>⟨key hx hy,key hy hx⟩
end Go.Proofs.Trees
namespace Go.Proofs.Trees
open Go Go.VL
theorem QV(b:UInt8):an Tryz.prog 161 [.v (.int .u8 (b.toNat:Int))] [] (bK (.v (.bool (ff b)))):=by
 refine PJ _ ?_
 simp only[KU,↓zq,zs,ae,bK,ff]
 repeat' (apply aH<;>intro _)
 all_goals first|(congr 2;rw[cx];simp;omega)|(congr 2;simp;omega)
def DQ(s:List UInt8)(x:Option (E×List UInt8)):AV->List Ob->Prop:=fun r o=>o=[] /\
 match x with
 |some (e,u)=>r=.cH [e.kF,.v (.int .i64 ((s.length-u.length:Nat):Int))]
 |none=>∃(c:List UInt8) (d:AV),LK.sl.has d/\r=.cH [.agg [.v (.string (mk c)),d],.v (.int .i64 (-1))]
theorem DQ.ne(s:List UInt8)(x:Option (E×List UInt8)):∃r o,DQ s x r o:=by
 cases x with
 |some q=>exact⟨_,_,rfl,rfl⟩
 |none=>exact⟨_,_,rfl,[],.v (.slice none 0 0),(bf).mpr trivial,rfl⟩
def jc(c:List UInt8)(d:AV):Ob:=.cells [.v (.string (mk c)),d]
theorem JU(s:List UInt8)(hs:s.length<=8000)(from_:Int)(c1 c2:List UInt8)(d1 d2:AV)(h1:LK.sl.has d1)(h2:LK.sl.has d2):∀(k i:Nat),i+k=s.length->GY [.v (.string (mk s)),.v (.int .i64 (i:Int)),.v (.int .i64 from_)] [jc c1 d1,jc c2 d2]
 (gI 1 [.v (.string (mk s)),.v (.int .i64 ((i+((s.drop i).takeWhile ff).length:Nat):Int)),.v (.int .i64 from_)] [jc c1 d1,jc c2 d2])
 |
  0,i,hi=>by
  refine JT _ _ _ _ _ _ _ ?_
  have hd:s.drop i=[]:=bV (by omega)
  simp only[II,↓zq,zs,ae,zt]
  exact⟨h1,h2,fun h=>by omega,fun _=>by simp[gI,hd,jc]⟩
 |
  k+1,i,hi=>by
  have hlt:i<s.length:=by omega
  refine JT _ _ _ _ _ _ _ ?_
  simp only[II,↓zq,zs,ae,zt,mf s i hlt]
  refine⟨h1,h2,fun _=>⟨by omega,?_⟩,fun h=>by omega⟩
  refine aj (QV _) ?_
  simp only[↓zq,zs,ae]
  refine⟨fun hb=>?_,fun hb=>?_⟩
  ·rw[bz i (by omega)]
   have:=JU s hs from_ c1 c2 d1 d2 h1 h2 k (i+1) (by omega)
   rw[xZ hlt hb,show i+(((s.drop (i+1)).takeWhile ff).length+1)=i+1+((s.drop (i+1)).takeWhile ff).length by omega]
   exact this
  ·simp[gI,qP hlt hb,jc]
def Tj(s:List UInt8)(x:Option (E×List UInt8)):Nat->List AV->List Ob->Prop:=fun t ys o=>t=2 /\
 match x with
 |some (e,u)=>∃l,e=.list l/\ys=[.v (.int .i64 ((s.length-u.length:Nat):Int))]/\o=[jc [] .any,.vec 2 (E.bu l)]
 |none=>∃es,ys=[.v (.int .i64 (-1))]/\o=[jc [] .any,.vec 2 es]
theorem xX(e:E):(e.kF=.agg e.kF.cs/\e.kF.cs.length=2/\bI [.str,.sl] e.kF.cs 0)=True:=by
 apply eq_true
 cases e<;>simp[E.kF,E.iv,Bz,bI,dV,bf,cf]
theorem xg(e:E):[AV.v (.string ((e.kF.cs.getD 0 .any).toStr)),e.kF.cs.getD 1 .any]=e.iv:=by
 cases e<;>rfl
theorem drop_cons{s:List UInt8}{j:Nat}(hj:j<s.length):s.drop j=s.getD j 0::s.drop (j+1):=by
 rw[aS hj];simp[aa,hj]
theorem Mq(s:List UInt8)(hs:s.length<=8000)(d:Nat)(hd:d<=300)(f:List UInt8->Option (E×List UInt8))(hf:∀u e r,f u=some (e,r)->∃j,r=u.drop j/\0<j/\j<=u.length)
 (ih:∀j,j<=s.length->an Tryz.prog 142 [.v (.string (mk s)),.v (.int .i64 (j:Int)),.v (.int .i64 ((d+1:Nat):Int))] [] (DQ s (f (s.drop j)))) :
 ∀(n i:Nat) (acc:List E) (c1:List UInt8) (d1:AV),LK.sl.has d1->s.length-(i+1)<n->i<s.length->s.length-i+acc.length<=8001->Ib [.v (.string (mk s)),.v (.int .i64 (i:Int)),.v (.int .i64 (d:Int))] [jc c1 d1,jc [] .any,.vec 2 (E.bu acc)]
  (Tj s (sw f n (s.drop (i+1)) acc))
 |0,i,acc,c1,d1,h1,hn,_,_=>by omega
 |
  n+1,i,acc,c1,d1,h1,hn,hi,hl=>by
  refine Rn _ _ _ _ _ _ _ ?_
  simp only[Kb,↓zq,zs,ae,jc]
  refine⟨h1,?_⟩
  rw[bz i (by omega),bz d (by omega)]
  refine aP (ih (i+1) (by omega)) (DQ.ne _ _) ?_
  rintro r o ⟨rfl,hr⟩
  have hff:=hf (s.drop (i+1))
  unfold sw
  cases hq:f (s.drop (i+1))with
  |
   none =>
   rw[hq]at hr
   obtain⟨c,d',hd',rfl⟩:=hr
   simp only[↓zq,zs,ae,zt,bI]
   refine⟨hd',fun _=>⟨rfl,_,rfl,rfl⟩,fun h=>by omega⟩
  |
   some q =>
   obtain⟨e,u⟩:=q
   rw[hq]at hr
   subst hr
   obtain⟨j,hu,hj0,hj⟩:=hff e u hq
   rw[List.drop_drop]at hu
   simp only[cw]at hj
   have hul:u.length=s.length-(i+1+j):=by rw[hu,cw]
   have hpos:s.length-u.length=i+1+j:=by omega
   simp only[↓zq,zs,ae,zt,xX,hpos,xg,dY]
   refine⟨fun h=>by omega,fun _=>⟨fun h=>?_,fun h=>⟨⟨fun c hc=>(by simp at hc;rw[hc];cases e<;>rfl),by omega⟩,?_⟩⟩⟩
   ·have:u=[]:=by rw[hu];exact bV (by omega)
    subst this
    exact⟨rfl,_,rfl,rfl⟩
   ·have hlt:i+1+j<s.length:=by omega
    rw[drop_cons hlt]at hu
    subst hu
    rw[mf s _ hlt]
    generalize hb:s.getD (i+1+j) 0=b
    refine⟨by omega,fun h41=>?_,fun h41=>⟨by omega,fun h32=>?_,fun h32=>?_⟩⟩
    ·have h41':b.toNat=41:=by omega
     dsimp only
     rw[if_pos h41',bz _ (by omega)]
     refine⟨rfl,acc++[e],rfl,?_,?_⟩
     ·rw[cw];congr 3;omega
     ·simp[jc,qg,E.bu]
    ·have h41':¬b.toNat=41:=by omega
     have h32':¬b.toNat=32:=by omega
     dsimp only
     rw[if_neg h41',if_neg h32']
     exact⟨rfl,_,rfl,rfl⟩
    ·have h41':¬b.toNat=41:=by omega
     have h32':b.toNat=32:=by omega
     dsimp only
     rw[if_neg h41',if_pos h32']
     have:=Mq s hs d hd f hf ih n (i+1+j) (acc++[e]) c1 d1 h1 (by omega) hlt (by simp;omega)
     simpa[jc,qg,E.bu]using this
theorem Dy(k:Nat)(u:List UInt8)(e:E)(r:List UInt8)(h:rd k u=some (e,r)):∃j,r=u.drop j/\0<j/\j<=u.length:=by
 have suf:∀(k:Nat) (u:List UInt8) (e:E) (r:List UInt8),rd k u=some (e,r)->r <:+ u:=by
  intro k
  have tw:∀u:List UInt8,u.dropWhile ff <:+ u:=fun u=>List.dropWhile_suffix _
  have ll:∀(f:List UInt8->Option (E×List UInt8)),(∀u e r,f u=some (e,r)->r <:+ u)->∀(n:Nat) (u:List UInt8) (acc:List E) (e:E) (r:List UInt8),sw f n u acc=some (e,r)->r <:+ u:=by
   intro f hf n
   induction n with
   |zero=>intro u acc e r h;cases h
   |
    succ n ih =>
    intro u acc e r h
    simp only[sw]at h
    split at h
    ·rename_i p c r' hs
     have h1:r' <:+ u:=(List.suffix_cons c r').trans (hf _ _ _ hs)
     split at h
     ·cases h;exact h1
     ·split at h
      ·exact(ih _ _ _ _ h).trans h1
      ·cases h
    ·cases h
  induction k with
  |
   zero =>
   intro u e r h
   simp only[rd]at h
   split at h
   ·cases h
   ·cases h;exact tw u
  |
   succ k ih =>
   intro u e r h
   simp only[rd]at h
   split at h
   ·split at h
    ·split at h
     ·exact(ll _ ih _ _ _ _ _ h).trans (List.suffix_cons _ _)
     ·cases h
    ·cases h
   ·cases h;exact tw u
 obtain⟨p,hp⟩:=suf k u e r h
 have hlt:=yI k u e r h
 have:=congrArg List.length hp
 simp only[aq]at this
 exact⟨p.length,by rw[<-hp];simp,by omega,by omega⟩
theorem Cs(n:Nat)(u:List UInt8)(acc:List E):sw (fun _=>none) n u acc=none:=by
 cases n<;>rfl
theorem PA(s:List UInt8)(j:Nat):an Tryz.prog 142 [.v (.string (mk s)),.v (.int .i64 (j:Int)),.v (.int .i64 ((300+1:Nat):Int))] [] (DQ s none):=by
 refine N2 _ _ _ ?_
 simp only[IL,↓zq,zs,ae]
 exact⟨fun _=>⟨rfl,[],_,(bf).mpr trivial,rfl⟩,fun h=>by omega⟩
theorem qc(s:List UInt8)(hs:s.length<=8000)(d i:Nat)(hd:d<=300)(hi:i<=s.length)(f:List UInt8->Option (E×List UInt8))(hf:∀u e r,f u=some (e,r)->∃j,r=u.drop j/\0<j/\j<=u.length)
 (ih:∀j,j<=s.length->an Tryz.prog 142 [.v (.string (mk s)),.v (.int .i64 (j:Int)),.v (.int .i64 ((d+1:Nat):Int))] [] (DQ s (f (s.drop j)))) (x:Option (E×List UInt8))
 (h0:i=s.length->x=none)
 (h1:i<s.length->(s.drop i).takeWhile ff≠[]->x=some (.atom ((s.drop i).takeWhile ff),(s.drop i).dropWhile ff))
 (h2:i<s.length->(s.drop i).takeWhile ff=[]->¬(s.getD i 0).toNat=40->x=none)
 (h3:i<s.length->(s.getD i 0).toNat=40->x=sw f (s.length-(i+1)+1) (s.drop (i+1)) []) :
 an Tryz.prog 142 [.v (.string (mk s)),.v (.int .i64 (i:Int)),.v (.int .i64 (d:Int))] [] (DQ s x):=by
 refine N2 _ _ _ ?_
 simp only[IL,↓zq,zs,ae,zt]
 refine⟨fun h=>by omega,fun _=>⟨fun h=>?_,fun h=>⟨by omega,?_⟩⟩⟩
 ·rw[h0 (by omega)]
  exact⟨rfl,[],_,(bf).mpr trivial,rfl⟩
 ·have hlt:i<s.length:=by omega
  rw[mf s i hlt]
  refine⟨fun h40=>?_,fun h40=>?_⟩
  ·have h40':¬(s.getD i 0).toNat=40:=by omega
   refine cz (JU s hs _ [] [] _ _ ((bf).mpr trivial) ((bf).mpr trivial) (s.length-i) i (by omega)) ?_
   have hex:(List.take (i+((s.drop i).takeWhile ff).length) s).drop i=(s.drop i).takeWhile ff:=by
    rw[List.drop_take,Nat.add_sub_cancel_left];exact uv _
   have hle:i+((s.drop i).takeWhile ff).length<=s.length:=by
    have:=uN (s.drop i);simp only[cw]at this;omega
   simp only[jc,↓zq,zs,ae,zt,hex]
   refine⟨by omega,fun hnil=>?_,fun hnil=>?_⟩
   ·rw[h2 hlt hnil h40',hnil]
    exact⟨rfl,[],_,(bf).mpr trivial,rfl⟩
   ·rw[h1 hlt hnil]
    refine⟨rfl,?_⟩
    have:=uN (s.drop i)
    simp only[cw]at this
    show _=AV.cH [E.kF (.atom _),_]
    have e:s.length-((s.drop i).dropWhile ff).length=i+((s.drop i).takeWhile ff).length:=by omega
    rw[e];rfl
  ·have h40':(s.getD i 0).toNat=40:=by omega
   rw[h3 hlt h40']
   refine lz (Mq s hs d hd f hf ih (s.length-(i+1)+1) i [] [] _ ((bf).mpr trivial) (by omega) hlt (by simp;omega)) ?_ ?_
   ·rintro ys o ⟨h,_⟩;cases h
   ·rintro ys o ⟨_,hr⟩
    cases hq:sw f (s.length-(i+1)+1) (s.drop (i+1)) []with
    |
     none =>
     rw[hq]at hr
     obtain⟨es,rfl,rfl⟩:=hr
     simp only[jc,↓zq,zs,ae]
     exact⟨rfl,[],_,(cf _).mpr trivial,rfl⟩
    |
     some q =>
     obtain⟨e,u⟩:=q
     rw[hq]at hr
     obtain⟨l,rfl,rfl,rfl⟩:=hr
     simp only[jc,↓zq,zs,ae]
     exact⟨rfl,rfl⟩
theorem PF(s:List UInt8)(hs:s.length<=8000):∀(k:Nat),k<=300->∀i,i<=s.length->an Tryz.prog 142 [.v (.string (mk s)),.v (.int .i64 (i:Int)),.v (.int .i64 ((300-k:Nat):Int))] [] (DQ s (rd k (s.drop i))):=by
 intro k
 have hnil:∀k,rd k []=none:=fun k=>by cases k<;>simp[rd]
 have ha40:∀b:UInt8,b.toNat=40->ff b=false:=fun b hb=>by simp[ff,hb]
 induction k with
 |
  zero =>
  intro hk i hi
  refine qc s hs 300 i (by omega) hi (fun _=>none) (fun _ _ _ h=>by cases h) (fun j _=>PA s j) _ (fun h=>?_) (fun hlt h=>?_) (fun hlt h h40=>?_) (fun hlt h40=>?_)
  ·rw[bV (by omega)];exact hnil 0
  ·simp only[rd,if_neg h]
  ·simp only[rd,if_pos h]
  ·rw[Cs]
   have:(s.drop i).takeWhile ff=[]:=qP hlt (ha40 _ h40)
   simp only[rd,if_pos this]
 |
  succ k ih =>
  intro hk i hi
  have hd:300-(k+1)+1=300-k:=by omega
  refine qc s hs (300-(k+1)) i (by omega) hi (rd k) (Dy k) (fun j hj=>by rw[hd];exact ih (by omega) j hj) _ (fun h=>?_) (fun hlt h=>?_) (fun hlt h h40=>?_) (fun hlt h40=>?_)
  ·rw[bV (by omega)];exact hnil _
  ·simp only[rd,if_neg h]
  ·rw[drop_cons hlt]at h |-
   simp only[rd,if_pos h,if_neg h40]
  ·have h:=qP hlt (ha40 _ h40)
   rw[drop_cons hlt]at h |-
   simp only[rd,if_pos h,if_pos h40,cw]
end Go.Proofs.Trees
namespace Go.Proofs.Trees
open Go Go.VL
theorem iV(e:E):AV.agg [.v (.string ((e.iv.getD 0 .any).toStr)),e.iv.getD 1 .any]=e.kF:=by cases e<;>rfl
theorem gl(e:E):e.iv.length=2:=by cases e<;>rfl
theorem iS(e:E):bI [.str,.sl] e.iv 0=True:=by
 apply eq_true
 cases e<;>simp[E.iv,bI,dV,bf,cf]
theorem mT(e:E):e.iv.headD .any=.v (.string (mk e.at)):=by cases e<;>rfl
theorem u9(x:E)(l:List E):an Tryz.prog 86 [.agg [.v (.string (mk [])),.sl (E.bu (x::l))]] [] (bK (.v (.string (mk x.at)))):=by
 refine Gk _ _ ((cf _).mpr trivial) ?_
 simp only[EB,E.bu,↓zq,zs,ae,zt,bK,gl,mT,au]
 refine⟨fun h=>absurd rfl h,fun _=>⟨fun h=>by omega,fun _=>⟨by omega,by omega⟩⟩⟩
theorem Sm:an Tryz.prog 86 [.agg [.v (.string (mk [])),.sl (E.bu [])]] [] (bK (.v (.string (mk [])))):=by
 refine Gk _ _ ((cf _).mpr trivial) ?_
 simp only[EB,E.bu,↓zq,zs,ae,zt,bK,gl,mT,au]
 simp
def jW:E->Bool
 | .atom s=>(s==[48])||(s==[49])||hJ s||dk s
 | .list [x,a,b]=>if x.at=[43]then jW a&&jW b else if x.at=[42]then jW a&&jW b else if x.at=[114,101,99]then dk a.at&&jW b else false
 | .list _=>false
theorem Am:∀(e:E),e.ok->an Tryz.prog 117 [e.kF] [] (bK (.v (.bool (jW e))))
 |
  .atom s,hok=>by
  refine Lb _ _ ((bf).mpr trivial) ?_
  have hne:s≠[]:=hok
  simp only[xb,↓zq,zs,ae,zt,bK,jW]
  refine⟨fun _=>⟨fun h=>?_,fun h=>⟨fun h1=>?_,fun h1=>?_⟩⟩,fun h=>absurd h hne⟩
  ·simp[h]
  ·simp[h1]
  ·refine aj (HQ s) ?_
   simp only[↓zq,zs,ae]
   refine⟨fun hp=>?_,fun hp=>?_⟩
   ·simp[hp]
   ·refine aj (Gt s) ?_
    simp[↓zq,zs,ae,hp,h,h1]
 |
  .list l,hok=>by
  refine Lb _ _ ((cf _).mpr trivial) ?_
  match l,hok with
  |[],hok=>simp[xb,E.bu,↓zq,zs,ae,zt,bK,jW]
  |[x],hok=>simp[xb,E.bu,↓zq,zs,ae,zt,bK,jW]
  |[x,y],hok=>simp[xb,E.bu,↓zq,zs,ae,zt,bK,jW]
  |
   x::y::z::w::l,hok =>
   simp only[xb,E.bu,↓zq,zs,ae,zt,bK,jW]
   exact⟨fun h=>absurd rfl h,fun _=>⟨fun _=>trivial,fun h=>by omega⟩⟩
  |
   [x,y,z],hok =>
   obtain⟨ok1,ok2,ok3,_⟩:=hok
   simp only[xb,↓zq,zs,ae,zt,bK]
   refine⟨fun h=>absurd rfl h,fun _=>⟨fun h=>absurd rfl h,fun _=>?_⟩⟩
   refine aj (u9 x _) ?_
   simp only[E.bu,toNat_one,bg,↓zq,zs,ae,zt,iV,gl,iS,mT,au,jW]
   refine⟨fun h=>?_,fun h=>⟨fun h1=>?_,fun h1=>⟨fun h2=>?_,fun h2=>?_⟩⟩⟩
   ·rw[if_pos h]
    refine⟨by omega,aj (Am y ok2) ?_⟩
    simp only[↓zq,zs,ae]
    refine⟨fun hy=>⟨by omega,aj (Am z ok3) ?_⟩,fun hy=>?_⟩
    ·simp only[↓zq,zs,ae,hy,bX]
    ·rw[hy];rfl
   ·rw[if_neg h,if_pos h1]
    refine⟨by omega,aj (Am y ok2) ?_⟩
    simp only[↓zq,zs,ae]
    refine⟨fun hy=>⟨by omega,aj (Am z ok3) ?_⟩,fun hy=>?_⟩
    ·simp only[↓zq,zs,ae,hy,bX]
    ·rw[hy];rfl
   ·rw[if_neg h,if_neg h1,if_pos h2]
    refine⟨by omega,by omega,aj (Gt _) ?_⟩
    simp only[↓zq,zs,ae]
    refine⟨fun hy=>⟨by omega,aj (Am z ok3) ?_⟩,fun hy=>?_⟩
    ·simp only[↓zq,zs,ae,hy,bX]
    ·rw[hy];rfl
   ·rw[if_neg h,if_neg h1,if_neg h2]
theorem iQ:∀(e:E) (ar:List (List UInt8)),(cS e ar).isSome=jW e
 |
  .atom s,ar=>by
  simp only[cS,jW]
  by_cases h:s=[48]
  ·simp[h]
  ·by_cases h1:s=[49]
   ·simp[h1]
   ·rw[if_neg h,if_neg h1]
    by_cases h2:hJ s=true
    ·simp[h2]
    ·rw[if_neg h2]
     by_cases h3:dk s=true
     ·rw[if_pos h3];cases bR s ar ar.length<;>simp[h3]
     ·rw[if_neg h3];simp[h,h1,h2,h3]
 | .list [],_=>rfl
 | .list [_],_=>rfl
 | .list [_,_],_=>rfl
 | .list (_::_::_::_::_),_=>rfl
 |
  .list [x,a,b],ar=>by
  have ha:=iQ a ar
  have hb:=iQ b ar
  have hb2:=iQ b (ar++[a.at])
  rw[jW]
  by_cases h:x.at=[43]
  ·rw[k8 ar h,if_pos h,<-ha,<-hb];cases cS a ar<;>cases cS b ar<;>rfl
  ·by_cases h1:x.at=[42]
   ·rw[j1 ar h1,if_neg h,if_pos h1,<-ha,<-hb];cases cS a ar<;>cases cS b ar<;>rfl
   ·by_cases h2:x.at=[114,101,99]
    ·rw[mB ar h2,if_neg h,if_neg h1,if_pos h2,<-hb2]
     cases dk a.at<;>cases cS b (ar++[a.at])<;>rfl
    ·rw[jd ar h h1 h2,if_neg h,if_neg h1,if_neg h2];rfl
mutual
def E.db:E->Nat
 | .atom _=>1
 | .list l=>E.eW l
def E.eW:List E->Nat
 |[]=>0
 |e::l=>e.db+E.eW l
end
mutual
theorem ja:∀e:E,e.db<=e.sz
 | .atom s=>by simp[E.db,E.sz]
 | .list l=>by have:=uJ l;simp only[E.db,E.sz];omega
theorem uJ:∀l:List E,E.eW l<=E.jo l
 |[]=>by simp[E.eW,E.jo]
 |e::l=>by have:=ja e;have:=uJ l;simp only[E.eW,E.jo];omega
end
theorem jG:∀(l:List E) (i:Nat) (h:i<l.length),(E.bu l).getD i []=(l[i]).iv
 |e::l,0,_=>rfl
 |
  e::l,i+1,h=>by
  have:=jG l i (by simpa using h)
  simp only[E.bu,List.getD_cons_succ,List.getElem_cons_succ];exact this
theorem zz:∀(l:List E) (i:Nat) (h:i<l.length),E.eW (l.drop i)=(l[i]).db+E.eW (l.drop (i+1)):=by
 intro l i h
 rw[aS h];rfl
theorem uw:∀(l:List E) (i:Nat) (h:i<l.length),E.C8 l->(l[i]).ok
 |e::l,0,_,h=>h.1
 |e::l,i+1,hi,h=>uw l i (by simpa using hi) h.2
theorem Mu(l:List E)(hl:E.eW l<1000000)(hll:l.length<1000000)(ih:∀i (h:i<l.length),an Tryz.prog 88 [(l[i]).kF] [] (bK (.v (.int .i64 ((l[i]).db:Int))))) :
 ∀(k i n:Nat),i+k=l.length->n+E.eW (l.drop i)<=E.eW l->G2 [.v (.int .i64 (n:Int)),.v (.int .i64 (i:Int))] [.cells [.v (.string (mk [])),.sl (E.bu l)]] (gI 1 [.v (.int .i64 ((n+E.eW (l.drop i):Nat):Int))] [])
 |
  0,i,n,hi,hn=>by
  refine MC _ _ _ _ ?_
  simp only[Iu,↓zq,zs,ae,dY]
  have:l.drop i=[]:=bV (by omega)
  refine⟨fun h=>by omega,fun _=>?_⟩
  simp[gI,this,E.eW]
 |
  k+1,i,n,hi,hn=>by
  have hlt:i<l.length:=by omega
  refine MC _ _ _ _ ?_
  simp only[Iu,↓zq,zs,ae,zt,dY,jG l i hlt,gl,iS,iV,au]
  refine⟨fun _=>⟨by omega,?_⟩,fun h=>by omega⟩
  refine aj (ih i hlt) ?_
  have h1:=zz l i hlt
  simp only[↓zq,zs,ae]
  rw[bz i (by omega),wrap64 _ (by omega) (by omega)]
  have:=Mu l hl hll ih k (i+1) (n+(l[i]).db) (by omega) (by omega)
  rw[h1,<-Nat.add_assoc]
  simpa using this
theorem uG:∀l:List E,l.length<=E.jo l
 |[]=>by simp[E.jo]
 |
  e::l=>by
  have:=uG l
  have:1<=e.sz:=by cases e<;>simp[E.sz]
  simp only[E.jo,az];omega
theorem uh:∀(l:List E) (i:Nat) (h:i<l.length),(l[i]).sz<=E.jo l
 |e::l,0,_=>by simp[E.jo]
 |e::l,i+1,h=>by have:=uh l i (by simpa using h);simp only[E.jo,List.getElem_cons_succ];omega
theorem Ko:∀(n:Nat) (e:E),e.sz<n->e.ok->e.sz<1000000->an Tryz.prog 88 [e.kF] [] (bK (.v (.int .i64 (e.db:Int))))
 |0,e,hn,_,_=>by omega
 |
  n+1,.atom s,hn,hok,hl=>by
  refine NV _ _ ((bf).mpr trivial) ?_
  have hne:s≠[]:=hok
  simp only[FI,↓zq,zs,ae,zt,bK]
  exact⟨fun _=>rfl,fun h=>absurd h hne⟩
 |
  n+1,.list l,hn,hok,hl=>by
  refine NV _ _ ((cf _).mpr trivial) ?_
  simp only[E.sz]at hn hl
  have h1:=uJ l
  have h2:=uG l
  simp only[FI,↓zq,zs,ae,zt,bK]
  refine⟨fun h=>absurd rfl h,fun _=>?_⟩
  refine cz (Mu l (by omega) (by omega) (fun i hi=>?_) l.length 0 0 (by omega) (by simp)) ?_
  ·have:=uh l i hi
   exact Ko n (l[i]) (by omega) (uw l i hi hok) (by omega)
  ·simp[↓zq,zs,ae,E.db]
theorem Dz(e:E)(h:e.ok)(hl:e.sz<1000000):an Tryz.prog 88 [e.kF] [] (bK (.v (.int .i64 (e.db:Int)))):=Ko (e.sz+1) e (by omega) h hl
theorem uP{x:E}(h:x.at≠[]):x.db=1:=by cases x<;>simp[E.at,E.db]at h |-
theorem BQ{s:List UInt8}(h:dk s=true):s≠[]:=by rintro rfl;cases h
theorem jR:∀(e:E) (ar:List (List UInt8)) (t:Ty),cS e ar=some t->e.db=t.atoms
 |
  .atom s,ar,t,h=>by
  simp only[cS]at h
  simp only[E.db]
  split at h
  ·cases h;rfl
  ·split at h
   ·cases h;rfl
   ·split at h
    ·cases h;rfl
    ·split at h
     ·split at h<;>cases h<;>rfl
     ·cases h
 | .list [],_,_,h=>by cases h
 | .list [_],_,_,h=>by cases h
 | .list [_,_],_,_,h=>by cases h
 | .list (_::_::_::_::_),_,_,h=>by cases h
 |
  .list [x,a,b],ar,t,h=>by
  simp only[E.db,E.eW]
  by_cases h0:x.at=[43]
  ·rw[k8 ar h0]at h
   have:=uP (x:=x) (by rw[h0];simp)
   split at h
   ·rename_i t1 t2 e1 e2
    cases h
    have:=jR a ar _ e1
    have:=jR b ar _ e2
    simp only[Ty.atoms];omega
   ·cases h
  ·by_cases h1:x.at=[42]
   ·rw[j1 ar h1]at h
    have:=uP (x:=x) (by rw[h1];simp)
    split at h
    ·rename_i t1 t2 e1 e2
     cases h
     have:=jR a ar _ e1
     have:=jR b ar _ e2
     simp only[Ty.atoms];omega
    ·cases h
   ·by_cases h2:x.at=[114,101,99]
    ·rw[mB ar h2]at h
     have:=uP (x:=x) (by rw[h2];simp)
     split at h
     ·rename_i hl
      have:=uP (BQ hl)
      split at h
      ·rename_i t1 e1
       cases h
       have:=jR b _ _ e1
       simp only[Ty.atoms];omega
      ·cases h
     ·cases h
    ·rw[jd ar h0 h1 h2]at h;cases h
def jF(x:Option E)(b:Bool):AV->List Ob->Prop:=fun r o=>∃c:List UInt8,∃d:AV,LK.sl.has d/\r=.cH [.agg [.v (.string (mk c)),d],.v (.bool b)]/\(b=true->∃e,x=some e/\AV.agg [.v (.string (mk c)),d]=e.kF)
theorem Cw(e:E):∃c:List UInt8,∃d:AV,LK.sl.has d/\e.kF=AV.agg [.v (.string (mk c)),d]:=by
 cases e with
 |atom s=>exact⟨s,_,(bf).mpr trivial,rfl⟩
 |list l=>exact⟨[],_,(cf _).mpr trivial,rfl⟩
theorem jF.ne(x:Option E)(b:Bool)(h:b=true->x.isSome=true):∃r o,jF x b r o:=by
 cases b with
 |false=>exact⟨_,[],[],.v (.slice none 0 0),(bf).mpr trivial,rfl,fun h=>by cases h⟩
 |
  true =>
  cases x with
  |none=>cases h rfl
  |
   some e =>
   obtain⟨c,d,hd,he⟩:=Cw e
   exact⟨_,[],c,d,hd,rfl,fun _=>⟨e,rfl,he.symm⟩⟩
theorem N8(s:List UInt8):an Tryz.prog 102 [.v (.string (mk s))] [] (jF (qN s) (qN s).isSome):=by
 refine PN _ ?_
 simp only[KE,↓zq,zs,ae,zt,qN]
 refine⟨fun h=>?_,fun h=>?_⟩
 ·rw[if_pos (by omega)]
  exact⟨[],_,(bf).mpr trivial,rfl,fun h=>by cases h⟩
 ·rw[if_neg (by omega)]
  refine aP (PF s (by omega) 300 (by omega) 0 (by omega)) (DQ.ne _ _) ?_
  rintro r o ⟨rfl,hr⟩
  rw[bb]at hr
  cases hq:rd 300 s with
  |
   none =>
   rw[hq]at hr
   obtain⟨c,d,hd,rfl⟩:=hr
   simp only[↓zq,zs,ae,zt,bI]
   refine⟨hd,c,d,hd,?_,fun h=>by cases h⟩
   have:((-1:Int)==(s.length:Int))=false:=by
    rw[beq_eq_false_iff_ne];omega
   rw[this];rfl
  |
   some q =>
   obtain⟨e,u⟩:=q
   rw[hq]at hr
   subst hr
   have hlt:=yI _ _ _ _ hq
   obtain⟨c,d,hd,he⟩:=Cw e
   simp only[he,↓zq,zs,ae,zt,bI]
   cases u with
   |
    nil =>
    refine⟨hd,c,d,hd,?_,fun _=>⟨e,rfl,he.symm⟩⟩
    simp
   |
    cons b u =>
    simp only[az]at hlt |-
    refine⟨hd,c,d,hd,?_,fun h=>by cases h⟩
    have:(((s.length-(u.length+1):Nat):Int)==(s.length:Int))=false:=by simp;omega
    rw[this];rfl
def wE(s:List UInt8):Option E:=match qN s with
 |none=>none
 |some e=>if jW e=true/\e.db<=400 then some e else none
theorem HV(s:List UInt8):an Tryz.prog 83 [.v (.string (mk s))] [] (jF (wE s) (wE s).isSome):=by
 refine RI _ ?_
 unfold JZ
 refine aP (N8 s) (jF.ne _ _ (fun h=>h)) ?_
 rintro r o ⟨c,d,hd,rfl,hh⟩
 simp only[↓zq,zs,ae,zt,bI,wE]
 refine⟨hd,fun h=>?_,fun h=>?_⟩
 ·obtain⟨e,he,hce⟩:=hh h
  obtain⟨hok,hsz⟩:=nZ he
  rw[he,hce]
  refine aj (Am e hok) ?_
  simp only[↓zq,zs,ae]
  refine⟨fun hi=>?_,fun hi=>?_⟩
  ·refine aj (Dz e hok (by omega)) ?_
   simp only[↓zq,zs,ae,hi]
   refine⟨c,d,hd,?_,?_⟩
   ·rw[hce]
    by_cases h4:e.db<=400
    ·rw[if_pos h4];exact congrArg (fun b=>AV.cH [e.kF,.v (.bool b)]) (decide_eq_true (show ((e.db:Nat):Int)<=400 by omega))
    ·rw[if_neg h4];exact congrArg (fun b=>AV.cH [e.kF,.v (.bool b)]) (decide_eq_false (show ¬((e.db:Nat):Int)<=400 by omega))
   ·split
    ·exact fun _=>⟨e,rfl,hce⟩
    ·exact fun h=>by cases h
  ·refine⟨c,d,hd,?_,?_⟩
   ·rw[hce,if_neg (by rw[hi];simp)];rfl
   ·rw[if_neg (by rw[hi];simp)];exact fun h=>by cases h
 ·have hn:qN s=none:=by cases hq:qN s<;>simp[hq]at h |-
  rw[hn]
  exact⟨c,d,hd,rfl,fun h=>by cases h⟩
theorem pR{s:List UInt8}{e:E}(h:wE s=some e):qN s=some e/\jW e=true/\e.db<=400:=by
 unfold wE at h
 split at h
 ·cases h
 ·split at h
  ·rename_i e' h1 h2;cases h;exact⟨h1,h2⟩
  ·cases h
end Go.Proofs.Trees
namespace Go.Proofs.Trees
open Go Go.VL
def cc:Ty->Bool
 | .name s=>dk s
 | .plus a b=>cc a||cc b
 | .times a b=>cc a||cc b
 | .rc a=>cc a
 |_=>false
theorem gP:∀(t:Ty) (out:List (List UInt8)),(bQ t out).any dk=(out.any dk||cc t)
 |
  .name s,out=>by
  simp only[bQ,pD,cc]
  split
  ·rename_i h
   cases hs:dk s with
   |false=>simp
   |true=>rw[Bool.or_true,cr];exact⟨s,h,hs⟩
  ·simp
 | .plus a b,out=>by simp only[bQ,cc,gP a,gP b,Bool.or_assoc]
 | .times a b,out=>by simp only[bQ,cc,gP a,gP b,Bool.or_assoc]
 | .rc a,out=>by simp only[bQ,cc,gP a]
 | .zero,out=>by simp[bQ,cc]
 | .one,out=>by simp[bQ,cc]
 | .bound u,out=>by simp[bQ,cc]
theorem sZ(t:Ty):t.closed = !cc t:=by simp[Ty.closed,gP]
def pl:Ty->Bool
 | .name s=>decide (s.length<=1)
 | .plus a b=>pl a&&pl b
 | .times a b=>pl a&&pl b
 | .rc a=>false
 |_=>true
theorem lB{lo hi:Nat}{s:List UInt8}(h:named lo hi s=true):∃c r,s=c::r/\lo<=c.toNat/\c.toNat<=hi:=by
 cases s with
 |nil=>cases h
 |cons c r=>simp only[named,aw,decide_eq_true_eq]at h;exact⟨c,r,rfl,by omega,by omega⟩
theorem fI{x a b:E}{ar:List (List UInt8)}{t:Ty}(hx:x.at=[43])(h:cS (.list [x,a,b]) ar=some t):∃t1 t2,cS a ar=some t1/\cS b ar=some t2/\t=.plus t1 t2:=by
 rw[k8 ar hx]at h
 split at h
 ·rename_i t1 t2 e1 e2;cases h;exact⟨t1,t2,e1,e2,rfl⟩
 ·cases h
theorem fq{x a b:E}{ar:List (List UInt8)}{t:Ty}(hx:x.at=[42])(h:cS (.list [x,a,b]) ar=some t):∃t1 t2,cS a ar=some t1/\cS b ar=some t2/\t=.times t1 t2:=by
 rw[j1 ar hx]at h
 split at h
 ·rename_i t1 t2 e1 e2;cases h;exact⟨t1,t2,e1,e2,rfl⟩
 ·cases h
theorem dw{x a b:E}{ar:List (List UInt8)}{t:Ty}(hx:x.at=[114,101,99])(h:cS (.list [x,a,b]) ar=some t):∃t1,dk a.at=true/\cS b (ar++[a.at])=some t1/\t=.rc t1:=by
 rw[mB ar hx]at h
 split at h
 ·rename_i hl
  split at h
  ·rename_i t1 e1;cases h;exact⟨t1,hl,e1,rfl⟩
  ·cases h
 ·cases h
theorem uo{s:List UInt8}:qX s=match wE s with|none=>none|some e=>cS e []:=by
 unfold qX wE
 cases he:qN s with
 |none=>rfl
 |
  some e =>
  have hs:=iQ e []
  simp only
  cases ht:cS e []with
  |
   none =>
   rw[ht]at hs
   rw[if_neg (by rw[<-hs];simp)]
  |
   some t =>
   rw[ht]at hs
   have ha:=jR e [] t ht
   by_cases h4:e.db<=400
   ·rw[if_pos ⟨hs.symm,h4⟩];dsimp only;rw[if_neg (by omega)];exact ht.symm
   ·rw[if_neg (fun h=>h4 h.2)];dsimp only;rw[if_pos (by omega)]
end Go.Proofs.Trees
namespace Go.Proofs.Trees
open Go Go.VL
def pure:Ty->Bool
 | .zero=>true
 | .one=>true
 | .name s=>(s==[120])||(s==[121])||(s==[122])
 | .plus a b=>pure a&&pure b
 | .times a b=>pure a&&pure b
 |_=>false
def Nu(v:Nat):Option Nat:=if v<=1000000000 then some v else none
def IW(n:Nat):Ty->Option Nat
 | .zero=>some 0
 | .one=>some 1
 | .name _=>some n
 | .plus a b=>match IW n a,IW n b with|some x,some y=>Nu (x+y)|_,_=>none
 | .times a b=>match IW n a,IW n b with|some x,some y=>Nu (x*y)|_,_=>none
 |_=>none
def ML(x:Option Nat):AV->List Ob->Prop:=fun r o=>∃v:Int,r=.cH [.v (.int .i64 v),.v (.bool x.isSome)]/\∀c,x=some c->v=(c:Int)
theorem ML.ne(x:Option Nat):∃r o,ML x r o:=by
 cases x with
 |none=>exact⟨_,[],0,rfl,fun c h=>by cases h⟩
 |some c=>exact⟨_,[],(c:Int),rfl,fun c' h=>by cases h;rfl⟩
end Go.Proofs.Trees
namespace Go.Proofs.Trees
open Go Go.VL Go.RowKit
abbrev dd(n:Nat):List UInt8:=Lib.decDigits n
theorem eI{k:Nat}(h:k<10):dd k=[bj (48+k)]:=by rw[dd,Lib.decDigits,dif_pos h]
theorem fT{k:Nat}(h:¬k<10):dd k=dd (k/10)++[bj (48+k%10)]:=by rw[dd,Lib.decDigits,dif_neg h]
theorem mL:∀(n k:Nat),k<n->(dd k).length<=k+1
 |0,k,h=>by omega
 |
  n+1,k,h=>by
  by_cases h1:k<10
  ·rw[eI h1];simp
  ·rw[fT h1]
   have:=mL n (k/10) (by omega)
   simp only[aq,az,aG];omega
theorem yr(d:Nat)(h:d<10):(Value.int .u8 (IntKind.wrap .u8 (IntKind.wrap .i64 (48+(d:Int)))))=.int .u8 ((bj (48+d)).toNat:Int):=by
 have:d=0\/d=1\/d=2\/d=3\/d=4\/d=5\/d=6\/d=7\/d=8\/d=9:=by omega
 rcases this with rfl|rfl|rfl|rfl|rfl|rfl|rfl|rfl|rfl|rfl<;>rfl
theorem p9(b:UInt8):bytesOf [[.v (.int .u8 (b.toNat:Int))]]=[b]:=by simp[bytesOf,yo]
theorem lu(b:UInt8):jA [[.v (.int .u8 (b.toNat:Int))]]:=⟨rfl,(l8 _ _).mpr trivial,trivial⟩
theorem Ao:∀(n k:Nat),k<n->k<1000000000->an Tryz.prog 90 [.v (.int .i64 (k:Int))] [] (bK (.v (.string (mk (dd k)))))
 |0,k,h,_=>by omega
 |
  n+1,k,h,hk=>by
  refine Qm _ ?_
  simp only[MX,↓zq,zs,ae,bK]
  refine⟨fun h=>by omega,fun _=>⟨fun h=>by omega,fun _=>⟨fun h1=>?_,fun h1=>⟨by omega,?_⟩⟩⟩⟩
  ·rw[yr k (by omega)]
   refine⟨lu _,?_⟩
   rw[p9,eI (by omega)];rfl
  ·have e1:IntKind.wrap .i64 (Int.tdiv (k:Int) 10)=((k/10:Nat):Int):=by
    rw[show Int.tdiv (k:Int) 10=((k/10:Nat):Int) from (Int.ofNat_tdiv k 10).symm,wrap64 _ (by omega) (by omega)]
   have e2:dF (k:Int) 10=((k%10:Nat):Int):=(Int.ofNat_tmod k 10).symm
   rw[e1,e2,yr (k%10) (by omega)]
   refine aj (Ao n (k/10) (by omega) (by omega)) ?_
   have hl:=mL (k+1) (k/10) (by omega)
   simp only[↓zq,zs,ae,zt,p9]
   have h9:(k:Int)<1000000000:=by omega
   refine⟨by omega,lu _,?_,?_⟩
   ·show (mk (dd (k/10))).size+(mk [bj (48+k%10)]).size<=_
    rw[cM,cM];simp;omega
   ·show AV.v (.string (mk (dd (k/10))++mk [bj (48+k%10)]))=_
    rw[kP,fT (k:=k) (by omega)]
theorem zX(s:List UInt8)(d:AV)(hd:LK.sl.has d)(h:s≠[]):an Tryz.prog 86 [.agg [.v (.string (mk s)),d]] [] (bK (.v (.string (mk [])))):=by
 refine Gk _ _ hd ?_
 simp only[EB,↓zq,zs,ae,zt,bK]
 exact⟨fun _=>trivial,fun h'=>absurd h' h⟩
theorem Ed(e:E):AV.agg [.v (.string ((e.kF.cs.getD 0 .any).toStr)),e.kF.cs.getD 1 .any]=e.kF:=by cases e<;>rfl
mutual
def fe:E->List UInt8
 | .atom s=>s
 | .list []=>[40,41]
 | .list (e::l)=>40::(fe e++(eh l++[41]))
def eh:List E->List UInt8
 |[]=>[]
 |e::l=>32::(fe e++eh l)
end
theorem zD:∀(l:List E) (i:Nat) (h:i<l.length),eh (l.drop i)=32::(fe l[i]++eh (l.drop (i+1))):=by
 intro l i h
 rw[aS h,eh]
theorem MG(l:List E)(hll:l.length<1000000000000)(ih:∀i (h:i<l.length),an Tryz.prog 63 [(l[i]).kF] [] (bK (.v (.string (mk (fe l[i])))))) :
 ∀(k i:Nat) (out:List UInt8),i+k=l.length->1<=i->out.length+(eh (l.drop i)).length<=1000000000000->AG [.v (.string (mk out)),.v (.int .i64 (i:Int))] [.cells [.v (.string (mk [])),.sl (E.bu l)]] (gI 1 [.v (.string (mk (out++eh (l.drop i))))] [])
 |
  0,i,out,hi,h1,hn=>by
  refine C0 _ _ _ _ ?_
  simp only[Cr,↓zq,zs,ae,dY]
  have:l.drop i=[]:=bV (by omega)
  refine⟨fun h=>by omega,fun _=>?_⟩
  simp[gI,this,eh]
 |
  k+1,i,out,hi,h1,hn=>by
  have hlt:i<l.length:=by omega
  have hd:=zD l i hlt
  rw[hd]at hn
  simp only[az,aq]at hn
  refine C0 _ _ _ _ ?_
  simp only[Cr,↓zq,zs,ae,zt,dY,jG l i hlt,gl,iS,iV,au]
  refine⟨fun _=>⟨fun _=>⟨by omega,by omega,?_⟩,fun h=>by omega⟩,fun h=>by omega⟩
  refine aj (ih i hlt) ?_
  simp only[↓zq,zs,ae,zt]
  refine⟨by simp;omega,?_⟩
  rw[bz i (by omega),hd]
  have:=MG l hll ih k (i+1) (out++[32]++fe l[i]) (by omega) (by omega) (by simp;omega)
  simpa using this
theorem yz:∀(l:List E) (i:Nat) (h:i<l.length),(fe l[i]).length<=(eh l).length
 |e::l,0,_=>by simp only[eh,List.getElem_cons_zero,az,aq];omega
 |e::l,i+1,h=>by have:=yz l i (by simpa using h);simp only[eh,List.getElem_cons_succ,az,aq];omega
theorem rS:∀l:List E,l.length<=(eh l).length
 |[]=>by simp[eh]
 |e::l=>by have:=rS l;simp only[eh,az,aq];omega
theorem DL:∀(n:Nat) (e:E),e.sz<n->e.ok->(fe e).length<=900000000000->an Tryz.prog 63 [e.kF] [] (bK (.v (.string (mk (fe e)))))
 |0,e,hn,_,_=>by omega
 |
  n+1,.atom s,hn,hok,hl=>by
  refine Hc _ _ ((bf).mpr trivial) ?_
  have hne:s≠[]:=hok
  simp only[Ef,↓zq,zs,ae,zt,bK]
  exact⟨fun _=>rfl,fun h=>absurd h hne⟩
 |
  n+1,.list [],hn,hok,hl=>by
  refine Hc _ _ ((cf _).mpr trivial) ?_
  simp only[Ef,↓zq,zs,ae,zt,bK]
  refine⟨fun h=>absurd rfl h,fun _=>?_⟩
  have h1:AG [.v (.string (mk [40])),.v (.int .i64 0)] [.cells [.v (.string (mk [])),.sl (E.bu [])]] (gI 1 [.v (.string (mk [40]))] []):=by
   refine C0 _ _ _ _ ?_
   simp[Cr,↓zq,zs,ae,E.bu,gI]
  refine cz h1 ?_
  simp only[↓zq,zs,ae,zt]
  exact⟨by simp,rfl⟩
 |
  n+1,.list (x::l),hn,hok,hl=>by
  refine Hc _ _ ((cf _).mpr trivial) ?_
  simp only[E.sz,E.jo]at hn
  simp only[fe,az,aq,aG]at hl
  have h2:=rS l
  simp only[Ef,↓zq,zs,ae,zt,bK]
  refine⟨fun h=>absurd rfl h,fun _=>?_⟩
  have hL:AG [.v (.string (mk [40])),.v (.int .i64 0)] [.cells [.v (.string (mk [])),.sl (E.bu (x::l))]] (gI 1 [.v (.string (mk ([40]++fe x++eh l)))] []):=by
   refine C0 _ _ _ _ ?_
   simp only[Cr,E.bu,Int.toNat_zero,↓zq,zs,ae,zt,dY,gl,iS,iV,au]
   refine⟨fun _=>⟨fun h=>by omega,fun _=>⟨by omega,?_⟩⟩,fun h=>by omega⟩
   refine aj (DL n x (by omega) hok.1 (by omega)) ?_
   simp only[↓zq,zs,ae,zt]
   refine⟨by simp;omega,?_⟩
   have:=MG (x::l) (by simp;omega) (fun i hi=>by
    have h3:=uh (x::l) i hi
    simp only[E.jo]at h3
    refine DL n _ (by omega) (uw _ i hi hok) ?_
    have h4:=yz (x::l) i hi
    simp only[eh,az,aq]at h4
    omega) l.length 1 ([40]++fe x) (by simp;omega) (by omega) (by simp;omega)
   rw[show IntKind.wrap .i64 (0+1)=1 from rfl]
   simpa[E.bu]using this
  refine cz hL ?_
  simp only[↓zq,zs,ae,zt]
  refine⟨by simp;omega,?_⟩
  simp[fe]
theorem Dr(e:E)(h:e.ok)(hl:(fe e).length<=900000):an Tryz.prog 63 [e.kF] [] (bK (.v (.string (mk (fe e))))):=DL (e.sz+1) e (by omega) h (by omega)
mutual
def E.nd:E->Nat
 | .atom _=>1
 | .list []=>1
 | .list (_::l)=>1+E.u6 l
def E.u6:List E->Nat
 |[]=>0
 |e::l=>e.nd+E.u6 l
end
mutual
theorem BX:∀e:E,e.nd<=e.sz
 | .atom s=>by simp[E.nd,E.sz]
 | .list []=>by simp[E.nd,E.sz,E.jo]
 | .list (x::l)=>by have:=wL l;simp only[E.nd,E.sz,E.jo];omega
theorem wL:∀l:List E,E.u6 l<=E.jo l
 |[]=>by simp[E.u6,E.jo]
 |e::l=>by have:=BX e;have:=wL l;simp only[E.u6,E.jo];omega
end
theorem B5:∀(l:List E) (i:Nat) (h:i<l.length),E.u6 (l.drop i)=(l[i]).nd+E.u6 (l.drop (i+1)):=by
 intro l i h
 rw[aS h];rfl
theorem Mn(l:List E)(hl:E.u6 l<1000000)(hll:l.length<1000000)(ih:∀i (h:i<l.length),an Tryz.prog 104 [(l[i]).kF] [] (bK (.v (.int .i64 ((l[i]).nd:Int))))) :
 ∀(k i n:Nat),i+k=l.length->n+E.u6 (l.drop i)<=1+E.u6 l->Ba [.v (.int .i64 (n:Int)),.v (.int .i64 (i:Int))] [.cells [.v (.string (mk [])),.sl (E.bu l)]] (gI 1 [.v (.int .i64 ((n+E.u6 (l.drop i):Nat):Int))] [])
 |
  0,i,n,hi,hn=>by
  refine DU _ _ _ _ ?_
  simp only[Cl,↓zq,zs,ae,dY]
  have:l.drop i=[]:=bV (by omega)
  refine⟨fun h=>by omega,fun _=>?_⟩
  simp[gI,this,E.u6]
 |
  k+1,i,n,hi,hn=>by
  have hlt:i<l.length:=by omega
  refine DU _ _ _ _ ?_
  simp only[Cl,↓zq,zs,ae,zt,dY,jG l i hlt,gl,iS,iV,au]
  refine⟨fun _=>⟨by omega,?_⟩,fun h=>by omega⟩
  refine aj (ih i hlt) ?_
  have h1:=B5 l i hlt
  simp only[↓zq,zs,ae]
  rw[bz i (by omega),wrap64 _ (by omega) (by omega)]
  have:=Mn l hl hll ih k (i+1) (n+(l[i]).nd) (by omega) (by omega)
  rw[h1,<-Nat.add_assoc]
  simpa using this
theorem MF:∀(n:Nat) (e:E),e.sz<n->e.sz<900000->an Tryz.prog 104 [e.kF] [] (bK (.v (.int .i64 (e.nd:Int))))
 |0,e,hn,_=>by omega
 |
  n+1,.atom s,hn,hl=>by
  refine Oq _ _ ((bf).mpr trivial) ?_
  simp only[Iw]
  have hL:Ba [.v (.int .i64 1),.v (.int .i64 1)] [.cells [.v (.string (mk s)),.v (.slice none 0 0)]] (gI 1 [.v (.int .i64 1)] []):=by
   refine DU _ _ _ _ ?_
   simp[Cl,↓zq,zs,ae,gI]
  refine cz hL ?_
  simp[↓zq,zs,ae,bK,E.nd]
 |
  n+1,.list l,hn,hl=>by
  refine Oq _ _ ((cf _).mpr trivial) ?_
  simp only[E.sz]at hn hl
  simp only[Iw]
  match l,hn,hl with
  |
   [],hn,hl =>
   have hL:Ba [.v (.int .i64 1),.v (.int .i64 1)] [.cells [.v (.string (mk [])),.sl (E.bu [])]] (gI 1 [.v (.int .i64 1)] []):=by
    refine DU _ _ _ _ ?_
    simp[Cl,↓zq,zs,ae,gI,E.bu]
   refine cz hL ?_
   simp[↓zq,zs,ae,bK,E.nd]
  |
   x::l,hn,hl =>
   simp only[E.jo]at hn hl
   have h1:=wL l
   have h2:=uG l
   have h0:=BX x
   refine cz (Mn (x::l) (by simp only[E.u6];omega) (by simp;omega) (fun i hi=>?_) l.length 1 1 (by simp;omega) (by simp[E.u6])) ?_
   ·have:=uh (x::l) i hi
    simp only[E.jo]at this
    exact MF n _ (by omega) (by omega)
   ·simp[↓zq,zs,ae,E.nd,bK]
theorem Sg(e:E)(hl:e.sz<900000):an Tryz.prog 104 [e.kF] [] (bK (.v (.int .i64 (e.nd:Int)))):=MF (e.sz+1) e (by omega) hl
inductive Vl where
 |u
 |el (k:Nat)
 |l (v:Vl)
 |r (v:Vl)
 |f (v:Vl)
 |p (a b:Vl)
abbrev xw(k:Nat):List UInt8:=101::dd k
abbrev ir:AV:=.v (.pointer none)
def Vl.cE:Vl->AV
 | .u=>.ptr [.v (.int .u8 117),.v (.string (mk [])),ir,ir]
 | .el k=>.ptr [.v (.int .u8 101),.v (.string (mk (xw k))),ir,ir]
 | .l v=>.ptr [.v (.int .u8 108),.v (.string (mk [])),v.cE,ir]
 | .r v=>.ptr [.v (.int .u8 114),.v (.string (mk [])),v.cE,ir]
 | .f v=>.ptr [.v (.int .u8 102),.v (.string (mk [])),v.cE,ir]
 | .p a b=>.ptr [.v (.int .u8 112),.v (.string (mk [])),a.cE,b.cE]
def Vl.cL:Vl->E
 | .u=>.atom [117]
 | .el k=>.atom (xw k)
 | .l v=>.list [.atom [108],v.cL]
 | .r v=>.list [.atom [114],v.cL]
 | .f v=>.list [.atom [102],v.cL]
 | .p a b=>.list [.atom [112],a.cL,b.cL]
def Vl.nodes:Vl->Nat
 | .l v=>1+v.nodes
 | .r v=>1+v.nodes
 | .f v=>1+v.nodes
 | .p a b=>1+a.nodes+b.nodes
 |_=>1
def Vl.hZ(n:Nat):Vl->Prop
 | .el k=>k<n
 | .l v=>v.hZ n
 | .r v=>v.hZ n
 | .f v=>v.hZ n
 | .p a b=>a.hZ n/\b.hZ n
 | .u=>True
abbrev Vl.cF(v:Vl):List UInt8:=fe v.cL
theorem aM(v:Vl):LK.has .ptr v.cE=True:=by cases v<;>simp[Vl.cE,bZ]
theorem fC(v:Vl):v.cE.isNil=false:=by cases v<;>rfl
theorem mP:∀v:Vl,v.cL.ok
 | .u=>by simp[Vl.cL,E.ok]
 | .el k=>by simp[Vl.cL,E.ok]
 | .l v=>⟨by simp[E.ok],mP v,trivial⟩
 | .r v=>⟨by simp[E.ok],mP v,trivial⟩
 | .f v=>⟨by simp[E.ok],mP v,trivial⟩
 | .p a b=>⟨by simp[E.ok],mP a,mP b,trivial⟩
theorem n6:∀v:Vl,v.cL.nd=v.nodes
 | .u=>rfl
 | .el k=>rfl
 | .l v=>by simp[Vl.cL,E.nd,E.u6,Vl.nodes,n6 v]
 | .r v=>by simp[Vl.cL,E.nd,E.u6,Vl.nodes,n6 v]
 | .f v=>by simp[Vl.cL,E.nd,E.u6,Vl.nodes,n6 v]
 | .p a b=>by simp[Vl.cL,E.nd,E.u6,Vl.nodes,n6 a,n6 b,Nat.add_assoc]
theorem je:∀v:Vl,v.hZ 100->v.cF.length<=200*v.nodes
 | .u,_=>by simp[Vl.cF,Vl.cL,fe,Vl.nodes]
 |
  .el k,h=>by
  have h':k<100:=h
  have:=mL 1000 k (by omega)
  simp only[Vl.cF,Vl.cL,fe,Vl.nodes,az];omega
 | .l v,h=>by have:=je v h;simp only[Vl.cF,Vl.cL,fe,eh,Vl.nodes,az,aq,aG]at this |-;omega
 | .r v,h=>by have:=je v h;simp only[Vl.cF,Vl.cL,fe,eh,Vl.nodes,az,aq,aG]at this |-;omega
 | .f v,h=>by have:=je v h;simp only[Vl.cF,Vl.cL,fe,eh,Vl.nodes,az,aq,aG]at this |-;omega
 | .p a b,h=>by have:=je a h.1;have:=je b h.2;simp only[Vl.cF,Vl.cL,fe,eh,Vl.nodes,az,aq,aG]at *;omega
theorem zn(a b:AV)(h:LK.ptr.has a)(h':LK.ptr.has b):an Tryz.prog 109 [a,b] [] (bK (.ptr [.v (.int .u8 112),.v (.string (mk [])),a,b])):=by
 refine Rx _ _ h h' ?_
 simp[Kk,↓zq,zs,ae,bK]
theorem du(v:Vl):1<=v.nodes:=by cases v<;>simp[Vl.nodes]<;>omega
theorem EO:∀(v:Vl),v.nodes<1000000->an Tryz.prog 56 [v.cE] [] (bK (.v (.int .i64 (v.nodes:Int))))
 | .u,h=>by refine Aq _ ((aM _).mpr trivial) ?_;simp[Iq,Vl.cE,↓zq,zs,ae,bK,Vl.nodes]
 | .el k,h=>by refine Aq _ ((aM _).mpr trivial) ?_;simp[Iq,Vl.cE,↓zq,zs,ae,bK,Vl.nodes]
 |
  .l v,h=>by
  simp only[Vl.nodes]at h
  refine Aq _ ((aM _).mpr trivial) ?_
  simp only[Iq,Vl.cE,↓zq,zs,ae,aM,fC]
  refine⟨by omega,fun _=>⟨by omega,?_⟩,fun h=>(by cases h)⟩
  refine aj (EO v (by omega)) ?_
  simp only[↓zq,zs,ae,bK,Vl.nodes]
  rw[wrap64 _ (by omega) (by omega)]
  simp
 |
  .r v,h=>by
  simp only[Vl.nodes]at h
  refine Aq _ ((aM _).mpr trivial) ?_
  simp only[Iq,Vl.cE,↓zq,zs,ae,aM,fC]
  refine⟨by omega,fun _=>⟨by omega,?_⟩,fun h=>(by cases h)⟩
  refine aj (EO v (by omega)) ?_
  simp only[↓zq,zs,ae,bK,Vl.nodes]
  rw[wrap64 _ (by omega) (by omega)]
  simp
 |
  .f v,h=>by
  simp only[Vl.nodes]at h
  refine Aq _ ((aM _).mpr trivial) ?_
  simp only[Iq,Vl.cE,↓zq,zs,ae,aM,fC]
  refine⟨by omega,fun _=>⟨by omega,?_⟩,fun h=>(by cases h)⟩
  refine aj (EO v (by omega)) ?_
  simp only[↓zq,zs,ae,bK,Vl.nodes]
  rw[wrap64 _ (by omega) (by omega)]
  simp
 |
  .p a b,h=>by
  simp only[Vl.nodes]at h
  refine Aq _ ((aM _).mpr trivial) ?_
  simp only[Iq,Vl.cE,↓zq,zs,ae,aM,fC]
  refine⟨by omega,fun _=>⟨by omega,?_⟩,fun h=>(by cases h)⟩
  refine aj (EO a (by omega)) ?_
  simp only[↓zq,zs,ae,aM,fC]
  rw[wrap64 (1+(a.nodes:Int)) (by omega) (by omega)]
  refine⟨by omega,fun _=>⟨by omega,?_⟩,fun h=>(by cases h)⟩
  refine aj (EO b (by omega)) ?_
  simp only[↓zq,zs,ae,bK,Vl.nodes]
  rw[wrap64 _ (by omega) (by omega)]
  congr 2
end Go.Proofs.Trees
namespace Go.Proofs.Trees
open Go Go.VL Go.RowKit
def zC:List UInt8->Nat->Option Nat
 |[],n=>some n
 |b::r,n=>if ig b=true then zC r (10*n+(b.toNat-48))else none
def fR(s:List UInt8):Option Nat :=
 if s.length=2\/s.length=3 then(if s.getD 0 0=101/\¬(s.length=3/\s.getD 1 0=48)then zC (s.drop 1) 0 else none)else none
def A7(s:List UInt8):Int:=match fR s with|some k=>(k:Int)|none=>-1
theorem JH(s:List UInt8)(hs:s.length<=3):∀(k i n:Nat),i+k=s.length->1<=i->(n+1)*10 ^ k<=1000->IM [.v (.string (mk s)),.v (.int .i64 (n:Int)),.v (.int .i64 (i:Int))] []
 (po (match zC (s.drop i) n with|some m=>(1,[.v (.int .i64 (m:Int))],[])|none=>(2,[.v (.int .i64 (-1))],[])))
 |
  0,i,n,hi,h1,hn=>by
  refine K8 _ _ _ ?_
  have hd:s.drop i=[]:=bV (by omega)
  simp only[FA,↓zq,zs,ae,zt,hd,zC]
  exact⟨fun h=>by omega,fun _=>by first|trivial|rfl⟩
 |
  k+1,i,n,hi,h1,hn=>by
  have hlt:i<s.length:=by omega
  refine K8 _ _ _ ?_
  rw[drop_cons hlt,zC]
  simp only[FA,↓zq,zs,ae,zt,mf s i hlt]
  generalize s.getD i 0=b
  have hb:=b.toNat_lt
  refine⟨fun _=>⟨by omega,fun h48=>?_,fun h48=>⟨by omega,fun h57=>?_,fun h57=>⟨by omega,?_⟩⟩⟩,fun h=>by omega⟩
  ·have:ig b=false:=by simp only[ig,decide_eq_false_iff_not];omega
   rw[this];rfl
  ·have:ig b=false:=by simp only[ig,decide_eq_false_iff_not];omega
   rw[this];rfl
  ·have:ig b=true:=by simp only[ig,decide_eq_true_eq];omega
   rw[if_pos this]
   have hk:k=0\/k=1:=by omega
   have hn2:n*10<=1000:=by
    rcases hk with rfl|rfl<;>simp at hn<;>omega
   have e8:IntKind.wrap .u8 ((b.toNat:Int)-48)=((b.toNat-48:Nat):Int):=by
    have:b.toNat=48\/b.toNat=49\/b.toNat=50\/b.toNat=51\/b.toNat=52\/b.toNat=53\/b.toNat=54\/b.toNat=55\/b.toNat=56\/b.toNat=57:=by omega
    rcases this with h|h|h|h|h|h|h|h|h|h<;>rw[h]<;>rfl
   rw[e8,bz i (by omega),wrap64 ((b.toNat-48:Nat):Int) (by omega) (by omega),wrap64 (10*(n:Int)) (by omega) (by omega),wrap64 _ (by omega) (by omega)]
   have e:(10*(n:Int)+((b.toNat-48:Nat):Int))=((10*n+(b.toNat-48):Nat):Int):=by omega
   rw[e]
   exact JH s hs k (i+1) _ (by omega) (by omega) (by rcases hk with rfl|rfl<;>simp at hn |-<;>omega)
theorem JO(s:List UInt8):an Tryz.prog 127 [.v (.string (mk s))] [] (bK (.v (.int .i64 (A7 s)))):=by
 refine PD _ ?_
 unfold O1
 refine aj (AX _ _ _) ?_
 simp only[↓zq,zs,ae,zt,CM,bK]
 have hL:∀(Q:Nat->List AV->List Ob->Prop),(s.length=2\/s.length=3)->s.getD 0 0=101->¬(s.length=3/\s.getD 1 0=48)->(Q 0 [.v (.int .i64 (A7 s))] []) ->
  eZ Tryz.prog 49 (.loop DO Cu [.v (.string (mk s)),.v (.int .i64 0),.v (.int .i64 1)] [] (fun y2 q2=>.ai (LK.has (.int .i64) (y2.headD .any))<|.done 0 [.v (.int .i64 ((y2.headD .any).toInt))] []) (fun y2 q2=>.ai (LK.has (.int .i64) (y2.headD .any))<|.done 0 [.v (.int .i64 ((y2.headD .any).toInt))] [])) Q:=by
  intro Q hl h0 h1 hQ
  have e:fR s=zC (s.drop 1) 0:=by rw[fR,if_pos hl,if_pos ⟨h0,h1⟩]
  refine fF (JH s (by omega) (s.length-1) 1 0 (by omega) (by omega) (by rcases hl with h|h<;>rw[h]<;>decide)) (fun ys o e'=>?_) (fun ys o e'=>?_)
  ·cases hq:zC (s.drop 1) 0<;>rw[hq]at e'<;>cases e'
   rw[hq]at e
   simp only[A7,e]at hQ
   simp only[↓zq,zs,ae];exact hQ
  ·cases hq:zC (s.drop 1) 0<;>rw[hq]at e'<;>cases e'
   rw[hq]at e
   simp only[A7,e]at hQ
   simp only[↓zq,zs,ae];exact hQ
 have hz:∀{i:Nat},i<s.length->bt (mk s) (i:Int)=((s.getD i 0).toNat:Int):=fun h=>mf s _ h
 refine⟨fun h=>?_,fun h=>⟨?_,fun h0=>?_,fun h0=>⟨fun h3=>⟨by omega,fun h1=>?_,fun h1=>?_⟩,fun h3=>?_⟩⟩⟩
 ·have h':¬(2<=(s.length:Int)/\(s.length:Int)<=3):=by simpa using h
  rw[A7,fR,if_neg (by omega)]
 ·have h':2<=(s.length:Int)/\(s.length:Int)<=3:=by simpa using h
  omega
 ·have h':2<=(s.length:Int)/\(s.length:Int)<=3:=by simpa using h
  have e0:=hz (i:=0) (by omega)
  simp only[Int.ofNat_eq_natCast,Int.cast_ofNat_Int]at e0
  rw[e0]at h0
  rw[A7,fR,if_pos (by omega),if_neg]
  rintro⟨e,_⟩
  rw[e]at h0;exact h0 rfl
 ·have h':2<=(s.length:Int)/\(s.length:Int)<=3:=by simpa using h
  have e1:=hz (i:=1) (by omega)
  simp only[Int.ofNat_eq_natCast,Int.cast_ofNat_Int]at e1
  rw[e1]at h1
  rw[A7,fR,if_pos (by omega),if_neg]
  rintro⟨_,e⟩
  refine e ⟨by omega,?_⟩
  rw[<-UInt8.toNat_inj];show (s.getD 1 0).toNat=48;omega
 ·have h':2<=(s.length:Int)/\(s.length:Int)<=3:=by simpa using h
  have e0:=hz (i:=0) (by omega)
  have e1:=hz (i:=1) (by omega)
  simp only[Int.ofNat_eq_natCast,Int.cast_ofNat_Int]at e0 e1
  rw[e0]at h0;rw[e1]at h1
  refine hL _ (by omega) ?_ ?_ ⟨rfl,rfl⟩
  ·rw[<-UInt8.toNat_inj];show (s.getD 0 0).toNat=101;omega
  ·rintro⟨_,e⟩;rw[e]at h1;exact h1 rfl
 ·have h':2<=(s.length:Int)/\(s.length:Int)<=3:=by simpa using h
  have e0:=hz (i:=0) (by omega)
  simp only[Int.ofNat_eq_natCast,Int.cast_ofNat_Int]at e0
  rw[e0]at h0
  refine hL _ (by omega) ?_ ?_ ⟨rfl,rfl⟩
  ·rw[<-UInt8.toNat_inj];show (s.getD 0 0).toNat=101;omega
  ·rintro⟨e,_⟩;omega
theorem px:∀(l:List UInt8) (n:Nat),(zC l n).isSome=l.all ig
 |[],n=>rfl
 |
  b::l,n=>by
  rw[zC]
  cases hb:ig b with
  |true=>rw[if_pos rfl,px l];simp[hb]
  |false=>rw[if_neg (by simp)];simp[hb]
theorem Lg(s:List UInt8):an Tryz.prog 158 [.v (.string (mk s))] [] (bK (.v (.bool (fR s).isSome))):=by
 refine SW _ ?_
 simp only[K4,↓zq,zs,ae,zt,bK]
 have hz:∀{i:Nat},i<s.length->bt (mk s) (i:Int)=((s.getD i 0).toNat:Int):=fun h=>mf s _ h
 refine⟨fun h=>?_,fun h=>⟨fun h3=>?_,fun h3=>?_⟩⟩
 ·rw[fR,if_neg (by omega)];rfl
 ·rw[fR,if_neg (by omega)];rfl
 ·have e0:=hz (i:=0) (by omega)
  have e1:=hz (i:=1) (by omega)
  simp only[Int.ofNat_eq_natCast,Int.cast_ofNat_Int]at e0 e1
  rw[e0,e1]
  have hx:s.drop (bL 1)=s.drop 1:=rfl
  refine⟨by omega,fun h0=>?_,fun h0=>⟨by omega,?_⟩⟩
  ·rw[fR,if_pos (by omega),if_neg]
   ·rfl
   ·rintro⟨e,_⟩;rw[e]at h0;exact h0 rfl
  ·rw[hx]
   refine aj (OB (s.drop 1) FM (by simp;omega) (by decide) (by decide)) ?_
   simp only[↓zq,zs,ae,zt]
   have h101:s.getD 0 0=101:=by rw[<-UInt8.toNat_inj];show (s.getD 0 0).toNat=101;omega
   have hall:Lib.trimS (s.drop 1) FM=[]↔(s.drop 1).all ig=true:=by
    rw[tb]
    have:(fun x=>FM.contains x)=ig:=funext wB
    rw[this]
   refine⟨fun ht=>?_,fun ht=>⟨fun h2=>?_,fun h2=>⟨by omega,?_⟩⟩⟩
   ·have:(s.drop 1).all ig=false:=by
     cases hq:(s.drop 1).all ig with
     |false=>rfl
     |true=>exact absurd (hall.2 hq) ht
    rw[fR,if_pos (by omega)]
    split
    ·rw[px,this]
    ·rfl
   ·have hq:=hall.1 ht
    rw[fR,if_pos (by omega),if_pos ⟨h101,by omega⟩,px,hq]
   ·have hq:=hall.1 ht
    rw[fR,if_pos (by omega)]
    by_cases h48:s.getD 1 0=48
    ·rw[if_neg (by rintro⟨_,e⟩;exact e ⟨by omega,h48⟩),h48];rfl
    ·rw[if_pos ⟨h101,fun e=>h48 e.2⟩,px,hq]
     have:¬((s.getD 1 0).toNat:Int)=48:=fun e=>h48 (by rw[<-UInt8.toNat_inj];show (s.getD 1 0).toNat=48;omega)
     rw[bne_iff_ne.2 this]
theorem tA{s:List UInt8}{k:Nat}(h:fR s=some k):s=xw k/\k<100:=by
 have key1:∀a:Fin 256,ig (bj a.val)=true->zC [bj a.val] 0=some ((bj a.val).toNat-48)/\(bj a.val).toNat-48<10/\[bj a.val]=[bj (48+((bj a.val).toNat-48))]:=by decide +kernel
 unfold fR at h
 split at h
 ·rename_i hl
  split at h
  ·rename_i hh
   obtain⟨h0,h1⟩:=hh
   rcases hl with hl|hl
   ·match s,hl with
    |
     [c,a],_ =>
     simp only[bq]at h0
     subst h0
     simp only[List.drop_succ_cons,bb,zC]at h
     split at h
     ·rename_i ha
      have:=key1 ⟨a.toNat,a.toNat_lt⟩ (by simpa using ha)
      simp only[UInt8.ofNat_toNat]at this
      cases h
      refine⟨?_,by omega⟩
      rw[xw,eI (by omega)]
      simp only[Nat.mul_zero,aW]
      rw[<-this.2.2]
     ·cases h
   ·match s,hl with
    |
     [c,a,b],_ =>
     simp only[bq,List.getD_cons_succ,az,aG,true_and]at h0 h1
     subst h0
     simp only[List.drop_succ_cons,bb,zC]at h
     split at h
     ·rename_i ha
      split at h
      ·rename_i hb
       have k1:=key1 ⟨a.toNat,a.toNat_lt⟩ (by simpa using ha)
       have k2:=key1 ⟨b.toNat,b.toNat_lt⟩ (by simpa using hb)
       simp only[UInt8.ofNat_toNat]at k1 k2
       have ha':48<=a.toNat/\a.toNat<=57:=by simpa[ig]using ha
       have hb':48<=b.toNat/\b.toNat<=57:=by simpa[ig]using hb
       have h48:a.toNat≠48:=fun e=>h1 (by rw[<-UInt8.toNat_inj];simpa using e)
       cases h
       simp only[Nat.mul_zero,aW]
       refine⟨?_,by omega⟩
       rw[xw,fT (by omega),eI (by omega)]
       have e1:(10*(a.toNat-48)+(b.toNat-48))/10=a.toNat-48:=by omega
       have e2:(10*(a.toNat-48)+(b.toNat-48))%10=b.toNat-48:=by omega
       rw[e1,e2,<-k1.2.2,<-k2.2.2];rfl
      ·cases h
     ·cases h
  ·cases h
 ·cases h
theorem vM(k:Nat)(h:k<100):fR (xw k)=some k:=by
 have e:∀k,k<100->dd k=if k<10 then [bj (48+k)]else [bj (48+k/10),bj (48+k%10)]:=by
  intro k hk
  by_cases h1:k<10
  ·rw[eI h1,if_pos h1]
  ·rw[fT h1,eI (by omega),if_neg h1];rfl
 have key:∀k:Fin 100,fR (101::(if k.val<10 then [bj (48+k.val)]else [bj (48+k.val/10),bj (48+k.val%10)]))=some k.val:=by decide +kernel
 rw[xw,e k h];exact key ⟨k,h⟩
theorem Fx(k:Nat)(h:k<100):A7 (xw k)=(k:Int):=by rw[A7,vM k h]
def yM:E->Bool
 | .atom s=>(s==[117])||(fR s).isSome
 | .list [x,a]=>((x.at==[108])||(x.at==[114])||(x.at==[102]))&&yM a
 | .list [x,a,b]=>(x.at==[112])&&(yM a&&yM b)
 | .list _=>false
def fP:E->Option Vl
 | .atom s=>if s=[117]then some .u else match fR s with|some k=>some (.el k)|none=>none
 |
  .list [x,a]=>match fP a with
  |none=>none
  |some v=>if x.at=[108]then some (.l v)else if x.at=[114]then some (.r v)else if x.at=[102]then some (.f v)else none
 | .list [x,a,b]=>if x.at=[112]then(match fP a,fP b with|some v,some w=>some (.p v w)|_,_=>none)else none
 | .list _=>none
theorem oN:∀e:E,(fP e).isSome=yM e
 |
  .atom s=>by
  simp only[fP,yM]
  by_cases h:s=[117]
  ·simp[h]
  ·rw[if_neg h];cases fR s<;>simp[h]
 | .list []=>rfl
 | .list [_]=>rfl
 |
  .list [x,a]=>by
  have ha:=oN a
  rw[fP,yM,<-ha]
  cases fP a with
  |none=>simp
  |
   some v =>
   by_cases h1:x.at=[108]
   ·simp[h1]
   ·by_cases h2:x.at=[114]
    ·simp[h2]
    ·by_cases h3:x.at=[102]
     ·simp[h3]
     ·simp[h1,h2,h3]
 |
  .list [x,a,b]=>by
  have ha:=oN a
  have hb:=oN b
  rw[fP,yM,<-ha,<-hb]
  by_cases h1:x.at=[112]
  ·rw[if_pos h1,h1];cases fP a<;>cases fP b<;>rfl
  ·simp[h1]
 | .list (_::_::_::_::_)=>rfl
theorem ko{x:E}{w:List UInt8}(h:x.at=w)(hw:w≠[]):x=.atom w:=by
 cases x with
 |atom s=>exact congrArg E.atom h
 |list l=>exact absurd h.symm hw
theorem kW:∀(e:E) (v:Vl),fP e=some v->v.cL=e/\v.hZ 100
 |
  .atom s,v,h=>by
  simp only[fP]at h
  split at h
  ·rename_i h1;cases h;exact⟨by rw[h1];rfl,trivial⟩
  ·split at h
   ·rename_i k hk
    cases h
    obtain⟨h1,h2⟩:=tA hk
    exact⟨by rw[h1];rfl,h2⟩
   ·cases h
 | .list [],_,h=>by cases h
 | .list [_],_,h=>by cases h
 | .list (_::_::_::_::_),_,h=>by cases h
 |
  .list [x,a],v,h=>by
  rw[fP]at h
  split at h
  ·cases h
  ·rename_i w hw
   obtain⟨h1,h2⟩:=kW a w hw
   split at h
   ·rename_i hx;cases h;rw[ko hx (by simp)];exact⟨by rw[Vl.cL,h1],h2⟩
   ·split at h
    ·rename_i hx;cases h;rw[ko hx (by simp)];exact⟨by rw[Vl.cL,h1],h2⟩
    ·split at h
     ·rename_i hx;cases h;rw[ko hx (by simp)];exact⟨by rw[Vl.cL,h1],h2⟩
     ·cases h
 |
  .list [x,a,b],v,h=>by
  rw[fP]at h
  split at h
  ·rename_i hx
   split at h
   ·rename_i w1 w2 hw1 hw2
    cases h
    obtain⟨h1,h2⟩:=kW a w1 hw1
    obtain⟨h3,h4⟩:=kW b w2 hw2
    rw[ko hx (by simp)]
    exact⟨by rw[Vl.cL,h1,h3],h2,h4⟩
   ·cases h
  ·cases h
def qo(e:E)(w:List UInt8)(k:Nat):Bool:=match e with| .list (x::l)=>decide (l.length+1=k)&&(x.at==w)|_=>false
theorem tJ(e:E)(w:List UInt8)(k:Nat)(hk:1<=k):an Tryz.prog 151 [e.cE,.v (.string (mk w)),.v (.int .i64 (k:Int))] [] (bK (.v (.bool (qo e w k)))):=by
 refine OV _ _ _ ((cU e).mpr trivial) ?_
 cases e with
 |atom s=>simp only[AN,E.cE,↓zq,zs,ae,zt,bK,qo];exact⟨by omega,fun h=>by omega,fun _=>trivial⟩
 |
  list l =>
  simp only[AN,E.cE,↓zq,zs,ae,zt,bK,rV]
  cases l with
  |nil=>exact⟨by simp,fun h=>by simp at h;omega,fun _=>rfl⟩
  |
   cons x l =>
   simp only[az]
   refine⟨by simp,fun h=>?_,fun h=>?_⟩
   ·have:decide (l.length+1=k)=true:=by rw[decide_eq_true_eq];omega
    simp only[qo,this]
    cases x<;>simp[E.mi,E.cE,bZ,pI,jL,dV,uC,toList_mk,E.at]
   ·have:decide (l.length+1=k)=false:=by rw[decide_eq_false_iff_not];omega
    simp only[qo,this];rfl
def jy:Option Vl->AV
 |some v=>v.cE
 |none=>.v (.pointer none)
end Go.Proofs.Trees
namespace Go.Proofs.Trees
open Go Go.VL Go.RowKit
theorem gv(v:Option Vl):LK.has .ptr (jy v)=True:=by cases v<;>simp[jy,aM,iF]
theorem Ad:∀(e:E),e.ok->an Tryz.prog 139 [e.cE] [] (bK (jy (fP e)))
 |
  .atom s,hok=>by
  refine JB _ ((cU _).mpr trivial) ?_
  have hd:=nM (.atom s)
  have hlen:=l6 (.atom s)
  simp only[E.at]at hd
  simp only[HA,↓zq,zs,ae,zt,bK,cU,ej,hd,fP]
  refine⟨hlen,fun h=>?_,fun h=>⟨hlen,?_⟩⟩
  ·rw[if_pos h];rfl
  ·rw[if_neg h]
   refine aj (Lg s) ?_
   simp only[↓zq,zs,ae,zt]
   refine⟨fun he=>⟨hlen,?_⟩,fun he=>?_⟩
   ·obtain⟨k,hk⟩:=bU.1 he
    obtain⟨h1,h2⟩:=tA hk
    rw[hk,h1];rfl
   ·have hn:fR s=none:=by cases hq:fR s<;>simp[hq]at he |-
    rw[hn]
    refine aj (tJ (.atom s) [108] 2 (by omega)) ?_
    simp only[qo,↓zq,zs,ae,zf]
    refine⟨fun h=>(by cases h),fun _=>aj (tJ (.atom s) [114] 2 (by omega)) ?_⟩
    simp only[qo,↓zq,zs,ae,zf]
    refine⟨fun h=>(by cases h),fun _=>aj (tJ (.atom s) [102] 2 (by omega)) ?_⟩
    simp only[qo,↓zq,zs,ae,zf]
    refine⟨fun h=>(by cases h),fun _=>aj (tJ (.atom s) [112] 3 (by omega)) ?_⟩
    simp only[qo,↓zq,zs,ae,zf]
    exact⟨fun h=>(by cases h),fun _=>rfl⟩
 |
  .list l,hok=>by
  refine JB _ ((cU _).mpr trivial) ?_
  have hd:=nM (.list l)
  have hlen:=l6 (.list l)
  have hlen2:∀{l:List E},((AV.v (.string (mk [])))::[AV.sl (E.mi l)]).length=2:=rfl
  simp only[E.at]at hd
  have he:fR []=none:=rfl
  simp only[HA,↓zq,zs,ae,zt,bK,cU,ej,hd]
  refine⟨hlen,fun h=>(by cases h),fun h=>⟨hlen,?_⟩⟩
  refine aj (Lg []) ?_
  rw[he]
  simp only[↓zq,zs,ae,zt,zf,bA]
  refine⟨fun h=>(by cases h),fun _=>aj (tJ (.list l) [108] 2 (by omega)) ?_⟩
  have hno:∀w:List UInt8,(∀x a,l≠[x,a])->qo (.list l) w 2=false:=by
   intro w h2
   match l,h2 with
   |[],_=>rfl
   |[x],_=>rfl
   |[x,a],h2=>exact absurd rfl (h2 x a)
   |x::y::z::l,_=>simp[qo]
  match l,hok,hno,hlen with
  |
   [x,a],hok,hno,hlen =>
   clear hno
   obtain⟨ok1,ok2,_⟩:=hok
   have e2:∀w:List UInt8,qo (.list [x,a]) w 2=(x.at==w):=fun w=>rfl
   have e3:qo (.list [x,a]) [112] 3=false:=rfl
   have hx:=nM x
   have hxl:=l6 x
   rw[fP]
   simp only[e2,↓zq,zs,ae]
   refine⟨fun h1=>?_,fun h1=>aj (tJ (.list [x,a]) [114] 2 (by omega)) ?_⟩
   ·simp only[E.cE,E.mi,toNat_one,↓zq,zs,ae,zt,cU,ej]
    refine⟨by omega,by omega,by omega,aj (Ad a ok2) ?_⟩
    cases hv:fP a with
    |none=>simp only[jy,↓zq,zs,ae,gv];exact⟨fun _=>trivial,fun h=>(by cases h)⟩
    |
     some v =>
     simp only[jy,↓zq,zs,ae,zt,aM,fC,hx,h1,cU,ej]
     refine⟨fun h=>(by cases h),fun _=>⟨by omega,by omega,by omega,hxl,by simp,?_⟩⟩
     rfl
   ·simp only[e2,↓zq,zs,ae]
    refine⟨fun h2=>?_,fun h2=>aj (tJ (.list [x,a]) [102] 2 (by omega)) ?_⟩
    ·simp only[E.cE,E.mi,toNat_one,↓zq,zs,ae,zt,cU,ej]
     refine⟨by omega,by omega,by omega,aj (Ad a ok2) ?_⟩
     cases hv:fP a with
     |none=>simp only[jy,↓zq,zs,ae,gv];exact⟨fun _=>trivial,fun h=>(by cases h)⟩
     |
      some v =>
      simp only[jy,↓zq,zs,ae,zt,aM,fC,hx,h2,cU,ej]
      refine⟨fun h=>(by cases h),fun _=>⟨by omega,by omega,by omega,hxl,by simp,?_⟩⟩
      rfl
    ·simp only[e2,↓zq,zs,ae]
     refine⟨fun h3=>?_,fun h3=>aj (tJ (.list [x,a]) [112] 3 (by omega)) ?_⟩
     ·simp only[E.cE,E.mi,toNat_one,↓zq,zs,ae,zt,cU,ej]
      refine⟨by omega,by omega,by omega,aj (Ad a ok2) ?_⟩
      cases hv:fP a with
      |none=>simp only[jy,↓zq,zs,ae,gv];exact⟨fun _=>trivial,fun h=>(by cases h)⟩
      |
       some v =>
       simp only[jy,↓zq,zs,ae,zt,aM,fC,hx,h3,cU,ej]
       refine⟨fun h=>(by cases h),fun _=>⟨by omega,by omega,by omega,hxl,by simp,?_⟩⟩
       rfl
     ·rw[e3]
      simp only[↓zq,zs,ae]
      refine⟨fun h=>(by cases h),fun _=>?_⟩
      cases fP a with
      |none=>rfl
      |some v=>simp only[if_neg h1,if_neg h2,if_neg h3];rfl
  |
   [x,a,b],hok,hno,hlen =>
   obtain⟨ok1,ok2,ok3,_⟩:=hok
   have h2:=fun w=>hno w (fun x a h=>(by cases h))
   rw[h2]
   simp only[↓zq,zs,ae]
   refine⟨fun h=>(by cases h),fun _=>aj (tJ (.list [x,a,b]) [114] 2 (by omega)) ?_⟩
   rw[h2]
   simp only[↓zq,zs,ae]
   refine⟨fun h=>(by cases h),fun _=>aj (tJ (.list [x,a,b]) [102] 2 (by omega)) ?_⟩
   rw[h2]
   simp only[↓zq,zs,ae]
   refine⟨fun h=>(by cases h),fun _=>aj (tJ (.list [x,a,b]) [112] 3 (by omega)) ?_⟩
   have e3:qo (.list [x,a,b]) [112] 3=(x.at==[112]):=rfl
   rw[e3,fP]
   simp only[↓zq,zs,ae]
   refine⟨fun h1=>?_,fun h1=>?_⟩
   ·rw[if_pos h1]
    simp only[E.cE,E.mi,toNat_one,bg,↓zq,zs,ae,zt,cU,ej]
    refine⟨by omega,by omega,by omega,aj (Ad a ok2) ?_⟩
    simp only[↓zq,zs,ae,gv,cU]
    refine⟨by omega,by omega,by omega,aj (Ad b ok3) ?_⟩
    cases hv:fP a with
    |none=>cases hw:fP b<;>simp only[jy,↓zq,zs,ae,gv,aM]<;>exact⟨fun _=>trivial,fun h=>(by cases h)⟩
    |
     some v =>
     cases hw:fP b with
     |
      none =>
      simp only[jy,↓zq,zs,ae,gv,aM,fC]
      exact⟨fun h=>(by cases h),fun _=>⟨fun _=>trivial,fun h=>(by cases h)⟩⟩
     |
      some w =>
      simp only[jy,↓zq,zs,ae,aM,fC]
      refine⟨fun h=>(by cases h),fun _=>⟨fun h=>(by cases h),fun _=>?_⟩⟩
      refine aj (zn _ _ ((aM _).mpr trivial) ((aM _).mpr trivial)) ?_
      simp only[↓zq,zs,ae];rfl
   ·rw[if_neg h1];rfl
  |
   [],hok,hno,hlen =>
   have h2:=fun w=>hno w (fun x a h=>(by cases h))
   have e3:qo (.list []) [112] 3=false:=rfl
   rw[h2]
   simp only[↓zq,zs,ae]
   refine⟨fun h=>(by cases h),fun _=>aj (tJ (.list []) [114] 2 (by omega)) ?_⟩
   rw[h2]
   simp only[↓zq,zs,ae]
   refine⟨fun h=>(by cases h),fun _=>aj (tJ (.list []) [102] 2 (by omega)) ?_⟩
   rw[h2]
   simp only[↓zq,zs,ae]
   refine⟨fun h=>(by cases h),fun _=>aj (tJ (.list []) [112] 3 (by omega)) ?_⟩
   rw[e3]
   simp only[↓zq,zs,ae]
   exact⟨fun h=>(by cases h),fun _=>rfl⟩
  |
   [x],hok,hno,hlen =>
   have h2:=fun w=>hno w (fun x a h=>(by cases h))
   have e3:qo (.list [x]) [112] 3=false:=rfl
   rw[h2]
   simp only[↓zq,zs,ae]
   refine⟨fun h=>(by cases h),fun _=>aj (tJ (.list [x]) [114] 2 (by omega)) ?_⟩
   rw[h2]
   simp only[↓zq,zs,ae]
   refine⟨fun h=>(by cases h),fun _=>aj (tJ (.list [x]) [102] 2 (by omega)) ?_⟩
   rw[h2]
   simp only[↓zq,zs,ae]
   refine⟨fun h=>(by cases h),fun _=>aj (tJ (.list [x]) [112] 3 (by omega)) ?_⟩
   rw[e3]
   simp only[↓zq,zs,ae]
   exact⟨fun h=>(by cases h),fun _=>rfl⟩
  |
   x::y::z::w::l,hok,hno,hlen =>
   have h2:=fun w=>hno w (fun x a h=>(by cases h))
   have e3:qo (.list (x::y::z::w::l)) [112] 3=false:=by simp[qo]
   rw[h2]
   simp only[↓zq,zs,ae]
   refine⟨fun h=>(by cases h),fun _=>aj (tJ (.list (x::y::z::w::l)) [114] 2 (by omega)) ?_⟩
   rw[h2]
   simp only[↓zq,zs,ae]
   refine⟨fun h=>(by cases h),fun _=>aj (tJ (.list (x::y::z::w::l)) [102] 2 (by omega)) ?_⟩
   rw[h2]
   simp only[↓zq,zs,ae]
   refine⟨fun h=>(by cases h),fun _=>aj (tJ (.list (x::y::z::w::l)) [112] 3 (by omega)) ?_⟩
   rw[e3]
   simp only[↓zq,zs,ae]
   exact⟨fun h=>(by cases h),fun _=>rfl⟩
def su(s:List UInt8):Option Vl:=match qN s with
 |none=>none
 |
  some e=>match fP e with
  |none=>none
  |some v=>if v.nodes>200 then none else some v
theorem lN{s:List UInt8}{v:Vl}(h:su s=some v):qN s=some v.cL/\v.hZ 100/\v.nodes<=200:=by
 unfold su at h
 split at h
 ·cases h
 ·rename_i e he
  split at h
  ·cases h
  ·rename_i w hw
   split at h
   ·cases h
   ·cases h
    obtain⟨h1,h2⟩:=kW e _ hw
    rw[h1]
    exact⟨he,h2,by omega⟩
theorem w9{e:E}{v:Vl}(h:fP e=some v):v.nodes<=e.sz:=by
 obtain⟨h1,_⟩:=kW e v h
 rw[<-n6,h1];exact BX e
theorem Pn(s:List UInt8):an Tryz.prog 100 [.v (.string (mk s))] [] (bK (jy (su s))):=by
 refine Qv _ ?_
 unfold Kl
 refine aj (Jq s) ?_
 unfold su
 cases he:qN s with
 |none=>simp only[ud,↓zq,zs,ae,bK,jy];simp
 |
  some e =>
  obtain⟨h1,h2⟩:=nZ he
  simp only[ud,↓zq,zs,ae,cU,ej]
  refine⟨fun h=>(by cases h),fun _=>?_⟩
  refine aj (Ad e h1) ?_
  cases hv:fP e with
  |none=>simp only[jy,↓zq,zs,ae,bK];simp
  |
   some v =>
   have hn:=w9 hv
   simp only[jy,↓zq,zs,ae,aM,fC]
   refine⟨fun h=>(by cases h),fun _=>?_⟩
   refine aj (EO v (by omega)) ?_
   simp only[↓zq,zs,ae,bK]
   refine⟨fun h=>?_,fun h=>?_⟩
   ·rw[if_pos (by omega)]
   ·rw[if_neg (by omega)]
theorem zR:∀(e:E),e.ok->an Tryz.prog 103 [e.kF] [] (bK (.v (.bool (yM e))))
 |
  .atom s,hok=>by
  refine zG _ _ ((bf).mpr trivial) ?_
  have hne:s≠[]:=hok
  simp only[Ix,↓zq,zs,ae,zt,bK,yM]
  refine⟨fun _=>⟨fun h=>?_,fun h=>?_⟩,fun h=>absurd h hne⟩
  ·simp[h]
  ·refine aj (JO s) ?_
   have h':(s==[117])=false:=by simpa using h
   simp only[↓zq,zs,ae,h',Bool.false_or]
   congr 2
   rw[A7]
   cases fR s with
   |none=>rfl
   |some k=>simp
 |
  .list [],hok=>by
  refine zG _ _ ((cf _).mpr trivial) ?_
  simp only[Ix,↓zq,zs,ae,zt,bK,yM]
  refine⟨fun h=>absurd rfl h,fun _=>?_⟩
  refine aj Sm ?_
  simp[↓zq,zs,ae,zt]
 |
  .list [x],hok=>by
  refine zG _ _ ((cf _).mpr trivial) ?_
  simp only[Ix,↓zq,zs,ae,zt,bK,yM]
  refine⟨fun h=>absurd rfl h,fun _=>?_⟩
  refine aj (u9 x _) ?_
  simp[↓zq,zs,ae,zt,E.bu]
 |
  .list (x::y::z::w::l),hok=>by
  refine zG _ _ ((cf _).mpr trivial) ?_
  simp only[Ix,↓zq,zs,ae,zt,bK,yM]
  refine⟨fun h=>absurd rfl h,fun _=>?_⟩
  refine aj (u9 x _) ?_
  simp only[↓zq,zs,ae,zt,E.bu]
  refine⟨fun _=>⟨fun h=>by omega,fun _=>trivial⟩,fun _=>⟨fun _=>⟨fun h=>by omega,fun _=>trivial⟩,fun _=>⟨fun _=>⟨fun h=>by omega,fun _=>trivial⟩,fun _=>⟨fun _=>⟨fun h=>by omega,fun _=>trivial⟩,fun _=>trivial⟩⟩⟩⟩
 |
  .list [x,a],hok=>by
  refine zG _ _ ((cf _).mpr trivial) ?_
  obtain⟨ok1,ok2,_⟩:=hok
  simp only[Ix,↓zq,zs,ae,zt,bK,yM]
  refine⟨fun h=>absurd rfl h,fun _=>?_⟩
  refine aj (u9 x _) ?_
  simp only[E.bu,toNat_one,bg,↓zq,zs,ae,zt,iV,gl,iS,mT,au]
  refine⟨fun h=>⟨fun _=>⟨by omega,?_⟩,fun h=>by omega⟩,fun h1=>⟨fun h=>⟨fun _=>⟨by omega,?_⟩,fun h=>by omega⟩,fun h2=>⟨fun h=>⟨fun _=>⟨by omega,?_⟩,fun h=>by omega⟩,fun h3=>⟨fun h=>⟨fun h=>by omega,fun _=>?_⟩,fun h=>?_⟩⟩⟩⟩
  ·refine aj (zR a ok2) ?_
   simp[↓zq,zs,ae,h]
  ·refine aj (zR a ok2) ?_
   simp[↓zq,zs,ae,h]
  ·refine aj (zR a ok2) ?_
   simp[↓zq,zs,ae,h]
  ·simp[h]
  ·simp[h1,h2,h3]
 |
  .list [x,a,b],hok=>by
  refine zG _ _ ((cf _).mpr trivial) ?_
  obtain⟨ok1,ok2,ok3,_⟩:=hok
  simp only[Ix,↓zq,zs,ae,zt,bK,yM]
  refine⟨fun h=>absurd rfl h,fun _=>?_⟩
  refine aj (u9 x _) ?_
  simp only[E.bu,toNat_one,bg,↓zq,zs,ae,zt,iV,gl,iS,mT,au]
  refine⟨fun h=>⟨fun h=>by omega,fun _=>?_⟩,fun h1=>⟨fun h=>⟨fun h=>by omega,fun _=>?_⟩,fun h2=>⟨fun h=>⟨fun h=>by omega,fun _=>?_⟩,fun h3=>⟨fun h=>⟨fun _=>⟨by omega,?_⟩,fun h=>by omega⟩,fun h=>?_⟩⟩⟩⟩
  ·simp[h]
  ·simp[h]
  ·simp[h]
  ·refine aj (zR a ok2) ?_
   simp only[↓zq,zs,ae,h]
   refine⟨fun ha=>⟨by omega,aj (zR b ok3) ?_⟩,fun ha=>?_⟩
   ·simp[↓zq,zs,ae,ha]
   ·simp[ha]
  ·simp[h]
theorem Et(s:List UInt8):an Tryz.prog 72 [.v (.string (mk s))] [] (jF ((su s).map Vl.cL) (su s).isSome):=by
 refine SA _ ?_
 unfold Of
 refine aP (N8 s) (jF.ne _ _ (fun h=>h)) ?_
 rintro r o ⟨c,d,hd,rfl,hh⟩
 simp only[↓zq,zs,ae,zt,bI,su]
 refine⟨hd,fun h=>?_,fun h=>?_⟩
 ·obtain⟨e,he,hce⟩:=hh h
  obtain⟨hok,hsz⟩:=nZ he
  rw[he,hce]
  refine aj (zR e hok) ?_
  simp only[↓zq,zs,ae]
  have hs:=oN e
  refine⟨fun hi=>?_,fun hi=>?_⟩
  ·rw[hi]at hs
   obtain⟨v,hv⟩:=bU.1 hs
   obtain⟨h1,h2⟩:=kW e v hv
   refine aj (Sg e (by omega)) ?_
   simp only[↓zq,zs,ae,hv]
   have hnd:e.nd=v.nodes:=by rw[<-h1,n6]
   rw[hnd]
   refine⟨c,d,hd,?_,?_⟩
   ·rw[hce]
    by_cases h4:v.nodes>200
    ·rw[if_pos h4];exact congrArg (fun b=>AV.cH [e.kF,.v (.bool b)]) (decide_eq_false (show ¬((v.nodes:Nat):Int)<=200 by omega))
    ·rw[if_neg h4];exact congrArg (fun b=>AV.cH [e.kF,.v (.bool b)]) (decide_eq_true (show ((v.nodes:Nat):Int)<=200 by omega))
   ·split
    ·exact fun h=>by cases h
    ·exact fun _=>⟨e,by simp[h1],hce⟩
  ·rw[hi]at hs
   have hn:fP e=none:=by cases hq:fP e<;>simp[hq]at hs |-
   rw[hn]
   exact⟨c,d,hd,by rw[hce];rfl,fun h=>by cases h⟩
 ·have hn:qN s=none:=by cases hq:qN s<;>simp[hq]at h |-
  rw[hn]
  exact⟨c,d,hd,rfl,fun h=>by cases h⟩
end Go.Proofs.Trees
namespace Go.Proofs.Trees
open Go Go.VL Go.RowKit
inductive Fr where
 |mk (s:List UInt8) (e:E) (o:List Fr)
def Fr.nm:Fr->List UInt8| .mk s _ _=>s
def Fr.ex:Fr->E| .mk _ e _=>e
def Fr.out:Fr->List Fr| .mk _ _ o=>o
def names:List Fr->List (List UInt8)
 |[]=>[]
 |f::r=>names r++[f.nm]
def zd(e:E)(o:List Fr):Ty:=(cS e (names o)).getD .zero
def E.sp:E->AV
 | .atom _=>.v (.slice none 0 0)
 | .list l=>.sl (E.bu l)
theorem fN(e:E):e.iv=[.v (.string (mk e.at)),e.sp]:=by cases e<;>rfl
theorem dm(e:E):e.kF=.agg [.v (.string (mk e.at)),e.sp]:=by cases e<;>rfl
theorem aX(e:E):LK.has .sl e.sp=True:=by cases e<;>simp[E.sp,bf,cf]
mutual
def Fr.cells:Fr->List AV
 | .mk s e o=>[.v (.string (mk s)),.v (.string (mk e.at)),e.sp,.sl (kb o)]
def kb:List Fr->List (List AV)
 |[]=>[]
 |f::r=>kb r++[f.cells]
end
mutual
def Fr.cE:Fr->AV
 | .mk s e o=>.ptr [(zd e o).av,oS o]
def oS:List Fr->AV
 |[]=>ir
 |f::r=>.ptr [f.cE,oS r]
end
inductive WF:List Fr->Prop
 |nil:WF []
 |cons {s:List UInt8} {x a b:E} {t:Ty} {r:List Fr} (hs:dk s=true) (hok:(E.list [x,a,b]).ok) (hx:x.at=[114,101,99]) (ht:cS (.list [x,a,b]) (names r)=some t) (hf:cc t=false) (hr:WF r):WF (.mk s (.list [x,a,b]) r::r)
theorem kQ:∀env:List Fr,(kb env).length=env.length
 |[]=>rfl
 |f::r=>by simp[kb,kQ r]
theorem er(env:List Fr):LK.has .ptr (oS env)=True:=by cases env<;>simp[oS,iF,bZ]
theorem CA(f:Fr):LK.has .ptr f.cE=True:=by cases f;simp[Fr.cE,bZ]
def findF(s:List UInt8):List Fr->Option Fr
 |[]=>none
 |f::r=>if f.nm=s then some f else findF s r
def hd(e:E)(env:List Fr):E×List Fr:=match findF e.at env with|some f=>(f.ex,f.out)|none=>(e,env)
theorem kZ{env:List Fr}(h:WF env):findF [] env=none:=by
 induction h with
 |nil=>rfl
 |
  @cons s x a b t r hs hok hx ht hf hr ih =>
  rw[findF,if_neg (show ¬(Fr.mk s (.list [x,a,b]) r).nm=[] from BQ hs)];exact ih
theorem Aa{env:List Fr}(h:WF env){s:List UInt8}{f:Fr}(hf:findF s env=some f):dk s=true:=by
 induction h with
 |nil=>cases hf
 |
  cons hs hok hx ht hf' hr ih =>
  rw[findF]at hf
  split at hf
  ·rename_i e;exact e ▸ hs
  ·exact ih hf
theorem pd{env:List Fr}(h:WF env){s:List UInt8}{f:Fr}(hf:findF s env=some f):∃x a b t,f.ex=.list [x,a,b]/\(E.list [x,a,b]).ok/\x.at=[114,101,99]/\cS f.ex (names f.out)=some t/\cc t=false/\WF f.out/\f.out.length<env.length:=by
 induction h with
 |nil=>cases hf
 |
  cons hs hok hx ht hf' hr ih =>
  rw[findF]at hf
  split at hf
  ·cases hf;exact⟨_,_,_,_,rfl,hok,hx,ht,hf',hr,by simp[Fr.out]⟩
  ·obtain⟨x,a,b,t,h1,h2,h3,h4,h5,h6,h7⟩:=ih hf
   exact⟨x,a,b,t,h1,h2,h3,h4,h5,h6,by simp;omega⟩
theorem kq(s w:List UInt8)(ar:List (List UInt8)):∀i,i<=ar.length->bR s (ar++[w]) i=(bR s ar i).map (·+1)
 |0,_=>rfl
 |
  i+1,hi=>by
  have hlt:i<ar.length:=by omega
  have e:(ar++[w]).getD i []=ar.getD i []:=by simp[aa,List.getElem?_append_left hlt]
  rw[bR,bR,e,kq s w ar i (by omega)]
  split
  ·simp only[aq,az,aG,ct,Option.some.injEq];omega
  ·rfl
theorem vm(s:List UInt8)(f:Fr)(r:List Fr):bR s (names (f::r)) (names (f::r)).length=if f.nm=s then some 0 else(bR s (names r) (names r).length).map (·+1):=by
 have e:(names (f::r)).length=(names r).length+1:=by simp[names]
 rw[e,bR]
 have e2:(names (f::r)).getD (names r).length []=f.nm:=by simp[names,aa]
 rw[e2]
 split
 ·rw[e];simp
 ·rw[names,kq _ _ _ _ (au _)]
theorem pf(s:List UInt8):∀env:List Fr,bR s (names env) (names env).length=none/\findF s env=none\/∃(u:Nat) (f:Fr),bR s (names env) (names env).length=some u/\findF s env=some f/\env[u]?=some f
 |[]=>.inl ⟨rfl,rfl⟩
 |
  f::r=>by
  rw[vm,findF]
  split
  ·exact .inr ⟨0,f,rfl,rfl,rfl⟩
  ·rcases pf s r with⟨h1,h2⟩|⟨u,g,h1,h2,h3⟩
   ·exact .inl ⟨by rw[h1];rfl,h2⟩
   ·exact .inr ⟨u+1,g,by rw[h1];rfl,h2,by simpa using h3⟩
def Ty.O8:Ty->Bool
 | .bound _=>true
 |_=>false
theorem gp{e:E}{env:List Fr}{t:Ty}(hw:WF env)(ht:cS e (names env)=some t) :
 (t.O8=false/\findF e.at env=none)\/∃(u:Nat) (f:Fr),t=.bound u/\findF e.at env=some f/\env[u]?=some f:=by
 cases e with
 |
  list l =>
  left
  refine⟨?_,kZ hw⟩
  match l,ht with
  |
   [x,a,b],ht =>
   by_cases h0:x.at=[43]
   ·obtain⟨t1,t2,_,_,rfl⟩:=fI h0 ht;rfl
   ·by_cases h1:x.at=[42]
    ·obtain⟨t1,t2,_,_,rfl⟩:=fq h1 ht;rfl
    ·by_cases h2:x.at=[114,101,99]
     ·obtain⟨t1,_,_,rfl⟩:=dw h2 ht;rfl
     ·rw[jd _ h0 h1 h2]at ht;cases ht
  |[],ht=>cases ht
  |[_],ht=>cases ht
  |[_,_],ht=>cases ht
  |_::_::_::_::_,ht=>cases ht
 |
  atom s =>
  simp only[cS]at ht
  have hno:dk s=false->findF s env=none:=fun h=>by
   cases hq:findF s env with
   |none=>rfl
   |some f=>rw[Aa hw hq]at h;cases h
  split at ht
  ·rename_i h;cases ht;subst h;exact .inl ⟨rfl,hno rfl⟩
  ·split at ht
   ·rename_i h;cases ht;subst h;exact .inl ⟨rfl,hno rfl⟩
   ·split at ht
    ·rename_i h
     cases ht
     refine .inl ⟨rfl,hno ?_⟩
     cases hq:dk s with
     |false=>rfl
     |
      true =>
      obtain⟨c,r,rfl,h1,h2⟩:=lB h
      obtain⟨c',r',he,h3,h4⟩:=lB hq
      cases he;omega
    ·split at ht
     ·rcases pf s env with⟨h1,h2⟩|⟨u,f,h1,h2,h3⟩
      ·rw[h1]at ht;cases ht;exact .inl ⟨rfl,h2⟩
      ·rw[h1]at ht;cases ht;exact .inr ⟨u,f,rfl,h2,h3⟩
     ·cases ht
def eY(n:Nat):Vl->E×List Fr->Bool
 | .u,p=>match hd p.1 p.2 with|(.atom s,_)=>s==[49]|_=>false
 | .el k,p=>match hd p.1 p.2 with|(.atom s,_)=>!(s==[49])&&(hJ s&&decide (k<n))|_=>false
 | .l w,p=>match hd p.1 p.2 with|(.list [x,a,b],o)=>(x.at==[43])&&eY n w (a,o)|_=>false
 | .r w,p=>match hd p.1 p.2 with|(.list [x,a,b],o)=>(x.at==[43])&&eY n w (b,o)|_=>false
 | .f w,p=>match hd p.1 p.2 with|(.list [x,a,b],o)=>(x.at==[114,101,99])&&eY n w (b,.mk a.at (.list [x,a,b]) o::o)|_=>false
 | .p v w,p=>match hd p.1 p.2 with|(.list [x,a,b],o)=>(x.at==[42])&&(eY n v (a,o)&&eY n w (b,o))|_=>false
theorem kf{e:E}{env:List Fr}(h:findF e.at env=none):hd e env=(e,env):=by rw[hd,h]
theorem qU{e:E}{env:List Fr}{f:Fr}(h:findF e.at env=some f):hd e env=(f.ex,f.out):=by rw[hd,h]
theorem pW{x a b:E}{o:List Fr}(h:WF o):hd (.list [x,a,b]) o=(.list [x,a,b],o):=kf (kZ h)
theorem uk(n:Nat)(v:Vl){e e':E}{env o:List Fr}(h:hd e env=(e',o))(h':hd e' o=(e',o)):eY n v (e,env)=eY n v (e',o):=by
 cases v<;>simp only[eY,h,h']
theorem ju{x a b:E}{env:List Fr}{t:Ty}(hw:WF env)(hok:(E.list [x,a,b]).ok)(hx:x.at=[114,101,99])(ht:cS (.list [x,a,b]) (names env)=some t)(hf:cc t=false) :
 ∃t1,t=.rc t1/\cS b (names (.mk a.at (.list [x,a,b]) env::env))=some t1/\cc t1=false/\WF (.mk a.at (.list [x,a,b]) env::env):=by
 obtain⟨t1,hl,h1,rfl⟩:=dw hx ht
 exact⟨t1,rfl,h1,hf,.cons hl hok hx ht hf hw⟩
theorem zm(a b env:AV)(n:Int)(s:ByteArray)(u:Int)(ha:LK.ptr.has a)(he:LK.ptr.has env):an Tryz.prog 107 [.agg [.ptr [.v (.int .u8 n),.v (.string s),.v (.int .i64 u),a,b],env]] [] (bK (.agg [a,env])):=by
 refine Q0 _ _ ((bZ _).mpr trivial) he ?_
 simp only[NK,↓zq,zs,ae,bK]
 exact⟨ha,by omega⟩
theorem Af(a b env:AV)(n:Int)(s:ByteArray)(u:Int)(hb:LK.ptr.has b)(he:LK.ptr.has env):an Tryz.prog 108 [.agg [.ptr [.v (.int .u8 n),.v (.string s),.v (.int .i64 u),a,b],env]] [] (bK (.agg [b,env])):=by
 refine Qq _ _ ((bZ _).mpr trivial) he ?_
 simp only[Jw,↓zq,zs,ae,bK]
 exact⟨hb,by omega⟩
theorem R9(t:Ty)(env:List Fr)(s:List UInt8)(e:E)(ht:zd e env=.rc t):an Tryz.prog 77 [.agg [(Ty.rc t).av,oS env]] [] (bK (.cH [.agg [t.av,oS (.mk s e env::env)],(Fr.mk s e env).cE])):=by
 refine Ri _ _ ((aE _).mpr trivial) ((er _).mpr trivial) ?_
 simp only[I6,Ty.av,↓zq,zs,ae,aE,bK,oS,Fr.cE,ht]
 omega
theorem tG(env:List Fr)(i:Nat)(f:Fr)(h:env[i]?=some f):oS (env.drop i)=.ptr [f.cE,oS (env.drop (i+1))]:=by
 obtain⟨hlt,he⟩:=List.getElem?_eq_some_iff.1 h
 rw[aS hlt,he,oS]
theorem LO(env:List Fr)(u:Nat)(hu:u<env.length)(hl:env.length<1000000):∀(k i:Nat),i+k=u->Db [oS (env.drop i),.v (.int .i64 (u:Int)),.v (.int .i64 (i:Int))] [] (gI 1 [oS (env.drop u)] [])
 |
  0,i,hi=>by
  refine Ea _ _ _ ?_
  have:i=u:=by omega
  subst this
  simp only[Ck,↓zq,zs,ae,er]
  exact⟨fun h=>by omega,fun _=>by simp[gI]⟩
 |
  k+1,i,hi=>by
  refine Ea _ _ _ ?_
  have hlt:i<env.length:=by omega
  have hg:env[i]?=some env[i]:=bp hlt
  have hd:=tG env i _ hg
  rw[hd]
  simp only[Ck,↓zq,zs,ae,er]
  refine⟨fun _=>⟨by omega,?_⟩,fun h=>by omega⟩
  rw[bz i (by omega)]
  exact LO env u hu hl k (i+1) (by omega)
theorem Su(env:List Fr)(u:Nat)(f:Fr)(hf:env[u]?=some f)(hl:env.length<1000000):an Tryz.prog 141 [.agg [(Ty.bound u).av,oS env]] [] (bK f.cE):=by
 refine KB _ _ ((aE _).mpr trivial) ((er _).mpr trivial) ?_
 obtain⟨hlt,he⟩:=List.getElem?_eq_some_iff.1 hf
 simp only[Gi,Ty.av,↓zq,zs,ae]
 refine⟨by omega,?_⟩
 have h:=LO env u hlt hl u 0 (by omega)
 simp only[bb]at h
 refine cz h ?_
 rw[tG env u f hf]
 simp only[↓zq,zs,ae,CA,bK]
 omega
theorem Ez(k:Nat)(h:k<100):Lib.atoi (dd k)=some (k:Int):=by
 have e:∀k,k<100->dd k=if k<10 then [bj (48+k)]else [bj (48+k/10),bj (48+k%10)]:=by
  intro k hk
  by_cases h1:k<10
  ·rw[eI h1,if_pos h1]
  ·rw[fT h1,eI (by omega),if_neg h1];rfl
 have key:∀k:Fin 100,Lib.atoi (if k.val<10 then [bj (48+k.val)]else [bj (48+k.val/10),bj (48+k.val%10)])=some (k.val:Int):=by decide +kernel
 rw[e k h];exact key ⟨k,h⟩
theorem Qe(k:Nat)(hk:k<100):an Tryz.prog 140 [.v (.string (mk (dd k)))] [] (bK (.cH [.v (.int .i64 (k:Int)),.v .nilIface])):=by
 have hl:=mL 1000 k (by omega)
 have hl2:(dd k).length<=18:=by
  have e:(dd k).length<=2:=by
   by_cases h1:k<10
   ·rw[eI h1];simp
   ·rw[fT h1,eI (by omega)];simp
  omega
 refine an.R5 (xs:=[.string (mk (dd k))]) (v:=.tuple #[.int .i64 (k:Int),.nilIface]) ⟨qA,by kernel_rfl,by kernel_rfl,by kernel_rfl⟩ (fun M=>?_) fun w=>?_
 ·refine bF.cH _ _ [.int .i64 (k:Int),.nilIface] rfl fun i hi=>?_
  match i,hi with
  |0,_=>exact .v _ _
  |1,_=>exact .v _ _
 ·have:=Any.strconv_Atoi Tryz.Dn (mk (dd k)) (k:Int) (by rw[cM];exact hl2) (by
   have:(mk (dd k)).data.toList=dd k:=by simp[mk]
   rw[this];exact Ez k hk) w
  refine Calls.mono this fun e w' ⟨h1,t,h2⟩=>⟨h1,?_⟩
  subst h2
  refine⟨rfl,rfl,rfl,?_,fun b hb=>Lib.bytesWorld_at_old _ _ _ _ hb⟩
  simp[Lib.bytesWorld,World.freeze]
end Go.Proofs.Trees
namespace Go.Proofs.Trees
open Go Go.VL Go.RowKit
theorem fA{a b:Ty}(h:cc (.plus a b)=false):cc a=false/\cc b=false:=by simpa[cc]using h
theorem eX{a b:Ty}(h:cc (.times a b)=false):cc a=false/\cc b=false:=by simpa[cc]using h
theorem fK{e:E}{ar:List (List UInt8)}{t:Ty}(ht:cS e ar=some t)(hb:t.O8=false)(hf:cc t=false) :
 (e=.atom [48]/\t=.zero)\/(e=.atom [49]/\t=.one)\/(∃s,e=.atom s/\t=.name s/\hJ s=true/\s≠[48]/\s≠[49]) ∨
 (∃x a b t1 t2,e=.list [x,a,b]/\x.at=[43]/\t=.plus t1 t2/\cS a ar=some t1/\cS b ar=some t2) ∨
 (∃x a b t1 t2,e=.list [x,a,b]/\x.at=[42]/\t=.times t1 t2/\cS a ar=some t1/\cS b ar=some t2) ∨
 (∃x a b t1,e=.list [x,a,b]/\x.at=[114,101,99]/\t=.rc t1):=by
 cases e with
 |
  list l =>
  match l,ht with
  |
   [x,a,b],ht =>
   by_cases h0:x.at=[43]
   ·obtain⟨t1,t2,h1,h2,rfl⟩:=fI h0 ht
    exact .inr (.inr (.inr (.inl ⟨x,a,b,t1,t2,rfl,h0,rfl,h1,h2⟩)))
   ·by_cases h1:x.at=[42]
    ·obtain⟨t1,t2,h3,h2,rfl⟩:=fq h1 ht
     exact .inr (.inr (.inr (.inr (.inl ⟨x,a,b,t1,t2,rfl,h1,rfl,h3,h2⟩))))
    ·by_cases h2:x.at=[114,101,99]
     ·obtain⟨t1,_,_,rfl⟩:=dw h2 ht
      exact .inr (.inr (.inr (.inr (.inr ⟨x,a,b,t1,rfl,h2,rfl⟩))))
     ·rw[jd _ h0 h1 h2]at ht;cases ht
  |[],ht=>cases ht
  |[_],ht=>cases ht
  |[_,_],ht=>cases ht
  |_::_::_::_::_,ht=>cases ht
 |
  atom s =>
  simp only[cS]at ht
  split at ht
  ·rename_i h;cases ht;subst h;exact .inl ⟨rfl,rfl⟩
  ·rename_i h0
   split at ht
   ·rename_i h;cases ht;subst h;exact .inr (.inl ⟨rfl,rfl⟩)
   ·rename_i h1
    split at ht
    ·rename_i h;cases ht;exact .inr (.inr (.inl ⟨s,rfl,rfl,h,h0,h1⟩))
    ·split at ht
     ·rename_i h
      split at ht
      ·cases ht;cases hb
      ·cases ht;simp only[cc]at hf;rw[h]at hf;cases hf
     ·cases ht
def qp(n:Nat)(v:Vl)(e:E)(env:List Fr)(t:Ty):Prop:=an Tryz.prog 101 [.agg [t.av,oS env],v.cE,.v (.int .i64 (n:Int))] [] (bK (.v (.bool (eY n v (e,env)))))
structure Ask(e:E)(env:List Fr)(t:Ty):Prop where
 ok:e.ok
 wf:WF env
 ty:cS e (names env)=some t
 cl:cc t=false
theorem Jv(n:Nat)(hn:n<=100)(v:Vl)(hv:v.hZ 100)(IH:∀w:Vl,w.nodes<v.nodes->w.hZ 100->∀e env t,Ask e env t->env.length+w.nodes<100000->qp n w e env t)
 (e:E) (env:List Fr) (t:Ty) (A:Ask e env t) (hl:env.length+v.nodes<100000) (hb:t.O8=false) (hh:findF e.at env=none):qp n v e env t:=by
 have hhd:hd e env=(e,env):=kf hh
 unfold qp
 refine My _ _ _ _ ((aE _).mpr trivial) ((er _).mpr trivial) ((aM _).mpr trivial) ?_
 rcases fK A.ty hb A.cl with⟨rfl,rfl⟩|⟨rfl,rfl⟩|⟨s,rfl,rfl,hp,h0,h1⟩|⟨x,a,b,t1,t2,rfl,hx,rfl,ha,hbb⟩|⟨x,a,b,t1,t2,rfl,hx,rfl,ha,hbb⟩|⟨x,a,b,t1,rfl,hx,rfl⟩
 ·have hp0:hJ [48]=false:=rfl
  cases v<;>simp[Ay,Ty.av,↓zq,zs,ae,bK,eY,hhd,hp0]
 ·have hp0:hJ [49]=false:=rfl
  cases v<;>simp[Ay,Ty.av,Vl.cE,↓zq,zs,ae,bK,eY,hhd,hp0]
 ·have h1':(s==[49])=false:=by simpa using h1
  cases v with
  |
   el k =>
   have hk:k<100:=hv
   simp only[Ay,Ty.av,Vl.cE,↓zq,zs,ae,zt]
   refine⟨by omega,fun h=>by omega,fun _=>⟨fun _=>⟨by omega,fun h=>absurd rfl h,fun _=>⟨by omega,by omega,?_⟩⟩,fun h=>absurd rfl h⟩⟩
   have e1:(List.take ((dd k).length+1) (xw k)).drop (bL 1)=dd k:=by simp[xw]
   rw[e1]
   refine aj (Qe k hk) ?_
   simp only[↓zq,zs,ae,bK,eY,hhd,h1',hp,zf]
   refine⟨rfl,?_⟩
   congr 2
   rw[cx];simp
  |
   _ =>
   simp only[Ay,Ty.av,Vl.cE,↓zq,zs,ae,zt,eY,hhd,h1',bK]
   exact⟨by omega,fun h=>by omega,fun _=>⟨fun _=>⟨by omega,fun _=>trivial,fun h=>by omega⟩,fun h=>absurd rfl h⟩⟩
 ·have hok:=A.ok
  obtain⟨ok1,ok2,ok3,_⟩:=hok
  obtain⟨f1,f2⟩:=fA A.cl
  cases v with
  |
   l w =>
   simp only[Vl.nodes]at hl
   simp only[Ay,Ty.av,Vl.cE,↓zq,zs,ae]
   refine⟨by omega,fun h=>by omega,fun _=>⟨fun h=>by omega,fun _=>⟨fun h=>by omega,fun _=>⟨fun _=>⟨by omega,fun _=>?_,fun h=>absurd rfl h⟩,fun h=>absurd rfl h⟩⟩⟩⟩
   refine aj (zm _ _ _ _ _ _ ((aE _).mpr trivial) ((er _).mpr trivial)) ?_
   simp only[↓zq,zs,ae,bI,aE,er,aM]
   refine⟨by omega,?_⟩
   refine aj (IH w (by simp only[Vl.nodes];omega) hv a env t1 ⟨ok2,A.wf,ha,f1⟩ (by omega)) ?_
   simp only[↓zq,zs,ae,bK,eY,hhd,hx]
   refine⟨fun h=>?_,fun h=>⟨by omega,fun h=>by omega,fun _=>?_⟩⟩
   ·simp[h]
   ·simp[h]
  |
   r w =>
   simp only[Vl.nodes]at hl
   simp only[Ay,Ty.av,Vl.cE,↓zq,zs,ae]
   refine⟨by omega,fun h=>by omega,fun _=>⟨fun h=>by omega,fun _=>⟨fun h=>by omega,fun _=>⟨fun _=>⟨by omega,fun h=>by omega,fun _=>⟨by omega,fun _=>?_,fun h=>absurd rfl h⟩⟩,fun h=>absurd rfl h⟩⟩⟩⟩
   refine aj (Af _ _ _ _ _ _ ((aE _).mpr trivial) ((er _).mpr trivial)) ?_
   simp only[↓zq,zs,ae,bI,aE,er,aM]
   refine⟨by omega,?_⟩
   refine aj (IH w (by simp only[Vl.nodes];omega) hv b env t2 ⟨ok3,A.wf,hbb,f2⟩ (by omega)) ?_
   simp[↓zq,zs,ae,bK,eY,hhd,hx]
  |
   _ =>
   simp only[Ay,Ty.av,Vl.cE,↓zq,zs,ae,eY,hhd,bK]
   exact⟨by omega,fun h=>by omega,fun _=>⟨fun h=>by omega,fun _=>⟨fun h=>by omega,fun _=>⟨fun _=>⟨by omega,fun h=>by omega,fun _=>⟨by omega,fun h=>by omega,fun _=>by simp[hx]⟩⟩,fun h=>absurd rfl h⟩⟩⟩⟩
 ·have hok:=A.ok
  obtain⟨ok1,ok2,ok3,_⟩:=hok
  obtain⟨f1,f2⟩:=eX A.cl
  cases v with
  |
   p v w =>
   simp only[Vl.nodes]at hl
   simp only[Ay,Ty.av,Vl.cE,↓zq,zs,ae]
   refine⟨by omega,fun h=>by omega,fun _=>⟨fun h=>by omega,fun _=>⟨fun h=>by omega,fun _=>⟨fun h=>by omega,fun _=>⟨fun _=>⟨by omega,fun _=>?_,fun h=>absurd rfl h⟩,fun h=>absurd rfl h⟩⟩⟩⟩⟩
   refine aj (zm _ _ _ _ _ _ ((aE _).mpr trivial) ((er _).mpr trivial)) ?_
   simp only[↓zq,zs,ae,bI,aE,er,aM]
   refine⟨by omega,?_⟩
   refine aj (IH v (by simp only[Vl.nodes];omega) hv.1 a env t1 ⟨ok2,A.wf,ha,f1⟩ (by omega)) ?_
   simp only[↓zq,zs,ae,bK,eY,hhd,hx]
   refine⟨fun h=>?_,fun h=>?_⟩
   ·refine aj (Af _ _ _ _ _ _ ((aE _).mpr trivial) ((er _).mpr trivial)) ?_
    simp only[↓zq,zs,ae,bI,aE,er,aM]
    refine⟨by omega,?_⟩
    refine aj (IH w (by simp only[Vl.nodes];omega) hv.2 b env t2 ⟨ok3,A.wf,hbb,f2⟩ (by omega)) ?_
    simp[↓zq,zs,ae,h]
   ·simp[h]
  |
   _ =>
   simp only[Ay,Ty.av,Vl.cE,↓zq,zs,ae,eY,hhd,bK]
   exact⟨by omega,fun h=>by omega,fun _=>⟨fun h=>by omega,fun _=>⟨fun h=>by omega,fun _=>⟨fun h=>by omega,fun _=>⟨fun _=>⟨by omega,fun h=>by omega,fun _=>by simp[hx]⟩,fun h=>absurd rfl h⟩⟩⟩⟩⟩
 ·obtain⟨t1',he1,h1,f1,hw1⟩:=ju A.wf A.ok hx A.ty A.cl
  cases he1
  have hok:=A.ok
  obtain⟨ok1,ok2,ok3,_⟩:=hok
  have htD:zd (.list [x,a,b]) env=.rc t1:=by rw[zd,A.ty];rfl
  have hin:=R9 t1 env a.at (.list [x,a,b]) htD
  simp only[Ty.av]at hin
  simp only[Ay,Ty.av,↓zq,zs,ae]
  refine⟨by omega,fun h=>by omega,fun _=>⟨fun h=>by omega,fun _=>⟨fun h=>by omega,fun _=>⟨fun h=>by omega,fun _=>⟨fun h=>by omega,fun _=>⟨fun _=>?_,fun h=>absurd rfl h⟩⟩⟩⟩⟩⟩
  refine aj hin ?_
  simp only[↓zq,zs,ae,bI,aE,er,CA,aM,fC]
  cases v with
  |
   f w =>
   simp only[Vl.nodes]at hl
   simp only[Vl.cE,↓zq,zs,ae,aM]
   refine⟨by omega,fun _=>⟨by omega,?_⟩,fun h=>absurd rfl h⟩
   refine aj (IH w (by simp only[Vl.nodes];omega) hv b (.mk a.at (.list [x,a,b]) env::env) t1 ⟨ok3,hw1,h1,f1⟩ (by simp;omega)) ?_
   simp[↓zq,zs,ae,bK,eY,hhd,hx]
  |
   _ =>
   simp only[Vl.cE,↓zq,zs,ae,eY,hhd,bK]
   exact⟨by omega,fun h=>by omega,fun _=>by simp[hx]⟩
theorem OX(n:Nat)(hn:n<=100):∀(m:Nat) (v:Vl),v.nodes<m->v.hZ 100->∀e env t,Ask e env t->env.length+v.nodes<100000->qp n v e env t
 |0,v,h,_=>by omega
 |
  m+1,v,h,hv=>by
  intro e env t A hl
  have IH:∀w:Vl,w.nodes<v.nodes->w.hZ 100->∀e env t,Ask e env t->env.length+w.nodes<100000->qp n w e env t:=fun w hw hb=>OX n hn m w (by omega) hb
  rcases gp A.wf A.ty with⟨hb,hh⟩|⟨u,f,rfl,hh,hu⟩
  ·exact Jv n hn v hv IH e env t A hl hb hh
  ·obtain⟨x,a,b,t',hfe,hok,hx,ht',hf',hwf,hlt⟩:=pd A.wf hh
   obtain⟨t1,hl1,h1,rfl⟩:=dw hx (hfe ▸ ht')
   have hvis:eY n v (e,env)=eY n v (f.ex,f.out):=uk n v (qU hh) (by rw[hfe];exact pW hwf)
   unfold qp
   refine My _ _ _ _ ((aE _).mpr trivial) ((er _).mpr trivial) ((aM _).mpr trivial) ?_
   have hbd:=Su env u f hu (by omega)
   simp only[Ty.av]at hbd
   simp only[Ay,Ty.av,↓zq,zs,ae]
   refine⟨by omega,fun h=>by omega,fun _=>⟨fun h=>by omega,fun _=>⟨fun _=>?_,fun h=>absurd rfl h⟩⟩⟩
   refine aj hbd ?_
   cases f with
   |
    mk s ee oo =>
    simp only[Fr.ex,Fr.out]at hfe ht' hf' hwf hvis hlt
    have htD:zd ee oo=.rc t1:=by rw[zd,ht'];rfl
    simp only[Fr.cE,htD,↓zq,zs,ae,bI,aE,er]
    refine⟨by omega,?_⟩
    have hs:=Jv n hn v hv IH ee oo (.rc t1) ⟨by rw[hfe];exact hok,hwf,ht',hf'⟩ (by omega) rfl (by rw[hfe];exact kZ hwf)
    unfold qp at hs
    refine aj hs ?_
    simp[↓zq,zs,ae,bK,hvis]
end Go.Proofs.Trees
namespace Go.Proofs.Trees
open Go Go.VL Go.RowKit
theorem sW:∀(env:List Fr) (k:Nat) (f:Fr),env[k]?=some f->(kb env).getD (env.length-1-k) []=f.cells
 |[],k,f,h=>by cases h
 |
  g::r,0,f,h=>by
  cases h
  have:(g::r).length-1-0=(kb r).length:=by simp[kQ]
  rw[this,kb];simp[aa]
 |
  g::r,k+1,f,h=>by
  have h':r[k]?=some f:=by simpa using h
  have hlt:=(List.getElem?_eq_some_iff.1 h').1
  have e:(g::r).length-1-(k+1)=r.length-1-k:=by simp;omega
  have:=sW r k f h'
  rw[e,kb,aa,List.getElem?_append_left (by rw[kQ];omega),<-aa]
  exact this
theorem rp(f:Fr):f.cells=[.v (.string (mk f.nm)),.v (.string (mk f.ex.at)),f.ex.sp,.sl (kb f.out)]:=by cases f;rfl
theorem Lk(e:E)(env:List Fr)(hl:env.length<1000000):∀(j k:Nat),k+j=env.length->Gh [.sl (kb env),.v (.int .i64 ((env.length:Int)-1-(k:Int)))] [.cells [.v (.string (mk e.at)),e.sp],.cells [.v (.string (mk [])),.v (.slice none 0 0)]]
 (po (match findF e.at (env.drop k)with|some f=>(2,[.sl (kb f.out)],[.cells [.v (.string (mk f.ex.at)),f.ex.sp]])|none=>(1,[.sl (kb env)],[.cells [.v (.string (mk e.at)),e.sp],.cells [.v (.string (mk [])),.v (.slice none 0 0)]])))
 |
  0,k,hk=>by
  refine Km _ _ _ _ _ _ ?_
  have hd:env.drop k=[]:=bV (by omega)
  simp only[IP,↓zq,zs,ae,aX,hd,findF]
  exact⟨fun h=>by omega,fun _=>by first|trivial|rfl⟩
 |
  j+1,k,hk=>by
  refine Km _ _ _ _ _ _ ?_
  have hlt:k<env.length:=by omega
  have hg:env[k]?=some env[k]:=bp hlt
  have hc:=sW env k _ hg
  have e1:((env.length:Int)-1-(k:Int))=((env.length-1-k:Nat):Int):=by omega
  have hdr:env.drop k=env[k]::env.drop (k+1):=aS hlt
  rw[hdr,findF,e1]
  simp only[IP,bG,hc,rp,↓zq,zs,ae,zt,aX,kQ,bI]
  refine⟨fun _=>⟨by omega,by omega,fun h=>⟨by omega,by omega,by omega,by omega,?_⟩,fun h=>?_⟩,fun h=>by omega⟩
  ·rw[if_pos h]
  ·rw[if_neg h]
   have e2:IntKind.wrap .i64 (((env.length-1-k:Nat):Int)-1)=(env.length:Int)-1-((k+1:Nat):Int):=by
    have:IntKind.wrap .i64 (((env.length-1-k:Nat):Int)-1)=((env.length-1-k:Nat):Int)-1:=wrap64 _ (by omega) (by omega)
    omega
   rw[e2]
   exact Lk e env hl j (k+1) (by omega)
theorem Pz(e:E)(env:List Fr)(hl:env.length<1000000):an Tryz.prog 125 [e.kF,.sl (kb env)] [] (bK (.cH [(hd e env).1.kF,.sl (kb (hd e env).2)])):=by
 rw[dm e]
 refine SL _ _ _ ((aX _).mpr trivial) ((cf _).mpr trivial) ?_
 simp only[Na,↓zq,zs,ae,kQ,bK]
 have h:=Lk e env hl env.length 0 (by omega)
 simp only[bb]at h
 rw[wrap64 _ (by omega) (by omega)]
 rw[show (env.length:Int)-1-((0:Nat):Int)=(env.length:Int)-1 by omega]at h
 refine fF h (fun ys o e'=>?_) (fun ys o e'=>?_)
 ·unfold hd
  cases hq:findF e.at env<;>rw[hq]at e'<;>cases e'
  simp only[↓zq,zs,ae,zt,aX,dm]
 ·unfold hd
  cases hq:findF e.at env<;>rw[hq]at e'<;>cases e'
  simp only[↓zq,zs,ae,zt,aX,dm]
theorem qi:∀env:List Fr,cC 4 (kb env)
 |[]=>fun c hc=>by cases hc
 |
  f::r=>fun c hc=>by
  simp only[kb,aN,aQ]at hc
  rcases hc with hc|rfl
  ·exact qi r c hc
  ·rw[rp];rfl
theorem QX(x a b:E)(env:List Fr)(hl:env.length<1000000):an Tryz.prog 128 [(E.list [x,a,b]).kF,.sl (kb env)] [] (bK (.cH [b.kF,.sl (kb (.mk a.at (.list [x,a,b]) env::env))])):=by
 refine S6 _ _ _ ((cf _).mpr trivial) ((cf _).mpr trivial) ?_
 simp only[OK,E.bu,toNat_one,bg,↓zq,zs,ae,zt,iV,gl,iS,mT,au,kQ,bK,aU]
 refine⟨by omega,⟨qi env,by omega⟩,by omega,by omega,⟨fun c hc=>(by simp at hc;rw[hc];rfl),by omega⟩,?_⟩
 simp only[kb,rp,Fr.nm,Fr.ex,Fr.out,E.at,E.sp,E.bu]
theorem Dp(s:ByteArray)(e:E):bI [.str,.sl] [.v (.string s),e.sp] 0=True:=by apply eq_true;simp[bI,dV,aX]
theorem Ht{e:E}{env:List Fr}{t:Ty}(A:Ask e env t):∃e' o t',hd e env=(e',o)/\Ask e' o t'/\t'.O8=false/\hd e' o=(e',o)/\o.length<=env.length:=by
 rcases gp A.wf A.ty with⟨hb,hh⟩|⟨u,f,rfl,hh,hu⟩
 ·exact⟨e,env,t,kf hh,A,hb,kf hh,au _⟩
 ·obtain⟨x,a,b,t',hfe,hok,hx,ht',hf',hwf,hlt⟩:=pd A.wf hh
  refine⟨f.ex,f.out,t',qU hh,⟨by rw[hfe];exact hok,hwf,ht',hf'⟩,?_,?_,by omega⟩
  ·obtain⟨t1,_,_,rfl⟩:=dw hx (hfe ▸ ht');rfl
  ·rw[hfe];exact pW hwf
def vh:Vl->List UInt8
 | .l _=>[108]
 | .r _=>[114]
 | .f _=>[102]
 | .p _ _=>[112]
 |_=>[]
theorem AY(v:Vl):an Tryz.prog 86 [v.cL.kF] [] (bK (.v (.string (mk (vh v))))):=by
 cases v with
 |u=>exact zX _ _ ((bf).mpr trivial) (by simp)
 |el k=>exact zX _ _ ((bf).mpr trivial) (by simp)
 |l v=>exact u9 _ _
 |r v=>exact u9 _ _
 |f v=>exact u9 _ _
 |p v w=>exact u9 _ _
theorem TD(v:Vl)(hv:v.hZ 100):v.cL.at=(match v with| .u=>[117]| .el k=>xw k|_=>[])/\A7 v.cL.at=(match v with| .el k=>(k:Int)|_=>-1):=by
 cases v with
 |el k=>exact⟨rfl,Fx k hv⟩
 |u=>exact⟨rfl,rfl⟩
 |_=>exact⟨rfl,rfl⟩
theorem z8(n:Nat)(hn:n<=100):∀(m:Nat) (v:Vl),v.nodes<m->v.hZ 100->∀e env t,Ask e env t->env.length+v.nodes<100000->an Tryz.prog 94 [e.kF,.sl (kb env),v.cL.kF,.v (.int .i64 (n:Int))] [] (bK (.v (.bool (eY n v (e,env)))))
 |0,v,hm,hv,e,env,t,A,hl=>by omega
 |
  m+1,v,hm,hv,e,env,t,A,hl=>by
  obtain⟨e',o,t',hhd,A',hb,hh',hlen⟩:=Ht A
  rw[uk n v hhd hh',dm e,dm v.cL]
  refine RS _ _ _ _ _ _ ((aX _).mpr trivial) ((cf _).mpr trivial) ((aX _).mpr trivial) ?_
  have hf:=Pz e env (by omega)
  rw[dm e,hhd]at hf
  have hvh:=AY v
  rw[dm]at hvh
  unfold K2
  refine aj hf ?_
  simp only[dm e',↓zq,zs,ae,zt,aX,Dp,bK]
  rcases fK A'.ty hb A'.cl with⟨rfl,rfl⟩|⟨rfl,rfl⟩|⟨s,rfl,rfl,hp,h0,h1⟩|⟨x,a,b,t1,t2,rfl,hx,rfl,ha,hbb⟩|⟨x,a,b,t1,t2,rfl,hx,rfl,ha,hbb⟩|⟨x,a,b,t1,rfl,hx,rfl⟩
  ·refine⟨fun _=>⟨fun h=>by simp[E.at]at h,fun _=>aj (HQ _) ?_⟩,fun h=>by simp[E.at]at h⟩
   have hp0:hJ (E.atom [48]).at=false:=rfl
   have hp1:hJ [48]=false:=rfl
   cases v<;>simp[↓zq,zs,ae,hp0,eY,hh',hp1]
  ·refine⟨fun _=>⟨fun _=>?_,fun h=>absurd rfl h⟩,fun h=>by simp[E.at]at h⟩
   have hp1:hJ [49]=false:=rfl
   cases v<;>simp[eY,hh',hp1,Vl.cL,E.at]
  ·have hne:s≠[]:=A'.ok
   have h1':(s==[49])=false:=by simpa using h1
   refine⟨fun _=>⟨fun h=>absurd h h1,fun _=>aj (HQ _) ?_⟩,fun h=>absurd h hne⟩
   have hat:(E.atom s).at=s:=rfl
   simp only[hat,hp,↓zq,zs,ae]
   refine⟨fun _=>aj (JO _) ?_,fun h=>by cases h⟩
   simp only[↓zq,zs,ae]
   rw[wrap64 _ (by omega) (by omega)]
   refine aj (AX _ _ _) ?_
   simp only[↓zq,zs,ae,CM,(TD v hv).2]
   cases v with
   |
    el k =>
    simp only[eY,hh',h1',hp,zf]
    congr 2
    rw[cx];simp;omega
   |_=>simp[eY,hh',h1']
  ·have hok:=A'.ok
   obtain⟨ok1,ok2,ok3,_⟩:=hok
   obtain⟨f1,f2⟩:=fA A'.cl
   refine⟨fun h=>absurd rfl h,fun _=>aj (u9 x [a,b]) ?_⟩
   simp only[↓zq,zs,ae]
   refine aj hvh ?_
   rw[hx]
   cases v with
   |
    l w =>
    simp only[Vl.nodes]at hl
    simp only[vh,Vl.cL,E.sp,E.bu,toNat_one,bg,↓zq,zs,ae,zt,iV,gl,iS,mT,au]
    refine⟨by simp,fun _=>⟨by omega,by omega,aj (z8 n hn m w (by simp only[Vl.nodes]at hm;omega) hv a o t1 ⟨ok2,A'.wf,ha,f1⟩ (by omega)) ?_⟩,fun h=>absurd rfl h⟩
    simp[↓zq,zs,ae,eY,hh',hx]
   |
    r w =>
    simp only[Vl.nodes]at hl
    simp only[vh,Vl.cL,E.sp,E.bu,toNat_one,bg,↓zq,zs,ae,zt,iV,gl,iS,mT,au]
    refine⟨by simp,fun h=>by simp at h,fun _=>⟨fun _=>⟨by omega,by omega,aj (z8 n hn m w (by simp only[Vl.nodes]at hm;omega) hv b o t2 ⟨ok3,A'.wf,hbb,f2⟩ (by omega)) ?_⟩,fun h=>absurd rfl h⟩⟩
    simp[↓zq,zs,ae,eY,hh',hx]
   |_=>simp[vh,↓zq,zs,ae,zt,eY,hh',hx]
  ·have hok:=A'.ok
   obtain⟨ok1,ok2,ok3,_⟩:=hok
   obtain⟨f1,f2⟩:=eX A'.cl
   refine⟨fun h=>absurd rfl h,fun _=>aj (u9 x [a,b]) ?_⟩
   simp only[↓zq,zs,ae]
   refine aj hvh ?_
   rw[hx]
   cases v with
   |
    p w z =>
    simp only[Vl.nodes]at hl
    simp only[vh,Vl.cL,E.sp,E.bu,toNat_one,bg,↓zq,zs,ae,zt,iV,gl,iS,mT,au]
    refine⟨by simp,fun h=>by simp at h,fun _=>⟨fun h=>by simp at h,fun _=>⟨fun _=>⟨by omega,by omega,aj (z8 n hn m w (by simp only[Vl.nodes]at hm;omega) hv.1 a o t1 ⟨ok2,A'.wf,ha,f1⟩ (by omega)) ?_⟩,fun h=>absurd rfl h⟩⟩⟩
    simp only[↓zq,zs,ae,eY,hh',hx]
    refine⟨fun h=>⟨by omega,by omega,aj (z8 n hn m z (by simp only[Vl.nodes]at hm;omega) hv.2 b o t2 ⟨ok3,A'.wf,hbb,f2⟩ (by omega)) ?_⟩,fun h=>?_⟩
    ·simp[↓zq,zs,ae,h]
    ·simp[h]
   |_=>simp[vh,↓zq,zs,ae,zt,eY,hh',hx]
  ·obtain⟨t1',he1,h1,f1,hw1⟩:=ju A'.wf A'.ok hx A'.ty A'.cl
   cases he1
   have hok:=A'.ok
   obtain⟨ok1,ok2,ok3,_⟩:=hok
   refine⟨fun h=>absurd rfl h,fun _=>aj (u9 x [a,b]) ?_⟩
   simp only[↓zq,zs,ae]
   refine aj hvh ?_
   rw[hx]
   cases v with
   |
    f w =>
    simp only[Vl.nodes]at hl
    simp only[vh,Vl.cL,E.sp,E.bu,toNat_one,bg,↓zq,zs,ae,zt,iV,gl,iS,mT,au]
    refine⟨by simp,fun h=>by simp at h,fun _=>⟨fun h=>by simp at h,fun _=>⟨fun h=>by simp at h,fun _=>⟨fun _=>aj (QX x a b o (by omega)) ?_,fun h=>absurd rfl h⟩⟩⟩⟩
    simp only[↓zq,zs,ae,xX,Ed]
    refine⟨by omega,aj (z8 n hn m w (by simp only[Vl.nodes]at hm;omega) hv b (.mk a.at (.list [x,a,b]) o::o) t1 ⟨ok3,hw1,h1,f1⟩ (by simp;omega)) ?_⟩
    simp[↓zq,zs,ae,eY,hh',hx]
   |_=>simp[vh,↓zq,zs,ae,zt,eY,hh',hx]
theorem Q9(n:Nat)(hn:n<=100)(v:Vl)(hv:v.hZ 100)(e:E)(env:List Fr)(t:Ty)(A:Ask e env t)(hl:env.length+v.nodes<100000):an Tryz.prog 94 [e.kF,.sl (kb env),v.cL.kF,.v (.int .i64 (n:Int))] [] (bK (.v (.bool (eY n v (e,env))))):=z8 n hn (v.nodes+1) v (by omega) hv e env t A hl
end Go.Proofs.Trees
namespace Go.Proofs.Trees
open Go Go.VL Go.RowKit
theorem OI(l:List (List UInt8))(a:AV)(ha:cy a l)(s:List UInt8)(hl:l.length<1000000):∀(k i:Nat),i+k=l.length->Hh [a,.v (.string (mk s)),.v (.int .i64 (i:Int))] []
 (po (if s∈l.drop i then(2,[.v (.bool true)],[])else(1,[],[])))
 |
  0,i,hi=>by
  refine Ng _ _ _ ?_
  have hd:l.drop i=[]:=bV (by omega)
  simp only[He,↓zq,zs,ae,hd,ha.len]
  exact⟨ha.1,ha.1,fun h=>by omega,fun _=>by simp[po]⟩
 |
  k+1,i,hi=>by
  have hlt:i<l.length:=by omega
  have hdr:l.drop i=l.getD i []::l.drop (i+1):=by
   rw[aS hlt];simp[aa,hlt]
  refine Ng _ _ _ ?_
  simp only[He,↓zq,zs,ae,zt,ha.len,ha.idx hlt]
  refine⟨ha.1,ha.1,fun _=>⟨⟨ha.1,by omega,by omega⟩,by omega,fun h=>?_,fun h=>?_⟩,fun h=>by omega⟩
  ·rw[hdr,h];simp[po]
  ·rw[bz i (by omega)]
   have:=OI l a ha s hl k (i+1) (by omega)
   have e:s∈l.drop i↔s∈l.drop (i+1):=by
    rw[hdr,aJ];exact⟨fun q=>q.resolve_left (fun q=>h q.symm),.inr⟩
   simp only[e];exact this
theorem xc(l:List (List UInt8))(a:AV)(ha:cy a l)(s:List UInt8)(hl:l.length<1000000):an Tryz.prog 118 [a,.v (.string (mk s))] [] (bK (.v (.bool (decide (s∈l))))):=by
 refine PG _ _ ha.1 ?_
 unfold Om
 refine fF (OI l a ha s hl l.length 0 (by omega)) (fun ys o e=>?_) (fun ys o e=>?_)
 ·simp only[bb]at e
  split at e<;>cases e
  rename_i h
  simp[↓zq,zs,ae,bK,h]
 ·simp only[bb]at e
  split at e<;>cases e
  rename_i h
  simp[↓zq,zs,ae,bK,h]
theorem xh(l:List (List UInt8))(a:AV)(ha:cy a l)(s:List UInt8)(hl:l.length<1000000):an Tryz.prog 52 [a,.v (.string (mk s))] [] (df (.vec 0) [.vec 1 (bN (l++[s]))]):=by
 refine Sb _ _ ha.1 ?_
 simp only[Ns,↓zq,zs,ae,ha.2,df,aU]
 have:(bN l).length=l.length:=by simp[bN]
 refine⟨⟨ha.1,kp l,by omega⟩,⟨fun c hc=>(by simp at hc;rw[hc];rfl),by omega⟩,?_⟩
 first|exact⟨rfl,by rw[EU]⟩|rw[EU]
def ki:E->List (List UInt8)->List (List UInt8)->List (List UInt8)
 | .atom s,bd,l=>if s=[48]\/s=[49]\/s∈bd\/s∈l then l else l++[s]
 | .list [x,a,b],bd,l=>if x.at=[114,101,99]then ki b (bd++[a.at]) l else ki b bd (ki a bd l)
 | .list _,_,l=>l
theorem gd:∀(e:E) (bd l:List (List UInt8)),(ki e bd l).length<=l.length+e.sz
 | .atom s,bd,l=>by rw[ki];split<;>simp[E.sz]
 | .list [],bd,l=>by simp[ki]
 | .list [_],bd,l=>by simp[ki]
 | .list [_,_],bd,l=>by simp[ki]
 | .list (_::_::_::_::_),bd,l=>by simp[ki]
 |
  .list [x,a,b],bd,l=>by
  rw[ki]
  simp only[E.sz,E.jo]
  split
  ·have:=gd b (bd++[a.at]) l;omega
  ·have:=gd a bd l
   have:=gd b bd (ki a bd l)
   omega
theorem Du:∀(e:E) (bd l:List (List UInt8)) (a:AV),e.ok->jW e=true->cy a bd->bd.length+l.length+e.sz<100000->an Tryz.prog 84 [e.kF,a,.vec 0] [.vec 1 (bN l)] (df (.vec 1) [.dead,.vec 1 (bN (ki e bd l))])
 |
  .atom s,bd,l,a,hok,hty,ha,hl=>by
  simp only[E.sz]at hl
  refine Ai _ _ _ _ ((bf).mpr trivial) ha.1 ?_
  have hne:s≠[]:=hok
  have hll:(bN l).length=l.length:=by simp[bN]
  simp only[xl,↓zq,zs,ae,zt,df,ki]
  refine⟨fun _=>⟨fun h=>?_,fun h=>⟨fun h1=>?_,fun h1=>?_⟩⟩,fun h=>absurd h hne⟩
  ·rw[if_pos (.inl h)]
  ·rw[if_pos (.inr (.inl h1))]
  ·refine aj (xc bd a ha s (by omega)) ?_
   simp only[↓zq,zs,ae]
   refine⟨fun h2=>?_,fun h2=>aj (xc l _ (.of l) s (by omega)) ?_⟩
   ·rw[if_pos (.inr (.inr (.inl h2)))]
   ·simp only[↓zq,zs,ae]
    refine⟨fun h3=>?_,fun h3=>⟨⟨fun c hc=>(by simp at hc;rw[hc];rfl),by omega⟩,?_⟩⟩
    ·rw[if_pos (.inr (.inr (.inr h3)))]
    ·rw[EU,if_neg]
     rintro(q|q|q|q)
     ·exact h q
     ·exact h1 q
     ·exact h2 q
     ·exact h3 q
 | .list [],_,_,_,_,h,_,_=>by cases h
 | .list [_],_,_,_,_,h,_,_=>by cases h
 | .list [_,_],_,_,_,_,h,_,_=>by cases h
 | .list (_::_::_::_::_),_,_,_,_,h,_,_=>by cases h
 |
  .list [x,y,z],bd,l,a,hok,hty,ha,hl=>by
  simp only[E.sz,E.jo]at hl
  obtain⟨ok1,ok2,ok3,_⟩:=hok
  refine Ai _ _ _ _ ((cf _).mpr trivial) ha.1 ?_
  simp only[xl,E.bu,toNat_one,bg,↓zq,zs,ae,zt,iV,gl,iS,mT,au,df]
  refine⟨fun h=>absurd rfl h,fun _=>aj (u9 x [y,z]) ?_⟩
  simp only[↓zq,zs,ae,zt]
  have hyl:=gd y bd l
  rw[jW]at hty
  refine⟨fun h=>⟨by omega,by omega,by omega,aV (xh bd a ha y.at (by omega)) ?_⟩,fun h=>⟨by omega,by omega,?_⟩⟩
  ·have hz:jW z=true:=by
    rw[if_neg (by rw[h];decide),if_neg (by rw[h];decide),if_pos h]at hty
    simp only[aw]at hty;exact hty.2
   simp only[↓zq,zs,ae,Ob.es,aO]
   refine⟨eB _,?_⟩
   refine aV (Du z (bd++[y.at]) l _ ok3 hz (.of _) (by simp;omega)) ?_
   simp only[↓zq,zs,ae]
   rw[ki,if_pos h]
  ·have hyz:jW y=true/\jW z=true:=by
    split at hty
    ·simpa using hty
    ·split at hty
     ·simpa using hty
     ·cases hty
   refine aV (Du y bd l a ok2 hyz.1 ha (by omega)) ?_
   simp only[↓zq,zs,ae]
   refine aV (Du z bd (ki y bd l) a ok3 hyz.2 ha (by omega)) ?_
   simp only[↓zq,zs,ae]
   rw[ki,if_neg h]
theorem ky{s:List UInt8}(h:hJ s=true):dk s=false:=by
 cases hq:dk s with
 |false=>rfl
 |
  true =>
  obtain⟨c,r,rfl,h1,h2⟩:=lB h
  obtain⟨c',r',he,h3,h4⟩:=lB hq
  cases he;omega
theorem mr(s:List UInt8)(ar:List (List UInt8)):∀i,i<=ar.length->(bR s ar i=none↔s∉ar.take i)
 |0,_=>by simp[bR]
 |
  i+1,hi=>by
  have hlt:i<ar.length:=by omega
  have e:ar.getD i []=ar[i]:=by simp[aa,hlt]
  have e2:s∈ar.take (i+1)↔s∈ar.take i\/s=ar[i]:=by
   rw[show ar.take (i+1)=ar.take i++[ar[i]] from (List.take_append_getElem hlt).symm]
   simp only[aN,aQ]
  rw[bR,e,e2]
  by_cases h:ar[i]=s
  ·rw[if_pos h]
   exact⟨fun h=>(by cases h),fun h'=>absurd (.inr h.symm) h'⟩
  ·rw[if_neg h,mr s ar i (by omega)]
   exact⟨fun h1 h2=>h2.elim h1 (fun h3=>h h3.symm),fun h1 h2=>h1 (.inl h2)⟩
theorem lR:∀(e:E) (ar l:List (List UInt8)) (t:Ty),cS e ar=some t->(∀w,w∈ar->dk w=true)->(ki e ar l).any dk=(l.any dk||cc t)
 |
  .atom s,ar,l,t,h,har=>by
  simp only[cS]at h
  rw[ki]
  split at h
  ·rename_i h0;cases h;rw[if_pos (.inl h0)];simp[cc]
  ·rename_i h0
   split at h
   ·rename_i h1;cases h;rw[if_pos (.inr (.inl h1))];simp[cc]
   ·rename_i h1
    split at h
    ·rename_i h2
     cases h
     have hn:=ky h2
     simp only[cc,hn]
     split
     ·simp
     ·simp[hn]
    ·split at h
     ·rename_i h2 h3
      have hlo:=mr s ar ar.length (au _)
      rw[List.take_length]at hlo
      cases hq:bR s ar ar.length with
      |
       some u =>
       rw[hq]at h;cases h
       have hm:s∈ar:=Classical.byContradiction fun hm=>by rw[hlo.2 hm]at hq;cases hq
       rw[if_pos (.inr (.inr (.inl hm)))];simp[cc]
      |
       none =>
       rw[hq]at h;cases h
       have hm:=hlo.1 hq
       simp only[cc,h3,Bool.or_true]
       split
       ·rename_i hh
        rcases hh with q|q|q|q
        ·exact absurd q h0
        ·exact absurd q h1
        ·exact absurd q hm
        ·rw[cr];exact⟨s,q,h3⟩
       ·simp[h3]
     ·cases h
 | .list [],_,_,_,h,_=>by cases h
 | .list [_],_,_,_,h,_=>by cases h
 | .list [_,_],_,_,_,h,_=>by cases h
 | .list (_::_::_::_::_),_,_,_,h,_=>by cases h
 |
  .list [x,a,b],ar,l,t,h,har=>by
  rw[ki]
  by_cases h0:x.at=[43]
  ·obtain⟨t1,t2,e1,e2,rfl⟩:=fI h0 h
   rw[if_neg (by rw[h0];decide),lR b ar _ t2 e2 har,lR a ar l t1 e1 har,cc,Bool.or_assoc]
  ·by_cases h1:x.at=[42]
   ·obtain⟨t1,t2,e1,e2,rfl⟩:=fq h1 h
    rw[if_neg (by rw[h1];decide),lR b ar _ t2 e2 har,lR a ar l t1 e1 har,cc,Bool.or_assoc]
   ·by_cases h2:x.at=[114,101,99]
    ·obtain⟨t1,hl,e1,rfl⟩:=dw h2 h
     rw[if_pos h2,lR b _ l t1 e1 (fun w hw=>by
      simp only[aN,aQ]at hw
      rcases hw with hw|rfl
      ·exact har w hw
      ·exact hl),cc]
    ·rw[jd _ h0 h1 h2]at h;cases h
def jI(s:List UInt8):Option E:=match wE s with
 |none=>none
 |some e=>if(ki e [] []).any dk=true then none else some e
theorem B9{s:List UInt8}:w6 s=match jI s with|none=>none|some e=>cS e []:=by
 unfold w6 jI
 rw[uo]
 cases he:wE s with
 |none=>rfl
 |
  some e =>
  obtain⟨h1,h2,h3⟩:=pR he
  have hs:=iQ e []
  rw[h2]at hs
  obtain⟨t,ht⟩:=bU.1 hs
  have ha:=lR e [] [] t ht (fun w hw=>by cases hw)
  simp only[ht,sZ,ha,List.any_nil,Bool.false_or]
  cases hf:cc t<;>simp[ht]
theorem ia{s:List UInt8}{e:E}(h:jI s=some e):∃t,w6 s=some t/\Ask e [] t/\jW e=true/\e.sz<=8000/\t.atoms<=400/\qN s=some e:=by
 have h0:=h
 unfold jI at h
 split at h
 ·cases h
 ·rename_i e' he
  split at h
  ·cases h
  ·rename_i hn
   cases h
   obtain⟨h1,h2,h3⟩:=pR he
   obtain⟨hok,hsz⟩:=nZ h1
   have hs:=iQ e []
   rw[h2]at hs
   obtain⟨t,ht⟩:=bU.1 hs
   have ha:=lR e [] [] t ht (fun w hw=>by cases hw)
   rw[ha]at hn
   refine⟨t,by rw[B9,h0];exact ht,⟨hok,.nil,ht,by simpa using hn⟩,h2,hsz,?_,h1⟩
   rw[<-jR e [] t ht];exact h3
theorem nf{s:List UInt8}(h:jI s=none):w6 s=none:=by rw[B9,h]
theorem N9(e:E)(l:List (List UInt8))(hl:l.length<1000000):∀(k i:Nat),i+k=l.length->IB [.v (.int .i64 (i:Int))] [.cells [.v (.string (mk [])),.v (.slice none 0 0)],.cells [.v (.string (mk e.at)),e.sp],.vec 1 (bN l)]
 (po (if(l.drop i).any dk=true then(2,[.v (.bool false)],[.cells [.v (.string (mk e.at)),e.sp]])else(1,[],[.cells [.v (.string (mk [])),.v (.slice none 0 0)],.cells [.v (.string (mk e.at)),e.sp]])))
 |
  0,i,hi=>by
  refine Nl _ _ _ _ _ _ ?_
  have hd:l.drop i=[]:=bV (by omega)
  have hll:(bN l).length=l.length:=by simp[bN]
  simp only[GN,↓zq,zs,ae,hd,hll,aX]
  exact⟨fun h=>by omega,fun _=>by simp[po]⟩
 |
  k+1,i,hi=>by
  have hlt:i<l.length:=by omega
  have hll:(bN l).length=l.length:=by simp[bN]
  have hdr:l.drop i=l.getD i []::l.drop (i+1):=by
   rw[aS hlt];simp[aa,hlt]
  have hg:=(cy.of l).idx hlt
  simp only[fk]at hg
  refine Nl _ _ _ _ _ _ ?_
  simp only[GN,↓zq,zs,ae,zt,hll,hg,aX]
  refine⟨fun _=>⟨by omega,by omega,aj (Gt _) ?_⟩,fun h=>by omega⟩
  simp only[↓zq,zs,ae,hdr,List.any_cons]
  refine⟨fun h=>?_,fun h=>?_⟩
  ·rw[h];simp[po]
  ·rw[h,bz i (by omega)]
   simp only[Bool.false_or]
   exact N9 e l hl k (i+1) (by omega)
theorem H2(s:List UInt8):an Tryz.prog 61 [.v (.string (mk s))] [] (jF (jI s) (jI s).isSome):=by
 refine PO _ ?_
 unfold OH
 refine aP (HV s) (jF.ne _ _ (fun h=>h)) ?_
 rintro r o ⟨c,d,hd,rfl,hh⟩
 have hhas:bI [.str,.sl] [.v (.string (mk c)),d] 0:=by simp[bI,dV,hd]
 simp only[↓zq,zs,ae,zt]
 refine⟨hhas,fun h=>?_,fun h=>?_⟩
 ·have hn:wE s=none:=by cases hq:wE s<;>simp[hq]at h |-
  unfold jI
  rw[hn]
  exact⟨c,d,hd,rfl,fun h=>by cases h⟩
 ·obtain⟨e,he,hce⟩:=hh h
  obtain⟨h1,h2,h3⟩:=pR he
  obtain⟨hok,hsz⟩:=nZ h1
  have hce':=hce
  rw[dm]at hce'
  simp only[AV.agg.injEq,List.cons.injEq,AV.v.injEq,Value.string.injEq,and_true]at hce'
  obtain⟨hc1,rfl⟩:=hce'
  have hc2:=mk_inj hc1
  subst hc2
  rw[<-dm]
  refine aV (Du e [] [] _ hok h2 (.of []) (by simp;omega)) ?_
  have hfl:=gd e [] []
  simp only[↓zq,zs,ae]
  have hLS:=N9 e (ki e [] []) (by simp at hfl;omega) (ki e [] []).length 0 (by omega)
  simp only[bb]at hLS
  unfold jI
  rw[he]
  refine fF hLS (fun ys o e'=>?_) (fun ys o e'=>?_)
  ·split at e'<;>cases e'
   rename_i hn
   simp only[↓zq,zs,ae,aX,if_neg hn]
   exact⟨e.at,e.sp,hd,rfl,fun _=>⟨e,rfl,(dm e).symm⟩⟩
  ·split at e'<;>cases e'
   rename_i hn
   simp only[↓zq,zs,ae,aX,if_pos hn]
   exact⟨e.at,e.sp,hd,rfl,fun h=>by cases h⟩
def mn(s v:List UInt8)(n:Int):Option Vl:=match jI s,su v with
 |some e,some w=>if(0<=n/\n<=100)/\eY n.toNat w (e,[])=true then some w else none
 |_,_=>none
theorem oO{s v:List UInt8}{n:Int}{w:Vl}(h:mn s v n=some w):∃e t m,jI s=some e/\su v=some w/\w6 s=some t/\Ask e [] t/\n=(m:Nat)/\m<=100/\eY m w (e,[])=true:=by
 unfold mn at h
 split at h
 ·rename_i e w' he hw
  split at h
  ·rename_i hh
   cases h
   obtain⟨t,h1,h2,_⟩:=ia he
   exact⟨e,t,n.toNat,he,hw,h1,h2,by omega,by omega,hh.2⟩
  ·cases h
 ·cases h
theorem Oo(s v:List UInt8)(n:Int):an Tryz.prog 71 [.v (.string (mk s)),.v (.string (mk v)),.v (.int .i64 n)] [] (bK (.cH [ij (w6 s),jy (mn s v n)])):=by
 refine P9 _ _ _ ?_
 unfold Kn
 refine aj (N1 s) ?_
 simp only[↓zq,zs,ae,ik]
 refine aj (Pn v) ?_
 simp only[↓zq,zs,ae,gv,bK]
 unfold mn
 cases he:jI s with
 |none=>rw[nf he];cases su v<;>simp[ij,jy,↓zq,zs,ae]
 |
  some e =>
  obtain⟨t,h1,h2,h3,h4,h5,_⟩:=ia he
  rw[h1]
  cases hv:su v with
  |none=>simp only[ij,jy,aE,fO,↓zq,zs,ae];exact⟨fun h=>(by cases h),fun _=>⟨fun _=>trivial,fun h=>(by cases h)⟩⟩
  |
   some w =>
   obtain⟨h6,h7,h8⟩:=lN hv
   simp only[ij,jy,aE,fO,aM,fC,↓zq,zs,ae]
   refine⟨fun h=>(by cases h),fun _=>⟨fun h=>(by cases h),fun _=>⟨fun h=>?_,fun h=>⟨fun h'=>?_,fun h'=>?_⟩⟩⟩⟩
   ·rw[if_neg (by omega)]
   ·rw[if_neg (by omega)]
   ·obtain⟨m,rfl⟩:∃m:Nat,n=(m:Int):=⟨n.toNat,by omega⟩
    have hi:=OX m (by omega) (w.nodes+1) w (by omega) h7 e [] t h2 (by simp;omega)
    unfold qp at hi
    refine aj hi ?_
    simp only[↓zq,zs,ae,bG]
    refine⟨fun hq=>?_,fun hq=>?_⟩
    ·rw[if_neg (by rw[hq];simp)]
    ·rw[if_pos ⟨by omega,hq⟩]
theorem Ab(s v:List UInt8)(n:Int):an Tryz.prog 68 [.v (.string (mk s)),.v (.string (mk v)),.v (.int .i64 n)] [] (bK (.v (.bool (mn s v n).isSome))):=by
 refine Rw _ _ _ ?_
 unfold Ke
 refine aP (H2 s) (jF.ne _ _ (fun h=>h)) ?_
 rintro r o ⟨c,d,hd,rfl,hh⟩
 have hhas:bI [.str,.sl] [.v (.string (mk c)),d] 0:=by simp[bI,dV,hd]
 simp only[↓zq,zs,ae,zt]
 refine⟨hhas,?_⟩
 refine aP (Et v) (jF.ne _ _ (fun h=>by cases hq:su v<;>simp[hq]at h |-)) ?_
 rintro r o ⟨c',d',hd',rfl,hh'⟩
 have hhas':bI [.str,.sl] [.v (.string (mk c')),d'] 0:=by simp[bI,dV,hd']
 simp only[↓zq,zs,ae,zt,bK]
 refine⟨hhas',fun h=>⟨fun h2=>?_,fun h2=>?_⟩,fun h=>?_⟩
 ·obtain⟨e,he,hce⟩:=hh h
  obtain⟨t,h1,hA,h3,h4,h5,_⟩:=ia he
  obtain⟨w,hw⟩:=bU.1 h2
  obtain⟨e2,he2,hce2⟩:=hh' h2
  rw[hw]at he2
  cases he2
  obtain⟨h6,h7,h8⟩:=lN hw
  refine aj (AX _ _ _) ?_
  simp only[↓zq,zs,ae,CM,mn,he,hw]
  refine⟨fun hq=>?_,fun hq=>?_⟩
  ·have hq':0<=n/\n<=100:=by simpa using hq
   obtain⟨m,rfl⟩:∃m:Nat,n=(m:Int):=⟨n.toNat,by omega⟩
   rw[hce,hce2]
   have:=Q9 m (by omega) w h7 e [] t hA (by simp;omega)
   rw[show kb []=[] from rfl]at this
   refine aj this ?_
   simp only[↓zq,zs,ae,bG]
   by_cases hb:eY m w (e,[])=true
   ·rw[if_pos ⟨hq',hb⟩,hb];rfl
   ·rw[if_neg (fun h=>hb h.2)]
    rw[Bool.not_eq_true]at hb
    rw[hb];rfl
  ·have hq':¬(0<=n/\n<=100):=by simpa using hq
   rw[if_neg (fun h=>hq' h.1)];rfl
 ·have hn:su v=none:=by cases hq:su v<;>simp[hq]at h2 |-
  unfold mn
  rw[hn];cases jI s<;>rfl
 ·have hn:jI s=none:=by cases hq:jI s<;>simp[hq]at h |-
  unfold mn
  rw[hn];rfl
end Go.Proofs.Trees
namespace Go.Proofs.Trees
open Go Go.VL Go.RowKit
inductive Tg where
 |nm (s:List UInt8)
 |bd (k:Nat)
 deriving DecidableEq
def Tg.up:Tg->Tg
 | .nm s=>.nm s
 | .bd k=>.bd (k+1)
def eD:Ty->Tg->Bool
 | .name s,.nm s'=>decide (s=s')
 | .bound u,.bd k=>decide (u=k)
 |_,_=>false
abbrev Hl:=Vl×Vl
def iI(g:Vl->Vl)(l:List Hl):List Hl:=l.map fun h=>(g h.1,h.2)
def iW(f:Ty->Tg->Vl->List Hl)(tg:Tg):Ty->Vl->List Hl
 | .plus a _,.l w=>iI .l (f a tg w)
 | .plus _ b,.r w=>iI .r (f b tg w)
 | .times a b,.p x y=>iI (fun c=>.l (.p c y)) (f a tg x)++iI (fun c=>.r (.p x c)) (f b tg y)
 | .rc a,.f w=>iI (fun c=>.f (.l c)) (f a tg.up w)++(f a (.bd 0) w).flatMap fun h=>iI (fun c=>.f (.r (.p h.1 c))) (f (.rc a) tg h.2)
 |_,_=>[]
def dC:Nat->Ty->Tg->Vl->List Hl
 |0,_,_,_=>[]
 |n+1,t,tg,v=>if eD t tg=true then [(.u,v)]else iW (dC n) tg t v
def stuck:Ty->Vl->Bool
 | .plus _ _,.l _=>false
 | .plus _ _,.r _=>false
 | .times _ _,.p _ _=>false
 | .rc _,.f _=>false
 |_,_=>true
def ck(t:Ty)(tg:Tg)(v:Vl):List Hl:=dC v.nodes t tg v
theorem cY{g:Vl->Vl}{l:List Hl}{h:Hl}(hm:h∈iI g l):∃k,k∈l/\h=(g k.1,k.2):=by
 obtain⟨k,h1,h2⟩:=bO.1 hm
 exact⟨k,h1,h2.symm⟩
theorem iU{f g:Hl->List Hl}:∀{l:List Hl},(∀h,h∈l->f h=g h)->l.flatMap f=l.flatMap g
 |[],_=>rfl
 |h::l,hl=>by rw[List.flatMap_cons,List.flatMap_cons,hl h ak,iU (l:=l) fun k hk=>hl k (al _ hk)]
theorem fj:∀(n:Nat) (t:Ty) (tg:Tg) (v:Vl) (h:Hl),h∈dC n t tg v->h.2.nodes<=v.nodes/\h.1.nodes+4*h.2.nodes<=4*v.nodes+1
 |0,t,tg,v,h,hm=>by simp[dC]at hm
 |
  n+1,t,tg,v,h,hm=>by
  unfold dC at hm
  split at hm
  ·simp only[aQ]at hm
   subst hm
   simp only[Vl.nodes];omega
  ·unfold iW at hm
   split at hm
   ·obtain⟨k,h1,rfl⟩:=cY hm
    have:=fj n _ _ _ k h1
    simp only[Vl.nodes];omega
   ·obtain⟨k,h1,rfl⟩:=cY hm
    have:=fj n _ _ _ k h1
    simp only[Vl.nodes];omega
   ·rcases aN.1 hm with hm|hm
    ·obtain⟨k,h1,rfl⟩:=cY hm
     have:=fj n _ _ _ k h1
     simp only[Vl.nodes];omega
    ·obtain⟨k,h1,rfl⟩:=cY hm
     have:=fj n _ _ _ k h1
     simp only[Vl.nodes];omega
   ·rcases aN.1 hm with hm|hm
    ·obtain⟨k,h1,rfl⟩:=cY hm
     have:=fj n _ _ _ k h1
     simp only[Vl.nodes];omega
    ·obtain⟨k,h1,h2⟩:=List.mem_flatMap.1 hm
     obtain⟨k2,h3,rfl⟩:=cY h2
     have:=fj n _ _ _ k h1
     have:=fj n _ _ _ k2 h3
     simp only[Vl.nodes];omega
   ·simp at hm
theorem gR:∀(n m:Nat) (t:Ty) (tg:Tg) (v:Vl),v.nodes<=n->v.nodes<=m->dC n t tg v=dC m t tg v
 |0,m,t,tg,v,h,_=>by have:=du v;omega
 |n+1,0,t,tg,v,_,h=>by have:=du v;omega
 |
  n+1,m+1,t,tg,v,hn,hm=>by
  rw[dC,dC]
  split
  ·rfl
  ·unfold iW
   split
   ·simp only[Vl.nodes]at hn hm;rw[gR n m _ _ _ (by omega) (by omega)]
   ·simp only[Vl.nodes]at hn hm;rw[gR n m _ _ _ (by omega) (by omega)]
   ·simp only[Vl.nodes]at hn hm;rw[gR n m _ _ _ (by omega) (by omega),gR n m _ _ _ (by omega) (by omega)]
   ·rename_i a w
    simp only[Vl.nodes]at hn hm;rw[gR n m _ _ _ (by omega) (by omega),gR n m _ (.bd 0) _ (by omega) (by omega)]
    congr 1
    apply iU
    intro h hh
    have:=(fj _ _ _ _ _ hh).1
    rw[gR n m _ _ _ (by omega) (by omega)]
   ·rfl
theorem oh{n:Nat}(t:Ty)(tg:Tg){v:Vl}(h:v.nodes<=n):dC n t tg v=ck t tg v:=gR _ _ _ _ _ h (au _)
theorem mo{t:Ty}{tg:Tg}(v:Vl)(h:eD t tg=true):ck t tg v=[(.u,v)]:=by
 have:=du v
 unfold ck
 cases e:v.nodes with
 |zero=>omega
 |succ n=>rw[dC,if_pos h]
theorem m9(a b:Ty)(tg:Tg)(w:Vl):ck (.plus a b) tg (.l w)=iI .l (ck a tg w):=by
 unfold ck;rw[show (Vl.l w).nodes=w.nodes+1 by simp[Vl.nodes];omega,dC,if_neg (by simp[eD])];rfl
theorem mU(a b:Ty)(tg:Tg)(w:Vl):ck (.plus a b) tg (.r w)=iI .r (ck b tg w):=by
 unfold ck;rw[show (Vl.r w).nodes=w.nodes+1 by simp[Vl.nodes];omega,dC,if_neg (by simp[eD])];rfl
theorem nq(a b:Ty)(tg:Tg)(x y:Vl):ck (.times a b) tg (.p x y)=iI (fun c=>.l (.p c y)) (ck a tg x)++iI (fun c=>.r (.p x c)) (ck b tg y):=by
 rw[ck,show (Vl.p x y).nodes=(x.nodes+y.nodes)+1 by simp[Vl.nodes];omega,dC,if_neg (by simp[eD])]
 rw[iW,oh a tg (by omega),oh b tg (by omega)]
theorem nk(a:Ty)(tg:Tg)(w:Vl):ck (.rc a) tg (.f w)=iI (fun c=>.f (.l c)) (ck a tg.up w)++(ck a (.bd 0) w).flatMap fun h=>iI (fun c=>.f (.r (.p h.1 c))) (ck (.rc a) tg h.2):=by
 rw[ck,show (Vl.f w).nodes=w.nodes+1 by simp[Vl.nodes];omega,dC,if_neg (by simp[eD])]
 rw[iW,oh a tg.up (au _),oh a (.bd 0) (au _)]
 congr 1
 apply iU
 intro h hh
 have:=(fj _ _ _ _ _ hh).1
 rw[oh (.rc a) tg this]
theorem dS{t:Ty}{tg:Tg}{v:Vl}(h:eD t tg=false)(h2:stuck t v=true):ck t tg v=[]:=by
 unfold ck
 cases e:v.nodes with
 |zero=>rfl
 |
  succ n =>
  rw[dC,if_neg (by rw[h];simp)]
  unfold iW
  split<;>first|(simp[stuck]at h2;done)|rfl
theorem iD{t:Ty}{tg:Tg}{v:Vl}{h:Hl}(hm:h∈ck t tg v):h.2.nodes<=v.nodes/\h.1.nodes+4*h.2.nodes<=4*v.nodes+1:=fj _ _ _ _ _ hm
theorem gO(n:Nat):∀(m:Nat) (t:Ty) (tg:Tg) (v:Vl) (h:Hl),v.hZ n->h∈dC m t tg v->h.1.hZ n/\h.2.hZ n
 |0,t,tg,v,h,hv,hm=>by simp[dC]at hm
 |
  m+1,t,tg,v,h,hv,hm=>by
  unfold dC at hm
  split at hm
  ·simp only[aQ]at hm
   subst hm
   exact⟨trivial,hv⟩
  ·unfold iW at hm
   split at hm
   ·obtain⟨k,h1,rfl⟩:=cY hm
    exact(fun q=>gO n m _ _ _ k q h1) hv
   ·obtain⟨k,h1,rfl⟩:=cY hm
    exact(fun q=>gO n m _ _ _ k q h1) hv
   ·rcases aN.1 hm with hm|hm
    ·obtain⟨k,h1,rfl⟩:=cY hm
     obtain⟨q1,q2⟩:=gO n m _ _ _ k hv.1 h1
     exact⟨⟨q1,hv.2⟩,q2⟩
    ·obtain⟨k,h1,rfl⟩:=cY hm
     obtain⟨q1,q2⟩:=gO n m _ _ _ k hv.2 h1
     exact⟨⟨hv.1,q1⟩,q2⟩
   ·rcases aN.1 hm with hm|hm
    ·obtain⟨k,h1,rfl⟩:=cY hm
     exact(fun q=>gO n m _ _ _ k q h1) hv
    ·obtain⟨k,h1,h2⟩:=List.mem_flatMap.1 hm
     obtain⟨k2,h3,rfl⟩:=cY h2
     obtain⟨q1,q2⟩:=(fun q=>gO n m _ _ _ k q h1) hv
     obtain⟨q3,q4⟩:=gO n m _ _ _ k2 q2 h3
     exact⟨⟨q1,q3⟩,q4⟩
   ·simp at hm
def kU(l:List Hl):Nat:=(l.map fun h=>h.2.nodes).sum
theorem sc(l r:List Hl):kU (l++r)=kU l+kU r:=by simp[kU]
theorem pq(g:Vl->Vl)(l:List Hl):kU (iI g l)=kU l:=by simp[kU,iI,Function.comp_def]
def kG(f:Tg->Nat)(T:List Tg):Nat:=(T.map f).sum
theorem oT(f g:Tg->Nat):∀T:List Tg,kG (fun x=>f x+g x) T=kG f T+kG g T
 |[]=>rfl
 |x::T=>by have:=oT f g T;simp only[kG,bE,List.sum_cons]at this |-;omega
theorem yH{f g:Tg->Nat}:∀{T:List Tg},(∀x,x∈T->f x<=g x)->kG f T<=kG g T
 |[],_=>au _
 |
  x::T,h=>by
  have:=yH (T:=T) fun y hy=>h y (al _ hy)
  have:=h x ak
  simp only[kG,bE,List.sum_cons]at *;omega
theorem pF{f:Tg->Nat}:∀{T:List Tg},(∀x,x∈T->f x=0)->kG f T=0
 |[],_=>rfl
 |
  x::T,h=>by
  have:=pF (T:=T) fun y hy=>h y (al _ hy)
  have:=h x ak
  simp only[kG,bE,List.sum_cons]at *;omega
theorem sK(g:Hl->Tg->Nat)(T:List Tg):∀l:List Hl,kG (fun x=>(l.map fun h=>g h x).sum) T=(l.map fun h=>kG (g h) T).sum
 |[]=>pF fun _ _=>rfl
 |
  h::l=>by
  have:=sK g T l
  simp only[bE,List.sum_cons]
  rw[oT,this]
theorem s8(f:Hl->List Hl):∀l:List Hl,kU (l.flatMap f)=(l.map fun h=>kU (f h)).sum
 |[]=>rfl
 |h::l=>by rw[List.flatMap_cons,sc,s8 f l];simp
theorem Cg{f g:Hl->Nat}:∀{l:List Hl},(∀x,x∈l->f x<=g x)->(l.map f).sum<=(l.map g).sum
 |[],_=>au _
 |
  x::l,h=>by
  have:=Cg (l:=l) fun y hy=>h y (al _ hy)
  have:=h x ak
  simp only[bE,List.sum_cons]at *;omega
theorem A0{t:Ty}{x y:Tg}(h:eD t x=true)(h':eD t y=true):x=y:=by
 cases t<;>cases x<;>cases y<;>simp[eD]at h h'<;>simp_all
theorem zi{t:Ty}(n:Nat):∀{T:List Tg},T.Nodup->kG (fun x=>if eD t x=true then n else 0) T<=n
 |[],_=>dO _
 |
  x::T,h=>by
  obtain⟨h1,h2⟩:=List.nodup_cons.1 h
  have ih:=zi (t:=t) n h2
  by_cases hx:eD t x=true
  ·have:kG (fun x=>if eD t x=true then n else 0) T=0:=pF fun y hy=>by
    rw[if_neg fun hy'=>h1 (by rw[A0 hx hy'];exact hy)]
   simp only[kG,bE,List.sum_cons]at *
   rw[if_pos hx];omega
  ·simp only[kG,bE,List.sum_cons]at *
   rw[if_neg hx];omega
theorem A2{T:List Tg}(h:T.Nodup):(Tg.bd 0::T.map Tg.up).Nodup:=by
 refine List.nodup_cons.2 ⟨fun hm=>?_,?_⟩
 ·obtain⟨x,_,e⟩:=bO.1 hm
  cases x<;>simp[Tg.up]at e
 ·refine List.Pairwise.map _ (fun a b hab e=>hab ?_) h
  cases a<;>cases b<;>simp[Tg.up]at e<;>simp_all
theorem apart:∀(n:Nat) (v:Vl),v.nodes<=n->∀(t:Ty) (T:List Tg),T.Nodup->kG (fun x=>kU (ck t x v)) T<=v.nodes
 |0,v,h=>by have:=du v;omega
 |
  n+1,v,hn=>by
  intro t T hT
  have base:∀(hno:∀x,eD t x=false->ck t x v=[]),kG (fun x=>kU (ck t x v)) T<=v.nodes:=fun hno=>by
   refine Nat.le_trans (yH fun x _=>?_) (zi (t:=t) v.nodes hT)
   cases e:eD t x with
   |true=>rw[mo v e];simp[kU]
   |false=>rw[hno x e];simp[kU]
  cases hm:stuck t v with
  |true=>exact base fun x hx=>dS hx hm
  |
   false =>
   unfold stuck at hm
   split at hm
   ·rename_i a b w
    simp only[Vl.nodes]at hn |-
    simp only[m9,pq]
    have:=apart n w (by omega) a T hT
    omega
   ·rename_i a b w
    simp only[Vl.nodes]at hn |-
    simp only[mU,pq]
    have:=apart n w (by omega) b T hT
    omega
   ·rename_i a b x y
    simp only[Vl.nodes]at hn |-
    simp only[nq,sc,pq]
    rw[oT]
    have:=apart n x (by omega) a T hT
    have:=apart n y (by omega) b T hT
    omega
   ·rename_i a w
    simp only[Vl.nodes]at hn |-
    simp only[nk,sc,pq,s8]
    rw[oT,sK]
    have h1:=apart n w (by omega) a _ (A2 hT)
    simp only[kG,bE,List.sum_cons,List.map_map]at h1
    have h2:((ck a (.bd 0) w).map fun h=>kG (fun x=>kU (ck (.rc a) x h.2)) T).sum<=kU (ck a (.bd 0) w):=Cg fun h hh=>by
     have:=(iD hh).1
     exact apart n h.2 (by omega) (.rc a) T hT
    simp only[kG,Function.comp_def]at h1 h2 |-
    omega
   ·cases hm
theorem rT(t:Ty)(tg:Tg)(v:Vl):kU (ck t tg v)<=v.nodes:=by
 have:=apart v.nodes v (au _) t [tg] (by simp)
 simpa[kG]using this
theorem lq:∀l:List Hl,l.length<=kU l
 |[]=>dO _
 |
  h::l=>by
  have:=lq l
  have:=du h.2
  simp only[kU,bE,List.sum_cons,az]at *;omega
theorem mX(t:Ty)(tg:Tg)(v:Vl):(ck t tg v).length<=v.nodes:=Nat.le_trans (lq _) (rT t tg v)
end Go.Proofs.Trees
namespace Go.Proofs.Trees
open Go Go.VL Go.RowKit
def gj(ar:List (List UInt8))(k:Nat):List UInt8:=ar.getD (ar.length-1-k) []
theorem fL{s:List UInt8}{ar:List (List UInt8)}:∀(i u:Nat),i<=ar.length->bR s ar i=some u->u<ar.length/\gj ar u=s
 |0,u,_,h=>by cases h
 |
  i+1,u,hi,h=>by
  rw[bR]at h
  split at h
  ·rename_i e
   cases h
   refine⟨by omega,?_⟩
   rw[gj,show ar.length-1-(ar.length-1-i)=i by omega];exact e
  ·exact fL i u (by omega) h
def u4:Ty->Tg->Bool
 | .plus a b,tg=>u4 a tg||u4 b tg
 | .times a b,tg=>u4 a tg||u4 b tg
 | .rc a,tg=>u4 a tg.up
 |t,tg=>eD t tg
theorem iY:∀(n:Nat) (v:Vl),v.nodes<=n->∀(t:Ty) (tg:Tg),u4 t tg=false->ck t tg v=[]
 |0,v,h=>by have:=du v;omega
 |
  n+1,v,hn=>by
  intro t tg ho
  cases hm:stuck t v with
  |
   true =>
   refine dS ?_ hm
   cases t<;>first|exact ho|rfl
  |
   false =>
   unfold stuck at hm
   split at hm
   ·simp only[Vl.nodes]at hn
    simp only[u4,cg]at ho
    rw[m9,iY n _ (by omega) _ _ ho.1];rfl
   ·simp only[Vl.nodes]at hn
    simp only[u4,cg]at ho
    rw[mU,iY n _ (by omega) _ _ ho.2];rfl
   ·simp only[Vl.nodes]at hn
    simp only[u4,cg]at ho
    rw[nq,iY n _ (by omega) _ _ ho.1,iY n _ (by omega) _ _ ho.2];rfl
   ·rename_i a w
    simp only[Vl.nodes]at hn
    have ho':u4 a tg.up=false:=ho
    rw[nk,iY n _ (by omega) _ _ ho']
    have:(ck a (.bd 0) w).flatMap (fun h=>iI (fun c=>.f (.r (.p h.1 c))) (ck (.rc a) tg h.2))=(ck a (.bd 0) w).flatMap (fun _=>[]):=iU fun h hh=>by
     have:=(iD hh).1
     rw[iY n h.2 (by omega) (.rc a) tg ho];rfl
    rw[this]
    induction ck a (.bd 0) w<;>simp_all[iI]
   ·cases hm
theorem kR:∀(e:E) (ar:List (List UInt8)) (t:Ty) (k:Nat),cS e ar=some t->u4 t (.bd k)=true->k<ar.length/\bR (gj ar k) ar ar.length=some k
 |
  .atom s,ar,t,k,ht,ho=>by
  simp only[cS]at ht
  split at ht
  ·cases ht;cases ho
  ·split at ht
   ·cases ht;cases ho
   ·split at ht
    ·cases ht;cases ho
    ·split at ht
     ·split at ht
      ·rename_i u hu
       cases ht
       have:u=k:=by simpa[u4,eD]using ho
       subst this
       obtain⟨h1,h2⟩:=fL _ _ (au _) hu
       exact⟨h1,by rw[h2];exact hu⟩
      ·cases ht;cases ho
     ·cases ht
 |
  .list [x,a,b],ar,t,k,ht,ho=>by
  by_cases h0:x.at=[43]
  ·obtain⟨t1,t2,h1,h2,rfl⟩:=fI h0 ht
   simp only[u4,bC]at ho
   rcases ho with ho|ho
   ·exact kR a ar t1 k h1 ho
   ·exact kR b ar t2 k h2 ho
  ·by_cases h1:x.at=[42]
   ·obtain⟨t1,t2,h1,h2,rfl⟩:=fq h1 ht
    simp only[u4,bC]at ho
    rcases ho with ho|ho
    ·exact kR a ar t1 k h1 ho
    ·exact kR b ar t2 k h2 ho
   ·by_cases h2:x.at=[114,101,99]
    ·obtain⟨t1,_,h3,rfl⟩:=dw h2 ht
     obtain⟨q1,q2⟩:=kR b (ar++[a.at]) t1 (k+1) h3 ho
     simp only[aq,az,aG]at q1
     have hk:k<ar.length:=by omega
     have e:gj (ar++[a.at]) (k+1)=gj ar k:=by
      unfold gj
      rw[aq,show ar.length+[a.at].length-1-(k+1)=ar.length-1-k by simp;omega]
      simp[aa,List.getElem?_append_left (show ar.length-1-k<ar.length by omega)]
     rw[e]at q2
     refine⟨hk,?_⟩
     have e2:(ar++[a.at]).length=ar.length+1:=by simp
     rw[e2,bR]at q2
     split at q2
     ·rw[e2]at q2;simp at q2
     ·rw[kq _ _ _ _ (au _)]at q2
      cases hq:bR (gj ar k) ar ar.length with
      |none=>rw[hq]at q2;cases q2
      |some u=>rw[hq]at q2;simpa using q2
    ·rw[jd _ h0 h1 h2]at ht;cases ht
 | .list [],ar,t,k,ht,ho=>by cases ht
 | .list [_],ar,t,k,ht,ho=>by cases ht
 | .list [_,_],ar,t,k,ht,ho=>by cases ht
 | .list (_::_::_::_::_),ar,t,k,ht,ho=>by cases ht
theorem fu(w:List UInt8)(ar:List (List UInt8)):bR w (ar++[w]) (ar++[w]).length=some 0:=by
 have e2:(ar++[w]).length=ar.length+1:=by simp
 rw[e2,bR,if_pos (by simp[aa]),e2];simp
theorem jH{s w:List UInt8}(ar:List (List UInt8))(h:w≠s):bR s (ar++[w]) (ar++[w]).length=(bR s ar ar.length).map (·+1):=by
 have e2:(ar++[w]).length=ar.length+1:=by simp
 rw[e2,bR,if_neg (by simpa[aa]using h),kq _ _ _ _ (au _)]
theorem GS{b:E}{ar:List (List UInt8)}{w:List UInt8}{t:Ty}{k:Nat}(hb:cS b (ar++[w])=some t)(hk:bR w ar ar.length=some k):u4 t (.bd (k+1))=false:=by
 cases h:u4 t (.bd (k+1))with
 |false=>rfl
 |
  true =>
  obtain⟨_,q2⟩:=kR _ _ _ _ hb h
  obtain⟨h1,h2⟩:=fL _ _ (au _) hk
  have e:gj (ar++[w]) (k+1)=gj ar k:=by
   unfold gj
   rw[aq,show ar.length+[w].length-1-(k+1)=ar.length-1-k by simp;omega]
   simp[aa,List.getElem?_append_left (show ar.length-1-k<ar.length by omega)]
  rw[e,h2,fu]at q2
  cases q2
def oG(s:List UInt8)(ar:List (List UInt8)):Tg:=match bR s ar ar.length with|some u=>.bd u|none=>.nm s
theorem vX(w:List UInt8)(ar:List (List UInt8)):oG w (ar++[w])=.bd 0:=by rw[oG,fu]
theorem zu{s w:List UInt8}(ar:List (List UInt8))(h:w≠s):oG s (ar++[w])=(oG s ar).up:=by
 rw[oG,oG,jH ar h]
 cases bR s ar ar.length<;>rfl
theorem iq(n:Nat):∀(m:Nat) (v:Vl),v.nodes<=m->∀(e:E) (env:List Fr) (t:Ty),Ask e env t->eY n v (e,env)=true->∀(k:Nat) (f:Fr),env[k]?=some f->∀h,h∈ck t (.bd k) v->eY n h.2 (f.ex,f.out)=true
 |0,v,hm=>by have:=du v;omega
 |
  m+1,v,hm=>by
  intro e env t A hv k f hf h hh
  rcases gp A.wf A.ty with⟨hb,hq⟩|⟨u,g,rfl,hq,hu⟩
  ·have hhd:hd e env=(e,env):=kf hq
   rcases fK A.ty hb A.cl with⟨rfl,rfl⟩|⟨rfl,rfl⟩|⟨s,rfl,rfl,hp,h0,h1⟩|⟨x,a,b,t1,t2,rfl,hx,rfl,ha,hbb⟩|⟨x,a,b,t1,t2,rfl,hx,rfl,ha,hbb⟩|⟨x,a,b,t1,rfl,hx,rfl⟩
   ·rw[dS rfl (by cases v<;>rfl)]at hh;cases hh
   ·rw[dS rfl (by cases v<;>rfl)]at hh;cases hh
   ·rw[dS rfl (by cases v<;>rfl)]at hh;cases hh
   ·obtain⟨ok1,ok2,ok3,_⟩:=A.ok
    obtain⟨f1,f2⟩:=fA A.cl
    cases v with
    |
     l w =>
     simp only[eY,hhd,hx,beq_self_eq_true,bX]at hv
     simp only[Vl.nodes]at hm
     rw[m9]at hh
     obtain⟨h2,h3,rfl⟩:=cY hh
     exact iq n m w (by omega) a env t1 ⟨ok2,A.wf,ha,f1⟩ hv k f hf h2 h3
    |
     r w =>
     simp only[eY,hhd,hx,beq_self_eq_true,bX]at hv
     simp only[Vl.nodes]at hm
     rw[mU]at hh
     obtain⟨h2,h3,rfl⟩:=cY hh
     exact iq n m w (by omega) b env t2 ⟨ok3,A.wf,hbb,f2⟩ hv k f hf h2 h3
    |_=>rw[dS rfl rfl]at hh;cases hh
   ·obtain⟨ok1,ok2,ok3,_⟩:=A.ok
    obtain⟨f1,f2⟩:=eX A.cl
    cases v with
    |
     p w w' =>
     simp only[eY,hhd,hx,beq_self_eq_true,bX,aw]at hv
     simp only[Vl.nodes]at hm
     rw[nq]at hh
     rcases aN.1 hh with hh|hh
     ·obtain⟨h2,h3,rfl⟩:=cY hh
      exact iq n m w (by omega) a env t1 ⟨ok2,A.wf,ha,f1⟩ hv.1 k f hf h2 h3
     ·obtain⟨h2,h3,rfl⟩:=cY hh
      exact iq n m w' (by omega) b env t2 ⟨ok3,A.wf,hbb,f2⟩ hv.2 k f hf h2 h3
    |_=>rw[dS rfl rfl]at hh;cases hh
   ·obtain⟨t1',he1,h1,f1,hw1⟩:=ju A.wf A.ok hx A.ty A.cl
    cases he1
    obtain⟨ok1,ok2,ok3,_⟩:=A.ok
    cases v with
    |
     f w =>
     simp only[eY,hhd,hx,beq_self_eq_true,bX]at hv
     simp only[Vl.nodes]at hm
     rw[nk]at hh
     have A':Ask b (.mk a.at (.list [x,a,b]) env::env) t1:=⟨ok3,hw1,h1,f1⟩
     rcases aN.1 hh with hh|hh
     ·obtain⟨h2,h3,rfl⟩:=cY hh
      exact iq n m w (by omega) b _ t1 A' hv (k+1) f (by simpa using hf) h2 h3
     ·obtain⟨kd,h2,h3⟩:=List.mem_flatMap.1 hh
      obtain⟨h4,h5,rfl⟩:=cY h3
      have hkd:=iq n m w (by omega) b _ t1 A' hv 0 _ rfl kd h2
      have:=(iD h2).1
      exact iq n m kd.2 (by omega) (.list [x,a,b]) env _ A hkd k f hf h4 h5
    |_=>rw[dS rfl rfl]at hh;cases hh
  ·by_cases huk:u=k
   ·subst huk
    rw[hu]at hf;cases hf
    rw[mo v (by simp[eD])]at hh
    simp only[aQ]at hh
    subst hh
    obtain⟨x,a,b,t',hfe,hok,hx,ht',hf',hwf,hlt⟩:=pd A.wf hq
    rw[<-uk n v (qU hq) (by rw[hfe];exact pW hwf)];exact hv
   ·rw[dS (by simpa[eD]using huk) (by cases v<;>rfl)]at hh;cases hh
end Go.Proofs.Trees
namespace Go.Proofs.Trees
open Go Go.VL Go.RowKit
def cR:E->List Nm->Ty
 | .atom s,ar=>if s=[48]then .zero else if s=[49]then .one else match bR s ar ar.length with|some u=>.bound u|none=>.name s
 | .list [x,a,b],ar=>if x.at=[43]then .plus (cR a ar) (cR b ar)else if x.at=[42]then .times (cR a ar) (cR b ar)else .rc (cR b (ar++[a.at]))
 | .list _,_=>.zero
def qQ(s:Nm):Prop:=s≠[]/\s≠[48]/\s≠[49]
inductive Wf:E->Prop
 |atom {s} (h:s≠[]):Wf (.atom s)
 |plus {a b} (ha:Wf a) (hb:Wf b):Wf (.list [.atom [43],a,b])
 |times {a b} (ha:Wf a) (hb:Wf b):Wf (.list [.atom [42],a,b])
 |rc {n b} (hn:qQ n) (hb:Wf b):Wf (.list [.atom [114,101,99],.atom n,b])
theorem dJ(a b:E)(ar:List Nm):cR (.list [.atom [43],a,b]) ar=.plus (cR a ar) (cR b ar):=by rw[cR,if_pos (show (E.atom [43]).at=[43] from rfl)]
theorem dr(a b:E)(ar:List Nm):cR (.list [.atom [42],a,b]) ar=.times (cR a ar) (cR b ar):=by rw[cR,if_neg (by decide),if_pos (show (E.atom [42]).at=[42] from rfl)]
theorem fh(a b:E)(ar:List Nm):cR (.list [.atom [114,101,99],a,b]) ar=.rc (cR b (ar++[a.at])):=by rw[cR,if_neg (by decide),if_neg (by decide)]
theorem Wf.ok{e:E}(h:Wf e):e.ok:=by
 induction h with
 |atom h=>exact h
 |plus ha hb i1 i2=>exact⟨by simp[E.ok],i1,i2,trivial⟩
 |times ha hb i1 i2=>exact⟨by simp[E.ok],i1,i2,trivial⟩
 |rc hn hb i=>exact⟨by simp[E.ok],hn.1,i,trivial⟩
theorem Wf.db{e:E}(h:Wf e):∀ar,e.db=(cR e ar).atoms:=by
 induction h with
 |
  @atom s h =>
  intro ar
  simp only[E.db,cR]
  split
  ·rfl
  ·split
   ·rfl
   ·split<;>rfl
 |plus ha hb i1 i2=>intro ar;rw[dJ];simp only[E.db,E.eW,Ty.atoms,<-i1 ar,<-i2 ar];omega
 |times ha hb i1 i2=>intro ar;rw[dr];simp only[E.db,E.eW,Ty.atoms,<-i1 ar,<-i2 ar];omega
 |@rc n b hn hb i=>intro ar;rw[fh];simp only[E.db,E.eW,Ty.atoms,<-i];omega
theorem Wf.sz{e:E}(h:Wf e):e.sz<=3*e.db:=by
 induction h with
 |atom h=>simp[E.sz,E.db]
 |plus ha hb i1 i2=>simp only[E.sz,E.jo,E.db,E.eW];omega
 |times ha hb i1 i2=>simp only[E.sz,E.jo,E.db,E.eW];omega
 |rc hn hb i=>simp only[E.sz,E.jo,E.db,E.eW];omega
theorem kg:∀(e:E) (ar:List Nm) (t:Ty),e.ok->(∀w,w∈ar->dk w=true)->cS e ar=some t->Wf e/\cR e ar=t
 |
  .atom s,ar,t,hok,hl,ht=>by
  refine⟨.atom hok,?_⟩
  simp only[cS,cR]at ht |-
  split at ht
  ·rename_i h;rw[if_pos h];simpa using ht
  ·rename_i h;rw[if_neg h]
   split at ht
   ·rename_i h1;rw[if_pos h1];simpa using ht
   ·rename_i h1;rw[if_neg h1]
    split at ht
    ·rename_i hp
     cases q:bR s ar ar.length with
     |none=>simpa using ht
     |
      some u =>
      obtain⟨h1,h2⟩:=fL _ _ (au _) q
      have:=hl (gj ar u) (by
       unfold gj
       have:ar.length-1-u<ar.length:=by omega
       simp[aa,this])
      rw[h2,ky hp]at this;cases this
    ·split at ht
     ·split at ht<;>rename_i q<;>rw[q]<;>simpa using ht
     ·cases ht
 |
  .list [x,a,b],ar,t,hok,hl,ht=>by
  obtain⟨ok1,ok2,ok3,_⟩:=hok
  by_cases h0:x.at=[43]
  ·obtain⟨t1,t2,h1,h2,rfl⟩:=fI h0 ht
   obtain rfl:=ko h0 (by simp)
   obtain⟨w1,e1⟩:=kg a ar t1 ok2 hl h1
   obtain⟨w2,e2⟩:=kg b ar t2 ok3 hl h2
   exact⟨.plus w1 w2,by rw[dJ,e1,e2]⟩
  ·by_cases h1:x.at=[42]
   ·obtain⟨t1,t2,h2,h3,rfl⟩:=fq h1 ht
    obtain rfl:=ko h1 (by simp)
    obtain⟨w1,e1⟩:=kg a ar t1 ok2 hl h2
    obtain⟨w2,e2⟩:=kg b ar t2 ok3 hl h3
    exact⟨.times w1 w2,by rw[dr,e1,e2]⟩
   ·by_cases h2:x.at=[114,101,99]
    ·obtain⟨t1,hla,h3,rfl⟩:=dw h2 ht
     obtain rfl:=ko h2 (by simp)
     have hne:a.at≠[]:=by intro e;rw[e]at hla;cases hla
     have ha:a=.atom a.at:=ko rfl hne
     obtain⟨w1,e1⟩:=kg b (ar++[a.at]) t1 ok3 (fun w hw=>by
      rcases aN.1 hw with hw|hw
      ·exact hl w hw
      ·simp only[aQ]at hw;rw[hw];exact hla) h3
     have hN:qQ a.at:=⟨hne,fun e=>by rw[e]at hla;revert hla;decide,fun e=>by rw[e]at hla;revert hla;decide⟩
     refine⟨?_,by rw[fh,e1]⟩
     rw[ha];exact .rc hN w1
    ·rw[jd _ h0 h1 h2]at ht;cases ht
 | .list [],ar,t,_,_,ht=>by cases ht
 | .list [_],ar,t,_,_,ht=>by cases ht
 | .list [_,_],ar,t,_,_,ht=>by cases ht
 | .list (_::_::_::_::_),ar,t,_,_,ht=>by cases ht
theorem fE(s:Nm)(ar:List Nm):bR s ar ar.length=none↔s∉ar:=by
 have:=mr s ar ar.length (au _)
 rwa[List.take_length]at this
theorem nJ(s:Nm)(ar:List Nm):∀(n:Nat) (br:List Nm),br.length=n->bR s (ar++br) (ar++br).length=match bR s br br.length with|some u=>some u|none=>(bR s ar ar.length).map (·+br.length)
 |
  0,br,h=>by
  obtain rfl:=bH h
  rw[cX]
  cases h:bR s ar ar.length<;>simp[bR]
 |
  n+1,br,h=>by
  obtain⟨b2,w,rfl⟩:∃b2 w,br=b2++[w]:=⟨br.dropLast,br.getLast (by intro e;rw[e]at h;cases h),(List.dropLast_concat_getLast _).symm⟩
  rw[<-a8]
  by_cases hw:w=s
  ·subst hw;rw[fu,fu]
  ·rw[jH _ hw,jH _ hw,nJ s ar n b2 (by simpa using h)]
   cases bR s b2 b2.length with
   |some u=>rfl
   |
    none =>
    cases bR s ar ar.length with
    |none=>rfl
    |some u=>simp only[Option.map_none,ct,aq,az,aG];congr 1
theorem tL(ar:List Nm){e:E}(h:Wf e):∀br,(∀y,bn y (cR e br)=true->y∉ar)->cR e (ar++br)=cR e br:=by
 induction h with
 |
  @atom s h =>
  intro br hy
  simp only[cR]at hy |-
  split
  ·rfl
  ·rename_i h0
   split
   ·rfl
   ·rename_i h1
    rw[if_neg h0,if_neg h1]at hy
    rw[nJ s ar _ br rfl]
    cases q:bR s br br.length with
    |some u=>rfl
    |
     none =>
     rw[q]at hy
     have:=(fE s ar).2 (hy s (by simp[bn]))
     rw[this];rfl
 |
  plus ha hb i1 i2 =>
  intro br hy
  rw[dJ]at hy |-
  rw[dJ,i1 br fun y h=>hy y (by simp[bn,h]),i2 br fun y h=>hy y (by simp[bn,h])]
 |
  times ha hb i1 i2 =>
  intro br hy
  rw[dr]at hy |-
  rw[dr,i1 br fun y h=>hy y (by simp[bn,h]),i2 br fun y h=>hy y (by simp[bn,h])]
 |
  @rc n b hn hb i =>
  intro br hy
  rw[fh]at hy |-
  rw[fh,a8,i _ hy]
theorem za(x:Nm){e:E}(h:Wf e):∀ar,cR e ar=dy (.name x) (cR e ([x]++ar)) ar.length:=by
 induction h with
 |
  @atom s h =>
  intro ar
  simp only[cR]
  split
  ·rfl
  ·split
   ·rfl
   ·rw[nJ s [x] _ ar rfl]
    cases q:bR s ar ar.length with
    |
     some u =>
     have:=(fL _ _ (au _) q).1
     simp only[dy];rw[if_neg (by omega)]
    |
     none =>
     by_cases hx:x=s
     ·subst hx
      have:bR x [x] [x].length=some 0:=fu x []
      rw[this];simp[dy]
     ·have:bR s [x] [x].length=none:=(fE s [x]).2 (by simpa using fun e=>hx e.symm)
      rw[this];rfl
 |plus ha hb i1 i2=>intro ar;rw[dJ,dJ,dy,<-i1 ar,<-i2 ar]
 |times ha hb i1 i2=>intro ar;rw[dr,dr,dy,<-i1 ar,<-i2 ar]
 |
  @rc n b hn hb i =>
  intro ar
  rw[fh,fh,dy,i (ar++[E.at (.atom n)]),a8]
  simp
theorem mV{e:E}(h:Wf e):∀ar y,bn y (cR e ar)=true->qQ y/\y∉ar:=by
 induction h with
 |
  @atom s h =>
  intro ar y hy
  simp only[cR]at hy
  split at hy
  ·cases hy
  ·rename_i h0
   split at hy
   ·cases hy
   ·rename_i h1
    split at hy
    ·cases hy
    ·rename_i q
     simp only[bn,decide_eq_true_eq]at hy
     subst hy
     exact⟨⟨h,h0,h1⟩,(fE _ _).1 q⟩
 |
  plus ha hb i1 i2 =>
  intro ar y hy
  rw[dJ]at hy
  simp only[bn,bC]at hy
  rcases hy with hy|hy
  ·exact i1 ar y hy
  ·exact i2 ar y hy
 |
  times ha hb i1 i2 =>
  intro ar y hy
  rw[dr]at hy
  simp only[bn,bC]at hy
  rcases hy with hy|hy
  ·exact i1 ar y hy
  ·exact i2 ar y hy
 |
  rc hn hb i =>
  intro ar y hy
  rw[fh]at hy
  obtain⟨h1,h2⟩:=i _ y hy
  exact⟨h1,fun h=>h2 (aD _ h)⟩
theorem lM{e:E}(h:Wf e):∀(bd l:List Nm) (y:Nm),y∈ki e bd l↔y∈l\/bn y (cR e bd)=true:=by
 induction h with
 |
  @atom s h =>
  intro bd l y
  simp only[ki,cR]
  by_cases h0:s=[48]
  ·simp[h0,bn]
  ·by_cases h1:s=[49]
   ·simp[h1,bn]
   ·rw[if_neg h0,if_neg h1]
    by_cases h2:s∈bd
    ·cases q:bR s bd bd.length with
     |none=>exact absurd h2 ((fE _ _).1 q)
     |some u=>simp[h2,bn]
    ·rw[(fE _ _).2 h2]
     simp only[h0,h1,h2,false_or,bn,decide_eq_true_eq]
     by_cases h3:s∈l
     ·simp only[h3,if_true]
      exact⟨fun h=>.inl h,fun h=>by rcases h with h|rfl<;>assumption⟩
     ·simp only[h3,if_false,aN,aQ,eq_comm]
 |
  plus ha hb i1 i2 =>
  intro bd l y
  rw[ki,if_neg (by decide),dJ,i2,i1]
  simp[bn,or_assoc]
 |
  times ha hb i1 i2 =>
  intro bd l y
  rw[ki,if_neg (by decide),dr,i2,i1]
  simp[bn,or_assoc]
 |
  rc hn hb i =>
  intro bd l y
  rw[ki,if_pos (show (E.atom [114,101,99]).at=[114,101,99] from rfl),fh,i]
  rfl
theorem eT:∀(t:Ty) (out:List Nm) (y:Nm),y∈bQ t out↔y∈out\/bn y t=true
 |
  .name s,out,y=>by
  simp only[bQ,pD,bn,decide_eq_true_eq]
  split
  ·rename_i h;exact⟨fun h=>.inl h,fun h'=>by rcases h' with h'|rfl<;>assumption⟩
  ·simp[eq_comm]
 | .plus a b,out,y=>by rw[bQ,eT b,eT a];simp[bn,or_assoc]
 | .times a b,out,y=>by rw[bQ,eT b,eT a];simp[bn,or_assoc]
 | .rc a,out,y=>by rw[bQ,eT a];rfl
 | .zero,out,y=>by simp[bQ,bn]
 | .one,out,y=>by simp[bQ,bn]
 | .bound k,out,y=>by simp[bQ,bn]
end Go.Proofs.Trees
namespace Go.Proofs.Trees
open Go Go.VL Go.RowKit
abbrev dE:Nm:=[114,101,99]
theorem dR(s:Nm):(E.atom s).at=s:=rfl
def ru(x:Nm)(u:E):E->E
 | .atom s=>if s=x then u else .atom s
 | .list [h,a,b]=>if h.at=dE then(if a.at=x then .list [h,a,b]else .list [.atom dE,a,ru x u b])else .list [.atom h.at,ru x u a,ru x u b]
 | .list l=>.list l
def nn(x:Nm):E->Nat
 | .atom s=>if s=x then 1 else 0
 | .list [h,a,b]=>if h.at=dE then(if a.at=x then 0 else nn x b)else nn x a+nn x b
 | .list _=>0
def tW(p:Nm->Prop):E->Prop
 | .atom _=>True
 | .list [h,a,b]=>(if h.at=dE then p a.at else tW p a)/\tW p b
 | .list _=>True
def fy(x:Nm):Ty->Nat
 | .name s=>if s=x then 1 else 0
 | .plus a b=>fy x a+fy x b
 | .times a b=>fy x a+fy x b
 | .rc a=>fy x a
 |_=>0
theorem we(x:Nm)(u a b:E):ru x u (.list [.atom [43],a,b])=.list [.atom [43],ru x u a,ru x u b]:=by rw[ru,if_neg (by decide)];rfl
theorem s7(x:Nm)(u a b:E):ru x u (.list [.atom [42],a,b])=.list [.atom [42],ru x u a,ru x u b]:=by rw[ru,if_neg (by decide)];rfl
theorem Cj(x:Nm)(u:E)(n:Nm)(b:E):ru x u (.list [.atom dE,.atom n,b])=if n=x then .list [.atom dE,.atom n,b]else .list [.atom dE,.atom n,ru x u b]:=by rw[ru,if_pos (dR _)];rfl
theorem rr(x:Nm)(a b:E):nn x (.list [.atom [43],a,b])=nn x a+nn x b:=by rw[nn,if_neg (by decide)]
theorem pE(x:Nm)(a b:E):nn x (.list [.atom [42],a,b])=nn x a+nn x b:=by rw[nn,if_neg (by decide)]
theorem w7(x:Nm)(n:Nm)(b:E):nn x (.list [.atom dE,.atom n,b])=if n=x then 0 else nn x b:=by rw[nn,if_pos (dR _)];rfl
theorem oD(p:Nm->Prop)(a b:E):tW p (.list [.atom [43],a,b])↔tW p a/\tW p b:=by rw[tW,if_neg (by decide)]
theorem mZ(p:Nm->Prop)(a b:E):tW p (.list [.atom [42],a,b])↔tW p a/\tW p b:=by rw[tW,if_neg (by decide)]
theorem ub(p:Nm->Prop)(n:Nm)(b:E):tW p (.list [.atom dE,.atom n,b])↔p n/\tW p b:=by rw[tW,if_pos (dR _)];rfl
theorem CG{p q:Nm->Prop}(h:∀n,p n->q n){e:E}(hw:Wf e):tW p e->tW q e:=by
 induction hw with
 |atom _=>exact fun _=>trivial
 |plus _ _ i1 i2=>rw[oD,oD];exact fun g=>⟨i1 g.1,i2 g.2⟩
 |times _ _ i1 i2=>rw[mZ,mZ];exact fun g=>⟨i1 g.1,i2 g.2⟩
 |rc _ _ i=>rw[ub,ub];exact fun g=>⟨h _ g.1,i g.2⟩
theorem jf{s:Nm}(hs:qQ s){ar:List Nm}(h:s∉ar):cR (.atom s) ar=.name s:=by
 simp only[cR];rw[if_neg hs.2.1,if_neg hs.2.2,(fE s ar).2 h]
theorem D0{x:Nm}(hx:qQ x){u:E}(hu:Wf u){e:E}(h:Wf e):tW (fun n=>n≠x/\bn n (cR u [])=false) e->∀ar,x∉ar->(∀y,y∈ar->bn y (cR u [])=false)->Wf (ru x u e)/\cR (ru x u e) ar=sub x (cR u []) (cR e ar):=by
 induction h with
 |
  @atom s hs =>
  intro _ ar har hy
  by_cases e:s=x
  ·subst e
   have:cR u (ar++[])=cR u []:=tL ar hu [] fun y hy' hm=>by rw[hy y hm]at hy';cases hy'
   rw[cX]at this
   rw[jf hx har]
   simp only[ru,sub,if_true]
   exact⟨hu,this⟩
  ·simp only[ru,if_neg e]
   refine⟨.atom hs,?_⟩
   simp only[cR]
   split
   ·rfl
   ·split
    ·rfl
    ·split
     ·rfl
     ·simp only[sub,if_neg e]
 |
  plus ha hb i1 i2 =>
  intro hap ar har hy
  rw[oD]at hap
  obtain⟨w1,e1⟩:=i1 hap.1 ar har hy
  obtain⟨w2,e2⟩:=i2 hap.2 ar har hy
  rw[we,dJ,dJ,e1,e2]
  exact⟨.plus w1 w2,rfl⟩
 |
  times ha hb i1 i2 =>
  intro hap ar har hy
  rw[mZ]at hap
  obtain⟨w1,e1⟩:=i1 hap.1 ar har hy
  obtain⟨w2,e2⟩:=i2 hap.2 ar har hy
  rw[s7,dr,dr,e1,e2]
  exact⟨.times w1 w2,rfl⟩
 |
  @rc n b hn hb i =>
  intro hap ar har hy
  rw[ub]at hap
  obtain⟨w1,e1⟩:=i hap.2 (ar++[n]) (by
   simp only[aN,aQ]
   rintro(h|h)
   ·exact har h
   ·exact hap.1.1 h.symm) (fun y hm=>by
   simp only[aN,aQ]at hm
   rcases hm with hm|rfl
   ·exact hy y hm
   ·exact hap.1.2)
  rw[Cj,if_neg hap.1.1,fh,fh]
  refine⟨.rc hn w1,?_⟩
  show Ty.rc (cR (ru x u b) (ar++[n]))=_
  rw[e1];rfl
theorem DW{x:Nm}(hx:qQ x){e:E}(h:Wf e):∀ar,fy x (cR e ar)=if x∈ar then 0 else nn x e:=by
 induction h with
 |
  @atom s hs =>
  intro ar
  by_cases e:s=x
  ·subst e
   by_cases hm:s∈ar
   ·rw[if_pos hm]
    simp only[cR];rw[if_neg hx.2.1,if_neg hx.2.2]
    cases q:bR s ar ar.length with
    |none=>exact absurd hm ((fE _ _).1 q)
    |some u=>rfl
   ·rw[if_neg hm,jf hx hm];simp[fy,nn]
  ·have:fy x (cR (.atom s) ar)=0:=by
    simp only[cR]
    split
    ·rfl
    ·split
     ·rfl
     ·split
      ·rfl
      ·simp[fy,e]
   rw[this];simp[nn,e]
 |plus ha hb i1 i2=>intro ar;rw[dJ,rr,fy,i1,i2];split<;>simp
 |times ha hb i1 i2=>intro ar;rw[dr,pE,fy,i1,i2];split<;>simp
 |
  @rc n b hn hb i =>
  intro ar
  rw[fh,w7,fy,i]
  simp only[dR,aN,aQ]
  by_cases h1:x∈ar
  ·simp[h1]
  ·by_cases h2:x=n
   ·simp[h2]
   ·simp[h1,h2,Ne.symm h2]
theorem dU(x:Nm)(u:Ty):∀t:Ty,(sub x u t).atoms+fy x t=t.atoms+fy x t*u.atoms
 | .name s=>by simp only[sub,fy];split<;>simp[Ty.atoms];omega
 | .plus a b=>by have:=dU x u a;have:=dU x u b;simp only[sub,Ty.atoms,fy,Nat.add_mul];omega
 | .times a b=>by have:=dU x u a;have:=dU x u b;simp only[sub,Ty.atoms,fy,Nat.add_mul];omega
 | .rc a=>by have:=dU x u a;simp only[sub,Ty.atoms,fy];omega
 | .zero=>by simp[sub,fy]
 | .one=>by simp[sub,fy]
 | .bound k=>by simp[sub,fy]
abbrev tN(m:Nat):Nm:=116::dd m
theorem EJ(m:Nat):dd m≠[]:=by
 by_cases h:m<10
 ·rw[eI h];simp
 ·rw[fT h];simp
theorem wU:∀(n m k:Nat),m<n->dd m=dd k->m=k
 |0,m,k,h,_=>by omega
 |
  n+1,m,k,h,e=>by
  have d10:∀{a b:Nat},a<10->b<10->bj (48+a)=bj (48+b)->a=b:=fun {a b} ha hb h=>by
   have:=congrArg UInt8.toNat h
   simp only[UInt8.toNat_ofNat']at this
   omega
  by_cases h1:m<10<;>by_cases h2:k<10
  ·rw[eI h1,eI h2]at e
   simp only[List.cons.injEq,and_true]at e
   exact d10 h1 h2 e
  ·rw[eI h1,fT h2]at e
   have:=congrArg List.length e
   have:dd (k/10)=[]:=by
    apply bH
    simp at this;simpa using this
   exact absurd this (EJ _)
  ·rw[fT h1,eI h2]at e
   have:=congrArg List.length e
   have:dd (m/10)=[]:=by
    apply bH
    simp at this;simpa using this
   exact absurd this (EJ _)
  ·rw[fT h1,fT h2]at e
   obtain⟨e1,e2⟩:=List.append_inj' e rfl
   have:=wU n (m/10) (k/10) (by omega) e1
   simp only[List.cons.injEq,and_true]at e2
   have:=d10 (Nat.mod_lt _ (by omega)) (Nat.mod_lt _ (by omega)) e2
   omega
theorem Bv{m k:Nat}(h:tN m=tN k):m=k:=wU (m+1) m k (by omega) (List.cons.inj h).2
theorem yn(m:Nat):qQ (tN m):=⟨by simp,by simp,by simp⟩
theorem S8:∀(l F:List Nm),l.Nodup->(∀x,x∈l->x∈F)->l.length<=F.length
 |[],_,_,_=>dO _
 |
  x::l,F,hn,hs=>by
  obtain⟨h1,h2⟩:=List.nodup_cons.1 hn
  have hx:=hs x ak
  have:=S8 l (F.erase x) h2 fun y hy=>(List.mem_erase_of_ne (fun e=>h1 (by rw[<-e];exact hy))).2 (hs y (al _ hy))
  rw[List.length_erase_of_mem hx]at this
  have:0<F.length:=List.length_pos_of_mem hx
  simp only[az];omega
def qb(F:List Nm):Nat->Nat->Nat
 |0,k=>k
 |n+1,k=>if tN k∈F then qb F n (k+1)else k
theorem vi(F:List Nm):∀(n k:Nat),k<=qb F n k/\qb F n k<=k+n/\(∀j,k<=j->j<qb F n k->tN j∈F)/\(qb F n k<k+n->tN (qb F n k)∉F)
 |0,k=>⟨au _,au _,fun j h1 h2=>by simp only[qb]at h2;omega,fun h=>by simp only[qb]at h;omega⟩
 |
  n+1,k=>by
  rw[qb]
  split
  ·rename_i hm
   obtain⟨h1,h2,h3,h4⟩:=vi F n (k+1)
   refine⟨by omega,by omega,fun j hj hl=>?_,fun h=>h4 (by omega)⟩
   by_cases e:j=k
   ·subst e;exact hm
   ·exact h3 j (by omega) hl
  ·rename_i hm
   exact⟨au _,by omega,fun j h1 h2=>by omega,fun _=>hm⟩
def nx(F:List Nm)(k:Nat):Nat:=qb F (F.length+1) k
theorem gD(F:List Nm)(k:Nat):k<=nx F k/\nx F k<=k+F.length/\(∀j,k<=j->j<nx F k->tN j∈F)/\tN (nx F k)∉F:=by
 obtain⟨h1,h2,h3,h4⟩:=vi F (F.length+1) k
 have hlt:nx F k<k+(F.length+1):=by
  rcases Nat.lt_or_ge (nx F k) (k+(F.length+1))with h|h
  ·exact h
  ·exfalso
   have:=S8 ((List.range' k (F.length+1)).map tN) F (by
    refine List.Pairwise.map _ (fun a b hab e=>hab (Bv e)) List.nodup_range') (fun x hx=>by
    obtain⟨j,hj,rfl⟩:=bO.1 hx
    obtain⟨i,hi,rfl⟩:=List.mem_range'.1 hj
    exact h3 _ (by omega) (by show _<nx F k;omega))
   simp at this
   omega
 exact⟨h1,by unfold nx at hlt |-;omega,h3,h4 hlt⟩
theorem Bq{F F':List Nm}(h:∀y,y∈F↔y∈F')(k:Nat):nx F k=nx F' k:=by
 obtain⟨a1,a2,a3,a4⟩:=gD F k
 obtain⟨b1,b2,b3,b4⟩:=gD F' k
 rcases Nat.lt_trichotomy (nx F k) (nx F' k)with hl|he|hl
 ·exact absurd ((h _).2 (b3 _ a1 hl)) a4
 ·exact he
 ·exact absurd ((h _).1 (a3 _ b1 hl)) b4
def gY(F:List Nm):Ty->List Nm->Nat->E×Nat
 | .zero,_,k=>(.atom [48],k)
 | .one,_,k=>(.atom [49],k)
 | .name s,_,k=>(.atom s,k)
 | .bound u,to,k=>(.atom (gj to u),k)
 | .plus a b,to,k=>(.list [.atom [43],(gY F a to k).1,(gY F b to (gY F a to k).2).1],(gY F b to (gY F a to k).2).2)
 | .times a b,to,k=>(.list [.atom [42],(gY F a to k).1,(gY F b to (gY F a to k).2).1],(gY F b to (gY F a to k).2).2)
 | .rc a,to,k=>(.list [.atom dE,.atom (tN (nx F k)),(gY F a (to++[tN (nx F k)]) (nx F k+1)).1],(gY F a (to++[tN (nx F k)]) (nx F k+1)).2)
theorem jN{F F':List Nm}(h:∀y,y∈F↔y∈F'):∀(t:Ty) (to:List Nm) (k:Nat),gY F t to k=gY F' t to k
 | .zero,_,_=>rfl
 | .one,_,_=>rfl
 | .name _,_,_=>rfl
 | .bound _,_,_=>rfl
 | .plus a b,to,k=>by simp only[gY];rw[jN h a,jN h b]
 | .times a b,to,k=>by simp only[gY];rw[jN h a,jN h b]
 | .rc a,to,k=>by simp only[gY];rw[Bq h,jN h a]
def jz:Ty->Nat->Prop
 | .bound u,i=>u<i
 | .plus a b,i=>jz a i/\jz b i
 | .times a b,i=>jz a i/\jz b i
 | .rc a,i=>jz a (i+1)
 |_,_=>True
theorem ue{e:E}(h:Wf e):∀ar,jz (cR e ar) ar.length:=by
 induction h with
 |
  @atom s hs =>
  intro ar
  simp only[cR]
  split
  ·trivial
  ·split
   ·trivial
   ·split
    ·rename_i u q;exact(fL _ _ (au _) q).1
    ·trivial
 |plus ha hb i1 i2=>intro ar;rw[dJ];exact⟨i1 ar,i2 ar⟩
 |times ha hb i1 i2=>intro ar;rw[dr];exact⟨i1 ar,i2 ar⟩
 |
  @rc n b hn hb i =>
  intro ar;rw[fh]
  have:=i (ar++[(E.atom n).at])
  rw[aq]at this
  exact this
structure Gn(F to:List Nm)(k:Nat):Prop where
 out:∀w,w∈to->w∉F
 lt:∀w,w∈to->∃j,j<k/\w=tN j
 nd:to.Nodup
theorem Gn.nil(F:List Nm)(k:Nat):Gn F [] k:=⟨fun _ h=>(by cases h),fun _ h=>(by cases h),by simp⟩
theorem Gn.mono{F to:List Nm}{k k':Nat}(h:Gn F to k)(hk:k<=k'):Gn F to k':=⟨h.out,fun w hw=>by obtain⟨j,h1,h2⟩:=h.lt w hw;exact⟨j,by omega,h2⟩,h.nd⟩
theorem Gn.push{F to:List Nm}{k:Nat}(h:Gn F to k):Gn F (to++[tN (nx F k)]) (nx F k+1):=by
 obtain⟨h1,h2,h3,h4⟩:=gD F k
 refine⟨fun w hw=>?_,fun w hw=>?_,?_⟩
 ·rcases aN.1 hw with hw|hw
  ·exact h.out w hw
  ·simp only[aQ]at hw;rw[hw];exact h4
 ·rcases aN.1 hw with hw|hw
  ·obtain⟨j,g1,g2⟩:=h.lt w hw;exact⟨j,by omega,g2⟩
  ·simp only[aQ]at hw;exact⟨_,by omega,hw⟩
 ·refine List.nodup_append.2 ⟨h.nd,by simp,fun a ha b hb e=>?_⟩
  simp only[aQ]at hb
  obtain⟨j,g1,g2⟩:=h.lt a ha
  rw[e,hb]at g2
  have:=Bv g2
  omega
theorem tM{to:List Nm}(hn:to.Nodup){u:Nat}(hu:u<to.length):bR (gj to u) to to.length=some u:=by
 have hm:gj to u∈to:=by
  unfold gj
  have:to.length-1-u<to.length:=by omega
  simp[aa,this]
 cases q:bR (gj to u) to to.length with
 |none=>exact absurd hm ((fE _ _).1 q)
 |
  some v =>
  obtain⟨h1,h2⟩:=fL _ _ (au _) q
  unfold gj at h2
  have e1:to.length-1-v<to.length:=by omega
  have e2:to.length-1-u<to.length:=by omega
  rw[aa,aa,bp e1,bp e2]at h2
  have hp:=List.pairwise_iff_getElem.1 hn
  have h3:to[to.length-1-v]=to[to.length-1-u]:=by simpa using h2
  rcases Nat.lt_trichotomy (to.length-1-v) (to.length-1-u)with hl|he|hl
  ·exact absurd h3 (hp _ _ e1 e2 hl)
  ·congr 1;omega
  ·exact absurd h3.symm (hp _ _ e2 e1 hl)
theorem kC(F:List Nm):∀(t:Ty) (to:List Nm) (k:Nat),Gn F to k->jz t to.length->(∀y,bn y t=true->y∈F/\qQ y) ->
 Wf (gY F t to k).1/\cR (gY F t to k).1 to=t/\k<=(gY F t to k).2/\(gY F t to k).2<=k+(F.length+1)*t.atoms/\tW (·∉F) (gY F t to k).1
 | .zero,to,k,_,_,_=>⟨.atom (by simp),rfl,au _,da _ _,trivial⟩
 | .one,to,k,_,_,_=>⟨.atom (by simp),rfl,au _,da _ _,trivial⟩
 |
  .name s,to,k,g,hl,hn=>by
  obtain⟨h1,h2⟩:=hn s (by simp[bn])
  exact⟨.atom h2.1,jf h2 (fun h=>g.out s h h1),au _,da _ _,trivial⟩
 |
  .bound u,to,k,g,hl,hn=>by
  have hm:gj to u∈to:=by
   unfold gj
   have:to.length-1-u<to.length:=by have:u<to.length:=hl;omega
   simp[aa,this]
  obtain⟨j,_,e⟩:=g.lt _ hm
  have hok:qQ (gj to u):=by rw[e];exact yn j
  refine⟨.atom hok.1,?_,au _,da _ _,trivial⟩
  simp only[gY,cR]
  rw[if_neg hok.2.1,if_neg hok.2.2,tM g.nd hl]
 |
  .plus a b,to,k,g,hl,hn=>by
  obtain⟨a1,a2,a3,a4,a5⟩:=kC F a to k g hl.1 fun y hy=>hn y (by simp[bn,hy])
  obtain⟨b1,b2,b3,b4,b5⟩:=kC F b to _ (g.mono a3) hl.2 fun y hy=>hn y (by simp[bn,hy])
  simp only[gY,dJ,a2,b2,oD,Ty.atoms]
  refine⟨.plus a1 b1,trivial,by omega,?_,a5,b5⟩
  have:(F.length+1)*(1+a.atoms+b.atoms)=(F.length+1)+(F.length+1)*a.atoms+(F.length+1)*b.atoms:=by simp only[cT,dG]
  omega
 |
  .times a b,to,k,g,hl,hn=>by
  obtain⟨a1,a2,a3,a4,a5⟩:=kC F a to k g hl.1 fun y hy=>hn y (by simp[bn,hy])
  obtain⟨b1,b2,b3,b4,b5⟩:=kC F b to _ (g.mono a3) hl.2 fun y hy=>hn y (by simp[bn,hy])
  simp only[gY,dr,a2,b2,mZ,Ty.atoms]
  refine⟨.times a1 b1,trivial,by omega,?_,a5,b5⟩
  have:(F.length+1)*(1+a.atoms+b.atoms)=(F.length+1)+(F.length+1)*a.atoms+(F.length+1)*b.atoms:=by simp only[cT,dG]
  omega
 |
  .rc a,to,k,g,hl,hn=>by
  obtain⟨h1,h2,h3,h4⟩:=gD F k
  obtain⟨a1,a2,a3,a4,a5⟩:=kC F a (to++[tN (nx F k)]) (nx F k+1) g.push (by rw[aq];exact hl) hn
  simp only[gY,fh,dR,a2,ub,Ty.atoms]
  refine⟨.rc (yn _) a1,trivial,by omega,?_,h4,a5⟩
  have:(F.length+1)*(2+a.atoms)=(F.length+1)*2+(F.length+1)*a.atoms:=by simp only[cT]
  omega
end Go.Proofs.Trees
namespace Go.Proofs.Trees
open Go Go.VL Go.RowKit
inductive kD:AV->List Nat->Prop
 |nil:kD ir []
 |cons {m:Nat} {cs:List AV} {e:AV} {ids:List Nat} (hm:m∉ids) (h:kD e ids):kD (.ptr [.pid m cs,e]) (m::ids)
theorem kD.has{a:AV}{ids:List Nat}(h:kD a ids):LK.has .ptr a:=by
 cases h
 ·exact(iF).mpr trivial
 ·exact(bZ _).mpr trivial
theorem kD.Tv{M:Mem}{a:AV}{ids:List Nat}(h:kD a ids):∀{v:Value},bF M dA a v->∀b,b∈ids->M.p b:=by
 induction h with
 |nil=>intro v _ b hb;cases hb
 |
  @cons m cs e ids hm h ih =>
  intro v hr b hb
  cases hr with
  |
   ptr _ _ _ off us hc hr =>
   have h0:=hr 0 (by simp)
   have h1:=hr 1 (by simp)
   simp only[bq,List.getD_cons_succ]at h0 h1
   rcases aJ.1 hb with rfl|hb
   ·generalize us 0=u0 at h0
    cases h0 with
    |pid _ _ _ us hp _ _=>exact hp
   ·exact ih h1 b hb
theorem kD.nodup{a:AV}{ids:List Nat}(h:kD a ids):ids.Nodup:=by
 induction h with
 |nil=>simp
 |cons hm h ih=>exact List.nodup_cons.2 ⟨hm,ih⟩
theorem zT(a b:AV)(S:Nat->Prop)(R:AV->Prop):CJ I5 cfg eu (cB eu) [.agg [.x a,.x b]] S (fun o=>aI o 7) R =
 .ai (LK.has .ptr a/\a.isNil=false) (.ai (LK.has .ptr a/\a.isNil=false) (.ai (LK.has .ptr ((a.deref.drop 3).headD .any)/\1<=(a.deref.drop 3).length)
  (.ai (∀ids:Nat->Nat,(∀o,¬S (ids o))->(True/\R (.cH [.agg [(a.deref.drop 3).headD .any,.ptr [.pid (ids 7) [a,b],b]],.pid (ids 7) [a,b]]))) (.done 0 [] [])))):=by kernel_rfl
def Bu(t:Ty)(ea:AV)(ids:List Nat):AV->List Ob->Prop:=fun r o=>(∃m,m∉ids/\r=.cH [.agg [t.av,.ptr [.pid m [(Ty.rc t).av,ea],ea]],.pid m [(Ty.rc t).av,ea]])/\o=[]
theorem Bu.ne(t:Ty)(ea:AV)(ids:List Nat):∃r o,Bu t ea ids r o:=by
 have:∃m,m∉ids:=⟨ids.foldr max 0+1,fun h=>by
  have key:∀(l:List Nat) (x:Nat),x∈l->x<=l.foldr max 0:=by
   intro l
   induction l with
   |nil=>intro x hx;cases hx
   |
    cons y l ih =>
    intro x hx
    rcases aJ.1 hx with rfl|hx
    ·simp only[List.foldr_cons];omega
    ·have:=ih x hx;simp only[List.foldr_cons];omega
  have:=key _ _ h
  omega⟩
 obtain⟨m,hm⟩:=this
 exact⟨_,_,⟨m,hm,rfl⟩,rfl⟩
theorem D2(t:Ty)(ea:AV)(ids:List Nat)(he:kD ea ids):an Tryz.prog 77 [.agg [(Ty.rc t).av,ea]] [] (Bu t ea ids):=by
 have hup:xD [.agg [(Ty.rc t).av,ea]] [.agg [.x (Ty.rc t).av,.x ea]]:=ah (cb (ah (bB ((aE _).mpr trivial)) (ah (bB he.has) aC))) aC
 refine an.up hup ?_
 refine an.Te (cfg:=cfg) (F:=eu) (S:=fun b=>b∈ids) (sel:=fun o=>aI o 7) uy mixed (by kernel_rfl) (by kernel_rfl) (c:=cB eu) (by kernel_rfl) (by kernel_rfl) (fun M β vs hr b hb=>?_) ?_
 ·have h0:=hr 0 (by simp)
  simp only[bq]at h0
  obtain⟨us,_,hl,hq,_⟩:=gf h0
  have h1:=hq 1 (by simp at hl |-)
  simp only[List.getD_cons_succ,bq]at h1
  cases h1 with
  |x _ _ _ _ h=>exact he.Tv h b hb
 ·rw[zT]
  simp only[Ty.av,↓zq,zs,ae,aE]
  exact⟨by omega,fun ids' hf=>⟨ids' 7,hf 7,rfl⟩⟩
theorem K6(u:Nat)(hu:u<1000000):∀(k i:Nat) (ea:AV) (ids:List Nat),i+k=u->kD ea ids->k<=ids.length->Db [ea,.v (.int .i64 (u:Int)),.v (.int .i64 (i:Int))] [] (fun t ys o=>t=1/\∃e',kD e' (ids.drop k)/\ys=[e']/\o=[])
 |
  0,i,ea,ids,hi,he,hk=>by
  refine Ea _ _ _ ?_
  have:i=u:=by omega
  subst this
  simp only[Ck,↓zq,zs,ae]
  exact⟨he.has,fun h=>by omega,fun _=>⟨ea,he,rfl⟩⟩
 |
  k+1,i,ea,ids,hi,he,hk=>by
  refine Ea _ _ _ ?_
  cases he with
  |nil=>simp at hk
  |
   @cons m cs e ids' hm h =>
   simp only[Ck,↓zq,zs,ae,h.has]
   refine⟨fun _=>⟨by omega,?_⟩,fun h=>by omega⟩
   rw[bz i (by omega)]
   exact K6 u hu k (i+1) e ids' (by omega) h (by simpa using hk)
theorem QP(u:Nat)(ea:AV)(ids:List Nat)(he:kD ea ids)(hu:u<ids.length)(hl:ids.length<1000000):an Tryz.prog 141 [.agg [(Ty.bound u).av,ea]] [] (fun r o=>(∃cs,r=.pid (ids.getD u 0) cs)/\o=[]):=by
 refine KB _ _ ((aE _).mpr trivial) he.has ?_
 simp only[Gi,Ty.av,↓zq,zs,ae,he.has]
 refine⟨by omega,lz (K6 u (by omega) u 0 ea ids (by omega) he (by omega)) ?_ (fun ys o h=>by cases h.1)⟩
 rintro ys o ⟨_,e',he',rfl,rfl⟩
 have hd:ids.drop u=ids.getD u 0::ids.drop (u+1):=by
  rw[aS hu];simp[aa,hu]
 rw[hd]at he'
 cases he' with
 |
  @cons m cs e ids' hm h =>
  have hp:LK.has .ptr (AV.pid (ids.getD u 0) cs):=.inr (.inr ⟨_,_,rfl⟩)
  simp only[↓zq,zs,ae,hp]
  exact⟨by omega,cs,rfl⟩
inductive AA:Tg->List Nat->List UInt8->AV->Prop
 |nm (s:List UInt8) (ids:List Nat):AA (.nm s) ids s ir
 |bd {k:Nat} {ids:List Nat} (hk:k<ids.length) (cs:List AV) (s:List UInt8):AA (.bd k) ids s (.pid (ids.getD k 0) cs)
theorem AA.has{tg:Tg}{ids:List Nat}{s:List UInt8}{fr:AV}(h:AA tg ids s fr):LK.has .ptr fr:=by
 cases h
 ·exact(iF).mpr trivial
 ·exact .inr (.inr ⟨_,_,rfl⟩)
theorem AA.push{tg:Tg}{ids:List Nat}{s:List UInt8}{fr:AV}(h:AA tg ids s fr)(m:Nat):AA tg.up (m::ids) s fr:=by
 cases h with
 |nm=>exact .nm _ _
 |
  @bd k _ hk cs =>
  have:=AA.bd (k:=k+1) (ids:=m::ids) (by simpa using hk) cs s
  simpa[Tg.up]using this
theorem zI{ids:List Nat}(h:ids.Nodup){i j:Nat}(hi:i<ids.length)(hj:j<ids.length)(he:ids.getD i 0=ids.getD j 0):i=j:=by
 have e1:ids.getD i 0=ids[i]:=by simp[aa,hi]
 have e2:ids.getD j 0=ids[j]:=by simp[aa,hj]
 rw[e1,e2]at he
 have hp:=List.pairwise_iff_getElem.1 h
 rcases Nat.lt_trichotomy i j with hlt|rfl|hlt
 ·exact absurd he (hp i j hi hj hlt)
 ·rfl
 ·exact absurd he.symm (hp j i hj hi hlt)
theorem Si(t:Ty)(tg:Tg)(ea:AV)(ids:List Nat)(s:List UInt8)(fr:AV)(he:kD ea ids)(ht:AA tg ids s fr)(hu:∀u,t=.bound u->u<ids.length)(hl:ids.length<1000000) :
 an Tryz.prog 110 [.agg [.v (.string (mk s)),fr],.agg [t.av,ea]] [] (bK (.v (.bool (eD t tg)))):=by
 refine Sp _ _ _ _ ht.has ((aE _).mpr trivial) he.has ?_
 cases ht with
 |
  nm s =>
  cases t<;>simp[Ew,Ty.av,↓zq,zs,ae,zt,bK,eD]
  rw[cx];simp
 |
  @bd k _ hk cs s =>
  generalize hm0:ids.getD k 0=m0
  have hp:LK.has .ptr (AV.pid m0 cs):=.inr (.inr ⟨_,_,rfl⟩)
  have hn:(AV.pid m0 cs).isNil=false:=rfl
  cases t with
  |
   bound u =>
   have hu:=hu u rfl
   simp only[Ew,Ty.av,↓zq,zs,ae,hp,hn]
   refine⟨fun _=>⟨by omega,fun _=>?_,fun h=>absurd rfl h⟩,fun h=>by cases h⟩
   have hb:=QP u ea ids he hu hl
   simp only[Ty.av]at hb
   refine aP hb ⟨_,_,⟨[],rfl⟩,rfl⟩ ?_
   rintro r o ⟨⟨cs',rfl⟩,rfl⟩
   have hp':LK.has .ptr (AV.pid (ids.getD u 0) cs'):=.inr (.inr ⟨_,_,rfl⟩)
   simp only[↓zq,zs,ae,hp',AV.rR,AV.B0,bK,eD]
   congr 2
   rw[cx,Nat.beq_eq,decide_eq_true_eq,<-hm0]
   exact⟨fun h=>zI he.nodup hu hk h,fun h=>by rw[h]⟩
  |_=>simp[Ew,Ty.av,↓zq,zs,ae,hp,hn,bK,eD]
end Go.Proofs.Trees
namespace Go.Proofs.Trees
open Go Go.VL Go.RowKit
theorem zo(b:Int)(a:AV)(h:LK.ptr.has a):an Tryz.prog 78 [.v (.int .u8 b),a] [] (bK (.ptr [.v (.int .u8 b),.v (.string (mk [])),a,ir])):=by
 refine RB _ _ h ?_
 simp[JX,↓zq,zs,ae,bK]
end Go.Proofs.Trees
namespace Go.Proofs.Trees
open Go Go.VL Go.RowKit
def gK(l:List Hl):List (List AV):=l.map fun h=>[h.1.cE,h.2.cE]
theorem ei(l:List Hl):(gK l).length=l.length:=by simp[gK]
theorem lC{l:List Hl}{i:Nat}(hi:i<l.length):(gK l).getD i []=[(l[i]).1.cE,(l[i]).2.cE]:=by simp[gK,aa,hi]
theorem oU(out:List Hl)(a b:Vl):gK out++[[a.cE,b.cE]]=gK (out++[(a,b)]):=by simp[gK]
theorem gr(g:Vl->Vl)(l:List Hl){i:Nat}(hi:i<l.length):iI g (l.drop i)=(g (l[i]).1,(l[i]).2)::iI g (l.drop (i+1)):=by
 rw[aS hi];rfl
theorem fQ(g:Vl->Vl)(l:List Hl):(iI g l).length=l.length:=by simp[iI]
theorem AF(a b:AV):cC 2 [[a,b]]:=fun c hc=>by simp at hc;rw[hc];rfl
theorem Ov(x0:AV)(hx0:LK.ptr.has x0)(g:Vl->Vl)(hg:∀c:Vl,an Tryz.prog 112 [c.cE,.ref 0 0] [.cells [x0]] (df (g c).cE [.cells [x0]]))(l:List Hl):∀(k i:Nat) (out:List Hl),i+k=l.length->out.length+k<=1000000->l.length<=1000000 ->
 G3 [.sl (gK l),.v (.int .i64 (l.length:Int)),.v (.int .i64 (i:Int))] [.cells [x0],.cells [.any],.vec 2 (gK out)] (gI 1 [] [.cells [x0],.cells [.any],.vec 2 (gK (out++iI g (l.drop i)))])
 |
  0,i,out,hi,ho,hl=>by
  refine Jj _ _ _ _ _ ?_
  have:i=l.length:=by omega
  subst this
  simp only[Gf,↓zq,zs,ae,ei,hx0]
  exact⟨fun h=>by omega,fun _=>by simp[gI,iI]⟩
 |
  k+1,i,out,hi,ho,hl=>by
  have hlt:i<l.length:=by omega
  refine Jj _ _ _ _ _ ?_
  simp only[Gf,↓zq,zs,ae,zt,ei,lC hlt,aM,bI,hx0]
  refine⟨fun _=>⟨by omega,by omega,?_⟩,fun h=>by omega⟩
  refine aV (hg _) ?_
  simp only[↓zq,zs,ae,aM,aK,bK,df,hx0]
  refine⟨⟨AF _ _,by omega⟩,?_⟩
  rw[bz i (by omega)]
  have:=Ov x0 hx0 g hg l k (i+1) (out++[(g (l[i]).1,(l[i]).2)]) (by omega) (by simp;omega) hl
  rw[a8]at this
  rw[gr g l hlt,oU]
  exact this
theorem Oi(x0:AV)(hx0:LK.ptr.has x0)(g:Vl->Vl)(hg:∀c:Vl,an Tryz.prog 112 [c.cE,.ref 0 0] [.cells [x0]] (df (g c).cE [.cells [x0]]))(l out:List Hl)(hl:out.length+l.length<=1000000) :
 an Tryz.prog 111 [.sl (gK l),.fn 112 [.ref 0 0],.ref 1 0] [.cells [x0],.cells [.vec 2],.vec 2 (gK out)] (df .any [.cells [x0],.cells [.vec 2],.vec 2 (gK (out++iI g l))]):=by
 refine S5 _ _ _ ((cf _).mpr trivial) hx0 ?_
 simp only[Mr,↓zq,zs,ae,ei]
 have h:=Ov x0 hx0 g hg l l.length 0 out (by omega) (by omega) (by omega)
 rw[bb]at h
 refine cz h ?_
 simp[↓zq,zs,ae,df,aK,hx0]
theorem I0(x0:AV)(hx0:LK.ptr.has x0)(g:Vl->Vl)(hg:∀c:Vl,an Tryz.prog 113 [c.cE,.ref 0 0] [.cells [x0]] (df (g c).cE [.cells [x0]]))(l:List Hl):∀(k i:Nat) (out:List Hl),i+k=l.length->out.length+k<=1000000->l.length<=1000000 ->
 Ft [.sl (gK l),.v (.int .i64 (l.length:Int)),.v (.int .i64 (i:Int))] [.cells [x0],.cells [.any],.vec 2 (gK out)] (gI 1 [] [.cells [x0],.cells [.any],.vec 2 (gK (out++iI g (l.drop i)))])
 |
  0,i,out,hi,ho,hl=>by
  refine Lt _ _ _ _ _ ?_
  have:i=l.length:=by omega
  subst this
  simp only[Gr,↓zq,zs,ae,ei,hx0]
  exact⟨fun h=>by omega,fun _=>by simp[gI,iI]⟩
 |
  k+1,i,out,hi,ho,hl=>by
  have hlt:i<l.length:=by omega
  refine Lt _ _ _ _ _ ?_
  simp only[Gr,↓zq,zs,ae,zt,ei,lC hlt,aM,bI,hx0]
  refine⟨fun _=>⟨by omega,by omega,?_⟩,fun h=>by omega⟩
  refine aV (hg _) ?_
  simp only[↓zq,zs,ae,aM,aK,bK,df,hx0]
  refine⟨⟨AF _ _,by omega⟩,?_⟩
  rw[bz i (by omega)]
  have:=I0 x0 hx0 g hg l k (i+1) (out++[(g (l[i]).1,(l[i]).2)]) (by omega) (by simp;omega) hl
  rw[a8]at this
  rw[gr g l hlt,oU]
  exact this
theorem R7(x0:AV)(hx0:LK.ptr.has x0)(g:Vl->Vl)(hg:∀c:Vl,an Tryz.prog 113 [c.cE,.ref 0 0] [.cells [x0]] (df (g c).cE [.cells [x0]]))(l out:List Hl)(hl:out.length+l.length<=1000000) :
 an Tryz.prog 111 [.sl (gK l),.fn 113 [.ref 0 0],.ref 1 0] [.cells [x0],.cells [.vec 2],.vec 2 (gK out)] (df .any [.cells [x0],.cells [.vec 2],.vec 2 (gK (out++iI g l))]):=by
 refine Rb _ _ _ ((cf _).mpr trivial) hx0 ?_
 simp only[J4,↓zq,zs,ae,ei]
 have h:=I0 x0 hx0 g hg l l.length 0 out (by omega) (by omega) (by omega)
 rw[bb]at h
 refine cz h ?_
 simp[↓zq,zs,ae,df,aK,hx0]
theorem Nr(x0:AV)(hx0:LK.ptr.has x0)(g:Vl->Vl)(hg:∀c:Vl,an Tryz.prog 114 [c.cE,.ref 0 0] [.cells [x0]] (df (g c).cE [.cells [x0]]))(l:List Hl):∀(k i:Nat) (out:List Hl),i+k=l.length->out.length+k<=1000000->l.length<=1000000 ->
 FK [.sl (gK l),.v (.int .i64 (l.length:Int)),.v (.int .i64 (i:Int))] [.cells [x0],.cells [.any],.vec 2 (gK out)] (gI 1 [] [.cells [x0],.cells [.any],.vec 2 (gK (out++iI g (l.drop i)))])
 |
  0,i,out,hi,ho,hl=>by
  refine OM _ _ _ _ _ ?_
  have:i=l.length:=by omega
  subst this
  simp only[Fs,↓zq,zs,ae,ei,hx0]
  exact⟨fun h=>by omega,fun _=>by simp[gI,iI]⟩
 |
  k+1,i,out,hi,ho,hl=>by
  have hlt:i<l.length:=by omega
  refine OM _ _ _ _ _ ?_
  simp only[Fs,↓zq,zs,ae,zt,ei,lC hlt,aM,bI,hx0]
  refine⟨fun _=>⟨by omega,by omega,?_⟩,fun h=>by omega⟩
  refine aV (hg _) ?_
  simp only[↓zq,zs,ae,aM,aK,bK,df,hx0]
  refine⟨⟨AF _ _,by omega⟩,?_⟩
  rw[bz i (by omega)]
  have:=Nr x0 hx0 g hg l k (i+1) (out++[(g (l[i]).1,(l[i]).2)]) (by omega) (by simp;omega) hl
  rw[a8]at this
  rw[gr g l hlt,oU]
  exact this
theorem Px(x0:AV)(hx0:LK.ptr.has x0)(g:Vl->Vl)(hg:∀c:Vl,an Tryz.prog 114 [c.cE,.ref 0 0] [.cells [x0]] (df (g c).cE [.cells [x0]]))(l out:List Hl)(hl:out.length+l.length<=1000000) :
 an Tryz.prog 111 [.sl (gK l),.fn 114 [.ref 0 0],.ref 1 0] [.cells [x0],.cells [.vec 2],.vec 2 (gK out)] (df .any [.cells [x0],.cells [.vec 2],.vec 2 (gK (out++iI g l))]):=by
 refine Qn _ _ _ ((cf _).mpr trivial) hx0 ?_
 simp only[KH,↓zq,zs,ae,ei]
 have h:=Nr x0 hx0 g hg l l.length 0 out (by omega) (by omega) (by omega)
 rw[bb]at h
 refine cz h ?_
 simp[↓zq,zs,ae,df,aK,hx0]
theorem Nf(g:Vl->Vl)(hg:∀c:Vl,an Tryz.prog 115 [c.cE] [] (bK (g c).cE))(l:List Hl):∀(k i:Nat) (out:List Hl),i+k=l.length->out.length+k<=1000000->l.length<=1000000 ->
 Hr [.v (.func (.func 115) #[] #[]),.sl (gK l),.v (.int .i64 (l.length:Int)),.v (.int .i64 (i:Int))] [.cells [.any],.vec 2 (gK out)] (gI 1 [] [.cells [.any],.vec 2 (gK (out++iI g (l.drop i)))])
 |
  0,i,out,hi,ho,hl=>by
  refine MV _ _ _ _ ?_
  have:i=l.length:=by omega
  subst this
  simp only[Fq,↓zq,zs,ae,ei]
  exact⟨fun h=>by omega,fun _=>by simp[gI,iI]⟩
 |
  k+1,i,out,hi,ho,hl=>by
  have hlt:i<l.length:=by omega
  refine MV _ _ _ _ ?_
  simp only[Fq,↓zq,zs,ae,zt,ei,lC hlt,aM,bI]
  refine⟨fun _=>⟨by omega,by omega,?_⟩,fun h=>by omega⟩
  refine aj (hg _) ?_
  simp only[↓zq,zs,ae,aM,aK,bK,df]
  refine⟨⟨AF _ _,by omega⟩,?_⟩
  rw[bz i (by omega)]
  have:=Nf g hg l k (i+1) (out++[(g (l[i]).1,(l[i]).2)]) (by omega) (by simp;omega) hl
  rw[a8]at this
  rw[gr g l hlt,oU]
  exact this
theorem R8(g:Vl->Vl)(hg:∀c:Vl,an Tryz.prog 115 [c.cE] [] (bK (g c).cE))(l out:List Hl)(hl:out.length+l.length<=1000000) :
 an Tryz.prog 111 [.sl (gK l),.v (.func (.func 115) #[] #[]),.ref 0 0] [.cells [.vec 1],.vec 2 (gK out)] (df .any [.cells [.vec 1],.vec 2 (gK (out++iI g l))]):=by
 refine PQ _ _ ((cf _).mpr trivial) ?_
 simp only[Ju,↓zq,zs,ae,ei]
 have h:=Nf g hg l l.length 0 out (by omega) (by omega) (by omega)
 rw[bb]at h
 refine cz h ?_
 simp[↓zq,zs,ae,df,aK]
theorem Jx(x0:AV)(x1:AV)(hx0:LK.ptr.has x0)(hx1:LK.ptr.has x1)(g:Vl->Vl)(hg:∀c:Vl,an Tryz.prog 116 [c.cE,.ref 0 0] [.cells [x0,x1]] (df (g c).cE [.cells [x0,x1]]))(l:List Hl):∀(k i:Nat) (out:List Hl),i+k=l.length->out.length+k<=1000000->l.length<=1000000 ->
 Ir [.sl (gK l),.v (.int .i64 (l.length:Int)),.v (.int .i64 (i:Int))] [.cells [x0,x1],.cells [.any],.vec 2 (gK out)] (gI 1 [] [.cells [x0,x1],.cells [.any],.vec 2 (gK (out++iI g (l.drop i)))])
 |
  0,i,out,hi,ho,hl=>by
  refine No _ _ _ _ _ _ ?_
  have:i=l.length:=by omega
  subst this
  simp only[H6,↓zq,zs,ae,ei,hx0,hx1]
  exact⟨fun h=>by omega,fun _=>by simp[gI,iI]⟩
 |
  k+1,i,out,hi,ho,hl=>by
  have hlt:i<l.length:=by omega
  refine No _ _ _ _ _ _ ?_
  simp only[H6,↓zq,zs,ae,zt,ei,lC hlt,aM,bI,hx0,hx1]
  refine⟨fun _=>⟨by omega,by omega,?_⟩,fun h=>by omega⟩
  refine aV (hg _) ?_
  simp only[↓zq,zs,ae,aM,aK,bK,df,hx0,hx1]
  refine⟨⟨AF _ _,by omega⟩,?_⟩
  rw[bz i (by omega)]
  have:=Jx x0 x1 hx0 hx1 g hg l k (i+1) (out++[(g (l[i]).1,(l[i]).2)]) (by omega) (by simp;omega) hl
  rw[a8]at this
  rw[gr g l hlt,oU]
  exact this
theorem QN(x0:AV)(x1:AV)(hx0:LK.ptr.has x0)(hx1:LK.ptr.has x1)(g:Vl->Vl)(hg:∀c:Vl,an Tryz.prog 116 [c.cE,.ref 0 0] [.cells [x0,x1]] (df (g c).cE [.cells [x0,x1]]))(l out:List Hl)(hl:out.length+l.length<=1000000) :
 an Tryz.prog 111 [.sl (gK l),.fn 116 [.ref 0 0],.ref 1 0] [.cells [x0,x1],.cells [.vec 2],.vec 2 (gK out)] (df .any [.cells [x0,x1],.cells [.vec 2],.vec 2 (gK (out++iI g l))]):=by
 refine Rk _ _ _ _ ((cf _).mpr trivial) hx0 hx1 ?_
 simp only[Jp,↓zq,zs,ae,ei]
 have h:=Jx x0 x1 hx0 hx1 g hg l l.length 0 out (by omega) (by omega) (by omega)
 rw[bb]at h
 refine cz h ?_
 simp[↓zq,zs,ae,df,aK,hx0,hx1]
theorem Qd(w c:Vl):an Tryz.prog 112 [c.cE,.ref 0 0] [.cells [(Vl.l w).cE]] (df (Vl.l c).cE [.cells [(Vl.l w).cE]]):=by
 refine Js _ _ ((aM _).mpr trivial) ((aM _).mpr trivial) ?_
 simp only[Gy,Vl.cE,↓zq,zs,ae,aM]
 refine⟨by omega,?_⟩
 refine aj (zo _ _ ((aM _).mpr trivial)) ?_
 simp[↓zq,zs,ae,df,Vl.cE]
theorem QT(w c:Vl):an Tryz.prog 112 [c.cE,.ref 0 0] [.cells [(Vl.r w).cE]] (df (Vl.r c).cE [.cells [(Vl.r w).cE]]):=by
 refine Js _ _ ((aM _).mpr trivial) ((aM _).mpr trivial) ?_
 simp only[Gy,Vl.cE,↓zq,zs,ae,aM]
 refine⟨by omega,?_⟩
 refine aj (zo _ _ ((aM _).mpr trivial)) ?_
 simp[↓zq,zs,ae,df,Vl.cE]
theorem Qf(x y c:Vl):an Tryz.prog 113 [c.cE,.ref 0 0] [.cells [(Vl.p x y).cE]] (df (Vl.l (.p c y)).cE [.cells [(Vl.p x y).cE]]):=by
 refine PT _ _ ((aM _).mpr trivial) ((aM _).mpr trivial) ?_
 simp only[OD,Vl.cE,↓zq,zs,ae,aM]
 refine⟨by omega,?_⟩
 refine aj (zn _ _ ((aM _).mpr trivial) ((aM _).mpr trivial)) ?_
 simp only[↓zq,zs,ae]
 refine aj (zo _ _ ((bZ _).mpr trivial)) ?_
 simp[↓zq,zs,ae,df,Vl.cE]
theorem QM(x y c:Vl):an Tryz.prog 114 [c.cE,.ref 0 0] [.cells [(Vl.p x y).cE]] (df (Vl.r (.p x c)).cE [.cells [(Vl.p x y).cE]]):=by
 refine SH _ _ ((aM _).mpr trivial) ((aM _).mpr trivial) ?_
 simp only[Kz,Vl.cE,↓zq,zs,ae,aM]
 refine⟨by omega,?_⟩
 refine aj (zn _ _ ((aM _).mpr trivial) ((aM _).mpr trivial)) ?_
 simp only[↓zq,zs,ae]
 refine aj (zo _ _ ((bZ _).mpr trivial)) ?_
 simp[↓zq,zs,ae,df,Vl.cE]
theorem RZ(kc kv c:Vl):an Tryz.prog 116 [c.cE,.ref 0 0] [.cells [kc.cE,kv.cE]] (df (Vl.f (.r (.p kc c))).cE [.cells [kc.cE,kv.cE]]):=by
 refine Qb _ _ _ ((aM _).mpr trivial) ((aM _).mpr trivial) ((aM _).mpr trivial) ?_
 simp only[MQ,Vl.cE,↓zq,zs,ae,aM]
 refine aj (zn _ _ ((aM _).mpr trivial) ((aM _).mpr trivial)) ?_
 simp only[↓zq,zs,ae]
 refine aj (zo _ _ ((bZ _).mpr trivial)) ?_
 simp only[↓zq,zs,ae]
 refine aj (zo _ _ ((bZ _).mpr trivial)) ?_
 simp[↓zq,zs,ae,df,Vl.cE,aM]
theorem So(c:Vl):an Tryz.prog 115 [c.cE] [] (bK (Vl.f (.l c)).cE):=by
 refine PM _ ((aM _).mpr trivial) ?_
 simp only[Ln,↓zq,zs,ae]
 refine aj (zo _ _ ((aM _).mpr trivial)) ?_
 simp only[↓zq,zs,ae]
 refine aj (zo _ _ ((bZ _).mpr trivial)) ?_
 simp[↓zq,zs,ae,bK,Vl.cE]
end Go.Proofs.Trees
namespace Go.Proofs.Trees
open Go Go.VL Go.RowKit
abbrev Aw(a:Ty)(tg:Tg):Hl->List Hl:=fun h=>iI (fun c=>.f (.r (.p h.1 c))) (ck (.rc a) tg h.2)
theorem A3(l:List Hl){i:Nat}(hi:i<l.length):l[i]∈l:=bD _
def HB(t:Ty)(ea:AV)(s:List UInt8)(fr:AV)(tg:Tg)(v:Vl):Prop:=an Tryz.prog 80 [.agg [t.av,ea],v.cE,.agg [.v (.string (mk s)),fr]] [] (bK (.sl (gK (ck t tg v))))
theorem I3(a:Ty)(ea:AV)(s:List UInt8)(fr:AV)(tg:Tg)(he:LK.ptr.has ea)(hf:LK.ptr.has fr)(l:List Hl)(hl:l.length<=1000000)(ih:∀h,h∈l->HB (.rc a) ea s fr tg h.2) :
 ∀(k i:Nat) (out:List Hl),i+k=l.length->(out++(l.drop i).flatMap (Aw a tg)).length<=1000000 ->
 F9 [.sl (gK l),.v (.int .i64 (l.length:Int)),.v (.int .i64 (i:Int))] [.cells [(Ty.rc a).av,ea],.cells [.v (.string (mk s)),fr],.cells [.any],.vec 2 (gK out)] (gI 1 [] [.cells [.any],.vec 2 (gK (out++(l.drop i).flatMap (Aw a tg)))])
 |
  0,i,out,hi,ho=>by
  refine J9 _ _ _ _ _ _ _ _ ?_
  have:i=l.length:=by omega
  subst this
  simp only[H7,↓zq,zs,ae,ei,aE,he,hf]
  exact⟨fun h=>by omega,fun _=>by simp[gI]⟩
 |
  k+1,i,out,hi,ho=>by
  have hlt:i<l.length:=by omega
  have hd:(l.drop i).flatMap (Aw a tg)=Aw a tg (l[i])++(l.drop (i+1)).flatMap (Aw a tg):=by rw[aS hlt,List.flatMap_cons]
  rw[hd]at ho |-
  refine J9 _ _ _ _ _ _ _ _ ?_
  simp only[H7,↓zq,zs,ae,zt,ei,lC hlt,aE,aM,bI,he,hf]
  refine⟨fun _=>⟨by omega,by omega,?_⟩,fun h=>by omega⟩
  refine aj (ih _ (A3 l hlt)) ?_
  simp only[↓zq,zs,ae]
  have hb:out.length+(ck (.rc a) tg (l[i]).2).length<=1000000:=by
   simp only[aq,fQ]at ho;omega
  refine aV (QN _ _ ((aM _).mpr trivial) ((aM _).mpr trivial) (fun c=>.f (.r (.p (l[i]).1 c))) (fun c=>RZ (l[i]).1 (l[i]).2 c) (ck (.rc a) tg (l[i]).2) out hb) ?_
  simp only[↓zq,zs,ae,aK,aM]
  rw[bz i (by omega),<-a8]
  exact I3 a ea s fr tg he hf l hl ih k (i+1) _ (by omega) (by rw[a8];exact ho)
theorem E0(n:Nat):∀(m:Nat) (v:Vl),v.nodes<=m->∀(e:E) (env:List Fr) (t:Ty),Ask e env t->eY n v (e,env)=true->env.length+v.nodes<100000->∀(ea:AV) (ids:List Nat),kD ea ids->ids.length=env.length->∀(tg:Tg) (s:List UInt8) (fr:AV),AA tg ids s fr->HB t ea s fr tg v
 |0,v,hm=>by have:=du v;omega
 |
  m+1,v,hm=>by
  intro e env t A hv hl ea ids he hids tg s fr ht
  unfold HB
  refine SZ _ _ _ _ _ ((aE _).mpr trivial) he.has ((aM _).mpr trivial) ht.has ?_
  unfold OU
  refine aj (Si t tg ea ids s fr he ht (fun u hu=>by
   rcases gp A.wf A.ty with⟨hb,_⟩|⟨u',g,rfl,_,hg⟩
   ·rw[hu]at hb;cases hb
   ·cases hu;rw[hids];exact(List.getElem?_eq_some_iff.1 hg).1) (by omega)) ?_
  have hlen:=mX t tg v
  cases hat:eD t tg with
  |
   true =>
   rw[mo v hat]
   simp only[↓zq,zs,ae,bK,gK,bE,List.map_nil,Vl.cE]
   exact⟨fun _=>trivial,fun h=>(by cases h)⟩
  |false =>
  simp only[↓zq,zs,ae]
  refine⟨fun h=>(by cases h),fun _=>?_⟩
  rcases gp A.wf A.ty with⟨hb,hq⟩|⟨u,g,rfl,hq,hu⟩
  ·have hhd:hd e env=(e,env):=kf hq
   rcases fK A.ty hb A.cl with⟨rfl,rfl⟩|⟨rfl,rfl⟩|⟨s,rfl,rfl,hp,h0,h1⟩|⟨x,a,b,t1,t2,rfl,hx,rfl,ha,hbb⟩|⟨x,a,b,t1,t2,rfl,hx,rfl,ha,hbb⟩|⟨x,a,b,t1,rfl,hx,rfl⟩
   ·rw[dS hat (by cases v<;>rfl)]
    simp[Ty.av,↓zq,zs,ae,bK,gK]
   ·rw[dS hat (by cases v<;>rfl)]
    simp[Ty.av,↓zq,zs,ae,bK,gK]
   ·rw[dS hat (by cases v<;>rfl)]
    simp[Ty.av,↓zq,zs,ae,bK,gK]
   ·obtain⟨ok1,ok2,ok3,_⟩:=A.ok
    obtain⟨f1,f2⟩:=fA A.cl
    have hL:=zm t1.av t2.av ea 43 (mk []) 0 ((aE _).mpr trivial) he.has
    have hR:=Af t1.av t2.av ea 43 (mk []) 0 ((aE _).mpr trivial) he.has
    cases v with
    |
     l w =>
     simp only[eY,hhd,hx,beq_self_eq_true,bX]at hv
     simp only[Vl.nodes]at hm hl hlen
     rw[m9]at hlen |-
     rw[fQ]at hlen
     simp only[Ty.av,↓zq,zs,ae]
     refine⟨by omega,fun _=>?_,fun h=>absurd rfl h⟩
     refine aj hL ?_
     simp only[↓zq,zs,ae,bI,aE,he.has,Vl.cE,aM]
     refine⟨by omega,fun h=>by omega,fun _=>⟨by omega,?_⟩⟩
     refine aj (E0 n m w (by omega) a env t1 ⟨ok2,A.wf,ha,f1⟩ hv (by omega) ea ids he hids tg s fr ht) ?_
     simp only[↓zq,zs,ae]
     have hadd:=Oi (Vl.l w).cE ((aM _).mpr trivial) Vl.l (fun c=>Qd w c) (ck t1 tg w) [] (by simp;omega)
     simp only[Vl.cE,gK,List.map_nil,aU]at hadd
     refine aV hadd ?_
     simp[↓zq,zs,ae,aK,bK,aM,gK,bZ]
    |
     r w =>
     simp only[eY,hhd,hx,beq_self_eq_true,bX]at hv
     simp only[Vl.nodes]at hm hl hlen
     rw[mU]at hlen |-
     rw[fQ]at hlen
     simp only[Ty.av,↓zq,zs,ae]
     refine⟨by omega,fun _=>?_,fun h=>absurd rfl h⟩
     refine aj hL ?_
     simp only[↓zq,zs,ae,bI,aE,he.has,Vl.cE,aM]
     refine⟨by omega,fun _=>?_,fun h=>absurd rfl h⟩
     refine aj hR ?_
     simp only[↓zq,zs,ae,bI,aE,he.has,aM]
     refine⟨by omega,?_⟩
     refine aj (E0 n m w (by omega) b env t2 ⟨ok3,A.wf,hbb,f2⟩ hv (by omega) ea ids he hids tg s fr ht) ?_
     simp only[↓zq,zs,ae]
     have hadd:=Oi (Vl.r w).cE ((aM _).mpr trivial) Vl.r (fun c=>QT w c) (ck t2 tg w) [] (by simp;omega)
     simp only[Vl.cE,gK,List.map_nil,aU]at hadd
     refine aV hadd ?_
     simp[↓zq,zs,ae,aK,bK,aM,gK,bZ]
    |_=>simp[eY,hhd,hx]at hv
   ·obtain⟨ok1,ok2,ok3,_⟩:=A.ok
    obtain⟨f1,f2⟩:=eX A.cl
    have hL:=zm t1.av t2.av ea 42 (mk []) 0 ((aE _).mpr trivial) he.has
    have hR:=Af t1.av t2.av ea 42 (mk []) 0 ((aE _).mpr trivial) he.has
    cases v with
    |
     p w w' =>
     simp only[eY,hhd,hx,beq_self_eq_true,bX,aw]at hv
     simp only[Vl.nodes]at hm hl hlen
     rw[nq]at hlen |-
     simp only[aq,fQ]at hlen
     simp only[Ty.av,↓zq,zs,ae]
     refine⟨by omega,fun h=>by omega,fun _=>⟨fun _=>?_,fun h=>absurd rfl h⟩⟩
     refine aj hL ?_
     simp only[↓zq,zs,ae,bI,aE,he.has,Vl.cE,aM]
     refine⟨by omega,?_⟩
     refine aj (E0 n m w (by omega) a env t1 ⟨ok2,A.wf,ha,f1⟩ hv.1 (by omega) ea ids he hids tg s fr ht) ?_
     simp only[↓zq,zs,ae]
     have hadd:=R7 (Vl.p w w').cE ((aM _).mpr trivial) (fun c=>.l (.p c w')) (fun c=>Qf w w' c) (ck t1 tg w) [] (by simp;omega)
     simp only[Vl.cE,gK,List.map_nil,aU]at hadd
     refine aV hadd ?_
     simp only[↓zq,zs,ae,aK,aM]
     refine aj hR ?_
     simp only[↓zq,zs,ae,bI,aE,he.has,aM]
     refine⟨by omega,?_⟩
     refine aj (E0 n m w' (by omega) b env t2 ⟨ok3,A.wf,hbb,f2⟩ hv.2 (by omega) ea ids he hids tg s fr ht) ?_
     simp only[↓zq,zs,ae]
     have hadd2:=Px (Vl.p w w').cE ((aM _).mpr trivial) (fun c=>.r (.p w c)) (fun c=>QM w w' c) (ck t2 tg w') (iI (fun c=>.l (.p c w')) (ck t1 tg w)) (by rw[fQ];omega)
     simp only[Vl.cE,gK]at hadd2
     refine aV hadd2 ?_
     simp[↓zq,zs,ae,aK,bK,aM,gK,bZ]
    |_=>simp[eY,hhd,hx]at hv
   ·obtain⟨t1',he1,h1,f1,hw1⟩:=ju A.wf A.ok hx A.ty A.cl
    cases he1
    obtain⟨ok1,ok2,ok3,_⟩:=A.ok
    have A':Ask b (.mk a.at (.list [x,a,b]) env::env) t1:=⟨ok3,hw1,h1,f1⟩
    cases v with
    |
     f w =>
     simp only[eY,hhd,hx,beq_self_eq_true,bX]at hv
     simp only[Vl.nodes]at hm hl hlen
     rw[nk]at hlen |-
     simp only[aq,fQ]at hlen
     have hin:=D2 t1 ea ids he
     simp only[Ty.av]at hin
     simp only[Ty.av,↓zq,zs,ae]
     refine⟨by omega,fun h=>by omega,fun _=>⟨fun h=>by omega,fun _=>⟨fun _=>?_,fun h=>absurd rfl h⟩⟩⟩
     refine aP hin (by have:=Bu.ne t1 ea ids;simpa only[Bu,Ty.av]using this) ?_
     intro r o hr
     obtain⟨⟨mm,hmm,rfl⟩,rfl⟩:=hr
     have he2:kD (.ptr [.pid mm [(Ty.rc t1).av,ea],ea]) (mm::ids):=.cons hmm he
     have hfr:LK.ptr.has (.pid mm [(Ty.rc t1).av,ea]):=.inr (.inr ⟨_,_,rfl⟩)
     simp only[Ty.av]at he2 hfr
     simp only[↓zq,zs,ae,bI,aE,he2.has,hfr,Vl.cE,aM,Ty.av]
     refine⟨by omega,?_⟩
     have i1:=E0 n m w (by omega) b _ t1 A' hv (by simp;omega) _ _ he2 (by simp[hids]) tg.up s fr (ht.push mm)
     unfold HB at i1
     refine aj i1 ?_
     simp only[↓zq,zs,ae]
     have hadd:=R8 (fun c=>.f (.l c)) (fun c=>So c) (ck t1 tg.up w) [] (by simp;omega)
     simp only[Vl.cE,gK,List.map_nil,aU]at hadd
     refine aV hadd ?_
     simp only[↓zq,zs,ae,aK,aM]
     have i2:=E0 n m w (by omega) b _ t1 A' hv (by simp;omega) _ _ he2 (by simp[hids]) (.bd 0) [] _ (by have:=AA.bd (k:=0) (ids:=mm::ids) (by simp) [(Ty.rc t1).av,ea] [];simpa only[bq,Ty.av]using this)
     unfold HB at i2
     refine⟨by omega,?_⟩
     refine aj i2 ?_
     simp only[↓zq,zs,ae,ei]
     have hl2:=mX t1 (.bd 0) w
     have ih3:∀h,h∈ck t1 (.bd 0) w->HB (.rc t1) ea s fr tg h.2:=fun h hh=>by
      have h3:=(iD hh).1
      have h4:=iq n m w (by omega) b _ t1 A' hv 0 _ rfl h hh
      exact E0 n m h.2 (by omega) (.list [x,a,b]) env (.rc t1) A h4 (by omega) ea ids he hids tg s fr ht
     have hloop:=I3 t1 ea s fr tg he.has ht.has (ck t1 (.bd 0) w) (by omega) ih3 (ck t1 (.bd 0) w).length 0 (iI (fun c=>.f (.l c)) (ck t1 tg.up w)) (by omega) (by
      simp only[bb,aq,fQ]
      have hlen2:(ck t1 tg.up w).length+((ck t1 (.bd 0) w).flatMap (Aw t1 tg)).length<=1+w.nodes:=hlen
      omega)
     simp only[Ty.av,gK,bb]at hloop
     refine cz hloop ?_
     simp[↓zq,zs,ae,ae,bK,gK]
    |_=>simp[eY,hhd,hx]at hv
  ·rw[dS hat (by cases v<;>rfl)]
   simp[Ty.av,↓zq,zs,ae,bK,gK]
end Go.Proofs.Trees
namespace Go.Proofs.Trees
open Go Go.VL Go.RowKit
theorem CQ:∀(v:Vl),v.cF.length<=900000->an Tryz.prog 48 [v.cE] [] (bK (.v (.string (mk v.cF))))
 | .u,h=>by refine zV _ ((aM _).mpr trivial) ?_;simp[xF,Vl.cE,↓zq,zs,ae,bK,Vl.cF,Vl.cL,fe]
 | .el k,h=>by refine zV _ ((aM _).mpr trivial) ?_;simp[xF,Vl.cE,↓zq,zs,ae,bK,Vl.cF,Vl.cL,fe]
 |
  .l v,h=>by
  simp only[Vl.cF,Vl.cL,fe,eh,az,aq,aG]at h
  refine zV _ ((aM _).mpr trivial) ?_
  have hb:(⟨(bytesOf [[.v (.int .u8 108)]]).toArray⟩:ByteArray)=mk [108]:=rfl
  have ha:jA [[.v (.int .u8 108)]]:=lu 108
  simp only[xF,Vl.cE,↓zq,zs,ae,aM,fC,hb]
  refine⟨by omega,fun h=>by omega,fun _=>⟨fun h=>by omega,fun _=>⟨fun h=>by omega,fun _=>⟨by omega,ha,by simp[cM],by rw[kP,cM,cM];simp,by omega,?_⟩⟩⟩⟩
  refine aj (CQ v (by simp only[Vl.cF];omega)) ?_
  simp only[↓zq,zs,ae,zt,bK,Vl.cF,Vl.cL,fe,eh]
  refine⟨by simp;omega,by simp;omega,by simp⟩
 |
  .r v,h=>by
  simp only[Vl.cF,Vl.cL,fe,eh,az,aq,aG]at h
  refine zV _ ((aM _).mpr trivial) ?_
  have hb:(⟨(bytesOf [[.v (.int .u8 114)]]).toArray⟩:ByteArray)=mk [114]:=rfl
  have ha:jA [[.v (.int .u8 114)]]:=lu 114
  simp only[xF,Vl.cE,↓zq,zs,ae,aM,fC,hb]
  refine⟨by omega,fun h=>by omega,fun _=>⟨fun h=>by omega,fun _=>⟨fun h=>by omega,fun _=>⟨by omega,ha,by simp[cM],by rw[kP,cM,cM];simp,by omega,?_⟩⟩⟩⟩
  refine aj (CQ v (by simp only[Vl.cF];omega)) ?_
  simp only[↓zq,zs,ae,zt,bK,Vl.cF,Vl.cL,fe,eh]
  refine⟨by simp;omega,by simp;omega,by simp⟩
 |
  .f v,h=>by
  simp only[Vl.cF,Vl.cL,fe,eh,az,aq,aG]at h
  refine zV _ ((aM _).mpr trivial) ?_
  have hb:(⟨(bytesOf [[.v (.int .u8 102)]]).toArray⟩:ByteArray)=mk [102]:=rfl
  have ha:jA [[.v (.int .u8 102)]]:=lu 102
  simp only[xF,Vl.cE,↓zq,zs,ae,aM,fC,hb]
  refine⟨by omega,fun h=>by omega,fun _=>⟨fun h=>by omega,fun _=>⟨fun h=>by omega,fun _=>⟨by omega,ha,by simp[cM],by rw[kP,cM,cM];simp,by omega,?_⟩⟩⟩⟩
  refine aj (CQ v (by simp only[Vl.cF];omega)) ?_
  simp only[↓zq,zs,ae,zt,bK,Vl.cF,Vl.cL,fe,eh]
  refine⟨by simp;omega,by simp;omega,by simp⟩
 |
  .p a b,h=>by
  simp only[Vl.cF,Vl.cL,fe,eh,az,aq,aG]at h
  refine zV _ ((aM _).mpr trivial) ?_
  simp only[xF,Vl.cE,↓zq,zs,ae,aM,fC]
  refine⟨by omega,fun h=>by omega,fun _=>⟨fun h=>by omega,fun _=>⟨fun _=>⟨by omega,?_⟩,fun h=>absurd rfl h⟩⟩⟩
  refine aj (CQ a (by simp only[Vl.cF];omega)) ?_
  simp only[↓zq,zs,ae,zt,aM,Vl.cF]
  refine⟨by simp;omega,by simp;omega,by omega,?_⟩
  refine aj (CQ b (by simp only[Vl.cF];omega)) ?_
  simp only[↓zq,zs,ae,zt,bK,Vl.cF,Vl.cL,fe,eh]
  refine⟨by simp;omega,by simp;omega,by simp⟩
end Go.Proofs.Trees
