/-
  Part of a proof: Go functions read by values, trees of functions, their contracts.
-/
import Derived.Test.YthcjhageibaepaaGreatDoorP4
import Derived.Test.YthcjhageibaepaaGreatDoorProg
import Derived.Lib.Atoi
set_option linter.unusedVariables false
set_option linter.unusedSimpArgs false
open And renaming intro→aH
open Bool renaming and_eq_true→aw,eq_iff_iff→cy,or_eq_false_iff→ck,or_eq_true→bC,true_and→bW
open ByteArray renaming extract→ct,size→ag,toList→af
open Int renaming tmod→dH,toNat→bK,toNat_natCast→bM
open List renaming all_cons→da,any_eq_true→cu,append_assoc→bf,append_nil→cY,drop_eq_getElem_cons→aR,drop_eq_nil_of_le→bS,drop_zero→bb,eq_nil_of_length_eq_zero→ca,getD_cons_zero→bx,getD_eq_getElem?_getD→aa,getElem?_eq_getElem→bp,getElem_mem→bD,headD_cons→aO,length_append→aq,length_cons→az,length_drop→cx,length_nil→aG,map_cons→bE,mem_append→aN,mem_append_left→aD,mem_cons→aK,mem_cons_of_mem→al,mem_cons_self→ak,mem_map→bQ,mem_singleton→aU,nil_append→aT
open Nat renaming beq→aJ,le_add_right→db,le_refl→au,mul_add→cU,mul_one→dI,zero_add→aY,zero_le→dQ
open Option renaming bind_eq_some_iff→aX,isSome_iff_exists→cb,isSome_none→bu,map_some→cB
open UInt8 renaming ofNat→bj
namespace Go.Proofs.Trees
open Go Go.VL
noncomputable section
variable {R:AV->List Ob->Prop}{U:RL}
def Ih(a0:ByteArray)(a1:Int):Tree :=
 .loop LA Fs [VS a0,VI a1,VI 0] [] (fun y2 q2=>NS (y2.hA)<|NI (y2.tail.hA)<|NI (y2.tail.tail.hA)<|.test (decide (((y2.tail.tail.hA).toInt)>(0:Int))) (.aj (0<=(0:Int)/\(0:Int)<=((y2.tail.tail.hA).toInt)/\((y2.tail.tail.hA).toInt)<=(ag ((y2.hA).toStr):Int))<|.aj (0<=((y2.tail.tail.hA).toInt)/\((y2.tail.tail.hA).toInt)<=(ag ((y2.hA).toStr):Int)/\(ag ((y2.hA).toStr):Int)<=(ag ((y2.hA).toStr):Int))<|.done 0 [.cD [.ptr [VS (ct ((y2.hA).toStr) (bK 0) (bK ((y2.tail.tail.hA).toInt))),.v (.slice none 0 0)],VS (ct ((y2.hA).toStr) (bK ((y2.tail.tail.hA).toInt)) (bK (ag ((y2.hA).toStr):Int)))]] []) (.test (af ((y2.hA).toStr)==af (mk [])) (.done 0 [.cD [.v (.pointer none),VS ((y2.hA).toStr)]] []) (.aj (0<=(0:Int)/\(0:Int)<ag ((y2.hA).toStr))<|.test ((bt ((y2.hA).toStr) 0) != (40:Int)) (.done 0 [.cD [.v (.pointer none),VS ((y2.hA).toStr)]] []) (.test (((y2.tail.hA).toInt)==(300:Int)) (.done 0 [.cD [.v (.pointer none),VS ((y2.hA).toStr)]] []) (.aj (0<=(1:Int)/\(1:Int)<=(ag ((y2.hA).toStr):Int)/\(ag ((y2.hA).toStr):Int)<=(ag ((y2.hA).toStr):Int))<|.loop ME GH [VS ((y2.hA).toStr),VI ((y2.tail.hA).toInt),VS (ct ((y2.hA).toStr) (bK 1) (bK (ag ((y2.hA).toStr):Int)))] [.cells [VS (mk []),.any],.vec 1 []] (fun y5 q5=>.fail) (fun y5 q5=>NP (y5.hA)<|NS (y5.tail.hA)<|.done 0 [.cD [(y5.hA),VS ((y5.tail.hA).toStr)]] [])))))) (fun y2 q2=>.done 0 [.cD [.any,.any]] [])
theorem Oh(a0:ByteArray)(a1:Int)(h:di 84 (Ih a0 a1) R):an Tryz.prog 148 [VS a0,VI a1] [] R :=
 uQ (ah (aA _) (ah (aA _) aC)) (oQ Hj Tryz.f148 h)
def Ff(x0:ByteArray)(x1:Int)(x6:Int):Tree :=
 NS (VS x0)<|NI (VI x1)<|NI (VI x6)<|.test (decide (x6<(ag x0:Int))) (.aj (0<=x6/\x6<ag x0)<|.call 162 [.v (.int .u8 (bt x0 x6))] [] fun r1 o1=>NB r1<|.test r1.toBool (.done 0 [VS x0,VI x1,VI (bV (x6+1))] []) (.done 1 [VS x0,VI x1,VI x6] [])) (.done 1 [VS x0,VI x1,VI x6] [])
abbrev FV:=cE Tryz.prog 84 LA Fs
theorem Kq(x0:ByteArray)(x1:Int)(x6:Int)(h:kC 84 (Ff x0 x1 x6) FV U):FV [VS x0,VI x1,VI x6] [] U :=
 gQ Hj h
def OM(x0:ByteArray)(x1:Int)(x7:ByteArray)(o48_0:ByteArray)(o48_1:List (List AV)):Tree :=
 NS (VS x0)<|NI (VI x1)<|NS (VS x7)<|.aj (Ob.cells [VS o48_0,.any]=.cells [VS o48_0,.any])<|.aj (ae [.lk .str,.vec 1] [VS o48_0,.any] 0 [.vec 1 o48_1])<|.call 148 [VS x7,VI (bV (x1+1))] [] fun r1 o1=>NT r1<|NP (r1.comp 0)<|NS (r1.comp 1)<|NP (r1.comp 0)<|.test ((r1.comp 0).isNil) (.done 2 [.v (.pointer none),VS x0] []) (.test (af ((r1.comp 1).toStr)==af (mk [])) (.done 2 [.v (.pointer none),VS x0] []) (.aj (cC 1 [[(r1.comp 0)]]/\((o48_1.length)+([[(r1.comp 0)]]:List (List AV)).length)*8<=140737488355328)<|.aj (0<=(1:Int)/\(1:Int)<=(ag ((r1.comp 1).toStr):Int)/\(ag ((r1.comp 1).toStr):Int)<=(ag ((r1.comp 1).toStr):Int))<|.aj (0<=(0:Int)/\(0:Int)<ag ((r1.comp 1).toStr))<|.test ((bt ((r1.comp 1).toStr) 0)==(41:Int)) (.done 2 [.ptr [VS o48_0,.sl (o48_1++([[(r1.comp 0)]]:List (List AV)))],VS (ct ((r1.comp 1).toStr) (bK 1) (bK (ag ((r1.comp 1).toStr):Int)))] []) (.aj (0<=(0:Int)/\(0:Int)<ag ((r1.comp 1).toStr))<|.test ((bt ((r1.comp 1).toStr) 0) != (32:Int)) (.done 2 [.v (.pointer none),VS x0] []) (.done 0 [VS x0,VI x1,VS (ct ((r1.comp 1).toStr) (bK 1) (bK (ag ((r1.comp 1).toStr):Int)))] [.cells [VS o48_0,.any],.vec 1 (o48_1++([[(r1.comp 0)]]:List (List AV)))]))))
abbrev GL:=cE Tryz.prog 84 ME GH
theorem QP(x0:ByteArray)(x1:Int)(x7:ByteArray)(o48_0:ByteArray)(o48_1:List (List AV))(h:kC 84 (OM x0 x1 x7 o48_0 o48_1) GL U):GL [VS x0,VI x1,VS x7] [.cells [VS o48_0,.any],.vec 1 o48_1] U :=
 gQ Hj h
def Kv(a0:ByteArray):Tree :=
 .call 163 [VS a0,VS (mk [120,121,122])] [] fun r1 o1=>NB r1<|.done 0 [VB r1.toBool] []
theorem O8(a0:ByteArray)(h:di 5 (Kv a0) R):an Tryz.prog 149 [VS a0] [] R :=
 uQ (ah (aA _) aC) (oQ [] Tryz.f149 h)
def Ml(a0:ByteArray):Tree :=
 .call 163 [VS a0,VS (mk [116])] [] fun r1 o1=>NB r1<|.done 0 [VB r1.toBool] []
theorem Pj(a0:ByteArray)(h:di 5 (Ml a0) R):an Tryz.prog 150 [VS a0] [] R :=
 uQ (ah (aA _) aC) (oQ [] Tryz.f150 h)
def Bl(a0:AV)(a1:ByteArray)(a2:Int):Tree :=
 NZ a0<|NZ a0<|nT (a0.deref.drop 1)<|NL ((a0.deref.drop 1).hA)<|.test (((((a0.deref.drop 1).hA).elems).length:Int)==a2) (NZ a0<|NZ a0<|nT (a0.deref.drop 1)<|NG ((a0.deref.drop 1).hA) 0 1<|dU (((a0.deref.drop 1).hA).ix (0:Int))<|NZ ((((a0.deref.drop 1).hA).ix (0:Int)).hA)<|NZ ((((a0.deref.drop 1).hA).ix (0:Int)).hA)<|.aj (LK.has .str (((((a0.deref.drop 1).hA).ix (0:Int)).hA).deref.hA)/\1<=(((((a0.deref.drop 1).hA).ix (0:Int)).hA).deref).length)<|.done 0 [VB (af ((((((a0.deref.drop 1).hA).ix (0:Int)).hA).deref.hA).toStr)==af a1)] []) (.done 0 [VB false] [])
theorem Ng(a0:AV)(a1:ByteArray)(a2:Int)(ha0:LK.has .ptr a0)(h:di 27 (Bl a0 a1 a2) R):an Tryz.prog 151 [a0,VS a1,VI a2] [] R :=
 uQ (ah (bB ha0) (ah (aA _) (ah (aA _) aC))) (oQ [] Tryz.f151 h)
def KJ(a0:Int)(a1:AV)(a2:AV):Tree :=
 .done 0 [.ptr [.v (.int .u8 a0),VS (mk []),VI 0,a1,a2]] []
theorem Qk(a0:Int)(a1:AV)(a2:AV)(ha1:LK.has .ptr a1)(ha2:LK.has .ptr a2)(h:di 12 (KJ a0 a1 a2) R):an Tryz.prog 153 [.v (.int .u8 a0),a1,a2] [] R :=
 uQ (ah (aA _) (ah (bB ha1) (ah (bB ha2) aC))) (oQ [] Tryz.f153 h)
def I7(a0:AV):Tree :=
 .call 165 [a0,.fn 166 [.ref 0 0]] [.cells [.vec 1],.vec 1 []] fun r1 o1=>.aj ((o1.hO)=.cells (o1.hO).cs)<|.aj (aI [.vec 1] ((o1.hO).cs) 0 1 o1.tail)<|.done 0 [.sl ((o1.tail.hO).es)] []
theorem Qa(a0:AV)(ha0:LK.has .ptr a0)(h:di 9 (I7 a0) R):an Tryz.prog 154 [a0] [] R :=
 uQ (ah (bB ha0) aC) (oQ [] Tryz.f154 h)
def Fy:LI:={hd:={bT:=[(0,.k .ptr),(1,.k .sl),(9,.k .str)],refs:=[(3,0),(4,1)],cv:=[(0,[.lk .sl]),(1,[.lk (.int .i64)])],vG:=[(2,155,[none,some 0,some 1])]},xs:={bT:=[(0,.k .ptr),(1,.k .sl),(9,.k .str)],cv:=[(0,[.lk .sl]),(1,[.lk (.int .i64)])],vG:=[(2,155,[none,some 0,some 1])]},rt:={cv:=[(0,[.lk .sl]),(1,[.lk (.int .i64)])]},ex:=1,fx:=[0,1]}
def Nn:Code:=cM (cG Tryz.f155) 12
def MV:List (Nat×LI):=[(12,Fy)]
def EI(a0:AV)(a1:AV)(a3_0:AV)(a4_0:Int):Tree :=
 NZ a0<|NZ a0<|.aj (LK.has (.int .u8) (a0.deref.hA)/\1<=a0.deref.length)<|.test (((a0.deref.hA).toInt)==(110:Int)) (NZ a0<|NZ a0<|ku (a0.deref.drop 1)<|.done 0 [VS (((a0.deref.drop 1).hA).toStr)] [.cells [a3_0],.cells [VI a4_0]]) (.test (((a0.deref.hA).toInt)==(98:Int)) (NL a1<|NZ a0<|NZ a0<|.aj (LK.has (.int .i64) ((a0.deref.drop 2).hA)/\1<=(a0.deref.drop 2).length)<|.aj (LK.has .sl a1/\0<=(bV ((bV ((a1.elems.length:Int)-1))-(((a0.deref.drop 2).hA).toInt)))/\(bV ((bV ((a1.elems.length:Int)-1))-(((a0.deref.drop 2).hA).toInt)))<a1.elems.length/\(a1.ix (bV ((bV ((a1.elems.length:Int)-1))-(((a0.deref.drop 2).hA).toInt)))).length=1)<|ku (a1.ix (bV ((bV ((a1.elems.length:Int)-1))-(((a0.deref.drop 2).hA).toInt))))<|.done 0 [VS (((a1.ix (bV ((bV ((a1.elems.length:Int)-1))-(((a0.deref.drop 2).hA).toInt)))).hA).toStr)] [.cells [a3_0],.cells [VI a4_0]]) (.test (((a0.deref.hA).toInt)==(43:Int)) (NZ a0<|NZ a0<|dU (a0.deref.drop 3)<|.call 155 [((a0.deref.drop 3).hA),a1,.gJ 155 [none,some 0,some 1],.ref 0 0,.ref 1 0] [.cells [a3_0],.cells [VI a4_0]] fun r1 o1=>.aj ((o1.hO)=.cells (o1.hO).cs)<|.aj (aI [.lk .sl] ((o1.hO).cs) 0 1 o1.tail)<|.aj ((o1.tail.hO)=.cells (o1.tail.hO).cs)<|.aj (aI [.lk (.int .i64)] ((o1.tail.hO).cs) 0 2 o1.tail.tail)<|NS r1<|NZ a0<|NZ a0<|.aj (LK.has (.int .u8) (a0.deref.hA)/\1<=a0.deref.length)<|.aj (jB [[.v (.int .u8 ((a0.deref.hA).toInt))]])<|.aj (ag (mk [40])+ag (⟨(bytesOf [[.v (.int .u8 ((a0.deref.hA).toInt))]]).toArray⟩)<=9223372036854775807)<|.aj (ag (((mk [40]):ByteArray)++(⟨(bytesOf [[.v (.int .u8 ((a0.deref.hA).toInt))]]).toArray⟩))+ag (mk [32])<=9223372036854775807)<|.aj (ag (((((mk [40]):ByteArray)++(⟨(bytesOf [[.v (.int .u8 ((a0.deref.hA).toInt))]]).toArray⟩)):ByteArray)++(mk [32]))+ag r1.toStr<=9223372036854775807)<|.aj (ag (((((((mk [40]):ByteArray)++(⟨(bytesOf [[.v (.int .u8 ((a0.deref.hA).toInt))]]).toArray⟩)):ByteArray)++(mk [32])):ByteArray)++r1.toStr)+ag (mk [32])<=9223372036854775807)<|NZ a0<|NZ a0<|dU (a0.deref.drop 4)<|.call 155 [((a0.deref.drop 4).hA),a1,.gJ 155 [none,some 0,some 1],.ref 0 0,.ref 1 0] [.cells [((o1.hO).cs.getD 0 .any)],.cells [VI (((o1.tail.hO).cs.getD 0 .any).toInt)]] fun r2 o2=>.aj ((o2.hO)=.cells (o2.hO).cs)<|.aj (aI [.lk .sl] ((o2.hO).cs) 0 1 o2.tail)<|.aj ((o2.tail.hO)=.cells (o2.tail.hO).cs)<|.aj (aI [.lk (.int .i64)] ((o2.tail.hO).cs) 0 2 o2.tail.tail)<|NS r2<|.aj (ag (((((((((mk [40]):ByteArray)++(⟨(bytesOf [[.v (.int .u8 ((a0.deref.hA).toInt))]]).toArray⟩)):ByteArray)++(mk [32])):ByteArray)++r1.toStr):ByteArray)++(mk [32]))+ag r2.toStr<=9223372036854775807)<|.aj (ag (((((((((((mk [40]):ByteArray)++(⟨(bytesOf [[.v (.int .u8 ((a0.deref.hA).toInt))]]).toArray⟩)):ByteArray)++(mk [32])):ByteArray)++r1.toStr):ByteArray)++(mk [32])):ByteArray)++r2.toStr)+ag (mk [41])<=9223372036854775807)<|.done 0 [VS (((((((((((((mk [40]):ByteArray)++(⟨(bytesOf [[.v (.int .u8 ((a0.deref.hA).toInt))]]).toArray⟩)):ByteArray)++(mk [32])):ByteArray)++r1.toStr):ByteArray)++(mk [32])):ByteArray)++r2.toStr):ByteArray)++(mk [41]))] [.cells [((o2.hO).cs.getD 0 .any)],.cells [VI (((o2.tail.hO).cs.getD 0 .any).toInt)]]) (.test (((a0.deref.hA).toInt)==(42:Int)) (NZ a0<|NZ a0<|dU (a0.deref.drop 3)<|.call 155 [((a0.deref.drop 3).hA),a1,.gJ 155 [none,some 0,some 1],.ref 0 0,.ref 1 0] [.cells [a3_0],.cells [VI a4_0]] fun r3 o3=>.aj ((o3.hO)=.cells (o3.hO).cs)<|.aj (aI [.lk .sl] ((o3.hO).cs) 0 1 o3.tail)<|.aj ((o3.tail.hO)=.cells (o3.tail.hO).cs)<|.aj (aI [.lk (.int .i64)] ((o3.tail.hO).cs) 0 2 o3.tail.tail)<|NS r3<|NZ a0<|NZ a0<|.aj (LK.has (.int .u8) (a0.deref.hA)/\1<=a0.deref.length)<|.aj (jB [[.v (.int .u8 ((a0.deref.hA).toInt))]])<|.aj (ag (mk [40])+ag (⟨(bytesOf [[.v (.int .u8 ((a0.deref.hA).toInt))]]).toArray⟩)<=9223372036854775807)<|.aj (ag (((mk [40]):ByteArray)++(⟨(bytesOf [[.v (.int .u8 ((a0.deref.hA).toInt))]]).toArray⟩))+ag (mk [32])<=9223372036854775807)<|.aj (ag (((((mk [40]):ByteArray)++(⟨(bytesOf [[.v (.int .u8 ((a0.deref.hA).toInt))]]).toArray⟩)):ByteArray)++(mk [32]))+ag r3.toStr<=9223372036854775807)<|.aj (ag (((((((mk [40]):ByteArray)++(⟨(bytesOf [[.v (.int .u8 ((a0.deref.hA).toInt))]]).toArray⟩)):ByteArray)++(mk [32])):ByteArray)++r3.toStr)+ag (mk [32])<=9223372036854775807)<|NZ a0<|NZ a0<|dU (a0.deref.drop 4)<|.call 155 [((a0.deref.drop 4).hA),a1,.gJ 155 [none,some 0,some 1],.ref 0 0,.ref 1 0] [.cells [((o3.hO).cs.getD 0 .any)],.cells [VI (((o3.tail.hO).cs.getD 0 .any).toInt)]] fun r4 o4=>.aj ((o4.hO)=.cells (o4.hO).cs)<|.aj (aI [.lk .sl] ((o4.hO).cs) 0 1 o4.tail)<|.aj ((o4.tail.hO)=.cells (o4.tail.hO).cs)<|.aj (aI [.lk (.int .i64)] ((o4.tail.hO).cs) 0 2 o4.tail.tail)<|NS r4<|.aj (ag (((((((((mk [40]):ByteArray)++(⟨(bytesOf [[.v (.int .u8 ((a0.deref.hA).toInt))]]).toArray⟩)):ByteArray)++(mk [32])):ByteArray)++r3.toStr):ByteArray)++(mk [32]))+ag r4.toStr<=9223372036854775807)<|.aj (ag (((((((((((mk [40]):ByteArray)++(⟨(bytesOf [[.v (.int .u8 ((a0.deref.hA).toInt))]]).toArray⟩)):ByteArray)++(mk [32])):ByteArray)++r3.toStr):ByteArray)++(mk [32])):ByteArray)++r4.toStr)+ag (mk [41])<=9223372036854775807)<|.done 0 [VS (((((((((((((mk [40]):ByteArray)++(⟨(bytesOf [[.v (.int .u8 ((a0.deref.hA).toInt))]]).toArray⟩)):ByteArray)++(mk [32])):ByteArray)++r3.toStr):ByteArray)++(mk [32])):ByteArray)++r4.toStr):ByteArray)++(mk [41]))] [.cells [((o4.hO).cs.getD 0 .any)],.cells [VI (((o4.tail.hO).cs.getD 0 .any).toInt)]]) (.test (((a0.deref.hA).toInt)==(114:Int)) (.loop Nn Fy [a0,a1,VS (mk [])] [.cells [a3_0],.cells [VI a4_0]] (fun y8 q8=>NP (y8.hA)<|NL (y8.tail.hA)<|NS (y8.tail.tail.hA)<|.aj ((q8.hO)=.cells (q8.hO).cs)<|.aj (ae [.lk .sl] ((q8.hO).cs) 0 q8.tail)<|.aj (((q8.tail.drop 0).hO)=.cells ((q8.tail.drop 0).hO).cs)<|.aj (ae [.lk (.int .i64)] (((q8.tail.drop 0).hO).cs) 0 ((q8.tail.drop 0).tail))<|.aj (ag (mk [40,114,101,99,32])+ag ((y8.tail.tail.hA).toStr)<=9223372036854775807)<|.aj (ag (((mk [40,114,101,99,32]):ByteArray)++((y8.tail.tail.hA).toStr))+ag (mk [32])<=9223372036854775807)<|NZ (y8.hA)<|NZ (y8.hA)<|dU ((y8.hA).deref.drop 3)<|.aj (LK.has .sl (y8.tail.hA)/\cC 1 ((y8.tail.hA).elems)/\((([]:List (List AV)).length)+((y8.tail.hA).elems).length)*16<=140737488355328)<|.aj (cC 1 [[VS ((y8.tail.tail.hA).toStr)]]/\(((([]:List (List AV))++((y8.tail.hA).elems)).length)+([[VS ((y8.tail.tail.hA).toStr)]]:List (List AV)).length)*16<=140737488355328)<|.call 155 [(((y8.hA).deref.drop 3).hA),.sl ((([]:List (List AV))++((y8.tail.hA).elems))++([[VS ((y8.tail.tail.hA).toStr)]]:List (List AV))),.gJ 155 [none,some 0,some 1],.ref 0 0,.ref 1 0] [.cells [((q8.hO).cs.getD 0 .any)],.cells [VI (((q8.tail.hO).cs.getD 0 .any).toInt)]] fun r9 o9=>.aj ((o9.hO)=.cells (o9.hO).cs)<|.aj (aI [.lk .sl] ((o9.hO).cs) 0 1 o9.tail)<|.aj ((o9.tail.hO)=.cells (o9.tail.hO).cs)<|.aj (aI [.lk (.int .i64)] ((o9.tail.hO).cs) 0 2 o9.tail.tail)<|NS r9<|.aj (ag (((((mk [40,114,101,99,32]):ByteArray)++((y8.tail.tail.hA).toStr)):ByteArray)++(mk [32]))+ag r9.toStr<=9223372036854775807)<|.aj (ag (((((((mk [40,114,101,99,32]):ByteArray)++((y8.tail.tail.hA).toStr)):ByteArray)++(mk [32])):ByteArray)++r9.toStr)+ag (mk [41])<=9223372036854775807)<|.done 0 [VS (((((((((mk [40,114,101,99,32]):ByteArray)++((y8.tail.tail.hA).toStr)):ByteArray)++(mk [32])):ByteArray)++r9.toStr):ByteArray)++(mk [41]))] [.cells [((o9.hO).cs.getD 0 .any)],.cells [VI (((o9.tail.hO).cs.getD 0 .any).toInt)]]) (fun y8 q8=>.aj ((q8.hO)=.cells (q8.hO).cs)<|.aj (ae [.lk .sl] ((q8.hO).cs) 0 q8.tail)<|.aj (((q8.tail.drop 0).hO)=.cells ((q8.tail.drop 0).hO).cs)<|.aj (ae [.lk (.int .i64)] (((q8.tail.drop 0).hO).cs) 0 ((q8.tail.drop 0).tail))<|.done 0 [.any] [.cells [((q8.hO).cs.getD 0 .any)],.cells [VI (((q8.tail.hO).cs.getD 0 .any).toInt)]])) (NZ a0<|NZ a0<|.aj (LK.has (.int .u8) (a0.deref.hA)/\1<=a0.deref.length)<|.aj (jB [[.v (.int .u8 ((a0.deref.hA).toInt))]])<|.done 0 [VS (⟨(bytesOf [[.v (.int .u8 ((a0.deref.hA).toInt))]]).toArray⟩)] [.cells [a3_0],.cells [VI a4_0]])))))
theorem wN(a0:AV)(a1:AV)(a3_0:AV)(a4_0:Int)(ha0:LK.has .ptr a0)(ha1:LK.has .sl a1)(ha3_0:LK.has .sl a3_0)(h:di 100 (EI a0 a1 a3_0 a4_0) R):an Tryz.prog 155 [a0,a1,.gJ 155 [none,some 0,some 1],.ref 0 0,.ref 1 0] [.cells [a3_0],.cells [VI a4_0]] R :=
 an.nw (bz (bZ (ah (bN ha3_0) aC)) (bz (bZ (ah (aA _) aC)) cz)) (an.up (ah (bB ha0) (ah (bN ha1) (ah (aA _) (ah (aA _) (ah (aA _) aC))))) (oF MV {mu:=[(2,.s8 155 [none,some 0,some 1]),(3,.one (.obj [.lk .sl])),(4,.one (.obj [.lk (.int .i64)]))],own:=[]} Tryz.f155 h))
def HG(x0:AV)(x1:AV)(x9:ByteArray)(o0_0:AV)(o1_0:Int):Tree :=
 NP x0<|NL x1<|NS (VS x9)<|.aj (Ob.cells [o0_0]=.cells [o0_0])<|.aj (ae [.lk .sl] [o0_0] 0 [.cells [VI o1_0]])<|.aj (Ob.cells [VI o1_0]=.cells [VI o1_0])<|.aj (ae [.lk (.int .i64)] [VI o1_0] 0 [])<|.test (af x9==af (mk [])) (.call 152 [VI o1_0] [] fun r1 o1=>NS r1<|.aj (ag (mk [116])+ag r1.toStr<=9223372036854775807)<|.done 0 [x0,x1,VS (((mk [116]):ByteArray)++r1.toStr)] [.cells [o0_0],.cells [VI (bV (o1_0+1))]]) (.call 156 [o0_0,VS x9] [] fun r2 o2=>NB r2<|.test r2.toBool (.call 152 [VI o1_0] [] fun r3 o3=>NS r3<|.aj (ag (mk [116])+ag r3.toStr<=9223372036854775807)<|.done 0 [x0,x1,VS (((mk [116]):ByteArray)++r3.toStr)] [.cells [o0_0],.cells [VI (bV (o1_0+1))]]) (.done 1 [x0,x1,VS x9] [.cells [o0_0],.cells [VI o1_0]]))
abbrev CV:=cE Tryz.prog 100 Nn Fy
theorem MM(x0:AV)(x1:AV)(x9:ByteArray)(o0_0:AV)(o1_0:Int)(h:kC 100 (HG x0 x1 x9 o0_0 o1_0) CV U):CV [x0,x1,VS x9] [.cells [o0_0],.cells [VI o1_0]] U :=
 gQ MV h
def Jk(a0:AV)(a1:ByteArray):Tree :=
 .call 167 [a0,VS a1] [] fun r1 o1=>NI r1<|.done 0 [VB (decide (r1.toInt≥(0:Int)))] []
theorem Ry(a0:AV)(a1:ByteArray)(ha0:LK.has .sl a0)(h:di 9 (Jk a0 a1) R):an Tryz.prog 156 [a0,VS a1] [] R :=
 uQ (ah (bN ha0) (ah (aA _) aC)) (oQ [] Tryz.f156 h)
def KF(a0:AV):Tree :=
 .call 168 [a0,.v (.func (.func 150) #[] #[])] [] fun r1 o1=>NI r1<|.done 0 [VB (decide (r1.toInt≥(0:Int)))] []
theorem RI(a0:AV)(ha0:LK.has .sl a0)(h:di 9 (KF a0) R):an Tryz.prog 157 [a0,.v (.func (.func 150) #[] #[])] [] R :=
 uQ (ah (bN ha0) (ah (aA _) aC)) (oQ [] Tryz.f157 h)
def JS(a0:ByteArray):Tree :=
 .test (decide ((ag a0:Int)<(2:Int))) (.done 0 [VB false] []) (.test (decide ((ag a0:Int)>(3:Int))) (.done 0 [VB false] []) (.aj (0<=(0:Int)/\(0:Int)<ag a0)<|.test ((bt a0 0) != (101:Int)) (.done 0 [VB false] []) (.aj (0<=(1:Int)/\(1:Int)<=(ag a0:Int)/\(ag a0:Int)<=(ag a0:Int))<|.call 169 [VS (ct a0 (bK 1) (bK (ag a0:Int))),VS (mk [48,49,50,51,52,53,54,55,56,57])] [] fun r1 o1=>NS r1<|.test (!(af r1.toStr==af (mk []))) (.done 0 [VB false] []) (.test ((ag a0:Int)==(2:Int)) (.done 0 [VB true] []) (.aj (0<=(1:Int)/\(1:Int)<ag a0)<|.done 0 [VB ((bt a0 1) != (48:Int))] [])))))
theorem RO(a0:ByteArray)(h:di 30 (JS a0) R):an Tryz.prog 158 [VS a0] [] R :=
 uQ (ah (aA _) aC) (oQ [] Tryz.f158 h)
def L5(a0:Int):Tree :=
 .test (decide (a0≥(97:Int))) (.test (decide (a0<=(122:Int))) (.done 0 [VB true] []) (.test (decide (a0≥(48:Int))) (.test (decide (a0<=(57:Int))) (.done 0 [VB true] []) (.test (a0==(42:Int)) (.done 0 [VB true] []) (.done 0 [VB (a0==(43:Int))] []))) (.test (a0==(42:Int)) (.done 0 [VB true] []) (.done 0 [VB (a0==(43:Int))] [])))) (.test (decide (a0≥(48:Int))) (.test (decide (a0<=(57:Int))) (.done 0 [VB true] []) (.test (a0==(42:Int)) (.done 0 [VB true] []) (.done 0 [VB (a0==(43:Int))] []))) (.test (a0==(42:Int)) (.done 0 [VB true] []) (.done 0 [VB (a0==(43:Int))] [])))
theorem R9(a0:Int)(h:di 25 (L5 a0) R):an Tryz.prog 161 [.v (.int .u8 a0)] [] R :=
 uQ (ah (aA _) aC) (oQ [] Tryz.f161 h)
def Kg(a0:Int):Tree :=
 .test (decide (a0≥(97:Int))) (.test (decide (a0<=(122:Int))) (.done 0 [VB true] []) (.test (decide (a0≥(48:Int))) (.test (decide (a0<=(57:Int))) (.done 0 [VB true] []) (.test (a0==(43:Int)) (.done 0 [VB true] []) (.done 0 [VB (a0==(42:Int))] []))) (.test (a0==(43:Int)) (.done 0 [VB true] []) (.done 0 [VB (a0==(42:Int))] [])))) (.test (decide (a0≥(48:Int))) (.test (decide (a0<=(57:Int))) (.done 0 [VB true] []) (.test (a0==(43:Int)) (.done 0 [VB true] []) (.done 0 [VB (a0==(42:Int))] []))) (.test (a0==(43:Int)) (.done 0 [VB true] []) (.done 0 [VB (a0==(42:Int))] [])))
theorem Sr(a0:Int)(h:di 25 (Kg a0) R):an Tryz.prog 162 [.v (.int .u8 a0)] [] R :=
 uQ (ah (aA _) aC) (oQ [] Tryz.f162 h)
def NV(a0:ByteArray)(a1:ByteArray):Tree :=
 .test (decide ((ag a0:Int)≥(1:Int))) (.test (decide ((ag a0:Int)<=(3:Int))) (.aj (0<=(0:Int)/\(0:Int)<=(1:Int)/\(1:Int)<=(ag a0:Int))<|.call 175 [VS a1,VS (ct a0 (bK 0) (bK 1))] [] fun r1 o1=>NB r1<|.test r1.toBool (.aj (0<=(1:Int)/\(1:Int)<=(ag a0:Int)/\(ag a0:Int)<=(ag a0:Int))<|.call 169 [VS (ct a0 (bK 1) (bK (ag a0:Int))),VS (mk [48,49,50,51,52,53,54,55,56,57])] [] fun r2 o2=>NS r2<|.done 0 [VB (af r2.toStr==af (mk []))] []) (.done 0 [VB false] [])) (.done 0 [VB false] [])) (.done 0 [VB false] [])
theorem Sz(a0:ByteArray)(a1:ByteArray)(h:di 25 (NV a0 a1) R):an Tryz.prog 163 [VS a0,VS a1] [] R :=
 uQ (ah (aA _) (ah (aA _) aC)) (oQ [] Tryz.f163 h)
def EJ(a0:AV)(e1_0_0:List (List AV)):Tree :=
 .call 166 [a0,.ref 0 0] [.cells [.vec 1],.vec 1 e1_0_0] fun r1 o1=>.aj ((o1.hO)=.cells (o1.hO).cs)<|.aj (aI [.vec 1] ((o1.hO).cs) 0 1 o1.tail)<|NZ a0<|NZ a0<|dU (a0.deref.drop 3)<|NP ((a0.deref.drop 3).hA)<|.test (!((a0.deref.drop 3).hA).isNil) (NZ a0<|NZ a0<|dU (a0.deref.drop 3)<|.call 165 [((a0.deref.drop 3).hA),.fn 166 [.ref 0 0]] [.cells [.vec 1],.vec 1 ((o1.tail.hO).es)] fun r2 o2=>.aj ((o2.hO)=.cells (o2.hO).cs)<|.aj (aI [.vec 1] ((o2.hO).cs) 0 1 o2.tail)<|NZ a0<|NZ a0<|dU (a0.deref.drop 4)<|NP ((a0.deref.drop 4).hA)<|.test (!((a0.deref.drop 4).hA).isNil) (NZ a0<|NZ a0<|dU (a0.deref.drop 4)<|.call 165 [((a0.deref.drop 4).hA),.fn 166 [.ref 0 0]] [.cells [.vec 1],.vec 1 ((o2.tail.hO).es)] fun r3 o3=>.aj ((o3.hO)=.cells (o3.hO).cs)<|.aj (aI [.vec 1] ((o3.hO).cs) 0 1 o3.tail)<|.done 0 [.any] [.cells [.vec 1],.vec 1 ((o3.tail.hO).es)]) (.done 0 [.any] [.cells [.vec 1],.vec 1 ((o2.tail.hO).es)])) (NZ a0<|NZ a0<|dU (a0.deref.drop 4)<|NP ((a0.deref.drop 4).hA)<|.test (!((a0.deref.drop 4).hA).isNil) (NZ a0<|NZ a0<|dU (a0.deref.drop 4)<|.call 165 [((a0.deref.drop 4).hA),.fn 166 [.ref 0 0]] [.cells [.vec 1],.vec 1 ((o1.tail.hO).es)] fun r4 o4=>.aj ((o4.hO)=.cells (o4.hO).cs)<|.aj (aI [.vec 1] ((o4.hO).cs) 0 1 o4.tail)<|.done 0 [.any] [.cells [.vec 1],.vec 1 ((o4.tail.hO).es)]) (.done 0 [.any] [.cells [.vec 1],.vec 1 ((o1.tail.hO).es)]))
theorem w9(a0:AV)(e1_0_0:List (List AV))(ha0:LK.has .ptr a0)(h:di 29 (EJ a0 e1_0_0) R):an Tryz.prog 165 [a0,.fn 166 [.ref 0 0]] [.cells [.vec 1],.vec 1 e1_0_0] R :=
 an.nw (bz (bZ (ah (aA _) aC)) (bz (fY _) cz)) (an.up (ah (bB ha0) (ah (aA _) aC)) (oF [] {mu:=[(1,.fn [some (.obj [.vec 1])])],own:=[]} Tryz.f165 h))
def Fm(a0:AV)(e1_0:List (List AV)):Tree :=
 NZ a0<|NZ a0<|.aj (LK.has (.int .u8) (a0.deref.hA)/\1<=a0.deref.length)<|.test (((a0.deref.hA).toInt)==(110:Int)) (NZ a0<|NZ a0<|ku (a0.deref.drop 1)<|.call 156 [.sl e1_0,VS (((a0.deref.drop 1).hA).toStr)] [] fun r1 o1=>NB r1<|.test (!r1.toBool) (NZ a0<|NZ a0<|ku (a0.deref.drop 1)<|.aj (cC 1 [[VS (((a0.deref.drop 1).hA).toStr)]]/\((e1_0.length)+([[VS (((a0.deref.drop 1).hA).toStr)]]:List (List AV)).length)*16<=140737488355328)<|.done 0 [.any] [.cells [.vec 1],.vec 1 (e1_0++([[VS (((a0.deref.drop 1).hA).toStr)]]:List (List AV)))]) (.done 0 [.any] [.cells [.vec 1],.vec 1 e1_0])) (.done 0 [.any] [.cells [.vec 1],.vec 1 e1_0])
theorem R8(a0:AV)(e1_0:List (List AV))(ha0:LK.has .ptr a0)(h:di 24 (Fm a0 e1_0) R):an Tryz.prog 166 [a0,.ref 0 0] [.cells [.vec 1],.vec 1 e1_0] R :=
 an.nw (bz (bZ (ah (aA _) aC)) (bz (fY _) cz)) (an.up (ah (bB ha0) (ah (aA _) aC)) (oF [] {mu:=[(1,.one (.obj [.vec 1]))],own:=[]} Tryz.f166 h))
def Gr:LI:={hd:={bT:=[(0,.k .sl),(1,.k .str),(7,.k (.int .i64)),(8,.k (.int .i64))]},xs:={},rt:={bT:=[(4,.k (.int .i64))]},ex:=0}
def Kp:Code:=cM (cG Tryz.f167) 2
def Ji:List (Nat×LI):=[(2,Gr)]
def M5(a0:AV)(a1:ByteArray):Tree :=
 NL a0<|.loop Kp Gr [a0,VS a1,VI (a0.elems.length:Int),VI 0] [] (fun y1 q1=>.done 0 [VI (-1)] []) (fun y1 q1=>NI (y1.hA)<|.done 0 [VI ((y1.hA).toInt)] [])
theorem PE(a0:AV)(a1:ByteArray)(ha0:LK.has .sl a0)(h:di 19 (M5 a0 a1) R):an Tryz.prog 167 [a0,VS a1] [] R :=
 uQ (ah (bN ha0) (ah (aA _) aC)) (oQ Ji Tryz.f167 h)
def H6(x0:AV)(x1:ByteArray)(x7:Int)(x8:Int):Tree :=
 NL x0<|NS (VS x1)<|NI (VI x7)<|NI (VI x8)<|.test (decide (x8<x7)) (NG x0 x8 1<|ku (x0.ix x8)<|.test (af x1==af (((x0.ix x8).hA).toStr)) (.done 2 [VI x8] []) (.done 0 [x0,VS x1,VI x7,VI (bV (x8+1))] [])) (.done 1 [] [])
abbrev Gi:=cE Tryz.prog 19 Kp Gr
theorem Ko(x0:AV)(x1:ByteArray)(x7:Int)(x8:Int)(h:kC 19 (H6 x0 x1 x7 x8) Gi U):Gi [x0,VS x1,VI x7,VI x8] [] U :=
 gQ Ji h
def Hk:LI:={hd:={bT:=[(0,.k .sl),(1,.c (.func (.func 150) #[] #[])),(7,.k (.int .i64)),(8,.k (.int .i64))]},xs:={},rt:={bT:=[(4,.k (.int .i64))]},ex:=0}
def KK:Code:=cM (cG Tryz.f168) 2
def OF:List (Nat×LI):=[(2,Hk)]
def Ov(a0:AV):Tree :=
 NL a0<|.loop KK Hk [a0,.v (.func (.func 150) #[] #[]),VI (a0.elems.length:Int),VI 0] [] (fun y2 q2=>.done 0 [VI (-1)] []) (fun y2 q2=>NI (y2.hA)<|.done 0 [VI ((y2.hA).toInt)] [])
theorem Su(a0:AV)(ha0:LK.has .sl a0)(h:di 19 (Ov a0) R):an Tryz.prog 168 [a0,.v (.func (.func 150) #[] #[])] [] R :=
 uQ (ah (bN ha0) (ah (aA _) aC)) (oQ OF Tryz.f168 h)
def Iv(x0:AV)(x7:Int)(x8:Int):Tree :=
 NL x0<|.aj (AV.v (.func (.func 150) #[] #[])=.v (.func (.func 150) #[] #[]))<|NI (VI x7)<|NI (VI x8)<|.test (decide (x8<x7)) (NG x0 x8 1<|ku (x0.ix x8)<|.call 150 [VS (((x0.ix x8).hA).toStr)] [] fun r1 o1=>NB r1<|.test r1.toBool (.done 2 [VI x8] []) (.done 0 [x0,.v (.func (.func 150) #[] #[]),VI x7,VI (bV (x8+1))] [])) (.done 1 [] [])
abbrev G4:=cE Tryz.prog 19 KK Hk
theorem MT(x0:AV)(x7:Int)(x8:Int)(h:kC 19 (Iv x0 x7 x8) G4 U):G4 [x0,.v (.func (.func 150) #[] #[]),VI x7,VI x8] [] U :=
 gQ OF h
end
end Go.Proofs.Trees
namespace Go.Proofs.Trees
open Go Go.VL
theorem bA(i:Nat)(h:i<1000000000000):IntKind.wrap .i64 ((i:Int)+1)=((i+1:Nat):Int):=by rw[wrap64]<;>omega
inductive E where
 |atom (s:List UInt8)
 |list (l:List E)
mutual
def E.cA:E->AV
 | .atom s=>.ptr [.v (.string (mk s)),.v (.slice none 0 0)]
 | .list l=>.ptr [.v (.string (mk [])),.sl (E.mg l)]
def E.mg:List E->List (List AV)
 |[]=>[]
 |e::l=>[e.cA]::E.mg l
end
mutual
def E.im:E->List AV
 | .atom s=>[.v (.string (mk s)),.v (.slice none 0 0)]
 | .list l=>[.v (.string (mk [])),.sl (E.bw l)]
def E.bw:List E->List (List AV)
 |[]=>[]
 |e::l=>e.im::E.bw l
end
def E.kD(e:E):AV:=.agg e.im
theorem vD(l r:List E):E.mg (l++r)=E.mg l++E.mg r:=by
 induction l with
 |nil=>rfl
 |cons e l ih=>simp[E.mg,ih]
theorem qk(l r:List E):E.bw (l++r)=E.bw l++E.bw r:=by
 induction l with
 |nil=>rfl
 |cons e l ih=>simp[E.bw,ih]
theorem rN(l:List E):(E.mg l).length=l.length:=by
 induction l with
 |nil=>rfl
 |cons e l ih=>simp[E.mg,ih]
theorem eh(l:List E):(E.bw l).length=l.length:=by
 induction l with
 |nil=>rfl
 |cons e l ih=>simp[E.bw,ih]
def fe(b:UInt8):Bool:=decide ((97<=b.toNat/\b.toNat<=122)\/(48<=b.toNat/\b.toNat<=57)\/b.toNat=43\/b.toNat=42)
def sw(f:List UInt8->Option (E×List UInt8)):Nat->List UInt8->List E->Option (E×List UInt8)
 |0,_,_=>none
 |
  n+1,s,acc=>match f s with
  |some (p,c::r)=>if c.toNat=41 then some (.list (acc++[p]),r)else if c.toNat=32 then sw f n r (acc++[p])else none
  |_=>none
def rd:Nat->List UInt8->Option (E×List UInt8)
 |0,s=>if s.takeWhile fe=[]then none else some (.atom (s.takeWhile fe),s.dropWhile fe)
 |k+1,s=>if s.takeWhile fe=[]then(match s with
  |c::r=>if c.toNat=40 then sw (rd k) (r.length+1) r []else none
  |[]=>none)else some (.atom (s.takeWhile fe),s.dropWhile fe)
theorem CL{f:List UInt8->Option (E×List UInt8)}(hf:∀s e r,f s=some (e,r)->r.length<s.length):∀(n:Nat) (s:List UInt8) (acc:List E) (e:E) (r:List UInt8),sw f n s acc=some (e,r)->r.length<s.length
 |0,s,acc,e,r,h=>by cases h
 |
  n+1,s,acc,e,r,h=>by
  simp only[sw]at h
  split at h
  ·rename_i p c r' hs
   have:=hf _ _ _ hs
   simp only[az]at this
   split at h
   ·cases h;omega
   ·split at h
    ·have:=CL hf n _ _ _ _ h;omega
    ·cases h
  ·cases h
theorem pw{s:List UInt8}(h:¬s.takeWhile fe=[]):(s.dropWhile fe).length<s.length:=by
 have h1:=congrArg List.length (List.takeWhile_append_dropWhile (p:=fe) (l:=s))
 simp only[aq]at h1
 have:0<(s.takeWhile fe).length:=List.length_pos_iff.2 h
 omega
theorem xT:∀(k:Nat) (s:List UInt8) (e:E) (r:List UInt8),rd k s=some (e,r)->r.length<s.length
 |
  0,s,e,r,h=>by
  simp only[rd]at h
  split at h
  ·cases h
  ·rename_i hn;cases h;exact pw hn
 |
  k+1,s,e,r,h=>by
  simp only[rd]at h
  split at h
  ·split at h
   ·split at h
    ·have:=CL (xT k) _ _ _ _ _ h
     simp only[az];omega
    ·cases h
   ·cases h
  ·rename_i hn;cases h;exact pw hn
theorem Pe(b:UInt8):an Tryz.prog 162 [.v (.int .u8 (b.toNat:Int))] [] (bJ (.v (.bool (fe b)))):=by
 refine Sr _ ?_
 simp only[Kg,↓zq,zs,ae,bJ,fe]
 repeat' (apply aH<;>intro _)
 all_goals first|(congr 2;rw[cy];simp;omega)|(congr 2;simp;omega)
theorem yE{s:List UInt8}{i:Nat}(hi:i<s.length)(hb:fe (s.getD i 0)=true):((s.drop i).takeWhile fe).length=((s.drop (i+1)).takeWhile fe).length+1:=by
 have e:s.drop i=s.getD i 0::s.drop (i+1):=by
  rw[aR hi];simp[aa,hi]
 rw[e,List.takeWhile_cons_of_pos hb];simp
theorem qY{s:List UInt8}{i:Nat}(hi:i<s.length)(hb:fe (s.getD i 0)=false):(s.drop i).takeWhile fe=[]:=by
 have e:s.drop i=s.getD i 0::s.drop (i+1):=by
  rw[aR hi];simp[aa,hi]
 rw[e,List.takeWhile_cons_of_neg (by rw[hb];simp)]
theorem Hv(s:List UInt8)(hs:s.length<=8000)(d:Int):∀(k i:Nat),i+k=s.length->FV [.v (.string (mk s)),.v (.int .i64 d),.v (.int .i64 (i:Int))] [] (iG 1 [.v (.string (mk s)),.v (.int .i64 d),.v (.int .i64 ((i+((s.drop i).takeWhile fe).length:Nat):Int))] [])
 |
  0,i,hi=>by
  refine Kq _ _ _ ?_
  have hd:s.drop i=[]:=bS (by omega)
  simp only[Ff,↓zq,zs,ae,zt]
  exact⟨fun h=>by omega,fun _=>by simp[iG,hd]⟩
 |
  k+1,i,hi=>by
  have hlt:i<s.length:=by omega
  refine Kq _ _ _ ?_
  simp only[Ff,↓zq,zs,ae,zt,me s i hlt]
  refine⟨fun _=>⟨by omega,?_⟩,fun h=>by omega⟩
  refine ai (Pe _) ?_
  simp only[↓zq,zs,ae]
  refine⟨fun hb=>?_,fun hb=>?_⟩
  ·rw[bA i (by omega)]
   have:=Hv s hs d k (i+1) (by omega)
   rw[yE hlt hb,show i+(((s.drop (i+1)).takeWhile fe).length+1)=i+1+((s.drop (i+1)).takeWhile fe).length by omega]
   exact this
  ·simp[iG,qY hlt hb]
def oN(s:List UInt8):Option (E×List UInt8)->AV
 |some (e,r)=>.cD [e.cA,.v (.string (mk r))]
 |none=>.cD [.v (.pointer none),.v (.string (mk s))]
theorem cV(e:E):LK.has .ptr e.cA=True:=by cases e<;>simp[E.cA,cd]
theorem en(e:E):e.cA.isNil=false:=by cases e<;>rfl
theorem ui(s:List UInt8):s.take (s.takeWhile fe).length=s.takeWhile fe:=by
 have h:=List.takeWhile_append_dropWhile (p:=fe) (l:=s)
 have:(s.takeWhile fe++s.dropWhile fe).take (s.takeWhile fe).length=s.takeWhile fe:=List.take_left
 rw[h]at this;exact this
theorem yy(s:List UInt8):s.drop (s.takeWhile fe).length=s.dropWhile fe:=by
 have h:=List.takeWhile_append_dropWhile (p:=fe) (l:=s)
 have:(s.takeWhile fe++s.dropWhile fe).drop (s.takeWhile fe).length=s.dropWhile fe:=List.drop_left
 rw[h]at this;exact this
theorem Cm(c:UInt8)(r:List UInt8):(List.take (r.length+1) (c::r)).drop (bK 1)=r:=by simp
theorem MO(s0:List UInt8)(k:Nat)(hk:k<300)(ih:∀s,s.length<=8000->an Tryz.prog 148 [.v (.string (mk s)),.v (.int .i64 ((300-k:Nat):Int))] [] (bJ (oN s (rd k s)))) :
 ∀(n:Nat) (s:List UInt8) (acc:List E),s.length<n->s.length+acc.length<=8000->GL [.v (.string (mk s0)),.v (.int .i64 ((300-(k+1):Nat):Int)),.v (.string (mk s))] [.cells [.v (.string (mk [])),.any],.vec 1 (E.mg acc)]
  (nU (match sw (rd k) n s acc with|some (e,r)=>(2,[e.cA,.v (.string (mk r))],[])|none=>(2,[.v (.pointer none),.v (.string (mk s0))],[])))
 |0,s,acc,hn,_=>by omega
 |
  n+1,s,acc,hn,hl=>by
  refine QP _ _ _ _ _ ?_
  simp only[OM,↓zq,zs,ae,Bw]
  have hd:IntKind.wrap .i64 (((300-(k+1):Nat):Int)+1)=((300-k:Nat):Int):=by rw[wrap64]<;>omega
  rw[hd]
  refine ai (ih s (by omega)) ?_
  have hlt:=xT k s
  cases hr:rd k s with
  |
   none =>
   simp only[oN,↓zq,zs,ae,sw,hr]
   simp[nU]
  |
   some q =>
   obtain⟨e,r⟩:=q
   have:=hlt e r hr
   cases r with
   |
    nil =>
    simp only[oN,↓zq,zs,ae,zt,sw,hr,cV,en]
    simp[nU]
   |
    cons c r =>
    simp only[az]at this
    have hb:=me (c::r) 0 (by simp)
    simp only[Int.ofNat_eq_natCast,Int.cast_ofNat_Int]at hb
    have e2:(List.take (c::r).length (c::r)).drop 1=r:=by simp
    simp only[oN,↓zq,zs,ae,zt,sw,hr,cV,en,hb,e2,rN]
    refine⟨fun h=>(by cases h),fun _=>⟨fun h=>(by cases h),fun _=>⟨⟨fun c hc=>(by simp at hc;rw[hc];rfl),by omega⟩,by omega,by omega,fun h41=>?_,fun h41=>⟨by omega,fun h32=>?_,fun h32=>?_⟩⟩⟩⟩
    ·have h41':c.toNat=41:=by omega
     rw[Cm,if_pos h41']
     simp[nU,E.cA,vD,E.mg]
    ·have h41':¬c.toNat=41:=by omega
     have h32':¬c.toNat=32:=by omega
     rw[if_neg h41',if_neg h32']
    ·have h41':¬c.toNat=41:=by omega
     have h32':c.toNat=32:=by omega
     rw[Cm,if_neg h41',if_pos h32']
     have:=MO s0 k hk ih n r (acc++[e]) (by omega) (by simp;omega)
     simpa[vD,E.mg]using this
theorem Qn:∀(k:Nat),k<=300->∀s:List UInt8,s.length<=8000->an Tryz.prog 148 [.v (.string (mk s)),.v (.int .i64 ((300-k:Nat):Int))] [] (bJ (oN s (rd k s))):=by
 intro k
 induction k with
 |
  zero =>
  intro hk s hs
  refine Oh _ _ ?_
  unfold Ih
  refine cJ (Hv s hs _ s.length 0 (by omega)) ?_
  simp only[↓zq,zs,ae,zt,aY,bJ]
  have hw:(s.takeWhile fe).length<=s.length:=by
   have:=congrArg List.length (List.takeWhile_append_dropWhile (p:=fe) (l:=s))
   simp only[aq]at this;omega
  refine⟨fun h=>⟨by omega,by omega,?_⟩,fun h=>?_⟩
  ·have hne:¬s.takeWhile fe=[]:=fun e=>by rw[e]at h;simp at h
   simp only[rd,if_neg hne,oN,E.cA,ui,yy]
  ·have hnil:s.takeWhile fe=[]:=ca (by omega)
   simp only[rd,if_pos hnil,oN]
   refine⟨fun _=>trivial,fun hne=>⟨?_,?_⟩⟩
   ·cases s with
    |nil=>exact absurd rfl hne
    |cons c s=>simp
   ·exact⟨fun _=>trivial,fun _=>⟨fun _=>trivial,fun h=>absurd rfl h⟩⟩
 |
  succ k ih =>
  intro hk s hs
  refine Oh _ _ ?_
  unfold Ih
  refine cJ (Hv s hs _ s.length 0 (by omega)) ?_
  simp only[↓zq,zs,ae,zt,aY,bJ]
  have hw:(s.takeWhile fe).length<=s.length:=by
   have:=congrArg List.length (List.takeWhile_append_dropWhile (p:=fe) (l:=s))
   simp only[aq]at this;omega
  refine⟨fun h=>⟨by omega,by omega,?_⟩,fun h=>?_⟩
  ·have hne:¬s.takeWhile fe=[]:=fun e=>by rw[e]at h;simp at h
   simp only[rd,if_neg hne,oN,E.cA,ui,yy]
  ·have hnil:s.takeWhile fe=[]:=ca (by omega)
   simp only[rd,if_pos hnil]
   cases s with
   |nil=>simp[oN]
   |
    cons c s =>
    have hb:=me (c::s) 0 (by simp)
    simp only[Int.ofNat_eq_natCast,Int.cast_ofNat_Int]at hb
    simp only[az]at hs
    simp only[↓zq,zs,ae,hb,Cm]
    refine⟨fun h=>(by cases h),fun _=>⟨by omega,fun h40=>?_,fun h40=>⟨fun h300=>?_,fun h300=>⟨by omega,?_⟩⟩⟩⟩
    ·have:¬c.toNat=40:=by omega
     rw[if_neg this];rfl
    ·omega
    ·have h40':c.toNat=40:=by omega
     rw[if_pos h40']
     refine fm (MO (c::s) k (by omega) (ih (by omega)) (s.length+1) s [] (by omega) (by simp;omega)) (fun ys o e=>?_) (fun ys o e=>?_)
     ·split at e<;>cases e
     ·split at e<;>cases e
      ·rename_i e' r' hr
       simp only[↓zq,zs,ae,cV]
       simp only[hr,oN]
      ·rename_i hr
       simp only[↓zq,zs,ae]
       simp only[hr,oN]
end Go.Proofs.Trees
namespace Go.Proofs.Trees
open Go Go.VL
mutual
def E.sz:E->Nat
 | .atom _=>1
 | .list l=>1+E.jt l
def E.jt:List E->Nat
 |[]=>0
 |e::l=>e.sz+E.jt l
end
mutual
def E.ok:E->Prop
 | .atom s=>s≠[]
 | .list l=>E.DJ l
def E.DJ:List E->Prop
 |[]=>True
 |e::l=>e.ok/\E.DJ l
end
theorem yL(l r:List E):E.jt (l++r)=E.jt l+E.jt r:=by
 induction l with
 |nil=>simp[E.jt]
 |cons e l ih=>simp[E.jt,ih];omega
theorem xN(l r:List E):E.DJ (l++r)↔E.DJ l/\E.DJ r:=by
 induction l with
 |nil=>simp[E.DJ]
 |cons e l ih=>simp[E.DJ,ih,and_assoc]
theorem AR{f:List UInt8->Option (E×List UInt8)}(hf:∀s e r,f s=some (e,r)->e.ok/\e.sz+r.length<=s.length):∀(n:Nat) (s:List UInt8) (acc:List E) (e:E) (r:List UInt8),sw f n s acc=some (e,r)->E.DJ acc->e.ok/\e.sz+r.length<=s.length+1+E.jt acc
 |0,s,acc,e,r,h,_=>by cases h
 |
  n+1,s,acc,e,r,h,ha=>by
  simp only[sw]at h
  split at h
  ·rename_i p c r' hs
   obtain⟨h1,h2⟩:=hf _ _ _ hs
   simp only[az]at h2
   split at h
   ·cases h
    refine⟨(xN _ _).2 ⟨ha,h1,trivial⟩,?_⟩
    simp only[E.sz,yL,E.jt];omega
   ·split at h
    ·have:=AR hf n _ _ _ _ h ((xN _ _).2 ⟨ha,h1,trivial⟩)
     refine⟨this.1,?_⟩
     have h3:=this.2
     simp only[yL,E.jt]at h3;omega
    ·cases h
  ·cases h
theorem uB(s:List UInt8):(s.takeWhile fe).length+(s.dropWhile fe).length=s.length:=by
 have:=congrArg List.length (List.takeWhile_append_dropWhile (p:=fe) (l:=s))
 simpa only[aq]using this
theorem EK:∀(k:Nat) (s:List UInt8) (e:E) (r:List UInt8),rd k s=some (e,r)->e.ok/\e.sz+r.length<=s.length
 |
  0,s,e,r,h=>by
  simp only[rd]at h
  split at h
  ·cases h
  ·rename_i hn;cases h
   have:=uB s
   have:0<(s.takeWhile fe).length:=List.length_pos_iff.2 hn
   exact⟨hn,by simp only[E.sz];omega⟩
 |
  k+1,s,e,r,h=>by
  simp only[rd]at h
  split at h
  ·split at h
   ·split at h
    ·have:=AR (EK k) _ _ _ _ _ h trivial
     refine⟨this.1,?_⟩
     have h3:=this.2
     simp only[E.jt,az]at h3 |-;omega
    ·cases h
   ·cases h
  ·rename_i hn;cases h
   have:=uB s
   have:0<(s.takeWhile fe).length:=List.length_pos_iff.2 hn
   exact⟨hn,by simp only[E.sz];omega⟩
def qO(s:List UInt8):Option E:=if s.length>8000 then none else match rd 300 s with|some (e,[])=>some e|_=>none
theorem nM{s:List UInt8}{e:E}(h:qO s=some e):e.ok/\e.sz<=8000:=by
 unfold qO at h
 split at h
 ·cases h
 ·split at h
  ·rename_i e' hr
   cases h
   have:=EK _ _ _ _ hr
   exact⟨this.1,by have:=this.2;simp at this;omega⟩
  ·cases h
def uH:Option E->AV
 |some e=>e.cA
 |none=>.v (.pointer none)
theorem L4(s:List UInt8):an Tryz.prog 129 [.v (.string (mk s))] [] (bJ (uH (qO s))):=by
 refine RG _ ?_
 simp only[KG,↓zq,zs,ae,zt,bJ,qO]
 refine⟨fun h=>?_,fun h=>?_⟩
 ·rw[if_pos (by omega)];simp[uH]
 ·rw[if_neg (by omega)]
  refine ai (Qn 300 (by omega) s (by omega)) ?_
  cases hr:rd 300 s with
  |
   none =>
   simp only[oN,↓zq,zs,ae,zt,uH]
   refine⟨fun _=>trivial,fun _=>trivial⟩
  |
   some q =>
   obtain⟨e,r⟩:=q
   cases r with
   |nil=>simp only[oN,↓zq,zs,ae,zt,uH,cV];simp
   |cons c r=>simp only[oN,↓zq,zs,ae,zt,uH,cV];simp
def ic(b:UInt8):Bool:=decide (48<=b.toNat/\b.toNat<=57)
def named(lo hi:Nat):List UInt8->Bool
 |[]=>false
 |c::r=>decide (r.length<=2)&&decide (lo<=c.toNat/\c.toNat<=hi)&&r.all ic
def gT(s:List UInt8):Bool:=named 120 122 s
def dm(s:List UInt8):Bool:=named 116 116 s
def xS(v lo hi:Int):Bool:=decide (lo<=v/\v<=hi)
theorem zO(v lo hi:Int):an Tryz.prog 45 [.v (.int .i64 v),.v (.int .i64 lo),.v (.int .i64 hi)] [] (bJ (.v (.bool (xS v lo hi)))):=by
 refine PN _ _ _ ?_
 simp only[Jm,↓zq,zs,ae,bJ,xS]
 constructor<;>intro h<;>simp at h<;>simp[h]
 omega
theorem Jo(s:List UInt8)(hs:s.length<=3):∀(k i:Nat),i+k=s.length->Ij [.v (.string (mk s)),.v (.int .i64 (i:Int))] [] (nU (if(s.drop i).all ic=true then(1,[],[])else(2,[.v (.bool false)],[])))
 |
  0,i,hi=>by
  have hd:s.drop i=[]:=bS (by omega)
  refine KN _ _ ?_
  simp only[Gt,↓zq,zs,ae,zt]
  exact⟨fun h=>by omega,fun _=>by simp[nU,hd]⟩
 |
  k+1,i,hi=>by
  have hlt:i<s.length:=by omega
  have e:s.drop i=s.getD i 0::s.drop (i+1):=by
   rw[aR hlt];simp[aa,hlt]
  refine KN _ _ ?_
  simp only[Gt,↓zq,zs,ae,zt,me s i hlt,e,da]
  generalize hb:s.getD i 0=b
  refine⟨fun _=>⟨by omega,fun h=>?_,fun h=>⟨by omega,fun h2=>?_,fun h2=>?_⟩⟩,fun h=>by omega⟩
  ·have:ic b=false:=by simp[ic];omega
   simp only[this,zf,nU]
  ·have:ic b=false:=by simp[ic];omega
   simp only[this,zf,nU]
  ·have:ic b=true:=by simp[ic];omega
   rw[bA i (by omega),this,bW]
   exact Jo s hs k (i+1) (by omega)
theorem Ow(s:List UInt8)(lo hi:Nat):an Tryz.prog 119 [.v (.string (mk s)),.v (.int .u8 (lo:Int)),.v (.int .u8 (hi:Int))] [] (bJ (.v (.bool (named lo hi s)))):=by
 refine Pu _ _ _ ?_
 unfold Mu
 rw[cN]
 refine ai (zO _ _ _) ?_
 simp only[↓zq,zs,ae,zt,bJ]
 refine⟨fun h=>?_,fun h=>?_⟩
 ·cases s with
  |nil=>rfl
  |
   cons c s =>
   simp[xS]at h
   have:¬s.length<=2:=by omega
   simp[named,this]
 ·cases s with
  |nil=>simp[xS]at h
  |
   cons c s =>
   simp[xS]at h
   have hl:s.length<=2:=by omega
   have hb:=me (c::s) 0 (by simp)
   simp only[Int.ofNat_eq_natCast,Int.cast_ofNat_Int]at hb
   simp only[↓zq,zs,ae,hb]
   refine⟨by omega,fun h1=>?_,fun h1=>⟨by omega,fun h2=>?_,fun h2=>?_⟩⟩
   ·have:¬lo<=c.toNat:=by omega
    simp[named,this]
   ·have:¬c.toNat<=hi:=by omega
    simp[named,this]
   ·refine fm (Jo (c::s) (by simp;omega) s.length 1 (by simp;omega)) (fun ys o e=>?_) (fun ys o e=>?_)
    ·split at e<;>cases e
     rename_i ha
     simp at ha
     simp only[↓zq,zs,ae]
     simp[named,hl]
     exact⟨⟨by omega,by omega⟩,fun x hx=>by simpa using ha x hx⟩
    ·split at e<;>cases e
     rename_i ha
     simp only[↓zq,zs,ae]
     have:s.all ic=false:=by simpa using ha
     simp[named,this]
theorem Fk(s:List UInt8):an Tryz.prog 126 [.v (.string (mk s))] [] (bJ (.v (.bool (gT s)))):=by
 refine So _ ?_
 unfold Li
 refine ai (Ow s 120 122) ?_
 simp only[↓zq,zs,ae,bJ,gT]
theorem F6(s:List UInt8):an Tryz.prog 85 [.v (.string (mk s))] [] (bJ (.v (.bool (dm s)))):=by
 refine Rc _ ?_
 unfold Nz
 refine ai (Ow s 116 116) ?_
 simp only[↓zq,zs,ae,bJ,dm]
end Go.Proofs.Trees
namespace Go.Proofs.Trees
open Go Go.VL Go.RowKit
theorem PF(l:List UInt8)(c:UInt8):an Tryz.prog 175 [.v (.string (mk l)),.v (.string (mk [c]))] [] (bJ (.v (.bool (decide (0<=Lib.indexByte l c))))):=by
 refine an.SI (xs:=[.string (mk l),.string (mk [c])]) ⟨ny,by kernel_rfl,by kernel_rfl,by kernel_rfl⟩ fun w=>?_
 have:=Any.strings_Contains_one Tryz.C4 (mk l) c w
 refine Calls.mono this fun e w' ⟨h1,h2⟩=>?_
 rw[h2]
 have hd:(mk l).data.toList=l:=by simp[mk]
 exact⟨by rw[h1,hd],Below.refl _ _⟩
theorem Lz(l cs:List UInt8)(hl:l.length<=1000000)(hc:cs.length<=1000)(ha:∀b,b∈cs->b.toNat<128):an Tryz.prog 169 [.v (.string (mk l)),.v (.string (mk cs))] [] (bJ (.v (.string (mk (Lib.trimS l cs))))):=by
 refine an.SI (xs:=[.string (mk l),.string (mk cs)]) ⟨qH,by kernel_rfl,by kernel_rfl,by kernel_rfl⟩ fun w=>?_
 have:=Any.strings_Trim_laid Tryz.Ek (by kernel_rfl) (mk l) (mk cs) w (by rw[cN];omega) (by rw[cN];omega) (fun j b hj=>ha b (by
  have:(mk cs).data.toList=cs:=by simp[mk]
  rw[this]at hj
  exact List.mem_of_getElem? hj))
 refine Calls.mono this fun e w' ⟨h1,h2⟩=>⟨?_,h2⟩
 rw[h1]
 simp[mk]
theorem nD:∀(l:List UInt8) (c:UInt8),(0<=Lib.indexByte l c↔c∈l)/\-1<=Lib.indexByte l c
 |[],c=>by simp[Lib.indexByte]
 |
  b::l,c=>by
  obtain⟨h1,h2⟩:=nD l c
  unfold Lib.indexByte
  by_cases e:b=c
  ·subst e;simp
  ·have e':(b==c)=false:=by simp[e]
   rw[e']
   by_cases q:Lib.indexByte l c = -1
   ·have:c∉l:=fun h=>by have:=h1.2 h;omega
    simp[q,this,Ne.symm e]
   ·have q':(Lib.indexByte l c==-1)=false:=by simp[q]
    simp only[q',Bool.false_eq_true,if_false,aK]
    constructor
    ·constructor
     ·intro h;exact .inr (h1.1 (by omega))
     ·intro h
      rcases h with h|h
      ·exact absurd h.symm e
      ·have:=h1.2 h;omega
    ·omega
theorem dropWhile_nil{p:UInt8->Bool}:∀(l:List UInt8),l.dropWhile p=[]↔l.all p=true
 |[]=>by simp
 |
  b::l=>by
  cases h:p b with
  |true=>rw[List.dropWhile_cons_of_pos h,dropWhile_nil l];simp[h]
  |false=>rw[List.dropWhile_cons_of_neg (by rw[h];simp)];simp[h]
theorem tC(l cs:List UInt8):Lib.trimS l cs=[]↔l.all (cs.contains ·)=true:=by
 unfold Lib.trimS Lib.trimLeftS
 rw[dropWhile_nil]
 unfold Lib.trimRightS
 constructor
 ·intro h
  by_cases hn:l.reverse.dropWhile (cs.contains ·)=[]
  ·rw[dropWhile_nil]at hn
   simpa using hn
  ·exfalso
   rw[List.all_reverse]at h
   obtain⟨b,r,e⟩:=List.exists_cons_of_ne_nil hn
   have h1:cs.contains b=false:=by
    have:=List.head_dropWhile_not (p:=(cs.contains ·)) (l:=l.reverse) hn
    simp only[e,List.head_cons]at this
    exact this
   rw[e]at h
   simp only[da,aw]at h
   rw[h1]at h;cases h.1
 ·intro h
  have:l.reverse.dropWhile (cs.contains ·)=[]:=by rw[dropWhile_nil];simpa using h
  rw[this];rfl
def GK:List UInt8:=[48,49,50,51,52,53,54,55,56,57]
theorem vy(b:UInt8):GK.contains b=ic b:=by
 have:∀n:Fin 256,GK.contains (bj n.val)=ic (bj n.val):=by decide +kernel
 have:=this ⟨b.toNat,b.toNat_lt⟩
 simpa using this
theorem LM(s ls:List UInt8)(lo hi:Nat)(hls:∀c:UInt8,c∈ls↔lo<=c.toNat/\c.toNat<=hi):an Tryz.prog 163 [.v (.string (mk s)),.v (.string (mk ls))] [] (bJ (.v (.bool (named lo hi s)))):=by
 refine Sz _ _ ?_
 simp only[NV,↓zq,zs,ae,zt,bJ]
 cases s with
 |nil=>exact⟨fun h=>by simp at h,fun _=>rfl⟩
 |
  cons c s =>
  have e1:(List.take (bK 1) (c::s))=[c]:=rfl
  have e2:(List.take (s.length+1) (c::s)).drop (bK 1)=s:=by simp
  simp only[az,e1,e2]
  refine⟨fun _=>⟨fun h3=>⟨by omega,?_⟩,fun h3=>?_⟩,fun h=>by omega⟩
  ·have hl:s.length<=2:=by omega
   refine ai (PF ls c) ?_
   simp only[↓zq,zs,ae]
   have hi1:=(nD ls c).1
   refine⟨fun h=>⟨by omega,?_⟩,fun h=>?_⟩
   ·refine ai (Lz s GK (by omega) (by decide) (by decide)) ?_
    simp only[↓zq,zs,ae,zt]
    have hc:=(hls c).1 (hi1.1 h)
    congr 2
    rw[cy,beq_iff_eq,tC]
    simp only[named,hl,hc,decide_true,bW,and_self]
    have:(fun x=>GK.contains x)=ic:=funext vy
    rw[this]
   ·have hc:¬(lo<=c.toNat/\c.toNat<=hi):=fun h'=>h (hi1.2 ((hls c).2 h'))
    simp only[named,hc,zf]
  ·have hl:¬s.length<=2:=by omega
   simp only[named,hl,zf]
theorem Mm(s:List UInt8):an Tryz.prog 149 [.v (.string (mk s))] [] (bJ (.v (.bool (gT s)))):=by
 refine O8 _ ?_
 unfold Kv
 have h:∀n:Fin 256,(bj n.val∈[(120:UInt8),121,122])↔120<=(bj n.val).toNat/\(bj n.val).toNat<=122:=by decide +kernel
 refine ai (LM s [120,121,122] 120 122 fun c=>by simpa using h ⟨c.toNat,c.toNat_lt⟩) ?_
 simp only[↓zq,zs,ae,bJ,gT]
theorem DL(s:List UInt8):an Tryz.prog 150 [.v (.string (mk s))] [] (bJ (.v (.bool (dm s)))):=by
 refine Pj _ ?_
 unfold Ml
 have h:∀n:Fin 256,(bj n.val∈[(116:UInt8)])↔116<=(bj n.val).toNat/\(bj n.val).toNat<=116:=by decide +kernel
 refine ai (LM s [116] 116 116 fun c=>by simpa using h ⟨c.toNat,c.toNat_lt⟩) ?_
 simp only[↓zq,zs,ae,bJ,dm]
end Go.Proofs.Trees
namespace Go.Proofs.Trees
open Go Go.VL
inductive Ty where
 |zero|one
 |name (s:List UInt8)
 |bound (up:Nat)
 |plus (a b:Ty)
 |times (a b:Ty)
 |rc (a:Ty)
def Ty.av:Ty->AV
 | .zero=>.ptr [.v (.int .u8 48),.v (.string (mk [])),.v (.int .i64 0),.v (.pointer none),.v (.pointer none)]
 | .one=>.ptr [.v (.int .u8 49),.v (.string (mk [])),.v (.int .i64 0),.v (.pointer none),.v (.pointer none)]
 | .name s=>.ptr [.v (.int .u8 110),.v (.string (mk s)),.v (.int .i64 0),.v (.pointer none),.v (.pointer none)]
 | .bound up=>.ptr [.v (.int .u8 98),.v (.string (mk [])),.v (.int .i64 (up:Int)),.v (.pointer none),.v (.pointer none)]
 | .plus a b=>.ptr [.v (.int .u8 43),.v (.string (mk [])),.v (.int .i64 0),a.av,b.av]
 | .times a b=>.ptr [.v (.int .u8 42),.v (.string (mk [])),.v (.int .i64 0),a.av,b.av]
 | .rc a=>.ptr [.v (.int .u8 114),.v (.string (mk [])),.v (.int .i64 0),a.av,.v (.pointer none)]
theorem aE(t:Ty):LK.has .ptr t.av=True:=by cases t<;>simp[Ty.av,cd]
theorem fO(t:Ty):t.av.isNil=false:=by cases t<;>rfl
def ib:Option Ty->AV
 |some t=>t.av
 |none=>.v (.pointer none)
theorem iv(t:Option Ty):LK.has .ptr (ib t)=True:=by cases t<;>simp[ib,aE,iC]
def E.at:E->List UInt8
 | .atom s=>s
 | .list _=>[]
def bP(s:List UInt8)(ar:List (List UInt8)):Nat->Option Nat
 |0=>none
 |i+1=>if ar.getD i []=s then some (ar.length-1-i)else bP s ar i
def cT:E->List (List UInt8)->Option Ty
 | .atom s,ar=>if s=[48]then some .zero else if s=[49]then some .one else if gT s=true then some (.name s)else if dm s=true then(match bP s ar ar.length with|some u=>some (.bound u)|none=>some (.name s))else none
 |
  .list [x,a,b],ar =>
  if x.at=[43]then(match cT a ar,cT b ar with|some t,some u=>some (.plus t u)|_,_=>none)
  else if x.at=[42]then(match cT a ar,cT b ar with|some t,some u=>some (.times t u)|_,_=>none)
  else if x.at=[114,101,99]then(if dm a.at=true then(match cT b (ar++[a.at])with|some t=>some (.rc t)|none=>none)else none)
  else none
 | .list _,_=>none
def bH(l:List (List UInt8)):List (List AV):=l.map fun s=>[.v (.string (mk s))]
def cm(a:AV)(l:List (List UInt8)):Prop:=LK.sl.has a/\a.elems=bH l
theorem cm.len{a:AV}{l:List (List UInt8)}(h:cm a l):a.elems.length=l.length:=by rw[h.2];simp[bH]
theorem cm.idx{a:AV}{l:List (List UInt8)}(h:cm a l){i:Nat}(hi:i<l.length):a.elems.getD i []=[.v (.string (mk (l.getD i [])))]:=by
 rw[h.2];simp[bH,aa,hi]
theorem cm.of(l:List (List UInt8)):cm (.sl (bH l)) l:=⟨(cc _).mpr trivial,rfl⟩
theorem cm.nil:cm (.v (.slice none 0 0)) []:=⟨(bh).mpr trivial,rfl⟩
theorem xI(e:E)(w:List UInt8):an Tryz.prog 151 [e.cA,.v (.string (mk w)),.v (.int .i64 3)] [] (bJ (.v (.bool (match e with| .list [x,_,_]=>x.at==w|_=>false)))):=by
 refine Ng _ _ _ ((cV e).mpr trivial) ?_
 cases e with
 |atom s=>simp only[Bl,E.cA,↓zq,zs,ae,zt,bJ];exact⟨by omega,fun h=>by omega,fun _=>trivial⟩
 |
  list l =>
  simp only[Bl,E.cA,↓zq,zs,ae,zt,bJ,rN]
  match l with
  |[]=>exact⟨by simp,fun h=>by simp at h,fun _=>rfl⟩
  |[_]=>exact⟨by simp,fun h=>by simp at h,fun _=>rfl⟩
  |[_,_]=>exact⟨by simp,fun h=>by simp at h,fun _=>rfl⟩
  |
   [x,y,z] =>
   refine⟨by simp,fun _=>?_,fun h=>by simp at h⟩
   cases x<;>simp[E.mg,E.cA,cd,pS,jJ,dY,uj,toList_mk,E.at]
  |_::_::_::_::l=>exact⟨by simp,fun h=>by simp at h;omega,fun _=>rfl⟩
theorem Oz(e:E)(a:AV)(ar:List (List UInt8))(ha:cm a ar)(hl:ar.length<1000000):∀(i:Nat),i<=ar.length->GN [e.cA,a,.v (.int .i64 ((i:Int)-1))] []
 (nU (match bP e.at ar i with|some u=>(2,[],[.cells [.v (.int .u8 98),.v (.string (mk [])),.v (.int .i64 (u:Int)),.v (.pointer none),.v (.pointer none)]])|none=>(1,[e.cA],[])))
 |
  0,hi=>by
  refine Om _ _ _ ?_
  simp only[Hx,↓zq,zs,ae,cV]
  exact⟨ha.1,fun h=>by omega,fun _=>rfl⟩
 |
  i+1,hi=>by
  have hlt:i<ar.length:=by omega
  have e1:((i+1:Nat):Int)-1=(i:Int):=by omega
  rw[e1]
  refine Om _ _ _ ?_
  have hd:e.cA.deref.headD .any=.v (.string (mk e.at)):=by cases e<;>rfl
  have hdl:1<=e.cA.deref.length:=by cases e<;>simp[E.cA,jJ]
  simp only[Hx,↓zq,zs,ae,zt,cV,en,ha.len,ha.idx hlt,hd,sg]
  refine⟨ha.1,fun _=>⟨⟨ha.1,by omega,by omega⟩,by omega,hdl,fun h=>⟨ha.1,?_⟩,fun h=>?_⟩,fun h=>by omega⟩
  ·simp only[bP,h,if_true,nU]
   rw[wrap64 ((ar.length:Int)-1) (by omega) (by omega),wrap64 _ (by omega) (by omega)]
   have:(ar.length:Int)-1-(i:Int)=((ar.length-1-i:Nat):Int):=by omega
   rw[this]
  ·simp only[bP,h,if_false]
   rw[wrap64 _ (by omega) (by omega)]
   exact Oz e a ar ha hl i (by omega)
end Go.Proofs.Trees
namespace Go.Proofs.Trees
open Go Go.VL
theorem n0(e:E):e.cA.deref.headD .any=.v (.string (mk e.at)):=by cases e<;>rfl
theorem lG(e:E):1<=e.cA.deref.length:=by cases e<;>simp[E.cA,jJ]
theorem toNat_one:bK 1=1:=rfl
theorem bg:bK 2=2:=rfl
theorem E3{ar:List (List UInt8)}(s:List UInt8):bH ar++[[.v (.string (mk s))]]=bH (ar++[s]):=by simp[bH]
theorem ke(ar:List (List UInt8)):cC 1 (bH ar):=fun c hc=>by
 obtain⟨s,_,rfl⟩:=bQ.1 hc;rfl
theorem lu{x a b:E}(ar:List (List UInt8))(hx:x.at=[43]):cT (.list [x,a,b]) ar=match cT a ar,cT b ar with|some t,some u=>some (.plus t u)|_,_=>none:=by rw[cT,if_pos hx]<;>cases cT a ar<;>cases cT b ar<;>rfl
theorem jP{x a b:E}(ar:List (List UInt8))(hx:x.at=[42]):cT (.list [x,a,b]) ar=match cT a ar,cT b ar with|some t,some u=>some (.times t u)|_,_=>none:=by rw[cT,if_neg (by rw[hx];decide),if_pos hx]<;>cases cT a ar<;>cases cT b ar<;>rfl
theorem mw{x a b:E}(ar:List (List UInt8))(hx:x.at=[114,101,99]):cT (.list [x,a,b]) ar=if dm a.at=true then(match cT b (ar++[a.at])with|some t=>some (.rc t)|none=>none)else none:=by rw[cT,if_neg (by rw[hx];decide),if_neg (by rw[hx];decide),if_pos hx]<;>cases cT b (ar++[a.at])<;>rfl
theorem je{x a b:E}(ar:List (List UInt8))(h1:x.at≠[43])(h2:x.at≠[42])(h3:x.at≠[114,101,99]):cT (.list [x,a,b]) ar=none:=by rw[cT,if_neg h1,if_neg h2,if_neg h3]
theorem Dt:∀(e:E) (ar:List (List UInt8)) (a:AV),e.ok->cm a ar->ar.length+e.sz<100000->an Tryz.prog 130 [e.cA,a] [] (bJ (ib (cT e ar)))
 |
  .atom s,ar,a,hok,ha,hl=>by
  simp only[E.sz]at hl
  refine MD _ _ ((cV _).mpr trivial) ha.1 ?_
  have hd:=n0 (.atom s)
  have hlen:=lG (.atom s)
  simp only[E.at]at hd
  simp only[HB,↓zq,zs,ae,zt,bJ,cV,en,hd,cT]
  refine⟨hlen,fun h=>⟨hlen,?_,?_⟩,fun h=>⟨hlen,fun h1=>⟨hlen,?_,?_⟩,fun h1=>⟨hlen,?_⟩⟩⟩
  ·rw[h];decide
  ·rw[if_pos h,h];rfl
  ·rw[h1];decide
  ·rw[if_neg h,if_pos h1,h1];rfl
  ·rw[if_neg h,if_neg h1]
   refine ai (Mm s) ?_
   simp only[↓zq,zs,ae]
   refine⟨fun hp=>⟨hlen,?_⟩,fun hp=>⟨hlen,?_⟩⟩
   ·rw[if_pos hp];rfl
   ·rw[if_neg (by rw[hp];simp)]
    refine ai (DL s) ?_
    simp only[↓zq,zs,ae,ha.len]
    refine⟨fun hq=>⟨ha.1,?_⟩,fun hq=>?_⟩
    ·rw[if_pos hq,wrap64 _ (by omega) (by omega)]
     refine fm (Oz (.atom s) a ar ha (by omega) ar.length (by omega)) (fun ys o e=>?_) (fun ys o e=>?_)
     ·simp only[E.at]at e
      cases hq2:bP s ar ar.length<;>rw[hq2]at e<;>cases e
      simp only[↓zq,zs,ae,zt,cV,en,hd]
      exact⟨hlen,rfl⟩
     ·simp only[E.at]at e
      cases hq2:bP s ar ar.length<;>rw[hq2]at e<;>cases e
      simp only[↓zq,zs,ae,zt,LK.has]
      simp[ib,Ty.av,ae,LK.has]
    ·rw[if_neg (by rw[hq];simp)]
     refine ai (xI (.atom s) [43]) ?_
     simp only[↓zq,zs,ae]
     refine⟨fun h=>(by simp at h),fun _=>?_⟩
     refine ai (xI (.atom s) [42]) ?_
     simp only[↓zq,zs,ae]
     refine⟨fun h=>(by simp at h),fun _=>?_⟩
     refine ai (xI (.atom s) [114,101,99]) ?_
     simp only[↓zq,zs,ae]
     refine⟨fun h=>(by simp at h),fun _=>?_⟩
     trivial
 |
  .list l,ar,a,hok,ha,hl=>by
  simp only[E.sz]at hl
  refine MD _ _ ((cV _).mpr trivial) ha.1 ?_
  have hd:=n0 (.list l)
  have hlen:=lG (.list l)
  simp only[E.at]at hd
  have hp:gT []=false:=rfl
  have hq:dm []=false:=rfl
  simp only[HB,↓zq,zs,ae,zt,bJ,cV,en,hd]
  refine⟨hlen,fun h=>(by simp at h),fun h=>⟨hlen,fun h1=>(by simp at h1),fun h1=>⟨hlen,?_⟩⟩⟩
  refine ai (Mm []) ?_
  simp only[↓zq,zs,ae,hp]
  refine⟨fun h=>(by simp at h),fun _=>⟨hlen,?_⟩⟩
  refine ai (DL []) ?_
  simp only[↓zq,zs,ae,hq]
  refine⟨fun h=>(by simp at h),fun _=>?_⟩
  refine ai (xI (.list l) [43]) ?_
  match l,hok,hl with
  |
   [x,y,z],hok,hl =>
   simp only[E.jt]at hl
   obtain⟨ok1,ok2,ok3,_⟩:=hok
   have iy:=Dt y ar a ok2 ha (by omega)
   have iz:=Dt z ar a ok3 ha (by omega)
   have hds:((E.list [x,y,z]).cA.deref.drop 1).headD .any=.sl [[x.cA],[y.cA],[z.cA]]:=rfl
   have hdl:1<=((E.list [x,y,z]).cA.deref.drop 1).length:=by simp[E.cA,jJ]
   have hxd:=n0 x
   have hxl:=lG x
   have hyd:=n0 y
   have hyl:=lG y
   have bin:∀(c:UInt8) (mkT:Ty->Ty->Ty),(∀t u:Ty,(mkT t u).av=.ptr [.v (.int .u8 (c.toNat:Int)),.v (.string (mk [])),.v (.int .i64 0),t.av,u.av])->x.at=[c]->bt (mk x.at) 0=(c.toNat:Int):=fun c _ _ hx=>by
    have:=me x.at 0 (by rw[hx];simp)
    simp only[Int.ofNat_eq_natCast,Int.cast_ofNat_Int]at this
    rw[this,hx];rfl
   simp only[↓zq,zs,ae,zt,hds,hdl,cV,en,toNat_one,bg,hxd,hyd,sg]
   refine⟨fun hx=>?_,fun hx=>?_⟩
   ·refine⟨by omega,by omega,?_⟩
    refine ai iy ?_
    simp only[↓zq,zs,ae,iv]
    refine⟨by omega,by omega,?_⟩
    refine ai iz ?_
    have hb:=bin 43 Ty.plus (fun _ _=>rfl) hx
    rw[lu ar hx]
    simp only[↓zq,zs,ae,zt,iv]
    cases h1:cT y ar with
    |none=>simp[ib,jL]
    |
     some t =>
     cases h2:cT z ar with
     |none=>simp[ib,jL,fO]
     |
      some u =>
      simp only[ib,fO,hb]
      refine⟨fun h=>(by cases h),fun _=>⟨fun h=>(by cases h),fun _=>⟨by omega,by omega,hxl,⟨by omega,by rw[hx];simp⟩,rfl⟩⟩⟩
   ·refine ai (xI (.list [x,y,z]) [42]) ?_
    simp only[↓zq,zs,ae,hds,hdl,cV,en,toNat_one,bg,hxd,hyd,sg]
    refine⟨fun hx2=>?_,fun hx2=>?_⟩
    ·refine⟨by omega,by omega,?_⟩
     refine ai iy ?_
     simp only[↓zq,zs,ae,iv]
     refine⟨by omega,by omega,?_⟩
     refine ai iz ?_
     have hb:=bin 42 Ty.times (fun _ _=>rfl) hx2
     rw[jP ar hx2]
     simp only[↓zq,zs,ae,zt,iv]
     cases h1:cT y ar with
     |none=>simp[ib,jL]
     |
      some t =>
      cases h2:cT z ar with
      |none=>simp[ib,jL,fO]
      |
       some u =>
       simp only[ib,fO,hb]
       refine⟨fun h=>(by cases h),fun _=>⟨fun h=>(by cases h),fun _=>⟨by omega,by omega,hxl,⟨by omega,by rw[hx2];simp⟩,rfl⟩⟩⟩
    ·refine ai (xI (.list [x,y,z]) [114,101,99]) ?_
     simp only[↓zq,zs,ae,zt,hds,hdl,cV,en,toNat_one,bg,hxd,hyd,sg]
     refine⟨fun hx3=>⟨by omega,by omega,hyl,?_⟩,fun hx3=>?_⟩
     ·refine ai (DL y.at) ?_
      rw[mw ar hx3]
      simp only[↓zq,zs,ae]
      have hal:cC 1 a.elems:=by rw[ha.2];exact ke ar
      have hal1:cC 1 [[AV.v (.string (mk y.at))]]:=fun c hc=>by simp at hc;rw[hc];rfl
      refine⟨fun hlo=>⟨by omega,by omega,⟨ha.1,hal,by rw[ha.len];omega⟩,by omega,by omega,hyl,⟨hal1,by rw[aT,ha.len];omega⟩,?_⟩,fun hlo=>?_⟩
      ·rw[aT,ha.2,E3,if_pos hlo]
       refine ai (Dt z (ar++[y.at]) _ ok3 (.of _) (by simp;omega)) ?_
       simp only[↓zq,zs,ae,iv]
       cases h2:cT z (ar++[y.at])with
       |none=>simp[ib,jL]
       |
        some u =>
        simp only[ib,fO]
        refine⟨fun h=>(by cases h),fun _=>rfl⟩
      ·rw[if_neg (by rw[hlo];simp)];rfl
     ·rw[je ar hx hx2 hx3];rfl
  |
   [],_,_ =>
   simp only[↓zq,zs,ae]
   refine⟨fun h=>(by cases h),fun _=>?_⟩
   refine ai (xI (.list []) [42]) ?_
   simp only[↓zq,zs,ae]
   refine⟨fun h=>(by cases h),fun _=>?_⟩
   refine ai (xI (.list []) [114,101,99]) ?_
   simp only[↓zq,zs,ae]
   refine⟨fun h=>(by cases h),fun _=>?_⟩
   rfl
  |
   [x1],_,_ =>
   simp only[↓zq,zs,ae]
   refine⟨fun h=>(by cases h),fun _=>?_⟩
   refine ai (xI (.list [x1]) [42]) ?_
   simp only[↓zq,zs,ae]
   refine⟨fun h=>(by cases h),fun _=>?_⟩
   refine ai (xI (.list [x1]) [114,101,99]) ?_
   simp only[↓zq,zs,ae]
   refine⟨fun h=>(by cases h),fun _=>?_⟩
   rfl
  |
   [x1,x2],_,_ =>
   simp only[↓zq,zs,ae]
   refine⟨fun h=>(by cases h),fun _=>?_⟩
   refine ai (xI (.list [x1,x2]) [42]) ?_
   simp only[↓zq,zs,ae]
   refine⟨fun h=>(by cases h),fun _=>?_⟩
   refine ai (xI (.list [x1,x2]) [114,101,99]) ?_
   simp only[↓zq,zs,ae]
   refine⟨fun h=>(by cases h),fun _=>?_⟩
   rfl
  |
   x1::x2::x3::x4::l,_,_ =>
   simp only[↓zq,zs,ae]
   refine⟨fun h=>(by cases h),fun _=>?_⟩
   refine ai (xI (.list (x1::x2::x3::x4::l)) [42]) ?_
   simp only[↓zq,zs,ae]
   refine⟨fun h=>(by cases h),fun _=>?_⟩
   refine ai (xI (.list (x1::x2::x3::x4::l)) [114,101,99]) ?_
   simp only[↓zq,zs,ae]
   refine⟨fun h=>(by cases h),fun _=>?_⟩
   rfl
end Go.Proofs.Trees
namespace Go.Proofs.Trees
open Go Go.VL
def dq(v:AV)(obs:List Ob):AV->List Ob->Prop:=fun r o=>r=v/\o=obs
theorem aV{P:Program}{n:Nat}{Q:Nat->List AV->List Ob->Prop}{f:Nat}{xs:List AV}{ins:List Ob}{k:AV->List Ob->Tree}{v:AV}{obs:List Ob}(h:an P f xs ins (dq v obs))(hk:eZ P n (k v obs) Q):eZ P n (.call f xs ins k) Q :=
 ⟨dq v obs,h,⟨v,obs,rfl,rfl⟩,fun r o ⟨h1,h2⟩=>by rw[h1,h2];exact hk⟩
def Ty.atoms:Ty->Nat
 | .plus a b=>1+a.atoms+b.atoms
 | .times a b=>1+a.atoms+b.atoms
 | .rc a=>2+a.atoms
 |_=>1
theorem ES:∀(t:Ty),t.atoms<1000000->an Tryz.prog 131 [t.av] [] (bJ (.v (.int .i64 (t.atoms:Int))))
 | .zero,h=>by refine wP _ ((aE _).mpr trivial) ?_;simp[Fb,Ty.av,↓zq,zs,ae,bJ,Ty.atoms]
 | .one,h=>by refine wP _ ((aE _).mpr trivial) ?_;simp[Fb,Ty.av,↓zq,zs,ae,bJ,Ty.atoms]
 | .name s,h=>by refine wP _ ((aE _).mpr trivial) ?_;simp[Fb,Ty.av,↓zq,zs,ae,bJ,Ty.atoms]
 | .bound u,h=>by refine wP _ ((aE _).mpr trivial) ?_;simp[Fb,Ty.av,↓zq,zs,ae,bJ,Ty.atoms]
 |
  .plus a b,h=>by
  simp only[Ty.atoms]at h
  refine wP _ ((aE _).mpr trivial) ?_
  simp only[Fb,Ty.av,↓zq,zs,ae,aE]
  refine⟨by omega,fun _=>⟨by omega,?_⟩,fun h=>absurd rfl h⟩
  refine ai (ES a (by omega)) ?_
  simp only[↓zq,zs,ae,aE]
  refine⟨by omega,?_⟩
  refine ai (ES b (by omega)) ?_
  simp only[↓zq,zs,ae,bJ,Ty.atoms]
  rw[wrap64 (1+(a.atoms:Int)) (by omega) (by omega),wrap64 _ (by omega) (by omega)]
  congr 2
 |
  .times a b,h=>by
  simp only[Ty.atoms]at h
  refine wP _ ((aE _).mpr trivial) ?_
  simp only[Fb,Ty.av,↓zq,zs,ae,aE]
  refine⟨by omega,fun h=>by omega,fun _=>⟨fun _=>⟨by omega,?_⟩,fun h=>absurd rfl h⟩⟩
  refine ai (ES a (by omega)) ?_
  simp only[↓zq,zs,ae,aE]
  refine⟨by omega,?_⟩
  refine ai (ES b (by omega)) ?_
  simp only[↓zq,zs,ae,bJ,Ty.atoms]
  rw[wrap64 (1+(a.atoms:Int)) (by omega) (by omega),wrap64 _ (by omega) (by omega)]
  congr 2
 |
  .rc a,h=>by
  simp only[Ty.atoms]at h
  refine wP _ ((aE _).mpr trivial) ?_
  simp only[Fb,Ty.av,↓zq,zs,ae,aE]
  refine⟨by omega,fun h=>by omega,fun _=>⟨fun h=>by omega,fun _=>⟨fun _=>⟨by omega,?_⟩,fun h=>absurd rfl h⟩⟩⟩
  refine ai (ES a (by omega)) ?_
  simp only[↓zq,zs,ae,bJ,Ty.atoms]
  rw[wrap64 _ (by omega) (by omega)]
  congr 2
theorem iV:∀(e:E) (ar:List (List UInt8)) (t:Ty),cT e ar=some t->t.atoms<=e.sz
 |
  .atom s,ar,t,h=>by
  simp only[cT]at h
  simp only[E.sz]
  split at h
  ·cases h;simp[Ty.atoms]
  ·split at h
   ·cases h;simp[Ty.atoms]
   ·split at h
    ·cases h;simp[Ty.atoms]
    ·split at h
     ·split at h<;>cases h<;>simp[Ty.atoms]
     ·cases h
 |
  .list [x,a,b],ar,t,h=>by
  have hs:∀e:E,1<=e.sz:=fun e=>by cases e<;>simp[E.sz];try omega
  have hx:=hs x
  have ha:=hs a
  simp only[E.sz,E.jt]
  by_cases h1:x.at=[43]
  ·rw[lu ar h1]at h
   split at h
   ·rename_i t1 t2 e1 e2
    cases h
    have:=iV a ar t1 e1
    have:=iV b ar t2 e2
    simp only[Ty.atoms];omega
   ·cases h
  ·by_cases h2:x.at=[42]
   ·rw[jP ar h2]at h
    split at h
    ·rename_i t1 t2 e1 e2
     cases h
     have:=iV a ar t1 e1
     have:=iV b ar t2 e2
     simp only[Ty.atoms];omega
    ·cases h
   ·by_cases h3:x.at=[114,101,99]
    ·rw[mw ar h3]at h
     split at h
     ·split at h
      ·rename_i t1 e1
       cases h
       have:=iV b _ t1 e1
       simp only[Ty.atoms];omega
      ·cases h
     ·cases h
    ·rw[je ar h1 h2 h3]at h;cases h
 | .list [],_,_,h=>by cases h
 | .list [_],_,_,h=>by cases h
 | .list [_,_],_,_,h=>by cases h
 | .list (_::_::_::_::_),_,_,h=>by cases h
def qJ(s:List UInt8):Option Ty:=match qO s with
 |none=>none
 |
  some e=>match cT e []with
  |none=>none
  |some t=>if t.atoms>400 then none else some t
theorem Ie(s:List UInt8):an Tryz.prog 96 [.v (.string (mk s))] [] (bJ (ib (qJ s))):=by
 refine QK _ ?_
 unfold KC
 refine ai (L4 s) ?_
 unfold qJ
 cases he:qO s with
 |none=>simp only[uH,↓zq,zs,ae,bJ,ib];simp
 |
  some e =>
  obtain⟨h1,h2⟩:=nM he
  simp only[uH,↓zq,zs,ae,cV,en]
  refine⟨fun h=>(by cases h),fun _=>?_⟩
  refine ai (Dt e [] _ h1 .nil (by simp;omega)) ?_
  cases ht:cT e []with
  |none=>simp only[ib,↓zq,zs,ae,bJ];simp
  |
   some t =>
   have:=iV e [] t ht
   simp only[ib,↓zq,zs,ae,aE,fO]
   refine⟨fun h=>(by cases h),fun _=>?_⟩
   refine ai (ES t (by omega)) ?_
   simp only[↓zq,zs,ae,bJ]
   refine⟨fun h=>?_,fun h=>?_⟩
   ·rw[if_pos (by omega)]
   ·rw[if_neg (by omega)]
end Go.Proofs.Trees
namespace Go.Proofs.Trees
open Go Go.VL
def B9(p:Prop):Nat->List AV->List Ob->Prop:=fun t ys o=>(t=1/\¬p/\ys=[]/\o=[])\/(t=2/\p/\∃j:Nat,ys=[.v (.int .i64 (j:Int))]/\o=[])
theorem OG(l:List (List UInt8))(a:AV)(ha:cm a l)(s:List UInt8)(hl:l.length<1000000):∀(k i:Nat),i+k=l.length->s∉l.take i->Gi [a,.v (.string (mk s)),.v (.int .i64 (l.length:Int)),.v (.int .i64 (i:Int))] []
 (B9 (s∈l))
 |
  0,i,hi,hn=>by
  refine Ko _ _ _ _ ?_
  simp only[H6,↓zq,zs,ae]
  have:l.take i=l:=List.take_of_length_le (by omega)
  rw[this]at hn
  exact⟨ha.1,fun h=>by omega,fun _=>.inl ⟨rfl,hn,rfl,rfl⟩⟩
 |
  k+1,i,hi,hn=>by
  have hlt:i<l.length:=by omega
  refine Ko _ _ _ _ ?_
  simp only[H6,↓zq,zs,ae,zt,ha.len,ha.idx hlt]
  have hm:l.getD i []∈l:=by simp[aa,hlt]
  refine⟨ha.1,fun _=>⟨⟨ha.1,by omega,by omega⟩,by omega,fun h=>?_,fun h=>?_⟩,fun h=>by omega⟩
  ·exact .inr ⟨rfl,by rw[h];exact hm,i,rfl,rfl⟩
  ·rw[bA i (by omega)]
   refine OG l a ha s hl k (i+1) (by omega) ?_
   rw[List.take_add_one]
   simp only[aN,not_or]
   refine⟨hn,?_⟩
   have:l[i]?=some (l.getD i []):=by simp[aa,hlt]
   rw[this];simpa using h
theorem JK(l:List (List UInt8))(a:AV)(ha:cm a l)(s:List UInt8)(hl:l.length<1000000):an Tryz.prog 156 [a,.v (.string (mk s))] [] (bJ (.v (.bool (decide (s∈l))))):=by
 have hI:an Tryz.prog 167 [a,.v (.string (mk s))] [] (fun r o=>∃n:Int,r=.v (.int .i64 n)/\(0<=n↔s∈l)/\o=[]):=by
  refine PE _ _ ha.1 ?_
  simp only[M5,↓zq,zs,ae,ha.len]
  refine⟨ha.1,kW (OG l a ha s hl l.length 0 (by omega) (by simp)) ?_ ?_⟩
  ·rintro ys o (⟨_,h1,rfl,rfl⟩|⟨h,_⟩)
   ·simp only[↓zq,zs,ae]
    exact⟨-1,rfl,⟨fun h=>(by omega),fun h=>absurd h h1⟩⟩
   ·cases h
  ·rintro ys o (⟨h,_⟩|⟨_,h1,j,rfl,rfl⟩)
   ·cases h
   ·simp only[↓zq,zs,ae]
    exact⟨j,rfl,⟨fun _=>h1,fun _=>(by omega)⟩⟩
 refine Ry _ _ ha.1 ?_
 unfold Jk
 refine aP hI ⟨.v (.int .i64 (if s∈l then 0 else -1)),[],_,rfl,by split<;>simp_all,rfl⟩ ?_
 rintro r o ⟨n,rfl,hn,rfl⟩
 simp only[↓zq,zs,ae,bJ]
 congr 2
 rw[cy];simp[hn]
def pD(out:List (List UInt8)):Ty->List (List UInt8)
 | .name s=>if s∈out then out else out++[s]
 |_=>out
theorem IG(t:Ty)(out:List (List UInt8))(hl:out.length<100000):an Tryz.prog 166 [t.av,.ref 0 0] [.cells [.vec 1],.vec 1 (bH out)] (dq .any [.cells [.vec 1],.vec 1 (bH (pD out t))]):=by
 refine R8 _ _ ((aE _).mpr trivial) ?_
 have hlen:(bH out).length=out.length:=by simp[bH]
 cases t with
 |
  name s =>
  simp only[Fm,Ty.av,↓zq,zs,ae,dq,hlen]
  refine⟨by omega,fun _=>⟨by omega,?_⟩,fun h=>absurd rfl h⟩
  refine ai (JK out _ (.of out) s (by omega)) ?_
  simp only[↓zq,zs,ae,pD]
  refine⟨fun h=>⟨by omega,⟨fun c hc=>(by simp at hc;rw[hc];rfl),by omega⟩,?_⟩,fun h=>?_⟩
  ·rw[E3,if_neg h]
  ·rw[if_pos h]
 |_=>simp[Fm,Ty.av,↓zq,zs,ae,dq,pD]
def bO:Ty->List (List UInt8)->List (List UInt8)
 | .name s,out=>pD out (.name s)
 | .plus a b,out=>bO b (bO a out)
 | .times a b,out=>bO b (bO a out)
 | .rc a,out=>bO a out
 |_,out=>out
theorem eB:∀(t:Ty) (out:List (List UInt8)),(bO t out).length<=out.length+t.atoms
 | .name s,out=>by simp only[bO,pD,Ty.atoms];split<;>simp
 |
  .plus a b,out=>by
  have:=eB a out
  have:=eB b (bO a out)
  simp only[bO,Ty.atoms];omega
 |
  .times a b,out=>by
  have:=eB a out
  have:=eB b (bO a out)
  simp only[bO,Ty.atoms];omega
 |
  .rc a,out=>by
  have:=eB a out
  simp only[bO,Ty.atoms];omega
 | .zero,out=>by simp[bO]
 | .one,out=>by simp[bO]
 | .bound u,out=>by simp[bO]
theorem zC:∀(t:Ty) (out:List (List UInt8)),out.length+t.atoms<100000->an Tryz.prog 165 [t.av,.fn 166 [.ref 0 0]] [.cells [.vec 1],.vec 1 (bH out)] (dq .any [.cells [.vec 1],.vec 1 (bH (bO t out))])
 |
  .plus a b,out,hl=>by
  simp only[Ty.atoms]at hl
  have:=eB a out
  refine w9 _ _ ((aE _).mpr trivial) ?_
  unfold EJ
  refine aV (IG (.plus a b) out (by omega)) ?_
  simp only[Ty.av,↓zq,zs,ae,aE,fO,pD,aI,dq]
  refine⟨by omega,fun _=>⟨by omega,?_⟩,fun h=>(by cases h)⟩
  refine aV (zC a out (by omega)) ?_
  simp only[↓zq,zs,ae,aE,fO,aI]
  refine⟨by omega,fun _=>⟨by omega,?_⟩,fun h=>(by cases h)⟩
  refine aV (zC b (bO a out) (by omega)) ?_
  simp only[↓zq,zs,ae,aI,bO]
 |
  .times a b,out,hl=>by
  simp only[Ty.atoms]at hl
  have:=eB a out
  refine w9 _ _ ((aE _).mpr trivial) ?_
  unfold EJ
  refine aV (IG (.times a b) out (by omega)) ?_
  simp only[Ty.av,↓zq,zs,ae,aE,fO,pD,aI,dq]
  refine⟨by omega,fun _=>⟨by omega,?_⟩,fun h=>(by cases h)⟩
  refine aV (zC a out (by omega)) ?_
  simp only[↓zq,zs,ae,aE,fO,aI]
  refine⟨by omega,fun _=>⟨by omega,?_⟩,fun h=>(by cases h)⟩
  refine aV (zC b (bO a out) (by omega)) ?_
  simp only[↓zq,zs,ae,aI,bO]
 |
  .rc a,out,hl=>by
  simp only[Ty.atoms]at hl
  refine w9 _ _ ((aE _).mpr trivial) ?_
  unfold EJ
  refine aV (IG (.rc a) out (by omega)) ?_
  simp only[Ty.av,↓zq,zs,ae,aE,fO,pD,aI,dq]
  refine⟨by omega,fun _=>⟨by omega,?_⟩,fun h=>(by cases h)⟩
  refine aV (zC a out (by omega)) ?_
  simp[↓zq,zs,ae,aE,fO,aI,bO]
 |
  .name s,out,hl=>by
  refine w9 _ _ ((aE _).mpr trivial) ?_
  unfold EJ
  refine aV (IG (.name s) out (by omega)) ?_
  simp[Ty.av,↓zq,zs,ae,aI,dq,bO]
 |
  .zero,out,hl=>by
  refine w9 _ _ ((aE _).mpr trivial) ?_
  unfold EJ
  refine aV (IG .zero out (by omega)) ?_
  simp[Ty.av,↓zq,zs,ae,aI,dq,bO,pD]
 |
  .one,out,hl=>by
  refine w9 _ _ ((aE _).mpr trivial) ?_
  unfold EJ
  refine aV (IG .one out (by omega)) ?_
  simp[Ty.av,↓zq,zs,ae,aI,dq,bO,pD]
 |
  .bound u,out,hl=>by
  refine w9 _ _ ((aE _).mpr trivial) ?_
  unfold EJ
  refine aV (IG (.bound u) out (by omega)) ?_
  simp[Ty.av,↓zq,zs,ae,aI,dq,bO,pD]
theorem No(t:Ty)(hl:t.atoms<100000):an Tryz.prog 154 [t.av] [] (bJ (.sl (bH (bO t [])))):=by
 refine Qa _ ((aE _).mpr trivial) ?_
 unfold I7
 refine aV (zC t [] (by simpa using hl)) ?_
 simp[↓zq,zs,ae,aI,bJ]
theorem MZ(l:List (List UInt8))(a:AV)(ha:cm a l)(hl:l.length<1000000):∀(k i:Nat),i+k=l.length->(∀s,s∈l.take i->dm s=false)->G4 [a,.v (.func (.func 150) #[] #[]),.v (.int .i64 (l.length:Int)),.v (.int .i64 (i:Int))] []
 (B9 (l.any dm=true))
 |
  0,i,hi,hn=>by
  refine MT _ _ _ ?_
  simp only[Iv,↓zq,zs,ae]
  have:l.take i=l:=List.take_of_length_le (by omega)
  rw[this]at hn
  exact⟨ha.1,fun h=>by omega,fun _=>.inl ⟨rfl,fun hh=>(by obtain⟨x,hx,hy⟩:=cu.1 hh;rw[hn x hx]at hy;cases hy),rfl,rfl⟩⟩
 |
  k+1,i,hi,hn=>by
  have hlt:i<l.length:=by omega
  refine MT _ _ _ ?_
  simp only[Iv,↓zq,zs,ae,zt,ha.len,ha.idx hlt]
  have hm:l.getD i []∈l:=by simp[aa,hlt]
  refine⟨ha.1,fun _=>⟨⟨ha.1,by omega,by omega⟩,by omega,?_⟩,fun h=>by omega⟩
  refine ai (DL _) ?_
  simp only[↓zq,zs,ae]
  refine⟨fun h=>?_,fun h=>?_⟩
  ·exact .inr ⟨rfl,cu.2 ⟨_,hm,h⟩,i,rfl,rfl⟩
  ·rw[bA i (by omega)]
   refine MZ l a ha hl k (i+1) (by omega) ?_
   intro s hs
   rw[List.take_add_one]at hs
   have:l[i]?=some (l.getD i []):=by simp[aa,hlt]
   rw[this]at hs
   rcases aN.1 hs with hs|hs
   ·exact hn s hs
   ·simp at hs;rw[hs];simpa using h
theorem QN(l:List (List UInt8))(a:AV)(ha:cm a l)(hl:l.length<1000000):an Tryz.prog 157 [a,.v (.func (.func 150) #[] #[])] [] (bJ (.v (.bool (l.any dm)))):=by
 have hI:an Tryz.prog 168 [a,.v (.func (.func 150) #[] #[])] [] (fun r o=>∃n:Int,r=.v (.int .i64 n)/\(0<=n↔l.any dm=true)/\o=[]):=by
  refine Su _ ha.1 ?_
  simp only[Ov,↓zq,zs,ae,ha.len]
  refine⟨ha.1,kW (MZ l a ha hl l.length 0 (by omega) (by simp)) ?_ ?_⟩
  ·rintro ys o (⟨_,h1,rfl,rfl⟩|⟨h,_⟩)
   ·simp only[↓zq,zs,ae]
    exact⟨-1,rfl,⟨fun h=>(by omega),fun h=>absurd h h1⟩⟩
   ·cases h
  ·rintro ys o (⟨h,_⟩|⟨_,h1,j,rfl,rfl⟩)
   ·cases h
   ·simp only[↓zq,zs,ae]
    exact⟨j,rfl,⟨fun _=>h1,fun _=>(by omega)⟩⟩
 refine RI _ ha.1 ?_
 unfold KF
 refine aP hI ⟨.v (.int .i64 (if l.any dm=true then 0 else -1)),[],_,rfl,by split<;>simp_all,rfl⟩ ?_
 rintro r o ⟨n,rfl,hn,rfl⟩
 simp only[↓zq,zs,ae,bJ]
 congr 2
 rw[cy];simp only[decide_eq_true_eq,ge_iff_le,hn]
def Ty.closed(t:Ty):Bool:=!((bO t []).any dm)
theorem QD(t:Ty)(hl:t.atoms<100000):an Tryz.prog 138 [t.av] [] (bJ (.v (.bool t.closed))):=by
 refine RM _ ((aE _).mpr trivial) ?_
 unfold K9
 refine ai (No t hl) ?_
 simp only[↓zq,zs,ae]
 have:=eB t []
 refine ai (QN _ _ (.of _) (by simp at this;omega)) ?_
 simp only[↓zq,zs,ae,bJ,Ty.closed]
def wO(s:List UInt8):Option Ty:=match qJ s with
 |none=>none
 |some t=>if t.closed=true then some t else none
theorem sP{s:List UInt8}{t:Ty}(h:qJ s=some t):t.atoms<=400:=by
 unfold qJ at h
 split at h
 ·cases h
 ·split at h
  ·cases h
  ·split at h<;>cases h
   omega
theorem M6(s:List UInt8):an Tryz.prog 99 [.v (.string (mk s))] [] (bJ (ib (wO s))):=by
 refine PC _ ?_
 unfold Mh
 refine ai (Ie s) ?_
 unfold wO
 cases ht:qJ s with
 |none=>simp[ib,↓zq,zs,ae,bJ]
 |
  some t =>
  have:=sP ht
  simp only[ib,↓zq,zs,ae,aE,fO]
  refine⟨fun h=>(by cases h),fun _=>?_⟩
  refine ai (QD t (by omega)) ?_
  simp only[↓zq,zs,ae,bJ]
  refine⟨fun h=>?_,fun h=>?_⟩
  ·rw[if_neg (by rw[h];simp)]
  ·rw[if_pos h]
theorem dx(l:List (List UInt8)):∀x,x∈[Ob.vec 1 (bH l)]->ez x:=by
 intro x hx
 simp only[aU]at hx
 subst hx
 intro e he c hc
 simp only[bH,bQ]at he
 obtain⟨k,_,rfl⟩:=he
 simp only[aU]at hc
 exact⟨_,hc⟩
end Go.Proofs.Trees
namespace Go.Proofs.Trees
open Go Go.VL Go.RowKit
abbrev Nm:=List UInt8
def dC(u:Ty):Ty->Nat->Ty
 | .bound k,i=>if k=i then u else .bound k
 | .plus a b,i=>.plus (dC u a i) (dC u b i)
 | .times a b,i=>.times (dC u a i) (dC u b i)
 | .rc a,i=>.rc (dC u a (i+1))
 |t,_=>t
def sub(x:Nm)(u:Ty):Ty->Ty
 | .name s=>if s=x then u else .name s
 | .plus a b=>.plus (sub x u a) (sub x u b)
 | .times a b=>.times (sub x u a) (sub x u b)
 | .rc a=>.rc (sub x u a)
 |t=>t
def bn(x:Nm):Ty->Bool
 | .name s=>decide (s=x)
 | .plus a b=>bn x a||bn x b
 | .times a b=>bn x a||bn x b
 | .rc a=>bn x a
 |_=>false
def jM(f:Nm->Nm):Ty->Ty
 | .name s=>.name (f s)
 | .plus a b=>.plus (jM f a) (jM f b)
 | .times a b=>.times (jM f a) (jM f b)
 | .rc a=>.rc (jM f a)
 |t=>t
def Ln(f:Nm->Nm):Prop:=∀x y,f x=f y->x=y
theorem lZ(f:Nm->Nm)(x:Nm):∀(t:Ty) (i:Nat),jM f (dC (.name x) t i)=dC (.name (f x)) (jM f t) i
 | .bound k,i=>by simp only[dC,jM];split<;>rfl
 | .plus a b,i=>by simp only[dC,jM,lZ f x a i,lZ f x b i]
 | .times a b,i=>by simp only[dC,jM,lZ f x a i,lZ f x b i]
 | .rc a,i=>by simp only[dC,jM,lZ f x a (i+1)]
 | .zero,i=>rfl
 | .one,i=>rfl
 | .name s,i=>rfl
theorem lI{f:Nm->Nm}(hf:Ln f)(x:Nm)(u:Ty):∀t:Ty,jM f (sub x u t)=sub (f x) (jM f u) (jM f t)
 |
  .name s=>by
  simp only[sub,jM]
  by_cases h:s=x
  ·subst h;simp
  ·rw[if_neg h,if_neg fun e=>h (hf _ _ e)];rfl
 | .plus a b=>by simp only[sub,jM,lI hf x u a,lI hf x u b]
 | .times a b=>by simp only[sub,jM,lI hf x u a,lI hf x u b]
 | .rc a=>by simp only[sub,jM,lI hf x u a]
 | .zero=>rfl
 | .one=>rfl
 | .bound k=>rfl
theorem ni{f:Nm->Nm}(hf:Ln f)(x:Nm):∀t:Ty,bn (f x) (jM f t)=bn x t
 | .name s=>by simp only[bn,jM];rw[cy];simp only[decide_eq_true_eq];exact⟨fun e=>hf _ _ e,fun e=>by rw[e]⟩
 | .plus a b=>by simp only[bn,jM,ni hf x a,ni hf x b]
 | .times a b=>by simp only[bn,jM,ni hf x a,ni hf x b]
 | .rc a=>by simp only[bn,jM,ni hf x a]
 | .zero=>rfl
 | .one=>rfl
 | .bound k=>rfl
theorem gO(f:Nm->Nm):∀t:Ty,(jM f t).atoms=t.atoms
 | .plus a b=>by simp only[Ty.atoms,jM,gO f a,gO f b]
 | .times a b=>by simp only[Ty.atoms,jM,gO f a,gO f b]
 | .rc a=>by simp only[Ty.atoms,jM,gO f a]
 | .name s=>rfl
 | .zero=>rfl
 | .one=>rfl
 | .bound k=>rfl
theorem pX{f:Nm->Nm}:∀t:Ty,(∀x,bn x t=true->f x=x)->jM f t=t
 | .name s,h=>by simp only[jM];rw[h s (by simp[bn])]
 | .plus a b,h=>by simp only[jM];rw[pX a fun x hx=>h x (by simp[bn,hx]),pX b fun x hx=>h x (by simp[bn,hx])]
 | .times a b,h=>by simp only[jM];rw[pX a fun x hx=>h x (by simp[bn,hx]),pX b fun x hx=>h x (by simp[bn,hx])]
 | .rc a,h=>by simp only[jM];rw[pX a fun x hx=>h x hx]
 | .zero,_=>rfl
 | .one,_=>rfl
 | .bound k,_=>rfl
theorem fK(x:Nm):∀(t:Ty) (i:Nat),(dC (.name x) t i).atoms=t.atoms
 | .bound k,i=>by simp only[dC];split<;>rfl
 | .plus a b,i=>by simp only[dC,Ty.atoms,fK x a i,fK x b i]
 | .times a b,i=>by simp only[dC,Ty.atoms,fK x a i,fK x b i]
 | .rc a,i=>by simp only[dC,Ty.atoms,fK x a (i+1)]
 | .zero,i=>rfl
 | .one,i=>rfl
 | .name s,i=>rfl
theorem er(t:Ty):1<=t.atoms:=by cases t<;>simp only[Ty.atoms]<;>omega
theorem hG(x:Nm)(u:Ty):∀t:Ty,t.atoms<=(sub x u t).atoms
 | .name s=>by simp only[sub];split<;>simp only[Ty.atoms];exact er u;omega
 | .plus a b=>by have:=hG x u a;have:=hG x u b;simp only[sub,Ty.atoms];omega
 | .times a b=>by have:=hG x u a;have:=hG x u b;simp only[sub,Ty.atoms];omega
 | .rc a=>by have:=hG x u a;simp only[sub,Ty.atoms];omega
 | .zero=>au _
 | .one=>au _
 | .bound k=>au _
theorem gx{x y:Nm}:∀(t:Ty) (i:Nat),bn y (dC (.name x) t i)=true->y=x\/bn y t=true
 |
  .bound k,i,h=>by
  simp only[dC]at h
  split at h
  ·left;simp only[bn,decide_eq_true_eq]at h;exact h.symm
  ·cases h
 |
  .plus a b,i,h=>by
  simp only[dC,bn,bC]at h |-
  rcases h with h|h
  ·rcases gx a i h with h|h<;>simp[h]
  ·rcases gx b i h with h|h<;>simp[h]
 |
  .times a b,i,h=>by
  simp only[dC,bn,bC]at h |-
  rcases h with h|h
  ·rcases gx a i h with h|h<;>simp[h]
  ·rcases gx b i h with h|h<;>simp[h]
 | .rc a,i,h=>gx a (i+1) h
 | .zero,i,h=>by cases h
 | .one,i,h=>by cases h
 | .name s,i,h=>.inr h
theorem jb{x y:Nm}{u:Ty}:∀t:Ty,bn y (sub x u t)=true->bn y u=true\/(y≠x/\bn y t=true)
 |
  .name s,h=>by
  simp only[sub]at h
  split at h
  ·exact .inl h
  ·rename_i hs
   simp only[bn,decide_eq_true_eq]at h
   subst h
   exact .inr ⟨hs,by simp[bn]⟩
 |
  .plus a b,h=>by
  simp only[sub,bn,bC]at h |-
  rcases h with h|h
  ·rcases jb a h with h|h<;>simp[h]
  ·rcases jb b h with h|h<;>simp[h]
 |
  .times a b,h=>by
  simp only[sub,bn,bC]at h |-
  rcases h with h|h
  ·rcases jb a h with h|h<;>simp[h]
  ·rcases jb b h with h|h<;>simp[h]
 |
  .rc a,h=>by
  simp only[sub,bn]at h |-
  exact jb a h
 | .zero,h=>by cases h
 | .one,h=>by cases h
 | .bound k,h=>by cases h
def swp(x y:Nm):Nm->Nm:=fun s=>if s=x then y else if s=y then x else s
theorem yG(x y:Nm):Ln (swp x y):=by
 intro a b h
 unfold swp at h
 by_cases h1:a=x<;>by_cases h2:a=y<;>by_cases h3:b=x<;>by_cases h4:b=y<;>simp_all
theorem wa(x y:Nm):swp x y x=y:=by simp[swp]
theorem BE{x y s:Nm}(h:s≠x)(h':s≠y):swp x y s=s:=by simp[swp,h,h']
theorem ue{x y:Nm}{t:Ty}(h:bn x t=false)(h':bn y t=false):jM (swp x y) t=t :=
 pX t fun z hz=>BE (fun e=>by subst e;rw[h]at hz;cases hz) (fun e=>by subst e;rw[h']at hz;cases hz)
def pV(a:Ty)(x:Nm)(c d:Ty):Ty:=.rc (.plus (sub x (.rc a) c) (.times (sub x (.rc a) d) (.bound 0)))
inductive Dv:Ty->Nm->Ty->Prop
 |zero (s):Dv .zero s .zero
 |one (s):Dv .one s .zero
 |bound (k s):Dv (.bound k) s .zero
 |hit (s):Dv (.name s) s .one
 |qx {n s} (h:n≠s):Dv (.name n) s .zero
 |plus {a b s a' b'} (h1:Dv a s a') (h2:Dv b s b') (hl:(Ty.plus a' b').atoms<=400):Dv (.plus a b) s (.plus a' b')
 |times {a b s a' b'} (h1:Dv a s a') (h2:Dv b s b') (hl:(Ty.plus (.times a' b) (.times a b')).atoms<=400):Dv (.times a b) s (.plus (.times a' b) (.times a b'))
 |rc {a s c d} (x:Nm) (hx:bn x a=false) (hs:x≠s) (h1:Dv (dC (.name x) a 0) s c) (h2:Dv (dC (.name x) a 0) x d) (hl:(pV a x c d).atoms<=400):Dv (.rc a) s (pV a x c d)
theorem zl{f:Nm->Nm}(hf:Ln f)(a:Ty)(x:Nm)(c d:Ty):jM f (pV a x c d)=pV (jM f a) (f x) (jM f c) (jM f d):=by
 simp only[pV,jM,lI hf]
theorem Dv.jM{f:Nm->Nm}(hf:Ln f){t d:Ty}{s:Nm}(h:Dv t s d):Dv (jM f t) (f s) (jM f d):=by
 induction h with
 |zero s=>exact .zero _
 |one s=>exact .one _
 |bound k s=>exact .bound _ _
 |hit s=>exact .hit _
 |qx h=>exact .qx fun e=>h (hf _ _ e)
 |plus h1 h2 hl i1 i2=>exact .plus i1 i2 (by rw[<-gO f]at hl;exact hl)
 |times h1 h2 hl i1 i2=>exact .times i1 i2 (by rw[<-gO f]at hl;exact hl)
 |
  rc x hx hs h1 h2 hl i1 i2 =>
  rw[zl hf]
  rw[lZ]at i1 i2
  exact .rc (f x) (by rw[ni hf];exact hx) (fun e=>hs (hf _ _ e)) i1 i2 (by rw[<-zl hf,gO];exact hl)
theorem Dv.names{t d:Ty}{s:Nm}(h:Dv t s d):∀y,bn y d=true->bn y t=true:=by
 induction h with
 |zero s=>intro y hy;cases hy
 |one s=>intro y hy;cases hy
 |bound k s=>intro y hy;cases hy
 |hit s=>intro y hy;cases hy
 |qx h=>intro y hy;cases hy
 |
  plus h1 h2 hl i1 i2 =>
  intro y hy
  simp only[bn,bC]at hy |-
  rcases hy with hy|hy
  ·exact .inl (i1 y hy)
  ·exact .inr (i2 y hy)
 |
  times h1 h2 hl i1 i2 =>
  intro y hy
  simp only[bn,bC]at hy |-
  rcases hy with(hy|hy)|(hy|hy)
  ·exact .inl (i1 y hy)
  ·exact .inr hy
  ·exact .inl hy
  ·exact .inr (i2 y hy)
 |
  rc x hx hs h1 h2 hl i1 i2 =>
  intro y hy
  simp only[pV,bn,bC,Bool.or_false]at hy |-
  have key:∀{a c:Ty},(∀y,bn y c=true->bn y (dC (.name x) a 0)=true)->bn y (sub x (.rc a) c)=true->bn y a=true:=fun i h=>by
   rcases jb _ h with h|⟨h,h'⟩
   ·exact h
   ·rcases gx _ _ (i y h')with e|e
    ·exact absurd e h
    ·exact e
  rcases hy with hy|hy
  ·exact key i1 hy
  ·exact key i2 hy
theorem Dv.fresh{t d:Ty}{s y:Nm}(h:Dv t s d)(hy:bn y t=false):bn y d=false:=by
 cases e:bn y d with
 |false=>rfl
 |true=>rw[h.names y e]at hy;cases hy
theorem Dv.move{a c:Ty}{x y s:Nm}(hx:bn x a=false)(hy:bn y a=false)(h:Dv (dC (.name x) a 0) s c):Dv (dC (.name y) a 0) (swp x y s) (Go.Proofs.Trees.jM (swp x y) c):=by
 have:=h.jM (yG x y)
 rw[lZ,wa,ue hx hy]at this
 exact this
theorem mN{a c:Ty}{x y s:Nm}(hx:bn x a=false)(hy:bn y a=false)(h:Dv (dC (.name x) a 0) s c):sub y (.rc a) (jM (swp x y) c)=sub x (.rc a) c:=by
 have e:=lI (yG x y) x (.rc a) c
 rw[wa,ue (t:=.rc a) hx hy]at e
 rw[<-e]
 have key:∀z,(z=x\/z=y)->bn z (sub x (.rc a) c)=false:=fun z hz=>by
  cases q:bn z (sub x (.rc a) c)with
  |false=>rfl
  |
   true =>
   exfalso
   have hz':bn z a=false:=by rcases hz with rfl|rfl<;>assumption
   rcases jb _ q with h1|⟨h1,h2⟩
   ·rw[show bn z (.rc a)=bn z a from rfl,hz']at h1;cases h1
   ·rcases gx _ _ (h.names z h2)with e|e
    ·exact h1 e
    ·rw[hz']at e;cases e
 exact ue (key x (.inl rfl)) (key y (.inr rfl))
theorem Dv.uniq:∀(n:Nat) (t:Ty),t.atoms<=n->∀{s:Nm} {d d':Ty},Dv t s d->Dv t s d'->d=d'
 |0,t,h,_,_,_,_,_=>by have:=er t;omega
 |
  n+1,t,hn,s,d,d',h,h'=>by
  cases h with
  |zero=>cases h';rfl
  |one=>cases h';rfl
  |bound=>cases h';rfl
  |
   hit =>
   cases h' with
   |hit=>rfl
   |qx h=>exact absurd rfl h
  |
   qx h =>
   cases h' with
   |hit=>exact absurd rfl h
   |qx _=>rfl
  |
   plus h1 h2 =>
   simp only[Ty.atoms]at hn
   cases h' with
   |plus g1 g2=>rw[Dv.uniq n _ (by omega) h1 g1,Dv.uniq n _ (by omega) h2 g2]
  |
   times h1 h2 =>
   simp only[Ty.atoms]at hn
   cases h' with
   |times g1 g2=>rw[Dv.uniq n _ (by omega) h1 g1,Dv.uniq n _ (by omega) h2 g2]
  |
   rc x hx hs h1 h2 =>
   simp only[Ty.atoms]at hn
   cases h' with
   |
    rc y hy hs' g1 g2 =>
    rename_i a _ _ _ _ _ _
    have m1:=h1.move hx hy
    have m2:=h2.move hx hy
    rw[BE (Ne.symm hs) (Ne.symm hs')]at m1
    rw[wa]at m2
    have e1:=Dv.uniq n _ (by rw[fK];omega) m1 g1
    have e2:=Dv.uniq n _ (by rw[fK];omega) m2 g2
    rw[pV,pV,<-e1,<-e2,mN hx hy h1,mN hx hy h2]
theorem Dv.small{t d:Ty}{s:Nm}(h:Dv t s d):d.atoms<=400:=by
 cases h<;>first|assumption|simp[Ty.atoms]
open Classical in
noncomputable def lV (t:Ty) (s:Nm):Option Ty:=if h:∃d,Dv t s d then some (Classical.choose h)else none
theorem cR{t:Ty}{s:Nm}{d:Ty}:lV t s=some d↔Dv t s d:=by
 unfold lV
 by_cases h:∃d,Dv t s d
 ·rw[dif_pos h]
  have:=Classical.choose_spec h
  constructor
  ·intro e;cases e;exact this
  ·intro g;rw[Dv.uniq _ t (au _) this g]
 ·rw[dif_neg h]
  exact⟨fun e=>(by cases e),fun g=>absurd ⟨d,g⟩ h⟩
def nE(t:Ty):Option Ty:=if t.atoms<=400 then some t else none
theorem eN{t d:Ty}:nE t=some d↔t.atoms<=400/\t=d:=by
 unfold nE
 split
 ·rename_i h;simp[h]
 ·rename_i h;simp[h]
theorem qU{α:Type}{a b:Option α}(h:∀d,a=some d↔b=some d):a=b:=by
 cases a with
 |
  none=>cases b with
  |none=>rfl
  |some x=>have:=(h x).2 rfl;cases this
 |some x=>exact((h x).1 rfl).symm
theorem we(s:Nm):lV .zero s=some .zero:=cR.2 (.zero _)
theorem yg(s:Nm):lV .one s=some .zero:=cR.2 (.one _)
theorem zS(k:Nat)(s:Nm):lV (.bound k) s=some .zero:=cR.2 (.bound _ _)
theorem ou(n s:Nm):lV (.name n) s=some (if n=s then .one else .zero):=by
 split
 ·rename_i h;subst h;exact cR.2 (.hit _)
 ·rename_i h;exact cR.2 (.qx h)
theorem vO(a b:Ty)(s:Nm):lV (.plus a b) s=(lV a s).bind fun a'=>(lV b s).bind fun b'=>nE (.plus a' b'):=by
 refine qU fun d=>?_
 rw[cR]
 simp only[aX,cR,eN]
 constructor
 ·intro h;cases h with|plus h1 h2 hl=>exact⟨_,h1,_,h2,hl,rfl⟩
 ·rintro⟨a',h1,b',h2,hl,rfl⟩;exact .plus h1 h2 hl
theorem tA(a b:Ty)(s:Nm):lV (.times a b) s=(lV a s).bind fun a'=>(lV b s).bind fun b'=>nE (.plus (.times a' b) (.times a b')):=by
 refine qU fun d=>?_
 rw[cR]
 simp only[aX,cR,eN]
 constructor
 ·intro h;cases h with|times h1 h2 hl=>exact⟨_,h1,_,h2,hl,rfl⟩
 ·rintro⟨a',h1,b',h2,hl,rfl⟩;exact .times h1 h2 hl
theorem Cq{a:Ty}{s x:Nm}(hx:bn x a=false)(hs:x≠s):lV (.rc a) s=(lV (dC (.name x) a 0) s).bind fun c=>(lV (dC (.name x) a 0) x).bind fun d=>nE (pV a x c d):=by
 refine qU fun d=>?_
 rw[cR]
 simp only[aX,cR,eN]
 constructor
 ·intro h
  cases h with
  |
   rc y hy hs' h1 h2 hl =>
   have m1:=h1.move hy hx
   have m2:=h2.move hy hx
   rw[BE (Ne.symm hs') (Ne.symm hs)]at m1
   rw[wa]at m2
   refine⟨_,m1,_,m2,?_⟩
   have e:∀c d,sub x (.rc a) (jM (swp y x) c)=sub y (.rc a) c->sub x (.rc a) (jM (swp y x) d)=sub y (.rc a) d->pV a x (jM (swp y x) c) (jM (swp y x) d)=pV a y c d:=fun c d e1 e2=>by rw[pV,pV,e1,e2]
   rw[e _ _ (mN hy hx h1) (mN hy hx h2)]
   exact⟨hl,rfl⟩
 ·rintro⟨c,h1,d',h2,hl,rfl⟩;exact .rc x hx hs h1 h2 hl
noncomputable def oe (a:Ty) (x:Nm):Option Ty:=(lV (dC (.name x) a 0) x).bind fun d=>nE (sub x (.rc a) d)
theorem Gu{a:Ty}{x y:Nm}(hx:bn x a=false)(hy:bn y a=false):oe a x=oe a y:=by
 have key:∀{x y:Nm} {d:Ty},bn x a=false->bn y a=false->oe a x=some d->oe a y=some d:=fun {x y d} hx hy h=>by
  simp only[oe,aX,cR,eN]at h |-
  obtain⟨d',h1,hl,rfl⟩:=h
  have m1:=h1.move hx hy
  rw[wa]at m1
  exact⟨_,m1,by rw[mN hx hy h1];exact⟨hl,rfl⟩⟩
 exact qU fun d=>⟨key hx hy,key hy hx⟩
end Go.Proofs.Trees
namespace Go.Proofs.Trees
open Go Go.VL
theorem Qm(b:UInt8):an Tryz.prog 161 [.v (.int .u8 (b.toNat:Int))] [] (bJ (.v (.bool (fe b)))):=by
 refine R9 _ ?_
 simp only[L5,↓zq,zs,ae,bJ,fe]
 repeat' (apply aH<;>intro _)
 all_goals first|(congr 2;rw[cy];simp;omega)|(congr 2;simp;omega)
def D5(s:List UInt8)(x:Option (E×List UInt8)):AV->List Ob->Prop:=fun r o=>o=[] /\
 match x with
 |some (e,u)=>r=.cD [e.kD,.v (.int .i64 ((s.length-u.length:Nat):Int))]
 |none=>∃(c:List UInt8) (d:AV),LK.sl.has d/\r=.cD [.agg [.v (.string (mk c)),d],.v (.int .i64 (-1))]
theorem D5.ne(s:List UInt8)(x:Option (E×List UInt8)):∃r o,D5 s x r o:=by
 cases x with
 |some q=>exact⟨_,_,rfl,rfl⟩
 |none=>exact⟨_,_,rfl,[],.v (.slice none 0 0),(bh).mpr trivial,rfl⟩
def jc(c:List UInt8)(d:AV):Ob:=.cells [.v (.string (mk c)),d]
theorem LY(s:List UInt8)(hs:s.length<=8000)(from_:Int)(c1 c2:List UInt8)(d1 d2:AV)(h1:LK.sl.has d1)(h2:LK.sl.has d2):∀(k i:Nat),i+k=s.length->Iz [.v (.string (mk s)),.v (.int .i64 (i:Int)),.v (.int .i64 from_)] [jc c1 d1,jc c2 d2]
 (iG 1 [.v (.string (mk s)),.v (.int .i64 ((i+((s.drop i).takeWhile fe).length:Nat):Int)),.v (.int .i64 from_)] [jc c1 d1,jc c2 d2])
 |
  0,i,hi=>by
  refine Nd _ _ _ _ _ _ _ ?_
  have hd:s.drop i=[]:=bS (by omega)
  simp only[FF,↓zq,zs,ae,zt]
  exact⟨h1,h2,fun h=>by omega,fun _=>by simp[iG,hd,jc]⟩
 |
  k+1,i,hi=>by
  have hlt:i<s.length:=by omega
  refine Nd _ _ _ _ _ _ _ ?_
  simp only[FF,↓zq,zs,ae,zt,me s i hlt]
  refine⟨h1,h2,fun _=>⟨by omega,?_⟩,fun h=>by omega⟩
  refine ai (Qm _) ?_
  simp only[↓zq,zs,ae]
  refine⟨fun hb=>?_,fun hb=>?_⟩
  ·rw[bA i (by omega)]
   have:=LY s hs from_ c1 c2 d1 d2 h1 h2 k (i+1) (by omega)
   rw[yE hlt hb,show i+(((s.drop (i+1)).takeWhile fe).length+1)=i+1+((s.drop (i+1)).takeWhile fe).length by omega]
   exact this
  ·simp[iG,qY hlt hb,jc]
def SN(s:List UInt8)(x:Option (E×List UInt8)):Nat->List AV->List Ob->Prop:=fun t ys o=>t=2 /\
 match x with
 |some (e,u)=>∃l,e=.list l/\ys=[.v (.int .i64 ((s.length-u.length:Nat):Int))]/\o=[jc [] .any,.vec 2 (E.bw l)]
 |none=>∃es,ys=[.v (.int .i64 (-1))]/\o=[jc [] .any,.vec 2 es]
theorem yw(e:E):(e.kD=.agg e.kD.cs/\e.kD.cs.length=2/\bF [.str,.sl] e.kD.cs 0)=True:=by
 apply eq_true
 cases e<;>simp[E.kD,E.im,CE,bF,dY,bh,cc]
theorem xc(e:E):[AV.v (.string ((e.kD.cs.getD 0 .any).toStr)),e.kD.cs.getD 1 .any]=e.im:=by
 cases e<;>rfl
theorem drop_cons{s:List UInt8}{j:Nat}(hj:j<s.length):s.drop j=s.getD j 0::s.drop (j+1):=by
 rw[aR hj];simp[aa,hj]
theorem Oi(s:List UInt8)(hs:s.length<=8000)(d:Nat)(hd:d<=300)(f:List UInt8->Option (E×List UInt8))(hf:∀u e r,f u=some (e,r)->∃j,r=u.drop j/\0<j/\j<=u.length)
 (ih:∀j,j<=s.length->an Tryz.prog 142 [.v (.string (mk s)),.v (.int .i64 (j:Int)),.v (.int .i64 ((d+1:Nat):Int))] [] (D5 s (f (s.drop j)))) :
 ∀(n i:Nat) (acc:List E) (c1:List UInt8) (d1:AV),LK.sl.has d1->s.length-(i+1)<n->i<s.length->s.length-i+acc.length<=8001->GJ [.v (.string (mk s)),.v (.int .i64 (i:Int)),.v (.int .i64 (d:Int))] [jc c1 d1,jc [] .any,.vec 2 (E.bw acc)]
  (SN s (sw f n (s.drop (i+1)) acc))
 |0,i,acc,c1,d1,h1,hn,_,_=>by omega
 |
  n+1,i,acc,c1,d1,h1,hn,hi,hl=>by
  refine Pc _ _ _ _ _ _ _ ?_
  simp only[My,↓zq,zs,ae,jc]
  refine⟨h1,?_⟩
  rw[bA i (by omega),bA d (by omega)]
  refine aP (ih (i+1) (by omega)) (D5.ne _ _) ?_
  rintro r o ⟨rfl,hr⟩
  have hff:=hf (s.drop (i+1))
  unfold sw
  cases hq:f (s.drop (i+1))with
  |
   none =>
   rw[hq]at hr
   obtain⟨c,d',hd',rfl⟩:=hr
   simp only[↓zq,zs,ae,zt,bF]
   refine⟨hd',fun _=>⟨rfl,_,rfl,rfl⟩,fun h=>by omega⟩
  |
   some q =>
   obtain⟨e,u⟩:=q
   rw[hq]at hr
   subst hr
   obtain⟨j,hu,hj0,hj⟩:=hff e u hq
   rw[List.drop_drop]at hu
   simp only[cx]at hj
   have hul:u.length=s.length-(i+1+j):=by rw[hu,cx]
   have hpos:s.length-u.length=i+1+j:=by omega
   simp only[↓zq,zs,ae,zt,yw,hpos,xc,eh]
   refine⟨fun h=>by omega,fun _=>⟨fun h=>?_,fun h=>⟨⟨fun c hc=>(by simp at hc;rw[hc];cases e<;>rfl),by omega⟩,?_⟩⟩⟩
   ·have:u=[]:=by rw[hu];exact bS (by omega)
    subst this
    exact⟨rfl,_,rfl,rfl⟩
   ·have hlt:i+1+j<s.length:=by omega
    rw[drop_cons hlt]at hu
    subst hu
    rw[me s _ hlt]
    generalize hb:s.getD (i+1+j) 0=b
    refine⟨by omega,fun h41=>?_,fun h41=>⟨by omega,fun h32=>?_,fun h32=>?_⟩⟩
    ·have h41':b.toNat=41:=by omega
     dsimp only
     rw[if_pos h41',bA _ (by omega)]
     refine⟨rfl,acc++[e],rfl,?_,?_⟩
     ·rw[cx];congr 3;omega
     ·simp[jc,qk,E.bw]
    ·have h41':¬b.toNat=41:=by omega
     have h32':¬b.toNat=32:=by omega
     dsimp only
     rw[if_neg h41',if_neg h32']
     exact⟨rfl,_,rfl,rfl⟩
    ·have h41':¬b.toNat=41:=by omega
     have h32':b.toNat=32:=by omega
     dsimp only
     rw[if_neg h41',if_pos h32']
     have:=Oi s hs d hd f hf ih n (i+1+j) (acc++[e]) c1 d1 h1 (by omega) hlt (by simp;omega)
     simpa[jc,qk,E.bw]using this
theorem Dp(k:Nat)(u:List UInt8)(e:E)(r:List UInt8)(h:rd k u=some (e,r)):∃j,r=u.drop j/\0<j/\j<=u.length:=by
 have suf:∀(k:Nat) (u:List UInt8) (e:E) (r:List UInt8),rd k u=some (e,r)->r <:+ u:=by
  intro k
  have tw:∀u:List UInt8,u.dropWhile fe <:+ u:=fun u=>List.dropWhile_suffix _
  have ll:∀(f:List UInt8->Option (E×List UInt8)),(∀u e r,f u=some (e,r)->r <:+ u)->∀(n:Nat) (u:List UInt8) (acc:List E) (e:E) (r:List UInt8),sw f n u acc=some (e,r)->r <:+ u:=by
   intro f hf n
   induction n with
   |zero=>intro u acc e r h;cases h
   |
    succ n ih =>
    intro u acc e r h
    simp only[sw]at h
    split at h
    ·rename_i p c r' hs
     have h1:r' <:+ u:=(List.suffix_cons c r').trans (hf _ _ _ hs)
     split at h
     ·cases h;exact h1
     ·split at h
      ·exact(ih _ _ _ _ h).trans h1
      ·cases h
    ·cases h
  induction k with
  |
   zero =>
   intro u e r h
   simp only[rd]at h
   split at h
   ·cases h
   ·cases h;exact tw u
  |
   succ k ih =>
   intro u e r h
   simp only[rd]at h
   split at h
   ·split at h
    ·split at h
     ·exact(ll _ ih _ _ _ _ _ h).trans (List.suffix_cons _ _)
     ·cases h
    ·cases h
   ·cases h;exact tw u
 obtain⟨p,hp⟩:=suf k u e r h
 have hlt:=xT k u e r h
 have:=congrArg List.length hp
 simp only[aq]at this
 exact⟨p.length,by rw[<-hp];simp,by omega,by omega⟩
theorem Bb(n:Nat)(u:List UInt8)(acc:List E):sw (fun _=>none) n u acc=none:=by
 cases n<;>rfl
theorem Pw(s:List UInt8)(j:Nat):an Tryz.prog 142 [.v (.string (mk s)),.v (.int .i64 (j:Int)),.v (.int .i64 ((300+1:Nat):Int))] [] (D5 s none):=by
 refine M3 _ _ _ ?_
 simp only[HO,↓zq,zs,ae]
 exact⟨fun _=>⟨rfl,[],_,(bh).mpr trivial,rfl⟩,fun h=>by omega⟩
theorem p9(s:List UInt8)(hs:s.length<=8000)(d i:Nat)(hd:d<=300)(hi:i<=s.length)(f:List UInt8->Option (E×List UInt8))(hf:∀u e r,f u=some (e,r)->∃j,r=u.drop j/\0<j/\j<=u.length)
 (ih:∀j,j<=s.length->an Tryz.prog 142 [.v (.string (mk s)),.v (.int .i64 (j:Int)),.v (.int .i64 ((d+1:Nat):Int))] [] (D5 s (f (s.drop j)))) (x:Option (E×List UInt8))
 (h0:i=s.length->x=none)
 (h1:i<s.length->(s.drop i).takeWhile fe≠[]->x=some (.atom ((s.drop i).takeWhile fe),(s.drop i).dropWhile fe))
 (h2:i<s.length->(s.drop i).takeWhile fe=[]->¬(s.getD i 0).toNat=40->x=none)
 (h3:i<s.length->(s.getD i 0).toNat=40->x=sw f (s.length-(i+1)+1) (s.drop (i+1)) []) :
 an Tryz.prog 142 [.v (.string (mk s)),.v (.int .i64 (i:Int)),.v (.int .i64 (d:Int))] [] (D5 s x):=by
 refine M3 _ _ _ ?_
 simp only[HO,↓zq,zs,ae,zt]
 refine⟨fun h=>by omega,fun _=>⟨fun h=>?_,fun h=>⟨by omega,?_⟩⟩⟩
 ·rw[h0 (by omega)]
  exact⟨rfl,[],_,(bh).mpr trivial,rfl⟩
 ·have hlt:i<s.length:=by omega
  rw[me s i hlt]
  refine⟨fun h40=>?_,fun h40=>?_⟩
  ·have h40':¬(s.getD i 0).toNat=40:=by omega
   refine cJ (LY s hs _ [] [] _ _ ((bh).mpr trivial) ((bh).mpr trivial) (s.length-i) i (by omega)) ?_
   have hex:(List.take (i+((s.drop i).takeWhile fe).length) s).drop i=(s.drop i).takeWhile fe:=by
    rw[List.drop_take,Nat.add_sub_cancel_left];exact ui _
   have hle:i+((s.drop i).takeWhile fe).length<=s.length:=by
    have:=uB (s.drop i);simp only[cx]at this;omega
   simp only[jc,↓zq,zs,ae,zt,hex]
   refine⟨by omega,fun hnil=>?_,fun hnil=>?_⟩
   ·rw[h2 hlt hnil h40',hnil]
    exact⟨rfl,[],_,(bh).mpr trivial,rfl⟩
   ·rw[h1 hlt hnil]
    refine⟨rfl,?_⟩
    have:=uB (s.drop i)
    simp only[cx]at this
    show _=AV.cD [E.kD (.atom _),_]
    have e:s.length-((s.drop i).dropWhile fe).length=i+((s.drop i).takeWhile fe).length:=by omega
    rw[e];rfl
  ·have h40':(s.getD i 0).toNat=40:=by omega
   rw[h3 hlt h40']
   refine kW (Oi s hs d hd f hf ih (s.length-(i+1)+1) i [] [] _ ((bh).mpr trivial) (by omega) hlt (by simp;omega)) ?_ ?_
   ·rintro ys o ⟨h,_⟩;cases h
   ·rintro ys o ⟨_,hr⟩
    cases hq:sw f (s.length-(i+1)+1) (s.drop (i+1)) []with
    |
     none =>
     rw[hq]at hr
     obtain⟨es,rfl,rfl⟩:=hr
     simp only[jc,↓zq,zs,ae]
     exact⟨rfl,[],_,(cc _).mpr trivial,rfl⟩
    |
     some q =>
     obtain⟨e,u⟩:=q
     rw[hq]at hr
     obtain⟨l,rfl,rfl,rfl⟩:=hr
     simp only[jc,↓zq,zs,ae]
     exact⟨rfl,rfl⟩
theorem Q2(s:List UInt8)(hs:s.length<=8000):∀(k:Nat),k<=300->∀i,i<=s.length->an Tryz.prog 142 [.v (.string (mk s)),.v (.int .i64 (i:Int)),.v (.int .i64 ((300-k:Nat):Int))] [] (D5 s (rd k (s.drop i))):=by
 intro k
 have hnil:∀k,rd k []=none:=fun k=>by cases k<;>simp[rd]
 have ha40:∀b:UInt8,b.toNat=40->fe b=false:=fun b hb=>by simp[fe,hb]
 induction k with
 |
  zero =>
  intro hk i hi
  refine p9 s hs 300 i (by omega) hi (fun _=>none) (fun _ _ _ h=>by cases h) (fun j _=>Pw s j) _ (fun h=>?_) (fun hlt h=>?_) (fun hlt h h40=>?_) (fun hlt h40=>?_)
  ·rw[bS (by omega)];exact hnil 0
  ·simp only[rd,if_neg h]
  ·simp only[rd,if_pos h]
  ·rw[Bb]
   have:(s.drop i).takeWhile fe=[]:=qY hlt (ha40 _ h40)
   simp only[rd,if_pos this]
 |
  succ k ih =>
  intro hk i hi
  have hd:300-(k+1)+1=300-k:=by omega
  refine p9 s hs (300-(k+1)) i (by omega) hi (rd k) (Dp k) (fun j hj=>by rw[hd];exact ih (by omega) j hj) _ (fun h=>?_) (fun hlt h=>?_) (fun hlt h h40=>?_) (fun hlt h40=>?_)
  ·rw[bS (by omega)];exact hnil _
  ·simp only[rd,if_neg h]
  ·rw[drop_cons hlt]at h |-
   simp only[rd,if_pos h,if_neg h40]
  ·have h:=qY hlt (ha40 _ h40)
   rw[drop_cons hlt]at h |-
   simp only[rd,if_pos h,if_pos h40,cx]
end Go.Proofs.Trees
namespace Go.Proofs.Trees
open Go Go.VL
theorem iP(e:E):AV.agg [.v (.string ((e.im.getD 0 .any).toStr)),e.im.getD 1 .any]=e.kD:=by cases e<;>rfl
theorem gj(e:E):e.im.length=2:=by cases e<;>rfl
theorem iT(e:E):bF [.str,.sl] e.im 0=True:=by
 apply eq_true
 cases e<;>simp[E.im,bF,dY,bh,cc]
theorem mH(e:E):e.im.headD .any=.v (.string (mk e.at)):=by cases e<;>rfl
theorem u3(x:E)(l:List E):an Tryz.prog 86 [.agg [.v (.string (mk [])),.sl (E.bw (x::l))]] [] (bJ (.v (.string (mk x.at)))):=by
 refine Ft _ _ ((cc _).mpr trivial) ?_
 simp only[Dh,E.bw,↓zq,zs,ae,zt,bJ,gj,mH,au]
 refine⟨fun h=>absurd rfl h,fun _=>⟨fun h=>by omega,fun _=>⟨by omega,by omega⟩⟩⟩
theorem PG:an Tryz.prog 86 [.agg [.v (.string (mk [])),.sl (E.bw [])]] [] (bJ (.v (.string (mk [])))):=by
 refine Ft _ _ ((cc _).mpr trivial) ?_
 simp only[Dh,E.bw,↓zq,zs,ae,zt,bJ,gj,mH,au]
 simp
def jS:E->Bool
 | .atom s=>(s==[48])||(s==[49])||gT s||dm s
 | .list [x,a,b]=>if x.at=[43]then jS a&&jS b else if x.at=[42]then jS a&&jS b else if x.at=[114,101,99]then dm a.at&&jS b else false
 | .list _=>false
theorem Af:∀(e:E),e.ok->an Tryz.prog 117 [e.kD] [] (bJ (.v (.bool (jS e))))
 |
  .atom s,hok=>by
  refine MC _ _ ((bh).mpr trivial) ?_
  have hne:s≠[]:=hok
  simp only[xt,↓zq,zs,ae,zt,bJ,jS]
  refine⟨fun _=>⟨fun h=>?_,fun h=>⟨fun h1=>?_,fun h1=>?_⟩⟩,fun h=>absurd h hne⟩
  ·simp[h]
  ·simp[h1]
  ·refine ai (Fk s) ?_
   simp only[↓zq,zs,ae]
   refine⟨fun hp=>?_,fun hp=>?_⟩
   ·simp[hp]
   ·refine ai (F6 s) ?_
    simp[↓zq,zs,ae,hp,h,h1]
 |
  .list l,hok=>by
  refine MC _ _ ((cc _).mpr trivial) ?_
  match l,hok with
  |[],hok=>simp[xt,E.bw,↓zq,zs,ae,zt,bJ,jS]
  |[x],hok=>simp[xt,E.bw,↓zq,zs,ae,zt,bJ,jS]
  |[x,y],hok=>simp[xt,E.bw,↓zq,zs,ae,zt,bJ,jS]
  |
   x::y::z::w::l,hok =>
   simp only[xt,E.bw,↓zq,zs,ae,zt,bJ,jS]
   exact⟨fun h=>absurd rfl h,fun _=>⟨fun _=>trivial,fun h=>by omega⟩⟩
  |
   [x,y,z],hok =>
   obtain⟨ok1,ok2,ok3,_⟩:=hok
   simp only[xt,↓zq,zs,ae,zt,bJ]
   refine⟨fun h=>absurd rfl h,fun _=>⟨fun h=>absurd rfl h,fun _=>?_⟩⟩
   refine ai (u3 x _) ?_
   simp only[E.bw,toNat_one,bg,↓zq,zs,ae,zt,iP,gj,iT,mH,au,jS]
   refine⟨fun h=>?_,fun h=>⟨fun h1=>?_,fun h1=>⟨fun h2=>?_,fun h2=>?_⟩⟩⟩
   ·rw[if_pos h]
    refine⟨by omega,ai (Af y ok2) ?_⟩
    simp only[↓zq,zs,ae]
    refine⟨fun hy=>⟨by omega,ai (Af z ok3) ?_⟩,fun hy=>?_⟩
    ·simp only[↓zq,zs,ae,hy,bW]
    ·rw[hy];rfl
   ·rw[if_neg h,if_pos h1]
    refine⟨by omega,ai (Af y ok2) ?_⟩
    simp only[↓zq,zs,ae]
    refine⟨fun hy=>⟨by omega,ai (Af z ok3) ?_⟩,fun hy=>?_⟩
    ·simp only[↓zq,zs,ae,hy,bW]
    ·rw[hy];rfl
   ·rw[if_neg h,if_neg h1,if_pos h2]
    refine⟨by omega,by omega,ai (F6 _) ?_⟩
    simp only[↓zq,zs,ae]
    refine⟨fun hy=>⟨by omega,ai (Af z ok3) ?_⟩,fun hy=>?_⟩
    ·simp only[↓zq,zs,ae,hy,bW]
    ·rw[hy];rfl
   ·rw[if_neg h,if_neg h1,if_neg h2]
theorem iY:∀(e:E) (ar:List (List UInt8)),(cT e ar).isSome=jS e
 |
  .atom s,ar=>by
  simp only[cT,jS]
  by_cases h:s=[48]
  ·simp[h]
  ·by_cases h1:s=[49]
   ·simp[h1]
   ·rw[if_neg h,if_neg h1]
    by_cases h2:gT s=true
    ·simp[h2]
    ·rw[if_neg h2]
     by_cases h3:dm s=true
     ·rw[if_pos h3];cases bP s ar ar.length<;>simp[h3]
     ·rw[if_neg h3];simp[h,h1,h2,h3]
 | .list [],_=>rfl
 | .list [_],_=>rfl
 | .list [_,_],_=>rfl
 | .list (_::_::_::_::_),_=>rfl
 |
  .list [x,a,b],ar=>by
  have ha:=iY a ar
  have hb:=iY b ar
  have hb2:=iY b (ar++[a.at])
  rw[jS]
  by_cases h:x.at=[43]
  ·rw[lu ar h,if_pos h,<-ha,<-hb];cases cT a ar<;>cases cT b ar<;>rfl
  ·by_cases h1:x.at=[42]
   ·rw[jP ar h1,if_neg h,if_pos h1,<-ha,<-hb];cases cT a ar<;>cases cT b ar<;>rfl
   ·by_cases h2:x.at=[114,101,99]
    ·rw[mw ar h2,if_neg h,if_neg h1,if_pos h2,<-hb2]
     cases dm a.at<;>cases cT b (ar++[a.at])<;>rfl
    ·rw[je ar h h1 h2,if_neg h,if_neg h1,if_neg h2];rfl
mutual
def E.dc:E->Nat
 | .atom _=>1
 | .list l=>E.eW l
def E.eW:List E->Nat
 |[]=>0
 |e::l=>e.dc+E.eW l
end
mutual
theorem iU:∀e:E,e.dc<=e.sz
 | .atom s=>by simp[E.dc,E.sz]
 | .list l=>by have:=tS l;simp only[E.dc,E.sz];omega
theorem tS:∀l:List E,E.eW l<=E.jt l
 |[]=>by simp[E.eW,E.jt]
 |e::l=>by have:=iU e;have:=tS l;simp only[E.eW,E.jt];omega
end
theorem jF:∀(l:List E) (i:Nat) (h:i<l.length),(E.bw l).getD i []=(l[i]).im
 |e::l,0,_=>rfl
 |
  e::l,i+1,h=>by
  have:=jF l i (by simpa using h)
  simp only[E.bw,List.getD_cons_succ,List.getElem_cons_succ];exact this
theorem Aw:∀(l:List E) (i:Nat) (h:i<l.length),E.eW (l.drop i)=(l[i]).dc+E.eW (l.drop (i+1)):=by
 intro l i h
 rw[aR h];rfl
theorem ug:∀(l:List E) (i:Nat) (h:i<l.length),E.DJ l->(l[i]).ok
 |e::l,0,_,h=>h.1
 |e::l,i+1,hi,h=>ug l i (by simpa using hi) h.2
theorem JZ(l:List E)(hl:E.eW l<1000000)(hll:l.length<1000000)(ih:∀i (h:i<l.length),an Tryz.prog 88 [(l[i]).kD] [] (bJ (.v (.int .i64 ((l[i]).dc:Int))))) :
 ∀(k i n:Nat),i+k=l.length->n+E.eW (l.drop i)<=E.eW l->Io [.v (.int .i64 (n:Int)),.v (.int .i64 (i:Int))] [.cells [.v (.string (mk [])),.sl (E.bw l)]] (iG 1 [.v (.int .i64 ((n+E.eW (l.drop i):Nat):Int))] [])
 |
  0,i,n,hi,hn=>by
  refine KE _ _ _ _ ?_
  simp only[FM,↓zq,zs,ae,eh]
  have:l.drop i=[]:=bS (by omega)
  refine⟨fun h=>by omega,fun _=>?_⟩
  simp[iG,this,E.eW]
 |
  k+1,i,n,hi,hn=>by
  have hlt:i<l.length:=by omega
  refine KE _ _ _ _ ?_
  simp only[FM,↓zq,zs,ae,zt,eh,jF l i hlt,gj,iT,iP,au]
  refine⟨fun _=>⟨by omega,?_⟩,fun h=>by omega⟩
  refine ai (ih i hlt) ?_
  have h1:=Aw l i hlt
  simp only[↓zq,zs,ae]
  rw[bA i (by omega),wrap64 _ (by omega) (by omega)]
  have:=JZ l hl hll ih k (i+1) (n+(l[i]).dc) (by omega) (by omega)
  rw[h1,<-Nat.add_assoc]
  simpa using this
theorem tW:∀l:List E,l.length<=E.jt l
 |[]=>by simp[E.jt]
 |
  e::l=>by
  have:=tW l
  have:1<=e.sz:=by cases e<;>simp[E.sz]
  simp only[E.jt,az];omega
theorem tM:∀(l:List E) (i:Nat) (h:i<l.length),(l[i]).sz<=E.jt l
 |e::l,0,_=>by simp[E.jt]
 |e::l,i+1,h=>by have:=tM l i (by simpa using h);simp only[E.jt,List.getElem_cons_succ];omega
theorem N5:∀(n:Nat) (e:E),e.sz<n->e.ok->e.sz<1000000->an Tryz.prog 88 [e.kD] [] (bJ (.v (.int .i64 (e.dc:Int))))
 |0,e,hn,_,_=>by omega
 |
  n+1,.atom s,hn,hok,hl=>by
  refine Ol _ _ ((bh).mpr trivial) ?_
  have hne:s≠[]:=hok
  simp only[II,↓zq,zs,ae,zt,bJ]
  exact⟨fun _=>rfl,fun h=>absurd h hne⟩
 |
  n+1,.list l,hn,hok,hl=>by
  refine Ol _ _ ((cc _).mpr trivial) ?_
  simp only[E.sz]at hn hl
  have h1:=tS l
  have h2:=tW l
  simp only[II,↓zq,zs,ae,zt,bJ]
  refine⟨fun h=>absurd rfl h,fun _=>?_⟩
  refine cJ (JZ l (by omega) (by omega) (fun i hi=>?_) l.length 0 0 (by omega) (by simp)) ?_
  ·have:=tM l i hi
   exact N5 n (l[i]) (by omega) (ug l i hi hok) (by omega)
  ·simp[↓zq,zs,ae,E.dc]
theorem DZ(e:E)(h:e.ok)(hl:e.sz<1000000):an Tryz.prog 88 [e.kD] [] (bJ (.v (.int .i64 (e.dc:Int)))):=N5 (e.sz+1) e (by omega) h hl
theorem uq{x:E}(h:x.at≠[]):x.dc=1:=by cases x<;>simp[E.at,E.dc]at h |-
theorem BQ{s:List UInt8}(h:dm s=true):s≠[]:=by rintro rfl;cases h
theorem jR:∀(e:E) (ar:List (List UInt8)) (t:Ty),cT e ar=some t->e.dc=t.atoms
 |
  .atom s,ar,t,h=>by
  simp only[cT]at h
  simp only[E.dc]
  split at h
  ·cases h;rfl
  ·split at h
   ·cases h;rfl
   ·split at h
    ·cases h;rfl
    ·split at h
     ·split at h<;>cases h<;>rfl
     ·cases h
 | .list [],_,_,h=>by cases h
 | .list [_],_,_,h=>by cases h
 | .list [_,_],_,_,h=>by cases h
 | .list (_::_::_::_::_),_,_,h=>by cases h
 |
  .list [x,a,b],ar,t,h=>by
  simp only[E.dc,E.eW]
  by_cases h0:x.at=[43]
  ·rw[lu ar h0]at h
   have:=uq (x:=x) (by rw[h0];simp)
   split at h
   ·rename_i t1 t2 e1 e2
    cases h
    have:=jR a ar _ e1
    have:=jR b ar _ e2
    simp only[Ty.atoms];omega
   ·cases h
  ·by_cases h1:x.at=[42]
   ·rw[jP ar h1]at h
    have:=uq (x:=x) (by rw[h1];simp)
    split at h
    ·rename_i t1 t2 e1 e2
     cases h
     have:=jR a ar _ e1
     have:=jR b ar _ e2
     simp only[Ty.atoms];omega
    ·cases h
   ·by_cases h2:x.at=[114,101,99]
    ·rw[mw ar h2]at h
     have:=uq (x:=x) (by rw[h2];simp)
     split at h
     ·rename_i hl
      have:=uq (BQ hl)
      split at h
      ·rename_i t1 e1
       cases h
       have:=jR b _ _ e1
       simp only[Ty.atoms];omega
      ·cases h
     ·cases h
    ·rw[je ar h0 h1 h2]at h;cases h
def jI(x:Option E)(b:Bool):AV->List Ob->Prop:=fun r o=>∃c:List UInt8,∃d:AV,LK.sl.has d/\r=.cD [.agg [.v (.string (mk c)),d],.v (.bool b)]/\(b=true->∃e,x=some e/\AV.agg [.v (.string (mk c)),d]=e.kD)
theorem BC(e:E):∃c:List UInt8,∃d:AV,LK.sl.has d/\e.kD=AV.agg [.v (.string (mk c)),d]:=by
 cases e with
 |atom s=>exact⟨s,_,(bh).mpr trivial,rfl⟩
 |list l=>exact⟨[],_,(cc _).mpr trivial,rfl⟩
theorem jI.ne(x:Option E)(b:Bool)(h:b=true->x.isSome=true):∃r o,jI x b r o:=by
 cases b with
 |false=>exact⟨_,[],[],.v (.slice none 0 0),(bh).mpr trivial,rfl,fun h=>by cases h⟩
 |
  true =>
  cases x with
  |none=>cases h rfl
  |
   some e =>
   obtain⟨c,d,hd,he⟩:=BC e
   exact⟨_,[],c,d,hd,rfl,fun _=>⟨e,rfl,he.symm⟩⟩
theorem K4(s:List UInt8):an Tryz.prog 102 [.v (.string (mk s))] [] (jI (qO s) (qO s).isSome):=by
 refine PX _ ?_
 simp only[Kn,↓zq,zs,ae,zt,qO]
 refine⟨fun h=>?_,fun h=>?_⟩
 ·rw[if_pos (by omega)]
  exact⟨[],_,(bh).mpr trivial,rfl,fun h=>by cases h⟩
 ·rw[if_neg (by omega)]
  refine aP (Q2 s (by omega) 300 (by omega) 0 (by omega)) (D5.ne _ _) ?_
  rintro r o ⟨rfl,hr⟩
  rw[bb]at hr
  cases hq:rd 300 s with
  |
   none =>
   rw[hq]at hr
   obtain⟨c,d,hd,rfl⟩:=hr
   simp only[↓zq,zs,ae,zt,bF]
   refine⟨hd,c,d,hd,?_,fun h=>by cases h⟩
   have:((-1:Int)==(s.length:Int))=false:=by
    rw[beq_eq_false_iff_ne];omega
   rw[this];rfl
  |
   some q =>
   obtain⟨e,u⟩:=q
   rw[hq]at hr
   subst hr
   have hlt:=xT _ _ _ _ hq
   obtain⟨c,d,hd,he⟩:=BC e
   simp only[he,↓zq,zs,ae,zt,bF]
   cases u with
   |
    nil =>
    refine⟨hd,c,d,hd,?_,fun _=>⟨e,rfl,he.symm⟩⟩
    simp
   |
    cons b u =>
    simp only[az]at hlt |-
    refine⟨hd,c,d,hd,?_,fun h=>by cases h⟩
    have:(((s.length-(u.length+1):Nat):Int)==(s.length:Int))=false:=by simp;omega
    rw[this];rfl
def wC(s:List UInt8):Option E:=match qO s with
 |none=>none
 |some e=>if jS e=true/\e.dc<=400 then some e else none
theorem HM(s:List UInt8):an Tryz.prog 83 [.v (.string (mk s))] [] (jI (wC s) (wC s).isSome):=by
 refine Qh _ ?_
 unfold N6
 refine aP (K4 s) (jI.ne _ _ (fun h=>h)) ?_
 rintro r o ⟨c,d,hd,rfl,hh⟩
 simp only[↓zq,zs,ae,zt,bF,wC]
 refine⟨hd,fun h=>?_,fun h=>?_⟩
 ·obtain⟨e,he,hce⟩:=hh h
  obtain⟨hok,hsz⟩:=nM he
  rw[he,hce]
  refine ai (Af e hok) ?_
  simp only[↓zq,zs,ae]
  refine⟨fun hi=>?_,fun hi=>?_⟩
  ·refine ai (DZ e hok (by omega)) ?_
   simp only[↓zq,zs,ae,hi]
   refine⟨c,d,hd,?_,?_⟩
   ·rw[hce]
    by_cases h4:e.dc<=400
    ·rw[if_pos h4];exact congrArg (fun b=>AV.cD [e.kD,.v (.bool b)]) (decide_eq_true (show ((e.dc:Nat):Int)<=400 by omega))
    ·rw[if_neg h4];exact congrArg (fun b=>AV.cD [e.kD,.v (.bool b)]) (decide_eq_false (show ¬((e.dc:Nat):Int)<=400 by omega))
   ·split
    ·exact fun _=>⟨e,rfl,hce⟩
    ·exact fun h=>by cases h
  ·refine⟨c,d,hd,?_,?_⟩
   ·rw[hce,if_neg (by rw[hi];simp)];rfl
   ·rw[if_neg (by rw[hi];simp)];exact fun h=>by cases h
 ·have hn:qO s=none:=by cases hq:qO s<;>simp[hq]at h |-
  rw[hn]
  exact⟨c,d,hd,rfl,fun h=>by cases h⟩
theorem pL{s:List UInt8}{e:E}(h:wC s=some e):qO s=some e/\jS e=true/\e.dc<=400:=by
 unfold wC at h
 split at h
 ·cases h
 ·split at h
  ·rename_i e' h1 h2;cases h;exact⟨h1,h2⟩
  ·cases h
end Go.Proofs.Trees
namespace Go.Proofs.Trees
open Go Go.VL
def cf:Ty->Bool
 | .name s=>dm s
 | .plus a b=>cf a||cf b
 | .times a b=>cf a||cf b
 | .rc a=>cf a
 |_=>false
theorem gP:∀(t:Ty) (out:List (List UInt8)),(bO t out).any dm=(out.any dm||cf t)
 |
  .name s,out=>by
  simp only[bO,pD,cf]
  split
  ·rename_i h
   cases hs:dm s with
   |false=>simp
   |true=>rw[Bool.or_true,cu];exact⟨s,h,hs⟩
  ·simp
 | .plus a b,out=>by simp only[bO,cf,gP a,gP b,Bool.or_assoc]
 | .times a b,out=>by simp only[bO,cf,gP a,gP b,Bool.or_assoc]
 | .rc a,out=>by simp only[bO,cf,gP a]
 | .zero,out=>by simp[bO,cf]
 | .one,out=>by simp[bO,cf]
 | .bound u,out=>by simp[bO,cf]
theorem s5(t:Ty):t.closed = !cf t:=by simp[Ty.closed,gP]
def pl:Ty->Bool
 | .name s=>decide (s.length<=1)
 | .plus a b=>pl a&&pl b
 | .times a b=>pl a&&pl b
 | .rc a=>false
 |_=>true
theorem lM{lo hi:Nat}{s:List UInt8}(h:named lo hi s=true):∃c r,s=c::r/\lo<=c.toNat/\c.toNat<=hi:=by
 cases s with
 |nil=>cases h
 |cons c r=>simp only[named,aw,decide_eq_true_eq]at h;exact⟨c,r,rfl,by omega,by omega⟩
theorem fL{x a b:E}{ar:List (List UInt8)}{t:Ty}(hx:x.at=[43])(h:cT (.list [x,a,b]) ar=some t):∃t1 t2,cT a ar=some t1/\cT b ar=some t2/\t=.plus t1 t2:=by
 rw[lu ar hx]at h
 split at h
 ·rename_i t1 t2 e1 e2;cases h;exact⟨t1,t2,e1,e2,rfl⟩
 ·cases h
theorem fk{x a b:E}{ar:List (List UInt8)}{t:Ty}(hx:x.at=[42])(h:cT (.list [x,a,b]) ar=some t):∃t1 t2,cT a ar=some t1/\cT b ar=some t2/\t=.times t1 t2:=by
 rw[jP ar hx]at h
 split at h
 ·rename_i t1 t2 e1 e2;cases h;exact⟨t1,t2,e1,e2,rfl⟩
 ·cases h
theorem dy{x a b:E}{ar:List (List UInt8)}{t:Ty}(hx:x.at=[114,101,99])(h:cT (.list [x,a,b]) ar=some t):∃t1,dm a.at=true/\cT b (ar++[a.at])=some t1/\t=.rc t1:=by
 rw[mw ar hx]at h
 split at h
 ·rename_i hl
  split at h
  ·rename_i t1 e1;cases h;exact⟨t1,hl,e1,rfl⟩
  ·cases h
 ·cases h
theorem uW{s:List UInt8}:qJ s=match wC s with|none=>none|some e=>cT e []:=by
 unfold qJ wC
 cases he:qO s with
 |none=>rfl
 |
  some e =>
  have hs:=iY e []
  simp only
  cases ht:cT e []with
  |
   none =>
   rw[ht]at hs
   rw[if_neg (by rw[<-hs];simp)]
  |
   some t =>
   rw[ht]at hs
   have ha:=jR e [] t ht
   by_cases h4:e.dc<=400
   ·rw[if_pos ⟨hs.symm,h4⟩];dsimp only;rw[if_neg (by omega)];exact ht.symm
   ·rw[if_neg (fun h=>h4 h.2)];dsimp only;rw[if_pos (by omega)]
end Go.Proofs.Trees
namespace Go.Proofs.Trees
open Go Go.VL
def pure:Ty->Bool
 | .zero=>true
 | .one=>true
 | .name s=>(s==[120])||(s==[121])||(s==[122])
 | .plus a b=>pure a&&pure b
 | .times a b=>pure a&&pure b
 |_=>false
def NJ(v:Nat):Option Nat:=if v<=1000000000 then some v else none
def IM(n:Nat):Ty->Option Nat
 | .zero=>some 0
 | .one=>some 1
 | .name _=>some n
 | .plus a b=>match IM n a,IM n b with|some x,some y=>NJ (x+y)|_,_=>none
 | .times a b=>match IM n a,IM n b with|some x,some y=>NJ (x*y)|_,_=>none
 |_=>none
def Lp(x:Option Nat):AV->List Ob->Prop:=fun r o=>∃v:Int,r=.cD [.v (.int .i64 v),.v (.bool x.isSome)]/\∀c,x=some c->v=(c:Int)
theorem Lp.ne(x:Option Nat):∃r o,Lp x r o:=by
 cases x with
 |none=>exact⟨_,[],0,rfl,fun c h=>by cases h⟩
 |some c=>exact⟨_,[],(c:Int),rfl,fun c' h=>by cases h;rfl⟩
end Go.Proofs.Trees
namespace Go.Proofs.Trees
open Go Go.VL Go.RowKit
abbrev dd(n:Nat):List UInt8:=Lib.decDigits n
theorem eI{k:Nat}(h:k<10):dd k=[bj (48+k)]:=by rw[dd,Lib.decDigits,dif_pos h]
theorem fR{k:Nat}(h:¬k<10):dd k=dd (k/10)++[bj (48+k%10)]:=by rw[dd,Lib.decDigits,dif_neg h]
theorem mn:∀(n k:Nat),k<n->(dd k).length<=k+1
 |0,k,h=>by omega
 |
  n+1,k,h=>by
  by_cases h1:k<10
  ·rw[eI h1];simp
  ·rw[fR h1]
   have:=mn n (k/10) (by omega)
   simp only[aq,az,aG];omega
theorem yx(d:Nat)(h:d<10):(Value.int .u8 (IntKind.wrap .u8 (IntKind.wrap .i64 (48+(d:Int)))))=.int .u8 ((bj (48+d)).toNat:Int):=by
 have:d=0\/d=1\/d=2\/d=3\/d=4\/d=5\/d=6\/d=7\/d=8\/d=9:=by omega
 rcases this with rfl|rfl|rfl|rfl|rfl|rfl|rfl|rfl|rfl|rfl<;>rfl
theorem qp(b:UInt8):bytesOf [[.v (.int .u8 (b.toNat:Int))]]=[b]:=by simp[bytesOf,yl]
theorem lh(b:UInt8):jB [[.v (.int .u8 (b.toNat:Int))]]:=⟨rfl,(l5 _ _).mpr trivial,trivial⟩
theorem Ao:∀(n k:Nat),k<n->k<1000000000->an Tryz.prog 90 [.v (.int .i64 (k:Int))] [] (bJ (.v (.string (mk (dd k)))))
 |0,k,h,_=>by omega
 |
  n+1,k,h,hk=>by
  refine R7 _ ?_
  simp only[K6,↓zq,zs,ae,bJ]
  refine⟨fun h=>by omega,fun _=>⟨fun h=>by omega,fun _=>⟨fun h1=>?_,fun h1=>⟨by omega,?_⟩⟩⟩⟩
  ·rw[yx k (by omega)]
   refine⟨lh _,?_⟩
   rw[qp,eI (by omega)];rfl
  ·have e1:IntKind.wrap .i64 (Int.tdiv (k:Int) 10)=((k/10:Nat):Int):=by
    rw[show Int.tdiv (k:Int) 10=((k/10:Nat):Int) from (Int.ofNat_tdiv k 10).symm,wrap64 _ (by omega) (by omega)]
   have e2:dH (k:Int) 10=((k%10:Nat):Int):=(Int.ofNat_tmod k 10).symm
   rw[e1,e2,yx (k%10) (by omega)]
   refine ai (Ao n (k/10) (by omega) (by omega)) ?_
   have hl:=mn (k+1) (k/10) (by omega)
   simp only[↓zq,zs,ae,zt,qp]
   have h9:(k:Int)<1000000000:=by omega
   refine⟨by omega,lh _,?_,?_⟩
   ·show (mk (dd (k/10))).size+(mk [bj (48+k%10)]).size<=_
    rw[cN,cN];simp;omega
   ·show AV.v (.string (mk (dd (k/10))++mk [bj (48+k%10)]))=_
    rw[kS,fR (k:=k) (by omega)]
theorem zY(s:List UInt8)(d:AV)(hd:LK.sl.has d)(h:s≠[]):an Tryz.prog 86 [.agg [.v (.string (mk s)),d]] [] (bJ (.v (.string (mk [])))):=by
 refine Ft _ _ hd ?_
 simp only[Dh,↓zq,zs,ae,zt,bJ]
 exact⟨fun _=>trivial,fun h'=>absurd h' h⟩
theorem Em(e:E):AV.agg [.v (.string ((e.kD.cs.getD 0 .any).toStr)),e.kD.cs.getD 1 .any]=e.kD:=by cases e<;>rfl
mutual
def e9:E->List UInt8
 | .atom s=>s
 | .list []=>[40,41]
 | .list (e::l)=>40::(e9 e++(ej l++[41]))
def ej:List E->List UInt8
 |[]=>[]
 |e::l=>32::(e9 e++ej l)
end
theorem Ai:∀(l:List E) (i:Nat) (h:i<l.length),ej (l.drop i)=32::(e9 l[i]++ej (l.drop (i+1))):=by
 intro l i h
 rw[aR h,ej]
theorem MB(l:List E)(hll:l.length<1000000000000)(ih:∀i (h:i<l.length),an Tryz.prog 63 [(l[i]).kD] [] (bJ (.v (.string (mk (e9 l[i])))))) :
 ∀(k i:Nat) (out:List UInt8),i+k=l.length->1<=i->out.length+(ej (l.drop i)).length<=1000000000000->Ca [.v (.string (mk out)),.v (.int .i64 (i:Int))] [.cells [.v (.string (mk [])),.sl (E.bw l)]] (iG 1 [.v (.string (mk (out++ej (l.drop i))))] [])
 |
  0,i,out,hi,h1,hn=>by
  refine Eo _ _ _ _ ?_
  simp only[CD,↓zq,zs,ae,eh]
  have:l.drop i=[]:=bS (by omega)
  refine⟨fun h=>by omega,fun _=>?_⟩
  simp[iG,this,ej]
 |
  k+1,i,out,hi,h1,hn=>by
  have hlt:i<l.length:=by omega
  have hd:=Ai l i hlt
  rw[hd]at hn
  simp only[az,aq]at hn
  refine Eo _ _ _ _ ?_
  simp only[CD,↓zq,zs,ae,zt,eh,jF l i hlt,gj,iT,iP,au]
  refine⟨fun _=>⟨fun _=>⟨by omega,by omega,?_⟩,fun h=>by omega⟩,fun h=>by omega⟩
  refine ai (ih i hlt) ?_
  simp only[↓zq,zs,ae,zt]
  refine⟨by simp;omega,?_⟩
  rw[bA i (by omega),hd]
  have:=MB l hll ih k (i+1) (out++[32]++e9 l[i]) (by omega) (by omega) (by simp;omega)
  simpa using this
theorem ye:∀(l:List E) (i:Nat) (h:i<l.length),(e9 l[i]).length<=(ej l).length
 |e::l,0,_=>by simp only[ej,List.getElem_cons_zero,az,aq];omega
 |e::l,i+1,h=>by have:=ye l i (by simpa using h);simp only[ej,List.getElem_cons_succ,az,aq];omega
theorem sr:∀l:List E,l.length<=(ej l).length
 |[]=>by simp[ej]
 |e::l=>by have:=sr l;simp only[ej,az,aq];omega
theorem Dy:∀(n:Nat) (e:E),e.sz<n->e.ok->(e9 e).length<=900000000000->an Tryz.prog 63 [e.kD] [] (bJ (.v (.string (mk (e9 e)))))
 |0,e,hn,_,_=>by omega
 |
  n+1,.atom s,hn,hok,hl=>by
  refine H2 _ _ ((bh).mpr trivial) ?_
  have hne:s≠[]:=hok
  simp only[Ey,↓zq,zs,ae,zt,bJ]
  exact⟨fun _=>rfl,fun h=>absurd h hne⟩
 |
  n+1,.list [],hn,hok,hl=>by
  refine H2 _ _ ((cc _).mpr trivial) ?_
  simp only[Ey,↓zq,zs,ae,zt,bJ]
  refine⟨fun h=>absurd rfl h,fun _=>?_⟩
  have h1:Ca [.v (.string (mk [40])),.v (.int .i64 0)] [.cells [.v (.string (mk [])),.sl (E.bw [])]] (iG 1 [.v (.string (mk [40]))] []):=by
   refine Eo _ _ _ _ ?_
   simp[CD,↓zq,zs,ae,E.bw,iG]
  refine cJ h1 ?_
  simp only[↓zq,zs,ae,zt]
  exact⟨by simp,rfl⟩
 |
  n+1,.list (x::l),hn,hok,hl=>by
  refine H2 _ _ ((cc _).mpr trivial) ?_
  simp only[E.sz,E.jt]at hn
  simp only[e9,az,aq,aG]at hl
  have h2:=sr l
  simp only[Ey,↓zq,zs,ae,zt,bJ]
  refine⟨fun h=>absurd rfl h,fun _=>?_⟩
  have hL:Ca [.v (.string (mk [40])),.v (.int .i64 0)] [.cells [.v (.string (mk [])),.sl (E.bw (x::l))]] (iG 1 [.v (.string (mk ([40]++e9 x++ej l)))] []):=by
   refine Eo _ _ _ _ ?_
   simp only[CD,E.bw,Int.toNat_zero,↓zq,zs,ae,zt,eh,gj,iT,iP,au]
   refine⟨fun _=>⟨fun h=>by omega,fun _=>⟨by omega,?_⟩⟩,fun h=>by omega⟩
   refine ai (Dy n x (by omega) hok.1 (by omega)) ?_
   simp only[↓zq,zs,ae,zt]
   refine⟨by simp;omega,?_⟩
   have:=MB (x::l) (by simp;omega) (fun i hi=>by
    have h3:=tM (x::l) i hi
    simp only[E.jt]at h3
    refine Dy n _ (by omega) (ug _ i hi hok) ?_
    have h4:=ye (x::l) i hi
    simp only[ej,az,aq]at h4
    omega) l.length 1 ([40]++e9 x) (by simp;omega) (by omega) (by simp;omega)
   rw[show IntKind.wrap .i64 (0+1)=1 from rfl]
   simpa[E.bw]using this
  refine cJ hL ?_
  simp only[↓zq,zs,ae,zt]
  refine⟨by simp;omega,?_⟩
  simp[e9]
theorem CX(e:E)(h:e.ok)(hl:(e9 e).length<=900000):an Tryz.prog 63 [e.kD] [] (bJ (.v (.string (mk (e9 e))))):=Dy (e.sz+1) e (by omega) h (by omega)
mutual
def E.nd:E->Nat
 | .atom _=>1
 | .list []=>1
 | .list (_::l)=>1+E.vf l
def E.vf:List E->Nat
 |[]=>0
 |e::l=>e.nd+E.vf l
end
mutual
theorem AN:∀e:E,e.nd<=e.sz
 | .atom s=>by simp[E.nd,E.sz]
 | .list []=>by simp[E.nd,E.sz,E.jt]
 | .list (x::l)=>by have:=xb l;simp only[E.nd,E.sz,E.jt];omega
theorem xb:∀l:List E,E.vf l<=E.jt l
 |[]=>by simp[E.vf,E.jt]
 |e::l=>by have:=AN e;have:=xb l;simp only[E.vf,E.jt];omega
end
theorem AU:∀(l:List E) (i:Nat) (h:i<l.length),E.vf (l.drop i)=(l[i]).nd+E.vf (l.drop (i+1)):=by
 intro l i h
 rw[aR h];rfl
theorem LD(l:List E)(hl:E.vf l<1000000)(hll:l.length<1000000)(ih:∀i (h:i<l.length),an Tryz.prog 104 [(l[i]).kD] [] (bJ (.v (.int .i64 ((l[i]).nd:Int))))) :
 ∀(k i n:Nat),i+k=l.length->n+E.vf (l.drop i)<=1+E.vf l->Cy [.v (.int .i64 (n:Int)),.v (.int .i64 (i:Int))] [.cells [.v (.string (mk [])),.sl (E.bw l)]] (iG 1 [.v (.int .i64 ((n+E.vf (l.drop i):Nat):Int))] [])
 |
  0,i,n,hi,hn=>by
  refine Dz _ _ _ _ ?_
  simp only[By,↓zq,zs,ae,eh]
  have:l.drop i=[]:=bS (by omega)
  refine⟨fun h=>by omega,fun _=>?_⟩
  simp[iG,this,E.vf]
 |
  k+1,i,n,hi,hn=>by
  have hlt:i<l.length:=by omega
  refine Dz _ _ _ _ ?_
  simp only[By,↓zq,zs,ae,zt,eh,jF l i hlt,gj,iT,iP,au]
  refine⟨fun _=>⟨by omega,?_⟩,fun h=>by omega⟩
  refine ai (ih i hlt) ?_
  have h1:=AU l i hlt
  simp only[↓zq,zs,ae]
  rw[bA i (by omega),wrap64 _ (by omega) (by omega)]
  have:=LD l hl hll ih k (i+1) (n+(l[i]).nd) (by omega) (by omega)
  rw[h1,<-Nat.add_assoc]
  simpa using this
theorem OP:∀(n:Nat) (e:E),e.sz<n->e.sz<900000->an Tryz.prog 104 [e.kD] [] (bJ (.v (.int .i64 (e.nd:Int))))
 |0,e,hn,_=>by omega
 |
  n+1,.atom s,hn,hl=>by
  refine Kj _ _ ((bh).mpr trivial) ?_
  simp only[HT]
  have hL:Cy [.v (.int .i64 1),.v (.int .i64 1)] [.cells [.v (.string (mk s)),.v (.slice none 0 0)]] (iG 1 [.v (.int .i64 1)] []):=by
   refine Dz _ _ _ _ ?_
   simp[By,↓zq,zs,ae,iG]
  refine cJ hL ?_
  simp[↓zq,zs,ae,bJ,E.nd]
 |
  n+1,.list l,hn,hl=>by
  refine Kj _ _ ((cc _).mpr trivial) ?_
  simp only[E.sz]at hn hl
  simp only[HT]
  match l,hn,hl with
  |
   [],hn,hl =>
   have hL:Cy [.v (.int .i64 1),.v (.int .i64 1)] [.cells [.v (.string (mk [])),.sl (E.bw [])]] (iG 1 [.v (.int .i64 1)] []):=by
    refine Dz _ _ _ _ ?_
    simp[By,↓zq,zs,ae,iG,E.bw]
   refine cJ hL ?_
   simp[↓zq,zs,ae,bJ,E.nd]
  |
   x::l,hn,hl =>
   simp only[E.jt]at hn hl
   have h1:=xb l
   have h2:=tW l
   have h0:=AN x
   refine cJ (LD (x::l) (by simp only[E.vf];omega) (by simp;omega) (fun i hi=>?_) l.length 1 1 (by simp;omega) (by simp[E.vf])) ?_
   ·have:=tM (x::l) i hi
    simp only[E.jt]at this
    exact OP n _ (by omega) (by omega)
   ·simp[↓zq,zs,ae,E.nd,bJ]
theorem Pq(e:E)(hl:e.sz<900000):an Tryz.prog 104 [e.kD] [] (bJ (.v (.int .i64 (e.nd:Int)))):=OP (e.sz+1) e (by omega) hl
inductive Vl where
 |u
 |el (k:Nat)
 |l (v:Vl)
 |r (v:Vl)
 |f (v:Vl)
 |p (a b:Vl)
abbrev wZ(k:Nat):List UInt8:=101::dd k
abbrev gp:AV:=.v (.pointer none)
def Vl.cA:Vl->AV
 | .u=>.ptr [.v (.int .u8 117),.v (.string (mk [])),gp,gp]
 | .el k=>.ptr [.v (.int .u8 101),.v (.string (mk (wZ k))),gp,gp]
 | .l v=>.ptr [.v (.int .u8 108),.v (.string (mk [])),v.cA,gp]
 | .r v=>.ptr [.v (.int .u8 114),.v (.string (mk [])),v.cA,gp]
 | .f v=>.ptr [.v (.int .u8 102),.v (.string (mk [])),v.cA,gp]
 | .p a b=>.ptr [.v (.int .u8 112),.v (.string (mk [])),a.cA,b.cA]
def Vl.cL:Vl->E
 | .u=>.atom [117]
 | .el k=>.atom (wZ k)
 | .l v=>.list [.atom [108],v.cL]
 | .r v=>.list [.atom [114],v.cL]
 | .f v=>.list [.atom [102],v.cL]
 | .p a b=>.list [.atom [112],a.cL,b.cL]
def Vl.nodes:Vl->Nat
 | .l v=>1+v.nodes
 | .r v=>1+v.nodes
 | .f v=>1+v.nodes
 | .p a b=>1+a.nodes+b.nodes
 |_=>1
def Vl.gZ(n:Nat):Vl->Prop
 | .el k=>k<n
 | .l v=>v.gZ n
 | .r v=>v.gZ n
 | .f v=>v.gZ n
 | .p a b=>a.gZ n/\b.gZ n
 | .u=>True
abbrev Vl.cw(v:Vl):List UInt8:=e9 v.cL
theorem aM(v:Vl):LK.has .ptr v.cA=True:=by cases v<;>simp[Vl.cA,cd]
theorem fw(v:Vl):v.cA.isNil=false:=by cases v<;>rfl
theorem mK:∀v:Vl,v.cL.ok
 | .u=>by simp[Vl.cL,E.ok]
 | .el k=>by simp[Vl.cL,E.ok]
 | .l v=>⟨by simp[E.ok],mK v,trivial⟩
 | .r v=>⟨by simp[E.ok],mK v,trivial⟩
 | .f v=>⟨by simp[E.ok],mK v,trivial⟩
 | .p a b=>⟨by simp[E.ok],mK a,mK b,trivial⟩
theorem nL:∀v:Vl,v.cL.nd=v.nodes
 | .u=>rfl
 | .el k=>rfl
 | .l v=>by simp[Vl.cL,E.nd,E.vf,Vl.nodes,nL v]
 | .r v=>by simp[Vl.cL,E.nd,E.vf,Vl.nodes,nL v]
 | .f v=>by simp[Vl.cL,E.nd,E.vf,Vl.nodes,nL v]
 | .p a b=>by simp[Vl.cL,E.nd,E.vf,Vl.nodes,nL a,nL b,Nat.add_assoc]
theorem jf:∀v:Vl,v.gZ 100->v.cw.length<=200*v.nodes
 | .u,_=>by simp[Vl.cw,Vl.cL,e9,Vl.nodes]
 |
  .el k,h=>by
  have h':k<100:=h
  have:=mn 1000 k (by omega)
  simp only[Vl.cw,Vl.cL,e9,Vl.nodes,az];omega
 | .l v,h=>by have:=jf v h;simp only[Vl.cw,Vl.cL,e9,ej,Vl.nodes,az,aq,aG]at this |-;omega
 | .r v,h=>by have:=jf v h;simp only[Vl.cw,Vl.cL,e9,ej,Vl.nodes,az,aq,aG]at this |-;omega
 | .f v,h=>by have:=jf v h;simp only[Vl.cw,Vl.cL,e9,ej,Vl.nodes,az,aq,aG]at this |-;omega
 | .p a b,h=>by have:=jf a h.1;have:=jf b h.2;simp only[Vl.cw,Vl.cL,e9,ej,Vl.nodes,az,aq,aG]at *;omega
theorem zQ(a b:AV)(h:LK.ptr.has a)(h':LK.ptr.has b):an Tryz.prog 109 [a,b] [] (bJ (.ptr [.v (.int .u8 112),.v (.string (mk [])),a,b])):=by
 refine QE _ _ h h' ?_
 simp[J7,↓zq,zs,ae,bJ]
theorem dw(v:Vl):1<=v.nodes:=by cases v<;>simp[Vl.nodes]<;>omega
theorem E2:∀(v:Vl),v.nodes<1000000->an Tryz.prog 56 [v.cA] [] (bJ (.v (.int .i64 (v.nodes:Int))))
 | .u,h=>by refine zP _ ((aM _).mpr trivial) ?_;simp[wW,Vl.cA,↓zq,zs,ae,bJ,Vl.nodes]
 | .el k,h=>by refine zP _ ((aM _).mpr trivial) ?_;simp[wW,Vl.cA,↓zq,zs,ae,bJ,Vl.nodes]
 |
  .l v,h=>by
  simp only[Vl.nodes]at h
  refine zP _ ((aM _).mpr trivial) ?_
  simp only[wW,Vl.cA,↓zq,zs,ae,aM,fw]
  refine⟨by omega,fun _=>⟨by omega,?_⟩,fun h=>(by cases h)⟩
  refine ai (E2 v (by omega)) ?_
  simp only[↓zq,zs,ae,bJ,Vl.nodes]
  rw[wrap64 _ (by omega) (by omega)]
  simp
 |
  .r v,h=>by
  simp only[Vl.nodes]at h
  refine zP _ ((aM _).mpr trivial) ?_
  simp only[wW,Vl.cA,↓zq,zs,ae,aM,fw]
  refine⟨by omega,fun _=>⟨by omega,?_⟩,fun h=>(by cases h)⟩
  refine ai (E2 v (by omega)) ?_
  simp only[↓zq,zs,ae,bJ,Vl.nodes]
  rw[wrap64 _ (by omega) (by omega)]
  simp
 |
  .f v,h=>by
  simp only[Vl.nodes]at h
  refine zP _ ((aM _).mpr trivial) ?_
  simp only[wW,Vl.cA,↓zq,zs,ae,aM,fw]
  refine⟨by omega,fun _=>⟨by omega,?_⟩,fun h=>(by cases h)⟩
  refine ai (E2 v (by omega)) ?_
  simp only[↓zq,zs,ae,bJ,Vl.nodes]
  rw[wrap64 _ (by omega) (by omega)]
  simp
 |
  .p a b,h=>by
  simp only[Vl.nodes]at h
  refine zP _ ((aM _).mpr trivial) ?_
  simp only[wW,Vl.cA,↓zq,zs,ae,aM,fw]
  refine⟨by omega,fun _=>⟨by omega,?_⟩,fun h=>(by cases h)⟩
  refine ai (E2 a (by omega)) ?_
  simp only[↓zq,zs,ae,aM,fw]
  rw[wrap64 (1+(a.nodes:Int)) (by omega) (by omega)]
  refine⟨by omega,fun _=>⟨by omega,?_⟩,fun h=>(by cases h)⟩
  refine ai (E2 b (by omega)) ?_
  simp only[↓zq,zs,ae,bJ,Vl.nodes]
  rw[wrap64 _ (by omega) (by omega)]
  congr 2
end Go.Proofs.Trees
namespace Go.Proofs.Trees
open Go Go.VL Go.RowKit
def zX:List UInt8->Nat->Option Nat
 |[],n=>some n
 |b::r,n=>if ic b=true then zX r (10*n+(b.toNat-48))else none
def fQ(s:List UInt8):Option Nat :=
 if s.length=2\/s.length=3 then(if s.getD 0 0=101/\¬(s.length=3/\s.getD 1 0=48)then zX (s.drop 1) 0 else none)else none
def AS(s:List UInt8):Int:=match fQ s with|some k=>(k:Int)|none=>-1
theorem KV(s:List UInt8)(hs:s.length<=3):∀(k i n:Nat),i+k=s.length->1<=i->(n+1)*10 ^ k<=1000->GQ [.v (.string (mk s)),.v (.int .i64 (n:Int)),.v (.int .i64 (i:Int))] []
 (nU (match zX (s.drop i) n with|some m=>(1,[.v (.int .i64 (m:Int))],[])|none=>(2,[.v (.int .i64 (-1))],[])))
 |
  0,i,n,hi,h1,hn=>by
  refine LC _ _ _ ?_
  have hd:s.drop i=[]:=bS (by omega)
  simp only[GF,↓zq,zs,ae,zt,hd,zX]
  exact⟨fun h=>by omega,fun _=>by first|trivial|rfl⟩
 |
  k+1,i,n,hi,h1,hn=>by
  have hlt:i<s.length:=by omega
  refine LC _ _ _ ?_
  rw[drop_cons hlt,zX]
  simp only[GF,↓zq,zs,ae,zt,me s i hlt]
  generalize s.getD i 0=b
  have hb:=b.toNat_lt
  refine⟨fun _=>⟨by omega,fun h48=>?_,fun h48=>⟨by omega,fun h57=>?_,fun h57=>⟨by omega,?_⟩⟩⟩,fun h=>by omega⟩
  ·have:ic b=false:=by simp only[ic,decide_eq_false_iff_not];omega
   rw[this];rfl
  ·have:ic b=false:=by simp only[ic,decide_eq_false_iff_not];omega
   rw[this];rfl
  ·have:ic b=true:=by simp only[ic,decide_eq_true_eq];omega
   rw[if_pos this]
   have hk:k=0\/k=1:=by omega
   have hn2:n*10<=1000:=by
    rcases hk with rfl|rfl<;>simp at hn<;>omega
   have e8:IntKind.wrap .u8 ((b.toNat:Int)-48)=((b.toNat-48:Nat):Int):=by
    have:b.toNat=48\/b.toNat=49\/b.toNat=50\/b.toNat=51\/b.toNat=52\/b.toNat=53\/b.toNat=54\/b.toNat=55\/b.toNat=56\/b.toNat=57:=by omega
    rcases this with h|h|h|h|h|h|h|h|h|h<;>rw[h]<;>rfl
   rw[e8,bA i (by omega),wrap64 ((b.toNat-48:Nat):Int) (by omega) (by omega),wrap64 (10*(n:Int)) (by omega) (by omega),wrap64 _ (by omega) (by omega)]
   have e:(10*(n:Int)+((b.toNat-48:Nat):Int))=((10*n+(b.toNat-48):Nat):Int):=by omega
   rw[e]
   exact KV s hs k (i+1) _ (by omega) (by omega) (by rcases hk with rfl|rfl<;>simp at hn |-<;>omega)
theorem Js(s:List UInt8):an Tryz.prog 127 [.v (.string (mk s))] [] (bJ (.v (.int .i64 (AS s)))):=by
 refine Q8 _ ?_
 unfold LH
 refine ai (zO _ _ _) ?_
 simp only[↓zq,zs,ae,zt,xS,bJ]
 have hL:∀(Q:Nat->List AV->List Ob->Prop),(s.length=2\/s.length=3)->s.getD 0 0=101->¬(s.length=3/\s.getD 1 0=48)->(Q 0 [.v (.int .i64 (AS s))] []) ->
  eZ Tryz.prog 49 (.loop D7 Cz [.v (.string (mk s)),.v (.int .i64 0),.v (.int .i64 1)] [] (fun y2 q2=>.aj (LK.has (.int .i64) (y2.headD .any))<|.done 0 [.v (.int .i64 ((y2.headD .any).toInt))] []) (fun y2 q2=>.aj (LK.has (.int .i64) (y2.headD .any))<|.done 0 [.v (.int .i64 ((y2.headD .any).toInt))] [])) Q:=by
  intro Q hl h0 h1 hQ
  have e:fQ s=zX (s.drop 1) 0:=by rw[fQ,if_pos hl,if_pos ⟨h0,h1⟩]
  refine fm (KV s (by omega) (s.length-1) 1 0 (by omega) (by omega) (by rcases hl with h|h<;>rw[h]<;>decide)) (fun ys o e'=>?_) (fun ys o e'=>?_)
  ·cases hq:zX (s.drop 1) 0<;>rw[hq]at e'<;>cases e'
   rw[hq]at e
   simp only[AS,e]at hQ
   simp only[↓zq,zs,ae];exact hQ
  ·cases hq:zX (s.drop 1) 0<;>rw[hq]at e'<;>cases e'
   rw[hq]at e
   simp only[AS,e]at hQ
   simp only[↓zq,zs,ae];exact hQ
 have hz:∀{i:Nat},i<s.length->bt (mk s) (i:Int)=((s.getD i 0).toNat:Int):=fun h=>me s _ h
 refine⟨fun h=>?_,fun h=>⟨?_,fun h0=>?_,fun h0=>⟨fun h3=>⟨by omega,fun h1=>?_,fun h1=>?_⟩,fun h3=>?_⟩⟩⟩
 ·have h':¬(2<=(s.length:Int)/\(s.length:Int)<=3):=by simpa using h
  rw[AS,fQ,if_neg (by omega)]
 ·have h':2<=(s.length:Int)/\(s.length:Int)<=3:=by simpa using h
  omega
 ·have h':2<=(s.length:Int)/\(s.length:Int)<=3:=by simpa using h
  have e0:=hz (i:=0) (by omega)
  simp only[Int.ofNat_eq_natCast,Int.cast_ofNat_Int]at e0
  rw[e0]at h0
  rw[AS,fQ,if_pos (by omega),if_neg]
  rintro⟨e,_⟩
  rw[e]at h0;exact h0 rfl
 ·have h':2<=(s.length:Int)/\(s.length:Int)<=3:=by simpa using h
  have e1:=hz (i:=1) (by omega)
  simp only[Int.ofNat_eq_natCast,Int.cast_ofNat_Int]at e1
  rw[e1]at h1
  rw[AS,fQ,if_pos (by omega),if_neg]
  rintro⟨_,e⟩
  refine e ⟨by omega,?_⟩
  rw[<-UInt8.toNat_inj];show (s.getD 1 0).toNat=48;omega
 ·have h':2<=(s.length:Int)/\(s.length:Int)<=3:=by simpa using h
  have e0:=hz (i:=0) (by omega)
  have e1:=hz (i:=1) (by omega)
  simp only[Int.ofNat_eq_natCast,Int.cast_ofNat_Int]at e0 e1
  rw[e0]at h0;rw[e1]at h1
  refine hL _ (by omega) ?_ ?_ ⟨rfl,rfl⟩
  ·rw[<-UInt8.toNat_inj];show (s.getD 0 0).toNat=101;omega
  ·rintro⟨_,e⟩;rw[e]at h1;exact h1 rfl
 ·have h':2<=(s.length:Int)/\(s.length:Int)<=3:=by simpa using h
  have e0:=hz (i:=0) (by omega)
  simp only[Int.ofNat_eq_natCast,Int.cast_ofNat_Int]at e0
  rw[e0]at h0
  refine hL _ (by omega) ?_ ?_ ⟨rfl,rfl⟩
  ·rw[<-UInt8.toNat_inj];show (s.getD 0 0).toNat=101;omega
  ·rintro⟨e,_⟩;omega
theorem pk:∀(l:List UInt8) (n:Nat),(zX l n).isSome=l.all ic
 |[],n=>rfl
 |
  b::l,n=>by
  rw[zX]
  cases hb:ic b with
  |true=>rw[if_pos rfl,pk l];simp[hb]
  |false=>rw[if_neg (by simp)];simp[hb]
theorem Nv(s:List UInt8):an Tryz.prog 158 [.v (.string (mk s))] [] (bJ (.v (.bool (fQ s).isSome))):=by
 refine RO _ ?_
 simp only[JS,↓zq,zs,ae,zt,bJ]
 have hz:∀{i:Nat},i<s.length->bt (mk s) (i:Int)=((s.getD i 0).toNat:Int):=fun h=>me s _ h
 refine⟨fun h=>?_,fun h=>⟨fun h3=>?_,fun h3=>?_⟩⟩
 ·rw[fQ,if_neg (by omega)];rfl
 ·rw[fQ,if_neg (by omega)];rfl
 ·have e0:=hz (i:=0) (by omega)
  have e1:=hz (i:=1) (by omega)
  simp only[Int.ofNat_eq_natCast,Int.cast_ofNat_Int]at e0 e1
  rw[e0,e1]
  have hx:s.drop (bK 1)=s.drop 1:=rfl
  refine⟨by omega,fun h0=>?_,fun h0=>⟨by omega,?_⟩⟩
  ·rw[fQ,if_pos (by omega),if_neg]
   ·rfl
   ·rintro⟨e,_⟩;rw[e]at h0;exact h0 rfl
  ·rw[hx]
   refine ai (Lz (s.drop 1) GK (by simp;omega) (by decide) (by decide)) ?_
   simp only[↓zq,zs,ae,zt]
   have h101:s.getD 0 0=101:=by rw[<-UInt8.toNat_inj];show (s.getD 0 0).toNat=101;omega
   have hall:Lib.trimS (s.drop 1) GK=[]↔(s.drop 1).all ic=true:=by
    rw[tC]
    have:(fun x=>GK.contains x)=ic:=funext vy
    rw[this]
   refine⟨fun ht=>?_,fun ht=>⟨fun h2=>?_,fun h2=>⟨by omega,?_⟩⟩⟩
   ·have:(s.drop 1).all ic=false:=by
     cases hq:(s.drop 1).all ic with
     |false=>rfl
     |true=>exact absurd (hall.2 hq) ht
    rw[fQ,if_pos (by omega)]
    split
    ·rw[pk,this]
    ·rfl
   ·have hq:=hall.1 ht
    rw[fQ,if_pos (by omega),if_pos ⟨h101,by omega⟩,pk,hq]
   ·have hq:=hall.1 ht
    rw[fQ,if_pos (by omega)]
    by_cases h48:s.getD 1 0=48
    ·rw[if_neg (by rintro⟨_,e⟩;exact e ⟨by omega,h48⟩),h48];rfl
    ·rw[if_pos ⟨h101,fun e=>h48 e.2⟩,pk,hq]
     have:¬((s.getD 1 0).toNat:Int)=48:=fun e=>h48 (by rw[<-UInt8.toNat_inj];show (s.getD 1 0).toNat=48;omega)
     rw[bne_iff_ne.2 this]
theorem tf{s:List UInt8}{k:Nat}(h:fQ s=some k):s=wZ k/\k<100:=by
 have key1:∀a:Fin 256,ic (bj a.val)=true->zX [bj a.val] 0=some ((bj a.val).toNat-48)/\(bj a.val).toNat-48<10/\[bj a.val]=[bj (48+((bj a.val).toNat-48))]:=by decide +kernel
 unfold fQ at h
 split at h
 ·rename_i hl
  split at h
  ·rename_i hh
   obtain⟨h0,h1⟩:=hh
   rcases hl with hl|hl
   ·match s,hl with
    |
     [c,a],_ =>
     simp only[bx]at h0
     subst h0
     simp only[List.drop_succ_cons,bb,zX]at h
     split at h
     ·rename_i ha
      have:=key1 ⟨a.toNat,a.toNat_lt⟩ (by simpa using ha)
      simp only[UInt8.ofNat_toNat]at this
      cases h
      refine⟨?_,by omega⟩
      rw[wZ,eI (by omega)]
      simp only[Nat.mul_zero,aY]
      rw[<-this.2.2]
     ·cases h
   ·match s,hl with
    |
     [c,a,b],_ =>
     simp only[bx,List.getD_cons_succ,az,aG,true_and]at h0 h1
     subst h0
     simp only[List.drop_succ_cons,bb,zX]at h
     split at h
     ·rename_i ha
      split at h
      ·rename_i hb
       have k1:=key1 ⟨a.toNat,a.toNat_lt⟩ (by simpa using ha)
       have k2:=key1 ⟨b.toNat,b.toNat_lt⟩ (by simpa using hb)
       simp only[UInt8.ofNat_toNat]at k1 k2
       have ha':48<=a.toNat/\a.toNat<=57:=by simpa[ic]using ha
       have hb':48<=b.toNat/\b.toNat<=57:=by simpa[ic]using hb
       have h48:a.toNat≠48:=fun e=>h1 (by rw[<-UInt8.toNat_inj];simpa using e)
       cases h
       simp only[Nat.mul_zero,aY]
       refine⟨?_,by omega⟩
       rw[wZ,fR (by omega),eI (by omega)]
       have e1:(10*(a.toNat-48)+(b.toNat-48))/10=a.toNat-48:=by omega
       have e2:(10*(a.toNat-48)+(b.toNat-48))%10=b.toNat-48:=by omega
       rw[e1,e2,<-k1.2.2,<-k2.2.2];rfl
      ·cases h
     ·cases h
  ·cases h
 ·cases h
theorem vB(k:Nat)(h:k<100):fQ (wZ k)=some k:=by
 have e:∀k,k<100->dd k=if k<10 then [bj (48+k)]else [bj (48+k/10),bj (48+k%10)]:=by
  intro k hk
  by_cases h1:k<10
  ·rw[eI h1,if_pos h1]
  ·rw[fR h1,eI (by omega),if_neg h1];rfl
 have key:∀k:Fin 100,fQ (101::(if k.val<10 then [bj (48+k.val)]else [bj (48+k.val/10),bj (48+k.val%10)]))=some k.val:=by decide +kernel
 rw[wZ,e k h];exact key ⟨k,h⟩
theorem HS(k:Nat)(h:k<100):AS (wZ k)=(k:Int):=by rw[AS,vB k h]
def yW:E->Bool
 | .atom s=>(s==[117])||(fQ s).isSome
 | .list [x,a]=>((x.at==[108])||(x.at==[114])||(x.at==[102]))&&yW a
 | .list [x,a,b]=>(x.at==[112])&&(yW a&&yW b)
 | .list _=>false
def fN:E->Option Vl
 | .atom s=>if s=[117]then some .u else match fQ s with|some k=>some (.el k)|none=>none
 |
  .list [x,a]=>match fN a with
  |none=>none
  |some v=>if x.at=[108]then some (.l v)else if x.at=[114]then some (.r v)else if x.at=[102]then some (.f v)else none
 | .list [x,a,b]=>if x.at=[112]then(match fN a,fN b with|some v,some w=>some (.p v w)|_,_=>none)else none
 | .list _=>none
theorem oP:∀e:E,(fN e).isSome=yW e
 |
  .atom s=>by
  simp only[fN,yW]
  by_cases h:s=[117]
  ·simp[h]
  ·rw[if_neg h];cases fQ s<;>simp[h]
 | .list []=>rfl
 | .list [_]=>rfl
 |
  .list [x,a]=>by
  have ha:=oP a
  rw[fN,yW,<-ha]
  cases fN a with
  |none=>simp
  |
   some v =>
   by_cases h1:x.at=[108]
   ·simp[h1]
   ·by_cases h2:x.at=[114]
    ·simp[h2]
    ·by_cases h3:x.at=[102]
     ·simp[h3]
     ·simp[h1,h2,h3]
 |
  .list [x,a,b]=>by
  have ha:=oP a
  have hb:=oP b
  rw[fN,yW,<-ha,<-hb]
  by_cases h1:x.at=[112]
  ·rw[if_pos h1,h1];cases fN a<;>cases fN b<;>rfl
  ·simp[h1]
 | .list (_::_::_::_::_)=>rfl
theorem ko{x:E}{w:List UInt8}(h:x.at=w)(hw:w≠[]):x=.atom w:=by
 cases x with
 |atom s=>exact congrArg E.atom h
 |list l=>exact absurd h.symm hw
theorem lj:∀(e:E) (v:Vl),fN e=some v->v.cL=e/\v.gZ 100
 |
  .atom s,v,h=>by
  simp only[fN]at h
  split at h
  ·rename_i h1;cases h;exact⟨by rw[h1];rfl,trivial⟩
  ·split at h
   ·rename_i k hk
    cases h
    obtain⟨h1,h2⟩:=tf hk
    exact⟨by rw[h1];rfl,h2⟩
   ·cases h
 | .list [],_,h=>by cases h
 | .list [_],_,h=>by cases h
 | .list (_::_::_::_::_),_,h=>by cases h
 |
  .list [x,a],v,h=>by
  rw[fN]at h
  split at h
  ·cases h
  ·rename_i w hw
   obtain⟨h1,h2⟩:=lj a w hw
   split at h
   ·rename_i hx;cases h;rw[ko hx (by simp)];exact⟨by rw[Vl.cL,h1],h2⟩
   ·split at h
    ·rename_i hx;cases h;rw[ko hx (by simp)];exact⟨by rw[Vl.cL,h1],h2⟩
    ·split at h
     ·rename_i hx;cases h;rw[ko hx (by simp)];exact⟨by rw[Vl.cL,h1],h2⟩
     ·cases h
 |
  .list [x,a,b],v,h=>by
  rw[fN]at h
  split at h
  ·rename_i hx
   split at h
   ·rename_i w1 w2 hw1 hw2
    cases h
    obtain⟨h1,h2⟩:=lj a w1 hw1
    obtain⟨h3,h4⟩:=lj b w2 hw2
    rw[ko hx (by simp)]
    exact⟨by rw[Vl.cL,h1,h3],h2,h4⟩
   ·cases h
  ·cases h
def qi(e:E)(w:List UInt8)(k:Nat):Bool:=match e with| .list (x::l)=>decide (l.length+1=k)&&(x.at==w)|_=>false
theorem tE(e:E)(w:List UInt8)(k:Nat)(hk:1<=k):an Tryz.prog 151 [e.cA,.v (.string (mk w)),.v (.int .i64 (k:Int))] [] (bJ (.v (.bool (qi e w k)))):=by
 refine Ng _ _ _ ((cV e).mpr trivial) ?_
 cases e with
 |atom s=>simp only[Bl,E.cA,↓zq,zs,ae,zt,bJ,qi];exact⟨by omega,fun h=>by omega,fun _=>trivial⟩
 |
  list l =>
  simp only[Bl,E.cA,↓zq,zs,ae,zt,bJ,rN]
  cases l with
  |nil=>exact⟨by simp,fun h=>by simp at h;omega,fun _=>rfl⟩
  |
   cons x l =>
   simp only[az]
   refine⟨by simp,fun h=>?_,fun h=>?_⟩
   ·have:decide (l.length+1=k)=true:=by rw[decide_eq_true_eq];omega
    simp only[qi,this]
    cases x<;>simp[E.mg,E.cA,cd,pS,jJ,dY,uj,toList_mk,E.at]
   ·have:decide (l.length+1=k)=false:=by rw[decide_eq_false_iff_not];omega
    simp only[qi,this];rfl
def jo:Option Vl->AV
 |some v=>v.cA
 |none=>.v (.pointer none)
end Go.Proofs.Trees
namespace Go.Proofs.Trees
open Go Go.VL Go.RowKit
theorem gn(v:Option Vl):LK.has .ptr (jo v)=True:=by cases v<;>simp[jo,aM,iC]
theorem zJ:∀(e:E),e.ok->an Tryz.prog 139 [e.cA] [] (bJ (jo (fN e)))
 |
  .atom s,hok=>by
  refine J9 _ ((cV _).mpr trivial) ?_
  have hd:=n0 (.atom s)
  have hlen:=lG (.atom s)
  simp only[E.at]at hd
  simp only[G3,↓zq,zs,ae,zt,bJ,cV,en,hd,fN]
  refine⟨hlen,fun h=>?_,fun h=>⟨hlen,?_⟩⟩
  ·rw[if_pos h];rfl
  ·rw[if_neg h]
   refine ai (Nv s) ?_
   simp only[↓zq,zs,ae,zt]
   refine⟨fun he=>⟨hlen,?_⟩,fun he=>?_⟩
   ·obtain⟨k,hk⟩:=cb.1 he
    obtain⟨h1,h2⟩:=tf hk
    rw[hk,h1];rfl
   ·have hn:fQ s=none:=by cases hq:fQ s<;>simp[hq]at he |-
    rw[hn]
    refine ai (tE (.atom s) [108] 2 (by omega)) ?_
    simp only[qi,↓zq,zs,ae,zf]
    refine⟨fun h=>(by cases h),fun _=>ai (tE (.atom s) [114] 2 (by omega)) ?_⟩
    simp only[qi,↓zq,zs,ae,zf]
    refine⟨fun h=>(by cases h),fun _=>ai (tE (.atom s) [102] 2 (by omega)) ?_⟩
    simp only[qi,↓zq,zs,ae,zf]
    refine⟨fun h=>(by cases h),fun _=>ai (tE (.atom s) [112] 3 (by omega)) ?_⟩
    simp only[qi,↓zq,zs,ae,zf]
    exact⟨fun h=>(by cases h),fun _=>rfl⟩
 |
  .list l,hok=>by
  refine J9 _ ((cV _).mpr trivial) ?_
  have hd:=n0 (.list l)
  have hlen:=lG (.list l)
  have hlen2:∀{l:List E},((AV.v (.string (mk [])))::[AV.sl (E.mg l)]).length=2:=rfl
  simp only[E.at]at hd
  have he:fQ []=none:=rfl
  simp only[G3,↓zq,zs,ae,zt,bJ,cV,en,hd]
  refine⟨hlen,fun h=>(by cases h),fun h=>⟨hlen,?_⟩⟩
  refine ai (Nv []) ?_
  rw[he]
  simp only[↓zq,zs,ae,zt,zf,bu]
  refine⟨fun h=>(by cases h),fun _=>ai (tE (.list l) [108] 2 (by omega)) ?_⟩
  have hno:∀w:List UInt8,(∀x a,l≠[x,a])->qi (.list l) w 2=false:=by
   intro w h2
   match l,h2 with
   |[],_=>rfl
   |[x],_=>rfl
   |[x,a],h2=>exact absurd rfl (h2 x a)
   |x::y::z::l,_=>simp[qi]
  match l,hok,hno,hlen with
  |
   [x,a],hok,hno,hlen =>
   clear hno
   obtain⟨ok1,ok2,_⟩:=hok
   have e2:∀w:List UInt8,qi (.list [x,a]) w 2=(x.at==w):=fun w=>rfl
   have e3:qi (.list [x,a]) [112] 3=false:=rfl
   have hx:=n0 x
   have hxl:=lG x
   rw[fN]
   simp only[e2,↓zq,zs,ae]
   refine⟨fun h1=>?_,fun h1=>ai (tE (.list [x,a]) [114] 2 (by omega)) ?_⟩
   ·simp only[E.cA,E.mg,toNat_one,↓zq,zs,ae,zt,cV,en]
    refine⟨by omega,by omega,by omega,ai (zJ a ok2) ?_⟩
    cases hv:fN a with
    |none=>simp only[jo,↓zq,zs,ae,gn];exact⟨fun _=>trivial,fun h=>(by cases h)⟩
    |
     some v =>
     simp only[jo,↓zq,zs,ae,zt,aM,fw,hx,h1,cV,en]
     refine⟨fun h=>(by cases h),fun _=>⟨by omega,by omega,by omega,hxl,by simp,?_⟩⟩
     rfl
   ·simp only[e2,↓zq,zs,ae]
    refine⟨fun h2=>?_,fun h2=>ai (tE (.list [x,a]) [102] 2 (by omega)) ?_⟩
    ·simp only[E.cA,E.mg,toNat_one,↓zq,zs,ae,zt,cV,en]
     refine⟨by omega,by omega,by omega,ai (zJ a ok2) ?_⟩
     cases hv:fN a with
     |none=>simp only[jo,↓zq,zs,ae,gn];exact⟨fun _=>trivial,fun h=>(by cases h)⟩
     |
      some v =>
      simp only[jo,↓zq,zs,ae,zt,aM,fw,hx,h2,cV,en]
      refine⟨fun h=>(by cases h),fun _=>⟨by omega,by omega,by omega,hxl,by simp,?_⟩⟩
      rfl
    ·simp only[e2,↓zq,zs,ae]
     refine⟨fun h3=>?_,fun h3=>ai (tE (.list [x,a]) [112] 3 (by omega)) ?_⟩
     ·simp only[E.cA,E.mg,toNat_one,↓zq,zs,ae,zt,cV,en]
      refine⟨by omega,by omega,by omega,ai (zJ a ok2) ?_⟩
      cases hv:fN a with
      |none=>simp only[jo,↓zq,zs,ae,gn];exact⟨fun _=>trivial,fun h=>(by cases h)⟩
      |
       some v =>
       simp only[jo,↓zq,zs,ae,zt,aM,fw,hx,h3,cV,en]
       refine⟨fun h=>(by cases h),fun _=>⟨by omega,by omega,by omega,hxl,by simp,?_⟩⟩
       rfl
     ·rw[e3]
      simp only[↓zq,zs,ae]
      refine⟨fun h=>(by cases h),fun _=>?_⟩
      cases fN a with
      |none=>rfl
      |some v=>simp only[if_neg h1,if_neg h2,if_neg h3];rfl
  |
   [x,a,b],hok,hno,hlen =>
   obtain⟨ok1,ok2,ok3,_⟩:=hok
   have h2:=fun w=>hno w (fun x a h=>(by cases h))
   rw[h2]
   simp only[↓zq,zs,ae]
   refine⟨fun h=>(by cases h),fun _=>ai (tE (.list [x,a,b]) [114] 2 (by omega)) ?_⟩
   rw[h2]
   simp only[↓zq,zs,ae]
   refine⟨fun h=>(by cases h),fun _=>ai (tE (.list [x,a,b]) [102] 2 (by omega)) ?_⟩
   rw[h2]
   simp only[↓zq,zs,ae]
   refine⟨fun h=>(by cases h),fun _=>ai (tE (.list [x,a,b]) [112] 3 (by omega)) ?_⟩
   have e3:qi (.list [x,a,b]) [112] 3=(x.at==[112]):=rfl
   rw[e3,fN]
   simp only[↓zq,zs,ae]
   refine⟨fun h1=>?_,fun h1=>?_⟩
   ·rw[if_pos h1]
    simp only[E.cA,E.mg,toNat_one,bg,↓zq,zs,ae,zt,cV,en]
    refine⟨by omega,by omega,by omega,ai (zJ a ok2) ?_⟩
    simp only[↓zq,zs,ae,gn,cV]
    refine⟨by omega,by omega,by omega,ai (zJ b ok3) ?_⟩
    cases hv:fN a with
    |none=>cases hw:fN b<;>simp only[jo,↓zq,zs,ae,gn,aM]<;>exact⟨fun _=>trivial,fun h=>(by cases h)⟩
    |
     some v =>
     cases hw:fN b with
     |
      none =>
      simp only[jo,↓zq,zs,ae,gn,aM,fw]
      exact⟨fun h=>(by cases h),fun _=>⟨fun _=>trivial,fun h=>(by cases h)⟩⟩
     |
      some w =>
      simp only[jo,↓zq,zs,ae,aM,fw]
      refine⟨fun h=>(by cases h),fun _=>⟨fun h=>(by cases h),fun _=>?_⟩⟩
      refine ai (zQ _ _ ((aM _).mpr trivial) ((aM _).mpr trivial)) ?_
      simp only[↓zq,zs,ae];rfl
   ·rw[if_neg h1];rfl
  |
   [],hok,hno,hlen =>
   have h2:=fun w=>hno w (fun x a h=>(by cases h))
   have e3:qi (.list []) [112] 3=false:=rfl
   rw[h2]
   simp only[↓zq,zs,ae]
   refine⟨fun h=>(by cases h),fun _=>ai (tE (.list []) [114] 2 (by omega)) ?_⟩
   rw[h2]
   simp only[↓zq,zs,ae]
   refine⟨fun h=>(by cases h),fun _=>ai (tE (.list []) [102] 2 (by omega)) ?_⟩
   rw[h2]
   simp only[↓zq,zs,ae]
   refine⟨fun h=>(by cases h),fun _=>ai (tE (.list []) [112] 3 (by omega)) ?_⟩
   rw[e3]
   simp only[↓zq,zs,ae]
   exact⟨fun h=>(by cases h),fun _=>rfl⟩
  |
   [x],hok,hno,hlen =>
   have h2:=fun w=>hno w (fun x a h=>(by cases h))
   have e3:qi (.list [x]) [112] 3=false:=rfl
   rw[h2]
   simp only[↓zq,zs,ae]
   refine⟨fun h=>(by cases h),fun _=>ai (tE (.list [x]) [114] 2 (by omega)) ?_⟩
   rw[h2]
   simp only[↓zq,zs,ae]
   refine⟨fun h=>(by cases h),fun _=>ai (tE (.list [x]) [102] 2 (by omega)) ?_⟩
   rw[h2]
   simp only[↓zq,zs,ae]
   refine⟨fun h=>(by cases h),fun _=>ai (tE (.list [x]) [112] 3 (by omega)) ?_⟩
   rw[e3]
   simp only[↓zq,zs,ae]
   exact⟨fun h=>(by cases h),fun _=>rfl⟩
  |
   x::y::z::w::l,hok,hno,hlen =>
   have h2:=fun w=>hno w (fun x a h=>(by cases h))
   have e3:qi (.list (x::y::z::w::l)) [112] 3=false:=by simp[qi]
   rw[h2]
   simp only[↓zq,zs,ae]
   refine⟨fun h=>(by cases h),fun _=>ai (tE (.list (x::y::z::w::l)) [114] 2 (by omega)) ?_⟩
   rw[h2]
   simp only[↓zq,zs,ae]
   refine⟨fun h=>(by cases h),fun _=>ai (tE (.list (x::y::z::w::l)) [102] 2 (by omega)) ?_⟩
   rw[h2]
   simp only[↓zq,zs,ae]
   refine⟨fun h=>(by cases h),fun _=>ai (tE (.list (x::y::z::w::l)) [112] 3 (by omega)) ?_⟩
   rw[e3]
   simp only[↓zq,zs,ae]
   exact⟨fun h=>(by cases h),fun _=>rfl⟩
def sA(s:List UInt8):Option Vl:=match qO s with
 |none=>none
 |
  some e=>match fN e with
  |none=>none
  |some v=>if v.nodes>200 then none else some v
theorem lT{s:List UInt8}{v:Vl}(h:sA s=some v):qO s=some v.cL/\v.gZ 100/\v.nodes<=200:=by
 unfold sA at h
 split at h
 ·cases h
 ·rename_i e he
  split at h
  ·cases h
  ·rename_i w hw
   split at h
   ·cases h
   ·cases h
    obtain⟨h1,h2⟩:=lj e _ hw
    rw[h1]
    exact⟨he,h2,by omega⟩
theorem wT{e:E}{v:Vl}(h:fN e=some v):v.nodes<=e.sz:=by
 obtain⟨h1,_⟩:=lj e v h
 rw[<-nL,h1];exact AN e
theorem Rh(s:List UInt8):an Tryz.prog 100 [.v (.string (mk s))] [] (bJ (jo (sA s))):=by
 refine Q3 _ ?_
 unfold Oe
 refine ai (L4 s) ?_
 unfold sA
 cases he:qO s with
 |none=>simp only[uH,↓zq,zs,ae,bJ,jo];simp
 |
  some e =>
  obtain⟨h1,h2⟩:=nM he
  simp only[uH,↓zq,zs,ae,cV,en]
  refine⟨fun h=>(by cases h),fun _=>?_⟩
  refine ai (zJ e h1) ?_
  cases hv:fN e with
  |none=>simp only[jo,↓zq,zs,ae,bJ];simp
  |
   some v =>
   have hn:=wT hv
   simp only[jo,↓zq,zs,ae,aM,fw]
   refine⟨fun h=>(by cases h),fun _=>?_⟩
   refine ai (E2 v (by omega)) ?_
   simp only[↓zq,zs,ae,bJ]
   refine⟨fun h=>?_,fun h=>?_⟩
   ·rw[if_pos (by omega)]
   ·rw[if_neg (by omega)]
theorem Ak:∀(e:E),e.ok->an Tryz.prog 103 [e.kD] [] (bJ (.v (.bool (yW e))))
 |
  .atom s,hok=>by
  refine zN _ _ ((bh).mpr trivial) ?_
  have hne:s≠[]:=hok
  simp only[wH,↓zq,zs,ae,zt,bJ,yW]
  refine⟨fun _=>⟨fun h=>?_,fun h=>?_⟩,fun h=>absurd h hne⟩
  ·simp[h]
  ·refine ai (Js s) ?_
   have h':(s==[117])=false:=by simpa using h
   simp only[↓zq,zs,ae,h',Bool.false_or]
   congr 2
   rw[AS]
   cases fQ s with
   |none=>rfl
   |some k=>simp
 |
  .list [],hok=>by
  refine zN _ _ ((cc _).mpr trivial) ?_
  simp only[wH,↓zq,zs,ae,zt,bJ,yW]
  refine⟨fun h=>absurd rfl h,fun _=>?_⟩
  refine ai PG ?_
  simp[↓zq,zs,ae,zt]
 |
  .list [x],hok=>by
  refine zN _ _ ((cc _).mpr trivial) ?_
  simp only[wH,↓zq,zs,ae,zt,bJ,yW]
  refine⟨fun h=>absurd rfl h,fun _=>?_⟩
  refine ai (u3 x _) ?_
  simp[↓zq,zs,ae,zt,E.bw]
 |
  .list (x::y::z::w::l),hok=>by
  refine zN _ _ ((cc _).mpr trivial) ?_
  simp only[wH,↓zq,zs,ae,zt,bJ,yW]
  refine⟨fun h=>absurd rfl h,fun _=>?_⟩
  refine ai (u3 x _) ?_
  simp only[↓zq,zs,ae,zt,E.bw]
  refine⟨fun _=>⟨fun h=>by omega,fun _=>trivial⟩,fun _=>⟨fun _=>⟨fun h=>by omega,fun _=>trivial⟩,fun _=>⟨fun _=>⟨fun h=>by omega,fun _=>trivial⟩,fun _=>⟨fun _=>⟨fun h=>by omega,fun _=>trivial⟩,fun _=>trivial⟩⟩⟩⟩
 |
  .list [x,a],hok=>by
  refine zN _ _ ((cc _).mpr trivial) ?_
  obtain⟨ok1,ok2,_⟩:=hok
  simp only[wH,↓zq,zs,ae,zt,bJ,yW]
  refine⟨fun h=>absurd rfl h,fun _=>?_⟩
  refine ai (u3 x _) ?_
  simp only[E.bw,toNat_one,bg,↓zq,zs,ae,zt,iP,gj,iT,mH,au]
  refine⟨fun h=>⟨fun _=>⟨by omega,?_⟩,fun h=>by omega⟩,fun h1=>⟨fun h=>⟨fun _=>⟨by omega,?_⟩,fun h=>by omega⟩,fun h2=>⟨fun h=>⟨fun _=>⟨by omega,?_⟩,fun h=>by omega⟩,fun h3=>⟨fun h=>⟨fun h=>by omega,fun _=>?_⟩,fun h=>?_⟩⟩⟩⟩
  ·refine ai (Ak a ok2) ?_
   simp[↓zq,zs,ae,h]
  ·refine ai (Ak a ok2) ?_
   simp[↓zq,zs,ae,h]
  ·refine ai (Ak a ok2) ?_
   simp[↓zq,zs,ae,h]
  ·simp[h]
  ·simp[h1,h2,h3]
 |
  .list [x,a,b],hok=>by
  refine zN _ _ ((cc _).mpr trivial) ?_
  obtain⟨ok1,ok2,ok3,_⟩:=hok
  simp only[wH,↓zq,zs,ae,zt,bJ,yW]
  refine⟨fun h=>absurd rfl h,fun _=>?_⟩
  refine ai (u3 x _) ?_
  simp only[E.bw,toNat_one,bg,↓zq,zs,ae,zt,iP,gj,iT,mH,au]
  refine⟨fun h=>⟨fun h=>by omega,fun _=>?_⟩,fun h1=>⟨fun h=>⟨fun h=>by omega,fun _=>?_⟩,fun h2=>⟨fun h=>⟨fun h=>by omega,fun _=>?_⟩,fun h3=>⟨fun h=>⟨fun _=>⟨by omega,?_⟩,fun h=>by omega⟩,fun h=>?_⟩⟩⟩⟩
  ·simp[h]
  ·simp[h]
  ·simp[h]
  ·refine ai (Ak a ok2) ?_
   simp only[↓zq,zs,ae,h]
   refine⟨fun ha=>⟨by omega,ai (Ak b ok3) ?_⟩,fun ha=>?_⟩
   ·simp[↓zq,zs,ae,ha]
   ·simp[ha]
  ·simp[h]
theorem Ez(s:List UInt8):an Tryz.prog 72 [.v (.string (mk s))] [] (jI ((sA s).map Vl.cL) (sA s).isSome):=by
 refine QX _ ?_
 unfold On
 refine aP (K4 s) (jI.ne _ _ (fun h=>h)) ?_
 rintro r o ⟨c,d,hd,rfl,hh⟩
 simp only[↓zq,zs,ae,zt,bF,sA]
 refine⟨hd,fun h=>?_,fun h=>?_⟩
 ·obtain⟨e,he,hce⟩:=hh h
  obtain⟨hok,hsz⟩:=nM he
  rw[he,hce]
  refine ai (Ak e hok) ?_
  simp only[↓zq,zs,ae]
  have hs:=oP e
  refine⟨fun hi=>?_,fun hi=>?_⟩
  ·rw[hi]at hs
   obtain⟨v,hv⟩:=cb.1 hs
   obtain⟨h1,h2⟩:=lj e v hv
   refine ai (Pq e (by omega)) ?_
   simp only[↓zq,zs,ae,hv]
   have hnd:e.nd=v.nodes:=by rw[<-h1,nL]
   rw[hnd]
   refine⟨c,d,hd,?_,?_⟩
   ·rw[hce]
    by_cases h4:v.nodes>200
    ·rw[if_pos h4];exact congrArg (fun b=>AV.cD [e.kD,.v (.bool b)]) (decide_eq_false (show ¬((v.nodes:Nat):Int)<=200 by omega))
    ·rw[if_neg h4];exact congrArg (fun b=>AV.cD [e.kD,.v (.bool b)]) (decide_eq_true (show ((v.nodes:Nat):Int)<=200 by omega))
   ·split
    ·exact fun h=>by cases h
    ·exact fun _=>⟨e,by simp[h1],hce⟩
  ·rw[hi]at hs
   have hn:fN e=none:=by cases hq:fN e<;>simp[hq]at hs |-
   rw[hn]
   exact⟨c,d,hd,by rw[hce];rfl,fun h=>by cases h⟩
 ·have hn:qO s=none:=by cases hq:qO s<;>simp[hq]at h |-
  rw[hn]
  exact⟨c,d,hd,rfl,fun h=>by cases h⟩
end Go.Proofs.Trees
namespace Go.Proofs.Trees
open Go Go.VL Go.RowKit
inductive Fr where
 |mk (s:List UInt8) (e:E) (o:List Fr)
def Fr.nm:Fr->List UInt8| .mk s _ _=>s
def Fr.ex:Fr->E| .mk _ e _=>e
def Fr.out:Fr->List Fr| .mk _ _ o=>o
def names:List Fr->List (List UInt8)
 |[]=>[]
 |f::r=>names r++[f.nm]
def xH(e:E)(o:List Fr):Ty:=(cT e (names o)).getD .zero
def E.sp:E->AV
 | .atom _=>.v (.slice none 0 0)
 | .list l=>.sl (E.bw l)
theorem fM(e:E):e.im=[.v (.string (mk e.at)),e.sp]:=by cases e<;>rfl
theorem dj(e:E):e.kD=.agg [.v (.string (mk e.at)),e.sp]:=by cases e<;>rfl
theorem a6(e:E):LK.has .sl e.sp=True:=by cases e<;>simp[E.sp,bh,cc]
mutual
def Fr.cells:Fr->List AV
 | .mk s e o=>[.v (.string (mk s)),.v (.string (mk e.at)),e.sp,.sl (j9 o)]
def j9:List Fr->List (List AV)
 |[]=>[]
 |f::r=>j9 r++[f.cells]
end
mutual
def Fr.cA:Fr->AV
 | .mk s e o=>.ptr [(xH e o).av,po o]
def po:List Fr->AV
 |[]=>gp
 |f::r=>.ptr [f.cA,po r]
end
inductive WF:List Fr->Prop
 |nil:WF []
 |cons {s:List UInt8} {x a b:E} {t:Ty} {r:List Fr} (hs:dm s=true) (hok:(E.list [x,a,b]).ok) (hx:x.at=[114,101,99]) (ht:cT (.list [x,a,b]) (names r)=some t) (hf:cf t=false) (hr:WF r):WF (.mk s (.list [x,a,b]) r::r)
theorem kV:∀env:List Fr,(j9 env).length=env.length
 |[]=>rfl
 |f::r=>by simp[j9,kV r]
theorem ew(env:List Fr):LK.has .ptr (po env)=True:=by cases env<;>simp[po,iC,cd]
theorem BZ(f:Fr):LK.has .ptr f.cA=True:=by cases f;simp[Fr.cA,cd]
def findF(s:List UInt8):List Fr->Option Fr
 |[]=>none
 |f::r=>if f.nm=s then some f else findF s r
def hd(e:E)(env:List Fr):E×List Fr:=match findF e.at env with|some f=>(f.ex,f.out)|none=>(e,env)
theorem kU{env:List Fr}(h:WF env):findF [] env=none:=by
 induction h with
 |nil=>rfl
 |
  @cons s x a b t r hs hok hx ht hf hr ih =>
  rw[findF,if_neg (show ¬(Fr.mk s (.list [x,a,b]) r).nm=[] from BQ hs)];exact ih
theorem Ah{env:List Fr}(h:WF env){s:List UInt8}{f:Fr}(hf:findF s env=some f):dm s=true:=by
 induction h with
 |nil=>cases hf
 |
  cons hs hok hx ht hf' hr ih =>
  rw[findF]at hf
  split at hf
  ·rename_i e;exact e ▸ hs
  ·exact ih hf
theorem oY{env:List Fr}(h:WF env){s:List UInt8}{f:Fr}(hf:findF s env=some f):∃x a b t,f.ex=.list [x,a,b]/\(E.list [x,a,b]).ok/\x.at=[114,101,99]/\cT f.ex (names f.out)=some t/\cf t=false/\WF f.out/\f.out.length<env.length:=by
 induction h with
 |nil=>cases hf
 |
  cons hs hok hx ht hf' hr ih =>
  rw[findF]at hf
  split at hf
  ·cases hf;exact⟨_,_,_,_,rfl,hok,hx,ht,hf',hr,by simp[Fr.out]⟩
  ·obtain⟨x,a,b,t,h1,h2,h3,h4,h5,h6,h7⟩:=ih hf
   exact⟨x,a,b,t,h1,h2,h3,h4,h5,h6,by simp;omega⟩
theorem kk(s w:List UInt8)(ar:List (List UInt8)):∀i,i<=ar.length->bP s (ar++[w]) i=(bP s ar i).map (·+1)
 |0,_=>rfl
 |
  i+1,hi=>by
  have hlt:i<ar.length:=by omega
  have e:(ar++[w]).getD i []=ar.getD i []:=by simp[aa,List.getElem?_append_left hlt]
  rw[bP,bP,e,kk s w ar i (by omega)]
  split
  ·simp only[aq,az,aG,cB,Option.some.injEq];omega
  ·rfl
theorem vK(s:List UInt8)(f:Fr)(r:List Fr):bP s (names (f::r)) (names (f::r)).length=if f.nm=s then some 0 else(bP s (names r) (names r).length).map (·+1):=by
 have e:(names (f::r)).length=(names r).length+1:=by simp[names]
 rw[e,bP]
 have e2:(names (f::r)).getD (names r).length []=f.nm:=by simp[names,aa]
 rw[e2]
 split
 ·rw[e];simp
 ·rw[names,kk _ _ _ _ (au _)]
theorem oO(s:List UInt8):∀env:List Fr,bP s (names env) (names env).length=none/\findF s env=none\/∃(u:Nat) (f:Fr),bP s (names env) (names env).length=some u/\findF s env=some f/\env[u]?=some f
 |[]=>.inl ⟨rfl,rfl⟩
 |
  f::r=>by
  rw[vK,findF]
  split
  ·exact .inr ⟨0,f,rfl,rfl,rfl⟩
  ·rcases oO s r with⟨h1,h2⟩|⟨u,g,h1,h2,h3⟩
   ·exact .inl ⟨by rw[h1];rfl,h2⟩
   ·exact .inr ⟨u+1,g,by rw[h1];rfl,h2,by simpa using h3⟩
def Ty.OV:Ty->Bool
 | .bound _=>true
 |_=>false
theorem gv{e:E}{env:List Fr}{t:Ty}(hw:WF env)(ht:cT e (names env)=some t) :
 (t.OV=false/\findF e.at env=none)\/∃(u:Nat) (f:Fr),t=.bound u/\findF e.at env=some f/\env[u]?=some f:=by
 cases e with
 |
  list l =>
  left
  refine⟨?_,kU hw⟩
  match l,ht with
  |
   [x,a,b],ht =>
   by_cases h0:x.at=[43]
   ·obtain⟨t1,t2,_,_,rfl⟩:=fL h0 ht;rfl
   ·by_cases h1:x.at=[42]
    ·obtain⟨t1,t2,_,_,rfl⟩:=fk h1 ht;rfl
    ·by_cases h2:x.at=[114,101,99]
     ·obtain⟨t1,_,_,rfl⟩:=dy h2 ht;rfl
     ·rw[je _ h0 h1 h2]at ht;cases ht
  |[],ht=>cases ht
  |[_],ht=>cases ht
  |[_,_],ht=>cases ht
  |_::_::_::_::_,ht=>cases ht
 |
  atom s =>
  simp only[cT]at ht
  have hno:dm s=false->findF s env=none:=fun h=>by
   cases hq:findF s env with
   |none=>rfl
   |some f=>rw[Ah hw hq]at h;cases h
  split at ht
  ·rename_i h;cases ht;subst h;exact .inl ⟨rfl,hno rfl⟩
  ·split at ht
   ·rename_i h;cases ht;subst h;exact .inl ⟨rfl,hno rfl⟩
   ·split at ht
    ·rename_i h
     cases ht
     refine .inl ⟨rfl,hno ?_⟩
     cases hq:dm s with
     |false=>rfl
     |
      true =>
      obtain⟨c,r,rfl,h1,h2⟩:=lM h
      obtain⟨c',r',he,h3,h4⟩:=lM hq
      cases he;omega
    ·split at ht
     ·rcases oO s env with⟨h1,h2⟩|⟨u,f,h1,h2,h3⟩
      ·rw[h1]at ht;cases ht;exact .inl ⟨rfl,h2⟩
      ·rw[h1]at ht;cases ht;exact .inr ⟨u,f,rfl,h2,h3⟩
     ·cases ht
def eX(n:Nat):Vl->E×List Fr->Bool
 | .u,p=>match hd p.1 p.2 with|(.atom s,_)=>s==[49]|_=>false
 | .el k,p=>match hd p.1 p.2 with|(.atom s,_)=>!(s==[49])&&(gT s&&decide (k<n))|_=>false
 | .l w,p=>match hd p.1 p.2 with|(.list [x,a,b],o)=>(x.at==[43])&&eX n w (a,o)|_=>false
 | .r w,p=>match hd p.1 p.2 with|(.list [x,a,b],o)=>(x.at==[43])&&eX n w (b,o)|_=>false
 | .f w,p=>match hd p.1 p.2 with|(.list [x,a,b],o)=>(x.at==[114,101,99])&&eX n w (b,.mk a.at (.list [x,a,b]) o::o)|_=>false
 | .p v w,p=>match hd p.1 p.2 with|(.list [x,a,b],o)=>(x.at==[42])&&(eX n v (a,o)&&eX n w (b,o))|_=>false
theorem ka{e:E}{env:List Fr}(h:findF e.at env=none):hd e env=(e,env):=by rw[hd,h]
theorem qK{e:E}{env:List Fr}{f:Fr}(h:findF e.at env=some f):hd e env=(f.ex,f.out):=by rw[hd,h]
theorem pY{x a b:E}{o:List Fr}(h:WF o):hd (.list [x,a,b]) o=(.list [x,a,b],o):=ka (kU h)
theorem tX(n:Nat)(v:Vl){e e':E}{env o:List Fr}(h:hd e env=(e',o))(h':hd e' o=(e',o)):eX n v (e,env)=eX n v (e',o):=by
 cases v<;>simp only[eX,h,h']
theorem jm{x a b:E}{env:List Fr}{t:Ty}(hw:WF env)(hok:(E.list [x,a,b]).ok)(hx:x.at=[114,101,99])(ht:cT (.list [x,a,b]) (names env)=some t)(hf:cf t=false) :
 ∃t1,t=.rc t1/\cT b (names (.mk a.at (.list [x,a,b]) env::env))=some t1/\cf t1=false/\WF (.mk a.at (.list [x,a,b]) env::env):=by
 obtain⟨t1,hl,h1,rfl⟩:=dy hx ht
 exact⟨t1,rfl,h1,hf,.cons hl hok hx ht hf hw⟩
theorem Av(a b env:AV)(n:Int)(s:ByteArray)(u:Int)(ha:LK.ptr.has a)(he:LK.ptr.has env):an Tryz.prog 107 [.agg [.ptr [.v (.int .u8 n),.v (.string s),.v (.int .i64 u),a,b],env]] [] (bJ (.agg [a,env])):=by
 refine PD _ _ ((cd _).mpr trivial) he ?_
 simp only[IZ,↓zq,zs,ae,bJ]
 exact⟨ha,by omega⟩
theorem zI(a b env:AV)(n:Int)(s:ByteArray)(u:Int)(hb:LK.ptr.has b)(he:LK.ptr.has env):an Tryz.prog 108 [.agg [.ptr [.v (.int .u8 n),.v (.string s),.v (.int .i64 u),a,b],env]] [] (bJ (.agg [b,env])):=by
 refine Ph _ _ ((cd _).mpr trivial) he ?_
 simp only[MI,↓zq,zs,ae,bJ]
 exact⟨hb,by omega⟩
theorem R3(t:Ty)(env:List Fr)(s:List UInt8)(e:E)(ht:xH e env=.rc t):an Tryz.prog 77 [.agg [(Ty.rc t).av,po env]] [] (bJ (.cD [.agg [t.av,po (.mk s e env::env)],(Fr.mk s e env).cA])):=by
 refine Qi _ _ ((aE _).mpr trivial) ((ew _).mpr trivial) ?_
 simp only[NC,Ty.av,↓zq,zs,ae,aE,bJ,po,Fr.cA,ht]
 omega
theorem tL(env:List Fr)(i:Nat)(f:Fr)(h:env[i]?=some f):po (env.drop i)=.ptr [f.cA,po (env.drop (i+1))]:=by
 obtain⟨hlt,he⟩:=List.getElem?_eq_some_iff.1 h
 rw[aR hlt,he,po]
theorem LG(env:List Fr)(u:Nat)(hu:u<env.length)(hl:env.length<1000000):∀(k i:Nat),i+k=u->Ee [po (env.drop i),.v (.int .i64 (u:Int)),.v (.int .i64 (i:Int))] [] (iG 1 [po (env.drop u)] [])
 |
  0,i,hi=>by
  refine Ep _ _ _ ?_
  have:i=u:=by omega
  subst this
  simp only[A7,↓zq,zs,ae,ew]
  exact⟨fun h=>by omega,fun _=>by simp[iG]⟩
 |
  k+1,i,hi=>by
  refine Ep _ _ _ ?_
  have hlt:i<env.length:=by omega
  have hg:env[i]?=some env[i]:=bp hlt
  have hd:=tL env i _ hg
  rw[hd]
  simp only[A7,↓zq,zs,ae,ew]
  refine⟨fun _=>⟨by omega,?_⟩,fun h=>by omega⟩
  rw[bA i (by omega)]
  exact LG env u hu hl k (i+1) (by omega)
theorem Qg(env:List Fr)(u:Nat)(f:Fr)(hf:env[u]?=some f)(hl:env.length<1000000):an Tryz.prog 141 [.agg [(Ty.bound u).av,po env]] [] (bJ f.cA):=by
 refine Lh _ _ ((aE _).mpr trivial) ((ew _).mpr trivial) ?_
 obtain⟨hlt,he⟩:=List.getElem?_eq_some_iff.1 hf
 simp only[Hr,Ty.av,↓zq,zs,ae]
 refine⟨by omega,?_⟩
 have h:=LG env u hlt hl u 0 (by omega)
 simp only[bb]at h
 refine cJ h ?_
 rw[tL env u f hf]
 simp only[↓zq,zs,ae,BZ,bJ]
 omega
theorem Ef(k:Nat)(h:k<100):Lib.atoi (dd k)=some (k:Int):=by
 have e:∀k,k<100->dd k=if k<10 then [bj (48+k)]else [bj (48+k/10),bj (48+k%10)]:=by
  intro k hk
  by_cases h1:k<10
  ·rw[eI h1,if_pos h1]
  ·rw[fR h1,eI (by omega),if_neg h1];rfl
 have key:∀k:Fin 100,Lib.atoi (if k.val<10 then [bj (48+k.val)]else [bj (48+k.val/10),bj (48+k.val%10)])=some (k.val:Int):=by decide +kernel
 rw[e k h];exact key ⟨k,h⟩
theorem Sv(k:Nat)(hk:k<100):an Tryz.prog 140 [.v (.string (mk (dd k)))] [] (bJ (.cD [.v (.int .i64 (k:Int)),.v .nilIface])):=by
 have hl:=mn 1000 k (by omega)
 have hl2:(dd k).length<=18:=by
  have e:(dd k).length<=2:=by
   by_cases h1:k<10
   ·rw[eI h1];simp
   ·rw[fR h1,eI (by omega)];simp
  omega
 refine an.Pb (xs:=[.string (mk (dd k))]) (v:=.tuple #[.int .i64 (k:Int),.nilIface]) ⟨qE,by kernel_rfl,by kernel_rfl,by kernel_rfl⟩ (fun M=>?_) fun w=>?_
 ·refine bG.cD _ _ [.int .i64 (k:Int),.nilIface] rfl fun i hi=>?_
  match i,hi with
  |0,_=>exact .v _ _
  |1,_=>exact .v _ _
 ·have:=Any.strconv_Atoi Tryz.Du (mk (dd k)) (k:Int) (by rw[cN];exact hl2) (by
   have:(mk (dd k)).data.toList=dd k:=by simp[mk]
   rw[this];exact Ef k hk) w
  refine Calls.mono this fun e w' ⟨h1,t,h2⟩=>⟨h1,?_⟩
  subst h2
  refine⟨rfl,rfl,rfl,?_,fun b hb=>Lib.bytesWorld_at_old _ _ _ _ hb⟩
  simp[Lib.bytesWorld,World.freeze]
end Go.Proofs.Trees
namespace Go.Proofs.Trees
open Go Go.VL Go.RowKit
theorem fy{a b:Ty}(h:cf (.plus a b)=false):cf a=false/\cf b=false:=by simpa[cf]using h
theorem eY{a b:Ty}(h:cf (.times a b)=false):cf a=false/\cf b=false:=by simpa[cf]using h
theorem fG{e:E}{ar:List (List UInt8)}{t:Ty}(ht:cT e ar=some t)(hb:t.OV=false)(hf:cf t=false) :
 (e=.atom [48]/\t=.zero)\/(e=.atom [49]/\t=.one)\/(∃s,e=.atom s/\t=.name s/\gT s=true/\s≠[48]/\s≠[49]) ∨
 (∃x a b t1 t2,e=.list [x,a,b]/\x.at=[43]/\t=.plus t1 t2/\cT a ar=some t1/\cT b ar=some t2) ∨
 (∃x a b t1 t2,e=.list [x,a,b]/\x.at=[42]/\t=.times t1 t2/\cT a ar=some t1/\cT b ar=some t2) ∨
 (∃x a b t1,e=.list [x,a,b]/\x.at=[114,101,99]/\t=.rc t1):=by
 cases e with
 |
  list l =>
  match l,ht with
  |
   [x,a,b],ht =>
   by_cases h0:x.at=[43]
   ·obtain⟨t1,t2,h1,h2,rfl⟩:=fL h0 ht
    exact .inr (.inr (.inr (.inl ⟨x,a,b,t1,t2,rfl,h0,rfl,h1,h2⟩)))
   ·by_cases h1:x.at=[42]
    ·obtain⟨t1,t2,h3,h2,rfl⟩:=fk h1 ht
     exact .inr (.inr (.inr (.inr (.inl ⟨x,a,b,t1,t2,rfl,h1,rfl,h3,h2⟩))))
    ·by_cases h2:x.at=[114,101,99]
     ·obtain⟨t1,_,_,rfl⟩:=dy h2 ht
      exact .inr (.inr (.inr (.inr (.inr ⟨x,a,b,t1,rfl,h2,rfl⟩))))
     ·rw[je _ h0 h1 h2]at ht;cases ht
  |[],ht=>cases ht
  |[_],ht=>cases ht
  |[_,_],ht=>cases ht
  |_::_::_::_::_,ht=>cases ht
 |
  atom s =>
  simp only[cT]at ht
  split at ht
  ·rename_i h;cases ht;subst h;exact .inl ⟨rfl,rfl⟩
  ·rename_i h0
   split at ht
   ·rename_i h;cases ht;subst h;exact .inr (.inl ⟨rfl,rfl⟩)
   ·rename_i h1
    split at ht
    ·rename_i h;cases ht;exact .inr (.inr (.inl ⟨s,rfl,rfl,h,h0,h1⟩))
    ·split at ht
     ·rename_i h
      split at ht
      ·cases ht;cases hb
      ·cases ht;simp only[cf]at hf;rw[h]at hf;cases hf
     ·cases ht
def qt(n:Nat)(v:Vl)(e:E)(env:List Fr)(t:Ty):Prop:=an Tryz.prog 101 [.agg [t.av,po env],v.cA,.v (.int .i64 (n:Int))] [] (bJ (.v (.bool (eX n v (e,env)))))
structure Ask(e:E)(env:List Fr)(t:Ty):Prop where
 ok:e.ok
 wf:WF env
 ty:cT e (names env)=some t
 cl:cf t=false
theorem Mx(n:Nat)(hn:n<=100)(v:Vl)(hv:v.gZ 100)(IH:∀w:Vl,w.nodes<v.nodes->w.gZ 100->∀e env t,Ask e env t->env.length+w.nodes<100000->qt n w e env t)
 (e:E) (env:List Fr) (t:Ty) (A:Ask e env t) (hl:env.length+v.nodes<100000) (hb:t.OV=false) (hh:findF e.at env=none):qt n v e env t:=by
 have hhd:hd e env=(e,env):=ka hh
 unfold qt
 refine MX _ _ _ _ ((aE _).mpr trivial) ((ew _).mpr trivial) ((aM _).mpr trivial) ?_
 rcases fG A.ty hb A.cl with⟨rfl,rfl⟩|⟨rfl,rfl⟩|⟨s,rfl,rfl,hp,h0,h1⟩|⟨x,a,b,t1,t2,rfl,hx,rfl,ha,hbb⟩|⟨x,a,b,t1,t2,rfl,hx,rfl,ha,hbb⟩|⟨x,a,b,t1,rfl,hx,rfl⟩
 ·have hp0:gT [48]=false:=rfl
  cases v<;>simp[AA,Ty.av,↓zq,zs,ae,bJ,eX,hhd,hp0]
 ·have hp0:gT [49]=false:=rfl
  cases v<;>simp[AA,Ty.av,Vl.cA,↓zq,zs,ae,bJ,eX,hhd,hp0]
 ·have h1':(s==[49])=false:=by simpa using h1
  cases v with
  |
   el k =>
   have hk:k<100:=hv
   simp only[AA,Ty.av,Vl.cA,↓zq,zs,ae,zt]
   refine⟨by omega,fun h=>by omega,fun _=>⟨fun _=>⟨by omega,fun h=>absurd rfl h,fun _=>⟨by omega,by omega,?_⟩⟩,fun h=>absurd rfl h⟩⟩
   have e1:(List.take ((dd k).length+1) (wZ k)).drop (bK 1)=dd k:=by simp[wZ]
   rw[e1]
   refine ai (Sv k hk) ?_
   simp only[↓zq,zs,ae,bJ,eX,hhd,h1',hp,zf]
   refine⟨rfl,?_⟩
   congr 2
   rw[cy];simp
  |
   _ =>
   simp only[AA,Ty.av,Vl.cA,↓zq,zs,ae,zt,eX,hhd,h1',bJ]
   exact⟨by omega,fun h=>by omega,fun _=>⟨fun _=>⟨by omega,fun _=>trivial,fun h=>by omega⟩,fun h=>absurd rfl h⟩⟩
 ·have hok:=A.ok
  obtain⟨ok1,ok2,ok3,_⟩:=hok
  obtain⟨f1,f2⟩:=fy A.cl
  cases v with
  |
   l w =>
   simp only[Vl.nodes]at hl
   simp only[AA,Ty.av,Vl.cA,↓zq,zs,ae]
   refine⟨by omega,fun h=>by omega,fun _=>⟨fun h=>by omega,fun _=>⟨fun h=>by omega,fun _=>⟨fun _=>⟨by omega,fun _=>?_,fun h=>absurd rfl h⟩,fun h=>absurd rfl h⟩⟩⟩⟩
   refine ai (Av _ _ _ _ _ _ ((aE _).mpr trivial) ((ew _).mpr trivial)) ?_
   simp only[↓zq,zs,ae,bF,aE,ew,aM]
   refine⟨by omega,?_⟩
   refine ai (IH w (by simp only[Vl.nodes];omega) hv a env t1 ⟨ok2,A.wf,ha,f1⟩ (by omega)) ?_
   simp only[↓zq,zs,ae,bJ,eX,hhd,hx]
   refine⟨fun h=>?_,fun h=>⟨by omega,fun h=>by omega,fun _=>?_⟩⟩
   ·simp[h]
   ·simp[h]
  |
   r w =>
   simp only[Vl.nodes]at hl
   simp only[AA,Ty.av,Vl.cA,↓zq,zs,ae]
   refine⟨by omega,fun h=>by omega,fun _=>⟨fun h=>by omega,fun _=>⟨fun h=>by omega,fun _=>⟨fun _=>⟨by omega,fun h=>by omega,fun _=>⟨by omega,fun _=>?_,fun h=>absurd rfl h⟩⟩,fun h=>absurd rfl h⟩⟩⟩⟩
   refine ai (zI _ _ _ _ _ _ ((aE _).mpr trivial) ((ew _).mpr trivial)) ?_
   simp only[↓zq,zs,ae,bF,aE,ew,aM]
   refine⟨by omega,?_⟩
   refine ai (IH w (by simp only[Vl.nodes];omega) hv b env t2 ⟨ok3,A.wf,hbb,f2⟩ (by omega)) ?_
   simp[↓zq,zs,ae,bJ,eX,hhd,hx]
  |
   _ =>
   simp only[AA,Ty.av,Vl.cA,↓zq,zs,ae,eX,hhd,bJ]
   exact⟨by omega,fun h=>by omega,fun _=>⟨fun h=>by omega,fun _=>⟨fun h=>by omega,fun _=>⟨fun _=>⟨by omega,fun h=>by omega,fun _=>⟨by omega,fun h=>by omega,fun _=>by simp[hx]⟩⟩,fun h=>absurd rfl h⟩⟩⟩⟩
 ·have hok:=A.ok
  obtain⟨ok1,ok2,ok3,_⟩:=hok
  obtain⟨f1,f2⟩:=eY A.cl
  cases v with
  |
   p v w =>
   simp only[Vl.nodes]at hl
   simp only[AA,Ty.av,Vl.cA,↓zq,zs,ae]
   refine⟨by omega,fun h=>by omega,fun _=>⟨fun h=>by omega,fun _=>⟨fun h=>by omega,fun _=>⟨fun h=>by omega,fun _=>⟨fun _=>⟨by omega,fun _=>?_,fun h=>absurd rfl h⟩,fun h=>absurd rfl h⟩⟩⟩⟩⟩
   refine ai (Av _ _ _ _ _ _ ((aE _).mpr trivial) ((ew _).mpr trivial)) ?_
   simp only[↓zq,zs,ae,bF,aE,ew,aM]
   refine⟨by omega,?_⟩
   refine ai (IH v (by simp only[Vl.nodes];omega) hv.1 a env t1 ⟨ok2,A.wf,ha,f1⟩ (by omega)) ?_
   simp only[↓zq,zs,ae,bJ,eX,hhd,hx]
   refine⟨fun h=>?_,fun h=>?_⟩
   ·refine ai (zI _ _ _ _ _ _ ((aE _).mpr trivial) ((ew _).mpr trivial)) ?_
    simp only[↓zq,zs,ae,bF,aE,ew,aM]
    refine⟨by omega,?_⟩
    refine ai (IH w (by simp only[Vl.nodes];omega) hv.2 b env t2 ⟨ok3,A.wf,hbb,f2⟩ (by omega)) ?_
    simp[↓zq,zs,ae,h]
   ·simp[h]
  |
   _ =>
   simp only[AA,Ty.av,Vl.cA,↓zq,zs,ae,eX,hhd,bJ]
   exact⟨by omega,fun h=>by omega,fun _=>⟨fun h=>by omega,fun _=>⟨fun h=>by omega,fun _=>⟨fun h=>by omega,fun _=>⟨fun _=>⟨by omega,fun h=>by omega,fun _=>by simp[hx]⟩,fun h=>absurd rfl h⟩⟩⟩⟩⟩
 ·obtain⟨t1',he1,h1,f1,hw1⟩:=jm A.wf A.ok hx A.ty A.cl
  cases he1
  have hok:=A.ok
  obtain⟨ok1,ok2,ok3,_⟩:=hok
  have htD:xH (.list [x,a,b]) env=.rc t1:=by rw[xH,A.ty];rfl
  have hin:=R3 t1 env a.at (.list [x,a,b]) htD
  simp only[Ty.av]at hin
  simp only[AA,Ty.av,↓zq,zs,ae]
  refine⟨by omega,fun h=>by omega,fun _=>⟨fun h=>by omega,fun _=>⟨fun h=>by omega,fun _=>⟨fun h=>by omega,fun _=>⟨fun h=>by omega,fun _=>⟨fun _=>?_,fun h=>absurd rfl h⟩⟩⟩⟩⟩⟩
  refine ai hin ?_
  simp only[↓zq,zs,ae,bF,aE,ew,BZ,aM,fw]
  cases v with
  |
   f w =>
   simp only[Vl.nodes]at hl
   simp only[Vl.cA,↓zq,zs,ae,aM]
   refine⟨by omega,fun _=>⟨by omega,?_⟩,fun h=>absurd rfl h⟩
   refine ai (IH w (by simp only[Vl.nodes];omega) hv b (.mk a.at (.list [x,a,b]) env::env) t1 ⟨ok3,hw1,h1,f1⟩ (by simp;omega)) ?_
   simp[↓zq,zs,ae,bJ,eX,hhd,hx]
  |
   _ =>
   simp only[Vl.cA,↓zq,zs,ae,eX,hhd,bJ]
   exact⟨by omega,fun h=>by omega,fun _=>by simp[hx]⟩
theorem Mf(n:Nat)(hn:n<=100):∀(m:Nat) (v:Vl),v.nodes<m->v.gZ 100->∀e env t,Ask e env t->env.length+v.nodes<100000->qt n v e env t
 |0,v,h,_=>by omega
 |
  m+1,v,h,hv=>by
  intro e env t A hl
  have IH:∀w:Vl,w.nodes<v.nodes->w.gZ 100->∀e env t,Ask e env t->env.length+w.nodes<100000->qt n w e env t:=fun w hw hb=>Mf n hn m w (by omega) hb
  rcases gv A.wf A.ty with⟨hb,hh⟩|⟨u,f,rfl,hh,hu⟩
  ·exact Mx n hn v hv IH e env t A hl hb hh
  ·obtain⟨x,a,b,t',hfe,hok,hx,ht',hf',hwf,hlt⟩:=oY A.wf hh
   obtain⟨t1,hl1,h1,rfl⟩:=dy hx (hfe ▸ ht')
   have hvis:eX n v (e,env)=eX n v (f.ex,f.out):=tX n v (qK hh) (by rw[hfe];exact pY hwf)
   unfold qt
   refine MX _ _ _ _ ((aE _).mpr trivial) ((ew _).mpr trivial) ((aM _).mpr trivial) ?_
   have hbd:=Qg env u f hu (by omega)
   simp only[Ty.av]at hbd
   simp only[AA,Ty.av,↓zq,zs,ae]
   refine⟨by omega,fun h=>by omega,fun _=>⟨fun h=>by omega,fun _=>⟨fun _=>?_,fun h=>absurd rfl h⟩⟩⟩
   refine ai hbd ?_
   cases f with
   |
    mk s ee oo =>
    simp only[Fr.ex,Fr.out]at hfe ht' hf' hwf hvis hlt
    have htD:xH ee oo=.rc t1:=by rw[xH,ht'];rfl
    simp only[Fr.cA,htD,↓zq,zs,ae,bF,aE,ew]
    refine⟨by omega,?_⟩
    have hs:=Mx n hn v hv IH ee oo (.rc t1) ⟨by rw[hfe];exact hok,hwf,ht',hf'⟩ (by omega) rfl (by rw[hfe];exact kU hwf)
    unfold qt at hs
    refine ai hs ?_
    simp[↓zq,zs,ae,bJ,hvis]
end Go.Proofs.Trees
namespace Go.Proofs.Trees
open Go Go.VL Go.RowKit
theorem tz:∀(env:List Fr) (k:Nat) (f:Fr),env[k]?=some f->(j9 env).getD (env.length-1-k) []=f.cells
 |[],k,f,h=>by cases h
 |
  g::r,0,f,h=>by
  cases h
  have:(g::r).length-1-0=(j9 r).length:=by simp[kV]
  rw[this,j9];simp[aa]
 |
  g::r,k+1,f,h=>by
  have h':r[k]?=some f:=by simpa using h
  have hlt:=(List.getElem?_eq_some_iff.1 h').1
  have e:(g::r).length-1-(k+1)=r.length-1-k:=by simp;omega
  have:=tz r k f h'
  rw[e,j9,aa,List.getElem?_append_left (by rw[kV];omega),<-aa]
  exact this
theorem re(f:Fr):f.cells=[.v (.string (mk f.nm)),.v (.string (mk f.ex.at)),f.ex.sp,.sl (j9 f.out)]:=by cases f;rfl
theorem MA(e:E)(env:List Fr)(hl:env.length<1000000):∀(j k:Nat),k+j=env.length->FA [.sl (j9 env),.v (.int .i64 ((env.length:Int)-1-(k:Int)))] [.cells [.v (.string (mk e.at)),e.sp],.cells [.v (.string (mk [])),.v (.slice none 0 0)]]
 (nU (match findF e.at (env.drop k)with|some f=>(2,[.sl (j9 f.out)],[.cells [.v (.string (mk f.ex.at)),f.ex.sp]])|none=>(1,[.sl (j9 env)],[.cells [.v (.string (mk e.at)),e.sp],.cells [.v (.string (mk [])),.v (.slice none 0 0)]])))
 |
  0,k,hk=>by
  refine ON _ _ _ _ _ _ ?_
  have hd:env.drop k=[]:=bS (by omega)
  simp only[Im,↓zq,zs,ae,a6,hd,findF]
  exact⟨fun h=>by omega,fun _=>by first|trivial|rfl⟩
 |
  j+1,k,hk=>by
  refine ON _ _ _ _ _ _ ?_
  have hlt:k<env.length:=by omega
  have hg:env[k]?=some env[k]:=bp hlt
  have hc:=tz env k _ hg
  have e1:((env.length:Int)-1-(k:Int))=((env.length-1-k:Nat):Int):=by omega
  have hdr:env.drop k=env[k]::env.drop (k+1):=aR hlt
  rw[hdr,findF,e1]
  simp only[Im,bM,hc,re,↓zq,zs,ae,zt,a6,kV,bF]
  refine⟨fun _=>⟨by omega,by omega,fun h=>⟨by omega,by omega,by omega,by omega,?_⟩,fun h=>?_⟩,fun h=>by omega⟩
  ·rw[if_pos h]
  ·rw[if_neg h]
   have e2:IntKind.wrap .i64 (((env.length-1-k:Nat):Int)-1)=(env.length:Int)-1-((k+1:Nat):Int):=by
    have:IntKind.wrap .i64 (((env.length-1-k:Nat):Int)-1)=((env.length-1-k:Nat):Int)-1:=wrap64 _ (by omega) (by omega)
    omega
   rw[e2]
   exact MA e env hl j (k+1) (by omega)
theorem Rj(e:E)(env:List Fr)(hl:env.length<1000000):an Tryz.prog 125 [e.kD,.sl (j9 env)] [] (bJ (.cD [(hd e env).1.kD,.sl (j9 (hd e env).2)])):=by
 rw[dj e]
 refine Qx _ _ _ ((a6 _).mpr trivial) ((cc _).mpr trivial) ?_
 simp only[MS,↓zq,zs,ae,kV,bJ]
 have h:=MA e env hl env.length 0 (by omega)
 simp only[bb]at h
 rw[wrap64 _ (by omega) (by omega)]
 rw[show (env.length:Int)-1-((0:Nat):Int)=(env.length:Int)-1 by omega]at h
 refine fm h (fun ys o e'=>?_) (fun ys o e'=>?_)
 ·unfold hd
  cases hq:findF e.at env<;>rw[hq]at e'<;>cases e'
  simp only[↓zq,zs,ae,zt,a6,dj]
 ·unfold hd
  cases hq:findF e.at env<;>rw[hq]at e'<;>cases e'
  simp only[↓zq,zs,ae,zt,a6,dj]
theorem qg:∀env:List Fr,cC 4 (j9 env)
 |[]=>fun c hc=>by cases hc
 |
  f::r=>fun c hc=>by
  simp only[j9,aN,aU]at hc
  rcases hc with hc|rfl
  ·exact qg r c hc
  ·rw[re];rfl
theorem QT(x a b:E)(env:List Fr)(hl:env.length<1000000):an Tryz.prog 128 [(E.list [x,a,b]).kD,.sl (j9 env)] [] (bJ (.cD [b.kD,.sl (j9 (.mk a.at (.list [x,a,b]) env::env))])):=by
 refine Pa _ _ _ ((cc _).mpr trivial) ((cc _).mpr trivial) ?_
 simp only[Od,E.bw,toNat_one,bg,↓zq,zs,ae,zt,iP,gj,iT,mH,au,kV,bJ,aT]
 refine⟨by omega,⟨qg env,by omega⟩,by omega,by omega,⟨fun c hc=>(by simp at hc;rw[hc];rfl),by omega⟩,?_⟩
 simp only[j9,re,Fr.nm,Fr.ex,Fr.out,E.at,E.sp,E.bw]
theorem DP(s:ByteArray)(e:E):bF [.str,.sl] [.v (.string s),e.sp] 0=True:=by apply eq_true;simp[bF,dY,a6]
theorem Fu{e:E}{env:List Fr}{t:Ty}(A:Ask e env t):∃e' o t',hd e env=(e',o)/\Ask e' o t'/\t'.OV=false/\hd e' o=(e',o)/\o.length<=env.length:=by
 rcases gv A.wf A.ty with⟨hb,hh⟩|⟨u,f,rfl,hh,hu⟩
 ·exact⟨e,env,t,ka hh,A,hb,ka hh,au _⟩
 ·obtain⟨x,a,b,t',hfe,hok,hx,ht',hf',hwf,hlt⟩:=oY A.wf hh
  refine⟨f.ex,f.out,t',qK hh,⟨by rw[hfe];exact hok,hwf,ht',hf'⟩,?_,?_,by omega⟩
  ·obtain⟨t1,_,_,rfl⟩:=dy hx (hfe ▸ ht');rfl
  ·rw[hfe];exact pY hwf
def vh:Vl->List UInt8
 | .l _=>[108]
 | .r _=>[114]
 | .f _=>[102]
 | .p _ _=>[112]
 |_=>[]
theorem Ce(v:Vl):an Tryz.prog 86 [v.cL.kD] [] (bJ (.v (.string (mk (vh v))))):=by
 cases v with
 |u=>exact zY _ _ ((bh).mpr trivial) (by simp)
 |el k=>exact zY _ _ ((bh).mpr trivial) (by simp)
 |l v=>exact u3 _ _
 |r v=>exact u3 _ _
 |f v=>exact u3 _ _
 |p v w=>exact u3 _ _
theorem SQ(v:Vl)(hv:v.gZ 100):v.cL.at=(match v with| .u=>[117]| .el k=>wZ k|_=>[])/\AS v.cL.at=(match v with| .el k=>(k:Int)|_=>-1):=by
 cases v with
 |el k=>exact⟨rfl,HS k hv⟩
 |u=>exact⟨rfl,rfl⟩
 |_=>exact⟨rfl,rfl⟩
theorem zR(n:Nat)(hn:n<=100):∀(m:Nat) (v:Vl),v.nodes<m->v.gZ 100->∀e env t,Ask e env t->env.length+v.nodes<100000->an Tryz.prog 94 [e.kD,.sl (j9 env),v.cL.kD,.v (.int .i64 (n:Int))] [] (bJ (.v (.bool (eX n v (e,env)))))
 |0,v,hm,hv,e,env,t,A,hl=>by omega
 |
  m+1,v,hm,hv,e,env,t,A,hl=>by
  obtain⟨e',o,t',hhd,A',hb,hh',hlen⟩:=Fu A
  rw[tX n v hhd hh',dj e,dj v.cL]
  refine PO _ _ _ _ _ _ ((a6 _).mpr trivial) ((cc _).mpr trivial) ((a6 _).mpr trivial) ?_
  have hf:=Rj e env (by omega)
  rw[dj e,hhd]at hf
  have hvh:=Ce v
  rw[dj]at hvh
  unfold Kb
  refine ai hf ?_
  simp only[dj e',↓zq,zs,ae,zt,a6,DP,bJ]
  rcases fG A'.ty hb A'.cl with⟨rfl,rfl⟩|⟨rfl,rfl⟩|⟨s,rfl,rfl,hp,h0,h1⟩|⟨x,a,b,t1,t2,rfl,hx,rfl,ha,hbb⟩|⟨x,a,b,t1,t2,rfl,hx,rfl,ha,hbb⟩|⟨x,a,b,t1,rfl,hx,rfl⟩
  ·refine⟨fun _=>⟨fun h=>by simp[E.at]at h,fun _=>ai (Fk _) ?_⟩,fun h=>by simp[E.at]at h⟩
   have hp0:gT (E.atom [48]).at=false:=rfl
   have hp1:gT [48]=false:=rfl
   cases v<;>simp[↓zq,zs,ae,hp0,eX,hh',hp1]
  ·refine⟨fun _=>⟨fun _=>?_,fun h=>absurd rfl h⟩,fun h=>by simp[E.at]at h⟩
   have hp1:gT [49]=false:=rfl
   cases v<;>simp[eX,hh',hp1,Vl.cL,E.at]
  ·have hne:s≠[]:=A'.ok
   have h1':(s==[49])=false:=by simpa using h1
   refine⟨fun _=>⟨fun h=>absurd h h1,fun _=>ai (Fk _) ?_⟩,fun h=>absurd h hne⟩
   have hat:(E.atom s).at=s:=rfl
   simp only[hat,hp,↓zq,zs,ae]
   refine⟨fun _=>ai (Js _) ?_,fun h=>by cases h⟩
   simp only[↓zq,zs,ae]
   rw[wrap64 _ (by omega) (by omega)]
   refine ai (zO _ _ _) ?_
   simp only[↓zq,zs,ae,xS,(SQ v hv).2]
   cases v with
   |
    el k =>
    simp only[eX,hh',h1',hp,zf]
    congr 2
    rw[cy];simp;omega
   |_=>simp[eX,hh',h1']
  ·have hok:=A'.ok
   obtain⟨ok1,ok2,ok3,_⟩:=hok
   obtain⟨f1,f2⟩:=fy A'.cl
   refine⟨fun h=>absurd rfl h,fun _=>ai (u3 x [a,b]) ?_⟩
   simp only[↓zq,zs,ae]
   refine ai hvh ?_
   rw[hx]
   cases v with
   |
    l w =>
    simp only[Vl.nodes]at hl
    simp only[vh,Vl.cL,E.sp,E.bw,toNat_one,bg,↓zq,zs,ae,zt,iP,gj,iT,mH,au]
    refine⟨by simp,fun _=>⟨by omega,by omega,ai (zR n hn m w (by simp only[Vl.nodes]at hm;omega) hv a o t1 ⟨ok2,A'.wf,ha,f1⟩ (by omega)) ?_⟩,fun h=>absurd rfl h⟩
    simp[↓zq,zs,ae,eX,hh',hx]
   |
    r w =>
    simp only[Vl.nodes]at hl
    simp only[vh,Vl.cL,E.sp,E.bw,toNat_one,bg,↓zq,zs,ae,zt,iP,gj,iT,mH,au]
    refine⟨by simp,fun h=>by simp at h,fun _=>⟨fun _=>⟨by omega,by omega,ai (zR n hn m w (by simp only[Vl.nodes]at hm;omega) hv b o t2 ⟨ok3,A'.wf,hbb,f2⟩ (by omega)) ?_⟩,fun h=>absurd rfl h⟩⟩
    simp[↓zq,zs,ae,eX,hh',hx]
   |_=>simp[vh,↓zq,zs,ae,zt,eX,hh',hx]
  ·have hok:=A'.ok
   obtain⟨ok1,ok2,ok3,_⟩:=hok
   obtain⟨f1,f2⟩:=eY A'.cl
   refine⟨fun h=>absurd rfl h,fun _=>ai (u3 x [a,b]) ?_⟩
   simp only[↓zq,zs,ae]
   refine ai hvh ?_
   rw[hx]
   cases v with
   |
    p w z =>
    simp only[Vl.nodes]at hl
    simp only[vh,Vl.cL,E.sp,E.bw,toNat_one,bg,↓zq,zs,ae,zt,iP,gj,iT,mH,au]
    refine⟨by simp,fun h=>by simp at h,fun _=>⟨fun h=>by simp at h,fun _=>⟨fun _=>⟨by omega,by omega,ai (zR n hn m w (by simp only[Vl.nodes]at hm;omega) hv.1 a o t1 ⟨ok2,A'.wf,ha,f1⟩ (by omega)) ?_⟩,fun h=>absurd rfl h⟩⟩⟩
    simp only[↓zq,zs,ae,eX,hh',hx]
    refine⟨fun h=>⟨by omega,by omega,ai (zR n hn m z (by simp only[Vl.nodes]at hm;omega) hv.2 b o t2 ⟨ok3,A'.wf,hbb,f2⟩ (by omega)) ?_⟩,fun h=>?_⟩
    ·simp[↓zq,zs,ae,h]
    ·simp[h]
   |_=>simp[vh,↓zq,zs,ae,zt,eX,hh',hx]
  ·obtain⟨t1',he1,h1,f1,hw1⟩:=jm A'.wf A'.ok hx A'.ty A'.cl
   cases he1
   have hok:=A'.ok
   obtain⟨ok1,ok2,ok3,_⟩:=hok
   refine⟨fun h=>absurd rfl h,fun _=>ai (u3 x [a,b]) ?_⟩
   simp only[↓zq,zs,ae]
   refine ai hvh ?_
   rw[hx]
   cases v with
   |
    f w =>
    simp only[Vl.nodes]at hl
    simp only[vh,Vl.cL,E.sp,E.bw,toNat_one,bg,↓zq,zs,ae,zt,iP,gj,iT,mH,au]
    refine⟨by simp,fun h=>by simp at h,fun _=>⟨fun h=>by simp at h,fun _=>⟨fun h=>by simp at h,fun _=>⟨fun _=>ai (QT x a b o (by omega)) ?_,fun h=>absurd rfl h⟩⟩⟩⟩
    simp only[↓zq,zs,ae,yw,Em]
    refine⟨by omega,ai (zR n hn m w (by simp only[Vl.nodes]at hm;omega) hv b (.mk a.at (.list [x,a,b]) o::o) t1 ⟨ok3,hw1,h1,f1⟩ (by simp;omega)) ?_⟩
    simp[↓zq,zs,ae,eX,hh',hx]
   |_=>simp[vh,↓zq,zs,ae,zt,eX,hh',hx]
theorem RN(n:Nat)(hn:n<=100)(v:Vl)(hv:v.gZ 100)(e:E)(env:List Fr)(t:Ty)(A:Ask e env t)(hl:env.length+v.nodes<100000):an Tryz.prog 94 [e.kD,.sl (j9 env),v.cL.kD,.v (.int .i64 (n:Int))] [] (bJ (.v (.bool (eX n v (e,env))))):=zR n hn (v.nodes+1) v (by omega) hv e env t A hl
end Go.Proofs.Trees
namespace Go.Proofs.Trees
open Go Go.VL Go.RowKit
theorem IT(l:List (List UInt8))(a:AV)(ha:cm a l)(s:List UInt8)(hl:l.length<1000000):∀(k i:Nat),i+k=l.length->FP [a,.v (.string (mk s)),.v (.int .i64 (i:Int))] []
 (nU (if s∈l.drop i then(2,[.v (.bool true)],[])else(1,[],[])))
 |
  0,i,hi=>by
  refine Jt _ _ _ ?_
  have hd:l.drop i=[]:=bS (by omega)
  simp only[Gd,↓zq,zs,ae,hd,ha.len]
  exact⟨ha.1,ha.1,fun h=>by omega,fun _=>by simp[nU]⟩
 |
  k+1,i,hi=>by
  have hlt:i<l.length:=by omega
  have hdr:l.drop i=l.getD i []::l.drop (i+1):=by
   rw[aR hlt];simp[aa,hlt]
  refine Jt _ _ _ ?_
  simp only[Gd,↓zq,zs,ae,zt,ha.len,ha.idx hlt]
  refine⟨ha.1,ha.1,fun _=>⟨⟨ha.1,by omega,by omega⟩,by omega,fun h=>?_,fun h=>?_⟩,fun h=>by omega⟩
  ·rw[hdr,h];simp[nU]
  ·rw[bA i (by omega)]
   have:=IT l a ha s hl k (i+1) (by omega)
   have e:s∈l.drop i↔s∈l.drop (i+1):=by
    rw[hdr,aK];exact⟨fun q=>q.resolve_left (fun q=>h q.symm),.inr⟩
   simp only[e];exact this
theorem FN(l:List (List UInt8))(a:AV)(ha:cm a l)(s:List UInt8)(hl:l.length<1000000):an Tryz.prog 118 [a,.v (.string (mk s))] [] (bJ (.v (.bool (decide (s∈l))))):=by
 refine O3 _ _ ha.1 ?_
 unfold Kk
 refine fm (IT l a ha s hl l.length 0 (by omega)) (fun ys o e=>?_) (fun ys o e=>?_)
 ·simp only[bb]at e
  split at e<;>cases e
  rename_i h
  simp[↓zq,zs,ae,bJ,h]
 ·simp only[bb]at e
  split at e<;>cases e
  rename_i h
  simp[↓zq,zs,ae,bJ,h]
theorem wI(l:List (List UInt8))(a:AV)(ha:cm a l)(s:List UInt8)(hl:l.length<1000000):an Tryz.prog 52 [a,.v (.string (mk s))] [] (dq (.vec 0) [.vec 1 (bH (l++[s]))]):=by
 refine P5 _ _ ha.1 ?_
 simp only[I1,↓zq,zs,ae,ha.2,dq,aT]
 have:(bH l).length=l.length:=by simp[bH]
 refine⟨⟨ha.1,ke l,by omega⟩,⟨fun c hc=>(by simp at hc;rw[hc];rfl),by omega⟩,?_⟩
 first|exact⟨rfl,by rw[E3]⟩|rw[E3]
def kq:E->List (List UInt8)->List (List UInt8)->List (List UInt8)
 | .atom s,bd,l=>if s=[48]\/s=[49]\/s∈bd\/s∈l then l else l++[s]
 | .list [x,a,b],bd,l=>if x.at=[114,101,99]then kq b (bd++[a.at]) l else kq b bd (kq a bd l)
 | .list _,_,l=>l
theorem fZ:∀(e:E) (bd l:List (List UInt8)),(kq e bd l).length<=l.length+e.sz
 | .atom s,bd,l=>by rw[kq];split<;>simp[E.sz]
 | .list [],bd,l=>by simp[kq]
 | .list [_],bd,l=>by simp[kq]
 | .list [_,_],bd,l=>by simp[kq]
 | .list (_::_::_::_::_),bd,l=>by simp[kq]
 |
  .list [x,a,b],bd,l=>by
  rw[kq]
  simp only[E.sz,E.jt]
  split
  ·have:=fZ b (bd++[a.at]) l;omega
  ·have:=fZ a bd l
   have:=fZ b bd (kq a bd l)
   omega
theorem DF:∀(e:E) (bd l:List (List UInt8)) (a:AV),e.ok->jS e=true->cm a bd->bd.length+l.length+e.sz<100000->an Tryz.prog 84 [e.kD,a,.vec 0] [.vec 1 (bH l)] (dq (.vec 1) [.dead,.vec 1 (bH (kq e bd l))])
 |
  .atom s,bd,l,a,hok,hty,ha,hl=>by
  simp only[E.sz]at hl
  refine zn _ _ _ _ ((bh).mpr trivial) ha.1 ?_
  have hne:s≠[]:=hok
  have hll:(bH l).length=l.length:=by simp[bH]
  simp only[wS,↓zq,zs,ae,zt,dq,kq]
  refine⟨fun _=>⟨fun h=>?_,fun h=>⟨fun h1=>?_,fun h1=>?_⟩⟩,fun h=>absurd h hne⟩
  ·rw[if_pos (.inl h)]
  ·rw[if_pos (.inr (.inl h1))]
  ·refine ai (FN bd a ha s (by omega)) ?_
   simp only[↓zq,zs,ae]
   refine⟨fun h2=>?_,fun h2=>ai (FN l _ (.of l) s (by omega)) ?_⟩
   ·rw[if_pos (.inr (.inr (.inl h2)))]
   ·simp only[↓zq,zs,ae]
    refine⟨fun h3=>?_,fun h3=>⟨⟨fun c hc=>(by simp at hc;rw[hc];rfl),by omega⟩,?_⟩⟩
    ·rw[if_pos (.inr (.inr (.inr h3)))]
    ·rw[E3,if_neg]
     rintro(q|q|q|q)
     ·exact h q
     ·exact h1 q
     ·exact h2 q
     ·exact h3 q
 | .list [],_,_,_,_,h,_,_=>by cases h
 | .list [_],_,_,_,_,h,_,_=>by cases h
 | .list [_,_],_,_,_,_,h,_,_=>by cases h
 | .list (_::_::_::_::_),_,_,_,_,h,_,_=>by cases h
 |
  .list [x,y,z],bd,l,a,hok,hty,ha,hl=>by
  simp only[E.sz,E.jt]at hl
  obtain⟨ok1,ok2,ok3,_⟩:=hok
  refine zn _ _ _ _ ((cc _).mpr trivial) ha.1 ?_
  simp only[wS,E.bw,toNat_one,bg,↓zq,zs,ae,zt,iP,gj,iT,mH,au,dq]
  refine⟨fun h=>absurd rfl h,fun _=>ai (u3 x [y,z]) ?_⟩
  simp only[↓zq,zs,ae,zt]
  have hyl:=fZ y bd l
  rw[jS]at hty
  refine⟨fun h=>⟨by omega,by omega,by omega,aV (wI bd a ha y.at (by omega)) ?_⟩,fun h=>⟨by omega,by omega,?_⟩⟩
  ·have hz:jS z=true:=by
    rw[if_neg (by rw[h];decide),if_neg (by rw[h];decide),if_pos h]at hty
    simp only[aw]at hty;exact hty.2
   simp only[↓zq,zs,ae,Ob.es,aO]
   refine⟨dx _,?_⟩
   refine aV (DF z (bd++[y.at]) l _ ok3 hz (.of _) (by simp;omega)) ?_
   simp only[↓zq,zs,ae]
   rw[kq,if_pos h]
  ·have hyz:jS y=true/\jS z=true:=by
    split at hty
    ·simpa using hty
    ·split at hty
     ·simpa using hty
     ·cases hty
   refine aV (DF y bd l a ok2 hyz.1 ha (by omega)) ?_
   simp only[↓zq,zs,ae]
   refine aV (DF z bd (kq y bd l) a ok3 hyz.2 ha (by omega)) ?_
   simp only[↓zq,zs,ae]
   rw[kq,if_neg h]
theorem kb{s:List UInt8}(h:gT s=true):dm s=false:=by
 cases hq:dm s with
 |false=>rfl
 |
  true =>
  obtain⟨c,r,rfl,h1,h2⟩:=lM h
  obtain⟨c',r',he,h3,h4⟩:=lM hq
  cases he;omega
theorem mC(s:List UInt8)(ar:List (List UInt8)):∀i,i<=ar.length->(bP s ar i=none↔s∉ar.take i)
 |0,_=>by simp[bP]
 |
  i+1,hi=>by
  have hlt:i<ar.length:=by omega
  have e:ar.getD i []=ar[i]:=by simp[aa,hlt]
  have e2:s∈ar.take (i+1)↔s∈ar.take i\/s=ar[i]:=by
   rw[show ar.take (i+1)=ar.take i++[ar[i]] from (List.take_append_getElem hlt).symm]
   simp only[aN,aU]
  rw[bP,e,e2]
  by_cases h:ar[i]=s
  ·rw[if_pos h]
   exact⟨fun h=>(by cases h),fun h'=>absurd (.inr h.symm) h'⟩
  ·rw[if_neg h,mC s ar i (by omega)]
   exact⟨fun h1 h2=>h2.elim h1 (fun h3=>h h3.symm),fun h1 h2=>h1 (.inl h2)⟩
theorem lP:∀(e:E) (ar l:List (List UInt8)) (t:Ty),cT e ar=some t->(∀w,w∈ar->dm w=true)->(kq e ar l).any dm=(l.any dm||cf t)
 |
  .atom s,ar,l,t,h,har=>by
  simp only[cT]at h
  rw[kq]
  split at h
  ·rename_i h0;cases h;rw[if_pos (.inl h0)];simp[cf]
  ·rename_i h0
   split at h
   ·rename_i h1;cases h;rw[if_pos (.inr (.inl h1))];simp[cf]
   ·rename_i h1
    split at h
    ·rename_i h2
     cases h
     have hn:=kb h2
     simp only[cf,hn]
     split
     ·simp
     ·simp[hn]
    ·split at h
     ·rename_i h2 h3
      have hlo:=mC s ar ar.length (au _)
      rw[List.take_length]at hlo
      cases hq:bP s ar ar.length with
      |
       some u =>
       rw[hq]at h;cases h
       have hm:s∈ar:=Classical.byContradiction fun hm=>by rw[hlo.2 hm]at hq;cases hq
       rw[if_pos (.inr (.inr (.inl hm)))];simp[cf]
      |
       none =>
       rw[hq]at h;cases h
       have hm:=hlo.1 hq
       simp only[cf,h3,Bool.or_true]
       split
       ·rename_i hh
        rcases hh with q|q|q|q
        ·exact absurd q h0
        ·exact absurd q h1
        ·exact absurd q hm
        ·rw[cu];exact⟨s,q,h3⟩
       ·simp[h3]
     ·cases h
 | .list [],_,_,_,h,_=>by cases h
 | .list [_],_,_,_,h,_=>by cases h
 | .list [_,_],_,_,_,h,_=>by cases h
 | .list (_::_::_::_::_),_,_,_,h,_=>by cases h
 |
  .list [x,a,b],ar,l,t,h,har=>by
  rw[kq]
  by_cases h0:x.at=[43]
  ·obtain⟨t1,t2,e1,e2,rfl⟩:=fL h0 h
   rw[if_neg (by rw[h0];decide),lP b ar _ t2 e2 har,lP a ar l t1 e1 har,cf,Bool.or_assoc]
  ·by_cases h1:x.at=[42]
   ·obtain⟨t1,t2,e1,e2,rfl⟩:=fk h1 h
    rw[if_neg (by rw[h1];decide),lP b ar _ t2 e2 har,lP a ar l t1 e1 har,cf,Bool.or_assoc]
   ·by_cases h2:x.at=[114,101,99]
    ·obtain⟨t1,hl,e1,rfl⟩:=dy h2 h
     rw[if_pos h2,lP b _ l t1 e1 (fun w hw=>by
      simp only[aN,aU]at hw
      rcases hw with hw|rfl
      ·exact har w hw
      ·exact hl),cf]
    ·rw[je _ h0 h1 h2]at h;cases h
def jH(s:List UInt8):Option E:=match wC s with
 |none=>none
 |some e=>if(kq e [] []).any dm=true then none else some e
theorem A1{s:List UInt8}:wO s=match jH s with|none=>none|some e=>cT e []:=by
 unfold wO jH
 rw[uW]
 cases he:wC s with
 |none=>rfl
 |
  some e =>
  obtain⟨h1,h2,h3⟩:=pL he
  have hs:=iY e []
  rw[h2]at hs
  obtain⟨t,ht⟩:=cb.1 hs
  have ha:=lP e [] [] t ht (fun w hw=>by cases hw)
  simp only[ht,s5,ha,List.any_nil,Bool.false_or]
  cases hf:cf t<;>simp[ht]
theorem gX{s:List UInt8}{e:E}(h:jH s=some e):∃t,wO s=some t/\Ask e [] t/\jS e=true/\e.sz<=8000/\t.atoms<=400/\qO s=some e:=by
 have h0:=h
 unfold jH at h
 split at h
 ·cases h
 ·rename_i e' he
  split at h
  ·cases h
  ·rename_i hn
   cases h
   obtain⟨h1,h2,h3⟩:=pL he
   obtain⟨hok,hsz⟩:=nM h1
   have hs:=iY e []
   rw[h2]at hs
   obtain⟨t,ht⟩:=cb.1 hs
   have ha:=lP e [] [] t ht (fun w hw=>by cases hw)
   rw[ha]at hn
   refine⟨t,by rw[A1,h0];exact ht,⟨hok,.nil,ht,by simpa using hn⟩,h2,hsz,?_,h1⟩
   rw[<-jR e [] t ht];exact h3
theorem na{s:List UInt8}(h:jH s=none):wO s=none:=by rw[A1,h]
theorem JV(e:E)(l:List (List UInt8))(hl:l.length<1000000):∀(k i:Nat),i+k=l.length->Iu [.v (.int .i64 (i:Int))] [.cells [.v (.string (mk [])),.v (.slice none 0 0)],.cells [.v (.string (mk e.at)),e.sp],.vec 1 (bH l)]
 (nU (if(l.drop i).any dm=true then(2,[.v (.bool false)],[.cells [.v (.string (mk e.at)),e.sp]])else(1,[],[.cells [.v (.string (mk [])),.v (.slice none 0 0)],.cells [.v (.string (mk e.at)),e.sp]])))
 |
  0,i,hi=>by
  refine Ls _ _ _ _ _ _ ?_
  have hd:l.drop i=[]:=bS (by omega)
  have hll:(bH l).length=l.length:=by simp[bH]
  simp only[H4,↓zq,zs,ae,hd,hll,a6]
  exact⟨fun h=>by omega,fun _=>by simp[nU]⟩
 |
  k+1,i,hi=>by
  have hlt:i<l.length:=by omega
  have hll:(bH l).length=l.length:=by simp[bH]
  have hdr:l.drop i=l.getD i []::l.drop (i+1):=by
   rw[aR hlt];simp[aa,hlt]
  have hg:=(cm.of l).idx hlt
  simp only[fF]at hg
  refine Ls _ _ _ _ _ _ ?_
  simp only[H4,↓zq,zs,ae,zt,hll,hg,a6]
  refine⟨fun _=>⟨by omega,by omega,ai (F6 _) ?_⟩,fun h=>by omega⟩
  simp only[↓zq,zs,ae,hdr,List.any_cons]
  refine⟨fun h=>?_,fun h=>?_⟩
  ·rw[h];simp[nU]
  ·rw[h,bA i (by omega)]
   simp only[Bool.false_or]
   exact JV e l hl k (i+1) (by omega)
theorem Hu(s:List UInt8):an Tryz.prog 61 [.v (.string (mk s))] [] (jI (jH s) (jH s).isSome):=by
 refine O7 _ ?_
 unfold Og
 refine aP (HM s) (jI.ne _ _ (fun h=>h)) ?_
 rintro r o ⟨c,d,hd,rfl,hh⟩
 have hhas:bF [.str,.sl] [.v (.string (mk c)),d] 0:=by simp[bF,dY,hd]
 simp only[↓zq,zs,ae,zt]
 refine⟨hhas,fun h=>?_,fun h=>?_⟩
 ·have hn:wC s=none:=by cases hq:wC s<;>simp[hq]at h |-
  unfold jH
  rw[hn]
  exact⟨c,d,hd,rfl,fun h=>by cases h⟩
 ·obtain⟨e,he,hce⟩:=hh h
  obtain⟨h1,h2,h3⟩:=pL he
  obtain⟨hok,hsz⟩:=nM h1
  have hce':=hce
  rw[dj]at hce'
  simp only[AV.agg.injEq,List.cons.injEq,AV.v.injEq,Value.string.injEq,and_true]at hce'
  obtain⟨hc1,rfl⟩:=hce'
  have hc2:=mk_inj hc1
  subst hc2
  rw[<-dj]
  refine aV (DF e [] [] _ hok h2 (.of []) (by simp;omega)) ?_
  have hfl:=fZ e [] []
  simp only[↓zq,zs,ae]
  have hLS:=JV e (kq e [] []) (by simp at hfl;omega) (kq e [] []).length 0 (by omega)
  simp only[bb]at hLS
  unfold jH
  rw[he]
  refine fm hLS (fun ys o e'=>?_) (fun ys o e'=>?_)
  ·split at e'<;>cases e'
   rename_i hn
   simp only[↓zq,zs,ae,a6,if_neg hn]
   exact⟨e.at,e.sp,hd,rfl,fun _=>⟨e,rfl,(dj e).symm⟩⟩
  ·split at e'<;>cases e'
   rename_i hn
   simp only[↓zq,zs,ae,a6,if_pos hn]
   exact⟨e.at,e.sp,hd,rfl,fun h=>by cases h⟩
def ng(s v:List UInt8)(n:Int):Option Vl:=match jH s,sA v with
 |some e,some w=>if(0<=n/\n<=100)/\eX n.toNat w (e,[])=true then some w else none
 |_,_=>none
theorem pg{s v:List UInt8}{n:Int}{w:Vl}(h:ng s v n=some w):∃e t m,jH s=some e/\sA v=some w/\wO s=some t/\Ask e [] t/\n=(m:Nat)/\m<=100/\eX m w (e,[])=true:=by
 unfold ng at h
 split at h
 ·rename_i e w' he hw
  split at h
  ·rename_i hh
   cases h
   obtain⟨t,h1,h2,_⟩:=gX he
   exact⟨e,t,n.toNat,he,hw,h1,h2,by omega,by omega,hh.2⟩
  ·cases h
 ·cases h
theorem Lw(s v:List UInt8)(n:Int):an Tryz.prog 71 [.v (.string (mk s)),.v (.string (mk v)),.v (.int .i64 n)] [] (bJ (.cD [ib (wO s),jo (ng s v n)])):=by
 refine R1 _ _ _ ?_
 unfold Jl
 refine ai (M6 s) ?_
 simp only[↓zq,zs,ae,iv]
 refine ai (Rh v) ?_
 simp only[↓zq,zs,ae,gn,bJ]
 unfold ng
 cases he:jH s with
 |none=>rw[na he];cases sA v<;>simp[ib,jo,↓zq,zs,ae]
 |
  some e =>
  obtain⟨t,h1,h2,h3,h4,h5,_⟩:=gX he
  rw[h1]
  cases hv:sA v with
  |none=>simp only[ib,jo,aE,fO,↓zq,zs,ae];exact⟨fun h=>(by cases h),fun _=>⟨fun _=>trivial,fun h=>(by cases h)⟩⟩
  |
   some w =>
   obtain⟨h6,h7,h8⟩:=lT hv
   simp only[ib,jo,aE,fO,aM,fw,↓zq,zs,ae]
   refine⟨fun h=>(by cases h),fun _=>⟨fun h=>(by cases h),fun _=>⟨fun h=>?_,fun h=>⟨fun h'=>?_,fun h'=>?_⟩⟩⟩⟩
   ·rw[if_neg (by omega)]
   ·rw[if_neg (by omega)]
   ·obtain⟨m,rfl⟩:∃m:Nat,n=(m:Int):=⟨n.toNat,by omega⟩
    have hi:=Mf m (by omega) (w.nodes+1) w (by omega) h7 e [] t h2 (by simp;omega)
    unfold qt at hi
    refine ai hi ?_
    simp only[↓zq,zs,ae,bM]
    refine⟨fun hq=>?_,fun hq=>?_⟩
    ·rw[if_neg (by rw[hq];simp)]
    ·rw[if_pos ⟨by omega,hq⟩]
theorem zv(s v:List UInt8)(n:Int):an Tryz.prog 68 [.v (.string (mk s)),.v (.string (mk v)),.v (.int .i64 n)] [] (bJ (.v (.bool (ng s v n).isSome))):=by
 refine Q7 _ _ _ ?_
 unfold Na
 refine aP (Hu s) (jI.ne _ _ (fun h=>h)) ?_
 rintro r o ⟨c,d,hd,rfl,hh⟩
 have hhas:bF [.str,.sl] [.v (.string (mk c)),d] 0:=by simp[bF,dY,hd]
 simp only[↓zq,zs,ae,zt]
 refine⟨hhas,?_⟩
 refine aP (Ez v) (jI.ne _ _ (fun h=>by cases hq:sA v<;>simp[hq]at h |-)) ?_
 rintro r o ⟨c',d',hd',rfl,hh'⟩
 have hhas':bF [.str,.sl] [.v (.string (mk c')),d'] 0:=by simp[bF,dY,hd']
 simp only[↓zq,zs,ae,zt,bJ]
 refine⟨hhas',fun h=>⟨fun h2=>?_,fun h2=>?_⟩,fun h=>?_⟩
 ·obtain⟨e,he,hce⟩:=hh h
  obtain⟨t,h1,hA,h3,h4,h5,_⟩:=gX he
  obtain⟨w,hw⟩:=cb.1 h2
  obtain⟨e2,he2,hce2⟩:=hh' h2
  rw[hw]at he2
  cases he2
  obtain⟨h6,h7,h8⟩:=lT hw
  refine ai (zO _ _ _) ?_
  simp only[↓zq,zs,ae,xS,ng,he,hw]
  refine⟨fun hq=>?_,fun hq=>?_⟩
  ·have hq':0<=n/\n<=100:=by simpa using hq
   obtain⟨m,rfl⟩:∃m:Nat,n=(m:Int):=⟨n.toNat,by omega⟩
   rw[hce,hce2]
   have:=RN m (by omega) w h7 e [] t hA (by simp;omega)
   rw[show j9 []=[] from rfl]at this
   refine ai this ?_
   simp only[↓zq,zs,ae,bM]
   by_cases hb:eX m w (e,[])=true
   ·rw[if_pos ⟨hq',hb⟩,hb];rfl
   ·rw[if_neg (fun h=>hb h.2)]
    rw[Bool.not_eq_true]at hb
    rw[hb];rfl
  ·have hq':¬(0<=n/\n<=100):=by simpa using hq
   rw[if_neg (fun h=>hq' h.1)];rfl
 ·have hn:sA v=none:=by cases hq:sA v<;>simp[hq]at h2 |-
  unfold ng
  rw[hn];cases jH s<;>rfl
 ·have hn:jH s=none:=by cases hq:jH s<;>simp[hq]at h |-
  unfold ng
  rw[hn];rfl
end Go.Proofs.Trees
namespace Go.Proofs.Trees
open Go Go.VL Go.RowKit
inductive Tg where
 |nm (s:List UInt8)
 |bd (k:Nat)
 deriving DecidableEq
def Tg.up:Tg->Tg
 | .nm s=>.nm s
 | .bd k=>.bd (k+1)
def eF:Ty->Tg->Bool
 | .name s,.nm s'=>decide (s=s')
 | .bound u,.bd k=>decide (u=k)
 |_,_=>false
abbrev Hl:=Vl×Vl
def iF(g:Vl->Vl)(l:List Hl):List Hl:=l.map fun h=>(g h.1,h.2)
def i7(f:Ty->Tg->Vl->List Hl)(tg:Tg):Ty->Vl->List Hl
 | .plus a _,.l w=>iF .l (f a tg w)
 | .plus _ b,.r w=>iF .r (f b tg w)
 | .times a b,.p x y=>iF (fun c=>.l (.p c y)) (f a tg x)++iF (fun c=>.r (.p x c)) (f b tg y)
 | .rc a,.f w=>iF (fun c=>.f (.l c)) (f a tg.up w)++(f a (.bd 0) w).flatMap fun h=>iF (fun c=>.f (.r (.p h.1 c))) (f (.rc a) tg h.2)
 |_,_=>[]
def dE:Nat->Ty->Tg->Vl->List Hl
 |0,_,_,_=>[]
 |n+1,t,tg,v=>if eF t tg=true then [(.u,v)]else i7 (dE n) tg t v
def stuck:Ty->Vl->Bool
 | .plus _ _,.l _=>false
 | .plus _ _,.r _=>false
 | .times _ _,.p _ _=>false
 | .rc _,.f _=>false
 |_,_=>true
def cq(t:Ty)(tg:Tg)(v:Vl):List Hl:=dE v.nodes t tg v
theorem cZ{g:Vl->Vl}{l:List Hl}{h:Hl}(hm:h∈iF g l):∃k,k∈l/\h=(g k.1,k.2):=by
 obtain⟨k,h1,h2⟩:=bQ.1 hm
 exact⟨k,h1,h2.symm⟩
theorem iQ{f g:Hl->List Hl}:∀{l:List Hl},(∀h,h∈l->f h=g h)->l.flatMap f=l.flatMap g
 |[],_=>rfl
 |h::l,hl=>by rw[List.flatMap_cons,List.flatMap_cons,hl h ak,iQ (l:=l) fun k hk=>hl k (al _ hk)]
theorem fg:∀(n:Nat) (t:Ty) (tg:Tg) (v:Vl) (h:Hl),h∈dE n t tg v->h.2.nodes<=v.nodes/\h.1.nodes+4*h.2.nodes<=4*v.nodes+1
 |0,t,tg,v,h,hm=>by simp[dE]at hm
 |
  n+1,t,tg,v,h,hm=>by
  unfold dE at hm
  split at hm
  ·simp only[aU]at hm
   subst hm
   simp only[Vl.nodes];omega
  ·unfold i7 at hm
   split at hm
   ·obtain⟨k,h1,rfl⟩:=cZ hm
    have:=fg n _ _ _ k h1
    simp only[Vl.nodes];omega
   ·obtain⟨k,h1,rfl⟩:=cZ hm
    have:=fg n _ _ _ k h1
    simp only[Vl.nodes];omega
   ·rcases aN.1 hm with hm|hm
    ·obtain⟨k,h1,rfl⟩:=cZ hm
     have:=fg n _ _ _ k h1
     simp only[Vl.nodes];omega
    ·obtain⟨k,h1,rfl⟩:=cZ hm
     have:=fg n _ _ _ k h1
     simp only[Vl.nodes];omega
   ·rcases aN.1 hm with hm|hm
    ·obtain⟨k,h1,rfl⟩:=cZ hm
     have:=fg n _ _ _ k h1
     simp only[Vl.nodes];omega
    ·obtain⟨k,h1,h2⟩:=List.mem_flatMap.1 hm
     obtain⟨k2,h3,rfl⟩:=cZ h2
     have:=fg n _ _ _ k h1
     have:=fg n _ _ _ k2 h3
     simp only[Vl.nodes];omega
   ·simp at hm
theorem gY:∀(n m:Nat) (t:Ty) (tg:Tg) (v:Vl),v.nodes<=n->v.nodes<=m->dE n t tg v=dE m t tg v
 |0,m,t,tg,v,h,_=>by have:=dw v;omega
 |n+1,0,t,tg,v,_,h=>by have:=dw v;omega
 |
  n+1,m+1,t,tg,v,hn,hm=>by
  rw[dE,dE]
  split
  ·rfl
  ·unfold i7
   split
   ·simp only[Vl.nodes]at hn hm;rw[gY n m _ _ _ (by omega) (by omega)]
   ·simp only[Vl.nodes]at hn hm;rw[gY n m _ _ _ (by omega) (by omega)]
   ·simp only[Vl.nodes]at hn hm;rw[gY n m _ _ _ (by omega) (by omega),gY n m _ _ _ (by omega) (by omega)]
   ·rename_i a w
    simp only[Vl.nodes]at hn hm;rw[gY n m _ _ _ (by omega) (by omega),gY n m _ (.bd 0) _ (by omega) (by omega)]
    congr 1
    apply iQ
    intro h hh
    have:=(fg _ _ _ _ _ hh).1
    rw[gY n m _ _ _ (by omega) (by omega)]
   ·rfl
theorem oU{n:Nat}(t:Ty)(tg:Tg){v:Vl}(h:v.nodes<=n):dE n t tg v=cq t tg v:=gY _ _ _ _ _ h (au _)
theorem mD{t:Ty}{tg:Tg}(v:Vl)(h:eF t tg=true):cq t tg v=[(.u,v)]:=by
 have:=dw v
 unfold cq
 cases e:v.nodes with
 |zero=>omega
 |succ n=>rw[dE,if_pos h]
theorem nh(a b:Ty)(tg:Tg)(w:Vl):cq (.plus a b) tg (.l w)=iF .l (cq a tg w):=by
 unfold cq;rw[show (Vl.l w).nodes=w.nodes+1 by simp[Vl.nodes];omega,dE,if_neg (by simp[eF])];rfl
theorem mW(a b:Ty)(tg:Tg)(w:Vl):cq (.plus a b) tg (.r w)=iF .r (cq b tg w):=by
 unfold cq;rw[show (Vl.r w).nodes=w.nodes+1 by simp[Vl.nodes];omega,dE,if_neg (by simp[eF])];rfl
theorem m9(a b:Ty)(tg:Tg)(x y:Vl):cq (.times a b) tg (.p x y)=iF (fun c=>.l (.p c y)) (cq a tg x)++iF (fun c=>.r (.p x c)) (cq b tg y):=by
 rw[cq,show (Vl.p x y).nodes=(x.nodes+y.nodes)+1 by simp[Vl.nodes];omega,dE,if_neg (by simp[eF])]
 rw[i7,oU a tg (by omega),oU b tg (by omega)]
theorem nn(a:Ty)(tg:Tg)(w:Vl):cq (.rc a) tg (.f w)=iF (fun c=>.f (.l c)) (cq a tg.up w)++(cq a (.bd 0) w).flatMap fun h=>iF (fun c=>.f (.r (.p h.1 c))) (cq (.rc a) tg h.2):=by
 rw[cq,show (Vl.f w).nodes=w.nodes+1 by simp[Vl.nodes];omega,dE,if_neg (by simp[eF])]
 rw[i7,oU a tg.up (au _),oU a (.bd 0) (au _)]
 congr 1
 apply iQ
 intro h hh
 have:=(fg _ _ _ _ _ hh).1
 rw[oU (.rc a) tg this]
theorem dS{t:Ty}{tg:Tg}{v:Vl}(h:eF t tg=false)(h2:stuck t v=true):cq t tg v=[]:=by
 unfold cq
 cases e:v.nodes with
 |zero=>rfl
 |
  succ n =>
  rw[dE,if_neg (by rw[h];simp)]
  unfold i7
  split<;>first|(simp[stuck]at h2;done)|rfl
theorem iB{t:Ty}{tg:Tg}{v:Vl}{h:Hl}(hm:h∈cq t tg v):h.2.nodes<=v.nodes/\h.1.nodes+4*h.2.nodes<=4*v.nodes+1:=fg _ _ _ _ _ hm
theorem gM(n:Nat):∀(m:Nat) (t:Ty) (tg:Tg) (v:Vl) (h:Hl),v.gZ n->h∈dE m t tg v->h.1.gZ n/\h.2.gZ n
 |0,t,tg,v,h,hv,hm=>by simp[dE]at hm
 |
  m+1,t,tg,v,h,hv,hm=>by
  unfold dE at hm
  split at hm
  ·simp only[aU]at hm
   subst hm
   exact⟨trivial,hv⟩
  ·unfold i7 at hm
   split at hm
   ·obtain⟨k,h1,rfl⟩:=cZ hm
    exact(fun q=>gM n m _ _ _ k q h1) hv
   ·obtain⟨k,h1,rfl⟩:=cZ hm
    exact(fun q=>gM n m _ _ _ k q h1) hv
   ·rcases aN.1 hm with hm|hm
    ·obtain⟨k,h1,rfl⟩:=cZ hm
     obtain⟨q1,q2⟩:=gM n m _ _ _ k hv.1 h1
     exact⟨⟨q1,hv.2⟩,q2⟩
    ·obtain⟨k,h1,rfl⟩:=cZ hm
     obtain⟨q1,q2⟩:=gM n m _ _ _ k hv.2 h1
     exact⟨⟨hv.1,q1⟩,q2⟩
   ·rcases aN.1 hm with hm|hm
    ·obtain⟨k,h1,rfl⟩:=cZ hm
     exact(fun q=>gM n m _ _ _ k q h1) hv
    ·obtain⟨k,h1,h2⟩:=List.mem_flatMap.1 hm
     obtain⟨k2,h3,rfl⟩:=cZ h2
     obtain⟨q1,q2⟩:=(fun q=>gM n m _ _ _ k q h1) hv
     obtain⟨q3,q4⟩:=gM n m _ _ _ k2 q2 h3
     exact⟨⟨q1,q3⟩,q4⟩
   ·simp at hm
def lg(l:List Hl):Nat:=(l.map fun h=>h.2.nodes).sum
theorem rV(l r:List Hl):lg (l++r)=lg l+lg r:=by simp[lg]
theorem ov(g:Vl->Vl)(l:List Hl):lg (iF g l)=lg l:=by simp[lg,iF,Function.comp_def]
def kK(f:Tg->Nat)(T:List Tg):Nat:=(T.map f).sum
theorem px(f g:Tg->Nat):∀T:List Tg,kK (fun x=>f x+g x) T=kK f T+kK g T
 |[]=>rfl
 |x::T=>by have:=px f g T;simp only[kK,bE,List.sum_cons]at this |-;omega
theorem xW{f g:Tg->Nat}:∀{T:List Tg},(∀x,x∈T->f x<=g x)->kK f T<=kK g T
 |[],_=>au _
 |
  x::T,h=>by
  have:=xW (T:=T) fun y hy=>h y (al _ hy)
  have:=h x ak
  simp only[kK,bE,List.sum_cons]at *;omega
theorem pK{f:Tg->Nat}:∀{T:List Tg},(∀x,x∈T->f x=0)->kK f T=0
 |[],_=>rfl
 |
  x::T,h=>by
  have:=pK (T:=T) fun y hy=>h y (al _ hy)
  have:=h x ak
  simp only[kK,bE,List.sum_cons]at *;omega
theorem sR(g:Hl->Tg->Nat)(T:List Tg):∀l:List Hl,kK (fun x=>(l.map fun h=>g h x).sum) T=(l.map fun h=>kK (g h) T).sum
 |[]=>pK fun _ _=>rfl
 |
  h::l=>by
  have:=sR g T l
  simp only[bE,List.sum_cons]
  rw[px,this]
theorem sL(f:Hl->List Hl):∀l:List Hl,lg (l.flatMap f)=(l.map fun h=>lg (f h)).sum
 |[]=>rfl
 |h::l=>by rw[List.flatMap_cons,rV,sL f l];simp
theorem AL{f g:Hl->Nat}:∀{l:List Hl},(∀x,x∈l->f x<=g x)->(l.map f).sum<=(l.map g).sum
 |[],_=>au _
 |
  x::l,h=>by
  have:=AL (l:=l) fun y hy=>h y (al _ hy)
  have:=h x ak
  simp only[bE,List.sum_cons]at *;omega
theorem Cw{t:Ty}{x y:Tg}(h:eF t x=true)(h':eF t y=true):x=y:=by
 cases t<;>cases x<;>cases y<;>simp[eF]at h h'<;>simp_all
theorem yc{t:Ty}(n:Nat):∀{T:List Tg},T.Nodup->kK (fun x=>if eF t x=true then n else 0) T<=n
 |[],_=>dQ _
 |
  x::T,h=>by
  obtain⟨h1,h2⟩:=List.nodup_cons.1 h
  have ih:=yc (t:=t) n h2
  by_cases hx:eF t x=true
  ·have:kK (fun x=>if eF t x=true then n else 0) T=0:=pK fun y hy=>by
    rw[if_neg fun hy'=>h1 (by rw[Cw hx hy'];exact hy)]
   simp only[kK,bE,List.sum_cons]at *
   rw[if_pos hx];omega
  ·simp only[kK,bE,List.sum_cons]at *
   rw[if_neg hx];omega
theorem Co{T:List Tg}(h:T.Nodup):(Tg.bd 0::T.map Tg.up).Nodup:=by
 refine List.nodup_cons.2 ⟨fun hm=>?_,?_⟩
 ·obtain⟨x,_,e⟩:=bQ.1 hm
  cases x<;>simp[Tg.up]at e
 ·refine List.Pairwise.map _ (fun a b hab e=>hab ?_) h
  cases a<;>cases b<;>simp[Tg.up]at e<;>simp_all
theorem apart:∀(n:Nat) (v:Vl),v.nodes<=n->∀(t:Ty) (T:List Tg),T.Nodup->kK (fun x=>lg (cq t x v)) T<=v.nodes
 |0,v,h=>by have:=dw v;omega
 |
  n+1,v,hn=>by
  intro t T hT
  have base:∀(hno:∀x,eF t x=false->cq t x v=[]),kK (fun x=>lg (cq t x v)) T<=v.nodes:=fun hno=>by
   refine Nat.le_trans (xW fun x _=>?_) (yc (t:=t) v.nodes hT)
   cases e:eF t x with
   |true=>rw[mD v e];simp[lg]
   |false=>rw[hno x e];simp[lg]
  cases hm:stuck t v with
  |true=>exact base fun x hx=>dS hx hm
  |
   false =>
   unfold stuck at hm
   split at hm
   ·rename_i a b w
    simp only[Vl.nodes]at hn |-
    simp only[nh,ov]
    have:=apart n w (by omega) a T hT
    omega
   ·rename_i a b w
    simp only[Vl.nodes]at hn |-
    simp only[mW,ov]
    have:=apart n w (by omega) b T hT
    omega
   ·rename_i a b x y
    simp only[Vl.nodes]at hn |-
    simp only[m9,rV,ov]
    rw[px]
    have:=apart n x (by omega) a T hT
    have:=apart n y (by omega) b T hT
    omega
   ·rename_i a w
    simp only[Vl.nodes]at hn |-
    simp only[nn,rV,ov,sL]
    rw[px,sR]
    have h1:=apart n w (by omega) a _ (Co hT)
    simp only[kK,bE,List.sum_cons,List.map_map]at h1
    have h2:((cq a (.bd 0) w).map fun h=>kK (fun x=>lg (cq (.rc a) x h.2)) T).sum<=lg (cq a (.bd 0) w):=AL fun h hh=>by
     have:=(iB hh).1
     exact apart n h.2 (by omega) (.rc a) T hT
    simp only[kK,Function.comp_def]at h1 h2 |-
    omega
   ·cases hm
theorem rW(t:Ty)(tg:Tg)(v:Vl):lg (cq t tg v)<=v.nodes:=by
 have:=apart v.nodes v (au _) t [tg] (by simp)
 simpa[kK]using this
theorem kQ:∀l:List Hl,l.length<=lg l
 |[]=>dQ _
 |
  h::l=>by
  have:=kQ l
  have:=dw h.2
  simp only[lg,bE,List.sum_cons,az]at *;omega
theorem nr(t:Ty)(tg:Tg)(v:Vl):(cq t tg v).length<=v.nodes:=Nat.le_trans (kQ _) (rW t tg v)
end Go.Proofs.Trees
namespace Go.Proofs.Trees
open Go Go.VL Go.RowKit
def gl(ar:List (List UInt8))(k:Nat):List UInt8:=ar.getD (ar.length-1-k) []
theorem fJ{s:List UInt8}{ar:List (List UInt8)}:∀(i u:Nat),i<=ar.length->bP s ar i=some u->u<ar.length/\gl ar u=s
 |0,u,_,h=>by cases h
 |
  i+1,u,hi,h=>by
  rw[bP]at h
  split at h
  ·rename_i e
   cases h
   refine⟨by omega,?_⟩
   rw[gl,show ar.length-1-(ar.length-1-i)=i by omega];exact e
  ·exact fJ i u (by omega) h
def uZ:Ty->Tg->Bool
 | .plus a b,tg=>uZ a tg||uZ b tg
 | .times a b,tg=>uZ a tg||uZ b tg
 | .rc a,tg=>uZ a tg.up
 |t,tg=>eF t tg
theorem iS:∀(n:Nat) (v:Vl),v.nodes<=n->∀(t:Ty) (tg:Tg),uZ t tg=false->cq t tg v=[]
 |0,v,h=>by have:=dw v;omega
 |
  n+1,v,hn=>by
  intro t tg ho
  cases hm:stuck t v with
  |
   true =>
   refine dS ?_ hm
   cases t<;>first|exact ho|rfl
  |
   false =>
   unfold stuck at hm
   split at hm
   ·simp only[Vl.nodes]at hn
    simp only[uZ,ck]at ho
    rw[nh,iS n _ (by omega) _ _ ho.1];rfl
   ·simp only[Vl.nodes]at hn
    simp only[uZ,ck]at ho
    rw[mW,iS n _ (by omega) _ _ ho.2];rfl
   ·simp only[Vl.nodes]at hn
    simp only[uZ,ck]at ho
    rw[m9,iS n _ (by omega) _ _ ho.1,iS n _ (by omega) _ _ ho.2];rfl
   ·rename_i a w
    simp only[Vl.nodes]at hn
    have ho':uZ a tg.up=false:=ho
    rw[nn,iS n _ (by omega) _ _ ho']
    have:(cq a (.bd 0) w).flatMap (fun h=>iF (fun c=>.f (.r (.p h.1 c))) (cq (.rc a) tg h.2))=(cq a (.bd 0) w).flatMap (fun _=>[]):=iQ fun h hh=>by
     have:=(iB hh).1
     rw[iS n h.2 (by omega) (.rc a) tg ho];rfl
    rw[this]
    induction cq a (.bd 0) w<;>simp_all[iF]
   ·cases hm
theorem lz:∀(e:E) (ar:List (List UInt8)) (t:Ty) (k:Nat),cT e ar=some t->uZ t (.bd k)=true->k<ar.length/\bP (gl ar k) ar ar.length=some k
 |
  .atom s,ar,t,k,ht,ho=>by
  simp only[cT]at ht
  split at ht
  ·cases ht;cases ho
  ·split at ht
   ·cases ht;cases ho
   ·split at ht
    ·cases ht;cases ho
    ·split at ht
     ·split at ht
      ·rename_i u hu
       cases ht
       have:u=k:=by simpa[uZ,eF]using ho
       subst this
       obtain⟨h1,h2⟩:=fJ _ _ (au _) hu
       exact⟨h1,by rw[h2];exact hu⟩
      ·cases ht;cases ho
     ·cases ht
 |
  .list [x,a,b],ar,t,k,ht,ho=>by
  by_cases h0:x.at=[43]
  ·obtain⟨t1,t2,h1,h2,rfl⟩:=fL h0 ht
   simp only[uZ,bC]at ho
   rcases ho with ho|ho
   ·exact lz a ar t1 k h1 ho
   ·exact lz b ar t2 k h2 ho
  ·by_cases h1:x.at=[42]
   ·obtain⟨t1,t2,h1,h2,rfl⟩:=fk h1 ht
    simp only[uZ,bC]at ho
    rcases ho with ho|ho
    ·exact lz a ar t1 k h1 ho
    ·exact lz b ar t2 k h2 ho
   ·by_cases h2:x.at=[114,101,99]
    ·obtain⟨t1,_,h3,rfl⟩:=dy h2 ht
     obtain⟨q1,q2⟩:=lz b (ar++[a.at]) t1 (k+1) h3 ho
     simp only[aq,az,aG]at q1
     have hk:k<ar.length:=by omega
     have e:gl (ar++[a.at]) (k+1)=gl ar k:=by
      unfold gl
      rw[aq,show ar.length+[a.at].length-1-(k+1)=ar.length-1-k by simp;omega]
      simp[aa,List.getElem?_append_left (show ar.length-1-k<ar.length by omega)]
     rw[e]at q2
     refine⟨hk,?_⟩
     have e2:(ar++[a.at]).length=ar.length+1:=by simp
     rw[e2,bP]at q2
     split at q2
     ·rw[e2]at q2;simp at q2
     ·rw[kk _ _ _ _ (au _)]at q2
      cases hq:bP (gl ar k) ar ar.length with
      |none=>rw[hq]at q2;cases q2
      |some u=>rw[hq]at q2;simpa using q2
    ·rw[je _ h0 h1 h2]at ht;cases ht
 | .list [],ar,t,k,ht,ho=>by cases ht
 | .list [_],ar,t,k,ht,ho=>by cases ht
 | .list [_,_],ar,t,k,ht,ho=>by cases ht
 | .list (_::_::_::_::_),ar,t,k,ht,ho=>by cases ht
theorem fq(w:List UInt8)(ar:List (List UInt8)):bP w (ar++[w]) (ar++[w]).length=some 0:=by
 have e2:(ar++[w]).length=ar.length+1:=by simp
 rw[e2,bP,if_pos (by simp[aa]),e2];simp
theorem jC{s w:List UInt8}(ar:List (List UInt8))(h:w≠s):bP s (ar++[w]) (ar++[w]).length=(bP s ar ar.length).map (·+1):=by
 have e2:(ar++[w]).length=ar.length+1:=by simp
 rw[e2,bP,if_neg (by simpa[aa]using h),kk _ _ _ _ (au _)]
theorem HX{b:E}{ar:List (List UInt8)}{w:List UInt8}{t:Ty}{k:Nat}(hb:cT b (ar++[w])=some t)(hk:bP w ar ar.length=some k):uZ t (.bd (k+1))=false:=by
 cases h:uZ t (.bd (k+1))with
 |false=>rfl
 |
  true =>
  obtain⟨_,q2⟩:=lz _ _ _ _ hb h
  obtain⟨h1,h2⟩:=fJ _ _ (au _) hk
  have e:gl (ar++[w]) (k+1)=gl ar k:=by
   unfold gl
   rw[aq,show ar.length+[w].length-1-(k+1)=ar.length-1-k by simp;omega]
   simp[aa,List.getElem?_append_left (show ar.length-1-k<ar.length by omega)]
  rw[e,h2,fq]at q2
  cases q2
def oj(s:List UInt8)(ar:List (List UInt8)):Tg:=match bP s ar ar.length with|some u=>.bd u|none=>.nm s
theorem v7(w:List UInt8)(ar:List (List UInt8)):oj w (ar++[w])=.bd 0:=by rw[oj,fq]
theorem zZ{s w:List UInt8}(ar:List (List UInt8))(h:w≠s):oj s (ar++[w])=(oj s ar).up:=by
 rw[oj,oj,jC ar h]
 cases bP s ar ar.length<;>rfl
theorem ij(n:Nat):∀(m:Nat) (v:Vl),v.nodes<=m->∀(e:E) (env:List Fr) (t:Ty),Ask e env t->eX n v (e,env)=true->∀(k:Nat) (f:Fr),env[k]?=some f->∀h,h∈cq t (.bd k) v->eX n h.2 (f.ex,f.out)=true
 |0,v,hm=>by have:=dw v;omega
 |
  m+1,v,hm=>by
  intro e env t A hv k f hf h hh
  rcases gv A.wf A.ty with⟨hb,hq⟩|⟨u,g,rfl,hq,hu⟩
  ·have hhd:hd e env=(e,env):=ka hq
   rcases fG A.ty hb A.cl with⟨rfl,rfl⟩|⟨rfl,rfl⟩|⟨s,rfl,rfl,hp,h0,h1⟩|⟨x,a,b,t1,t2,rfl,hx,rfl,ha,hbb⟩|⟨x,a,b,t1,t2,rfl,hx,rfl,ha,hbb⟩|⟨x,a,b,t1,rfl,hx,rfl⟩
   ·rw[dS rfl (by cases v<;>rfl)]at hh;cases hh
   ·rw[dS rfl (by cases v<;>rfl)]at hh;cases hh
   ·rw[dS rfl (by cases v<;>rfl)]at hh;cases hh
   ·obtain⟨ok1,ok2,ok3,_⟩:=A.ok
    obtain⟨f1,f2⟩:=fy A.cl
    cases v with
    |
     l w =>
     simp only[eX,hhd,hx,beq_self_eq_true,bW]at hv
     simp only[Vl.nodes]at hm
     rw[nh]at hh
     obtain⟨h2,h3,rfl⟩:=cZ hh
     exact ij n m w (by omega) a env t1 ⟨ok2,A.wf,ha,f1⟩ hv k f hf h2 h3
    |
     r w =>
     simp only[eX,hhd,hx,beq_self_eq_true,bW]at hv
     simp only[Vl.nodes]at hm
     rw[mW]at hh
     obtain⟨h2,h3,rfl⟩:=cZ hh
     exact ij n m w (by omega) b env t2 ⟨ok3,A.wf,hbb,f2⟩ hv k f hf h2 h3
    |_=>rw[dS rfl rfl]at hh;cases hh
   ·obtain⟨ok1,ok2,ok3,_⟩:=A.ok
    obtain⟨f1,f2⟩:=eY A.cl
    cases v with
    |
     p w w' =>
     simp only[eX,hhd,hx,beq_self_eq_true,bW,aw]at hv
     simp only[Vl.nodes]at hm
     rw[m9]at hh
     rcases aN.1 hh with hh|hh
     ·obtain⟨h2,h3,rfl⟩:=cZ hh
      exact ij n m w (by omega) a env t1 ⟨ok2,A.wf,ha,f1⟩ hv.1 k f hf h2 h3
     ·obtain⟨h2,h3,rfl⟩:=cZ hh
      exact ij n m w' (by omega) b env t2 ⟨ok3,A.wf,hbb,f2⟩ hv.2 k f hf h2 h3
    |_=>rw[dS rfl rfl]at hh;cases hh
   ·obtain⟨t1',he1,h1,f1,hw1⟩:=jm A.wf A.ok hx A.ty A.cl
    cases he1
    obtain⟨ok1,ok2,ok3,_⟩:=A.ok
    cases v with
    |
     f w =>
     simp only[eX,hhd,hx,beq_self_eq_true,bW]at hv
     simp only[Vl.nodes]at hm
     rw[nn]at hh
     have A':Ask b (.mk a.at (.list [x,a,b]) env::env) t1:=⟨ok3,hw1,h1,f1⟩
     rcases aN.1 hh with hh|hh
     ·obtain⟨h2,h3,rfl⟩:=cZ hh
      exact ij n m w (by omega) b _ t1 A' hv (k+1) f (by simpa using hf) h2 h3
     ·obtain⟨kd,h2,h3⟩:=List.mem_flatMap.1 hh
      obtain⟨h4,h5,rfl⟩:=cZ h3
      have hkd:=ij n m w (by omega) b _ t1 A' hv 0 _ rfl kd h2
      have:=(iB h2).1
      exact ij n m kd.2 (by omega) (.list [x,a,b]) env _ A hkd k f hf h4 h5
    |_=>rw[dS rfl rfl]at hh;cases hh
  ·by_cases huk:u=k
   ·subst huk
    rw[hu]at hf;cases hf
    rw[mD v (by simp[eF])]at hh
    simp only[aU]at hh
    subst hh
    obtain⟨x,a,b,t',hfe,hok,hx,ht',hf',hwf,hlt⟩:=oY A.wf hq
    rw[<-tX n v (qK hq) (by rw[hfe];exact pY hwf)];exact hv
   ·rw[dS (by simpa[eF]using huk) (by cases v<;>rfl)]at hh;cases hh
end Go.Proofs.Trees
namespace Go.Proofs.Trees
open Go Go.VL Go.RowKit
def cS:E->List Nm->Ty
 | .atom s,ar=>if s=[48]then .zero else if s=[49]then .one else match bP s ar ar.length with|some u=>.bound u|none=>.name s
 | .list [x,a,b],ar=>if x.at=[43]then .plus (cS a ar) (cS b ar)else if x.at=[42]then .times (cS a ar) (cS b ar)else .rc (cS b (ar++[a.at]))
 | .list _,_=>.zero
def qR(s:Nm):Prop:=s≠[]/\s≠[48]/\s≠[49]
inductive Wf:E->Prop
 |atom {s} (h:s≠[]):Wf (.atom s)
 |plus {a b} (ha:Wf a) (hb:Wf b):Wf (.list [.atom [43],a,b])
 |times {a b} (ha:Wf a) (hb:Wf b):Wf (.list [.atom [42],a,b])
 |rc {n b} (hn:qR n) (hb:Wf b):Wf (.list [.atom [114,101,99],.atom n,b])
theorem dN(a b:E)(ar:List Nm):cS (.list [.atom [43],a,b]) ar=.plus (cS a ar) (cS b ar):=by rw[cS,if_pos (show (E.atom [43]).at=[43] from rfl)]
theorem du(a b:E)(ar:List Nm):cS (.list [.atom [42],a,b]) ar=.times (cS a ar) (cS b ar):=by rw[cS,if_neg (by decide),if_pos (show (E.atom [42]).at=[42] from rfl)]
theorem fh(a b:E)(ar:List Nm):cS (.list [.atom [114,101,99],a,b]) ar=.rc (cS b (ar++[a.at])):=by rw[cS,if_neg (by decide),if_neg (by decide)]
theorem Wf.ok{e:E}(h:Wf e):e.ok:=by
 induction h with
 |atom h=>exact h
 |plus ha hb i1 i2=>exact⟨by simp[E.ok],i1,i2,trivial⟩
 |times ha hb i1 i2=>exact⟨by simp[E.ok],i1,i2,trivial⟩
 |rc hn hb i=>exact⟨by simp[E.ok],hn.1,i,trivial⟩
theorem Wf.dc{e:E}(h:Wf e):∀ar,e.dc=(cS e ar).atoms:=by
 induction h with
 |
  @atom s h =>
  intro ar
  simp only[E.dc,cS]
  split
  ·rfl
  ·split
   ·rfl
   ·split<;>rfl
 |plus ha hb i1 i2=>intro ar;rw[dN];simp only[E.dc,E.eW,Ty.atoms,<-i1 ar,<-i2 ar];omega
 |times ha hb i1 i2=>intro ar;rw[du];simp only[E.dc,E.eW,Ty.atoms,<-i1 ar,<-i2 ar];omega
 |@rc n b hn hb i=>intro ar;rw[fh];simp only[E.dc,E.eW,Ty.atoms,<-i];omega
theorem Wf.sz{e:E}(h:Wf e):e.sz<=3*e.dc:=by
 induction h with
 |atom h=>simp[E.sz,E.dc]
 |plus ha hb i1 i2=>simp only[E.sz,E.jt,E.dc,E.eW];omega
 |times ha hb i1 i2=>simp only[E.sz,E.jt,E.dc,E.eW];omega
 |rc hn hb i=>simp only[E.sz,E.jt,E.dc,E.eW];omega
theorem kp:∀(e:E) (ar:List Nm) (t:Ty),e.ok->(∀w,w∈ar->dm w=true)->cT e ar=some t->Wf e/\cS e ar=t
 |
  .atom s,ar,t,hok,hl,ht=>by
  refine⟨.atom hok,?_⟩
  simp only[cT,cS]at ht |-
  split at ht
  ·rename_i h;rw[if_pos h];simpa using ht
  ·rename_i h;rw[if_neg h]
   split at ht
   ·rename_i h1;rw[if_pos h1];simpa using ht
   ·rename_i h1;rw[if_neg h1]
    split at ht
    ·rename_i hp
     cases q:bP s ar ar.length with
     |none=>simpa using ht
     |
      some u =>
      obtain⟨h1,h2⟩:=fJ _ _ (au _) q
      have:=hl (gl ar u) (by
       unfold gl
       have:ar.length-1-u<ar.length:=by omega
       simp[aa,this])
      rw[h2,kb hp]at this;cases this
    ·split at ht
     ·split at ht<;>rename_i q<;>rw[q]<;>simpa using ht
     ·cases ht
 |
  .list [x,a,b],ar,t,hok,hl,ht=>by
  obtain⟨ok1,ok2,ok3,_⟩:=hok
  by_cases h0:x.at=[43]
  ·obtain⟨t1,t2,h1,h2,rfl⟩:=fL h0 ht
   obtain rfl:=ko h0 (by simp)
   obtain⟨w1,e1⟩:=kp a ar t1 ok2 hl h1
   obtain⟨w2,e2⟩:=kp b ar t2 ok3 hl h2
   exact⟨.plus w1 w2,by rw[dN,e1,e2]⟩
  ·by_cases h1:x.at=[42]
   ·obtain⟨t1,t2,h2,h3,rfl⟩:=fk h1 ht
    obtain rfl:=ko h1 (by simp)
    obtain⟨w1,e1⟩:=kp a ar t1 ok2 hl h2
    obtain⟨w2,e2⟩:=kp b ar t2 ok3 hl h3
    exact⟨.times w1 w2,by rw[du,e1,e2]⟩
   ·by_cases h2:x.at=[114,101,99]
    ·obtain⟨t1,hla,h3,rfl⟩:=dy h2 ht
     obtain rfl:=ko h2 (by simp)
     have hne:a.at≠[]:=by intro e;rw[e]at hla;cases hla
     have ha:a=.atom a.at:=ko rfl hne
     obtain⟨w1,e1⟩:=kp b (ar++[a.at]) t1 ok3 (fun w hw=>by
      rcases aN.1 hw with hw|hw
      ·exact hl w hw
      ·simp only[aU]at hw;rw[hw];exact hla) h3
     have hN:qR a.at:=⟨hne,fun e=>by rw[e]at hla;revert hla;decide,fun e=>by rw[e]at hla;revert hla;decide⟩
     refine⟨?_,by rw[fh,e1]⟩
     rw[ha];exact .rc hN w1
    ·rw[je _ h0 h1 h2]at ht;cases ht
 | .list [],ar,t,_,_,ht=>by cases ht
 | .list [_],ar,t,_,_,ht=>by cases ht
 | .list [_,_],ar,t,_,_,ht=>by cases ht
 | .list (_::_::_::_::_),ar,t,_,_,ht=>by cases ht
theorem fC(s:Nm)(ar:List Nm):bP s ar ar.length=none↔s∉ar:=by
 have:=mC s ar ar.length (au _)
 rwa[List.take_length]at this
theorem nP(s:Nm)(ar:List Nm):∀(n:Nat) (br:List Nm),br.length=n->bP s (ar++br) (ar++br).length=match bP s br br.length with|some u=>some u|none=>(bP s ar ar.length).map (·+br.length)
 |
  0,br,h=>by
  obtain rfl:=ca h
  rw[cY]
  cases h:bP s ar ar.length<;>simp[bP]
 |
  n+1,br,h=>by
  obtain⟨b2,w,rfl⟩:∃b2 w,br=b2++[w]:=⟨br.dropLast,br.getLast (by intro e;rw[e]at h;cases h),(List.dropLast_concat_getLast _).symm⟩
  rw[<-bf]
  by_cases hw:w=s
  ·subst hw;rw[fq,fq]
  ·rw[jC _ hw,jC _ hw,nP s ar n b2 (by simpa using h)]
   cases bP s b2 b2.length with
   |some u=>rfl
   |
    none =>
    cases bP s ar ar.length with
    |none=>rfl
    |some u=>simp only[Option.map_none,cB,aq,az,aG];congr 1
theorem tT(ar:List Nm){e:E}(h:Wf e):∀br,(∀y,bn y (cS e br)=true->y∉ar)->cS e (ar++br)=cS e br:=by
 induction h with
 |
  @atom s h =>
  intro br hy
  simp only[cS]at hy |-
  split
  ·rfl
  ·rename_i h0
   split
   ·rfl
   ·rename_i h1
    rw[if_neg h0,if_neg h1]at hy
    rw[nP s ar _ br rfl]
    cases q:bP s br br.length with
    |some u=>rfl
    |
     none =>
     rw[q]at hy
     have:=(fC s ar).2 (hy s (by simp[bn]))
     rw[this];rfl
 |
  plus ha hb i1 i2 =>
  intro br hy
  rw[dN]at hy |-
  rw[dN,i1 br fun y h=>hy y (by simp[bn,h]),i2 br fun y h=>hy y (by simp[bn,h])]
 |
  times ha hb i1 i2 =>
  intro br hy
  rw[du]at hy |-
  rw[du,i1 br fun y h=>hy y (by simp[bn,h]),i2 br fun y h=>hy y (by simp[bn,h])]
 |
  @rc n b hn hb i =>
  intro br hy
  rw[fh]at hy |-
  rw[fh,bf,i _ hy]
theorem yM(x:Nm){e:E}(h:Wf e):∀ar,cS e ar=dC (.name x) (cS e ([x]++ar)) ar.length:=by
 induction h with
 |
  @atom s h =>
  intro ar
  simp only[cS]
  split
  ·rfl
  ·split
   ·rfl
   ·rw[nP s [x] _ ar rfl]
    cases q:bP s ar ar.length with
    |
     some u =>
     have:=(fJ _ _ (au _) q).1
     simp only[dC];rw[if_neg (by omega)]
    |
     none =>
     by_cases hx:x=s
     ·subst hx
      have:bP x [x] [x].length=some 0:=fq x []
      rw[this];simp[dC]
     ·have:bP s [x] [x].length=none:=(fC s [x]).2 (by simpa using fun e=>hx e.symm)
      rw[this];rfl
 |plus ha hb i1 i2=>intro ar;rw[dN,dN,dC,<-i1 ar,<-i2 ar]
 |times ha hb i1 i2=>intro ar;rw[du,du,dC,<-i1 ar,<-i2 ar]
 |
  @rc n b hn hb i =>
  intro ar
  rw[fh,fh,dC,i (ar++[E.at (.atom n)]),bf]
  simp
theorem nk{e:E}(h:Wf e):∀ar y,bn y (cS e ar)=true->qR y/\y∉ar:=by
 induction h with
 |
  @atom s h =>
  intro ar y hy
  simp only[cS]at hy
  split at hy
  ·cases hy
  ·rename_i h0
   split at hy
   ·cases hy
   ·rename_i h1
    split at hy
    ·cases hy
    ·rename_i q
     simp only[bn,decide_eq_true_eq]at hy
     subst hy
     exact⟨⟨h,h0,h1⟩,(fC _ _).1 q⟩
 |
  plus ha hb i1 i2 =>
  intro ar y hy
  rw[dN]at hy
  simp only[bn,bC]at hy
  rcases hy with hy|hy
  ·exact i1 ar y hy
  ·exact i2 ar y hy
 |
  times ha hb i1 i2 =>
  intro ar y hy
  rw[du]at hy
  simp only[bn,bC]at hy
  rcases hy with hy|hy
  ·exact i1 ar y hy
  ·exact i2 ar y hy
 |
  rc hn hb i =>
  intro ar y hy
  rw[fh]at hy
  obtain⟨h1,h2⟩:=i _ y hy
  exact⟨h1,fun h=>h2 (aD _ h)⟩
theorem lH{e:E}(h:Wf e):∀(bd l:List Nm) (y:Nm),y∈kq e bd l↔y∈l\/bn y (cS e bd)=true:=by
 induction h with
 |
  @atom s h =>
  intro bd l y
  simp only[kq,cS]
  by_cases h0:s=[48]
  ·simp[h0,bn]
  ·by_cases h1:s=[49]
   ·simp[h1,bn]
   ·rw[if_neg h0,if_neg h1]
    by_cases h2:s∈bd
    ·cases q:bP s bd bd.length with
     |none=>exact absurd h2 ((fC _ _).1 q)
     |some u=>simp[h2,bn]
    ·rw[(fC _ _).2 h2]
     simp only[h0,h1,h2,false_or,bn,decide_eq_true_eq]
     by_cases h3:s∈l
     ·simp only[h3,if_true]
      exact⟨fun h=>.inl h,fun h=>by rcases h with h|rfl<;>assumption⟩
     ·simp only[h3,if_false,aN,aU,eq_comm]
 |
  plus ha hb i1 i2 =>
  intro bd l y
  rw[kq,if_neg (by decide),dN,i2,i1]
  simp[bn,or_assoc]
 |
  times ha hb i1 i2 =>
  intro bd l y
  rw[kq,if_neg (by decide),du,i2,i1]
  simp[bn,or_assoc]
 |
  rc hn hb i =>
  intro bd l y
  rw[kq,if_pos (show (E.atom [114,101,99]).at=[114,101,99] from rfl),fh,i]
  rfl
theorem eQ:∀(t:Ty) (out:List Nm) (y:Nm),y∈bO t out↔y∈out\/bn y t=true
 |
  .name s,out,y=>by
  simp only[bO,pD,bn,decide_eq_true_eq]
  split
  ·rename_i h;exact⟨fun h=>.inl h,fun h'=>by rcases h' with h'|rfl<;>assumption⟩
  ·simp[eq_comm]
 | .plus a b,out,y=>by rw[bO,eQ b,eQ a];simp[bn,or_assoc]
 | .times a b,out,y=>by rw[bO,eQ b,eQ a];simp[bn,or_assoc]
 | .rc a,out,y=>by rw[bO,eQ a];rfl
 | .zero,out,y=>by simp[bO,bn]
 | .one,out,y=>by simp[bO,bn]
 | .bound k,out,y=>by simp[bO,bn]
end Go.Proofs.Trees
namespace Go.Proofs.Trees
open Go Go.VL Go.RowKit
abbrev dG:Nm:=[114,101,99]
theorem dT(s:Nm):(E.atom s).at=s:=rfl
def sc(x:Nm)(u:E):E->E
 | .atom s=>if s=x then u else .atom s
 | .list [h,a,b]=>if h.at=dG then(if a.at=x then .list [h,a,b]else .list [.atom dG,a,sc x u b])else .list [.atom h.at,sc x u a,sc x u b]
 | .list l=>.list l
def nq(x:Nm):E->Nat
 | .atom s=>if s=x then 1 else 0
 | .list [h,a,b]=>if h.at=dG then(if a.at=x then 0 else nq x b)else nq x a+nq x b
 | .list _=>0
def uJ(p:Nm->Prop):E->Prop
 | .atom _=>True
 | .list [h,a,b]=>(if h.at=dG then p a.at else uJ p a)/\uJ p b
 | .list _=>True
def fB(x:Nm):Ty->Nat
 | .name s=>if s=x then 1 else 0
 | .plus a b=>fB x a+fB x b
 | .times a b=>fB x a+fB x b
 | .rc a=>fB x a
 |_=>0
theorem v8(x:Nm)(u a b:E):sc x u (.list [.atom [43],a,b])=.list [.atom [43],sc x u a,sc x u b]:=by rw[sc,if_neg (by decide)];rfl
theorem s7(x:Nm)(u a b:E):sc x u (.list [.atom [42],a,b])=.list [.atom [42],sc x u a,sc x u b]:=by rw[sc,if_neg (by decide)];rfl
theorem BO(x:Nm)(u:E)(n:Nm)(b:E):sc x u (.list [.atom dG,.atom n,b])=if n=x then .list [.atom dG,.atom n,b]else .list [.atom dG,.atom n,sc x u b]:=by rw[sc,if_pos (dT _)];rfl
theorem so(x:Nm)(a b:E):nq x (.list [.atom [43],a,b])=nq x a+nq x b:=by rw[nq,if_neg (by decide)]
theorem pQ(x:Nm)(a b:E):nq x (.list [.atom [42],a,b])=nq x a+nq x b:=by rw[nq,if_neg (by decide)]
theorem w6(x:Nm)(n:Nm)(b:E):nq x (.list [.atom dG,.atom n,b])=if n=x then 0 else nq x b:=by rw[nq,if_pos (dT _)];rfl
theorem og(p:Nm->Prop)(a b:E):uJ p (.list [.atom [43],a,b])↔uJ p a/\uJ p b:=by rw[uJ,if_neg (by decide)]
theorem m8(p:Nm->Prop)(a b:E):uJ p (.list [.atom [42],a,b])↔uJ p a/\uJ p b:=by rw[uJ,if_neg (by decide)]
theorem ur(p:Nm->Prop)(n:Nm)(b:E):uJ p (.list [.atom dG,.atom n,b])↔p n/\uJ p b:=by rw[uJ,if_pos (dT _)];rfl
theorem A6{p q:Nm->Prop}(h:∀n,p n->q n){e:E}(hw:Wf e):uJ p e->uJ q e:=by
 induction hw with
 |atom _=>exact fun _=>trivial
 |plus _ _ i1 i2=>rw[og,og];exact fun g=>⟨i1 g.1,i2 g.2⟩
 |times _ _ i1 i2=>rw[m8,m8];exact fun g=>⟨i1 g.1,i2 g.2⟩
 |rc _ _ i=>rw[ur,ur];exact fun g=>⟨h _ g.1,i g.2⟩
theorem jg{s:Nm}(hs:qR s){ar:List Nm}(h:s∉ar):cS (.atom s) ar=.name s:=by
 simp only[cS];rw[if_neg hs.2.1,if_neg hs.2.2,(fC s ar).2 h]
theorem D8{x:Nm}(hx:qR x){u:E}(hu:Wf u){e:E}(h:Wf e):uJ (fun n=>n≠x/\bn n (cS u [])=false) e->∀ar,x∉ar->(∀y,y∈ar->bn y (cS u [])=false)->Wf (sc x u e)/\cS (sc x u e) ar=sub x (cS u []) (cS e ar):=by
 induction h with
 |
  @atom s hs =>
  intro _ ar har hy
  by_cases e:s=x
  ·subst e
   have:cS u (ar++[])=cS u []:=tT ar hu [] fun y hy' hm=>by rw[hy y hm]at hy';cases hy'
   rw[cY]at this
   rw[jg hx har]
   simp only[sc,sub,if_true]
   exact⟨hu,this⟩
  ·simp only[sc,if_neg e]
   refine⟨.atom hs,?_⟩
   simp only[cS]
   split
   ·rfl
   ·split
    ·rfl
    ·split
     ·rfl
     ·simp only[sub,if_neg e]
 |
  plus ha hb i1 i2 =>
  intro hap ar har hy
  rw[og]at hap
  obtain⟨w1,e1⟩:=i1 hap.1 ar har hy
  obtain⟨w2,e2⟩:=i2 hap.2 ar har hy
  rw[v8,dN,dN,e1,e2]
  exact⟨.plus w1 w2,rfl⟩
 |
  times ha hb i1 i2 =>
  intro hap ar har hy
  rw[m8]at hap
  obtain⟨w1,e1⟩:=i1 hap.1 ar har hy
  obtain⟨w2,e2⟩:=i2 hap.2 ar har hy
  rw[s7,du,du,e1,e2]
  exact⟨.times w1 w2,rfl⟩
 |
  @rc n b hn hb i =>
  intro hap ar har hy
  rw[ur]at hap
  obtain⟨w1,e1⟩:=i hap.2 (ar++[n]) (by
   simp only[aN,aU]
   rintro(h|h)
   ·exact har h
   ·exact hap.1.1 h.symm) (fun y hm=>by
   simp only[aN,aU]at hm
   rcases hm with hm|rfl
   ·exact hy y hm
   ·exact hap.1.2)
  rw[BO,if_neg hap.1.1,fh,fh]
  refine⟨.rc hn w1,?_⟩
  show Ty.rc (cS (sc x u b) (ar++[n]))=_
  rw[e1];rfl
theorem Dm{x:Nm}(hx:qR x){e:E}(h:Wf e):∀ar,fB x (cS e ar)=if x∈ar then 0 else nq x e:=by
 induction h with
 |
  @atom s hs =>
  intro ar
  by_cases e:s=x
  ·subst e
   by_cases hm:s∈ar
   ·rw[if_pos hm]
    simp only[cS];rw[if_neg hx.2.1,if_neg hx.2.2]
    cases q:bP s ar ar.length with
    |none=>exact absurd hm ((fC _ _).1 q)
    |some u=>rfl
   ·rw[if_neg hm,jg hx hm];simp[fB,nq]
  ·have:fB x (cS (.atom s) ar)=0:=by
    simp only[cS]
    split
    ·rfl
    ·split
     ·rfl
     ·split
      ·rfl
      ·simp[fB,e]
   rw[this];simp[nq,e]
 |plus ha hb i1 i2=>intro ar;rw[dN,so,fB,i1,i2];split<;>simp
 |times ha hb i1 i2=>intro ar;rw[du,pQ,fB,i1,i2];split<;>simp
 |
  @rc n b hn hb i =>
  intro ar
  rw[fh,w6,fB,i]
  simp only[dT,aN,aU]
  by_cases h1:x∈ar
  ·simp[h1]
  ·by_cases h2:x=n
   ·simp[h2]
   ·simp[h1,h2,Ne.symm h2]
theorem dW(x:Nm)(u:Ty):∀t:Ty,(sub x u t).atoms+fB x t=t.atoms+fB x t*u.atoms
 | .name s=>by simp only[sub,fB];split<;>simp[Ty.atoms];omega
 | .plus a b=>by have:=dW x u a;have:=dW x u b;simp only[sub,Ty.atoms,fB,Nat.add_mul];omega
 | .times a b=>by have:=dW x u a;have:=dW x u b;simp only[sub,Ty.atoms,fB,Nat.add_mul];omega
 | .rc a=>by have:=dW x u a;simp only[sub,Ty.atoms,fB];omega
 | .zero=>by simp[sub,fB]
 | .one=>by simp[sub,fB]
 | .bound k=>by simp[sub,fB]
abbrev tN(m:Nat):Nm:=116::dd m
theorem EN(m:Nat):dd m≠[]:=by
 by_cases h:m<10
 ·rw[eI h];simp
 ·rw[fR h];simp
theorem xD:∀(n m k:Nat),m<n->dd m=dd k->m=k
 |0,m,k,h,_=>by omega
 |
  n+1,m,k,h,e=>by
  have d10:∀{a b:Nat},a<10->b<10->bj (48+a)=bj (48+b)->a=b:=fun {a b} ha hb h=>by
   have:=congrArg UInt8.toNat h
   simp only[UInt8.toNat_ofNat']at this
   omega
  by_cases h1:m<10<;>by_cases h2:k<10
  ·rw[eI h1,eI h2]at e
   simp only[List.cons.injEq,and_true]at e
   exact d10 h1 h2 e
  ·rw[eI h1,fR h2]at e
   have:=congrArg List.length e
   have:dd (k/10)=[]:=by
    apply ca
    simp at this;simpa using this
   exact absurd this (EN _)
  ·rw[fR h1,eI h2]at e
   have:=congrArg List.length e
   have:dd (m/10)=[]:=by
    apply ca
    simp at this;simpa using this
   exact absurd this (EN _)
  ·rw[fR h1,fR h2]at e
   obtain⟨e1,e2⟩:=List.append_inj' e rfl
   have:=xD n (m/10) (k/10) (by omega) e1
   simp only[List.cons.injEq,and_true]at e2
   have:=d10 (Nat.mod_lt _ (by omega)) (Nat.mod_lt _ (by omega)) e2
   omega
theorem BW{m k:Nat}(h:tN m=tN k):m=k:=xD (m+1) m k (by omega) (List.cons.inj h).2
theorem zh(m:Nat):qR (tN m):=⟨by simp,by simp,by simp⟩
theorem SE:∀(l F:List Nm),l.Nodup->(∀x,x∈l->x∈F)->l.length<=F.length
 |[],_,_,_=>dQ _
 |
  x::l,F,hn,hs=>by
  obtain⟨h1,h2⟩:=List.nodup_cons.1 hn
  have hx:=hs x ak
  have:=SE l (F.erase x) h2 fun y hy=>(List.mem_erase_of_ne (fun e=>h1 (by rw[<-e];exact hy))).2 (hs y (al _ hy))
  rw[List.length_erase_of_mem hx]at this
  have:0<F.length:=List.length_pos_of_mem hx
  simp only[az];omega
def qb(F:List Nm):Nat->Nat->Nat
 |0,k=>k
 |n+1,k=>if tN k∈F then qb F n (k+1)else k
theorem vU(F:List Nm):∀(n k:Nat),k<=qb F n k/\qb F n k<=k+n/\(∀j,k<=j->j<qb F n k->tN j∈F)/\(qb F n k<k+n->tN (qb F n k)∉F)
 |0,k=>⟨au _,au _,fun j h1 h2=>by simp only[qb]at h2;omega,fun h=>by simp only[qb]at h;omega⟩
 |
  n+1,k=>by
  rw[qb]
  split
  ·rename_i hm
   obtain⟨h1,h2,h3,h4⟩:=vU F n (k+1)
   refine⟨by omega,by omega,fun j hj hl=>?_,fun h=>h4 (by omega)⟩
   by_cases e:j=k
   ·subst e;exact hm
   ·exact h3 j (by omega) hl
  ·rename_i hm
   exact⟨au _,by omega,fun j h1 h2=>by omega,fun _=>hm⟩
def nx(F:List Nm)(k:Nat):Nat:=qb F (F.length+1) k
theorem gC(F:List Nm)(k:Nat):k<=nx F k/\nx F k<=k+F.length/\(∀j,k<=j->j<nx F k->tN j∈F)/\tN (nx F k)∉F:=by
 obtain⟨h1,h2,h3,h4⟩:=vU F (F.length+1) k
 have hlt:nx F k<k+(F.length+1):=by
  rcases Nat.lt_or_ge (nx F k) (k+(F.length+1))with h|h
  ·exact h
  ·exfalso
   have:=SE ((List.range' k (F.length+1)).map tN) F (by
    refine List.Pairwise.map _ (fun a b hab e=>hab (BW e)) List.nodup_range') (fun x hx=>by
    obtain⟨j,hj,rfl⟩:=bQ.1 hx
    obtain⟨i,hi,rfl⟩:=List.mem_range'.1 hj
    exact h3 _ (by omega) (by show _<nx F k;omega))
   simp at this
   omega
 exact⟨h1,by unfold nx at hlt |-;omega,h3,h4 hlt⟩
theorem A8{F F':List Nm}(h:∀y,y∈F↔y∈F')(k:Nat):nx F k=nx F' k:=by
 obtain⟨a1,a2,a3,a4⟩:=gC F k
 obtain⟨b1,b2,b3,b4⟩:=gC F' k
 rcases Nat.lt_trichotomy (nx F k) (nx F' k)with hl|he|hl
 ·exact absurd ((h _).2 (b3 _ a1 hl)) a4
 ·exact he
 ·exact absurd ((h _).1 (a3 _ b1 hl)) b4
def gU(F:List Nm):Ty->List Nm->Nat->E×Nat
 | .zero,_,k=>(.atom [48],k)
 | .one,_,k=>(.atom [49],k)
 | .name s,_,k=>(.atom s,k)
 | .bound u,to,k=>(.atom (gl to u),k)
 | .plus a b,to,k=>(.list [.atom [43],(gU F a to k).1,(gU F b to (gU F a to k).2).1],(gU F b to (gU F a to k).2).2)
 | .times a b,to,k=>(.list [.atom [42],(gU F a to k).1,(gU F b to (gU F a to k).2).1],(gU F b to (gU F a to k).2).2)
 | .rc a,to,k=>(.list [.atom dG,.atom (tN (nx F k)),(gU F a (to++[tN (nx F k)]) (nx F k+1)).1],(gU F a (to++[tN (nx F k)]) (nx F k+1)).2)
theorem jK{F F':List Nm}(h:∀y,y∈F↔y∈F'):∀(t:Ty) (to:List Nm) (k:Nat),gU F t to k=gU F' t to k
 | .zero,_,_=>rfl
 | .one,_,_=>rfl
 | .name _,_,_=>rfl
 | .bound _,_,_=>rfl
 | .plus a b,to,k=>by simp only[gU];rw[jK h a,jK h b]
 | .times a b,to,k=>by simp only[gU];rw[jK h a,jK h b]
 | .rc a,to,k=>by simp only[gU];rw[A8 h,jK h a]
def jx:Ty->Nat->Prop
 | .bound u,i=>u<i
 | .plus a b,i=>jx a i/\jx b i
 | .times a b,i=>jx a i/\jx b i
 | .rc a,i=>jx a (i+1)
 |_,_=>True
theorem uf{e:E}(h:Wf e):∀ar,jx (cS e ar) ar.length:=by
 induction h with
 |
  @atom s hs =>
  intro ar
  simp only[cS]
  split
  ·trivial
  ·split
   ·trivial
   ·split
    ·rename_i u q;exact(fJ _ _ (au _) q).1
    ·trivial
 |plus ha hb i1 i2=>intro ar;rw[dN];exact⟨i1 ar,i2 ar⟩
 |times ha hb i1 i2=>intro ar;rw[du];exact⟨i1 ar,i2 ar⟩
 |
  @rc n b hn hb i =>
  intro ar;rw[fh]
  have:=i (ar++[(E.atom n).at])
  rw[aq]at this
  exact this
structure Gn(F to:List Nm)(k:Nat):Prop where
 out:∀w,w∈to->w∉F
 lt:∀w,w∈to->∃j,j<k/\w=tN j
 nd:to.Nodup
theorem Gn.nil(F:List Nm)(k:Nat):Gn F [] k:=⟨fun _ h=>(by cases h),fun _ h=>(by cases h),by simp⟩
theorem Gn.mono{F to:List Nm}{k k':Nat}(h:Gn F to k)(hk:k<=k'):Gn F to k':=⟨h.out,fun w hw=>by obtain⟨j,h1,h2⟩:=h.lt w hw;exact⟨j,by omega,h2⟩,h.nd⟩
theorem Gn.push{F to:List Nm}{k:Nat}(h:Gn F to k):Gn F (to++[tN (nx F k)]) (nx F k+1):=by
 obtain⟨h1,h2,h3,h4⟩:=gC F k
 refine⟨fun w hw=>?_,fun w hw=>?_,?_⟩
 ·rcases aN.1 hw with hw|hw
  ·exact h.out w hw
  ·simp only[aU]at hw;rw[hw];exact h4
 ·rcases aN.1 hw with hw|hw
  ·obtain⟨j,g1,g2⟩:=h.lt w hw;exact⟨j,by omega,g2⟩
  ·simp only[aU]at hw;exact⟨_,by omega,hw⟩
 ·refine List.nodup_append.2 ⟨h.nd,by simp,fun a ha b hb e=>?_⟩
  simp only[aU]at hb
  obtain⟨j,g1,g2⟩:=h.lt a ha
  rw[e,hb]at g2
  have:=BW g2
  omega
theorem uV{to:List Nm}(hn:to.Nodup){u:Nat}(hu:u<to.length):bP (gl to u) to to.length=some u:=by
 have hm:gl to u∈to:=by
  unfold gl
  have:to.length-1-u<to.length:=by omega
  simp[aa,this]
 cases q:bP (gl to u) to to.length with
 |none=>exact absurd hm ((fC _ _).1 q)
 |
  some v =>
  obtain⟨h1,h2⟩:=fJ _ _ (au _) q
  unfold gl at h2
  have e1:to.length-1-v<to.length:=by omega
  have e2:to.length-1-u<to.length:=by omega
  rw[aa,aa,bp e1,bp e2]at h2
  have hp:=List.pairwise_iff_getElem.1 hn
  have h3:to[to.length-1-v]=to[to.length-1-u]:=by simpa using h2
  rcases Nat.lt_trichotomy (to.length-1-v) (to.length-1-u)with hl|he|hl
  ·exact absurd h3 (hp _ _ e1 e2 hl)
  ·congr 1;omega
  ·exact absurd h3.symm (hp _ _ e2 e1 hl)
theorem kG(F:List Nm):∀(t:Ty) (to:List Nm) (k:Nat),Gn F to k->jx t to.length->(∀y,bn y t=true->y∈F/\qR y) ->
 Wf (gU F t to k).1/\cS (gU F t to k).1 to=t/\k<=(gU F t to k).2/\(gU F t to k).2<=k+(F.length+1)*t.atoms/\uJ (·∉F) (gU F t to k).1
 | .zero,to,k,_,_,_=>⟨.atom (by simp),rfl,au _,db _ _,trivial⟩
 | .one,to,k,_,_,_=>⟨.atom (by simp),rfl,au _,db _ _,trivial⟩
 |
  .name s,to,k,g,hl,hn=>by
  obtain⟨h1,h2⟩:=hn s (by simp[bn])
  exact⟨.atom h2.1,jg h2 (fun h=>g.out s h h1),au _,db _ _,trivial⟩
 |
  .bound u,to,k,g,hl,hn=>by
  have hm:gl to u∈to:=by
   unfold gl
   have:to.length-1-u<to.length:=by have:u<to.length:=hl;omega
   simp[aa,this]
  obtain⟨j,_,e⟩:=g.lt _ hm
  have hok:qR (gl to u):=by rw[e];exact zh j
  refine⟨.atom hok.1,?_,au _,db _ _,trivial⟩
  simp only[gU,cS]
  rw[if_neg hok.2.1,if_neg hok.2.2,uV g.nd hl]
 |
  .plus a b,to,k,g,hl,hn=>by
  obtain⟨a1,a2,a3,a4,a5⟩:=kG F a to k g hl.1 fun y hy=>hn y (by simp[bn,hy])
  obtain⟨b1,b2,b3,b4,b5⟩:=kG F b to _ (g.mono a3) hl.2 fun y hy=>hn y (by simp[bn,hy])
  simp only[gU,dN,a2,b2,og,Ty.atoms]
  refine⟨.plus a1 b1,trivial,by omega,?_,a5,b5⟩
  have:(F.length+1)*(1+a.atoms+b.atoms)=(F.length+1)+(F.length+1)*a.atoms+(F.length+1)*b.atoms:=by simp only[cU,dI]
  omega
 |
  .times a b,to,k,g,hl,hn=>by
  obtain⟨a1,a2,a3,a4,a5⟩:=kG F a to k g hl.1 fun y hy=>hn y (by simp[bn,hy])
  obtain⟨b1,b2,b3,b4,b5⟩:=kG F b to _ (g.mono a3) hl.2 fun y hy=>hn y (by simp[bn,hy])
  simp only[gU,du,a2,b2,m8,Ty.atoms]
  refine⟨.times a1 b1,trivial,by omega,?_,a5,b5⟩
  have:(F.length+1)*(1+a.atoms+b.atoms)=(F.length+1)+(F.length+1)*a.atoms+(F.length+1)*b.atoms:=by simp only[cU,dI]
  omega
 |
  .rc a,to,k,g,hl,hn=>by
  obtain⟨h1,h2,h3,h4⟩:=gC F k
  obtain⟨a1,a2,a3,a4,a5⟩:=kG F a (to++[tN (nx F k)]) (nx F k+1) g.push (by rw[aq];exact hl) hn
  simp only[gU,fh,dT,a2,ur,Ty.atoms]
  refine⟨.rc (zh _) a1,trivial,by omega,?_,h4,a5⟩
  have:(F.length+1)*(2+a.atoms)=(F.length+1)*2+(F.length+1)*a.atoms:=by simp only[cU]
  omega
end Go.Proofs.Trees
namespace Go.Proofs.Trees
open Go Go.VL Go.RowKit
inductive kI:AV->List Nat->Prop
 |nil:kI gp []
 |cons {m:Nat} {cs:List AV} {e:AV} {ids:List Nat} (hm:m∉ids) (h:kI e ids):kI (.ptr [.pid m cs,e]) (m::ids)
theorem kI.has{a:AV}{ids:List Nat}(h:kI a ids):LK.has .ptr a:=by
 cases h
 ·exact(iC).mpr trivial
 ·exact(cd _).mpr trivial
theorem kI.SX{M:Mem}{a:AV}{ids:List Nat}(h:kI a ids):∀{v:Value},bG M dA a v->∀b,b∈ids->M.p b:=by
 induction h with
 |nil=>intro v _ b hb;cases hb
 |
  @cons m cs e ids hm h ih =>
  intro v hr b hb
  cases hr with
  |
   ptr _ _ _ off us hc hr =>
   have h0:=hr 0 (by simp)
   have h1:=hr 1 (by simp)
   simp only[bx,List.getD_cons_succ]at h0 h1
   rcases aK.1 hb with rfl|hb
   ·generalize us 0=u0 at h0
    cases h0 with
    |pid _ _ _ us hp _ _=>exact hp
   ·exact ih h1 b hb
theorem kI.nodup{a:AV}{ids:List Nat}(h:kI a ids):ids.Nodup:=by
 induction h with
 |nil=>simp
 |cons hm h ih=>exact List.nodup_cons.2 ⟨hm,ih⟩
theorem zx(a b:AV)(S:Nat->Prop)(R:AV->Prop):Bm Jw cfg eA (cG eA) [.agg [.x a,.x b]] S (fun o=>aJ o 7) R =
 .aj (LK.has .ptr a/\a.isNil=false) (.aj (LK.has .ptr a/\a.isNil=false) (.aj (LK.has .ptr ((a.deref.drop 3).headD .any)/\1<=(a.deref.drop 3).length)
  (.aj (∀ids:Nat->Nat,(∀o,¬S (ids o))->(True/\R (.cD [.agg [(a.deref.drop 3).headD .any,.ptr [.pid (ids 7) [a,b],b]],.pid (ids 7) [a,b]]))) (.done 0 [] [])))):=by kernel_rfl
def Bd(t:Ty)(ea:AV)(ids:List Nat):AV->List Ob->Prop:=fun r o=>(∃m,m∉ids/\r=.cD [.agg [t.av,.ptr [.pid m [(Ty.rc t).av,ea],ea]],.pid m [(Ty.rc t).av,ea]])/\o=[]
theorem Bd.ne(t:Ty)(ea:AV)(ids:List Nat):∃r o,Bd t ea ids r o:=by
 have:∃m,m∉ids:=⟨ids.foldr max 0+1,fun h=>by
  have key:∀(l:List Nat) (x:Nat),x∈l->x<=l.foldr max 0:=by
   intro l
   induction l with
   |nil=>intro x hx;cases hx
   |
    cons y l ih =>
    intro x hx
    rcases aK.1 hx with rfl|hx
    ·simp only[List.foldr_cons];omega
    ·have:=ih x hx;simp only[List.foldr_cons];omega
  have:=key _ _ h
  omega⟩
 obtain⟨m,hm⟩:=this
 exact⟨_,_,⟨m,hm,rfl⟩,rfl⟩
theorem Dl(t:Ty)(ea:AV)(ids:List Nat)(he:kI ea ids):an Tryz.prog 77 [.agg [(Ty.rc t).av,ea]] [] (Bd t ea ids):=by
 have hup:xf [.agg [(Ty.rc t).av,ea]] [.agg [.x (Ty.rc t).av,.x ea]]:=ah (bY (ah (bB ((aE _).mpr trivial)) (ah (bB he.has) aC))) aC
 refine an.up hup ?_
 refine an.Tb (cfg:=cfg) (F:=eA) (S:=fun b=>b∈ids) (sel:=fun o=>aJ o 7) uR mixed (by kernel_rfl) (by kernel_rfl) (c:=cG eA) (by kernel_rfl) (by kernel_rfl) (fun M β vs hr b hb=>?_) ?_
 ·have h0:=hr 0 (by simp)
  simp only[bx]at h0
  obtain⟨us,_,hl,hq,_⟩:=gb h0
  have h1:=hq 1 (by simp at hl |-)
  simp only[List.getD_cons_succ,bx]at h1
  cases h1 with
  |x _ _ _ _ h=>exact he.SX h b hb
 ·rw[zx]
  simp only[Ty.av,↓zq,zs,ae,aE]
  exact⟨by omega,fun ids' hf=>⟨ids' 7,hf 7,rfl⟩⟩
theorem LZ(u:Nat)(hu:u<1000000):∀(k i:Nat) (ea:AV) (ids:List Nat),i+k=u->kI ea ids->k<=ids.length->Ee [ea,.v (.int .i64 (u:Int)),.v (.int .i64 (i:Int))] [] (fun t ys o=>t=1/\∃e',kI e' (ids.drop k)/\ys=[e']/\o=[])
 |
  0,i,ea,ids,hi,he,hk=>by
  refine Ep _ _ _ ?_
  have:i=u:=by omega
  subst this
  simp only[A7,↓zq,zs,ae]
  exact⟨he.has,fun h=>by omega,fun _=>⟨ea,he,rfl⟩⟩
 |
  k+1,i,ea,ids,hi,he,hk=>by
  refine Ep _ _ _ ?_
  cases he with
  |nil=>simp at hk
  |
   @cons m cs e ids' hm h =>
   simp only[A7,↓zq,zs,ae,h.has]
   refine⟨fun _=>⟨by omega,?_⟩,fun h=>by omega⟩
   rw[bA i (by omega)]
   exact LZ u hu k (i+1) e ids' (by omega) h (by simpa using hk)
theorem Q1(u:Nat)(ea:AV)(ids:List Nat)(he:kI ea ids)(hu:u<ids.length)(hl:ids.length<1000000):an Tryz.prog 141 [.agg [(Ty.bound u).av,ea]] [] (fun r o=>(∃cs,r=.pid (ids.getD u 0) cs)/\o=[]):=by
 refine Lh _ _ ((aE _).mpr trivial) he.has ?_
 simp only[Hr,Ty.av,↓zq,zs,ae,he.has]
 refine⟨by omega,kW (LZ u (by omega) u 0 ea ids (by omega) he (by omega)) ?_ (fun ys o h=>by cases h.1)⟩
 rintro ys o ⟨_,e',he',rfl,rfl⟩
 have hd:ids.drop u=ids.getD u 0::ids.drop (u+1):=by
  rw[aR hu];simp[aa,hu]
 rw[hd]at he'
 cases he' with
 |
  @cons m cs e ids' hm h =>
  have hp:LK.has .ptr (AV.pid (ids.getD u 0) cs):=.inr (.inr ⟨_,_,rfl⟩)
  simp only[↓zq,zs,ae,hp]
  exact⟨by omega,cs,rfl⟩
inductive Az:Tg->List Nat->List UInt8->AV->Prop
 |nm (s:List UInt8) (ids:List Nat):Az (.nm s) ids s gp
 |bd {k:Nat} {ids:List Nat} (hk:k<ids.length) (cs:List AV) (s:List UInt8):Az (.bd k) ids s (.pid (ids.getD k 0) cs)
theorem Az.has{tg:Tg}{ids:List Nat}{s:List UInt8}{fr:AV}(h:Az tg ids s fr):LK.has .ptr fr:=by
 cases h
 ·exact(iC).mpr trivial
 ·exact .inr (.inr ⟨_,_,rfl⟩)
theorem Az.push{tg:Tg}{ids:List Nat}{s:List UInt8}{fr:AV}(h:Az tg ids s fr)(m:Nat):Az tg.up (m::ids) s fr:=by
 cases h with
 |nm=>exact .nm _ _
 |
  @bd k _ hk cs =>
  have:=Az.bd (k:=k+1) (ids:=m::ids) (by simpa using hk) cs s
  simpa[Tg.up]using this
theorem Ap{ids:List Nat}(h:ids.Nodup){i j:Nat}(hi:i<ids.length)(hj:j<ids.length)(he:ids.getD i 0=ids.getD j 0):i=j:=by
 have e1:ids.getD i 0=ids[i]:=by simp[aa,hi]
 have e2:ids.getD j 0=ids[j]:=by simp[aa,hj]
 rw[e1,e2]at he
 have hp:=List.pairwise_iff_getElem.1 h
 rcases Nat.lt_trichotomy i j with hlt|rfl|hlt
 ·exact absurd he (hp i j hi hj hlt)
 ·rfl
 ·exact absurd he.symm (hp j i hj hi hlt)
theorem PB(t:Ty)(tg:Tg)(ea:AV)(ids:List Nat)(s:List UInt8)(fr:AV)(he:kI ea ids)(ht:Az tg ids s fr)(hu:∀u,t=.bound u->u<ids.length)(hl:ids.length<1000000) :
 an Tryz.prog 110 [.agg [.v (.string (mk s)),fr],.agg [t.av,ea]] [] (bJ (.v (.bool (eF t tg)))):=by
 refine Rk _ _ _ _ ht.has ((aE _).mpr trivial) he.has ?_
 cases ht with
 |
  nm s =>
  cases t<;>simp[C9,Ty.av,↓zq,zs,ae,zt,bJ,eF]
  rw[cy];simp
 |
  @bd k _ hk cs s =>
  generalize hm0:ids.getD k 0=m0
  have hp:LK.has .ptr (AV.pid m0 cs):=.inr (.inr ⟨_,_,rfl⟩)
  have hn:(AV.pid m0 cs).isNil=false:=rfl
  cases t with
  |
   bound u =>
   have hu:=hu u rfl
   simp only[C9,Ty.av,↓zq,zs,ae,hp,hn]
   refine⟨fun _=>⟨by omega,fun _=>?_,fun h=>absurd rfl h⟩,fun h=>by cases h⟩
   have hb:=Q1 u ea ids he hu hl
   simp only[Ty.av]at hb
   refine aP hb ⟨_,_,⟨[],rfl⟩,rfl⟩ ?_
   rintro r o ⟨⟨cs',rfl⟩,rfl⟩
   have hp':LK.has .ptr (AV.pid (ids.getD u 0) cs'):=.inr (.inr ⟨_,_,rfl⟩)
   simp only[↓zq,zs,ae,hp',AV.rK,AV.Bp,bJ,eF]
   congr 2
   rw[cy,Nat.beq_eq,decide_eq_true_eq,<-hm0]
   exact⟨fun h=>Ap he.nodup hu hk h,fun h=>by rw[h]⟩
  |_=>simp[C9,Ty.av,↓zq,zs,ae,hp,hn,bJ,eF]
end Go.Proofs.Trees
namespace Go.Proofs.Trees
open Go Go.VL Go.RowKit
theorem zV(b:Int)(a:AV)(h:LK.ptr.has a):an Tryz.prog 78 [.v (.int .u8 b),a] [] (bJ (.ptr [.v (.int .u8 b),.v (.string (mk [])),a,gp])):=by
 refine Pz _ _ h ?_
 simp[Mq,↓zq,zs,ae,bJ]
end Go.Proofs.Trees
namespace Go.Proofs.Trees
open Go Go.VL Go.RowKit
def gH(l:List Hl):List (List AV):=l.map fun h=>[h.1.cA,h.2.cA]
theorem ep(l:List Hl):(gH l).length=l.length:=by simp[gH]
theorem lF{l:List Hl}{i:Nat}(hi:i<l.length):(gH l).getD i []=[(l[i]).1.cA,(l[i]).2.cA]:=by simp[gH,aa,hi]
theorem ph(out:List Hl)(a b:Vl):gH out++[[a.cA,b.cA]]=gH (out++[(a,b)]):=by simp[gH]
theorem gq(g:Vl->Vl)(l:List Hl){i:Nat}(hi:i<l.length):iF g (l.drop i)=(g (l[i]).1,(l[i]).2)::iF g (l.drop (i+1)):=by
 rw[aR hi];rfl
theorem fP(g:Vl->Vl)(l:List Hl):(iF g l).length=l.length:=by simp[iF]
theorem B7(a b:AV):cC 2 [[a,b]]:=fun c hc=>by simp at hc;rw[hc];rfl
theorem Mc(x0:AV)(hx0:LK.ptr.has x0)(g:Vl->Vl)(hg:∀c:Vl,an Tryz.prog 112 [c.cA,.ref 0 0] [.cells [x0]] (dq (g c).cA [.cells [x0]]))(l:List Hl):∀(k i:Nat) (out:List Hl),i+k=l.length->out.length+k<=1000000->l.length<=1000000 ->
 Fx [.sl (gH l),.v (.int .i64 (l.length:Int)),.v (.int .i64 (i:Int))] [.cells [x0],.cells [.any],.vec 2 (gH out)] (iG 1 [] [.cells [x0],.cells [.any],.vec 2 (gH (out++iF g (l.drop i)))])
 |
  0,i,out,hi,ho,hl=>by
  refine Oq _ _ _ _ _ ?_
  have:i=l.length:=by omega
  subst this
  simp only[GV,↓zq,zs,ae,ep,hx0]
  exact⟨fun h=>by omega,fun _=>by simp[iG,iF]⟩
 |
  k+1,i,out,hi,ho,hl=>by
  have hlt:i<l.length:=by omega
  refine Oq _ _ _ _ _ ?_
  simp only[GV,↓zq,zs,ae,zt,ep,lF hlt,aM,bF,hx0]
  refine⟨fun _=>⟨by omega,by omega,?_⟩,fun h=>by omega⟩
  refine aV (hg _) ?_
  simp only[↓zq,zs,ae,aM,aI,bJ,dq,hx0]
  refine⟨⟨B7 _ _,by omega⟩,?_⟩
  rw[bA i (by omega)]
  have:=Mc x0 hx0 g hg l k (i+1) (out++[(g (l[i]).1,(l[i]).2)]) (by omega) (by simp;omega) hl
  rw[bf]at this
  rw[gq g l hlt,ph]
  exact this
theorem Lj(x0:AV)(hx0:LK.ptr.has x0)(g:Vl->Vl)(hg:∀c:Vl,an Tryz.prog 112 [c.cA,.ref 0 0] [.cells [x0]] (dq (g c).cA [.cells [x0]]))(l out:List Hl)(hl:out.length+l.length<=1000000) :
 an Tryz.prog 111 [.sl (gH l),.fn 112 [.ref 0 0],.ref 1 0] [.cells [x0],.cells [.vec 2],.vec 2 (gH out)] (dq .any [.cells [x0],.cells [.vec 2],.vec 2 (gH (out++iF g l))]):=by
 refine PI _ _ _ ((cc _).mpr trivial) hx0 ?_
 simp only[Lb,↓zq,zs,ae,ep]
 have h:=Mc x0 hx0 g hg l l.length 0 out (by omega) (by omega) (by omega)
 rw[bb]at h
 refine cJ h ?_
 simp[↓zq,zs,ae,dq,aI,hx0]
theorem Lg(x0:AV)(hx0:LK.ptr.has x0)(g:Vl->Vl)(hg:∀c:Vl,an Tryz.prog 113 [c.cA,.ref 0 0] [.cells [x0]] (dq (g c).cA [.cells [x0]]))(l:List Hl):∀(k i:Nat) (out:List Hl),i+k=l.length->out.length+k<=1000000->l.length<=1000000 ->
 GX [.sl (gH l),.v (.int .i64 (l.length:Int)),.v (.int .i64 (i:Int))] [.cells [x0],.cells [.any],.vec 2 (gH out)] (iG 1 [] [.cells [x0],.cells [.any],.vec 2 (gH (out++iF g (l.drop i)))])
 |
  0,i,out,hi,ho,hl=>by
  refine KI _ _ _ _ _ ?_
  have:i=l.length:=by omega
  subst this
  simp only[FI,↓zq,zs,ae,ep,hx0]
  exact⟨fun h=>by omega,fun _=>by simp[iG,iF]⟩
 |
  k+1,i,out,hi,ho,hl=>by
  have hlt:i<l.length:=by omega
  refine KI _ _ _ _ _ ?_
  simp only[FI,↓zq,zs,ae,zt,ep,lF hlt,aM,bF,hx0]
  refine⟨fun _=>⟨by omega,by omega,?_⟩,fun h=>by omega⟩
  refine aV (hg _) ?_
  simp only[↓zq,zs,ae,aM,aI,bJ,dq,hx0]
  refine⟨⟨B7 _ _,by omega⟩,?_⟩
  rw[bA i (by omega)]
  have:=Lg x0 hx0 g hg l k (i+1) (out++[(g (l[i]).1,(l[i]).2)]) (by omega) (by simp;omega) hl
  rw[bf]at this
  rw[gq g l hlt,ph]
  exact this
theorem Rs(x0:AV)(hx0:LK.ptr.has x0)(g:Vl->Vl)(hg:∀c:Vl,an Tryz.prog 113 [c.cA,.ref 0 0] [.cells [x0]] (dq (g c).cA [.cells [x0]]))(l out:List Hl)(hl:out.length+l.length<=1000000) :
 an Tryz.prog 111 [.sl (gH l),.fn 113 [.ref 0 0],.ref 1 0] [.cells [x0],.cells [.vec 2],.vec 2 (gH out)] (dq .any [.cells [x0],.cells [.vec 2],.vec 2 (gH (out++iF g l))]):=by
 refine Qd _ _ _ ((cc _).mpr trivial) hx0 ?_
 simp only[NO,↓zq,zs,ae,ep]
 have h:=Lg x0 hx0 g hg l l.length 0 out (by omega) (by omega) (by omega)
 rw[bb]at h
 refine cJ h ?_
 simp[↓zq,zs,ae,dq,aI,hx0]
theorem JY(x0:AV)(hx0:LK.ptr.has x0)(g:Vl->Vl)(hg:∀c:Vl,an Tryz.prog 114 [c.cA,.ref 0 0] [.cells [x0]] (dq (g c).cA [.cells [x0]]))(l:List Hl):∀(k i:Nat) (out:List Hl),i+k=l.length->out.length+k<=1000000->l.length<=1000000 ->
 FG [.sl (gH l),.v (.int .i64 (l.length:Int)),.v (.int .i64 (i:Int))] [.cells [x0],.cells [.any],.vec 2 (gH out)] (iG 1 [] [.cells [x0],.cells [.any],.vec 2 (gH (out++iF g (l.drop i)))])
 |
  0,i,out,hi,ho,hl=>by
  refine Me _ _ _ _ _ ?_
  have:i=l.length:=by omega
  subst this
  simp only[FQ,↓zq,zs,ae,ep,hx0]
  exact⟨fun h=>by omega,fun _=>by simp[iG,iF]⟩
 |
  k+1,i,out,hi,ho,hl=>by
  have hlt:i<l.length:=by omega
  refine Me _ _ _ _ _ ?_
  simp only[FQ,↓zq,zs,ae,zt,ep,lF hlt,aM,bF,hx0]
  refine⟨fun _=>⟨by omega,by omega,?_⟩,fun h=>by omega⟩
  refine aV (hg _) ?_
  simp only[↓zq,zs,ae,aM,aI,bJ,dq,hx0]
  refine⟨⟨B7 _ _,by omega⟩,?_⟩
  rw[bA i (by omega)]
  have:=JY x0 hx0 g hg l k (i+1) (out++[(g (l[i]).1,(l[i]).2)]) (by omega) (by simp;omega) hl
  rw[bf]at this
  rw[gq g l hlt,ph]
  exact this
theorem Ps(x0:AV)(hx0:LK.ptr.has x0)(g:Vl->Vl)(hg:∀c:Vl,an Tryz.prog 114 [c.cA,.ref 0 0] [.cells [x0]] (dq (g c).cA [.cells [x0]]))(l out:List Hl)(hl:out.length+l.length<=1000000) :
 an Tryz.prog 111 [.sl (gH l),.fn 114 [.ref 0 0],.ref 1 0] [.cells [x0],.cells [.vec 2],.vec 2 (gH out)] (dq .any [.cells [x0],.cells [.vec 2],.vec 2 (gH (out++iF g l))]):=by
 refine Q9 _ _ _ ((cc _).mpr trivial) hx0 ?_
 simp only[KW,↓zq,zs,ae,ep]
 have h:=JY x0 hx0 g hg l l.length 0 out (by omega) (by omega) (by omega)
 rw[bb]at h
 refine cJ h ?_
 simp[↓zq,zs,ae,dq,aI,hx0]
theorem Np(g:Vl->Vl)(hg:∀c:Vl,an Tryz.prog 115 [c.cA] [] (bJ (g c).cA))(l:List Hl):∀(k i:Nat) (out:List Hl),i+k=l.length->out.length+k<=1000000->l.length<=1000000 ->
 FE [.v (.func (.func 115) #[] #[]),.sl (gH l),.v (.int .i64 (l.length:Int)),.v (.int .i64 (i:Int))] [.cells [.any],.vec 2 (gH out)] (iG 1 [] [.cells [.any],.vec 2 (gH (out++iF g (l.drop i)))])
 |
  0,i,out,hi,ho,hl=>by
  refine LO _ _ _ _ ?_
  have:i=l.length:=by omega
  subst this
  simp only[Gp,↓zq,zs,ae,ep]
  exact⟨fun h=>by omega,fun _=>by simp[iG,iF]⟩
 |
  k+1,i,out,hi,ho,hl=>by
  have hlt:i<l.length:=by omega
  refine LO _ _ _ _ ?_
  simp only[Gp,↓zq,zs,ae,zt,ep,lF hlt,aM,bF]
  refine⟨fun _=>⟨by omega,by omega,?_⟩,fun h=>by omega⟩
  refine ai (hg _) ?_
  simp only[↓zq,zs,ae,aM,aI,bJ,dq]
  refine⟨⟨B7 _ _,by omega⟩,?_⟩
  rw[bA i (by omega)]
  have:=Np g hg l k (i+1) (out++[(g (l[i]).1,(l[i]).2)]) (by omega) (by simp;omega) hl
  rw[bf]at this
  rw[gq g l hlt,ph]
  exact this
theorem QL(g:Vl->Vl)(hg:∀c:Vl,an Tryz.prog 115 [c.cA] [] (bJ (g c).cA))(l out:List Hl)(hl:out.length+l.length<=1000000) :
 an Tryz.prog 111 [.sl (gH l),.v (.func (.func 115) #[] #[]),.ref 0 0] [.cells [.vec 1],.vec 2 (gH out)] (dq .any [.cells [.vec 1],.vec 2 (gH (out++iF g l))]):=by
 refine Pk _ _ ((cc _).mpr trivial) ?_
 simp only[L7,↓zq,zs,ae,ep]
 have h:=Np g hg l l.length 0 out (by omega) (by omega) (by omega)
 rw[bb]at h
 refine cJ h ?_
 simp[↓zq,zs,ae,dq,aI]
theorem IY(x0:AV)(x1:AV)(hx0:LK.ptr.has x0)(hx1:LK.ptr.has x1)(g:Vl->Vl)(hg:∀c:Vl,an Tryz.prog 116 [c.cA,.ref 0 0] [.cells [x0,x1]] (dq (g c).cA [.cells [x0,x1]]))(l:List Hl):∀(k i:Nat) (out:List Hl),i+k=l.length->out.length+k<=1000000->l.length<=1000000 ->
 Gv [.sl (gH l),.v (.int .i64 (l.length:Int)),.v (.int .i64 (i:Int))] [.cells [x0,x1],.cells [.any],.vec 2 (gH out)] (iG 1 [] [.cells [x0,x1],.cells [.any],.vec 2 (gH (out++iF g (l.drop i)))])
 |
  0,i,out,hi,ho,hl=>by
  refine Nq _ _ _ _ _ _ ?_
  have:i=l.length:=by omega
  subst this
  simp only[GS,↓zq,zs,ae,ep,hx0,hx1]
  exact⟨fun h=>by omega,fun _=>by simp[iG,iF]⟩
 |
  k+1,i,out,hi,ho,hl=>by
  have hlt:i<l.length:=by omega
  refine Nq _ _ _ _ _ _ ?_
  simp only[GS,↓zq,zs,ae,zt,ep,lF hlt,aM,bF,hx0,hx1]
  refine⟨fun _=>⟨by omega,by omega,?_⟩,fun h=>by omega⟩
  refine aV (hg _) ?_
  simp only[↓zq,zs,ae,aM,aI,bJ,dq,hx0,hx1]
  refine⟨⟨B7 _ _,by omega⟩,?_⟩
  rw[bA i (by omega)]
  have:=IY x0 x1 hx0 hx1 g hg l k (i+1) (out++[(g (l[i]).1,(l[i]).2)]) (by omega) (by simp;omega) hl
  rw[bf]at this
  rw[gq g l hlt,ph]
  exact this
theorem RJ(x0:AV)(x1:AV)(hx0:LK.ptr.has x0)(hx1:LK.ptr.has x1)(g:Vl->Vl)(hg:∀c:Vl,an Tryz.prog 116 [c.cA,.ref 0 0] [.cells [x0,x1]] (dq (g c).cA [.cells [x0,x1]]))(l out:List Hl)(hl:out.length+l.length<=1000000) :
 an Tryz.prog 111 [.sl (gH l),.fn 116 [.ref 0 0],.ref 1 0] [.cells [x0,x1],.cells [.vec 2],.vec 2 (gH out)] (dq .any [.cells [x0,x1],.cells [.vec 2],.vec 2 (gH (out++iF g l))]):=by
 refine Pn _ _ _ _ ((cc _).mpr trivial) hx0 hx1 ?_
 simp only[K3,↓zq,zs,ae,ep]
 have h:=IY x0 x1 hx0 hx1 g hg l l.length 0 out (by omega) (by omega) (by omega)
 rw[bb]at h
 refine cJ h ?_
 simp[↓zq,zs,ae,dq,aI,hx0,hx1]
theorem QU(w c:Vl):an Tryz.prog 112 [c.cA,.ref 0 0] [.cells [(Vl.l w).cA]] (dq (Vl.l c).cA [.cells [(Vl.l w).cA]]):=by
 refine Nw _ _ ((aM _).mpr trivial) ((aM _).mpr trivial) ?_
 simp only[Gh,Vl.cA,↓zq,zs,ae,aM]
 refine⟨by omega,?_⟩
 refine ai (zV _ _ ((aM _).mpr trivial)) ?_
 simp[↓zq,zs,ae,dq,Vl.cA]
theorem QH(w c:Vl):an Tryz.prog 112 [c.cA,.ref 0 0] [.cells [(Vl.r w).cA]] (dq (Vl.r c).cA [.cells [(Vl.r w).cA]]):=by
 refine Nw _ _ ((aM _).mpr trivial) ((aM _).mpr trivial) ?_
 simp only[Gh,Vl.cA,↓zq,zs,ae,aM]
 refine⟨by omega,?_⟩
 refine ai (zV _ _ ((aM _).mpr trivial)) ?_
 simp[↓zq,zs,ae,dq,Vl.cA]
theorem RQ(x y c:Vl):an Tryz.prog 113 [c.cA,.ref 0 0] [.cells [(Vl.p x y).cA]] (dq (Vl.l (.p c y)).cA [.cells [(Vl.p x y).cA]]):=by
 refine QA _ _ ((aM _).mpr trivial) ((aM _).mpr trivial) ?_
 simp only[OC,Vl.cA,↓zq,zs,ae,aM]
 refine⟨by omega,?_⟩
 refine ai (zQ _ _ ((aM _).mpr trivial) ((aM _).mpr trivial)) ?_
 simp only[↓zq,zs,ae]
 refine ai (zV _ _ ((cd _).mpr trivial)) ?_
 simp[↓zq,zs,ae,dq,Vl.cA]
theorem Rv(x y c:Vl):an Tryz.prog 114 [c.cA,.ref 0 0] [.cells [(Vl.p x y).cA]] (dq (Vl.r (.p x c)).cA [.cells [(Vl.p x y).cA]]):=by
 refine RE _ _ ((aM _).mpr trivial) ((aM _).mpr trivial) ?_
 simp only[KU,Vl.cA,↓zq,zs,ae,aM]
 refine⟨by omega,?_⟩
 refine ai (zQ _ _ ((aM _).mpr trivial) ((aM _).mpr trivial)) ?_
 simp only[↓zq,zs,ae]
 refine ai (zV _ _ ((cd _).mpr trivial)) ?_
 simp[↓zq,zs,ae,dq,Vl.cA]
theorem QV(kc kv c:Vl):an Tryz.prog 116 [c.cA,.ref 0 0] [.cells [kc.cA,kv.cA]] (dq (Vl.f (.r (.p kc c))).cA [.cells [kc.cA,kv.cA]]):=by
 refine PH _ _ _ ((aM _).mpr trivial) ((aM _).mpr trivial) ((aM _).mpr trivial) ?_
 simp only[JU,Vl.cA,↓zq,zs,ae,aM]
 refine ai (zQ _ _ ((aM _).mpr trivial) ((aM _).mpr trivial)) ?_
 simp only[↓zq,zs,ae]
 refine ai (zV _ _ ((cd _).mpr trivial)) ?_
 simp only[↓zq,zs,ae]
 refine ai (zV _ _ ((cd _).mpr trivial)) ?_
 simp[↓zq,zs,ae,dq,Vl.cA,aM]
theorem PV(c:Vl):an Tryz.prog 115 [c.cA] [] (bJ (Vl.f (.l c)).cA):=by
 refine R5 _ ((aM _).mpr trivial) ?_
 simp only[JQ,↓zq,zs,ae]
 refine ai (zV _ _ ((aM _).mpr trivial)) ?_
 simp only[↓zq,zs,ae]
 refine ai (zV _ _ ((cd _).mpr trivial)) ?_
 simp[↓zq,zs,ae,bJ,Vl.cA]
end Go.Proofs.Trees
namespace Go.Proofs.Trees
open Go Go.VL Go.RowKit
abbrev AE(a:Ty)(tg:Tg):Hl->List Hl:=fun h=>iF (fun c=>.f (.r (.p h.1 c))) (cq (.rc a) tg h.2)
theorem BL(l:List Hl){i:Nat}(hi:i<l.length):l[i]∈l:=bD _
def H9(t:Ty)(ea:AV)(s:List UInt8)(fr:AV)(tg:Tg)(v:Vl):Prop:=an Tryz.prog 80 [.agg [t.av,ea],v.cA,.agg [.v (.string (mk s)),fr]] [] (bJ (.sl (gH (cq t tg v))))
theorem LN(a:Ty)(ea:AV)(s:List UInt8)(fr:AV)(tg:Tg)(he:LK.ptr.has ea)(hf:LK.ptr.has fr)(l:List Hl)(hl:l.length<=1000000)(ih:∀h,h∈l->H9 (.rc a) ea s fr tg h.2) :
 ∀(k i:Nat) (out:List Hl),i+k=l.length->(out++(l.drop i).flatMap (AE a tg)).length<=1000000 ->
 GA [.sl (gH l),.v (.int .i64 (l.length:Int)),.v (.int .i64 (i:Int))] [.cells [(Ty.rc a).av,ea],.cells [.v (.string (mk s)),fr],.cells [.any],.vec 2 (gH out)] (iG 1 [] [.cells [.any],.vec 2 (gH (out++(l.drop i).flatMap (AE a tg)))])
 |
  0,i,out,hi,ho=>by
  refine Kd _ _ _ _ _ _ _ _ ?_
  have:i=l.length:=by omega
  subst this
  simp only[Hg,↓zq,zs,ae,ep,aE,he,hf]
  exact⟨fun h=>by omega,fun _=>by simp[iG]⟩
 |
  k+1,i,out,hi,ho=>by
  have hlt:i<l.length:=by omega
  have hd:(l.drop i).flatMap (AE a tg)=AE a tg (l[i])++(l.drop (i+1)).flatMap (AE a tg):=by rw[aR hlt,List.flatMap_cons]
  rw[hd]at ho |-
  refine Kd _ _ _ _ _ _ _ _ ?_
  simp only[Hg,↓zq,zs,ae,zt,ep,lF hlt,aE,aM,bF,he,hf]
  refine⟨fun _=>⟨by omega,by omega,?_⟩,fun h=>by omega⟩
  refine ai (ih _ (BL l hlt)) ?_
  simp only[↓zq,zs,ae]
  have hb:out.length+(cq (.rc a) tg (l[i]).2).length<=1000000:=by
   simp only[aq,fP]at ho;omega
  refine aV (RJ _ _ ((aM _).mpr trivial) ((aM _).mpr trivial) (fun c=>.f (.r (.p (l[i]).1 c))) (fun c=>QV (l[i]).1 (l[i]).2 c) (cq (.rc a) tg (l[i]).2) out hb) ?_
  simp only[↓zq,zs,ae,aI,aM]
  rw[bA i (by omega),<-bf]
  exact LN a ea s fr tg he hf l hl ih k (i+1) _ (by omega) (by rw[bf];exact ho)
theorem E6(n:Nat):∀(m:Nat) (v:Vl),v.nodes<=m->∀(e:E) (env:List Fr) (t:Ty),Ask e env t->eX n v (e,env)=true->env.length+v.nodes<100000->∀(ea:AV) (ids:List Nat),kI ea ids->ids.length=env.length->∀(tg:Tg) (s:List UInt8) (fr:AV),Az tg ids s fr->H9 t ea s fr tg v
 |0,v,hm=>by have:=dw v;omega
 |
  m+1,v,hm=>by
  intro e env t A hv hl ea ids he hids tg s fr ht
  unfold H9
  refine Ss _ _ _ _ _ ((aE _).mpr trivial) he.has ((aM _).mpr trivial) ht.has ?_
  unfold Nx
  refine ai (PB t tg ea ids s fr he ht (fun u hu=>by
   rcases gv A.wf A.ty with⟨hb,_⟩|⟨u',g,rfl,_,hg⟩
   ·rw[hu]at hb;cases hb
   ·cases hu;rw[hids];exact(List.getElem?_eq_some_iff.1 hg).1) (by omega)) ?_
  have hlen:=nr t tg v
  cases hat:eF t tg with
  |
   true =>
   rw[mD v hat]
   simp only[↓zq,zs,ae,bJ,gH,bE,List.map_nil,Vl.cA]
   exact⟨fun _=>trivial,fun h=>(by cases h)⟩
  |false =>
  simp only[↓zq,zs,ae]
  refine⟨fun h=>(by cases h),fun _=>?_⟩
  rcases gv A.wf A.ty with⟨hb,hq⟩|⟨u,g,rfl,hq,hu⟩
  ·have hhd:hd e env=(e,env):=ka hq
   rcases fG A.ty hb A.cl with⟨rfl,rfl⟩|⟨rfl,rfl⟩|⟨s,rfl,rfl,hp,h0,h1⟩|⟨x,a,b,t1,t2,rfl,hx,rfl,ha,hbb⟩|⟨x,a,b,t1,t2,rfl,hx,rfl,ha,hbb⟩|⟨x,a,b,t1,rfl,hx,rfl⟩
   ·rw[dS hat (by cases v<;>rfl)]
    simp[Ty.av,↓zq,zs,ae,bJ,gH]
   ·rw[dS hat (by cases v<;>rfl)]
    simp[Ty.av,↓zq,zs,ae,bJ,gH]
   ·rw[dS hat (by cases v<;>rfl)]
    simp[Ty.av,↓zq,zs,ae,bJ,gH]
   ·obtain⟨ok1,ok2,ok3,_⟩:=A.ok
    obtain⟨f1,f2⟩:=fy A.cl
    have hL:=Av t1.av t2.av ea 43 (mk []) 0 ((aE _).mpr trivial) he.has
    have hR:=zI t1.av t2.av ea 43 (mk []) 0 ((aE _).mpr trivial) he.has
    cases v with
    |
     l w =>
     simp only[eX,hhd,hx,beq_self_eq_true,bW]at hv
     simp only[Vl.nodes]at hm hl hlen
     rw[nh]at hlen |-
     rw[fP]at hlen
     simp only[Ty.av,↓zq,zs,ae]
     refine⟨by omega,fun _=>?_,fun h=>absurd rfl h⟩
     refine ai hL ?_
     simp only[↓zq,zs,ae,bF,aE,he.has,Vl.cA,aM]
     refine⟨by omega,fun h=>by omega,fun _=>⟨by omega,?_⟩⟩
     refine ai (E6 n m w (by omega) a env t1 ⟨ok2,A.wf,ha,f1⟩ hv (by omega) ea ids he hids tg s fr ht) ?_
     simp only[↓zq,zs,ae]
     have hadd:=Lj (Vl.l w).cA ((aM _).mpr trivial) Vl.l (fun c=>QU w c) (cq t1 tg w) [] (by simp;omega)
     simp only[Vl.cA,gH,List.map_nil,aT]at hadd
     refine aV hadd ?_
     simp[↓zq,zs,ae,aI,bJ,aM,gH,cd]
    |
     r w =>
     simp only[eX,hhd,hx,beq_self_eq_true,bW]at hv
     simp only[Vl.nodes]at hm hl hlen
     rw[mW]at hlen |-
     rw[fP]at hlen
     simp only[Ty.av,↓zq,zs,ae]
     refine⟨by omega,fun _=>?_,fun h=>absurd rfl h⟩
     refine ai hL ?_
     simp only[↓zq,zs,ae,bF,aE,he.has,Vl.cA,aM]
     refine⟨by omega,fun _=>?_,fun h=>absurd rfl h⟩
     refine ai hR ?_
     simp only[↓zq,zs,ae,bF,aE,he.has,aM]
     refine⟨by omega,?_⟩
     refine ai (E6 n m w (by omega) b env t2 ⟨ok3,A.wf,hbb,f2⟩ hv (by omega) ea ids he hids tg s fr ht) ?_
     simp only[↓zq,zs,ae]
     have hadd:=Lj (Vl.r w).cA ((aM _).mpr trivial) Vl.r (fun c=>QH w c) (cq t2 tg w) [] (by simp;omega)
     simp only[Vl.cA,gH,List.map_nil,aT]at hadd
     refine aV hadd ?_
     simp[↓zq,zs,ae,aI,bJ,aM,gH,cd]
    |_=>simp[eX,hhd,hx]at hv
   ·obtain⟨ok1,ok2,ok3,_⟩:=A.ok
    obtain⟨f1,f2⟩:=eY A.cl
    have hL:=Av t1.av t2.av ea 42 (mk []) 0 ((aE _).mpr trivial) he.has
    have hR:=zI t1.av t2.av ea 42 (mk []) 0 ((aE _).mpr trivial) he.has
    cases v with
    |
     p w w' =>
     simp only[eX,hhd,hx,beq_self_eq_true,bW,aw]at hv
     simp only[Vl.nodes]at hm hl hlen
     rw[m9]at hlen |-
     simp only[aq,fP]at hlen
     simp only[Ty.av,↓zq,zs,ae]
     refine⟨by omega,fun h=>by omega,fun _=>⟨fun _=>?_,fun h=>absurd rfl h⟩⟩
     refine ai hL ?_
     simp only[↓zq,zs,ae,bF,aE,he.has,Vl.cA,aM]
     refine⟨by omega,?_⟩
     refine ai (E6 n m w (by omega) a env t1 ⟨ok2,A.wf,ha,f1⟩ hv.1 (by omega) ea ids he hids tg s fr ht) ?_
     simp only[↓zq,zs,ae]
     have hadd:=Rs (Vl.p w w').cA ((aM _).mpr trivial) (fun c=>.l (.p c w')) (fun c=>RQ w w' c) (cq t1 tg w) [] (by simp;omega)
     simp only[Vl.cA,gH,List.map_nil,aT]at hadd
     refine aV hadd ?_
     simp only[↓zq,zs,ae,aI,aM]
     refine ai hR ?_
     simp only[↓zq,zs,ae,bF,aE,he.has,aM]
     refine⟨by omega,?_⟩
     refine ai (E6 n m w' (by omega) b env t2 ⟨ok3,A.wf,hbb,f2⟩ hv.2 (by omega) ea ids he hids tg s fr ht) ?_
     simp only[↓zq,zs,ae]
     have hadd2:=Ps (Vl.p w w').cA ((aM _).mpr trivial) (fun c=>.r (.p w c)) (fun c=>Rv w w' c) (cq t2 tg w') (iF (fun c=>.l (.p c w')) (cq t1 tg w)) (by rw[fP];omega)
     simp only[Vl.cA,gH]at hadd2
     refine aV hadd2 ?_
     simp[↓zq,zs,ae,aI,bJ,aM,gH,cd]
    |_=>simp[eX,hhd,hx]at hv
   ·obtain⟨t1',he1,h1,f1,hw1⟩:=jm A.wf A.ok hx A.ty A.cl
    cases he1
    obtain⟨ok1,ok2,ok3,_⟩:=A.ok
    have A':Ask b (.mk a.at (.list [x,a,b]) env::env) t1:=⟨ok3,hw1,h1,f1⟩
    cases v with
    |
     f w =>
     simp only[eX,hhd,hx,beq_self_eq_true,bW]at hv
     simp only[Vl.nodes]at hm hl hlen
     rw[nn]at hlen |-
     simp only[aq,fP]at hlen
     have hin:=Dl t1 ea ids he
     simp only[Ty.av]at hin
     simp only[Ty.av,↓zq,zs,ae]
     refine⟨by omega,fun h=>by omega,fun _=>⟨fun h=>by omega,fun _=>⟨fun _=>?_,fun h=>absurd rfl h⟩⟩⟩
     refine aP hin (by have:=Bd.ne t1 ea ids;simpa only[Bd,Ty.av]using this) ?_
     intro r o hr
     obtain⟨⟨mm,hmm,rfl⟩,rfl⟩:=hr
     have he2:kI (.ptr [.pid mm [(Ty.rc t1).av,ea],ea]) (mm::ids):=.cons hmm he
     have hfr:LK.ptr.has (.pid mm [(Ty.rc t1).av,ea]):=.inr (.inr ⟨_,_,rfl⟩)
     simp only[Ty.av]at he2 hfr
     simp only[↓zq,zs,ae,bF,aE,he2.has,hfr,Vl.cA,aM,Ty.av]
     refine⟨by omega,?_⟩
     have i1:=E6 n m w (by omega) b _ t1 A' hv (by simp;omega) _ _ he2 (by simp[hids]) tg.up s fr (ht.push mm)
     unfold H9 at i1
     refine ai i1 ?_
     simp only[↓zq,zs,ae]
     have hadd:=QL (fun c=>.f (.l c)) (fun c=>PV c) (cq t1 tg.up w) [] (by simp;omega)
     simp only[Vl.cA,gH,List.map_nil,aT]at hadd
     refine aV hadd ?_
     simp only[↓zq,zs,ae,aI,aM]
     have i2:=E6 n m w (by omega) b _ t1 A' hv (by simp;omega) _ _ he2 (by simp[hids]) (.bd 0) [] _ (by have:=Az.bd (k:=0) (ids:=mm::ids) (by simp) [(Ty.rc t1).av,ea] [];simpa only[bx,Ty.av]using this)
     unfold H9 at i2
     refine⟨by omega,?_⟩
     refine ai i2 ?_
     simp only[↓zq,zs,ae,ep]
     have hl2:=nr t1 (.bd 0) w
     have ih3:∀h,h∈cq t1 (.bd 0) w->H9 (.rc t1) ea s fr tg h.2:=fun h hh=>by
      have h3:=(iB hh).1
      have h4:=ij n m w (by omega) b _ t1 A' hv 0 _ rfl h hh
      exact E6 n m h.2 (by omega) (.list [x,a,b]) env (.rc t1) A h4 (by omega) ea ids he hids tg s fr ht
     have hloop:=LN t1 ea s fr tg he.has ht.has (cq t1 (.bd 0) w) (by omega) ih3 (cq t1 (.bd 0) w).length 0 (iF (fun c=>.f (.l c)) (cq t1 tg.up w)) (by omega) (by
      simp only[bb,aq,fP]
      have hlen2:(cq t1 tg.up w).length+((cq t1 (.bd 0) w).flatMap (AE t1 tg)).length<=1+w.nodes:=hlen
      omega)
     simp only[Ty.av,gH,bb]at hloop
     refine cJ hloop ?_
     simp[↓zq,zs,ae,ae,bJ,gH]
    |_=>simp[eX,hhd,hx]at hv
  ·rw[dS hat (by cases v<;>rfl)]
   simp[Ty.av,↓zq,zs,ae,bJ,gH]
end Go.Proofs.Trees
namespace Go.Proofs.Trees
open Go Go.VL Go.RowKit
theorem En:∀(v:Vl),v.cw.length<=900000->an Tryz.prog 48 [v.cA] [] (bJ (.v (.string (mk v.cw))))
 | .u,h=>by refine zw _ ((aM _).mpr trivial) ?_;simp[F8,Vl.cA,↓zq,zs,ae,bJ,Vl.cw,Vl.cL,e9]
 | .el k,h=>by refine zw _ ((aM _).mpr trivial) ?_;simp[F8,Vl.cA,↓zq,zs,ae,bJ,Vl.cw,Vl.cL,e9]
 |
  .l v,h=>by
  simp only[Vl.cw,Vl.cL,e9,ej,az,aq,aG]at h
  refine zw _ ((aM _).mpr trivial) ?_
  have hb:(⟨(bytesOf [[.v (.int .u8 108)]]).toArray⟩:ByteArray)=mk [108]:=rfl
  have ha:jB [[.v (.int .u8 108)]]:=lh 108
  simp only[F8,Vl.cA,↓zq,zs,ae,aM,fw,hb]
  refine⟨by omega,fun h=>by omega,fun _=>⟨fun h=>by omega,fun _=>⟨fun h=>by omega,fun _=>⟨by omega,ha,by simp[cN],by rw[kS,cN,cN];simp,by omega,?_⟩⟩⟩⟩
  refine ai (En v (by simp only[Vl.cw];omega)) ?_
  simp only[↓zq,zs,ae,zt,bJ,Vl.cw,Vl.cL,e9,ej]
  refine⟨by simp;omega,by simp;omega,by simp⟩
 |
  .r v,h=>by
  simp only[Vl.cw,Vl.cL,e9,ej,az,aq,aG]at h
  refine zw _ ((aM _).mpr trivial) ?_
  have hb:(⟨(bytesOf [[.v (.int .u8 114)]]).toArray⟩:ByteArray)=mk [114]:=rfl
  have ha:jB [[.v (.int .u8 114)]]:=lh 114
  simp only[F8,Vl.cA,↓zq,zs,ae,aM,fw,hb]
  refine⟨by omega,fun h=>by omega,fun _=>⟨fun h=>by omega,fun _=>⟨fun h=>by omega,fun _=>⟨by omega,ha,by simp[cN],by rw[kS,cN,cN];simp,by omega,?_⟩⟩⟩⟩
  refine ai (En v (by simp only[Vl.cw];omega)) ?_
  simp only[↓zq,zs,ae,zt,bJ,Vl.cw,Vl.cL,e9,ej]
  refine⟨by simp;omega,by simp;omega,by simp⟩
 |
  .f v,h=>by
  simp only[Vl.cw,Vl.cL,e9,ej,az,aq,aG]at h
  refine zw _ ((aM _).mpr trivial) ?_
  have hb:(⟨(bytesOf [[.v (.int .u8 102)]]).toArray⟩:ByteArray)=mk [102]:=rfl
  have ha:jB [[.v (.int .u8 102)]]:=lh 102
  simp only[F8,Vl.cA,↓zq,zs,ae,aM,fw,hb]
  refine⟨by omega,fun h=>by omega,fun _=>⟨fun h=>by omega,fun _=>⟨fun h=>by omega,fun _=>⟨by omega,ha,by simp[cN],by rw[kS,cN,cN];simp,by omega,?_⟩⟩⟩⟩
  refine ai (En v (by simp only[Vl.cw];omega)) ?_
  simp only[↓zq,zs,ae,zt,bJ,Vl.cw,Vl.cL,e9,ej]
  refine⟨by simp;omega,by simp;omega,by simp⟩
 |
  .p a b,h=>by
  simp only[Vl.cw,Vl.cL,e9,ej,az,aq,aG]at h
  refine zw _ ((aM _).mpr trivial) ?_
  simp only[F8,Vl.cA,↓zq,zs,ae,aM,fw]
  refine⟨by omega,fun h=>by omega,fun _=>⟨fun h=>by omega,fun _=>⟨fun _=>⟨by omega,?_⟩,fun h=>absurd rfl h⟩⟩⟩
  refine ai (En a (by simp only[Vl.cw];omega)) ?_
  simp only[↓zq,zs,ae,zt,aM,Vl.cw]
  refine⟨by simp;omega,by simp;omega,by omega,?_⟩
  refine ai (En b (by simp only[Vl.cw];omega)) ?_
  simp only[↓zq,zs,ae,zt,bJ,Vl.cw,Vl.cL,e9,ej]
  refine⟨by simp;omega,by simp;omega,by simp⟩
def uO:Option (List UInt8)->AV
 |some s=>.cD [.v (.string (mk s)),.v (.bool true)]
 |none=>.cD [.v (.string (mk [])),.v (.bool false)]
end Go.Proofs.Trees
namespace Go.Proofs.Trees
open Go Go.VL Go.RowKit
def back(n:Nat):Ty->Nat->Vl
 | .name _,c=>.el c
 | .plus a b,c=>match IM n a with|some x=>if c<x then .l (back n a c)else .r (back n b (c-x))|none=>.u
 | .times a b,c=>match IM n b with|some y=>.p (back n a (c/y)) (back n b (c%y))|none=>.u
 |_,_=>.u
theorem yO:∀l:List E,cC 2 (E.bw l)
 |[]=>fun c hc=>by cases hc
 |
  e::l=>fun c hc=>by
  simp only[E.bw,aK]at hc
  rcases hc with rfl|hc
  ·exact gj e
  ·exact yO l c hc
theorem OL(w:List UInt8)(l:List E)(hl:l.length<1000000):an Tryz.prog 81 [.v (.string (mk w)),.sl (E.bw l)] [] (bJ (E.kD (.list (.atom w::l)))):=by
 refine NY _ _ ((cc _).mpr trivial) ?_
 simp only[FR,↓zq,zs,ae,eh,bJ,E.kD,E.im,E.bw]
 exact⟨⟨yO l,by omega⟩,rfl⟩
end Go.Proofs.Trees
namespace Go.Proofs.Trees
open Go Go.VL Go.RowKit
def mf(l:List Hl):List (List AV):=l.map fun h=>[.v (.string (mk h.1.cL.at)),h.1.cL.sp,.v (.string (mk h.2.cL.at)),h.2.cL.sp]
theorem fA(l:List Hl):(mf l).length=l.length:=by simp[mf]
theorem gB{l:List Hl}{i:Nat}(hi:i<l.length):(mf l).getD i []=[.v (.string (mk (l[i]).1.cL.at)),(l[i]).1.cL.sp,.v (.string (mk (l[i]).2.cL.at)),(l[i]).2.cL.sp]:=by simp[mf,aa,hi]
theorem oK(out:List Hl)(a b:Vl):mf out++[[.v (.string (mk a.cL.at)),a.cL.sp,.v (.string (mk b.cL.at)),b.cL.sp]]=mf (out++[(a,b)]):=by simp[mf]
theorem zz(a b c d:AV):cC 4 [[a,b,c,d]]:=fun x hx=>by simp at hx;rw[hx];rfl
theorem aL(s:ByteArray)(e:E):bF [.str,.sl] [.v (.string s),e.sp] 0=True:=by simp[bF,dY,a6]
theorem kY(s:ByteArray)(e:E)(x y:AV):bF [.str,.sl] [.v (.string s),e.sp,x,y] 0=True:=by simp[bF,dY,a6]
end Go.Proofs.Trees
