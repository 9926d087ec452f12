/-
  Part of a proof: Go functions read by values, trees of functions, their contracts.
-/
import Derived.Test.YthcjhageibaepaaGreatDoorP4
import Derived.Test.YthcjhageibaepaaGreatDoorProg
import Derived.Lib.Atoi
set_option linter.unusedVariables false
set_option linter.unusedSimpArgs false
open And renaming intro→aH
open Bool renaming and_eq_true→aw,eq_iff_iff→cx,or_eq_false_iff→ck,or_eq_true→bB,true_and→bX
open ByteArray renaming extract→cr,size→ag,toList→af
open Int renaming tmod→dG,toNat→bI,toNat_natCast→bF
open List renaming all_cons→cZ,any_eq_true→cu,append_assoc→a6,append_nil→cP,drop_eq_getElem_cons→aT,drop_eq_nil_of_le→bV,drop_zero→bc,eq_nil_of_length_eq_zero→bQ,getD_cons_zero→bq,getD_eq_getElem?_getD→aa,getElem?_eq_getElem→bo,getElem_mem→bH,headD_cons→aO,length_append→aq,length_cons→az,length_drop→cw,length_nil→aG,map_cons→bG,mem_append→aM,mem_append_left→aD,mem_cons→aJ,mem_cons_of_mem→al,mem_cons_self→ak,mem_map→bM,mem_singleton→aQ,nil_append→aU
open Nat renaming beq→aI,le_add_right→da,le_refl→au,mul_add→cU,mul_one→dH,zero_add→aV,zero_le→dP
open Option renaming bind_eq_some_iff→bm,isSome_iff_exists→ca,isSome_none→bu,map_some→cj
open UInt8 renaming ofNat→bg
namespace Go.Proofs.Trees
open Go Go.VL
noncomputable section
variable {R:AV->List Ob->Prop}{U:RL}
def Hf(x0:ByteArray)(x1:Int)(x6:Int):Tree :=
 NS (VS x0)<|NI (VI x1)<|NI (VI x6)<|.test (decide (x6<(ag x0:Int))) (.ai (0<=x6/\x6<ag x0)<|.call 162 [.v (.int .u8 (bt x0 x6))] [] fun r1 o1=>NB r1<|.test r1.toBool (.done 0 [VS x0,VI x1,VI (IntKind.wrap .i64 (x6+1))] []) (.done 1 [VS x0,VI x1,VI x6] [])) (.done 1 [VS x0,VI x1,VI x6] [])
abbrev HC:=cy Tryz.prog 84 OG Ha
theorem Lv(x0:ByteArray)(x1:Int)(x6:Int)(h:j8 84 (Hf x0 x1 x6) HC U):HC [VS x0,VI x1,VI x6] [] U :=
 gQ GH h
def Ng(x0:ByteArray)(x1:Int)(x7:ByteArray)(o48_0:ByteArray)(o48_1:List (List AV)):Tree :=
 NS (VS x0)<|NI (VI x1)<|NS (VS x7)<|.ai (Ob.cells [VS o48_0,.any]=.cells [VS o48_0,.any])<|.ai (ae [.lk .str,.vec 1] [VS o48_0,.any] 0 [.vec 1 o48_1])<|.call 148 [VS x7,VI (IntKind.wrap .i64 (x1+1))] [] fun r1 o1=>NT r1<|NP (r1.comp 0)<|NS (r1.comp 1)<|NP (r1.comp 0)<|.test ((r1.comp 0).isNil) (.done 2 [.v (.pointer none),VS x0] []) (.test (af ((r1.comp 1).toStr)==af (mk [])) (.done 2 [.v (.pointer none),VS x0] []) (.ai (cF 1 [[(r1.comp 0)]]/\((o48_1.length)+([[(r1.comp 0)]]:List (List AV)).length)*8<=140737488355328)<|.ai (0<=(1:Int)/\(1:Int)<=(ag ((r1.comp 1).toStr):Int)/\(ag ((r1.comp 1).toStr):Int)<=(ag ((r1.comp 1).toStr):Int))<|.ai (0<=(0:Int)/\(0:Int)<ag ((r1.comp 1).toStr))<|.test ((bt ((r1.comp 1).toStr) 0)==(41:Int)) (.done 2 [.ptr [VS o48_0,.sl (o48_1++([[(r1.comp 0)]]:List (List AV)))],VS (cr ((r1.comp 1).toStr) (bI 1) (bI (ag ((r1.comp 1).toStr):Int)))] []) (.ai (0<=(0:Int)/\(0:Int)<ag ((r1.comp 1).toStr))<|.test ((bt ((r1.comp 1).toStr) 0) != (32:Int)) (.done 2 [.v (.pointer none),VS x0] []) (.done 0 [VS x0,VI x1,VS (cr ((r1.comp 1).toStr) (bI 1) (bI (ag ((r1.comp 1).toStr):Int)))] [.cells [VS o48_0,.any],.vec 1 (o48_1++([[(r1.comp 0)]]:List (List AV)))]))))
abbrev Ff:=cy Tryz.prog 84 JW Gm
theorem QG(x0:ByteArray)(x1:Int)(x7:ByteArray)(o48_0:ByteArray)(o48_1:List (List AV))(h:j8 84 (Ng x0 x1 x7 o48_0 o48_1) Ff U):Ff [VS x0,VI x1,VS x7] [.cells [VS o48_0,.any],.vec 1 o48_1] U :=
 gQ GH h
def OP(a0:ByteArray):Tree :=
 .call 163 [VS a0,VS (mk [120,121,122])] [] fun r1 o1=>NB r1<|.done 0 [VB r1.toBool] []
theorem PN(a0:ByteArray)(h:dq 5 (OP a0) R):an Tryz.prog 149 [VS a0] [] R :=
 uQ (ah (aA _) aC) (oQ [] Tryz.f149 h)
def ON(a0:ByteArray):Tree :=
 .call 163 [VS a0,VS (mk [116])] [] fun r1 o1=>NB r1<|.done 0 [VB r1.toBool] []
theorem Qi(a0:ByteArray)(h:dq 5 (ON a0) R):an Tryz.prog 150 [VS a0] [] R :=
 uQ (ah (aA _) aC) (oQ [] Tryz.f150 h)
def BA(a0:AV)(a1:ByteArray)(a2:Int):Tree :=
 NZ a0<|NZ a0<|pk (a0.deref.drop 1)<|NL ((a0.deref.drop 1).hA)<|.test (((((a0.deref.drop 1).hA).elems).length:Int)==a2) (NZ a0<|NZ a0<|pk (a0.deref.drop 1)<|NG ((a0.deref.drop 1).hA) 0 1<|eh (((a0.deref.drop 1).hA).ix (0:Int))<|NZ ((((a0.deref.drop 1).hA).ix (0:Int)).hA)<|NZ ((((a0.deref.drop 1).hA).ix (0:Int)).hA)<|.ai (LK.has .str (((((a0.deref.drop 1).hA).ix (0:Int)).hA).deref.hA)/\1<=(((((a0.deref.drop 1).hA).ix (0:Int)).hA).deref).length)<|.done 0 [VB (af ((((((a0.deref.drop 1).hA).ix (0:Int)).hA).deref.hA).toStr)==af a1)] []) (.done 0 [VB false] [])
theorem Ox(a0:AV)(a1:ByteArray)(a2:Int)(ha0:LK.has .ptr a0)(h:dq 27 (BA a0 a1 a2) R):an Tryz.prog 151 [a0,VS a1,VI a2] [] R :=
 uQ (ah (bC ha0) (ah (aA _) (ah (aA _) aC))) (oQ [] Tryz.f151 h)
def LR(a0:Int)(a1:AV)(a2:AV):Tree :=
 .done 0 [.ptr [.v (.int .u8 a0),VS (mk []),VI 0,a1,a2]] []
theorem R0(a0:Int)(a1:AV)(a2:AV)(ha1:LK.has .ptr a1)(ha2:LK.has .ptr a2)(h:dq 12 (LR a0 a1 a2) R):an Tryz.prog 153 [.v (.int .u8 a0),a1,a2] [] R :=
 uQ (ah (aA _) (ah (bC ha1) (ah (bC ha2) aC))) (oQ [] Tryz.f153 h)
def KS(a0:AV):Tree :=
 .call 165 [a0,.fn 166 [.ref 0 0]] [.cells [.vec 1],.vec 1 []] fun r1 o1=>.ai ((o1.hO)=.cells (o1.hO).cs)<|.ai (aL [.vec 1] ((o1.hO).cs) 0 1 o1.tail)<|.done 0 [.sl ((o1.tail.hO).es)] []
theorem Pe(a0:AV)(ha0:LK.has .ptr a0)(h:dq 9 (KS a0) R):an Tryz.prog 154 [a0] [] R :=
 uQ (ah (bC ha0) aC) (oQ [] Tryz.f154 h)
def Gr:LI:={hd:={bS:=[(0,.k .ptr),(1,.k .sl),(9,.k .str)],refs:=[(3,0),(4,1)],ct:=[(0,[.lk .sl]),(1,[.lk (.int .i64)])],wh:=[(2,155,[none,some 0,some 1])]},xs:={bS:=[(0,.k .ptr),(1,.k .sl),(9,.k .str)],ct:=[(0,[.lk .sl]),(1,[.lk (.int .i64)])],wh:=[(2,155,[none,some 0,some 1])]},rt:={ct:=[(0,[.lk .sl]),(1,[.lk (.int .i64)])]},ex:=1,fx:=[0,1]}
def MI:Code:=cE (cz Tryz.f155) 12
def JC:List (Nat×LI):=[(12,Gr)]
def E5(a0:AV)(a1:AV)(a3_0:AV)(a4_0:Int):Tree :=
 NZ a0<|NZ a0<|.ai (LK.has (.int .u8) (a0.deref.hA)/\1<=a0.deref.length)<|.test (((a0.deref.hA).toInt)==(110:Int)) (NZ a0<|NZ a0<|kI (a0.deref.drop 1)<|.done 0 [VS (((a0.deref.drop 1).hA).toStr)] [.cells [a3_0],.cells [VI a4_0]]) (.test (((a0.deref.hA).toInt)==(98:Int)) (NL a1<|NZ a0<|NZ a0<|.ai (LK.has (.int .i64) ((a0.deref.drop 2).hA)/\1<=(a0.deref.drop 2).length)<|.ai (LK.has .sl a1/\0<=(IntKind.wrap .i64 ((IntKind.wrap .i64 ((a1.elems.length:Int)-1))-(((a0.deref.drop 2).hA).toInt)))/\(IntKind.wrap .i64 ((IntKind.wrap .i64 ((a1.elems.length:Int)-1))-(((a0.deref.drop 2).hA).toInt)))<a1.elems.length/\(a1.ix (IntKind.wrap .i64 ((IntKind.wrap .i64 ((a1.elems.length:Int)-1))-(((a0.deref.drop 2).hA).toInt)))).length=1)<|kI (a1.ix (IntKind.wrap .i64 ((IntKind.wrap .i64 ((a1.elems.length:Int)-1))-(((a0.deref.drop 2).hA).toInt))))<|.done 0 [VS (((a1.ix (IntKind.wrap .i64 ((IntKind.wrap .i64 ((a1.elems.length:Int)-1))-(((a0.deref.drop 2).hA).toInt)))).hA).toStr)] [.cells [a3_0],.cells [VI a4_0]]) (.test (((a0.deref.hA).toInt)==(43:Int)) (NZ a0<|NZ a0<|eh (a0.deref.drop 3)<|.call 155 [((a0.deref.drop 3).hA),a1,.gC 155 [none,some 0,some 1],.ref 0 0,.ref 1 0] [.cells [a3_0],.cells [VI a4_0]] fun r1 o1=>.ai ((o1.hO)=.cells (o1.hO).cs)<|.ai (aL [.lk .sl] ((o1.hO).cs) 0 1 o1.tail)<|.ai ((o1.tail.hO)=.cells (o1.tail.hO).cs)<|.ai (aL [.lk (.int .i64)] ((o1.tail.hO).cs) 0 2 o1.tail.tail)<|NS r1<|NZ a0<|NZ a0<|.ai (LK.has (.int .u8) (a0.deref.hA)/\1<=a0.deref.length)<|.ai (jC [[.v (.int .u8 ((a0.deref.hA).toInt))]])<|.ai (ag (mk [40])+ag (⟨(bytesOf [[.v (.int .u8 ((a0.deref.hA).toInt))]]).toArray⟩)<=9223372036854775807)<|.ai (ag (((mk [40]):ByteArray)++(⟨(bytesOf [[.v (.int .u8 ((a0.deref.hA).toInt))]]).toArray⟩))+ag (mk [32])<=9223372036854775807)<|.ai (ag (((((mk [40]):ByteArray)++(⟨(bytesOf [[.v (.int .u8 ((a0.deref.hA).toInt))]]).toArray⟩)):ByteArray)++(mk [32]))+ag r1.toStr<=9223372036854775807)<|.ai (ag (((((((mk [40]):ByteArray)++(⟨(bytesOf [[.v (.int .u8 ((a0.deref.hA).toInt))]]).toArray⟩)):ByteArray)++(mk [32])):ByteArray)++r1.toStr)+ag (mk [32])<=9223372036854775807)<|NZ a0<|NZ a0<|eh (a0.deref.drop 4)<|.call 155 [((a0.deref.drop 4).hA),a1,.gC 155 [none,some 0,some 1],.ref 0 0,.ref 1 0] [.cells [((o1.hO).cs.getD 0 .any)],.cells [VI (((o1.tail.hO).cs.getD 0 .any).toInt)]] fun r2 o2=>.ai ((o2.hO)=.cells (o2.hO).cs)<|.ai (aL [.lk .sl] ((o2.hO).cs) 0 1 o2.tail)<|.ai ((o2.tail.hO)=.cells (o2.tail.hO).cs)<|.ai (aL [.lk (.int .i64)] ((o2.tail.hO).cs) 0 2 o2.tail.tail)<|NS r2<|.ai (ag (((((((((mk [40]):ByteArray)++(⟨(bytesOf [[.v (.int .u8 ((a0.deref.hA).toInt))]]).toArray⟩)):ByteArray)++(mk [32])):ByteArray)++r1.toStr):ByteArray)++(mk [32]))+ag r2.toStr<=9223372036854775807)<|.ai (ag (((((((((((mk [40]):ByteArray)++(⟨(bytesOf [[.v (.int .u8 ((a0.deref.hA).toInt))]]).toArray⟩)):ByteArray)++(mk [32])):ByteArray)++r1.toStr):ByteArray)++(mk [32])):ByteArray)++r2.toStr)+ag (mk [41])<=9223372036854775807)<|.done 0 [VS (((((((((((((mk [40]):ByteArray)++(⟨(bytesOf [[.v (.int .u8 ((a0.deref.hA).toInt))]]).toArray⟩)):ByteArray)++(mk [32])):ByteArray)++r1.toStr):ByteArray)++(mk [32])):ByteArray)++r2.toStr):ByteArray)++(mk [41]))] [.cells [((o2.hO).cs.getD 0 .any)],.cells [VI (((o2.tail.hO).cs.getD 0 .any).toInt)]]) (.test (((a0.deref.hA).toInt)==(42:Int)) (NZ a0<|NZ a0<|eh (a0.deref.drop 3)<|.call 155 [((a0.deref.drop 3).hA),a1,.gC 155 [none,some 0,some 1],.ref 0 0,.ref 1 0] [.cells [a3_0],.cells [VI a4_0]] fun r3 o3=>.ai ((o3.hO)=.cells (o3.hO).cs)<|.ai (aL [.lk .sl] ((o3.hO).cs) 0 1 o3.tail)<|.ai ((o3.tail.hO)=.cells (o3.tail.hO).cs)<|.ai (aL [.lk (.int .i64)] ((o3.tail.hO).cs) 0 2 o3.tail.tail)<|NS r3<|NZ a0<|NZ a0<|.ai (LK.has (.int .u8) (a0.deref.hA)/\1<=a0.deref.length)<|.ai (jC [[.v (.int .u8 ((a0.deref.hA).toInt))]])<|.ai (ag (mk [40])+ag (⟨(bytesOf [[.v (.int .u8 ((a0.deref.hA).toInt))]]).toArray⟩)<=9223372036854775807)<|.ai (ag (((mk [40]):ByteArray)++(⟨(bytesOf [[.v (.int .u8 ((a0.deref.hA).toInt))]]).toArray⟩))+ag (mk [32])<=9223372036854775807)<|.ai (ag (((((mk [40]):ByteArray)++(⟨(bytesOf [[.v (.int .u8 ((a0.deref.hA).toInt))]]).toArray⟩)):ByteArray)++(mk [32]))+ag r3.toStr<=9223372036854775807)<|.ai (ag (((((((mk [40]):ByteArray)++(⟨(bytesOf [[.v (.int .u8 ((a0.deref.hA).toInt))]]).toArray⟩)):ByteArray)++(mk [32])):ByteArray)++r3.toStr)+ag (mk [32])<=9223372036854775807)<|NZ a0<|NZ a0<|eh (a0.deref.drop 4)<|.call 155 [((a0.deref.drop 4).hA),a1,.gC 155 [none,some 0,some 1],.ref 0 0,.ref 1 0] [.cells [((o3.hO).cs.getD 0 .any)],.cells [VI (((o3.tail.hO).cs.getD 0 .any).toInt)]] fun r4 o4=>.ai ((o4.hO)=.cells (o4.hO).cs)<|.ai (aL [.lk .sl] ((o4.hO).cs) 0 1 o4.tail)<|.ai ((o4.tail.hO)=.cells (o4.tail.hO).cs)<|.ai (aL [.lk (.int .i64)] ((o4.tail.hO).cs) 0 2 o4.tail.tail)<|NS r4<|.ai (ag (((((((((mk [40]):ByteArray)++(⟨(bytesOf [[.v (.int .u8 ((a0.deref.hA).toInt))]]).toArray⟩)):ByteArray)++(mk [32])):ByteArray)++r3.toStr):ByteArray)++(mk [32]))+ag r4.toStr<=9223372036854775807)<|.ai (ag (((((((((((mk [40]):ByteArray)++(⟨(bytesOf [[.v (.int .u8 ((a0.deref.hA).toInt))]]).toArray⟩)):ByteArray)++(mk [32])):ByteArray)++r3.toStr):ByteArray)++(mk [32])):ByteArray)++r4.toStr)+ag (mk [41])<=9223372036854775807)<|.done 0 [VS (((((((((((((mk [40]):ByteArray)++(⟨(bytesOf [[.v (.int .u8 ((a0.deref.hA).toInt))]]).toArray⟩)):ByteArray)++(mk [32])):ByteArray)++r3.toStr):ByteArray)++(mk [32])):ByteArray)++r4.toStr):ByteArray)++(mk [41]))] [.cells [((o4.hO).cs.getD 0 .any)],.cells [VI (((o4.tail.hO).cs.getD 0 .any).toInt)]]) (.test (((a0.deref.hA).toInt)==(114:Int)) (.loop MI Gr [a0,a1,VS (mk [])] [.cells [a3_0],.cells [VI a4_0]] (fun y8 q8=>NP (y8.hA)<|NL (y8.tail.hA)<|NS (y8.tail.tail.hA)<|.ai ((q8.hO)=.cells (q8.hO).cs)<|.ai (ae [.lk .sl] ((q8.hO).cs) 0 q8.tail)<|.ai (((q8.tail.drop 0).hO)=.cells ((q8.tail.drop 0).hO).cs)<|.ai (ae [.lk (.int .i64)] (((q8.tail.drop 0).hO).cs) 0 ((q8.tail.drop 0).tail))<|.ai (ag (mk [40,114,101,99,32])+ag ((y8.tail.tail.hA).toStr)<=9223372036854775807)<|.ai (ag (((mk [40,114,101,99,32]):ByteArray)++((y8.tail.tail.hA).toStr))+ag (mk [32])<=9223372036854775807)<|NZ (y8.hA)<|NZ (y8.hA)<|eh ((y8.hA).deref.drop 3)<|.ai (LK.has .sl (y8.tail.hA)/\cF 1 ((y8.tail.hA).elems)/\((([]:List (List AV)).length)+((y8.tail.hA).elems).length)*16<=140737488355328)<|.ai (cF 1 [[VS ((y8.tail.tail.hA).toStr)]]/\(((([]:List (List AV))++((y8.tail.hA).elems)).length)+([[VS ((y8.tail.tail.hA).toStr)]]:List (List AV)).length)*16<=140737488355328)<|.call 155 [(((y8.hA).deref.drop 3).hA),.sl ((([]:List (List AV))++((y8.tail.hA).elems))++([[VS ((y8.tail.tail.hA).toStr)]]:List (List AV))),.gC 155 [none,some 0,some 1],.ref 0 0,.ref 1 0] [.cells [((q8.hO).cs.getD 0 .any)],.cells [VI (((q8.tail.hO).cs.getD 0 .any).toInt)]] fun r9 o9=>.ai ((o9.hO)=.cells (o9.hO).cs)<|.ai (aL [.lk .sl] ((o9.hO).cs) 0 1 o9.tail)<|.ai ((o9.tail.hO)=.cells (o9.tail.hO).cs)<|.ai (aL [.lk (.int .i64)] ((o9.tail.hO).cs) 0 2 o9.tail.tail)<|NS r9<|.ai (ag (((((mk [40,114,101,99,32]):ByteArray)++((y8.tail.tail.hA).toStr)):ByteArray)++(mk [32]))+ag r9.toStr<=9223372036854775807)<|.ai (ag (((((((mk [40,114,101,99,32]):ByteArray)++((y8.tail.tail.hA).toStr)):ByteArray)++(mk [32])):ByteArray)++r9.toStr)+ag (mk [41])<=9223372036854775807)<|.done 0 [VS (((((((((mk [40,114,101,99,32]):ByteArray)++((y8.tail.tail.hA).toStr)):ByteArray)++(mk [32])):ByteArray)++r9.toStr):ByteArray)++(mk [41]))] [.cells [((o9.hO).cs.getD 0 .any)],.cells [VI (((o9.tail.hO).cs.getD 0 .any).toInt)]]) (fun y8 q8=>.ai ((q8.hO)=.cells (q8.hO).cs)<|.ai (ae [.lk .sl] ((q8.hO).cs) 0 q8.tail)<|.ai (((q8.tail.drop 0).hO)=.cells ((q8.tail.drop 0).hO).cs)<|.ai (ae [.lk (.int .i64)] (((q8.tail.drop 0).hO).cs) 0 ((q8.tail.drop 0).tail))<|.done 0 [.any] [.cells [((q8.hO).cs.getD 0 .any)],.cells [VI (((q8.tail.hO).cs.getD 0 .any).toInt)]])) (NZ a0<|NZ a0<|.ai (LK.has (.int .u8) (a0.deref.hA)/\1<=a0.deref.length)<|.ai (jC [[.v (.int .u8 ((a0.deref.hA).toInt))]])<|.done 0 [VS (⟨(bytesOf [[.v (.int .u8 ((a0.deref.hA).toInt))]]).toArray⟩)] [.cells [a3_0],.cells [VI a4_0]])))))
theorem Io(a0:AV)(a1:AV)(a3_0:AV)(a4_0:Int)(ha0:LK.has .ptr a0)(ha1:LK.has .sl a1)(ha3_0:LK.has .sl a3_0)(h:dq 100 (E5 a0 a1 a3_0 a4_0) R):an Tryz.prog 155 [a0,a1,.gC 155 [none,some 0,some 1],.ref 0 0,.ref 1 0] [.cells [a3_0],.cells [VI a4_0]] R :=
 an.nt (bx (bZ (ah (bP ha3_0) aC)) (bx (bZ (ah (aA _) aC)) cv)) (an.up (ah (bC ha0) (ah (bP ha1) (ah (aA _) (ah (aA _) (ah (aA _) aC))))) (oF JC {mu:=[(2,.sB 155 [none,some 0,some 1]),(3,.one (.obj [.lk .sl])),(4,.one (.obj [.lk (.int .i64)]))],own:=[]} Tryz.f155 h))
def Iq(x0:AV)(x1:AV)(x9:ByteArray)(o0_0:AV)(o1_0:Int):Tree :=
 NP x0<|NL x1<|NS (VS x9)<|.ai (Ob.cells [o0_0]=.cells [o0_0])<|.ai (ae [.lk .sl] [o0_0] 0 [.cells [VI o1_0]])<|.ai (Ob.cells [VI o1_0]=.cells [VI o1_0])<|.ai (ae [.lk (.int .i64)] [VI o1_0] 0 [])<|.test (af x9==af (mk [])) (.call 152 [VI o1_0] [] fun r1 o1=>NS r1<|.ai (ag (mk [116])+ag r1.toStr<=9223372036854775807)<|.done 0 [x0,x1,VS (((mk [116]):ByteArray)++r1.toStr)] [.cells [o0_0],.cells [VI (IntKind.wrap .i64 (o1_0+1))]]) (.call 156 [o0_0,VS x9] [] fun r2 o2=>NB r2<|.test r2.toBool (.call 152 [VI o1_0] [] fun r3 o3=>NS r3<|.ai (ag (mk [116])+ag r3.toStr<=9223372036854775807)<|.done 0 [x0,x1,VS (((mk [116]):ByteArray)++r3.toStr)] [.cells [o0_0],.cells [VI (IntKind.wrap .i64 (o1_0+1))]]) (.done 1 [x0,x1,VS x9] [.cells [o0_0],.cells [VI o1_0]]))
abbrev Dd:=cy Tryz.prog 100 MI Gr
theorem KV(x0:AV)(x1:AV)(x9:ByteArray)(o0_0:AV)(o1_0:Int)(h:j8 100 (Iq x0 x1 x9 o0_0 o1_0) Dd U):Dd [x0,x1,VS x9] [.cells [o0_0],.cells [VI o1_0]] U :=
 gQ JC h
def I8(a0:AV)(a1:ByteArray):Tree :=
 .call 167 [a0,VS a1] [] fun r1 o1=>NI r1<|.done 0 [VB (decide (r1.toInt≥(0:Int)))] []
theorem Q7(a0:AV)(a1:ByteArray)(ha0:LK.has .sl a0)(h:dq 9 (I8 a0 a1) R):an Tryz.prog 156 [a0,VS a1] [] R :=
 uQ (ah (bP ha0) (ah (aA _) aC)) (oQ [] Tryz.f156 h)
def Kf(a0:AV):Tree :=
 .call 168 [a0,.v (.func (.func 150) #[] #[])] [] fun r1 o1=>NI r1<|.done 0 [VB (decide (r1.toInt≥(0:Int)))] []
theorem R2(a0:AV)(ha0:LK.has .sl a0)(h:dq 9 (Kf a0) R):an Tryz.prog 157 [a0,.v (.func (.func 150) #[] #[])] [] R :=
 uQ (ah (bP ha0) (ah (aA _) aC)) (oQ [] Tryz.f157 h)
def Jy(a0:ByteArray):Tree :=
 .test (decide ((ag a0:Int)<(2:Int))) (.done 0 [VB false] []) (.test (decide ((ag a0:Int)>(3:Int))) (.done 0 [VB false] []) (.ai (0<=(0:Int)/\(0:Int)<ag a0)<|.test ((bt a0 0) != (101:Int)) (.done 0 [VB false] []) (.ai (0<=(1:Int)/\(1:Int)<=(ag a0:Int)/\(ag a0:Int)<=(ag a0:Int))<|.call 169 [VS (cr a0 (bI 1) (bI (ag a0:Int))),VS (mk [48,49,50,51,52,53,54,55,56,57])] [] fun r1 o1=>NS r1<|.test (!(af r1.toStr==af (mk []))) (.done 0 [VB false] []) (.test ((ag a0:Int)==(2:Int)) (.done 0 [VB true] []) (.ai (0<=(1:Int)/\(1:Int)<ag a0)<|.done 0 [VB ((bt a0 1) != (48:Int))] [])))))
theorem Sm(a0:ByteArray)(h:dq 30 (Jy a0) R):an Tryz.prog 158 [VS a0] [] R :=
 uQ (ah (aA _) aC) (oQ [] Tryz.f158 h)
def Ow(a0:Int):Tree :=
 .test (decide (a0≥(97:Int))) (.test (decide (a0<=(122:Int))) (.done 0 [VB true] []) (.test (decide (a0≥(48:Int))) (.test (decide (a0<=(57:Int))) (.done 0 [VB true] []) (.test (a0==(42:Int)) (.done 0 [VB true] []) (.done 0 [VB (a0==(43:Int))] []))) (.test (a0==(42:Int)) (.done 0 [VB true] []) (.done 0 [VB (a0==(43:Int))] [])))) (.test (decide (a0≥(48:Int))) (.test (decide (a0<=(57:Int))) (.done 0 [VB true] []) (.test (a0==(42:Int)) (.done 0 [VB true] []) (.done 0 [VB (a0==(43:Int))] []))) (.test (a0==(42:Int)) (.done 0 [VB true] []) (.done 0 [VB (a0==(43:Int))] [])))
theorem P4(a0:Int)(h:dq 25 (Ow a0) R):an Tryz.prog 161 [.v (.int .u8 a0)] [] R :=
 uQ (ah (aA _) aC) (oQ [] Tryz.f161 h)
def Jo(a0:Int):Tree :=
 .test (decide (a0≥(97:Int))) (.test (decide (a0<=(122:Int))) (.done 0 [VB true] []) (.test (decide (a0≥(48:Int))) (.test (decide (a0<=(57:Int))) (.done 0 [VB true] []) (.test (a0==(43:Int)) (.done 0 [VB true] []) (.done 0 [VB (a0==(42:Int))] []))) (.test (a0==(43:Int)) (.done 0 [VB true] []) (.done 0 [VB (a0==(42:Int))] [])))) (.test (decide (a0≥(48:Int))) (.test (decide (a0<=(57:Int))) (.done 0 [VB true] []) (.test (a0==(43:Int)) (.done 0 [VB true] []) (.done 0 [VB (a0==(42:Int))] []))) (.test (a0==(43:Int)) (.done 0 [VB true] []) (.done 0 [VB (a0==(42:Int))] [])))
theorem Qe(a0:Int)(h:dq 25 (Jo a0) R):an Tryz.prog 162 [.v (.int .u8 a0)] [] R :=
 uQ (ah (aA _) aC) (oQ [] Tryz.f162 h)
def Mb(a0:ByteArray)(a1:ByteArray):Tree :=
 .test (decide ((ag a0:Int)≥(1:Int))) (.test (decide ((ag a0:Int)<=(3:Int))) (.ai (0<=(0:Int)/\(0:Int)<=(1:Int)/\(1:Int)<=(ag a0:Int))<|.call 175 [VS a1,VS (cr a0 (bI 0) (bI 1))] [] fun r1 o1=>NB r1<|.test r1.toBool (.ai (0<=(1:Int)/\(1:Int)<=(ag a0:Int)/\(ag a0:Int)<=(ag a0:Int))<|.call 169 [VS (cr a0 (bI 1) (bI (ag a0:Int))),VS (mk [48,49,50,51,52,53,54,55,56,57])] [] fun r2 o2=>NS r2<|.done 0 [VB (af r2.toStr==af (mk []))] []) (.done 0 [VB false] [])) (.done 0 [VB false] [])) (.done 0 [VB false] [])
theorem RO(a0:ByteArray)(a1:ByteArray)(h:dq 25 (Mb a0 a1) R):an Tryz.prog 163 [VS a0,VS a1] [] R :=
 uQ (ah (aA _) (ah (aA _) aC)) (oQ [] Tryz.f163 h)
def EN(a0:AV)(e1_0_0:List (List AV)):Tree :=
 .call 166 [a0,.ref 0 0] [.cells [.vec 1],.vec 1 e1_0_0] fun r1 o1=>.ai ((o1.hO)=.cells (o1.hO).cs)<|.ai (aL [.vec 1] ((o1.hO).cs) 0 1 o1.tail)<|NZ a0<|NZ a0<|eh (a0.deref.drop 3)<|NP ((a0.deref.drop 3).hA)<|.test (!((a0.deref.drop 3).hA).isNil) (NZ a0<|NZ a0<|eh (a0.deref.drop 3)<|.call 165 [((a0.deref.drop 3).hA),.fn 166 [.ref 0 0]] [.cells [.vec 1],.vec 1 ((o1.tail.hO).es)] fun r2 o2=>.ai ((o2.hO)=.cells (o2.hO).cs)<|.ai (aL [.vec 1] ((o2.hO).cs) 0 1 o2.tail)<|NZ a0<|NZ a0<|eh (a0.deref.drop 4)<|NP ((a0.deref.drop 4).hA)<|.test (!((a0.deref.drop 4).hA).isNil) (NZ a0<|NZ a0<|eh (a0.deref.drop 4)<|.call 165 [((a0.deref.drop 4).hA),.fn 166 [.ref 0 0]] [.cells [.vec 1],.vec 1 ((o2.tail.hO).es)] fun r3 o3=>.ai ((o3.hO)=.cells (o3.hO).cs)<|.ai (aL [.vec 1] ((o3.hO).cs) 0 1 o3.tail)<|.done 0 [.any] [.cells [.vec 1],.vec 1 ((o3.tail.hO).es)]) (.done 0 [.any] [.cells [.vec 1],.vec 1 ((o2.tail.hO).es)])) (NZ a0<|NZ a0<|eh (a0.deref.drop 4)<|NP ((a0.deref.drop 4).hA)<|.test (!((a0.deref.drop 4).hA).isNil) (NZ a0<|NZ a0<|eh (a0.deref.drop 4)<|.call 165 [((a0.deref.drop 4).hA),.fn 166 [.ref 0 0]] [.cells [.vec 1],.vec 1 ((o1.tail.hO).es)] fun r4 o4=>.ai ((o4.hO)=.cells (o4.hO).cs)<|.ai (aL [.vec 1] ((o4.hO).cs) 0 1 o4.tail)<|.done 0 [.any] [.cells [.vec 1],.vec 1 ((o4.tail.hO).es)]) (.done 0 [.any] [.cells [.vec 1],.vec 1 ((o1.tail.hO).es)]))
theorem wO(a0:AV)(e1_0_0:List (List AV))(ha0:LK.has .ptr a0)(h:dq 29 (EN a0 e1_0_0) R):an Tryz.prog 165 [a0,.fn 166 [.ref 0 0]] [.cells [.vec 1],.vec 1 e1_0_0] R :=
 an.nt (bx (bZ (ah (aA _) aC)) (bx (fE _) cv)) (an.up (ah (bC ha0) (ah (aA _) aC)) (oF [] {mu:=[(1,.fn [some (.obj [.vec 1])])],own:=[]} Tryz.f165 h))
def Hh(a0:AV)(e1_0:List (List AV)):Tree :=
 NZ a0<|NZ a0<|.ai (LK.has (.int .u8) (a0.deref.hA)/\1<=a0.deref.length)<|.test (((a0.deref.hA).toInt)==(110:Int)) (NZ a0<|NZ a0<|kI (a0.deref.drop 1)<|.call 156 [.sl e1_0,VS (((a0.deref.drop 1).hA).toStr)] [] fun r1 o1=>NB r1<|.test (!r1.toBool) (NZ a0<|NZ a0<|kI (a0.deref.drop 1)<|.ai (cF 1 [[VS (((a0.deref.drop 1).hA).toStr)]]/\((e1_0.length)+([[VS (((a0.deref.drop 1).hA).toStr)]]:List (List AV)).length)*16<=140737488355328)<|.done 0 [.any] [.cells [.vec 1],.vec 1 (e1_0++([[VS (((a0.deref.drop 1).hA).toStr)]]:List (List AV)))]) (.done 0 [.any] [.cells [.vec 1],.vec 1 e1_0])) (.done 0 [.any] [.cells [.vec 1],.vec 1 e1_0])
theorem Sd(a0:AV)(e1_0:List (List AV))(ha0:LK.has .ptr a0)(h:dq 24 (Hh a0 e1_0) R):an Tryz.prog 166 [a0,.ref 0 0] [.cells [.vec 1],.vec 1 e1_0] R :=
 an.nt (bx (bZ (ah (aA _) aC)) (bx (fE _) cv)) (an.up (ah (bC ha0) (ah (aA _) aC)) (oF [] {mu:=[(1,.one (.obj [.vec 1]))],own:=[]} Tryz.f166 h))
def HB:LI:={hd:={bS:=[(0,.k .sl),(1,.k .str),(7,.k (.int .i64)),(8,.k (.int .i64))]},xs:={},rt:={bS:=[(4,.k (.int .i64))]},ex:=0}
def Ka:Code:=cE (cz Tryz.f167) 2
def LC:List (Nat×LI):=[(2,HB)]
def OT(a0:AV)(a1:ByteArray):Tree :=
 NL a0<|.loop Ka HB [a0,VS a1,VI (a0.elems.length:Int),VI 0] [] (fun y1 q1=>.done 0 [VI (-1)] []) (fun y1 q1=>NI (y1.hA)<|.done 0 [VI ((y1.hA).toInt)] [])
theorem QX(a0:AV)(a1:ByteArray)(ha0:LK.has .sl a0)(h:dq 19 (OT a0 a1) R):an Tryz.prog 167 [a0,VS a1] [] R :=
 uQ (ah (bP ha0) (ah (aA _) aC)) (oQ LC Tryz.f167 h)
def GA(x0:AV)(x1:ByteArray)(x7:Int)(x8:Int):Tree :=
 NL x0<|NS (VS x1)<|NI (VI x7)<|NI (VI x8)<|.test (decide (x8<x7)) (NG x0 x8 1<|kI (x0.ix x8)<|.test (af x1==af (((x0.ix x8).hA).toStr)) (.done 2 [VI x8] []) (.done 0 [x0,VS x1,VI x7,VI (IntKind.wrap .i64 (x8+1))] [])) (.done 1 [] [])
abbrev Hz:=cy Tryz.prog 19 Ka HB
theorem Kb(x0:AV)(x1:ByteArray)(x7:Int)(x8:Int)(h:j8 19 (GA x0 x1 x7 x8) Hz U):Hz [x0,VS x1,VI x7,VI x8] [] U :=
 gQ LC h
def GV:LI:={hd:={bS:=[(0,.k .sl),(1,.c (.func (.func 150) #[] #[])),(7,.k (.int .i64)),(8,.k (.int .i64))]},xs:={},rt:={bS:=[(4,.k (.int .i64))]},ex:=0}
def J8:Code:=cE (cz Tryz.f168) 2
def MX:List (Nat×LI):=[(2,GV)]
def Nv(a0:AV):Tree :=
 NL a0<|.loop J8 GV [a0,.v (.func (.func 150) #[] #[]),VI (a0.elems.length:Int),VI 0] [] (fun y2 q2=>.done 0 [VI (-1)] []) (fun y2 q2=>NI (y2.hA)<|.done 0 [VI ((y2.hA).toInt)] [])
theorem SH(a0:AV)(ha0:LK.has .sl a0)(h:dq 19 (Nv a0) R):an Tryz.prog 168 [a0,.v (.func (.func 150) #[] #[])] [] R :=
 uQ (ah (bP ha0) (ah (aA _) aC)) (oQ MX Tryz.f168 h)
def Hq(x0:AV)(x7:Int)(x8:Int):Tree :=
 NL x0<|.ai (AV.v (.func (.func 150) #[] #[])=.v (.func (.func 150) #[] #[]))<|NI (VI x7)<|NI (VI x8)<|.test (decide (x8<x7)) (NG x0 x8 1<|kI (x0.ix x8)<|.call 150 [VS (((x0.ix x8).hA).toStr)] [] fun r1 o1=>NB r1<|.test r1.toBool (.done 2 [VI x8] []) (.done 0 [x0,.v (.func (.func 150) #[] #[]),VI x7,VI (IntKind.wrap .i64 (x8+1))] [])) (.done 1 [] [])
abbrev HI:=cy Tryz.prog 19 J8 GV
theorem OV(x0:AV)(x7:Int)(x8:Int)(h:j8 19 (Hq x0 x7 x8) HI U):HI [x0,.v (.func (.func 150) #[] #[]),VI x7,VI x8] [] U :=
 gQ MX h
end
end Go.Proofs.Trees
namespace Go.Proofs.Trees
open Go Go.VL
theorem bA(i:Nat)(h:i<1000000000000):IntKind.wrap .i64 ((i:Int)+1)=((i+1:Nat):Int):=by rw[wrap64]<;>omega
inductive E where
 |atom (s:List UInt8)
 |list (l:List E)
mutual
def E.cB:E->AV
 | .atom s=>.ptr [.v (.string (mk s)),.v (.slice none 0 0)]
 | .list l=>.ptr [.v (.string (mk [])),.sl (E.mi l)]
def E.mi:List E->List (List AV)
 |[]=>[]
 |e::l=>[e.cB]::E.mi l
end
mutual
def E.ik:E->List AV
 | .atom s=>[.v (.string (mk s)),.v (.slice none 0 0)]
 | .list l=>[.v (.string (mk [])),.sl (E.bw l)]
def E.bw:List E->List (List AV)
 |[]=>[]
 |e::l=>e.ik::E.bw l
end
def E.kG(e:E):AV:=.agg e.ik
theorem vw(l r:List E):E.mi (l++r)=E.mi l++E.mi r:=by
 induction l with
 |nil=>rfl
 |cons e l ih=>simp[E.mi,ih]
theorem qg(l r:List E):E.bw (l++r)=E.bw l++E.bw r:=by
 induction l with
 |nil=>rfl
 |cons e l ih=>simp[E.bw,ih]
theorem sc(l:List E):(E.mi l).length=l.length:=by
 induction l with
 |nil=>rfl
 |cons e l ih=>simp[E.mi,ih]
theorem ef(l:List E):(E.bw l).length=l.length:=by
 induction l with
 |nil=>rfl
 |cons e l ih=>simp[E.bw,ih]
def fe(b:UInt8):Bool:=decide ((97<=b.toNat/\b.toNat<=122)\/(48<=b.toNat/\b.toNat<=57)\/b.toNat=43\/b.toNat=42)
def ss(f:List UInt8->Option (E×List UInt8)):Nat->List UInt8->List E->Option (E×List UInt8)
 |0,_,_=>none
 |
  n+1,s,acc=>match f s with
  |some (p,c::r)=>if c.toNat=41 then some (.list (acc++[p]),r)else if c.toNat=32 then ss f n r (acc++[p])else none
  |_=>none
def rd:Nat->List UInt8->Option (E×List UInt8)
 |0,s=>if s.takeWhile fe=[]then none else some (.atom (s.takeWhile fe),s.dropWhile fe)
 |k+1,s=>if s.takeWhile fe=[]then(match s with
  |c::r=>if c.toNat=40 then ss (rd k) (r.length+1) r []else none
  |[]=>none)else some (.atom (s.takeWhile fe),s.dropWhile fe)
theorem AQ{f:List UInt8->Option (E×List UInt8)}(hf:∀s e r,f s=some (e,r)->r.length<s.length):∀(n:Nat) (s:List UInt8) (acc:List E) (e:E) (r:List UInt8),ss f n s acc=some (e,r)->r.length<s.length
 |0,s,acc,e,r,h=>by cases h
 |
  n+1,s,acc,e,r,h=>by
  simp only[ss]at h
  split at h
  ·rename_i p c r' hs
   have:=hf _ _ _ hs
   simp only[az]at this
   split at h
   ·cases h;omega
   ·split at h
    ·have:=AQ hf n _ _ _ _ h;omega
    ·cases h
  ·cases h
theorem oT{s:List UInt8}(h:¬s.takeWhile fe=[]):(s.dropWhile fe).length<s.length:=by
 have h1:=congrArg List.length (List.takeWhile_append_dropWhile (p:=fe) (l:=s))
 simp only[aq]at h1
 have:0<(s.takeWhile fe).length:=List.length_pos_iff.2 h
 omega
theorem yW:∀(k:Nat) (s:List UInt8) (e:E) (r:List UInt8),rd k s=some (e,r)->r.length<s.length
 |
  0,s,e,r,h=>by
  simp only[rd]at h
  split at h
  ·cases h
  ·rename_i hn;cases h;exact oT hn
 |
  k+1,s,e,r,h=>by
  simp only[rd]at h
  split at h
  ·split at h
   ·split at h
    ·have:=AQ (yW k) _ _ _ _ _ h
     simp only[az];omega
    ·cases h
   ·cases h
  ·rename_i hn;cases h;exact oT hn
theorem Q3(b:UInt8):an Tryz.prog 162 [.v (.int .u8 (b.toNat:Int))] [] (bJ (.v (.bool (fe b)))):=by
 refine Qe _ ?_
 simp only[Jo,↓zq,zs,ae,bJ,fe]
 repeat' (apply aH<;>intro _)
 all_goals first|(congr 2;rw[cx];simp;omega)|(congr 2;simp;omega)
theorem yq{s:List UInt8}{i:Nat}(hi:i<s.length)(hb:fe (s.getD i 0)=true):((s.drop i).takeWhile fe).length=((s.drop (i+1)).takeWhile fe).length+1:=by
 have e:s.drop i=s.getD i 0::s.drop (i+1):=by
  rw[aT hi];simp[aa,hi]
 rw[e,List.takeWhile_cons_of_pos hb];simp
theorem qW{s:List UInt8}{i:Nat}(hi:i<s.length)(hb:fe (s.getD i 0)=false):(s.drop i).takeWhile fe=[]:=by
 have e:s.drop i=s.getD i 0::s.drop (i+1):=by
  rw[aT hi];simp[aa,hi]
 rw[e,List.takeWhile_cons_of_neg (by rw[hb];simp)]
theorem Ix(s:List UInt8)(hs:s.length<=8000)(d:Int):∀(k i:Nat),i+k=s.length->HC [.v (.string (mk s)),.v (.int .i64 d),.v (.int .i64 (i:Int))] [] (ib 1 [.v (.string (mk s)),.v (.int .i64 d),.v (.int .i64 ((i+((s.drop i).takeWhile fe).length:Nat):Int))] [])
 |
  0,i,hi=>by
  refine Lv _ _ _ ?_
  have hd:s.drop i=[]:=bV (by omega)
  simp only[Hf,↓zq,zs,ae,zt]
  exact⟨fun h=>by omega,fun _=>by simp[ib,hd]⟩
 |
  k+1,i,hi=>by
  have hlt:i<s.length:=by omega
  refine Lv _ _ _ ?_
  simp only[Hf,↓zq,zs,ae,zt,mg s i hlt]
  refine⟨fun _=>⟨by omega,?_⟩,fun h=>by omega⟩
  refine aj (Q3 _) ?_
  simp only[↓zq,zs,ae]
  refine⟨fun hb=>?_,fun hb=>?_⟩
  ·rw[bA i (by omega)]
   have:=Ix s hs d k (i+1) (by omega)
   rw[yq hlt hb,show i+(((s.drop (i+1)).takeWhile fe).length+1)=i+1+((s.drop (i+1)).takeWhile fe).length by omega]
   exact this
  ·simp[ib,qW hlt hb]
def oG(s:List UInt8):Option (E×List UInt8)->AV
 |some (e,r)=>.cI [e.cB,.v (.string (mk r))]
 |none=>.cI [.v (.pointer none),.v (.string (mk s))]
theorem cV(e:E):LK.has .ptr e.cB=True:=by cases e<;>simp[E.cB,cg]
theorem ep(e:E):e.cB.isNil=false:=by cases e<;>rfl
theorem uR(s:List UInt8):s.take (s.takeWhile fe).length=s.takeWhile fe:=by
 have h:=List.takeWhile_append_dropWhile (p:=fe) (l:=s)
 have:(s.takeWhile fe++s.dropWhile fe).take (s.takeWhile fe).length=s.takeWhile fe:=List.take_left
 rw[h]at this;exact this
theorem xL(s:List UInt8):s.drop (s.takeWhile fe).length=s.dropWhile fe:=by
 have h:=List.takeWhile_append_dropWhile (p:=fe) (l:=s)
 have:(s.takeWhile fe++s.dropWhile fe).drop (s.takeWhile fe).length=s.dropWhile fe:=List.drop_left
 rw[h]at this;exact this
theorem Cw(c:UInt8)(r:List UInt8):(List.take (r.length+1) (c::r)).drop (bI 1)=r:=by simp
theorem I9(s0:List UInt8)(k:Nat)(hk:k<300)(ih:∀s,s.length<=8000->an Tryz.prog 148 [.v (.string (mk s)),.v (.int .i64 ((300-k:Nat):Int))] [] (bJ (oG s (rd k s)))) :
 ∀(n:Nat) (s:List UInt8) (acc:List E),s.length<n->s.length+acc.length<=8000->Ff [.v (.string (mk s0)),.v (.int .i64 ((300-(k+1):Nat):Int)),.v (.string (mk s))] [.cells [.v (.string (mk [])),.any],.vec 1 (E.mi acc)]
  (ng (match ss (rd k) n s acc with|some (e,r)=>(2,[e.cB,.v (.string (mk r))],[])|none=>(2,[.v (.pointer none),.v (.string (mk s0))],[])))
 |0,s,acc,hn,_=>by omega
 |
  n+1,s,acc,hn,hl=>by
  refine QG _ _ _ _ _ ?_
  simp only[Ng,↓zq,zs,ae,CC]
  have hd:IntKind.wrap .i64 (((300-(k+1):Nat):Int)+1)=((300-k:Nat):Int):=by rw[wrap64]<;>omega
  rw[hd]
  refine aj (ih s (by omega)) ?_
  have hlt:=yW k s
  cases hr:rd k s with
  |
   none =>
   simp only[oG,↓zq,zs,ae,ss,hr]
   simp[ng]
  |
   some q =>
   obtain⟨e,r⟩:=q
   have:=hlt e r hr
   cases r with
   |
    nil =>
    simp only[oG,↓zq,zs,ae,zt,ss,hr,cV,ep]
    simp[ng]
   |
    cons c r =>
    simp only[az]at this
    have hb:=mg (c::r) 0 (by simp)
    simp only[Int.ofNat_eq_natCast,Int.cast_ofNat_Int]at hb
    have e2:(List.take (c::r).length (c::r)).drop 1=r:=by simp
    simp only[oG,↓zq,zs,ae,zt,ss,hr,cV,ep,hb,e2,sc]
    refine⟨fun h=>(by cases h),fun _=>⟨fun h=>(by cases h),fun _=>⟨⟨fun c hc=>(by simp at hc;rw[hc];rfl),by omega⟩,by omega,by omega,fun h41=>?_,fun h41=>⟨by omega,fun h32=>?_,fun h32=>?_⟩⟩⟩⟩
    ·have h41':c.toNat=41:=by omega
     rw[Cw,if_pos h41']
     simp[ng,E.cB,vw,E.mi]
    ·have h41':¬c.toNat=41:=by omega
     have h32':¬c.toNat=32:=by omega
     rw[if_neg h41',if_neg h32']
    ·have h41':¬c.toNat=41:=by omega
     have h32':c.toNat=32:=by omega
     rw[Cw,if_neg h41',if_pos h32']
     have:=I9 s0 k hk ih n r (acc++[e]) (by omega) (by simp;omega)
     simpa[vw,E.mi]using this
theorem Qg:∀(k:Nat),k<=300->∀s:List UInt8,s.length<=8000->an Tryz.prog 148 [.v (.string (mk s)),.v (.int .i64 ((300-k:Nat):Int))] [] (bJ (oG s (rd k s))):=by
 intro k
 induction k with
 |
  zero =>
  intro hk s hs
  refine KL _ _ ?_
  unfold Gb
  refine cD (Ix s hs _ s.length 0 (by omega)) ?_
  simp only[↓zq,zs,ae,zt,aV,bJ]
  have hw:(s.takeWhile fe).length<=s.length:=by
   have:=congrArg List.length (List.takeWhile_append_dropWhile (p:=fe) (l:=s))
   simp only[aq]at this;omega
  refine⟨fun h=>⟨by omega,by omega,?_⟩,fun h=>?_⟩
  ·have hne:¬s.takeWhile fe=[]:=fun e=>by rw[e]at h;simp at h
   simp only[rd,if_neg hne,oG,E.cB,uR,xL]
  ·have hnil:s.takeWhile fe=[]:=bQ (by omega)
   simp only[rd,if_pos hnil,oG]
   refine⟨fun _=>trivial,fun hne=>⟨?_,?_⟩⟩
   ·cases s with
    |nil=>exact absurd rfl hne
    |cons c s=>simp
   ·exact⟨fun _=>trivial,fun _=>⟨fun _=>trivial,fun h=>absurd rfl h⟩⟩
 |
  succ k ih =>
  intro hk s hs
  refine KL _ _ ?_
  unfold Gb
  refine cD (Ix s hs _ s.length 0 (by omega)) ?_
  simp only[↓zq,zs,ae,zt,aV,bJ]
  have hw:(s.takeWhile fe).length<=s.length:=by
   have:=congrArg List.length (List.takeWhile_append_dropWhile (p:=fe) (l:=s))
   simp only[aq]at this;omega
  refine⟨fun h=>⟨by omega,by omega,?_⟩,fun h=>?_⟩
  ·have hne:¬s.takeWhile fe=[]:=fun e=>by rw[e]at h;simp at h
   simp only[rd,if_neg hne,oG,E.cB,uR,xL]
  ·have hnil:s.takeWhile fe=[]:=bQ (by omega)
   simp only[rd,if_pos hnil]
   cases s with
   |nil=>simp[oG]
   |
    cons c s =>
    have hb:=mg (c::s) 0 (by simp)
    simp only[Int.ofNat_eq_natCast,Int.cast_ofNat_Int]at hb
    simp only[az]at hs
    simp only[↓zq,zs,ae,hb,Cw]
    refine⟨fun h=>(by cases h),fun _=>⟨by omega,fun h40=>?_,fun h40=>⟨fun h300=>?_,fun h300=>⟨by omega,?_⟩⟩⟩⟩
    ·have:¬c.toNat=40:=by omega
     rw[if_neg this];rfl
    ·omega
    ·have h40':c.toNat=40:=by omega
     rw[if_pos h40']
     refine eN (I9 (c::s) k (by omega) (ih (by omega)) (s.length+1) s [] (by omega) (by simp;omega)) (fun ys o e=>?_) (fun ys o e=>?_)
     ·split at e<;>cases e
     ·split at e<;>cases e
      ·rename_i e' r' hr
       simp only[↓zq,zs,ae,cV]
       simp only[hr,oG]
      ·rename_i hr
       simp only[↓zq,zs,ae]
       simp only[hr,oG]
end Go.Proofs.Trees
namespace Go.Proofs.Trees
open Go Go.VL
mutual
def E.sz:E->Nat
 | .atom _=>1
 | .list l=>1+E.jo l
def E.jo:List E->Nat
 |[]=>0
 |e::l=>e.sz+E.jo l
end
mutual
def E.ok:E->Prop
 | .atom s=>s≠[]
 | .list l=>E.C8 l
def E.C8:List E->Prop
 |[]=>True
 |e::l=>e.ok/\E.C8 l
end
theorem zd(l r:List E):E.jo (l++r)=E.jo l+E.jo r:=by
 induction l with
 |nil=>simp[E.jo]
 |cons e l ih=>simp[E.jo,ih];omega
theorem yA(l r:List E):E.C8 (l++r)↔E.C8 l/\E.C8 r:=by
 induction l with
 |nil=>simp[E.C8]
 |cons e l ih=>simp[E.C8,ih,and_assoc]
theorem AS{f:List UInt8->Option (E×List UInt8)}(hf:∀s e r,f s=some (e,r)->e.ok/\e.sz+r.length<=s.length):∀(n:Nat) (s:List UInt8) (acc:List E) (e:E) (r:List UInt8),ss f n s acc=some (e,r)->E.C8 acc->e.ok/\e.sz+r.length<=s.length+1+E.jo acc
 |0,s,acc,e,r,h,_=>by cases h
 |
  n+1,s,acc,e,r,h,ha=>by
  simp only[ss]at h
  split at h
  ·rename_i p c r' hs
   obtain⟨h1,h2⟩:=hf _ _ _ hs
   simp only[az]at h2
   split at h
   ·cases h
    refine⟨(yA _ _).2 ⟨ha,h1,trivial⟩,?_⟩
    simp only[E.sz,zd,E.jo];omega
   ·split at h
    ·have:=AS hf n _ _ _ _ h ((yA _ _).2 ⟨ha,h1,trivial⟩)
     refine⟨this.1,?_⟩
     have h3:=this.2
     simp only[zd,E.jo]at h3;omega
    ·cases h
  ·cases h
theorem uO(s:List UInt8):(s.takeWhile fe).length+(s.dropWhile fe).length=s.length:=by
 have:=congrArg List.length (List.takeWhile_append_dropWhile (p:=fe) (l:=s))
 simpa only[aq]using this
theorem E2:∀(k:Nat) (s:List UInt8) (e:E) (r:List UInt8),rd k s=some (e,r)->e.ok/\e.sz+r.length<=s.length
 |
  0,s,e,r,h=>by
  simp only[rd]at h
  split at h
  ·cases h
  ·rename_i hn;cases h
   have:=uO s
   have:0<(s.takeWhile fe).length:=List.length_pos_iff.2 hn
   exact⟨hn,by simp only[E.sz];omega⟩
 |
  k+1,s,e,r,h=>by
  simp only[rd]at h
  split at h
  ·split at h
   ·split at h
    ·have:=AS (E2 k) _ _ _ _ _ h trivial
     refine⟨this.1,?_⟩
     have h3:=this.2
     simp only[E.jo,az]at h3 |-;omega
    ·cases h
   ·cases h
  ·rename_i hn;cases h
   have:=uO s
   have:0<(s.takeWhile fe).length:=List.length_pos_iff.2 hn
   exact⟨hn,by simp only[E.sz];omega⟩
def qJ(s:List UInt8):Option E:=if s.length>8000 then none else match rd 300 s with|some (e,[])=>some e|_=>none
theorem nI{s:List UInt8}{e:E}(h:qJ s=some e):e.ok/\e.sz<=8000:=by
 unfold qJ at h
 split at h
 ·cases h
 ·split at h
  ·rename_i e' hr
   cases h
   have:=E2 _ _ _ _ hr
   exact⟨this.1,by have:=this.2;simp at this;omega⟩
  ·cases h
def uA:Option E->AV
 |some e=>e.cB
 |none=>.v (.pointer none)
theorem LG(s:List UInt8):an Tryz.prog 129 [.v (.string (mk s))] [] (bJ (uA (qJ s))):=by
 refine PM _ ?_
 simp only[Mi,↓zq,zs,ae,zt,bJ,qJ]
 refine⟨fun h=>?_,fun h=>?_⟩
 ·rw[if_pos (by omega)];simp[uA]
 ·rw[if_neg (by omega)]
  refine aj (Qg 300 (by omega) s (by omega)) ?_
  cases hr:rd 300 s with
  |
   none =>
   simp only[oG,↓zq,zs,ae,zt,uA]
   refine⟨fun _=>trivial,fun _=>trivial⟩
  |
   some q =>
   obtain⟨e,r⟩:=q
   cases r with
   |nil=>simp only[oG,↓zq,zs,ae,zt,uA,cV];simp
   |cons c r=>simp only[oG,↓zq,zs,ae,zt,uA,cV];simp
def hZ(b:UInt8):Bool:=decide (48<=b.toNat/\b.toNat<=57)
def named(lo hi:Nat):List UInt8->Bool
 |[]=>false
 |c::r=>decide (r.length<=2)&&decide (lo<=c.toNat/\c.toNat<=hi)&&r.all hZ
def gX(s:List UInt8):Bool:=named 120 122 s
def di(s:List UInt8):Bool:=named 116 116 s
def CL(v lo hi:Int):Bool:=decide (lo<=v/\v<=hi)
theorem AN(v lo hi:Int):an Tryz.prog 45 [.v (.int .i64 v),.v (.int .i64 lo),.v (.int .i64 hi)] [] (bJ (.v (.bool (CL v lo hi)))):=by
 refine P5 _ _ _ ?_
 simp only[J6,↓zq,zs,ae,bJ,CL]
 constructor<;>intro h<;>simp at h<;>simp[h]
 omega
theorem Ni(s:List UInt8)(hs:s.length<=3):∀(k i:Nat),i+k=s.length->HK [.v (.string (mk s)),.v (.int .i64 (i:Int))] [] (ng (if(s.drop i).all hZ=true then(1,[],[])else(2,[.v (.bool false)],[])))
 |
  0,i,hi=>by
  have hd:s.drop i=[]:=bV (by omega)
  refine N1 _ _ ?_
  simp only[FY,↓zq,zs,ae,zt]
  exact⟨fun h=>by omega,fun _=>by simp[ng,hd]⟩
 |
  k+1,i,hi=>by
  have hlt:i<s.length:=by omega
  have e:s.drop i=s.getD i 0::s.drop (i+1):=by
   rw[aT hlt];simp[aa,hlt]
  refine N1 _ _ ?_
  simp only[FY,↓zq,zs,ae,zt,mg s i hlt,e,cZ]
  generalize hb:s.getD i 0=b
  refine⟨fun _=>⟨by omega,fun h=>?_,fun h=>⟨by omega,fun h2=>?_,fun h2=>?_⟩⟩,fun h=>by omega⟩
  ·have:hZ b=false:=by simp[hZ];omega
   simp only[this,zf,ng]
  ·have:hZ b=false:=by simp[hZ];omega
   simp only[this,zf,ng]
  ·have:hZ b=true:=by simp[hZ];omega
   rw[bA i (by omega),this,bX]
   exact Ni s hs k (i+1) (by omega)
theorem MD(s:List UInt8)(lo hi:Nat):an Tryz.prog 119 [.v (.string (mk s)),.v (.int .u8 (lo:Int)),.v (.int .u8 (hi:Int))] [] (bJ (.v (.bool (named lo hi s)))):=by
 refine Sf _ _ _ ?_
 unfold Jm
 rw[cM]
 refine aj (AN _ _ _) ?_
 simp only[↓zq,zs,ae,zt,bJ]
 refine⟨fun h=>?_,fun h=>?_⟩
 ·cases s with
  |nil=>rfl
  |
   cons c s =>
   simp[CL]at h
   have:¬s.length<=2:=by omega
   simp[named,this]
 ·cases s with
  |nil=>simp[CL]at h
  |
   cons c s =>
   simp[CL]at h
   have hl:s.length<=2:=by omega
   have hb:=mg (c::s) 0 (by simp)
   simp only[Int.ofNat_eq_natCast,Int.cast_ofNat_Int]at hb
   simp only[↓zq,zs,ae,hb]
   refine⟨by omega,fun h1=>?_,fun h1=>⟨by omega,fun h2=>?_,fun h2=>?_⟩⟩
   ·have:¬lo<=c.toNat:=by omega
    simp[named,this]
   ·have:¬c.toNat<=hi:=by omega
    simp[named,this]
   ·refine eN (Ni (c::s) (by simp;omega) s.length 1 (by simp;omega)) (fun ys o e=>?_) (fun ys o e=>?_)
    ·split at e<;>cases e
     rename_i ha
     simp at ha
     simp only[↓zq,zs,ae]
     simp[named,hl]
     exact⟨⟨by omega,by omega⟩,fun x hx=>by simpa using ha x hx⟩
    ·split at e<;>cases e
     rename_i ha
     simp only[↓zq,zs,ae]
     have:s.all hZ=false:=by simpa using ha
     simp[named,this]
theorem GJ(s:List UInt8):an Tryz.prog 126 [.v (.string (mk s))] [] (bJ (.v (.bool (gX s)))):=by
 refine RQ _ ?_
 unfold JM
 refine aj (MD s 120 122) ?_
 simp only[↓zq,zs,ae,bJ,gX]
theorem HQ(s:List UInt8):an Tryz.prog 85 [.v (.string (mk s))] [] (bJ (.v (.bool (di s)))):=by
 refine SG _ ?_
 unfold KF
 refine aj (MD s 116 116) ?_
 simp only[↓zq,zs,ae,bJ,di]
end Go.Proofs.Trees
namespace Go.Proofs.Trees
open Go Go.VL Go.RowKit
theorem Pw(l:List UInt8)(c:UInt8):an Tryz.prog 175 [.v (.string (mk l)),.v (.string (mk [c]))] [] (bJ (.v (.bool (decide (0<=Lib.indexByte l c))))):=by
 refine an.SS (xs:=[.string (mk l),.string (mk [c])]) ⟨nA,by kernel_rfl,by kernel_rfl,by kernel_rfl⟩ fun w=>?_
 have:=Any.strings_Contains_one Tryz.CY (mk l) c w
 refine Calls.mono this fun e w' ⟨h1,h2⟩=>?_
 rw[h2]
 have hd:(mk l).data.toList=l:=by simp[mk]
 exact⟨by rw[h1,hd],Below.refl _ _⟩
theorem Nd(l cs:List UInt8)(hl:l.length<=1000000)(hc:cs.length<=1000)(ha:∀b,b∈cs->b.toNat<128):an Tryz.prog 169 [.v (.string (mk l)),.v (.string (mk cs))] [] (bJ (.v (.string (mk (Lib.trimS l cs))))):=by
 refine an.SS (xs:=[.string (mk l),.string (mk cs)]) ⟨qz,by kernel_rfl,by kernel_rfl,by kernel_rfl⟩ fun w=>?_
 have:=Any.strings_Trim_laid Tryz.Eo (by kernel_rfl) (mk l) (mk cs) w (by rw[cM];omega) (by rw[cM];omega) (fun j b hj=>ha b (by
  have:(mk cs).data.toList=cs:=by simp[mk]
  rw[this]at hj
  exact List.mem_of_getElem? hj))
 refine Calls.mono this fun e w' ⟨h1,h2⟩=>⟨?_,h2⟩
 rw[h1]
 simp[mk]
theorem nD:∀(l:List UInt8) (c:UInt8),(0<=Lib.indexByte l c↔c∈l)/\-1<=Lib.indexByte l c
 |[],c=>by simp[Lib.indexByte]
 |
  b::l,c=>by
  obtain⟨h1,h2⟩:=nD l c
  unfold Lib.indexByte
  by_cases e:b=c
  ·subst e;simp
  ·have e':(b==c)=false:=by simp[e]
   rw[e']
   by_cases q:Lib.indexByte l c = -1
   ·have:c∉l:=fun h=>by have:=h1.2 h;omega
    simp[q,this,Ne.symm e]
   ·have q':(Lib.indexByte l c==-1)=false:=by simp[q]
    simp only[q',Bool.false_eq_true,if_false,aJ]
    constructor
    ·constructor
     ·intro h;exact .inr (h1.1 (by omega))
     ·intro h
      rcases h with h|h
      ·exact absurd h.symm e
      ·have:=h1.2 h;omega
    ·omega
theorem dropWhile_nil{p:UInt8->Bool}:∀(l:List UInt8),l.dropWhile p=[]↔l.all p=true
 |[]=>by simp
 |
  b::l=>by
  cases h:p b with
  |true=>rw[List.dropWhile_cons_of_pos h,dropWhile_nil l];simp[h]
  |false=>rw[List.dropWhile_cons_of_neg (by rw[h];simp)];simp[h]
theorem sQ(l cs:List UInt8):Lib.trimS l cs=[]↔l.all (cs.contains ·)=true:=by
 unfold Lib.trimS Lib.trimLeftS
 rw[dropWhile_nil]
 unfold Lib.trimRightS
 constructor
 ·intro h
  by_cases hn:l.reverse.dropWhile (cs.contains ·)=[]
  ·rw[dropWhile_nil]at hn
   simpa using hn
  ·exfalso
   rw[List.all_reverse]at h
   obtain⟨b,r,e⟩:=List.exists_cons_of_ne_nil hn
   have h1:cs.contains b=false:=by
    have:=List.head_dropWhile_not (p:=(cs.contains ·)) (l:=l.reverse) hn
    simp only[e,List.head_cons]at this
    exact this
   rw[e]at h
   simp only[cZ,aw]at h
   rw[h1]at h;cases h.1
 ·intro h
  have:l.reverse.dropWhile (cs.contains ·)=[]:=by rw[dropWhile_nil];simpa using h
  rw[this];rfl
def G2:List UInt8:=[48,49,50,51,52,53,54,55,56,57]
theorem wz(b:UInt8):G2.contains b=hZ b:=by
 have:∀n:Fin 256,G2.contains (bg n.val)=hZ (bg n.val):=by decide +kernel
 have:=this ⟨b.toNat,b.toNat_lt⟩
 simpa using this
theorem JO(s ls:List UInt8)(lo hi:Nat)(hls:∀c:UInt8,c∈ls↔lo<=c.toNat/\c.toNat<=hi):an Tryz.prog 163 [.v (.string (mk s)),.v (.string (mk ls))] [] (bJ (.v (.bool (named lo hi s)))):=by
 refine RO _ _ ?_
 simp only[Mb,↓zq,zs,ae,zt,bJ]
 cases s with
 |nil=>exact⟨fun h=>by simp at h,fun _=>rfl⟩
 |
  cons c s =>
  have e1:(List.take (bI 1) (c::s))=[c]:=rfl
  have e2:(List.take (s.length+1) (c::s)).drop (bI 1)=s:=by simp
  simp only[az,e1,e2]
  refine⟨fun _=>⟨fun h3=>⟨by omega,?_⟩,fun h3=>?_⟩,fun h=>by omega⟩
  ·have hl:s.length<=2:=by omega
   refine aj (Pw ls c) ?_
   simp only[↓zq,zs,ae]
   have hi1:=(nD ls c).1
   refine⟨fun h=>⟨by omega,?_⟩,fun h=>?_⟩
   ·refine aj (Nd s G2 (by omega) (by decide) (by decide)) ?_
    simp only[↓zq,zs,ae,zt]
    have hc:=(hls c).1 (hi1.1 h)
    congr 2
    rw[cx,beq_iff_eq,sQ]
    simp only[named,hl,hc,decide_true,bX,and_self]
    have:(fun x=>G2.contains x)=hZ:=funext wz
    rw[this]
   ·have hc:¬(lo<=c.toNat/\c.toNat<=hi):=fun h'=>h (hi1.2 ((hls c).2 h'))
    simp only[named,hc,zf]
  ·have hl:¬s.length<=2:=by omega
   simp only[named,hl,zf]
theorem No(s:List UInt8):an Tryz.prog 149 [.v (.string (mk s))] [] (bJ (.v (.bool (gX s)))):=by
 refine PN _ ?_
 unfold OP
 have h:∀n:Fin 256,(bg n.val∈[(120:UInt8),121,122])↔120<=(bg n.val).toNat/\(bg n.val).toNat<=122:=by decide +kernel
 refine aj (JO s [120,121,122] 120 122 fun c=>by simpa using h ⟨c.toNat,c.toNat_lt⟩) ?_
 simp only[↓zq,zs,ae,bJ,gX]
theorem Db(s:List UInt8):an Tryz.prog 150 [.v (.string (mk s))] [] (bJ (.v (.bool (di s)))):=by
 refine Qi _ ?_
 unfold ON
 have h:∀n:Fin 256,(bg n.val∈[(116:UInt8)])↔116<=(bg n.val).toNat/\(bg n.val).toNat<=116:=by decide +kernel
 refine aj (JO s [116] 116 116 fun c=>by simpa using h ⟨c.toNat,c.toNat_lt⟩) ?_
 simp only[↓zq,zs,ae,bJ,di]
end Go.Proofs.Trees
namespace Go.Proofs.Trees
open Go Go.VL
inductive Ty where
 |zero|one
 |name (s:List UInt8)
 |bound (up:Nat)
 |plus (a b:Ty)
 |times (a b:Ty)
 |rc (a:Ty)
def Ty.av:Ty->AV
 | .zero=>.ptr [.v (.int .u8 48),.v (.string (mk [])),.v (.int .i64 0),.v (.pointer none),.v (.pointer none)]
 | .one=>.ptr [.v (.int .u8 49),.v (.string (mk [])),.v (.int .i64 0),.v (.pointer none),.v (.pointer none)]
 | .name s=>.ptr [.v (.int .u8 110),.v (.string (mk s)),.v (.int .i64 0),.v (.pointer none),.v (.pointer none)]
 | .bound up=>.ptr [.v (.int .u8 98),.v (.string (mk [])),.v (.int .i64 (up:Int)),.v (.pointer none),.v (.pointer none)]
 | .plus a b=>.ptr [.v (.int .u8 43),.v (.string (mk [])),.v (.int .i64 0),a.av,b.av]
 | .times a b=>.ptr [.v (.int .u8 42),.v (.string (mk [])),.v (.int .i64 0),a.av,b.av]
 | .rc a=>.ptr [.v (.int .u8 114),.v (.string (mk [])),.v (.int .i64 0),a.av,.v (.pointer none)]
theorem aF(t:Ty):LK.has .ptr t.av=True:=by cases t<;>simp[Ty.av,cg]
theorem fN(t:Ty):t.av.isNil=false:=by cases t<;>rfl
def ia:Option Ty->AV
 |some t=>t.av
 |none=>.v (.pointer none)
theorem il(t:Option Ty):LK.has .ptr (ia t)=True:=by cases t<;>simp[ia,aF,jg]
def E.at:E->List UInt8
 | .atom s=>s
 | .list _=>[]
def bO(s:List UInt8)(ar:List (List UInt8)):Nat->Option Nat
 |0=>none
 |i+1=>if ar.getD i []=s then some (ar.length-1-i)else bO s ar i
def cT:E->List (List UInt8)->Option Ty
 | .atom s,ar=>if s=[48]then some .zero else if s=[49]then some .one else if gX s=true then some (.name s)else if di s=true then(match bO s ar ar.length with|some u=>some (.bound u)|none=>some (.name s))else none
 |
  .list [x,a,b],ar =>
  if x.at=[43]then(match cT a ar,cT b ar with|some t,some u=>some (.plus t u)|_,_=>none)
  else if x.at=[42]then(match cT a ar,cT b ar with|some t,some u=>some (.times t u)|_,_=>none)
  else if x.at=[114,101,99]then(if di a.at=true then(match cT b (ar++[a.at])with|some t=>some (.rc t)|none=>none)else none)
  else none
 | .list _,_=>none
def bL(l:List (List UInt8)):List (List AV):=l.map fun s=>[.v (.string (mk s))]
def cG(a:AV)(l:List (List UInt8)):Prop:=LK.sl.has a/\a.elems=bL l
theorem cG.len{a:AV}{l:List (List UInt8)}(h:cG a l):a.elems.length=l.length:=by rw[h.2];simp[bL]
theorem cG.idx{a:AV}{l:List (List UInt8)}(h:cG a l){i:Nat}(hi:i<l.length):a.elems.getD i []=[.v (.string (mk (l.getD i [])))]:=by
 rw[h.2];simp[bL,aa,hi]
theorem cG.of(l:List (List UInt8)):cG (.sl (bL l)) l:=⟨(cc _).mpr trivial,rfl⟩
theorem cG.nil:cG (.v (.slice none 0 0)) []:=⟨(bp).mpr trivial,rfl⟩
theorem yV(e:E)(w:List UInt8):an Tryz.prog 151 [e.cB,.v (.string (mk w)),.v (.int .i64 3)] [] (bJ (.v (.bool (match e with| .list [x,_,_]=>x.at==w|_=>false)))):=by
 refine Ox _ _ _ ((cV e).mpr trivial) ?_
 cases e with
 |atom s=>simp only[BA,E.cB,↓zq,zs,ae,zt,bJ];exact⟨by omega,fun h=>by omega,fun _=>trivial⟩
 |
  list l =>
  simp only[BA,E.cB,↓zq,zs,ae,zt,bJ,sc]
  match l with
  |[]=>exact⟨by simp,fun h=>by simp at h,fun _=>rfl⟩
  |[_]=>exact⟨by simp,fun h=>by simp at h,fun _=>rfl⟩
  |[_,_]=>exact⟨by simp,fun h=>by simp at h,fun _=>rfl⟩
  |
   [x,y,z] =>
   refine⟨by simp,fun _=>?_,fun h=>by simp at h⟩
   cases x<;>simp[E.mi,E.cB,cg,pK,jN,dW,uE,toList_mk,E.at]
  |_::_::_::_::l=>exact⟨by simp,fun h=>by simp at h;omega,fun _=>rfl⟩
theorem N9(e:E)(a:AV)(ar:List (List UInt8))(ha:cG a ar)(hl:ar.length<1000000):∀(i:Nat),i<=ar.length->Gc [e.cB,a,.v (.int .i64 ((i:Int)-1))] []
 (ng (match bO e.at ar i with|some u=>(2,[],[.cells [.v (.int .u8 98),.v (.string (mk [])),.v (.int .i64 (u:Int)),.v (.pointer none),.v (.pointer none)]])|none=>(1,[e.cB],[])))
 |
  0,hi=>by
  refine KO _ _ _ ?_
  simp only[FT,↓zq,zs,ae,cV]
  exact⟨ha.1,fun h=>by omega,fun _=>rfl⟩
 |
  i+1,hi=>by
  have hlt:i<ar.length:=by omega
  have e1:((i+1:Nat):Int)-1=(i:Int):=by omega
  rw[e1]
  refine KO _ _ _ ?_
  have hd:e.cB.deref.headD .any=.v (.string (mk e.at)):=by cases e<;>rfl
  have hdl:1<=e.cB.deref.length:=by cases e<;>simp[E.cB,jN]
  simp only[FT,↓zq,zs,ae,zt,cV,ep,ha.len,ha.idx hlt,hd,rG]
  refine⟨ha.1,fun _=>⟨⟨ha.1,by omega,by omega⟩,by omega,hdl,fun h=>⟨ha.1,?_⟩,fun h=>?_⟩,fun h=>by omega⟩
  ·simp only[bO,h,if_true,ng]
   rw[wrap64 ((ar.length:Int)-1) (by omega) (by omega),wrap64 _ (by omega) (by omega)]
   have:(ar.length:Int)-1-(i:Int)=((ar.length-1-i:Nat):Int):=by omega
   rw[this]
  ·simp only[bO,h,if_false]
   rw[wrap64 _ (by omega) (by omega)]
   exact N9 e a ar ha hl i (by omega)
end Go.Proofs.Trees
namespace Go.Proofs.Trees
open Go Go.VL
theorem nR(e:E):e.cB.deref.headD .any=.v (.string (mk e.at)):=by cases e<;>rfl
theorem lY(e:E):1<=e.cB.deref.length:=by cases e<;>simp[E.cB,jN]
theorem toNat_one:bI 1=1:=rfl
theorem bf:bI 2=2:=rfl
theorem Ht{ar:List (List UInt8)}(s:List UInt8):bL ar++[[.v (.string (mk s))]]=bL (ar++[s]):=by simp[bL]
theorem kh(ar:List (List UInt8)):cF 1 (bL ar):=fun c hc=>by
 obtain⟨s,_,rfl⟩:=bM.1 hc;rfl
theorem kQ{x a b:E}(ar:List (List UInt8))(hx:x.at=[43]):cT (.list [x,a,b]) ar=match cT a ar,cT b ar with|some t,some u=>some (.plus t u)|_,_=>none:=by rw[cT,if_pos hx]<;>cases cT a ar<;>cases cT b ar<;>rfl
theorem jP{x a b:E}(ar:List (List UInt8))(hx:x.at=[42]):cT (.list [x,a,b]) ar=match cT a ar,cT b ar with|some t,some u=>some (.times t u)|_,_=>none:=by rw[cT,if_neg (by rw[hx];decide),if_pos hx]<;>cases cT a ar<;>cases cT b ar<;>rfl
theorem mP{x a b:E}(ar:List (List UInt8))(hx:x.at=[114,101,99]):cT (.list [x,a,b]) ar=if di a.at=true then(match cT b (ar++[a.at])with|some t=>some (.rc t)|none=>none)else none:=by rw[cT,if_neg (by rw[hx];decide),if_neg (by rw[hx];decide),if_pos hx]<;>cases cT b (ar++[a.at])<;>rfl
theorem jh{x a b:E}(ar:List (List UInt8))(h1:x.at≠[43])(h2:x.at≠[42])(h3:x.at≠[114,101,99]):cT (.list [x,a,b]) ar=none:=by rw[cT,if_neg h1,if_neg h2,if_neg h3]
theorem CP:∀(e:E) (ar:List (List UInt8)) (a:AV),e.ok->cG a ar->ar.length+e.sz<100000->an Tryz.prog 130 [e.cB,a] [] (bJ (ia (cT e ar)))
 |
  .atom s,ar,a,hok,ha,hl=>by
  simp only[E.sz]at hl
  refine Mx _ _ ((cV _).mpr trivial) ha.1 ?_
  have hd:=nR (.atom s)
  have hlen:=lY (.atom s)
  simp only[E.at]at hd
  simp only[HD,↓zq,zs,ae,zt,bJ,cV,ep,hd,cT]
  refine⟨hlen,fun h=>⟨hlen,?_,?_⟩,fun h=>⟨hlen,fun h1=>⟨hlen,?_,?_⟩,fun h1=>⟨hlen,?_⟩⟩⟩
  ·rw[h];decide
  ·rw[if_pos h,h];rfl
  ·rw[h1];decide
  ·rw[if_neg h,if_pos h1,h1];rfl
  ·rw[if_neg h,if_neg h1]
   refine aj (No s) ?_
   simp only[↓zq,zs,ae]
   refine⟨fun hp=>⟨hlen,?_⟩,fun hp=>⟨hlen,?_⟩⟩
   ·rw[if_pos hp];rfl
   ·rw[if_neg (by rw[hp];simp)]
    refine aj (Db s) ?_
    simp only[↓zq,zs,ae,ha.len]
    refine⟨fun hq=>⟨ha.1,?_⟩,fun hq=>?_⟩
    ·rw[if_pos hq,wrap64 _ (by omega) (by omega)]
     refine eN (N9 (.atom s) a ar ha (by omega) ar.length (by omega)) (fun ys o e=>?_) (fun ys o e=>?_)
     ·simp only[E.at]at e
      cases hq2:bO s ar ar.length<;>rw[hq2]at e<;>cases e
      simp only[↓zq,zs,ae,zt,cV,ep,hd]
      exact⟨hlen,rfl⟩
     ·simp only[E.at]at e
      cases hq2:bO s ar ar.length<;>rw[hq2]at e<;>cases e
      simp only[↓zq,zs,ae,zt,LK.has]
      simp[ia,Ty.av,ae,LK.has]
    ·rw[if_neg (by rw[hq];simp)]
     refine aj (yV (.atom s) [43]) ?_
     simp only[↓zq,zs,ae]
     refine⟨fun h=>(by simp at h),fun _=>?_⟩
     refine aj (yV (.atom s) [42]) ?_
     simp only[↓zq,zs,ae]
     refine⟨fun h=>(by simp at h),fun _=>?_⟩
     refine aj (yV (.atom s) [114,101,99]) ?_
     simp only[↓zq,zs,ae]
     refine⟨fun h=>(by simp at h),fun _=>?_⟩
     trivial
 |
  .list l,ar,a,hok,ha,hl=>by
  simp only[E.sz]at hl
  refine Mx _ _ ((cV _).mpr trivial) ha.1 ?_
  have hd:=nR (.list l)
  have hlen:=lY (.list l)
  simp only[E.at]at hd
  have hp:gX []=false:=rfl
  have hq:di []=false:=rfl
  simp only[HD,↓zq,zs,ae,zt,bJ,cV,ep,hd]
  refine⟨hlen,fun h=>(by simp at h),fun h=>⟨hlen,fun h1=>(by simp at h1),fun h1=>⟨hlen,?_⟩⟩⟩
  refine aj (No []) ?_
  simp only[↓zq,zs,ae,hp]
  refine⟨fun h=>(by simp at h),fun _=>⟨hlen,?_⟩⟩
  refine aj (Db []) ?_
  simp only[↓zq,zs,ae,hq]
  refine⟨fun h=>(by simp at h),fun _=>?_⟩
  refine aj (yV (.list l) [43]) ?_
  match l,hok,hl with
  |
   [x,y,z],hok,hl =>
   simp only[E.jo]at hl
   obtain⟨ok1,ok2,ok3,_⟩:=hok
   have iy:=CP y ar a ok2 ha (by omega)
   have iz:=CP z ar a ok3 ha (by omega)
   have hds:((E.list [x,y,z]).cB.deref.drop 1).headD .any=.sl [[x.cB],[y.cB],[z.cB]]:=rfl
   have hdl:1<=((E.list [x,y,z]).cB.deref.drop 1).length:=by simp[E.cB,jN]
   have hxd:=nR x
   have hxl:=lY x
   have hyd:=nR y
   have hyl:=lY y
   have bin:∀(c:UInt8) (mkT:Ty->Ty->Ty),(∀t u:Ty,(mkT t u).av=.ptr [.v (.int .u8 (c.toNat:Int)),.v (.string (mk [])),.v (.int .i64 0),t.av,u.av])->x.at=[c]->bt (mk x.at) 0=(c.toNat:Int):=fun c _ _ hx=>by
    have:=mg x.at 0 (by rw[hx];simp)
    simp only[Int.ofNat_eq_natCast,Int.cast_ofNat_Int]at this
    rw[this,hx];rfl
   simp only[↓zq,zs,ae,zt,hds,hdl,cV,ep,toNat_one,bf,hxd,hyd,rG]
   refine⟨fun hx=>?_,fun hx=>?_⟩
   ·refine⟨by omega,by omega,?_⟩
    refine aj iy ?_
    simp only[↓zq,zs,ae,il]
    refine⟨by omega,by omega,?_⟩
    refine aj iz ?_
    have hb:=bin 43 Ty.plus (fun _ _=>rfl) hx
    rw[kQ ar hx]
    simp only[↓zq,zs,ae,zt,il]
    cases h1:cT y ar with
    |none=>simp[ia,jL]
    |
     some t =>
     cases h2:cT z ar with
     |none=>simp[ia,jL,fN]
     |
      some u =>
      simp only[ia,fN,hb]
      refine⟨fun h=>(by cases h),fun _=>⟨fun h=>(by cases h),fun _=>⟨by omega,by omega,hxl,⟨by omega,by rw[hx];simp⟩,rfl⟩⟩⟩
   ·refine aj (yV (.list [x,y,z]) [42]) ?_
    simp only[↓zq,zs,ae,hds,hdl,cV,ep,toNat_one,bf,hxd,hyd,rG]
    refine⟨fun hx2=>?_,fun hx2=>?_⟩
    ·refine⟨by omega,by omega,?_⟩
     refine aj iy ?_
     simp only[↓zq,zs,ae,il]
     refine⟨by omega,by omega,?_⟩
     refine aj iz ?_
     have hb:=bin 42 Ty.times (fun _ _=>rfl) hx2
     rw[jP ar hx2]
     simp only[↓zq,zs,ae,zt,il]
     cases h1:cT y ar with
     |none=>simp[ia,jL]
     |
      some t =>
      cases h2:cT z ar with
      |none=>simp[ia,jL,fN]
      |
       some u =>
       simp only[ia,fN,hb]
       refine⟨fun h=>(by cases h),fun _=>⟨fun h=>(by cases h),fun _=>⟨by omega,by omega,hxl,⟨by omega,by rw[hx2];simp⟩,rfl⟩⟩⟩
    ·refine aj (yV (.list [x,y,z]) [114,101,99]) ?_
     simp only[↓zq,zs,ae,zt,hds,hdl,cV,ep,toNat_one,bf,hxd,hyd,rG]
     refine⟨fun hx3=>⟨by omega,by omega,hyl,?_⟩,fun hx3=>?_⟩
     ·refine aj (Db y.at) ?_
      rw[mP ar hx3]
      simp only[↓zq,zs,ae]
      have hal:cF 1 a.elems:=by rw[ha.2];exact kh ar
      have hal1:cF 1 [[AV.v (.string (mk y.at))]]:=fun c hc=>by simp at hc;rw[hc];rfl
      refine⟨fun hlo=>⟨by omega,by omega,⟨ha.1,hal,by rw[ha.len];omega⟩,by omega,by omega,hyl,⟨hal1,by rw[aU,ha.len];omega⟩,?_⟩,fun hlo=>?_⟩
      ·rw[aU,ha.2,Ht,if_pos hlo]
       refine aj (CP z (ar++[y.at]) _ ok3 (.of _) (by simp;omega)) ?_
       simp only[↓zq,zs,ae,il]
       cases h2:cT z (ar++[y.at])with
       |none=>simp[ia,jL]
       |
        some u =>
        simp only[ia,fN]
        refine⟨fun h=>(by cases h),fun _=>rfl⟩
      ·rw[if_neg (by rw[hlo];simp)];rfl
     ·rw[jh ar hx hx2 hx3];rfl
  |
   [],_,_ =>
   simp only[↓zq,zs,ae]
   refine⟨fun h=>(by cases h),fun _=>?_⟩
   refine aj (yV (.list []) [42]) ?_
   simp only[↓zq,zs,ae]
   refine⟨fun h=>(by cases h),fun _=>?_⟩
   refine aj (yV (.list []) [114,101,99]) ?_
   simp only[↓zq,zs,ae]
   refine⟨fun h=>(by cases h),fun _=>?_⟩
   rfl
  |
   [x1],_,_ =>
   simp only[↓zq,zs,ae]
   refine⟨fun h=>(by cases h),fun _=>?_⟩
   refine aj (yV (.list [x1]) [42]) ?_
   simp only[↓zq,zs,ae]
   refine⟨fun h=>(by cases h),fun _=>?_⟩
   refine aj (yV (.list [x1]) [114,101,99]) ?_
   simp only[↓zq,zs,ae]
   refine⟨fun h=>(by cases h),fun _=>?_⟩
   rfl
  |
   [x1,x2],_,_ =>
   simp only[↓zq,zs,ae]
   refine⟨fun h=>(by cases h),fun _=>?_⟩
   refine aj (yV (.list [x1,x2]) [42]) ?_
   simp only[↓zq,zs,ae]
   refine⟨fun h=>(by cases h),fun _=>?_⟩
   refine aj (yV (.list [x1,x2]) [114,101,99]) ?_
   simp only[↓zq,zs,ae]
   refine⟨fun h=>(by cases h),fun _=>?_⟩
   rfl
  |
   x1::x2::x3::x4::l,_,_ =>
   simp only[↓zq,zs,ae]
   refine⟨fun h=>(by cases h),fun _=>?_⟩
   refine aj (yV (.list (x1::x2::x3::x4::l)) [42]) ?_
   simp only[↓zq,zs,ae]
   refine⟨fun h=>(by cases h),fun _=>?_⟩
   refine aj (yV (.list (x1::x2::x3::x4::l)) [114,101,99]) ?_
   simp only[↓zq,zs,ae]
   refine⟨fun h=>(by cases h),fun _=>?_⟩
   rfl
end Go.Proofs.Trees
namespace Go.Proofs.Trees
open Go Go.VL
def dh(v:AV)(obs:List Ob):AV->List Ob->Prop:=fun r o=>r=v/\o=obs
theorem aW{P:Program}{n:Nat}{Q:Nat->List AV->List Ob->Prop}{f:Nat}{xs:List AV}{ins:List Ob}{k:AV->List Ob->Tree}{v:AV}{obs:List Ob}(h:an P f xs ins (dh v obs))(hk:eZ P n (k v obs) Q):eZ P n (.call f xs ins k) Q :=
 ⟨dh v obs,h,⟨v,obs,rfl,rfl⟩,fun r o ⟨h1,h2⟩=>by rw[h1,h2];exact hk⟩
def Ty.atoms:Ty->Nat
 | .plus a b=>1+a.atoms+b.atoms
 | .times a b=>1+a.atoms+b.atoms
 | .rc a=>2+a.atoms
 |_=>1
theorem EK:∀(t:Ty),t.atoms<1000000->an Tryz.prog 131 [t.av] [] (bJ (.v (.int .i64 (t.atoms:Int))))
 | .zero,h=>by refine GO _ ((aF _).mpr trivial) ?_;simp[EO,Ty.av,↓zq,zs,ae,bJ,Ty.atoms]
 | .one,h=>by refine GO _ ((aF _).mpr trivial) ?_;simp[EO,Ty.av,↓zq,zs,ae,bJ,Ty.atoms]
 | .name s,h=>by refine GO _ ((aF _).mpr trivial) ?_;simp[EO,Ty.av,↓zq,zs,ae,bJ,Ty.atoms]
 | .bound u,h=>by refine GO _ ((aF _).mpr trivial) ?_;simp[EO,Ty.av,↓zq,zs,ae,bJ,Ty.atoms]
 |
  .plus a b,h=>by
  simp only[Ty.atoms]at h
  refine GO _ ((aF _).mpr trivial) ?_
  simp only[EO,Ty.av,↓zq,zs,ae,aF]
  refine⟨by omega,fun _=>⟨by omega,?_⟩,fun h=>absurd rfl h⟩
  refine aj (EK a (by omega)) ?_
  simp only[↓zq,zs,ae,aF]
  refine⟨by omega,?_⟩
  refine aj (EK b (by omega)) ?_
  simp only[↓zq,zs,ae,bJ,Ty.atoms]
  rw[wrap64 (1+(a.atoms:Int)) (by omega) (by omega),wrap64 _ (by omega) (by omega)]
  congr 2
 |
  .times a b,h=>by
  simp only[Ty.atoms]at h
  refine GO _ ((aF _).mpr trivial) ?_
  simp only[EO,Ty.av,↓zq,zs,ae,aF]
  refine⟨by omega,fun h=>by omega,fun _=>⟨fun _=>⟨by omega,?_⟩,fun h=>absurd rfl h⟩⟩
  refine aj (EK a (by omega)) ?_
  simp only[↓zq,zs,ae,aF]
  refine⟨by omega,?_⟩
  refine aj (EK b (by omega)) ?_
  simp only[↓zq,zs,ae,bJ,Ty.atoms]
  rw[wrap64 (1+(a.atoms:Int)) (by omega) (by omega),wrap64 _ (by omega) (by omega)]
  congr 2
 |
  .rc a,h=>by
  simp only[Ty.atoms]at h
  refine GO _ ((aF _).mpr trivial) ?_
  simp only[EO,Ty.av,↓zq,zs,ae,aF]
  refine⟨by omega,fun h=>by omega,fun _=>⟨fun h=>by omega,fun _=>⟨fun _=>⟨by omega,?_⟩,fun h=>absurd rfl h⟩⟩⟩
  refine aj (EK a (by omega)) ?_
  simp only[↓zq,zs,ae,bJ,Ty.atoms]
  rw[wrap64 _ (by omega) (by omega)]
  congr 2
theorem iK:∀(e:E) (ar:List (List UInt8)) (t:Ty),cT e ar=some t->t.atoms<=e.sz
 |
  .atom s,ar,t,h=>by
  simp only[cT]at h
  simp only[E.sz]
  split at h
  ·cases h;simp[Ty.atoms]
  ·split at h
   ·cases h;simp[Ty.atoms]
   ·split at h
    ·cases h;simp[Ty.atoms]
    ·split at h
     ·split at h<;>cases h<;>simp[Ty.atoms]
     ·cases h
 |
  .list [x,a,b],ar,t,h=>by
  have hs:∀e:E,1<=e.sz:=fun e=>by cases e<;>simp[E.sz];try omega
  have hx:=hs x
  have ha:=hs a
  simp only[E.sz,E.jo]
  by_cases h1:x.at=[43]
  ·rw[kQ ar h1]at h
   split at h
   ·rename_i t1 t2 e1 e2
    cases h
    have:=iK a ar t1 e1
    have:=iK b ar t2 e2
    simp only[Ty.atoms];omega
   ·cases h
  ·by_cases h2:x.at=[42]
   ·rw[jP ar h2]at h
    split at h
    ·rename_i t1 t2 e1 e2
     cases h
     have:=iK a ar t1 e1
     have:=iK b ar t2 e2
     simp only[Ty.atoms];omega
    ·cases h
   ·by_cases h3:x.at=[114,101,99]
    ·rw[mP ar h3]at h
     split at h
     ·split at h
      ·rename_i t1 e1
       cases h
       have:=iK b _ t1 e1
       simp only[Ty.atoms];omega
      ·cases h
     ·cases h
    ·rw[jh ar h1 h2 h3]at h;cases h
 | .list [],_,_,h=>by cases h
 | .list [_],_,_,h=>by cases h
 | .list [_,_],_,_,h=>by cases h
 | .list (_::_::_::_::_),_,_,h=>by cases h
def qM(s:List UInt8):Option Ty:=match qJ s with
 |none=>none
 |
  some e=>match cT e []with
  |none=>none
  |some t=>if t.atoms>400 then none else some t
theorem HX(s:List UInt8):an Tryz.prog 96 [.v (.string (mk s))] [] (bJ (ia (qM s))):=by
 refine Qo _ ?_
 unfold JZ
 refine aj (LG s) ?_
 unfold qM
 cases he:qJ s with
 |none=>simp only[uA,↓zq,zs,ae,bJ,ia];simp
 |
  some e =>
  obtain⟨h1,h2⟩:=nI he
  simp only[uA,↓zq,zs,ae,cV,ep]
  refine⟨fun h=>(by cases h),fun _=>?_⟩
  refine aj (CP e [] _ h1 .nil (by simp;omega)) ?_
  cases ht:cT e []with
  |none=>simp only[ia,↓zq,zs,ae,bJ];simp
  |
   some t =>
   have:=iK e [] t ht
   simp only[ia,↓zq,zs,ae,aF,fN]
   refine⟨fun h=>(by cases h),fun _=>?_⟩
   refine aj (EK t (by omega)) ?_
   simp only[↓zq,zs,ae,bJ]
   refine⟨fun h=>?_,fun h=>?_⟩
   ·rw[if_pos (by omega)]
   ·rw[if_neg (by omega)]
end Go.Proofs.Trees
namespace Go.Proofs.Trees
open Go Go.VL
def Cl(p:Prop):Nat->List AV->List Ob->Prop:=fun t ys o=>(t=1/\¬p/\ys=[]/\o=[])\/(t=2/\p/\∃j:Nat,ys=[.v (.int .i64 (j:Int))]/\o=[])
theorem Mg(l:List (List UInt8))(a:AV)(ha:cG a l)(s:List UInt8)(hl:l.length<1000000):∀(k i:Nat),i+k=l.length->s∉l.take i->Hz [a,.v (.string (mk s)),.v (.int .i64 (l.length:Int)),.v (.int .i64 (i:Int))] []
 (Cl (s∈l))
 |
  0,i,hi,hn=>by
  refine Kb _ _ _ _ ?_
  simp only[GA,↓zq,zs,ae]
  have:l.take i=l:=List.take_of_length_le (by omega)
  rw[this]at hn
  exact⟨ha.1,fun h=>by omega,fun _=>.inl ⟨rfl,hn,rfl,rfl⟩⟩
 |
  k+1,i,hi,hn=>by
  have hlt:i<l.length:=by omega
  refine Kb _ _ _ _ ?_
  simp only[GA,↓zq,zs,ae,zt,ha.len,ha.idx hlt]
  have hm:l.getD i []∈l:=by simp[aa,hlt]
  refine⟨ha.1,fun _=>⟨⟨ha.1,by omega,by omega⟩,by omega,fun h=>?_,fun h=>?_⟩,fun h=>by omega⟩
  ·exact .inr ⟨rfl,by rw[h];exact hm,i,rfl,rfl⟩
  ·rw[bA i (by omega)]
   refine Mg l a ha s hl k (i+1) (by omega) ?_
   rw[List.take_add_one]
   simp only[aM,not_or]
   refine⟨hn,?_⟩
   have:l[i]?=some (l.getD i []):=by simp[aa,hlt]
   rw[this];simpa using h
theorem Ky(l:List (List UInt8))(a:AV)(ha:cG a l)(s:List UInt8)(hl:l.length<1000000):an Tryz.prog 156 [a,.v (.string (mk s))] [] (bJ (.v (.bool (decide (s∈l))))):=by
 have hI:an Tryz.prog 167 [a,.v (.string (mk s))] [] (fun r o=>∃n:Int,r=.v (.int .i64 n)/\(0<=n↔s∈l)/\o=[]):=by
  refine QX _ _ ha.1 ?_
  simp only[OT,↓zq,zs,ae,ha.len]
  refine⟨ha.1,kX (Mg l a ha s hl l.length 0 (by omega) (by simp)) ?_ ?_⟩
  ·rintro ys o (⟨_,h1,rfl,rfl⟩|⟨h,_⟩)
   ·simp only[↓zq,zs,ae]
    exact⟨-1,rfl,⟨fun h=>(by omega),fun h=>absurd h h1⟩⟩
   ·cases h
  ·rintro ys o (⟨h,_⟩|⟨_,h1,j,rfl,rfl⟩)
   ·cases h
   ·simp only[↓zq,zs,ae]
    exact⟨j,rfl,⟨fun _=>h1,fun _=>(by omega)⟩⟩
 refine Q7 _ _ ha.1 ?_
 unfold I8
 refine aP hI ⟨.v (.int .i64 (if s∈l then 0 else -1)),[],_,rfl,by split<;>simp_all,rfl⟩ ?_
 rintro r o ⟨n,rfl,hn,rfl⟩
 simp only[↓zq,zs,ae,bJ]
 congr 2
 rw[cx];simp[hn]
def pC(out:List (List UInt8)):Ty->List (List UInt8)
 | .name s=>if s∈out then out else out++[s]
 |_=>out
theorem xu(t:Ty)(out:List (List UInt8))(hl:out.length<100000):an Tryz.prog 166 [t.av,.ref 0 0] [.cells [.vec 1],.vec 1 (bL out)] (dh .any [.cells [.vec 1],.vec 1 (bL (pC out t))]):=by
 refine Sd _ _ ((aF _).mpr trivial) ?_
 have hlen:(bL out).length=out.length:=by simp[bL]
 cases t with
 |
  name s =>
  simp only[Hh,Ty.av,↓zq,zs,ae,dh,hlen]
  refine⟨by omega,fun _=>⟨by omega,?_⟩,fun h=>absurd rfl h⟩
  refine aj (Ky out _ (.of out) s (by omega)) ?_
  simp only[↓zq,zs,ae,pC]
  refine⟨fun h=>⟨by omega,⟨fun c hc=>(by simp at hc;rw[hc];rfl),by omega⟩,?_⟩,fun h=>?_⟩
  ·rw[Ht,if_neg h]
  ·rw[if_pos h]
 |_=>simp[Hh,Ty.av,↓zq,zs,ae,dh,pC]
def bN:Ty->List (List UInt8)->List (List UInt8)
 | .name s,out=>pC out (.name s)
 | .plus a b,out=>bN b (bN a out)
 | .times a b,out=>bN b (bN a out)
 | .rc a,out=>bN a out
 |_,out=>out
theorem ez:∀(t:Ty) (out:List (List UInt8)),(bN t out).length<=out.length+t.atoms
 | .name s,out=>by simp only[bN,pC,Ty.atoms];split<;>simp
 |
  .plus a b,out=>by
  have:=ez a out
  have:=ez b (bN a out)
  simp only[bN,Ty.atoms];omega
 |
  .times a b,out=>by
  have:=ez a out
  have:=ez b (bN a out)
  simp only[bN,Ty.atoms];omega
 |
  .rc a,out=>by
  have:=ez a out
  simp only[bN,Ty.atoms];omega
 | .zero,out=>by simp[bN]
 | .one,out=>by simp[bN]
 | .bound u,out=>by simp[bN]
theorem zT:∀(t:Ty) (out:List (List UInt8)),out.length+t.atoms<100000->an Tryz.prog 165 [t.av,.fn 166 [.ref 0 0]] [.cells [.vec 1],.vec 1 (bL out)] (dh .any [.cells [.vec 1],.vec 1 (bL (bN t out))])
 |
  .plus a b,out,hl=>by
  simp only[Ty.atoms]at hl
  have:=ez a out
  refine wO _ _ ((aF _).mpr trivial) ?_
  unfold EN
  refine aW (xu (.plus a b) out (by omega)) ?_
  simp only[Ty.av,↓zq,zs,ae,aF,fN,pC,aL,dh]
  refine⟨by omega,fun _=>⟨by omega,?_⟩,fun h=>(by cases h)⟩
  refine aW (zT a out (by omega)) ?_
  simp only[↓zq,zs,ae,aF,fN,aL]
  refine⟨by omega,fun _=>⟨by omega,?_⟩,fun h=>(by cases h)⟩
  refine aW (zT b (bN a out) (by omega)) ?_
  simp only[↓zq,zs,ae,aL,bN]
 |
  .times a b,out,hl=>by
  simp only[Ty.atoms]at hl
  have:=ez a out
  refine wO _ _ ((aF _).mpr trivial) ?_
  unfold EN
  refine aW (xu (.times a b) out (by omega)) ?_
  simp only[Ty.av,↓zq,zs,ae,aF,fN,pC,aL,dh]
  refine⟨by omega,fun _=>⟨by omega,?_⟩,fun h=>(by cases h)⟩
  refine aW (zT a out (by omega)) ?_
  simp only[↓zq,zs,ae,aF,fN,aL]
  refine⟨by omega,fun _=>⟨by omega,?_⟩,fun h=>(by cases h)⟩
  refine aW (zT b (bN a out) (by omega)) ?_
  simp only[↓zq,zs,ae,aL,bN]
 |
  .rc a,out,hl=>by
  simp only[Ty.atoms]at hl
  refine wO _ _ ((aF _).mpr trivial) ?_
  unfold EN
  refine aW (xu (.rc a) out (by omega)) ?_
  simp only[Ty.av,↓zq,zs,ae,aF,fN,pC,aL,dh]
  refine⟨by omega,fun _=>⟨by omega,?_⟩,fun h=>(by cases h)⟩
  refine aW (zT a out (by omega)) ?_
  simp[↓zq,zs,ae,aF,fN,aL,bN]
 |
  .name s,out,hl=>by
  refine wO _ _ ((aF _).mpr trivial) ?_
  unfold EN
  refine aW (xu (.name s) out (by omega)) ?_
  simp[Ty.av,↓zq,zs,ae,aL,dh,bN]
 |
  .zero,out,hl=>by
  refine wO _ _ ((aF _).mpr trivial) ?_
  unfold EN
  refine aW (xu .zero out (by omega)) ?_
  simp[Ty.av,↓zq,zs,ae,aL,dh,bN,pC]
 |
  .one,out,hl=>by
  refine wO _ _ ((aF _).mpr trivial) ?_
  unfold EN
  refine aW (xu .one out (by omega)) ?_
  simp[Ty.av,↓zq,zs,ae,aL,dh,bN,pC]
 |
  .bound u,out,hl=>by
  refine wO _ _ ((aF _).mpr trivial) ?_
  unfold EN
  refine aW (xu (.bound u) out (by omega)) ?_
  simp[Ty.av,↓zq,zs,ae,aL,dh,bN,pC]
theorem Jw(t:Ty)(hl:t.atoms<100000):an Tryz.prog 154 [t.av] [] (bJ (.sl (bL (bN t [])))):=by
 refine Pe _ ((aF _).mpr trivial) ?_
 unfold KS
 refine aW (zT t [] (by simpa using hl)) ?_
 simp[↓zq,zs,ae,aL,bJ]
theorem JI(l:List (List UInt8))(a:AV)(ha:cG a l)(hl:l.length<1000000):∀(k i:Nat),i+k=l.length->(∀s,s∈l.take i->di s=false)->HI [a,.v (.func (.func 150) #[] #[]),.v (.int .i64 (l.length:Int)),.v (.int .i64 (i:Int))] []
 (Cl (l.any di=true))
 |
  0,i,hi,hn=>by
  refine OV _ _ _ ?_
  simp only[Hq,↓zq,zs,ae]
  have:l.take i=l:=List.take_of_length_le (by omega)
  rw[this]at hn
  exact⟨ha.1,fun h=>by omega,fun _=>.inl ⟨rfl,fun hh=>(by obtain⟨x,hx,hy⟩:=cu.1 hh;rw[hn x hx]at hy;cases hy),rfl,rfl⟩⟩
 |
  k+1,i,hi,hn=>by
  have hlt:i<l.length:=by omega
  refine OV _ _ _ ?_
  simp only[Hq,↓zq,zs,ae,zt,ha.len,ha.idx hlt]
  have hm:l.getD i []∈l:=by simp[aa,hlt]
  refine⟨ha.1,fun _=>⟨⟨ha.1,by omega,by omega⟩,by omega,?_⟩,fun h=>by omega⟩
  refine aj (Db _) ?_
  simp only[↓zq,zs,ae]
  refine⟨fun h=>?_,fun h=>?_⟩
  ·exact .inr ⟨rfl,cu.2 ⟨_,hm,h⟩,i,rfl,rfl⟩
  ·rw[bA i (by omega)]
   refine JI l a ha hl k (i+1) (by omega) ?_
   intro s hs
   rw[List.take_add_one]at hs
   have:l[i]?=some (l.getD i []):=by simp[aa,hlt]
   rw[this]at hs
   rcases aM.1 hs with hs|hs
   ·exact hn s hs
   ·simp at hs;rw[hs];simpa using h
theorem Sg(l:List (List UInt8))(a:AV)(ha:cG a l)(hl:l.length<1000000):an Tryz.prog 157 [a,.v (.func (.func 150) #[] #[])] [] (bJ (.v (.bool (l.any di)))):=by
 have hI:an Tryz.prog 168 [a,.v (.func (.func 150) #[] #[])] [] (fun r o=>∃n:Int,r=.v (.int .i64 n)/\(0<=n↔l.any di=true)/\o=[]):=by
  refine SH _ ha.1 ?_
  simp only[Nv,↓zq,zs,ae,ha.len]
  refine⟨ha.1,kX (JI l a ha hl l.length 0 (by omega) (by simp)) ?_ ?_⟩
  ·rintro ys o (⟨_,h1,rfl,rfl⟩|⟨h,_⟩)
   ·simp only[↓zq,zs,ae]
    exact⟨-1,rfl,⟨fun h=>(by omega),fun h=>absurd h h1⟩⟩
   ·cases h
  ·rintro ys o (⟨h,_⟩|⟨_,h1,j,rfl,rfl⟩)
   ·cases h
   ·simp only[↓zq,zs,ae]
    exact⟨j,rfl,⟨fun _=>h1,fun _=>(by omega)⟩⟩
 refine R2 _ ha.1 ?_
 unfold Kf
 refine aP hI ⟨.v (.int .i64 (if l.any di=true then 0 else -1)),[],_,rfl,by split<;>simp_all,rfl⟩ ?_
 rintro r o ⟨n,rfl,hn,rfl⟩
 simp only[↓zq,zs,ae,bJ]
 congr 2
 rw[cx];simp only[decide_eq_true_eq,ge_iff_le,hn]
def Ty.closed(t:Ty):Bool:=!((bN t []).any di)
theorem Qm(t:Ty)(hl:t.atoms<100000):an Tryz.prog 138 [t.av] [] (bJ (.v (.bool t.closed))):=by
 refine Sw _ ((aF _).mpr trivial) ?_
 unfold On
 refine aj (Jw t hl) ?_
 simp only[↓zq,zs,ae]
 have:=ez t []
 refine aj (Sg _ _ (.of _) (by simp at this;omega)) ?_
 simp only[↓zq,zs,ae,bJ,Ty.closed]
def xj(s:List UInt8):Option Ty:=match qM s with
 |none=>none
 |some t=>if t.closed=true then some t else none
theorem sR{s:List UInt8}{t:Ty}(h:qM s=some t):t.atoms<=400:=by
 unfold qM at h
 split at h
 ·cases h
 ·split at h
  ·cases h
  ·split at h<;>cases h
   omega
theorem JP(s:List UInt8):an Tryz.prog 99 [.v (.string (mk s))] [] (bJ (ia (xj s))):=by
 refine PB _ ?_
 unfold Nw
 refine aj (HX s) ?_
 unfold xj
 cases ht:qM s with
 |none=>simp[ia,↓zq,zs,ae,bJ]
 |
  some t =>
  have:=sR ht
  simp only[ia,↓zq,zs,ae,aF,fN]
  refine⟨fun h=>(by cases h),fun _=>?_⟩
  refine aj (Qm t (by omega)) ?_
  simp only[↓zq,zs,ae,bJ]
  refine⟨fun h=>?_,fun h=>?_⟩
  ·rw[if_neg (by rw[h];simp)]
  ·rw[if_pos h]
theorem fy(l:List (List UInt8)):∀x,x∈[Ob.vec 1 (bL l)]->fR x:=by
 intro x hx
 simp only[aQ]at hx
 subst hx
 intro e he c hc
 simp only[bL,bM]at he
 obtain⟨k,_,rfl⟩:=he
 simp only[aQ]at hc
 exact⟨_,hc⟩
end Go.Proofs.Trees
namespace Go.Proofs.Trees
open Go Go.VL Go.RowKit
abbrev Nm:=List UInt8
def dB(u:Ty):Ty->Nat->Ty
 | .bound k,i=>if k=i then u else .bound k
 | .plus a b,i=>.plus (dB u a i) (dB u b i)
 | .times a b,i=>.times (dB u a i) (dB u b i)
 | .rc a,i=>.rc (dB u a (i+1))
 |t,_=>t
def sub(x:Nm)(u:Ty):Ty->Ty
 | .name s=>if s=x then u else .name s
 | .plus a b=>.plus (sub x u a) (sub x u b)
 | .times a b=>.times (sub x u a) (sub x u b)
 | .rc a=>.rc (sub x u a)
 |t=>t
def bj(x:Nm):Ty->Bool
 | .name s=>decide (s=x)
 | .plus a b=>bj x a||bj x b
 | .times a b=>bj x a||bj x b
 | .rc a=>bj x a
 |_=>false
def jM(f:Nm->Nm):Ty->Ty
 | .name s=>.name (f s)
 | .plus a b=>.plus (jM f a) (jM f b)
 | .times a b=>.times (jM f a) (jM f b)
 | .rc a=>.rc (jM f a)
 |t=>t
def N4(f:Nm->Nm):Prop:=∀x y,f x=f y->x=y
theorem lZ(f:Nm->Nm)(x:Nm):∀(t:Ty) (i:Nat),jM f (dB (.name x) t i)=dB (.name (f x)) (jM f t) i
 | .bound k,i=>by simp only[dB,jM];split<;>rfl
 | .plus a b,i=>by simp only[dB,jM,lZ f x a i,lZ f x b i]
 | .times a b,i=>by simp only[dB,jM,lZ f x a i,lZ f x b i]
 | .rc a,i=>by simp only[dB,jM,lZ f x a (i+1)]
 | .zero,i=>rfl
 | .one,i=>rfl
 | .name s,i=>rfl
theorem l5{f:Nm->Nm}(hf:N4 f)(x:Nm)(u:Ty):∀t:Ty,jM f (sub x u t)=sub (f x) (jM f u) (jM f t)
 |
  .name s=>by
  simp only[sub,jM]
  by_cases h:s=x
  ·subst h;simp
  ·rw[if_neg h,if_neg fun e=>h (hf _ _ e)];rfl
 | .plus a b=>by simp only[sub,jM,l5 hf x u a,l5 hf x u b]
 | .times a b=>by simp only[sub,jM,l5 hf x u a,l5 hf x u b]
 | .rc a=>by simp only[sub,jM,l5 hf x u a]
 | .zero=>rfl
 | .one=>rfl
 | .bound k=>rfl
theorem m8{f:Nm->Nm}(hf:N4 f)(x:Nm):∀t:Ty,bj (f x) (jM f t)=bj x t
 | .name s=>by simp only[bj,jM];rw[cx];simp only[decide_eq_true_eq];exact⟨fun e=>hf _ _ e,fun e=>by rw[e]⟩
 | .plus a b=>by simp only[bj,jM,m8 hf x a,m8 hf x b]
 | .times a b=>by simp only[bj,jM,m8 hf x a,m8 hf x b]
 | .rc a=>by simp only[bj,jM,m8 hf x a]
 | .zero=>rfl
 | .one=>rfl
 | .bound k=>rfl
theorem gT(f:Nm->Nm):∀t:Ty,(jM f t).atoms=t.atoms
 | .plus a b=>by simp only[Ty.atoms,jM,gT f a,gT f b]
 | .times a b=>by simp only[Ty.atoms,jM,gT f a,gT f b]
 | .rc a=>by simp only[Ty.atoms,jM,gT f a]
 | .name s=>rfl
 | .zero=>rfl
 | .one=>rfl
 | .bound k=>rfl
theorem pH{f:Nm->Nm}:∀t:Ty,(∀x,bj x t=true->f x=x)->jM f t=t
 | .name s,h=>by simp only[jM];rw[h s (by simp[bj])]
 | .plus a b,h=>by simp only[jM];rw[pH a fun x hx=>h x (by simp[bj,hx]),pH b fun x hx=>h x (by simp[bj,hx])]
 | .times a b,h=>by simp only[jM];rw[pH a fun x hx=>h x (by simp[bj,hx]),pH b fun x hx=>h x (by simp[bj,hx])]
 | .rc a,h=>by simp only[jM];rw[pH a fun x hx=>h x hx]
 | .zero,_=>rfl
 | .one,_=>rfl
 | .bound k,_=>rfl
theorem fH(x:Nm):∀(t:Ty) (i:Nat),(dB (.name x) t i).atoms=t.atoms
 | .bound k,i=>by simp only[dB];split<;>rfl
 | .plus a b,i=>by simp only[dB,Ty.atoms,fH x a i,fH x b i]
 | .times a b,i=>by simp only[dB,Ty.atoms,fH x a i,fH x b i]
 | .rc a,i=>by simp only[dB,Ty.atoms,fH x a (i+1)]
 | .zero,i=>rfl
 | .one,i=>rfl
 | .name s,i=>rfl
theorem ej(t:Ty):1<=t.atoms:=by cases t<;>simp only[Ty.atoms]<;>omega
theorem gJ(x:Nm)(u:Ty):∀t:Ty,t.atoms<=(sub x u t).atoms
 | .name s=>by simp only[sub];split<;>simp only[Ty.atoms];exact ej u;omega
 | .plus a b=>by have:=gJ x u a;have:=gJ x u b;simp only[sub,Ty.atoms];omega
 | .times a b=>by have:=gJ x u a;have:=gJ x u b;simp only[sub,Ty.atoms];omega
 | .rc a=>by have:=gJ x u a;simp only[sub,Ty.atoms];omega
 | .zero=>au _
 | .one=>au _
 | .bound k=>au _
theorem gy{x y:Nm}:∀(t:Ty) (i:Nat),bj y (dB (.name x) t i)=true->y=x\/bj y t=true
 |
  .bound k,i,h=>by
  simp only[dB]at h
  split at h
  ·left;simp only[bj,decide_eq_true_eq]at h;exact h.symm
  ·cases h
 |
  .plus a b,i,h=>by
  simp only[dB,bj,bB]at h |-
  rcases h with h|h
  ·rcases gy a i h with h|h<;>simp[h]
  ·rcases gy b i h with h|h<;>simp[h]
 |
  .times a b,i,h=>by
  simp only[dB,bj,bB]at h |-
  rcases h with h|h
  ·rcases gy a i h with h|h<;>simp[h]
  ·rcases gy b i h with h|h<;>simp[h]
 | .rc a,i,h=>gy a (i+1) h
 | .zero,i,h=>by cases h
 | .one,i,h=>by cases h
 | .name s,i,h=>.inr h
theorem ja{x y:Nm}{u:Ty}:∀t:Ty,bj y (sub x u t)=true->bj y u=true\/(y≠x/\bj y t=true)
 |
  .name s,h=>by
  simp only[sub]at h
  split at h
  ·exact .inl h
  ·rename_i hs
   simp only[bj,decide_eq_true_eq]at h
   subst h
   exact .inr ⟨hs,by simp[bj]⟩
 |
  .plus a b,h=>by
  simp only[sub,bj,bB]at h |-
  rcases h with h|h
  ·rcases ja a h with h|h<;>simp[h]
  ·rcases ja b h with h|h<;>simp[h]
 |
  .times a b,h=>by
  simp only[sub,bj,bB]at h |-
  rcases h with h|h
  ·rcases ja a h with h|h<;>simp[h]
  ·rcases ja b h with h|h<;>simp[h]
 |
  .rc a,h=>by
  simp only[sub,bj]at h |-
  exact ja a h
 | .zero,h=>by cases h
 | .one,h=>by cases h
 | .bound k,h=>by cases h
def swp(x y:Nm):Nm->Nm:=fun s=>if s=x then y else if s=y then x else s
theorem xU(x y:Nm):N4 (swp x y):=by
 intro a b h
 unfold swp at h
 by_cases h1:a=x<;>by_cases h2:a=y<;>by_cases h3:b=x<;>by_cases h4:b=y<;>simp_all
theorem vK(x y:Nm):swp x y x=y:=by simp[swp]
theorem AX{x y s:Nm}(h:s≠x)(h':s≠y):swp x y s=s:=by simp[swp,h,h']
theorem uB{x y:Nm}{t:Ty}(h:bj x t=false)(h':bj y t=false):jM (swp x y) t=t :=
 pH t fun z hz=>AX (fun e=>by subst e;rw[h]at hz;cases hz) (fun e=>by subst e;rw[h']at hz;cases hz)
def pO(a:Ty)(x:Nm)(c d:Ty):Ty:=.rc (.plus (sub x (.rc a) c) (.times (sub x (.rc a) d) (.bound 0)))
inductive Dv:Ty->Nm->Ty->Prop
 |zero (s):Dv .zero s .zero
 |one (s):Dv .one s .zero
 |bound (k s):Dv (.bound k) s .zero
 |hit (s):Dv (.name s) s .one
 |qx {n s} (h:n≠s):Dv (.name n) s .zero
 |plus {a b s a' b'} (h1:Dv a s a') (h2:Dv b s b') (hl:(Ty.plus a' b').atoms<=400):Dv (.plus a b) s (.plus a' b')
 |times {a b s a' b'} (h1:Dv a s a') (h2:Dv b s b') (hl:(Ty.plus (.times a' b) (.times a b')).atoms<=400):Dv (.times a b) s (.plus (.times a' b) (.times a b'))
 |rc {a s c d} (x:Nm) (hx:bj x a=false) (hs:x≠s) (h1:Dv (dB (.name x) a 0) s c) (h2:Dv (dB (.name x) a 0) x d) (hl:(pO a x c d).atoms<=400):Dv (.rc a) s (pO a x c d)
theorem zg{f:Nm->Nm}(hf:N4 f)(a:Ty)(x:Nm)(c d:Ty):jM f (pO a x c d)=pO (jM f a) (f x) (jM f c) (jM f d):=by
 simp only[pO,jM,l5 hf]
theorem Dv.jM{f:Nm->Nm}(hf:N4 f){t d:Ty}{s:Nm}(h:Dv t s d):Dv (jM f t) (f s) (jM f d):=by
 induction h with
 |zero s=>exact .zero _
 |one s=>exact .one _
 |bound k s=>exact .bound _ _
 |hit s=>exact .hit _
 |qx h=>exact .qx fun e=>h (hf _ _ e)
 |plus h1 h2 hl i1 i2=>exact .plus i1 i2 (by rw[<-gT f]at hl;exact hl)
 |times h1 h2 hl i1 i2=>exact .times i1 i2 (by rw[<-gT f]at hl;exact hl)
 |
  rc x hx hs h1 h2 hl i1 i2 =>
  rw[zg hf]
  rw[lZ]at i1 i2
  exact .rc (f x) (by rw[m8 hf];exact hx) (fun e=>hs (hf _ _ e)) i1 i2 (by rw[<-zg hf,gT];exact hl)
theorem Dv.names{t d:Ty}{s:Nm}(h:Dv t s d):∀y,bj y d=true->bj y t=true:=by
 induction h with
 |zero s=>intro y hy;cases hy
 |one s=>intro y hy;cases hy
 |bound k s=>intro y hy;cases hy
 |hit s=>intro y hy;cases hy
 |qx h=>intro y hy;cases hy
 |
  plus h1 h2 hl i1 i2 =>
  intro y hy
  simp only[bj,bB]at hy |-
  rcases hy with hy|hy
  ·exact .inl (i1 y hy)
  ·exact .inr (i2 y hy)
 |
  times h1 h2 hl i1 i2 =>
  intro y hy
  simp only[bj,bB]at hy |-
  rcases hy with(hy|hy)|(hy|hy)
  ·exact .inl (i1 y hy)
  ·exact .inr hy
  ·exact .inl hy
  ·exact .inr (i2 y hy)
 |
  rc x hx hs h1 h2 hl i1 i2 =>
  intro y hy
  simp only[pO,bj,bB,Bool.or_false]at hy |-
  have key:∀{a c:Ty},(∀y,bj y c=true->bj y (dB (.name x) a 0)=true)->bj y (sub x (.rc a) c)=true->bj y a=true:=fun i h=>by
   rcases ja _ h with h|⟨h,h'⟩
   ·exact h
   ·rcases gy _ _ (i y h')with e|e
    ·exact absurd e h
    ·exact e
  rcases hy with hy|hy
  ·exact key i1 hy
  ·exact key i2 hy
theorem Dv.fresh{t d:Ty}{s y:Nm}(h:Dv t s d)(hy:bj y t=false):bj y d=false:=by
 cases e:bj y d with
 |false=>rfl
 |true=>rw[h.names y e]at hy;cases hy
theorem Dv.move{a c:Ty}{x y s:Nm}(hx:bj x a=false)(hy:bj y a=false)(h:Dv (dB (.name x) a 0) s c):Dv (dB (.name y) a 0) (swp x y s) (Go.Proofs.Trees.jM (swp x y) c):=by
 have:=h.jM (xU x y)
 rw[lZ,vK,uB hx hy]at this
 exact this
theorem mD{a c:Ty}{x y s:Nm}(hx:bj x a=false)(hy:bj y a=false)(h:Dv (dB (.name x) a 0) s c):sub y (.rc a) (jM (swp x y) c)=sub x (.rc a) c:=by
 have e:=l5 (xU x y) x (.rc a) c
 rw[vK,uB (t:=.rc a) hx hy]at e
 rw[<-e]
 have key:∀z,(z=x\/z=y)->bj z (sub x (.rc a) c)=false:=fun z hz=>by
  cases q:bj z (sub x (.rc a) c)with
  |false=>rfl
  |
   true =>
   exfalso
   have hz':bj z a=false:=by rcases hz with rfl|rfl<;>assumption
   rcases ja _ q with h1|⟨h1,h2⟩
   ·rw[show bj z (.rc a)=bj z a from rfl,hz']at h1;cases h1
   ·rcases gy _ _ (h.names z h2)with e|e
    ·exact h1 e
    ·rw[hz']at e;cases e
 exact uB (key x (.inl rfl)) (key y (.inr rfl))
theorem Dv.uniq:∀(n:Nat) (t:Ty),t.atoms<=n->∀{s:Nm} {d d':Ty},Dv t s d->Dv t s d'->d=d'
 |0,t,h,_,_,_,_,_=>by have:=ej t;omega
 |
  n+1,t,hn,s,d,d',h,h'=>by
  cases h with
  |zero=>cases h';rfl
  |one=>cases h';rfl
  |bound=>cases h';rfl
  |
   hit =>
   cases h' with
   |hit=>rfl
   |qx h=>exact absurd rfl h
  |
   qx h =>
   cases h' with
   |hit=>exact absurd rfl h
   |qx _=>rfl
  |
   plus h1 h2 =>
   simp only[Ty.atoms]at hn
   cases h' with
   |plus g1 g2=>rw[Dv.uniq n _ (by omega) h1 g1,Dv.uniq n _ (by omega) h2 g2]
  |
   times h1 h2 =>
   simp only[Ty.atoms]at hn
   cases h' with
   |times g1 g2=>rw[Dv.uniq n _ (by omega) h1 g1,Dv.uniq n _ (by omega) h2 g2]
  |
   rc x hx hs h1 h2 =>
   simp only[Ty.atoms]at hn
   cases h' with
   |
    rc y hy hs' g1 g2 =>
    rename_i a _ _ _ _ _ _
    have m1:=h1.move hx hy
    have m2:=h2.move hx hy
    rw[AX (Ne.symm hs) (Ne.symm hs')]at m1
    rw[vK]at m2
    have e1:=Dv.uniq n _ (by rw[fH];omega) m1 g1
    have e2:=Dv.uniq n _ (by rw[fH];omega) m2 g2
    rw[pO,pO,<-e1,<-e2,mD hx hy h1,mD hx hy h2]
theorem Dv.small{t d:Ty}{s:Nm}(h:Dv t s d):d.atoms<=400:=by
 cases h<;>first|assumption|simp[Ty.atoms]
open Classical in
noncomputable def lW (t:Ty) (s:Nm):Option Ty:=if h:∃d,Dv t s d then some (Classical.choose h)else none
theorem cR{t:Ty}{s:Nm}{d:Ty}:lW t s=some d↔Dv t s d:=by
 unfold lW
 by_cases h:∃d,Dv t s d
 ·rw[dif_pos h]
  have:=Classical.choose_spec h
  constructor
  ·intro e;cases e;exact this
  ·intro g;rw[Dv.uniq _ t (au _) this g]
 ·rw[dif_neg h]
  exact⟨fun e=>(by cases e),fun g=>absurd ⟨d,g⟩ h⟩
def nH(t:Ty):Option Ty:=if t.atoms<=400 then some t else none
theorem eS{t d:Ty}:nH t=some d↔t.atoms<=400/\t=d:=by
 unfold nH
 split
 ·rename_i h;simp[h]
 ·rename_i h;simp[h]
theorem qN{α:Type}{a b:Option α}(h:∀d,a=some d↔b=some d):a=b:=by
 cases a with
 |
  none=>cases b with
  |none=>rfl
  |some x=>have:=(h x).2 rfl;cases this
 |some x=>exact((h x).1 rfl).symm
theorem vj(s:Nm):lW .zero s=some .zero:=cR.2 (.zero _)
theorem yz(s:Nm):lW .one s=some .zero:=cR.2 (.one _)
theorem Ag(k:Nat)(s:Nm):lW (.bound k) s=some .zero:=cR.2 (.bound _ _)
theorem oB(n s:Nm):lW (.name n) s=some (if n=s then .one else .zero):=by
 split
 ·rename_i h;subst h;exact cR.2 (.hit _)
 ·rename_i h;exact cR.2 (.qx h)
theorem vo(a b:Ty)(s:Nm):lW (.plus a b) s=(lW a s).bind fun a'=>(lW b s).bind fun b'=>nH (.plus a' b'):=by
 refine qN fun d=>?_
 rw[cR]
 simp only[bm,cR,eS]
 constructor
 ·intro h;cases h with|plus h1 h2 hl=>exact⟨_,h1,_,h2,hl,rfl⟩
 ·rintro⟨a',h1,b',h2,hl,rfl⟩;exact .plus h1 h2 hl
theorem s4(a b:Ty)(s:Nm):lW (.times a b) s=(lW a s).bind fun a'=>(lW b s).bind fun b'=>nH (.plus (.times a' b) (.times a b')):=by
 refine qN fun d=>?_
 rw[cR]
 simp only[bm,cR,eS]
 constructor
 ·intro h;cases h with|times h1 h2 hl=>exact⟨_,h1,_,h2,hl,rfl⟩
 ·rintro⟨a',h1,b',h2,hl,rfl⟩;exact .times h1 h2 hl
theorem Bx{a:Ty}{s x:Nm}(hx:bj x a=false)(hs:x≠s):lW (.rc a) s=(lW (dB (.name x) a 0) s).bind fun c=>(lW (dB (.name x) a 0) x).bind fun d=>nH (pO a x c d):=by
 refine qN fun d=>?_
 rw[cR]
 simp only[bm,cR,eS]
 constructor
 ·intro h
  cases h with
  |
   rc y hy hs' h1 h2 hl =>
   have m1:=h1.move hy hx
   have m2:=h2.move hy hx
   rw[AX (Ne.symm hs') (Ne.symm hs)]at m1
   rw[vK]at m2
   refine⟨_,m1,_,m2,?_⟩
   have e:∀c d,sub x (.rc a) (jM (swp y x) c)=sub y (.rc a) c->sub x (.rc a) (jM (swp y x) d)=sub y (.rc a) d->pO a x (jM (swp y x) c) (jM (swp y x) d)=pO a y c d:=fun c d e1 e2=>by rw[pO,pO,e1,e2]
   rw[e _ _ (mD hy hx h1) (mD hy hx h2)]
   exact⟨hl,rfl⟩
 ·rintro⟨c,h1,d',h2,hl,rfl⟩;exact .rc x hx hs h1 h2 hl
noncomputable def n9 (a:Ty) (x:Nm):Option Ty:=(lW (dB (.name x) a 0) x).bind fun d=>nH (sub x (.rc a) d)
theorem HL{a:Ty}{x y:Nm}(hx:bj x a=false)(hy:bj y a=false):n9 a x=n9 a y:=by
 have key:∀{x y:Nm} {d:Ty},bj x a=false->bj y a=false->n9 a x=some d->n9 a y=some d:=fun {x y d} hx hy h=>by
  simp only[n9,bm,cR,eS]at h |-
  obtain⟨d',h1,hl,rfl⟩:=h
  have m1:=h1.move hx hy
  rw[vK]at m1
  exact⟨_,m1,by rw[mD hx hy h1];exact⟨hl,rfl⟩⟩
 exact qN fun d=>⟨key hx hy,key hy hx⟩
end Go.Proofs.Trees
namespace Go.Proofs.Trees
open Go Go.VL
theorem RV(b:UInt8):an Tryz.prog 161 [.v (.int .u8 (b.toNat:Int))] [] (bJ (.v (.bool (fe b)))):=by
 refine P4 _ ?_
 simp only[Ow,↓zq,zs,ae,bJ,fe]
 repeat' (apply aH<;>intro _)
 all_goals first|(congr 2;rw[cx];simp;omega)|(congr 2;simp;omega)
def C9(s:List UInt8)(x:Option (E×List UInt8)):AV->List Ob->Prop:=fun r o=>o=[] /\
 match x with
 |some (e,u)=>r=.cI [e.kG,.v (.int .i64 ((s.length-u.length:Nat):Int))]
 |none=>∃(c:List UInt8) (d:AV),LK.sl.has d/\r=.cI [.agg [.v (.string (mk c)),d],.v (.int .i64 (-1))]
theorem C9.ne(s:List UInt8)(x:Option (E×List UInt8)):∃r o,C9 s x r o:=by
 cases x with
 |some q=>exact⟨_,_,rfl,rfl⟩
 |none=>exact⟨_,_,rfl,[],.v (.slice none 0 0),(bp).mpr trivial,rfl⟩
def jc(c:List UInt8)(d:AV):Ob:=.cells [.v (.string (mk c)),d]
theorem Ml(s:List UInt8)(hs:s.length<=8000)(from_:Int)(c1 c2:List UInt8)(d1 d2:AV)(h1:LK.sl.has d1)(h2:LK.sl.has d2):∀(k i:Nat),i+k=s.length->FV [.v (.string (mk s)),.v (.int .i64 (i:Int)),.v (.int .i64 from_)] [jc c1 d1,jc c2 d2]
 (ib 1 [.v (.string (mk s)),.v (.int .i64 ((i+((s.drop i).takeWhile fe).length:Nat):Int)),.v (.int .i64 from_)] [jc c1 d1,jc c2 d2])
 |
  0,i,hi=>by
  refine NK _ _ _ _ _ _ _ ?_
  have hd:s.drop i=[]:=bV (by omega)
  simp only[HW,↓zq,zs,ae,zt]
  exact⟨h1,h2,fun h=>by omega,fun _=>by simp[ib,hd,jc]⟩
 |
  k+1,i,hi=>by
  have hlt:i<s.length:=by omega
  refine NK _ _ _ _ _ _ _ ?_
  simp only[HW,↓zq,zs,ae,zt,mg s i hlt]
  refine⟨h1,h2,fun _=>⟨by omega,?_⟩,fun h=>by omega⟩
  refine aj (RV _) ?_
  simp only[↓zq,zs,ae]
  refine⟨fun hb=>?_,fun hb=>?_⟩
  ·rw[bA i (by omega)]
   have:=Ml s hs from_ c1 c2 d1 d2 h1 h2 k (i+1) (by omega)
   rw[yq hlt hb,show i+(((s.drop (i+1)).takeWhile fe).length+1)=i+1+((s.drop (i+1)).takeWhile fe).length by omega]
   exact this
  ·simp[ib,qW hlt hb,jc]
def Tl(s:List UInt8)(x:Option (E×List UInt8)):Nat->List AV->List Ob->Prop:=fun t ys o=>t=2 /\
 match x with
 |some (e,u)=>∃l,e=.list l/\ys=[.v (.int .i64 ((s.length-u.length:Nat):Int))]/\o=[jc [] .any,.vec 2 (E.bw l)]
 |none=>∃es,ys=[.v (.int .i64 (-1))]/\o=[jc [] .any,.vec 2 es]
theorem xV(e:E):(e.kG=.agg e.kG.cs/\e.kG.cs.length=2/\bD [.str,.sl] e.kG.cs 0)=True:=by
 apply eq_true
 cases e<;>simp[E.kG,E.ik,CA,bD,dW,bp,cc]
theorem xz(e:E):[AV.v (.string ((e.kG.cs.getD 0 .any).toStr)),e.kG.cs.getD 1 .any]=e.ik:=by
 cases e<;>rfl
theorem drop_cons{s:List UInt8}{j:Nat}(hj:j<s.length):s.drop j=s.getD j 0::s.drop (j+1):=by
 rw[aT hj];simp[aa,hj]
theorem Mf(s:List UInt8)(hs:s.length<=8000)(d:Nat)(hd:d<=300)(f:List UInt8->Option (E×List UInt8))(hf:∀u e r,f u=some (e,r)->∃j,r=u.drop j/\0<j/\j<=u.length)
 (ih:∀j,j<=s.length->an Tryz.prog 142 [.v (.string (mk s)),.v (.int .i64 (j:Int)),.v (.int .i64 ((d+1:Nat):Int))] [] (C9 s (f (s.drop j)))) :
 ∀(n i:Nat) (acc:List E) (c1:List UInt8) (d1:AV),LK.sl.has d1->s.length-(i+1)<n->i<s.length->s.length-i+acc.length<=8001->He [.v (.string (mk s)),.v (.int .i64 (i:Int)),.v (.int .i64 (d:Int))] [jc c1 d1,jc [] .any,.vec 2 (E.bw acc)]
  (Tl s (ss f n (s.drop (i+1)) acc))
 |0,i,acc,c1,d1,h1,hn,_,_=>by omega
 |
  n+1,i,acc,c1,d1,h1,hn,hi,hl=>by
  refine Pr _ _ _ _ _ _ _ ?_
  simp only[Nx,↓zq,zs,ae,jc]
  refine⟨h1,?_⟩
  rw[bA i (by omega),bA d (by omega)]
  refine aP (ih (i+1) (by omega)) (C9.ne _ _) ?_
  rintro r o ⟨rfl,hr⟩
  have hff:=hf (s.drop (i+1))
  unfold ss
  cases hq:f (s.drop (i+1))with
  |
   none =>
   rw[hq]at hr
   obtain⟨c,d',hd',rfl⟩:=hr
   simp only[↓zq,zs,ae,zt,bD]
   refine⟨hd',fun _=>⟨rfl,_,rfl,rfl⟩,fun h=>by omega⟩
  |
   some q =>
   obtain⟨e,u⟩:=q
   rw[hq]at hr
   subst hr
   obtain⟨j,hu,hj0,hj⟩:=hff e u hq
   rw[List.drop_drop]at hu
   simp only[cw]at hj
   have hul:u.length=s.length-(i+1+j):=by rw[hu,cw]
   have hpos:s.length-u.length=i+1+j:=by omega
   simp only[↓zq,zs,ae,zt,xV,hpos,xz,ef]
   refine⟨fun h=>by omega,fun _=>⟨fun h=>?_,fun h=>⟨⟨fun c hc=>(by simp at hc;rw[hc];cases e<;>rfl),by omega⟩,?_⟩⟩⟩
   ·have:u=[]:=by rw[hu];exact bV (by omega)
    subst this
    exact⟨rfl,_,rfl,rfl⟩
   ·have hlt:i+1+j<s.length:=by omega
    rw[drop_cons hlt]at hu
    subst hu
    rw[mg s _ hlt]
    generalize hb:s.getD (i+1+j) 0=b
    refine⟨by omega,fun h41=>?_,fun h41=>⟨by omega,fun h32=>?_,fun h32=>?_⟩⟩
    ·have h41':b.toNat=41:=by omega
     dsimp only
     rw[if_pos h41',bA _ (by omega)]
     refine⟨rfl,acc++[e],rfl,?_,?_⟩
     ·rw[cw];congr 3;omega
     ·simp[jc,qg,E.bw]
    ·have h41':¬b.toNat=41:=by omega
     have h32':¬b.toNat=32:=by omega
     dsimp only
     rw[if_neg h41',if_neg h32']
     exact⟨rfl,_,rfl,rfl⟩
    ·have h41':¬b.toNat=41:=by omega
     have h32':b.toNat=32:=by omega
     dsimp only
     rw[if_neg h41',if_pos h32']
     have:=Mf s hs d hd f hf ih n (i+1+j) (acc++[e]) c1 d1 h1 (by omega) hlt (by simp;omega)
     simpa[jc,qg,E.bw]using this
theorem DT(k:Nat)(u:List UInt8)(e:E)(r:List UInt8)(h:rd k u=some (e,r)):∃j,r=u.drop j/\0<j/\j<=u.length:=by
 have suf:∀(k:Nat) (u:List UInt8) (e:E) (r:List UInt8),rd k u=some (e,r)->r <:+ u:=by
  intro k
  have tw:∀u:List UInt8,u.dropWhile fe <:+ u:=fun u=>List.dropWhile_suffix _
  have ll:∀(f:List UInt8->Option (E×List UInt8)),(∀u e r,f u=some (e,r)->r <:+ u)->∀(n:Nat) (u:List UInt8) (acc:List E) (e:E) (r:List UInt8),ss f n u acc=some (e,r)->r <:+ u:=by
   intro f hf n
   induction n with
   |zero=>intro u acc e r h;cases h
   |
    succ n ih =>
    intro u acc e r h
    simp only[ss]at h
    split at h
    ·rename_i p c r' hs
     have h1:r' <:+ u:=(List.suffix_cons c r').trans (hf _ _ _ hs)
     split at h
     ·cases h;exact h1
     ·split at h
      ·exact(ih _ _ _ _ h).trans h1
      ·cases h
    ·cases h
  induction k with
  |
   zero =>
   intro u e r h
   simp only[rd]at h
   split at h
   ·cases h
   ·cases h;exact tw u
  |
   succ k ih =>
   intro u e r h
   simp only[rd]at h
   split at h
   ·split at h
    ·split at h
     ·exact(ll _ ih _ _ _ _ _ h).trans (List.suffix_cons _ _)
     ·cases h
    ·cases h
   ·cases h;exact tw u
 obtain⟨p,hp⟩:=suf k u e r h
 have hlt:=yW k u e r h
 have:=congrArg List.length hp
 simp only[aq]at this
 exact⟨p.length,by rw[<-hp];simp,by omega,by omega⟩
theorem Cb(n:Nat)(u:List UInt8)(acc:List E):ss (fun _=>none) n u acc=none:=by
 cases n<;>rfl
theorem RZ(s:List UInt8)(j:Nat):an Tryz.prog 142 [.v (.string (mk s)),.v (.int .i64 (j:Int)),.v (.int .i64 ((300+1:Nat):Int))] [] (C9 s none):=by
 refine L0 _ _ _ ?_
 simp only[Hb,↓zq,zs,ae]
 exact⟨fun _=>⟨rfl,[],_,(bp).mpr trivial,rfl⟩,fun h=>by omega⟩
theorem p7(s:List UInt8)(hs:s.length<=8000)(d i:Nat)(hd:d<=300)(hi:i<=s.length)(f:List UInt8->Option (E×List UInt8))(hf:∀u e r,f u=some (e,r)->∃j,r=u.drop j/\0<j/\j<=u.length)
 (ih:∀j,j<=s.length->an Tryz.prog 142 [.v (.string (mk s)),.v (.int .i64 (j:Int)),.v (.int .i64 ((d+1:Nat):Int))] [] (C9 s (f (s.drop j)))) (x:Option (E×List UInt8))
 (h0:i=s.length->x=none)
 (h1:i<s.length->(s.drop i).takeWhile fe≠[]->x=some (.atom ((s.drop i).takeWhile fe),(s.drop i).dropWhile fe))
 (h2:i<s.length->(s.drop i).takeWhile fe=[]->¬(s.getD i 0).toNat=40->x=none)
 (h3:i<s.length->(s.getD i 0).toNat=40->x=ss f (s.length-(i+1)+1) (s.drop (i+1)) []) :
 an Tryz.prog 142 [.v (.string (mk s)),.v (.int .i64 (i:Int)),.v (.int .i64 (d:Int))] [] (C9 s x):=by
 refine L0 _ _ _ ?_
 simp only[Hb,↓zq,zs,ae,zt]
 refine⟨fun h=>by omega,fun _=>⟨fun h=>?_,fun h=>⟨by omega,?_⟩⟩⟩
 ·rw[h0 (by omega)]
  exact⟨rfl,[],_,(bp).mpr trivial,rfl⟩
 ·have hlt:i<s.length:=by omega
  rw[mg s i hlt]
  refine⟨fun h40=>?_,fun h40=>?_⟩
  ·have h40':¬(s.getD i 0).toNat=40:=by omega
   refine cD (Ml s hs _ [] [] _ _ ((bp).mpr trivial) ((bp).mpr trivial) (s.length-i) i (by omega)) ?_
   have hex:(List.take (i+((s.drop i).takeWhile fe).length) s).drop i=(s.drop i).takeWhile fe:=by
    rw[List.drop_take,Nat.add_sub_cancel_left];exact uR _
   have hle:i+((s.drop i).takeWhile fe).length<=s.length:=by
    have:=uO (s.drop i);simp only[cw]at this;omega
   simp only[jc,↓zq,zs,ae,zt,hex]
   refine⟨by omega,fun hnil=>?_,fun hnil=>?_⟩
   ·rw[h2 hlt hnil h40',hnil]
    exact⟨rfl,[],_,(bp).mpr trivial,rfl⟩
   ·rw[h1 hlt hnil]
    refine⟨rfl,?_⟩
    have:=uO (s.drop i)
    simp only[cw]at this
    show _=AV.cI [E.kG (.atom _),_]
    have e:s.length-((s.drop i).dropWhile fe).length=i+((s.drop i).takeWhile fe).length:=by omega
    rw[e];rfl
  ·have h40':(s.getD i 0).toNat=40:=by omega
   rw[h3 hlt h40']
   refine kX (Mf s hs d hd f hf ih (s.length-(i+1)+1) i [] [] _ ((bp).mpr trivial) (by omega) hlt (by simp;omega)) ?_ ?_
   ·rintro ys o ⟨h,_⟩;cases h
   ·rintro ys o ⟨_,hr⟩
    cases hq:ss f (s.length-(i+1)+1) (s.drop (i+1)) []with
    |
     none =>
     rw[hq]at hr
     obtain⟨es,rfl,rfl⟩:=hr
     simp only[jc,↓zq,zs,ae]
     exact⟨rfl,[],_,(cc _).mpr trivial,rfl⟩
    |
     some q =>
     obtain⟨e,u⟩:=q
     rw[hq]at hr
     obtain⟨l,rfl,rfl,rfl⟩:=hr
     simp only[jc,↓zq,zs,ae]
     exact⟨rfl,rfl⟩
theorem Pj(s:List UInt8)(hs:s.length<=8000):∀(k:Nat),k<=300->∀i,i<=s.length->an Tryz.prog 142 [.v (.string (mk s)),.v (.int .i64 (i:Int)),.v (.int .i64 ((300-k:Nat):Int))] [] (C9 s (rd k (s.drop i))):=by
 intro k
 have hnil:∀k,rd k []=none:=fun k=>by cases k<;>simp[rd]
 have ha40:∀b:UInt8,b.toNat=40->fe b=false:=fun b hb=>by simp[fe,hb]
 induction k with
 |
  zero =>
  intro hk i hi
  refine p7 s hs 300 i (by omega) hi (fun _=>none) (fun _ _ _ h=>by cases h) (fun j _=>RZ s j) _ (fun h=>?_) (fun hlt h=>?_) (fun hlt h h40=>?_) (fun hlt h40=>?_)
  ·rw[bV (by omega)];exact hnil 0
  ·simp only[rd,if_neg h]
  ·simp only[rd,if_pos h]
  ·rw[Cb]
   have:(s.drop i).takeWhile fe=[]:=qW hlt (ha40 _ h40)
   simp only[rd,if_pos this]
 |
  succ k ih =>
  intro hk i hi
  have hd:300-(k+1)+1=300-k:=by omega
  refine p7 s hs (300-(k+1)) i (by omega) hi (rd k) (DT k) (fun j hj=>by rw[hd];exact ih (by omega) j hj) _ (fun h=>?_) (fun hlt h=>?_) (fun hlt h h40=>?_) (fun hlt h40=>?_)
  ·rw[bV (by omega)];exact hnil _
  ·simp only[rd,if_neg h]
  ·rw[drop_cons hlt]at h |-
   simp only[rd,if_pos h,if_neg h40]
  ·have h:=qW hlt (ha40 _ h40)
   rw[drop_cons hlt]at h |-
   simp only[rd,if_pos h,if_pos h40,cw]
end Go.Proofs.Trees
namespace Go.Proofs.Trees
open Go Go.VL
theorem iU(e:E):AV.agg [.v (.string ((e.ik.getD 0 .any).toStr)),e.ik.getD 1 .any]=e.kG:=by cases e<;>rfl
theorem gd(e:E):e.ik.length=2:=by cases e<;>rfl
theorem iQ(e:E):bD [.str,.sl] e.ik 0=True:=by
 apply eq_true
 cases e<;>simp[E.ik,bD,dW,bp,cc]
theorem mH(e:E):e.ik.headD .any=.v (.string (mk e.at)):=by cases e<;>rfl
theorem u6(x:E)(l:List E):an Tryz.prog 86 [.agg [.v (.string (mk [])),.sl (E.bw (x::l))]] [] (bJ (.v (.string (mk x.at)))):=by
 refine HG _ _ ((cc _).mpr trivial) ?_
 simp only[DW,E.bw,↓zq,zs,ae,zt,bJ,gd,mH,au]
 refine⟨fun h=>absurd rfl h,fun _=>⟨fun h=>by omega,fun _=>⟨by omega,by omega⟩⟩⟩
theorem PF:an Tryz.prog 86 [.agg [.v (.string (mk [])),.sl (E.bw [])]] [] (bJ (.v (.string (mk [])))):=by
 refine HG _ _ ((cc _).mpr trivial) ?_
 simp only[DW,E.bw,↓zq,zs,ae,zt,bJ,gd,mH,au]
 simp
def j2:E->Bool
 | .atom s=>(s==[48])||(s==[49])||gX s||di s
 | .list [x,a,b]=>if x.at=[43]then j2 a&&j2 b else if x.at=[42]then j2 a&&j2 b else if x.at=[114,101,99]then di a.at&&j2 b else false
 | .list _=>false
theorem zP:∀(e:E),e.ok->an Tryz.prog 117 [e.kG] [] (bJ (.v (.bool (j2 e))))
 |
  .atom s,hok=>by
  refine JJ _ _ ((bp).mpr trivial) ?_
  have hne:s≠[]:=hok
  simp only[wX,↓zq,zs,ae,zt,bJ,j2]
  refine⟨fun _=>⟨fun h=>?_,fun h=>⟨fun h1=>?_,fun h1=>?_⟩⟩,fun h=>absurd h hne⟩
  ·simp[h]
  ·simp[h1]
  ·refine aj (GJ s) ?_
   simp only[↓zq,zs,ae]
   refine⟨fun hp=>?_,fun hp=>?_⟩
   ·simp[hp]
   ·refine aj (HQ s) ?_
    simp[↓zq,zs,ae,hp,h,h1]
 |
  .list l,hok=>by
  refine JJ _ _ ((cc _).mpr trivial) ?_
  match l,hok with
  |[],hok=>simp[wX,E.bw,↓zq,zs,ae,zt,bJ,j2]
  |[x],hok=>simp[wX,E.bw,↓zq,zs,ae,zt,bJ,j2]
  |[x,y],hok=>simp[wX,E.bw,↓zq,zs,ae,zt,bJ,j2]
  |
   x::y::z::w::l,hok =>
   simp only[wX,E.bw,↓zq,zs,ae,zt,bJ,j2]
   exact⟨fun h=>absurd rfl h,fun _=>⟨fun _=>trivial,fun h=>by omega⟩⟩
  |
   [x,y,z],hok =>
   obtain⟨ok1,ok2,ok3,_⟩:=hok
   simp only[wX,↓zq,zs,ae,zt,bJ]
   refine⟨fun h=>absurd rfl h,fun _=>⟨fun h=>absurd rfl h,fun _=>?_⟩⟩
   refine aj (u6 x _) ?_
   simp only[E.bw,toNat_one,bf,↓zq,zs,ae,zt,iU,gd,iQ,mH,au,j2]
   refine⟨fun h=>?_,fun h=>⟨fun h1=>?_,fun h1=>⟨fun h2=>?_,fun h2=>?_⟩⟩⟩
   ·rw[if_pos h]
    refine⟨by omega,aj (zP y ok2) ?_⟩
    simp only[↓zq,zs,ae]
    refine⟨fun hy=>⟨by omega,aj (zP z ok3) ?_⟩,fun hy=>?_⟩
    ·simp only[↓zq,zs,ae,hy,bX]
    ·rw[hy];rfl
   ·rw[if_neg h,if_pos h1]
    refine⟨by omega,aj (zP y ok2) ?_⟩
    simp only[↓zq,zs,ae]
    refine⟨fun hy=>⟨by omega,aj (zP z ok3) ?_⟩,fun hy=>?_⟩
    ·simp only[↓zq,zs,ae,hy,bX]
    ·rw[hy];rfl
   ·rw[if_neg h,if_neg h1,if_pos h2]
    refine⟨by omega,by omega,aj (HQ _) ?_⟩
    simp only[↓zq,zs,ae]
    refine⟨fun hy=>⟨by omega,aj (zP z ok3) ?_⟩,fun hy=>?_⟩
    ·simp only[↓zq,zs,ae,hy,bX]
    ·rw[hy];rfl
   ·rw[if_neg h,if_neg h1,if_neg h2]
theorem iZ:∀(e:E) (ar:List (List UInt8)),(cT e ar).isSome=j2 e
 |
  .atom s,ar=>by
  simp only[cT,j2]
  by_cases h:s=[48]
  ·simp[h]
  ·by_cases h1:s=[49]
   ·simp[h1]
   ·rw[if_neg h,if_neg h1]
    by_cases h2:gX s=true
    ·simp[h2]
    ·rw[if_neg h2]
     by_cases h3:di s=true
     ·rw[if_pos h3];cases bO s ar ar.length<;>simp[h3]
     ·rw[if_neg h3];simp[h,h1,h2,h3]
 | .list [],_=>rfl
 | .list [_],_=>rfl
 | .list [_,_],_=>rfl
 | .list (_::_::_::_::_),_=>rfl
 |
  .list [x,a,b],ar=>by
  have ha:=iZ a ar
  have hb:=iZ b ar
  have hb2:=iZ b (ar++[a.at])
  rw[j2]
  by_cases h:x.at=[43]
  ·rw[kQ ar h,if_pos h,<-ha,<-hb];cases cT a ar<;>cases cT b ar<;>rfl
  ·by_cases h1:x.at=[42]
   ·rw[jP ar h1,if_neg h,if_pos h1,<-ha,<-hb];cases cT a ar<;>cases cT b ar<;>rfl
   ·by_cases h2:x.at=[114,101,99]
    ·rw[mP ar h2,if_neg h,if_neg h1,if_pos h2,<-hb2]
     cases di a.at<;>cases cT b (ar++[a.at])<;>rfl
    ·rw[jh ar h h1 h2,if_neg h,if_neg h1,if_neg h2];rfl
mutual
def E.db:E->Nat
 | .atom _=>1
 | .list l=>E.eV l
def E.eV:List E->Nat
 |[]=>0
 |e::l=>e.db+E.eV l
end
mutual
theorem iS:∀e:E,e.db<=e.sz
 | .atom s=>by simp[E.db,E.sz]
 | .list l=>by have:=uX l;simp only[E.db,E.sz];omega
theorem uX:∀l:List E,E.eV l<=E.jo l
 |[]=>by simp[E.eV,E.jo]
 |e::l=>by have:=iS e;have:=uX l;simp only[E.eV,E.jo];omega
end
theorem jD:∀(l:List E) (i:Nat) (h:i<l.length),(E.bw l).getD i []=(l[i]).ik
 |e::l,0,_=>rfl
 |
  e::l,i+1,h=>by
  have:=jD l i (by simpa using h)
  simp only[E.bw,List.getD_cons_succ,List.getElem_cons_succ];exact this
theorem zr:∀(l:List E) (i:Nat) (h:i<l.length),E.eV (l.drop i)=(l[i]).db+E.eV (l.drop (i+1)):=by
 intro l i h
 rw[aT h];rfl
theorem tQ:∀(l:List E) (i:Nat) (h:i<l.length),E.C8 l->(l[i]).ok
 |e::l,0,_,h=>h.1
 |e::l,i+1,hi,h=>tQ l i (by simpa using hi) h.2
theorem NJ(l:List E)(hl:E.eV l<1000000)(hll:l.length<1000000)(ih:∀i (h:i<l.length),an Tryz.prog 88 [(l[i]).kG] [] (bJ (.v (.int .i64 ((l[i]).db:Int))))) :
 ∀(k i n:Nat),i+k=l.length->n+E.eV (l.drop i)<=E.eV l->HM [.v (.int .i64 (n:Int)),.v (.int .i64 (i:Int))] [.cells [.v (.string (mk [])),.sl (E.bw l)]] (ib 1 [.v (.int .i64 ((n+E.eV (l.drop i):Nat):Int))] [])
 |
  0,i,n,hi,hn=>by
  refine Lq _ _ _ _ ?_
  simp only[E6,↓zq,zs,ae,ef]
  have:l.drop i=[]:=bV (by omega)
  refine⟨fun h=>by omega,fun _=>?_⟩
  simp[ib,this,E.eV]
 |
  k+1,i,n,hi,hn=>by
  have hlt:i<l.length:=by omega
  refine Lq _ _ _ _ ?_
  simp only[E6,↓zq,zs,ae,zt,ef,jD l i hlt,gd,iQ,iU,au]
  refine⟨fun _=>⟨by omega,?_⟩,fun h=>by omega⟩
  refine aj (ih i hlt) ?_
  have h1:=zr l i hlt
  simp only[↓zq,zs,ae]
  rw[bA i (by omega),wrap64 _ (by omega) (by omega)]
  have:=NJ l hl hll ih k (i+1) (n+(l[i]).db) (by omega) (by omega)
  rw[h1,<-Nat.add_assoc]
  simpa using this
theorem tY:∀l:List E,l.length<=E.jo l
 |[]=>by simp[E.jo]
 |
  e::l=>by
  have:=tY l
  have:1<=e.sz:=by cases e<;>simp[E.sz]
  simp only[E.jo,az];omega
theorem ud:∀(l:List E) (i:Nat) (h:i<l.length),(l[i]).sz<=E.jo l
 |e::l,0,_=>by simp[E.jo]
 |e::l,i+1,h=>by have:=ud l i (by simpa using h);simp only[E.jo,List.getElem_cons_succ];omega
theorem Oa:∀(n:Nat) (e:E),e.sz<n->e.ok->e.sz<1000000->an Tryz.prog 88 [e.kG] [] (bJ (.v (.int .i64 (e.db:Int))))
 |0,e,hn,_,_=>by omega
 |
  n+1,.atom s,hn,hok,hl=>by
  refine L9 _ _ ((bp).mpr trivial) ?_
  have hne:s≠[]:=hok
  simp only[H3,↓zq,zs,ae,zt,bJ]
  exact⟨fun _=>rfl,fun h=>absurd h hne⟩
 |
  n+1,.list l,hn,hok,hl=>by
  refine L9 _ _ ((cc _).mpr trivial) ?_
  simp only[E.sz]at hn hl
  have h1:=uX l
  have h2:=tY l
  simp only[H3,↓zq,zs,ae,zt,bJ]
  refine⟨fun h=>absurd rfl h,fun _=>?_⟩
  refine cD (NJ l (by omega) (by omega) (fun i hi=>?_) l.length 0 0 (by omega) (by simp)) ?_
  ·have:=ud l i hi
   exact Oa n (l[i]) (by omega) (tQ l i hi hok) (by omega)
  ·simp[↓zq,zs,ae,E.db]
theorem CS(e:E)(h:e.ok)(hl:e.sz<1000000):an Tryz.prog 88 [e.kG] [] (bJ (.v (.int .i64 (e.db:Int)))):=Oa (e.sz+1) e (by omega) h hl
theorem ub{x:E}(h:x.at≠[]):x.db=1:=by cases x<;>simp[E.at,E.db]at h |-
theorem AL{s:List UInt8}(h:di s=true):s≠[]:=by rintro rfl;cases h
theorem j5:∀(e:E) (ar:List (List UInt8)) (t:Ty),cT e ar=some t->e.db=t.atoms
 |
  .atom s,ar,t,h=>by
  simp only[cT]at h
  simp only[E.db]
  split at h
  ·cases h;rfl
  ·split at h
   ·cases h;rfl
   ·split at h
    ·cases h;rfl
    ·split at h
     ·split at h<;>cases h<;>rfl
     ·cases h
 | .list [],_,_,h=>by cases h
 | .list [_],_,_,h=>by cases h
 | .list [_,_],_,_,h=>by cases h
 | .list (_::_::_::_::_),_,_,h=>by cases h
 |
  .list [x,a,b],ar,t,h=>by
  simp only[E.db,E.eV]
  by_cases h0:x.at=[43]
  ·rw[kQ ar h0]at h
   have:=ub (x:=x) (by rw[h0];simp)
   split at h
   ·rename_i t1 t2 e1 e2
    cases h
    have:=j5 a ar _ e1
    have:=j5 b ar _ e2
    simp only[Ty.atoms];omega
   ·cases h
  ·by_cases h1:x.at=[42]
   ·rw[jP ar h1]at h
    have:=ub (x:=x) (by rw[h1];simp)
    split at h
    ·rename_i t1 t2 e1 e2
     cases h
     have:=j5 a ar _ e1
     have:=j5 b ar _ e2
     simp only[Ty.atoms];omega
    ·cases h
   ·by_cases h2:x.at=[114,101,99]
    ·rw[mP ar h2]at h
     have:=ub (x:=x) (by rw[h2];simp)
     split at h
     ·rename_i hl
      have:=ub (AL hl)
      split at h
      ·rename_i t1 e1
       cases h
       have:=j5 b _ _ e1
       simp only[Ty.atoms];omega
      ·cases h
     ·cases h
    ·rw[jh ar h0 h1 h2]at h;cases h
def jI(x:Option E)(b:Bool):AV->List Ob->Prop:=fun r o=>∃c:List UInt8,∃d:AV,LK.sl.has d/\r=.cI [.agg [.v (.string (mk c)),d],.v (.bool b)]/\(b=true->∃e,x=some e/\AV.agg [.v (.string (mk c)),d]=e.kG)
theorem Bd(e:E):∃c:List UInt8,∃d:AV,LK.sl.has d/\e.kG=AV.agg [.v (.string (mk c)),d]:=by
 cases e with
 |atom s=>exact⟨s,_,(bp).mpr trivial,rfl⟩
 |list l=>exact⟨[],_,(cc _).mpr trivial,rfl⟩
theorem jI.ne(x:Option E)(b:Bool)(h:b=true->x.isSome=true):∃r o,jI x b r o:=by
 cases b with
 |false=>exact⟨_,[],[],.v (.slice none 0 0),(bp).mpr trivial,rfl,fun h=>by cases h⟩
 |
  true =>
  cases x with
  |none=>cases h rfl
  |
   some e =>
   obtain⟨c,d,hd,he⟩:=Bd e
   exact⟨_,[],c,d,hd,rfl,fun _=>⟨e,rfl,he.symm⟩⟩
theorem MO(s:List UInt8):an Tryz.prog 102 [.v (.string (mk s))] [] (jI (qJ s) (qJ s).isSome):=by
 refine QR _ ?_
 simp only[Lr,↓zq,zs,ae,zt,qJ]
 refine⟨fun h=>?_,fun h=>?_⟩
 ·rw[if_pos (by omega)]
  exact⟨[],_,(bp).mpr trivial,rfl,fun h=>by cases h⟩
 ·rw[if_neg (by omega)]
  refine aP (Pj s (by omega) 300 (by omega) 0 (by omega)) (C9.ne _ _) ?_
  rintro r o ⟨rfl,hr⟩
  rw[bc]at hr
  cases hq:rd 300 s with
  |
   none =>
   rw[hq]at hr
   obtain⟨c,d,hd,rfl⟩:=hr
   simp only[↓zq,zs,ae,zt,bD]
   refine⟨hd,c,d,hd,?_,fun h=>by cases h⟩
   have:((-1:Int)==(s.length:Int))=false:=by
    rw[beq_eq_false_iff_ne];omega
   rw[this];rfl
  |
   some q =>
   obtain⟨e,u⟩:=q
   rw[hq]at hr
   subst hr
   have hlt:=yW _ _ _ _ hq
   obtain⟨c,d,hd,he⟩:=Bd e
   simp only[he,↓zq,zs,ae,zt,bD]
   cases u with
   |
    nil =>
    refine⟨hd,c,d,hd,?_,fun _=>⟨e,rfl,he.symm⟩⟩
    simp
   |
    cons b u =>
    simp only[az]at hlt |-
    refine⟨hd,c,d,hd,?_,fun h=>by cases h⟩
    have:(((s.length-(u.length+1):Nat):Int)==(s.length:Int))=false:=by simp;omega
    rw[this];rfl
def wD(s:List UInt8):Option E:=match qJ s with
 |none=>none
 |some e=>if j2 e=true/\e.db<=400 then some e else none
theorem Im(s:List UInt8):an Tryz.prog 83 [.v (.string (mk s))] [] (jI (wD s) (wD s).isSome):=by
 refine Rm _ ?_
 unfold Oh
 refine aP (MO s) (jI.ne _ _ (fun h=>h)) ?_
 rintro r o ⟨c,d,hd,rfl,hh⟩
 simp only[↓zq,zs,ae,zt,bD,wD]
 refine⟨hd,fun h=>?_,fun h=>?_⟩
 ·obtain⟨e,he,hce⟩:=hh h
  obtain⟨hok,hsz⟩:=nI he
  rw[he,hce]
  refine aj (zP e hok) ?_
  simp only[↓zq,zs,ae]
  refine⟨fun hi=>?_,fun hi=>?_⟩
  ·refine aj (CS e hok (by omega)) ?_
   simp only[↓zq,zs,ae,hi]
   refine⟨c,d,hd,?_,?_⟩
   ·rw[hce]
    by_cases h4:e.db<=400
    ·rw[if_pos h4];exact congrArg (fun b=>AV.cI [e.kG,.v (.bool b)]) (decide_eq_true (show ((e.db:Nat):Int)<=400 by omega))
    ·rw[if_neg h4];exact congrArg (fun b=>AV.cI [e.kG,.v (.bool b)]) (decide_eq_false (show ¬((e.db:Nat):Int)<=400 by omega))
   ·split
    ·exact fun _=>⟨e,rfl,hce⟩
    ·exact fun h=>by cases h
  ·refine⟨c,d,hd,?_,?_⟩
   ·rw[hce,if_neg (by rw[hi];simp)];rfl
   ·rw[if_neg (by rw[hi];simp)];exact fun h=>by cases h
 ·have hn:qJ s=none:=by cases hq:qJ s<;>simp[hq]at h |-
  rw[hn]
  exact⟨c,d,hd,rfl,fun h=>by cases h⟩
theorem pS{s:List UInt8}{e:E}(h:wD s=some e):qJ s=some e/\j2 e=true/\e.db<=400:=by
 unfold wD at h
 split at h
 ·cases h
 ·split at h
  ·rename_i e' h1 h2;cases h;exact⟨h1,h2⟩
  ·cases h
end Go.Proofs.Trees
namespace Go.Proofs.Trees
open Go Go.VL
def cb:Ty->Bool
 | .name s=>di s
 | .plus a b=>cb a||cb b
 | .times a b=>cb a||cb b
 | .rc a=>cb a
 |_=>false
theorem gL:∀(t:Ty) (out:List (List UInt8)),(bN t out).any di=(out.any di||cb t)
 |
  .name s,out=>by
  simp only[bN,pC,cb]
  split
  ·rename_i h
   cases hs:di s with
   |false=>simp
   |true=>rw[Bool.or_true,cu];exact⟨s,h,hs⟩
  ·simp
 | .plus a b,out=>by simp only[bN,cb,gL a,gL b,Bool.or_assoc]
 | .times a b,out=>by simp only[bN,cb,gL a,gL b,Bool.or_assoc]
 | .rc a,out=>by simp only[bN,cb,gL a]
 | .zero,out=>by simp[bN,cb]
 | .one,out=>by simp[bN,cb]
 | .bound u,out=>by simp[bN,cb]
theorem sP(t:Ty):t.closed = !cb t:=by simp[Ty.closed,gL]
def pl:Ty->Bool
 | .name s=>decide (s.length<=1)
 | .plus a b=>pl a&&pl b
 | .times a b=>pl a&&pl b
 | .rc a=>false
 |_=>true
theorem lV{lo hi:Nat}{s:List UInt8}(h:named lo hi s=true):∃c r,s=c::r/\lo<=c.toNat/\c.toNat<=hi:=by
 cases s with
 |nil=>cases h
 |cons c r=>simp only[named,aw,decide_eq_true_eq]at h;exact⟨c,r,rfl,by omega,by omega⟩
theorem fL{x a b:E}{ar:List (List UInt8)}{t:Ty}(hx:x.at=[43])(h:cT (.list [x,a,b]) ar=some t):∃t1 t2,cT a ar=some t1/\cT b ar=some t2/\t=.plus t1 t2:=by
 rw[kQ ar hx]at h
 split at h
 ·rename_i t1 t2 e1 e2;cases h;exact⟨t1,t2,e1,e2,rfl⟩
 ·cases h
theorem fj{x a b:E}{ar:List (List UInt8)}{t:Ty}(hx:x.at=[42])(h:cT (.list [x,a,b]) ar=some t):∃t1 t2,cT a ar=some t1/\cT b ar=some t2/\t=.times t1 t2:=by
 rw[jP ar hx]at h
 split at h
 ·rename_i t1 t2 e1 e2;cases h;exact⟨t1,t2,e1,e2,rfl⟩
 ·cases h
theorem dz{x a b:E}{ar:List (List UInt8)}{t:Ty}(hx:x.at=[114,101,99])(h:cT (.list [x,a,b]) ar=some t):∃t1,di a.at=true/\cT b (ar++[a.at])=some t1/\t=.rc t1:=by
 rw[mP ar hx]at h
 split at h
 ·rename_i hl
  split at h
  ·rename_i t1 e1;cases h;exact⟨t1,hl,e1,rfl⟩
  ·cases h
 ·cases h
theorem uS{s:List UInt8}:qM s=match wD s with|none=>none|some e=>cT e []:=by
 unfold qM wD
 cases he:qJ s with
 |none=>rfl
 |
  some e =>
  have hs:=iZ e []
  simp only
  cases ht:cT e []with
  |
   none =>
   rw[ht]at hs
   rw[if_neg (by rw[<-hs];simp)]
  |
   some t =>
   rw[ht]at hs
   have ha:=j5 e [] t ht
   by_cases h4:e.db<=400
   ·rw[if_pos ⟨hs.symm,h4⟩];dsimp only;rw[if_neg (by omega)];exact ht.symm
   ·rw[if_neg (fun h=>h4 h.2)];dsimp only;rw[if_pos (by omega)]
end Go.Proofs.Trees
namespace Go.Proofs.Trees
open Go Go.VL
def pure:Ty->Bool
 | .zero=>true
 | .one=>true
 | .name s=>(s==[120])||(s==[121])||(s==[122])
 | .plus a b=>pure a&&pure b
 | .times a b=>pure a&&pure b
 |_=>false
def IW(v:Nat):Option Nat:=if v<=1000000000 then some v else none
def IM(n:Nat):Ty->Option Nat
 | .zero=>some 0
 | .one=>some 1
 | .name _=>some n
 | .plus a b=>match IM n a,IM n b with|some x,some y=>IW (x+y)|_,_=>none
 | .times a b=>match IM n a,IM n b with|some x,some y=>IW (x*y)|_,_=>none
 |_=>none
def Kt(x:Option Nat):AV->List Ob->Prop:=fun r o=>∃v:Int,r=.cI [.v (.int .i64 v),.v (.bool x.isSome)]/\∀c,x=some c->v=(c:Int)
theorem Kt.ne(x:Option Nat):∃r o,Kt x r o:=by
 cases x with
 |none=>exact⟨_,[],0,rfl,fun c h=>by cases h⟩
 |some c=>exact⟨_,[],(c:Int),rfl,fun c' h=>by cases h;rfl⟩
end Go.Proofs.Trees
namespace Go.Proofs.Trees
open Go Go.VL Go.RowKit
abbrev dd(n:Nat):List UInt8:=Lib.decDigits n
theorem eH{k:Nat}(h:k<10):dd k=[bg (48+k)]:=by rw[dd,Lib.decDigits,dif_pos h]
theorem fP{k:Nat}(h:¬k<10):dd k=dd (k/10)++[bg (48+k%10)]:=by rw[dd,Lib.decDigits,dif_neg h]
theorem mR:∀(n k:Nat),k<n->(dd k).length<=k+1
 |0,k,h=>by omega
 |
  n+1,k,h=>by
  by_cases h1:k<10
  ·rw[eH h1];simp
  ·rw[fP h1]
   have:=mR n (k/10) (by omega)
   simp only[aq,az,aG];omega
theorem yy(d:Nat)(h:d<10):(Value.int .u8 (IntKind.wrap .u8 (IntKind.wrap .i64 (48+(d:Int)))))=.int .u8 ((bg (48+d)).toNat:Int):=by
 have:d=0\/d=1\/d=2\/d=3\/d=4\/d=5\/d=6\/d=7\/d=8\/d=9:=by omega
 rcases this with rfl|rfl|rfl|rfl|rfl|rfl|rfl|rfl|rfl|rfl<;>rfl
theorem p8(b:UInt8):bytesOf [[.v (.int .u8 (b.toNat:Int))]]=[b]:=by simp[bytesOf,xQ]
theorem kY(b:UInt8):jC [[.v (.int .u8 (b.toNat:Int))]]:=⟨rfl,(l6 _ _).mpr trivial,trivial⟩
theorem Ao:∀(n k:Nat),k<n->k<1000000000->an Tryz.prog 90 [.v (.int .i64 (k:Int))] [] (bJ (.v (.string (mk (dd k)))))
 |0,k,h,_=>by omega
 |
  n+1,k,h,hk=>by
  refine RT _ ?_
  simp only[Jp,↓zq,zs,ae,bJ]
  refine⟨fun h=>by omega,fun _=>⟨fun h=>by omega,fun _=>⟨fun h1=>?_,fun h1=>⟨by omega,?_⟩⟩⟩⟩
  ·rw[yy k (by omega)]
   refine⟨kY _,?_⟩
   rw[p8,eH (by omega)];rfl
  ·have e1:IntKind.wrap .i64 (Int.tdiv (k:Int) 10)=((k/10:Nat):Int):=by
    rw[show Int.tdiv (k:Int) 10=((k/10:Nat):Int) from (Int.ofNat_tdiv k 10).symm,wrap64 _ (by omega) (by omega)]
   have e2:dG (k:Int) 10=((k%10:Nat):Int):=(Int.ofNat_tmod k 10).symm
   rw[e1,e2,yy (k%10) (by omega)]
   refine aj (Ao n (k/10) (by omega) (by omega)) ?_
   have hl:=mR (k+1) (k/10) (by omega)
   simp only[↓zq,zs,ae,zt,p8]
   have h9:(k:Int)<1000000000:=by omega
   refine⟨by omega,kY _,?_,?_⟩
   ·show (mk (dd (k/10))).size+(mk [bg (48+k%10)]).size<=_
    rw[cM,cM];simp;omega
   ·show AV.v (.string (mk (dd (k/10))++mk [bg (48+k%10)]))=_
    rw[k8,fP (k:=k) (by omega)]
theorem z7(s:List UInt8)(d:AV)(hd:LK.sl.has d)(h:s≠[]):an Tryz.prog 86 [.agg [.v (.string (mk s)),d]] [] (bJ (.v (.string (mk [])))):=by
 refine HG _ _ hd ?_
 simp only[DW,↓zq,zs,ae,zt,bJ]
 exact⟨fun _=>trivial,fun h'=>absurd h' h⟩
theorem DP(e:E):AV.agg [.v (.string ((e.kG.cs.getD 0 .any).toStr)),e.kG.cs.getD 1 .any]=e.kG:=by cases e<;>rfl
mutual
def e9:E->List UInt8
 | .atom s=>s
 | .list []=>[40,41]
 | .list (e::l)=>40::(e9 e++(ei l++[41]))
def ei:List E->List UInt8
 |[]=>[]
 |e::l=>32::(e9 e++ei l)
end
theorem zH:∀(l:List E) (i:Nat) (h:i<l.length),ei (l.drop i)=32::(e9 l[i]++ei (l.drop (i+1))):=by
 intro l i h
 rw[aT h,ei]
theorem Kz(l:List E)(hll:l.length<1000000000000)(ih:∀i (h:i<l.length),an Tryz.prog 63 [(l[i]).kG] [] (bJ (.v (.string (mk (e9 l[i])))))) :
 ∀(k i:Nat) (out:List UInt8),i+k=l.length->1<=i->out.length+(ei (l.drop i)).length<=1000000000000->BR [.v (.string (mk out)),.v (.int .i64 (i:Int))] [.cells [.v (.string (mk [])),.sl (E.bw l)]] (ib 1 [.v (.string (mk (out++ei (l.drop i))))] [])
 |
  0,i,out,hi,h1,hn=>by
  refine Dl _ _ _ _ ?_
  simp only[Ck,↓zq,zs,ae,ef]
  have:l.drop i=[]:=bV (by omega)
  refine⟨fun h=>by omega,fun _=>?_⟩
  simp[ib,this,ei]
 |
  k+1,i,out,hi,h1,hn=>by
  have hlt:i<l.length:=by omega
  have hd:=zH l i hlt
  rw[hd]at hn
  simp only[az,aq]at hn
  refine Dl _ _ _ _ ?_
  simp only[Ck,↓zq,zs,ae,zt,ef,jD l i hlt,gd,iQ,iU,au]
  refine⟨fun _=>⟨fun _=>⟨by omega,by omega,?_⟩,fun h=>by omega⟩,fun h=>by omega⟩
  refine aj (ih i hlt) ?_
  simp only[↓zq,zs,ae,zt]
  refine⟨by simp;omega,?_⟩
  rw[bA i (by omega),hd]
  have:=Kz l hll ih k (i+1) (out++[32]++e9 l[i]) (by omega) (by omega) (by simp;omega)
  simpa using this
theorem yt:∀(l:List E) (i:Nat) (h:i<l.length),(e9 l[i]).length<=(ei l).length
 |e::l,0,_=>by simp only[ei,List.getElem_cons_zero,az,aq];omega
 |e::l,i+1,h=>by have:=yt l i (by simpa using h);simp only[ei,List.getElem_cons_succ,az,aq];omega
theorem rR:∀l:List E,l.length<=(ei l).length
 |[]=>by simp[ei]
 |e::l=>by have:=rR l;simp only[ei,az,aq];omega
theorem Eg:∀(n:Nat) (e:E),e.sz<n->e.ok->(e9 e).length<=900000000000->an Tryz.prog 63 [e.kG] [] (bJ (.v (.string (mk (e9 e)))))
 |0,e,hn,_,_=>by omega
 |
  n+1,.atom s,hn,hok,hl=>by
  refine Gs _ _ ((bp).mpr trivial) ?_
  have hne:s≠[]:=hok
  simp only[Du,↓zq,zs,ae,zt,bJ]
  exact⟨fun _=>rfl,fun h=>absurd h hne⟩
 |
  n+1,.list [],hn,hok,hl=>by
  refine Gs _ _ ((cc _).mpr trivial) ?_
  simp only[Du,↓zq,zs,ae,zt,bJ]
  refine⟨fun h=>absurd rfl h,fun _=>?_⟩
  have h1:BR [.v (.string (mk [40])),.v (.int .i64 0)] [.cells [.v (.string (mk [])),.sl (E.bw [])]] (ib 1 [.v (.string (mk [40]))] []):=by
   refine Dl _ _ _ _ ?_
   simp[Ck,↓zq,zs,ae,E.bw,ib]
  refine cD h1 ?_
  simp only[↓zq,zs,ae,zt]
  exact⟨by simp,rfl⟩
 |
  n+1,.list (x::l),hn,hok,hl=>by
  refine Gs _ _ ((cc _).mpr trivial) ?_
  simp only[E.sz,E.jo]at hn
  simp only[e9,az,aq,aG]at hl
  have h2:=rR l
  simp only[Du,↓zq,zs,ae,zt,bJ]
  refine⟨fun h=>absurd rfl h,fun _=>?_⟩
  have hL:BR [.v (.string (mk [40])),.v (.int .i64 0)] [.cells [.v (.string (mk [])),.sl (E.bw (x::l))]] (ib 1 [.v (.string (mk ([40]++e9 x++ei l)))] []):=by
   refine Dl _ _ _ _ ?_
   simp only[Ck,E.bw,Int.toNat_zero,↓zq,zs,ae,zt,ef,gd,iQ,iU,au]
   refine⟨fun _=>⟨fun h=>by omega,fun _=>⟨by omega,?_⟩⟩,fun h=>by omega⟩
   refine aj (Eg n x (by omega) hok.1 (by omega)) ?_
   simp only[↓zq,zs,ae,zt]
   refine⟨by simp;omega,?_⟩
   have:=Kz (x::l) (by simp;omega) (fun i hi=>by
    have h3:=ud (x::l) i hi
    simp only[E.jo]at h3
    refine Eg n _ (by omega) (tQ _ i hi hok) ?_
    have h4:=yt (x::l) i hi
    simp only[ei,az,aq]at h4
    omega) l.length 1 ([40]++e9 x) (by simp;omega) (by omega) (by simp;omega)
   rw[show IntKind.wrap .i64 (0+1)=1 from rfl]
   simpa[E.bw]using this
  refine cD hL ?_
  simp only[↓zq,zs,ae,zt]
  refine⟨by simp;omega,?_⟩
  simp[e9]
theorem Em(e:E)(h:e.ok)(hl:(e9 e).length<=900000):an Tryz.prog 63 [e.kG] [] (bJ (.v (.string (mk (e9 e))))):=Eg (e.sz+1) e (by omega) h (by omega)
mutual
def E.nd:E->Nat
 | .atom _=>1
 | .list []=>1
 | .list (_::l)=>1+E.u9 l
def E.u9:List E->Nat
 |[]=>0
 |e::l=>e.nd+E.u9 l
end
mutual
theorem AD:∀e:E,e.nd<=e.sz
 | .atom s=>by simp[E.nd,E.sz]
 | .list []=>by simp[E.nd,E.sz,E.jo]
 | .list (x::l)=>by have:=wH l;simp only[E.nd,E.sz,E.jo];omega
theorem wH:∀l:List E,E.u9 l<=E.jo l
 |[]=>by simp[E.u9,E.jo]
 |e::l=>by have:=AD e;have:=wH l;simp only[E.u9,E.jo];omega
end
theorem Cu:∀(l:List E) (i:Nat) (h:i<l.length),E.u9 (l.drop i)=(l[i]).nd+E.u9 (l.drop (i+1)):=by
 intro l i h
 rw[aT h];rfl
theorem J3(l:List E)(hl:E.u9 l<1000000)(hll:l.length<1000000)(ih:∀i (h:i<l.length),an Tryz.prog 104 [(l[i]).kG] [] (bJ (.v (.int .i64 ((l[i]).nd:Int))))) :
 ∀(k i n:Nat),i+k=l.length->n+E.u9 (l.drop i)<=1+E.u9 l->A9 [.v (.int .i64 (n:Int)),.v (.int .i64 (i:Int))] [.cells [.v (.string (mk [])),.sl (E.bw l)]] (ib 1 [.v (.int .i64 ((n+E.u9 (l.drop i):Nat):Int))] [])
 |
  0,i,n,hi,hn=>by
  refine Dj _ _ _ _ ?_
  simp only[CE,↓zq,zs,ae,ef]
  have:l.drop i=[]:=bV (by omega)
  refine⟨fun h=>by omega,fun _=>?_⟩
  simp[ib,this,E.u9]
 |
  k+1,i,n,hi,hn=>by
  have hlt:i<l.length:=by omega
  refine Dj _ _ _ _ ?_
  simp only[CE,↓zq,zs,ae,zt,ef,jD l i hlt,gd,iQ,iU,au]
  refine⟨fun _=>⟨by omega,?_⟩,fun h=>by omega⟩
  refine aj (ih i hlt) ?_
  have h1:=Cu l i hlt
  simp only[↓zq,zs,ae]
  rw[bA i (by omega),wrap64 _ (by omega) (by omega)]
  have:=J3 l hl hll ih k (i+1) (n+(l[i]).nd) (by omega) (by omega)
  rw[h1,<-Nat.add_assoc]
  simpa using this
theorem Ku:∀(n:Nat) (e:E),e.sz<n->e.sz<900000->an Tryz.prog 104 [e.kG] [] (bJ (.v (.int .i64 (e.nd:Int))))
 |0,e,hn,_=>by omega
 |
  n+1,.atom s,hn,hl=>by
  refine Kr _ _ ((bp).mpr trivial) ?_
  simp only[Gt]
  have hL:A9 [.v (.int .i64 1),.v (.int .i64 1)] [.cells [.v (.string (mk s)),.v (.slice none 0 0)]] (ib 1 [.v (.int .i64 1)] []):=by
   refine Dj _ _ _ _ ?_
   simp[CE,↓zq,zs,ae,ib]
  refine cD hL ?_
  simp[↓zq,zs,ae,bJ,E.nd]
 |
  n+1,.list l,hn,hl=>by
  refine Kr _ _ ((cc _).mpr trivial) ?_
  simp only[E.sz]at hn hl
  simp only[Gt]
  match l,hn,hl with
  |
   [],hn,hl =>
   have hL:A9 [.v (.int .i64 1),.v (.int .i64 1)] [.cells [.v (.string (mk [])),.sl (E.bw [])]] (ib 1 [.v (.int .i64 1)] []):=by
    refine Dj _ _ _ _ ?_
    simp[CE,↓zq,zs,ae,ib,E.bw]
   refine cD hL ?_
   simp[↓zq,zs,ae,bJ,E.nd]
  |
   x::l,hn,hl =>
   simp only[E.jo]at hn hl
   have h1:=wH l
   have h2:=tY l
   have h0:=AD x
   refine cD (J3 (x::l) (by simp only[E.u9];omega) (by simp;omega) (fun i hi=>?_) l.length 1 1 (by simp;omega) (by simp[E.u9])) ?_
   ·have:=ud (x::l) i hi
    simp only[E.jo]at this
    exact Ku n _ (by omega) (by omega)
   ·simp[↓zq,zs,ae,E.nd,bJ]
theorem Rv(e:E)(hl:e.sz<900000):an Tryz.prog 104 [e.kG] [] (bJ (.v (.int .i64 (e.nd:Int)))):=Ku (e.sz+1) e (by omega) hl
inductive Vl where
 |u
 |el (k:Nat)
 |l (v:Vl)
 |r (v:Vl)
 |f (v:Vl)
 |p (a b:Vl)
abbrev wT(k:Nat):List UInt8:=101::dd k
abbrev iq:AV:=.v (.pointer none)
def Vl.cB:Vl->AV
 | .u=>.ptr [.v (.int .u8 117),.v (.string (mk [])),iq,iq]
 | .el k=>.ptr [.v (.int .u8 101),.v (.string (mk (wT k))),iq,iq]
 | .l v=>.ptr [.v (.int .u8 108),.v (.string (mk [])),v.cB,iq]
 | .r v=>.ptr [.v (.int .u8 114),.v (.string (mk [])),v.cB,iq]
 | .f v=>.ptr [.v (.int .u8 102),.v (.string (mk [])),v.cB,iq]
 | .p a b=>.ptr [.v (.int .u8 112),.v (.string (mk [])),a.cB,b.cB]
def Vl.cL:Vl->E
 | .u=>.atom [117]
 | .el k=>.atom (wT k)
 | .l v=>.list [.atom [108],v.cL]
 | .r v=>.list [.atom [114],v.cL]
 | .f v=>.list [.atom [102],v.cL]
 | .p a b=>.list [.atom [112],a.cL,b.cL]
def Vl.nodes:Vl->Nat
 | .l v=>1+v.nodes
 | .r v=>1+v.nodes
 | .f v=>1+v.nodes
 | .p a b=>1+a.nodes+b.nodes
 |_=>1
def Vl.gR(n:Nat):Vl->Prop
 | .el k=>k<n
 | .l v=>v.gR n
 | .r v=>v.gR n
 | .f v=>v.gR n
 | .p a b=>a.gR n/\b.gR n
 | .u=>True
abbrev Vl.cC(v:Vl):List UInt8:=e9 v.cL
theorem aN(v:Vl):LK.has .ptr v.cB=True:=by cases v<;>simp[Vl.cB,cg]
theorem fu(v:Vl):v.cB.isNil=false:=by cases v<;>rfl
theorem mG:∀v:Vl,v.cL.ok
 | .u=>by simp[Vl.cL,E.ok]
 | .el k=>by simp[Vl.cL,E.ok]
 | .l v=>⟨by simp[E.ok],mG v,trivial⟩
 | .r v=>⟨by simp[E.ok],mG v,trivial⟩
 | .f v=>⟨by simp[E.ok],mG v,trivial⟩
 | .p a b=>⟨by simp[E.ok],mG a,mG b,trivial⟩
theorem nT:∀v:Vl,v.cL.nd=v.nodes
 | .u=>rfl
 | .el k=>rfl
 | .l v=>by simp[Vl.cL,E.nd,E.u9,Vl.nodes,nT v]
 | .r v=>by simp[Vl.cL,E.nd,E.u9,Vl.nodes,nT v]
 | .f v=>by simp[Vl.cL,E.nd,E.u9,Vl.nodes,nT v]
 | .p a b=>by simp[Vl.cL,E.nd,E.u9,Vl.nodes,nT a,nT b,Nat.add_assoc]
theorem i7:∀v:Vl,v.gR 100->v.cC.length<=200*v.nodes
 | .u,_=>by simp[Vl.cC,Vl.cL,e9,Vl.nodes]
 |
  .el k,h=>by
  have h':k<100:=h
  have:=mR 1000 k (by omega)
  simp only[Vl.cC,Vl.cL,e9,Vl.nodes,az];omega
 | .l v,h=>by have:=i7 v h;simp only[Vl.cC,Vl.cL,e9,ei,Vl.nodes,az,aq,aG]at this |-;omega
 | .r v,h=>by have:=i7 v h;simp only[Vl.cC,Vl.cL,e9,ei,Vl.nodes,az,aq,aG]at this |-;omega
 | .f v,h=>by have:=i7 v h;simp only[Vl.cC,Vl.cL,e9,ei,Vl.nodes,az,aq,aG]at this |-;omega
 | .p a b,h=>by have:=i7 a h.1;have:=i7 b h.2;simp only[Vl.cC,Vl.cL,e9,ei,Vl.nodes,az,aq,aG]at *;omega
theorem zx(a b:AV)(h:LK.ptr.has a)(h':LK.ptr.has b):an Tryz.prog 109 [a,b] [] (bJ (.ptr [.v (.int .u8 112),.v (.string (mk [])),a,b])):=by
 refine Rs _ _ h h' ?_
 simp[Ke,↓zq,zs,ae,bJ]
theorem du(v:Vl):1<=v.nodes:=by cases v<;>simp[Vl.nodes]<;>omega
theorem Ip:∀(v:Vl),v.nodes<1000000->an Tryz.prog 56 [v.cB] [] (bJ (.v (.int .i64 (v.nodes:Int))))
 | .u,h=>by refine zB _ ((aN _).mpr trivial) ?_;simp[xf,Vl.cB,↓zq,zs,ae,bJ,Vl.nodes]
 | .el k,h=>by refine zB _ ((aN _).mpr trivial) ?_;simp[xf,Vl.cB,↓zq,zs,ae,bJ,Vl.nodes]
 |
  .l v,h=>by
  simp only[Vl.nodes]at h
  refine zB _ ((aN _).mpr trivial) ?_
  simp only[xf,Vl.cB,↓zq,zs,ae,aN,fu]
  refine⟨by omega,fun _=>⟨by omega,?_⟩,fun h=>(by cases h)⟩
  refine aj (Ip v (by omega)) ?_
  simp only[↓zq,zs,ae,bJ,Vl.nodes]
  rw[wrap64 _ (by omega) (by omega)]
  simp
 |
  .r v,h=>by
  simp only[Vl.nodes]at h
  refine zB _ ((aN _).mpr trivial) ?_
  simp only[xf,Vl.cB,↓zq,zs,ae,aN,fu]
  refine⟨by omega,fun _=>⟨by omega,?_⟩,fun h=>(by cases h)⟩
  refine aj (Ip v (by omega)) ?_
  simp only[↓zq,zs,ae,bJ,Vl.nodes]
  rw[wrap64 _ (by omega) (by omega)]
  simp
 |
  .f v,h=>by
  simp only[Vl.nodes]at h
  refine zB _ ((aN _).mpr trivial) ?_
  simp only[xf,Vl.cB,↓zq,zs,ae,aN,fu]
  refine⟨by omega,fun _=>⟨by omega,?_⟩,fun h=>(by cases h)⟩
  refine aj (Ip v (by omega)) ?_
  simp only[↓zq,zs,ae,bJ,Vl.nodes]
  rw[wrap64 _ (by omega) (by omega)]
  simp
 |
  .p a b,h=>by
  simp only[Vl.nodes]at h
  refine zB _ ((aN _).mpr trivial) ?_
  simp only[xf,Vl.cB,↓zq,zs,ae,aN,fu]
  refine⟨by omega,fun _=>⟨by omega,?_⟩,fun h=>(by cases h)⟩
  refine aj (Ip a (by omega)) ?_
  simp only[↓zq,zs,ae,aN,fu]
  rw[wrap64 (1+(a.nodes:Int)) (by omega) (by omega)]
  refine⟨by omega,fun _=>⟨by omega,?_⟩,fun h=>(by cases h)⟩
  refine aj (Ip b (by omega)) ?_
  simp only[↓zq,zs,ae,bJ,Vl.nodes]
  rw[wrap64 _ (by omega) (by omega)]
  congr 2
end Go.Proofs.Trees
namespace Go.Proofs.Trees
open Go Go.VL Go.RowKit
def zC:List UInt8->Nat->Option Nat
 |[],n=>some n
 |b::r,n=>if hZ b=true then zC r (10*n+(b.toNat-48))else none
def fQ(s:List UInt8):Option Nat :=
 if s.length=2\/s.length=3 then(if s.getD 0 0=101/\¬(s.length=3/\s.getD 1 0=48)then zC (s.drop 1) 0 else none)else none
def BI(s:List UInt8):Int:=match fQ s with|some k=>(k:Int)|none=>-1
theorem KX(s:List UInt8)(hs:s.length<=3):∀(k i n:Nat),i+k=s.length->1<=i->(n+1)*10 ^ k<=1000->Hv [.v (.string (mk s)),.v (.int .i64 (n:Int)),.v (.int .i64 (i:Int))] []
 (ng (match zC (s.drop i) n with|some m=>(1,[.v (.int .i64 (m:Int))],[])|none=>(2,[.v (.int .i64 (-1))],[])))
 |
  0,i,n,hi,h1,hn=>by
  refine MV _ _ _ ?_
  have hd:s.drop i=[]:=bV (by omega)
  simp only[Hw,↓zq,zs,ae,zt,hd,zC]
  exact⟨fun h=>by omega,fun _=>by first|trivial|rfl⟩
 |
  k+1,i,n,hi,h1,hn=>by
  have hlt:i<s.length:=by omega
  refine MV _ _ _ ?_
  rw[drop_cons hlt,zC]
  simp only[Hw,↓zq,zs,ae,zt,mg s i hlt]
  generalize s.getD i 0=b
  have hb:=b.toNat_lt
  refine⟨fun _=>⟨by omega,fun h48=>?_,fun h48=>⟨by omega,fun h57=>?_,fun h57=>⟨by omega,?_⟩⟩⟩,fun h=>by omega⟩
  ·have:hZ b=false:=by simp only[hZ,decide_eq_false_iff_not];omega
   rw[this];rfl
  ·have:hZ b=false:=by simp only[hZ,decide_eq_false_iff_not];omega
   rw[this];rfl
  ·have:hZ b=true:=by simp only[hZ,decide_eq_true_eq];omega
   rw[if_pos this]
   have hk:k=0\/k=1:=by omega
   have hn2:n*10<=1000:=by
    rcases hk with rfl|rfl<;>simp at hn<;>omega
   have e8:IntKind.wrap .u8 ((b.toNat:Int)-48)=((b.toNat-48:Nat):Int):=by
    have:b.toNat=48\/b.toNat=49\/b.toNat=50\/b.toNat=51\/b.toNat=52\/b.toNat=53\/b.toNat=54\/b.toNat=55\/b.toNat=56\/b.toNat=57:=by omega
    rcases this with h|h|h|h|h|h|h|h|h|h<;>rw[h]<;>rfl
   rw[e8,bA i (by omega),wrap64 ((b.toNat-48:Nat):Int) (by omega) (by omega),wrap64 (10*(n:Int)) (by omega) (by omega),wrap64 _ (by omega) (by omega)]
   have e:(10*(n:Int)+((b.toNat-48:Nat):Int))=((10*n+(b.toNat-48):Nat):Int):=by omega
   rw[e]
   exact KX s hs k (i+1) _ (by omega) (by omega) (by rcases hk with rfl|rfl<;>simp at hn |-<;>omega)
theorem JT(s:List UInt8):an Tryz.prog 127 [.v (.string (mk s))] [] (bJ (.v (.int .i64 (BI s)))):=by
 refine QW _ ?_
 unfold MF
 refine aj (AN _ _ _) ?_
 simp only[↓zq,zs,ae,zt,CL,bJ]
 have hL:∀(Q:Nat->List AV->List Ob->Prop),(s.length=2\/s.length=3)->s.getD 0 0=101->¬(s.length=3/\s.getD 1 0=48)->(Q 0 [.v (.int .i64 (BI s))] []) ->
  eZ Tryz.prog 49 (.loop DO Cd [.v (.string (mk s)),.v (.int .i64 0),.v (.int .i64 1)] [] (fun y2 q2=>.ai (LK.has (.int .i64) (y2.headD .any))<|.done 0 [.v (.int .i64 ((y2.headD .any).toInt))] []) (fun y2 q2=>.ai (LK.has (.int .i64) (y2.headD .any))<|.done 0 [.v (.int .i64 ((y2.headD .any).toInt))] [])) Q:=by
  intro Q hl h0 h1 hQ
  have e:fQ s=zC (s.drop 1) 0:=by rw[fQ,if_pos hl,if_pos ⟨h0,h1⟩]
  refine eN (KX s (by omega) (s.length-1) 1 0 (by omega) (by omega) (by rcases hl with h|h<;>rw[h]<;>decide)) (fun ys o e'=>?_) (fun ys o e'=>?_)
  ·cases hq:zC (s.drop 1) 0<;>rw[hq]at e'<;>cases e'
   rw[hq]at e
   simp only[BI,e]at hQ
   simp only[↓zq,zs,ae];exact hQ
  ·cases hq:zC (s.drop 1) 0<;>rw[hq]at e'<;>cases e'
   rw[hq]at e
   simp only[BI,e]at hQ
   simp only[↓zq,zs,ae];exact hQ
 have hz:∀{i:Nat},i<s.length->bt (mk s) (i:Int)=((s.getD i 0).toNat:Int):=fun h=>mg s _ h
 refine⟨fun h=>?_,fun h=>⟨?_,fun h0=>?_,fun h0=>⟨fun h3=>⟨by omega,fun h1=>?_,fun h1=>?_⟩,fun h3=>?_⟩⟩⟩
 ·have h':¬(2<=(s.length:Int)/\(s.length:Int)<=3):=by simpa using h
  rw[BI,fQ,if_neg (by omega)]
 ·have h':2<=(s.length:Int)/\(s.length:Int)<=3:=by simpa using h
  omega
 ·have h':2<=(s.length:Int)/\(s.length:Int)<=3:=by simpa using h
  have e0:=hz (i:=0) (by omega)
  simp only[Int.ofNat_eq_natCast,Int.cast_ofNat_Int]at e0
  rw[e0]at h0
  rw[BI,fQ,if_pos (by omega),if_neg]
  rintro⟨e,_⟩
  rw[e]at h0;exact h0 rfl
 ·have h':2<=(s.length:Int)/\(s.length:Int)<=3:=by simpa using h
  have e1:=hz (i:=1) (by omega)
  simp only[Int.ofNat_eq_natCast,Int.cast_ofNat_Int]at e1
  rw[e1]at h1
  rw[BI,fQ,if_pos (by omega),if_neg]
  rintro⟨_,e⟩
  refine e ⟨by omega,?_⟩
  rw[<-UInt8.toNat_inj];show (s.getD 1 0).toNat=48;omega
 ·have h':2<=(s.length:Int)/\(s.length:Int)<=3:=by simpa using h
  have e0:=hz (i:=0) (by omega)
  have e1:=hz (i:=1) (by omega)
  simp only[Int.ofNat_eq_natCast,Int.cast_ofNat_Int]at e0 e1
  rw[e0]at h0;rw[e1]at h1
  refine hL _ (by omega) ?_ ?_ ⟨rfl,rfl⟩
  ·rw[<-UInt8.toNat_inj];show (s.getD 0 0).toNat=101;omega
  ·rintro⟨_,e⟩;rw[e]at h1;exact h1 rfl
 ·have h':2<=(s.length:Int)/\(s.length:Int)<=3:=by simpa using h
  have e0:=hz (i:=0) (by omega)
  simp only[Int.ofNat_eq_natCast,Int.cast_ofNat_Int]at e0
  rw[e0]at h0
  refine hL _ (by omega) ?_ ?_ ⟨rfl,rfl⟩
  ·rw[<-UInt8.toNat_inj];show (s.getD 0 0).toNat=101;omega
  ·rintro⟨e,_⟩;omega
theorem oO:∀(l:List UInt8) (n:Nat),(zC l n).isSome=l.all hZ
 |[],n=>rfl
 |
  b::l,n=>by
  rw[zC]
  cases hb:hZ b with
  |true=>rw[if_pos rfl,oO l];simp[hb]
  |false=>rw[if_neg (by simp)];simp[hb]
theorem NX(s:List UInt8):an Tryz.prog 158 [.v (.string (mk s))] [] (bJ (.v (.bool (fQ s).isSome))):=by
 refine Sm _ ?_
 simp only[Jy,↓zq,zs,ae,zt,bJ]
 have hz:∀{i:Nat},i<s.length->bt (mk s) (i:Int)=((s.getD i 0).toNat:Int):=fun h=>mg s _ h
 refine⟨fun h=>?_,fun h=>⟨fun h3=>?_,fun h3=>?_⟩⟩
 ·rw[fQ,if_neg (by omega)];rfl
 ·rw[fQ,if_neg (by omega)];rfl
 ·have e0:=hz (i:=0) (by omega)
  have e1:=hz (i:=1) (by omega)
  simp only[Int.ofNat_eq_natCast,Int.cast_ofNat_Int]at e0 e1
  rw[e0,e1]
  have hx:s.drop (bI 1)=s.drop 1:=rfl
  refine⟨by omega,fun h0=>?_,fun h0=>⟨by omega,?_⟩⟩
  ·rw[fQ,if_pos (by omega),if_neg]
   ·rfl
   ·rintro⟨e,_⟩;rw[e]at h0;exact h0 rfl
  ·rw[hx]
   refine aj (Nd (s.drop 1) G2 (by simp;omega) (by decide) (by decide)) ?_
   simp only[↓zq,zs,ae,zt]
   have h101:s.getD 0 0=101:=by rw[<-UInt8.toNat_inj];show (s.getD 0 0).toNat=101;omega
   have hall:Lib.trimS (s.drop 1) G2=[]↔(s.drop 1).all hZ=true:=by
    rw[sQ]
    have:(fun x=>G2.contains x)=hZ:=funext wz
    rw[this]
   refine⟨fun ht=>?_,fun ht=>⟨fun h2=>?_,fun h2=>⟨by omega,?_⟩⟩⟩
   ·have:(s.drop 1).all hZ=false:=by
     cases hq:(s.drop 1).all hZ with
     |false=>rfl
     |true=>exact absurd (hall.2 hq) ht
    rw[fQ,if_pos (by omega)]
    split
    ·rw[oO,this]
    ·rfl
   ·have hq:=hall.1 ht
    rw[fQ,if_pos (by omega),if_pos ⟨h101,by omega⟩,oO,hq]
   ·have hq:=hall.1 ht
    rw[fQ,if_pos (by omega)]
    by_cases h48:s.getD 1 0=48
    ·rw[if_neg (by rintro⟨_,e⟩;exact e ⟨by omega,h48⟩),h48];rfl
    ·rw[if_pos ⟨h101,fun e=>h48 e.2⟩,oO,hq]
     have:¬((s.getD 1 0).toNat:Int)=48:=fun e=>h48 (by rw[<-UInt8.toNat_inj];show (s.getD 1 0).toNat=48;omega)
     rw[bne_iff_ne.2 this]
theorem tG{s:List UInt8}{k:Nat}(h:fQ s=some k):s=wT k/\k<100:=by
 have key1:∀a:Fin 256,hZ (bg a.val)=true->zC [bg a.val] 0=some ((bg a.val).toNat-48)/\(bg a.val).toNat-48<10/\[bg a.val]=[bg (48+((bg a.val).toNat-48))]:=by decide +kernel
 unfold fQ at h
 split at h
 ·rename_i hl
  split at h
  ·rename_i hh
   obtain⟨h0,h1⟩:=hh
   rcases hl with hl|hl
   ·match s,hl with
    |
     [c,a],_ =>
     simp only[bq]at h0
     subst h0
     simp only[List.drop_succ_cons,bc,zC]at h
     split at h
     ·rename_i ha
      have:=key1 ⟨a.toNat,a.toNat_lt⟩ (by simpa using ha)
      simp only[UInt8.ofNat_toNat]at this
      cases h
      refine⟨?_,by omega⟩
      rw[wT,eH (by omega)]
      simp only[Nat.mul_zero,aV]
      rw[<-this.2.2]
     ·cases h
   ·match s,hl with
    |
     [c,a,b],_ =>
     simp only[bq,List.getD_cons_succ,az,aG,true_and]at h0 h1
     subst h0
     simp only[List.drop_succ_cons,bc,zC]at h
     split at h
     ·rename_i ha
      split at h
      ·rename_i hb
       have k1:=key1 ⟨a.toNat,a.toNat_lt⟩ (by simpa using ha)
       have k2:=key1 ⟨b.toNat,b.toNat_lt⟩ (by simpa using hb)
       simp only[UInt8.ofNat_toNat]at k1 k2
       have ha':48<=a.toNat/\a.toNat<=57:=by simpa[hZ]using ha
       have hb':48<=b.toNat/\b.toNat<=57:=by simpa[hZ]using hb
       have h48:a.toNat≠48:=fun e=>h1 (by rw[<-UInt8.toNat_inj];simpa using e)
       cases h
       simp only[Nat.mul_zero,aV]
       refine⟨?_,by omega⟩
       rw[wT,fP (by omega),eH (by omega)]
       have e1:(10*(a.toNat-48)+(b.toNat-48))/10=a.toNat-48:=by omega
       have e2:(10*(a.toNat-48)+(b.toNat-48))%10=b.toNat-48:=by omega
       rw[e1,e2,<-k1.2.2,<-k2.2.2];rfl
      ·cases h
     ·cases h
  ·cases h
 ·cases h
theorem wj(k:Nat)(h:k<100):fQ (wT k)=some k:=by
 have e:∀k,k<100->dd k=if k<10 then [bg (48+k)]else [bg (48+k/10),bg (48+k%10)]:=by
  intro k hk
  by_cases h1:k<10
  ·rw[eH h1,if_pos h1]
  ·rw[fP h1,eH (by omega),if_neg h1];rfl
 have key:∀k:Fin 100,fQ (101::(if k.val<10 then [bg (48+k.val)]else [bg (48+k.val/10),bg (48+k.val%10)]))=some k.val:=by decide +kernel
 rw[wT,e k h];exact key ⟨k,h⟩
theorem F5(k:Nat)(h:k<100):BI (wT k)=(k:Int):=by rw[BI,wj k h]
def xN:E->Bool
 | .atom s=>(s==[117])||(fQ s).isSome
 | .list [x,a]=>((x.at==[108])||(x.at==[114])||(x.at==[102]))&&xN a
 | .list [x,a,b]=>(x.at==[112])&&(xN a&&xN b)
 | .list _=>false
def fM:E->Option Vl
 | .atom s=>if s=[117]then some .u else match fQ s with|some k=>some (.el k)|none=>none
 |
  .list [x,a]=>match fM a with
  |none=>none
  |some v=>if x.at=[108]then some (.l v)else if x.at=[114]then some (.r v)else if x.at=[102]then some (.f v)else none
 | .list [x,a,b]=>if x.at=[112]then(match fM a,fM b with|some v,some w=>some (.p v w)|_,_=>none)else none
 | .list _=>none
theorem oL:∀e:E,(fM e).isSome=xN e
 |
  .atom s=>by
  simp only[fM,xN]
  by_cases h:s=[117]
  ·simp[h]
  ·rw[if_neg h];cases fQ s<;>simp[h]
 | .list []=>rfl
 | .list [_]=>rfl
 |
  .list [x,a]=>by
  have ha:=oL a
  rw[fM,xN,<-ha]
  cases fM a with
  |none=>simp
  |
   some v =>
   by_cases h1:x.at=[108]
   ·simp[h1]
   ·by_cases h2:x.at=[114]
    ·simp[h2]
    ·by_cases h3:x.at=[102]
     ·simp[h3]
     ·simp[h1,h2,h3]
 |
  .list [x,a,b]=>by
  have ha:=oL a
  have hb:=oL b
  rw[fM,xN,<-ha,<-hb]
  by_cases h1:x.at=[112]
  ·rw[if_pos h1,h1];cases fM a<;>cases fM b<;>rfl
  ·simp[h1]
 | .list (_::_::_::_::_)=>rfl
theorem km{x:E}{w:List UInt8}(h:x.at=w)(hw:w≠[]):x=.atom w:=by
 cases x with
 |atom s=>exact congrArg E.atom h
 |list l=>exact absurd h.symm hw
theorem kT:∀(e:E) (v:Vl),fM e=some v->v.cL=e/\v.gR 100
 |
  .atom s,v,h=>by
  simp only[fM]at h
  split at h
  ·rename_i h1;cases h;exact⟨by rw[h1];rfl,trivial⟩
  ·split at h
   ·rename_i k hk
    cases h
    obtain⟨h1,h2⟩:=tG hk
    exact⟨by rw[h1];rfl,h2⟩
   ·cases h
 | .list [],_,h=>by cases h
 | .list [_],_,h=>by cases h
 | .list (_::_::_::_::_),_,h=>by cases h
 |
  .list [x,a],v,h=>by
  rw[fM]at h
  split at h
  ·cases h
  ·rename_i w hw
   obtain⟨h1,h2⟩:=kT a w hw
   split at h
   ·rename_i hx;cases h;rw[km hx (by simp)];exact⟨by rw[Vl.cL,h1],h2⟩
   ·split at h
    ·rename_i hx;cases h;rw[km hx (by simp)];exact⟨by rw[Vl.cL,h1],h2⟩
    ·split at h
     ·rename_i hx;cases h;rw[km hx (by simp)];exact⟨by rw[Vl.cL,h1],h2⟩
     ·cases h
 |
  .list [x,a,b],v,h=>by
  rw[fM]at h
  split at h
  ·rename_i hx
   split at h
   ·rename_i w1 w2 hw1 hw2
    cases h
    obtain⟨h1,h2⟩:=kT a w1 hw1
    obtain⟨h3,h4⟩:=kT b w2 hw2
    rw[km hx (by simp)]
    exact⟨by rw[Vl.cL,h1,h3],h2,h4⟩
   ·cases h
  ·cases h
def p9(e:E)(w:List UInt8)(k:Nat):Bool:=match e with| .list (x::l)=>decide (l.length+1=k)&&(x.at==w)|_=>false
theorem sX(e:E)(w:List UInt8)(k:Nat)(hk:1<=k):an Tryz.prog 151 [e.cB,.v (.string (mk w)),.v (.int .i64 (k:Int))] [] (bJ (.v (.bool (p9 e w k)))):=by
 refine Ox _ _ _ ((cV e).mpr trivial) ?_
 cases e with
 |atom s=>simp only[BA,E.cB,↓zq,zs,ae,zt,bJ,p9];exact⟨by omega,fun h=>by omega,fun _=>trivial⟩
 |
  list l =>
  simp only[BA,E.cB,↓zq,zs,ae,zt,bJ,sc]
  cases l with
  |nil=>exact⟨by simp,fun h=>by simp at h;omega,fun _=>rfl⟩
  |
   cons x l =>
   simp only[az]
   refine⟨by simp,fun h=>?_,fun h=>?_⟩
   ·have:decide (l.length+1=k)=true:=by rw[decide_eq_true_eq];omega
    simp only[p9,this]
    cases x<;>simp[E.mi,E.cB,cg,pK,jN,dW,uE,toList_mk,E.at]
   ·have:decide (l.length+1=k)=false:=by rw[decide_eq_false_iff_not];omega
    simp only[p9,this];rfl
def jt:Option Vl->AV
 |some v=>v.cB
 |none=>.v (.pointer none)
end Go.Proofs.Trees
namespace Go.Proofs.Trees
open Go Go.VL Go.RowKit
theorem gp(v:Option Vl):LK.has .ptr (jt v)=True:=by cases v<;>simp[jt,aN,jg]
theorem zX:∀(e:E),e.ok->an Tryz.prog 139 [e.cB] [] (bJ (jt (fM e)))
 |
  .atom s,hok=>by
  refine KJ _ ((cV _).mpr trivial) ?_
  have hd:=nR (.atom s)
  have hlen:=lY (.atom s)
  simp only[E.at]at hd
  simp only[Fa,↓zq,zs,ae,zt,bJ,cV,ep,hd,fM]
  refine⟨hlen,fun h=>?_,fun h=>⟨hlen,?_⟩⟩
  ·rw[if_pos h];rfl
  ·rw[if_neg h]
   refine aj (NX s) ?_
   simp only[↓zq,zs,ae,zt]
   refine⟨fun he=>⟨hlen,?_⟩,fun he=>?_⟩
   ·obtain⟨k,hk⟩:=ca.1 he
    obtain⟨h1,h2⟩:=tG hk
    rw[hk,h1];rfl
   ·have hn:fQ s=none:=by cases hq:fQ s<;>simp[hq]at he |-
    rw[hn]
    refine aj (sX (.atom s) [108] 2 (by omega)) ?_
    simp only[p9,↓zq,zs,ae,zf]
    refine⟨fun h=>(by cases h),fun _=>aj (sX (.atom s) [114] 2 (by omega)) ?_⟩
    simp only[p9,↓zq,zs,ae,zf]
    refine⟨fun h=>(by cases h),fun _=>aj (sX (.atom s) [102] 2 (by omega)) ?_⟩
    simp only[p9,↓zq,zs,ae,zf]
    refine⟨fun h=>(by cases h),fun _=>aj (sX (.atom s) [112] 3 (by omega)) ?_⟩
    simp only[p9,↓zq,zs,ae,zf]
    exact⟨fun h=>(by cases h),fun _=>rfl⟩
 |
  .list l,hok=>by
  refine KJ _ ((cV _).mpr trivial) ?_
  have hd:=nR (.list l)
  have hlen:=lY (.list l)
  have hlen2:∀{l:List E},((AV.v (.string (mk [])))::[AV.sl (E.mi l)]).length=2:=rfl
  simp only[E.at]at hd
  have he:fQ []=none:=rfl
  simp only[Fa,↓zq,zs,ae,zt,bJ,cV,ep,hd]
  refine⟨hlen,fun h=>(by cases h),fun h=>⟨hlen,?_⟩⟩
  refine aj (NX []) ?_
  rw[he]
  simp only[↓zq,zs,ae,zt,zf,bu]
  refine⟨fun h=>(by cases h),fun _=>aj (sX (.list l) [108] 2 (by omega)) ?_⟩
  have hno:∀w:List UInt8,(∀x a,l≠[x,a])->p9 (.list l) w 2=false:=by
   intro w h2
   match l,h2 with
   |[],_=>rfl
   |[x],_=>rfl
   |[x,a],h2=>exact absurd rfl (h2 x a)
   |x::y::z::l,_=>simp[p9]
  match l,hok,hno,hlen with
  |
   [x,a],hok,hno,hlen =>
   clear hno
   obtain⟨ok1,ok2,_⟩:=hok
   have e2:∀w:List UInt8,p9 (.list [x,a]) w 2=(x.at==w):=fun w=>rfl
   have e3:p9 (.list [x,a]) [112] 3=false:=rfl
   have hx:=nR x
   have hxl:=lY x
   rw[fM]
   simp only[e2,↓zq,zs,ae]
   refine⟨fun h1=>?_,fun h1=>aj (sX (.list [x,a]) [114] 2 (by omega)) ?_⟩
   ·simp only[E.cB,E.mi,toNat_one,↓zq,zs,ae,zt,cV,ep]
    refine⟨by omega,by omega,by omega,aj (zX a ok2) ?_⟩
    cases hv:fM a with
    |none=>simp only[jt,↓zq,zs,ae,gp];exact⟨fun _=>trivial,fun h=>(by cases h)⟩
    |
     some v =>
     simp only[jt,↓zq,zs,ae,zt,aN,fu,hx,h1,cV,ep]
     refine⟨fun h=>(by cases h),fun _=>⟨by omega,by omega,by omega,hxl,by simp,?_⟩⟩
     rfl
   ·simp only[e2,↓zq,zs,ae]
    refine⟨fun h2=>?_,fun h2=>aj (sX (.list [x,a]) [102] 2 (by omega)) ?_⟩
    ·simp only[E.cB,E.mi,toNat_one,↓zq,zs,ae,zt,cV,ep]
     refine⟨by omega,by omega,by omega,aj (zX a ok2) ?_⟩
     cases hv:fM a with
     |none=>simp only[jt,↓zq,zs,ae,gp];exact⟨fun _=>trivial,fun h=>(by cases h)⟩
     |
      some v =>
      simp only[jt,↓zq,zs,ae,zt,aN,fu,hx,h2,cV,ep]
      refine⟨fun h=>(by cases h),fun _=>⟨by omega,by omega,by omega,hxl,by simp,?_⟩⟩
      rfl
    ·simp only[e2,↓zq,zs,ae]
     refine⟨fun h3=>?_,fun h3=>aj (sX (.list [x,a]) [112] 3 (by omega)) ?_⟩
     ·simp only[E.cB,E.mi,toNat_one,↓zq,zs,ae,zt,cV,ep]
      refine⟨by omega,by omega,by omega,aj (zX a ok2) ?_⟩
      cases hv:fM a with
      |none=>simp only[jt,↓zq,zs,ae,gp];exact⟨fun _=>trivial,fun h=>(by cases h)⟩
      |
       some v =>
       simp only[jt,↓zq,zs,ae,zt,aN,fu,hx,h3,cV,ep]
       refine⟨fun h=>(by cases h),fun _=>⟨by omega,by omega,by omega,hxl,by simp,?_⟩⟩
       rfl
     ·rw[e3]
      simp only[↓zq,zs,ae]
      refine⟨fun h=>(by cases h),fun _=>?_⟩
      cases fM a with
      |none=>rfl
      |some v=>simp only[if_neg h1,if_neg h2,if_neg h3];rfl
  |
   [x,a,b],hok,hno,hlen =>
   obtain⟨ok1,ok2,ok3,_⟩:=hok
   have h2:=fun w=>hno w (fun x a h=>(by cases h))
   rw[h2]
   simp only[↓zq,zs,ae]
   refine⟨fun h=>(by cases h),fun _=>aj (sX (.list [x,a,b]) [114] 2 (by omega)) ?_⟩
   rw[h2]
   simp only[↓zq,zs,ae]
   refine⟨fun h=>(by cases h),fun _=>aj (sX (.list [x,a,b]) [102] 2 (by omega)) ?_⟩
   rw[h2]
   simp only[↓zq,zs,ae]
   refine⟨fun h=>(by cases h),fun _=>aj (sX (.list [x,a,b]) [112] 3 (by omega)) ?_⟩
   have e3:p9 (.list [x,a,b]) [112] 3=(x.at==[112]):=rfl
   rw[e3,fM]
   simp only[↓zq,zs,ae]
   refine⟨fun h1=>?_,fun h1=>?_⟩
   ·rw[if_pos h1]
    simp only[E.cB,E.mi,toNat_one,bf,↓zq,zs,ae,zt,cV,ep]
    refine⟨by omega,by omega,by omega,aj (zX a ok2) ?_⟩
    simp only[↓zq,zs,ae,gp,cV]
    refine⟨by omega,by omega,by omega,aj (zX b ok3) ?_⟩
    cases hv:fM a with
    |none=>cases hw:fM b<;>simp only[jt,↓zq,zs,ae,gp,aN]<;>exact⟨fun _=>trivial,fun h=>(by cases h)⟩
    |
     some v =>
     cases hw:fM b with
     |
      none =>
      simp only[jt,↓zq,zs,ae,gp,aN,fu]
      exact⟨fun h=>(by cases h),fun _=>⟨fun _=>trivial,fun h=>(by cases h)⟩⟩
     |
      some w =>
      simp only[jt,↓zq,zs,ae,aN,fu]
      refine⟨fun h=>(by cases h),fun _=>⟨fun h=>(by cases h),fun _=>?_⟩⟩
      refine aj (zx _ _ ((aN _).mpr trivial) ((aN _).mpr trivial)) ?_
      simp only[↓zq,zs,ae];rfl
   ·rw[if_neg h1];rfl
  |
   [],hok,hno,hlen =>
   have h2:=fun w=>hno w (fun x a h=>(by cases h))
   have e3:p9 (.list []) [112] 3=false:=rfl
   rw[h2]
   simp only[↓zq,zs,ae]
   refine⟨fun h=>(by cases h),fun _=>aj (sX (.list []) [114] 2 (by omega)) ?_⟩
   rw[h2]
   simp only[↓zq,zs,ae]
   refine⟨fun h=>(by cases h),fun _=>aj (sX (.list []) [102] 2 (by omega)) ?_⟩
   rw[h2]
   simp only[↓zq,zs,ae]
   refine⟨fun h=>(by cases h),fun _=>aj (sX (.list []) [112] 3 (by omega)) ?_⟩
   rw[e3]
   simp only[↓zq,zs,ae]
   exact⟨fun h=>(by cases h),fun _=>rfl⟩
  |
   [x],hok,hno,hlen =>
   have h2:=fun w=>hno w (fun x a h=>(by cases h))
   have e3:p9 (.list [x]) [112] 3=false:=rfl
   rw[h2]
   simp only[↓zq,zs,ae]
   refine⟨fun h=>(by cases h),fun _=>aj (sX (.list [x]) [114] 2 (by omega)) ?_⟩
   rw[h2]
   simp only[↓zq,zs,ae]
   refine⟨fun h=>(by cases h),fun _=>aj (sX (.list [x]) [102] 2 (by omega)) ?_⟩
   rw[h2]
   simp only[↓zq,zs,ae]
   refine⟨fun h=>(by cases h),fun _=>aj (sX (.list [x]) [112] 3 (by omega)) ?_⟩
   rw[e3]
   simp only[↓zq,zs,ae]
   exact⟨fun h=>(by cases h),fun _=>rfl⟩
  |
   x::y::z::w::l,hok,hno,hlen =>
   have h2:=fun w=>hno w (fun x a h=>(by cases h))
   have e3:p9 (.list (x::y::z::w::l)) [112] 3=false:=by simp[p9]
   rw[h2]
   simp only[↓zq,zs,ae]
   refine⟨fun h=>(by cases h),fun _=>aj (sX (.list (x::y::z::w::l)) [114] 2 (by omega)) ?_⟩
   rw[h2]
   simp only[↓zq,zs,ae]
   refine⟨fun h=>(by cases h),fun _=>aj (sX (.list (x::y::z::w::l)) [102] 2 (by omega)) ?_⟩
   rw[h2]
   simp only[↓zq,zs,ae]
   refine⟨fun h=>(by cases h),fun _=>aj (sX (.list (x::y::z::w::l)) [112] 3 (by omega)) ?_⟩
   rw[e3]
   simp only[↓zq,zs,ae]
   exact⟨fun h=>(by cases h),fun _=>rfl⟩
def sw(s:List UInt8):Option Vl:=match qJ s with
 |none=>none
 |
  some e=>match fM e with
  |none=>none
  |some v=>if v.nodes>200 then none else some v
theorem lI{s:List UInt8}{v:Vl}(h:sw s=some v):qJ s=some v.cL/\v.gR 100/\v.nodes<=200:=by
 unfold sw at h
 split at h
 ·cases h
 ·rename_i e he
  split at h
  ·cases h
  ·rename_i w hw
   split at h
   ·cases h
   ·cases h
    obtain⟨h1,h2⟩:=kT e _ hw
    rw[h1]
    exact⟨he,h2,by omega⟩
theorem wE{e:E}{v:Vl}(h:fM e=some v):v.nodes<=e.sz:=by
 obtain⟨h1,_⟩:=kT e v h
 rw[<-nT,h1];exact AD e
theorem RB(s:List UInt8):an Tryz.prog 100 [.v (.string (mk s))] [] (bJ (jt (sw s))):=by
 refine Ru _ ?_
 unfold MY
 refine aj (LG s) ?_
 unfold sw
 cases he:qJ s with
 |none=>simp only[uA,↓zq,zs,ae,bJ,jt];simp
 |
  some e =>
  obtain⟨h1,h2⟩:=nI he
  simp only[uA,↓zq,zs,ae,cV,ep]
  refine⟨fun h=>(by cases h),fun _=>?_⟩
  refine aj (zX e h1) ?_
  cases hv:fM e with
  |none=>simp only[jt,↓zq,zs,ae,bJ];simp
  |
   some v =>
   have hn:=wE hv
   simp only[jt,↓zq,zs,ae,aN,fu]
   refine⟨fun h=>(by cases h),fun _=>?_⟩
   refine aj (Ip v (by omega)) ?_
   simp only[↓zq,zs,ae,bJ]
   refine⟨fun h=>?_,fun h=>?_⟩
   ·rw[if_pos (by omega)]
   ·rw[if_neg (by omega)]
theorem Ar:∀(e:E),e.ok->an Tryz.prog 103 [e.kG] [] (bJ (.v (.bool (xN e))))
 |
  .atom s,hok=>by
  refine Ap _ _ ((bp).mpr trivial) ?_
  have hne:s≠[]:=hok
  simp only[wI,↓zq,zs,ae,zt,bJ,xN]
  refine⟨fun _=>⟨fun h=>?_,fun h=>?_⟩,fun h=>absurd h hne⟩
  ·simp[h]
  ·refine aj (JT s) ?_
   have h':(s==[117])=false:=by simpa using h
   simp only[↓zq,zs,ae,h',Bool.false_or]
   congr 2
   rw[BI]
   cases fQ s with
   |none=>rfl
   |some k=>simp
 |
  .list [],hok=>by
  refine Ap _ _ ((cc _).mpr trivial) ?_
  simp only[wI,↓zq,zs,ae,zt,bJ,xN]
  refine⟨fun h=>absurd rfl h,fun _=>?_⟩
  refine aj PF ?_
  simp[↓zq,zs,ae,zt]
 |
  .list [x],hok=>by
  refine Ap _ _ ((cc _).mpr trivial) ?_
  simp only[wI,↓zq,zs,ae,zt,bJ,xN]
  refine⟨fun h=>absurd rfl h,fun _=>?_⟩
  refine aj (u6 x _) ?_
  simp[↓zq,zs,ae,zt,E.bw]
 |
  .list (x::y::z::w::l),hok=>by
  refine Ap _ _ ((cc _).mpr trivial) ?_
  simp only[wI,↓zq,zs,ae,zt,bJ,xN]
  refine⟨fun h=>absurd rfl h,fun _=>?_⟩
  refine aj (u6 x _) ?_
  simp only[↓zq,zs,ae,zt,E.bw]
  refine⟨fun _=>⟨fun h=>by omega,fun _=>trivial⟩,fun _=>⟨fun _=>⟨fun h=>by omega,fun _=>trivial⟩,fun _=>⟨fun _=>⟨fun h=>by omega,fun _=>trivial⟩,fun _=>⟨fun _=>⟨fun h=>by omega,fun _=>trivial⟩,fun _=>trivial⟩⟩⟩⟩
 |
  .list [x,a],hok=>by
  refine Ap _ _ ((cc _).mpr trivial) ?_
  obtain⟨ok1,ok2,_⟩:=hok
  simp only[wI,↓zq,zs,ae,zt,bJ,xN]
  refine⟨fun h=>absurd rfl h,fun _=>?_⟩
  refine aj (u6 x _) ?_
  simp only[E.bw,toNat_one,bf,↓zq,zs,ae,zt,iU,gd,iQ,mH,au]
  refine⟨fun h=>⟨fun _=>⟨by omega,?_⟩,fun h=>by omega⟩,fun h1=>⟨fun h=>⟨fun _=>⟨by omega,?_⟩,fun h=>by omega⟩,fun h2=>⟨fun h=>⟨fun _=>⟨by omega,?_⟩,fun h=>by omega⟩,fun h3=>⟨fun h=>⟨fun h=>by omega,fun _=>?_⟩,fun h=>?_⟩⟩⟩⟩
  ·refine aj (Ar a ok2) ?_
   simp[↓zq,zs,ae,h]
  ·refine aj (Ar a ok2) ?_
   simp[↓zq,zs,ae,h]
  ·refine aj (Ar a ok2) ?_
   simp[↓zq,zs,ae,h]
  ·simp[h]
  ·simp[h1,h2,h3]
 |
  .list [x,a,b],hok=>by
  refine Ap _ _ ((cc _).mpr trivial) ?_
  obtain⟨ok1,ok2,ok3,_⟩:=hok
  simp only[wI,↓zq,zs,ae,zt,bJ,xN]
  refine⟨fun h=>absurd rfl h,fun _=>?_⟩
  refine aj (u6 x _) ?_
  simp only[E.bw,toNat_one,bf,↓zq,zs,ae,zt,iU,gd,iQ,mH,au]
  refine⟨fun h=>⟨fun h=>by omega,fun _=>?_⟩,fun h1=>⟨fun h=>⟨fun h=>by omega,fun _=>?_⟩,fun h2=>⟨fun h=>⟨fun h=>by omega,fun _=>?_⟩,fun h3=>⟨fun h=>⟨fun _=>⟨by omega,?_⟩,fun h=>by omega⟩,fun h=>?_⟩⟩⟩⟩
  ·simp[h]
  ·simp[h]
  ·simp[h]
  ·refine aj (Ar a ok2) ?_
   simp only[↓zq,zs,ae,h]
   refine⟨fun ha=>⟨by omega,aj (Ar b ok3) ?_⟩,fun ha=>?_⟩
   ·simp[↓zq,zs,ae,ha]
   ·simp[ha]
  ·simp[h]
theorem D2(s:List UInt8):an Tryz.prog 72 [.v (.string (mk s))] [] (jI ((sw s).map Vl.cL) (sw s).isSome):=by
 refine PC _ ?_
 unfold Lj
 refine aP (MO s) (jI.ne _ _ (fun h=>h)) ?_
 rintro r o ⟨c,d,hd,rfl,hh⟩
 simp only[↓zq,zs,ae,zt,bD,sw]
 refine⟨hd,fun h=>?_,fun h=>?_⟩
 ·obtain⟨e,he,hce⟩:=hh h
  obtain⟨hok,hsz⟩:=nI he
  rw[he,hce]
  refine aj (Ar e hok) ?_
  simp only[↓zq,zs,ae]
  have hs:=oL e
  refine⟨fun hi=>?_,fun hi=>?_⟩
  ·rw[hi]at hs
   obtain⟨v,hv⟩:=ca.1 hs
   obtain⟨h1,h2⟩:=kT e v hv
   refine aj (Rv e (by omega)) ?_
   simp only[↓zq,zs,ae,hv]
   have hnd:e.nd=v.nodes:=by rw[<-h1,nT]
   rw[hnd]
   refine⟨c,d,hd,?_,?_⟩
   ·rw[hce]
    by_cases h4:v.nodes>200
    ·rw[if_pos h4];exact congrArg (fun b=>AV.cI [e.kG,.v (.bool b)]) (decide_eq_false (show ¬((v.nodes:Nat):Int)<=200 by omega))
    ·rw[if_neg h4];exact congrArg (fun b=>AV.cI [e.kG,.v (.bool b)]) (decide_eq_true (show ((v.nodes:Nat):Int)<=200 by omega))
   ·split
    ·exact fun h=>by cases h
    ·exact fun _=>⟨e,by simp[h1],hce⟩
  ·rw[hi]at hs
   have hn:fM e=none:=by cases hq:fM e<;>simp[hq]at hs |-
   rw[hn]
   exact⟨c,d,hd,by rw[hce];rfl,fun h=>by cases h⟩
 ·have hn:qJ s=none:=by cases hq:qJ s<;>simp[hq]at h |-
  rw[hn]
  exact⟨c,d,hd,rfl,fun h=>by cases h⟩
end Go.Proofs.Trees
namespace Go.Proofs.Trees
open Go Go.VL Go.RowKit
inductive Fr where
 |mk (s:List UInt8) (e:E) (o:List Fr)
def Fr.nm:Fr->List UInt8| .mk s _ _=>s
def Fr.ex:Fr->E| .mk _ e _=>e
def Fr.out:Fr->List Fr| .mk _ _ o=>o
def names:List Fr->List (List UInt8)
 |[]=>[]
 |f::r=>names r++[f.nm]
def yn(e:E)(o:List Fr):Ty:=(cT e (names o)).getD .zero
def E.sp:E->AV
 | .atom _=>.v (.slice none 0 0)
 | .list l=>.sl (E.bw l)
theorem fJ(e:E):e.ik=[.v (.string (mk e.at)),e.sp]:=by cases e<;>rfl
theorem dk(e:E):e.kG=.agg [.v (.string (mk e.at)),e.sp]:=by cases e<;>rfl
theorem aX(e:E):LK.has .sl e.sp=True:=by cases e<;>simp[E.sp,bp,cc]
mutual
def Fr.cells:Fr->List AV
 | .mk s e o=>[.v (.string (mk s)),.v (.string (mk e.at)),e.sp,.sl (j9 o)]
def j9:List Fr->List (List AV)
 |[]=>[]
 |f::r=>j9 r++[f.cells]
end
mutual
def Fr.cB:Fr->AV
 | .mk s e o=>.ptr [(yn e o).av,oy o]
def oy:List Fr->AV
 |[]=>iq
 |f::r=>.ptr [f.cB,oy r]
end
inductive WF:List Fr->Prop
 |nil:WF []
 |cons {s:List UInt8} {x a b:E} {t:Ty} {r:List Fr} (hs:di s=true) (hok:(E.list [x,a,b]).ok) (hx:x.at=[114,101,99]) (ht:cT (.list [x,a,b]) (names r)=some t) (hf:cb t=false) (hr:WF r):WF (.mk s (.list [x,a,b]) r::r)
theorem kW:∀env:List Fr,(j9 env).length=env.length
 |[]=>rfl
 |f::r=>by simp[j9,kW r]
theorem eu(env:List Fr):LK.has .ptr (oy env)=True:=by cases env<;>simp[oy,jg,cg]
theorem BN(f:Fr):LK.has .ptr f.cB=True:=by cases f;simp[Fr.cB,cg]
def findF(s:List UInt8):List Fr->Option Fr
 |[]=>none
 |f::r=>if f.nm=s then some f else findF s r
def hd(e:E)(env:List Fr):E×List Fr:=match findF e.at env with|some f=>(f.ex,f.out)|none=>(e,env)
theorem lq{env:List Fr}(h:WF env):findF [] env=none:=by
 induction h with
 |nil=>rfl
 |
  @cons s x a b t r hs hok hx ht hf hr ih =>
  rw[findF,if_neg (show ¬(Fr.mk s (.list [x,a,b]) r).nm=[] from AL hs)];exact ih
theorem zm{env:List Fr}(h:WF env){s:List UInt8}{f:Fr}(hf:findF s env=some f):di s=true:=by
 induction h with
 |nil=>cases hf
 |
  cons hs hok hx ht hf' hr ih =>
  rw[findF]at hf
  split at hf
  ·rename_i e;exact e ▸ hs
  ·exact ih hf
theorem oV{env:List Fr}(h:WF env){s:List UInt8}{f:Fr}(hf:findF s env=some f):∃x a b t,f.ex=.list [x,a,b]/\(E.list [x,a,b]).ok/\x.at=[114,101,99]/\cT f.ex (names f.out)=some t/\cb t=false/\WF f.out/\f.out.length<env.length:=by
 induction h with
 |nil=>cases hf
 |
  cons hs hok hx ht hf' hr ih =>
  rw[findF]at hf
  split at hf
  ·cases hf;exact⟨_,_,_,_,rfl,hok,hx,ht,hf',hr,by simp[Fr.out]⟩
  ·obtain⟨x,a,b,t,h1,h2,h3,h4,h5,h6,h7⟩:=ih hf
   exact⟨x,a,b,t,h1,h2,h3,h4,h5,h6,by simp;omega⟩
theorem kj(s w:List UInt8)(ar:List (List UInt8)):∀i,i<=ar.length->bO s (ar++[w]) i=(bO s ar i).map (·+1)
 |0,_=>rfl
 |
  i+1,hi=>by
  have hlt:i<ar.length:=by omega
  have e:(ar++[w]).getD i []=ar.getD i []:=by simp[aa,List.getElem?_append_left hlt]
  rw[bO,bO,e,kj s w ar i (by omega)]
  split
  ·simp only[aq,az,aG,cj,Option.some.injEq];omega
  ·rfl
theorem vF(s:List UInt8)(f:Fr)(r:List Fr):bO s (names (f::r)) (names (f::r)).length=if f.nm=s then some 0 else(bO s (names r) (names r).length).map (·+1):=by
 have e:(names (f::r)).length=(names r).length+1:=by simp[names]
 rw[e,bO]
 have e2:(names (f::r)).getD (names r).length []=f.nm:=by simp[names,aa]
 rw[e2]
 split
 ·rw[e];simp
 ·rw[names,kj _ _ _ _ (au _)]
theorem oD(s:List UInt8):∀env:List Fr,bO s (names env) (names env).length=none/\findF s env=none\/∃(u:Nat) (f:Fr),bO s (names env) (names env).length=some u/\findF s env=some f/\env[u]?=some f
 |[]=>.inl ⟨rfl,rfl⟩
 |
  f::r=>by
  rw[vF,findF]
  split
  ·exact .inr ⟨0,f,rfl,rfl,rfl⟩
  ·rcases oD s r with⟨h1,h2⟩|⟨u,g,h1,h2,h3⟩
   ·exact .inl ⟨by rw[h1];rfl,h2⟩
   ·exact .inr ⟨u+1,g,by rw[h1];rfl,h2,by simpa using h3⟩
def Ty.O2:Ty->Bool
 | .bound _=>true
 |_=>false
theorem gn{e:E}{env:List Fr}{t:Ty}(hw:WF env)(ht:cT e (names env)=some t) :
 (t.O2=false/\findF e.at env=none)\/∃(u:Nat) (f:Fr),t=.bound u/\findF e.at env=some f/\env[u]?=some f:=by
 cases e with
 |
  list l =>
  left
  refine⟨?_,lq hw⟩
  match l,ht with
  |
   [x,a,b],ht =>
   by_cases h0:x.at=[43]
   ·obtain⟨t1,t2,_,_,rfl⟩:=fL h0 ht;rfl
   ·by_cases h1:x.at=[42]
    ·obtain⟨t1,t2,_,_,rfl⟩:=fj h1 ht;rfl
    ·by_cases h2:x.at=[114,101,99]
     ·obtain⟨t1,_,_,rfl⟩:=dz h2 ht;rfl
     ·rw[jh _ h0 h1 h2]at ht;cases ht
  |[],ht=>cases ht
  |[_],ht=>cases ht
  |[_,_],ht=>cases ht
  |_::_::_::_::_,ht=>cases ht
 |
  atom s =>
  simp only[cT]at ht
  have hno:di s=false->findF s env=none:=fun h=>by
   cases hq:findF s env with
   |none=>rfl
   |some f=>rw[zm hw hq]at h;cases h
  split at ht
  ·rename_i h;cases ht;subst h;exact .inl ⟨rfl,hno rfl⟩
  ·split at ht
   ·rename_i h;cases ht;subst h;exact .inl ⟨rfl,hno rfl⟩
   ·split at ht
    ·rename_i h
     cases ht
     refine .inl ⟨rfl,hno ?_⟩
     cases hq:di s with
     |false=>rfl
     |
      true =>
      obtain⟨c,r,rfl,h1,h2⟩:=lV h
      obtain⟨c',r',he,h3,h4⟩:=lV hq
      cases he;omega
    ·split at ht
     ·rcases oD s env with⟨h1,h2⟩|⟨u,f,h1,h2,h3⟩
      ·rw[h1]at ht;cases ht;exact .inl ⟨rfl,h2⟩
      ·rw[h1]at ht;cases ht;exact .inr ⟨u,f,rfl,h2,h3⟩
     ·cases ht
def eY(n:Nat):Vl->E×List Fr->Bool
 | .u,p=>match hd p.1 p.2 with|(.atom s,_)=>s==[49]|_=>false
 | .el k,p=>match hd p.1 p.2 with|(.atom s,_)=>!(s==[49])&&(gX s&&decide (k<n))|_=>false
 | .l w,p=>match hd p.1 p.2 with|(.list [x,a,b],o)=>(x.at==[43])&&eY n w (a,o)|_=>false
 | .r w,p=>match hd p.1 p.2 with|(.list [x,a,b],o)=>(x.at==[43])&&eY n w (b,o)|_=>false
 | .f w,p=>match hd p.1 p.2 with|(.list [x,a,b],o)=>(x.at==[114,101,99])&&eY n w (b,.mk a.at (.list [x,a,b]) o::o)|_=>false
 | .p v w,p=>match hd p.1 p.2 with|(.list [x,a,b],o)=>(x.at==[42])&&(eY n v (a,o)&&eY n w (b,o))|_=>false
theorem ko{e:E}{env:List Fr}(h:findF e.at env=none):hd e env=(e,env):=by rw[hd,h]
theorem qV{e:E}{env:List Fr}{f:Fr}(h:findF e.at env=some f):hd e env=(f.ex,f.out):=by rw[hd,h]
theorem pW{x a b:E}{o:List Fr}(h:WF o):hd (.list [x,a,b]) o=(.list [x,a,b],o):=ko (lq h)
theorem tL(n:Nat)(v:Vl){e e':E}{env o:List Fr}(h:hd e env=(e',o))(h':hd e' o=(e',o)):eY n v (e,env)=eY n v (e',o):=by
 cases v<;>simp only[eY,h,h']
theorem jq{x a b:E}{env:List Fr}{t:Ty}(hw:WF env)(hok:(E.list [x,a,b]).ok)(hx:x.at=[114,101,99])(ht:cT (.list [x,a,b]) (names env)=some t)(hf:cb t=false) :
 ∃t1,t=.rc t1/\cT b (names (.mk a.at (.list [x,a,b]) env::env))=some t1/\cb t1=false/\WF (.mk a.at (.list [x,a,b]) env::env):=by
 obtain⟨t1,hl,h1,rfl⟩:=dz hx ht
 exact⟨t1,rfl,h1,hf,.cons hl hok hx ht hf hw⟩
theorem zJ(a b env:AV)(n:Int)(s:ByteArray)(u:Int)(ha:LK.ptr.has a)(he:LK.ptr.has env):an Tryz.prog 107 [.agg [.ptr [.v (.int .u8 n),.v (.string s),.v (.int .i64 u),a,b],env]] [] (bJ (.agg [a,env])):=by
 refine Qq _ _ ((cg _).mpr trivial) he ?_
 simp only[Na,↓zq,zs,ae,bJ]
 exact⟨ha,by omega⟩
theorem zz(a b env:AV)(n:Int)(s:ByteArray)(u:Int)(hb:LK.ptr.has b)(he:LK.ptr.has env):an Tryz.prog 108 [.agg [.ptr [.v (.int .u8 n),.v (.string s),.v (.int .i64 u),a,b],env]] [] (bJ (.agg [b,env])):=by
 refine RC _ _ ((cg _).mpr trivial) he ?_
 simp only[Mc,↓zq,zs,ae,bJ]
 exact⟨hb,by omega⟩
theorem SL(t:Ty)(env:List Fr)(s:List UInt8)(e:E)(ht:yn e env=.rc t):an Tryz.prog 77 [.agg [(Ty.rc t).av,oy env]] [] (bJ (.cI [.agg [t.av,oy (.mk s e env::env)],(Fr.mk s e env).cB])):=by
 refine RE _ _ ((aF _).mpr trivial) ((eu _).mpr trivial) ?_
 simp only[Mj,Ty.av,↓zq,zs,ae,aF,bJ,oy,Fr.cB,ht]
 omega
theorem sN(env:List Fr)(i:Nat)(f:Fr)(h:env[i]?=some f):oy (env.drop i)=.ptr [f.cB,oy (env.drop (i+1))]:=by
 obtain⟨hlt,he⟩:=List.getElem?_eq_some_iff.1 h
 rw[aT hlt,he,oy]
theorem Me(env:List Fr)(u:Nat)(hu:u<env.length)(hl:env.length<1000000):∀(k i:Nat),i+k=u->Ef [oy (env.drop i),.v (.int .i64 (u:Int)),.v (.int .i64 (i:Int))] [] (ib 1 [oy (env.drop u)] [])
 |
  0,i,hi=>by
  refine DM _ _ _ ?_
  have:i=u:=by omega
  subst this
  simp only[Bw,↓zq,zs,ae,eu]
  exact⟨fun h=>by omega,fun _=>by simp[ib]⟩
 |
  k+1,i,hi=>by
  refine DM _ _ _ ?_
  have hlt:i<env.length:=by omega
  have hg:env[i]?=some env[i]:=bo hlt
  have hd:=sN env i _ hg
  rw[hd]
  simp only[Bw,↓zq,zs,ae,eu]
  refine⟨fun _=>⟨by omega,?_⟩,fun h=>by omega⟩
  rw[bA i (by omega)]
  exact Me env u hu hl k (i+1) (by omega)
theorem RM(env:List Fr)(u:Nat)(f:Fr)(hf:env[u]?=some f)(hl:env.length<1000000):an Tryz.prog 141 [.agg [(Ty.bound u).av,oy env]] [] (bJ f.cB):=by
 refine NV _ _ ((aF _).mpr trivial) ((eu _).mpr trivial) ?_
 obtain⟨hlt,he⟩:=List.getElem?_eq_some_iff.1 hf
 simp only[F0,Ty.av,↓zq,zs,ae]
 refine⟨by omega,?_⟩
 have h:=Me env u hlt hl u 0 (by omega)
 simp only[bc]at h
 refine cD h ?_
 rw[sN env u f hf]
 simp only[↓zq,zs,ae,BN,bJ]
 omega
theorem C3(k:Nat)(h:k<100):Lib.atoi (dd k)=some (k:Int):=by
 have e:∀k,k<100->dd k=if k<10 then [bg (48+k)]else [bg (48+k/10),bg (48+k%10)]:=by
  intro k hk
  by_cases h1:k<10
  ·rw[eH h1,if_pos h1]
  ·rw[fP h1,eH (by omega),if_neg h1];rfl
 have key:∀k:Fin 100,Lib.atoi (if k.val<10 then [bg (48+k.val)]else [bg (48+k.val/10),bg (48+k.val%10)])=some (k.val:Int):=by decide +kernel
 rw[e k h];exact key ⟨k,h⟩
theorem RX(k:Nat)(hk:k<100):an Tryz.prog 140 [.v (.string (mk (dd k)))] [] (bJ (.cI [.v (.int .i64 (k:Int)),.v .nilIface])):=by
 have hl:=mR 1000 k (by omega)
 have hl2:(dd k).length<=18:=by
  have e:(dd k).length<=2:=by
   by_cases h1:k<10
   ·rw[eH h1];simp
   ·rw[fP h1,eH (by omega)];simp
  omega
 refine an.PD (xs:=[.string (mk (dd k))]) (v:=.tuple #[.int .i64 (k:Int),.nilIface]) ⟨qA,by kernel_rfl,by kernel_rfl,by kernel_rfl⟩ (fun M=>?_) fun w=>?_
 ·refine bE.cI _ _ [.int .i64 (k:Int),.nilIface] rfl fun i hi=>?_
  match i,hi with
  |0,_=>exact .v _ _
  |1,_=>exact .v _ _
 ·have:=Any.strconv_Atoi Tryz.CQ (mk (dd k)) (k:Int) (by rw[cM];exact hl2) (by
   have:(mk (dd k)).data.toList=dd k:=by simp[mk]
   rw[this];exact C3 k hk) w
  refine Calls.mono this fun e w' ⟨h1,t,h2⟩=>⟨h1,?_⟩
  subst h2
  refine⟨rfl,rfl,rfl,?_,fun b hb=>Lib.bytesWorld_at_old _ _ _ _ hb⟩
  simp[Lib.bytesWorld,World.freeze]
end Go.Proofs.Trees
namespace Go.Proofs.Trees
open Go Go.VL Go.RowKit
theorem fw{a b:Ty}(h:cb (.plus a b)=false):cb a=false/\cb b=false:=by simpa[cb]using h
theorem eW{a b:Ty}(h:cb (.times a b)=false):cb a=false/\cb b=false:=by simpa[cb]using h
theorem fG{e:E}{ar:List (List UInt8)}{t:Ty}(ht:cT e ar=some t)(hb:t.O2=false)(hf:cb t=false) :
 (e=.atom [48]/\t=.zero)\/(e=.atom [49]/\t=.one)\/(∃s,e=.atom s/\t=.name s/\gX s=true/\s≠[48]/\s≠[49]) ∨
 (∃x a b t1 t2,e=.list [x,a,b]/\x.at=[43]/\t=.plus t1 t2/\cT a ar=some t1/\cT b ar=some t2) ∨
 (∃x a b t1 t2,e=.list [x,a,b]/\x.at=[42]/\t=.times t1 t2/\cT a ar=some t1/\cT b ar=some t2) ∨
 (∃x a b t1,e=.list [x,a,b]/\x.at=[114,101,99]/\t=.rc t1):=by
 cases e with
 |
  list l =>
  match l,ht with
  |
   [x,a,b],ht =>
   by_cases h0:x.at=[43]
   ·obtain⟨t1,t2,h1,h2,rfl⟩:=fL h0 ht
    exact .inr (.inr (.inr (.inl ⟨x,a,b,t1,t2,rfl,h0,rfl,h1,h2⟩)))
   ·by_cases h1:x.at=[42]
    ·obtain⟨t1,t2,h3,h2,rfl⟩:=fj h1 ht
     exact .inr (.inr (.inr (.inr (.inl ⟨x,a,b,t1,t2,rfl,h1,rfl,h3,h2⟩))))
    ·by_cases h2:x.at=[114,101,99]
     ·obtain⟨t1,_,_,rfl⟩:=dz h2 ht
      exact .inr (.inr (.inr (.inr (.inr ⟨x,a,b,t1,rfl,h2,rfl⟩))))
     ·rw[jh _ h0 h1 h2]at ht;cases ht
  |[],ht=>cases ht
  |[_],ht=>cases ht
  |[_,_],ht=>cases ht
  |_::_::_::_::_,ht=>cases ht
 |
  atom s =>
  simp only[cT]at ht
  split at ht
  ·rename_i h;cases ht;subst h;exact .inl ⟨rfl,rfl⟩
  ·rename_i h0
   split at ht
   ·rename_i h;cases ht;subst h;exact .inr (.inl ⟨rfl,rfl⟩)
   ·rename_i h1
    split at ht
    ·rename_i h;cases ht;exact .inr (.inr (.inl ⟨s,rfl,rfl,h,h0,h1⟩))
    ·split at ht
     ·rename_i h
      split at ht
      ·cases ht;cases hb
      ·cases ht;simp only[cb]at hf;rw[h]at hf;cases hf
     ·cases ht
def qt(n:Nat)(v:Vl)(e:E)(env:List Fr)(t:Ty):Prop:=an Tryz.prog 101 [.agg [t.av,oy env],v.cB,.v (.int .i64 (n:Int))] [] (bJ (.v (.bool (eY n v (e,env)))))
structure Ask(e:E)(env:List Fr)(t:Ty):Prop where
 ok:e.ok
 wf:WF env
 ty:cT e (names env)=some t
 cl:cb t=false
theorem JK(n:Nat)(hn:n<=100)(v:Vl)(hv:v.gR 100)(IH:∀w:Vl,w.nodes<v.nodes->w.gR 100->∀e env t,Ask e env t->env.length+w.nodes<100000->qt n w e env t)
 (e:E) (env:List Fr) (t:Ty) (A:Ask e env t) (hl:env.length+v.nodes<100000) (hb:t.O2=false) (hh:findF e.at env=none):qt n v e env t:=by
 have hhd:hd e env=(e,env):=ko hh
 unfold qt
 refine Mz _ _ _ _ ((aF _).mpr trivial) ((eu _).mpr trivial) ((aN _).mpr trivial) ?_
 rcases fG A.ty hb A.cl with⟨rfl,rfl⟩|⟨rfl,rfl⟩|⟨s,rfl,rfl,hp,h0,h1⟩|⟨x,a,b,t1,t2,rfl,hx,rfl,ha,hbb⟩|⟨x,a,b,t1,t2,rfl,hx,rfl,ha,hbb⟩|⟨x,a,b,t1,rfl,hx,rfl⟩
 ·have hp0:gX [48]=false:=rfl
  cases v<;>simp[Az,Ty.av,↓zq,zs,ae,bJ,eY,hhd,hp0]
 ·have hp0:gX [49]=false:=rfl
  cases v<;>simp[Az,Ty.av,Vl.cB,↓zq,zs,ae,bJ,eY,hhd,hp0]
 ·have h1':(s==[49])=false:=by simpa using h1
  cases v with
  |
   el k =>
   have hk:k<100:=hv
   simp only[Az,Ty.av,Vl.cB,↓zq,zs,ae,zt]
   refine⟨by omega,fun h=>by omega,fun _=>⟨fun _=>⟨by omega,fun h=>absurd rfl h,fun _=>⟨by omega,by omega,?_⟩⟩,fun h=>absurd rfl h⟩⟩
   have e1:(List.take ((dd k).length+1) (wT k)).drop (bI 1)=dd k:=by simp[wT]
   rw[e1]
   refine aj (RX k hk) ?_
   simp only[↓zq,zs,ae,bJ,eY,hhd,h1',hp,zf]
   refine⟨rfl,?_⟩
   congr 2
   rw[cx];simp
  |
   _ =>
   simp only[Az,Ty.av,Vl.cB,↓zq,zs,ae,zt,eY,hhd,h1',bJ]
   exact⟨by omega,fun h=>by omega,fun _=>⟨fun _=>⟨by omega,fun _=>trivial,fun h=>by omega⟩,fun h=>absurd rfl h⟩⟩
 ·have hok:=A.ok
  obtain⟨ok1,ok2,ok3,_⟩:=hok
  obtain⟨f1,f2⟩:=fw A.cl
  cases v with
  |
   l w =>
   simp only[Vl.nodes]at hl
   simp only[Az,Ty.av,Vl.cB,↓zq,zs,ae]
   refine⟨by omega,fun h=>by omega,fun _=>⟨fun h=>by omega,fun _=>⟨fun h=>by omega,fun _=>⟨fun _=>⟨by omega,fun _=>?_,fun h=>absurd rfl h⟩,fun h=>absurd rfl h⟩⟩⟩⟩
   refine aj (zJ _ _ _ _ _ _ ((aF _).mpr trivial) ((eu _).mpr trivial)) ?_
   simp only[↓zq,zs,ae,bD,aF,eu,aN]
   refine⟨by omega,?_⟩
   refine aj (IH w (by simp only[Vl.nodes];omega) hv a env t1 ⟨ok2,A.wf,ha,f1⟩ (by omega)) ?_
   simp only[↓zq,zs,ae,bJ,eY,hhd,hx]
   refine⟨fun h=>?_,fun h=>⟨by omega,fun h=>by omega,fun _=>?_⟩⟩
   ·simp[h]
   ·simp[h]
  |
   r w =>
   simp only[Vl.nodes]at hl
   simp only[Az,Ty.av,Vl.cB,↓zq,zs,ae]
   refine⟨by omega,fun h=>by omega,fun _=>⟨fun h=>by omega,fun _=>⟨fun h=>by omega,fun _=>⟨fun _=>⟨by omega,fun h=>by omega,fun _=>⟨by omega,fun _=>?_,fun h=>absurd rfl h⟩⟩,fun h=>absurd rfl h⟩⟩⟩⟩
   refine aj (zz _ _ _ _ _ _ ((aF _).mpr trivial) ((eu _).mpr trivial)) ?_
   simp only[↓zq,zs,ae,bD,aF,eu,aN]
   refine⟨by omega,?_⟩
   refine aj (IH w (by simp only[Vl.nodes];omega) hv b env t2 ⟨ok3,A.wf,hbb,f2⟩ (by omega)) ?_
   simp[↓zq,zs,ae,bJ,eY,hhd,hx]
  |
   _ =>
   simp only[Az,Ty.av,Vl.cB,↓zq,zs,ae,eY,hhd,bJ]
   exact⟨by omega,fun h=>by omega,fun _=>⟨fun h=>by omega,fun _=>⟨fun h=>by omega,fun _=>⟨fun _=>⟨by omega,fun h=>by omega,fun _=>⟨by omega,fun h=>by omega,fun _=>by simp[hx]⟩⟩,fun h=>absurd rfl h⟩⟩⟩⟩
 ·have hok:=A.ok
  obtain⟨ok1,ok2,ok3,_⟩:=hok
  obtain⟨f1,f2⟩:=eW A.cl
  cases v with
  |
   p v w =>
   simp only[Vl.nodes]at hl
   simp only[Az,Ty.av,Vl.cB,↓zq,zs,ae]
   refine⟨by omega,fun h=>by omega,fun _=>⟨fun h=>by omega,fun _=>⟨fun h=>by omega,fun _=>⟨fun h=>by omega,fun _=>⟨fun _=>⟨by omega,fun _=>?_,fun h=>absurd rfl h⟩,fun h=>absurd rfl h⟩⟩⟩⟩⟩
   refine aj (zJ _ _ _ _ _ _ ((aF _).mpr trivial) ((eu _).mpr trivial)) ?_
   simp only[↓zq,zs,ae,bD,aF,eu,aN]
   refine⟨by omega,?_⟩
   refine aj (IH v (by simp only[Vl.nodes];omega) hv.1 a env t1 ⟨ok2,A.wf,ha,f1⟩ (by omega)) ?_
   simp only[↓zq,zs,ae,bJ,eY,hhd,hx]
   refine⟨fun h=>?_,fun h=>?_⟩
   ·refine aj (zz _ _ _ _ _ _ ((aF _).mpr trivial) ((eu _).mpr trivial)) ?_
    simp only[↓zq,zs,ae,bD,aF,eu,aN]
    refine⟨by omega,?_⟩
    refine aj (IH w (by simp only[Vl.nodes];omega) hv.2 b env t2 ⟨ok3,A.wf,hbb,f2⟩ (by omega)) ?_
    simp[↓zq,zs,ae,h]
   ·simp[h]
  |
   _ =>
   simp only[Az,Ty.av,Vl.cB,↓zq,zs,ae,eY,hhd,bJ]
   exact⟨by omega,fun h=>by omega,fun _=>⟨fun h=>by omega,fun _=>⟨fun h=>by omega,fun _=>⟨fun h=>by omega,fun _=>⟨fun _=>⟨by omega,fun h=>by omega,fun _=>by simp[hx]⟩,fun h=>absurd rfl h⟩⟩⟩⟩⟩
 ·obtain⟨t1',he1,h1,f1,hw1⟩:=jq A.wf A.ok hx A.ty A.cl
  cases he1
  have hok:=A.ok
  obtain⟨ok1,ok2,ok3,_⟩:=hok
  have htD:yn (.list [x,a,b]) env=.rc t1:=by rw[yn,A.ty];rfl
  have hin:=SL t1 env a.at (.list [x,a,b]) htD
  simp only[Ty.av]at hin
  simp only[Az,Ty.av,↓zq,zs,ae]
  refine⟨by omega,fun h=>by omega,fun _=>⟨fun h=>by omega,fun _=>⟨fun h=>by omega,fun _=>⟨fun h=>by omega,fun _=>⟨fun h=>by omega,fun _=>⟨fun _=>?_,fun h=>absurd rfl h⟩⟩⟩⟩⟩⟩
  refine aj hin ?_
  simp only[↓zq,zs,ae,bD,aF,eu,BN,aN,fu]
  cases v with
  |
   f w =>
   simp only[Vl.nodes]at hl
   simp only[Vl.cB,↓zq,zs,ae,aN]
   refine⟨by omega,fun _=>⟨by omega,?_⟩,fun h=>absurd rfl h⟩
   refine aj (IH w (by simp only[Vl.nodes];omega) hv b (.mk a.at (.list [x,a,b]) env::env) t1 ⟨ok3,hw1,h1,f1⟩ (by simp;omega)) ?_
   simp[↓zq,zs,ae,bJ,eY,hhd,hx]
  |
   _ =>
   simp only[Vl.cB,↓zq,zs,ae,eY,hhd,bJ]
   exact⟨by omega,fun h=>by omega,fun _=>by simp[hx]⟩
theorem Nl(n:Nat)(hn:n<=100):∀(m:Nat) (v:Vl),v.nodes<m->v.gR 100->∀e env t,Ask e env t->env.length+v.nodes<100000->qt n v e env t
 |0,v,h,_=>by omega
 |
  m+1,v,h,hv=>by
  intro e env t A hl
  have IH:∀w:Vl,w.nodes<v.nodes->w.gR 100->∀e env t,Ask e env t->env.length+w.nodes<100000->qt n w e env t:=fun w hw hb=>Nl n hn m w (by omega) hb
  rcases gn A.wf A.ty with⟨hb,hh⟩|⟨u,f,rfl,hh,hu⟩
  ·exact JK n hn v hv IH e env t A hl hb hh
  ·obtain⟨x,a,b,t',hfe,hok,hx,ht',hf',hwf,hlt⟩:=oV A.wf hh
   obtain⟨t1,hl1,h1,rfl⟩:=dz hx (hfe ▸ ht')
   have hvis:eY n v (e,env)=eY n v (f.ex,f.out):=tL n v (qV hh) (by rw[hfe];exact pW hwf)
   unfold qt
   refine Mz _ _ _ _ ((aF _).mpr trivial) ((eu _).mpr trivial) ((aN _).mpr trivial) ?_
   have hbd:=RM env u f hu (by omega)
   simp only[Ty.av]at hbd
   simp only[Az,Ty.av,↓zq,zs,ae]
   refine⟨by omega,fun h=>by omega,fun _=>⟨fun h=>by omega,fun _=>⟨fun _=>?_,fun h=>absurd rfl h⟩⟩⟩
   refine aj hbd ?_
   cases f with
   |
    mk s ee oo =>
    simp only[Fr.ex,Fr.out]at hfe ht' hf' hwf hvis hlt
    have htD:yn ee oo=.rc t1:=by rw[yn,ht'];rfl
    simp only[Fr.cB,htD,↓zq,zs,ae,bD,aF,eu]
    refine⟨by omega,?_⟩
    have hs:=JK n hn v hv IH ee oo (.rc t1) ⟨by rw[hfe];exact hok,hwf,ht',hf'⟩ (by omega) rfl (by rw[hfe];exact lq hwf)
    unfold qt at hs
    refine aj hs ?_
    simp[↓zq,zs,ae,bJ,hvis]
end Go.Proofs.Trees
namespace Go.Proofs.Trees
open Go Go.VL Go.RowKit
theorem tI:∀(env:List Fr) (k:Nat) (f:Fr),env[k]?=some f->(j9 env).getD (env.length-1-k) []=f.cells
 |[],k,f,h=>by cases h
 |
  g::r,0,f,h=>by
  cases h
  have:(g::r).length-1-0=(j9 r).length:=by simp[kW]
  rw[this,j9];simp[aa]
 |
  g::r,k+1,f,h=>by
  have h':r[k]?=some f:=by simpa using h
  have hlt:=(List.getElem?_eq_some_iff.1 h').1
  have e:(g::r).length-1-(k+1)=r.length-1-k:=by simp;omega
  have:=tI r k f h'
  rw[e,j9,aa,List.getElem?_append_left (by rw[kW];omega),<-aa]
  exact this
theorem rZ(f:Fr):f.cells=[.v (.string (mk f.nm)),.v (.string (mk f.ex.at)),f.ex.sp,.sl (j9 f.out)]:=by cases f;rfl
theorem OJ(e:E)(env:List Fr)(hl:env.length<1000000):∀(j k:Nat),k+j=env.length->II [.sl (j9 env),.v (.int .i64 ((env.length:Int)-1-(k:Int)))] [.cells [.v (.string (mk e.at)),e.sp],.cells [.v (.string (mk [])),.v (.slice none 0 0)]]
 (ng (match findF e.at (env.drop k)with|some f=>(2,[.sl (j9 f.out)],[.cells [.v (.string (mk f.ex.at)),f.ex.sp]])|none=>(1,[.sl (j9 env)],[.cells [.v (.string (mk e.at)),e.sp],.cells [.v (.string (mk [])),.v (.slice none 0 0)]])))
 |
  0,k,hk=>by
  refine K2 _ _ _ _ _ _ ?_
  have hd:env.drop k=[]:=bV (by omega)
  simp only[IC,↓zq,zs,ae,aX,hd,findF]
  exact⟨fun h=>by omega,fun _=>by first|trivial|rfl⟩
 |
  j+1,k,hk=>by
  refine K2 _ _ _ _ _ _ ?_
  have hlt:k<env.length:=by omega
  have hg:env[k]?=some env[k]:=bo hlt
  have hc:=tI env k _ hg
  have e1:((env.length:Int)-1-(k:Int))=((env.length-1-k:Nat):Int):=by omega
  have hdr:env.drop k=env[k]::env.drop (k+1):=aT hlt
  rw[hdr,findF,e1]
  simp only[IC,bF,hc,rZ,↓zq,zs,ae,zt,aX,kW,bD]
  refine⟨fun _=>⟨by omega,by omega,fun h=>⟨by omega,by omega,by omega,by omega,?_⟩,fun h=>?_⟩,fun h=>by omega⟩
  ·rw[if_pos h]
  ·rw[if_neg h]
   have e2:IntKind.wrap .i64 (((env.length-1-k:Nat):Int)-1)=(env.length:Int)-1-((k+1:Nat):Int):=by
    have:IntKind.wrap .i64 (((env.length-1-k:Nat):Int)-1)=((env.length-1-k:Nat):Int)-1:=wrap64 _ (by omega) (by omega)
    omega
   rw[e2]
   exact OJ e env hl j (k+1) (by omega)
theorem QL(e:E)(env:List Fr)(hl:env.length<1000000):an Tryz.prog 125 [e.kG,.sl (j9 env)] [] (bJ (.cI [(hd e env).1.kG,.sl (j9 (hd e env).2)])):=by
 rw[dk e]
 refine QK _ _ _ ((aX _).mpr trivial) ((cc _).mpr trivial) ?_
 simp only[Jc,↓zq,zs,ae,kW,bJ]
 have h:=OJ e env hl env.length 0 (by omega)
 simp only[bc]at h
 rw[wrap64 _ (by omega) (by omega)]
 rw[show (env.length:Int)-1-((0:Nat):Int)=(env.length:Int)-1 by omega]at h
 refine eN h (fun ys o e'=>?_) (fun ys o e'=>?_)
 ·unfold hd
  cases hq:findF e.at env<;>rw[hq]at e'<;>cases e'
  simp only[↓zq,zs,ae,zt,aX,dk]
 ·unfold hd
  cases hq:findF e.at env<;>rw[hq]at e'<;>cases e'
  simp only[↓zq,zs,ae,zt,aX,dk]
theorem qb:∀env:List Fr,cF 4 (j9 env)
 |[]=>fun c hc=>by cases hc
 |
  f::r=>fun c hc=>by
  simp only[j9,aM,aQ]at hc
  rcases hc with hc|rfl
  ·exact qb r c hc
  ·rw[rZ];rfl
theorem Sl(x a b:E)(env:List Fr)(hl:env.length<1000000):an Tryz.prog 128 [(E.list [x,a,b]).kG,.sl (j9 env)] [] (bJ (.cI [b.kG,.sl (j9 (.mk a.at (.list [x,a,b]) env::env))])):=by
 refine QD _ _ _ ((cc _).mpr trivial) ((cc _).mpr trivial) ?_
 simp only[Nf,E.bw,toNat_one,bf,↓zq,zs,ae,zt,iU,gd,iQ,mH,au,kW,bJ,aU]
 refine⟨by omega,⟨qb env,by omega⟩,by omega,by omega,⟨fun c hc=>(by simp at hc;rw[hc];rfl),by omega⟩,?_⟩
 simp only[j9,rZ,Fr.nm,Fr.ex,Fr.out,E.at,E.sp,E.bw]
theorem Dg(s:ByteArray)(e:E):bD [.str,.sl] [.v (.string s),e.sp] 0=True:=by apply eq_true;simp[bD,dW,aX]
theorem Fm{e:E}{env:List Fr}{t:Ty}(A:Ask e env t):∃e' o t',hd e env=(e',o)/\Ask e' o t'/\t'.O2=false/\hd e' o=(e',o)/\o.length<=env.length:=by
 rcases gn A.wf A.ty with⟨hb,hh⟩|⟨u,f,rfl,hh,hu⟩
 ·exact⟨e,env,t,ko hh,A,hb,ko hh,au _⟩
 ·obtain⟨x,a,b,t',hfe,hok,hx,ht',hf',hwf,hlt⟩:=oV A.wf hh
  refine⟨f.ex,f.out,t',qV hh,⟨by rw[hfe];exact hok,hwf,ht',hf'⟩,?_,?_,by omega⟩
  ·obtain⟨t1,_,_,rfl⟩:=dz hx (hfe ▸ ht');rfl
  ·rw[hfe];exact pW hwf
def vh:Vl->List UInt8
 | .l _=>[108]
 | .r _=>[114]
 | .f _=>[102]
 | .p _ _=>[112]
 |_=>[]
theorem Cp(v:Vl):an Tryz.prog 86 [v.cL.kG] [] (bJ (.v (.string (mk (vh v))))):=by
 cases v with
 |u=>exact z7 _ _ ((bp).mpr trivial) (by simp)
 |el k=>exact z7 _ _ ((bp).mpr trivial) (by simp)
 |l v=>exact u6 _ _
 |r v=>exact u6 _ _
 |f v=>exact u6 _ _
 |p v w=>exact u6 _ _
theorem S0(v:Vl)(hv:v.gR 100):v.cL.at=(match v with| .u=>[117]| .el k=>wT k|_=>[])/\BI v.cL.at=(match v with| .el k=>(k:Int)|_=>-1):=by
 cases v with
 |el k=>exact⟨rfl,F5 k hv⟩
 |u=>exact⟨rfl,rfl⟩
 |_=>exact⟨rfl,rfl⟩
theorem zy(n:Nat)(hn:n<=100):∀(m:Nat) (v:Vl),v.nodes<m->v.gR 100->∀e env t,Ask e env t->env.length+v.nodes<100000->an Tryz.prog 94 [e.kG,.sl (j9 env),v.cL.kG,.v (.int .i64 (n:Int))] [] (bJ (.v (.bool (eY n v (e,env)))))
 |0,v,hm,hv,e,env,t,A,hl=>by omega
 |
  m+1,v,hm,hv,e,env,t,A,hl=>by
  obtain⟨e',o,t',hhd,A',hb,hh',hlen⟩:=Fm A
  rw[tL n v hhd hh',dk e,dk v.cL]
  refine Ra _ _ _ _ _ _ ((aX _).mpr trivial) ((cc _).mpr trivial) ((aX _).mpr trivial) ?_
  have hf:=QL e env (by omega)
  rw[dk e,hhd]at hf
  have hvh:=Cp v
  rw[dk]at hvh
  unfold Ma
  refine aj hf ?_
  simp only[dk e',↓zq,zs,ae,zt,aX,Dg,bJ]
  rcases fG A'.ty hb A'.cl with⟨rfl,rfl⟩|⟨rfl,rfl⟩|⟨s,rfl,rfl,hp,h0,h1⟩|⟨x,a,b,t1,t2,rfl,hx,rfl,ha,hbb⟩|⟨x,a,b,t1,t2,rfl,hx,rfl,ha,hbb⟩|⟨x,a,b,t1,rfl,hx,rfl⟩
  ·refine⟨fun _=>⟨fun h=>by simp[E.at]at h,fun _=>aj (GJ _) ?_⟩,fun h=>by simp[E.at]at h⟩
   have hp0:gX (E.atom [48]).at=false:=rfl
   have hp1:gX [48]=false:=rfl
   cases v<;>simp[↓zq,zs,ae,hp0,eY,hh',hp1]
  ·refine⟨fun _=>⟨fun _=>?_,fun h=>absurd rfl h⟩,fun h=>by simp[E.at]at h⟩
   have hp1:gX [49]=false:=rfl
   cases v<;>simp[eY,hh',hp1,Vl.cL,E.at]
  ·have hne:s≠[]:=A'.ok
   have h1':(s==[49])=false:=by simpa using h1
   refine⟨fun _=>⟨fun h=>absurd h h1,fun _=>aj (GJ _) ?_⟩,fun h=>absurd h hne⟩
   have hat:(E.atom s).at=s:=rfl
   simp only[hat,hp,↓zq,zs,ae]
   refine⟨fun _=>aj (JT _) ?_,fun h=>by cases h⟩
   simp only[↓zq,zs,ae]
   rw[wrap64 _ (by omega) (by omega)]
   refine aj (AN _ _ _) ?_
   simp only[↓zq,zs,ae,CL,(S0 v hv).2]
   cases v with
   |
    el k =>
    simp only[eY,hh',h1',hp,zf]
    congr 2
    rw[cx];simp;omega
   |_=>simp[eY,hh',h1']
  ·have hok:=A'.ok
   obtain⟨ok1,ok2,ok3,_⟩:=hok
   obtain⟨f1,f2⟩:=fw A'.cl
   refine⟨fun h=>absurd rfl h,fun _=>aj (u6 x [a,b]) ?_⟩
   simp only[↓zq,zs,ae]
   refine aj hvh ?_
   rw[hx]
   cases v with
   |
    l w =>
    simp only[Vl.nodes]at hl
    simp only[vh,Vl.cL,E.sp,E.bw,toNat_one,bf,↓zq,zs,ae,zt,iU,gd,iQ,mH,au]
    refine⟨by simp,fun _=>⟨by omega,by omega,aj (zy n hn m w (by simp only[Vl.nodes]at hm;omega) hv a o t1 ⟨ok2,A'.wf,ha,f1⟩ (by omega)) ?_⟩,fun h=>absurd rfl h⟩
    simp[↓zq,zs,ae,eY,hh',hx]
   |
    r w =>
    simp only[Vl.nodes]at hl
    simp only[vh,Vl.cL,E.sp,E.bw,toNat_one,bf,↓zq,zs,ae,zt,iU,gd,iQ,mH,au]
    refine⟨by simp,fun h=>by simp at h,fun _=>⟨fun _=>⟨by omega,by omega,aj (zy n hn m w (by simp only[Vl.nodes]at hm;omega) hv b o t2 ⟨ok3,A'.wf,hbb,f2⟩ (by omega)) ?_⟩,fun h=>absurd rfl h⟩⟩
    simp[↓zq,zs,ae,eY,hh',hx]
   |_=>simp[vh,↓zq,zs,ae,zt,eY,hh',hx]
  ·have hok:=A'.ok
   obtain⟨ok1,ok2,ok3,_⟩:=hok
   obtain⟨f1,f2⟩:=eW A'.cl
   refine⟨fun h=>absurd rfl h,fun _=>aj (u6 x [a,b]) ?_⟩
   simp only[↓zq,zs,ae]
   refine aj hvh ?_
   rw[hx]
   cases v with
   |
    p w z =>
    simp only[Vl.nodes]at hl
    simp only[vh,Vl.cL,E.sp,E.bw,toNat_one,bf,↓zq,zs,ae,zt,iU,gd,iQ,mH,au]
    refine⟨by simp,fun h=>by simp at h,fun _=>⟨fun h=>by simp at h,fun _=>⟨fun _=>⟨by omega,by omega,aj (zy n hn m w (by simp only[Vl.nodes]at hm;omega) hv.1 a o t1 ⟨ok2,A'.wf,ha,f1⟩ (by omega)) ?_⟩,fun h=>absurd rfl h⟩⟩⟩
    simp only[↓zq,zs,ae,eY,hh',hx]
    refine⟨fun h=>⟨by omega,by omega,aj (zy n hn m z (by simp only[Vl.nodes]at hm;omega) hv.2 b o t2 ⟨ok3,A'.wf,hbb,f2⟩ (by omega)) ?_⟩,fun h=>?_⟩
    ·simp[↓zq,zs,ae,h]
    ·simp[h]
   |_=>simp[vh,↓zq,zs,ae,zt,eY,hh',hx]
  ·obtain⟨t1',he1,h1,f1,hw1⟩:=jq A'.wf A'.ok hx A'.ty A'.cl
   cases he1
   have hok:=A'.ok
   obtain⟨ok1,ok2,ok3,_⟩:=hok
   refine⟨fun h=>absurd rfl h,fun _=>aj (u6 x [a,b]) ?_⟩
   simp only[↓zq,zs,ae]
   refine aj hvh ?_
   rw[hx]
   cases v with
   |
    f w =>
    simp only[Vl.nodes]at hl
    simp only[vh,Vl.cL,E.sp,E.bw,toNat_one,bf,↓zq,zs,ae,zt,iU,gd,iQ,mH,au]
    refine⟨by simp,fun h=>by simp at h,fun _=>⟨fun h=>by simp at h,fun _=>⟨fun h=>by simp at h,fun _=>⟨fun _=>aj (Sl x a b o (by omega)) ?_,fun h=>absurd rfl h⟩⟩⟩⟩
    simp only[↓zq,zs,ae,xV,DP]
    refine⟨by omega,aj (zy n hn m w (by simp only[Vl.nodes]at hm;omega) hv b (.mk a.at (.list [x,a,b]) o::o) t1 ⟨ok3,hw1,h1,f1⟩ (by simp;omega)) ?_⟩
    simp[↓zq,zs,ae,eY,hh',hx]
   |_=>simp[vh,↓zq,zs,ae,zt,eY,hh',hx]
theorem QS(n:Nat)(hn:n<=100)(v:Vl)(hv:v.gR 100)(e:E)(env:List Fr)(t:Ty)(A:Ask e env t)(hl:env.length+v.nodes<100000):an Tryz.prog 94 [e.kG,.sl (j9 env),v.cL.kG,.v (.int .i64 (n:Int))] [] (bJ (.v (.bool (eY n v (e,env))))):=zy n hn (v.nodes+1) v (by omega) hv e env t A hl
end Go.Proofs.Trees
namespace Go.Proofs.Trees
open Go Go.VL Go.RowKit
theorem LU(l:List (List UInt8))(a:AV)(ha:cG a l)(s:List UInt8)(hl:l.length<1000000):∀(k i:Nat),i+k=l.length->Fs [a,.v (.string (mk s)),.v (.int .i64 (i:Int))] []
 (ng (if s∈l.drop i then(2,[.v (.bool true)],[])else(1,[],[])))
 |
  0,i,hi=>by
  refine MG _ _ _ ?_
  have hd:l.drop i=[]:=bV (by omega)
  simp only[Iz,↓zq,zs,ae,hd,ha.len]
  exact⟨ha.1,ha.1,fun h=>by omega,fun _=>by simp[ng]⟩
 |
  k+1,i,hi=>by
  have hlt:i<l.length:=by omega
  have hdr:l.drop i=l.getD i []::l.drop (i+1):=by
   rw[aT hlt];simp[aa,hlt]
  refine MG _ _ _ ?_
  simp only[Iz,↓zq,zs,ae,zt,ha.len,ha.idx hlt]
  refine⟨ha.1,ha.1,fun _=>⟨⟨ha.1,by omega,by omega⟩,by omega,fun h=>?_,fun h=>?_⟩,fun h=>by omega⟩
  ·rw[hdr,h];simp[ng]
  ·rw[bA i (by omega)]
   have:=LU l a ha s hl k (i+1) (by omega)
   have e:s∈l.drop i↔s∈l.drop (i+1):=by
    rw[hdr,aJ];exact⟨fun q=>q.resolve_left (fun q=>h q.symm),.inr⟩
   simp only[e];exact this
theorem wY(l:List (List UInt8))(a:AV)(ha:cG a l)(s:List UInt8)(hl:l.length<1000000):an Tryz.prog 118 [a,.v (.string (mk s))] [] (bJ (.v (.bool (decide (s∈l))))):=by
 refine QO _ _ ha.1 ?_
 unfold ML
 refine eN (LU l a ha s hl l.length 0 (by omega)) (fun ys o e=>?_) (fun ys o e=>?_)
 ·simp only[bc]at e
  split at e<;>cases e
  rename_i h
  simp[↓zq,zs,ae,bJ,h]
 ·simp only[bc]at e
  split at e<;>cases e
  rename_i h
  simp[↓zq,zs,ae,bJ,h]
theorem w6(l:List (List UInt8))(a:AV)(ha:cG a l)(s:List UInt8)(hl:l.length<1000000):an Tryz.prog 52 [a,.v (.string (mk s))] [] (dh (.vec 0) [.vec 1 (bL (l++[s]))]):=by
 refine RJ _ _ ha.1 ?_
 simp only[K7,↓zq,zs,ae,ha.2,dh,aU]
 have:(bL l).length=l.length:=by simp[bL]
 refine⟨⟨ha.1,kh l,by omega⟩,⟨fun c hc=>(by simp at hc;rw[hc];rfl),by omega⟩,?_⟩
 first|exact⟨rfl,by rw[Ht]⟩|rw[Ht]
def kp:E->List (List UInt8)->List (List UInt8)->List (List UInt8)
 | .atom s,bd,l=>if s=[48]\/s=[49]\/s∈bd\/s∈l then l else l++[s]
 | .list [x,a,b],bd,l=>if x.at=[114,101,99]then kp b (bd++[a.at]) l else kp b bd (kp a bd l)
 | .list _,_,l=>l
theorem fX:∀(e:E) (bd l:List (List UInt8)),(kp e bd l).length<=l.length+e.sz
 | .atom s,bd,l=>by rw[kp];split<;>simp[E.sz]
 | .list [],bd,l=>by simp[kp]
 | .list [_],bd,l=>by simp[kp]
 | .list [_,_],bd,l=>by simp[kp]
 | .list (_::_::_::_::_),bd,l=>by simp[kp]
 |
  .list [x,a,b],bd,l=>by
  rw[kp]
  simp only[E.sz,E.jo]
  split
  ·have:=fX b (bd++[a.at]) l;omega
  ·have:=fX a bd l
   have:=fX b bd (kp a bd l)
   omega
theorem DN:∀(e:E) (bd l:List (List UInt8)) (a:AV),e.ok->j2 e=true->cG a bd->bd.length+l.length+e.sz<100000->an Tryz.prog 84 [e.kG,a,.vec 0] [.vec 1 (bL l)] (dh (.vec 1) [.dead,.vec 1 (bL (kp e bd l))])
 |
  .atom s,bd,l,a,hok,hty,ha,hl=>by
  simp only[E.sz]at hl
  refine Aq _ _ _ _ ((bp).mpr trivial) ha.1 ?_
  have hne:s≠[]:=hok
  have hll:(bL l).length=l.length:=by simp[bL]
  simp only[Iv,↓zq,zs,ae,zt,dh,kp]
  refine⟨fun _=>⟨fun h=>?_,fun h=>⟨fun h1=>?_,fun h1=>?_⟩⟩,fun h=>absurd h hne⟩
  ·rw[if_pos (.inl h)]
  ·rw[if_pos (.inr (.inl h1))]
  ·refine aj (wY bd a ha s (by omega)) ?_
   simp only[↓zq,zs,ae]
   refine⟨fun h2=>?_,fun h2=>aj (wY l _ (.of l) s (by omega)) ?_⟩
   ·rw[if_pos (.inr (.inr (.inl h2)))]
   ·simp only[↓zq,zs,ae]
    refine⟨fun h3=>?_,fun h3=>⟨⟨fun c hc=>(by simp at hc;rw[hc];rfl),by omega⟩,?_⟩⟩
    ·rw[if_pos (.inr (.inr (.inr h3)))]
    ·rw[Ht,if_neg]
     rintro(q|q|q|q)
     ·exact h q
     ·exact h1 q
     ·exact h2 q
     ·exact h3 q
 | .list [],_,_,_,_,h,_,_=>by cases h
 | .list [_],_,_,_,_,h,_,_=>by cases h
 | .list [_,_],_,_,_,_,h,_,_=>by cases h
 | .list (_::_::_::_::_),_,_,_,_,h,_,_=>by cases h
 |
  .list [x,y,z],bd,l,a,hok,hty,ha,hl=>by
  simp only[E.sz,E.jo]at hl
  obtain⟨ok1,ok2,ok3,_⟩:=hok
  refine Aq _ _ _ _ ((cc _).mpr trivial) ha.1 ?_
  simp only[Iv,E.bw,toNat_one,bf,↓zq,zs,ae,zt,iU,gd,iQ,mH,au,dh]
  refine⟨fun h=>absurd rfl h,fun _=>aj (u6 x [y,z]) ?_⟩
  simp only[↓zq,zs,ae,zt]
  have hyl:=fX y bd l
  rw[j2]at hty
  refine⟨fun h=>⟨by omega,by omega,by omega,aW (w6 bd a ha y.at (by omega)) ?_⟩,fun h=>⟨by omega,by omega,?_⟩⟩
  ·have hz:j2 z=true:=by
    rw[if_neg (by rw[h];decide),if_neg (by rw[h];decide),if_pos h]at hty
    simp only[aw]at hty;exact hty.2
   simp only[↓zq,zs,ae,Ob.es,aO]
   refine⟨fy _,?_⟩
   refine aW (DN z (bd++[y.at]) l _ ok3 hz (.of _) (by simp;omega)) ?_
   simp only[↓zq,zs,ae]
   rw[kp,if_pos h]
  ·have hyz:j2 y=true/\j2 z=true:=by
    split at hty
    ·simpa using hty
    ·split at hty
     ·simpa using hty
     ·cases hty
   refine aW (DN y bd l a ok2 hyz.1 ha (by omega)) ?_
   simp only[↓zq,zs,ae]
   refine aW (DN z bd (kp y bd l) a ok3 hyz.2 ha (by omega)) ?_
   simp only[↓zq,zs,ae]
   rw[kp,if_neg h]
theorem kl{s:List UInt8}(h:gX s=true):di s=false:=by
 cases hq:di s with
 |false=>rfl
 |
  true =>
  obtain⟨c,r,rfl,h1,h2⟩:=lV h
  obtain⟨c',r',he,h3,h4⟩:=lV hq
  cases he;omega
theorem mN(s:List UInt8)(ar:List (List UInt8)):∀i,i<=ar.length->(bO s ar i=none↔s∉ar.take i)
 |0,_=>by simp[bO]
 |
  i+1,hi=>by
  have hlt:i<ar.length:=by omega
  have e:ar.getD i []=ar[i]:=by simp[aa,hlt]
  have e2:s∈ar.take (i+1)↔s∈ar.take i\/s=ar[i]:=by
   rw[show ar.take (i+1)=ar.take i++[ar[i]] from (List.take_append_getElem hlt).symm]
   simp only[aM,aQ]
  rw[bO,e,e2]
  by_cases h:ar[i]=s
  ·rw[if_pos h]
   exact⟨fun h=>(by cases h),fun h'=>absurd (.inr h.symm) h'⟩
  ·rw[if_neg h,mN s ar i (by omega)]
   exact⟨fun h1 h2=>h2.elim h1 (fun h3=>h h3.symm),fun h1 h2=>h1 (.inl h2)⟩
theorem lN:∀(e:E) (ar l:List (List UInt8)) (t:Ty),cT e ar=some t->(∀w,w∈ar->di w=true)->(kp e ar l).any di=(l.any di||cb t)
 |
  .atom s,ar,l,t,h,har=>by
  simp only[cT]at h
  rw[kp]
  split at h
  ·rename_i h0;cases h;rw[if_pos (.inl h0)];simp[cb]
  ·rename_i h0
   split at h
   ·rename_i h1;cases h;rw[if_pos (.inr (.inl h1))];simp[cb]
   ·rename_i h1
    split at h
    ·rename_i h2
     cases h
     have hn:=kl h2
     simp only[cb,hn]
     split
     ·simp
     ·simp[hn]
    ·split at h
     ·rename_i h2 h3
      have hlo:=mN s ar ar.length (au _)
      rw[List.take_length]at hlo
      cases hq:bO s ar ar.length with
      |
       some u =>
       rw[hq]at h;cases h
       have hm:s∈ar:=Classical.byContradiction fun hm=>by rw[hlo.2 hm]at hq;cases hq
       rw[if_pos (.inr (.inr (.inl hm)))];simp[cb]
      |
       none =>
       rw[hq]at h;cases h
       have hm:=hlo.1 hq
       simp only[cb,h3,Bool.or_true]
       split
       ·rename_i hh
        rcases hh with q|q|q|q
        ·exact absurd q h0
        ·exact absurd q h1
        ·exact absurd q hm
        ·rw[cu];exact⟨s,q,h3⟩
       ·simp[h3]
     ·cases h
 | .list [],_,_,_,h,_=>by cases h
 | .list [_],_,_,_,h,_=>by cases h
 | .list [_,_],_,_,_,h,_=>by cases h
 | .list (_::_::_::_::_),_,_,_,h,_=>by cases h
 |
  .list [x,a,b],ar,l,t,h,har=>by
  rw[kp]
  by_cases h0:x.at=[43]
  ·obtain⟨t1,t2,e1,e2,rfl⟩:=fL h0 h
   rw[if_neg (by rw[h0];decide),lN b ar _ t2 e2 har,lN a ar l t1 e1 har,cb,Bool.or_assoc]
  ·by_cases h1:x.at=[42]
   ·obtain⟨t1,t2,e1,e2,rfl⟩:=fj h1 h
    rw[if_neg (by rw[h1];decide),lN b ar _ t2 e2 har,lN a ar l t1 e1 har,cb,Bool.or_assoc]
   ·by_cases h2:x.at=[114,101,99]
    ·obtain⟨t1,hl,e1,rfl⟩:=dz h2 h
     rw[if_pos h2,lN b _ l t1 e1 (fun w hw=>by
      simp only[aM,aQ]at hw
      rcases hw with hw|rfl
      ·exact har w hw
      ·exact hl),cb]
    ·rw[jh _ h0 h1 h2]at h;cases h
def jE(s:List UInt8):Option E:=match wD s with
 |none=>none
 |some e=>if(kp e [] []).any di=true then none else some e
theorem AJ{s:List UInt8}:xj s=match jE s with|none=>none|some e=>cT e []:=by
 unfold xj jE
 rw[uS]
 cases he:wD s with
 |none=>rfl
 |
  some e =>
  obtain⟨h1,h2,h3⟩:=pS he
  have hs:=iZ e []
  rw[h2]at hs
  obtain⟨t,ht⟩:=ca.1 hs
  have ha:=lN e [] [] t ht (fun w hw=>by cases hw)
  simp only[ht,sP,ha,List.any_nil,Bool.false_or]
  cases hf:cb t<;>simp[ht]
theorem gU{s:List UInt8}{e:E}(h:jE s=some e):∃t,xj s=some t/\Ask e [] t/\j2 e=true/\e.sz<=8000/\t.atoms<=400/\qJ s=some e:=by
 have h0:=h
 unfold jE at h
 split at h
 ·cases h
 ·rename_i e' he
  split at h
  ·cases h
  ·rename_i hn
   cases h
   obtain⟨h1,h2,h3⟩:=pS he
   obtain⟨hok,hsz⟩:=nI h1
   have hs:=iZ e []
   rw[h2]at hs
   obtain⟨t,ht⟩:=ca.1 hs
   have ha:=lN e [] [] t ht (fun w hw=>by cases hw)
   rw[ha]at hn
   refine⟨t,by rw[AJ,h0];exact ht,⟨hok,.nil,ht,by simpa using hn⟩,h2,hsz,?_,h1⟩
   rw[<-j5 e [] t ht];exact h3
theorem np{s:List UInt8}(h:jE s=none):xj s=none:=by rw[AJ,h]
theorem Nn(e:E)(l:List (List UInt8))(hl:l.length<1000000):∀(k i:Nat),i+k=l.length->Hr [.v (.int .i64 (i:Int))] [.cells [.v (.string (mk [])),.v (.slice none 0 0)],.cells [.v (.string (mk e.at)),e.sp],.vec 1 (bL l)]
 (ng (if(l.drop i).any di=true then(2,[.v (.bool false)],[.cells [.v (.string (mk e.at)),e.sp]])else(1,[],[.cells [.v (.string (mk [])),.v (.slice none 0 0)],.cells [.v (.string (mk e.at)),e.sp]])))
 |
  0,i,hi=>by
  refine Jx _ _ _ _ _ _ ?_
  have hd:l.drop i=[]:=bV (by omega)
  have hll:(bL l).length=l.length:=by simp[bL]
  simp only[FU,↓zq,zs,ae,hd,hll,aX]
  exact⟨fun h=>by omega,fun _=>by simp[ng]⟩
 |
  k+1,i,hi=>by
  have hlt:i<l.length:=by omega
  have hll:(bL l).length=l.length:=by simp[bL]
  have hdr:l.drop i=l.getD i []::l.drop (i+1):=by
   rw[aT hlt];simp[aa,hlt]
  have hg:=(cG.of l).idx hlt
  simp only[fD]at hg
  refine Jx _ _ _ _ _ _ ?_
  simp only[FU,↓zq,zs,ae,zt,hll,hg,aX]
  refine⟨fun _=>⟨by omega,by omega,aj (HQ _) ?_⟩,fun h=>by omega⟩
  simp only[↓zq,zs,ae,hdr,List.any_cons]
  refine⟨fun h=>?_,fun h=>?_⟩
  ·rw[h];simp[ng]
  ·rw[h,bA i (by omega)]
   simp only[Bool.false_or]
   exact Nn e l hl k (i+1) (by omega)
theorem HZ(s:List UInt8):an Tryz.prog 61 [.v (.string (mk s))] [] (jI (jE s) (jE s).isSome):=by
 refine Rx _ ?_
 unfold Nh
 refine aP (Im s) (jI.ne _ _ (fun h=>h)) ?_
 rintro r o ⟨c,d,hd,rfl,hh⟩
 have hhas:bD [.str,.sl] [.v (.string (mk c)),d] 0:=by simp[bD,dW,hd]
 simp only[↓zq,zs,ae,zt]
 refine⟨hhas,fun h=>?_,fun h=>?_⟩
 ·have hn:wD s=none:=by cases hq:wD s<;>simp[hq]at h |-
  unfold jE
  rw[hn]
  exact⟨c,d,hd,rfl,fun h=>by cases h⟩
 ·obtain⟨e,he,hce⟩:=hh h
  obtain⟨h1,h2,h3⟩:=pS he
  obtain⟨hok,hsz⟩:=nI h1
  have hce':=hce
  rw[dk]at hce'
  simp only[AV.agg.injEq,List.cons.injEq,AV.v.injEq,Value.string.injEq,and_true]at hce'
  obtain⟨hc1,rfl⟩:=hce'
  have hc2:=mk_inj hc1
  subst hc2
  rw[<-dk]
  refine aW (DN e [] [] _ hok h2 (.of []) (by simp;omega)) ?_
  have hfl:=fX e [] []
  simp only[↓zq,zs,ae]
  have hLS:=Nn e (kp e [] []) (by simp at hfl;omega) (kp e [] []).length 0 (by omega)
  simp only[bc]at hLS
  unfold jE
  rw[he]
  refine eN hLS (fun ys o e'=>?_) (fun ys o e'=>?_)
  ·split at e'<;>cases e'
   rename_i hn
   simp only[↓zq,zs,ae,aX,if_neg hn]
   exact⟨e.at,e.sp,hd,rfl,fun _=>⟨e,rfl,(dk e).symm⟩⟩
  ·split at e'<;>cases e'
   rename_i hn
   simp only[↓zq,zs,ae,aX,if_pos hn]
   exact⟨e.at,e.sp,hd,rfl,fun h=>by cases h⟩
def mo(s v:List UInt8)(n:Int):Option Vl:=match jE s,sw v with
 |some e,some w=>if(0<=n/\n<=100)/\eY n.toNat w (e,[])=true then some w else none
 |_,_=>none
theorem om{s v:List UInt8}{n:Int}{w:Vl}(h:mo s v n=some w):∃e t m,jE s=some e/\sw v=some w/\xj s=some t/\Ask e [] t/\n=(m:Nat)/\m<=100/\eY m w (e,[])=true:=by
 unfold mo at h
 split at h
 ·rename_i e w' he hw
  split at h
  ·rename_i hh
   cases h
   obtain⟨t,h1,h2,_⟩:=gU he
   exact⟨e,t,n.toNat,he,hw,h1,h2,by omega,by omega,hh.2⟩
  ·cases h
 ·cases h
theorem LM(s v:List UInt8)(n:Int):an Tryz.prog 71 [.v (.string (mk s)),.v (.string (mk v)),.v (.int .i64 n)] [] (bJ (.cI [ia (xj s),jt (mo s v n)])):=by
 refine So _ _ _ ?_
 unfold KE
 refine aj (JP s) ?_
 simp only[↓zq,zs,ae,il]
 refine aj (RB v) ?_
 simp only[↓zq,zs,ae,gp,bJ]
 unfold mo
 cases he:jE s with
 |none=>rw[np he];cases sw v<;>simp[ia,jt,↓zq,zs,ae]
 |
  some e =>
  obtain⟨t,h1,h2,h3,h4,h5,_⟩:=gU he
  rw[h1]
  cases hv:sw v with
  |none=>simp only[ia,jt,aF,fN,↓zq,zs,ae];exact⟨fun h=>(by cases h),fun _=>⟨fun _=>trivial,fun h=>(by cases h)⟩⟩
  |
   some w =>
   obtain⟨h6,h7,h8⟩:=lI hv
   simp only[ia,jt,aF,fN,aN,fu,↓zq,zs,ae]
   refine⟨fun h=>(by cases h),fun _=>⟨fun h=>(by cases h),fun _=>⟨fun h=>?_,fun h=>⟨fun h'=>?_,fun h'=>?_⟩⟩⟩⟩
   ·rw[if_neg (by omega)]
   ·rw[if_neg (by omega)]
   ·obtain⟨m,rfl⟩:∃m:Nat,n=(m:Int):=⟨n.toNat,by omega⟩
    have hi:=Nl m (by omega) (w.nodes+1) w (by omega) h7 e [] t h2 (by simp;omega)
    unfold qt at hi
    refine aj hi ?_
    simp only[↓zq,zs,ae,bF]
    refine⟨fun hq=>?_,fun hq=>?_⟩
    ·rw[if_neg (by rw[hq];simp)]
    ·rw[if_pos ⟨by omega,hq⟩]
theorem Af(s v:List UInt8)(n:Int):an Tryz.prog 68 [.v (.string (mk s)),.v (.string (mk v)),.v (.int .i64 n)] [] (bJ (.v (.bool (mo s v n).isSome))):=by
 refine Q1 _ _ _ ?_
 unfold KG
 refine aP (HZ s) (jI.ne _ _ (fun h=>h)) ?_
 rintro r o ⟨c,d,hd,rfl,hh⟩
 have hhas:bD [.str,.sl] [.v (.string (mk c)),d] 0:=by simp[bD,dW,hd]
 simp only[↓zq,zs,ae,zt]
 refine⟨hhas,?_⟩
 refine aP (D2 v) (jI.ne _ _ (fun h=>by cases hq:sw v<;>simp[hq]at h |-)) ?_
 rintro r o ⟨c',d',hd',rfl,hh'⟩
 have hhas':bD [.str,.sl] [.v (.string (mk c')),d'] 0:=by simp[bD,dW,hd']
 simp only[↓zq,zs,ae,zt,bJ]
 refine⟨hhas',fun h=>⟨fun h2=>?_,fun h2=>?_⟩,fun h=>?_⟩
 ·obtain⟨e,he,hce⟩:=hh h
  obtain⟨t,h1,hA,h3,h4,h5,_⟩:=gU he
  obtain⟨w,hw⟩:=ca.1 h2
  obtain⟨e2,he2,hce2⟩:=hh' h2
  rw[hw]at he2
  cases he2
  obtain⟨h6,h7,h8⟩:=lI hw
  refine aj (AN _ _ _) ?_
  simp only[↓zq,zs,ae,CL,mo,he,hw]
  refine⟨fun hq=>?_,fun hq=>?_⟩
  ·have hq':0<=n/\n<=100:=by simpa using hq
   obtain⟨m,rfl⟩:∃m:Nat,n=(m:Int):=⟨n.toNat,by omega⟩
   rw[hce,hce2]
   have:=QS m (by omega) w h7 e [] t hA (by simp;omega)
   rw[show j9 []=[] from rfl]at this
   refine aj this ?_
   simp only[↓zq,zs,ae,bF]
   by_cases hb:eY m w (e,[])=true
   ·rw[if_pos ⟨hq',hb⟩,hb];rfl
   ·rw[if_neg (fun h=>hb h.2)]
    rw[Bool.not_eq_true]at hb
    rw[hb];rfl
  ·have hq':¬(0<=n/\n<=100):=by simpa using hq
   rw[if_neg (fun h=>hq' h.1)];rfl
 ·have hn:sw v=none:=by cases hq:sw v<;>simp[hq]at h2 |-
  unfold mo
  rw[hn];cases jE s<;>rfl
 ·have hn:jE s=none:=by cases hq:jE s<;>simp[hq]at h |-
  unfold mo
  rw[hn];rfl
end Go.Proofs.Trees
namespace Go.Proofs.Trees
open Go Go.VL Go.RowKit
inductive Tg where
 |nm (s:List UInt8)
 |bd (k:Nat)
 deriving DecidableEq
def Tg.up:Tg->Tg
 | .nm s=>.nm s
 | .bd k=>.bd (k+1)
def eD:Ty->Tg->Bool
 | .name s,.nm s'=>decide (s=s')
 | .bound u,.bd k=>decide (u=k)
 |_,_=>false
abbrev Hl:=Vl×Vl
def iF(g:Vl->Vl)(l:List Hl):List Hl:=l.map fun h=>(g h.1,h.2)
def iW(f:Ty->Tg->Vl->List Hl)(tg:Tg):Ty->Vl->List Hl
 | .plus a _,.l w=>iF .l (f a tg w)
 | .plus _ b,.r w=>iF .r (f b tg w)
 | .times a b,.p x y=>iF (fun c=>.l (.p c y)) (f a tg x)++iF (fun c=>.r (.p x c)) (f b tg y)
 | .rc a,.f w=>iF (fun c=>.f (.l c)) (f a tg.up w)++(f a (.bd 0) w).flatMap fun h=>iF (fun c=>.f (.r (.p h.1 c))) (f (.rc a) tg h.2)
 |_,_=>[]
def dD:Nat->Ty->Tg->Vl->List Hl
 |0,_,_,_=>[]
 |n+1,t,tg,v=>if eD t tg=true then [(.u,v)]else iW (dD n) tg t v
def stuck:Ty->Vl->Bool
 | .plus _ _,.l _=>false
 | .plus _ _,.r _=>false
 | .times _ _,.p _ _=>false
 | .rc _,.f _=>false
 |_,_=>true
def cn(t:Ty)(tg:Tg)(v:Vl):List Hl:=dD v.nodes t tg v
theorem cY{g:Vl->Vl}{l:List Hl}{h:Hl}(hm:h∈iF g l):∃k,k∈l/\h=(g k.1,k.2):=by
 obtain⟨k,h1,h2⟩:=bM.1 hm
 exact⟨k,h1,h2.symm⟩
theorem i6{f g:Hl->List Hl}:∀{l:List Hl},(∀h,h∈l->f h=g h)->l.flatMap f=l.flatMap g
 |[],_=>rfl
 |h::l,hl=>by rw[List.flatMap_cons,List.flatMap_cons,hl h ak,i6 (l:=l) fun k hk=>hl k (al _ hk)]
theorem fg:∀(n:Nat) (t:Ty) (tg:Tg) (v:Vl) (h:Hl),h∈dD n t tg v->h.2.nodes<=v.nodes/\h.1.nodes+4*h.2.nodes<=4*v.nodes+1
 |0,t,tg,v,h,hm=>by simp[dD]at hm
 |
  n+1,t,tg,v,h,hm=>by
  unfold dD at hm
  split at hm
  ·simp only[aQ]at hm
   subst hm
   simp only[Vl.nodes];omega
  ·unfold iW at hm
   split at hm
   ·obtain⟨k,h1,rfl⟩:=cY hm
    have:=fg n _ _ _ k h1
    simp only[Vl.nodes];omega
   ·obtain⟨k,h1,rfl⟩:=cY hm
    have:=fg n _ _ _ k h1
    simp only[Vl.nodes];omega
   ·rcases aM.1 hm with hm|hm
    ·obtain⟨k,h1,rfl⟩:=cY hm
     have:=fg n _ _ _ k h1
     simp only[Vl.nodes];omega
    ·obtain⟨k,h1,rfl⟩:=cY hm
     have:=fg n _ _ _ k h1
     simp only[Vl.nodes];omega
   ·rcases aM.1 hm with hm|hm
    ·obtain⟨k,h1,rfl⟩:=cY hm
     have:=fg n _ _ _ k h1
     simp only[Vl.nodes];omega
    ·obtain⟨k,h1,h2⟩:=List.mem_flatMap.1 hm
     obtain⟨k2,h3,rfl⟩:=cY h2
     have:=fg n _ _ _ k h1
     have:=fg n _ _ _ k2 h3
     simp only[Vl.nodes];omega
   ·simp at hm
theorem gS:∀(n m:Nat) (t:Ty) (tg:Tg) (v:Vl),v.nodes<=n->v.nodes<=m->dD n t tg v=dD m t tg v
 |0,m,t,tg,v,h,_=>by have:=du v;omega
 |n+1,0,t,tg,v,_,h=>by have:=du v;omega
 |
  n+1,m+1,t,tg,v,hn,hm=>by
  rw[dD,dD]
  split
  ·rfl
  ·unfold iW
   split
   ·simp only[Vl.nodes]at hn hm;rw[gS n m _ _ _ (by omega) (by omega)]
   ·simp only[Vl.nodes]at hn hm;rw[gS n m _ _ _ (by omega) (by omega)]
   ·simp only[Vl.nodes]at hn hm;rw[gS n m _ _ _ (by omega) (by omega),gS n m _ _ _ (by omega) (by omega)]
   ·rename_i a w
    simp only[Vl.nodes]at hn hm;rw[gS n m _ _ _ (by omega) (by omega),gS n m _ (.bd 0) _ (by omega) (by omega)]
    congr 1
    apply i6
    intro h hh
    have:=(fg _ _ _ _ _ hh).1
    rw[gS n m _ _ _ (by omega) (by omega)]
   ·rfl
theorem oJ{n:Nat}(t:Ty)(tg:Tg){v:Vl}(h:v.nodes<=n):dD n t tg v=cn t tg v:=gS _ _ _ _ _ h (au _)
theorem mU{t:Ty}{tg:Tg}(v:Vl)(h:eD t tg=true):cn t tg v=[(.u,v)]:=by
 have:=du v
 unfold cn
 cases e:v.nodes with
 |zero=>omega
 |succ n=>rw[dD,if_pos h]
theorem m9(a b:Ty)(tg:Tg)(w:Vl):cn (.plus a b) tg (.l w)=iF .l (cn a tg w):=by
 unfold cn;rw[show (Vl.l w).nodes=w.nodes+1 by simp[Vl.nodes];omega,dD,if_neg (by simp[eD])];rfl
theorem nr(a b:Ty)(tg:Tg)(w:Vl):cn (.plus a b) tg (.r w)=iF .r (cn b tg w):=by
 unfold cn;rw[show (Vl.r w).nodes=w.nodes+1 by simp[Vl.nodes];omega,dD,if_neg (by simp[eD])];rfl
theorem nj(a b:Ty)(tg:Tg)(x y:Vl):cn (.times a b) tg (.p x y)=iF (fun c=>.l (.p c y)) (cn a tg x)++iF (fun c=>.r (.p x c)) (cn b tg y):=by
 rw[cn,show (Vl.p x y).nodes=(x.nodes+y.nodes)+1 by simp[Vl.nodes];omega,dD,if_neg (by simp[eD])]
 rw[iW,oJ a tg (by omega),oJ b tg (by omega)]
theorem mZ(a:Ty)(tg:Tg)(w:Vl):cn (.rc a) tg (.f w)=iF (fun c=>.f (.l c)) (cn a tg.up w)++(cn a (.bd 0) w).flatMap fun h=>iF (fun c=>.f (.r (.p h.1 c))) (cn (.rc a) tg h.2):=by
 rw[cn,show (Vl.f w).nodes=w.nodes+1 by simp[Vl.nodes];omega,dD,if_neg (by simp[eD])]
 rw[iW,oJ a tg.up (au _),oJ a (.bd 0) (au _)]
 congr 1
 apply i6
 intro h hh
 have:=(fg _ _ _ _ _ hh).1
 rw[oJ (.rc a) tg this]
theorem dR{t:Ty}{tg:Tg}{v:Vl}(h:eD t tg=false)(h2:stuck t v=true):cn t tg v=[]:=by
 unfold cn
 cases e:v.nodes with
 |zero=>rfl
 |
  succ n =>
  rw[dD,if_neg (by rw[h];simp)]
  unfold iW
  split<;>first|(simp[stuck]at h2;done)|rfl
theorem jr{t:Ty}{tg:Tg}{v:Vl}{h:Hl}(hm:h∈cn t tg v):h.2.nodes<=v.nodes/\h.1.nodes+4*h.2.nodes<=4*v.nodes+1:=fg _ _ _ _ _ hm
theorem gO(n:Nat):∀(m:Nat) (t:Ty) (tg:Tg) (v:Vl) (h:Hl),v.gR n->h∈dD m t tg v->h.1.gR n/\h.2.gR n
 |0,t,tg,v,h,hv,hm=>by simp[dD]at hm
 |
  m+1,t,tg,v,h,hv,hm=>by
  unfold dD at hm
  split at hm
  ·simp only[aQ]at hm
   subst hm
   exact⟨trivial,hv⟩
  ·unfold iW at hm
   split at hm
   ·obtain⟨k,h1,rfl⟩:=cY hm
    exact(fun q=>gO n m _ _ _ k q h1) hv
   ·obtain⟨k,h1,rfl⟩:=cY hm
    exact(fun q=>gO n m _ _ _ k q h1) hv
   ·rcases aM.1 hm with hm|hm
    ·obtain⟨k,h1,rfl⟩:=cY hm
     obtain⟨q1,q2⟩:=gO n m _ _ _ k hv.1 h1
     exact⟨⟨q1,hv.2⟩,q2⟩
    ·obtain⟨k,h1,rfl⟩:=cY hm
     obtain⟨q1,q2⟩:=gO n m _ _ _ k hv.2 h1
     exact⟨⟨hv.1,q1⟩,q2⟩
   ·rcases aM.1 hm with hm|hm
    ·obtain⟨k,h1,rfl⟩:=cY hm
     exact(fun q=>gO n m _ _ _ k q h1) hv
    ·obtain⟨k,h1,h2⟩:=List.mem_flatMap.1 hm
     obtain⟨k2,h3,rfl⟩:=cY h2
     obtain⟨q1,q2⟩:=(fun q=>gO n m _ _ _ k q h1) hv
     obtain⟨q3,q4⟩:=gO n m _ _ _ k2 q2 h3
     exact⟨⟨q1,q3⟩,q4⟩
   ·simp at hm
def lz(l:List Hl):Nat:=(l.map fun h=>h.2.nodes).sum
theorem re(l r:List Hl):lz (l++r)=lz l+lz r:=by simp[lz]
theorem oW(g:Vl->Vl)(l:List Hl):lz (iF g l)=lz l:=by simp[lz,iF,Function.comp_def]
def ku(f:Tg->Nat)(T:List Tg):Nat:=(T.map f).sum
theorem oU(f g:Tg->Nat):∀T:List Tg,ku (fun x=>f x+g x) T=ku f T+ku g T
 |[]=>rfl
 |x::T=>by have:=oU f g T;simp only[ku,bG,List.sum_cons]at this |-;omega
theorem xX{f g:Tg->Nat}:∀{T:List Tg},(∀x,x∈T->f x<=g x)->ku f T<=ku g T
 |[],_=>au _
 |
  x::T,h=>by
  have:=xX (T:=T) fun y hy=>h y (al _ hy)
  have:=h x ak
  simp only[ku,bG,List.sum_cons]at *;omega
theorem pV{f:Tg->Nat}:∀{T:List Tg},(∀x,x∈T->f x=0)->ku f T=0
 |[],_=>rfl
 |
  x::T,h=>by
  have:=pV (T:=T) fun y hy=>h y (al _ hy)
  have:=h x ak
  simp only[ku,bG,List.sum_cons]at *;omega
theorem sS(g:Hl->Tg->Nat)(T:List Tg):∀l:List Hl,ku (fun x=>(l.map fun h=>g h x).sum) T=(l.map fun h=>ku (g h) T).sum
 |[]=>pV fun _ _=>rfl
 |
  h::l=>by
  have:=sS g T l
  simp only[bG,List.sum_cons]
  rw[oU,this]
theorem sJ(f:Hl->List Hl):∀l:List Hl,lz (l.flatMap f)=(l.map fun h=>lz (f h)).sum
 |[]=>rfl
 |h::l=>by rw[List.flatMap_cons,re,sJ f l];simp
theorem Cj{f g:Hl->Nat}:∀{l:List Hl},(∀x,x∈l->f x<=g x)->(l.map f).sum<=(l.map g).sum
 |[],_=>au _
 |
  x::l,h=>by
  have:=Cj (l:=l) fun y hy=>h y (al _ hy)
  have:=h x ak
  simp only[bG,List.sum_cons]at *;omega
theorem B5{t:Ty}{x y:Tg}(h:eD t x=true)(h':eD t y=true):x=y:=by
 cases t<;>cases x<;>cases y<;>simp[eD]at h h'<;>simp_all
theorem yM{t:Ty}(n:Nat):∀{T:List Tg},T.Nodup->ku (fun x=>if eD t x=true then n else 0) T<=n
 |[],_=>dP _
 |
  x::T,h=>by
  obtain⟨h1,h2⟩:=List.nodup_cons.1 h
  have ih:=yM (t:=t) n h2
  by_cases hx:eD t x=true
  ·have:ku (fun x=>if eD t x=true then n else 0) T=0:=pV fun y hy=>by
    rw[if_neg fun hy'=>h1 (by rw[B5 hx hy'];exact hy)]
   simp only[ku,bG,List.sum_cons]at *
   rw[if_pos hx];omega
  ·simp only[ku,bG,List.sum_cons]at *
   rw[if_neg hx];omega
theorem A7{T:List Tg}(h:T.Nodup):(Tg.bd 0::T.map Tg.up).Nodup:=by
 refine List.nodup_cons.2 ⟨fun hm=>?_,?_⟩
 ·obtain⟨x,_,e⟩:=bM.1 hm
  cases x<;>simp[Tg.up]at e
 ·refine List.Pairwise.map _ (fun a b hab e=>hab ?_) h
  cases a<;>cases b<;>simp[Tg.up]at e<;>simp_all
theorem apart:∀(n:Nat) (v:Vl),v.nodes<=n->∀(t:Ty) (T:List Tg),T.Nodup->ku (fun x=>lz (cn t x v)) T<=v.nodes
 |0,v,h=>by have:=du v;omega
 |
  n+1,v,hn=>by
  intro t T hT
  have base:∀(hno:∀x,eD t x=false->cn t x v=[]),ku (fun x=>lz (cn t x v)) T<=v.nodes:=fun hno=>by
   refine Nat.le_trans (xX fun x _=>?_) (yM (t:=t) v.nodes hT)
   cases e:eD t x with
   |true=>rw[mU v e];simp[lz]
   |false=>rw[hno x e];simp[lz]
  cases hm:stuck t v with
  |true=>exact base fun x hx=>dR hx hm
  |
   false =>
   unfold stuck at hm
   split at hm
   ·rename_i a b w
    simp only[Vl.nodes]at hn |-
    simp only[m9,oW]
    have:=apart n w (by omega) a T hT
    omega
   ·rename_i a b w
    simp only[Vl.nodes]at hn |-
    simp only[nr,oW]
    have:=apart n w (by omega) b T hT
    omega
   ·rename_i a b x y
    simp only[Vl.nodes]at hn |-
    simp only[nj,re,oW]
    rw[oU]
    have:=apart n x (by omega) a T hT
    have:=apart n y (by omega) b T hT
    omega
   ·rename_i a w
    simp only[Vl.nodes]at hn |-
    simp only[mZ,re,oW,sJ]
    rw[oU,sS]
    have h1:=apart n w (by omega) a _ (A7 hT)
    simp only[ku,bG,List.sum_cons,List.map_map]at h1
    have h2:((cn a (.bd 0) w).map fun h=>ku (fun x=>lz (cn (.rc a) x h.2)) T).sum<=lz (cn a (.bd 0) w):=Cj fun h hh=>by
     have:=(jr hh).1
     exact apart n h.2 (by omega) (.rc a) T hT
    simp only[ku,Function.comp_def]at h1 h2 |-
    omega
   ·cases hm
theorem sf(t:Ty)(tg:Tg)(v:Vl):lz (cn t tg v)<=v.nodes:=by
 have:=apart v.nodes v (au _) t [tg] (by simp)
 simpa[ku]using this
theorem kO:∀l:List Hl,l.length<=lz l
 |[]=>dP _
 |
  h::l=>by
  have:=kO l
  have:=du h.2
  simp only[lz,bG,List.sum_cons,az]at *;omega
theorem nn(t:Ty)(tg:Tg)(v:Vl):(cn t tg v).length<=v.nodes:=Nat.le_trans (kO _) (sf t tg v)
end Go.Proofs.Trees
namespace Go.Proofs.Trees
open Go Go.VL Go.RowKit
def gj(ar:List (List UInt8))(k:Nat):List UInt8:=ar.getD (ar.length-1-k) []
theorem fK{s:List UInt8}{ar:List (List UInt8)}:∀(i u:Nat),i<=ar.length->bO s ar i=some u->u<ar.length/\gj ar u=s
 |0,u,_,h=>by cases h
 |
  i+1,u,hi,h=>by
  rw[bO]at h
  split at h
  ·rename_i e
   cases h
   refine⟨by omega,?_⟩
   rw[gj,show ar.length-1-(ar.length-1-i)=i by omega];exact e
  ·exact fK i u (by omega) h
def vd:Ty->Tg->Bool
 | .plus a b,tg=>vd a tg||vd b tg
 | .times a b,tg=>vd a tg||vd b tg
 | .rc a,tg=>vd a tg.up
 |t,tg=>eD t tg
theorem iT:∀(n:Nat) (v:Vl),v.nodes<=n->∀(t:Ty) (tg:Tg),vd t tg=false->cn t tg v=[]
 |0,v,h=>by have:=du v;omega
 |
  n+1,v,hn=>by
  intro t tg ho
  cases hm:stuck t v with
  |
   true =>
   refine dR ?_ hm
   cases t<;>first|exact ho|rfl
  |
   false =>
   unfold stuck at hm
   split at hm
   ·simp only[Vl.nodes]at hn
    simp only[vd,ck]at ho
    rw[m9,iT n _ (by omega) _ _ ho.1];rfl
   ·simp only[Vl.nodes]at hn
    simp only[vd,ck]at ho
    rw[nr,iT n _ (by omega) _ _ ho.2];rfl
   ·simp only[Vl.nodes]at hn
    simp only[vd,ck]at ho
    rw[nj,iT n _ (by omega) _ _ ho.1,iT n _ (by omega) _ _ ho.2];rfl
   ·rename_i a w
    simp only[Vl.nodes]at hn
    have ho':vd a tg.up=false:=ho
    rw[mZ,iT n _ (by omega) _ _ ho']
    have:(cn a (.bd 0) w).flatMap (fun h=>iF (fun c=>.f (.r (.p h.1 c))) (cn (.rc a) tg h.2))=(cn a (.bd 0) w).flatMap (fun _=>[]):=i6 fun h hh=>by
     have:=(jr hh).1
     rw[iT n h.2 (by omega) (.rc a) tg ho];rfl
    rw[this]
    induction cn a (.bd 0) w<;>simp_all[iF]
   ·cases hm
theorem lr:∀(e:E) (ar:List (List UInt8)) (t:Ty) (k:Nat),cT e ar=some t->vd t (.bd k)=true->k<ar.length/\bO (gj ar k) ar ar.length=some k
 |
  .atom s,ar,t,k,ht,ho=>by
  simp only[cT]at ht
  split at ht
  ·cases ht;cases ho
  ·split at ht
   ·cases ht;cases ho
   ·split at ht
    ·cases ht;cases ho
    ·split at ht
     ·split at ht
      ·rename_i u hu
       cases ht
       have:u=k:=by simpa[vd,eD]using ho
       subst this
       obtain⟨h1,h2⟩:=fK _ _ (au _) hu
       exact⟨h1,by rw[h2];exact hu⟩
      ·cases ht;cases ho
     ·cases ht
 |
  .list [x,a,b],ar,t,k,ht,ho=>by
  by_cases h0:x.at=[43]
  ·obtain⟨t1,t2,h1,h2,rfl⟩:=fL h0 ht
   simp only[vd,bB]at ho
   rcases ho with ho|ho
   ·exact lr a ar t1 k h1 ho
   ·exact lr b ar t2 k h2 ho
  ·by_cases h1:x.at=[42]
   ·obtain⟨t1,t2,h1,h2,rfl⟩:=fj h1 ht
    simp only[vd,bB]at ho
    rcases ho with ho|ho
    ·exact lr a ar t1 k h1 ho
    ·exact lr b ar t2 k h2 ho
   ·by_cases h2:x.at=[114,101,99]
    ·obtain⟨t1,_,h3,rfl⟩:=dz h2 ht
     obtain⟨q1,q2⟩:=lr b (ar++[a.at]) t1 (k+1) h3 ho
     simp only[aq,az,aG]at q1
     have hk:k<ar.length:=by omega
     have e:gj (ar++[a.at]) (k+1)=gj ar k:=by
      unfold gj
      rw[aq,show ar.length+[a.at].length-1-(k+1)=ar.length-1-k by simp;omega]
      simp[aa,List.getElem?_append_left (show ar.length-1-k<ar.length by omega)]
     rw[e]at q2
     refine⟨hk,?_⟩
     have e2:(ar++[a.at]).length=ar.length+1:=by simp
     rw[e2,bO]at q2
     split at q2
     ·rw[e2]at q2;simp at q2
     ·rw[kj _ _ _ _ (au _)]at q2
      cases hq:bO (gj ar k) ar ar.length with
      |none=>rw[hq]at q2;cases q2
      |some u=>rw[hq]at q2;simpa using q2
    ·rw[jh _ h0 h1 h2]at ht;cases ht
 | .list [],ar,t,k,ht,ho=>by cases ht
 | .list [_],ar,t,k,ht,ho=>by cases ht
 | .list [_,_],ar,t,k,ht,ho=>by cases ht
 | .list (_::_::_::_::_),ar,t,k,ht,ho=>by cases ht
theorem fm(w:List UInt8)(ar:List (List UInt8)):bO w (ar++[w]) (ar++[w]).length=some 0:=by
 have e2:(ar++[w]).length=ar.length+1:=by simp
 rw[e2,bO,if_pos (by simp[aa]),e2];simp
theorem jG{s w:List UInt8}(ar:List (List UInt8))(h:w≠s):bO s (ar++[w]) (ar++[w]).length=(bO s ar ar.length).map (·+1):=by
 have e2:(ar++[w]).length=ar.length+1:=by simp
 rw[e2,bO,if_neg (by simpa[aa]using h),kj _ _ _ _ (au _)]
theorem Gz{b:E}{ar:List (List UInt8)}{w:List UInt8}{t:Ty}{k:Nat}(hb:cT b (ar++[w])=some t)(hk:bO w ar ar.length=some k):vd t (.bd (k+1))=false:=by
 cases h:vd t (.bd (k+1))with
 |false=>rfl
 |
  true =>
  obtain⟨_,q2⟩:=lr _ _ _ _ hb h
  obtain⟨h1,h2⟩:=fK _ _ (au _) hk
  have e:gj (ar++[w]) (k+1)=gj ar k:=by
   unfold gj
   rw[aq,show ar.length+[w].length-1-(k+1)=ar.length-1-k by simp;omega]
   simp[aa,List.getElem?_append_left (show ar.length-1-k<ar.length by omega)]
  rw[e,h2,fm]at q2
  cases q2
def pw(s:List UInt8)(ar:List (List UInt8)):Tg:=match bO s ar ar.length with|some u=>.bd u|none=>.nm s
theorem we(w:List UInt8)(ar:List (List UInt8)):pw w (ar++[w])=.bd 0:=by rw[pw,fm]
theorem An{s w:List UInt8}(ar:List (List UInt8))(h:w≠s):pw s (ar++[w])=(pw s ar).up:=by
 rw[pw,pw,jG ar h]
 cases bO s ar ar.length<;>rfl
theorem iA(n:Nat):∀(m:Nat) (v:Vl),v.nodes<=m->∀(e:E) (env:List Fr) (t:Ty),Ask e env t->eY n v (e,env)=true->∀(k:Nat) (f:Fr),env[k]?=some f->∀h,h∈cn t (.bd k) v->eY n h.2 (f.ex,f.out)=true
 |0,v,hm=>by have:=du v;omega
 |
  m+1,v,hm=>by
  intro e env t A hv k f hf h hh
  rcases gn A.wf A.ty with⟨hb,hq⟩|⟨u,g,rfl,hq,hu⟩
  ·have hhd:hd e env=(e,env):=ko hq
   rcases fG A.ty hb A.cl with⟨rfl,rfl⟩|⟨rfl,rfl⟩|⟨s,rfl,rfl,hp,h0,h1⟩|⟨x,a,b,t1,t2,rfl,hx,rfl,ha,hbb⟩|⟨x,a,b,t1,t2,rfl,hx,rfl,ha,hbb⟩|⟨x,a,b,t1,rfl,hx,rfl⟩
   ·rw[dR rfl (by cases v<;>rfl)]at hh;cases hh
   ·rw[dR rfl (by cases v<;>rfl)]at hh;cases hh
   ·rw[dR rfl (by cases v<;>rfl)]at hh;cases hh
   ·obtain⟨ok1,ok2,ok3,_⟩:=A.ok
    obtain⟨f1,f2⟩:=fw A.cl
    cases v with
    |
     l w =>
     simp only[eY,hhd,hx,beq_self_eq_true,bX]at hv
     simp only[Vl.nodes]at hm
     rw[m9]at hh
     obtain⟨h2,h3,rfl⟩:=cY hh
     exact iA n m w (by omega) a env t1 ⟨ok2,A.wf,ha,f1⟩ hv k f hf h2 h3
    |
     r w =>
     simp only[eY,hhd,hx,beq_self_eq_true,bX]at hv
     simp only[Vl.nodes]at hm
     rw[nr]at hh
     obtain⟨h2,h3,rfl⟩:=cY hh
     exact iA n m w (by omega) b env t2 ⟨ok3,A.wf,hbb,f2⟩ hv k f hf h2 h3
    |_=>rw[dR rfl rfl]at hh;cases hh
   ·obtain⟨ok1,ok2,ok3,_⟩:=A.ok
    obtain⟨f1,f2⟩:=eW A.cl
    cases v with
    |
     p w w' =>
     simp only[eY,hhd,hx,beq_self_eq_true,bX,aw]at hv
     simp only[Vl.nodes]at hm
     rw[nj]at hh
     rcases aM.1 hh with hh|hh
     ·obtain⟨h2,h3,rfl⟩:=cY hh
      exact iA n m w (by omega) a env t1 ⟨ok2,A.wf,ha,f1⟩ hv.1 k f hf h2 h3
     ·obtain⟨h2,h3,rfl⟩:=cY hh
      exact iA n m w' (by omega) b env t2 ⟨ok3,A.wf,hbb,f2⟩ hv.2 k f hf h2 h3
    |_=>rw[dR rfl rfl]at hh;cases hh
   ·obtain⟨t1',he1,h1,f1,hw1⟩:=jq A.wf A.ok hx A.ty A.cl
    cases he1
    obtain⟨ok1,ok2,ok3,_⟩:=A.ok
    cases v with
    |
     f w =>
     simp only[eY,hhd,hx,beq_self_eq_true,bX]at hv
     simp only[Vl.nodes]at hm
     rw[mZ]at hh
     have A':Ask b (.mk a.at (.list [x,a,b]) env::env) t1:=⟨ok3,hw1,h1,f1⟩
     rcases aM.1 hh with hh|hh
     ·obtain⟨h2,h3,rfl⟩:=cY hh
      exact iA n m w (by omega) b _ t1 A' hv (k+1) f (by simpa using hf) h2 h3
     ·obtain⟨kd,h2,h3⟩:=List.mem_flatMap.1 hh
      obtain⟨h4,h5,rfl⟩:=cY h3
      have hkd:=iA n m w (by omega) b _ t1 A' hv 0 _ rfl kd h2
      have:=(jr h2).1
      exact iA n m kd.2 (by omega) (.list [x,a,b]) env _ A hkd k f hf h4 h5
    |_=>rw[dR rfl rfl]at hh;cases hh
  ·by_cases huk:u=k
   ·subst huk
    rw[hu]at hf;cases hf
    rw[mU v (by simp[eD])]at hh
    simp only[aQ]at hh
    subst hh
    obtain⟨x,a,b,t',hfe,hok,hx,ht',hf',hwf,hlt⟩:=oV A.wf hq
    rw[<-tL n v (qV hq) (by rw[hfe];exact pW hwf)];exact hv
   ·rw[dR (by simpa[eD]using huk) (by cases v<;>rfl)]at hh;cases hh
end Go.Proofs.Trees
namespace Go.Proofs.Trees
open Go Go.VL Go.RowKit
def cS:E->List Nm->Ty
 | .atom s,ar=>if s=[48]then .zero else if s=[49]then .one else match bO s ar ar.length with|some u=>.bound u|none=>.name s
 | .list [x,a,b],ar=>if x.at=[43]then .plus (cS a ar) (cS b ar)else if x.at=[42]then .times (cS a ar) (cS b ar)else .rc (cS b (ar++[a.at]))
 | .list _,_=>.zero
def qU(s:Nm):Prop:=s≠[]/\s≠[48]/\s≠[49]
inductive Wf:E->Prop
 |atom {s} (h:s≠[]):Wf (.atom s)
 |plus {a b} (ha:Wf a) (hb:Wf b):Wf (.list [.atom [43],a,b])
 |times {a b} (ha:Wf a) (hb:Wf b):Wf (.list [.atom [42],a,b])
 |rc {n b} (hn:qU n) (hb:Wf b):Wf (.list [.atom [114,101,99],.atom n,b])
theorem dM(a b:E)(ar:List Nm):cS (.list [.atom [43],a,b]) ar=.plus (cS a ar) (cS b ar):=by rw[cS,if_pos (show (E.atom [43]).at=[43] from rfl)]
theorem dw(a b:E)(ar:List Nm):cS (.list [.atom [42],a,b]) ar=.times (cS a ar) (cS b ar):=by rw[cS,if_neg (by decide),if_pos (show (E.atom [42]).at=[42] from rfl)]
theorem fk(a b:E)(ar:List Nm):cS (.list [.atom [114,101,99],a,b]) ar=.rc (cS b (ar++[a.at])):=by rw[cS,if_neg (by decide),if_neg (by decide)]
theorem Wf.ok{e:E}(h:Wf e):e.ok:=by
 induction h with
 |atom h=>exact h
 |plus ha hb i1 i2=>exact⟨by simp[E.ok],i1,i2,trivial⟩
 |times ha hb i1 i2=>exact⟨by simp[E.ok],i1,i2,trivial⟩
 |rc hn hb i=>exact⟨by simp[E.ok],hn.1,i,trivial⟩
theorem Wf.db{e:E}(h:Wf e):∀ar,e.db=(cS e ar).atoms:=by
 induction h with
 |
  @atom s h =>
  intro ar
  simp only[E.db,cS]
  split
  ·rfl
  ·split
   ·rfl
   ·split<;>rfl
 |plus ha hb i1 i2=>intro ar;rw[dM];simp only[E.db,E.eV,Ty.atoms,<-i1 ar,<-i2 ar];omega
 |times ha hb i1 i2=>intro ar;rw[dw];simp only[E.db,E.eV,Ty.atoms,<-i1 ar,<-i2 ar];omega
 |@rc n b hn hb i=>intro ar;rw[fk];simp only[E.db,E.eV,Ty.atoms,<-i];omega
theorem Wf.sz{e:E}(h:Wf e):e.sz<=3*e.db:=by
 induction h with
 |atom h=>simp[E.sz,E.db]
 |plus ha hb i1 i2=>simp only[E.sz,E.jo,E.db,E.eV];omega
 |times ha hb i1 i2=>simp only[E.sz,E.jo,E.db,E.eV];omega
 |rc hn hb i=>simp only[E.sz,E.jo,E.db,E.eV];omega
theorem kg:∀(e:E) (ar:List Nm) (t:Ty),e.ok->(∀w,w∈ar->di w=true)->cT e ar=some t->Wf e/\cS e ar=t
 |
  .atom s,ar,t,hok,hl,ht=>by
  refine⟨.atom hok,?_⟩
  simp only[cT,cS]at ht |-
  split at ht
  ·rename_i h;rw[if_pos h];simpa using ht
  ·rename_i h;rw[if_neg h]
   split at ht
   ·rename_i h1;rw[if_pos h1];simpa using ht
   ·rename_i h1;rw[if_neg h1]
    split at ht
    ·rename_i hp
     cases q:bO s ar ar.length with
     |none=>simpa using ht
     |
      some u =>
      obtain⟨h1,h2⟩:=fK _ _ (au _) q
      have:=hl (gj ar u) (by
       unfold gj
       have:ar.length-1-u<ar.length:=by omega
       simp[aa,this])
      rw[h2,kl hp]at this;cases this
    ·split at ht
     ·split at ht<;>rename_i q<;>rw[q]<;>simpa using ht
     ·cases ht
 |
  .list [x,a,b],ar,t,hok,hl,ht=>by
  obtain⟨ok1,ok2,ok3,_⟩:=hok
  by_cases h0:x.at=[43]
  ·obtain⟨t1,t2,h1,h2,rfl⟩:=fL h0 ht
   obtain rfl:=km h0 (by simp)
   obtain⟨w1,e1⟩:=kg a ar t1 ok2 hl h1
   obtain⟨w2,e2⟩:=kg b ar t2 ok3 hl h2
   exact⟨.plus w1 w2,by rw[dM,e1,e2]⟩
  ·by_cases h1:x.at=[42]
   ·obtain⟨t1,t2,h2,h3,rfl⟩:=fj h1 ht
    obtain rfl:=km h1 (by simp)
    obtain⟨w1,e1⟩:=kg a ar t1 ok2 hl h2
    obtain⟨w2,e2⟩:=kg b ar t2 ok3 hl h3
    exact⟨.times w1 w2,by rw[dw,e1,e2]⟩
   ·by_cases h2:x.at=[114,101,99]
    ·obtain⟨t1,hla,h3,rfl⟩:=dz h2 ht
     obtain rfl:=km h2 (by simp)
     have hne:a.at≠[]:=by intro e;rw[e]at hla;cases hla
     have ha:a=.atom a.at:=km rfl hne
     obtain⟨w1,e1⟩:=kg b (ar++[a.at]) t1 ok3 (fun w hw=>by
      rcases aM.1 hw with hw|hw
      ·exact hl w hw
      ·simp only[aQ]at hw;rw[hw];exact hla) h3
     have hN:qU a.at:=⟨hne,fun e=>by rw[e]at hla;revert hla;decide,fun e=>by rw[e]at hla;revert hla;decide⟩
     refine⟨?_,by rw[fk,e1]⟩
     rw[ha];exact .rc hN w1
    ·rw[jh _ h0 h1 h2]at ht;cases ht
 | .list [],ar,t,_,_,ht=>by cases ht
 | .list [_],ar,t,_,_,ht=>by cases ht
 | .list [_,_],ar,t,_,_,ht=>by cases ht
 | .list (_::_::_::_::_),ar,t,_,_,ht=>by cases ht
theorem fC(s:Nm)(ar:List Nm):bO s ar ar.length=none↔s∉ar:=by
 have:=mN s ar ar.length (au _)
 rwa[List.take_length]at this
theorem nZ(s:Nm)(ar:List Nm):∀(n:Nat) (br:List Nm),br.length=n->bO s (ar++br) (ar++br).length=match bO s br br.length with|some u=>some u|none=>(bO s ar ar.length).map (·+br.length)
 |
  0,br,h=>by
  obtain rfl:=bQ h
  rw[cP]
  cases h:bO s ar ar.length<;>simp[bO]
 |
  n+1,br,h=>by
  obtain⟨b2,w,rfl⟩:∃b2 w,br=b2++[w]:=⟨br.dropLast,br.getLast (by intro e;rw[e]at h;cases h),(List.dropLast_concat_getLast _).symm⟩
  rw[<-a6]
  by_cases hw:w=s
  ·subst hw;rw[fm,fm]
  ·rw[jG _ hw,jG _ hw,nZ s ar n b2 (by simpa using h)]
   cases bO s b2 b2.length with
   |some u=>rfl
   |
    none =>
    cases bO s ar ar.length with
    |none=>rfl
    |some u=>simp only[Option.map_none,cj,aq,az,aG];congr 1
theorem uG(ar:List Nm){e:E}(h:Wf e):∀br,(∀y,bj y (cS e br)=true->y∉ar)->cS e (ar++br)=cS e br:=by
 induction h with
 |
  @atom s h =>
  intro br hy
  simp only[cS]at hy |-
  split
  ·rfl
  ·rename_i h0
   split
   ·rfl
   ·rename_i h1
    rw[if_neg h0,if_neg h1]at hy
    rw[nZ s ar _ br rfl]
    cases q:bO s br br.length with
    |some u=>rfl
    |
     none =>
     rw[q]at hy
     have:=(fC s ar).2 (hy s (by simp[bj]))
     rw[this];rfl
 |
  plus ha hb i1 i2 =>
  intro br hy
  rw[dM]at hy |-
  rw[dM,i1 br fun y h=>hy y (by simp[bj,h]),i2 br fun y h=>hy y (by simp[bj,h])]
 |
  times ha hb i1 i2 =>
  intro br hy
  rw[dw]at hy |-
  rw[dw,i1 br fun y h=>hy y (by simp[bj,h]),i2 br fun y h=>hy y (by simp[bj,h])]
 |
  @rc n b hn hb i =>
  intro br hy
  rw[fk]at hy |-
  rw[fk,a6,i _ hy]
theorem yg(x:Nm){e:E}(h:Wf e):∀ar,cS e ar=dB (.name x) (cS e ([x]++ar)) ar.length:=by
 induction h with
 |
  @atom s h =>
  intro ar
  simp only[cS]
  split
  ·rfl
  ·split
   ·rfl
   ·rw[nZ s [x] _ ar rfl]
    cases q:bO s ar ar.length with
    |
     some u =>
     have:=(fK _ _ (au _) q).1
     simp only[dB];rw[if_neg (by omega)]
    |
     none =>
     by_cases hx:x=s
     ·subst hx
      have:bO x [x] [x].length=some 0:=fm x []
      rw[this];simp[dB]
     ·have:bO s [x] [x].length=none:=(fC s [x]).2 (by simpa using fun e=>hx e.symm)
      rw[this];rfl
 |plus ha hb i1 i2=>intro ar;rw[dM,dM,dB,<-i1 ar,<-i2 ar]
 |times ha hb i1 i2=>intro ar;rw[dw,dw,dB,<-i1 ar,<-i2 ar]
 |
  @rc n b hn hb i =>
  intro ar
  rw[fk,fk,dB,i (ar++[E.at (.atom n)]),a6]
  simp
theorem ns{e:E}(h:Wf e):∀ar y,bj y (cS e ar)=true->qU y/\y∉ar:=by
 induction h with
 |
  @atom s h =>
  intro ar y hy
  simp only[cS]at hy
  split at hy
  ·cases hy
  ·rename_i h0
   split at hy
   ·cases hy
   ·rename_i h1
    split at hy
    ·cases hy
    ·rename_i q
     simp only[bj,decide_eq_true_eq]at hy
     subst hy
     exact⟨⟨h,h0,h1⟩,(fC _ _).1 q⟩
 |
  plus ha hb i1 i2 =>
  intro ar y hy
  rw[dM]at hy
  simp only[bj,bB]at hy
  rcases hy with hy|hy
  ·exact i1 ar y hy
  ·exact i2 ar y hy
 |
  times ha hb i1 i2 =>
  intro ar y hy
  rw[dw]at hy
  simp only[bj,bB]at hy
  rcases hy with hy|hy
  ·exact i1 ar y hy
  ·exact i2 ar y hy
 |
  rc hn hb i =>
  intro ar y hy
  rw[fk]at hy
  obtain⟨h1,h2⟩:=i _ y hy
  exact⟨h1,fun h=>h2 (aD _ h)⟩
theorem l4{e:E}(h:Wf e):∀(bd l:List Nm) (y:Nm),y∈kp e bd l↔y∈l\/bj y (cS e bd)=true:=by
 induction h with
 |
  @atom s h =>
  intro bd l y
  simp only[kp,cS]
  by_cases h0:s=[48]
  ·simp[h0,bj]
  ·by_cases h1:s=[49]
   ·simp[h1,bj]
   ·rw[if_neg h0,if_neg h1]
    by_cases h2:s∈bd
    ·cases q:bO s bd bd.length with
     |none=>exact absurd h2 ((fC _ _).1 q)
     |some u=>simp[h2,bj]
    ·rw[(fC _ _).2 h2]
     simp only[h0,h1,h2,false_or,bj,decide_eq_true_eq]
     by_cases h3:s∈l
     ·simp only[h3,if_true]
      exact⟨fun h=>.inl h,fun h=>by rcases h with h|rfl<;>assumption⟩
     ·simp only[h3,if_false,aM,aQ,eq_comm]
 |
  plus ha hb i1 i2 =>
  intro bd l y
  rw[kp,if_neg (by decide),dM,i2,i1]
  simp[bj,or_assoc]
 |
  times ha hb i1 i2 =>
  intro bd l y
  rw[kp,if_neg (by decide),dw,i2,i1]
  simp[bj,or_assoc]
 |
  rc hn hb i =>
  intro bd l y
  rw[kp,if_pos (show (E.atom [114,101,99]).at=[114,101,99] from rfl),fk,i]
  rfl
theorem eU:∀(t:Ty) (out:List Nm) (y:Nm),y∈bN t out↔y∈out\/bj y t=true
 |
  .name s,out,y=>by
  simp only[bN,pC,bj,decide_eq_true_eq]
  split
  ·rename_i h;exact⟨fun h=>.inl h,fun h'=>by rcases h' with h'|rfl<;>assumption⟩
  ·simp[eq_comm]
 | .plus a b,out,y=>by rw[bN,eU b,eU a];simp[bj,or_assoc]
 | .times a b,out,y=>by rw[bN,eU b,eU a];simp[bj,or_assoc]
 | .rc a,out,y=>by rw[bN,eU a];rfl
 | .zero,out,y=>by simp[bN,bj]
 | .one,out,y=>by simp[bN,bj]
 | .bound k,out,y=>by simp[bN,bj]
end Go.Proofs.Trees
namespace Go.Proofs.Trees
open Go Go.VL Go.RowKit
abbrev dF:Nm:=[114,101,99]
theorem dS(s:Nm):(E.atom s).at=s:=rfl
def rb(x:Nm)(u:E):E->E
 | .atom s=>if s=x then u else .atom s
 | .list [h,a,b]=>if h.at=dF then(if a.at=x then .list [h,a,b]else .list [.atom dF,a,rb x u b])else .list [.atom h.at,rb x u a,rb x u b]
 | .list l=>.list l
def nu(x:Nm):E->Nat
 | .atom s=>if s=x then 1 else 0
 | .list [h,a,b]=>if h.at=dF then(if a.at=x then 0 else nu x b)else nu x a+nu x b
 | .list _=>0
def tV(p:Nm->Prop):E->Prop
 | .atom _=>True
 | .list [h,a,b]=>(if h.at=dF then p a.at else tV p a)/\tV p b
 | .list _=>True
def fB(x:Nm):Ty->Nat
 | .name s=>if s=x then 1 else 0
 | .plus a b=>fB x a+fB x b
 | .times a b=>fB x a+fB x b
 | .rc a=>fB x a
 |_=>0
theorem vS(x:Nm)(u a b:E):rb x u (.list [.atom [43],a,b])=.list [.atom [43],rb x u a,rb x u b]:=by rw[rb,if_neg (by decide)];rfl
theorem sI(x:Nm)(u a b:E):rb x u (.list [.atom [42],a,b])=.list [.atom [42],rb x u a,rb x u b]:=by rw[rb,if_neg (by decide)];rfl
theorem Ce(x:Nm)(u:E)(n:Nm)(b:E):rb x u (.list [.atom dF,.atom n,b])=if n=x then .list [.atom dF,.atom n,b]else .list [.atom dF,.atom n,rb x u b]:=by rw[rb,if_pos (dS _)];rfl
theorem sr(x:Nm)(a b:E):nu x (.list [.atom [43],a,b])=nu x a+nu x b:=by rw[nu,if_neg (by decide)]
theorem pR(x:Nm)(a b:E):nu x (.list [.atom [42],a,b])=nu x a+nu x b:=by rw[nu,if_neg (by decide)]
theorem xq(x:Nm)(n:Nm)(b:E):nu x (.list [.atom dF,.atom n,b])=if n=x then 0 else nu x b:=by rw[nu,if_pos (dS _)];rfl
theorem pg(p:Nm->Prop)(a b:E):tV p (.list [.atom [43],a,b])↔tV p a/\tV p b:=by rw[tV,if_neg (by decide)]
theorem nk(p:Nm->Prop)(a b:E):tV p (.list [.atom [42],a,b])↔tV p a/\tV p b:=by rw[tV,if_neg (by decide)]
theorem uK(p:Nm->Prop)(n:Nm)(b:E):tV p (.list [.atom dF,.atom n,b])↔p n/\tV p b:=by rw[tV,if_pos (dS _)];rfl
theorem Bq{p q:Nm->Prop}(h:∀n,p n->q n){e:E}(hw:Wf e):tV p e->tV q e:=by
 induction hw with
 |atom _=>exact fun _=>trivial
 |plus _ _ i1 i2=>rw[pg,pg];exact fun g=>⟨i1 g.1,i2 g.2⟩
 |times _ _ i1 i2=>rw[nk,nk];exact fun g=>⟨i1 g.1,i2 g.2⟩
 |rc _ _ i=>rw[uK,uK];exact fun g=>⟨h _ g.1,i g.2⟩
theorem jb{s:Nm}(hs:qU s){ar:List Nm}(h:s∉ar):cS (.atom s) ar=.name s:=by
 simp only[cS];rw[if_neg hs.2.1,if_neg hs.2.2,(fC s ar).2 h]
theorem Er{x:Nm}(hx:qU x){u:E}(hu:Wf u){e:E}(h:Wf e):tV (fun n=>n≠x/\bj n (cS u [])=false) e->∀ar,x∉ar->(∀y,y∈ar->bj y (cS u [])=false)->Wf (rb x u e)/\cS (rb x u e) ar=sub x (cS u []) (cS e ar):=by
 induction h with
 |
  @atom s hs =>
  intro _ ar har hy
  by_cases e:s=x
  ·subst e
   have:cS u (ar++[])=cS u []:=uG ar hu [] fun y hy' hm=>by rw[hy y hm]at hy';cases hy'
   rw[cP]at this
   rw[jb hx har]
   simp only[rb,sub,if_true]
   exact⟨hu,this⟩
  ·simp only[rb,if_neg e]
   refine⟨.atom hs,?_⟩
   simp only[cS]
   split
   ·rfl
   ·split
    ·rfl
    ·split
     ·rfl
     ·simp only[sub,if_neg e]
 |
  plus ha hb i1 i2 =>
  intro hap ar har hy
  rw[pg]at hap
  obtain⟨w1,e1⟩:=i1 hap.1 ar har hy
  obtain⟨w2,e2⟩:=i2 hap.2 ar har hy
  rw[vS,dM,dM,e1,e2]
  exact⟨.plus w1 w2,rfl⟩
 |
  times ha hb i1 i2 =>
  intro hap ar har hy
  rw[nk]at hap
  obtain⟨w1,e1⟩:=i1 hap.1 ar har hy
  obtain⟨w2,e2⟩:=i2 hap.2 ar har hy
  rw[sI,dw,dw,e1,e2]
  exact⟨.times w1 w2,rfl⟩
 |
  @rc n b hn hb i =>
  intro hap ar har hy
  rw[uK]at hap
  obtain⟨w1,e1⟩:=i hap.2 (ar++[n]) (by
   simp only[aM,aQ]
   rintro(h|h)
   ·exact har h
   ·exact hap.1.1 h.symm) (fun y hm=>by
   simp only[aM,aQ]at hm
   rcases hm with hm|rfl
   ·exact hy y hm
   ·exact hap.1.2)
  rw[Ce,if_neg hap.1.1,fk,fk]
  refine⟨.rc hn w1,?_⟩
  show Ty.rc (cS (rb x u b) (ar++[n]))=_
  rw[e1];rfl
theorem DX{x:Nm}(hx:qU x){e:E}(h:Wf e):∀ar,fB x (cS e ar)=if x∈ar then 0 else nu x e:=by
 induction h with
 |
  @atom s hs =>
  intro ar
  by_cases e:s=x
  ·subst e
   by_cases hm:s∈ar
   ·rw[if_pos hm]
    simp only[cS];rw[if_neg hx.2.1,if_neg hx.2.2]
    cases q:bO s ar ar.length with
    |none=>exact absurd hm ((fC _ _).1 q)
    |some u=>rfl
   ·rw[if_neg hm,jb hx hm];simp[fB,nu]
  ·have:fB x (cS (.atom s) ar)=0:=by
    simp only[cS]
    split
    ·rfl
    ·split
     ·rfl
     ·split
      ·rfl
      ·simp[fB,e]
   rw[this];simp[nu,e]
 |plus ha hb i1 i2=>intro ar;rw[dM,sr,fB,i1,i2];split<;>simp
 |times ha hb i1 i2=>intro ar;rw[dw,pR,fB,i1,i2];split<;>simp
 |
  @rc n b hn hb i =>
  intro ar
  rw[fk,xq,fB,i]
  simp only[dS,aM,aQ]
  by_cases h1:x∈ar
  ·simp[h1]
  ·by_cases h2:x=n
   ·simp[h2]
   ·simp[h1,h2,Ne.symm h2]
theorem dU(x:Nm)(u:Ty):∀t:Ty,(sub x u t).atoms+fB x t=t.atoms+fB x t*u.atoms
 | .name s=>by simp only[sub,fB];split<;>simp[Ty.atoms];omega
 | .plus a b=>by have:=dU x u a;have:=dU x u b;simp only[sub,Ty.atoms,fB,Nat.add_mul];omega
 | .times a b=>by have:=dU x u a;have:=dU x u b;simp only[sub,Ty.atoms,fB,Nat.add_mul];omega
 | .rc a=>by have:=dU x u a;simp only[sub,Ty.atoms,fB];omega
 | .zero=>by simp[sub,fB]
 | .one=>by simp[sub,fB]
 | .bound k=>by simp[sub,fB]
abbrev tN(m:Nat):Nm:=116::dd m
theorem EP(m:Nat):dd m≠[]:=by
 by_cases h:m<10
 ·rw[eH h];simp
 ·rw[fP h];simp
theorem w4:∀(n m k:Nat),m<n->dd m=dd k->m=k
 |0,m,k,h,_=>by omega
 |
  n+1,m,k,h,e=>by
  have d10:∀{a b:Nat},a<10->b<10->bg (48+a)=bg (48+b)->a=b:=fun {a b} ha hb h=>by
   have:=congrArg UInt8.toNat h
   simp only[UInt8.toNat_ofNat']at this
   omega
  by_cases h1:m<10<;>by_cases h2:k<10
  ·rw[eH h1,eH h2]at e
   simp only[List.cons.injEq,and_true]at e
   exact d10 h1 h2 e
  ·rw[eH h1,fP h2]at e
   have:=congrArg List.length e
   have:dd (k/10)=[]:=by
    apply bQ
    simp at this;simpa using this
   exact absurd this (EP _)
  ·rw[fP h1,eH h2]at e
   have:=congrArg List.length e
   have:dd (m/10)=[]:=by
    apply bQ
    simp at this;simpa using this
   exact absurd this (EP _)
  ·rw[fP h1,fP h2]at e
   obtain⟨e1,e2⟩:=List.append_inj' e rfl
   have:=w4 n (m/10) (k/10) (by omega) e1
   simp only[List.cons.injEq,and_true]at e2
   have:=d10 (Nat.mod_lt _ (by omega)) (Nat.mod_lt _ (by omega)) e2
   omega
theorem BU{m k:Nat}(h:tN m=tN k):m=k:=w4 (m+1) m k (by omega) (List.cons.inj h).2
theorem yQ(m:Nat):qU (tN m):=⟨by simp,by simp,by simp⟩
theorem SV:∀(l F:List Nm),l.Nodup->(∀x,x∈l->x∈F)->l.length<=F.length
 |[],_,_,_=>dP _
 |
  x::l,F,hn,hs=>by
  obtain⟨h1,h2⟩:=List.nodup_cons.1 hn
  have hx:=hs x ak
  have:=SV l (F.erase x) h2 fun y hy=>(List.mem_erase_of_ne (fun e=>h1 (by rw[<-e];exact hy))).2 (hs y (al _ hy))
  rw[List.length_erase_of_mem hx]at this
  have:0<F.length:=List.length_pos_of_mem hx
  simp only[az];omega
def qi(F:List Nm):Nat->Nat->Nat
 |0,k=>k
 |n+1,k=>if tN k∈F then qi F n (k+1)else k
theorem vt(F:List Nm):∀(n k:Nat),k<=qi F n k/\qi F n k<=k+n/\(∀j,k<=j->j<qi F n k->tN j∈F)/\(qi F n k<k+n->tN (qi F n k)∉F)
 |0,k=>⟨au _,au _,fun j h1 h2=>by simp only[qi]at h2;omega,fun h=>by simp only[qi]at h;omega⟩
 |
  n+1,k=>by
  rw[qi]
  split
  ·rename_i hm
   obtain⟨h1,h2,h3,h4⟩:=vt F n (k+1)
   refine⟨by omega,by omega,fun j hj hl=>?_,fun h=>h4 (by omega)⟩
   by_cases e:j=k
   ·subst e;exact hm
   ·exact h3 j (by omega) hl
  ·rename_i hm
   exact⟨au _,by omega,fun j h1 h2=>by omega,fun _=>hm⟩
def nx(F:List Nm)(k:Nat):Nat:=qi F (F.length+1) k
theorem gB(F:List Nm)(k:Nat):k<=nx F k/\nx F k<=k+F.length/\(∀j,k<=j->j<nx F k->tN j∈F)/\tN (nx F k)∉F:=by
 obtain⟨h1,h2,h3,h4⟩:=vt F (F.length+1) k
 have hlt:nx F k<k+(F.length+1):=by
  rcases Nat.lt_or_ge (nx F k) (k+(F.length+1))with h|h
  ·exact h
  ·exfalso
   have:=SV ((List.range' k (F.length+1)).map tN) F (by
    refine List.Pairwise.map _ (fun a b hab e=>hab (BU e)) List.nodup_range') (fun x hx=>by
    obtain⟨j,hj,rfl⟩:=bM.1 hx
    obtain⟨i,hi,rfl⟩:=List.mem_range'.1 hj
    exact h3 _ (by omega) (by show _<nx F k;omega))
   simp at this
   omega
 exact⟨h1,by unfold nx at hlt |-;omega,h3,h4 hlt⟩
theorem Cy{F F':List Nm}(h:∀y,y∈F↔y∈F')(k:Nat):nx F k=nx F' k:=by
 obtain⟨a1,a2,a3,a4⟩:=gB F k
 obtain⟨b1,b2,b3,b4⟩:=gB F' k
 rcases Nat.lt_trichotomy (nx F k) (nx F' k)with hl|he|hl
 ·exact absurd ((h _).2 (b3 _ a1 hl)) a4
 ·exact he
 ·exact absurd ((h _).1 (a3 _ b1 hl)) b4
def gZ(F:List Nm):Ty->List Nm->Nat->E×Nat
 | .zero,_,k=>(.atom [48],k)
 | .one,_,k=>(.atom [49],k)
 | .name s,_,k=>(.atom s,k)
 | .bound u,to,k=>(.atom (gj to u),k)
 | .plus a b,to,k=>(.list [.atom [43],(gZ F a to k).1,(gZ F b to (gZ F a to k).2).1],(gZ F b to (gZ F a to k).2).2)
 | .times a b,to,k=>(.list [.atom [42],(gZ F a to k).1,(gZ F b to (gZ F a to k).2).1],(gZ F b to (gZ F a to k).2).2)
 | .rc a,to,k=>(.list [.atom dF,.atom (tN (nx F k)),(gZ F a (to++[tN (nx F k)]) (nx F k+1)).1],(gZ F a (to++[tN (nx F k)]) (nx F k+1)).2)
theorem jK{F F':List Nm}(h:∀y,y∈F↔y∈F'):∀(t:Ty) (to:List Nm) (k:Nat),gZ F t to k=gZ F' t to k
 | .zero,_,_=>rfl
 | .one,_,_=>rfl
 | .name _,_,_=>rfl
 | .bound _,_,_=>rfl
 | .plus a b,to,k=>by simp only[gZ];rw[jK h a,jK h b]
 | .times a b,to,k=>by simp only[gZ];rw[jK h a,jK h b]
 | .rc a,to,k=>by simp only[gZ];rw[Cy h,jK h a]
def jy:Ty->Nat->Prop
 | .bound u,i=>u<i
 | .plus a b,i=>jy a i/\jy b i
 | .times a b,i=>jy a i/\jy b i
 | .rc a,i=>jy a (i+1)
 |_,_=>True
theorem uD{e:E}(h:Wf e):∀ar,jy (cS e ar) ar.length:=by
 induction h with
 |
  @atom s hs =>
  intro ar
  simp only[cS]
  split
  ·trivial
  ·split
   ·trivial
   ·split
    ·rename_i u q;exact(fK _ _ (au _) q).1
    ·trivial
 |plus ha hb i1 i2=>intro ar;rw[dM];exact⟨i1 ar,i2 ar⟩
 |times ha hb i1 i2=>intro ar;rw[dw];exact⟨i1 ar,i2 ar⟩
 |
  @rc n b hn hb i =>
  intro ar;rw[fk]
  have:=i (ar++[(E.atom n).at])
  rw[aq]at this
  exact this
structure Gn(F to:List Nm)(k:Nat):Prop where
 out:∀w,w∈to->w∉F
 lt:∀w,w∈to->∃j,j<k/\w=tN j
 nd:to.Nodup
theorem Gn.nil(F:List Nm)(k:Nat):Gn F [] k:=⟨fun _ h=>(by cases h),fun _ h=>(by cases h),by simp⟩
theorem Gn.mono{F to:List Nm}{k k':Nat}(h:Gn F to k)(hk:k<=k'):Gn F to k':=⟨h.out,fun w hw=>by obtain⟨j,h1,h2⟩:=h.lt w hw;exact⟨j,by omega,h2⟩,h.nd⟩
theorem Gn.push{F to:List Nm}{k:Nat}(h:Gn F to k):Gn F (to++[tN (nx F k)]) (nx F k+1):=by
 obtain⟨h1,h2,h3,h4⟩:=gB F k
 refine⟨fun w hw=>?_,fun w hw=>?_,?_⟩
 ·rcases aM.1 hw with hw|hw
  ·exact h.out w hw
  ·simp only[aQ]at hw;rw[hw];exact h4
 ·rcases aM.1 hw with hw|hw
  ·obtain⟨j,g1,g2⟩:=h.lt w hw;exact⟨j,by omega,g2⟩
  ·simp only[aQ]at hw;exact⟨_,by omega,hw⟩
 ·refine List.nodup_append.2 ⟨h.nd,by simp,fun a ha b hb e=>?_⟩
  simp only[aQ]at hb
  obtain⟨j,g1,g2⟩:=h.lt a ha
  rw[e,hb]at g2
  have:=BU g2
  omega
theorem uH{to:List Nm}(hn:to.Nodup){u:Nat}(hu:u<to.length):bO (gj to u) to to.length=some u:=by
 have hm:gj to u∈to:=by
  unfold gj
  have:to.length-1-u<to.length:=by omega
  simp[aa,this]
 cases q:bO (gj to u) to to.length with
 |none=>exact absurd hm ((fC _ _).1 q)
 |
  some v =>
  obtain⟨h1,h2⟩:=fK _ _ (au _) q
  unfold gj at h2
  have e1:to.length-1-v<to.length:=by omega
  have e2:to.length-1-u<to.length:=by omega
  rw[aa,aa,bo e1,bo e2]at h2
  have hp:=List.pairwise_iff_getElem.1 hn
  have h3:to[to.length-1-v]=to[to.length-1-u]:=by simpa using h2
  rcases Nat.lt_trichotomy (to.length-1-v) (to.length-1-u)with hl|he|hl
  ·exact absurd h3 (hp _ _ e1 e2 hl)
  ·congr 1;omega
  ·exact absurd h3.symm (hp _ _ e2 e1 hl)
theorem kE(F:List Nm):∀(t:Ty) (to:List Nm) (k:Nat),Gn F to k->jy t to.length->(∀y,bj y t=true->y∈F/\qU y) ->
 Wf (gZ F t to k).1/\cS (gZ F t to k).1 to=t/\k<=(gZ F t to k).2/\(gZ F t to k).2<=k+(F.length+1)*t.atoms/\tV (·∉F) (gZ F t to k).1
 | .zero,to,k,_,_,_=>⟨.atom (by simp),rfl,au _,da _ _,trivial⟩
 | .one,to,k,_,_,_=>⟨.atom (by simp),rfl,au _,da _ _,trivial⟩
 |
  .name s,to,k,g,hl,hn=>by
  obtain⟨h1,h2⟩:=hn s (by simp[bj])
  exact⟨.atom h2.1,jb h2 (fun h=>g.out s h h1),au _,da _ _,trivial⟩
 |
  .bound u,to,k,g,hl,hn=>by
  have hm:gj to u∈to:=by
   unfold gj
   have:to.length-1-u<to.length:=by have:u<to.length:=hl;omega
   simp[aa,this]
  obtain⟨j,_,e⟩:=g.lt _ hm
  have hok:qU (gj to u):=by rw[e];exact yQ j
  refine⟨.atom hok.1,?_,au _,da _ _,trivial⟩
  simp only[gZ,cS]
  rw[if_neg hok.2.1,if_neg hok.2.2,uH g.nd hl]
 |
  .plus a b,to,k,g,hl,hn=>by
  obtain⟨a1,a2,a3,a4,a5⟩:=kE F a to k g hl.1 fun y hy=>hn y (by simp[bj,hy])
  obtain⟨b1,b2,b3,b4,b5⟩:=kE F b to _ (g.mono a3) hl.2 fun y hy=>hn y (by simp[bj,hy])
  simp only[gZ,dM,a2,b2,pg,Ty.atoms]
  refine⟨.plus a1 b1,trivial,by omega,?_,a5,b5⟩
  have:(F.length+1)*(1+a.atoms+b.atoms)=(F.length+1)+(F.length+1)*a.atoms+(F.length+1)*b.atoms:=by simp only[cU,dH]
  omega
 |
  .times a b,to,k,g,hl,hn=>by
  obtain⟨a1,a2,a3,a4,a5⟩:=kE F a to k g hl.1 fun y hy=>hn y (by simp[bj,hy])
  obtain⟨b1,b2,b3,b4,b5⟩:=kE F b to _ (g.mono a3) hl.2 fun y hy=>hn y (by simp[bj,hy])
  simp only[gZ,dw,a2,b2,nk,Ty.atoms]
  refine⟨.times a1 b1,trivial,by omega,?_,a5,b5⟩
  have:(F.length+1)*(1+a.atoms+b.atoms)=(F.length+1)+(F.length+1)*a.atoms+(F.length+1)*b.atoms:=by simp only[cU,dH]
  omega
 |
  .rc a,to,k,g,hl,hn=>by
  obtain⟨h1,h2,h3,h4⟩:=gB F k
  obtain⟨a1,a2,a3,a4,a5⟩:=kE F a (to++[tN (nx F k)]) (nx F k+1) g.push (by rw[aq];exact hl) hn
  simp only[gZ,fk,dS,a2,uK,Ty.atoms]
  refine⟨.rc (yQ _) a1,trivial,by omega,?_,h4,a5⟩
  have:(F.length+1)*(2+a.atoms)=(F.length+1)*2+(F.length+1)*a.atoms:=by simp only[cU]
  omega
end Go.Proofs.Trees
namespace Go.Proofs.Trees
open Go Go.VL Go.RowKit
inductive kD:AV->List Nat->Prop
 |nil:kD iq []
 |cons {m:Nat} {cs:List AV} {e:AV} {ids:List Nat} (hm:m∉ids) (h:kD e ids):kD (.ptr [.pid m cs,e]) (m::ids)
theorem kD.has{a:AV}{ids:List Nat}(h:kD a ids):LK.has .ptr a:=by
 cases h
 ·exact(jg).mpr trivial
 ·exact(cg _).mpr trivial
theorem kD.S1{M:Mem}{a:AV}{ids:List Nat}(h:kD a ids):∀{v:Value},bE M dy a v->∀b,b∈ids->M.p b:=by
 induction h with
 |nil=>intro v _ b hb;cases hb
 |
  @cons m cs e ids hm h ih =>
  intro v hr b hb
  cases hr with
  |
   ptr _ _ _ off us hc hr =>
   have h0:=hr 0 (by simp)
   have h1:=hr 1 (by simp)
   simp only[bq,List.getD_cons_succ]at h0 h1
   rcases aJ.1 hb with rfl|hb
   ·generalize us 0=u0 at h0
    cases h0 with
    |pid _ _ _ us hp _ _=>exact hp
   ·exact ih h1 b hb
theorem kD.nodup{a:AV}{ids:List Nat}(h:kD a ids):ids.Nodup:=by
 induction h with
 |nil=>simp
 |cons hm h ih=>exact List.nodup_cons.2 ⟨hm,ih⟩
theorem zQ(a b:AV)(S:Nat->Prop)(R:AV->Prop):BB Js cfg ew (cz ew) [.agg [.x a,.x b]] S (fun o=>aI o 7) R =
 .ai (LK.has .ptr a/\a.isNil=false) (.ai (LK.has .ptr a/\a.isNil=false) (.ai (LK.has .ptr ((a.deref.drop 3).headD .any)/\1<=(a.deref.drop 3).length)
  (.ai (∀ids:Nat->Nat,(∀o,¬S (ids o))->(True/\R (.cI [.agg [(a.deref.drop 3).headD .any,.ptr [.pid (ids 7) [a,b],b]],.pid (ids 7) [a,b]]))) (.done 0 [] [])))):=by kernel_rfl
def Cf(t:Ty)(ea:AV)(ids:List Nat):AV->List Ob->Prop:=fun r o=>(∃m,m∉ids/\r=.cI [.agg [t.av,.ptr [.pid m [(Ty.rc t).av,ea],ea]],.pid m [(Ty.rc t).av,ea]])/\o=[]
theorem Cf.ne(t:Ty)(ea:AV)(ids:List Nat):∃r o,Cf t ea ids r o:=by
 have:∃m,m∉ids:=⟨ids.foldr max 0+1,fun h=>by
  have key:∀(l:List Nat) (x:Nat),x∈l->x<=l.foldr max 0:=by
   intro l
   induction l with
   |nil=>intro x hx;cases hx
   |
    cons y l ih =>
    intro x hx
    rcases aJ.1 hx with rfl|hx
    ·simp only[List.foldr_cons];omega
    ·have:=ih x hx;simp only[List.foldr_cons];omega
  have:=key _ _ h
  omega⟩
 obtain⟨m,hm⟩:=this
 exact⟨_,_,⟨m,hm,rfl⟩,rfl⟩
theorem DF(t:Ty)(ea:AV)(ids:List Nat)(he:kD ea ids):an Tryz.prog 77 [.agg [(Ty.rc t).av,ea]] [] (Cf t ea ids):=by
 have hup:xw [.agg [(Ty.rc t).av,ea]] [.agg [.x (Ty.rc t).av,.x ea]]:=ah (cf (ah (bC ((aF _).mpr trivial)) (ah (bC he.has) aC))) aC
 refine an.up hup ?_
 refine an.S9 (cfg:=cfg) (F:=ew) (S:=fun b=>b∈ids) (sel:=fun o=>aI o 7) ue mixed (by kernel_rfl) (by kernel_rfl) (c:=cz ew) (by kernel_rfl) (by kernel_rfl) (fun M β vs hr b hb=>?_) ?_
 ·have h0:=hr 0 (by simp)
  simp only[bq]at h0
  obtain⟨us,_,hl,hq,_⟩:=ga h0
  have h1:=hq 1 (by simp at hl |-)
  simp only[List.getD_cons_succ,bq]at h1
  cases h1 with
  |x _ _ _ _ h=>exact he.S1 h b hb
 ·rw[zQ]
  simp only[Ty.av,↓zq,zs,ae,aF]
  exact⟨by omega,fun ids' hf=>⟨ids' 7,hf 7,rfl⟩⟩
theorem Ll(u:Nat)(hu:u<1000000):∀(k i:Nat) (ea:AV) (ids:List Nat),i+k=u->kD ea ids->k<=ids.length->Ef [ea,.v (.int .i64 (u:Int)),.v (.int .i64 (i:Int))] [] (fun t ys o=>t=1/\∃e',kD e' (ids.drop k)/\ys=[e']/\o=[])
 |
  0,i,ea,ids,hi,he,hk=>by
  refine DM _ _ _ ?_
  have:i=u:=by omega
  subst this
  simp only[Bw,↓zq,zs,ae]
  exact⟨he.has,fun h=>by omega,fun _=>⟨ea,he,rfl⟩⟩
 |
  k+1,i,ea,ids,hi,he,hk=>by
  refine DM _ _ _ ?_
  cases he with
  |nil=>simp at hk
  |
   @cons m cs e ids' hm h =>
   simp only[Bw,↓zq,zs,ae,h.has]
   refine⟨fun _=>⟨by omega,?_⟩,fun h=>by omega⟩
   rw[bA i (by omega)]
   exact Ll u hu k (i+1) e ids' (by omega) h (by simpa using hk)
theorem SA(u:Nat)(ea:AV)(ids:List Nat)(he:kD ea ids)(hu:u<ids.length)(hl:ids.length<1000000):an Tryz.prog 141 [.agg [(Ty.bound u).av,ea]] [] (fun r o=>(∃cs,r=.pid (ids.getD u 0) cs)/\o=[]):=by
 refine NV _ _ ((aF _).mpr trivial) he.has ?_
 simp only[F0,Ty.av,↓zq,zs,ae,he.has]
 refine⟨by omega,kX (Ll u (by omega) u 0 ea ids (by omega) he (by omega)) ?_ (fun ys o h=>by cases h.1)⟩
 rintro ys o ⟨_,e',he',rfl,rfl⟩
 have hd:ids.drop u=ids.getD u 0::ids.drop (u+1):=by
  rw[aT hu];simp[aa,hu]
 rw[hd]at he'
 cases he' with
 |
  @cons m cs e ids' hm h =>
  have hp:LK.has .ptr (AV.pid (ids.getD u 0) cs):=.inr (.inr ⟨_,_,rfl⟩)
  simp only[↓zq,zs,ae,hp]
  exact⟨by omega,cs,rfl⟩
inductive Av:Tg->List Nat->List UInt8->AV->Prop
 |nm (s:List UInt8) (ids:List Nat):Av (.nm s) ids s iq
 |bd {k:Nat} {ids:List Nat} (hk:k<ids.length) (cs:List AV) (s:List UInt8):Av (.bd k) ids s (.pid (ids.getD k 0) cs)
theorem Av.has{tg:Tg}{ids:List Nat}{s:List UInt8}{fr:AV}(h:Av tg ids s fr):LK.has .ptr fr:=by
 cases h
 ·exact(jg).mpr trivial
 ·exact .inr (.inr ⟨_,_,rfl⟩)
theorem Av.push{tg:Tg}{ids:List Nat}{s:List UInt8}{fr:AV}(h:Av tg ids s fr)(m:Nat):Av tg.up (m::ids) s fr:=by
 cases h with
 |nm=>exact .nm _ _
 |
  @bd k _ hk cs =>
  have:=Av.bd (k:=k+1) (ids:=m::ids) (by simpa using hk) cs s
  simpa[Tg.up]using this
theorem Ak{ids:List Nat}(h:ids.Nodup){i j:Nat}(hi:i<ids.length)(hj:j<ids.length)(he:ids.getD i 0=ids.getD j 0):i=j:=by
 have e1:ids.getD i 0=ids[i]:=by simp[aa,hi]
 have e2:ids.getD j 0=ids[j]:=by simp[aa,hj]
 rw[e1,e2]at he
 have hp:=List.pairwise_iff_getElem.1 h
 rcases Nat.lt_trichotomy i j with hlt|rfl|hlt
 ·exact absurd he (hp i j hi hj hlt)
 ·rfl
 ·exact absurd he.symm (hp j i hj hi hlt)
theorem Si(t:Ty)(tg:Tg)(ea:AV)(ids:List Nat)(s:List UInt8)(fr:AV)(he:kD ea ids)(ht:Av tg ids s fr)(hu:∀u,t=.bound u->u<ids.length)(hl:ids.length<1000000) :
 an Tryz.prog 110 [.agg [.v (.string (mk s)),fr],.agg [t.av,ea]] [] (bJ (.v (.bool (eD t tg)))):=by
 refine RN _ _ _ _ ht.has ((aF _).mpr trivial) he.has ?_
 cases ht with
 |
  nm s =>
  cases t<;>simp[DA,Ty.av,↓zq,zs,ae,zt,bJ,eD]
  rw[cx];simp
 |
  @bd k _ hk cs s =>
  generalize hm0:ids.getD k 0=m0
  have hp:LK.has .ptr (AV.pid m0 cs):=.inr (.inr ⟨_,_,rfl⟩)
  have hn:(AV.pid m0 cs).isNil=false:=rfl
  cases t with
  |
   bound u =>
   have hu:=hu u rfl
   simp only[DA,Ty.av,↓zq,zs,ae,hp,hn]
   refine⟨fun _=>⟨by omega,fun _=>?_,fun h=>absurd rfl h⟩,fun h=>by cases h⟩
   have hb:=SA u ea ids he hu hl
   simp only[Ty.av]at hb
   refine aP hb ⟨_,_,⟨[],rfl⟩,rfl⟩ ?_
   rintro r o ⟨⟨cs',rfl⟩,rfl⟩
   have hp':LK.has .ptr (AV.pid (ids.getD u 0) cs'):=.inr (.inr ⟨_,_,rfl⟩)
   simp only[↓zq,zs,ae,hp',AV.rK,AV.Cn,bJ,eD]
   congr 2
   rw[cx,Nat.beq_eq,decide_eq_true_eq,<-hm0]
   exact⟨fun h=>Ak he.nodup hu hk h,fun h=>by rw[h]⟩
  |_=>simp[DA,Ty.av,↓zq,zs,ae,hp,hn,bJ,eD]
end Go.Proofs.Trees
namespace Go.Proofs.Trees
open Go Go.VL Go.RowKit
theorem zF(b:Int)(a:AV)(h:LK.ptr.has a):an Tryz.prog 78 [.v (.int .u8 b),a] [] (bJ (.ptr [.v (.int .u8 b),.v (.string (mk [])),a,iq])):=by
 refine Px _ _ h ?_
 simp[Ny,↓zq,zs,ae,bJ]
end Go.Proofs.Trees
namespace Go.Proofs.Trees
open Go Go.VL Go.RowKit
def ij(l:List Hl):List (List AV):=l.map fun h=>[h.1.cB,h.2.cB]
theorem en(l:List Hl):(ij l).length=l.length:=by simp[ij]
theorem lM{l:List Hl}{i:Nat}(hi:i<l.length):(ij l).getD i []=[(l[i]).1.cB,(l[i]).2.cB]:=by simp[ij,aa,hi]
theorem od(out:List Hl)(a b:Vl):ij out++[[a.cB,b.cB]]=ij (out++[(a,b)]):=by simp[ij]
theorem gr(g:Vl->Vl)(l:List Hl){i:Nat}(hi:i<l.length):iF g (l.drop i)=(g (l[i]).1,(l[i]).2)::iF g (l.drop (i+1)):=by
 rw[aT hi];rfl
theorem fS(g:Vl->Vl)(l:List Hl):(iF g l).length=l.length:=by simp[iF]
theorem BE(a b:AV):cF 2 [[a,b]]:=fun c hc=>by simp at hc;rw[hc];rfl
theorem K1(x0:AV)(hx0:LK.ptr.has x0)(g:Vl->Vl)(hg:∀c:Vl,an Tryz.prog 112 [c.cB,.ref 0 0] [.cells [x0]] (dh (g c).cB [.cells [x0]]))(l:List Hl):∀(k i:Nat) (out:List Hl),i+k=l.length->out.length+k<=1000000->l.length<=1000000 ->
 Hy [.sl (ij l),.v (.int .i64 (l.length:Int)),.v (.int .i64 (i:Int))] [.cells [x0],.cells [.any],.vec 2 (ij out)] (ib 1 [] [.cells [x0],.cells [.any],.vec 2 (ij (out++iF g (l.drop i)))])
 |
  0,i,out,hi,ho,hl=>by
  refine MH _ _ _ _ _ ?_
  have:i=l.length:=by omega
  subst this
  simp only[IA,↓zq,zs,ae,en,hx0]
  exact⟨fun h=>by omega,fun _=>by simp[ib,iF]⟩
 |
  k+1,i,out,hi,ho,hl=>by
  have hlt:i<l.length:=by omega
  refine MH _ _ _ _ _ ?_
  simp only[IA,↓zq,zs,ae,zt,en,lM hlt,aN,bD,hx0]
  refine⟨fun _=>⟨by omega,by omega,?_⟩,fun h=>by omega⟩
  refine aW (hg _) ?_
  simp only[↓zq,zs,ae,aN,aL,bJ,dh,hx0]
  refine⟨⟨BE _ _,by omega⟩,?_⟩
  rw[bA i (by omega)]
  have:=K1 x0 hx0 g hg l k (i+1) (out++[(g (l[i]).1,(l[i]).2)]) (by omega) (by simp;omega) hl
  rw[a6]at this
  rw[gr g l hlt,od]
  exact this
theorem OK(x0:AV)(hx0:LK.ptr.has x0)(g:Vl->Vl)(hg:∀c:Vl,an Tryz.prog 112 [c.cB,.ref 0 0] [.cells [x0]] (dh (g c).cB [.cells [x0]]))(l out:List Hl)(hl:out.length+l.length<=1000000) :
 an Tryz.prog 111 [.sl (ij l),.fn 112 [.ref 0 0],.ref 1 0] [.cells [x0],.cells [.vec 2],.vec 2 (ij out)] (dh .any [.cells [x0],.cells [.vec 2],.vec 2 (ij (out++iF g l))]):=by
 refine QY _ _ _ ((cc _).mpr trivial) hx0 ?_
 simp only[Mw,↓zq,zs,ae,en]
 have h:=K1 x0 hx0 g hg l l.length 0 out (by omega) (by omega) (by omega)
 rw[bc]at h
 refine cD h ?_
 simp[↓zq,zs,ae,dh,aL,hx0]
theorem Nu(x0:AV)(hx0:LK.ptr.has x0)(g:Vl->Vl)(hg:∀c:Vl,an Tryz.prog 113 [c.cB,.ref 0 0] [.cells [x0]] (dh (g c).cB [.cells [x0]]))(l:List Hl):∀(k i:Nat) (out:List Hl),i+k=l.length->out.length+k<=1000000->l.length<=1000000 ->
 G1 [.sl (ij l),.v (.int .i64 (l.length:Int)),.v (.int .i64 (i:Int))] [.cells [x0],.cells [.any],.vec 2 (ij out)] (ib 1 [] [.cells [x0],.cells [.any],.vec 2 (ij (out++iF g (l.drop i)))])
 |
  0,i,out,hi,ho,hl=>by
  refine OC _ _ _ _ _ ?_
  have:i=l.length:=by omega
  subst this
  simp only[Hn,↓zq,zs,ae,en,hx0]
  exact⟨fun h=>by omega,fun _=>by simp[ib,iF]⟩
 |
  k+1,i,out,hi,ho,hl=>by
  have hlt:i<l.length:=by omega
  refine OC _ _ _ _ _ ?_
  simp only[Hn,↓zq,zs,ae,zt,en,lM hlt,aN,bD,hx0]
  refine⟨fun _=>⟨by omega,by omega,?_⟩,fun h=>by omega⟩
  refine aW (hg _) ?_
  simp only[↓zq,zs,ae,aN,aL,bJ,dh,hx0]
  refine⟨⟨BE _ _,by omega⟩,?_⟩
  rw[bA i (by omega)]
  have:=Nu x0 hx0 g hg l k (i+1) (out++[(g (l[i]).1,(l[i]).2)]) (by omega) (by simp;omega) hl
  rw[a6]at this
  rw[gr g l hlt,od]
  exact this
theorem QH(x0:AV)(hx0:LK.ptr.has x0)(g:Vl->Vl)(hg:∀c:Vl,an Tryz.prog 113 [c.cB,.ref 0 0] [.cells [x0]] (dh (g c).cB [.cells [x0]]))(l out:List Hl)(hl:out.length+l.length<=1000000) :
 an Tryz.prog 111 [.sl (ij l),.fn 113 [.ref 0 0],.ref 1 0] [.cells [x0],.cells [.vec 2],.vec 2 (ij out)] (dh .any [.cells [x0],.cells [.vec 2],.vec 2 (ij (out++iF g l))]):=by
 refine R8 _ _ _ ((cc _).mpr trivial) hx0 ?_
 simp only[Mu,↓zq,zs,ae,en]
 have h:=Nu x0 hx0 g hg l l.length 0 out (by omega) (by omega) (by omega)
 rw[bc]at h
 refine cD h ?_
 simp[↓zq,zs,ae,dh,aL,hx0]
theorem L4(x0:AV)(hx0:LK.ptr.has x0)(g:Vl->Vl)(hg:∀c:Vl,an Tryz.prog 114 [c.cB,.ref 0 0] [.cells [x0]] (dh (g c).cB [.cells [x0]]))(l:List Hl):∀(k i:Nat) (out:List Hl),i+k=l.length->out.length+k<=1000000->l.length<=1000000 ->
 ID [.sl (ij l),.v (.int .i64 (l.length:Int)),.v (.int .i64 (i:Int))] [.cells [x0],.cells [.any],.vec 2 (ij out)] (ib 1 [] [.cells [x0],.cells [.any],.vec 2 (ij (out++iF g (l.drop i)))])
 |
  0,i,out,hi,ho,hl=>by
  refine Le _ _ _ _ _ ?_
  have:i=l.length:=by omega
  subst this
  simp only[Gg,↓zq,zs,ae,en,hx0]
  exact⟨fun h=>by omega,fun _=>by simp[ib,iF]⟩
 |
  k+1,i,out,hi,ho,hl=>by
  have hlt:i<l.length:=by omega
  refine Le _ _ _ _ _ ?_
  simp only[Gg,↓zq,zs,ae,zt,en,lM hlt,aN,bD,hx0]
  refine⟨fun _=>⟨by omega,by omega,?_⟩,fun h=>by omega⟩
  refine aW (hg _) ?_
  simp only[↓zq,zs,ae,aN,aL,bJ,dh,hx0]
  refine⟨⟨BE _ _,by omega⟩,?_⟩
  rw[bA i (by omega)]
  have:=L4 x0 hx0 g hg l k (i+1) (out++[(g (l[i]).1,(l[i]).2)]) (by omega) (by simp;omega) hl
  rw[a6]at this
  rw[gr g l hlt,od]
  exact this
theorem QU(x0:AV)(hx0:LK.ptr.has x0)(g:Vl->Vl)(hg:∀c:Vl,an Tryz.prog 114 [c.cB,.ref 0 0] [.cells [x0]] (dh (g c).cB [.cells [x0]]))(l out:List Hl)(hl:out.length+l.length<=1000000) :
 an Tryz.prog 111 [.sl (ij l),.fn 114 [.ref 0 0],.ref 1 0] [.cells [x0],.cells [.vec 2],.vec 2 (ij out)] (dh .any [.cells [x0],.cells [.vec 2],.vec 2 (ij (out++iF g l))]):=by
 refine Rh _ _ _ ((cc _).mpr trivial) hx0 ?_
 simp only[OO,↓zq,zs,ae,en]
 have h:=L4 x0 hx0 g hg l l.length 0 out (by omega) (by omega) (by omega)
 rw[bc]at h
 refine cD h ?_
 simp[↓zq,zs,ae,dh,aL,hx0]
theorem M4(g:Vl->Vl)(hg:∀c:Vl,an Tryz.prog 115 [c.cB] [] (bJ (g c).cB))(l:List Hl):∀(k i:Nat) (out:List Hl),i+k=l.length->out.length+k<=1000000->l.length<=1000000 ->
 IE [.v (.func (.func 115) #[] #[]),.sl (ij l),.v (.int .i64 (l.length:Int)),.v (.int .i64 (i:Int))] [.cells [.any],.vec 2 (ij out)] (ib 1 [] [.cells [.any],.vec 2 (ij (out++iF g (l.drop i)))])
 |
  0,i,out,hi,ho,hl=>by
  refine JF _ _ _ _ ?_
  have:i=l.length:=by omega
  subst this
  simp only[Ih,↓zq,zs,ae,en]
  exact⟨fun h=>by omega,fun _=>by simp[ib,iF]⟩
 |
  k+1,i,out,hi,ho,hl=>by
  have hlt:i<l.length:=by omega
  refine JF _ _ _ _ ?_
  simp only[Ih,↓zq,zs,ae,zt,en,lM hlt,aN,bD]
  refine⟨fun _=>⟨by omega,by omega,?_⟩,fun h=>by omega⟩
  refine aj (hg _) ?_
  simp only[↓zq,zs,ae,aN,aL,bJ,dh]
  refine⟨⟨BE _ _,by omega⟩,?_⟩
  rw[bA i (by omega)]
  have:=M4 g hg l k (i+1) (out++[(g (l[i]).1,(l[i]).2)]) (by omega) (by simp;omega) hl
  rw[a6]at this
  rw[gr g l hlt,od]
  exact this
theorem Sb(g:Vl->Vl)(hg:∀c:Vl,an Tryz.prog 115 [c.cB] [] (bJ (g c).cB))(l out:List Hl)(hl:out.length+l.length<=1000000) :
 an Tryz.prog 111 [.sl (ij l),.v (.func (.func 115) #[] #[]),.ref 0 0] [.cells [.vec 1],.vec 2 (ij out)] (dh .any [.cells [.vec 1],.vec 2 (ij (out++iF g l))]):=by
 refine RP _ _ ((cc _).mpr trivial) ?_
 simp only[N5,↓zq,zs,ae,en]
 have h:=M4 g hg l l.length 0 out (by omega) (by omega) (by omega)
 rw[bc]at h
 refine cD h ?_
 simp[↓zq,zs,ae,dh,aL]
theorem Nc(x0:AV)(x1:AV)(hx0:LK.ptr.has x0)(hx1:LK.ptr.has x1)(g:Vl->Vl)(hg:∀c:Vl,an Tryz.prog 116 [c.cB,.ref 0 0] [.cells [x0,x1]] (dh (g c).cB [.cells [x0,x1]]))(l:List Hl):∀(k i:Nat) (out:List Hl),i+k=l.length->out.length+k<=1000000->l.length<=1000000 ->
 HR [.sl (ij l),.v (.int .i64 (l.length:Int)),.v (.int .i64 (i:Int))] [.cells [x0,x1],.cells [.any],.vec 2 (ij out)] (ib 1 [] [.cells [x0,x1],.cells [.any],.vec 2 (ij (out++iF g (l.drop i)))])
 |
  0,i,out,hi,ho,hl=>by
  refine MQ _ _ _ _ _ _ ?_
  have:i=l.length:=by omega
  subst this
  simp only[G5,↓zq,zs,ae,en,hx0,hx1]
  exact⟨fun h=>by omega,fun _=>by simp[ib,iF]⟩
 |
  k+1,i,out,hi,ho,hl=>by
  have hlt:i<l.length:=by omega
  refine MQ _ _ _ _ _ _ ?_
  simp only[G5,↓zq,zs,ae,zt,en,lM hlt,aN,bD,hx0,hx1]
  refine⟨fun _=>⟨by omega,by omega,?_⟩,fun h=>by omega⟩
  refine aW (hg _) ?_
  simp only[↓zq,zs,ae,aN,aL,bJ,dh,hx0,hx1]
  refine⟨⟨BE _ _,by omega⟩,?_⟩
  rw[bA i (by omega)]
  have:=Nc x0 x1 hx0 hx1 g hg l k (i+1) (out++[(g (l[i]).1,(l[i]).2)]) (by omega) (by simp;omega) hl
  rw[a6]at this
  rw[gr g l hlt,od]
  exact this
theorem Pp(x0:AV)(x1:AV)(hx0:LK.ptr.has x0)(hx1:LK.ptr.has x1)(g:Vl->Vl)(hg:∀c:Vl,an Tryz.prog 116 [c.cB,.ref 0 0] [.cells [x0,x1]] (dh (g c).cB [.cells [x0,x1]]))(l out:List Hl)(hl:out.length+l.length<=1000000) :
 an Tryz.prog 111 [.sl (ij l),.fn 116 [.ref 0 0],.ref 1 0] [.cells [x0,x1],.cells [.vec 2],.vec 2 (ij out)] (dh .any [.cells [x0,x1],.cells [.vec 2],.vec 2 (ij (out++iF g l))]):=by
 refine Rz _ _ _ _ ((cc _).mpr trivial) hx0 hx1 ?_
 simp only[ME,↓zq,zs,ae,en]
 have h:=Nc x0 x1 hx0 hx1 g hg l l.length 0 out (by omega) (by omega) (by omega)
 rw[bc]at h
 refine cD h ?_
 simp[↓zq,zs,ae,dh,aL,hx0,hx1]
theorem P7(w c:Vl):an Tryz.prog 112 [c.cB,.ref 0 0] [.cells [(Vl.l w).cB]] (dh (Vl.l c).cB [.cells [(Vl.l w).cB]]):=by
 refine Lk _ _ ((aN _).mpr trivial) ((aN _).mpr trivial) ?_
 simp only[H2,Vl.cB,↓zq,zs,ae,aN]
 refine⟨by omega,?_⟩
 refine aj (zF _ _ ((aN _).mpr trivial)) ?_
 simp[↓zq,zs,ae,dh,Vl.cB]
theorem SJ(w c:Vl):an Tryz.prog 112 [c.cB,.ref 0 0] [.cells [(Vl.r w).cB]] (dh (Vl.r c).cB [.cells [(Vl.r w).cB]]):=by
 refine Lk _ _ ((aN _).mpr trivial) ((aN _).mpr trivial) ?_
 simp only[H2,Vl.cB,↓zq,zs,ae,aN]
 refine⟨by omega,?_⟩
 refine aj (zF _ _ ((aN _).mpr trivial)) ?_
 simp[↓zq,zs,ae,dh,Vl.cB]
theorem Rg(x y c:Vl):an Tryz.prog 113 [c.cB,.ref 0 0] [.cells [(Vl.p x y).cB]] (dh (Vl.l (.p c y)).cB [.cells [(Vl.p x y).cB]]):=by
 refine Qh _ _ ((aN _).mpr trivial) ((aN _).mpr trivial) ?_
 simp only[Jr,Vl.cB,↓zq,zs,ae,aN]
 refine⟨by omega,?_⟩
 refine aj (zx _ _ ((aN _).mpr trivial) ((aN _).mpr trivial)) ?_
 simp only[↓zq,zs,ae]
 refine aj (zF _ _ ((cg _).mpr trivial)) ?_
 simp[↓zq,zs,ae,dh,Vl.cB]
theorem QQ(x y c:Vl):an Tryz.prog 114 [c.cB,.ref 0 0] [.cells [(Vl.p x y).cB]] (dh (Vl.r (.p x c)).cB [.cells [(Vl.p x y).cB]]):=by
 refine Q9 _ _ ((aN _).mpr trivial) ((aN _).mpr trivial) ?_
 simp only[JA,Vl.cB,↓zq,zs,ae,aN]
 refine⟨by omega,?_⟩
 refine aj (zx _ _ ((aN _).mpr trivial) ((aN _).mpr trivial)) ?_
 simp only[↓zq,zs,ae]
 refine aj (zF _ _ ((cg _).mpr trivial)) ?_
 simp[↓zq,zs,ae,dh,Vl.cB]
theorem Ss(kc kv c:Vl):an Tryz.prog 116 [c.cB,.ref 0 0] [.cells [kc.cB,kv.cB]] (dh (Vl.f (.r (.p kc c))).cB [.cells [kc.cB,kv.cB]]):=by
 refine RA _ _ _ ((aN _).mpr trivial) ((aN _).mpr trivial) ((aN _).mpr trivial) ?_
 simp only[ND,Vl.cB,↓zq,zs,ae,aN]
 refine aj (zx _ _ ((aN _).mpr trivial) ((aN _).mpr trivial)) ?_
 simp only[↓zq,zs,ae]
 refine aj (zF _ _ ((cg _).mpr trivial)) ?_
 simp only[↓zq,zs,ae]
 refine aj (zF _ _ ((cg _).mpr trivial)) ?_
 simp[↓zq,zs,ae,dh,Vl.cB,aN]
theorem Qp(c:Vl):an Tryz.prog 115 [c.cB] [] (bJ (Vl.f (.l c)).cB):=by
 refine PU _ ((aN _).mpr trivial) ?_
 simp only[K8,↓zq,zs,ae]
 refine aj (zF _ _ ((aN _).mpr trivial)) ?_
 simp only[↓zq,zs,ae]
 refine aj (zF _ _ ((cg _).mpr trivial)) ?_
 simp[↓zq,zs,ae,bJ,Vl.cB]
end Go.Proofs.Trees
namespace Go.Proofs.Trees
open Go Go.VL Go.RowKit
abbrev Ay(a:Ty)(tg:Tg):Hl->List Hl:=fun h=>iF (fun c=>.f (.r (.p h.1 c))) (cn (.rc a) tg h.2)
theorem BL(l:List Hl){i:Nat}(hi:i<l.length):l[i]∈l:=bH _
def Hp(t:Ty)(ea:AV)(s:List UInt8)(fr:AV)(tg:Tg)(v:Vl):Prop:=an Tryz.prog 80 [.agg [t.av,ea],v.cB,.agg [.v (.string (mk s)),fr]] [] (bJ (.sl (ij (cn t tg v))))
theorem Jf(a:Ty)(ea:AV)(s:List UInt8)(fr:AV)(tg:Tg)(he:LK.ptr.has ea)(hf:LK.ptr.has fr)(l:List Hl)(hl:l.length<=1000000)(ih:∀h,h∈l->Hp (.rc a) ea s fr tg h.2) :
 ∀(k i:Nat) (out:List Hl),i+k=l.length->(out++(l.drop i).flatMap (Ay a tg)).length<=1000000 ->
 Fu [.sl (ij l),.v (.int .i64 (l.length:Int)),.v (.int .i64 (i:Int))] [.cells [(Ty.rc a).av,ea],.cells [.v (.string (mk s)),fr],.cells [.any],.vec 2 (ij out)] (ib 1 [] [.cells [.any],.vec 2 (ij (out++(l.drop i).flatMap (Ay a tg)))])
 |
  0,i,out,hi,ho=>by
  refine MA _ _ _ _ _ _ _ _ ?_
  have:i=l.length:=by omega
  subst this
  simp only[F4,↓zq,zs,ae,en,aF,he,hf]
  exact⟨fun h=>by omega,fun _=>by simp[ib]⟩
 |
  k+1,i,out,hi,ho=>by
  have hlt:i<l.length:=by omega
  have hd:(l.drop i).flatMap (Ay a tg)=Ay a tg (l[i])++(l.drop (i+1)).flatMap (Ay a tg):=by rw[aT hlt,List.flatMap_cons]
  rw[hd]at ho |-
  refine MA _ _ _ _ _ _ _ _ ?_
  simp only[F4,↓zq,zs,ae,zt,en,lM hlt,aF,aN,bD,he,hf]
  refine⟨fun _=>⟨by omega,by omega,?_⟩,fun h=>by omega⟩
  refine aj (ih _ (BL l hlt)) ?_
  simp only[↓zq,zs,ae]
  have hb:out.length+(cn (.rc a) tg (l[i]).2).length<=1000000:=by
   simp only[aq,fS]at ho;omega
  refine aW (Pp _ _ ((aN _).mpr trivial) ((aN _).mpr trivial) (fun c=>.f (.r (.p (l[i]).1 c))) (fun c=>Ss (l[i]).1 (l[i]).2 c) (cn (.rc a) tg (l[i]).2) out hb) ?_
  simp only[↓zq,zs,ae,aL,aN]
  rw[bA i (by omega),<-a6]
  exact Jf a ea s fr tg he hf l hl ih k (i+1) _ (by omega) (by rw[a6];exact ho)
theorem E0(n:Nat):∀(m:Nat) (v:Vl),v.nodes<=m->∀(e:E) (env:List Fr) (t:Ty),Ask e env t->eY n v (e,env)=true->env.length+v.nodes<100000->∀(ea:AV) (ids:List Nat),kD ea ids->ids.length=env.length->∀(tg:Tg) (s:List UInt8) (fr:AV),Av tg ids s fr->Hp t ea s fr tg v
 |0,v,hm=>by have:=du v;omega
 |
  m+1,v,hm=>by
  intro e env t A hv hl ea ids he hids tg s fr ht
  unfold Hp
  refine Ry _ _ _ _ _ ((aF _).mpr trivial) he.has ((aN _).mpr trivial) ht.has ?_
  unfold Lh
  refine aj (Si t tg ea ids s fr he ht (fun u hu=>by
   rcases gn A.wf A.ty with⟨hb,_⟩|⟨u',g,rfl,_,hg⟩
   ·rw[hu]at hb;cases hb
   ·cases hu;rw[hids];exact(List.getElem?_eq_some_iff.1 hg).1) (by omega)) ?_
  have hlen:=nn t tg v
  cases hat:eD t tg with
  |
   true =>
   rw[mU v hat]
   simp only[↓zq,zs,ae,bJ,ij,bG,List.map_nil,Vl.cB]
   exact⟨fun _=>trivial,fun h=>(by cases h)⟩
  |false =>
  simp only[↓zq,zs,ae]
  refine⟨fun h=>(by cases h),fun _=>?_⟩
  rcases gn A.wf A.ty with⟨hb,hq⟩|⟨u,g,rfl,hq,hu⟩
  ·have hhd:hd e env=(e,env):=ko hq
   rcases fG A.ty hb A.cl with⟨rfl,rfl⟩|⟨rfl,rfl⟩|⟨s,rfl,rfl,hp,h0,h1⟩|⟨x,a,b,t1,t2,rfl,hx,rfl,ha,hbb⟩|⟨x,a,b,t1,t2,rfl,hx,rfl,ha,hbb⟩|⟨x,a,b,t1,rfl,hx,rfl⟩
   ·rw[dR hat (by cases v<;>rfl)]
    simp[Ty.av,↓zq,zs,ae,bJ,ij]
   ·rw[dR hat (by cases v<;>rfl)]
    simp[Ty.av,↓zq,zs,ae,bJ,ij]
   ·rw[dR hat (by cases v<;>rfl)]
    simp[Ty.av,↓zq,zs,ae,bJ,ij]
   ·obtain⟨ok1,ok2,ok3,_⟩:=A.ok
    obtain⟨f1,f2⟩:=fw A.cl
    have hL:=zJ t1.av t2.av ea 43 (mk []) 0 ((aF _).mpr trivial) he.has
    have hR:=zz t1.av t2.av ea 43 (mk []) 0 ((aF _).mpr trivial) he.has
    cases v with
    |
     l w =>
     simp only[eY,hhd,hx,beq_self_eq_true,bX]at hv
     simp only[Vl.nodes]at hm hl hlen
     rw[m9]at hlen |-
     rw[fS]at hlen
     simp only[Ty.av,↓zq,zs,ae]
     refine⟨by omega,fun _=>?_,fun h=>absurd rfl h⟩
     refine aj hL ?_
     simp only[↓zq,zs,ae,bD,aF,he.has,Vl.cB,aN]
     refine⟨by omega,fun h=>by omega,fun _=>⟨by omega,?_⟩⟩
     refine aj (E0 n m w (by omega) a env t1 ⟨ok2,A.wf,ha,f1⟩ hv (by omega) ea ids he hids tg s fr ht) ?_
     simp only[↓zq,zs,ae]
     have hadd:=OK (Vl.l w).cB ((aN _).mpr trivial) Vl.l (fun c=>P7 w c) (cn t1 tg w) [] (by simp;omega)
     simp only[Vl.cB,ij,List.map_nil,aU]at hadd
     refine aW hadd ?_
     simp[↓zq,zs,ae,aL,bJ,aN,ij,cg]
    |
     r w =>
     simp only[eY,hhd,hx,beq_self_eq_true,bX]at hv
     simp only[Vl.nodes]at hm hl hlen
     rw[nr]at hlen |-
     rw[fS]at hlen
     simp only[Ty.av,↓zq,zs,ae]
     refine⟨by omega,fun _=>?_,fun h=>absurd rfl h⟩
     refine aj hL ?_
     simp only[↓zq,zs,ae,bD,aF,he.has,Vl.cB,aN]
     refine⟨by omega,fun _=>?_,fun h=>absurd rfl h⟩
     refine aj hR ?_
     simp only[↓zq,zs,ae,bD,aF,he.has,aN]
     refine⟨by omega,?_⟩
     refine aj (E0 n m w (by omega) b env t2 ⟨ok3,A.wf,hbb,f2⟩ hv (by omega) ea ids he hids tg s fr ht) ?_
     simp only[↓zq,zs,ae]
     have hadd:=OK (Vl.r w).cB ((aN _).mpr trivial) Vl.r (fun c=>SJ w c) (cn t2 tg w) [] (by simp;omega)
     simp only[Vl.cB,ij,List.map_nil,aU]at hadd
     refine aW hadd ?_
     simp[↓zq,zs,ae,aL,bJ,aN,ij,cg]
    |_=>simp[eY,hhd,hx]at hv
   ·obtain⟨ok1,ok2,ok3,_⟩:=A.ok
    obtain⟨f1,f2⟩:=eW A.cl
    have hL:=zJ t1.av t2.av ea 42 (mk []) 0 ((aF _).mpr trivial) he.has
    have hR:=zz t1.av t2.av ea 42 (mk []) 0 ((aF _).mpr trivial) he.has
    cases v with
    |
     p w w' =>
     simp only[eY,hhd,hx,beq_self_eq_true,bX,aw]at hv
     simp only[Vl.nodes]at hm hl hlen
     rw[nj]at hlen |-
     simp only[aq,fS]at hlen
     simp only[Ty.av,↓zq,zs,ae]
     refine⟨by omega,fun h=>by omega,fun _=>⟨fun _=>?_,fun h=>absurd rfl h⟩⟩
     refine aj hL ?_
     simp only[↓zq,zs,ae,bD,aF,he.has,Vl.cB,aN]
     refine⟨by omega,?_⟩
     refine aj (E0 n m w (by omega) a env t1 ⟨ok2,A.wf,ha,f1⟩ hv.1 (by omega) ea ids he hids tg s fr ht) ?_
     simp only[↓zq,zs,ae]
     have hadd:=QH (Vl.p w w').cB ((aN _).mpr trivial) (fun c=>.l (.p c w')) (fun c=>Rg w w' c) (cn t1 tg w) [] (by simp;omega)
     simp only[Vl.cB,ij,List.map_nil,aU]at hadd
     refine aW hadd ?_
     simp only[↓zq,zs,ae,aL,aN]
     refine aj hR ?_
     simp only[↓zq,zs,ae,bD,aF,he.has,aN]
     refine⟨by omega,?_⟩
     refine aj (E0 n m w' (by omega) b env t2 ⟨ok3,A.wf,hbb,f2⟩ hv.2 (by omega) ea ids he hids tg s fr ht) ?_
     simp only[↓zq,zs,ae]
     have hadd2:=QU (Vl.p w w').cB ((aN _).mpr trivial) (fun c=>.r (.p w c)) (fun c=>QQ w w' c) (cn t2 tg w') (iF (fun c=>.l (.p c w')) (cn t1 tg w)) (by rw[fS];omega)
     simp only[Vl.cB,ij]at hadd2
     refine aW hadd2 ?_
     simp[↓zq,zs,ae,aL,bJ,aN,ij,cg]
    |_=>simp[eY,hhd,hx]at hv
   ·obtain⟨t1',he1,h1,f1,hw1⟩:=jq A.wf A.ok hx A.ty A.cl
    cases he1
    obtain⟨ok1,ok2,ok3,_⟩:=A.ok
    have A':Ask b (.mk a.at (.list [x,a,b]) env::env) t1:=⟨ok3,hw1,h1,f1⟩
    cases v with
    |
     f w =>
     simp only[eY,hhd,hx,beq_self_eq_true,bX]at hv
     simp only[Vl.nodes]at hm hl hlen
     rw[mZ]at hlen |-
     simp only[aq,fS]at hlen
     have hin:=DF t1 ea ids he
     simp only[Ty.av]at hin
     simp only[Ty.av,↓zq,zs,ae]
     refine⟨by omega,fun h=>by omega,fun _=>⟨fun h=>by omega,fun _=>⟨fun _=>?_,fun h=>absurd rfl h⟩⟩⟩
     refine aP hin (by have:=Cf.ne t1 ea ids;simpa only[Cf,Ty.av]using this) ?_
     intro r o hr
     obtain⟨⟨mm,hmm,rfl⟩,rfl⟩:=hr
     have he2:kD (.ptr [.pid mm [(Ty.rc t1).av,ea],ea]) (mm::ids):=.cons hmm he
     have hfr:LK.ptr.has (.pid mm [(Ty.rc t1).av,ea]):=.inr (.inr ⟨_,_,rfl⟩)
     simp only[Ty.av]at he2 hfr
     simp only[↓zq,zs,ae,bD,aF,he2.has,hfr,Vl.cB,aN,Ty.av]
     refine⟨by omega,?_⟩
     have i1:=E0 n m w (by omega) b _ t1 A' hv (by simp;omega) _ _ he2 (by simp[hids]) tg.up s fr (ht.push mm)
     unfold Hp at i1
     refine aj i1 ?_
     simp only[↓zq,zs,ae]
     have hadd:=Sb (fun c=>.f (.l c)) (fun c=>Qp c) (cn t1 tg.up w) [] (by simp;omega)
     simp only[Vl.cB,ij,List.map_nil,aU]at hadd
     refine aW hadd ?_
     simp only[↓zq,zs,ae,aL,aN]
     have i2:=E0 n m w (by omega) b _ t1 A' hv (by simp;omega) _ _ he2 (by simp[hids]) (.bd 0) [] _ (by have:=Av.bd (k:=0) (ids:=mm::ids) (by simp) [(Ty.rc t1).av,ea] [];simpa only[bq,Ty.av]using this)
     unfold Hp at i2
     refine⟨by omega,?_⟩
     refine aj i2 ?_
     simp only[↓zq,zs,ae,en]
     have hl2:=nn t1 (.bd 0) w
     have ih3:∀h,h∈cn t1 (.bd 0) w->Hp (.rc t1) ea s fr tg h.2:=fun h hh=>by
      have h3:=(jr hh).1
      have h4:=iA n m w (by omega) b _ t1 A' hv 0 _ rfl h hh
      exact E0 n m h.2 (by omega) (.list [x,a,b]) env (.rc t1) A h4 (by omega) ea ids he hids tg s fr ht
     have hloop:=Jf t1 ea s fr tg he.has ht.has (cn t1 (.bd 0) w) (by omega) ih3 (cn t1 (.bd 0) w).length 0 (iF (fun c=>.f (.l c)) (cn t1 tg.up w)) (by omega) (by
      simp only[bc,aq,fS]
      have hlen2:(cn t1 tg.up w).length+((cn t1 (.bd 0) w).flatMap (Ay t1 tg)).length<=1+w.nodes:=hlen
      omega)
     simp only[Ty.av,ij,bc]at hloop
     refine cD hloop ?_
     simp[↓zq,zs,ae,ae,bJ,ij]
    |_=>simp[eY,hhd,hx]at hv
  ·rw[dR hat (by cases v<;>rfl)]
   simp[Ty.av,↓zq,zs,ae,bJ,ij]
end Go.Proofs.Trees
namespace Go.Proofs.Trees
open Go Go.VL Go.RowKit
theorem E8:∀(v:Vl),v.cC.length<=900000->an Tryz.prog 48 [v.cB] [] (bJ (.v (.string (mk v.cC))))
 | .u,h=>by refine zv _ ((aN _).mpr trivial) ?_;simp[xl,Vl.cB,↓zq,zs,ae,bJ,Vl.cC,Vl.cL,e9]
 | .el k,h=>by refine zv _ ((aN _).mpr trivial) ?_;simp[xl,Vl.cB,↓zq,zs,ae,bJ,Vl.cC,Vl.cL,e9]
 |
  .l v,h=>by
  simp only[Vl.cC,Vl.cL,e9,ei,az,aq,aG]at h
  refine zv _ ((aN _).mpr trivial) ?_
  have hb:(⟨(bytesOf [[.v (.int .u8 108)]]).toArray⟩:ByteArray)=mk [108]:=rfl
  have ha:jC [[.v (.int .u8 108)]]:=kY 108
  simp only[xl,Vl.cB,↓zq,zs,ae,aN,fu,hb]
  refine⟨by omega,fun h=>by omega,fun _=>⟨fun h=>by omega,fun _=>⟨fun h=>by omega,fun _=>⟨by omega,ha,by simp[cM],by rw[k8,cM,cM];simp,by omega,?_⟩⟩⟩⟩
  refine aj (E8 v (by simp only[Vl.cC];omega)) ?_
  simp only[↓zq,zs,ae,zt,bJ,Vl.cC,Vl.cL,e9,ei]
  refine⟨by simp;omega,by simp;omega,by simp⟩
 |
  .r v,h=>by
  simp only[Vl.cC,Vl.cL,e9,ei,az,aq,aG]at h
  refine zv _ ((aN _).mpr trivial) ?_
  have hb:(⟨(bytesOf [[.v (.int .u8 114)]]).toArray⟩:ByteArray)=mk [114]:=rfl
  have ha:jC [[.v (.int .u8 114)]]:=kY 114
  simp only[xl,Vl.cB,↓zq,zs,ae,aN,fu,hb]
  refine⟨by omega,fun h=>by omega,fun _=>⟨fun h=>by omega,fun _=>⟨fun h=>by omega,fun _=>⟨by omega,ha,by simp[cM],by rw[k8,cM,cM];simp,by omega,?_⟩⟩⟩⟩
  refine aj (E8 v (by simp only[Vl.cC];omega)) ?_
  simp only[↓zq,zs,ae,zt,bJ,Vl.cC,Vl.cL,e9,ei]
  refine⟨by simp;omega,by simp;omega,by simp⟩
 |
  .f v,h=>by
  simp only[Vl.cC,Vl.cL,e9,ei,az,aq,aG]at h
  refine zv _ ((aN _).mpr trivial) ?_
  have hb:(⟨(bytesOf [[.v (.int .u8 102)]]).toArray⟩:ByteArray)=mk [102]:=rfl
  have ha:jC [[.v (.int .u8 102)]]:=kY 102
  simp only[xl,Vl.cB,↓zq,zs,ae,aN,fu,hb]
  refine⟨by omega,fun h=>by omega,fun _=>⟨fun h=>by omega,fun _=>⟨fun h=>by omega,fun _=>⟨by omega,ha,by simp[cM],by rw[k8,cM,cM];simp,by omega,?_⟩⟩⟩⟩
  refine aj (E8 v (by simp only[Vl.cC];omega)) ?_
  simp only[↓zq,zs,ae,zt,bJ,Vl.cC,Vl.cL,e9,ei]
  refine⟨by simp;omega,by simp;omega,by simp⟩
 |
  .p a b,h=>by
  simp only[Vl.cC,Vl.cL,e9,ei,az,aq,aG]at h
  refine zv _ ((aN _).mpr trivial) ?_
  simp only[xl,Vl.cB,↓zq,zs,ae,aN,fu]
  refine⟨by omega,fun h=>by omega,fun _=>⟨fun h=>by omega,fun _=>⟨fun _=>⟨by omega,?_⟩,fun h=>absurd rfl h⟩⟩⟩
  refine aj (E8 a (by simp only[Vl.cC];omega)) ?_
  simp only[↓zq,zs,ae,zt,aN,Vl.cC]
  refine⟨by simp;omega,by simp;omega,by omega,?_⟩
  refine aj (E8 b (by simp only[Vl.cC];omega)) ?_
  simp only[↓zq,zs,ae,zt,bJ,Vl.cC,Vl.cL,e9,ei]
  refine⟨by simp;omega,by simp;omega,by simp⟩
def uj:Option (List UInt8)->AV
 |some s=>.cI [.v (.string (mk s)),.v (.bool true)]
 |none=>.cI [.v (.string (mk [])),.v (.bool false)]
end Go.Proofs.Trees
namespace Go.Proofs.Trees
open Go Go.VL Go.RowKit
def back(n:Nat):Ty->Nat->Vl
 | .name _,c=>.el c
 | .plus a b,c=>match IM n a with|some x=>if c<x then .l (back n a c)else .r (back n b (c-x))|none=>.u
 | .times a b,c=>match IM n b with|some y=>.p (back n a (c/y)) (back n b (c%y))|none=>.u
 |_,_=>.u
theorem yk:∀l:List E,cF 2 (E.bw l)
 |[]=>fun c hc=>by cases hc
 |
  e::l=>fun c hc=>by
  simp only[E.bw,aJ]at hc
  rcases hc with rfl|hc
  ·exact gd e
  ·exact yk l c hc
theorem Oi(w:List UInt8)(l:List E)(hl:l.length<1000000):an Tryz.prog 81 [.v (.string (mk w)),.sl (E.bw l)] [] (bJ (E.kG (.list (.atom w::l)))):=by
 refine Lc _ _ ((cc _).mpr trivial) ?_
 simp only[Gy,↓zq,zs,ae,ef,bJ,E.kG,E.ik,E.bw]
 exact⟨⟨yk l,by omega⟩,rfl⟩
end Go.Proofs.Trees
namespace Go.Proofs.Trees
open Go Go.VL Go.RowKit
def mh(l:List Hl):List (List AV):=l.map fun h=>[.v (.string (mk h.1.cL.at)),h.1.cL.sp,.v (.string (mk h.2.cL.at)),h.2.cL.sp]
theorem fA(l:List Hl):(mh l).length=l.length:=by simp[mh]
theorem gA{l:List Hl}{i:Nat}(hi:i<l.length):(mh l).getD i []=[.v (.string (mk (l[i]).1.cL.at)),(l[i]).1.cL.sp,.v (.string (mk (l[i]).2.cL.at)),(l[i]).2.cL.sp]:=by simp[mh,aa,hi]
theorem oI(out:List Hl)(a b:Vl):mh out++[[.v (.string (mk a.cL.at)),a.cL.sp,.v (.string (mk b.cL.at)),b.cL.sp]]=mh (out++[(a,b)]):=by simp[mh]
theorem zG(a b c d:AV):cF 4 [[a,b,c,d]]:=fun x hx=>by simp at hx;rw[hx];rfl
theorem aK(s:ByteArray)(e:E):bD [.str,.sl] [.v (.string s),e.sp] 0=True:=by simp[bD,dW,aX]
theorem kU(s:ByteArray)(e:E)(x y:AV):bD [.str,.sl] [.v (.string s),e.sp,x,y] 0=True:=by simp[bD,dW,aX]
theorem xF(w:List UInt8)(e:E):an Tryz.prog 81 [.v (.string (mk w)),.sl [[.v (.string (mk e.at)),e.sp]]] [] (bJ (.agg [.v (.string (mk [])),(E.list [.atom w,e]).sp])):=by
 have:=Oi w [e] (by simp)
 simpa only[E.bw,fJ,dk,E.at]using this
theorem wJ(w:List UInt8)(e e':E):an Tryz.prog 81 [.v (.string (mk w)),.sl [[.v (.string (mk e.at)),e.sp],[.v (.string (mk e'.at)),e'.sp]]] [] (bJ (.agg [.v (.string (mk [])),(E.list [.atom w,e,e']).sp])):=by
 have:=Oi w [e,e'] (by simp)
 simpa only[E.bw,fJ,dk,E.at]using this
def P3(pv:AV)(a b:E):Prop:=LK.sl.has pv/\pv.elems.length=3/\pv.elems.getD 1 []=[.v (.string (mk a.at)),a.sp]/\pv.elems.getD 2 []=[.v (.string (mk b.at)),b.sp]
theorem P3.of(x a b:E):P3 (E.list [x,a,b]).sp a b:=⟨by simp[E.sp,cc],by simp[E.sp,E.bw,fD],by simp[E.sp,E.bw,fD,fJ],by simp[E.sp,E.bw,fD,fJ]⟩
def P2(pv:AV)(a:E):Prop:=LK.sl.has pv/\pv.elems.length=2/\pv.elems.getD 1 []=[.v (.string (mk a.at)),a.sp]
theorem P2.of(x a:E):P2 (E.list [x,a]).sp a:=⟨by simp[E.sp,cc],by simp[E.sp,E.bw,fD],by simp[E.sp,E.bw,fD,fJ]⟩
end Go.Proofs.Trees
