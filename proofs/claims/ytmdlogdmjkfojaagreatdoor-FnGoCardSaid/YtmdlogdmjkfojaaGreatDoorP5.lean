/-
  Part of a proof: Go functions read by values, trees of functions, their contracts.
-/
import Derived.Test.YtmdlogdmjkfojaaGreatDoorP4
import Derived.Test.YtmdlogdmjkfojaaGreatDoorProg
import Derived.Lib.Atoi
set_option linter.unusedVariables false
set_option linter.unusedSimpArgs false
open And renaming intro→aI
open Bool renaming and_eq_true→az,eq_iff_iff→cx,or_eq_false_iff→cD,or_eq_true→bE,true_and→bX
open ByteArray renaming extract→cm,size→af,toList→ae
open Int renaming tmod→dG,toNat→bM,toNat_natCast→bx
open List renaming all_cons→db,any_eq_true→cn,append_assoc→aW,drop_eq_getElem_cons→aP,drop_eq_nil_of_le→bU,drop_zero→aZ,eq_nil_of_length_eq_zero→bR,flatMap_cons→cQ,getD_cons_zero→bq,getD_eq_getElem?_getD→aa,getElem?_eq_getElem→bm,getElem_mem→bB,headD_cons→bf,length_append→an,length_cons→au,length_drop→ct,length_nil→aG,map_cons→bC,mem_append→aQ,mem_cons→aH,mem_cons_of_mem→al,mem_cons_self→ak,mem_flatMap→dw,mem_map→bK,mem_singleton→aT,nil_append→aR,tail_cons→bO
open Nat renaming beq→aL,le_refl→aq,zero_add→aY,zero_le→dF
open Option renaming isSome_iff_exists→bF,isSome_none→bn,map_some→cg
open UInt8 renaming ofNat→bh
namespace Go.Proofs.Trees
open Go Go.VL
noncomputable section
variable {R:AV->List Ob->Prop}{U:RL}
def Fj(a0:AV)(a1:AV)(a3_0:AV)(a4_0:Int):Tree :=
 NZ a0<|NZ a0<|.aj (LK.has (.int .u8) (a0.deref.hA)/\1<=a0.deref.length)<|.test (((a0.deref.hA).toInt)==(110:Int)) (NZ a0<|NZ a0<|kK (a0.deref.drop 1)<|.done 0 [VS (((a0.deref.drop 1).hA).ah)] [.cells [a3_0],.cells [VI a4_0]]) (.test (((a0.deref.hA).toInt)==(98:Int)) (NL a1<|NZ a0<|NZ a0<|.aj (LK.has (.int .i64) ((a0.deref.drop 2).hA)/\1<=(a0.deref.drop 2).length)<|.aj (LK.has .sl a1/\0<=(IntKind.wrap .i64 ((IntKind.wrap .i64 ((a1.aJ.length:Int)-1))-(((a0.deref.drop 2).hA).toInt)))/\(IntKind.wrap .i64 ((IntKind.wrap .i64 ((a1.aJ.length:Int)-1))-(((a0.deref.drop 2).hA).toInt)))<a1.aJ.length/\(a1.ix (IntKind.wrap .i64 ((IntKind.wrap .i64 ((a1.aJ.length:Int)-1))-(((a0.deref.drop 2).hA).toInt)))).length=1)<|kK (a1.ix (IntKind.wrap .i64 ((IntKind.wrap .i64 ((a1.aJ.length:Int)-1))-(((a0.deref.drop 2).hA).toInt))))<|.done 0 [VS (((a1.ix (IntKind.wrap .i64 ((IntKind.wrap .i64 ((a1.aJ.length:Int)-1))-(((a0.deref.drop 2).hA).toInt)))).hA).ah)] [.cells [a3_0],.cells [VI a4_0]]) (.test (((a0.deref.hA).toInt)==(43:Int)) (NZ a0<|NZ a0<|dR (a0.deref.drop 3)<|.call 151 [((a0.deref.drop 3).hA),a1,.gK 151 [none,some 0,some 1],.ref 0 0,.ref 1 0] [.cells [a3_0],.cells [VI a4_0]] fun r1 o1=>.aj ((o1.hO)=.cells (o1.hO).cs)<|.aj (aM [.lk .sl] ((o1.hO).cs) 0 1 o1.tail)<|.aj ((o1.tail.hO)=.cells (o1.tail.hO).cs)<|.aj (aM [.lk (.int .i64)] ((o1.tail.hO).cs) 0 2 o1.tail.tail)<|NS r1<|NZ a0<|NZ a0<|.aj (LK.has (.int .u8) (a0.deref.hA)/\1<=a0.deref.length)<|.aj (jy [[.v (.int .u8 ((a0.deref.hA).toInt))]])<|.aj (af (mk [40])+af (⟨(bytesOf [[.v (.int .u8 ((a0.deref.hA).toInt))]]).toArray⟩)<=9223372036854775807)<|.aj (af (((mk [40]):ByteArray)++(⟨(bytesOf [[.v (.int .u8 ((a0.deref.hA).toInt))]]).toArray⟩))+af (mk [32])<=9223372036854775807)<|.aj (af (((((mk [40]):ByteArray)++(⟨(bytesOf [[.v (.int .u8 ((a0.deref.hA).toInt))]]).toArray⟩)):ByteArray)++(mk [32]))+af r1.ah<=9223372036854775807)<|.aj (af (((((((mk [40]):ByteArray)++(⟨(bytesOf [[.v (.int .u8 ((a0.deref.hA).toInt))]]).toArray⟩)):ByteArray)++(mk [32])):ByteArray)++r1.ah)+af (mk [32])<=9223372036854775807)<|NZ a0<|NZ a0<|dR (a0.deref.drop 4)<|.call 151 [((a0.deref.drop 4).hA),a1,.gK 151 [none,some 0,some 1],.ref 0 0,.ref 1 0] [.cells [((o1.hO).cs.getD 0 .any)],.cells [VI (((o1.tail.hO).cs.getD 0 .any).toInt)]] fun r2 o2=>.aj ((o2.hO)=.cells (o2.hO).cs)<|.aj (aM [.lk .sl] ((o2.hO).cs) 0 1 o2.tail)<|.aj ((o2.tail.hO)=.cells (o2.tail.hO).cs)<|.aj (aM [.lk (.int .i64)] ((o2.tail.hO).cs) 0 2 o2.tail.tail)<|NS r2<|.aj (af (((((((((mk [40]):ByteArray)++(⟨(bytesOf [[.v (.int .u8 ((a0.deref.hA).toInt))]]).toArray⟩)):ByteArray)++(mk [32])):ByteArray)++r1.ah):ByteArray)++(mk [32]))+af r2.ah<=9223372036854775807)<|.aj (af (((((((((((mk [40]):ByteArray)++(⟨(bytesOf [[.v (.int .u8 ((a0.deref.hA).toInt))]]).toArray⟩)):ByteArray)++(mk [32])):ByteArray)++r1.ah):ByteArray)++(mk [32])):ByteArray)++r2.ah)+af (mk [41])<=9223372036854775807)<|.done 0 [VS (((((((((((((mk [40]):ByteArray)++(⟨(bytesOf [[.v (.int .u8 ((a0.deref.hA).toInt))]]).toArray⟩)):ByteArray)++(mk [32])):ByteArray)++r1.ah):ByteArray)++(mk [32])):ByteArray)++r2.ah):ByteArray)++(mk [41]))] [.cells [((o2.hO).cs.getD 0 .any)],.cells [VI (((o2.tail.hO).cs.getD 0 .any).toInt)]]) (.test (((a0.deref.hA).toInt)==(42:Int)) (NZ a0<|NZ a0<|dR (a0.deref.drop 3)<|.call 151 [((a0.deref.drop 3).hA),a1,.gK 151 [none,some 0,some 1],.ref 0 0,.ref 1 0] [.cells [a3_0],.cells [VI a4_0]] fun r3 o3=>.aj ((o3.hO)=.cells (o3.hO).cs)<|.aj (aM [.lk .sl] ((o3.hO).cs) 0 1 o3.tail)<|.aj ((o3.tail.hO)=.cells (o3.tail.hO).cs)<|.aj (aM [.lk (.int .i64)] ((o3.tail.hO).cs) 0 2 o3.tail.tail)<|NS r3<|NZ a0<|NZ a0<|.aj (LK.has (.int .u8) (a0.deref.hA)/\1<=a0.deref.length)<|.aj (jy [[.v (.int .u8 ((a0.deref.hA).toInt))]])<|.aj (af (mk [40])+af (⟨(bytesOf [[.v (.int .u8 ((a0.deref.hA).toInt))]]).toArray⟩)<=9223372036854775807)<|.aj (af (((mk [40]):ByteArray)++(⟨(bytesOf [[.v (.int .u8 ((a0.deref.hA).toInt))]]).toArray⟩))+af (mk [32])<=9223372036854775807)<|.aj (af (((((mk [40]):ByteArray)++(⟨(bytesOf [[.v (.int .u8 ((a0.deref.hA).toInt))]]).toArray⟩)):ByteArray)++(mk [32]))+af r3.ah<=9223372036854775807)<|.aj (af (((((((mk [40]):ByteArray)++(⟨(bytesOf [[.v (.int .u8 ((a0.deref.hA).toInt))]]).toArray⟩)):ByteArray)++(mk [32])):ByteArray)++r3.ah)+af (mk [32])<=9223372036854775807)<|NZ a0<|NZ a0<|dR (a0.deref.drop 4)<|.call 151 [((a0.deref.drop 4).hA),a1,.gK 151 [none,some 0,some 1],.ref 0 0,.ref 1 0] [.cells [((o3.hO).cs.getD 0 .any)],.cells [VI (((o3.tail.hO).cs.getD 0 .any).toInt)]] fun r4 o4=>.aj ((o4.hO)=.cells (o4.hO).cs)<|.aj (aM [.lk .sl] ((o4.hO).cs) 0 1 o4.tail)<|.aj ((o4.tail.hO)=.cells (o4.tail.hO).cs)<|.aj (aM [.lk (.int .i64)] ((o4.tail.hO).cs) 0 2 o4.tail.tail)<|NS r4<|.aj (af (((((((((mk [40]):ByteArray)++(⟨(bytesOf [[.v (.int .u8 ((a0.deref.hA).toInt))]]).toArray⟩)):ByteArray)++(mk [32])):ByteArray)++r3.ah):ByteArray)++(mk [32]))+af r4.ah<=9223372036854775807)<|.aj (af (((((((((((mk [40]):ByteArray)++(⟨(bytesOf [[.v (.int .u8 ((a0.deref.hA).toInt))]]).toArray⟩)):ByteArray)++(mk [32])):ByteArray)++r3.ah):ByteArray)++(mk [32])):ByteArray)++r4.ah)+af (mk [41])<=9223372036854775807)<|.done 0 [VS (((((((((((((mk [40]):ByteArray)++(⟨(bytesOf [[.v (.int .u8 ((a0.deref.hA).toInt))]]).toArray⟩)):ByteArray)++(mk [32])):ByteArray)++r3.ah):ByteArray)++(mk [32])):ByteArray)++r4.ah):ByteArray)++(mk [41]))] [.cells [((o4.hO).cs.getD 0 .any)],.cells [VI (((o4.tail.hO).cs.getD 0 .any).toInt)]]) (.test (((a0.deref.hA).toInt)==(114:Int)) (.loop KU Hb [a0,a1,VS (mk [])] [.cells [a3_0],.cells [VI a4_0]] (fun y8 q8=>NP (y8.hA)<|NL (y8.tail.hA)<|NS (y8.tail.tail.hA)<|.aj ((q8.hO)=.cells (q8.hO).cs)<|.aj (ac [.lk .sl] ((q8.hO).cs) 0 q8.tail)<|.aj (((q8.tail.drop 0).hO)=.cells ((q8.tail.drop 0).hO).cs)<|.aj (ac [.lk (.int .i64)] (((q8.tail.drop 0).hO).cs) 0 ((q8.tail.drop 0).tail))<|.aj (af (mk [40,114,101,99,32])+af ((y8.tail.tail.hA).ah)<=9223372036854775807)<|.aj (af (((mk [40,114,101,99,32]):ByteArray)++((y8.tail.tail.hA).ah))+af (mk [32])<=9223372036854775807)<|NZ (y8.hA)<|NZ (y8.hA)<|dR ((y8.hA).deref.drop 3)<|.aj (LK.has .sl (y8.tail.hA)/\cr 1 ((y8.tail.hA).aJ)/\((([]:List (List AV)).length)+((y8.tail.hA).aJ).length)*16<=140737488355328)<|.aj (cr 1 [[VS ((y8.tail.tail.hA).ah)]]/\(((([]:List (List AV))++((y8.tail.hA).aJ)).length)+([[VS ((y8.tail.tail.hA).ah)]]:List (List AV)).length)*16<=140737488355328)<|.call 151 [(((y8.hA).deref.drop 3).hA),.sl ((([]:List (List AV))++((y8.tail.hA).aJ))++([[VS ((y8.tail.tail.hA).ah)]]:List (List AV))),.gK 151 [none,some 0,some 1],.ref 0 0,.ref 1 0] [.cells [((q8.hO).cs.getD 0 .any)],.cells [VI (((q8.tail.hO).cs.getD 0 .any).toInt)]] fun r9 o9=>.aj ((o9.hO)=.cells (o9.hO).cs)<|.aj (aM [.lk .sl] ((o9.hO).cs) 0 1 o9.tail)<|.aj ((o9.tail.hO)=.cells (o9.tail.hO).cs)<|.aj (aM [.lk (.int .i64)] ((o9.tail.hO).cs) 0 2 o9.tail.tail)<|NS r9<|.aj (af (((((mk [40,114,101,99,32]):ByteArray)++((y8.tail.tail.hA).ah)):ByteArray)++(mk [32]))+af r9.ah<=9223372036854775807)<|.aj (af (((((((mk [40,114,101,99,32]):ByteArray)++((y8.tail.tail.hA).ah)):ByteArray)++(mk [32])):ByteArray)++r9.ah)+af (mk [41])<=9223372036854775807)<|.done 0 [VS (((((((((mk [40,114,101,99,32]):ByteArray)++((y8.tail.tail.hA).ah)):ByteArray)++(mk [32])):ByteArray)++r9.ah):ByteArray)++(mk [41]))] [.cells [((o9.hO).cs.getD 0 .any)],.cells [VI (((o9.tail.hO).cs.getD 0 .any).toInt)]]) (fun y8 q8=>.aj ((q8.hO)=.cells (q8.hO).cs)<|.aj (ac [.lk .sl] ((q8.hO).cs) 0 q8.tail)<|.aj (((q8.tail.drop 0).hO)=.cells ((q8.tail.drop 0).hO).cs)<|.aj (ac [.lk (.int .i64)] (((q8.tail.drop 0).hO).cs) 0 ((q8.tail.drop 0).tail))<|.done 0 [.any] [.cells [((q8.hO).cs.getD 0 .any)],.cells [VI (((q8.tail.hO).cs.getD 0 .any).toInt)]])) (NZ a0<|NZ a0<|.aj (LK.has (.int .u8) (a0.deref.hA)/\1<=a0.deref.length)<|.aj (jy [[.v (.int .u8 ((a0.deref.hA).toInt))]])<|.done 0 [VS (⟨(bytesOf [[.v (.int .u8 ((a0.deref.hA).toInt))]]).toArray⟩)] [.cells [a3_0],.cells [VI a4_0]])))))
theorem GG(a0:AV)(a1:AV)(a3_0:AV)(a4_0:Int)(ha0:LK.has .ptr a0)(ha1:LK.has .sl a1)(ha3_0:LK.has .sl a3_0)(h:di 100 (Fj a0 a1 a3_0 a4_0) R):ap Tryz.prog 151 [a0,a1,.gK 151 [none,some 0,some 1],.ref 0 0,.ref 1 0] [.cells [a3_0],.cells [VI a4_0]] R :=
 ap.nE (bA (cd (ag (bJ ha3_0) aA)) (bA (cd (ag (aw _) aA)) cz)) (ap.up (ag (bD ha0) (ag (bJ ha1) (ag (aw _) (ag (aw _) (ag (aw _) aA))))) (oF Ny {mu:=[(2,.qF 151 [none,some 0,some 1]),(3,.one (.obj [.lk .sl])),(4,.one (.obj [.lk (.int .i64)]))],own:=[]} Tryz.f151 h))
def I4(x0:AV)(x1:AV)(x9:ByteArray)(o0_0:AV)(o1_0:Int):Tree :=
 NP x0<|NL x1<|NS (VS x9)<|.aj (Ob.cells [o0_0]=.cells [o0_0])<|.aj (ac [.lk .sl] [o0_0] 0 [.cells [VI o1_0]])<|.aj (Ob.cells [VI o1_0]=.cells [VI o1_0])<|.aj (ac [.lk (.int .i64)] [VI o1_0] 0 [])<|.test (ae x9==ae (mk [])) (.call 148 [VI o1_0] [] fun r1 o1=>NS r1<|.aj (af (mk [116])+af r1.ah<=9223372036854775807)<|.done 0 [x0,x1,VS (((mk [116]):ByteArray)++r1.ah)] [.cells [o0_0],.cells [VI (IntKind.wrap .i64 (o1_0+1))]]) (.call 152 [o0_0,VS x9] [] fun r2 o2=>NB r2<|.test r2.toBool (.call 148 [VI o1_0] [] fun r3 o3=>NS r3<|.aj (af (mk [116])+af r3.ah<=9223372036854775807)<|.done 0 [x0,x1,VS (((mk [116]):ByteArray)++r3.ah)] [.cells [o0_0],.cells [VI (IntKind.wrap .i64 (o1_0+1))]]) (.done 1 [x0,x1,VS x9] [.cells [o0_0],.cells [VI o1_0]]))
abbrev Em:=cy Tryz.prog 100 KU Hb
theorem KA(x0:AV)(x1:AV)(x9:ByteArray)(o0_0:AV)(o1_0:Int)(h:jx 100 (I4 x0 x1 x9 o0_0 o1_0) Em U):Em [x0,x1,VS x9] [.cells [o0_0],.cells [VI o1_0]] U :=
 gQ Ny h
def ML(a0:AV)(a1:ByteArray):Tree :=
 .call 167 [a0,VS a1] [] fun r1 o1=>NI r1<|.done 0 [VB (decide (r1.toInt≥(0:Int)))] []
theorem Sv(a0:AV)(a1:ByteArray)(ha0:LK.has .sl a0)(h:di 9 (ML a0 a1) R):ap Tryz.prog 152 [a0,VS a1] [] R :=
 uQ (ag (bJ ha0) (ag (aw _) aA)) (oQ [] Tryz.f152 h)
def Mg(a0:AV):Tree :=
 .call 168 [a0,.v (.func (.func 146) #[] #[])] [] fun r1 o1=>NI r1<|.done 0 [VB (decide (r1.toInt≥(0:Int)))] []
theorem Qt(a0:AV)(ha0:LK.has .sl a0)(h:di 9 (Mg a0) R):ap Tryz.prog 153 [a0,.v (.func (.func 146) #[] #[])] [] R :=
 uQ (ag (bJ ha0) (ag (aw _) aA)) (oQ [] Tryz.f153 h)
def OE(a0:ByteArray):Tree :=
 .test (decide ((af a0:Int)<(2:Int))) (.done 0 [VB false] []) (.test (decide ((af a0:Int)>(3:Int))) (.done 0 [VB false] []) (.aj (0<=(0:Int)/\(0:Int)<af a0)<|.test ((bt a0 0) != (101:Int)) (.done 0 [VB false] []) (.aj (0<=(1:Int)/\(1:Int)<=(af a0:Int)/\(af a0:Int)<=(af a0:Int))<|.call 169 [VS (cm a0 (bM 1) (bM (af a0:Int))),VS (mk [48,49,50,51,52,53,54,55,56,57])] [] fun r1 o1=>NS r1<|.test (!(ae r1.ah==ae (mk []))) (.done 0 [VB false] []) (.test ((af a0:Int)==(2:Int)) (.done 0 [VB true] []) (.aj (0<=(1:Int)/\(1:Int)<af a0)<|.done 0 [VB ((bt a0 1) != (48:Int))] [])))))
theorem SJ(a0:ByteArray)(h:di 30 (OE a0) R):ap Tryz.prog 154 [VS a0] [] R :=
 uQ (ag (aw _) aA) (oQ [] Tryz.f154 h)
def MR(a0_0:ByteArray)(a0_1:AV):Tree :=
 NG a0_1 1 2<|kK (a0_1.ix (1:Int))<|NG a0_1 2 2<|NE (a0_1.ix (2:Int))<|.call 175 [.agg [VS (((a0_1.ix (2:Int)).getD 0 .any).ah),((a0_1.ix (2:Int)).getD 1 .any)],VS (((a0_1.ix (1:Int)).hA).ah)] [] fun r1 o1=>NT r1<|.aj ((r1.comp 0)=.agg (r1.comp 0).cs/\(r1.comp 0).cs.length=2/\bz [.str,.sl] ((r1.comp 0).cs) 0)<|NB (r1.comp 1)<|.test (!((r1.comp 1).toBool)) (.done 0 [.cA [.agg [VS a0_0,a0_1],VB false]] []) (.call 176 [.agg [VS (((r1.comp 0).cs.getD 0 .any).ah),((r1.comp 0).cs.getD 1 .any)],VS (((a0_1.ix (1:Int)).hA).ah),.agg [VS a0_0,a0_1]] [] fun r2 o2=>NT r2<|.aj ((r2.comp 0)=.agg (r2.comp 0).cs/\(r2.comp 0).cs.length=2/\bz [.str,.sl] ((r2.comp 0).cs) 0)<|NB (r2.comp 1)<|.done 0 [.cA [.agg [VS (((r2.comp 0).cs.getD 0 .any).ah),((r2.comp 0).cs.getD 1 .any)],VB ((r2.comp 1).toBool)]] [])
theorem RJ(a0_0:ByteArray)(a0_1:AV)(ha0_1:LK.has .sl a0_1)(h:di 30 (MR a0_0 a0_1) R):ap Tryz.prog 157 [.agg [VS a0_0,a0_1]] [] R :=
 uQ (ag (ca (ag (aw _) (ag (bJ ha0_1) aA))) aA) (oQ [] Tryz.f157 h)
def Ma(a0_0:ByteArray)(a0_1:AV):Tree :=
 .call 109 [.agg [VS a0_0,a0_1]] [] fun r1 o1=>NI r1<|.test (decide (r1.toInt>(400:Int))) (.done 0 [.cA [VS (mk []),VB false]] []) (.call 83 [.agg [VS a0_0,a0_1],.v (.slice none 0 0)] [] fun r2 o2=>NA r2<|.call 76 [.agg [VS ((r2.cs.getD 0 .any).ah),(r2.cs.getD 1 .any)]] [] fun r3 o3=>NS r3<|.call 177 [VS r3.ah] [] fun r4 o4=>NB r4<|.test (!r4.toBool) (.done 0 [.cA [VS (mk []),VB false]] []) (.done 0 [.cA [VS r3.ah,VB true]] []))
theorem QL(a0_0:ByteArray)(a0_1:AV)(ha0_1:LK.has .sl a0_1)(h:di 15 (Ma a0_0 a0_1) R):ap Tryz.prog 158 [.agg [VS a0_0,a0_1]] [] R :=
 uQ (ag (ca (ag (aw _) (ag (bJ ha0_1) aA))) aA) (oQ [] Tryz.f158 h)
def NF(a0:ByteArray)(a1:ByteArray)(a2:ByteArray):Tree :=
 .call 45 [VS a0] [] fun r1 o1=>NT r1<|.aj ((r1.comp 0)=.agg (r1.comp 0).cs/\(r1.comp 0).cs.length=2/\bz [.str,.sl] ((r1.comp 0).cs) 0)<|NB (r1.comp 1)<|.call 136 [VS a0] [] fun r2 o2=>NT r2<|NS (r2.comp 0)<|NB (r2.comp 1)<|.test (!((r1.comp 1).toBool)) (.done 0 [.cA [VS (mk []),VB false]] []) (.test (!((r2.comp 1).toBool)) (.done 0 [.cA [VS (mk []),VB false]] []) (.call 46 [VS ((r2.comp 0).ah),VS a1,VI 100] [] fun r3 o3=>NB r3<|.test (!r3.toBool) (.done 0 [.cA [VS (mk []),VB false]] []) (.call 46 [VS a0,VS a2,VI 100] [] fun r4 o4=>NB r4<|.test (!r4.toBool) (.done 0 [.cA [VS (mk []),VB false]] []) (.call 47 [VS a1] [] fun r5 o5=>NT r5<|.aj ((r5.comp 0)=.agg (r5.comp 0).cs/\(r5.comp 0).cs.length=2/\bz [.str,.sl] ((r5.comp 0).cs) 0)<|NB (r5.comp 1)<|.call 47 [VS a2] [] fun r6 o6=>NT r6<|.aj ((r6.comp 0)=.agg (r6.comp 0).cs/\(r6.comp 0).cs.length=2/\bz [.str,.sl] ((r6.comp 0).cs) 0)<|NB (r6.comp 1)<|NG ((r1.comp 0).cs.getD 1 .any) 2 2<|NE (((r1.comp 0).cs.getD 1 .any).ix (2:Int))<|NG ((r1.comp 0).cs.getD 1 .any) 1 2<|kK (((r1.comp 0).cs.getD 1 .any).ix (1:Int))<|.call 79 [.agg [VS (((((r1.comp 0).cs.getD 1 .any).ix (2:Int)).getD 0 .any).ah),((((r1.comp 0).cs.getD 1 .any).ix (2:Int)).getD 1 .any)],VS (((((r1.comp 0).cs.getD 1 .any).ix (1:Int)).hA).ah),.agg [VS (((r5.comp 0).cs.getD 0 .any).ah),((r5.comp 0).cs.getD 1 .any)],.agg [VS (((r6.comp 0).cs.getD 0 .any).ah),((r6.comp 0).cs.getD 1 .any)]] [] fun r7 o7=>NA r7<|.call 78 [VS (mk [102]),.sl [[VS ((r7.cs.getD 0 .any).ah),(r7.cs.getD 1 .any)]]] [] fun r8 o8=>NA r8<|.call 76 [.agg [VS ((r8.cs.getD 0 .any).ah),(r8.cs.getD 1 .any)]] [] fun r9 o9=>NS r9<|.call 46 [VS a0,VS r9.ah,VI 100] [] fun r10 o10=>NB r10<|.test (!r10.toBool) (.done 0 [.cA [VS (mk []),VB false]] []) (.done 0 [.cA [VS r9.ah,VB true]] [])))))
theorem R2(a0:ByteArray)(a1:ByteArray)(a2:ByteArray)(h:di 75 (NF a0 a1 a2) R):ap Tryz.prog 159 [VS a0,VS a1,VS a2] [] R :=
 uQ (ag (aw _) (ag (aw _) (ag (aw _) aA))) (oQ [] Tryz.f159 h)
def Ce(a0_0:ByteArray)(a0_1:AV)(a1:ByteArray):Tree :=
 .test (!(ae a0_0==ae (mk []))) (.test (ae a0_0==ae a1) (.done 0 [VI 1] []) (.done 0 [VI 0] [])) (.call 71 [.agg [VS a0_0,a0_1]] [] fun r1 o1=>NS r1<|.test (ae r1.ah==ae (mk [114,101,99])) (NG a0_1 1 2<|kK (a0_1.ix (1:Int))<|.test (ae (((a0_1.ix (1:Int)).hA).ah)==ae a1) (.done 0 [VI 0] []) (NG a0_1 2 2<|NE (a0_1.ix (2:Int))<|.call 160 [.agg [VS (((a0_1.ix (2:Int)).getD 0 .any).ah),((a0_1.ix (2:Int)).getD 1 .any)],VS a1] [] fun r2 o2=>NI r2<|.done 0 [VI r2.toInt] [])) (NG a0_1 1 2<|NE (a0_1.ix (1:Int))<|.call 160 [.agg [VS (((a0_1.ix (1:Int)).getD 0 .any).ah),((a0_1.ix (1:Int)).getD 1 .any)],VS a1] [] fun r3 o3=>NI r3<|NG a0_1 2 2<|NE (a0_1.ix (2:Int))<|.call 160 [.agg [VS (((a0_1.ix (2:Int)).getD 0 .any).ah),((a0_1.ix (2:Int)).getD 1 .any)],VS a1] [] fun r4 o4=>NI r4<|.done 0 [VI (IntKind.wrap .i64 (r3.toInt+r4.toInt))] []))
theorem DP(a0_0:ByteArray)(a0_1:AV)(a1:ByteArray)(ha0_1:LK.has .sl a0_1)(h:di 41 (Ce a0_0 a0_1 a1) R):ap Tryz.prog 160 [.agg [VS a0_0,a0_1],VS a1] [] R :=
 uQ (ag (ca (ag (aw _) (ag (bJ ha0_1) aA))) (ag (aw _) aA)) (oQ [] Tryz.f160 h)
def Bv(a0_0:ByteArray)(a0_1:AV)(a1:ByteArray)(a2_0:ByteArray)(a2_1:AV):Tree :=
 .test (!(ae a0_0==ae (mk []))) (.test (ae a0_0==ae a1) (.done 0 [.agg [VS a2_0,a2_1]] []) (.done 0 [.agg [VS a0_0,a0_1]] [])) (.call 71 [.agg [VS a0_0,a0_1]] [] fun r1 o1=>NS r1<|.test (ae r1.ah==ae (mk [114,101,99])) (NG a0_1 1 2<|kK (a0_1.ix (1:Int))<|.test (ae (((a0_1.ix (1:Int)).hA).ah)==ae a1) (.done 0 [.agg [VS a0_0,a0_1]] []) (NG a0_1 1 2<|NE (a0_1.ix (1:Int))<|NG a0_1 2 2<|NE (a0_1.ix (2:Int))<|.call 161 [.agg [VS (((a0_1.ix (2:Int)).getD 0 .any).ah),((a0_1.ix (2:Int)).getD 1 .any)],VS a1,.agg [VS a2_0,a2_1]] [] fun r2 o2=>NA r2<|.call 78 [VS (mk [114,101,99]),.sl [[VS (((a0_1.ix (1:Int)).getD 0 .any).ah),((a0_1.ix (1:Int)).getD 1 .any)],[VS ((r2.cs.getD 0 .any).ah),(r2.cs.getD 1 .any)]]] [] fun r3 o3=>NA r3<|.done 0 [.agg [VS ((r3.cs.getD 0 .any).ah),(r3.cs.getD 1 .any)]] [])) (.call 71 [.agg [VS a0_0,a0_1]] [] fun r4 o4=>NS r4<|NG a0_1 1 2<|NE (a0_1.ix (1:Int))<|.call 161 [.agg [VS (((a0_1.ix (1:Int)).getD 0 .any).ah),((a0_1.ix (1:Int)).getD 1 .any)],VS a1,.agg [VS a2_0,a2_1]] [] fun r5 o5=>NA r5<|NG a0_1 2 2<|NE (a0_1.ix (2:Int))<|.call 161 [.agg [VS (((a0_1.ix (2:Int)).getD 0 .any).ah),((a0_1.ix (2:Int)).getD 1 .any)],VS a1,.agg [VS a2_0,a2_1]] [] fun r6 o6=>NA r6<|.call 78 [VS r4.ah,.sl [[VS ((r5.cs.getD 0 .any).ah),(r5.cs.getD 1 .any)],[VS ((r6.cs.getD 0 .any).ah),(r6.cs.getD 1 .any)]]] [] fun r7 o7=>NA r7<|.done 0 [.agg [VS ((r7.cs.getD 0 .any).ah),(r7.cs.getD 1 .any)]] []))
theorem Dt(a0_0:ByteArray)(a0_1:AV)(a1:ByteArray)(a2_0:ByteArray)(a2_1:AV)(ha0_1:LK.has .sl a0_1)(ha2_1:LK.has .sl a2_1)(h:di 58 (Bv a0_0 a0_1 a1 a2_0 a2_1) R):ap Tryz.prog 161 [.agg [VS a0_0,a0_1],VS a1,.agg [VS a2_0,a2_1]] [] R :=
 uQ (ag (ca (ag (aw _) (ag (bJ ha0_1) aA))) (ag (aw _) (ag (ca (ag (aw _) (ag (bJ ha2_1) aA))) aA))) (oQ [] Tryz.f161 h)
def L3(a0:Int):Tree :=
 .test (decide (a0≥(97:Int))) (.test (decide (a0<=(122:Int))) (.done 0 [VB true] []) (.test (decide (a0≥(48:Int))) (.test (decide (a0<=(57:Int))) (.done 0 [VB true] []) (.test (a0==(43:Int)) (.done 0 [VB true] []) (.done 0 [VB (a0==(42:Int))] []))) (.test (a0==(43:Int)) (.done 0 [VB true] []) (.done 0 [VB (a0==(42:Int))] [])))) (.test (decide (a0≥(48:Int))) (.test (decide (a0<=(57:Int))) (.done 0 [VB true] []) (.test (a0==(43:Int)) (.done 0 [VB true] []) (.done 0 [VB (a0==(42:Int))] []))) (.test (a0==(43:Int)) (.done 0 [VB true] []) (.done 0 [VB (a0==(42:Int))] [])))
theorem SH(a0:Int)(h:di 25 (L3 a0) R):ap Tryz.prog 162 [.v (.int .u8 a0)] [] R :=
 uQ (ag (aw _) aA) (oQ [] Tryz.f162 h)
def Ke(a0:ByteArray)(a1:ByteArray):Tree :=
 .test (decide ((af a0:Int)≥(1:Int))) (.test (decide ((af a0:Int)<=(3:Int))) (.aj (0<=(0:Int)/\(0:Int)<=(1:Int)/\(1:Int)<=(af a0:Int))<|.call 178 [VS a1,VS (cm a0 (bM 0) (bM 1))] [] fun r1 o1=>NB r1<|.test r1.toBool (.aj (0<=(1:Int)/\(1:Int)<=(af a0:Int)/\(af a0:Int)<=(af a0:Int))<|.call 169 [VS (cm a0 (bM 1) (bM (af a0:Int))),VS (mk [48,49,50,51,52,53,54,55,56,57])] [] fun r2 o2=>NS r2<|.done 0 [VB (ae r2.ah==ae (mk []))] []) (.done 0 [VB false] [])) (.done 0 [VB false] [])) (.done 0 [VB false] [])
theorem Rp(a0:ByteArray)(a1:ByteArray)(h:di 25 (Ke a0 a1) R):ap Tryz.prog 163 [VS a0,VS a1] [] R :=
 uQ (ag (aw _) (ag (aw _) aA)) (oQ [] Tryz.f163 h)
def Fq(a0:AV)(e1_0_0:List (List AV)):Tree :=
 .call 166 [a0,.ref 0 0] [.cells [.vec 1],.vec 1 e1_0_0] fun r1 o1=>.aj ((o1.hO)=.cells (o1.hO).cs)<|.aj (aM [.vec 1] ((o1.hO).cs) 0 1 o1.tail)<|NZ a0<|NZ a0<|dR (a0.deref.drop 3)<|NP ((a0.deref.drop 3).hA)<|.test (!((a0.deref.drop 3).hA).isNil) (NZ a0<|NZ a0<|dR (a0.deref.drop 3)<|.call 165 [((a0.deref.drop 3).hA),.fn 166 [.ref 0 0]] [.cells [.vec 1],.vec 1 ((o1.tail.hO).es)] fun r2 o2=>.aj ((o2.hO)=.cells (o2.hO).cs)<|.aj (aM [.vec 1] ((o2.hO).cs) 0 1 o2.tail)<|NZ a0<|NZ a0<|dR (a0.deref.drop 4)<|NP ((a0.deref.drop 4).hA)<|.test (!((a0.deref.drop 4).hA).isNil) (NZ a0<|NZ a0<|dR (a0.deref.drop 4)<|.call 165 [((a0.deref.drop 4).hA),.fn 166 [.ref 0 0]] [.cells [.vec 1],.vec 1 ((o2.tail.hO).es)] fun r3 o3=>.aj ((o3.hO)=.cells (o3.hO).cs)<|.aj (aM [.vec 1] ((o3.hO).cs) 0 1 o3.tail)<|.done 0 [.any] [.cells [.vec 1],.vec 1 ((o3.tail.hO).es)]) (.done 0 [.any] [.cells [.vec 1],.vec 1 ((o2.tail.hO).es)])) (NZ a0<|NZ a0<|dR (a0.deref.drop 4)<|NP ((a0.deref.drop 4).hA)<|.test (!((a0.deref.drop 4).hA).isNil) (NZ a0<|NZ a0<|dR (a0.deref.drop 4)<|.call 165 [((a0.deref.drop 4).hA),.fn 166 [.ref 0 0]] [.cells [.vec 1],.vec 1 ((o1.tail.hO).es)] fun r4 o4=>.aj ((o4.hO)=.cells (o4.hO).cs)<|.aj (aM [.vec 1] ((o4.hO).cs) 0 1 o4.tail)<|.done 0 [.any] [.cells [.vec 1],.vec 1 ((o4.tail.hO).es)]) (.done 0 [.any] [.cells [.vec 1],.vec 1 ((o1.tail.hO).es)]))
theorem IZ(a0:AV)(e1_0_0:List (List AV))(ha0:LK.has .ptr a0)(h:di 29 (Fq a0 e1_0_0) R):ap Tryz.prog 165 [a0,.fn 166 [.ref 0 0]] [.cells [.vec 1],.vec 1 e1_0_0] R :=
 ap.nE (bA (cd (ag (aw _) aA)) (bA (fC _) cz)) (ap.up (ag (bD ha0) (ag (aw _) aA)) (oF [] {mu:=[(1,.fn [some (.obj [.vec 1])])],own:=[]} Tryz.f165 h))
def Ge(a0:AV)(e1_0:List (List AV)):Tree :=
 NZ a0<|NZ a0<|.aj (LK.has (.int .u8) (a0.deref.hA)/\1<=a0.deref.length)<|.test (((a0.deref.hA).toInt)==(110:Int)) (NZ a0<|NZ a0<|kK (a0.deref.drop 1)<|.call 152 [.sl e1_0,VS (((a0.deref.drop 1).hA).ah)] [] fun r1 o1=>NB r1<|.test (!r1.toBool) (NZ a0<|NZ a0<|kK (a0.deref.drop 1)<|.aj (cr 1 [[VS (((a0.deref.drop 1).hA).ah)]]/\((e1_0.length)+([[VS (((a0.deref.drop 1).hA).ah)]]:List (List AV)).length)*16<=140737488355328)<|.done 0 [.any] [.cells [.vec 1],.vec 1 (e1_0++([[VS (((a0.deref.drop 1).hA).ah)]]:List (List AV)))]) (.done 0 [.any] [.cells [.vec 1],.vec 1 e1_0])) (.done 0 [.any] [.cells [.vec 1],.vec 1 e1_0])
theorem QE(a0:AV)(e1_0:List (List AV))(ha0:LK.has .ptr a0)(h:di 24 (Ge a0 e1_0) R):ap Tryz.prog 166 [a0,.ref 0 0] [.cells [.vec 1],.vec 1 e1_0] R :=
 ap.nE (bA (cd (ag (aw _) aA)) (bA (fC _) cz)) (ap.up (ag (bD ha0) (ag (aw _) aA)) (oF [] {mu:=[(1,.one (.obj [.vec 1]))],own:=[]} Tryz.f166 h))
def HV:LI:={hd:={bL:=[(0,.k .sl),(1,.k .str),(7,.k (.int .i64)),(8,.k (.int .i64))]},xs:={},rt:={bL:=[(4,.k (.int .i64))]},ex:=0}
def KX:Code:=cC (cw Tryz.f167) 2
def MU:List (Nat×LI):=[(2,HV)]
def MH(a0:AV)(a1:ByteArray):Tree :=
 NL a0<|.loop KX HV [a0,VS a1,VI (a0.aJ.length:Int),VI 0] [] (fun y1 q1=>.done 0 [VI (-1)] []) (fun y1 q1=>NI (y1.hA)<|.done 0 [VI ((y1.hA).toInt)] [])
theorem TZ(a0:AV)(a1:ByteArray)(ha0:LK.has .sl a0)(h:di 19 (MH a0 a1) R):ap Tryz.prog 167 [a0,VS a1] [] R :=
 uQ (ag (bJ ha0) (ag (aw _) aA)) (oQ MU Tryz.f167 h)
def Ji(x0:AV)(x1:ByteArray)(x7:Int)(x8:Int):Tree :=
 NL x0<|NS (VS x1)<|NI (VI x7)<|NI (VI x8)<|.test (decide (x8<x7)) (NG x0 x8 1<|kK (x0.ix x8)<|.test (ae x1==ae (((x0.ix x8).hA).ah)) (.done 2 [VI x8] []) (.done 0 [x0,VS x1,VI x7,VI (IntKind.wrap .i64 (x8+1))] [])) (.done 1 [] [])
abbrev GM:=cy Tryz.prog 19 KX HV
theorem OG(x0:AV)(x1:ByteArray)(x7:Int)(x8:Int)(h:jx 19 (Ji x0 x1 x7 x8) GM U):GM [x0,VS x1,VI x7,VI x8] [] U :=
 gQ MU h
def Jd:LI:={hd:={bL:=[(0,.k .sl),(1,.c (.func (.func 146) #[] #[])),(7,.k (.int .i64)),(8,.k (.int .i64))]},xs:={},rt:={bL:=[(4,.k (.int .i64))]},ex:=0}
def JQ:Code:=cC (cw Tryz.f168) 2
def J1:List (Nat×LI):=[(2,Jd)]
def Ou(a0:AV):Tree :=
 NL a0<|.loop JQ Jd [a0,.v (.func (.func 146) #[] #[]),VI (a0.aJ.length:Int),VI 0] [] (fun y2 q2=>.done 0 [VI (-1)] []) (fun y2 q2=>NI (y2.hA)<|.done 0 [VI ((y2.hA).toInt)] [])
theorem Tw(a0:AV)(ha0:LK.has .sl a0)(h:di 19 (Ou a0) R):ap Tryz.prog 168 [a0,.v (.func (.func 146) #[] #[])] [] R :=
 uQ (ag (bJ ha0) (ag (aw _) aA)) (oQ J1 Tryz.f168 h)
def Jp(x0:AV)(x7:Int)(x8:Int):Tree :=
 NL x0<|.aj (AV.v (.func (.func 146) #[] #[])=.v (.func (.func 146) #[] #[]))<|NI (VI x7)<|NI (VI x8)<|.test (decide (x8<x7)) (NG x0 x8 1<|kK (x0.ix x8)<|.call 146 [VS (((x0.ix x8).hA).ah)] [] fun r1 o1=>NB r1<|.test r1.toBool (.done 2 [VI x8] []) (.done 0 [x0,.v (.func (.func 146) #[] #[]),VI x7,VI (IntKind.wrap .i64 (x8+1))] [])) (.done 1 [] [])
abbrev FN:=cy Tryz.prog 19 JQ Jd
theorem Mx(x0:AV)(x7:Int)(x8:Int)(h:jx 19 (Jp x0 x7 x8) FN U):FN [x0,.v (.func (.func 146) #[] #[]),VI x7,VI x8] [] U :=
 gQ J1 h
def CG(a0_0:ByteArray)(a0_1:AV)(a1:ByteArray):Tree :=
 .test (!(ae a0_0==ae (mk []))) (.test (ae a0_0==ae a1) (.done 0 [.cA [.agg [VS (mk [49]),.v (.slice none 0 0)],VB true]] []) (.done 0 [.cA [.agg [VS (mk [48]),.v (.slice none 0 0)],VB true]] [])) (.call 71 [.agg [VS a0_0,a0_1]] [] fun r1 o1=>NS r1<|.test (ae r1.ah==ae (mk [114,101,99])) (.call 190 [.agg [VS a0_0,a0_1],VS a1] [] fun r2 o2=>NT r2<|.aj ((r2.comp 0)=.agg (r2.comp 0).cs/\(r2.comp 0).cs.length=2/\bz [.str,.sl] ((r2.comp 0).cs) 0)<|NB (r2.comp 1)<|.done 0 [.cA [.agg [VS (((r2.comp 0).cs.getD 0 .any).ah),((r2.comp 0).cs.getD 1 .any)],VB ((r2.comp 1).toBool)]] []) (NG a0_1 1 2<|NE (a0_1.ix (1:Int))<|.call 175 [.agg [VS (((a0_1.ix (1:Int)).getD 0 .any).ah),((a0_1.ix (1:Int)).getD 1 .any)],VS a1] [] fun r3 o3=>NT r3<|.aj ((r3.comp 0)=.agg (r3.comp 0).cs/\(r3.comp 0).cs.length=2/\bz [.str,.sl] ((r3.comp 0).cs) 0)<|NB (r3.comp 1)<|NG a0_1 2 2<|NE (a0_1.ix (2:Int))<|.call 175 [.agg [VS (((a0_1.ix (2:Int)).getD 0 .any).ah),((a0_1.ix (2:Int)).getD 1 .any)],VS a1] [] fun r4 o4=>NT r4<|.aj ((r4.comp 0)=.agg (r4.comp 0).cs/\(r4.comp 0).cs.length=2/\bz [.str,.sl] ((r4.comp 0).cs) 0)<|NB (r4.comp 1)<|.call 78 [VS (mk [43]),.sl [[VS (((r3.comp 0).cs.getD 0 .any).ah),((r3.comp 0).cs.getD 1 .any)],[VS (((r4.comp 0).cs.getD 0 .any).ah),((r4.comp 0).cs.getD 1 .any)]]] [] fun r5 o5=>NA r5<|.call 71 [.agg [VS a0_0,a0_1]] [] fun r6 o6=>NS r6<|.test (ae r6.ah==ae (mk [42])) (NG a0_1 2 2<|NE (a0_1.ix (2:Int))<|.call 78 [VS (mk [42]),.sl [[VS (((r3.comp 0).cs.getD 0 .any).ah),((r3.comp 0).cs.getD 1 .any)],[VS (((a0_1.ix (2:Int)).getD 0 .any).ah),((a0_1.ix (2:Int)).getD 1 .any)]]] [] fun r7 o7=>NA r7<|NG a0_1 1 2<|NE (a0_1.ix (1:Int))<|.call 78 [VS (mk [42]),.sl [[VS (((a0_1.ix (1:Int)).getD 0 .any).ah),((a0_1.ix (1:Int)).getD 1 .any)],[VS (((r4.comp 0).cs.getD 0 .any).ah),((r4.comp 0).cs.getD 1 .any)]]] [] fun r8 o8=>NA r8<|.call 78 [VS (mk [43]),.sl [[VS ((r7.cs.getD 0 .any).ah),(r7.cs.getD 1 .any)],[VS ((r8.cs.getD 0 .any).ah),(r8.cs.getD 1 .any)]]] [] fun r9 o9=>NA r9<|.test ((r3.comp 1).toBool) (.test ((r4.comp 1).toBool) (.call 109 [.agg [VS ((r9.cs.getD 0 .any).ah),(r9.cs.getD 1 .any)]] [] fun r10 o10=>NI r10<|.done 0 [.cA [.agg [VS ((r9.cs.getD 0 .any).ah),(r9.cs.getD 1 .any)],VB (decide (r10.toInt<=(400:Int)))]] []) (.done 0 [.cA [.agg [VS ((r9.cs.getD 0 .any).ah),(r9.cs.getD 1 .any)],VB false]] [])) (.done 0 [.cA [.agg [VS ((r9.cs.getD 0 .any).ah),(r9.cs.getD 1 .any)],VB false]] [])) (.test ((r3.comp 1).toBool) (.test ((r4.comp 1).toBool) (.call 109 [.agg [VS ((r5.cs.getD 0 .any).ah),(r5.cs.getD 1 .any)]] [] fun r11 o11=>NI r11<|.done 0 [.cA [.agg [VS ((r5.cs.getD 0 .any).ah),(r5.cs.getD 1 .any)],VB (decide (r11.toInt<=(400:Int)))]] []) (.done 0 [.cA [.agg [VS ((r5.cs.getD 0 .any).ah),(r5.cs.getD 1 .any)],VB false]] [])) (.done 0 [.cA [.agg [VS ((r5.cs.getD 0 .any).ah),(r5.cs.getD 1 .any)],VB false]] []))))
theorem Eb(a0_0:ByteArray)(a0_1:AV)(a1:ByteArray)(ha0_1:LK.has .sl a0_1)(h:di 79 (CG a0_0 a0_1 a1) R):ap Tryz.prog 175 [.agg [VS a0_0,a0_1],VS a1] [] R :=
 uQ (ag (ca (ag (aw _) (ag (bJ ha0_1) aA))) (ag (aw _) aA)) (oQ [] Tryz.f175 h)
def Lm(a0_0:ByteArray)(a0_1:AV)(a1:ByteArray)(a2_0:ByteArray)(a2_1:AV):Tree :=
 .call 142 [.agg [VS a0_0,a0_1],VS a1,.agg [VS a2_0,a2_1]] [] fun r1 o1=>NB r1<|.test (!r1.toBool) (.done 0 [.cA [.agg [VS a0_0,a0_1],VB false]] []) (.call 143 [.agg [VS a0_0,a0_1],VS a1,.agg [VS a2_0,a2_1]] [] fun r2 o2=>NA r2<|.done 0 [.cA [.agg [VS ((r2.cs.getD 0 .any).ah),(r2.cs.getD 1 .any)],VB true]] [])
theorem TY(a0_0:ByteArray)(a0_1:AV)(a1:ByteArray)(a2_0:ByteArray)(a2_1:AV)(ha0_1:LK.has .sl a0_1)(ha2_1:LK.has .sl a2_1)(h:di 18 (Lm a0_0 a0_1 a1 a2_0 a2_1) R):ap Tryz.prog 176 [.agg [VS a0_0,a0_1],VS a1,.agg [VS a2_0,a2_1]] [] R :=
 uQ (ag (ca (ag (aw _) (ag (bJ ha0_1) aA))) (ag (aw _) (ag (ca (ag (aw _) (ag (bJ ha2_1) aA))) aA))) (oQ [] Tryz.f176 h)
def NO(a0:ByteArray):Tree :=
 .call 97 [VS a0] [] fun r1 o1=>NT r1<|.aj ((r1.comp 0)=.agg (r1.comp 0).cs/\(r1.comp 0).cs.length=2/\bz [.str,.sl] ((r1.comp 0).cs) 0)<|NB (r1.comp 1)<|.done 0 [VB ((r1.comp 1).toBool)] []
theorem RW(a0:ByteArray)(h:di 11 (NO a0) R):ap Tryz.prog 177 [VS a0] [] R :=
 uQ (ag (aw _) aA) (oQ [] Tryz.f177 h)
def HI:LI:={hd:={bL:=[(17,.k (.int .i64))],refs:=[(4,4),(12,12),(14,14)],ck:=[(4,[.lk .str,.lk .sl]),(12,[.lk .str,.lk .sl]),(14,[.lk .str,.lk .sl])],eA:=[(16,1)]},xs:={bL:=[(17,.k (.int .i64))],refs:=[(4,4),(12,12),(14,14)],ck:=[(4,[.lk .str,.lk .sl]),(12,[.lk .str,.lk .sl]),(14,[.lk .str,.lk .sl])]},rt:={},ex:=0}
def Kq:Code:=cC (cw Tryz.f190) 13
def Ld:List (Nat×LI):=[(13,HI)]
def OB(a0_0:ByteArray)(a0_1:AV)(a1:ByteArray):Tree :=
 .call 83 [.agg [VS a0_0,a0_1],.sl [[VS a1,.v (.slice none 0 0)]]] [] fun r1 o1=>NA r1<|NG (r1.cs.getD 1 .any) 1 2<|kK ((r1.cs.getD 1 .any).ix (1:Int))<|NG (r1.cs.getD 1 .any) 2 2<|NE ((r1.cs.getD 1 .any).ix (2:Int))<|.call 175 [.agg [VS ((((r1.cs.getD 1 .any).ix (2:Int)).getD 0 .any).ah),(((r1.cs.getD 1 .any).ix (2:Int)).getD 1 .any)],VS a1] [] fun r2 o2=>NT r2<|.aj ((r2.comp 0)=.agg (r2.comp 0).cs/\(r2.comp 0).cs.length=2/\bz [.str,.sl] ((r2.comp 0).cs) 0)<|NB (r2.comp 1)<|NG (r1.cs.getD 1 .any) 2 2<|NE ((r1.cs.getD 1 .any).ix (2:Int))<|.call 175 [.agg [VS ((((r1.cs.getD 1 .any).ix (2:Int)).getD 0 .any).ah),(((r1.cs.getD 1 .any).ix (2:Int)).getD 1 .any)],VS ((((r1.cs.getD 1 .any).ix (1:Int)).hA).ah)] [] fun r3 o3=>NT r3<|.aj ((r3.comp 0)=.agg (r3.comp 0).cs/\(r3.comp 0).cs.length=2/\bz [.str,.sl] ((r3.comp 0).cs) 0)<|NB (r3.comp 1)<|.test (!((r2.comp 1).toBool)) (.done 0 [.cA [.agg [VS ((r1.cs.getD 0 .any).ah),(r1.cs.getD 1 .any)],VB false]] []) (.test (!((r3.comp 1).toBool)) (.done 0 [.cA [.agg [VS ((r1.cs.getD 0 .any).ah),(r1.cs.getD 1 .any)],VB false]] []) (.call 176 [.agg [VS (((r2.comp 0).cs.getD 0 .any).ah),((r2.comp 0).cs.getD 1 .any)],VS ((((r1.cs.getD 1 .any).ix (1:Int)).hA).ah),.agg [VS ((r1.cs.getD 0 .any).ah),(r1.cs.getD 1 .any)]] [] fun r4 o4=>NT r4<|.aj ((r4.comp 0)=.agg (r4.comp 0).cs/\(r4.comp 0).cs.length=2/\bz [.str,.sl] ((r4.comp 0).cs) 0)<|NB (r4.comp 1)<|.call 176 [.agg [VS (((r3.comp 0).cs.getD 0 .any).ah),((r3.comp 0).cs.getD 1 .any)],VS ((((r1.cs.getD 1 .any).ix (1:Int)).hA).ah),.agg [VS ((r1.cs.getD 0 .any).ah),(r1.cs.getD 1 .any)]] [] fun r5 o5=>NT r5<|.aj ((r5.comp 0)=.agg (r5.comp 0).cs/\(r5.comp 0).cs.length=2/\bz [.str,.sl] ((r5.comp 0).cs) 0)<|NB (r5.comp 1)<|.test (!((r4.comp 1).toBool)) (.done 0 [.cA [.agg [VS ((r1.cs.getD 0 .any).ah),(r1.cs.getD 1 .any)],VB false]] []) (.test (!((r5.comp 1).toBool)) (.done 0 [.cA [.agg [VS ((r1.cs.getD 0 .any).ah),(r1.cs.getD 1 .any)],VB false]] []) (.call 98 [.agg [VS (((r5.comp 0).cs.getD 0 .any).ah),((r5.comp 0).cs.getD 1 .any)],.sl [],.vec 0] [.vec 1 []] fun r6 o6=>.aj (r6=.vec 1/\(o6.tail.hO)=.vec 1 (o6.tail.hO).es)<|.call 98 [.agg [VS (((r4.comp 0).cs.getD 0 .any).ah),((r4.comp 0).cs.getD 1 .any)],.sl [],.vec 0] [.vec 1 ((o6.tail.hO).es)] fun r7 o7=>.aj (r7=.vec 1/\(o7.tail.hO)=.vec 1 (o7.tail.hO).es)<|.loop Kq HI [VI 0] [.cells [VS (mk []),.v (.slice none 0 0)],.cells [VS (((r4.comp 0).cs.getD 0 .any).ah),((r4.comp 0).cs.getD 1 .any)],.cells [VS (((r5.comp 0).cs.getD 0 .any).ah),((r5.comp 0).cs.getD 1 .any)],.vec 1 ((o7.tail.hO).es)] (fun y10 q10=>NI (y10.hA)<|.aj ((q10.hO)=.cells (q10.hO).cs)<|.aj (ac [.lk .str,.lk .sl] ((q10.hO).cs) 0 q10.tail)<|.aj (((q10.tail.drop 0).hO)=.cells ((q10.tail.drop 0).hO).cs)<|.aj (ac [.lk .str,.lk .sl] (((q10.tail.drop 0).hO).cs) 0 ((q10.tail.drop 0).tail))<|.aj ((((q10.tail.drop 0).tail.drop 0).hO)=.cells (((q10.tail.drop 0).tail.drop 0).hO).cs)<|.aj (ac [.lk .str,.lk .sl] ((((q10.tail.drop 0).tail.drop 0).hO).cs) 0 (((q10.tail.drop 0).tail.drop 0).tail))<|.call 111 [VI ((y10.hA).toInt)] [] fun r11 o11=>NS r11<|.aj (af (mk [116])+af r11.ah<=9223372036854775807)<|.call 78 [VS (mk [42]),.sl [[VS (((q10.tail.tail.hO).cs.getD 0 .any).ah),((q10.tail.tail.hO).cs.getD 1 .any)],[VS (((mk [116]):ByteArray)++r11.ah),.v (.slice none 0 0)]]] [] fun r12 o12=>NA r12<|.call 78 [VS (mk [43]),.sl [[VS (((q10.tail.hO).cs.getD 0 .any).ah),((q10.tail.hO).cs.getD 1 .any)],[VS ((r12.cs.getD 0 .any).ah),(r12.cs.getD 1 .any)]]] [] fun r13 o13=>NA r13<|.call 78 [VS (mk [114,101,99]),.sl [[VS (((mk [116]):ByteArray)++r11.ah),.v (.slice none 0 0)],[VS ((r13.cs.getD 0 .any).ah),(r13.cs.getD 1 .any)]]] [] fun r14 o14=>NA r14<|.call 109 [.agg [VS ((r14.cs.getD 0 .any).ah),(r14.cs.getD 1 .any)]] [] fun r15 o15=>NI r15<|.done 0 [.cA [.agg [VS ((r14.cs.getD 0 .any).ah),(r14.cs.getD 1 .any)],VB (decide (r15.toInt<=(400:Int)))]] []) (fun y10 q10=>.fail)))))
theorem SX(a0_0:ByteArray)(a0_1:AV)(a1:ByteArray)(ha0_1:LK.has .sl a0_1)(h:di 108 (OB a0_0 a0_1 a1) R):ap Tryz.prog 190 [.agg [VS a0_0,a0_1],VS a1] [] R :=
 uQ (ag (ca (ag (aw _) (ag (bJ ha0_1) aA))) (ag (aw _) aA)) (oQ Ld Tryz.f190 h)
def Oz(x17:Int)(o4_0:ByteArray)(o4_1:AV)(o12_0:ByteArray)(o12_1:AV)(o14_0:ByteArray)(o14_1:AV)(e16:List (List AV)):Tree :=
 NI (VI x17)<|.aj (Ob.cells [VS o4_0,o4_1]=.cells [VS o4_0,o4_1])<|.aj (ac [.lk .str,.lk .sl] [VS o4_0,o4_1] 0 [.cells [VS o12_0,o12_1],.cells [VS o14_0,o14_1],.vec 1 e16])<|.aj (Ob.cells [VS o12_0,o12_1]=.cells [VS o12_0,o12_1])<|.aj (ac [.lk .str,.lk .sl] [VS o12_0,o12_1] 0 [.cells [VS o14_0,o14_1],.vec 1 e16])<|.aj (Ob.cells [VS o14_0,o14_1]=.cells [VS o14_0,o14_1])<|.aj (ac [.lk .str,.lk .sl] [VS o14_0,o14_1] 0 [.vec 1 e16])<|.aj (Ob.vec 1 e16=.vec 1 e16)<|.call 111 [VI x17] [] fun r1 o1=>NS r1<|.aj (af (mk [116])+af r1.ah<=9223372036854775807)<|.call 139 [.sl e16,VS (((mk [116]):ByteArray)++r1.ah)] [] fun r2 o2=>NB r2<|.test r2.toBool (.done 0 [VI (IntKind.wrap .i64 (x17+1))] [.cells [VS o4_0,o4_1],.cells [VS o12_0,o12_1],.cells [VS o14_0,o14_1],.vec 1 e16]) (.done 1 [VI x17] [.cells [VS o4_0,o4_1],.cells [VS o12_0,o12_1],.cells [VS o14_0,o14_1]])
abbrev Jh:=cy Tryz.prog 108 Kq HI
theorem RX(x17:Int)(o4_0:ByteArray)(o4_1:AV)(o12_0:ByteArray)(o12_1:AV)(o14_0:ByteArray)(o14_1:AV)(e16:List (List AV))(h:jx 108 (Oz x17 o4_0 o4_1 o12_0 o12_1 o14_0 o14_1 e16) Jh U):Jh [VI x17] [.cells [VS o4_0,o4_1],.cells [VS o12_0,o12_1],.cells [VS o14_0,o14_1],.vec 1 e16] U :=
 gQ Ld h
end
end Go.Proofs.Trees
namespace Go.Proofs.Trees
open Go Go.VL
theorem bp(i:Nat)(h:i<1000000000000):IntKind.wrap .i64 ((i:Int)+1)=((i+1:Nat):Int):=by rw[wrap64]<;>omega
inductive E where
 |atom (s:List UInt8)
 |list (l:List E)
mutual
def E.cF:E->AV
 | .atom s=>.ptr [.v (.string (mk s)),.v (.slice none 0 0)]
 | .list l=>.ptr [.v (.string (mk [])),.sl (E.my l)]
def E.my:List E->List (List AV)
 |[]=>[]
 |e::l=>[e.cF]::E.my l
end
mutual
def E.iq:E->List AV
 | .atom s=>[.v (.string (mk s)),.v (.slice none 0 0)]
 | .list l=>[.v (.string (mk [])),.sl (E.bw l)]
def E.bw:List E->List (List AV)
 |[]=>[]
 |e::l=>e.iq::E.bw l
end
def E.kE(e:E):AV:=.agg e.iq
theorem vI(l r:List E):E.my (l++r)=E.my l++E.my r:=by
 induction l with
 |nil=>rfl
 |cons e l ih=>simp[E.my,ih]
theorem qz(l r:List E):E.bw (l++r)=E.bw l++E.bw r:=by
 induction l with
 |nil=>rfl
 |cons e l ih=>simp[E.bw,ih]
theorem rD(l:List E):(E.my l).length=l.length:=by
 induction l with
 |nil=>rfl
 |cons e l ih=>simp[E.my,ih]
theorem dY(l:List E):(E.bw l).length=l.length:=by
 induction l with
 |nil=>rfl
 |cons e l ih=>simp[E.bw,ih]
def eV(b:UInt8):Bool:=decide ((97<=b.toNat/\b.toNat<=122)\/(48<=b.toNat/\b.toNat<=57)\/b.toNat=43\/b.toNat=42)
def sP(f:List UInt8->Option (E×List UInt8)):Nat->List UInt8->List E->Option (E×List UInt8)
 |0,_,_=>none
 |
  n+1,s,acc=>match f s with
  |some (p,c::r)=>if c.toNat=41 then some (.list (acc++[p]),r)else if c.toNat=32 then sP f n r (acc++[p])else none
  |_=>none
def rd:Nat->List UInt8->Option (E×List UInt8)
 |0,s=>if s.takeWhile eV=[]then none else some (.atom (s.takeWhile eV),s.dropWhile eV)
 |k+1,s=>if s.takeWhile eV=[]then(match s with
  |c::r=>if c.toNat=40 then sP (rd k) (r.length+1) r []else none
  |[]=>none)else some (.atom (s.takeWhile eV),s.dropWhile eV)
theorem CO{f:List UInt8->Option (E×List UInt8)}(hf:∀s e r,f s=some (e,r)->r.length<s.length):∀(n:Nat) (s:List UInt8) (acc:List E) (e:E) (r:List UInt8),sP f n s acc=some (e,r)->r.length<s.length
 |0,s,acc,e,r,h=>by cases h
 |
  n+1,s,acc,e,r,h=>by
  simp only[sP]at h
  split at h
  ·rename_i p c r' hs
   have:=hf _ _ _ hs
   simp only[au]at this
   split at h
   ·cases h;omega
   ·split at h
    ·have:=CO hf n _ _ _ _ h;omega
    ·cases h
  ·cases h
theorem ov{s:List UInt8}(h:¬s.takeWhile eV=[]):(s.dropWhile eV).length<s.length:=by
 have h1:=congrArg List.length (List.takeWhile_append_dropWhile (p:=eV) (l:=s))
 simp only[an]at h1
 have:0<(s.takeWhile eV).length:=List.length_pos_iff.2 h
 omega
theorem zM:∀(k:Nat) (s:List UInt8) (e:E) (r:List UInt8),rd k s=some (e,r)->r.length<s.length
 |
  0,s,e,r,h=>by
  simp only[rd]at h
  split at h
  ·cases h
  ·rename_i hn;cases h;exact ov hn
 |
  k+1,s,e,r,h=>by
  simp only[rd]at h
  split at h
  ·split at h
   ·split at h
    ·have:=CO (zM k) _ _ _ _ _ h
     simp only[au];omega
    ·cases h
   ·cases h
  ·rename_i hn;cases h;exact ov hn
theorem Sd(b:UInt8):ap Tryz.prog 162 [.v (.int .u8 (b.toNat:Int))] [] (bG (.v (.bool (eV b)))):=by
 refine SH _ ?_
 simp only[L3,↓zq,zs,ac,bG,eV]
 repeat' (apply aI<;>intro _)
 all_goals first|(congr 2;rw[cx];simp;omega)|(congr 2;simp;omega)
theorem yx{s:List UInt8}{i:Nat}(hi:i<s.length)(hb:eV (s.getD i 0)=true):((s.drop i).takeWhile eV).length=((s.drop (i+1)).takeWhile eV).length+1:=by
 have e:s.drop i=s.getD i 0::s.drop (i+1):=by
  rw[aP hi];simp[aa,hi]
 rw[e,List.takeWhile_cons_of_pos hb];simp
theorem qY{s:List UInt8}{i:Nat}(hi:i<s.length)(hb:eV (s.getD i 0)=false):(s.drop i).takeWhile eV=[]:=by
 have e:s.drop i=s.getD i 0::s.drop (i+1):=by
  rw[aP hi];simp[aa,hi]
 rw[e,List.takeWhile_cons_of_neg (by rw[hb];simp)]
theorem Ib(s:List UInt8)(hs:s.length<=8000)(d:Int):∀(k i:Nat),i+k=s.length->Ht [.v (.string (mk s)),.v (.int .i64 d),.v (.int .i64 (i:Int))] [] (gj 1 [.v (.string (mk s)),.v (.int .i64 d),.v (.int .i64 ((i+((s.drop i).takeWhile eV).length:Nat):Int))] [])
 |
  0,i,hi=>by
  refine MG _ _ _ ?_
  have hd:s.drop i=[]:=bU (by omega)
  simp only[Im,↓zq,zs,ac,zt]
  exact⟨fun h=>by omega,fun _=>by simp[gj,hd]⟩
 |
  k+1,i,hi=>by
  have hlt:i<s.length:=by omega
  refine MG _ _ _ ?_
  simp only[Im,↓zq,zs,ac,zt,mo s i hlt]
  refine⟨fun _=>⟨by omega,?_⟩,fun h=>by omega⟩
  refine ai (Sd _) ?_
  simp only[↓zq,zs,ac]
  refine⟨fun hb=>?_,fun hb=>?_⟩
  ·rw[bp i (by omega)]
   have:=Ib s hs d k (i+1) (by omega)
   rw[yx hlt hb,show i+(((s.drop (i+1)).takeWhile eV).length+1)=i+1+((s.drop (i+1)).takeWhile eV).length by omega]
   exact this
  ·simp[gj,qY hlt hb]
def oU(s:List UInt8):Option (E×List UInt8)->AV
 |some (e,r)=>.cA [e.cF,.v (.string (mk r))]
 |none=>.cA [.v (.pointer none),.v (.string (mk s))]
theorem cV(e:E):LK.has .ptr e.cF=True:=by cases e<;>simp[E.cF,cb]
theorem ej(e:E):e.cF.isNil=false:=by cases e<;>rfl
theorem uA(s:List UInt8):s.take (s.takeWhile eV).length=s.takeWhile eV:=by
 have h:=List.takeWhile_append_dropWhile (p:=eV) (l:=s)
 have:(s.takeWhile eV++s.dropWhile eV).take (s.takeWhile eV).length=s.takeWhile eV:=List.take_left
 rw[h]at this;exact this
theorem zG(s:List UInt8):s.drop (s.takeWhile eV).length=s.dropWhile eV:=by
 have h:=List.takeWhile_append_dropWhile (p:=eV) (l:=s)
 have:(s.takeWhile eV++s.dropWhile eV).drop (s.takeWhile eV).length=s.dropWhile eV:=List.drop_left
 rw[h]at this;exact this
theorem BP(c:UInt8)(r:List UInt8):(List.take (r.length+1) (c::r)).drop (bM 1)=r:=by simp
theorem Le(s0:List UInt8)(k:Nat)(hk:k<300)(ih:∀s,s.length<=8000->ap Tryz.prog 144 [.v (.string (mk s)),.v (.int .i64 ((300-k:Nat):Int))] [] (bG (oU s (rd k s)))) :
 ∀(n:Nat) (s:List UInt8) (acc:List E),s.length<n->s.length+acc.length<=8000->H0 [.v (.string (mk s0)),.v (.int .i64 ((300-(k+1):Nat):Int)),.v (.string (mk s))] [.cells [.v (.string (mk [])),.any],.vec 1 (E.my acc)]
  (nL (match sP (rd k) n s acc with|some (e,r)=>(2,[e.cF,.v (.string (mk r))],[])|none=>(2,[.v (.pointer none),.v (.string (mk s0))],[])))
 |0,s,acc,hn,_=>by omega
 |
  n+1,s,acc,hn,hl=>by
  refine So _ _ _ _ _ ?_
  simp only[LF,↓zq,zs,ac,Cd]
  have hd:IntKind.wrap .i64 (((300-(k+1):Nat):Int)+1)=((300-k:Nat):Int):=by rw[wrap64]<;>omega
  rw[hd]
  refine ai (ih s (by omega)) ?_
  have hlt:=zM k s
  cases hr:rd k s with
  |
   none =>
   simp only[oU,↓zq,zs,ac,sP,hr]
   simp[nL]
  |
   some q =>
   obtain⟨e,r⟩:=q
   have:=hlt e r hr
   cases r with
   |
    nil =>
    simp only[oU,↓zq,zs,ac,zt,sP,hr,cV,ej]
    simp[nL]
   |
    cons c r =>
    simp only[au]at this
    have hb:=mo (c::r) 0 (by simp)
    simp only[Int.ofNat_eq_natCast,Int.cast_ofNat_Int]at hb
    have e2:(List.take (c::r).length (c::r)).drop 1=r:=by simp
    simp only[oU,↓zq,zs,ac,zt,sP,hr,cV,ej,hb,e2,rD]
    refine⟨fun h=>(by cases h),fun _=>⟨fun h=>(by cases h),fun _=>⟨⟨fun c hc=>(by simp at hc;rw[hc];rfl),by omega⟩,by omega,by omega,fun h41=>?_,fun h41=>⟨by omega,fun h32=>?_,fun h32=>?_⟩⟩⟩⟩
    ·have h41':c.toNat=41:=by omega
     rw[BP,if_pos h41']
     simp[nL,E.cF,vI,E.my]
    ·have h41':¬c.toNat=41:=by omega
     have h32':¬c.toNat=32:=by omega
     rw[if_neg h41',if_neg h32']
    ·have h41':¬c.toNat=41:=by omega
     have h32':c.toNat=32:=by omega
     rw[BP,if_neg h41',if_pos h32']
     have:=Le s0 k hk ih n r (acc++[e]) (by omega) (by simp;omega)
     simpa[vI,E.my]using this
theorem TU:∀(k:Nat),k<=300->∀s:List UInt8,s.length<=8000->ap Tryz.prog 144 [.v (.string (mk s)),.v (.int .i64 ((300-k:Nat):Int))] [] (bG (oU s (rd k s))):=by
 intro k
 induction k with
 |
  zero =>
  intro hk s hs
  refine Lu _ _ ?_
  unfold IU
  refine co (Ib s hs _ s.length 0 (by omega)) ?_
  simp only[↓zq,zs,ac,zt,aY,bG]
  have hw:(s.takeWhile eV).length<=s.length:=by
   have:=congrArg List.length (List.takeWhile_append_dropWhile (p:=eV) (l:=s))
   simp only[an]at this;omega
  refine⟨fun h=>⟨by omega,by omega,?_⟩,fun h=>?_⟩
  ·have hne:¬s.takeWhile eV=[]:=fun e=>by rw[e]at h;simp at h
   simp only[rd,if_neg hne,oU,E.cF,uA,zG]
  ·have hnil:s.takeWhile eV=[]:=bR (by omega)
   simp only[rd,if_pos hnil,oU]
   refine⟨fun _=>trivial,fun hne=>⟨?_,?_⟩⟩
   ·cases s with
    |nil=>exact absurd rfl hne
    |cons c s=>simp
   ·exact⟨fun _=>trivial,fun _=>⟨fun _=>trivial,fun h=>absurd rfl h⟩⟩
 |
  succ k ih =>
  intro hk s hs
  refine Lu _ _ ?_
  unfold IU
  refine co (Ib s hs _ s.length 0 (by omega)) ?_
  simp only[↓zq,zs,ac,zt,aY,bG]
  have hw:(s.takeWhile eV).length<=s.length:=by
   have:=congrArg List.length (List.takeWhile_append_dropWhile (p:=eV) (l:=s))
   simp only[an]at this;omega
  refine⟨fun h=>⟨by omega,by omega,?_⟩,fun h=>?_⟩
  ·have hne:¬s.takeWhile eV=[]:=fun e=>by rw[e]at h;simp at h
   simp only[rd,if_neg hne,oU,E.cF,uA,zG]
  ·have hnil:s.takeWhile eV=[]:=bR (by omega)
   simp only[rd,if_pos hnil]
   cases s with
   |nil=>simp[oU]
   |
    cons c s =>
    have hb:=mo (c::s) 0 (by simp)
    simp only[Int.ofNat_eq_natCast,Int.cast_ofNat_Int]at hb
    simp only[au]at hs
    simp only[↓zq,zs,ac,hb,BP]
    refine⟨fun h=>(by cases h),fun _=>⟨by omega,fun h40=>?_,fun h40=>⟨fun h300=>?_,fun h300=>⟨by omega,?_⟩⟩⟩⟩
    ·have:¬c.toNat=40:=by omega
     rw[if_neg this];rfl
    ·omega
    ·have h40':c.toNat=40:=by omega
     rw[if_pos h40']
     refine fg (Le (c::s) k (by omega) (ih (by omega)) (s.length+1) s [] (by omega) (by simp;omega)) (fun ys o e=>?_) (fun ys o e=>?_)
     ·split at e<;>cases e
     ·split at e<;>cases e
      ·rename_i e' r' hr
       simp only[↓zq,zs,ac,cV]
       simp only[hr,oU]
      ·rename_i hr
       simp only[↓zq,zs,ac]
       simp only[hr,oU]
end Go.Proofs.Trees
namespace Go.Proofs.Trees
open Go Go.VL
mutual
def E.sz:E->Nat
 | .atom _=>1
 | .list l=>1+E.jp l
def E.jp:List E->Nat
 |[]=>0
 |e::l=>e.sz+E.jp l
end
mutual
def E.ok:E->Prop
 | .atom s=>s≠[]
 | .list l=>E.Ev l
def E.Ev:List E->Prop
 |[]=>True
 |e::l=>e.ok/\E.Ev l
end
theorem yT(l r:List E):E.jp (l++r)=E.jp l+E.jp r:=by
 induction l with
 |nil=>simp[E.jp]
 |cons e l ih=>simp[E.jp,ih];omega
theorem za(l r:List E):E.Ev (l++r)↔E.Ev l/\E.Ev r:=by
 induction l with
 |nil=>simp[E.Ev]
 |cons e l ih=>simp[E.Ev,ih,and_assoc]
theorem CT{f:List UInt8->Option (E×List UInt8)}(hf:∀s e r,f s=some (e,r)->e.ok/\e.sz+r.length<=s.length):∀(n:Nat) (s:List UInt8) (acc:List E) (e:E) (r:List UInt8),sP f n s acc=some (e,r)->E.Ev acc->e.ok/\e.sz+r.length<=s.length+1+E.jp acc
 |0,s,acc,e,r,h,_=>by cases h
 |
  n+1,s,acc,e,r,h,ha=>by
  simp only[sP]at h
  split at h
  ·rename_i p c r' hs
   obtain⟨h1,h2⟩:=hf _ _ _ hs
   simp only[au]at h2
   split at h
   ·cases h
    refine⟨(za _ _).2 ⟨ha,h1,trivial⟩,?_⟩
    simp only[E.sz,yT,E.jp];omega
   ·split at h
    ·have:=CT hf n _ _ _ _ h ((za _ _).2 ⟨ha,h1,trivial⟩)
     refine⟨this.1,?_⟩
     have h3:=this.2
     simp only[yT,E.jp]at h3;omega
    ·cases h
  ·cases h
theorem u4(s:List UInt8):(s.takeWhile eV).length+(s.dropWhile eV).length=s.length:=by
 have:=congrArg List.length (List.takeWhile_append_dropWhile (p:=eV) (l:=s))
 simpa only[an]using this
theorem E8:∀(k:Nat) (s:List UInt8) (e:E) (r:List UInt8),rd k s=some (e,r)->e.ok/\e.sz+r.length<=s.length
 |
  0,s,e,r,h=>by
  simp only[rd]at h
  split at h
  ·cases h
  ·rename_i hn;cases h
   have:=u4 s
   have:0<(s.takeWhile eV).length:=List.length_pos_iff.2 hn
   exact⟨hn,by simp only[E.sz];omega⟩
 |
  k+1,s,e,r,h=>by
  simp only[rd]at h
  split at h
  ·split at h
   ·split at h
    ·have:=CT (E8 k) _ _ _ _ _ h trivial
     refine⟨this.1,?_⟩
     have h3:=this.2
     simp only[E.jp,au]at h3 |-;omega
    ·cases h
   ·cases h
  ·rename_i hn;cases h
   have:=u4 s
   have:0<(s.takeWhile eV).length:=List.length_pos_iff.2 hn
   exact⟨hn,by simp only[E.sz];omega⟩
def qS(s:List UInt8):Option E:=if s.length>8000 then none else match rd 300 s with|some (e,[])=>some e|_=>none
theorem oc{s:List UInt8}{e:E}(h:qS s=some e):e.ok/\e.sz<=8000:=by
 unfold qS at h
 split at h
 ·cases h
 ·split at h
  ·rename_i e' hr
   cases h
   have:=E8 _ _ _ _ hr
   exact⟨this.1,by have:=this.2;simp at this;omega⟩
  ·cases h
def uO:Option E->AV
 |some e=>e.cF
 |none=>.v (.pointer none)
theorem KV(s:List UInt8):ap Tryz.prog 113 [.v (.string (mk s))] [] (bG (uO (qS s))):=by
 refine Tp _ ?_
 simp only[Kz,↓zq,zs,ac,zt,bG,qS]
 refine⟨fun h=>?_,fun h=>?_⟩
 ·rw[if_pos (by omega)];simp[uO]
 ·rw[if_neg (by omega)]
  refine ai (TU 300 (by omega) s (by omega)) ?_
  cases hr:rd 300 s with
  |
   none =>
   simp only[oU,↓zq,zs,ac,zt,uO]
   refine⟨fun _=>trivial,fun _=>trivial⟩
  |
   some q =>
   obtain⟨e,r⟩:=q
   cases r with
   |nil=>simp only[oU,↓zq,zs,ac,zt,uO,cV];simp
   |cons c r=>simp only[oU,↓zq,zs,ac,zt,uO,cV];simp
def ij(b:UInt8):Bool:=decide (48<=b.toNat/\b.toNat<=57)
def named(lo hi:Nat):List UInt8->Bool
 |[]=>false
 |c::r=>decide (r.length<=2)&&decide (lo<=c.toNat/\c.toNat<=hi)&&r.all ij
def gU(s:List UInt8):Bool:=named 120 122 s
def dk(s:List UInt8):Bool:=named 116 116 s
def Dd(v lo hi:Int):Bool:=decide (lo<=v/\v<=hi)
theorem A4(v lo hi:Int):ap Tryz.prog 60 [.v (.int .i64 v),.v (.int .i64 lo),.v (.int .i64 hi)] [] (bG (.v (.bool (Dd v lo hi)))):=by
 refine Q6 _ _ _ ?_
 simp only[Px,↓zq,zs,ac,bG,Dd]
 constructor<;>intro h<;>simp at h<;>simp[h]
 omega
theorem Pa(s:List UInt8)(hs:s.length<=3):∀(k i:Nat),i+k=s.length->IC [.v (.string (mk s)),.v (.int .i64 (i:Int))] [] (nL (if(s.drop i).all ij=true then(1,[],[])else(2,[.v (.bool false)],[])))
 |
  0,i,hi=>by
  have hd:s.drop i=[]:=bU (by omega)
  refine Nl _ _ ?_
  simp only[GI,↓zq,zs,ac,zt]
  exact⟨fun h=>by omega,fun _=>by simp[nL,hd]⟩
 |
  k+1,i,hi=>by
  have hlt:i<s.length:=by omega
  have e:s.drop i=s.getD i 0::s.drop (i+1):=by
   rw[aP hlt];simp[aa,hlt]
  refine Nl _ _ ?_
  simp only[GI,↓zq,zs,ac,zt,mo s i hlt,e,db]
  generalize hb:s.getD i 0=b
  refine⟨fun _=>⟨by omega,fun h=>?_,fun h=>⟨by omega,fun h2=>?_,fun h2=>?_⟩⟩,fun h=>by omega⟩
  ·have:ij b=false:=by simp[ij];omega
   simp only[this,zf,nL]
  ·have:ij b=false:=by simp[ij];omega
   simp only[this,zf,nL]
  ·have:ij b=true:=by simp[ij];omega
   rw[bp i (by omega),this,bX]
   exact Pa s hs k (i+1) (by omega)
theorem Ns(s:List UInt8)(lo hi:Nat):ap Tryz.prog 140 [.v (.string (mk s)),.v (.int .u8 (lo:Int)),.v (.int .u8 (hi:Int))] [] (bG (.v (.bool (named lo hi s)))):=by
 refine Tm _ _ _ ?_
 unfold Pd
 rw[cJ]
 refine ai (A4 _ _ _) ?_
 simp only[↓zq,zs,ac,zt,bG]
 refine⟨fun h=>?_,fun h=>?_⟩
 ·cases s with
  |nil=>rfl
  |
   cons c s =>
   simp[Dd]at h
   have:¬s.length<=2:=by omega
   simp[named,this]
 ·cases s with
  |nil=>simp[Dd]at h
  |
   cons c s =>
   simp[Dd]at h
   have hl:s.length<=2:=by omega
   have hb:=mo (c::s) 0 (by simp)
   simp only[Int.ofNat_eq_natCast,Int.cast_ofNat_Int]at hb
   simp only[↓zq,zs,ac,hb]
   refine⟨by omega,fun h1=>?_,fun h1=>⟨by omega,fun h2=>?_,fun h2=>?_⟩⟩
   ·have:¬lo<=c.toNat:=by omega
    simp[named,this]
   ·have:¬c.toNat<=hi:=by omega
    simp[named,this]
   ·refine fg (Pa (c::s) (by simp;omega) s.length 1 (by simp;omega)) (fun ys o e=>?_) (fun ys o e=>?_)
    ·split at e<;>cases e
     rename_i ha
     simp at ha
     simp only[↓zq,zs,ac]
     simp[named,hl]
     exact⟨⟨by omega,by omega⟩,fun x hx=>by simpa using ha x hx⟩
    ·split at e<;>cases e
     rename_i ha
     simp only[↓zq,zs,ac]
     have:s.all ij=false:=by simpa using ha
     simp[named,this]
theorem Je(s:List UInt8):ap Tryz.prog 101 [.v (.string (mk s))] [] (bG (.v (.bool (gU s)))):=by
 refine Rx _ ?_
 unfold L7
 refine ai (Ns s 120 122) ?_
 simp only[↓zq,zs,ac,bG,gU]
theorem Gt(s:List UInt8):ap Tryz.prog 99 [.v (.string (mk s))] [] (bG (.v (.bool (dk s)))):=by
 refine Qy _ ?_
 unfold Nc
 refine ai (Ns s 116 116) ?_
 simp only[↓zq,zs,ac,bG,dk]
end Go.Proofs.Trees
namespace Go.Proofs.Trees
open Go Go.VL Go.RowKit
theorem Sj(l:List UInt8)(c:UInt8):ap Tryz.prog 178 [.v (.string (mk l)),.v (.string (mk [c]))] [] (bG (.v (.bool (decide (0<=Lib.indexByte l c))))):=by
 refine ap.T0 (xs:=[.string (mk l),.string (mk [c])]) ⟨nI,by kernel_rfl,by kernel_rfl,by kernel_rfl⟩ fun w=>?_
 have:=Any.strings_Contains_one Tryz.EO (mk l) c w
 refine Calls.mono this fun e w' ⟨h1,h2⟩=>?_
 rw[h2]
 have hd:(mk l).data.toList=l:=by simp[mk]
 exact⟨by rw[h1,hd],Below.refl _ _⟩
theorem NX(l cs:List UInt8)(hl:l.length<=1000000)(hc:cs.length<=1000)(ha:∀b,b∈cs->b.toNat<128):ap Tryz.prog 169 [.v (.string (mk l)),.v (.string (mk cs))] [] (bG (.v (.string (mk (Lib.trimS l cs))))):=by
 refine ap.T0 (xs:=[.string (mk l),.string (mk cs)]) ⟨qD,by kernel_rfl,by kernel_rfl,by kernel_rfl⟩ fun w=>?_
 have:=Any.strings_Trim_laid Tryz.Ee (by kernel_rfl) (mk l) (mk cs) w (by rw[cJ];omega) (by rw[cJ];omega) (fun j b hj=>ha b (by
  have:(mk cs).data.toList=cs:=by simp[mk]
  rw[this]at hj
  exact List.mem_of_getElem? hj))
 refine Calls.mono this fun e w' ⟨h1,h2⟩=>⟨?_,h2⟩
 rw[h1]
 simp[mk]
theorem nK:∀(l:List UInt8) (c:UInt8),(0<=Lib.indexByte l c↔c∈l)/\-1<=Lib.indexByte l c
 |[],c=>by simp[Lib.indexByte]
 |
  b::l,c=>by
  obtain⟨h1,h2⟩:=nK l c
  unfold Lib.indexByte
  by_cases e:b=c
  ·subst e;simp
  ·have e':(b==c)=false:=by simp[e]
   rw[e']
   by_cases q:Lib.indexByte l c = -1
   ·have:c∉l:=fun h=>by have:=h1.2 h;omega
    simp[q,this,Ne.symm e]
   ·have q':(Lib.indexByte l c==-1)=false:=by simp[q]
    simp only[q',Bool.false_eq_true,if_false,aH]
    constructor
    ·constructor
     ·intro h;exact .inr (h1.1 (by omega))
     ·intro h
      rcases h with h|h
      ·exact absurd h.symm e
      ·have:=h1.2 h;omega
    ·omega
theorem dropWhile_nil{p:UInt8->Bool}:∀(l:List UInt8),l.dropWhile p=[]↔l.all p=true
 |[]=>by simp
 |
  b::l=>by
  cases h:p b with
  |true=>rw[List.dropWhile_cons_of_pos h,dropWhile_nil l];simp[h]
  |false=>rw[List.dropWhile_cons_of_neg (by rw[h];simp)];simp[h]
theorem tG(l cs:List UInt8):Lib.trimS l cs=[]↔l.all (cs.contains ·)=true:=by
 unfold Lib.trimS Lib.trimLeftS
 rw[dropWhile_nil]
 unfold Lib.trimRightS
 constructor
 ·intro h
  by_cases hn:l.reverse.dropWhile (cs.contains ·)=[]
  ·rw[dropWhile_nil]at hn
   simpa using hn
  ·exfalso
   rw[List.all_reverse]at h
   obtain⟨b,r,e⟩:=List.exists_cons_of_ne_nil hn
   have h1:cs.contains b=false:=by
    have:=List.head_dropWhile_not (p:=(cs.contains ·)) (l:=l.reverse) hn
    simp only[e,List.head_cons]at this
    exact this
   rw[e]at h
   simp only[db,az]at h
   rw[h1]at h;cases h.1
 ·intro h
  have:l.reverse.dropWhile (cs.contains ·)=[]:=by rw[dropWhile_nil];simpa using h
  rw[this];rfl
def F1:List UInt8:=[48,49,50,51,52,53,54,55,56,57]
theorem vy(b:UInt8):F1.contains b=ij b:=by
 have:∀n:Fin 256,F1.contains (bh n.val)=ij (bh n.val):=by decide +kernel
 have:=this ⟨b.toNat,b.toNat_lt⟩
 simpa using this
theorem JX(s ls:List UInt8)(lo hi:Nat)(hls:∀c:UInt8,c∈ls↔lo<=c.toNat/\c.toNat<=hi):ap Tryz.prog 163 [.v (.string (mk s)),.v (.string (mk ls))] [] (bG (.v (.bool (named lo hi s)))):=by
 refine Rp _ _ ?_
 simp only[Ke,↓zq,zs,ac,zt,bG]
 cases s with
 |nil=>exact⟨fun h=>by simp at h,fun _=>rfl⟩
 |
  cons c s =>
  have e1:(List.take (bM 1) (c::s))=[c]:=rfl
  have e2:(List.take (s.length+1) (c::s)).drop (bM 1)=s:=by simp
  simp only[au,e1,e2]
  refine⟨fun _=>⟨fun h3=>⟨by omega,?_⟩,fun h3=>?_⟩,fun h=>by omega⟩
  ·have hl:s.length<=2:=by omega
   refine ai (Sj ls c) ?_
   simp only[↓zq,zs,ac]
   have hi1:=(nK ls c).1
   refine⟨fun h=>⟨by omega,?_⟩,fun h=>?_⟩
   ·refine ai (NX s F1 (by omega) (by decide) (by decide)) ?_
    simp only[↓zq,zs,ac,zt]
    have hc:=(hls c).1 (hi1.1 h)
    congr 2
    rw[cx,beq_iff_eq,tG]
    simp only[named,hl,hc,decide_true,bX,and_self]
    have:(fun x=>F1.contains x)=ij:=funext vy
    rw[this]
   ·have hc:¬(lo<=c.toNat/\c.toNat<=hi):=fun h'=>h (hi1.2 ((hls c).2 h'))
    simp only[named,hc,zf]
  ·have hl:¬s.length<=2:=by omega
   simp only[named,hl,zf]
theorem Ks(s:List UInt8):ap Tryz.prog 145 [.v (.string (mk s))] [] (bG (.v (.bool (gU s)))):=by
 refine RZ _ ?_
 unfold Oh
 have h:∀n:Fin 256,(bh n.val∈[(120:UInt8),121,122])↔120<=(bh n.val).toNat/\(bh n.val).toNat<=122:=by decide +kernel
 refine ai (JX s [120,121,122] 120 122 fun c=>by simpa using h ⟨c.toNat,c.toNat_lt⟩) ?_
 simp only[↓zq,zs,ac,bG,gU]
theorem Dj(s:List UInt8):ap Tryz.prog 146 [.v (.string (mk s))] [] (bG (.v (.bool (dk s)))):=by
 refine RC _ ?_
 unfold KD
 have h:∀n:Fin 256,(bh n.val∈[(116:UInt8)])↔116<=(bh n.val).toNat/\(bh n.val).toNat<=116:=by decide +kernel
 refine ai (JX s [116] 116 116 fun c=>by simpa using h ⟨c.toNat,c.toNat_lt⟩) ?_
 simp only[↓zq,zs,ac,bG,dk]
end Go.Proofs.Trees
namespace Go.Proofs.Trees
open Go Go.VL
inductive Ty where
 |zero|one
 |name (s:List UInt8)
 |bW (up:Nat)
 |plus (a b:Ty)
 |times (a b:Ty)
 |rc (a:Ty)
def Ty.av:Ty->AV
 | .zero=>.ptr [.v (.int .u8 48),.v (.string (mk [])),.v (.int .i64 0),.v (.pointer none),.v (.pointer none)]
 | .one=>.ptr [.v (.int .u8 49),.v (.string (mk [])),.v (.int .i64 0),.v (.pointer none),.v (.pointer none)]
 | .name s=>.ptr [.v (.int .u8 110),.v (.string (mk s)),.v (.int .i64 0),.v (.pointer none),.v (.pointer none)]
 | .bW up=>.ptr [.v (.int .u8 98),.v (.string (mk [])),.v (.int .i64 (up:Int)),.v (.pointer none),.v (.pointer none)]
 | .plus a b=>.ptr [.v (.int .u8 43),.v (.string (mk [])),.v (.int .i64 0),a.av,b.av]
 | .times a b=>.ptr [.v (.int .u8 42),.v (.string (mk [])),.v (.int .i64 0),a.av,b.av]
 | .rc a=>.ptr [.v (.int .u8 114),.v (.string (mk [])),.v (.int .i64 0),a.av,.v (.pointer none)]
theorem aE(t:Ty):LK.has .ptr t.av=True:=by cases t<;>simp[Ty.av,cb]
theorem fM(t:Ty):t.av.isNil=false:=by cases t<;>rfl
def ii:Option Ty->AV
 |some t=>t.av
 |none=>.v (.pointer none)
theorem iu(t:Option Ty):LK.has .ptr (ii t)=True:=by cases t<;>simp[ii,aE,iA]
def E.at:E->List UInt8
 | .atom s=>s
 | .list _=>[]
def bQ(s:List UInt8)(ar:List (List UInt8)):Nat->Option Nat
 |0=>none
 |i+1=>if ar.getD i []=s then some (ar.length-1-i)else bQ s ar i
def cS:E->List (List UInt8)->Option Ty
 | .atom s,ar=>if s=[48]then some .zero else if s=[49]then some .one else if gU s=true then some (.name s)else if dk s=true then(match bQ s ar ar.length with|some u=>some (.bW u)|none=>some (.name s))else none
 |
  .list [x,a,b],ar =>
  if x.at=[43]then(match cS a ar,cS b ar with|some t,some u=>some (.plus t u)|_,_=>none)
  else if x.at=[42]then(match cS a ar,cS b ar with|some t,some u=>some (.times t u)|_,_=>none)
  else if x.at=[114,101,99]then(if dk a.at=true then(match cS b (ar++[a.at])with|some t=>some (.rc t)|none=>none)else none)
  else none
 | .list _,_=>none
def bY(l:List (List UInt8)):List (List AV):=l.map fun s=>[.v (.string (mk s))]
def cB(a:AV)(l:List (List UInt8)):Prop:=LK.sl.has a/\a.aJ=bY l
theorem cB.len{a:AV}{l:List (List UInt8)}(h:cB a l):a.aJ.length=l.length:=by rw[h.2];simp[bY]
theorem cB.idx{a:AV}{l:List (List UInt8)}(h:cB a l){i:Nat}(hi:i<l.length):a.aJ.getD i []=[.v (.string (mk (l.getD i [])))]:=by
 rw[h.2];simp[bY,aa,hi]
theorem cB.of(l:List (List UInt8)):cB (.sl (bY l)) l:=⟨(bT _).mpr trivial,rfl⟩
theorem cB.nil:cB (.v (.slice none 0 0)) []:=⟨(bc).mpr trivial,rfl⟩
theorem zj(e:E)(w:List UInt8):ap Tryz.prog 147 [e.cF,.v (.string (mk w)),.v (.int .i64 3)] [] (bG (.v (.bool (match e with| .list [x,_,_]=>x.at==w|_=>false)))):=by
 refine Pf _ _ _ ((cV e).mpr trivial) ?_
 cases e with
 |atom s=>simp only[A2,E.cF,↓zq,zs,ac,zt,bG];exact⟨by omega,fun h=>by omega,fun _=>trivial⟩
 |
  list l =>
  simp only[A2,E.cF,↓zq,zs,ac,zt,bG,rD]
  match l with
  |[]=>exact⟨by simp,fun h=>by simp at h,fun _=>rfl⟩
  |[_]=>exact⟨by simp,fun h=>by simp at h,fun _=>rfl⟩
  |[_,_]=>exact⟨by simp,fun h=>by simp at h,fun _=>rfl⟩
  |
   [x,y,z] =>
   refine⟨by simp,fun _=>?_,fun h=>by simp at h⟩
   cases x<;>simp[E.my,E.cF,cb,pN,jL,dM,uq,toList_mk,E.at]
  |_::_::_::_::l=>exact⟨by simp,fun h=>by simp at h;omega,fun _=>rfl⟩
theorem Od(e:E)(a:AV)(ar:List (List UInt8))(ha:cB a ar)(hl:ar.length<1000000):∀(i:Nat),i<=ar.length->Gu [e.cF,a,.v (.int .i64 ((i:Int)-1))] []
 (nL (match bQ e.at ar i with|some u=>(2,[],[.cells [.v (.int .u8 98),.v (.string (mk [])),.v (.int .i64 (u:Int)),.v (.pointer none),.v (.pointer none)]])|none=>(1,[e.cF],[])))
 |
  0,hi=>by
  refine JC _ _ _ ?_
  simp only[Ip,↓zq,zs,ac,cV]
  exact⟨ha.1,fun h=>by omega,fun _=>rfl⟩
 |
  i+1,hi=>by
  have hlt:i<ar.length:=by omega
  have e1:((i+1:Nat):Int)-1=(i:Int):=by omega
  rw[e1]
  refine JC _ _ _ ?_
  have hd:e.cF.deref.headD .any=.v (.string (mk e.at)):=by cases e<;>rfl
  have hdl:1<=e.cF.deref.length:=by cases e<;>simp[E.cF,jL]
  simp only[Ip,↓zq,zs,ac,zt,cV,ej,ha.len,ha.idx hlt,hd,rz]
  refine⟨ha.1,fun _=>⟨⟨ha.1,by omega,by omega⟩,by omega,hdl,fun h=>⟨ha.1,?_⟩,fun h=>?_⟩,fun h=>by omega⟩
  ·simp only[bQ,h,if_true,nL]
   rw[wrap64 ((ar.length:Int)-1) (by omega) (by omega),wrap64 _ (by omega) (by omega)]
   have:(ar.length:Int)-1-(i:Int)=((ar.length-1-i:Nat):Int):=by omega
   rw[this]
  ·simp only[bQ,h,if_false]
   rw[wrap64 _ (by omega) (by omega)]
   exact Od e a ar ha hl i (by omega)
end Go.Proofs.Trees
namespace Go.Proofs.Trees
open Go Go.VL
theorem nY(e:E):e.cF.deref.headD .any=.v (.string (mk e.at)):=by cases e<;>rfl
theorem lF(e:E):1<=e.cF.deref.length:=by cases e<;>simp[E.cF,jL]
theorem toNat_one:bM 1=1:=rfl
theorem bg:bM 2=2:=rfl
theorem Hw{ar:List (List UInt8)}(s:List UInt8):bY ar++[[.v (.string (mk s))]]=bY (ar++[s]):=by simp[bY]
theorem kl(ar:List (List UInt8)):cr 1 (bY ar):=fun c hc=>by
 obtain⟨s,_,rfl⟩:=bK.1 hc;rfl
theorem lm{x a b:E}(ar:List (List UInt8))(hx:x.at=[43]):cS (.list [x,a,b]) ar=match cS a ar,cS b ar with|some t,some u=>some (.plus t u)|_,_=>none:=by rw[cS,if_pos hx]<;>cases cS a ar<;>cases cS b ar<;>rfl
theorem j0{x a b:E}(ar:List (List UInt8))(hx:x.at=[42]):cS (.list [x,a,b]) ar=match cS a ar,cS b ar with|some t,some u=>some (.times t u)|_,_=>none:=by rw[cS,if_neg (by rw[hx];decide),if_pos hx]<;>cases cS a ar<;>cases cS b ar<;>rfl
theorem mP{x a b:E}(ar:List (List UInt8))(hx:x.at=[114,101,99]):cS (.list [x,a,b]) ar=if dk a.at=true then(match cS b (ar++[a.at])with|some t=>some (.rc t)|none=>none)else none:=by rw[cS,if_neg (by rw[hx];decide),if_neg (by rw[hx];decide),if_pos hx]<;>cases cS b (ar++[a.at])<;>rfl
theorem iZ{x a b:E}(ar:List (List UInt8))(h1:x.at≠[43])(h2:x.at≠[42])(h3:x.at≠[114,101,99]):cS (.list [x,a,b]) ar=none:=by rw[cS,if_neg h1,if_neg h2,if_neg h3]
theorem DT:∀(e:E) (ar:List (List UInt8)) (a:AV),e.ok->cB a ar->ar.length+e.sz<100000->ap Tryz.prog 114 [e.cF,a] [] (bG (ii (cS e ar)))
 |
  .atom s,ar,a,hok,ha,hl=>by
  simp only[E.sz]at hl
  refine Ky _ _ ((cV _).mpr trivial) ha.1 ?_
  have hd:=nY (.atom s)
  have hlen:=lF (.atom s)
  simp only[E.at]at hd
  simp only[Ix,↓zq,zs,ac,zt,bG,cV,ej,hd,cS]
  refine⟨hlen,fun h=>⟨hlen,?_,?_⟩,fun h=>⟨hlen,fun h1=>⟨hlen,?_,?_⟩,fun h1=>⟨hlen,?_⟩⟩⟩
  ·rw[h];decide
  ·rw[if_pos h,h];rfl
  ·rw[h1];decide
  ·rw[if_neg h,if_pos h1,h1];rfl
  ·rw[if_neg h,if_neg h1]
   refine ai (Ks s) ?_
   simp only[↓zq,zs,ac]
   refine⟨fun hp=>⟨hlen,?_⟩,fun hp=>⟨hlen,?_⟩⟩
   ·rw[if_pos hp];rfl
   ·rw[if_neg (by rw[hp];simp)]
    refine ai (Dj s) ?_
    simp only[↓zq,zs,ac,ha.len]
    refine⟨fun hq=>⟨ha.1,?_⟩,fun hq=>?_⟩
    ·rw[if_pos hq,wrap64 _ (by omega) (by omega)]
     refine fg (Od (.atom s) a ar ha (by omega) ar.length (by omega)) (fun ys o e=>?_) (fun ys o e=>?_)
     ·simp only[E.at]at e
      cases hq2:bQ s ar ar.length<;>rw[hq2]at e<;>cases e
      simp only[↓zq,zs,ac,zt,cV,ej,hd]
      exact⟨hlen,rfl⟩
     ·simp only[E.at]at e
      cases hq2:bQ s ar ar.length<;>rw[hq2]at e<;>cases e
      simp only[↓zq,zs,ac,zt,LK.has]
      simp[ii,Ty.av,ac,LK.has]
    ·rw[if_neg (by rw[hq];simp)]
     refine ai (zj (.atom s) [43]) ?_
     simp only[↓zq,zs,ac]
     refine⟨fun h=>(by simp at h),fun _=>?_⟩
     refine ai (zj (.atom s) [42]) ?_
     simp only[↓zq,zs,ac]
     refine⟨fun h=>(by simp at h),fun _=>?_⟩
     refine ai (zj (.atom s) [114,101,99]) ?_
     simp only[↓zq,zs,ac]
     refine⟨fun h=>(by simp at h),fun _=>?_⟩
     trivial
 |
  .list l,ar,a,hok,ha,hl=>by
  simp only[E.sz]at hl
  refine Ky _ _ ((cV _).mpr trivial) ha.1 ?_
  have hd:=nY (.list l)
  have hlen:=lF (.list l)
  simp only[E.at]at hd
  have hp:gU []=false:=rfl
  have hq:dk []=false:=rfl
  simp only[Ix,↓zq,zs,ac,zt,bG,cV,ej,hd]
  refine⟨hlen,fun h=>(by simp at h),fun h=>⟨hlen,fun h1=>(by simp at h1),fun h1=>⟨hlen,?_⟩⟩⟩
  refine ai (Ks []) ?_
  simp only[↓zq,zs,ac,hp]
  refine⟨fun h=>(by simp at h),fun _=>⟨hlen,?_⟩⟩
  refine ai (Dj []) ?_
  simp only[↓zq,zs,ac,hq]
  refine⟨fun h=>(by simp at h),fun _=>?_⟩
  refine ai (zj (.list l) [43]) ?_
  match l,hok,hl with
  |
   [x,y,z],hok,hl =>
   simp only[E.jp]at hl
   obtain⟨ok1,ok2,ok3,_⟩:=hok
   have iy:=DT y ar a ok2 ha (by omega)
   have iz:=DT z ar a ok3 ha (by omega)
   have hds:((E.list [x,y,z]).cF.deref.drop 1).headD .any=.sl [[x.cF],[y.cF],[z.cF]]:=rfl
   have hdl:1<=((E.list [x,y,z]).cF.deref.drop 1).length:=by simp[E.cF,jL]
   have hxd:=nY x
   have hxl:=lF x
   have hyd:=nY y
   have hyl:=lF y
   have bin:∀(c:UInt8) (mkT:Ty->Ty->Ty),(∀t u:Ty,(mkT t u).av=.ptr [.v (.int .u8 (c.toNat:Int)),.v (.string (mk [])),.v (.int .i64 0),t.av,u.av])->x.at=[c]->bt (mk x.at) 0=(c.toNat:Int):=fun c _ _ hx=>by
    have:=mo x.at 0 (by rw[hx];simp)
    simp only[Int.ofNat_eq_natCast,Int.cast_ofNat_Int]at this
    rw[this,hx];rfl
   simp only[↓zq,zs,ac,zt,hds,hdl,cV,ej,toNat_one,bg,hxd,hyd,rz]
   refine⟨fun hx=>?_,fun hx=>?_⟩
   ·refine⟨by omega,by omega,?_⟩
    refine ai iy ?_
    simp only[↓zq,zs,ac,iu]
    refine⟨by omega,by omega,?_⟩
    refine ai iz ?_
    have hb:=bin 43 Ty.plus (fun _ _=>rfl) hx
    rw[lm ar hx]
    simp only[↓zq,zs,ac,zt,iu]
    cases h1:cS y ar with
    |none=>simp[ii,jM]
    |
     some t =>
     cases h2:cS z ar with
     |none=>simp[ii,jM,fM]
     |
      some u =>
      simp only[ii,fM,hb]
      refine⟨fun h=>(by cases h),fun _=>⟨fun h=>(by cases h),fun _=>⟨by omega,by omega,hxl,⟨by omega,by rw[hx];simp⟩,rfl⟩⟩⟩
   ·refine ai (zj (.list [x,y,z]) [42]) ?_
    simp only[↓zq,zs,ac,hds,hdl,cV,ej,toNat_one,bg,hxd,hyd,rz]
    refine⟨fun hx2=>?_,fun hx2=>?_⟩
    ·refine⟨by omega,by omega,?_⟩
     refine ai iy ?_
     simp only[↓zq,zs,ac,iu]
     refine⟨by omega,by omega,?_⟩
     refine ai iz ?_
     have hb:=bin 42 Ty.times (fun _ _=>rfl) hx2
     rw[j0 ar hx2]
     simp only[↓zq,zs,ac,zt,iu]
     cases h1:cS y ar with
     |none=>simp[ii,jM]
     |
      some t =>
      cases h2:cS z ar with
      |none=>simp[ii,jM,fM]
      |
       some u =>
       simp only[ii,fM,hb]
       refine⟨fun h=>(by cases h),fun _=>⟨fun h=>(by cases h),fun _=>⟨by omega,by omega,hxl,⟨by omega,by rw[hx2];simp⟩,rfl⟩⟩⟩
    ·refine ai (zj (.list [x,y,z]) [114,101,99]) ?_
     simp only[↓zq,zs,ac,zt,hds,hdl,cV,ej,toNat_one,bg,hxd,hyd,rz]
     refine⟨fun hx3=>⟨by omega,by omega,hyl,?_⟩,fun hx3=>?_⟩
     ·refine ai (Dj y.at) ?_
      rw[mP ar hx3]
      simp only[↓zq,zs,ac]
      have hal:cr 1 a.aJ:=by rw[ha.2];exact kl ar
      have hal1:cr 1 [[AV.v (.string (mk y.at))]]:=fun c hc=>by simp at hc;rw[hc];rfl
      refine⟨fun hlo=>⟨by omega,by omega,⟨ha.1,hal,by rw[ha.len];omega⟩,by omega,by omega,hyl,⟨hal1,by rw[aR,ha.len];omega⟩,?_⟩,fun hlo=>?_⟩
      ·rw[aR,ha.2,Hw,if_pos hlo]
       refine ai (DT z (ar++[y.at]) _ ok3 (.of _) (by simp;omega)) ?_
       simp only[↓zq,zs,ac,iu]
       cases h2:cS z (ar++[y.at])with
       |none=>simp[ii,jM]
       |
        some u =>
        simp only[ii,fM]
        refine⟨fun h=>(by cases h),fun _=>rfl⟩
      ·rw[if_neg (by rw[hlo];simp)];rfl
     ·rw[iZ ar hx hx2 hx3];rfl
  |
   [],_,_ =>
   simp only[↓zq,zs,ac]
   refine⟨fun h=>(by cases h),fun _=>?_⟩
   refine ai (zj (.list []) [42]) ?_
   simp only[↓zq,zs,ac]
   refine⟨fun h=>(by cases h),fun _=>?_⟩
   refine ai (zj (.list []) [114,101,99]) ?_
   simp only[↓zq,zs,ac]
   refine⟨fun h=>(by cases h),fun _=>?_⟩
   rfl
  |
   [x1],_,_ =>
   simp only[↓zq,zs,ac]
   refine⟨fun h=>(by cases h),fun _=>?_⟩
   refine ai (zj (.list [x1]) [42]) ?_
   simp only[↓zq,zs,ac]
   refine⟨fun h=>(by cases h),fun _=>?_⟩
   refine ai (zj (.list [x1]) [114,101,99]) ?_
   simp only[↓zq,zs,ac]
   refine⟨fun h=>(by cases h),fun _=>?_⟩
   rfl
  |
   [x1,x2],_,_ =>
   simp only[↓zq,zs,ac]
   refine⟨fun h=>(by cases h),fun _=>?_⟩
   refine ai (zj (.list [x1,x2]) [42]) ?_
   simp only[↓zq,zs,ac]
   refine⟨fun h=>(by cases h),fun _=>?_⟩
   refine ai (zj (.list [x1,x2]) [114,101,99]) ?_
   simp only[↓zq,zs,ac]
   refine⟨fun h=>(by cases h),fun _=>?_⟩
   rfl
  |
   x1::x2::x3::x4::l,_,_ =>
   simp only[↓zq,zs,ac]
   refine⟨fun h=>(by cases h),fun _=>?_⟩
   refine ai (zj (.list (x1::x2::x3::x4::l)) [42]) ?_
   simp only[↓zq,zs,ac]
   refine⟨fun h=>(by cases h),fun _=>?_⟩
   refine ai (zj (.list (x1::x2::x3::x4::l)) [114,101,99]) ?_
   simp only[↓zq,zs,ac]
   refine⟨fun h=>(by cases h),fun _=>?_⟩
   rfl
end Go.Proofs.Trees
namespace Go.Proofs.Trees
open Go Go.VL
def dj(v:AV)(obs:List Ob):AV->List Ob->Prop:=fun r o=>r=v/\o=obs
theorem ba{P:Program}{n:Nat}{Q:Nat->List AV->List Ob->Prop}{f:Nat}{xs:List AV}{ins:List Ob}{k:AV->List Ob->Tree}{v:AV}{obs:List Ob}(h:ap P f xs ins (dj v obs))(hk:eN P n (k v obs) Q):eN P n (.call f xs ins k) Q :=
 ⟨dj v obs,h,⟨v,obs,rfl,rfl⟩,fun r o ⟨h1,h2⟩=>by rw[h1,h2];exact hk⟩
def Ty.aD:Ty->Nat
 | .plus a b=>1+a.aD+b.aD
 | .times a b=>1+a.aD+b.aD
 | .rc a=>2+a.aD
 |_=>1
theorem Fl:∀(t:Ty),t.aD<1000000->ap Tryz.prog 115 [t.av] [] (bG (.v (.int .i64 (t.aD:Int))))
 | .zero,h=>by refine xJ _ ((aE _).mpr trivial) ?_;simp[FA,Ty.av,↓zq,zs,ac,bG,Ty.aD]
 | .one,h=>by refine xJ _ ((aE _).mpr trivial) ?_;simp[FA,Ty.av,↓zq,zs,ac,bG,Ty.aD]
 | .name s,h=>by refine xJ _ ((aE _).mpr trivial) ?_;simp[FA,Ty.av,↓zq,zs,ac,bG,Ty.aD]
 | .bW u,h=>by refine xJ _ ((aE _).mpr trivial) ?_;simp[FA,Ty.av,↓zq,zs,ac,bG,Ty.aD]
 |
  .plus a b,h=>by
  simp only[Ty.aD]at h
  refine xJ _ ((aE _).mpr trivial) ?_
  simp only[FA,Ty.av,↓zq,zs,ac,aE]
  refine⟨by omega,fun _=>⟨by omega,?_⟩,fun h=>absurd rfl h⟩
  refine ai (Fl a (by omega)) ?_
  simp only[↓zq,zs,ac,aE]
  refine⟨by omega,?_⟩
  refine ai (Fl b (by omega)) ?_
  simp only[↓zq,zs,ac,bG,Ty.aD]
  rw[wrap64 (1+(a.aD:Int)) (by omega) (by omega),wrap64 _ (by omega) (by omega)]
  congr 2
 |
  .times a b,h=>by
  simp only[Ty.aD]at h
  refine xJ _ ((aE _).mpr trivial) ?_
  simp only[FA,Ty.av,↓zq,zs,ac,aE]
  refine⟨by omega,fun h=>by omega,fun _=>⟨fun _=>⟨by omega,?_⟩,fun h=>absurd rfl h⟩⟩
  refine ai (Fl a (by omega)) ?_
  simp only[↓zq,zs,ac,aE]
  refine⟨by omega,?_⟩
  refine ai (Fl b (by omega)) ?_
  simp only[↓zq,zs,ac,bG,Ty.aD]
  rw[wrap64 (1+(a.aD:Int)) (by omega) (by omega),wrap64 _ (by omega) (by omega)]
  congr 2
 |
  .rc a,h=>by
  simp only[Ty.aD]at h
  refine xJ _ ((aE _).mpr trivial) ?_
  simp only[FA,Ty.av,↓zq,zs,ac,aE]
  refine⟨by omega,fun h=>by omega,fun _=>⟨fun h=>by omega,fun _=>⟨fun _=>⟨by omega,?_⟩,fun h=>absurd rfl h⟩⟩⟩
  refine ai (Fl a (by omega)) ?_
  simp only[↓zq,zs,ac,bG,Ty.aD]
  rw[wrap64 _ (by omega) (by omega)]
  congr 2
theorem iT:∀(e:E) (ar:List (List UInt8)) (t:Ty),cS e ar=some t->t.aD<=e.sz
 |
  .atom s,ar,t,h=>by
  simp only[cS]at h
  simp only[E.sz]
  split at h
  ·cases h;simp[Ty.aD]
  ·split at h
   ·cases h;simp[Ty.aD]
   ·split at h
    ·cases h;simp[Ty.aD]
    ·split at h
     ·split at h<;>cases h<;>simp[Ty.aD]
     ·cases h
 |
  .list [x,a,b],ar,t,h=>by
  have hs:∀e:E,1<=e.sz:=fun e=>by cases e<;>simp[E.sz];try omega
  have hx:=hs x
  have ha:=hs a
  simp only[E.sz,E.jp]
  by_cases h1:x.at=[43]
  ·rw[lm ar h1]at h
   split at h
   ·rename_i t1 t2 e1 e2
    cases h
    have:=iT a ar t1 e1
    have:=iT b ar t2 e2
    simp only[Ty.aD];omega
   ·cases h
  ·by_cases h2:x.at=[42]
   ·rw[j0 ar h2]at h
    split at h
    ·rename_i t1 t2 e1 e2
     cases h
     have:=iT a ar t1 e1
     have:=iT b ar t2 e2
     simp only[Ty.aD];omega
    ·cases h
   ·by_cases h3:x.at=[114,101,99]
    ·rw[mP ar h3]at h
     split at h
     ·split at h
      ·rename_i t1 e1
       cases h
       have:=iT b _ t1 e1
       simp only[Ty.aD];omega
      ·cases h
     ·cases h
    ·rw[iZ ar h1 h2 h3]at h;cases h
 | .list [],_,_,h=>by cases h
 | .list [_],_,_,h=>by cases h
 | .list [_,_],_,_,h=>by cases h
 | .list (_::_::_::_::_),_,_,h=>by cases h
def qP(s:List UInt8):Option Ty:=match qS s with
 |none=>none
 |
  some e=>match cS e []with
  |none=>none
  |some t=>if t.aD>400 then none else some t
theorem IA(s:List UInt8):ap Tryz.prog 84 [.v (.string (mk s))] [] (bG (ii (qP s))):=by
 refine Rf _ ?_
 unfold Mh
 refine ai (KV s) ?_
 unfold qP
 cases he:qS s with
 |none=>simp only[uO,↓zq,zs,ac,bG,ii];simp
 |
  some e =>
  obtain⟨h1,h2⟩:=oc he
  simp only[uO,↓zq,zs,ac,cV,ej]
  refine⟨fun h=>(by cases h),fun _=>?_⟩
  refine ai (DT e [] _ h1 .nil (by simp;omega)) ?_
  cases ht:cS e []with
  |none=>simp only[ii,↓zq,zs,ac,bG];simp
  |
   some t =>
   have:=iT e [] t ht
   simp only[ii,↓zq,zs,ac,aE,fM]
   refine⟨fun h=>(by cases h),fun _=>?_⟩
   refine ai (Fl t (by omega)) ?_
   simp only[↓zq,zs,ac,bG]
   refine⟨fun h=>?_,fun h=>?_⟩
   ·rw[if_pos (by omega)]
   ·rw[if_neg (by omega)]
end Go.Proofs.Trees
namespace Go.Proofs.Trees
open Go Go.VL
def CL(p:Prop):Nat->List AV->List Ob->Prop:=fun t ys o=>(t=1/\¬p/\ys=[]/\o=[])\/(t=2/\p/\∃j:Nat,ys=[.v (.int .i64 (j:Int))]/\o=[])
theorem Mm(l:List (List UInt8))(a:AV)(ha:cB a l)(s:List UInt8)(hl:l.length<1000000):∀(k i:Nat),i+k=l.length->s∉l.take i->GM [a,.v (.string (mk s)),.v (.int .i64 (l.length:Int)),.v (.int .i64 (i:Int))] []
 (CL (s∈l))
 |
  0,i,hi,hn=>by
  refine OG _ _ _ _ ?_
  simp only[Ji,↓zq,zs,ac]
  have:l.take i=l:=List.take_of_length_le (by omega)
  rw[this]at hn
  exact⟨ha.1,fun h=>by omega,fun _=>.inl ⟨rfl,hn,rfl,rfl⟩⟩
 |
  k+1,i,hi,hn=>by
  have hlt:i<l.length:=by omega
  refine OG _ _ _ _ ?_
  simp only[Ji,↓zq,zs,ac,zt,ha.len,ha.idx hlt]
  have hm:l.getD i []∈l:=by simp[aa,hlt]
  refine⟨ha.1,fun _=>⟨⟨ha.1,by omega,by omega⟩,by omega,fun h=>?_,fun h=>?_⟩,fun h=>by omega⟩
  ·exact .inr ⟨rfl,by rw[h];exact hm,i,rfl,rfl⟩
  ·rw[bp i (by omega)]
   refine Mm l a ha s hl k (i+1) (by omega) ?_
   rw[List.take_add_one]
   simp only[aQ,not_or]
   refine⟨hn,?_⟩
   have:l[i]?=some (l.getD i []):=by simp[aa,hlt]
   rw[this];simpa using h
theorem Mk(l:List (List UInt8))(a:AV)(ha:cB a l)(s:List UInt8)(hl:l.length<1000000):ap Tryz.prog 152 [a,.v (.string (mk s))] [] (bG (.v (.bool (decide (s∈l))))):=by
 have hI:ap Tryz.prog 167 [a,.v (.string (mk s))] [] (fun r o=>∃n:Int,r=.v (.int .i64 n)/\(0<=n↔s∈l)/\o=[]):=by
  refine TZ _ _ ha.1 ?_
  simp only[MH,↓zq,zs,ac,ha.len]
  refine⟨ha.1,kX (Mm l a ha s hl l.length 0 (by omega) (by simp)) ?_ ?_⟩
  ·rintro ys o (⟨_,h1,rfl,rfl⟩|⟨h,_⟩)
   ·simp only[↓zq,zs,ac]
    exact⟨-1,rfl,⟨fun h=>(by omega),fun h=>absurd h h1⟩⟩
   ·cases h
  ·rintro ys o (⟨h,_⟩|⟨_,h1,j,rfl,rfl⟩)
   ·cases h
   ·simp only[↓zq,zs,ac]
    exact⟨j,rfl,⟨fun _=>h1,fun _=>(by omega)⟩⟩
 refine Sv _ _ ha.1 ?_
 unfold ML
 refine aN hI ⟨.v (.int .i64 (if s∈l then 0 else -1)),[],_,rfl,by split<;>simp_all,rfl⟩ ?_
 rintro r o ⟨n,rfl,hn,rfl⟩
 simp only[↓zq,zs,ac,bG]
 congr 2
 rw[cx];simp[hn]
def pV(out:List (List UInt8)):Ty->List (List UInt8)
 | .name s=>if s∈out then out else out++[s]
 |_=>out
theorem Gl(t:Ty)(out:List (List UInt8))(hl:out.length<100000):ap Tryz.prog 166 [t.av,.ref 0 0] [.cells [.vec 1],.vec 1 (bY out)] (dj .any [.cells [.vec 1],.vec 1 (bY (pV out t))]):=by
 refine QE _ _ ((aE _).mpr trivial) ?_
 have hlen:(bY out).length=out.length:=by simp[bY]
 cases t with
 |
  name s =>
  simp only[Ge,Ty.av,↓zq,zs,ac,dj,hlen]
  refine⟨by omega,fun _=>⟨by omega,?_⟩,fun h=>absurd rfl h⟩
  refine ai (Mk out _ (.of out) s (by omega)) ?_
  simp only[↓zq,zs,ac,pV]
  refine⟨fun h=>⟨by omega,⟨fun c hc=>(by simp at hc;rw[hc];rfl),by omega⟩,?_⟩,fun h=>?_⟩
  ·rw[Hw,if_neg h]
  ·rw[if_pos h]
 |_=>simp[Ge,Ty.av,↓zq,zs,ac,dj,pV]
def bP:Ty->List (List UInt8)->List (List UInt8)
 | .name s,out=>pV out (.name s)
 | .plus a b,out=>bP b (bP a out)
 | .times a b,out=>bP b (bP a out)
 | .rc a,out=>bP a out
 |_,out=>out
theorem ew:∀(t:Ty) (out:List (List UInt8)),(bP t out).length<=out.length+t.aD
 | .name s,out=>by simp only[bP,pV,Ty.aD];split<;>simp
 |
  .plus a b,out=>by
  have:=ew a out
  have:=ew b (bP a out)
  simp only[bP,Ty.aD];omega
 |
  .times a b,out=>by
  have:=ew a out
  have:=ew b (bP a out)
  simp only[bP,Ty.aD];omega
 |
  .rc a,out=>by
  have:=ew a out
  simp only[bP,Ty.aD];omega
 | .zero,out=>by simp[bP]
 | .one,out=>by simp[bP]
 | .bW u,out=>by simp[bP]
theorem As:∀(t:Ty) (out:List (List UInt8)),out.length+t.aD<100000->ap Tryz.prog 165 [t.av,.fn 166 [.ref 0 0]] [.cells [.vec 1],.vec 1 (bY out)] (dj .any [.cells [.vec 1],.vec 1 (bY (bP t out))])
 |
  .plus a b,out,hl=>by
  simp only[Ty.aD]at hl
  have:=ew a out
  refine IZ _ _ ((aE _).mpr trivial) ?_
  unfold Fq
  refine ba (Gl (.plus a b) out (by omega)) ?_
  simp only[Ty.av,↓zq,zs,ac,aE,fM,pV,aM,dj]
  refine⟨by omega,fun _=>⟨by omega,?_⟩,fun h=>(by cases h)⟩
  refine ba (As a out (by omega)) ?_
  simp only[↓zq,zs,ac,aE,fM,aM]
  refine⟨by omega,fun _=>⟨by omega,?_⟩,fun h=>(by cases h)⟩
  refine ba (As b (bP a out) (by omega)) ?_
  simp only[↓zq,zs,ac,aM,bP]
 |
  .times a b,out,hl=>by
  simp only[Ty.aD]at hl
  have:=ew a out
  refine IZ _ _ ((aE _).mpr trivial) ?_
  unfold Fq
  refine ba (Gl (.times a b) out (by omega)) ?_
  simp only[Ty.av,↓zq,zs,ac,aE,fM,pV,aM,dj]
  refine⟨by omega,fun _=>⟨by omega,?_⟩,fun h=>(by cases h)⟩
  refine ba (As a out (by omega)) ?_
  simp only[↓zq,zs,ac,aE,fM,aM]
  refine⟨by omega,fun _=>⟨by omega,?_⟩,fun h=>(by cases h)⟩
  refine ba (As b (bP a out) (by omega)) ?_
  simp only[↓zq,zs,ac,aM,bP]
 |
  .rc a,out,hl=>by
  simp only[Ty.aD]at hl
  refine IZ _ _ ((aE _).mpr trivial) ?_
  unfold Fq
  refine ba (Gl (.rc a) out (by omega)) ?_
  simp only[Ty.av,↓zq,zs,ac,aE,fM,pV,aM,dj]
  refine⟨by omega,fun _=>⟨by omega,?_⟩,fun h=>(by cases h)⟩
  refine ba (As a out (by omega)) ?_
  simp[↓zq,zs,ac,aE,fM,aM,bP]
 |
  .name s,out,hl=>by
  refine IZ _ _ ((aE _).mpr trivial) ?_
  unfold Fq
  refine ba (Gl (.name s) out (by omega)) ?_
  simp[Ty.av,↓zq,zs,ac,aM,dj,bP]
 |
  .zero,out,hl=>by
  refine IZ _ _ ((aE _).mpr trivial) ?_
  unfold Fq
  refine ba (Gl .zero out (by omega)) ?_
  simp[Ty.av,↓zq,zs,ac,aM,dj,bP,pV]
 |
  .one,out,hl=>by
  refine IZ _ _ ((aE _).mpr trivial) ?_
  unfold Fq
  refine ba (Gl .one out (by omega)) ?_
  simp[Ty.av,↓zq,zs,ac,aM,dj,bP,pV]
 |
  .bW u,out,hl=>by
  refine IZ _ _ ((aE _).mpr trivial) ?_
  unfold Fq
  refine ba (Gl (.bW u) out (by omega)) ?_
  simp[Ty.av,↓zq,zs,ac,aM,dj,bP,pV]
theorem Mo(t:Ty)(hl:t.aD<100000):ap Tryz.prog 150 [t.av] [] (bG (.sl (bY (bP t [])))):=by
 refine Ro _ ((aE _).mpr trivial) ?_
 unfold PC
 refine ba (As t [] (by simpa using hl)) ?_
 simp[↓zq,zs,ac,aM,bG]
theorem Kt(l:List (List UInt8))(a:AV)(ha:cB a l)(hl:l.length<1000000):∀(k i:Nat),i+k=l.length->(∀s,s∈l.take i->dk s=false)->FN [a,.v (.func (.func 146) #[] #[]),.v (.int .i64 (l.length:Int)),.v (.int .i64 (i:Int))] []
 (CL (l.any dk=true))
 |
  0,i,hi,hn=>by
  refine Mx _ _ _ ?_
  simp only[Jp,↓zq,zs,ac]
  have:l.take i=l:=List.take_of_length_le (by omega)
  rw[this]at hn
  exact⟨ha.1,fun h=>by omega,fun _=>.inl ⟨rfl,fun hh=>(by obtain⟨x,hx,hy⟩:=cn.1 hh;rw[hn x hx]at hy;cases hy),rfl,rfl⟩⟩
 |
  k+1,i,hi,hn=>by
  have hlt:i<l.length:=by omega
  refine Mx _ _ _ ?_
  simp only[Jp,↓zq,zs,ac,zt,ha.len,ha.idx hlt]
  have hm:l.getD i []∈l:=by simp[aa,hlt]
  refine⟨ha.1,fun _=>⟨⟨ha.1,by omega,by omega⟩,by omega,?_⟩,fun h=>by omega⟩
  refine ai (Dj _) ?_
  simp only[↓zq,zs,ac]
  refine⟨fun h=>?_,fun h=>?_⟩
  ·exact .inr ⟨rfl,cn.2 ⟨_,hm,h⟩,i,rfl,rfl⟩
  ·rw[bp i (by omega)]
   refine Kt l a ha hl k (i+1) (by omega) ?_
   intro s hs
   rw[List.take_add_one]at hs
   have:l[i]?=some (l.getD i []):=by simp[aa,hlt]
   rw[this]at hs
   rcases aQ.1 hs with hs|hs
   ·exact hn s hs
   ·simp at hs;rw[hs];simpa using h
theorem R6(l:List (List UInt8))(a:AV)(ha:cB a l)(hl:l.length<1000000):ap Tryz.prog 153 [a,.v (.func (.func 146) #[] #[])] [] (bG (.v (.bool (l.any dk)))):=by
 have hI:ap Tryz.prog 168 [a,.v (.func (.func 146) #[] #[])] [] (fun r o=>∃n:Int,r=.v (.int .i64 n)/\(0<=n↔l.any dk=true)/\o=[]):=by
  refine Tw _ ha.1 ?_
  simp only[Ou,↓zq,zs,ac,ha.len]
  refine⟨ha.1,kX (Kt l a ha hl l.length 0 (by omega) (by simp)) ?_ ?_⟩
  ·rintro ys o (⟨_,h1,rfl,rfl⟩|⟨h,_⟩)
   ·simp only[↓zq,zs,ac]
    exact⟨-1,rfl,⟨fun h=>(by omega),fun h=>absurd h h1⟩⟩
   ·cases h
  ·rintro ys o (⟨h,_⟩|⟨_,h1,j,rfl,rfl⟩)
   ·cases h
   ·simp only[↓zq,zs,ac]
    exact⟨j,rfl,⟨fun _=>h1,fun _=>(by omega)⟩⟩
 refine Qt _ ha.1 ?_
 unfold Mg
 refine aN hI ⟨.v (.int .i64 (if l.any dk=true then 0 else -1)),[],_,rfl,by split<;>simp_all,rfl⟩ ?_
 rintro r o ⟨n,rfl,hn,rfl⟩
 simp only[↓zq,zs,ac,bG]
 congr 2
 rw[cx];simp only[decide_eq_true_eq,ge_iff_le,hn]
def Ty.closed(t:Ty):Bool:=!((bP t []).any dk)
theorem Sa(t:Ty)(hl:t.aD<100000):ap Tryz.prog 122 [t.av] [] (bG (.v (.bool t.closed))):=by
 refine Qc _ ((aE _).mpr trivial) ?_
 unfold O2
 refine ai (Mo t hl) ?_
 simp only[↓zq,zs,ac]
 have:=ew t []
 refine ai (R6 _ _ (.of _) (by simp at this;omega)) ?_
 simp only[↓zq,zs,ac,bG,Ty.closed]
def xz(s:List UInt8):Option Ty:=match qP s with
 |none=>none
 |some t=>if t.closed=true then some t else none
theorem th{s:List UInt8}{t:Ty}(h:qP s=some t):t.aD<=400:=by
 unfold qP at h
 split at h
 ·cases h
 ·split at h
  ·cases h
  ·split at h<;>cases h
   omega
theorem Lp(s:List UInt8):ap Tryz.prog 87 [.v (.string (mk s))] [] (bG (ii (xz s))):=by
 refine SB _ ?_
 unfold NY
 refine ai (IA s) ?_
 unfold xz
 cases ht:qP s with
 |none=>simp[ii,↓zq,zs,ac,bG]
 |
  some t =>
  have:=th ht
  simp only[ii,↓zq,zs,ac,aE,fM]
  refine⟨fun h=>(by cases h),fun _=>?_⟩
  refine ai (Sa t (by omega)) ?_
  simp only[↓zq,zs,ac,bG]
  refine⟨fun h=>?_,fun h=>?_⟩
  ·rw[if_neg (by rw[h];simp)]
  ·rw[if_pos h]
end Go.Proofs.Trees
namespace Go.Proofs.Trees
open Go Go.VL
theorem RH(b:UInt8):ap Tryz.prog 141 [.v (.int .u8 (b.toNat:Int))] [] (bG (.v (.bool (eV b)))):=by
 refine R9 _ ?_
 simp only[LP,↓zq,zs,ac,bG,eV]
 repeat' (apply aI<;>intro _)
 all_goals first|(congr 2;rw[cx];simp;omega)|(congr 2;simp;omega)
def Ew(s:List UInt8)(x:Option (E×List UInt8)):AV->List Ob->Prop:=fun r o=>o=[] /\
 match x with
 |some (e,u)=>r=.cA [e.kE,.v (.int .i64 ((s.length-u.length:Nat):Int))]
 |none=>∃(c:List UInt8) (d:AV),LK.sl.has d/\r=.cA [.agg [.v (.string (mk c)),d],.v (.int .i64 (-1))]
theorem Ew.ne(s:List UInt8)(x:Option (E×List UInt8)):∃r o,Ew s x r o:=by
 cases x with
 |some q=>exact⟨_,_,rfl,rfl⟩
 |none=>exact⟨_,_,rfl,[],.v (.slice none 0 0),(bc).mpr trivial,rfl⟩
def jc(c:List UInt8)(d:AV):Ob:=.cells [.v (.string (mk c)),d]
theorem Pz(s:List UInt8)(hs:s.length<=8000)(from_:Int)(c1 c2:List UInt8)(d1 d2:AV)(h1:LK.sl.has d1)(h2:LK.sl.has d2):∀(k i:Nat),i+k=s.length->G4 [.v (.string (mk s)),.v (.int .i64 (i:Int)),.v (.int .i64 from_)] [jc c1 d1,jc c2 d2]
 (gj 1 [.v (.string (mk s)),.v (.int .i64 ((i+((s.drop i).takeWhile eV).length:Nat):Int)),.v (.int .i64 from_)] [jc c1 d1,jc c2 d2])
 |
  0,i,hi=>by
  refine Mi _ _ _ _ _ _ _ ?_
  have hd:s.drop i=[]:=bU (by omega)
  simp only[FV,↓zq,zs,ac,zt]
  exact⟨h1,h2,fun h=>by omega,fun _=>by simp[gj,hd,jc]⟩
 |
  k+1,i,hi=>by
  have hlt:i<s.length:=by omega
  refine Mi _ _ _ _ _ _ _ ?_
  simp only[FV,↓zq,zs,ac,zt,mo s i hlt]
  refine⟨h1,h2,fun _=>⟨by omega,?_⟩,fun h=>by omega⟩
  refine ai (RH _) ?_
  simp only[↓zq,zs,ac]
  refine⟨fun hb=>?_,fun hb=>?_⟩
  ·rw[bp i (by omega)]
   have:=Pz s hs from_ c1 c2 d1 d2 h1 h2 k (i+1) (by omega)
   rw[yx hlt hb,show i+(((s.drop (i+1)).takeWhile eV).length+1)=i+1+((s.drop (i+1)).takeWhile eV).length by omega]
   exact this
  ·simp[gj,qY hlt hb,jc]
def T8(s:List UInt8)(x:Option (E×List UInt8)):Nat->List AV->List Ob->Prop:=fun t ys o=>t=2 /\
 match x with
 |some (e,u)=>∃l,e=.list l/\ys=[.v (.int .i64 ((s.length-u.length:Nat):Int))]/\o=[jc [] .any,.vec 2 (E.bw l)]
 |none=>∃es,ys=[.v (.int .i64 (-1))]/\o=[jc [] .any,.vec 2 es]
theorem yL(e:E):(e.kE=.agg e.kE.cs/\e.kE.cs.length=2/\bz [.str,.sl] e.kE.cs 0)=True:=by
 apply eq_true
 cases e<;>simp[E.kE,E.iq,Cv,bz,dM,bc,bT]
theorem xg(e:E):[AV.v (.string ((e.kE.cs.getD 0 .any).ah)),e.kE.cs.getD 1 .any]=e.iq:=by
 cases e<;>rfl
theorem drop_cons{s:List UInt8}{j:Nat}(hj:j<s.length):s.drop j=s.getD j 0::s.drop (j+1):=by
 rw[aP hj];simp[aa,hj]
theorem Jw(s:List UInt8)(hs:s.length<=8000)(d:Nat)(hd:d<=300)(f:List UInt8->Option (E×List UInt8))(hf:∀u e r,f u=some (e,r)->∃j,r=u.drop j/\0<j/\j<=u.length)
 (ih:∀j,j<=s.length->ap Tryz.prog 104 [.v (.string (mk s)),.v (.int .i64 (j:Int)),.v (.int .i64 ((d+1:Nat):Int))] [] (Ew s (f (s.drop j)))) :
 ∀(n i:Nat) (acc:List E) (c1:List UInt8) (d1:AV),LK.sl.has d1->s.length-(i+1)<n->i<s.length->s.length-i+acc.length<=8001->Gj [.v (.string (mk s)),.v (.int .i64 (i:Int)),.v (.int .i64 (d:Int))] [jc c1 d1,jc [] .any,.vec 2 (E.bw acc)]
  (T8 s (sP f n (s.drop (i+1)) acc))
 |0,i,acc,c1,d1,h1,hn,_,_=>by omega
 |
  n+1,i,acc,c1,d1,h1,hn,hi,hl=>by
  refine R5 _ _ _ _ _ _ _ ?_
  simp only[Oq,↓zq,zs,ac,jc]
  refine⟨h1,?_⟩
  rw[bp i (by omega),bp d (by omega)]
  refine aN (ih (i+1) (by omega)) (Ew.ne _ _) ?_
  rintro r o ⟨rfl,hr⟩
  have hff:=hf (s.drop (i+1))
  unfold sP
  cases hq:f (s.drop (i+1))with
  |
   none =>
   rw[hq]at hr
   obtain⟨c,d',hd',rfl⟩:=hr
   simp only[↓zq,zs,ac,zt,bz]
   refine⟨hd',fun _=>⟨rfl,_,rfl,rfl⟩,fun h=>by omega⟩
  |
   some q =>
   obtain⟨e,u⟩:=q
   rw[hq]at hr
   subst hr
   obtain⟨j,hu,hj0,hj⟩:=hff e u hq
   rw[List.drop_drop]at hu
   simp only[ct]at hj
   have hul:u.length=s.length-(i+1+j):=by rw[hu,ct]
   have hpos:s.length-u.length=i+1+j:=by omega
   simp only[↓zq,zs,ac,zt,yL,hpos,xg,dY]
   refine⟨fun h=>by omega,fun _=>⟨fun h=>?_,fun h=>⟨⟨fun c hc=>(by simp at hc;rw[hc];cases e<;>rfl),by omega⟩,?_⟩⟩⟩
   ·have:u=[]:=by rw[hu];exact bU (by omega)
    subst this
    exact⟨rfl,_,rfl,rfl⟩
   ·have hlt:i+1+j<s.length:=by omega
    rw[drop_cons hlt]at hu
    subst hu
    rw[mo s _ hlt]
    generalize hb:s.getD (i+1+j) 0=b
    refine⟨by omega,fun h41=>?_,fun h41=>⟨by omega,fun h32=>?_,fun h32=>?_⟩⟩
    ·have h41':b.toNat=41:=by omega
     dsimp only
     rw[if_pos h41',bp _ (by omega)]
     refine⟨rfl,acc++[e],rfl,?_,?_⟩
     ·rw[ct];congr 3;omega
     ·simp[jc,qz,E.bw]
    ·have h41':¬b.toNat=41:=by omega
     have h32':¬b.toNat=32:=by omega
     dsimp only
     rw[if_neg h41',if_neg h32']
     exact⟨rfl,_,rfl,rfl⟩
    ·have h41':¬b.toNat=41:=by omega
     have h32':b.toNat=32:=by omega
     dsimp only
     rw[if_neg h41',if_pos h32']
     have:=Jw s hs d hd f hf ih n (i+1+j) (acc++[e]) c1 d1 h1 (by omega) hlt (by simp;omega)
     simpa[jc,qz,E.bw]using this
theorem EU(k:Nat)(u:List UInt8)(e:E)(r:List UInt8)(h:rd k u=some (e,r)):∃j,r=u.drop j/\0<j/\j<=u.length:=by
 have suf:∀(k:Nat) (u:List UInt8) (e:E) (r:List UInt8),rd k u=some (e,r)->r <:+ u:=by
  intro k
  have tw:∀u:List UInt8,u.dropWhile eV <:+ u:=fun u=>List.dropWhile_suffix _
  have ll:∀(f:List UInt8->Option (E×List UInt8)),(∀u e r,f u=some (e,r)->r <:+ u)->∀(n:Nat) (u:List UInt8) (acc:List E) (e:E) (r:List UInt8),sP f n u acc=some (e,r)->r <:+ u:=by
   intro f hf n
   induction n with
   |zero=>intro u acc e r h;cases h
   |
    succ n ih =>
    intro u acc e r h
    simp only[sP]at h
    split at h
    ·rename_i p c r' hs
     have h1:r' <:+ u:=(List.suffix_cons c r').trans (hf _ _ _ hs)
     split at h
     ·cases h;exact h1
     ·split at h
      ·exact(ih _ _ _ _ h).trans h1
      ·cases h
    ·cases h
  induction k with
  |
   zero =>
   intro u e r h
   simp only[rd]at h
   split at h
   ·cases h
   ·cases h;exact tw u
  |
   succ k ih =>
   intro u e r h
   simp only[rd]at h
   split at h
   ·split at h
    ·split at h
     ·exact(ll _ ih _ _ _ _ _ h).trans (List.suffix_cons _ _)
     ·cases h
    ·cases h
   ·cases h;exact tw u
 obtain⟨p,hp⟩:=suf k u e r h
 have hlt:=zM k u e r h
 have:=congrArg List.length hp
 simp only[an]at this
 exact⟨p.length,by rw[<-hp];simp,by omega,by omega⟩
theorem Bc(n:Nat)(u:List UInt8)(acc:List E):sP (fun _=>none) n u acc=none:=by
 cases n<;>rfl
theorem SE(s:List UInt8)(j:Nat):ap Tryz.prog 104 [.v (.string (mk s)),.v (.int .i64 (j:Int)),.v (.int .i64 ((300+1:Nat):Int))] [] (Ew s none):=by
 refine Mj _ _ _ ?_
 simp only[HJ,↓zq,zs,ac]
 exact⟨fun _=>⟨rfl,[],_,(bc).mpr trivial,rfl⟩,fun h=>by omega⟩
theorem qh(s:List UInt8)(hs:s.length<=8000)(d i:Nat)(hd:d<=300)(hi:i<=s.length)(f:List UInt8->Option (E×List UInt8))(hf:∀u e r,f u=some (e,r)->∃j,r=u.drop j/\0<j/\j<=u.length)
 (ih:∀j,j<=s.length->ap Tryz.prog 104 [.v (.string (mk s)),.v (.int .i64 (j:Int)),.v (.int .i64 ((d+1:Nat):Int))] [] (Ew s (f (s.drop j)))) (x:Option (E×List UInt8))
 (h0:i=s.length->x=none)
 (h1:i<s.length->(s.drop i).takeWhile eV≠[]->x=some (.atom ((s.drop i).takeWhile eV),(s.drop i).dropWhile eV))
 (h2:i<s.length->(s.drop i).takeWhile eV=[]->¬(s.getD i 0).toNat=40->x=none)
 (h3:i<s.length->(s.getD i 0).toNat=40->x=sP f (s.length-(i+1)+1) (s.drop (i+1)) []) :
 ap Tryz.prog 104 [.v (.string (mk s)),.v (.int .i64 (i:Int)),.v (.int .i64 (d:Int))] [] (Ew s x):=by
 refine Mj _ _ _ ?_
 simp only[HJ,↓zq,zs,ac,zt]
 refine⟨fun h=>by omega,fun _=>⟨fun h=>?_,fun h=>⟨by omega,?_⟩⟩⟩
 ·rw[h0 (by omega)]
  exact⟨rfl,[],_,(bc).mpr trivial,rfl⟩
 ·have hlt:i<s.length:=by omega
  rw[mo s i hlt]
  refine⟨fun h40=>?_,fun h40=>?_⟩
  ·have h40':¬(s.getD i 0).toNat=40:=by omega
   refine co (Pz s hs _ [] [] _ _ ((bc).mpr trivial) ((bc).mpr trivial) (s.length-i) i (by omega)) ?_
   have hex:(List.take (i+((s.drop i).takeWhile eV).length) s).drop i=(s.drop i).takeWhile eV:=by
    rw[List.drop_take,Nat.add_sub_cancel_left];exact uA _
   have hle:i+((s.drop i).takeWhile eV).length<=s.length:=by
    have:=u4 (s.drop i);simp only[ct]at this;omega
   simp only[jc,↓zq,zs,ac,zt,hex]
   refine⟨by omega,fun hnil=>?_,fun hnil=>?_⟩
   ·rw[h2 hlt hnil h40',hnil]
    exact⟨rfl,[],_,(bc).mpr trivial,rfl⟩
   ·rw[h1 hlt hnil]
    refine⟨rfl,?_⟩
    have:=u4 (s.drop i)
    simp only[ct]at this
    show _=AV.cA [E.kE (.atom _),_]
    have e:s.length-((s.drop i).dropWhile eV).length=i+((s.drop i).takeWhile eV).length:=by omega
    rw[e];rfl
  ·have h40':(s.getD i 0).toNat=40:=by omega
   rw[h3 hlt h40']
   refine kX (Jw s hs d hd f hf ih (s.length-(i+1)+1) i [] [] _ ((bc).mpr trivial) (by omega) hlt (by simp;omega)) ?_ ?_
   ·rintro ys o ⟨h,_⟩;cases h
   ·rintro ys o ⟨_,hr⟩
    cases hq:sP f (s.length-(i+1)+1) (s.drop (i+1)) []with
    |
     none =>
     rw[hq]at hr
     obtain⟨es,rfl,rfl⟩:=hr
     simp only[jc,↓zq,zs,ac]
     exact⟨rfl,[],_,(bT _).mpr trivial,rfl⟩
    |
     some q =>
     obtain⟨e,u⟩:=q
     rw[hq]at hr
     obtain⟨l,rfl,rfl,rfl⟩:=hr
     simp only[jc,↓zq,zs,ac]
     exact⟨rfl,rfl⟩
theorem QZ(s:List UInt8)(hs:s.length<=8000):∀(k:Nat),k<=300->∀i,i<=s.length->ap Tryz.prog 104 [.v (.string (mk s)),.v (.int .i64 (i:Int)),.v (.int .i64 ((300-k:Nat):Int))] [] (Ew s (rd k (s.drop i))):=by
 intro k
 have hnil:∀k,rd k []=none:=fun k=>by cases k<;>simp[rd]
 have ha40:∀b:UInt8,b.toNat=40->eV b=false:=fun b hb=>by simp[eV,hb]
 induction k with
 |
  zero =>
  intro hk i hi
  refine qh s hs 300 i (by omega) hi (fun _=>none) (fun _ _ _ h=>by cases h) (fun j _=>SE s j) _ (fun h=>?_) (fun hlt h=>?_) (fun hlt h h40=>?_) (fun hlt h40=>?_)
  ·rw[bU (by omega)];exact hnil 0
  ·simp only[rd,if_neg h]
  ·simp only[rd,if_pos h]
  ·rw[Bc]
   have:(s.drop i).takeWhile eV=[]:=qY hlt (ha40 _ h40)
   simp only[rd,if_pos this]
 |
  succ k ih =>
  intro hk i hi
  have hd:300-(k+1)+1=300-k:=by omega
  refine qh s hs (300-(k+1)) i (by omega) hi (rd k) (EU k) (fun j hj=>by rw[hd];exact ih (by omega) j hj) _ (fun h=>?_) (fun hlt h=>?_) (fun hlt h h40=>?_) (fun hlt h40=>?_)
  ·rw[bU (by omega)];exact hnil _
  ·simp only[rd,if_neg h]
  ·rw[drop_cons hlt]at h |-
   simp only[rd,if_pos h,if_neg h40]
  ·have h:=qY hlt (ha40 _ h40)
   rw[drop_cons hlt]at h |-
   simp only[rd,if_pos h,if_pos h40,ct]
end Go.Proofs.Trees
namespace Go.Proofs.Trees
open Go Go.VL
theorem iV(e:E):AV.agg [.v (.string ((e.iq.getD 0 .any).ah)),e.iq.getD 1 .any]=e.kE:=by cases e<;>rfl
theorem gl(e:E):e.iq.length=2:=by cases e<;>rfl
theorem iU(e:E):bz [.str,.sl] e.iq 0=True:=by
 apply eq_true
 cases e<;>simp[E.iq,bz,dM,bc,bT]
theorem mS(e:E):e.iq.headD .any=.v (.string (mk e.at)):=by cases e<;>rfl
theorem vk(x:E)(l:List E):ap Tryz.prog 71 [.agg [.v (.string (mk [])),.sl (E.bw (x::l))]] [] (bG (.v (.string (mk x.at)))):=by
 refine Hx _ _ ((bT _).mpr trivial) ?_
 simp only[EL,E.bw,↓zq,zs,ac,zt,bG,gl,mS,aq]
 refine⟨fun h=>absurd rfl h,fun _=>⟨fun h=>by omega,fun _=>⟨by omega,by omega⟩⟩⟩
theorem S0:ap Tryz.prog 71 [.agg [.v (.string (mk [])),.sl (E.bw [])]] [] (bG (.v (.string (mk [])))):=by
 refine Hx _ _ ((bT _).mpr trivial) ?_
 simp only[EL,E.bw,↓zq,zs,ac,zt,bG,gl,mS,aq]
 simp
def j1:E->Bool
 | .atom s=>(s==[48])||(s==[49])||gU s||dk s
 | .list [x,a,b]=>if x.at=[43]then j1 a&&j1 b else if x.at=[42]then j1 a&&j1 b else if x.at=[114,101,99]then dk a.at&&j1 b else false
 | .list _=>false
theorem zY:∀(e:E),e.ok->ap Tryz.prog 138 [e.kE] [] (bG (.v (.bool (j1 e))))
 |
  .atom s,hok=>by
  refine Pb _ _ ((bc).mpr trivial) ?_
  have hne:s≠[]:=hok
  simp only[w4,↓zq,zs,ac,zt,bG,j1]
  refine⟨fun _=>⟨fun h=>?_,fun h=>⟨fun h1=>?_,fun h1=>?_⟩⟩,fun h=>absurd h hne⟩
  ·simp[h]
  ·simp[h1]
  ·refine ai (Je s) ?_
   simp only[↓zq,zs,ac]
   refine⟨fun hp=>?_,fun hp=>?_⟩
   ·simp[hp]
   ·refine ai (Gt s) ?_
    simp[↓zq,zs,ac,hp,h,h1]
 |
  .list l,hok=>by
  refine Pb _ _ ((bT _).mpr trivial) ?_
  match l,hok with
  |[],hok=>simp[w4,E.bw,↓zq,zs,ac,zt,bG,j1]
  |[x],hok=>simp[w4,E.bw,↓zq,zs,ac,zt,bG,j1]
  |[x,y],hok=>simp[w4,E.bw,↓zq,zs,ac,zt,bG,j1]
  |
   x::y::z::w::l,hok =>
   simp only[w4,E.bw,↓zq,zs,ac,zt,bG,j1]
   exact⟨fun h=>absurd rfl h,fun _=>⟨fun _=>trivial,fun h=>by omega⟩⟩
  |
   [x,y,z],hok =>
   obtain⟨ok1,ok2,ok3,_⟩:=hok
   simp only[w4,↓zq,zs,ac,zt,bG]
   refine⟨fun h=>absurd rfl h,fun _=>⟨fun h=>absurd rfl h,fun _=>?_⟩⟩
   refine ai (vk x _) ?_
   simp only[E.bw,toNat_one,bg,↓zq,zs,ac,zt,iV,gl,iU,mS,aq,j1]
   refine⟨fun h=>?_,fun h=>⟨fun h1=>?_,fun h1=>⟨fun h2=>?_,fun h2=>?_⟩⟩⟩
   ·rw[if_pos h]
    refine⟨by omega,ai (zY y ok2) ?_⟩
    simp only[↓zq,zs,ac]
    refine⟨fun hy=>⟨by omega,ai (zY z ok3) ?_⟩,fun hy=>?_⟩
    ·simp only[↓zq,zs,ac,hy,bX]
    ·rw[hy];rfl
   ·rw[if_neg h,if_pos h1]
    refine⟨by omega,ai (zY y ok2) ?_⟩
    simp only[↓zq,zs,ac]
    refine⟨fun hy=>⟨by omega,ai (zY z ok3) ?_⟩,fun hy=>?_⟩
    ·simp only[↓zq,zs,ac,hy,bX]
    ·rw[hy];rfl
   ·rw[if_neg h,if_neg h1,if_pos h2]
    refine⟨by omega,by omega,ai (Gt _) ?_⟩
    simp only[↓zq,zs,ac]
    refine⟨fun hy=>⟨by omega,ai (zY z ok3) ?_⟩,fun hy=>?_⟩
    ·simp only[↓zq,zs,ac,hy,bX]
    ·rw[hy];rfl
   ·rw[if_neg h,if_neg h1,if_neg h2]
theorem iR:∀(e:E) (ar:List (List UInt8)),(cS e ar).isSome=j1 e
 |
  .atom s,ar=>by
  simp only[cS,j1]
  by_cases h:s=[48]
  ·simp[h]
  ·by_cases h1:s=[49]
   ·simp[h1]
   ·rw[if_neg h,if_neg h1]
    by_cases h2:gU s=true
    ·simp[h2]
    ·rw[if_neg h2]
     by_cases h3:dk s=true
     ·rw[if_pos h3];cases bQ s ar ar.length<;>simp[h3]
     ·rw[if_neg h3];simp[h,h1,h2,h3]
 | .list [],_=>rfl
 | .list [_],_=>rfl
 | .list [_,_],_=>rfl
 | .list (_::_::_::_::_),_=>rfl
 |
  .list [x,a,b],ar=>by
  have ha:=iR a ar
  have hb:=iR b ar
  have hb2:=iR b (ar++[a.at])
  rw[j1]
  by_cases h:x.at=[43]
  ·rw[lm ar h,if_pos h,<-ha,<-hb];cases cS a ar<;>cases cS b ar<;>rfl
  ·by_cases h1:x.at=[42]
   ·rw[j0 ar h1,if_neg h,if_pos h1,<-ha,<-hb];cases cS a ar<;>cases cS b ar<;>rfl
   ·by_cases h2:x.at=[114,101,99]
    ·rw[mP ar h2,if_neg h,if_neg h1,if_pos h2,<-hb2]
     cases dk a.at<;>cases cS b (ar++[a.at])<;>rfl
    ·rw[iZ ar h h1 h2,if_neg h,if_neg h1,if_neg h2];rfl
mutual
def E.df:E->Nat
 | .atom _=>1
 | .list l=>E.eT l
def E.eT:List E->Nat
 |[]=>0
 |e::l=>e.df+E.eT l
end
mutual
theorem iM:∀e:E,e.df<=e.sz
 | .atom s=>by simp[E.df,E.sz]
 | .list l=>by have:=uT l;simp only[E.df,E.sz];omega
theorem uT:∀l:List E,E.eT l<=E.jp l
 |[]=>by simp[E.eT,E.jp]
 |e::l=>by have:=iM e;have:=uT l;simp only[E.eT,E.jp];omega
end
theorem jG:∀(l:List E) (i:Nat) (h:i<l.length),(E.bw l).getD i []=(l[i]).iq
 |e::l,0,_=>rfl
 |
  e::l,i+1,h=>by
  have:=jG l i (by simpa using h)
  simp only[E.bw,List.getD_cons_succ,List.getElem_cons_succ];exact this
theorem zZ:∀(l:List E) (i:Nat) (h:i<l.length),E.eT (l.drop i)=(l[i]).df+E.eT (l.drop (i+1)):=by
 intro l i h
 rw[aP h];rfl
theorem uB:∀(l:List E) (i:Nat) (h:i<l.length),E.Ev l->(l[i]).ok
 |e::l,0,_,h=>h.1
 |e::l,i+1,hi,h=>uB l i (by simpa using hi) h.2
theorem Nx(l:List E)(hl:E.eT l<1000000)(hll:l.length<1000000)(ih:∀i (h:i<l.length),ap Tryz.prog 109 [(l[i]).kE] [] (bG (.v (.int .i64 ((l[i]).df:Int))))) :
 ∀(k i n:Nat),i+k=l.length->n+E.eT (l.drop i)<=E.eT l->FY [.v (.int .i64 (n:Int)),.v (.int .i64 (i:Int))] [.cells [.v (.string (mk [])),.sl (E.bw l)]] (gj 1 [.v (.int .i64 ((n+E.eT (l.drop i):Nat):Int))] [])
 |
  0,i,n,hi,hn=>by
  refine MJ _ _ _ _ ?_
  simp only[FQ,↓zq,zs,ac,dY]
  have:l.drop i=[]:=bU (by omega)
  refine⟨fun h=>by omega,fun _=>?_⟩
  simp[gj,this,E.eT]
 |
  k+1,i,n,hi,hn=>by
  have hlt:i<l.length:=by omega
  refine MJ _ _ _ _ ?_
  simp only[FQ,↓zq,zs,ac,zt,dY,jG l i hlt,gl,iU,iV,aq]
  refine⟨fun _=>⟨by omega,?_⟩,fun h=>by omega⟩
  refine ai (ih i hlt) ?_
  have h1:=zZ l i hlt
  simp only[↓zq,zs,ac]
  rw[bp i (by omega),wrap64 _ (by omega) (by omega)]
  have:=Nx l hl hll ih k (i+1) (n+(l[i]).df) (by omega) (by omega)
  rw[h1,<-Nat.add_assoc]
  simpa using this
theorem u9:∀l:List E,l.length<=E.jp l
 |[]=>by simp[E.jp]
 |
  e::l=>by
  have:=u9 l
  have:1<=e.sz:=by cases e<;>simp[E.sz]
  simp only[E.jp,au];omega
theorem uG:∀(l:List E) (i:Nat) (h:i<l.length),(l[i]).sz<=E.jp l
 |e::l,0,_=>by simp[E.jp]
 |e::l,i+1,h=>by have:=uG l i (by simpa using h);simp only[E.jp,List.getElem_cons_succ];omega
theorem MV:∀(n:Nat) (e:E),e.sz<n->e.ok->e.sz<1000000->ap Tryz.prog 109 [e.kE] [] (bG (.v (.int .i64 (e.df:Int))))
 |0,e,hn,_,_=>by omega
 |
  n+1,.atom s,hn,hok,hl=>by
  refine PE _ _ ((bc).mpr trivial) ?_
  have hne:s≠[]:=hok
  simp only[Ic,↓zq,zs,ac,zt,bG]
  exact⟨fun _=>rfl,fun h=>absurd h hne⟩
 |
  n+1,.list l,hn,hok,hl=>by
  refine PE _ _ ((bT _).mpr trivial) ?_
  simp only[E.sz]at hn hl
  have h1:=uT l
  have h2:=u9 l
  simp only[Ic,↓zq,zs,ac,zt,bG]
  refine⟨fun h=>absurd rfl h,fun _=>?_⟩
  refine co (Nx l (by omega) (by omega) (fun i hi=>?_) l.length 0 0 (by omega) (by simp)) ?_
  ·have:=uG l i hi
   exact MV n (l[i]) (by omega) (uB l i hi hok) (by omega)
  ·simp[↓zq,zs,ac,E.df]
theorem Ey(e:E)(h:e.ok)(hl:e.sz<1000000):ap Tryz.prog 109 [e.kE] [] (bG (.v (.int .i64 (e.df:Int)))):=MV (e.sz+1) e (by omega) h hl
theorem uC{x:E}(h:x.at≠[]):x.df=1:=by cases x<;>simp[E.at,E.df]at h |-
theorem C3{s:List UInt8}(h:dk s=true):s≠[]:=by rintro rfl;cases h
theorem jT:∀(e:E) (ar:List (List UInt8)) (t:Ty),cS e ar=some t->e.df=t.aD
 |
  .atom s,ar,t,h=>by
  simp only[cS]at h
  simp only[E.df]
  split at h
  ·cases h;rfl
  ·split at h
   ·cases h;rfl
   ·split at h
    ·cases h;rfl
    ·split at h
     ·split at h<;>cases h<;>rfl
     ·cases h
 | .list [],_,_,h=>by cases h
 | .list [_],_,_,h=>by cases h
 | .list [_,_],_,_,h=>by cases h
 | .list (_::_::_::_::_),_,_,h=>by cases h
 |
  .list [x,a,b],ar,t,h=>by
  simp only[E.df,E.eT]
  by_cases h0:x.at=[43]
  ·rw[lm ar h0]at h
   have:=uC (x:=x) (by rw[h0];simp)
   split at h
   ·rename_i t1 t2 e1 e2
    cases h
    have:=jT a ar _ e1
    have:=jT b ar _ e2
    simp only[Ty.aD];omega
   ·cases h
  ·by_cases h1:x.at=[42]
   ·rw[j0 ar h1]at h
    have:=uC (x:=x) (by rw[h1];simp)
    split at h
    ·rename_i t1 t2 e1 e2
     cases h
     have:=jT a ar _ e1
     have:=jT b ar _ e2
     simp only[Ty.aD];omega
    ·cases h
   ·by_cases h2:x.at=[114,101,99]
    ·rw[mP ar h2]at h
     have:=uC (x:=x) (by rw[h2];simp)
     split at h
     ·rename_i hl
      have:=uC (C3 hl)
      split at h
      ·rename_i t1 e1
       cases h
       have:=jT b _ _ e1
       simp only[Ty.aD];omega
      ·cases h
     ·cases h
    ·rw[iZ ar h0 h1 h2]at h;cases h
def jv(x:Option E)(b:Bool):AV->List Ob->Prop:=fun r o=>∃c:List UInt8,∃d:AV,LK.sl.has d/\r=.cA [.agg [.v (.string (mk c)),d],.v (.bool b)]/\(b=true->∃e,x=some e/\AV.agg [.v (.string (mk c)),d]=e.kE)
theorem CQ(e:E):∃c:List UInt8,∃d:AV,LK.sl.has d/\e.kE=AV.agg [.v (.string (mk c)),d]:=by
 cases e with
 |atom s=>exact⟨s,_,(bc).mpr trivial,rfl⟩
 |list l=>exact⟨[],_,(bT _).mpr trivial,rfl⟩
theorem jv.ne(x:Option E)(b:Bool)(h:b=true->x.isSome=true):∃r o,jv x b r o:=by
 cases b with
 |false=>exact⟨_,[],[],.v (.slice none 0 0),(bc).mpr trivial,rfl,fun h=>by cases h⟩
 |
  true =>
  cases x with
  |none=>cases h rfl
  |
   some e =>
   obtain⟨c,d,hd,he⟩:=CQ e
   exact⟨_,[],c,d,hd,rfl,fun _=>⟨e,rfl,he.symm⟩⟩
theorem PD(s:List UInt8):ap Tryz.prog 73 [.v (.string (mk s))] [] (jv (qS s) (qS s).isSome):=by
 refine Q8 _ ?_
 simp only[MC,↓zq,zs,ac,zt,qS]
 refine⟨fun h=>?_,fun h=>?_⟩
 ·rw[if_pos (by omega)]
  exact⟨[],_,(bc).mpr trivial,rfl,fun h=>by cases h⟩
 ·rw[if_neg (by omega)]
  refine aN (QZ s (by omega) 300 (by omega) 0 (by omega)) (Ew.ne _ _) ?_
  rintro r o ⟨rfl,hr⟩
  rw[aZ]at hr
  cases hq:rd 300 s with
  |
   none =>
   rw[hq]at hr
   obtain⟨c,d,hd,rfl⟩:=hr
   simp only[↓zq,zs,ac,zt,bz]
   refine⟨hd,c,d,hd,?_,fun h=>by cases h⟩
   have:((-1:Int)==(s.length:Int))=false:=by
    rw[beq_eq_false_iff_ne];omega
   rw[this];rfl
  |
   some q =>
   obtain⟨e,u⟩:=q
   rw[hq]at hr
   subst hr
   have hlt:=zM _ _ _ _ hq
   obtain⟨c,d,hd,he⟩:=CQ e
   simp only[he,↓zq,zs,ac,zt,bz]
   cases u with
   |
    nil =>
    refine⟨hd,c,d,hd,?_,fun _=>⟨e,rfl,he.symm⟩⟩
    simp
   |
    cons b u =>
    simp only[au]at hlt |-
    refine⟨hd,c,d,hd,?_,fun h=>by cases h⟩
    have:(((s.length-(u.length+1):Nat):Int)==(s.length:Int))=false:=by simp;omega
    rw[this];rfl
def wS(s:List UInt8):Option E:=match qS s with
 |none=>none
 |some e=>if j1 e=true/\e.df<=400 then some e else none
theorem Il(s:List UInt8):ap Tryz.prog 97 [.v (.string (mk s))] [] (jv (wS s) (wS s).isSome):=by
 refine RG _ ?_
 unfold Kh
 refine aN (PD s) (jv.ne _ _ (fun h=>h)) ?_
 rintro r o ⟨c,d,hd,rfl,hh⟩
 simp only[↓zq,zs,ac,zt,bz,wS]
 refine⟨hd,fun h=>?_,fun h=>?_⟩
 ·obtain⟨e,he,hce⟩:=hh h
  obtain⟨hok,hsz⟩:=oc he
  rw[he,hce]
  refine ai (zY e hok) ?_
  simp only[↓zq,zs,ac]
  refine⟨fun hi=>?_,fun hi=>?_⟩
  ·refine ai (Ey e hok (by omega)) ?_
   simp only[↓zq,zs,ac,hi]
   refine⟨c,d,hd,?_,?_⟩
   ·rw[hce]
    by_cases h4:e.df<=400
    ·rw[if_pos h4];exact congrArg (fun b=>AV.cA [e.kE,.v (.bool b)]) (decide_eq_true (show ((e.df:Nat):Int)<=400 by omega))
    ·rw[if_neg h4];exact congrArg (fun b=>AV.cA [e.kE,.v (.bool b)]) (decide_eq_false (show ¬((e.df:Nat):Int)<=400 by omega))
   ·split
    ·exact fun _=>⟨e,rfl,hce⟩
    ·exact fun h=>by cases h
  ·refine⟨c,d,hd,?_,?_⟩
   ·rw[hce,if_neg (by rw[hi];simp)];rfl
   ·rw[if_neg (by rw[hi];simp)];exact fun h=>by cases h
 ·have hn:qS s=none:=by cases hq:qS s<;>simp[hq]at h |-
  rw[hn]
  exact⟨c,d,hd,rfl,fun h=>by cases h⟩
theorem pR{s:List UInt8}{e:E}(h:wS s=some e):qS s=some e/\j1 e=true/\e.df<=400:=by
 unfold wS at h
 split at h
 ·cases h
 ·split at h
  ·rename_i e' h1 h2;cases h;exact⟨h1,h2⟩
  ·cases h
end Go.Proofs.Trees
namespace Go.Proofs.Trees
open Go Go.VL
def cc:Ty->Bool
 | .name s=>dk s
 | .plus a b=>cc a||cc b
 | .times a b=>cc a||cc b
 | .rc a=>cc a
 |_=>false
theorem gV:∀(t:Ty) (out:List (List UInt8)),(bP t out).any dk=(out.any dk||cc t)
 |
  .name s,out=>by
  simp only[bP,pV,cc]
  split
  ·rename_i h
   cases hs:dk s with
   |false=>simp
   |true=>rw[Bool.or_true,cn];exact⟨s,h,hs⟩
  ·simp
 | .plus a b,out=>by simp only[bP,cc,gV a,gV b,Bool.or_assoc]
 | .times a b,out=>by simp only[bP,cc,gV a,gV b,Bool.or_assoc]
 | .rc a,out=>by simp only[bP,cc,gV a]
 | .zero,out=>by simp[bP,cc]
 | .one,out=>by simp[bP,cc]
 | .bW u,out=>by simp[bP,cc]
theorem tj(t:Ty):t.closed = !cc t:=by simp[Ty.closed,gV]
def pl:Ty->Bool
 | .name s=>decide (s.length<=1)
 | .plus a b=>pl a&&pl b
 | .times a b=>pl a&&pl b
 | .rc a=>false
 |_=>true
theorem lH{lo hi:Nat}{s:List UInt8}(h:named lo hi s=true):∃c r,s=c::r/\lo<=c.toNat/\c.toNat<=hi:=by
 cases s with
 |nil=>cases h
 |cons c r=>simp only[named,az,decide_eq_true_eq]at h;exact⟨c,r,rfl,by omega,by omega⟩
theorem fJ{x a b:E}{ar:List (List UInt8)}{t:Ty}(hx:x.at=[43])(h:cS (.list [x,a,b]) ar=some t):∃t1 t2,cS a ar=some t1/\cS b ar=some t2/\t=.plus t1 t2:=by
 rw[lm ar hx]at h
 split at h
 ·rename_i t1 t2 e1 e2;cases h;exact⟨t1,t2,e1,e2,rfl⟩
 ·cases h
theorem eY{x a b:E}{ar:List (List UInt8)}{t:Ty}(hx:x.at=[42])(h:cS (.list [x,a,b]) ar=some t):∃t1 t2,cS a ar=some t1/\cS b ar=some t2/\t=.times t1 t2:=by
 rw[j0 ar hx]at h
 split at h
 ·rename_i t1 t2 e1 e2;cases h;exact⟨t1,t2,e1,e2,rfl⟩
 ·cases h
theorem dB{x a b:E}{ar:List (List UInt8)}{t:Ty}(hx:x.at=[114,101,99])(h:cS (.list [x,a,b]) ar=some t):∃t1,dk a.at=true/\cS b (ar++[a.at])=some t1/\t=.rc t1:=by
 rw[mP ar hx]at h
 split at h
 ·rename_i hl
  split at h
  ·rename_i t1 e1;cases h;exact⟨t1,hl,e1,rfl⟩
  ·cases h
 ·cases h
theorem ur{s:List UInt8}:qP s=match wS s with|none=>none|some e=>cS e []:=by
 unfold qP wS
 cases he:qS s with
 |none=>rfl
 |
  some e =>
  have hs:=iR e []
  simp only
  cases ht:cS e []with
  |
   none =>
   rw[ht]at hs
   rw[if_neg (by rw[<-hs];simp)]
  |
   some t =>
   rw[ht]at hs
   have ha:=jT e [] t ht
   by_cases h4:e.df<=400
   ·rw[if_pos ⟨hs.symm,h4⟩];dsimp only;rw[if_neg (by omega)];exact ht.symm
   ·rw[if_neg (fun h=>h4 h.2)];dsimp only;rw[if_pos (by omega)]
end Go.Proofs.Trees
namespace Go.Proofs.Trees
open Go Go.VL
def pure:Ty->Bool
 | .zero=>true
 | .one=>true
 | .name s=>(s==[120])||(s==[121])||(s==[122])
 | .plus a b=>pure a&&pure b
 | .times a b=>pure a&&pure b
 |_=>false
def Nj(v:Nat):Option Nat:=if v<=1000000000 then some v else none
def Jq(n:Nat):Ty->Option Nat
 | .zero=>some 0
 | .one=>some 1
 | .name _=>some n
 | .plus a b=>match Jq n a,Jq n b with|some x,some y=>Nj (x+y)|_,_=>none
 | .times a b=>match Jq n a,Jq n b with|some x,some y=>Nj (x*y)|_,_=>none
 |_=>none
def O4(x:Option Nat):AV->List Ob->Prop:=fun r o=>∃v:Int,r=.cA [.v (.int .i64 v),.v (.bool x.isSome)]/\∀c,x=some c->v=(c:Int)
theorem O4.ne(x:Option Nat):∃r o,O4 x r o:=by
 cases x with
 |none=>exact⟨_,[],0,rfl,fun c h=>by cases h⟩
 |some c=>exact⟨_,[],(c:Int),rfl,fun c' h=>by cases h;rfl⟩
end Go.Proofs.Trees
namespace Go.Proofs.Trees
open Go Go.VL Go.RowKit
abbrev dd(n:Nat):List UInt8:=Lib.decDigits n
theorem eF{k:Nat}(h:k<10):dd k=[bh (48+k)]:=by rw[dd,Lib.decDigits,dif_pos h]
theorem fP{k:Nat}(h:¬k<10):dd k=dd (k/10)++[bh (48+k%10)]:=by rw[dd,Lib.decDigits,dif_neg h]
theorem mT:∀(n k:Nat),k<n->(dd k).length<=k+1
 |0,k,h=>by omega
 |
  n+1,k,h=>by
  by_cases h1:k<10
  ·rw[eF h1];simp
  ·rw[fP h1]
   have:=mT n (k/10) (by omega)
   simp only[an,au,aG];omega
theorem yl(d:Nat)(h:d<10):(Value.int .u8 (IntKind.wrap .u8 (IntKind.wrap .i64 (48+(d:Int)))))=.int .u8 ((bh (48+d)).toNat:Int):=by
 have:d=0\/d=1\/d=2\/d=3\/d=4\/d=5\/d=6\/d=7\/d=8\/d=9:=by omega
 rcases this with rfl|rfl|rfl|rfl|rfl|rfl|rfl|rfl|rfl|rfl<;>rfl
theorem qw(b:UInt8):bytesOf [[.v (.int .u8 (b.toNat:Int))]]=[b]:=by simp[bytesOf,yZ]
theorem kP(b:UInt8):jy [[.v (.int .u8 (b.toNat:Int))]]:=⟨rfl,(l6 _ _).mpr trivial,trivial⟩
theorem zU:∀(n k:Nat),k<n->k<1000000000->ap Tryz.prog 111 [.v (.int .i64 (k:Int))] [] (bG (.v (.string (mk (dd k)))))
 |0,k,h,_=>by omega
 |
  n+1,k,h,hk=>by
  refine TV _ ?_
  simp only[Kb,↓zq,zs,ac,bG]
  refine⟨fun h=>by omega,fun _=>⟨fun h=>by omega,fun _=>⟨fun h1=>?_,fun h1=>⟨by omega,?_⟩⟩⟩⟩
  ·rw[yl k (by omega)]
   refine⟨kP _,?_⟩
   rw[qw,eF (by omega)];rfl
  ·have e1:IntKind.wrap .i64 (Int.tdiv (k:Int) 10)=((k/10:Nat):Int):=by
    rw[show Int.tdiv (k:Int) 10=((k/10:Nat):Int) from (Int.ofNat_tdiv k 10).symm,wrap64 _ (by omega) (by omega)]
   have e2:dG (k:Int) 10=((k%10:Nat):Int):=(Int.ofNat_tmod k 10).symm
   rw[e1,e2,yl (k%10) (by omega)]
   refine ai (zU n (k/10) (by omega) (by omega)) ?_
   have hl:=mT (k+1) (k/10) (by omega)
   simp only[↓zq,zs,ac,zt,qw]
   have h9:(k:Int)<1000000000:=by omega
   refine⟨by omega,kP _,?_,?_⟩
   ·show (mk (dd (k/10))).size+(mk [bh (48+k%10)]).size<=_
    rw[cJ,cJ];simp;omega
   ·show AV.v (.string (mk (dd (k/10))++mk [bh (48+k%10)]))=_
    rw[lu,fP (k:=k) (by omega)]
theorem AB(s:List UInt8)(d:AV)(hd:LK.sl.has d)(h:s≠[]):ap Tryz.prog 71 [.agg [.v (.string (mk s)),d]] [] (bG (.v (.string (mk [])))):=by
 refine Hx _ _ hd ?_
 simp only[EL,↓zq,zs,ac,zt,bG]
 exact⟨fun _=>trivial,fun h'=>absurd h' h⟩
theorem EP(e:E):AV.agg [.v (.string ((e.kE.cs.getD 0 .any).ah)),e.kE.cs.getD 1 .any]=e.kE:=by cases e<;>rfl
mutual
def eU:E->List UInt8
 | .atom s=>s
 | .list []=>[40,41]
 | .list (e::l)=>40::(eU e++(eg l++[41]))
def eg:List E->List UInt8
 |[]=>[]
 |e::l=>32::(eU e++eg l)
end
theorem Ai:∀(l:List E) (i:Nat) (h:i<l.length),eg (l.drop i)=32::(eU l[i]++eg (l.drop (i+1))):=by
 intro l i h
 rw[aP h,eg]
theorem JT(l:List E)(hll:l.length<1000000000000)(ih:∀i (h:i<l.length),ap Tryz.prog 76 [(l[i]).kE] [] (bG (.v (.string (mk (eU l[i])))))) :
 ∀(k i:Nat) (out:List UInt8),i+k=l.length->1<=i->out.length+(eg (l.drop i)).length<=1000000000000->Cz [.v (.string (mk out)),.v (.int .i64 (i:Int))] [.cells [.v (.string (mk [])),.sl (E.bw l)]] (gj 1 [.v (.string (mk (out++eg (l.drop i))))] [])
 |
  0,i,out,hi,h1,hn=>by
  refine Ec _ _ _ _ ?_
  simp only[Be,↓zq,zs,ac,dY]
  have:l.drop i=[]:=bU (by omega)
  refine⟨fun h=>by omega,fun _=>?_⟩
  simp[gj,this,eg]
 |
  k+1,i,out,hi,h1,hn=>by
  have hlt:i<l.length:=by omega
  have hd:=Ai l i hlt
  rw[hd]at hn
  simp only[au,an]at hn
  refine Ec _ _ _ _ ?_
  simp only[Be,↓zq,zs,ac,zt,dY,jG l i hlt,gl,iU,iV,aq]
  refine⟨fun _=>⟨fun _=>⟨by omega,by omega,?_⟩,fun h=>by omega⟩,fun h=>by omega⟩
  refine ai (ih i hlt) ?_
  simp only[↓zq,zs,ac,zt]
  refine⟨by simp;omega,?_⟩
  rw[bp i (by omega),hd]
  have:=JT l hll ih k (i+1) (out++[32]++eU l[i]) (by omega) (by omega) (by simp;omega)
  simpa using this
theorem yN:∀(l:List E) (i:Nat) (h:i<l.length),(eU l[i]).length<=(eg l).length
 |e::l,0,_=>by simp only[eg,List.getElem_cons_zero,au,an];omega
 |e::l,i+1,h=>by have:=yN l i (by simpa using h);simp only[eg,List.getElem_cons_succ,au,an];omega
theorem rI:∀l:List E,l.length<=(eg l).length
 |[]=>by simp[eg]
 |e::l=>by have:=rI l;simp only[eg,au,an];omega
theorem Dx:∀(n:Nat) (e:E),e.sz<n->e.ok->(eU e).length<=900000000000->ap Tryz.prog 76 [e.kE] [] (bG (.v (.string (mk (eU e)))))
 |0,e,hn,_,_=>by omega
 |
  n+1,.atom s,hn,hok,hl=>by
  refine Gh _ _ ((bc).mpr trivial) ?_
  have hne:s≠[]:=hok
  simp only[Du,↓zq,zs,ac,zt,bG]
  exact⟨fun _=>rfl,fun h=>absurd h hne⟩
 |
  n+1,.list [],hn,hok,hl=>by
  refine Gh _ _ ((bT _).mpr trivial) ?_
  simp only[Du,↓zq,zs,ac,zt,bG]
  refine⟨fun h=>absurd rfl h,fun _=>?_⟩
  have h1:Cz [.v (.string (mk [40])),.v (.int .i64 0)] [.cells [.v (.string (mk [])),.sl (E.bw [])]] (gj 1 [.v (.string (mk [40]))] []):=by
   refine Ec _ _ _ _ ?_
   simp[Be,↓zq,zs,ac,E.bw,gj]
  refine co h1 ?_
  simp only[↓zq,zs,ac,zt]
  exact⟨by simp,rfl⟩
 |
  n+1,.list (x::l),hn,hok,hl=>by
  refine Gh _ _ ((bT _).mpr trivial) ?_
  simp only[E.sz,E.jp]at hn
  simp only[eU,au,an,aG]at hl
  have h2:=rI l
  simp only[Du,↓zq,zs,ac,zt,bG]
  refine⟨fun h=>absurd rfl h,fun _=>?_⟩
  have hL:Cz [.v (.string (mk [40])),.v (.int .i64 0)] [.cells [.v (.string (mk [])),.sl (E.bw (x::l))]] (gj 1 [.v (.string (mk ([40]++eU x++eg l)))] []):=by
   refine Ec _ _ _ _ ?_
   simp only[Be,E.bw,Int.toNat_zero,↓zq,zs,ac,zt,dY,gl,iU,iV,aq]
   refine⟨fun _=>⟨fun h=>by omega,fun _=>⟨by omega,?_⟩⟩,fun h=>by omega⟩
   refine ai (Dx n x (by omega) hok.1 (by omega)) ?_
   simp only[↓zq,zs,ac,zt]
   refine⟨by simp;omega,?_⟩
   have:=JT (x::l) (by simp;omega) (fun i hi=>by
    have h3:=uG (x::l) i hi
    simp only[E.jp]at h3
    refine Dx n _ (by omega) (uB _ i hi hok) ?_
    have h4:=yN (x::l) i hi
    simp only[eg,au,an]at h4
    omega) l.length 1 ([40]++eU x) (by simp;omega) (by omega) (by simp;omega)
   rw[show IntKind.wrap .i64 (0+1)=1 from rfl]
   simpa[E.bw]using this
  refine co hL ?_
  simp only[↓zq,zs,ac,zt]
  refine⟨by simp;omega,?_⟩
  simp[eU]
theorem BX(e:E)(h:e.ok)(hl:(eU e).length<=900000):ap Tryz.prog 76 [e.kE] [] (bG (.v (.string (mk (eU e))))):=Dx (e.sz+1) e (by omega) h (by omega)
mutual
def E.nd:E->Nat
 | .atom _=>1
 | .list []=>1
 | .list (_::l)=>1+E.vo l
def E.vo:List E->Nat
 |[]=>0
 |e::l=>e.nd+E.vo l
end
mutual
theorem C0:∀e:E,e.nd<=e.sz
 | .atom s=>by simp[E.nd,E.sz]
 | .list []=>by simp[E.nd,E.sz,E.jp]
 | .list (x::l)=>by have:=xc l;simp only[E.nd,E.sz,E.jp];omega
theorem xc:∀l:List E,E.vo l<=E.jp l
 |[]=>by simp[E.vo,E.jp]
 |e::l=>by have:=C0 e;have:=xc l;simp only[E.vo,E.jp];omega
end
theorem CI:∀(l:List E) (i:Nat) (h:i<l.length),E.vo (l.drop i)=(l[i]).nd+E.vo (l.drop (i+1)):=by
 intro l i h
 rw[aP h];rfl
theorem M8(l:List E)(hl:E.vo l<1000000)(hll:l.length<1000000)(ih:∀i (h:i<l.length),ap Tryz.prog 75 [(l[i]).kE] [] (bG (.v (.int .i64 ((l[i]).nd:Int))))) :
 ∀(k i n:Nat),i+k=l.length->n+E.vo (l.drop i)<=1+E.vo l->Bo [.v (.int .i64 (n:Int)),.v (.int .i64 (i:Int))] [.cells [.v (.string (mk [])),.sl (E.bw l)]] (gj 1 [.v (.int .i64 ((n+E.vo (l.drop i):Nat):Int))] [])
 |
  0,i,n,hi,hn=>by
  refine ED _ _ _ _ ?_
  simp only[Cf,↓zq,zs,ac,dY]
  have:l.drop i=[]:=bU (by omega)
  refine⟨fun h=>by omega,fun _=>?_⟩
  simp[gj,this,E.vo]
 |
  k+1,i,n,hi,hn=>by
  have hlt:i<l.length:=by omega
  refine ED _ _ _ _ ?_
  simp only[Cf,↓zq,zs,ac,zt,dY,jG l i hlt,gl,iU,iV,aq]
  refine⟨fun _=>⟨by omega,?_⟩,fun h=>by omega⟩
  refine ai (ih i hlt) ?_
  have h1:=CI l i hlt
  simp only[↓zq,zs,ac]
  rw[bp i (by omega),wrap64 _ (by omega) (by omega)]
  have:=M8 l hl hll ih k (i+1) (n+(l[i]).nd) (by omega) (by omega)
  rw[h1,<-Nat.add_assoc]
  simpa using this
theorem L6:∀(n:Nat) (e:E),e.sz<n->e.sz<900000->ap Tryz.prog 75 [e.kE] [] (bG (.v (.int .i64 (e.nd:Int))))
 |0,e,hn,_=>by omega
 |
  n+1,.atom s,hn,hl=>by
  refine NU _ _ ((bc).mpr trivial) ?_
  simp only[Hi]
  have hL:Bo [.v (.int .i64 1),.v (.int .i64 1)] [.cells [.v (.string (mk s)),.v (.slice none 0 0)]] (gj 1 [.v (.int .i64 1)] []):=by
   refine ED _ _ _ _ ?_
   simp[Cf,↓zq,zs,ac,gj]
  refine co hL ?_
  simp[↓zq,zs,ac,bG,E.nd]
 |
  n+1,.list l,hn,hl=>by
  refine NU _ _ ((bT _).mpr trivial) ?_
  simp only[E.sz]at hn hl
  simp only[Hi]
  match l,hn,hl with
  |
   [],hn,hl =>
   have hL:Bo [.v (.int .i64 1),.v (.int .i64 1)] [.cells [.v (.string (mk [])),.sl (E.bw [])]] (gj 1 [.v (.int .i64 1)] []):=by
    refine ED _ _ _ _ ?_
    simp[Cf,↓zq,zs,ac,gj,E.bw]
   refine co hL ?_
   simp[↓zq,zs,ac,bG,E.nd]
  |
   x::l,hn,hl =>
   simp only[E.jp]at hn hl
   have h1:=xc l
   have h2:=u9 l
   have h0:=C0 x
   refine co (M8 (x::l) (by simp only[E.vo];omega) (by simp;omega) (fun i hi=>?_) l.length 1 1 (by simp;omega) (by simp[E.vo])) ?_
   ·have:=uG (x::l) i hi
    simp only[E.jp]at this
    exact L6 n _ (by omega) (by omega)
   ·simp[↓zq,zs,ac,E.nd,bG]
theorem Rb(e:E)(hl:e.sz<900000):ap Tryz.prog 75 [e.kE] [] (bG (.v (.int .i64 (e.nd:Int)))):=L6 (e.sz+1) e (by omega) hl
inductive Vl where
 |u
 |el (k:Nat)
 |l (v:Vl)
 |r (v:Vl)
 |f (v:Vl)
 |p (a b:Vl)
abbrev xO(k:Nat):List UInt8:=101::dd k
abbrev iE:AV:=.v (.pointer none)
def Vl.cF:Vl->AV
 | .u=>.ptr [.v (.int .u8 117),.v (.string (mk [])),iE,iE]
 | .el k=>.ptr [.v (.int .u8 101),.v (.string (mk (xO k))),iE,iE]
 | .l v=>.ptr [.v (.int .u8 108),.v (.string (mk [])),v.cF,iE]
 | .r v=>.ptr [.v (.int .u8 114),.v (.string (mk [])),v.cF,iE]
 | .f v=>.ptr [.v (.int .u8 102),.v (.string (mk [])),v.cF,iE]
 | .p a b=>.ptr [.v (.int .u8 112),.v (.string (mk [])),a.cF,b.cF]
def Vl.cG:Vl->E
 | .u=>.atom [117]
 | .el k=>.atom (xO k)
 | .l v=>.list [.atom [108],v.cG]
 | .r v=>.list [.atom [114],v.cG]
 | .f v=>.list [.atom [102],v.cG]
 | .p a b=>.list [.atom [112],a.cG,b.cG]
def Vl.nodes:Vl->Nat
 | .l v=>1+v.nodes
 | .r v=>1+v.nodes
 | .f v=>1+v.nodes
 | .p a b=>1+a.nodes+b.nodes
 |_=>1
def Vl.gp(n:Nat):Vl->Prop
 | .el k=>k<n
 | .l v=>v.gp n
 | .r v=>v.gp n
 | .f v=>v.gp n
 | .p a b=>a.gp n/\b.gp n
 | .u=>True
abbrev Vl.cE(v:Vl):List UInt8:=eU v.cG
theorem aO(v:Vl):LK.has .ptr v.cF=True:=by cases v<;>simp[Vl.cF,cb]
theorem fm(v:Vl):v.cF.isNil=false:=by cases v<;>rfl
theorem l8:∀v:Vl,v.cG.ok
 | .u=>by simp[Vl.cG,E.ok]
 | .el k=>by simp[Vl.cG,E.ok]
 | .l v=>⟨by simp[E.ok],l8 v,trivial⟩
 | .r v=>⟨by simp[E.ok],l8 v,trivial⟩
 | .f v=>⟨by simp[E.ok],l8 v,trivial⟩
 | .p a b=>⟨by simp[E.ok],l8 a,l8 b,trivial⟩
theorem oi:∀v:Vl,v.cG.nd=v.nodes
 | .u=>rfl
 | .el k=>rfl
 | .l v=>by simp[Vl.cG,E.nd,E.vo,Vl.nodes,oi v]
 | .r v=>by simp[Vl.cG,E.nd,E.vo,Vl.nodes,oi v]
 | .f v=>by simp[Vl.cG,E.nd,E.vo,Vl.nodes,oi v]
 | .p a b=>by simp[Vl.cG,E.nd,E.vo,Vl.nodes,oi a,oi b,Nat.add_assoc]
theorem gH:∀v:Vl,v.gp 100->v.cE.length<=200*v.nodes
 | .u,_=>by simp[Vl.cE,Vl.cG,eU,Vl.nodes]
 |
  .el k,h=>by
  have h':k<100:=h
  have:=mT 1000 k (by omega)
  simp only[Vl.cE,Vl.cG,eU,Vl.nodes,au];omega
 | .l v,h=>by have:=gH v h;simp only[Vl.cE,Vl.cG,eU,eg,Vl.nodes,au,an,aG]at this |-;omega
 | .r v,h=>by have:=gH v h;simp only[Vl.cE,Vl.cG,eU,eg,Vl.nodes,au,an,aG]at this |-;omega
 | .f v,h=>by have:=gH v h;simp only[Vl.cE,Vl.cG,eU,eg,Vl.nodes,au,an,aG]at this |-;omega
 | .p a b,h=>by have:=gH a h.1;have:=gH b h.2;simp only[Vl.cE,Vl.cG,eU,eg,Vl.nodes,au,an,aG]at *;omega
theorem Au(a b:AV)(h:LK.ptr.has a)(h':LK.ptr.has b):ap Tryz.prog 132 [a,b] [] (bG (.ptr [.v (.int .u8 112),.v (.string (mk [])),a,b])):=by
 refine QI _ _ h h' ?_
 simp[PA,↓zq,zs,ac,bG]
theorem da(v:Vl):1<=v.nodes:=by cases v<;>simp[Vl.nodes]<;>omega
theorem Fm:∀(v:Vl),v.nodes<1000000->ap Tryz.prog 56 [v.cF] [] (bG (.v (.int .i64 (v.nodes:Int))))
 | .u,h=>by refine zX _ ((aO _).mpr trivial) ?_;simp[I9,Vl.cF,↓zq,zs,ac,bG,Vl.nodes]
 | .el k,h=>by refine zX _ ((aO _).mpr trivial) ?_;simp[I9,Vl.cF,↓zq,zs,ac,bG,Vl.nodes]
 |
  .l v,h=>by
  simp only[Vl.nodes]at h
  refine zX _ ((aO _).mpr trivial) ?_
  simp only[I9,Vl.cF,↓zq,zs,ac,aO,fm]
  refine⟨by omega,fun _=>⟨by omega,?_⟩,fun h=>(by cases h)⟩
  refine ai (Fm v (by omega)) ?_
  simp only[↓zq,zs,ac,bG,Vl.nodes]
  rw[wrap64 _ (by omega) (by omega)]
  simp
 |
  .r v,h=>by
  simp only[Vl.nodes]at h
  refine zX _ ((aO _).mpr trivial) ?_
  simp only[I9,Vl.cF,↓zq,zs,ac,aO,fm]
  refine⟨by omega,fun _=>⟨by omega,?_⟩,fun h=>(by cases h)⟩
  refine ai (Fm v (by omega)) ?_
  simp only[↓zq,zs,ac,bG,Vl.nodes]
  rw[wrap64 _ (by omega) (by omega)]
  simp
 |
  .f v,h=>by
  simp only[Vl.nodes]at h
  refine zX _ ((aO _).mpr trivial) ?_
  simp only[I9,Vl.cF,↓zq,zs,ac,aO,fm]
  refine⟨by omega,fun _=>⟨by omega,?_⟩,fun h=>(by cases h)⟩
  refine ai (Fm v (by omega)) ?_
  simp only[↓zq,zs,ac,bG,Vl.nodes]
  rw[wrap64 _ (by omega) (by omega)]
  simp
 |
  .p a b,h=>by
  simp only[Vl.nodes]at h
  refine zX _ ((aO _).mpr trivial) ?_
  simp only[I9,Vl.cF,↓zq,zs,ac,aO,fm]
  refine⟨by omega,fun _=>⟨by omega,?_⟩,fun h=>(by cases h)⟩
  refine ai (Fm a (by omega)) ?_
  simp only[↓zq,zs,ac,aO,fm]
  rw[wrap64 (1+(a.nodes:Int)) (by omega) (by omega)]
  refine⟨by omega,fun _=>⟨by omega,?_⟩,fun h=>(by cases h)⟩
  refine ai (Fm b (by omega)) ?_
  simp only[↓zq,zs,ac,bG,Vl.nodes]
  rw[wrap64 _ (by omega) (by omega)]
  congr 2
end Go.Proofs.Trees
namespace Go.Proofs.Trees
open Go Go.VL Go.RowKit
def AD:List UInt8->Nat->Option Nat
 |[],n=>some n
 |b::r,n=>if ij b=true then AD r (10*n+(b.toNat-48))else none
def fR(s:List UInt8):Option Nat :=
 if s.length=2\/s.length=3 then(if s.getD 0 0=101/\¬(s.length=3/\s.getD 1 0=48)then AD (s.drop 1) 0 else none)else none
def Bp(s:List UInt8):Int:=match fR s with|some k=>(k:Int)|none=>-1
theorem Ly(s:List UInt8)(hs:s.length<=3):∀(k i n:Nat),i+k=s.length->1<=i->(n+1)*10 ^ k<=1000->Ie [.v (.string (mk s)),.v (.int .i64 (n:Int)),.v (.int .i64 (i:Int))] []
 (nL (match AD (s.drop i) n with|some m=>(1,[.v (.int .i64 (m:Int))],[])|none=>(2,[.v (.int .i64 (-1))],[])))
 |
  0,i,n,hi,h1,hn=>by
  refine N9 _ _ _ ?_
  have hd:s.drop i=[]:=bU (by omega)
  simp only[Jg,↓zq,zs,ac,zt,hd,AD]
  exact⟨fun h=>by omega,fun _=>by first|trivial|rfl⟩
 |
  k+1,i,n,hi,h1,hn=>by
  have hlt:i<s.length:=by omega
  refine N9 _ _ _ ?_
  rw[drop_cons hlt,AD]
  simp only[Jg,↓zq,zs,ac,zt,mo s i hlt]
  generalize s.getD i 0=b
  have hb:=b.toNat_lt
  refine⟨fun _=>⟨by omega,fun h48=>?_,fun h48=>⟨by omega,fun h57=>?_,fun h57=>⟨by omega,?_⟩⟩⟩,fun h=>by omega⟩
  ·have:ij b=false:=by simp only[ij,decide_eq_false_iff_not];omega
   rw[this];rfl
  ·have:ij b=false:=by simp only[ij,decide_eq_false_iff_not];omega
   rw[this];rfl
  ·have:ij b=true:=by simp only[ij,decide_eq_true_eq];omega
   rw[if_pos this]
   have hk:k=0\/k=1:=by omega
   have hn2:n*10<=1000:=by
    rcases hk with rfl|rfl<;>simp at hn<;>omega
   have e8:IntKind.wrap .u8 ((b.toNat:Int)-48)=((b.toNat-48:Nat):Int):=by
    have:b.toNat=48\/b.toNat=49\/b.toNat=50\/b.toNat=51\/b.toNat=52\/b.toNat=53\/b.toNat=54\/b.toNat=55\/b.toNat=56\/b.toNat=57:=by omega
    rcases this with h|h|h|h|h|h|h|h|h|h<;>rw[h]<;>rfl
   rw[e8,bp i (by omega),wrap64 ((b.toNat-48:Nat):Int) (by omega) (by omega),wrap64 (10*(n:Int)) (by omega) (by omega),wrap64 _ (by omega) (by omega)]
   have e:(10*(n:Int)+((b.toNat-48:Nat):Int))=((10*n+(b.toNat-48):Nat):Int):=by omega
   rw[e]
   exact Ly s hs k (i+1) _ (by omega) (by omega) (by rcases hk with rfl|rfl<;>simp at hn |-<;>omega)
theorem Ox(s:List UInt8):ap Tryz.prog 102 [.v (.string (mk s))] [] (bG (.v (.int .i64 (Bp s)))):=by
 refine Tb _ ?_
 unfold N0
 refine ai (A4 _ _ _) ?_
 simp only[↓zq,zs,ac,zt,Dd,bG]
 have hL:∀(Q:Nat->List AV->List Ob->Prop),(s.length=2\/s.length=3)->s.getD 0 0=101->¬(s.length=3/\s.getD 1 0=48)->(Q 0 [.v (.int .i64 (Bp s))] []) ->
  eN Tryz.prog 49 (.loop El Ba [.v (.string (mk s)),.v (.int .i64 0),.v (.int .i64 1)] [] (fun y2 q2=>.aj (LK.has (.int .i64) (y2.headD .any))<|.done 0 [.v (.int .i64 ((y2.headD .any).toInt))] []) (fun y2 q2=>.aj (LK.has (.int .i64) (y2.headD .any))<|.done 0 [.v (.int .i64 ((y2.headD .any).toInt))] [])) Q:=by
  intro Q hl h0 h1 hQ
  have e:fR s=AD (s.drop 1) 0:=by rw[fR,if_pos hl,if_pos ⟨h0,h1⟩]
  refine fg (Ly s (by omega) (s.length-1) 1 0 (by omega) (by omega) (by rcases hl with h|h<;>rw[h]<;>decide)) (fun ys o e'=>?_) (fun ys o e'=>?_)
  ·cases hq:AD (s.drop 1) 0<;>rw[hq]at e'<;>cases e'
   rw[hq]at e
   simp only[Bp,e]at hQ
   simp only[↓zq,zs,ac];exact hQ
  ·cases hq:AD (s.drop 1) 0<;>rw[hq]at e'<;>cases e'
   rw[hq]at e
   simp only[Bp,e]at hQ
   simp only[↓zq,zs,ac];exact hQ
 have hz:∀{i:Nat},i<s.length->bt (mk s) (i:Int)=((s.getD i 0).toNat:Int):=fun h=>mo s _ h
 refine⟨fun h=>?_,fun h=>⟨?_,fun h0=>?_,fun h0=>⟨fun h3=>⟨by omega,fun h1=>?_,fun h1=>?_⟩,fun h3=>?_⟩⟩⟩
 ·have h':¬(2<=(s.length:Int)/\(s.length:Int)<=3):=by simpa using h
  rw[Bp,fR,if_neg (by omega)]
 ·have h':2<=(s.length:Int)/\(s.length:Int)<=3:=by simpa using h
  omega
 ·have h':2<=(s.length:Int)/\(s.length:Int)<=3:=by simpa using h
  have e0:=hz (i:=0) (by omega)
  simp only[Int.ofNat_eq_natCast,Int.cast_ofNat_Int]at e0
  rw[e0]at h0
  rw[Bp,fR,if_pos (by omega),if_neg]
  rintro⟨e,_⟩
  rw[e]at h0;exact h0 rfl
 ·have h':2<=(s.length:Int)/\(s.length:Int)<=3:=by simpa using h
  have e1:=hz (i:=1) (by omega)
  simp only[Int.ofNat_eq_natCast,Int.cast_ofNat_Int]at e1
  rw[e1]at h1
  rw[Bp,fR,if_pos (by omega),if_neg]
  rintro⟨_,e⟩
  refine e ⟨by omega,?_⟩
  rw[<-UInt8.toNat_inj];show (s.getD 1 0).toNat=48;omega
 ·have h':2<=(s.length:Int)/\(s.length:Int)<=3:=by simpa using h
  have e0:=hz (i:=0) (by omega)
  have e1:=hz (i:=1) (by omega)
  simp only[Int.ofNat_eq_natCast,Int.cast_ofNat_Int]at e0 e1
  rw[e0]at h0;rw[e1]at h1
  refine hL _ (by omega) ?_ ?_ ⟨rfl,rfl⟩
  ·rw[<-UInt8.toNat_inj];show (s.getD 0 0).toNat=101;omega
  ·rintro⟨_,e⟩;rw[e]at h1;exact h1 rfl
 ·have h':2<=(s.length:Int)/\(s.length:Int)<=3:=by simpa using h
  have e0:=hz (i:=0) (by omega)
  simp only[Int.ofNat_eq_natCast,Int.cast_ofNat_Int]at e0
  rw[e0]at h0
  refine hL _ (by omega) ?_ ?_ ⟨rfl,rfl⟩
  ·rw[<-UInt8.toNat_inj];show (s.getD 0 0).toNat=101;omega
  ·rintro⟨e,_⟩;omega
theorem pG:∀(l:List UInt8) (n:Nat),(AD l n).isSome=l.all ij
 |[],n=>rfl
 |
  b::l,n=>by
  rw[AD]
  cases hb:ij b with
  |true=>rw[if_pos rfl,pG l];simp[hb]
  |false=>rw[if_neg (by simp)];simp[hb]
theorem Kr(s:List UInt8):ap Tryz.prog 154 [.v (.string (mk s))] [] (bG (.v (.bool (fR s).isSome))):=by
 refine SJ _ ?_
 simp only[OE,↓zq,zs,ac,zt,bG]
 have hz:∀{i:Nat},i<s.length->bt (mk s) (i:Int)=((s.getD i 0).toNat:Int):=fun h=>mo s _ h
 refine⟨fun h=>?_,fun h=>⟨fun h3=>?_,fun h3=>?_⟩⟩
 ·rw[fR,if_neg (by omega)];rfl
 ·rw[fR,if_neg (by omega)];rfl
 ·have e0:=hz (i:=0) (by omega)
  have e1:=hz (i:=1) (by omega)
  simp only[Int.ofNat_eq_natCast,Int.cast_ofNat_Int]at e0 e1
  rw[e0,e1]
  have hx:s.drop (bM 1)=s.drop 1:=rfl
  refine⟨by omega,fun h0=>?_,fun h0=>⟨by omega,?_⟩⟩
  ·rw[fR,if_pos (by omega),if_neg]
   ·rfl
   ·rintro⟨e,_⟩;rw[e]at h0;exact h0 rfl
  ·rw[hx]
   refine ai (NX (s.drop 1) F1 (by simp;omega) (by decide) (by decide)) ?_
   simp only[↓zq,zs,ac,zt]
   have h101:s.getD 0 0=101:=by rw[<-UInt8.toNat_inj];show (s.getD 0 0).toNat=101;omega
   have hall:Lib.trimS (s.drop 1) F1=[]↔(s.drop 1).all ij=true:=by
    rw[tG]
    have:(fun x=>F1.contains x)=ij:=funext vy
    rw[this]
   refine⟨fun ht=>?_,fun ht=>⟨fun h2=>?_,fun h2=>⟨by omega,?_⟩⟩⟩
   ·have:(s.drop 1).all ij=false:=by
     cases hq:(s.drop 1).all ij with
     |false=>rfl
     |true=>exact absurd (hall.2 hq) ht
    rw[fR,if_pos (by omega)]
    split
    ·rw[pG,this]
    ·rfl
   ·have hq:=hall.1 ht
    rw[fR,if_pos (by omega),if_pos ⟨h101,by omega⟩,pG,hq]
   ·have hq:=hall.1 ht
    rw[fR,if_pos (by omega)]
    by_cases h48:s.getD 1 0=48
    ·rw[if_neg (by rintro⟨_,e⟩;exact e ⟨by omega,h48⟩),h48];rfl
    ·rw[if_pos ⟨h101,fun e=>h48 e.2⟩,pG,hq]
     have:¬((s.getD 1 0).toNat:Int)=48:=fun e=>h48 (by rw[<-UInt8.toNat_inj];show (s.getD 1 0).toNat=48;omega)
     rw[bne_iff_ne.2 this]
theorem tW{s:List UInt8}{k:Nat}(h:fR s=some k):s=xO k/\k<100:=by
 have key1:∀a:Fin 256,ij (bh a.val)=true->AD [bh a.val] 0=some ((bh a.val).toNat-48)/\(bh a.val).toNat-48<10/\[bh a.val]=[bh (48+((bh a.val).toNat-48))]:=by decide +kernel
 unfold fR at h
 split at h
 ·rename_i hl
  split at h
  ·rename_i hh
   obtain⟨h0,h1⟩:=hh
   rcases hl with hl|hl
   ·match s,hl with
    |
     [c,a],_ =>
     simp only[bq]at h0
     subst h0
     simp only[List.drop_succ_cons,aZ,AD]at h
     split at h
     ·rename_i ha
      have:=key1 ⟨a.toNat,a.toNat_lt⟩ (by simpa using ha)
      simp only[UInt8.ofNat_toNat]at this
      cases h
      refine⟨?_,by omega⟩
      rw[xO,eF (by omega)]
      simp only[Nat.mul_zero,aY]
      rw[<-this.2.2]
     ·cases h
   ·match s,hl with
    |
     [c,a,b],_ =>
     simp only[bq,List.getD_cons_succ,au,aG,true_and]at h0 h1
     subst h0
     simp only[List.drop_succ_cons,aZ,AD]at h
     split at h
     ·rename_i ha
      split at h
      ·rename_i hb
       have k1:=key1 ⟨a.toNat,a.toNat_lt⟩ (by simpa using ha)
       have k2:=key1 ⟨b.toNat,b.toNat_lt⟩ (by simpa using hb)
       simp only[UInt8.ofNat_toNat]at k1 k2
       have ha':48<=a.toNat/\a.toNat<=57:=by simpa[ij]using ha
       have hb':48<=b.toNat/\b.toNat<=57:=by simpa[ij]using hb
       have h48:a.toNat≠48:=fun e=>h1 (by rw[<-UInt8.toNat_inj];simpa using e)
       cases h
       simp only[Nat.mul_zero,aY]
       refine⟨?_,by omega⟩
       rw[xO,fP (by omega),eF (by omega)]
       have e1:(10*(a.toNat-48)+(b.toNat-48))/10=a.toNat-48:=by omega
       have e2:(10*(a.toNat-48)+(b.toNat-48))%10=b.toNat-48:=by omega
       rw[e1,e2,<-k1.2.2,<-k2.2.2];rfl
      ·cases h
     ·cases h
  ·cases h
 ·cases h
theorem vO(k:Nat)(h:k<100):fR (xO k)=some k:=by
 have e:∀k,k<100->dd k=if k<10 then [bh (48+k)]else [bh (48+k/10),bh (48+k%10)]:=by
  intro k hk
  by_cases h1:k<10
  ·rw[eF h1,if_pos h1]
  ·rw[fP h1,eF (by omega),if_neg h1];rfl
 have key:∀k:Fin 100,fR (101::(if k.val<10 then [bh (48+k.val)]else [bh (48+k.val/10),bh (48+k.val%10)]))=some k.val:=by decide +kernel
 rw[xO,e k h];exact key ⟨k,h⟩
theorem H6(k:Nat)(h:k<100):Bp (xO k)=(k:Int):=by rw[Bp,vO k h]
def yI:E->Bool
 | .atom s=>(s==[117])||(fR s).isSome
 | .list [x,a]=>((x.at==[108])||(x.at==[114])||(x.at==[102]))&&yI a
 | .list [x,a,b]=>(x.at==[112])&&(yI a&&yI b)
 | .list _=>false
def fL:E->Option Vl
 | .atom s=>if s=[117]then some .u else match fR s with|some k=>some (.el k)|none=>none
 |
  .list [x,a]=>match fL a with
  |none=>none
  |some v=>if x.at=[108]then some (.l v)else if x.at=[114]then some (.r v)else if x.at=[102]then some (.f v)else none
 | .list [x,a,b]=>if x.at=[112]then(match fL a,fL b with|some v,some w=>some (.p v w)|_,_=>none)else none
 | .list _=>none
theorem oE:∀e:E,(fL e).isSome=yI e
 |
  .atom s=>by
  simp only[fL,yI]
  by_cases h:s=[117]
  ·simp[h]
  ·rw[if_neg h];cases fR s<;>simp[h]
 | .list []=>rfl
 | .list [_]=>rfl
 |
  .list [x,a]=>by
  have ha:=oE a
  rw[fL,yI,<-ha]
  cases fL a with
  |none=>simp
  |
   some v =>
   by_cases h1:x.at=[108]
   ·simp[h1]
   ·by_cases h2:x.at=[114]
    ·simp[h2]
    ·by_cases h3:x.at=[102]
     ·simp[h3]
     ·simp[h1,h2,h3]
 |
  .list [x,a,b]=>by
  have ha:=oE a
  have hb:=oE b
  rw[fL,yI,<-ha,<-hb]
  by_cases h1:x.at=[112]
  ·rw[if_pos h1,h1];cases fL a<;>cases fL b<;>rfl
  ·simp[h1]
 | .list (_::_::_::_::_)=>rfl
theorem kk{x:E}{w:List UInt8}(h:x.at=w)(hw:w≠[]):x=.atom w:=by
 cases x with
 |atom s=>exact congrArg E.atom h
 |list l=>exact absurd h.symm hw
theorem lC:∀(e:E) (v:Vl),fL e=some v->v.cG=e/\v.gp 100
 |
  .atom s,v,h=>by
  simp only[fL]at h
  split at h
  ·rename_i h1;cases h;exact⟨by rw[h1];rfl,trivial⟩
  ·split at h
   ·rename_i k hk
    cases h
    obtain⟨h1,h2⟩:=tW hk
    exact⟨by rw[h1];rfl,h2⟩
   ·cases h
 | .list [],_,h=>by cases h
 | .list [_],_,h=>by cases h
 | .list (_::_::_::_::_),_,h=>by cases h
 |
  .list [x,a],v,h=>by
  rw[fL]at h
  split at h
  ·cases h
  ·rename_i w hw
   obtain⟨h1,h2⟩:=lC a w hw
   split at h
   ·rename_i hx;cases h;rw[kk hx (by simp)];exact⟨by rw[Vl.cG,h1],h2⟩
   ·split at h
    ·rename_i hx;cases h;rw[kk hx (by simp)];exact⟨by rw[Vl.cG,h1],h2⟩
    ·split at h
     ·rename_i hx;cases h;rw[kk hx (by simp)];exact⟨by rw[Vl.cG,h1],h2⟩
     ·cases h
 |
  .list [x,a,b],v,h=>by
  rw[fL]at h
  split at h
  ·rename_i hx
   split at h
   ·rename_i w1 w2 hw1 hw2
    cases h
    obtain⟨h1,h2⟩:=lC a w1 hw1
    obtain⟨h3,h4⟩:=lC b w2 hw2
    rw[kk hx (by simp)]
    exact⟨by rw[Vl.cG,h1,h3],h2,h4⟩
   ·cases h
  ·cases h
def qo(e:E)(w:List UInt8)(k:Nat):Bool:=match e with| .list (x::l)=>decide (l.length+1=k)&&(x.at==w)|_=>false
theorem tS(e:E)(w:List UInt8)(k:Nat)(hk:1<=k):ap Tryz.prog 147 [e.cF,.v (.string (mk w)),.v (.int .i64 (k:Int))] [] (bG (.v (.bool (qo e w k)))):=by
 refine Pf _ _ _ ((cV e).mpr trivial) ?_
 cases e with
 |atom s=>simp only[A2,E.cF,↓zq,zs,ac,zt,bG,qo];exact⟨by omega,fun h=>by omega,fun _=>trivial⟩
 |
  list l =>
  simp only[A2,E.cF,↓zq,zs,ac,zt,bG,rD]
  cases l with
  |nil=>exact⟨by simp,fun h=>by simp at h;omega,fun _=>rfl⟩
  |
   cons x l =>
   simp only[au]
   refine⟨by simp,fun h=>?_,fun h=>?_⟩
   ·have:decide (l.length+1=k)=true:=by rw[decide_eq_true_eq];omega
    simp only[qo,this]
    cases x<;>simp[E.my,E.cF,cb,pN,jL,dM,uq,toList_mk,E.at]
   ·have:decide (l.length+1=k)=false:=by rw[decide_eq_false_iff_not];omega
    simp only[qo,this];rfl
def jk:Option Vl->AV
 |some v=>v.cF
 |none=>.v (.pointer none)
end Go.Proofs.Trees
namespace Go.Proofs.Trees
open Go Go.VL Go.RowKit
theorem gv(v:Option Vl):LK.has .ptr (jk v)=True:=by cases v<;>simp[jk,aO,iA]
theorem z8:∀(e:E),e.ok->ap Tryz.prog 123 [e.cF] [] (bG (jk (fL e)))
 |
  .atom s,hok=>by
  refine JU _ ((cV _).mpr trivial) ?_
  have hd:=nY (.atom s)
  have hlen:=lF (.atom s)
  simp only[E.at]at hd
  simp only[FP,↓zq,zs,ac,zt,bG,cV,ej,hd,fL]
  refine⟨hlen,fun h=>?_,fun h=>⟨hlen,?_⟩⟩
  ·rw[if_pos h];rfl
  ·rw[if_neg h]
   refine ai (Kr s) ?_
   simp only[↓zq,zs,ac,zt]
   refine⟨fun he=>⟨hlen,?_⟩,fun he=>?_⟩
   ·obtain⟨k,hk⟩:=bF.1 he
    obtain⟨h1,h2⟩:=tW hk
    rw[hk,h1];rfl
   ·have hn:fR s=none:=by cases hq:fR s<;>simp[hq]at he |-
    rw[hn]
    refine ai (tS (.atom s) [108] 2 (by omega)) ?_
    simp only[qo,↓zq,zs,ac,zf]
    refine⟨fun h=>(by cases h),fun _=>ai (tS (.atom s) [114] 2 (by omega)) ?_⟩
    simp only[qo,↓zq,zs,ac,zf]
    refine⟨fun h=>(by cases h),fun _=>ai (tS (.atom s) [102] 2 (by omega)) ?_⟩
    simp only[qo,↓zq,zs,ac,zf]
    refine⟨fun h=>(by cases h),fun _=>ai (tS (.atom s) [112] 3 (by omega)) ?_⟩
    simp only[qo,↓zq,zs,ac,zf]
    exact⟨fun h=>(by cases h),fun _=>rfl⟩
 |
  .list l,hok=>by
  refine JU _ ((cV _).mpr trivial) ?_
  have hd:=nY (.list l)
  have hlen:=lF (.list l)
  have hlen2:∀{l:List E},((AV.v (.string (mk [])))::[AV.sl (E.my l)]).length=2:=rfl
  simp only[E.at]at hd
  have he:fR []=none:=rfl
  simp only[FP,↓zq,zs,ac,zt,bG,cV,ej,hd]
  refine⟨hlen,fun h=>(by cases h),fun h=>⟨hlen,?_⟩⟩
  refine ai (Kr []) ?_
  rw[he]
  simp only[↓zq,zs,ac,zt,zf,bn]
  refine⟨fun h=>(by cases h),fun _=>ai (tS (.list l) [108] 2 (by omega)) ?_⟩
  have hno:∀w:List UInt8,(∀x a,l≠[x,a])->qo (.list l) w 2=false:=by
   intro w h2
   match l,h2 with
   |[],_=>rfl
   |[x],_=>rfl
   |[x,a],h2=>exact absurd rfl (h2 x a)
   |x::y::z::l,_=>simp[qo]
  match l,hok,hno,hlen with
  |
   [x,a],hok,hno,hlen =>
   clear hno
   obtain⟨ok1,ok2,_⟩:=hok
   have e2:∀w:List UInt8,qo (.list [x,a]) w 2=(x.at==w):=fun w=>rfl
   have e3:qo (.list [x,a]) [112] 3=false:=rfl
   have hx:=nY x
   have hxl:=lF x
   rw[fL]
   simp only[e2,↓zq,zs,ac]
   refine⟨fun h1=>?_,fun h1=>ai (tS (.list [x,a]) [114] 2 (by omega)) ?_⟩
   ·simp only[E.cF,E.my,toNat_one,↓zq,zs,ac,zt,cV,ej]
    refine⟨by omega,by omega,by omega,ai (z8 a ok2) ?_⟩
    cases hv:fL a with
    |none=>simp only[jk,↓zq,zs,ac,gv];exact⟨fun _=>trivial,fun h=>(by cases h)⟩
    |
     some v =>
     simp only[jk,↓zq,zs,ac,zt,aO,fm,hx,h1,cV,ej]
     refine⟨fun h=>(by cases h),fun _=>⟨by omega,by omega,by omega,hxl,by simp,?_⟩⟩
     rfl
   ·simp only[e2,↓zq,zs,ac]
    refine⟨fun h2=>?_,fun h2=>ai (tS (.list [x,a]) [102] 2 (by omega)) ?_⟩
    ·simp only[E.cF,E.my,toNat_one,↓zq,zs,ac,zt,cV,ej]
     refine⟨by omega,by omega,by omega,ai (z8 a ok2) ?_⟩
     cases hv:fL a with
     |none=>simp only[jk,↓zq,zs,ac,gv];exact⟨fun _=>trivial,fun h=>(by cases h)⟩
     |
      some v =>
      simp only[jk,↓zq,zs,ac,zt,aO,fm,hx,h2,cV,ej]
      refine⟨fun h=>(by cases h),fun _=>⟨by omega,by omega,by omega,hxl,by simp,?_⟩⟩
      rfl
    ·simp only[e2,↓zq,zs,ac]
     refine⟨fun h3=>?_,fun h3=>ai (tS (.list [x,a]) [112] 3 (by omega)) ?_⟩
     ·simp only[E.cF,E.my,toNat_one,↓zq,zs,ac,zt,cV,ej]
      refine⟨by omega,by omega,by omega,ai (z8 a ok2) ?_⟩
      cases hv:fL a with
      |none=>simp only[jk,↓zq,zs,ac,gv];exact⟨fun _=>trivial,fun h=>(by cases h)⟩
      |
       some v =>
       simp only[jk,↓zq,zs,ac,zt,aO,fm,hx,h3,cV,ej]
       refine⟨fun h=>(by cases h),fun _=>⟨by omega,by omega,by omega,hxl,by simp,?_⟩⟩
       rfl
     ·rw[e3]
      simp only[↓zq,zs,ac]
      refine⟨fun h=>(by cases h),fun _=>?_⟩
      cases fL a with
      |none=>rfl
      |some v=>simp only[if_neg h1,if_neg h2,if_neg h3];rfl
  |
   [x,a,b],hok,hno,hlen =>
   obtain⟨ok1,ok2,ok3,_⟩:=hok
   have h2:=fun w=>hno w (fun x a h=>(by cases h))
   rw[h2]
   simp only[↓zq,zs,ac]
   refine⟨fun h=>(by cases h),fun _=>ai (tS (.list [x,a,b]) [114] 2 (by omega)) ?_⟩
   rw[h2]
   simp only[↓zq,zs,ac]
   refine⟨fun h=>(by cases h),fun _=>ai (tS (.list [x,a,b]) [102] 2 (by omega)) ?_⟩
   rw[h2]
   simp only[↓zq,zs,ac]
   refine⟨fun h=>(by cases h),fun _=>ai (tS (.list [x,a,b]) [112] 3 (by omega)) ?_⟩
   have e3:qo (.list [x,a,b]) [112] 3=(x.at==[112]):=rfl
   rw[e3,fL]
   simp only[↓zq,zs,ac]
   refine⟨fun h1=>?_,fun h1=>?_⟩
   ·rw[if_pos h1]
    simp only[E.cF,E.my,toNat_one,bg,↓zq,zs,ac,zt,cV,ej]
    refine⟨by omega,by omega,by omega,ai (z8 a ok2) ?_⟩
    simp only[↓zq,zs,ac,gv,cV]
    refine⟨by omega,by omega,by omega,ai (z8 b ok3) ?_⟩
    cases hv:fL a with
    |none=>cases hw:fL b<;>simp only[jk,↓zq,zs,ac,gv,aO]<;>exact⟨fun _=>trivial,fun h=>(by cases h)⟩
    |
     some v =>
     cases hw:fL b with
     |
      none =>
      simp only[jk,↓zq,zs,ac,gv,aO,fm]
      exact⟨fun h=>(by cases h),fun _=>⟨fun _=>trivial,fun h=>(by cases h)⟩⟩
     |
      some w =>
      simp only[jk,↓zq,zs,ac,aO,fm]
      refine⟨fun h=>(by cases h),fun _=>⟨fun h=>(by cases h),fun _=>?_⟩⟩
      refine ai (Au _ _ ((aO _).mpr trivial) ((aO _).mpr trivial)) ?_
      simp only[↓zq,zs,ac];rfl
   ·rw[if_neg h1];rfl
  |
   [],hok,hno,hlen =>
   have h2:=fun w=>hno w (fun x a h=>(by cases h))
   have e3:qo (.list []) [112] 3=false:=rfl
   rw[h2]
   simp only[↓zq,zs,ac]
   refine⟨fun h=>(by cases h),fun _=>ai (tS (.list []) [114] 2 (by omega)) ?_⟩
   rw[h2]
   simp only[↓zq,zs,ac]
   refine⟨fun h=>(by cases h),fun _=>ai (tS (.list []) [102] 2 (by omega)) ?_⟩
   rw[h2]
   simp only[↓zq,zs,ac]
   refine⟨fun h=>(by cases h),fun _=>ai (tS (.list []) [112] 3 (by omega)) ?_⟩
   rw[e3]
   simp only[↓zq,zs,ac]
   exact⟨fun h=>(by cases h),fun _=>rfl⟩
  |
   [x],hok,hno,hlen =>
   have h2:=fun w=>hno w (fun x a h=>(by cases h))
   have e3:qo (.list [x]) [112] 3=false:=rfl
   rw[h2]
   simp only[↓zq,zs,ac]
   refine⟨fun h=>(by cases h),fun _=>ai (tS (.list [x]) [114] 2 (by omega)) ?_⟩
   rw[h2]
   simp only[↓zq,zs,ac]
   refine⟨fun h=>(by cases h),fun _=>ai (tS (.list [x]) [102] 2 (by omega)) ?_⟩
   rw[h2]
   simp only[↓zq,zs,ac]
   refine⟨fun h=>(by cases h),fun _=>ai (tS (.list [x]) [112] 3 (by omega)) ?_⟩
   rw[e3]
   simp only[↓zq,zs,ac]
   exact⟨fun h=>(by cases h),fun _=>rfl⟩
  |
   x::y::z::w::l,hok,hno,hlen =>
   have h2:=fun w=>hno w (fun x a h=>(by cases h))
   have e3:qo (.list (x::y::z::w::l)) [112] 3=false:=by simp[qo]
   rw[h2]
   simp only[↓zq,zs,ac]
   refine⟨fun h=>(by cases h),fun _=>ai (tS (.list (x::y::z::w::l)) [114] 2 (by omega)) ?_⟩
   rw[h2]
   simp only[↓zq,zs,ac]
   refine⟨fun h=>(by cases h),fun _=>ai (tS (.list (x::y::z::w::l)) [102] 2 (by omega)) ?_⟩
   rw[h2]
   simp only[↓zq,zs,ac]
   refine⟨fun h=>(by cases h),fun _=>ai (tS (.list (x::y::z::w::l)) [112] 3 (by omega)) ?_⟩
   rw[e3]
   simp only[↓zq,zs,ac]
   exact⟨fun h=>(by cases h),fun _=>rfl⟩
def rL(s:List UInt8):Option Vl:=match qS s with
 |none=>none
 |
  some e=>match fL e with
  |none=>none
  |some v=>if v.nodes>200 then none else some v
theorem l9{s:List UInt8}{v:Vl}(h:rL s=some v):qS s=some v.cG/\v.gp 100/\v.nodes<=200:=by
 unfold rL at h
 split at h
 ·cases h
 ·rename_i e he
  split at h
  ·cases h
  ·rename_i w hw
   split at h
   ·cases h
   ·cases h
    obtain⟨h1,h2⟩:=lC e _ hw
    rw[h1]
    exact⟨he,h2,by omega⟩
theorem xY{e:E}{v:Vl}(h:fL e=some v):v.nodes<=e.sz:=by
 obtain⟨h1,_⟩:=lC e v h
 rw[<-oi,h1];exact C0 e
theorem Qv(s:List UInt8):ap Tryz.prog 88 [.v (.string (mk s))] [] (bG (jk (rL s))):=by
 refine TG _ ?_
 unfold PN
 refine ai (KV s) ?_
 unfold rL
 cases he:qS s with
 |none=>simp only[uO,↓zq,zs,ac,bG,jk];simp
 |
  some e =>
  obtain⟨h1,h2⟩:=oc he
  simp only[uO,↓zq,zs,ac,cV,ej]
  refine⟨fun h=>(by cases h),fun _=>?_⟩
  refine ai (z8 e h1) ?_
  cases hv:fL e with
  |none=>simp only[jk,↓zq,zs,ac,bG];simp
  |
   some v =>
   have hn:=xY hv
   simp only[jk,↓zq,zs,ac,aO,fm]
   refine⟨fun h=>(by cases h),fun _=>?_⟩
   refine ai (Fm v (by omega)) ?_
   simp only[↓zq,zs,ac,bG]
   refine⟨fun h=>?_,fun h=>?_⟩
   ·rw[if_pos (by omega)]
   ·rw[if_neg (by omega)]
theorem Ay:∀(e:E),e.ok->ap Tryz.prog 74 [e.kE] [] (bG (.v (.bool (yI e))))
 |
  .atom s,hok=>by
  refine zO _ _ ((bc).mpr trivial) ?_
  have hne:s≠[]:=hok
  simp only[wW,↓zq,zs,ac,zt,bG,yI]
  refine⟨fun _=>⟨fun h=>?_,fun h=>?_⟩,fun h=>absurd h hne⟩
  ·simp[h]
  ·refine ai (Ox s) ?_
   have h':(s==[117])=false:=by simpa using h
   simp only[↓zq,zs,ac,h',Bool.false_or]
   congr 2
   rw[Bp]
   cases fR s with
   |none=>rfl
   |some k=>simp
 |
  .list [],hok=>by
  refine zO _ _ ((bT _).mpr trivial) ?_
  simp only[wW,↓zq,zs,ac,zt,bG,yI]
  refine⟨fun h=>absurd rfl h,fun _=>?_⟩
  refine ai S0 ?_
  simp[↓zq,zs,ac,zt]
 |
  .list [x],hok=>by
  refine zO _ _ ((bT _).mpr trivial) ?_
  simp only[wW,↓zq,zs,ac,zt,bG,yI]
  refine⟨fun h=>absurd rfl h,fun _=>?_⟩
  refine ai (vk x _) ?_
  simp[↓zq,zs,ac,zt,E.bw]
 |
  .list (x::y::z::w::l),hok=>by
  refine zO _ _ ((bT _).mpr trivial) ?_
  simp only[wW,↓zq,zs,ac,zt,bG,yI]
  refine⟨fun h=>absurd rfl h,fun _=>?_⟩
  refine ai (vk x _) ?_
  simp only[↓zq,zs,ac,zt,E.bw]
  refine⟨fun _=>⟨fun h=>by omega,fun _=>trivial⟩,fun _=>⟨fun _=>⟨fun h=>by omega,fun _=>trivial⟩,fun _=>⟨fun _=>⟨fun h=>by omega,fun _=>trivial⟩,fun _=>⟨fun _=>⟨fun h=>by omega,fun _=>trivial⟩,fun _=>trivial⟩⟩⟩⟩
 |
  .list [x,a],hok=>by
  refine zO _ _ ((bT _).mpr trivial) ?_
  obtain⟨ok1,ok2,_⟩:=hok
  simp only[wW,↓zq,zs,ac,zt,bG,yI]
  refine⟨fun h=>absurd rfl h,fun _=>?_⟩
  refine ai (vk x _) ?_
  simp only[E.bw,toNat_one,bg,↓zq,zs,ac,zt,iV,gl,iU,mS,aq]
  refine⟨fun h=>⟨fun _=>⟨by omega,?_⟩,fun h=>by omega⟩,fun h1=>⟨fun h=>⟨fun _=>⟨by omega,?_⟩,fun h=>by omega⟩,fun h2=>⟨fun h=>⟨fun _=>⟨by omega,?_⟩,fun h=>by omega⟩,fun h3=>⟨fun h=>⟨fun h=>by omega,fun _=>?_⟩,fun h=>?_⟩⟩⟩⟩
  ·refine ai (Ay a ok2) ?_
   simp[↓zq,zs,ac,h]
  ·refine ai (Ay a ok2) ?_
   simp[↓zq,zs,ac,h]
  ·refine ai (Ay a ok2) ?_
   simp[↓zq,zs,ac,h]
  ·simp[h]
  ·simp[h1,h2,h3]
 |
  .list [x,a,b],hok=>by
  refine zO _ _ ((bT _).mpr trivial) ?_
  obtain⟨ok1,ok2,ok3,_⟩:=hok
  simp only[wW,↓zq,zs,ac,zt,bG,yI]
  refine⟨fun h=>absurd rfl h,fun _=>?_⟩
  refine ai (vk x _) ?_
  simp only[E.bw,toNat_one,bg,↓zq,zs,ac,zt,iV,gl,iU,mS,aq]
  refine⟨fun h=>⟨fun h=>by omega,fun _=>?_⟩,fun h1=>⟨fun h=>⟨fun h=>by omega,fun _=>?_⟩,fun h2=>⟨fun h=>⟨fun h=>by omega,fun _=>?_⟩,fun h3=>⟨fun h=>⟨fun _=>⟨by omega,?_⟩,fun h=>by omega⟩,fun h=>?_⟩⟩⟩⟩
  ·simp[h]
  ·simp[h]
  ·simp[h]
  ·refine ai (Ay a ok2) ?_
   simp only[↓zq,zs,ac,h]
   refine⟨fun ha=>⟨by omega,ai (Ay b ok3) ?_⟩,fun ha=>?_⟩
   ·simp[↓zq,zs,ac,ha]
   ·simp[ha]
  ·simp[h]
theorem BS(s:List UInt8):ap Tryz.prog 47 [.v (.string (mk s))] [] (jv ((rL s).map Vl.cG) (rL s).isSome):=by
 refine SI _ ?_
 unfold OQ
 refine aN (PD s) (jv.ne _ _ (fun h=>h)) ?_
 rintro r o ⟨c,d,hd,rfl,hh⟩
 simp only[↓zq,zs,ac,zt,bz,rL]
 refine⟨hd,fun h=>?_,fun h=>?_⟩
 ·obtain⟨e,he,hce⟩:=hh h
  obtain⟨hok,hsz⟩:=oc he
  rw[he,hce]
  refine ai (Ay e hok) ?_
  simp only[↓zq,zs,ac]
  have hs:=oE e
  refine⟨fun hi=>?_,fun hi=>?_⟩
  ·rw[hi]at hs
   obtain⟨v,hv⟩:=bF.1 hs
   obtain⟨h1,h2⟩:=lC e v hv
   refine ai (Rb e (by omega)) ?_
   simp only[↓zq,zs,ac,hv]
   have hnd:e.nd=v.nodes:=by rw[<-h1,oi]
   rw[hnd]
   refine⟨c,d,hd,?_,?_⟩
   ·rw[hce]
    by_cases h4:v.nodes>200
    ·rw[if_pos h4];exact congrArg (fun b=>AV.cA [e.kE,.v (.bool b)]) (decide_eq_false (show ¬((v.nodes:Nat):Int)<=200 by omega))
    ·rw[if_neg h4];exact congrArg (fun b=>AV.cA [e.kE,.v (.bool b)]) (decide_eq_true (show ((v.nodes:Nat):Int)<=200 by omega))
   ·split
    ·exact fun h=>by cases h
    ·exact fun _=>⟨e,by simp[h1],hce⟩
  ·rw[hi]at hs
   have hn:fL e=none:=by cases hq:fL e<;>simp[hq]at hs |-
   rw[hn]
   exact⟨c,d,hd,by rw[hce];rfl,fun h=>by cases h⟩
 ·have hn:qS s=none:=by cases hq:qS s<;>simp[hq]at h |-
  rw[hn]
  exact⟨c,d,hd,rfl,fun h=>by cases h⟩
end Go.Proofs.Trees
namespace Go.Proofs.Trees
open Go Go.VL
theorem sn(l:List (List UInt8)):∀x,x∈[Ob.vec 1 (bY l)]->km x:=by
 intro x hx
 simp only[aT]at hx
 subst hx
 intro e he c hc
 simp only[bY,bK]at he
 obtain⟨k,_,rfl⟩:=he
 simp only[aT]at hc
 exact⟨_,hc⟩
end Go.Proofs.Trees
namespace Go.Proofs.Trees
open Go Go.VL Go.RowKit
def T6(n:Nat):AV->List Ob->Prop:=fun r o=>∃x:Int,r=.v (.int .i64 x)/\(0<=x->n<=1048576)
theorem T6.ne(n:Nat):∃r o,T6 n r o:=⟨_,[],-1,rfl,fun h=>by omega⟩
end Go.Proofs.Trees
namespace Go.Proofs.Trees
open Go Go.VL Go.RowKit
theorem LY(a b:AV)(l:List (List UInt8))(ha:cB a l)(hb:cB b l)(hl:l.length<=2000000):∀(m i:Nat),i+m=l.length->G3 [a,b,.v (.int .i64 (i:Int))] [] (gj 1 [] [])
 |
  0,i,hi=>by
  refine PS _ _ _ ?_
  simp only[Hf,↓zq,zs,ac,ha.len]
  exact⟨ha.1,hb.1,ha.1,fun h=>by omega,fun _=>⟨rfl,rfl,rfl⟩⟩
 |
  m+1,i,hi=>by
  have hlt:i<l.length:=by omega
  refine PS _ _ _ ?_
  simp only[Hf,↓zq,zs,ac,zt,ha.len,hb.len,ha.idx hlt,hb.idx hlt,bx]
  refine⟨ha.1,hb.1,ha.1,fun _=>⟨⟨ha.1,by omega,by omega⟩,by omega,⟨hb.1,by omega,by omega⟩,by omega,fun h=>by simp at h,fun _=>?_⟩,fun h=>by omega⟩
  rw[bp i (by omega)]
  exact LY a b l ha hb hl m (i+1) (by omega)
theorem Rr(a b:AV)(l:List (List UInt8))(ha:cB a l)(hb:cB b l)(hl:l.length<=2000000):ap Tryz.prog 17 [a,b] [] (bG (.v (.bool true))):=by
 refine Ru _ _ ha.1 hb.1 ?_
 simp only[J9,↓zq,zs,ac,ha.len,hb.len]
 refine⟨ha.1,hb.1,fun h=>by simp at h,fun _=>?_⟩
 refine co (LY a b l ha hb hl l.length 0 (by omega)) ?_
 simp[bG,↓zq,zs,ac]
theorem Su(s f:(List UInt8))(x y:AV)(l:List (List UInt8))(hx:cB x l)(hy:cB y l)(hl:l.length<=2000000):ap Tryz.prog 10 [.agg [.v (.string (mk s)),x,.v (.string (mk f))],.agg [.v (.string (mk s)),y,.v (.string (mk f))]] [] (bG (.v (.bool true))):=by
 refine Qh _ _ _ _ _ _ hx.1 hy.1 ?_
 simp only[Li,↓zq,zs,ac,zt,bG]
 refine⟨fun _=>⟨fun _=>?_,fun h=>absurd rfl h⟩,fun h=>absurd rfl h⟩
 refine ai (Rr x y l hx hy hl) ?_
 simp only[↓zq,zs,ac,zt]
end Go.Proofs.Trees
namespace Go.Proofs.Trees
open Go Go.VL Go.RowKit
inductive Fr where
 |mk (s:List UInt8) (e:E) (o:List Fr)
def Fr.nm:Fr->List UInt8| .mk s _ _=>s
def Fr.ex:Fr->E| .mk _ e _=>e
def Fr.out:Fr->List Fr| .mk _ _ o=>o
def names:List Fr->List (List UInt8)
 |[]=>[]
 |f::r=>names r++[f.nm]
def zK(e:E)(o:List Fr):Ty:=(cS e (names o)).getD .zero
def E.sp:E->AV
 | .atom _=>.v (.slice none 0 0)
 | .list l=>.sl (E.bw l)
theorem fE(e:E):e.iq=[.v (.string (mk e.at)),e.sp]:=by cases e<;>rfl
theorem cX(e:E):e.kE=.agg [.v (.string (mk e.at)),e.sp]:=by cases e<;>rfl
theorem aX(e:E):LK.has .sl e.sp=True:=by cases e<;>simp[E.sp,bc,bT]
mutual
def Fr.cells:Fr->List AV
 | .mk s e o=>[.v (.string (mk s)),.v (.string (mk e.at)),e.sp,.sl (ka o)]
def ka:List Fr->List (List AV)
 |[]=>[]
 |f::r=>ka r++[f.cells]
end
mutual
def Fr.cF:Fr->AV
 | .mk s e o=>.ptr [(zK e o).av,oV o]
def oV:List Fr->AV
 |[]=>iE
 |f::r=>.ptr [f.cF,oV r]
end
inductive WF:List Fr->Prop
 |nil:WF []
 |cons {s:List UInt8} {x a b:E} {t:Ty} {r:List Fr} (hs:dk s=true) (hok:(E.list [x,a,b]).ok) (hx:x.at=[114,101,99]) (ht:cS (.list [x,a,b]) (names r)=some t) (hf:cc t=false) (hr:WF r):WF (.mk s (.list [x,a,b]) r::r)
theorem kV:∀env:List Fr,(ka env).length=env.length
 |[]=>rfl
 |f::r=>by simp[ka,kV r]
theorem ep(env:List Fr):LK.has .ptr (oV env)=True:=by cases env<;>simp[oV,iA,cb]
theorem CH(f:Fr):LK.has .ptr f.cF=True:=by cases f;simp[Fr.cF,cb]
def fV(s:List UInt8):List Fr->Option Fr
 |[]=>none
 |f::r=>if f.nm=s then some f else fV s r
def hd(e:E)(env:List Fr):E×List Fr:=match fV e.at env with|some f=>(f.ex,f.out)|none=>(e,env)
theorem kQ{env:List Fr}(h:WF env):fV [] env=none:=by
 induction h with
 |nil=>rfl
 |
  @cons s x a b t r hs hok hx ht hf hr ih =>
  rw[fV,if_neg (show ¬(Fr.mk s (.list [x,a,b]) r).nm=[] from C3 hs)];exact ih
theorem Ak{env:List Fr}(h:WF env){s:List UInt8}{f:Fr}(hf:fV s env=some f):dk s=true:=by
 induction h with
 |nil=>cases hf
 |
  cons hs hok hx ht hf' hr ih =>
  rw[fV]at hf
  split at hf
  ·rename_i e;exact e ▸ hs
  ·exact ih hf
theorem oX{env:List Fr}(h:WF env){s:List UInt8}{f:Fr}(hf:fV s env=some f):∃x a b t,f.ex=.list [x,a,b]/\(E.list [x,a,b]).ok/\x.at=[114,101,99]/\cS f.ex (names f.out)=some t/\cc t=false/\WF f.out/\f.out.length<env.length:=by
 induction h with
 |nil=>cases hf
 |
  cons hs hok hx ht hf' hr ih =>
  rw[fV]at hf
  split at hf
  ·cases hf;exact⟨_,_,_,_,rfl,hok,hx,ht,hf',hr,by simp[Fr.out]⟩
  ·obtain⟨x,a,b,t,h1,h2,h3,h4,h5,h6,h7⟩:=ih hf
   exact⟨x,a,b,t,h1,h2,h3,h4,h5,h6,by simp;omega⟩
theorem kp(s w:List UInt8)(ar:List (List UInt8)):∀i,i<=ar.length->bQ s (ar++[w]) i=(bQ s ar i).map (·+1)
 |0,_=>rfl
 |
  i+1,hi=>by
  have hlt:i<ar.length:=by omega
  have e:(ar++[w]).getD i []=ar.getD i []:=by simp[aa,List.getElem?_append_left hlt]
  rw[bQ,bQ,e,kp s w ar i (by omega)]
  split
  ·simp only[an,au,aG,cg,Option.some.injEq];omega
  ·rfl
theorem wD(s:List UInt8)(f:Fr)(r:List Fr):bQ s (names (f::r)) (names (f::r)).length=if f.nm=s then some 0 else(bQ s (names r) (names r).length).map (·+1):=by
 have e:(names (f::r)).length=(names r).length+1:=by simp[names]
 rw[e,bQ]
 have e2:(names (f::r)).getD (names r).length []=f.nm:=by simp[names,aa]
 rw[e2]
 split
 ·rw[e];simp
 ·rw[names,kp _ _ _ _ (aq _)]
theorem ot(s:List UInt8):∀env:List Fr,bQ s (names env) (names env).length=none/\fV s env=none\/∃(u:Nat) (f:Fr),bQ s (names env) (names env).length=some u/\fV s env=some f/\env[u]?=some f
 |[]=>.inl ⟨rfl,rfl⟩
 |
  f::r=>by
  rw[wD,fV]
  split
  ·exact .inr ⟨0,f,rfl,rfl,rfl⟩
  ·rcases ot s r with⟨h1,h2⟩|⟨u,g,h1,h2,h3⟩
   ·exact .inl ⟨by rw[h1];rfl,h2⟩
   ·exact .inr ⟨u+1,g,by rw[h1];rfl,h2,by simpa using h3⟩
def Ty.P8:Ty->Bool
 | .bW _=>true
 |_=>false
theorem gx{e:E}{env:List Fr}{t:Ty}(hw:WF env)(ht:cS e (names env)=some t) :
 (t.P8=false/\fV e.at env=none)\/∃(u:Nat) (f:Fr),t=.bW u/\fV e.at env=some f/\env[u]?=some f:=by
 cases e with
 |
  list l =>
  left
  refine⟨?_,kQ hw⟩
  match l,ht with
  |
   [x,a,b],ht =>
   by_cases h0:x.at=[43]
   ·obtain⟨t1,t2,_,_,rfl⟩:=fJ h0 ht;rfl
   ·by_cases h1:x.at=[42]
    ·obtain⟨t1,t2,_,_,rfl⟩:=eY h1 ht;rfl
    ·by_cases h2:x.at=[114,101,99]
     ·obtain⟨t1,_,_,rfl⟩:=dB h2 ht;rfl
     ·rw[iZ _ h0 h1 h2]at ht;cases ht
  |[],ht=>cases ht
  |[_],ht=>cases ht
  |[_,_],ht=>cases ht
  |_::_::_::_::_,ht=>cases ht
 |
  atom s =>
  simp only[cS]at ht
  have hno:dk s=false->fV s env=none:=fun h=>by
   cases hq:fV s env with
   |none=>rfl
   |some f=>rw[Ak hw hq]at h;cases h
  split at ht
  ·rename_i h;cases ht;subst h;exact .inl ⟨rfl,hno rfl⟩
  ·split at ht
   ·rename_i h;cases ht;subst h;exact .inl ⟨rfl,hno rfl⟩
   ·split at ht
    ·rename_i h
     cases ht
     refine .inl ⟨rfl,hno ?_⟩
     cases hq:dk s with
     |false=>rfl
     |
      true =>
      obtain⟨c,r,rfl,h1,h2⟩:=lH h
      obtain⟨c',r',he,h3,h4⟩:=lH hq
      cases he;omega
    ·split at ht
     ·rcases ot s env with⟨h1,h2⟩|⟨u,f,h1,h2,h3⟩
      ·rw[h1]at ht;cases ht;exact .inl ⟨rfl,h2⟩
      ·rw[h1]at ht;cases ht;exact .inr ⟨u,f,rfl,h2,h3⟩
     ·cases ht
def eG(n:Nat):Vl->E×List Fr->Bool
 | .u,p=>match hd p.1 p.2 with|(.atom s,_)=>s==[49]|_=>false
 | .el k,p=>match hd p.1 p.2 with|(.atom s,_)=>!(s==[49])&&(gU s&&decide (k<n))|_=>false
 | .l w,p=>match hd p.1 p.2 with|(.list [x,a,b],o)=>(x.at==[43])&&eG n w (a,o)|_=>false
 | .r w,p=>match hd p.1 p.2 with|(.list [x,a,b],o)=>(x.at==[43])&&eG n w (b,o)|_=>false
 | .f w,p=>match hd p.1 p.2 with|(.list [x,a,b],o)=>(x.at==[114,101,99])&&eG n w (b,.mk a.at (.list [x,a,b]) o::o)|_=>false
 | .p v w,p=>match hd p.1 p.2 with|(.list [x,a,b],o)=>(x.at==[42])&&(eG n v (a,o)&&eG n w (b,o))|_=>false
theorem kq{e:E}{env:List Fr}(h:fV e.at env=none):hd e env=(e,env):=by rw[hd,h]
theorem qW{e:E}{env:List Fr}{f:Fr}(h:fV e.at env=some f):hd e env=(f.ex,f.out):=by rw[hd,h]
theorem p8{x a b:E}{o:List Fr}(h:WF o):hd (.list [x,a,b]) o=(.list [x,a,b],o):=kq (kQ h)
theorem uY(n:Nat)(v:Vl){e e':E}{env o:List Fr}(h:hd e env=(e',o))(h':hd e' o=(e',o)):eG n v (e,env)=eG n v (e',o):=by
 cases v<;>simp only[eG,h,h']
theorem jl{x a b:E}{env:List Fr}{t:Ty}(hw:WF env)(hok:(E.list [x,a,b]).ok)(hx:x.at=[114,101,99])(ht:cS (.list [x,a,b]) (names env)=some t)(hf:cc t=false) :
 ∃t1,t=.rc t1/\cS b (names (.mk a.at (.list [x,a,b]) env::env))=some t1/\cc t1=false/\WF (.mk a.at (.list [x,a,b]) env::env):=by
 obtain⟨t1,hl,h1,rfl⟩:=dB hx ht
 exact⟨t1,rfl,h1,hf,.cons hl hok hx ht hf hw⟩
theorem Ao(a b env:AV)(n:Int)(s:ByteArray)(u:Int)(ha:LK.ptr.has a)(he:LK.ptr.has env):ap Tryz.prog 126 [.agg [.ptr [.v (.int .u8 n),.v (.string s),.v (.int .i64 u),a,b],env]] [] (bG (.agg [a,env])):=by
 refine SV _ _ ((cb _).mpr trivial) he ?_
 simp only[Nb,↓zq,zs,ac,bG]
 exact⟨ha,by omega⟩
theorem At(a b env:AV)(n:Int)(s:ByteArray)(u:Int)(hb:LK.ptr.has b)(he:LK.ptr.has env):ap Tryz.prog 127 [.agg [.ptr [.v (.int .u8 n),.v (.string s),.v (.int .i64 u),a,b],env]] [] (bG (.agg [b,env])):=by
 refine Tf _ _ ((cb _).mpr trivial) he ?_
 simp only[Ml,↓zq,zs,ac,bG]
 exact⟨hb,by omega⟩
theorem Qd(t:Ty)(env:List Fr)(s:List UInt8)(e:E)(ht:zK e env=.rc t):ap Tryz.prog 90 [.agg [(Ty.rc t).av,oV env]] [] (bG (.cA [.agg [t.av,oV (.mk s e env::env)],(Fr.mk s e env).cF])):=by
 refine SA _ _ ((aE _).mpr trivial) ((ep _).mpr trivial) ?_
 simp only[Pw,Ty.av,↓zq,zs,ac,aE,bG,oV,Fr.cF,ht]
 omega
theorem tT(env:List Fr)(i:Nat)(f:Fr)(h:env[i]?=some f):oV (env.drop i)=.ptr [f.cF,oV (env.drop (i+1))]:=by
 obtain⟨hlt,he⟩:=List.getElem?_eq_some_iff.1 h
 rw[aP hlt,he,oV]
theorem LB(env:List Fr)(u:Nat)(hu:u<env.length)(hl:env.length<1000000):∀(k i:Nat),i+k=u->Dz [oV (env.drop i),.v (.int .i64 (u:Int)),.v (.int .i64 (i:Int))] [] (gj 1 [oV (env.drop u)] [])
 |
  0,i,hi=>by
  refine Dk _ _ _ ?_
  have:i=u:=by omega
  subst this
  simp only[CZ,↓zq,zs,ac,ep]
  exact⟨fun h=>by omega,fun _=>by simp[gj]⟩
 |
  k+1,i,hi=>by
  refine Dk _ _ _ ?_
  have hlt:i<env.length:=by omega
  have hg:env[i]?=some env[i]:=bm hlt
  have hd:=tT env i _ hg
  rw[hd]
  simp only[CZ,↓zq,zs,ac,ep]
  refine⟨fun _=>⟨by omega,?_⟩,fun h=>by omega⟩
  rw[bp i (by omega)]
  exact LB env u hu hl k (i+1) (by omega)
theorem Te(env:List Fr)(u:Nat)(f:Fr)(hf:env[u]?=some f)(hl:env.length<1000000):ap Tryz.prog 125 [.agg [(Ty.bW u).av,oV env]] [] (bG f.cF):=by
 refine Ls _ _ ((aE _).mpr trivial) ((ep _).mpr trivial) ?_
 obtain⟨hlt,he⟩:=List.getElem?_eq_some_iff.1 hf
 simp only[HW,Ty.av,↓zq,zs,ac]
 refine⟨by omega,?_⟩
 have h:=LB env u hlt hl u 0 (by omega)
 simp only[aZ]at h
 refine co h ?_
 rw[tT env u f hf]
 simp only[↓zq,zs,ac,CH,bG]
 omega
theorem Er(k:Nat)(h:k<100):Lib.atoi (dd k)=some (k:Int):=by
 have e:∀k,k<100->dd k=if k<10 then [bh (48+k)]else [bh (48+k/10),bh (48+k%10)]:=by
  intro k hk
  by_cases h1:k<10
  ·rw[eF h1,if_pos h1]
  ·rw[fP h1,eF (by omega),if_neg h1];rfl
 have key:∀k:Fin 100,Lib.atoi (if k.val<10 then [bh (48+k.val)]else [bh (48+k.val/10),bh (48+k.val%10)])=some (k.val:Int):=by decide +kernel
 rw[e k h];exact key ⟨k,h⟩
theorem Sq(k:Nat)(hk:k<100):ap Tryz.prog 124 [.v (.string (mk (dd k)))] [] (bG (.cA [.v (.int .i64 (k:Int)),.v .nilIface])):=by
 have hl:=mT 1000 k (by omega)
 have hl2:(dd k).length<=18:=by
  have e:(dd k).length<=2:=by
   by_cases h1:k<10
   ·rw[eF h1];simp
   ·rw[fP h1,eF (by omega)];simp
  omega
 refine ap.RR (xs:=[.string (mk (dd k))]) (v:=.tuple #[.int .i64 (k:Int),.nilIface]) ⟨qI,by kernel_rfl,by kernel_rfl,by kernel_rfl⟩ (fun M=>?_) fun w=>?_
 ·refine bI.cA _ _ [.int .i64 (k:Int),.nilIface] rfl fun i hi=>?_
  match i,hi with
  |0,_=>exact .v _ _
  |1,_=>exact .v _ _
 ·have:=Any.strconv_Atoi Tryz.EH (mk (dd k)) (k:Int) (by rw[cJ];exact hl2) (by
   have:(mk (dd k)).data.toList=dd k:=by simp[mk]
   rw[this];exact Er k hk) w
  refine Calls.mono this fun e w' ⟨h1,t,h2⟩=>⟨h1,?_⟩
  subst h2
  refine⟨rfl,rfl,rfl,?_,fun b hb=>Lib.bytesWorld_at_old _ _ _ _ hb⟩
  simp[Lib.bytesWorld,World.freeze]
end Go.Proofs.Trees
namespace Go.Proofs.Trees
open Go Go.VL Go.RowKit
theorem fq{a b:Ty}(h:cc (.plus a b)=false):cc a=false/\cc b=false:=by simpa[cc]using h
theorem eQ{a b:Ty}(h:cc (.times a b)=false):cc a=false/\cc b=false:=by simpa[cc]using h
theorem fF{e:E}{ar:List (List UInt8)}{t:Ty}(ht:cS e ar=some t)(hb:t.P8=false)(hf:cc t=false) :
 (e=.atom [48]/\t=.zero)\/(e=.atom [49]/\t=.one)\/(∃s,e=.atom s/\t=.name s/\gU s=true/\s≠[48]/\s≠[49]) ∨
 (∃x a b t1 t2,e=.list [x,a,b]/\x.at=[43]/\t=.plus t1 t2/\cS a ar=some t1/\cS b ar=some t2) ∨
 (∃x a b t1 t2,e=.list [x,a,b]/\x.at=[42]/\t=.times t1 t2/\cS a ar=some t1/\cS b ar=some t2) ∨
 (∃x a b t1,e=.list [x,a,b]/\x.at=[114,101,99]/\t=.rc t1):=by
 cases e with
 |
  list l =>
  match l,ht with
  |
   [x,a,b],ht =>
   by_cases h0:x.at=[43]
   ·obtain⟨t1,t2,h1,h2,rfl⟩:=fJ h0 ht
    exact .inr (.inr (.inr (.inl ⟨x,a,b,t1,t2,rfl,h0,rfl,h1,h2⟩)))
   ·by_cases h1:x.at=[42]
    ·obtain⟨t1,t2,h3,h2,rfl⟩:=eY h1 ht
     exact .inr (.inr (.inr (.inr (.inl ⟨x,a,b,t1,t2,rfl,h1,rfl,h3,h2⟩))))
    ·by_cases h2:x.at=[114,101,99]
     ·obtain⟨t1,_,_,rfl⟩:=dB h2 ht
      exact .inr (.inr (.inr (.inr (.inr ⟨x,a,b,t1,rfl,h2,rfl⟩))))
     ·rw[iZ _ h0 h1 h2]at ht;cases ht
  |[],ht=>cases ht
  |[_],ht=>cases ht
  |[_,_],ht=>cases ht
  |_::_::_::_::_,ht=>cases ht
 |
  atom s =>
  simp only[cS]at ht
  split at ht
  ·rename_i h;cases ht;subst h;exact .inl ⟨rfl,rfl⟩
  ·rename_i h0
   split at ht
   ·rename_i h;cases ht;subst h;exact .inr (.inl ⟨rfl,rfl⟩)
   ·rename_i h1
    split at ht
    ·rename_i h;cases ht;exact .inr (.inr (.inl ⟨s,rfl,rfl,h,h0,h1⟩))
    ·split at ht
     ·rename_i h
      split at ht
      ·cases ht;cases hb
      ·cases ht;simp only[cc]at hf;rw[h]at hf;cases hf
     ·cases ht
def qm(n:Nat)(v:Vl)(e:E)(env:List Fr)(t:Ty):Prop:=ap Tryz.prog 89 [.agg [t.av,oV env],v.cF,.v (.int .i64 (n:Int))] [] (bG (.v (.bool (eG n v (e,env)))))
structure Ask(e:E)(env:List Fr)(t:Ty):Prop where
 ok:e.ok
 wf:WF env
 ty:cS e (names env)=some t
 cl:cc t=false
theorem M9(n:Nat)(hn:n<=100)(v:Vl)(hv:v.gp 100)(IH:∀w:Vl,w.nodes<v.nodes->w.gp 100->∀e env t,Ask e env t->env.length+w.nodes<100000->qm n w e env t)
 (e:E) (env:List Fr) (t:Ty) (A:Ask e env t) (hl:env.length+v.nodes<100000) (hb:t.P8=false) (hh:fV e.at env=none):qm n v e env t:=by
 have hhd:hd e env=(e,env):=kq hh
 unfold qm
 refine PW _ _ _ _ ((aE _).mpr trivial) ((ep _).mpr trivial) ((aO _).mpr trivial) ?_
 rcases fF A.ty hb A.cl with⟨rfl,rfl⟩|⟨rfl,rfl⟩|⟨s,rfl,rfl,hp,h0,h1⟩|⟨x,a,b,t1,t2,rfl,hx,rfl,ha,hbb⟩|⟨x,a,b,t1,t2,rfl,hx,rfl,ha,hbb⟩|⟨x,a,b,t1,rfl,hx,rfl⟩
 ·have hp0:gU [48]=false:=rfl
  cases v<;>simp[A0,Ty.av,↓zq,zs,ac,bG,eG,hhd,hp0]
 ·have hp0:gU [49]=false:=rfl
  cases v<;>simp[A0,Ty.av,Vl.cF,↓zq,zs,ac,bG,eG,hhd,hp0]
 ·have h1':(s==[49])=false:=by simpa using h1
  cases v with
  |
   el k =>
   have hk:k<100:=hv
   simp only[A0,Ty.av,Vl.cF,↓zq,zs,ac,zt]
   refine⟨by omega,fun h=>by omega,fun _=>⟨fun _=>⟨by omega,fun h=>absurd rfl h,fun _=>⟨by omega,by omega,?_⟩⟩,fun h=>absurd rfl h⟩⟩
   have e1:(List.take ((dd k).length+1) (xO k)).drop (bM 1)=dd k:=by simp[xO]
   rw[e1]
   refine ai (Sq k hk) ?_
   simp only[↓zq,zs,ac,bG,eG,hhd,h1',hp,zf]
   refine⟨rfl,?_⟩
   congr 2
   rw[cx];simp
  |
   _ =>
   simp only[A0,Ty.av,Vl.cF,↓zq,zs,ac,zt,eG,hhd,h1',bG]
   exact⟨by omega,fun h=>by omega,fun _=>⟨fun _=>⟨by omega,fun _=>trivial,fun h=>by omega⟩,fun h=>absurd rfl h⟩⟩
 ·have hok:=A.ok
  obtain⟨ok1,ok2,ok3,_⟩:=hok
  obtain⟨f1,f2⟩:=fq A.cl
  cases v with
  |
   l w =>
   simp only[Vl.nodes]at hl
   simp only[A0,Ty.av,Vl.cF,↓zq,zs,ac]
   refine⟨by omega,fun h=>by omega,fun _=>⟨fun h=>by omega,fun _=>⟨fun h=>by omega,fun _=>⟨fun _=>⟨by omega,fun _=>?_,fun h=>absurd rfl h⟩,fun h=>absurd rfl h⟩⟩⟩⟩
   refine ai (Ao _ _ _ _ _ _ ((aE _).mpr trivial) ((ep _).mpr trivial)) ?_
   simp only[↓zq,zs,ac,bz,aE,ep,aO]
   refine⟨by omega,?_⟩
   refine ai (IH w (by simp only[Vl.nodes];omega) hv a env t1 ⟨ok2,A.wf,ha,f1⟩ (by omega)) ?_
   simp only[↓zq,zs,ac,bG,eG,hhd,hx]
   refine⟨fun h=>?_,fun h=>⟨by omega,fun h=>by omega,fun _=>?_⟩⟩
   ·simp[h]
   ·simp[h]
  |
   r w =>
   simp only[Vl.nodes]at hl
   simp only[A0,Ty.av,Vl.cF,↓zq,zs,ac]
   refine⟨by omega,fun h=>by omega,fun _=>⟨fun h=>by omega,fun _=>⟨fun h=>by omega,fun _=>⟨fun _=>⟨by omega,fun h=>by omega,fun _=>⟨by omega,fun _=>?_,fun h=>absurd rfl h⟩⟩,fun h=>absurd rfl h⟩⟩⟩⟩
   refine ai (At _ _ _ _ _ _ ((aE _).mpr trivial) ((ep _).mpr trivial)) ?_
   simp only[↓zq,zs,ac,bz,aE,ep,aO]
   refine⟨by omega,?_⟩
   refine ai (IH w (by simp only[Vl.nodes];omega) hv b env t2 ⟨ok3,A.wf,hbb,f2⟩ (by omega)) ?_
   simp[↓zq,zs,ac,bG,eG,hhd,hx]
  |
   _ =>
   simp only[A0,Ty.av,Vl.cF,↓zq,zs,ac,eG,hhd,bG]
   exact⟨by omega,fun h=>by omega,fun _=>⟨fun h=>by omega,fun _=>⟨fun h=>by omega,fun _=>⟨fun _=>⟨by omega,fun h=>by omega,fun _=>⟨by omega,fun h=>by omega,fun _=>by simp[hx]⟩⟩,fun h=>absurd rfl h⟩⟩⟩⟩
 ·have hok:=A.ok
  obtain⟨ok1,ok2,ok3,_⟩:=hok
  obtain⟨f1,f2⟩:=eQ A.cl
  cases v with
  |
   p v w =>
   simp only[Vl.nodes]at hl
   simp only[A0,Ty.av,Vl.cF,↓zq,zs,ac]
   refine⟨by omega,fun h=>by omega,fun _=>⟨fun h=>by omega,fun _=>⟨fun h=>by omega,fun _=>⟨fun h=>by omega,fun _=>⟨fun _=>⟨by omega,fun _=>?_,fun h=>absurd rfl h⟩,fun h=>absurd rfl h⟩⟩⟩⟩⟩
   refine ai (Ao _ _ _ _ _ _ ((aE _).mpr trivial) ((ep _).mpr trivial)) ?_
   simp only[↓zq,zs,ac,bz,aE,ep,aO]
   refine⟨by omega,?_⟩
   refine ai (IH v (by simp only[Vl.nodes];omega) hv.1 a env t1 ⟨ok2,A.wf,ha,f1⟩ (by omega)) ?_
   simp only[↓zq,zs,ac,bG,eG,hhd,hx]
   refine⟨fun h=>?_,fun h=>?_⟩
   ·refine ai (At _ _ _ _ _ _ ((aE _).mpr trivial) ((ep _).mpr trivial)) ?_
    simp only[↓zq,zs,ac,bz,aE,ep,aO]
    refine⟨by omega,?_⟩
    refine ai (IH w (by simp only[Vl.nodes];omega) hv.2 b env t2 ⟨ok3,A.wf,hbb,f2⟩ (by omega)) ?_
    simp[↓zq,zs,ac,h]
   ·simp[h]
  |
   _ =>
   simp only[A0,Ty.av,Vl.cF,↓zq,zs,ac,eG,hhd,bG]
   exact⟨by omega,fun h=>by omega,fun _=>⟨fun h=>by omega,fun _=>⟨fun h=>by omega,fun _=>⟨fun h=>by omega,fun _=>⟨fun _=>⟨by omega,fun h=>by omega,fun _=>by simp[hx]⟩,fun h=>absurd rfl h⟩⟩⟩⟩⟩
 ·obtain⟨t1',he1,h1,f1,hw1⟩:=jl A.wf A.ok hx A.ty A.cl
  cases he1
  have hok:=A.ok
  obtain⟨ok1,ok2,ok3,_⟩:=hok
  have htD:zK (.list [x,a,b]) env=.rc t1:=by rw[zK,A.ty];rfl
  have hin:=Qd t1 env a.at (.list [x,a,b]) htD
  simp only[Ty.av]at hin
  simp only[A0,Ty.av,↓zq,zs,ac]
  refine⟨by omega,fun h=>by omega,fun _=>⟨fun h=>by omega,fun _=>⟨fun h=>by omega,fun _=>⟨fun h=>by omega,fun _=>⟨fun h=>by omega,fun _=>⟨fun _=>?_,fun h=>absurd rfl h⟩⟩⟩⟩⟩⟩
  refine ai hin ?_
  simp only[↓zq,zs,ac,bz,aE,ep,CH,aO,fm]
  cases v with
  |
   f w =>
   simp only[Vl.nodes]at hl
   simp only[Vl.cF,↓zq,zs,ac,aO]
   refine⟨by omega,fun _=>⟨by omega,?_⟩,fun h=>absurd rfl h⟩
   refine ai (IH w (by simp only[Vl.nodes];omega) hv b (.mk a.at (.list [x,a,b]) env::env) t1 ⟨ok3,hw1,h1,f1⟩ (by simp;omega)) ?_
   simp[↓zq,zs,ac,bG,eG,hhd,hx]
  |
   _ =>
   simp only[Vl.cF,↓zq,zs,ac,eG,hhd,bG]
   exact⟨by omega,fun h=>by omega,fun _=>by simp[hx]⟩
theorem KQ(n:Nat)(hn:n<=100):∀(m:Nat) (v:Vl),v.nodes<m->v.gp 100->∀e env t,Ask e env t->env.length+v.nodes<100000->qm n v e env t
 |0,v,h,_=>by omega
 |
  m+1,v,h,hv=>by
  intro e env t A hl
  have IH:∀w:Vl,w.nodes<v.nodes->w.gp 100->∀e env t,Ask e env t->env.length+w.nodes<100000->qm n w e env t:=fun w hw hb=>KQ n hn m w (by omega) hb
  rcases gx A.wf A.ty with⟨hb,hh⟩|⟨u,f,rfl,hh,hu⟩
  ·exact M9 n hn v hv IH e env t A hl hb hh
  ·obtain⟨x,a,b,t',hfe,hok,hx,ht',hf',hwf,hlt⟩:=oX A.wf hh
   obtain⟨t1,hl1,h1,rfl⟩:=dB hx (hfe ▸ ht')
   have hvis:eG n v (e,env)=eG n v (f.ex,f.out):=uY n v (qW hh) (by rw[hfe];exact p8 hwf)
   unfold qm
   refine PW _ _ _ _ ((aE _).mpr trivial) ((ep _).mpr trivial) ((aO _).mpr trivial) ?_
   have hbd:=Te env u f hu (by omega)
   simp only[Ty.av]at hbd
   simp only[A0,Ty.av,↓zq,zs,ac]
   refine⟨by omega,fun h=>by omega,fun _=>⟨fun h=>by omega,fun _=>⟨fun _=>?_,fun h=>absurd rfl h⟩⟩⟩
   refine ai hbd ?_
   cases f with
   |
    mk s ee oo =>
    simp only[Fr.ex,Fr.out]at hfe ht' hf' hwf hvis hlt
    have htD:zK ee oo=.rc t1:=by rw[zK,ht'];rfl
    simp only[Fr.cF,htD,↓zq,zs,ac,bz,aE,ep]
    refine⟨by omega,?_⟩
    have hs:=M9 n hn v hv IH ee oo (.rc t1) ⟨by rw[hfe];exact hok,hwf,ht',hf'⟩ (by omega) rfl (by rw[hfe];exact kQ hwf)
    unfold qm at hs
    refine ai hs ?_
    simp[↓zq,zs,ac,bG,hvis]
end Go.Proofs.Trees
namespace Go.Proofs.Trees
open Go Go.VL Go.RowKit
theorem sX:∀(env:List Fr) (k:Nat) (f:Fr),env[k]?=some f->(ka env).getD (env.length-1-k) []=f.cells
 |[],k,f,h=>by cases h
 |
  g::r,0,f,h=>by
  cases h
  have:(g::r).length-1-0=(ka r).length:=by simp[kV]
  rw[this,ka];simp[aa]
 |
  g::r,k+1,f,h=>by
  have h':r[k]?=some f:=by simpa using h
  have hlt:=(List.getElem?_eq_some_iff.1 h').1
  have e:(g::r).length-1-(k+1)=r.length-1-k:=by simp;omega
  have:=sX r k f h'
  rw[e,ka,aa,List.getElem?_append_left (by rw[kV];omega),<-aa]
  exact this
theorem rS(f:Fr):f.cells=[.v (.string (mk f.nm)),.v (.string (mk f.ex.at)),f.ex.sp,.sl (ka f.out)]:=by cases f;rfl
theorem PG(e:E)(env:List Fr)(hl:env.length<1000000):∀(j k:Nat),k+j=env.length->F9 [.sl (ka env),.v (.int .i64 ((env.length:Int)-1-(k:Int)))] [.cells [.v (.string (mk e.at)),e.sp],.cells [.v (.string (mk [])),.v (.slice none 0 0)]]
 (nL (match fV e.at (env.drop k)with|some f=>(2,[.sl (ka f.out)],[.cells [.v (.string (mk f.ex.at)),f.ex.sp]])|none=>(1,[.sl (ka env)],[.cells [.v (.string (mk e.at)),e.sp],.cells [.v (.string (mk [])),.v (.slice none 0 0)]])))
 |
  0,k,hk=>by
  refine Nu _ _ _ _ _ _ ?_
  have hd:env.drop k=[]:=bU (by omega)
  simp only[HS,↓zq,zs,ac,aX,hd,fV]
  exact⟨fun h=>by omega,fun _=>by first|trivial|rfl⟩
 |
  j+1,k,hk=>by
  refine Nu _ _ _ _ _ _ ?_
  have hlt:k<env.length:=by omega
  have hg:env[k]?=some env[k]:=bm hlt
  have hc:=sX env k _ hg
  have e1:((env.length:Int)-1-(k:Int))=((env.length-1-k:Nat):Int):=by omega
  have hdr:env.drop k=env[k]::env.drop (k+1):=aP hlt
  rw[hdr,fV,e1]
  simp only[HS,bx,hc,rS,↓zq,zs,ac,zt,aX,kV,bz]
  refine⟨fun _=>⟨by omega,by omega,fun h=>⟨by omega,by omega,by omega,by omega,?_⟩,fun h=>?_⟩,fun h=>by omega⟩
  ·rw[if_pos h]
  ·rw[if_neg h]
   have e2:IntKind.wrap .i64 (((env.length-1-k:Nat):Int)-1)=(env.length:Int)-1-((k+1:Nat):Int):=by
    have:IntKind.wrap .i64 (((env.length-1-k:Nat):Int)-1)=((env.length-1-k:Nat):Int)-1:=wrap64 _ (by omega) (by omega)
    omega
   rw[e2]
   exact PG e env hl j (k+1) (by omega)
theorem Q4(e:E)(env:List Fr)(hl:env.length<1000000):ap Tryz.prog 100 [e.kE,.sl (ka env)] [] (bG (.cA [(hd e env).1.kE,.sl (ka (hd e env).2)])):=by
 rw[cX e]
 refine S9 _ _ _ ((aX _).mpr trivial) ((bT _).mpr trivial) ?_
 simp only[MW,↓zq,zs,ac,kV,bG]
 have h:=PG e env hl env.length 0 (by omega)
 simp only[aZ]at h
 rw[wrap64 _ (by omega) (by omega)]
 rw[show (env.length:Int)-1-((0:Nat):Int)=(env.length:Int)-1 by omega]at h
 refine fg h (fun ys o e'=>?_) (fun ys o e'=>?_)
 ·unfold hd
  cases hq:fV e.at env<;>rw[hq]at e'<;>cases e'
  simp only[↓zq,zs,ac,zt,aX,cX]
 ·unfold hd
  cases hq:fV e.at env<;>rw[hq]at e'<;>cases e'
  simp only[↓zq,zs,ac,zt,aX,cX]
theorem qg:∀env:List Fr,cr 4 (ka env)
 |[]=>fun c hc=>by cases hc
 |
  f::r=>fun c hc=>by
  simp only[ka,aQ,aT]at hc
  rcases hc with hc|rfl
  ·exact qg r c hc
  ·rw[rS];rfl
theorem TR(x a b:E)(env:List Fr)(hl:env.length<1000000):ap Tryz.prog 103 [(E.list [x,a,b]).kE,.sl (ka env)] [] (bG (.cA [b.kE,.sl (ka (.mk a.at (.list [x,a,b]) env::env))])):=by
 refine TD _ _ _ ((bT _).mpr trivial) ((bT _).mpr trivial) ?_
 simp only[Lx,E.bw,toNat_one,bg,↓zq,zs,ac,zt,iV,gl,iU,mS,aq,kV,bG,aR]
 refine⟨by omega,⟨qg env,by omega⟩,by omega,by omega,⟨fun c hc=>(by simp at hc;rw[hc];rfl),by omega⟩,?_⟩
 simp only[ka,rS,Fr.nm,Fr.ex,Fr.out,E.at,E.sp,E.bw]
theorem DZ(s:ByteArray)(e:E):bz [.str,.sl] [.v (.string s),e.sp] 0=True:=by apply eq_true;simp[bz,dM,aX]
theorem FI{e:E}{env:List Fr}{t:Ty}(A:Ask e env t):∃e' o t',hd e env=(e',o)/\Ask e' o t'/\t'.P8=false/\hd e' o=(e',o)/\o.length<=env.length:=by
 rcases gx A.wf A.ty with⟨hb,hh⟩|⟨u,f,rfl,hh,hu⟩
 ·exact⟨e,env,t,kq hh,A,hb,kq hh,aq _⟩
 ·obtain⟨x,a,b,t',hfe,hok,hx,ht',hf',hwf,hlt⟩:=oX A.wf hh
  refine⟨f.ex,f.out,t',qW hh,⟨by rw[hfe];exact hok,hwf,ht',hf'⟩,?_,?_,by omega⟩
  ·obtain⟨t1,_,_,rfl⟩:=dB hx (hfe ▸ ht');rfl
  ·rw[hfe];exact p8 hwf
def vh:Vl->List UInt8
 | .l _=>[108]
 | .r _=>[114]
 | .f _=>[102]
 | .p _ _=>[112]
 |_=>[]
theorem BA(v:Vl):ap Tryz.prog 71 [v.cG.kE] [] (bG (.v (.string (mk (vh v))))):=by
 cases v with
 |u=>exact AB _ _ ((bc).mpr trivial) (by simp)
 |el k=>exact AB _ _ ((bc).mpr trivial) (by simp)
 |l v=>exact vk _ _
 |r v=>exact vk _ _
 |f v=>exact vk _ _
 |p v w=>exact vk _ _
theorem Us(v:Vl)(hv:v.gp 100):v.cG.at=(match v with| .u=>[117]| .el k=>xO k|_=>[])/\Bp v.cG.at=(match v with| .el k=>(k:Int)|_=>-1):=by
 cases v with
 |el k=>exact⟨rfl,H6 k hv⟩
 |u=>exact⟨rfl,rfl⟩
 |_=>exact⟨rfl,rfl⟩
theorem Aj(n:Nat)(hn:n<=100):∀(m:Nat) (v:Vl),v.nodes<m->v.gp 100->∀e env t,Ask e env t->env.length+v.nodes<100000->ap Tryz.prog 72 [e.kE,.sl (ka env),v.cG.kE,.v (.int .i64 (n:Int))] [] (bG (.v (.bool (eG n v (e,env)))))
 |0,v,hm,hv,e,env,t,A,hl=>by omega
 |
  m+1,v,hm,hv,e,env,t,A,hl=>by
  obtain⟨e',o,t',hhd,A',hb,hh',hlen⟩:=FI A
  rw[uY n v hhd hh',cX e,cX v.cG]
  refine SQ _ _ _ _ _ _ ((aX _).mpr trivial) ((bT _).mpr trivial) ((aX _).mpr trivial) ?_
  have hf:=Q4 e env (by omega)
  rw[cX e,hhd]at hf
  have hvh:=BA v
  rw[cX]at hvh
  unfold NV
  refine ai hf ?_
  simp only[cX e',↓zq,zs,ac,zt,aX,DZ,bG]
  rcases fF A'.ty hb A'.cl with⟨rfl,rfl⟩|⟨rfl,rfl⟩|⟨s,rfl,rfl,hp,h0,h1⟩|⟨x,a,b,t1,t2,rfl,hx,rfl,ha,hbb⟩|⟨x,a,b,t1,t2,rfl,hx,rfl,ha,hbb⟩|⟨x,a,b,t1,rfl,hx,rfl⟩
  ·refine⟨fun _=>⟨fun h=>by simp[E.at]at h,fun _=>ai (Je _) ?_⟩,fun h=>by simp[E.at]at h⟩
   have hp0:gU (E.atom [48]).at=false:=rfl
   have hp1:gU [48]=false:=rfl
   cases v<;>simp[↓zq,zs,ac,hp0,eG,hh',hp1]
  ·refine⟨fun _=>⟨fun _=>?_,fun h=>absurd rfl h⟩,fun h=>by simp[E.at]at h⟩
   have hp1:gU [49]=false:=rfl
   cases v<;>simp[eG,hh',hp1,Vl.cG,E.at]
  ·have hne:s≠[]:=A'.ok
   have h1':(s==[49])=false:=by simpa using h1
   refine⟨fun _=>⟨fun h=>absurd h h1,fun _=>ai (Je _) ?_⟩,fun h=>absurd h hne⟩
   have hat:(E.atom s).at=s:=rfl
   simp only[hat,hp,↓zq,zs,ac]
   refine⟨fun _=>ai (Ox _) ?_,fun h=>by cases h⟩
   simp only[↓zq,zs,ac]
   rw[wrap64 _ (by omega) (by omega)]
   refine ai (A4 _ _ _) ?_
   simp only[↓zq,zs,ac,Dd,(Us v hv).2]
   cases v with
   |
    el k =>
    simp only[eG,hh',h1',hp,zf]
    congr 2
    rw[cx];simp;omega
   |_=>simp[eG,hh',h1']
  ·have hok:=A'.ok
   obtain⟨ok1,ok2,ok3,_⟩:=hok
   obtain⟨f1,f2⟩:=fq A'.cl
   refine⟨fun h=>absurd rfl h,fun _=>ai (vk x [a,b]) ?_⟩
   simp only[↓zq,zs,ac]
   refine ai hvh ?_
   rw[hx]
   cases v with
   |
    l w =>
    simp only[Vl.nodes]at hl
    simp only[vh,Vl.cG,E.sp,E.bw,toNat_one,bg,↓zq,zs,ac,zt,iV,gl,iU,mS,aq]
    refine⟨by simp,fun _=>⟨by omega,by omega,ai (Aj n hn m w (by simp only[Vl.nodes]at hm;omega) hv a o t1 ⟨ok2,A'.wf,ha,f1⟩ (by omega)) ?_⟩,fun h=>absurd rfl h⟩
    simp[↓zq,zs,ac,eG,hh',hx]
   |
    r w =>
    simp only[Vl.nodes]at hl
    simp only[vh,Vl.cG,E.sp,E.bw,toNat_one,bg,↓zq,zs,ac,zt,iV,gl,iU,mS,aq]
    refine⟨by simp,fun h=>by simp at h,fun _=>⟨fun _=>⟨by omega,by omega,ai (Aj n hn m w (by simp only[Vl.nodes]at hm;omega) hv b o t2 ⟨ok3,A'.wf,hbb,f2⟩ (by omega)) ?_⟩,fun h=>absurd rfl h⟩⟩
    simp[↓zq,zs,ac,eG,hh',hx]
   |_=>simp[vh,↓zq,zs,ac,zt,eG,hh',hx]
  ·have hok:=A'.ok
   obtain⟨ok1,ok2,ok3,_⟩:=hok
   obtain⟨f1,f2⟩:=eQ A'.cl
   refine⟨fun h=>absurd rfl h,fun _=>ai (vk x [a,b]) ?_⟩
   simp only[↓zq,zs,ac]
   refine ai hvh ?_
   rw[hx]
   cases v with
   |
    p w z =>
    simp only[Vl.nodes]at hl
    simp only[vh,Vl.cG,E.sp,E.bw,toNat_one,bg,↓zq,zs,ac,zt,iV,gl,iU,mS,aq]
    refine⟨by simp,fun h=>by simp at h,fun _=>⟨fun h=>by simp at h,fun _=>⟨fun _=>⟨by omega,by omega,ai (Aj n hn m w (by simp only[Vl.nodes]at hm;omega) hv.1 a o t1 ⟨ok2,A'.wf,ha,f1⟩ (by omega)) ?_⟩,fun h=>absurd rfl h⟩⟩⟩
    simp only[↓zq,zs,ac,eG,hh',hx]
    refine⟨fun h=>⟨by omega,by omega,ai (Aj n hn m z (by simp only[Vl.nodes]at hm;omega) hv.2 b o t2 ⟨ok3,A'.wf,hbb,f2⟩ (by omega)) ?_⟩,fun h=>?_⟩
    ·simp[↓zq,zs,ac,h]
    ·simp[h]
   |_=>simp[vh,↓zq,zs,ac,zt,eG,hh',hx]
  ·obtain⟨t1',he1,h1,f1,hw1⟩:=jl A'.wf A'.ok hx A'.ty A'.cl
   cases he1
   have hok:=A'.ok
   obtain⟨ok1,ok2,ok3,_⟩:=hok
   refine⟨fun h=>absurd rfl h,fun _=>ai (vk x [a,b]) ?_⟩
   simp only[↓zq,zs,ac]
   refine ai hvh ?_
   rw[hx]
   cases v with
   |
    f w =>
    simp only[Vl.nodes]at hl
    simp only[vh,Vl.cG,E.sp,E.bw,toNat_one,bg,↓zq,zs,ac,zt,iV,gl,iU,mS,aq]
    refine⟨by simp,fun h=>by simp at h,fun _=>⟨fun h=>by simp at h,fun _=>⟨fun h=>by simp at h,fun _=>⟨fun _=>ai (TR x a b o (by omega)) ?_,fun h=>absurd rfl h⟩⟩⟩⟩
    simp only[↓zq,zs,ac,yL,EP]
    refine⟨by omega,ai (Aj n hn m w (by simp only[Vl.nodes]at hm;omega) hv b (.mk a.at (.list [x,a,b]) o::o) t1 ⟨ok3,hw1,h1,f1⟩ (by simp;omega)) ?_⟩
    simp[↓zq,zs,ac,eG,hh',hx]
   |_=>simp[vh,↓zq,zs,ac,zt,eG,hh',hx]
theorem QR(n:Nat)(hn:n<=100)(v:Vl)(hv:v.gp 100)(e:E)(env:List Fr)(t:Ty)(A:Ask e env t)(hl:env.length+v.nodes<100000):ap Tryz.prog 72 [e.kE,.sl (ka env),v.cG.kE,.v (.int .i64 (n:Int))] [] (bG (.v (.bool (eG n v (e,env))))):=Aj n hn (v.nodes+1) v (by omega) hv e env t A hl
end Go.Proofs.Trees
namespace Go.Proofs.Trees
open Go Go.VL Go.RowKit
theorem MZ(l:List (List UInt8))(a:AV)(ha:cB a l)(s:List UInt8)(hl:l.length<1000000):∀(k i:Nat),i+k=l.length->Gx [a,.v (.string (mk s)),.v (.int .i64 (i:Int))] []
 (nL (if s∈l.drop i then(2,[.v (.bool true)],[])else(1,[],[])))
 |
  0,i,hi=>by
  refine KR _ _ _ ?_
  have hd:l.drop i=[]:=bU (by omega)
  simp only[I0,↓zq,zs,ac,hd,ha.len]
  exact⟨ha.1,ha.1,fun h=>by omega,fun _=>by simp[nL]⟩
 |
  k+1,i,hi=>by
  have hlt:i<l.length:=by omega
  have hdr:l.drop i=l.getD i []::l.drop (i+1):=by
   rw[aP hlt];simp[aa,hlt]
  refine KR _ _ _ ?_
  simp only[I0,↓zq,zs,ac,zt,ha.len,ha.idx hlt]
  refine⟨ha.1,ha.1,fun _=>⟨⟨ha.1,by omega,by omega⟩,by omega,fun h=>?_,fun h=>?_⟩,fun h=>by omega⟩
  ·rw[hdr,h];simp[nL]
  ·rw[bp i (by omega)]
   have:=MZ l a ha s hl k (i+1) (by omega)
   have e:s∈l.drop i↔s∈l.drop (i+1):=by
    rw[hdr,aH];exact⟨fun q=>q.resolve_left (fun q=>h q.symm),.inr⟩
   simp only[e];exact this
theorem xU(l:List (List UInt8))(a:AV)(ha:cB a l)(s:List UInt8)(hl:l.length<1000000):ap Tryz.prog 139 [a,.v (.string (mk s))] [] (bG (.v (.bool (decide (s∈l))))):=by
 refine RO _ _ ha.1 ?_
 unfold OX
 refine fg (MZ l a ha s hl l.length 0 (by omega)) (fun ys o e=>?_) (fun ys o e=>?_)
 ·simp only[aZ]at e
  split at e<;>cases e
  rename_i h
  simp[↓zq,zs,ac,bG,h]
 ·simp only[aZ]at e
  split at e<;>cases e
  rename_i h
  simp[↓zq,zs,ac,bG,h]
theorem zV(l:List (List UInt8))(a:AV)(ha:cB a l)(s:List UInt8)(hl:l.length<1000000):ap Tryz.prog 61 [a,.v (.string (mk s))] [] (bG (.sl (bY (l++[s])))):=by
 refine KY _ _ ha.1 ?_
 simp only[FL,↓zq,zs,ac,ha.2,bG,aR]
 have:(bY l).length=l.length:=by simp[bY]
 refine⟨⟨ha.1,kl l,by omega⟩,⟨fun c hc=>(by simp at hc;rw[hc];rfl),by omega⟩,?_⟩
 rw[Hw]
def kj:E->List (List UInt8)->List (List UInt8)->List (List UInt8)
 | .atom s,bd,l=>if s=[48]\/s=[49]\/s∈bd\/s∈l then l else l++[s]
 | .list [x,a,b],bd,l=>if x.at=[114,101,99]then kj b (bd++[a.at]) l else kj b bd (kj a bd l)
 | .list _,_,l=>l
theorem gd:∀(e:E) (bd l:List (List UInt8)),(kj e bd l).length<=l.length+e.sz
 | .atom s,bd,l=>by rw[kj];split<;>simp[E.sz]
 | .list [],bd,l=>by simp[kj]
 | .list [_],bd,l=>by simp[kj]
 | .list [_,_],bd,l=>by simp[kj]
 | .list (_::_::_::_::_),bd,l=>by simp[kj]
 |
  .list [x,a,b],bd,l=>by
  rw[kj]
  simp only[E.sz,E.jp]
  split
  ·have:=gd b (bd++[a.at]) l;omega
  ·have:=gd a bd l
   have:=gd b bd (kj a bd l)
   omega
theorem DV:∀(e:E) (bd l:List (List UInt8)) (a:AV),e.ok->j1 e=true->cB a bd->bd.length+l.length+e.sz<100000->ap Tryz.prog 98 [e.kE,a,.vec 0] [.vec 1 (bY l)] (dj (.vec 1) [.dead,.vec 1 (bY (kj e bd l))])
 |
  .atom s,bd,l,a,hok,hty,ha,hl=>by
  simp only[E.sz]at hl
  refine Ah _ _ _ _ ((bc).mpr trivial) ha.1 ?_
  have hne:s≠[]:=hok
  have hll:(bY l).length=l.length:=by simp[bY]
  simp only[xq,↓zq,zs,ac,zt,dj,kj]
  refine⟨fun _=>⟨fun h=>?_,fun h=>⟨fun h1=>?_,fun h1=>?_⟩⟩,fun h=>absurd h hne⟩
  ·rw[if_pos (.inl h)]
  ·rw[if_pos (.inr (.inl h1))]
  ·refine ai (xU bd a ha s (by omega)) ?_
   simp only[↓zq,zs,ac]
   refine⟨fun h2=>?_,fun h2=>ai (xU l _ (.of l) s (by omega)) ?_⟩
   ·rw[if_pos (.inr (.inr (.inl h2)))]
   ·simp only[↓zq,zs,ac]
    refine⟨fun h3=>?_,fun h3=>⟨⟨fun c hc=>(by simp at hc;rw[hc];rfl),by omega⟩,?_⟩⟩
    ·rw[if_pos (.inr (.inr (.inr h3)))]
    ·rw[Hw,if_neg]
     rintro(q|q|q|q)
     ·exact h q
     ·exact h1 q
     ·exact h2 q
     ·exact h3 q
 | .list [],_,_,_,_,h,_,_=>by cases h
 | .list [_],_,_,_,_,h,_,_=>by cases h
 | .list [_,_],_,_,_,_,h,_,_=>by cases h
 | .list (_::_::_::_::_),_,_,_,_,h,_,_=>by cases h
 |
  .list [x,y,z],bd,l,a,hok,hty,ha,hl=>by
  simp only[E.sz,E.jp]at hl
  obtain⟨ok1,ok2,ok3,_⟩:=hok
  refine Ah _ _ _ _ ((bT _).mpr trivial) ha.1 ?_
  simp only[xq,E.bw,toNat_one,bg,↓zq,zs,ac,zt,iV,gl,iU,mS,aq,dj]
  refine⟨fun h=>absurd rfl h,fun _=>ai (vk x [y,z]) ?_⟩
  simp only[↓zq,zs,ac,zt]
  have hyl:=gd y bd l
  rw[j1]at hty
  refine⟨fun h=>⟨by omega,by omega,by omega,ai (zV bd a ha y.at (by omega)) ?_⟩,fun h=>⟨by omega,by omega,?_⟩⟩
  ·have hz:j1 z=true:=by
    rw[if_neg (by rw[h];decide),if_neg (by rw[h];decide),if_pos h]at hty
    simp only[az]at hty;exact hty.2
   simp only[↓zq,zs,ac]
   refine ba (DV z (bd++[y.at]) l _ ok3 hz (.of _) (by simp;omega)) ?_
   simp only[↓zq,zs,ac]
   rw[kj,if_pos h]
  ·have hyz:j1 y=true/\j1 z=true:=by
    split at hty
    ·simpa using hty
    ·split at hty
     ·simpa using hty
     ·cases hty
   refine ba (DV y bd l a ok2 hyz.1 ha (by omega)) ?_
   simp only[↓zq,zs,ac]
   refine ba (DV z bd (kj y bd l) a ok3 hyz.2 ha (by omega)) ?_
   simp only[↓zq,zs,ac]
   rw[kj,if_neg h]
theorem kB{s:List UInt8}(h:gU s=true):dk s=false:=by
 cases hq:dk s with
 |false=>rfl
 |
  true =>
  obtain⟨c,r,rfl,h1,h2⟩:=lH h
  obtain⟨c',r',he,h3,h4⟩:=lH hq
  cases he;omega
theorem mV(s:List UInt8)(ar:List (List UInt8)):∀i,i<=ar.length->(bQ s ar i=none↔s∉ar.take i)
 |0,_=>by simp[bQ]
 |
  i+1,hi=>by
  have hlt:i<ar.length:=by omega
  have e:ar.getD i []=ar[i]:=by simp[aa,hlt]
  have e2:s∈ar.take (i+1)↔s∈ar.take i\/s=ar[i]:=by
   rw[show ar.take (i+1)=ar.take i++[ar[i]] from (List.take_append_getElem hlt).symm]
   simp only[aQ,aT]
  rw[bQ,e,e2]
  by_cases h:ar[i]=s
  ·rw[if_pos h]
   exact⟨fun h=>(by cases h),fun h'=>absurd (.inr h.symm) h'⟩
  ·rw[if_neg h,mV s ar i (by omega)]
   exact⟨fun h1 h2=>h2.elim h1 (fun h3=>h h3.symm),fun h1 h2=>h1 (.inl h2)⟩
theorem lT:∀(e:E) (ar l:List (List UInt8)) (t:Ty),cS e ar=some t->(∀w,w∈ar->dk w=true)->(kj e ar l).any dk=(l.any dk||cc t)
 |
  .atom s,ar,l,t,h,har=>by
  simp only[cS]at h
  rw[kj]
  split at h
  ·rename_i h0;cases h;rw[if_pos (.inl h0)];simp[cc]
  ·rename_i h0
   split at h
   ·rename_i h1;cases h;rw[if_pos (.inr (.inl h1))];simp[cc]
   ·rename_i h1
    split at h
    ·rename_i h2
     cases h
     have hn:=kB h2
     simp only[cc,hn]
     split
     ·simp
     ·simp[hn]
    ·split at h
     ·rename_i h2 h3
      have hlo:=mV s ar ar.length (aq _)
      rw[List.take_length]at hlo
      cases hq:bQ s ar ar.length with
      |
       some u =>
       rw[hq]at h;cases h
       have hm:s∈ar:=Classical.byContradiction fun hm=>by rw[hlo.2 hm]at hq;cases hq
       rw[if_pos (.inr (.inr (.inl hm)))];simp[cc]
      |
       none =>
       rw[hq]at h;cases h
       have hm:=hlo.1 hq
       simp only[cc,h3,Bool.or_true]
       split
       ·rename_i hh
        rcases hh with q|q|q|q
        ·exact absurd q h0
        ·exact absurd q h1
        ·exact absurd q hm
        ·rw[cn];exact⟨s,q,h3⟩
       ·simp[h3]
     ·cases h
 | .list [],_,_,_,h,_=>by cases h
 | .list [_],_,_,_,h,_=>by cases h
 | .list [_,_],_,_,_,h,_=>by cases h
 | .list (_::_::_::_::_),_,_,_,h,_=>by cases h
 |
  .list [x,a,b],ar,l,t,h,har=>by
  rw[kj]
  by_cases h0:x.at=[43]
  ·obtain⟨t1,t2,e1,e2,rfl⟩:=fJ h0 h
   rw[if_neg (by rw[h0];decide),lT b ar _ t2 e2 har,lT a ar l t1 e1 har,cc,Bool.or_assoc]
  ·by_cases h1:x.at=[42]
   ·obtain⟨t1,t2,e1,e2,rfl⟩:=eY h1 h
    rw[if_neg (by rw[h1];decide),lT b ar _ t2 e2 har,lT a ar l t1 e1 har,cc,Bool.or_assoc]
   ·by_cases h2:x.at=[114,101,99]
    ·obtain⟨t1,hl,e1,rfl⟩:=dB h2 h
     rw[if_pos h2,lT b _ l t1 e1 (fun w hw=>by
      simp only[aQ,aT]at hw
      rcases hw with hw|rfl
      ·exact har w hw
      ·exact hl),cc]
    ·rw[iZ _ h0 h1 h2]at h;cases h
def jI(s:List UInt8):Option E:=match wS s with
 |none=>none
 |some e=>if(kj e [] []).any dk=true then none else some e
theorem Bk{s:List UInt8}:xz s=match jI s with|none=>none|some e=>cS e []:=by
 unfold xz jI
 rw[ur]
 cases he:wS s with
 |none=>rfl
 |
  some e =>
  obtain⟨h1,h2,h3⟩:=pR he
  have hs:=iR e []
  rw[h2]at hs
  obtain⟨t,ht⟩:=bF.1 hs
  have ha:=lT e [] [] t ht (fun w hw=>by cases hw)
  simp only[ht,tj,ha,List.any_nil,Bool.false_or]
  cases hf:cc t<;>simp[ht]
theorem gT{s:List UInt8}{e:E}(h:jI s=some e):∃t,xz s=some t/\Ask e [] t/\j1 e=true/\e.sz<=8000/\t.aD<=400/\qS s=some e:=by
 have h0:=h
 unfold jI at h
 split at h
 ·cases h
 ·rename_i e' he
  split at h
  ·cases h
  ·rename_i hn
   cases h
   obtain⟨h1,h2,h3⟩:=pR he
   obtain⟨hok,hsz⟩:=oc h1
   have hs:=iR e []
   rw[h2]at hs
   obtain⟨t,ht⟩:=bF.1 hs
   have ha:=lT e [] [] t ht (fun w hw=>by cases hw)
   rw[ha]at hn
   refine⟨t,by rw[Bk,h0];exact ht,⟨hok,.nil,ht,by simpa using hn⟩,h2,hsz,?_,h1⟩
   rw[<-jT e [] t ht];exact h3
theorem nv{s:List UInt8}(h:jI s=none):xz s=none:=by rw[Bk,h]
theorem PT(e:E)(l:List (List UInt8))(hl:l.length<1000000):∀(k i:Nat),i+k=l.length->G8 [.v (.int .i64 (i:Int))] [.cells [.v (.string (mk [])),.v (.slice none 0 0)],.cells [.v (.string (mk e.at)),e.sp],.vec 1 (bY l)]
 (nL (if(l.drop i).any dk=true then(2,[.v (.bool false)],[.cells [.v (.string (mk e.at)),e.sp]])else(1,[],[.cells [.v (.string (mk [])),.v (.slice none 0 0)],.cells [.v (.string (mk e.at)),e.sp]])))
 |
  0,i,hi=>by
  refine PF _ _ _ _ _ _ ?_
  have hd:l.drop i=[]:=bU (by omega)
  have hll:(bY l).length=l.length:=by simp[bY]
  simp only[Hv,↓zq,zs,ac,hd,hll,aX]
  exact⟨fun h=>by omega,fun _=>by simp[nL]⟩
 |
  k+1,i,hi=>by
  have hlt:i<l.length:=by omega
  have hll:(bY l).length=l.length:=by simp[bY]
  have hdr:l.drop i=l.getD i []::l.drop (i+1):=by
   rw[aP hlt];simp[aa,hlt]
  have hg:=(cB.of l).idx hlt
  simp only[fj]at hg
  refine PF _ _ _ _ _ _ ?_
  simp only[Hv,↓zq,zs,ac,zt,hll,hg,aX]
  refine⟨fun _=>⟨by omega,by omega,ai (Gt _) ?_⟩,fun h=>by omega⟩
  simp only[↓zq,zs,ac,hdr,List.any_cons]
  refine⟨fun h=>?_,fun h=>?_⟩
  ·rw[h];simp[nL]
  ·rw[h,bp i (by omega)]
   simp only[Bool.false_or]
   exact PT e l hl k (i+1) (by omega)
theorem Ia(s:List UInt8):ap Tryz.prog 70 [.v (.string (mk s))] [] (jv (jI s) (jI s).isSome):=by
 refine RI _ ?_
 unfold LX
 refine aN (Il s) (jv.ne _ _ (fun h=>h)) ?_
 rintro r o ⟨c,d,hd,rfl,hh⟩
 have hhas:bz [.str,.sl] [.v (.string (mk c)),d] 0:=by simp[bz,dM,hd]
 simp only[↓zq,zs,ac,zt]
 refine⟨hhas,fun h=>?_,fun h=>?_⟩
 ·have hn:wS s=none:=by cases hq:wS s<;>simp[hq]at h |-
  unfold jI
  rw[hn]
  exact⟨c,d,hd,rfl,fun h=>by cases h⟩
 ·obtain⟨e,he,hce⟩:=hh h
  obtain⟨h1,h2,h3⟩:=pR he
  obtain⟨hok,hsz⟩:=oc h1
  have hce':=hce
  rw[cX]at hce'
  simp only[AV.agg.injEq,List.cons.injEq,AV.v.injEq,Value.string.injEq,and_true]at hce'
  obtain⟨hc1,rfl⟩:=hce'
  have hc2:=xw hc1
  subst hc2
  rw[<-cX]
  refine ba (DV e [] [] _ hok h2 (.of []) (by simp;omega)) ?_
  have hfl:=gd e [] []
  simp only[↓zq,zs,ac]
  have hLS:=PT e (kj e [] []) (by simp at hfl;omega) (kj e [] []).length 0 (by omega)
  simp only[aZ]at hLS
  unfold jI
  rw[he]
  refine fg hLS (fun ys o e'=>?_) (fun ys o e'=>?_)
  ·split at e'<;>cases e'
   rename_i hn
   simp only[↓zq,zs,ac,aX,if_neg hn]
   exact⟨e.at,e.sp,hd,rfl,fun _=>⟨e,rfl,(cX e).symm⟩⟩
  ·split at e'<;>cases e'
   rename_i hn
   simp only[↓zq,zs,ac,aX,if_pos hn]
   exact⟨e.at,e.sp,hd,rfl,fun h=>by cases h⟩
def nA(s v:List UInt8)(n:Int):Option Vl:=match jI s,rL v with
 |some e,some w=>if(0<=n/\n<=100)/\eG n.toNat w (e,[])=true then some w else none
 |_,_=>none
theorem sF{s v:List UInt8}{n:Int}{w:Vl}(h:nA s v n=some w):∃e t m,jI s=some e/\rL v=some w/\xz s=some t/\Ask e [] t/\n=(m:Nat)/\m<=100/\eG m w (e,[])=true:=by
 unfold nA at h
 split at h
 ·rename_i e w' he hw
  split at h
  ·rename_i hh
   cases h
   obtain⟨t,h1,h2,_⟩:=gT he
   exact⟨e,t,n.toNat,he,hw,h1,h2,by omega,by omega,hh.2⟩
  ·cases h
 ·cases h
theorem On(s v:List UInt8)(n:Int):ap Tryz.prog 54 [.v (.string (mk s)),.v (.string (mk v)),.v (.int .i64 n)] [] (bG (.cA [ii (xz s),jk (nA s v n)])):=by
 refine QF _ _ _ ?_
 unfold Jy
 refine ai (Lp s) ?_
 simp only[↓zq,zs,ac,iu]
 refine ai (Qv v) ?_
 simp only[↓zq,zs,ac,gv,bG]
 unfold nA
 cases he:jI s with
 |none=>rw[nv he];cases rL v<;>simp[ii,jk,↓zq,zs,ac]
 |
  some e =>
  obtain⟨t,h1,h2,h3,h4,h5,_⟩:=gT he
  rw[h1]
  cases hv:rL v with
  |none=>simp only[ii,jk,aE,fM,↓zq,zs,ac];exact⟨fun h=>(by cases h),fun _=>⟨fun _=>trivial,fun h=>(by cases h)⟩⟩
  |
   some w =>
   obtain⟨h6,h7,h8⟩:=l9 hv
   simp only[ii,jk,aE,fM,aO,fm,↓zq,zs,ac]
   refine⟨fun h=>(by cases h),fun _=>⟨fun h=>(by cases h),fun _=>⟨fun h=>?_,fun h=>⟨fun h'=>?_,fun h'=>?_⟩⟩⟩⟩
   ·rw[if_neg (by omega)]
   ·rw[if_neg (by omega)]
   ·obtain⟨m,rfl⟩:∃m:Nat,n=(m:Int):=⟨n.toNat,by omega⟩
    have hi:=KQ m (by omega) (w.nodes+1) w (by omega) h7 e [] t h2 (by simp;omega)
    unfold qm at hi
    refine ai hi ?_
    simp only[↓zq,zs,ac,bx]
    refine⟨fun hq=>?_,fun hq=>?_⟩
    ·rw[if_neg (by rw[hq];simp)]
    ·rw[if_pos ⟨by omega,hq⟩]
theorem xe(s v:List UInt8)(n:Int):ap Tryz.prog 46 [.v (.string (mk s)),.v (.string (mk v)),.v (.int .i64 n)] [] (bG (.v (.bool (nA s v n).isSome))):=by
 refine Re _ _ _ ?_
 unfold Of
 refine aN (Ia s) (jv.ne _ _ (fun h=>h)) ?_
 rintro r o ⟨c,d,hd,rfl,hh⟩
 have hhas:bz [.str,.sl] [.v (.string (mk c)),d] 0:=by simp[bz,dM,hd]
 simp only[↓zq,zs,ac,zt]
 refine⟨hhas,?_⟩
 refine aN (BS v) (jv.ne _ _ (fun h=>by cases hq:rL v<;>simp[hq]at h |-)) ?_
 rintro r o ⟨c',d',hd',rfl,hh'⟩
 have hhas':bz [.str,.sl] [.v (.string (mk c')),d'] 0:=by simp[bz,dM,hd']
 simp only[↓zq,zs,ac,zt,bG]
 refine⟨hhas',fun h=>⟨fun h2=>?_,fun h2=>?_⟩,fun h=>?_⟩
 ·obtain⟨e,he,hce⟩:=hh h
  obtain⟨t,h1,hA,h3,h4,h5,_⟩:=gT he
  obtain⟨w,hw⟩:=bF.1 h2
  obtain⟨e2,he2,hce2⟩:=hh' h2
  rw[hw]at he2
  cases he2
  obtain⟨h6,h7,h8⟩:=l9 hw
  refine ai (A4 _ _ _) ?_
  simp only[↓zq,zs,ac,Dd,nA,he,hw]
  refine⟨fun hq=>?_,fun hq=>?_⟩
  ·have hq':0<=n/\n<=100:=by simpa using hq
   obtain⟨m,rfl⟩:∃m:Nat,n=(m:Int):=⟨n.toNat,by omega⟩
   rw[hce,hce2]
   have:=QR m (by omega) w h7 e [] t hA (by simp;omega)
   rw[show ka []=[] from rfl]at this
   refine ai this ?_
   simp only[↓zq,zs,ac,bx]
   by_cases hb:eG m w (e,[])=true
   ·rw[if_pos ⟨hq',hb⟩,hb];rfl
   ·rw[if_neg (fun h=>hb h.2)]
    rw[Bool.not_eq_true]at hb
    rw[hb];rfl
  ·have hq':¬(0<=n/\n<=100):=by simpa using hq
   rw[if_neg (fun h=>hq' h.1)];rfl
 ·have hn:rL v=none:=by cases hq:rL v<;>simp[hq]at h2 |-
  unfold nA
  rw[hn];cases jI s<;>rfl
 ·have hn:jI s=none:=by cases hq:jI s<;>simp[hq]at h |-
  unfold nA
  rw[hn];rfl
end Go.Proofs.Trees
namespace Go.Proofs.Trees
open Go Go.VL Go.RowKit
inductive Tg where
 |nm (s:List UInt8)
 |bd (k:Nat)
 deriving DecidableEq
def Tg.up:Tg->Tg
 | .nm s=>.nm s
 | .bd k=>.bd (k+1)
def fO:Ty->Tg->Bool
 | .name s,.nm s'=>decide (s=s')
 | .bW u,.bd k=>decide (u=k)
 |_,_=>false
abbrev Hl:=Vl×Vl
def jd(g:Vl->Vl)(l:List Hl):List Hl:=l.map fun h=>(g h.1,h.2)
def jX(f:Ty->Tg->Vl->List Hl)(tg:Tg):Ty->Vl->List Hl
 | .plus a _,.l w=>jd .l (f a tg w)
 | .plus _ b,.r w=>jd .r (f b tg w)
 | .times a b,.p x y=>jd (fun c=>.l (.p c y)) (f a tg x)++jd (fun c=>.r (.p x c)) (f b tg y)
 | .rc a,.f w=>jd (fun c=>.f (.l c)) (f a tg.up w)++(f a (.bd 0) w).flatMap fun h=>jd (fun c=>.f (.r (.p h.1 c))) (f (.rc a) tg h.2)
 |_,_=>[]
def ek:Nat->Ty->Tg->Vl->List Hl
 |0,_,_,_=>[]
 |n+1,t,tg,v=>if fO t tg=true then [(.u,v)]else jX (ek n) tg t v
def stuck:Ty->Vl->Bool
 | .plus _ _,.l _=>false
 | .plus _ _,.r _=>false
 | .times _ _,.p _ _=>false
 | .rc _,.f _=>false
 |_,_=>true
def cj(t:Ty)(tg:Tg)(v:Vl):List Hl:=ek v.nodes t tg v
theorem cZ{g:Vl->Vl}{l:List Hl}{h:Hl}(hm:h∈jd g l):∃k,k∈l/\h=(g k.1,k.2):=by
 obtain⟨k,h1,h2⟩:=bK.1 hm
 exact⟨k,h1,h2.symm⟩
theorem j8{f g:Hl->List Hl}:∀{l:List Hl},(∀h,h∈l->f h=g h)->l.flatMap f=l.flatMap g
 |[],_=>rfl
 |h::l,hl=>by rw[cQ,cQ,hl h ak,j8 (l:=l) fun k hk=>hl k (al _ hk)]
theorem fI:∀(n:Nat) (t:Ty) (tg:Tg) (v:Vl) (h:Hl),h∈ek n t tg v->h.2.nodes<=v.nodes/\h.1.nodes+4*h.2.nodes<=4*v.nodes+1
 |0,t,tg,v,h,hm=>by simp[ek]at hm
 |
  n+1,t,tg,v,h,hm=>by
  unfold ek at hm
  split at hm
  ·simp only[aT]at hm
   subst hm
   simp only[Vl.nodes];omega
  ·unfold jX at hm
   split at hm
   ·obtain⟨k,h1,rfl⟩:=cZ hm
    have:=fI n _ _ _ k h1
    simp only[Vl.nodes];omega
   ·obtain⟨k,h1,rfl⟩:=cZ hm
    have:=fI n _ _ _ k h1
    simp only[Vl.nodes];omega
   ·rcases aQ.1 hm with hm|hm
    ·obtain⟨k,h1,rfl⟩:=cZ hm
     have:=fI n _ _ _ k h1
     simp only[Vl.nodes];omega
    ·obtain⟨k,h1,rfl⟩:=cZ hm
     have:=fI n _ _ _ k h1
     simp only[Vl.nodes];omega
   ·rcases aQ.1 hm with hm|hm
    ·obtain⟨k,h1,rfl⟩:=cZ hm
     have:=fI n _ _ _ k h1
     simp only[Vl.nodes];omega
    ·obtain⟨k,h1,h2⟩:=dw.1 hm
     obtain⟨k2,h3,rfl⟩:=cZ h2
     have:=fI n _ _ _ k h1
     have:=fI n _ _ _ k2 h3
     simp only[Vl.nodes];omega
   ·simp at hm
theorem hZ:∀(n m:Nat) (t:Ty) (tg:Tg) (v:Vl),v.nodes<=n->v.nodes<=m->ek n t tg v=ek m t tg v
 |0,m,t,tg,v,h,_=>by have:=da v;omega
 |n+1,0,t,tg,v,_,h=>by have:=da v;omega
 |
  n+1,m+1,t,tg,v,hn,hm=>by
  rw[ek,ek]
  split
  ·rfl
  ·unfold jX
   split
   ·simp only[Vl.nodes]at hn hm;rw[hZ n m _ _ _ (by omega) (by omega)]
   ·simp only[Vl.nodes]at hn hm;rw[hZ n m _ _ _ (by omega) (by omega)]
   ·simp only[Vl.nodes]at hn hm;rw[hZ n m _ _ _ (by omega) (by omega),hZ n m _ _ _ (by omega) (by omega)]
   ·rename_i a w
    simp only[Vl.nodes]at hn hm;rw[hZ n m _ _ _ (by omega) (by omega),hZ n m _ (.bd 0) _ (by omega) (by omega)]
    congr 1
    apply j8
    intro h hh
    have:=(fI _ _ _ _ _ hh).1
    rw[hZ n m _ _ _ (by omega) (by omega)]
   ·rfl
theorem oT{n:Nat}(t:Ty)(tg:Tg){v:Vl}(h:v.nodes<=n):ek n t tg v=cj t tg v:=hZ _ _ _ _ _ h (aq _)
theorem mW{t:Ty}{tg:Tg}(v:Vl)(h:fO t tg=true):cj t tg v=[(.u,v)]:=by
 have:=da v
 unfold cj
 cases e:v.nodes with
 |zero=>omega
 |succ n=>rw[ek,if_pos h]
theorem ny(a b:Ty)(tg:Tg)(w:Vl):cj (.plus a b) tg (.l w)=jd .l (cj a tg w):=by
 unfold cj;rw[show (Vl.l w).nodes=w.nodes+1 by simp[Vl.nodes];omega,ek,if_neg (by simp[fO])];rfl
theorem nC(a b:Ty)(tg:Tg)(w:Vl):cj (.plus a b) tg (.r w)=jd .r (cj b tg w):=by
 unfold cj;rw[show (Vl.r w).nodes=w.nodes+1 by simp[Vl.nodes];omega,ek,if_neg (by simp[fO])];rfl
theorem ni(a b:Ty)(tg:Tg)(x y:Vl):cj (.times a b) tg (.p x y)=jd (fun c=>.l (.p c y)) (cj a tg x)++jd (fun c=>.r (.p x c)) (cj b tg y):=by
 rw[cj,show (Vl.p x y).nodes=(x.nodes+y.nodes)+1 by simp[Vl.nodes];omega,ek,if_neg (by simp[fO])]
 rw[jX,oT a tg (by omega),oT b tg (by omega)]
theorem nl(a:Ty)(tg:Tg)(w:Vl):cj (.rc a) tg (.f w)=jd (fun c=>.f (.l c)) (cj a tg.up w)++(cj a (.bd 0) w).flatMap fun h=>jd (fun c=>.f (.r (.p h.1 c))) (cj (.rc a) tg h.2):=by
 rw[cj,show (Vl.f w).nodes=w.nodes+1 by simp[Vl.nodes];omega,ek,if_neg (by simp[fO])]
 rw[jX,oT a tg.up (aq _),oT a (.bd 0) (aq _)]
 congr 1
 apply j8
 intro h hh
 have:=(fI _ _ _ _ _ hh).1
 rw[oT (.rc a) tg this]
theorem dT{t:Ty}{tg:Tg}{v:Vl}(h:fO t tg=false)(h2:stuck t v=true):cj t tg v=[]:=by
 unfold cj
 cases e:v.nodes with
 |zero=>rfl
 |
  succ n =>
  rw[ek,if_neg (by rw[h];simp)]
  unfold jX
  split<;>first|(simp[stuck]at h2;done)|rfl
theorem ik{t:Ty}{tg:Tg}{v:Vl}{h:Hl}(hm:h∈cj t tg v):h.2.nodes<=v.nodes/\h.1.nodes+4*h.2.nodes<=4*v.nodes+1:=fI _ _ _ _ _ hm
theorem gS(n:Nat):∀(m:Nat) (t:Ty) (tg:Tg) (v:Vl) (h:Hl),v.gp n->h∈ek m t tg v->h.1.gp n/\h.2.gp n
 |0,t,tg,v,h,hv,hm=>by simp[ek]at hm
 |
  m+1,t,tg,v,h,hv,hm=>by
  unfold ek at hm
  split at hm
  ·simp only[aT]at hm
   subst hm
   exact⟨trivial,hv⟩
  ·unfold jX at hm
   split at hm
   ·obtain⟨k,h1,rfl⟩:=cZ hm
    exact(fun q=>gS n m _ _ _ k q h1) hv
   ·obtain⟨k,h1,rfl⟩:=cZ hm
    exact(fun q=>gS n m _ _ _ k q h1) hv
   ·rcases aQ.1 hm with hm|hm
    ·obtain⟨k,h1,rfl⟩:=cZ hm
     obtain⟨q1,q2⟩:=gS n m _ _ _ k hv.1 h1
     exact⟨⟨q1,hv.2⟩,q2⟩
    ·obtain⟨k,h1,rfl⟩:=cZ hm
     obtain⟨q1,q2⟩:=gS n m _ _ _ k hv.2 h1
     exact⟨⟨hv.1,q1⟩,q2⟩
   ·rcases aQ.1 hm with hm|hm
    ·obtain⟨k,h1,rfl⟩:=cZ hm
     exact(fun q=>gS n m _ _ _ k q h1) hv
    ·obtain⟨k,h1,h2⟩:=dw.1 hm
     obtain⟨k2,h3,rfl⟩:=cZ h2
     obtain⟨q1,q2⟩:=(fun q=>gS n m _ _ _ k q h1) hv
     obtain⟨q3,q4⟩:=gS n m _ _ _ k2 q2 h3
     exact⟨⟨q1,q3⟩,q4⟩
   ·simp at hm
def iY(l:List Hl):Nat:=(l.map fun h=>h.2.nodes).sum
theorem sI(l r:List Hl):iY (l++r)=iY l+iY r:=by simp[iY]
theorem oL(g:Vl->Vl)(l:List Hl):iY (jd g l)=iY l:=by simp[iY,jd,Function.comp_def]
def kL(f:Tg->Nat)(T:List Tg):Nat:=(T.map f).sum
theorem oR(f g:Tg->Nat):∀T:List Tg,kL (fun x=>f x+g x) T=kL f T+kL g T
 |[]=>rfl
 |x::T=>by have:=oR f g T;simp only[kL,bC,List.sum_cons]at this |-;omega
theorem zz{f g:Tg->Nat}:∀{T:List Tg},(∀x,x∈T->f x<=g x)->kL f T<=kL g T
 |[],_=>aq _
 |
  x::T,h=>by
  have:=zz (T:=T) fun y hy=>h y (al _ hy)
  have:=h x ak
  simp only[kL,bC,List.sum_cons]at *;omega
theorem pY{f:Tg->Nat}:∀{T:List Tg},(∀x,x∈T->f x=0)->kL f T=0
 |[],_=>rfl
 |
  x::T,h=>by
  have:=pY (T:=T) fun y hy=>h y (al _ hy)
  have:=h x ak
  simp only[kL,bC,List.sum_cons]at *;omega
theorem tK(g:Hl->Tg->Nat)(T:List Tg):∀l:List Hl,kL (fun x=>(l.map fun h=>g h x).sum) T=(l.map fun h=>kL (g h) T).sum
 |[]=>pY fun _ _=>rfl
 |
  h::l=>by
  have:=tK g T l
  simp only[bC,List.sum_cons]
  rw[oR,this]
theorem tu(f:Hl->List Hl):∀l:List Hl,iY (l.flatMap f)=(l.map fun h=>iY (f h)).sum
 |[]=>rfl
 |h::l=>by rw[cQ,sI,tu f l];simp
theorem BC{f g:Hl->Nat}:∀{l:List Hl},(∀x,x∈l->f x<=g x)->(l.map f).sum<=(l.map g).sum
 |[],_=>aq _
 |
  x::l,h=>by
  have:=BC (l:=l) fun y hy=>h y (al _ hy)
  have:=h x ak
  simp only[bC,List.sum_cons]at *;omega
theorem BZ{t:Ty}{x y:Tg}(h:fO t x=true)(h':fO t y=true):x=y:=by
 cases t<;>cases x<;>cases y<;>simp[fO]at h h'<;>simp_all
theorem yO{t:Ty}(n:Nat):∀{T:List Tg},T.Nodup->kL (fun x=>if fO t x=true then n else 0) T<=n
 |[],_=>dF _
 |
  x::T,h=>by
  obtain⟨h1,h2⟩:=List.nodup_cons.1 h
  have ih:=yO (t:=t) n h2
  by_cases hx:fO t x=true
  ·have:kL (fun x=>if fO t x=true then n else 0) T=0:=pY fun y hy=>by
    rw[if_neg fun hy'=>h1 (by rw[BZ hx hy'];exact hy)]
   simp only[kL,bC,List.sum_cons]at *
   rw[if_pos hx];omega
  ·simp only[kL,bC,List.sum_cons]at *
   rw[if_neg hx];omega
theorem Ck{T:List Tg}(h:T.Nodup):(Tg.bd 0::T.map Tg.up).Nodup:=by
 refine List.nodup_cons.2 ⟨fun hm=>?_,?_⟩
 ·obtain⟨x,_,e⟩:=bK.1 hm
  cases x<;>simp[Tg.up]at e
 ·refine List.Pairwise.map _ (fun a b hab e=>hab ?_) h
  cases a<;>cases b<;>simp[Tg.up]at e<;>simp_all
theorem apart:∀(n:Nat) (v:Vl),v.nodes<=n->∀(t:Ty) (T:List Tg),T.Nodup->kL (fun x=>iY (cj t x v)) T<=v.nodes
 |0,v,h=>by have:=da v;omega
 |
  n+1,v,hn=>by
  intro t T hT
  have base:∀(hno:∀x,fO t x=false->cj t x v=[]),kL (fun x=>iY (cj t x v)) T<=v.nodes:=fun hno=>by
   refine Nat.le_trans (zz fun x _=>?_) (yO (t:=t) v.nodes hT)
   cases e:fO t x with
   |true=>rw[mW v e];simp[iY]
   |false=>rw[hno x e];simp[iY]
  cases hm:stuck t v with
  |true=>exact base fun x hx=>dT hx hm
  |
   false =>
   unfold stuck at hm
   split at hm
   ·rename_i a b w
    simp only[Vl.nodes]at hn |-
    simp only[ny,oL]
    have:=apart n w (by omega) a T hT
    omega
   ·rename_i a b w
    simp only[Vl.nodes]at hn |-
    simp only[nC,oL]
    have:=apart n w (by omega) b T hT
    omega
   ·rename_i a b x y
    simp only[Vl.nodes]at hn |-
    simp only[ni,sI,oL]
    rw[oR]
    have:=apart n x (by omega) a T hT
    have:=apart n y (by omega) b T hT
    omega
   ·rename_i a w
    simp only[Vl.nodes]at hn |-
    simp only[nl,sI,oL,tu]
    rw[oR,tK]
    have h1:=apart n w (by omega) a _ (Ck hT)
    simp only[kL,bC,List.sum_cons,List.map_map]at h1
    have h2:((cj a (.bd 0) w).map fun h=>kL (fun x=>iY (cj (.rc a) x h.2)) T).sum<=iY (cj a (.bd 0) w):=BC fun h hh=>by
     have:=(ik hh).1
     exact apart n h.2 (by omega) (.rc a) T hT
    simp only[kL,Function.comp_def]at h1 h2 |-
    omega
   ·cases hm
theorem sE(t:Ty)(tg:Tg)(v:Vl):iY (cj t tg v)<=v.nodes:=by
 have:=apart v.nodes v (aq _) t [tg] (by simp)
 simpa[kL]using this
theorem kW:∀l:List Hl,l.length<=iY l
 |[]=>dF _
 |
  h::l=>by
  have:=kW l
  have:=da h.2
  simp only[iY,bC,List.sum_cons,au]at *;omega
theorem nt(t:Ty)(tg:Tg)(v:Vl):(cj t tg v).length<=v.nodes:=Nat.le_trans (kW _) (sE t tg v)
end Go.Proofs.Trees
namespace Go.Proofs.Trees
open Go Go.VL Go.RowKit
def gk(ar:List (List UInt8))(k:Nat):List UInt8:=ar.getD (ar.length-1-k) []
theorem fG{s:List UInt8}{ar:List (List UInt8)}:∀(i u:Nat),i<=ar.length->bQ s ar i=some u->u<ar.length/\gk ar u=s
 |0,u,_,h=>by cases h
 |
  i+1,u,hi,h=>by
  rw[bQ]at h
  split at h
  ·rename_i e
   cases h
   refine⟨by omega,?_⟩
   rw[gk,show ar.length-1-(ar.length-1-i)=i by omega];exact e
  ·exact fG i u (by omega) h
def vr:Ty->Tg->Bool
 | .plus a b,tg=>vr a tg||vr b tg
 | .times a b,tg=>vr a tg||vr b tg
 | .rc a,tg=>vr a tg.up
 |t,tg=>fO t tg
theorem iO:∀(n:Nat) (v:Vl),v.nodes<=n->∀(t:Ty) (tg:Tg),vr t tg=false->cj t tg v=[]
 |0,v,h=>by have:=da v;omega
 |
  n+1,v,hn=>by
  intro t tg ho
  cases hm:stuck t v with
  |
   true =>
   refine dT ?_ hm
   cases t<;>first|exact ho|rfl
  |
   false =>
   unfold stuck at hm
   split at hm
   ·simp only[Vl.nodes]at hn
    simp only[vr,cD]at ho
    rw[ny,iO n _ (by omega) _ _ ho.1];rfl
   ·simp only[Vl.nodes]at hn
    simp only[vr,cD]at ho
    rw[nC,iO n _ (by omega) _ _ ho.2];rfl
   ·simp only[Vl.nodes]at hn
    simp only[vr,cD]at ho
    rw[ni,iO n _ (by omega) _ _ ho.1,iO n _ (by omega) _ _ ho.2];rfl
   ·rename_i a w
    simp only[Vl.nodes]at hn
    have ho':vr a tg.up=false:=ho
    rw[nl,iO n _ (by omega) _ _ ho']
    have:(cj a (.bd 0) w).flatMap (fun h=>jd (fun c=>.f (.r (.p h.1 c))) (cj (.rc a) tg h.2))=(cj a (.bd 0) w).flatMap (fun _=>[]):=j8 fun h hh=>by
     have:=(ik hh).1
     rw[iO n h.2 (by omega) (.rc a) tg ho];rfl
    rw[this]
    induction cj a (.bd 0) w<;>simp_all[jd]
   ·cases hm
theorem kN:∀(e:E) (ar:List (List UInt8)) (t:Ty) (k:Nat),cS e ar=some t->vr t (.bd k)=true->k<ar.length/\bQ (gk ar k) ar ar.length=some k
 |
  .atom s,ar,t,k,ht,ho=>by
  simp only[cS]at ht
  split at ht
  ·cases ht;cases ho
  ·split at ht
   ·cases ht;cases ho
   ·split at ht
    ·cases ht;cases ho
    ·split at ht
     ·split at ht
      ·rename_i u hu
       cases ht
       have:u=k:=by simpa[vr,fO]using ho
       subst this
       obtain⟨h1,h2⟩:=fG _ _ (aq _) hu
       exact⟨h1,by rw[h2];exact hu⟩
      ·cases ht;cases ho
     ·cases ht
 |
  .list [x,a,b],ar,t,k,ht,ho=>by
  by_cases h0:x.at=[43]
  ·obtain⟨t1,t2,h1,h2,rfl⟩:=fJ h0 ht
   simp only[vr,bE]at ho
   rcases ho with ho|ho
   ·exact kN a ar t1 k h1 ho
   ·exact kN b ar t2 k h2 ho
  ·by_cases h1:x.at=[42]
   ·obtain⟨t1,t2,h1,h2,rfl⟩:=eY h1 ht
    simp only[vr,bE]at ho
    rcases ho with ho|ho
    ·exact kN a ar t1 k h1 ho
    ·exact kN b ar t2 k h2 ho
   ·by_cases h2:x.at=[114,101,99]
    ·obtain⟨t1,_,h3,rfl⟩:=dB h2 ht
     obtain⟨q1,q2⟩:=kN b (ar++[a.at]) t1 (k+1) h3 ho
     simp only[an,au,aG]at q1
     have hk:k<ar.length:=by omega
     have e:gk (ar++[a.at]) (k+1)=gk ar k:=by
      unfold gk
      rw[an,show ar.length+[a.at].length-1-(k+1)=ar.length-1-k by simp;omega]
      simp[aa,List.getElem?_append_left (show ar.length-1-k<ar.length by omega)]
     rw[e]at q2
     refine⟨hk,?_⟩
     have e2:(ar++[a.at]).length=ar.length+1:=by simp
     rw[e2,bQ]at q2
     split at q2
     ·rw[e2]at q2;simp at q2
     ·rw[kp _ _ _ _ (aq _)]at q2
      cases hq:bQ (gk ar k) ar ar.length with
      |none=>rw[hq]at q2;cases q2
      |some u=>rw[hq]at q2;simpa using q2
    ·rw[iZ _ h0 h1 h2]at ht;cases ht
 | .list [],ar,t,k,ht,ho=>by cases ht
 | .list [_],ar,t,k,ht,ho=>by cases ht
 | .list [_,_],ar,t,k,ht,ho=>by cases ht
 | .list (_::_::_::_::_),ar,t,k,ht,ho=>by cases ht
theorem fk(w:List UInt8)(ar:List (List UInt8)):bQ w (ar++[w]) (ar++[w]).length=some 0:=by
 have e2:(ar++[w]).length=ar.length+1:=by simp
 rw[e2,bQ,if_pos (by simp[aa]),e2];simp
theorem jF{s w:List UInt8}(ar:List (List UInt8))(h:w≠s):bQ s (ar++[w]) (ar++[w]).length=(bQ s ar ar.length).map (·+1):=by
 have e2:(ar++[w]).length=ar.length+1:=by simp
 rw[e2,bQ,if_neg (by simpa[aa]using h),kp _ _ _ _ (aq _)]
theorem Iq{b:E}{ar:List (List UInt8)}{w:List UInt8}{t:Ty}{k:Nat}(hb:cS b (ar++[w])=some t)(hk:bQ w ar ar.length=some k):vr t (.bd (k+1))=false:=by
 cases h:vr t (.bd (k+1))with
 |false=>rfl
 |
  true =>
  obtain⟨_,q2⟩:=kN _ _ _ _ hb h
  obtain⟨h1,h2⟩:=fG _ _ (aq _) hk
  have e:gk (ar++[w]) (k+1)=gk ar k:=by
   unfold gk
   rw[an,show ar.length+[w].length-1-(k+1)=ar.length-1-k by simp;omega]
   simp[aa,List.getElem?_append_left (show ar.length-1-k<ar.length by omega)]
  rw[e,h2,fk]at q2
  cases q2
def oS(s:List UInt8)(ar:List (List UInt8)):Tg:=match bQ s ar ar.length with|some u=>.bd u|none=>.nm s
theorem wI(w:List UInt8)(ar:List (List UInt8)):oS w (ar++[w])=.bd 0:=by rw[oS,fk]
theorem Ar{s w:List UInt8}(ar:List (List UInt8))(h:w≠s):oS s (ar++[w])=(oS s ar).up:=by
 rw[oS,oS,jF ar h]
 cases bQ s ar ar.length<;>rfl
theorem gu(n:Nat):∀(m:Nat) (v:Vl),v.nodes<=m->∀(e:E) (env:List Fr) (t:Ty),Ask e env t->eG n v (e,env)=true->∀(k:Nat) (f:Fr),env[k]?=some f->∀h,h∈cj t (.bd k) v->eG n h.2 (f.ex,f.out)=true
 |0,v,hm=>by have:=da v;omega
 |
  m+1,v,hm=>by
  intro e env t A hv k f hf h hh
  rcases gx A.wf A.ty with⟨hb,hq⟩|⟨u,g,rfl,hq,hu⟩
  ·have hhd:hd e env=(e,env):=kq hq
   rcases fF A.ty hb A.cl with⟨rfl,rfl⟩|⟨rfl,rfl⟩|⟨s,rfl,rfl,hp,h0,h1⟩|⟨x,a,b,t1,t2,rfl,hx,rfl,ha,hbb⟩|⟨x,a,b,t1,t2,rfl,hx,rfl,ha,hbb⟩|⟨x,a,b,t1,rfl,hx,rfl⟩
   ·rw[dT rfl (by cases v<;>rfl)]at hh;cases hh
   ·rw[dT rfl (by cases v<;>rfl)]at hh;cases hh
   ·rw[dT rfl (by cases v<;>rfl)]at hh;cases hh
   ·obtain⟨ok1,ok2,ok3,_⟩:=A.ok
    obtain⟨f1,f2⟩:=fq A.cl
    cases v with
    |
     l w =>
     simp only[eG,hhd,hx,beq_self_eq_true,bX]at hv
     simp only[Vl.nodes]at hm
     rw[ny]at hh
     obtain⟨h2,h3,rfl⟩:=cZ hh
     exact gu n m w (by omega) a env t1 ⟨ok2,A.wf,ha,f1⟩ hv k f hf h2 h3
    |
     r w =>
     simp only[eG,hhd,hx,beq_self_eq_true,bX]at hv
     simp only[Vl.nodes]at hm
     rw[nC]at hh
     obtain⟨h2,h3,rfl⟩:=cZ hh
     exact gu n m w (by omega) b env t2 ⟨ok3,A.wf,hbb,f2⟩ hv k f hf h2 h3
    |_=>rw[dT rfl rfl]at hh;cases hh
   ·obtain⟨ok1,ok2,ok3,_⟩:=A.ok
    obtain⟨f1,f2⟩:=eQ A.cl
    cases v with
    |
     p w w' =>
     simp only[eG,hhd,hx,beq_self_eq_true,bX,az]at hv
     simp only[Vl.nodes]at hm
     rw[ni]at hh
     rcases aQ.1 hh with hh|hh
     ·obtain⟨h2,h3,rfl⟩:=cZ hh
      exact gu n m w (by omega) a env t1 ⟨ok2,A.wf,ha,f1⟩ hv.1 k f hf h2 h3
     ·obtain⟨h2,h3,rfl⟩:=cZ hh
      exact gu n m w' (by omega) b env t2 ⟨ok3,A.wf,hbb,f2⟩ hv.2 k f hf h2 h3
    |_=>rw[dT rfl rfl]at hh;cases hh
   ·obtain⟨t1',he1,h1,f1,hw1⟩:=jl A.wf A.ok hx A.ty A.cl
    cases he1
    obtain⟨ok1,ok2,ok3,_⟩:=A.ok
    cases v with
    |
     f w =>
     simp only[eG,hhd,hx,beq_self_eq_true,bX]at hv
     simp only[Vl.nodes]at hm
     rw[nl]at hh
     have A':Ask b (.mk a.at (.list [x,a,b]) env::env) t1:=⟨ok3,hw1,h1,f1⟩
     rcases aQ.1 hh with hh|hh
     ·obtain⟨h2,h3,rfl⟩:=cZ hh
      exact gu n m w (by omega) b _ t1 A' hv (k+1) f (by simpa using hf) h2 h3
     ·obtain⟨kd,h2,h3⟩:=dw.1 hh
      obtain⟨h4,h5,rfl⟩:=cZ h3
      have hkd:=gu n m w (by omega) b _ t1 A' hv 0 _ rfl kd h2
      have:=(ik h2).1
      exact gu n m kd.2 (by omega) (.list [x,a,b]) env _ A hkd k f hf h4 h5
    |_=>rw[dT rfl rfl]at hh;cases hh
  ·by_cases huk:u=k
   ·subst huk
    rw[hu]at hf;cases hf
    rw[mW v (by simp[fO])]at hh
    simp only[aT]at hh
    subst hh
    obtain⟨x,a,b,t',hfe,hok,hx,ht',hf',hwf,hlt⟩:=oX A.wf hq
    rw[<-uY n v (qW hq) (by rw[hfe];exact p8 hwf)];exact hv
   ·rw[dT (by simpa[fO]using huk) (by cases v<;>rfl)]at hh;cases hh
end Go.Proofs.Trees
namespace Go.Proofs.Trees
open Go Go.VL Go.RowKit
inductive kC:AV->List Nat->Prop
 |nil:kC iE []
 |cons {m:Nat} {cs:List AV} {e:AV} {ids:List Nat} (hm:m∉ids) (h:kC e ids):kC (.ptr [.pid m cs,e]) (m::ids)
theorem kC.has{a:AV}{ids:List Nat}(h:kC a ids):LK.has .ptr a:=by
 cases h
 ·exact(iA).mpr trivial
 ·exact(cb _).mpr trivial
theorem kC.Uc{M:Mem}{a:AV}{ids:List Nat}(h:kC a ids):∀{v:Value},bI M dA a v->∀b,b∈ids->M.p b:=by
 induction h with
 |nil=>intro v _ b hb;cases hb
 |
  @cons m cs e ids hm h ih =>
  intro v hr b hb
  cases hr with
  |
   ptr _ _ _ off us hc hr =>
   have h0:=hr 0 (by simp)
   have h1:=hr 1 (by simp)
   simp only[bq,List.getD_cons_succ]at h0 h1
   rcases aH.1 hb with rfl|hb
   ·generalize us 0=u0 at h0
    cases h0 with
    |pid _ _ _ us hp _ _=>exact hp
   ·exact ih h1 b hb
theorem kC.nodup{a:AV}{ids:List Nat}(h:kC a ids):ids.Nodup:=by
 induction h with
 |nil=>simp
 |cons hm h ih=>exact List.nodup_cons.2 ⟨hm,ih⟩
theorem AH(a b:AV)(S:Nat->Prop)(R:AV->Prop):Cm N8 cL eu (cw eu) [.agg [.x a,.x b]] S (fun o=>aL o 7) R =
 .aj (LK.has .ptr a/\a.isNil=false) (.aj (LK.has .ptr a/\a.isNil=false) (.aj (LK.has .ptr ((a.deref.drop 3).headD .any)/\1<=(a.deref.drop 3).length)
  (.aj (∀ids:Nat->Nat,(∀o,¬S (ids o))->(True/\R (.cA [.agg [(a.deref.drop 3).headD .any,.ptr [.pid (ids 7) [a,b],b]],.pid (ids 7) [a,b]]))) (.done 0 [] [])))):=by kernel_rfl
def Cc(t:Ty)(ea:AV)(ids:List Nat):AV->List Ob->Prop:=fun r o=>(∃m,m∉ids/\r=.cA [.agg [t.av,.ptr [.pid m [(Ty.rc t).av,ea],ea]],.pid m [(Ty.rc t).av,ea]])/\o=[]
theorem Cc.ne(t:Ty)(ea:AV)(ids:List Nat):∃r o,Cc t ea ids r o:=by
 have:∃m,m∉ids:=⟨ids.foldr max 0+1,fun h=>by
  have key:∀(l:List Nat) (x:Nat),x∈l->x<=l.foldr max 0:=by
   intro l
   induction l with
   |nil=>intro x hx;cases hx
   |
    cons y l ih =>
    intro x hx
    rcases aH.1 hx with rfl|hx
    ·simp only[List.foldr_cons];omega
    ·have:=ih x hx;simp only[List.foldr_cons];omega
  have:=key _ _ h
  omega⟩
 obtain⟨m,hm⟩:=this
 exact⟨_,_,⟨m,hm,rfl⟩,rfl⟩
theorem DF(t:Ty)(ea:AV)(ids:List Nat)(he:kC ea ids):ap Tryz.prog 90 [.agg [(Ty.rc t).av,ea]] [] (Cc t ea ids):=by
 have hup:xV [.agg [(Ty.rc t).av,ea]] [.agg [.x (Ty.rc t).av,.x ea]]:=ag (ca (ag (bD ((aE _).mpr trivial)) (ag (bD he.has) aA))) aA
 refine ap.up hup ?_
 refine ap.Uo (cL:=cL) (F:=eu) (S:=fun b=>b∈ids) (sel:=fun o=>aL o 7) vi mixed (by kernel_rfl) (by kernel_rfl) (c:=cw eu) (by kernel_rfl) (by kernel_rfl) (fun M β vs hr b hb=>?_) ?_
 ·have h0:=hr 0 (by simp)
  simp only[bq]at h0
  obtain⟨us,_,hl,hq,_⟩:=gI h0
  have h1:=hq 1 (by simp at hl |-)
  simp only[List.getD_cons_succ,bq]at h1
  cases h1 with
  |x _ _ _ _ h=>exact he.Uc h b hb
 ·rw[AH]
  simp only[Ty.av,↓zq,zs,ac,aE]
  exact⟨by omega,fun ids' hf=>⟨ids' 7,hf 7,rfl⟩⟩
theorem Oa(u:Nat)(hu:u<1000000):∀(k i:Nat) (ea:AV) (ids:List Nat),i+k=u->kC ea ids->k<=ids.length->Dz [ea,.v (.int .i64 (u:Int)),.v (.int .i64 (i:Int))] [] (fun t ys o=>t=1/\∃e',kC e' (ids.drop k)/\ys=[e']/\o=[])
 |
  0,i,ea,ids,hi,he,hk=>by
  refine Dk _ _ _ ?_
  have:i=u:=by omega
  subst this
  simp only[CZ,↓zq,zs,ac]
  exact⟨he.has,fun h=>by omega,fun _=>⟨ea,he,rfl⟩⟩
 |
  k+1,i,ea,ids,hi,he,hk=>by
  refine Dk _ _ _ ?_
  cases he with
  |nil=>simp at hk
  |
   @cons m cs e ids' hm h =>
   simp only[CZ,↓zq,zs,ac,h.has]
   refine⟨fun _=>⟨by omega,?_⟩,fun h=>by omega⟩
   rw[bp i (by omega)]
   exact Oa u hu k (i+1) e ids' (by omega) h (by simpa using hk)
theorem QO(u:Nat)(ea:AV)(ids:List Nat)(he:kC ea ids)(hu:u<ids.length)(hl:ids.length<1000000):ap Tryz.prog 125 [.agg [(Ty.bW u).av,ea]] [] (fun r o=>(∃cs,r=.pid (ids.getD u 0) cs)/\o=[]):=by
 refine Ls _ _ ((aE _).mpr trivial) he.has ?_
 simp only[HW,Ty.av,↓zq,zs,ac,he.has]
 refine⟨by omega,kX (Oa u (by omega) u 0 ea ids (by omega) he (by omega)) ?_ (fun ys o h=>by cases h.1)⟩
 rintro ys o ⟨_,e',he',rfl,rfl⟩
 have hd:ids.drop u=ids.getD u 0::ids.drop (u+1):=by
  rw[aP hu];simp[aa,hu]
 rw[hd]at he'
 cases he' with
 |
  @cons m cs e ids' hm h =>
  have hp:LK.has .ptr (AV.pid (ids.getD u 0) cs):=.inr (.inr ⟨_,_,rfl⟩)
  simp only[↓zq,zs,ac,hp]
  exact⟨by omega,cs,rfl⟩
inductive AY:Tg->List Nat->List UInt8->AV->Prop
 |nm (s:List UInt8) (ids:List Nat):AY (.nm s) ids s iE
 |bd {k:Nat} {ids:List Nat} (hk:k<ids.length) (cs:List AV) (s:List UInt8):AY (.bd k) ids s (.pid (ids.getD k 0) cs)
theorem AY.has{tg:Tg}{ids:List Nat}{s:List UInt8}{fr:AV}(h:AY tg ids s fr):LK.has .ptr fr:=by
 cases h
 ·exact(iA).mpr trivial
 ·exact .inr (.inr ⟨_,_,rfl⟩)
theorem AY.push{tg:Tg}{ids:List Nat}{s:List UInt8}{fr:AV}(h:AY tg ids s fr)(m:Nat):AY tg.up (m::ids) s fr:=by
 cases h with
 |nm=>exact .nm _ _
 |
  @bd k _ hk cs =>
  have:=AY.bd (k:=k+1) (ids:=m::ids) (by simpa using hk) cs s
  simpa[Tg.up]using this
theorem An{ids:List Nat}(h:ids.Nodup){i j:Nat}(hi:i<ids.length)(hj:j<ids.length)(he:ids.getD i 0=ids.getD j 0):i=j:=by
 have e1:ids.getD i 0=ids[i]:=by simp[aa,hi]
 have e2:ids.getD j 0=ids[j]:=by simp[aa,hj]
 rw[e1,e2]at he
 have hp:=List.pairwise_iff_getElem.1 h
 rcases Nat.lt_trichotomy i j with hlt|rfl|hlt
 ·exact absurd he (hp i j hi hj hlt)
 ·rfl
 ·exact absurd he.symm (hp j i hj hi hlt)
theorem RF(t:Ty)(tg:Tg)(ea:AV)(ids:List Nat)(s:List UInt8)(fr:AV)(he:kC ea ids)(ht:AY tg ids s fr)(hu:∀u,t=.bW u->u<ids.length)(hl:ids.length<1000000) :
 ap Tryz.prog 128 [.agg [.v (.string (mk s)),fr],.agg [t.av,ea]] [] (bG (.v (.bool (fO t tg)))):=by
 refine R0 _ _ _ _ ht.has ((aE _).mpr trivial) he.has ?_
 cases ht with
 |
  nm s =>
  cases t<;>simp[EX,Ty.av,↓zq,zs,ac,zt,bG,fO]
  rw[cx];simp
 |
  @bd k _ hk cs s =>
  generalize hm0:ids.getD k 0=m0
  have hp:LK.has .ptr (AV.pid m0 cs):=.inr (.inr ⟨_,_,rfl⟩)
  have hn:(AV.pid m0 cs).isNil=false:=rfl
  cases t with
  |
   bW u =>
   have hu:=hu u rfl
   simp only[EX,Ty.av,↓zq,zs,ac,hp,hn]
   refine⟨fun _=>⟨by omega,fun _=>?_,fun h=>absurd rfl h⟩,fun h=>by cases h⟩
   have hb:=QO u ea ids he hu hl
   simp only[Ty.av]at hb
   refine aN hb ⟨_,_,⟨[],rfl⟩,rfl⟩ ?_
   rintro r o ⟨⟨cs',rfl⟩,rfl⟩
   have hp':LK.has .ptr (AV.pid (ids.getD u 0) cs'):=.inr (.inr ⟨_,_,rfl⟩)
   simp only[↓zq,zs,ac,hp',AV.se,AV.BQ,bG,fO]
   congr 2
   rw[cx,Nat.beq_eq,decide_eq_true_eq,<-hm0]
   exact⟨fun h=>An he.nodup hu hk h,fun h=>by rw[h]⟩
  |_=>simp[EX,Ty.av,↓zq,zs,ac,hp,hn,bG,fO]
end Go.Proofs.Trees
namespace Go.Proofs.Trees
open Go Go.VL Go.RowKit
theorem AK(b:Int)(a:AV)(h:LK.ptr.has a):ap Tryz.prog 95 [.v (.int .u8 b),a] [] (bG (.ptr [.v (.int .u8 b),.v (.string (mk [])),a,iE])):=by
 refine Sz _ _ h ?_
 simp[MY,↓zq,zs,ac,bG]
end Go.Proofs.Trees
namespace Go.Proofs.Trees
open Go Go.VL Go.RowKit
def gL(l:List Hl):List (List AV):=l.map fun h=>[h.1.cF,h.2.cF]
theorem ei(l:List Hl):(gL l).length=l.length:=by simp[gL]
theorem lK{l:List Hl}{i:Nat}(hi:i<l.length):(gL l).getD i []=[(l[i]).1.cF,(l[i]).2.cF]:=by simp[gL,aa,hi]
theorem pz(out:List Hl)(a b:Vl):gL out++[[a.cF,b.cF]]=gL (out++[(a,b)]):=by simp[gL]
theorem gA(g:Vl->Vl)(l:List Hl){i:Nat}(hi:i<l.length):jd g (l.drop i)=(g (l[i]).1,(l[i]).2)::jd g (l.drop (i+1)):=by
 rw[aP hi];rfl
theorem fS(g:Vl->Vl)(l:List Hl):(jd g l).length=l.length:=by simp[jd]
theorem C6(a b:AV):cr 2 [[a,b]]:=fun c hc=>by simp at hc;rw[hc];rfl
theorem Ms(x0:AV)(hx0:LK.ptr.has x0)(g:Vl->Vl)(hg:∀c:Vl,ap Tryz.prog 130 [c.cF,.ref 0 0] [.cells [x0]] (dj (g c).cF [.cells [x0]]))(l:List Hl):∀(k i:Nat) (out:List Hl),i+k=l.length->out.length+k<=1000000->l.length<=1000000 ->
 GV [.sl (gL l),.v (.int .i64 (l.length:Int)),.v (.int .i64 (i:Int))] [.cells [x0],.cells [.any],.vec 2 (gL out)] (gj 1 [] [.cells [x0],.cells [.any],.vec 2 (gL (out++jd g (l.drop i)))])
 |
  0,i,out,hi,ho,hl=>by
  refine JD _ _ _ _ _ ?_
  have:i=l.length:=by omega
  subst this
  simp only[Hz,↓zq,zs,ac,ei,hx0]
  exact⟨fun h=>by omega,fun _=>by simp[gj,jd]⟩
 |
  k+1,i,out,hi,ho,hl=>by
  have hlt:i<l.length:=by omega
  refine JD _ _ _ _ _ ?_
  simp only[Hz,↓zq,zs,ac,zt,ei,lK hlt,aO,bz,hx0]
  refine⟨fun _=>⟨by omega,by omega,?_⟩,fun h=>by omega⟩
  refine ba (hg _) ?_
  simp only[↓zq,zs,ac,aO,aM,bG,dj,hx0]
  refine⟨⟨C6 _ _,by omega⟩,?_⟩
  rw[bp i (by omega)]
  have:=Ms x0 hx0 g hg l k (i+1) (out++[(g (l[i]).1,(l[i]).2)]) (by omega) (by simp;omega) hl
  rw[aW]at this
  rw[gA g l hlt,pz]
  exact this
theorem LR(x0:AV)(hx0:LK.ptr.has x0)(g:Vl->Vl)(hg:∀c:Vl,ap Tryz.prog 130 [c.cF,.ref 0 0] [.cells [x0]] (dj (g c).cF [.cells [x0]]))(l out:List Hl)(hl:out.length+l.length<=1000000) :
 ap Tryz.prog 129 [.sl (gL l),.fn 130 [.ref 0 0],.ref 1 0] [.cells [x0],.cells [.vec 2],.vec 2 (gL out)] (dj .any [.cells [x0],.cells [.vec 2],.vec 2 (gL (out++jd g l))]):=by
 refine To _ _ _ ((bT _).mpr trivial) hx0 ?_
 simp only[MI,↓zq,zs,ac,ei]
 have h:=Ms x0 hx0 g hg l l.length 0 out (by omega) (by omega) (by omega)
 rw[aZ]at h
 refine co h ?_
 simp[↓zq,zs,ac,dj,aM,hx0]
theorem Kf(x0:AV)(hx0:LK.ptr.has x0)(g:Vl->Vl)(hg:∀c:Vl,ap Tryz.prog 131 [c.cF,.ref 0 0] [.cells [x0]] (dj (g c).cF [.cells [x0]]))(l:List Hl):∀(k i:Nat) (out:List Hl),i+k=l.length->out.length+k<=1000000->l.length<=1000000 ->
 Hr [.sl (gL l),.v (.int .i64 (l.length:Int)),.v (.int .i64 (i:Int))] [.cells [x0],.cells [.any],.vec 2 (gL out)] (gj 1 [] [.cells [x0],.cells [.any],.vec 2 (gL (out++jd g (l.drop i)))])
 |
  0,i,out,hi,ho,hl=>by
  refine Nr _ _ _ _ _ ?_
  have:i=l.length:=by omega
  subst this
  simp only[Ik,↓zq,zs,ac,ei,hx0]
  exact⟨fun h=>by omega,fun _=>by simp[gj,jd]⟩
 |
  k+1,i,out,hi,ho,hl=>by
  have hlt:i<l.length:=by omega
  refine Nr _ _ _ _ _ ?_
  simp only[Ik,↓zq,zs,ac,zt,ei,lK hlt,aO,bz,hx0]
  refine⟨fun _=>⟨by omega,by omega,?_⟩,fun h=>by omega⟩
  refine ba (hg _) ?_
  simp only[↓zq,zs,ac,aO,aM,bG,dj,hx0]
  refine⟨⟨C6 _ _,by omega⟩,?_⟩
  rw[bp i (by omega)]
  have:=Kf x0 hx0 g hg l k (i+1) (out++[(g (l[i]).1,(l[i]).2)]) (by omega) (by simp;omega) hl
  rw[aW]at this
  rw[gA g l hlt,pz]
  exact this
theorem TH(x0:AV)(hx0:LK.ptr.has x0)(g:Vl->Vl)(hg:∀c:Vl,ap Tryz.prog 131 [c.cF,.ref 0 0] [.cells [x0]] (dj (g c).cF [.cells [x0]]))(l out:List Hl)(hl:out.length+l.length<=1000000) :
 ap Tryz.prog 129 [.sl (gL l),.fn 131 [.ref 0 0],.ref 1 0] [.cells [x0],.cells [.vec 2],.vec 2 (gL out)] (dj .any [.cells [x0],.cells [.vec 2],.vec 2 (gL (out++jd g l))]):=by
 refine Rs _ _ _ ((bT _).mpr trivial) hx0 ?_
 simp only[Ph,↓zq,zs,ac,ei]
 have h:=Kf x0 hx0 g hg l l.length 0 out (by omega) (by omega) (by omega)
 rw[aZ]at h
 refine co h ?_
 simp[↓zq,zs,ac,dj,aM,hx0]
theorem O6(x0:AV)(hx0:LK.ptr.has x0)(g:Vl->Vl)(hg:∀c:Vl,ap Tryz.prog 133 [c.cF,.ref 0 0] [.cells [x0]] (dj (g c).cF [.cells [x0]]))(l:List Hl):∀(k i:Nat) (out:List Hl),i+k=l.length->out.length+k<=1000000->l.length<=1000000 ->
 Jm [.sl (gL l),.v (.int .i64 (l.length:Int)),.v (.int .i64 (i:Int))] [.cells [x0],.cells [.any],.vec 2 (gL out)] (gj 1 [] [.cells [x0],.cells [.any],.vec 2 (gL (out++jd g (l.drop i)))])
 |
  0,i,out,hi,ho,hl=>by
  refine JR _ _ _ _ _ ?_
  have:i=l.length:=by omega
  subst this
  simp only[GB,↓zq,zs,ac,ei,hx0]
  exact⟨fun h=>by omega,fun _=>by simp[gj,jd]⟩
 |
  k+1,i,out,hi,ho,hl=>by
  have hlt:i<l.length:=by omega
  refine JR _ _ _ _ _ ?_
  simp only[GB,↓zq,zs,ac,zt,ei,lK hlt,aO,bz,hx0]
  refine⟨fun _=>⟨by omega,by omega,?_⟩,fun h=>by omega⟩
  refine ba (hg _) ?_
  simp only[↓zq,zs,ac,aO,aM,bG,dj,hx0]
  refine⟨⟨C6 _ _,by omega⟩,?_⟩
  rw[bp i (by omega)]
  have:=O6 x0 hx0 g hg l k (i+1) (out++[(g (l[i]).1,(l[i]).2)]) (by omega) (by simp;omega) hl
  rw[aW]at this
  rw[gA g l hlt,pz]
  exact this
theorem Ss(x0:AV)(hx0:LK.ptr.has x0)(g:Vl->Vl)(hg:∀c:Vl,ap Tryz.prog 133 [c.cF,.ref 0 0] [.cells [x0]] (dj (g c).cF [.cells [x0]]))(l out:List Hl)(hl:out.length+l.length<=1000000) :
 ap Tryz.prog 129 [.sl (gL l),.fn 133 [.ref 0 0],.ref 1 0] [.cells [x0],.cells [.vec 2],.vec 2 (gL out)] (dj .any [.cells [x0],.cells [.vec 2],.vec 2 (gL (out++jd g l))]):=by
 refine Td _ _ _ ((bT _).mpr trivial) hx0 ?_
 simp only[LO,↓zq,zs,ac,ei]
 have h:=O6 x0 hx0 g hg l l.length 0 out (by omega) (by omega) (by omega)
 rw[aZ]at h
 refine co h ?_
 simp[↓zq,zs,ac,dj,aM,hx0]
theorem Ku(g:Vl->Vl)(hg:∀c:Vl,ap Tryz.prog 134 [c.cF] [] (bG (g c).cF))(l:List Hl):∀(k i:Nat) (out:List Hl),i+k=l.length->out.length+k<=1000000->l.length<=1000000 ->
 FT [.v (.func (.func 134) #[] #[]),.sl (gL l),.v (.int .i64 (l.length:Int)),.v (.int .i64 (i:Int))] [.cells [.any],.vec 2 (gL out)] (gj 1 [] [.cells [.any],.vec 2 (gL (out++jd g (l.drop i)))])
 |
  0,i,out,hi,ho,hl=>by
  refine LD _ _ _ _ ?_
  have:i=l.length:=by omega
  subst this
  simp only[FW,↓zq,zs,ac,ei]
  exact⟨fun h=>by omega,fun _=>by simp[gj,jd]⟩
 |
  k+1,i,out,hi,ho,hl=>by
  have hlt:i<l.length:=by omega
  refine LD _ _ _ _ ?_
  simp only[FW,↓zq,zs,ac,zt,ei,lK hlt,aO,bz]
  refine⟨fun _=>⟨by omega,by omega,?_⟩,fun h=>by omega⟩
  refine ai (hg _) ?_
  simp only[↓zq,zs,ac,aO,aM,bG,dj]
  refine⟨⟨C6 _ _,by omega⟩,?_⟩
  rw[bp i (by omega)]
  have:=Ku g hg l k (i+1) (out++[(g (l[i]).1,(l[i]).2)]) (by omega) (by simp;omega) hl
  rw[aW]at this
  rw[gA g l hlt,pz]
  exact this
theorem TJ(g:Vl->Vl)(hg:∀c:Vl,ap Tryz.prog 134 [c.cF] [] (bG (g c).cF))(l out:List Hl)(hl:out.length+l.length<=1000000) :
 ap Tryz.prog 129 [.sl (gL l),.v (.func (.func 134) #[] #[]),.ref 0 0] [.cells [.vec 1],.vec 2 (gL out)] (dj .any [.cells [.vec 1],.vec 2 (gL (out++jd g l))]):=by
 refine Rt _ _ ((bT _).mpr trivial) ?_
 simp only[Nn,↓zq,zs,ac,ei]
 have h:=Ku g hg l l.length 0 out (by omega) (by omega) (by omega)
 rw[aZ]at h
 refine co h ?_
 simp[↓zq,zs,ac,dj,aM]
theorem Mq(x0:AV)(x1:AV)(hx0:LK.ptr.has x0)(hx1:LK.ptr.has x1)(g:Vl->Vl)(hg:∀c:Vl,ap Tryz.prog 135 [c.cF,.ref 0 0] [.cells [x0,x1]] (dj (g c).cF [.cells [x0,x1]]))(l:List Hl):∀(k i:Nat) (out:List Hl),i+k=l.length->out.length+k<=1000000->l.length<=1000000 ->
 If [.sl (gL l),.v (.int .i64 (l.length:Int)),.v (.int .i64 (i:Int))] [.cells [x0,x1],.cells [.any],.vec 2 (gL out)] (gj 1 [] [.cells [x0,x1],.cells [.any],.vec 2 (gL (out++jd g (l.drop i)))])
 |
  0,i,out,hi,ho,hl=>by
  refine O8 _ _ _ _ _ _ ?_
  have:i=l.length:=by omega
  subst this
  simp only[G5,↓zq,zs,ac,ei,hx0,hx1]
  exact⟨fun h=>by omega,fun _=>by simp[gj,jd]⟩
 |
  k+1,i,out,hi,ho,hl=>by
  have hlt:i<l.length:=by omega
  refine O8 _ _ _ _ _ _ ?_
  simp only[G5,↓zq,zs,ac,zt,ei,lK hlt,aO,bz,hx0,hx1]
  refine⟨fun _=>⟨by omega,by omega,?_⟩,fun h=>by omega⟩
  refine ba (hg _) ?_
  simp only[↓zq,zs,ac,aO,aM,bG,dj,hx0,hx1]
  refine⟨⟨C6 _ _,by omega⟩,?_⟩
  rw[bp i (by omega)]
  have:=Mq x0 x1 hx0 hx1 g hg l k (i+1) (out++[(g (l[i]).1,(l[i]).2)]) (by omega) (by simp;omega) hl
  rw[aW]at this
  rw[gA g l hlt,pz]
  exact this
theorem TL(x0:AV)(x1:AV)(hx0:LK.ptr.has x0)(hx1:LK.ptr.has x1)(g:Vl->Vl)(hg:∀c:Vl,ap Tryz.prog 135 [c.cF,.ref 0 0] [.cells [x0,x1]] (dj (g c).cF [.cells [x0,x1]]))(l out:List Hl)(hl:out.length+l.length<=1000000) :
 ap Tryz.prog 129 [.sl (gL l),.fn 135 [.ref 0 0],.ref 1 0] [.cells [x0,x1],.cells [.vec 2],.vec 2 (gL out)] (dj .any [.cells [x0,x1],.cells [.vec 2],.vec 2 (gL (out++jd g l))]):=by
 refine TA _ _ _ _ ((bT _).mpr trivial) hx0 hx1 ?_
 simp only[Lc,↓zq,zs,ac,ei]
 have h:=Mq x0 x1 hx0 hx1 g hg l l.length 0 out (by omega) (by omega) (by omega)
 rw[aZ]at h
 refine co h ?_
 simp[↓zq,zs,ac,dj,aM,hx0,hx1]
theorem Rc(w c:Vl):ap Tryz.prog 130 [c.cF,.ref 0 0] [.cells [(Vl.l w).cF]] (dj (Vl.l c).cF [.cells [(Vl.l w).cF]]):=by
 refine Ko _ _ ((aO _).mpr trivial) ((aO _).mpr trivial) ?_
 simp only[GH,Vl.cF,↓zq,zs,ac,aO]
 refine⟨by omega,?_⟩
 refine ai (AK _ _ ((aO _).mpr trivial)) ?_
 simp[↓zq,zs,ac,dj,Vl.cF]
theorem SG(w c:Vl):ap Tryz.prog 130 [c.cF,.ref 0 0] [.cells [(Vl.r w).cF]] (dj (Vl.r c).cF [.cells [(Vl.r w).cF]]):=by
 refine Ko _ _ ((aO _).mpr trivial) ((aO _).mpr trivial) ?_
 simp only[GH,Vl.cF,↓zq,zs,ac,aO]
 refine⟨by omega,?_⟩
 refine ai (AK _ _ ((aO _).mpr trivial)) ?_
 simp[↓zq,zs,ac,dj,Vl.cF]
theorem RY(x y c:Vl):ap Tryz.prog 131 [c.cF,.ref 0 0] [.cells [(Vl.p x y).cF]] (dj (Vl.l (.p c y)).cF [.cells [(Vl.p x y).cF]]):=by
 refine Qg _ _ ((aO _).mpr trivial) ((aO _).mpr trivial) ?_
 simp only[Nh,Vl.cF,↓zq,zs,ac,aO]
 refine⟨by omega,?_⟩
 refine ai (Au _ _ ((aO _).mpr trivial) ((aO _).mpr trivial)) ?_
 simp only[↓zq,zs,ac]
 refine ai (AK _ _ ((cb _).mpr trivial)) ?_
 simp[↓zq,zs,ac,dj,Vl.cF]
theorem Qm(x y c:Vl):ap Tryz.prog 133 [c.cF,.ref 0 0] [.cells [(Vl.p x y).cF]] (dj (Vl.r (.p x c)).cF [.cells [(Vl.p x y).cF]]):=by
 refine TM _ _ ((aO _).mpr trivial) ((aO _).mpr trivial) ?_
 simp only[MQ,Vl.cF,↓zq,zs,ac,aO]
 refine⟨by omega,?_⟩
 refine ai (Au _ _ ((aO _).mpr trivial) ((aO _).mpr trivial)) ?_
 simp only[↓zq,zs,ac]
 refine ai (AK _ _ ((cb _).mpr trivial)) ?_
 simp[↓zq,zs,ac,dj,Vl.cF]
theorem Qf(kc kv c:Vl):ap Tryz.prog 135 [c.cF,.ref 0 0] [.cells [kc.cF,kv.cF]] (dj (Vl.f (.r (.p kc c))).cF [.cells [kc.cF,kv.cF]]):=by
 refine Rk _ _ _ ((aO _).mpr trivial) ((aO _).mpr trivial) ((aO _).mpr trivial) ?_
 simp only[JM,Vl.cF,↓zq,zs,ac,aO]
 refine ai (Au _ _ ((aO _).mpr trivial) ((aO _).mpr trivial)) ?_
 simp only[↓zq,zs,ac]
 refine ai (AK _ _ ((cb _).mpr trivial)) ?_
 simp only[↓zq,zs,ac]
 refine ai (AK _ _ ((cb _).mpr trivial)) ?_
 simp[↓zq,zs,ac,dj,Vl.cF,aO]
theorem QS(c:Vl):ap Tryz.prog 134 [c.cF] [] (bG (Vl.f (.l c)).cF):=by
 refine Qo _ ((aO _).mpr trivial) ?_
 simp only[NJ,↓zq,zs,ac]
 refine ai (AK _ _ ((aO _).mpr trivial)) ?_
 simp only[↓zq,zs,ac]
 refine ai (AK _ _ ((cb _).mpr trivial)) ?_
 simp[↓zq,zs,ac,bG,Vl.cF]
end Go.Proofs.Trees
namespace Go.Proofs.Trees
open Go Go.VL Go.RowKit
abbrev AU(a:Ty)(tg:Tg):Hl->List Hl:=fun h=>jd (fun c=>.f (.r (.p h.1 c))) (cj (.rc a) tg h.2)
theorem CA(l:List Hl){i:Nat}(hi:i<l.length):l[i]∈l:=bB _
def FM(t:Ty)(ea:AV)(s:List UInt8)(fr:AV)(tg:Tg)(v:Vl):Prop:=ap Tryz.prog 91 [.agg [t.av,ea],v.cF,.agg [.v (.string (mk s)),fr]] [] (bG (.sl (gL (cj t tg v))))
theorem KB(a:Ty)(ea:AV)(s:List UInt8)(fr:AV)(tg:Tg)(he:LK.ptr.has ea)(hf:LK.ptr.has fr)(l:List Hl)(hl:l.length<=1000000)(ih:∀h,h∈l->FM (.rc a) ea s fr tg h.2) :
 ∀(k i:Nat) (out:List Hl),i+k=l.length->(out++(l.drop i).flatMap (AU a tg)).length<=1000000 ->
 Hj [.sl (gL l),.v (.int .i64 (l.length:Int)),.v (.int .i64 (i:Int))] [.cells [(Ty.rc a).av,ea],.cells [.v (.string (mk s)),fr],.cells [.any],.vec 2 (gL out)] (gj 1 [] [.cells [.any],.vec 2 (gL (out++(l.drop i).flatMap (AU a tg)))])
 |
  0,i,out,hi,ho=>by
  refine KZ _ _ _ _ _ _ _ _ ?_
  have:i=l.length:=by omega
  subst this
  simp only[IP,↓zq,zs,ac,ei,aE,he,hf]
  exact⟨fun h=>by omega,fun _=>by simp[gj]⟩
 |
  k+1,i,out,hi,ho=>by
  have hlt:i<l.length:=by omega
  have hd:(l.drop i).flatMap (AU a tg)=AU a tg (l[i])++(l.drop (i+1)).flatMap (AU a tg):=by rw[aP hlt,cQ]
  rw[hd]at ho |-
  refine KZ _ _ _ _ _ _ _ _ ?_
  simp only[IP,↓zq,zs,ac,zt,ei,lK hlt,aE,aO,bz,he,hf]
  refine⟨fun _=>⟨by omega,by omega,?_⟩,fun h=>by omega⟩
  refine ai (ih _ (CA l hlt)) ?_
  simp only[↓zq,zs,ac]
  have hb:out.length+(cj (.rc a) tg (l[i]).2).length<=1000000:=by
   simp only[an,fS]at ho;omega
  refine ba (TL _ _ ((aO _).mpr trivial) ((aO _).mpr trivial) (fun c=>.f (.r (.p (l[i]).1 c))) (fun c=>Qf (l[i]).1 (l[i]).2 c) (cj (.rc a) tg (l[i]).2) out hb) ?_
  simp only[↓zq,zs,ac,aM,aO]
  rw[bp i (by omega),<-aW]
  exact KB a ea s fr tg he hf l hl ih k (i+1) _ (by omega) (by rw[aW];exact ho)
theorem E4(n:Nat):∀(m:Nat) (v:Vl),v.nodes<=m->∀(e:E) (env:List Fr) (t:Ty),Ask e env t->eG n v (e,env)=true->env.length+v.nodes<100000->∀(ea:AV) (ids:List Nat),kC ea ids->ids.length=env.length->∀(tg:Tg) (s:List UInt8) (fr:AV),AY tg ids s fr->FM t ea s fr tg v
 |0,v,hm=>by have:=da v;omega
 |
  m+1,v,hm=>by
  intro e env t A hv hl ea ids he hids tg s fr ht
  unfold FM
  refine RT _ _ _ _ _ ((aE _).mpr trivial) he.has ((aO _).mpr trivial) ht.has ?_
  unfold Oy
  refine ai (RF t tg ea ids s fr he ht (fun u hu=>by
   rcases gx A.wf A.ty with⟨hb,_⟩|⟨u',g,rfl,_,hg⟩
   ·rw[hu]at hb;cases hb
   ·cases hu;rw[hids];exact(List.getElem?_eq_some_iff.1 hg).1) (by omega)) ?_
  have hlen:=nt t tg v
  cases hat:fO t tg with
  |
   true =>
   rw[mW v hat]
   simp only[↓zq,zs,ac,bG,gL,bC,List.map_nil,Vl.cF]
   exact⟨fun _=>trivial,fun h=>(by cases h)⟩
  |false =>
  simp only[↓zq,zs,ac]
  refine⟨fun h=>(by cases h),fun _=>?_⟩
  rcases gx A.wf A.ty with⟨hb,hq⟩|⟨u,g,rfl,hq,hu⟩
  ·have hhd:hd e env=(e,env):=kq hq
   rcases fF A.ty hb A.cl with⟨rfl,rfl⟩|⟨rfl,rfl⟩|⟨s,rfl,rfl,hp,h0,h1⟩|⟨x,a,b,t1,t2,rfl,hx,rfl,ha,hbb⟩|⟨x,a,b,t1,t2,rfl,hx,rfl,ha,hbb⟩|⟨x,a,b,t1,rfl,hx,rfl⟩
   ·rw[dT hat (by cases v<;>rfl)]
    simp[Ty.av,↓zq,zs,ac,bG,gL]
   ·rw[dT hat (by cases v<;>rfl)]
    simp[Ty.av,↓zq,zs,ac,bG,gL]
   ·rw[dT hat (by cases v<;>rfl)]
    simp[Ty.av,↓zq,zs,ac,bG,gL]
   ·obtain⟨ok1,ok2,ok3,_⟩:=A.ok
    obtain⟨f1,f2⟩:=fq A.cl
    have hL:=Ao t1.av t2.av ea 43 (mk []) 0 ((aE _).mpr trivial) he.has
    have hR:=At t1.av t2.av ea 43 (mk []) 0 ((aE _).mpr trivial) he.has
    cases v with
    |
     l w =>
     simp only[eG,hhd,hx,beq_self_eq_true,bX]at hv
     simp only[Vl.nodes]at hm hl hlen
     rw[ny]at hlen |-
     rw[fS]at hlen
     simp only[Ty.av,↓zq,zs,ac]
     refine⟨by omega,fun _=>?_,fun h=>absurd rfl h⟩
     refine ai hL ?_
     simp only[↓zq,zs,ac,bz,aE,he.has,Vl.cF,aO]
     refine⟨by omega,fun h=>by omega,fun _=>⟨by omega,?_⟩⟩
     refine ai (E4 n m w (by omega) a env t1 ⟨ok2,A.wf,ha,f1⟩ hv (by omega) ea ids he hids tg s fr ht) ?_
     simp only[↓zq,zs,ac]
     have hadd:=LR (Vl.l w).cF ((aO _).mpr trivial) Vl.l (fun c=>Rc w c) (cj t1 tg w) [] (by simp;omega)
     simp only[Vl.cF,gL,List.map_nil,aR]at hadd
     refine ba hadd ?_
     simp[↓zq,zs,ac,aM,bG,aO,gL,cb]
    |
     r w =>
     simp only[eG,hhd,hx,beq_self_eq_true,bX]at hv
     simp only[Vl.nodes]at hm hl hlen
     rw[nC]at hlen |-
     rw[fS]at hlen
     simp only[Ty.av,↓zq,zs,ac]
     refine⟨by omega,fun _=>?_,fun h=>absurd rfl h⟩
     refine ai hL ?_
     simp only[↓zq,zs,ac,bz,aE,he.has,Vl.cF,aO]
     refine⟨by omega,fun _=>?_,fun h=>absurd rfl h⟩
     refine ai hR ?_
     simp only[↓zq,zs,ac,bz,aE,he.has,aO]
     refine⟨by omega,?_⟩
     refine ai (E4 n m w (by omega) b env t2 ⟨ok3,A.wf,hbb,f2⟩ hv (by omega) ea ids he hids tg s fr ht) ?_
     simp only[↓zq,zs,ac]
     have hadd:=LR (Vl.r w).cF ((aO _).mpr trivial) Vl.r (fun c=>SG w c) (cj t2 tg w) [] (by simp;omega)
     simp only[Vl.cF,gL,List.map_nil,aR]at hadd
     refine ba hadd ?_
     simp[↓zq,zs,ac,aM,bG,aO,gL,cb]
    |_=>simp[eG,hhd,hx]at hv
   ·obtain⟨ok1,ok2,ok3,_⟩:=A.ok
    obtain⟨f1,f2⟩:=eQ A.cl
    have hL:=Ao t1.av t2.av ea 42 (mk []) 0 ((aE _).mpr trivial) he.has
    have hR:=At t1.av t2.av ea 42 (mk []) 0 ((aE _).mpr trivial) he.has
    cases v with
    |
     p w w' =>
     simp only[eG,hhd,hx,beq_self_eq_true,bX,az]at hv
     simp only[Vl.nodes]at hm hl hlen
     rw[ni]at hlen |-
     simp only[an,fS]at hlen
     simp only[Ty.av,↓zq,zs,ac]
     refine⟨by omega,fun h=>by omega,fun _=>⟨fun _=>?_,fun h=>absurd rfl h⟩⟩
     refine ai hL ?_
     simp only[↓zq,zs,ac,bz,aE,he.has,Vl.cF,aO]
     refine⟨by omega,?_⟩
     refine ai (E4 n m w (by omega) a env t1 ⟨ok2,A.wf,ha,f1⟩ hv.1 (by omega) ea ids he hids tg s fr ht) ?_
     simp only[↓zq,zs,ac]
     have hadd:=TH (Vl.p w w').cF ((aO _).mpr trivial) (fun c=>.l (.p c w')) (fun c=>RY w w' c) (cj t1 tg w) [] (by simp;omega)
     simp only[Vl.cF,gL,List.map_nil,aR]at hadd
     refine ba hadd ?_
     simp only[↓zq,zs,ac,aM,aO]
     refine ai hR ?_
     simp only[↓zq,zs,ac,bz,aE,he.has,aO]
     refine⟨by omega,?_⟩
     refine ai (E4 n m w' (by omega) b env t2 ⟨ok3,A.wf,hbb,f2⟩ hv.2 (by omega) ea ids he hids tg s fr ht) ?_
     simp only[↓zq,zs,ac]
     have hadd2:=Ss (Vl.p w w').cF ((aO _).mpr trivial) (fun c=>.r (.p w c)) (fun c=>Qm w w' c) (cj t2 tg w') (jd (fun c=>.l (.p c w')) (cj t1 tg w)) (by rw[fS];omega)
     simp only[Vl.cF,gL]at hadd2
     refine ba hadd2 ?_
     simp[↓zq,zs,ac,aM,bG,aO,gL,cb]
    |_=>simp[eG,hhd,hx]at hv
   ·obtain⟨t1',he1,h1,f1,hw1⟩:=jl A.wf A.ok hx A.ty A.cl
    cases he1
    obtain⟨ok1,ok2,ok3,_⟩:=A.ok
    have A':Ask b (.mk a.at (.list [x,a,b]) env::env) t1:=⟨ok3,hw1,h1,f1⟩
    cases v with
    |
     f w =>
     simp only[eG,hhd,hx,beq_self_eq_true,bX]at hv
     simp only[Vl.nodes]at hm hl hlen
     rw[nl]at hlen |-
     simp only[an,fS]at hlen
     have hin:=DF t1 ea ids he
     simp only[Ty.av]at hin
     simp only[Ty.av,↓zq,zs,ac]
     refine⟨by omega,fun h=>by omega,fun _=>⟨fun h=>by omega,fun _=>⟨fun _=>?_,fun h=>absurd rfl h⟩⟩⟩
     refine aN hin (by have:=Cc.ne t1 ea ids;simpa only[Cc,Ty.av]using this) ?_
     intro r o hr
     obtain⟨⟨mm,hmm,rfl⟩,rfl⟩:=hr
     have he2:kC (.ptr [.pid mm [(Ty.rc t1).av,ea],ea]) (mm::ids):=.cons hmm he
     have hfr:LK.ptr.has (.pid mm [(Ty.rc t1).av,ea]):=.inr (.inr ⟨_,_,rfl⟩)
     simp only[Ty.av]at he2 hfr
     simp only[↓zq,zs,ac,bz,aE,he2.has,hfr,Vl.cF,aO,Ty.av]
     refine⟨by omega,?_⟩
     have i1:=E4 n m w (by omega) b _ t1 A' hv (by simp;omega) _ _ he2 (by simp[hids]) tg.up s fr (ht.push mm)
     unfold FM at i1
     refine ai i1 ?_
     simp only[↓zq,zs,ac]
     have hadd:=TJ (fun c=>.f (.l c)) (fun c=>QS c) (cj t1 tg.up w) [] (by simp;omega)
     simp only[Vl.cF,gL,List.map_nil,aR]at hadd
     refine ba hadd ?_
     simp only[↓zq,zs,ac,aM,aO]
     have i2:=E4 n m w (by omega) b _ t1 A' hv (by simp;omega) _ _ he2 (by simp[hids]) (.bd 0) [] _ (by have:=AY.bd (k:=0) (ids:=mm::ids) (by simp) [(Ty.rc t1).av,ea] [];simpa only[bq,Ty.av]using this)
     unfold FM at i2
     refine⟨by omega,?_⟩
     refine ai i2 ?_
     simp only[↓zq,zs,ac,ei]
     have hl2:=nt t1 (.bd 0) w
     have ih3:∀h,h∈cj t1 (.bd 0) w->FM (.rc t1) ea s fr tg h.2:=fun h hh=>by
      have h3:=(ik hh).1
      have h4:=gu n m w (by omega) b _ t1 A' hv 0 _ rfl h hh
      exact E4 n m h.2 (by omega) (.list [x,a,b]) env (.rc t1) A h4 (by omega) ea ids he hids tg s fr ht
     have hloop:=KB t1 ea s fr tg he.has ht.has (cj t1 (.bd 0) w) (by omega) ih3 (cj t1 (.bd 0) w).length 0 (jd (fun c=>.f (.l c)) (cj t1 tg.up w)) (by omega) (by
      simp only[aZ,an,fS]
      have hlen2:(cj t1 tg.up w).length+((cj t1 (.bd 0) w).flatMap (AU t1 tg)).length<=1+w.nodes:=hlen
      omega)
     simp only[Ty.av,gL,aZ]at hloop
     refine co hloop ?_
     simp[↓zq,zs,ac,ac,bG,gL]
    |_=>simp[eG,hhd,hx]at hv
  ·rw[dT hat (by cases v<;>rfl)]
   simp[Ty.av,↓zq,zs,ac,bG,gL]
end Go.Proofs.Trees
namespace Go.Proofs.Trees
open Go Go.VL Go.RowKit
theorem Dc:∀(v:Vl),v.cE.length<=900000->ap Tryz.prog 39 [v.cF] [] (bG (.v (.string (mk v.cE))))
 | .u,h=>by refine AI _ ((aO _).mpr trivial) ?_;simp[xS,Vl.cF,↓zq,zs,ac,bG,Vl.cE,Vl.cG,eU]
 | .el k,h=>by refine AI _ ((aO _).mpr trivial) ?_;simp[xS,Vl.cF,↓zq,zs,ac,bG,Vl.cE,Vl.cG,eU]
 |
  .l v,h=>by
  simp only[Vl.cE,Vl.cG,eU,eg,au,an,aG]at h
  refine AI _ ((aO _).mpr trivial) ?_
  have hb:(⟨(bytesOf [[.v (.int .u8 108)]]).toArray⟩:ByteArray)=mk [108]:=rfl
  have ha:jy [[.v (.int .u8 108)]]:=kP 108
  simp only[xS,Vl.cF,↓zq,zs,ac,aO,fm,hb]
  refine⟨by omega,fun h=>by omega,fun _=>⟨fun h=>by omega,fun _=>⟨fun h=>by omega,fun _=>⟨by omega,ha,by simp[cJ],by rw[lu,cJ,cJ];simp,by omega,?_⟩⟩⟩⟩
  refine ai (Dc v (by simp only[Vl.cE];omega)) ?_
  simp only[↓zq,zs,ac,zt,bG,Vl.cE,Vl.cG,eU,eg]
  refine⟨by simp;omega,by simp;omega,by simp⟩
 |
  .r v,h=>by
  simp only[Vl.cE,Vl.cG,eU,eg,au,an,aG]at h
  refine AI _ ((aO _).mpr trivial) ?_
  have hb:(⟨(bytesOf [[.v (.int .u8 114)]]).toArray⟩:ByteArray)=mk [114]:=rfl
  have ha:jy [[.v (.int .u8 114)]]:=kP 114
  simp only[xS,Vl.cF,↓zq,zs,ac,aO,fm,hb]
  refine⟨by omega,fun h=>by omega,fun _=>⟨fun h=>by omega,fun _=>⟨fun h=>by omega,fun _=>⟨by omega,ha,by simp[cJ],by rw[lu,cJ,cJ];simp,by omega,?_⟩⟩⟩⟩
  refine ai (Dc v (by simp only[Vl.cE];omega)) ?_
  simp only[↓zq,zs,ac,zt,bG,Vl.cE,Vl.cG,eU,eg]
  refine⟨by simp;omega,by simp;omega,by simp⟩
 |
  .f v,h=>by
  simp only[Vl.cE,Vl.cG,eU,eg,au,an,aG]at h
  refine AI _ ((aO _).mpr trivial) ?_
  have hb:(⟨(bytesOf [[.v (.int .u8 102)]]).toArray⟩:ByteArray)=mk [102]:=rfl
  have ha:jy [[.v (.int .u8 102)]]:=kP 102
  simp only[xS,Vl.cF,↓zq,zs,ac,aO,fm,hb]
  refine⟨by omega,fun h=>by omega,fun _=>⟨fun h=>by omega,fun _=>⟨fun h=>by omega,fun _=>⟨by omega,ha,by simp[cJ],by rw[lu,cJ,cJ];simp,by omega,?_⟩⟩⟩⟩
  refine ai (Dc v (by simp only[Vl.cE];omega)) ?_
  simp only[↓zq,zs,ac,zt,bG,Vl.cE,Vl.cG,eU,eg]
  refine⟨by simp;omega,by simp;omega,by simp⟩
 |
  .p a b,h=>by
  simp only[Vl.cE,Vl.cG,eU,eg,au,an,aG]at h
  refine AI _ ((aO _).mpr trivial) ?_
  simp only[xS,Vl.cF,↓zq,zs,ac,aO,fm]
  refine⟨by omega,fun h=>by omega,fun _=>⟨fun h=>by omega,fun _=>⟨fun _=>⟨by omega,?_⟩,fun h=>absurd rfl h⟩⟩⟩
  refine ai (Dc a (by simp only[Vl.cE];omega)) ?_
  simp only[↓zq,zs,ac,zt,aO,Vl.cE]
  refine⟨by simp;omega,by simp;omega,by omega,?_⟩
  refine ai (Dc b (by simp only[Vl.cE];omega)) ?_
  simp only[↓zq,zs,ac,zt,bG,Vl.cE,Vl.cG,eU,eg]
  refine⟨by simp;omega,by simp;omega,by simp⟩
def su:Option (List UInt8)->AV
 |some s=>.cA [.v (.string (mk s)),.v (.bool true)]
 |none=>.cA [.v (.string (mk [])),.v (.bool false)]
end Go.Proofs.Trees
namespace Go.Proofs.Trees
open Go Go.VL Go.RowKit
def back(n:Nat):Ty->Nat->Vl
 | .name _,c=>.el c
 | .plus a b,c=>match Jq n a with|some x=>if c<x then .l (back n a c)else .r (back n b (c-x))|none=>.u
 | .times a b,c=>match Jq n b with|some y=>.p (back n a (c/y)) (back n b (c%y))|none=>.u
 |_,_=>.u
theorem zb:∀l:List E,cr 2 (E.bw l)
 |[]=>fun c hc=>by cases hc
 |
  e::l=>fun c hc=>by
  simp only[E.bw,aH]at hc
  rcases hc with rfl|hc
  ·exact gl e
  ·exact zb l c hc
theorem OZ(w:List UInt8)(l:List E)(hl:l.length<1000000):ap Tryz.prog 78 [.v (.string (mk w)),.sl (E.bw l)] [] (bG (E.kE (.list (.atom w::l)))):=by
 refine Pe _ _ ((bT _).mpr trivial) ?_
 simp only[G2,↓zq,zs,ac,dY,bG,E.kE,E.iq,E.bw]
 exact⟨⟨zb l,by omega⟩,rfl⟩
end Go.Proofs.Trees
namespace Go.Proofs.Trees
open Go Go.VL Go.RowKit
def lY(l:List Hl):List (List AV):=l.map fun h=>[.v (.string (mk h.1.cG.at)),h.1.cG.sp,.v (.string (mk h.2.cG.at)),h.2.cG.sp]
theorem eJ(l:List Hl):(lY l).length=l.length:=by simp[lY]
theorem gf{l:List Hl}{i:Nat}(hi:i<l.length):(lY l).getD i []=[.v (.string (mk (l[i]).1.cG.at)),(l[i]).1.cG.sp,.v (.string (mk (l[i]).2.cG.at)),(l[i]).2.cG.sp]:=by simp[lY,aa,hi]
theorem pC(out:List Hl)(a b:Vl):lY out++[[.v (.string (mk a.cG.at)),a.cG.sp,.v (.string (mk b.cG.at)),b.cG.sp]]=lY (out++[(a,b)]):=by simp[lY]
theorem Ac(a b c d:AV):cr 4 [[a,b,c,d]]:=fun x hx=>by simp at hx;rw[hx];rfl
theorem aK(s:ByteArray)(e:E):bz [.str,.sl] [.v (.string s),e.sp] 0=True:=by simp[bz,dM,aX]
theorem lz(s:ByteArray)(e:E)(x y:AV):bz [.str,.sl] [.v (.string s),e.sp,x,y] 0=True:=by simp[bz,dM,aX]
theorem xf(w:List UInt8)(e:E):ap Tryz.prog 78 [.v (.string (mk w)),.sl [[.v (.string (mk e.at)),e.sp]]] [] (bG (.agg [.v (.string (mk [])),(E.list [.atom w,e]).sp])):=by
 have:=OZ w [e] (by simp)
 simpa only[E.bw,fE,cX,E.at]using this
theorem w6(w:List UInt8)(e e':E):ap Tryz.prog 78 [.v (.string (mk w)),.sl [[.v (.string (mk e.at)),e.sp],[.v (.string (mk e'.at)),e'.sp]]] [] (bG (.agg [.v (.string (mk [])),(E.list [.atom w,e,e']).sp])):=by
 have:=OZ w [e,e'] (by simp)
 simpa only[E.bw,fE,cX,E.at]using this
def P3(pv:AV)(a b:E):Prop:=LK.sl.has pv/\pv.aJ.length=3/\pv.aJ.getD 1 []=[.v (.string (mk a.at)),a.sp]/\pv.aJ.getD 2 []=[.v (.string (mk b.at)),b.sp]
theorem P3.of(x a b:E):P3 (E.list [x,a,b]).sp a b:=⟨by simp[E.sp,bT],by simp[E.sp,E.bw,fj],by simp[E.sp,E.bw,fj,fE],by simp[E.sp,E.bw,fj,fE]⟩
def P2(pv:AV)(a:E):Prop:=LK.sl.has pv/\pv.aJ.length=2/\pv.aJ.getD 1 []=[.v (.string (mk a.at)),a.sp]
theorem P2.of(x a:E):P2 (E.list [x,a]).sp a:=⟨by simp[E.sp,bT],by simp[E.sp,E.bw,fj],by simp[E.sp,E.bw,fj,fE]⟩
theorem Mp(w:List UInt8)(g:Vl->Vl)(hg:∀c,(g c).cG=.list [.atom w,c.cG])(l:List Hl)(hl:l.length<=1000000):∀(k i:Nat) (out:List Hl),i+k=l.length->out.length+k<=1000000 ->
 G1 [.sl (lY l),.v (.string (mk w)),.v (.int .i64 (i:Int))] [.vec 4 (lY out)] (gj 1 [] [.vec 4 (lY (out++jd g (l.drop i)))])
 |
  0,i,out,hi,ho=>by
  refine ON _ _ _ _ ?_
  have:i=l.length:=by omega
  subst this
  simp only[F0,↓zq,zs,ac,eJ]
  exact⟨fun h=>by omega,fun _=>by simp[gj,jd]⟩
 |
  k+1,i,out,hi,ho=>by
  have hlt:i<l.length:=by omega
  refine ON _ _ _ _ ?_
  simp only[F0,↓zq,zs,ac,zt,eJ,gf hlt,lz,aK]
  refine⟨fun _=>?_,fun h=>by omega⟩
  repeat refine⟨by omega,?_⟩
  refine ai (xf _ _) ?_
  simp only[↓zq,zs,ac,aK]
  repeat refine⟨by omega,?_⟩
  refine⟨⟨Ac _ _ _ _,by omega⟩,?_⟩
  rw[bp i (by omega)]
  have:=Mp w g hg l hl k (i+1) (out++[(g (l[i]).1,(l[i]).2)]) (by omega) (by simp;omega)
  rw[aW,<-pC,hg]at this
  rw[gA g l hlt]
  exact this
theorem Om(w:List UInt8)(g:Vl->Vl)(hg:∀c,(g c).cG=.list [.atom w,c.cG])(l out:List Hl)(hl:out.length+l.length<=1000000) :
 ap Tryz.prog 105 [.sl (lY l),.v (.string (mk w)),.vec 0] [.vec 4 (lY out)] (dj (.vec 1) [.dead,.vec 4 (lY (out++jd g l))]):=by
 refine QK _ _ _ ((bT _).mpr trivial) ?_
 simp only[Kd,↓zq,zs,ac]
 have h:=Mp w g hg l (by omega) l.length 0 out (by omega) (by omega)
 rw[aZ]at h
 refine co h ?_
 simp[↓zq,zs,ac,dj]
theorem Lz(s:List UInt8)(ta:ByteArray)(tp:AV)(ht:LK.sl.has tp)(va:ByteArray)(vp:AV)(x y:Vl)(hp:P3 vp x.cG y.cG)(l:List Hl)(hl:l.length<=1000000):∀(k i:Nat) (out:List Hl),i+k=l.length->out.length+k<=1000000 ->
 GP [.v (.string (mk s)),.sl (lY l),.v (.int .i64 (i:Int))] [.cells [.v (.string ta),tp],.cells [.v (.string va),vp],.vec 4 (lY out)] (gj 1 [.v (.string (mk s))] [.cells [.v (.string ta),tp],.cells [.v (.string va),vp],.vec 4 (lY (out++jd (fun c=>Vl.l (.p c y)) (l.drop i)))])
 |
  0,i,out,hi,ho=>by
  refine Mz _ _ _ _ _ _ _ _ ?_
  have:i=l.length:=by omega
  subst this
  simp only[FO,↓zq,zs,ac,eJ,ht,aX,ac,hp.1]
  exact⟨fun h=>by omega,fun _=>by simp[gj,jd]⟩
 |
  k+1,i,out,hi,ho=>by
  have hlt:i<l.length:=by omega
  refine Mz _ _ _ _ _ _ _ _ ?_
  simp only[FO,↓zq,zs,ac,zt,eJ,gf hlt,lz,aK,gf,ht,aX,ac,hp.1,toNat_one,bg,hp.1,hp.2.1,hp.2.2.1,hp.2.2.2]
  refine⟨fun _=>?_,fun h=>by omega⟩
  repeat refine⟨by omega,?_⟩
  refine ai (w6 _ _ _) ?_
  simp only[↓zq,zs,ac,aK]
  repeat refine⟨by omega,?_⟩
  refine ai (xf [108] (E.list [.atom [112],(l[i]).1.cG,y.cG])) ?_
  simp only[↓zq,zs,ac,aK]
  repeat refine⟨by omega,?_⟩
  refine⟨⟨Ac _ _ _ _,by omega⟩,?_⟩
  rw[bp i (by omega)]
  have:=Lz s ta tp ht va vp x y hp l hl k (i+1) (out++[((fun c=>Vl.l (.p c y)) (l[i]).1,(l[i]).2)]) (by omega) (by simp;omega)
  rw[aW,<-pC]at this
  rw[gA (fun c=>Vl.l (.p c y)) l hlt]
  exact this
theorem MO(va:ByteArray)(vp:AV)(x y:Vl)(hp:P3 vp x.cG y.cG)(l:List Hl)(hl:l.length<=1000000):∀(k i:Nat) (out:List Hl),i+k=l.length->out.length+k<=1000000 ->
 Gg [.sl (lY l),.v (.int .i64 (i:Int))] [.cells [.v (.string va),vp],.vec 4 (lY out)] (gj 1 [] [.vec 4 (lY (out++jd (fun c=>Vl.r (.p x c)) (l.drop i)))])
 |
  0,i,out,hi,ho=>by
  refine Oj _ _ _ _ _ ?_
  have:i=l.length:=by omega
  subst this
  simp only[F5,↓zq,zs,ac,eJ,aX,ac,hp.1]
  exact⟨fun h=>by omega,fun _=>by simp[gj,jd]⟩
 |
  k+1,i,out,hi,ho=>by
  have hlt:i<l.length:=by omega
  refine Oj _ _ _ _ _ ?_
  simp only[F5,↓zq,zs,ac,zt,eJ,gf hlt,lz,aK,gf,aX,ac,hp.1,toNat_one,bg,hp.1,hp.2.1,hp.2.2.1,hp.2.2.2]
  refine⟨fun _=>?_,fun h=>by omega⟩
  repeat refine⟨by omega,?_⟩
  refine ai (w6 _ _ _) ?_
  simp only[↓zq,zs,ac,aK]
  repeat refine⟨by omega,?_⟩
  refine ai (xf [114] (E.list [.atom [112],x.cG,(l[i]).1.cG])) ?_
  simp only[↓zq,zs,ac,aK]
  repeat refine⟨by omega,?_⟩
  refine⟨⟨Ac _ _ _ _,by omega⟩,?_⟩
  rw[bp i (by omega)]
  have:=MO va vp x y hp l hl k (i+1) (out++[((fun c=>Vl.r (.p x c)) (l[i]).1,(l[i]).2)]) (by omega) (by simp;omega)
  rw[aW,<-pC]at this
  rw[gA (fun c=>Vl.r (.p x c)) l hlt]
  exact this
theorem JP(s s2:List UInt8)(ta:ByteArray)(tp:AV)(ht:LK.sl.has tp)(va:ByteArray)(vp:AV)(hp:LK.sl.has vp)(l:List Hl)(hl:l.length<=1000000):∀(k i:Nat) (out:List Hl),i+k=l.length->out.length+k<=1000000 ->
 Hh [.v (.string (mk s)),.v (.string (mk s2)),.sl (lY l),.v (.int .i64 (i:Int))] [.cells [.v (.string ta),tp],.cells [.v (.string va),vp],.vec 4 (lY out)] (gj 1 [.v (.string (mk s)),.v (.string (mk s2))] [.cells [.v (.string ta),tp],.cells [.v (.string va),vp],.vec 4 (lY (out++jd (fun c=>Vl.f (.l c)) (l.drop i)))])
 |
  0,i,out,hi,ho=>by
  refine O3 _ _ _ _ _ _ _ _ _ ?_
  have:i=l.length:=by omega
  subst this
  simp only[GF,↓zq,zs,ac,eJ,ht,aX,ac,hp]
  exact⟨fun h=>by omega,fun _=>by simp[gj,jd]⟩
 |
  k+1,i,out,hi,ho=>by
  have hlt:i<l.length:=by omega
  refine O3 _ _ _ _ _ _ _ _ _ ?_
  simp only[GF,↓zq,zs,ac,zt,eJ,gf hlt,lz,aK,gf,ht,aX,ac,hp]
  refine⟨fun _=>?_,fun h=>by omega⟩
  repeat refine⟨by omega,?_⟩
  refine ai (xf _ _) ?_
  simp only[↓zq,zs,ac,aK]
  repeat refine⟨by omega,?_⟩
  refine ai (xf [102] (E.list [.atom [108],(l[i]).1.cG])) ?_
  simp only[↓zq,zs,ac,aK]
  repeat refine⟨by omega,?_⟩
  refine⟨⟨Ac _ _ _ _,by omega⟩,?_⟩
  rw[bp i (by omega)]
  have:=JP s s2 ta tp ht va vp hp l hl k (i+1) (out++[((fun c=>Vl.f (.l c)) (l[i]).1,(l[i]).2)]) (by omega) (by simp;omega)
  rw[aW,<-pC]at this
  rw[gA (fun c=>Vl.f (.l c)) l hlt]
  exact this
theorem Kg(s:List UInt8)(L:AV)(q:Nat)(kc:Vl)(kv:Vl)(hL:LK.sl.has L)(hq:q<L.aJ.length)(hg:L.aJ.getD q []=[.v (.string (mk kc.cG.at)),kc.cG.sp,.v (.string (mk kv.cG.at)),kv.cG.sp])(ta:ByteArray)(tp:AV)(ht:LK.sl.has tp)(l:List Hl)(hl:l.length<=1000000):∀(k i:Nat) (out:List Hl),i+k=l.length->out.length+k<=1000000 ->
 HX [.v (.string (mk s)),L,.v (.int .i64 (q:Int)),.sl (lY l),.v (.int .i64 (i:Int))] [.cells [.v (.string ta),tp],.vec 4 (lY out)] (gj 1 [.v (.string (mk s)),L,.v (.int .i64 (q:Int))] [.cells [.v (.string ta),tp],.vec 4 (lY (out++jd (fun c=>Vl.f (.r (.p kc c))) (l.drop i)))])
 |
  0,i,out,hi,ho=>by
  refine J0 _ _ _ _ _ _ _ _ ?_
  have:i=l.length:=by omega
  subst this
  simp only[Ij,↓zq,zs,ac,eJ,ht,aX,ac,hL]
  exact⟨fun h=>by omega,fun _=>by simp[gj,jd]⟩
 |
  k+1,i,out,hi,ho=>by
  have hlt:i<l.length:=by omega
  refine J0 _ _ _ _ _ _ _ _ ?_
  simp only[Ij,↓zq,zs,ac,zt,eJ,gf hlt,lz,aK,gf,ht,aX,ac,hL,hg]
  refine⟨fun _=>?_,fun h=>by omega⟩
  repeat refine⟨by omega,?_⟩
  refine ai (w6 _ _ _) ?_
  simp only[↓zq,zs,ac,aK]
  repeat refine⟨by omega,?_⟩
  refine ai (xf [114] (E.list [.atom [112],kc.cG,(l[i]).1.cG])) ?_
  simp only[↓zq,zs,ac,aK]
  repeat refine⟨by omega,?_⟩
  refine ai (xf [102] (E.list [.atom [114],E.list [.atom [112],kc.cG,(l[i]).1.cG]])) ?_
  simp only[↓zq,zs,ac,aK]
  repeat refine⟨by omega,?_⟩
  refine⟨⟨Ac _ _ _ _,by omega⟩,?_⟩
  rw[bp i (by omega)]
  have:=Kg s L q kc kv hL hq hg ta tp ht l hl k (i+1) (out++[((fun c=>Vl.f (.r (.p kc c))) (l[i]).1,(l[i]).2)]) (by omega) (by simp;omega)
  rw[aW,<-pC]at this
  rw[gA (fun c=>Vl.f (.r (.p kc c))) l hlt]
  exact this
theorem OO(s:List UInt8)(te:E)(a:Ty)(tg:Tg)(l:List Hl)(hl:l.length<=1000000)(ih:∀h,h∈l->ap Tryz.prog 77 [.agg [.v (.string (mk te.at)),te.sp],.v (.string (mk s)),.agg [.v (.string (mk h.2.cG.at)),h.2.cG.sp]] [] (bG (.sl (lY (cj (.rc a) tg h.2))))) :
 ∀(k i:Nat) (out:List Hl),i+k=l.length->(out++(l.drop i).flatMap (AU a tg)).length<=1000000 ->
 Hk [.v (.string (mk s)),.sl (lY l),.v (.int .i64 (i:Int))] [.cells [.v (.string (mk te.at)),te.sp],.vec 4 (lY out)] (gj 1 [] [.vec 4 (lY (out++(l.drop i).flatMap (AU a tg)))])
 |
  0,i,out,hi,ho=>by
  refine JW _ _ _ _ _ _ ?_
  have:i=l.length:=by omega
  subst this
  simp only[Hn,↓zq,zs,ac,eJ,aX,ac]
  exact⟨fun h=>by omega,fun _=>by simp[gj]⟩
 |
  k+1,i,out,hi,ho=>by
  have hlt:i<l.length:=by omega
  have hd:(l.drop i).flatMap (AU a tg)=AU a tg (l[i])++(l.drop (i+1)).flatMap (AU a tg):=by rw[aP hlt,cQ]
  rw[hd]at ho |-
  refine JW _ _ _ _ _ _ ?_
  simp only[Hn,↓zq,zs,ac,zt,eJ,gf hlt,lz,aK,aX,ac]
  refine⟨fun _=>?_,fun h=>by omega⟩
  repeat refine⟨by omega,?_⟩
  refine ai (ih _ (CA l hlt)) ?_
  simp only[↓zq,zs,ac]
  have hb:out.length+(cj (.rc a) tg (l[i]).2).length<=1000000:=by
   simp only[an,fS]at ho;omega
  have h5:=Kg s (.sl (lY l)) i (l[i]).1 (l[i]).2 ((bT _).mpr trivial) (by rw[fj,eJ];omega) (by rw[fj,gf hlt]) (mk te.at) te.sp ((aX _).mpr trivial) (cj (.rc a) tg (l[i]).2) (by omega) (cj (.rc a) tg (l[i]).2).length 0 out (by omega) (by omega)
  rw[aZ]at h5
  refine co h5 ?_
  simp only[↓zq,zs,ac,aX,ac]
  repeat refine⟨by omega,?_⟩
  rw[bp i (by omega),<-aW]
  exact OO s te a tg l hl ih k (i+1) _ (by omega) (by rw[aW];exact ho)
end Go.Proofs.Trees
namespace Go.Proofs.Trees
open Go Go.VL Go.RowKit
theorem z6{env:List Fr}(h:WF env):∀w,w∈names env->dk w=true:=by
 induction h with
 |nil=>intro w hw;cases hw
 |
  cons hs _ _ _ _ _ ih =>
  intro w hw
  simp only[names,aQ,aT]at hw
  rcases hw with hw|rfl
  ·exact ih w hw
  ·exact hs
theorem BV{ar:List (List UInt8)}{k:Nat}(h:k<ar.length):gk ar k∈ar:=by
 unfold gk
 have:ar.length-1-k<ar.length:=by omega
 simp[aa,this]
def A7(s:List UInt8)(ar:List (List UInt8)):Prop:=gU s=true\/(bQ s ar ar.length).isSome=true
theorem wt{s:List UInt8}{ar:List (List UInt8)}{u:Nat}(hl:∀w,w∈ar->dk w=true)(h:bQ s ar ar.length=some u):dk s=true:=by
 obtain⟨h1,h2⟩:=fG _ _ (aq _) h
 rw[<-h2];exact hl _ (BV h1)
theorem GQ{s0 s:List UInt8}{ar:List (List UInt8)}{t:Ty}(ht:cS (.atom s0) ar=some t)(hl:∀w,w∈ar->dk w=true)(hs:A7 s ar):fO t (oS s ar)=decide (s0=s):=by
 have h48:∀b:UInt8,gU [b]=false->dk [b]=false->s≠[b]:=fun b h1 h2 e=>by
  subst e
  rcases hs with h|h
  ·rw[h1]at h;cases h
  ·obtain⟨u,hu⟩:=bF.1 h
   rw[wt hl hu]at h2;cases h2
 simp only[cS]at ht
 split at ht
 ·rename_i e;cases ht;subst e
  have:=h48 48 rfl rfl
  rw[decide_eq_false (fun h=>this h.symm)];cases oS s ar<;>rfl
 ·split at ht
  ·rename_i e;cases ht;subst e
   have:=h48 49 rfl rfl
   rw[decide_eq_false (fun h=>this h.symm)];cases oS s ar<;>rfl
  ·split at ht
   ·rename_i hp
    cases ht
    unfold oS
    cases e:bQ s ar ar.length with
    |none=>rfl
    |
     some u =>
     have hloo:=wt hl e
     show false=_
     rw[decide_eq_false]
     rintro rfl
     rw[kB hp]at hloo;cases hloo
   ·rename_i hnp
    split at ht
    ·split at ht
     ·rename_i u hu
      cases ht
      unfold oS
      cases e:bQ s ar ar.length with
      |
       none =>
       show false=_
       rw[decide_eq_false]
       rintro rfl
       rw[hu]at e;cases e
      |
       some u' =>
       show decide (u=u')=_
       rw[cx,decide_eq_true_eq,decide_eq_true_eq]
       constructor
       ·rintro rfl
        rw[<-(fG _ _ (aq _) hu).2,<-(fG _ _ (aq _) e).2]
       ·rintro rfl
        rw[hu]at e;cases e;rfl
     ·rename_i hn
      cases ht
      unfold oS
      cases e:bQ s ar ar.length with
      |none=>rfl
      |
       some u =>
       show false=_
       rw[decide_eq_false]
       rintro rfl
       rw[hn]at e;cases e
    ·cases ht
theorem Dw{b:E}{ar:List (List UInt8)}{w:List UInt8}{t:Ty}(hb:cS b (ar++[w])=some t)(hw:dk w=true)(hs:A7 w ar):vr t (oS w ar).up=false:=by
 rcases hs with h|h
 ·rw[kB h]at hw;cases hw
 ·obtain⟨u,hu⟩:=bF.1 h
  rw[oS,hu];exact Iq hb hu
theorem AG{s w:List UInt8}{ar:List (List UInt8)}(h:w≠s)(hs:A7 s ar):A7 s (ar++[w]):=by
 rcases hs with h1|h1
 ·exact .inl h1
 ·right;rw[jF ar h];obtain⟨u,hu⟩:=bF.1 h1;rw[hu];rfl
def QY(e:E)(s:List UInt8)(t:Ty)(tg:Tg)(v:Vl):Prop:=ap Tryz.prog 77 [.agg [.v (.string (mk e.at)),e.sp],.v (.string (mk s)),.agg [.v (.string (mk v.cG.at)),v.cG.sp]] [] (bG (.sl (lY (cj t tg v))))
theorem E7(n:Nat):∀(m:Nat) (v:Vl),v.nodes<=m->∀(e:E) (env:List Fr) (t:Ty),Ask e env t->eG n v (e,env)=true->env.length+v.nodes<100000->∀(s:List UInt8),A7 s (names env)->QY e s t (oS s (names env)) v
 |0,v,hm=>by have:=da v;omega
 |
  m+1,v,hm=>by
  intro e env t A hv hl s hs
  have hloo:=z6 A.wf
  unfold QY
  refine QQ _ _ _ _ _ ((aX _).mpr trivial) ((aX _).mpr trivial) ?_
  have hlen:=nt t (oS s (names env)) v
  have atomCase:∀s0,e=.atom s0->stuck t v=true->eN Tryz.prog 244 (I2 (mk e.at) e.sp (mk s) (mk v.cG.at) v.cG.sp) fun _ xs obs=>bG (.sl (lY (cj t (oS s (names env)) v))) (xs.headD .any) obs:=by
   rintro s0 rfl hst
   have hat:=GQ A.ty hloo hs
   have hne:s0≠[]:=A.ok
   simp only[I2,E.at,↓zq,zs,ac,zt]
   refine⟨fun _=>⟨fun h=>?_,fun h=>?_⟩,fun h=>absurd h hne⟩
   ·rw[decide_eq_true h]at hat
    rw[mW v hat]
    refine⟨⟨Ac _ _ _ _,by omega⟩,?_⟩
    simp[bG,lY,Vl.cG,E.at,E.sp]
   ·rw[decide_eq_false h]at hat
    rw[dT hat hst]
    simp[bG,lY]
  have hvh:=BA v
  rw[cX]at hvh
  rcases gx A.wf A.ty with⟨hb,hq⟩|⟨u,g,rfl,hq,hu⟩
  ·have hhd:hd e env=(e,env):=kq hq
   rcases fF A.ty hb A.cl with⟨rfl,rfl⟩|⟨rfl,rfl⟩|⟨s0,rfl,rfl,hp,h0,h1⟩|⟨x,a,b,t1,t2,rfl,hx,rfl,ha,hbb⟩|⟨x,a,b,t1,t2,rfl,hx,rfl,ha,hbb⟩|⟨x,a,b,t1,rfl,hx,rfl⟩
   ·exact atomCase _ rfl (by cases v<;>rfl)
   ·exact atomCase _ rfl (by cases v<;>rfl)
   ·exact atomCase _ rfl (by cases v<;>rfl)
   ·obtain⟨ok1,ok2,ok3,_⟩:=A.ok
    obtain⟨f1,f2⟩:=fq A.cl
    have hP:=P3.of x a b
    cases v with
    |
     l w =>
     simp only[eG,hhd,hx,beq_self_eq_true,bX]at hv
     simp only[Vl.nodes]at hm hl hlen
     rw[ny]at hlen |-
     rw[fS]at hlen
     have hW:=P2.of (.atom [108]) w.cG
     simp only[I2,E.at,↓zq,zs,ac,zt]
     refine⟨fun h=>absurd rfl h,fun _=>ai hvh ?_⟩
     simp only[vh,Vl.cG,toNat_one,bg,↓zq,zs,ac,zt,hP.1,hP.2.1,hP.2.2.1,hP.2.2.2,hW.1,hW.2.1,hW.2.2,aK]
     refine⟨fun _=>?_,fun h=>absurd rfl h⟩
     repeat refine⟨by omega,?_⟩
     refine ai (E7 n m w (by omega) a env t1 ⟨ok2,A.wf,ha,f1⟩ hv (by omega) s hs) ?_
     simp only[↓zq,zs,ac]
     refine ba (Om [108] Vl.l (fun c=>rfl) (cj t1 (oS s (names env)) w) [] (by simp;omega)) ?_
     simp[↓zq,zs,ac,bG,bf,bO]
    |
     r w =>
     simp only[eG,hhd,hx,beq_self_eq_true,bX]at hv
     simp only[Vl.nodes]at hm hl hlen
     rw[nC]at hlen |-
     rw[fS]at hlen
     have hW:=P2.of (.atom [114]) w.cG
     simp only[I2,E.at,↓zq,zs,ac,zt]
     refine⟨fun h=>absurd rfl h,fun _=>ai hvh ?_⟩
     simp only[vh,Vl.cG,toNat_one,bg,↓zq,zs,ac,zt,hP.1,hP.2.1,hP.2.2.1,hP.2.2.2,hW.1,hW.2.1,hW.2.2,aK]
     refine⟨fun h=>by simp at h,fun _=>⟨fun _=>?_,fun h=>absurd rfl h⟩⟩
     repeat refine⟨by omega,?_⟩
     refine ai (E7 n m w (by omega) b env t2 ⟨ok3,A.wf,hbb,f2⟩ hv (by omega) s hs) ?_
     simp only[↓zq,zs,ac]
     refine ba (Om [114] Vl.r (fun c=>rfl) (cj t2 (oS s (names env)) w) [] (by simp;omega)) ?_
     simp[↓zq,zs,ac,bG,bf,bO]
    |_=>simp[eG,hhd,hx]at hv
   ·obtain⟨ok1,ok2,ok3,_⟩:=A.ok
    obtain⟨f1,f2⟩:=eQ A.cl
    have hP:=P3.of x a b
    cases v with
    |
     p w w' =>
     simp only[eG,hhd,hx,beq_self_eq_true,bX,az]at hv
     simp only[Vl.nodes]at hm hl hlen
     rw[ni]at hlen |-
     simp only[an,fS]at hlen
     have hW:=P3.of (.atom [112]) w.cG w'.cG
     simp only[I2,E.at,↓zq,zs,ac,zt]
     refine⟨fun h=>absurd rfl h,fun _=>ai hvh ?_⟩
     simp only[vh,Vl.cG,toNat_one,bg,↓zq,zs,ac,zt,hP.1,hP.2.1,hP.2.2.1,hP.2.2.2,hW.1,hW.2.1,hW.2.2.1,hW.2.2.2,aK]
     refine⟨fun h=>by simp at h,fun _=>⟨fun h=>by simp at h,fun _=>⟨fun _=>?_,fun h=>absurd rfl h⟩⟩⟩
     repeat refine⟨by omega,?_⟩
     refine ai (E7 n m w (by omega) a env t1 ⟨ok2,A.wf,ha,f1⟩ hv.1 (by omega) s hs) ?_
     simp only[↓zq,zs,ac]
     have h1:=Lz s (mk []) (E.list [x,a,b]).sp ((aX _).mpr trivial) (mk []) (E.list [.atom [112],w.cG,w'.cG]).sp w w' (P3.of _ _ _) (cj t1 (oS s (names env)) w) (by omega) _ 0 [] (aY _) (by simp;omega)
     rw[aZ,aR]at h1
     refine co h1 ?_
     simp only[↓zq,zs,ac,aX,ac,bg,hP.1,hP.2.1,hP.2.2.2,hW.1,hW.2.1,hW.2.2.2,aK]
     repeat refine⟨by omega,?_⟩
     refine ai (E7 n m w' (by omega) b env t2 ⟨ok3,A.wf,hbb,f2⟩ hv.2 (by omega) s hs) ?_
     simp only[↓zq,zs,ac]
     have h2:=MO (mk []) (E.list [.atom [112],w.cG,w'.cG]).sp w w' (P3.of _ _ _) (cj t2 (oS s (names env)) w') (by omega) _ 0 (jd (fun c=>Vl.l (.p c w')) (cj t1 (oS s (names env)) w)) (aY _) (by rw[fS];omega)
     rw[aZ]at h2
     refine co h2 ?_
     simp[↓zq,zs,ac,bG]
    |_=>simp[eG,hhd,hx]at hv
   ·obtain⟨t1',he1,h1,f1,hw1⟩:=jl A.wf A.ok hx A.ty A.cl
    cases he1
    obtain⟨ok1,ok2,ok3,_⟩:=A.ok
    obtain⟨_,hla,_,_⟩:=dB hx A.ty
    have A':Ask b (.mk a.at (.list [x,a,b]) env::env) t1:=⟨ok3,hw1,h1,f1⟩
    have hnm:names (.mk a.at (.list [x,a,b]) env::env)=names env++[a.at]:=rfl
    have hP:=P3.of x a b
    cases v with
    |
     f w =>
     simp only[eG,hhd,hx,beq_self_eq_true,bX]at hv
     simp only[Vl.nodes]at hm hl hlen
     have hW:=P2.of (.atom [102]) w.cG
     simp only[I2,E.at,↓zq,zs,ac,zt]
     refine⟨fun h=>absurd rfl h,fun _=>ai hvh ?_⟩
     simp only[vh,Vl.cG,toNat_one,bg,↓zq,zs,ac,zt,hP.1,hP.2.1,hP.2.2.1,hP.2.2.2,hW.1,hW.2.1,hW.2.2,aK]
     refine⟨fun h=>by simp at h,fun _=>⟨fun h=>by simp at h,fun _=>⟨fun h=>by simp at h,fun _=>?_⟩⟩⟩
     repeat refine⟨by omega,?_⟩
     refine⟨fun h=>?_,fun h=>?_⟩
     ·
      have hh:a.at=s:=h
      subst hh
      have:vr (.rc t1) (oS a.at (names env))=false:=Dw h1 hla hs
      rw[iO _ _ (aq _) _ _ this]
      simp[bG,lY]
     ·have hh:a.at≠s:=h
      rw[nl]at hlen |-
      simp only[an,fS]at hlen
      repeat refine⟨by omega,?_⟩
      have i1:=E7 n m w (by omega) b _ t1 A' hv (by simp;omega) s (by rw[hnm];exact AG hh hs)
      rw[hnm,Ar _ hh]at i1
      refine ai i1 ?_
      simp only[↓zq,zs,ac]
      have h3:=JP s a.at (mk []) (E.list [x,a,b]).sp ((aX _).mpr trivial) (mk []) (E.list [.atom [102],w.cG]).sp ((aX _).mpr trivial) (cj t1 (oS s (names env)).up w) (by omega) _ 0 [] (aY _) (by simp;omega)
      rw[aZ,aR]at h3
      refine co h3 ?_
      simp only[↓zq,zs,ac,aX,ac,toNat_one,bg,hP.1,hP.2.1,hP.2.2.2,hW.1,hW.2.1,hW.2.2,aK]
      repeat refine⟨by omega,?_⟩
      have i2:=E7 n m w (by omega) b _ t1 A' hv (by simp;omega) a.at (by rw[hnm];right;rw[fk];rfl)
      rw[hnm,wI]at i2
      refine ai i2 ?_
      simp only[↓zq,zs,ac]
      have hl2:=nt t1 (.bd 0) w
      have ih3:∀h,h∈cj t1 (.bd 0) w->QY (.list [x,a,b]) s (.rc t1) (oS s (names env)) h.2:=fun h hh=>by
       have h3:=(ik hh).1
       have h4:=gu n m w (by omega) b _ t1 A' hv 0 _ rfl h hh
       exact E7 n m h.2 (by omega) (.list [x,a,b]) env (.rc t1) A h4 (by omega) s hs
      have h4:=OO s (.list [x,a,b]) t1 (oS s (names env)) (cj t1 (.bd 0) w) (by omega) ih3 _ 0 (jd (fun c=>.f (.l c)) (cj t1 (oS s (names env)).up w)) (aY _) (by
       simp only[aZ,an,fS]
       have hlen2:(cj t1 (oS s (names env)).up w).length+((cj t1 (.bd 0) w).flatMap (AU t1 (oS s (names env)))).length<=1+w.nodes:=hlen
       omega)
      rw[aZ]at h4
      simp only[E.at]at h4
      refine co h4 ?_
      simp[↓zq,zs,ac,bG]
    |_=>simp[eG,hhd,hx]at hv
  ·cases e with
   |atom s0=>exact atomCase _ rfl (by cases v<;>rfl)
   |list l=>exact absurd hq (by rw[show (E.list l).at=[] from rfl,kQ A.wf];simp)
end Go.Proofs.Trees
namespace Go.Proofs.Trees
open Go Go.VL Go.RowKit
def kids(a:Ty):Vl->List Hl
 | .f w=>cj a (.bd 0) w
 |_=>[]
theorem kS(a:Ty)(v:Vl):iY (kids a v)+1<=v.nodes:=by
 cases v with
 |f w=>have:=sE a (.bd 0) w;simp only[kids,Vl.nodes];omega
 |_=>simp only[kids,iY,Vl.nodes,List.map_nil,List.sum_nil];omega
theorem nw{a:Ty}{v:Vl}{h:Hl}(hh:h∈kids a v):h.2.nodes<v.nodes:=by
 cases v with
 |f w=>have:=(ik hh).1;simp only[Vl.nodes];omega
 |_=>cases hh
theorem jV{n:Nat}{a:Ty}{v:Vl}{h:Hl}(hv:v.gp n)(hh:h∈kids a v):h.1.gp n/\h.2.gp n:=by
 cases v with
 |f w=>exact gS n _ _ _ w h hv hh
 |_=>cases hh
abbrev Pt:=Vl×List Nat
def lS(pl:List Nat):List Hl->Nat->List Pt
 |[],_=>[]
 |h::l,i=>(h.2,pl++[i])::lS pl l (i+1)
theorem mA{pl:List Nat}{q:Pt}:∀{l:List Hl} {i:Nat},q∈lS pl l i->∃h,h∈l/\q.1=h.2
 |[],_,hq=>by cases hq
 |
  h::l,i,hq=>by
  rcases aH.1 hq with rfl|hq
  ·exact⟨h,ak,rfl⟩
  ·obtain⟨k,h1,h2⟩:=mA hq
   exact⟨k,al _ h1,h2⟩
theorem AP(pl:List Nat)(l:List Hl){i:Nat}(hi:i<l.length):lS pl (l.drop i) i=((l[i]).2,pl++[i])::lS pl (l.drop (i+1)) (i+1):=by
 rw[aP hi,lS]
def iP:Nat->Ty->Pt->List Pt
 |0,_,_=>[]
 |n+1,a,p=>p::(lS p.2 (kids a p.1) 0).flatMap (iP n a)
theorem wh{f:Pt->List Pt}(hf:∀q,(f q).length<=q.1.nodes)(pl:List Nat):∀(l:List Hl) (i:Nat),((lS pl l i).flatMap f).length<=iY l
 |[],i=>by simp[lS]
 |
  h::l,i=>by
  have:=wh hf pl l (i+1)
  have:=hf (h.2,pl++[i])
  simp only[lS,cQ,an,iY,bC,List.sum_cons]at *;omega
theorem n7:∀(n:Nat) (a:Ty) (p:Pt),(iP n a p).length<=p.1.nodes
 |0,a,p=>dF _
 |
  n+1,a,p=>by
  have:=wh (f:=iP n a) (fun q=>n7 n a q) p.2 (kids a p.1) 0
  have:=kS a p.1
  simp only[iP,au];omega
def GJ(f:List Pt->List Pt)(ps:List Pt):Prop:=∀out,(out.length+ps.length<=100->f out=out++ps)/\(100<out.length+ps.length->100<(f out).length)/\out.length<=(f out).length/\(f out).length<=out.length+ps.length
theorem tb{g:List Pt->Pt->List Pt}{ps:Pt->List Pt}:∀(qs:List Pt),(∀q,q∈qs->GJ (fun o=>g o q) (ps q))->GJ (fun o=>qs.foldl g o) (qs.flatMap ps)
 |[],_=>fun out=>by simp
 |
  q::qs,h=>fun out=>by
  have ih:=tb qs fun q hq=>h q (al _ hq)
  obtain⟨a1,a2,a3,a4⟩:=h q ak out
  obtain⟨b1,b2,b3,b4⟩:=ih (g out q)
  simp only[List.foldl_cons,cQ,an]at *
  refine⟨fun hle=>?_,fun hlt=>?_,by omega,by omega⟩
  ·rw[a1 (by omega)]at b1 |-
   rw[b1 (by rw[an];omega),aW]
  ·by_cases hq:out.length+(ps q).length<=100
   ·rw[a1 hq]at b2 |-
    exact b2 (by rw[an];omega)
   ·have:=a2 (by omega);omega
def mq:Nat->Ty->List Pt->Pt->List Pt
 |0,_,out,_=>out
 |n+1,a,out,p=>(lS p.2 (kids a p.1) 0).foldl (fun o q=>if o.length<=100 then mq n a o q else o) (out++[p])
end Go.Proofs.Trees
