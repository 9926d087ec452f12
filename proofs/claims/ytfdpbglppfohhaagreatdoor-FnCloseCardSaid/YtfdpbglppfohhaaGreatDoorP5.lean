/-
  Part of a proof: Go functions read by values, trees of functions, their contracts.
-/
import Derived.Test.YtfdpbglppfohhaaGreatDoorP4
import Derived.Test.YtfdpbglppfohhaaGreatDoorProg
import Derived.Lib.Atoi
set_option linter.unusedVariables false
set_option linter.unusedSimpArgs false
open And renaming intro→aI
open Bool renaming and_eq_true→az,eq_iff_iff→cw,or_eq_false_iff→cj,or_eq_true→bC,true_and→bY
open ByteArray renaming extract→cn,size→af,toList→ae
open Int renaming tmod→dH,toNat→bJ,toNat_natCast→bN
open List renaming all_cons→da,any_eq_true→cq,append_assoc→bb,append_nil→cY,drop_eq_getElem_cons→aU,drop_eq_nil_of_le→bW,drop_zero→be,eq_nil_of_length_eq_zero→bG,getD_cons_zero→bq,getD_eq_getElem?_getD→aa,getElem?_eq_getElem→bp,getElem_mem→bD,headD_cons→aQ,length_append→aq,length_cons→aA,length_drop→cu,length_nil→aH,map_cons→bE,mem_append→aO,mem_append_left→aD,mem_cons→aJ,mem_cons_of_mem→al,mem_cons_self→ak,mem_map→bO,mem_singleton→aS,nil_append→aW
open Nat renaming beq→aK,le_add_right→db,le_refl→au,mul_add→cU,mul_one→dI,zero_add→a6,zero_le→dQ
open Option renaming bind_eq_some_iff→bi,isSome_iff_exists→bL,isSome_none→bu,map_some→ci
open UInt8 renaming ofNat→bj
namespace Go.Proofs.Trees
open Go Go.VL
noncomputable section
variable {R:AV->List Ob->Prop}{U:RL}
def Gl:LI:={hd:={bV:=[(0,.k .ptr),(1,.k .sl),(9,.k .str)],refs:=[(3,0),(4,1)],co:=[(0,[.lk .sl]),(1,[.lk (.int .i64)])],vX:=[(2,176,[none,some 0,some 1])]},xs:={bV:=[(0,.k .ptr),(1,.k .sl),(9,.k .str)],co:=[(0,[.lk .sl]),(1,[.lk (.int .i64)])],vX:=[(2,176,[none,some 0,some 1])]},rt:={co:=[(0,[.lk .sl]),(1,[.lk (.int .i64)])]},ex:=1,fx:=[0,1]}
def Mb:Code:=cF (cC Tryz.f176) 12
def NY:List (Nat×LI):=[(12,Gl)]
def EF(a0:AV)(a1:AV)(a3_0:AV)(a4_0:Int):Tree :=
 NZ a0<|NZ a0<|.ai (LK.has (.int .u8) (a0.deref.hA)/\1<=a0.deref.length)<|.test (((a0.deref.hA).toInt)==(110:Int)) (NZ a0<|NZ a0<|lB (a0.deref.drop 1)<|.done 0 [VS (((a0.deref.drop 1).hA).ah)] [.cells [a3_0],.cells [VI a4_0]]) (.test (((a0.deref.hA).toInt)==(98:Int)) (NL a1<|NZ a0<|NZ a0<|.ai (LK.has (.int .i64) ((a0.deref.drop 2).hA)/\1<=(a0.deref.drop 2).length)<|.ai (LK.has .sl a1/\0<=(IntKind.wrap .i64 ((IntKind.wrap .i64 ((a1.aP.length:Int)-1))-(((a0.deref.drop 2).hA).toInt)))/\(IntKind.wrap .i64 ((IntKind.wrap .i64 ((a1.aP.length:Int)-1))-(((a0.deref.drop 2).hA).toInt)))<a1.aP.length/\(a1.ix (IntKind.wrap .i64 ((IntKind.wrap .i64 ((a1.aP.length:Int)-1))-(((a0.deref.drop 2).hA).toInt)))).length=1)<|lB (a1.ix (IntKind.wrap .i64 ((IntKind.wrap .i64 ((a1.aP.length:Int)-1))-(((a0.deref.drop 2).hA).toInt))))<|.done 0 [VS (((a1.ix (IntKind.wrap .i64 ((IntKind.wrap .i64 ((a1.aP.length:Int)-1))-(((a0.deref.drop 2).hA).toInt)))).hA).ah)] [.cells [a3_0],.cells [VI a4_0]]) (.test (((a0.deref.hA).toInt)==(43:Int)) (NZ a0<|NZ a0<|dR (a0.deref.drop 3)<|.call 176 [((a0.deref.drop 3).hA),a1,.gT 176 [none,some 0,some 1],.ref 0 0,.ref 1 0] [.cells [a3_0],.cells [VI a4_0]] fun r1 o1=>.ai ((o1.hO)=.cells (o1.hO).cs)<|.ai (aL [.lk .sl] ((o1.hO).cs) 0 1 o1.tail)<|.ai ((o1.tail.hO)=.cells (o1.tail.hO).cs)<|.ai (aL [.lk (.int .i64)] ((o1.tail.hO).cs) 0 2 o1.tail.tail)<|NS r1<|NZ a0<|NZ a0<|.ai (LK.has (.int .u8) (a0.deref.hA)/\1<=a0.deref.length)<|.ai (jE [[.v (.int .u8 ((a0.deref.hA).toInt))]])<|.ai (af (mk [40])+af (⟨(bytesOf [[.v (.int .u8 ((a0.deref.hA).toInt))]]).toArray⟩)<=9223372036854775807)<|.ai (af (((mk [40]):ByteArray)++(⟨(bytesOf [[.v (.int .u8 ((a0.deref.hA).toInt))]]).toArray⟩))+af (mk [32])<=9223372036854775807)<|.ai (af (((((mk [40]):ByteArray)++(⟨(bytesOf [[.v (.int .u8 ((a0.deref.hA).toInt))]]).toArray⟩)):ByteArray)++(mk [32]))+af r1.ah<=9223372036854775807)<|.ai (af (((((((mk [40]):ByteArray)++(⟨(bytesOf [[.v (.int .u8 ((a0.deref.hA).toInt))]]).toArray⟩)):ByteArray)++(mk [32])):ByteArray)++r1.ah)+af (mk [32])<=9223372036854775807)<|NZ a0<|NZ a0<|dR (a0.deref.drop 4)<|.call 176 [((a0.deref.drop 4).hA),a1,.gT 176 [none,some 0,some 1],.ref 0 0,.ref 1 0] [.cells [((o1.hO).cs.getD 0 .any)],.cells [VI (((o1.tail.hO).cs.getD 0 .any).toInt)]] fun r2 o2=>.ai ((o2.hO)=.cells (o2.hO).cs)<|.ai (aL [.lk .sl] ((o2.hO).cs) 0 1 o2.tail)<|.ai ((o2.tail.hO)=.cells (o2.tail.hO).cs)<|.ai (aL [.lk (.int .i64)] ((o2.tail.hO).cs) 0 2 o2.tail.tail)<|NS r2<|.ai (af (((((((((mk [40]):ByteArray)++(⟨(bytesOf [[.v (.int .u8 ((a0.deref.hA).toInt))]]).toArray⟩)):ByteArray)++(mk [32])):ByteArray)++r1.ah):ByteArray)++(mk [32]))+af r2.ah<=9223372036854775807)<|.ai (af (((((((((((mk [40]):ByteArray)++(⟨(bytesOf [[.v (.int .u8 ((a0.deref.hA).toInt))]]).toArray⟩)):ByteArray)++(mk [32])):ByteArray)++r1.ah):ByteArray)++(mk [32])):ByteArray)++r2.ah)+af (mk [41])<=9223372036854775807)<|.done 0 [VS (((((((((((((mk [40]):ByteArray)++(⟨(bytesOf [[.v (.int .u8 ((a0.deref.hA).toInt))]]).toArray⟩)):ByteArray)++(mk [32])):ByteArray)++r1.ah):ByteArray)++(mk [32])):ByteArray)++r2.ah):ByteArray)++(mk [41]))] [.cells [((o2.hO).cs.getD 0 .any)],.cells [VI (((o2.tail.hO).cs.getD 0 .any).toInt)]]) (.test (((a0.deref.hA).toInt)==(42:Int)) (NZ a0<|NZ a0<|dR (a0.deref.drop 3)<|.call 176 [((a0.deref.drop 3).hA),a1,.gT 176 [none,some 0,some 1],.ref 0 0,.ref 1 0] [.cells [a3_0],.cells [VI a4_0]] fun r3 o3=>.ai ((o3.hO)=.cells (o3.hO).cs)<|.ai (aL [.lk .sl] ((o3.hO).cs) 0 1 o3.tail)<|.ai ((o3.tail.hO)=.cells (o3.tail.hO).cs)<|.ai (aL [.lk (.int .i64)] ((o3.tail.hO).cs) 0 2 o3.tail.tail)<|NS r3<|NZ a0<|NZ a0<|.ai (LK.has (.int .u8) (a0.deref.hA)/\1<=a0.deref.length)<|.ai (jE [[.v (.int .u8 ((a0.deref.hA).toInt))]])<|.ai (af (mk [40])+af (⟨(bytesOf [[.v (.int .u8 ((a0.deref.hA).toInt))]]).toArray⟩)<=9223372036854775807)<|.ai (af (((mk [40]):ByteArray)++(⟨(bytesOf [[.v (.int .u8 ((a0.deref.hA).toInt))]]).toArray⟩))+af (mk [32])<=9223372036854775807)<|.ai (af (((((mk [40]):ByteArray)++(⟨(bytesOf [[.v (.int .u8 ((a0.deref.hA).toInt))]]).toArray⟩)):ByteArray)++(mk [32]))+af r3.ah<=9223372036854775807)<|.ai (af (((((((mk [40]):ByteArray)++(⟨(bytesOf [[.v (.int .u8 ((a0.deref.hA).toInt))]]).toArray⟩)):ByteArray)++(mk [32])):ByteArray)++r3.ah)+af (mk [32])<=9223372036854775807)<|NZ a0<|NZ a0<|dR (a0.deref.drop 4)<|.call 176 [((a0.deref.drop 4).hA),a1,.gT 176 [none,some 0,some 1],.ref 0 0,.ref 1 0] [.cells [((o3.hO).cs.getD 0 .any)],.cells [VI (((o3.tail.hO).cs.getD 0 .any).toInt)]] fun r4 o4=>.ai ((o4.hO)=.cells (o4.hO).cs)<|.ai (aL [.lk .sl] ((o4.hO).cs) 0 1 o4.tail)<|.ai ((o4.tail.hO)=.cells (o4.tail.hO).cs)<|.ai (aL [.lk (.int .i64)] ((o4.tail.hO).cs) 0 2 o4.tail.tail)<|NS r4<|.ai (af (((((((((mk [40]):ByteArray)++(⟨(bytesOf [[.v (.int .u8 ((a0.deref.hA).toInt))]]).toArray⟩)):ByteArray)++(mk [32])):ByteArray)++r3.ah):ByteArray)++(mk [32]))+af r4.ah<=9223372036854775807)<|.ai (af (((((((((((mk [40]):ByteArray)++(⟨(bytesOf [[.v (.int .u8 ((a0.deref.hA).toInt))]]).toArray⟩)):ByteArray)++(mk [32])):ByteArray)++r3.ah):ByteArray)++(mk [32])):ByteArray)++r4.ah)+af (mk [41])<=9223372036854775807)<|.done 0 [VS (((((((((((((mk [40]):ByteArray)++(⟨(bytesOf [[.v (.int .u8 ((a0.deref.hA).toInt))]]).toArray⟩)):ByteArray)++(mk [32])):ByteArray)++r3.ah):ByteArray)++(mk [32])):ByteArray)++r4.ah):ByteArray)++(mk [41]))] [.cells [((o4.hO).cs.getD 0 .any)],.cells [VI (((o4.tail.hO).cs.getD 0 .any).toInt)]]) (.test (((a0.deref.hA).toInt)==(114:Int)) (.loop Mb Gl [a0,a1,VS (mk [])] [.cells [a3_0],.cells [VI a4_0]] (fun y8 q8=>NP (y8.hA)<|NL (y8.tail.hA)<|NS (y8.tail.tail.hA)<|.ai ((q8.hO)=.cells (q8.hO).cs)<|.ai (ac [.lk .sl] ((q8.hO).cs) 0 q8.tail)<|.ai (((q8.tail.drop 0).hO)=.cells ((q8.tail.drop 0).hO).cs)<|.ai (ac [.lk (.int .i64)] (((q8.tail.drop 0).hO).cs) 0 ((q8.tail.drop 0).tail))<|.ai (af (mk [40,114,101,99,32])+af ((y8.tail.tail.hA).ah)<=9223372036854775807)<|.ai (af (((mk [40,114,101,99,32]):ByteArray)++((y8.tail.tail.hA).ah))+af (mk [32])<=9223372036854775807)<|NZ (y8.hA)<|NZ (y8.hA)<|dR ((y8.hA).deref.drop 3)<|.ai (LK.has .sl (y8.tail.hA)/\cy 1 ((y8.tail.hA).aP)/\((([]:List (List AV)).length)+((y8.tail.hA).aP).length)*16<=140737488355328)<|.ai (cy 1 [[VS ((y8.tail.tail.hA).ah)]]/\(((([]:List (List AV))++((y8.tail.hA).aP)).length)+([[VS ((y8.tail.tail.hA).ah)]]:List (List AV)).length)*16<=140737488355328)<|.call 176 [(((y8.hA).deref.drop 3).hA),.sl ((([]:List (List AV))++((y8.tail.hA).aP))++([[VS ((y8.tail.tail.hA).ah)]]:List (List AV))),.gT 176 [none,some 0,some 1],.ref 0 0,.ref 1 0] [.cells [((q8.hO).cs.getD 0 .any)],.cells [VI (((q8.tail.hO).cs.getD 0 .any).toInt)]] fun r9 o9=>.ai ((o9.hO)=.cells (o9.hO).cs)<|.ai (aL [.lk .sl] ((o9.hO).cs) 0 1 o9.tail)<|.ai ((o9.tail.hO)=.cells (o9.tail.hO).cs)<|.ai (aL [.lk (.int .i64)] ((o9.tail.hO).cs) 0 2 o9.tail.tail)<|NS r9<|.ai (af (((((mk [40,114,101,99,32]):ByteArray)++((y8.tail.tail.hA).ah)):ByteArray)++(mk [32]))+af r9.ah<=9223372036854775807)<|.ai (af (((((((mk [40,114,101,99,32]):ByteArray)++((y8.tail.tail.hA).ah)):ByteArray)++(mk [32])):ByteArray)++r9.ah)+af (mk [41])<=9223372036854775807)<|.done 0 [VS (((((((((mk [40,114,101,99,32]):ByteArray)++((y8.tail.tail.hA).ah)):ByteArray)++(mk [32])):ByteArray)++r9.ah):ByteArray)++(mk [41]))] [.cells [((o9.hO).cs.getD 0 .any)],.cells [VI (((o9.tail.hO).cs.getD 0 .any).toInt)]]) (fun y8 q8=>.ai ((q8.hO)=.cells (q8.hO).cs)<|.ai (ac [.lk .sl] ((q8.hO).cs) 0 q8.tail)<|.ai (((q8.tail.drop 0).hO)=.cells ((q8.tail.drop 0).hO).cs)<|.ai (ac [.lk (.int .i64)] (((q8.tail.drop 0).hO).cs) 0 ((q8.tail.drop 0).tail))<|.done 0 [.any] [.cells [((q8.hO).cs.getD 0 .any)],.cells [VI (((q8.tail.hO).cs.getD 0 .any).toInt)]])) (NZ a0<|NZ a0<|.ai (LK.has (.int .u8) (a0.deref.hA)/\1<=a0.deref.length)<|.ai (jE [[.v (.int .u8 ((a0.deref.hA).toInt))]])<|.done 0 [VS (⟨(bytesOf [[.v (.int .u8 ((a0.deref.hA).toInt))]]).toArray⟩)] [.cells [a3_0],.cells [VI a4_0]])))))
theorem wO(a0:AV)(a1:AV)(a3_0:AV)(a4_0:Int)(ha0:LK.has .ptr a0)(ha1:LK.has .sl a1)(ha3_0:LK.has .sl a3_0)(h:di 100 (EF a0 a1 a3_0 a4_0) R):an Tryz.prog 176 [a0,a1,.gT 176 [none,some 0,some 1],.ref 0 0,.ref 1 0] [.cells [a3_0],.cells [VI a4_0]] R :=
 an.mX (bx (ca (ag (bU ha3_0) aC)) (bx (ca (ag (aw _) aC)) ct)) (an.up (ag (bB ha0) (ag (bU ha1) (ag (aw _) (ag (aw _) (ag (aw _) aC))))) (oF NY {mu:=[(2,.sG 176 [none,some 0,some 1]),(3,.one (.obj [.lk .sl])),(4,.one (.obj [.lk (.int .i64)]))],own:=[]} Tryz.f176 h))
def FA(x0:AV)(x1:AV)(x9:ByteArray)(o0_0:AV)(o1_0:Int):Tree :=
 NP x0<|NL x1<|NS (VS x9)<|.ai (Ob.cells [o0_0]=.cells [o0_0])<|.ai (ac [.lk .sl] [o0_0] 0 [.cells [VI o1_0]])<|.ai (Ob.cells [VI o1_0]=.cells [VI o1_0])<|.ai (ac [.lk (.int .i64)] [VI o1_0] 0 [])<|.test (ae x9==ae (mk [])) (.call 174 [VI o1_0] [] fun r1 o1=>NS r1<|.ai (af (mk [116])+af r1.ah<=9223372036854775807)<|.done 0 [x0,x1,VS (((mk [116]):ByteArray)++r1.ah)] [.cells [o0_0],.cells [VI (IntKind.wrap .i64 (o1_0+1))]]) (.call 177 [o0_0,VS x9] [] fun r2 o2=>NB r2<|.test r2.toBool (.call 174 [VI o1_0] [] fun r3 o3=>NS r3<|.ai (af (mk [116])+af r3.ah<=9223372036854775807)<|.done 0 [x0,x1,VS (((mk [116]):ByteArray)++r3.ah)] [.cells [o0_0],.cells [VI (IntKind.wrap .i64 (o1_0+1))]]) (.done 1 [x0,x1,VS x9] [.cells [o0_0],.cells [VI o1_0]]))
abbrev Ev:=cB Tryz.prog 100 Mb Gl
theorem Ml(x0:AV)(x1:AV)(x9:ByteArray)(o0_0:AV)(o1_0:Int)(h:ka 100 (FA x0 x1 x9 o0_0 o1_0) Ev U):Ev [x0,x1,VS x9] [.cells [o0_0],.cells [VI o1_0]] U :=
 gQ NY h
def Mj(a0:AV)(a1:ByteArray):Tree :=
 .call 194 [a0,VS a1] [] fun r1 o1=>NI r1<|.done 0 [VB (decide (r1.toInt≥(0:Int)))] []
theorem Sv(a0:AV)(a1:ByteArray)(ha0:LK.has .sl a0)(h:di 9 (Mj a0 a1) R):an Tryz.prog 177 [a0,VS a1] [] R :=
 uQ (ag (bU ha0) (ag (aw _) aC)) (oQ [] Tryz.f177 h)
def JY(a0:Int):Tree :=
 .test (decide (a0≥(97:Int))) (.test (decide (a0<=(122:Int))) (.done 0 [VB true] []) (.test (decide (a0≥(48:Int))) (.test (decide (a0<=(57:Int))) (.done 0 [VB true] []) (.test (a0==(42:Int)) (.done 0 [VB true] []) (.done 0 [VB (a0==(43:Int))] []))) (.test (a0==(42:Int)) (.done 0 [VB true] []) (.done 0 [VB (a0==(43:Int))] [])))) (.test (decide (a0≥(48:Int))) (.test (decide (a0<=(57:Int))) (.done 0 [VB true] []) (.test (a0==(42:Int)) (.done 0 [VB true] []) (.done 0 [VB (a0==(43:Int))] []))) (.test (a0==(42:Int)) (.done 0 [VB true] []) (.done 0 [VB (a0==(43:Int))] [])))
theorem R0(a0:Int)(h:di 25 (JY a0) R):an Tryz.prog 178 [.v (.int .u8 a0)] [] R :=
 uQ (ag (aw _) aC) (oQ [] Tryz.f178 h)
def H8:LI:={hd:={bV:=[(0,.k .sl),(1,.c (.func (.func 159) #[] #[])),(7,.k (.int .i64)),(8,.k (.int .i64))]},xs:={},rt:={bV:=[(4,.k (.int .i64))]},ex:=0}
def IR:Code:=cF (cC Tryz.f179) 2
def OJ:List (Nat×LI):=[(2,H8)]
def L3(a0:AV):Tree :=
 NL a0<|.loop IR H8 [a0,.v (.func (.func 159) #[] #[]),VI (a0.aP.length:Int),VI 0] [] (fun y2 q2=>.done 0 [VI (-1)] []) (fun y2 q2=>NI (y2.hA)<|.done 0 [VI ((y2.hA).toInt)] [])
theorem QZ(a0:AV)(ha0:LK.has .sl a0)(h:di 19 (L3 a0) R):an Tryz.prog 179 [a0,.v (.func (.func 159) #[] #[])] [] R :=
 uQ (ag (bU ha0) (ag (aw _) aC)) (oQ OJ Tryz.f179 h)
def Gt(x0:AV)(x7:Int)(x8:Int):Tree :=
 NL x0<|.ai (AV.v (.func (.func 159) #[] #[])=.v (.func (.func 159) #[] #[]))<|NI (VI x7)<|NI (VI x8)<|.test (decide (x8<x7)) (NG x0 x8 1<|lB (x0.ix x8)<|.call 159 [VS (((x0.ix x8).hA).ah)] [] fun r1 o1=>NB r1<|.test r1.toBool (.done 2 [VI x8] []) (.done 0 [x0,.v (.func (.func 159) #[] #[]),VI x7,VI (IntKind.wrap .i64 (x8+1))] [])) (.done 1 [] [])
abbrev Gu:=cB Tryz.prog 19 IR H8
theorem Ov(x0:AV)(x7:Int)(x8:Int)(h:ka 19 (Gt x0 x7 x8) Gu U):Gu [x0,.v (.func (.func 159) #[] #[]),VI x7,VI x8] [] U :=
 gQ OJ h
def EN(a0:AV)(e1_0_0:List (List AV)):Tree :=
 .call 181 [a0,.ref 0 0] [.cells [.vec 1],.vec 1 e1_0_0] fun r1 o1=>.ai ((o1.hO)=.cells (o1.hO).cs)<|.ai (aL [.vec 1] ((o1.hO).cs) 0 1 o1.tail)<|NZ a0<|NZ a0<|dR (a0.deref.drop 3)<|NP ((a0.deref.drop 3).hA)<|.test (!((a0.deref.drop 3).hA).isNil) (NZ a0<|NZ a0<|dR (a0.deref.drop 3)<|.call 180 [((a0.deref.drop 3).hA),.fn 181 [.ref 0 0]] [.cells [.vec 1],.vec 1 ((o1.tail.hO).es)] fun r2 o2=>.ai ((o2.hO)=.cells (o2.hO).cs)<|.ai (aL [.vec 1] ((o2.hO).cs) 0 1 o2.tail)<|NZ a0<|NZ a0<|dR (a0.deref.drop 4)<|NP ((a0.deref.drop 4).hA)<|.test (!((a0.deref.drop 4).hA).isNil) (NZ a0<|NZ a0<|dR (a0.deref.drop 4)<|.call 180 [((a0.deref.drop 4).hA),.fn 181 [.ref 0 0]] [.cells [.vec 1],.vec 1 ((o2.tail.hO).es)] fun r3 o3=>.ai ((o3.hO)=.cells (o3.hO).cs)<|.ai (aL [.vec 1] ((o3.hO).cs) 0 1 o3.tail)<|.done 0 [.any] [.cells [.vec 1],.vec 1 ((o3.tail.hO).es)]) (.done 0 [.any] [.cells [.vec 1],.vec 1 ((o2.tail.hO).es)])) (NZ a0<|NZ a0<|dR (a0.deref.drop 4)<|NP ((a0.deref.drop 4).hA)<|.test (!((a0.deref.drop 4).hA).isNil) (NZ a0<|NZ a0<|dR (a0.deref.drop 4)<|.call 180 [((a0.deref.drop 4).hA),.fn 181 [.ref 0 0]] [.cells [.vec 1],.vec 1 ((o1.tail.hO).es)] fun r4 o4=>.ai ((o4.hO)=.cells (o4.hO).cs)<|.ai (aL [.vec 1] ((o4.hO).cs) 0 1 o4.tail)<|.done 0 [.any] [.cells [.vec 1],.vec 1 ((o4.tail.hO).es)]) (.done 0 [.any] [.cells [.vec 1],.vec 1 ((o1.tail.hO).es)]))
theorem xp(a0:AV)(e1_0_0:List (List AV))(ha0:LK.has .ptr a0)(h:di 29 (EN a0 e1_0_0) R):an Tryz.prog 180 [a0,.fn 181 [.ref 0 0]] [.cells [.vec 1],.vec 1 e1_0_0] R :=
 an.mX (bx (ca (ag (aw _) aC)) (bx (fK _) ct)) (an.up (ag (bB ha0) (ag (aw _) aC)) (oF [] {mu:=[(1,.fn [some (.obj [.vec 1])])],own:=[]} Tryz.f180 h))
def H0(a0:AV)(e1_0:List (List AV)):Tree :=
 NZ a0<|NZ a0<|.ai (LK.has (.int .u8) (a0.deref.hA)/\1<=a0.deref.length)<|.test (((a0.deref.hA).toInt)==(110:Int)) (NZ a0<|NZ a0<|lB (a0.deref.drop 1)<|.call 177 [.sl e1_0,VS (((a0.deref.drop 1).hA).ah)] [] fun r1 o1=>NB r1<|.test (!r1.toBool) (NZ a0<|NZ a0<|lB (a0.deref.drop 1)<|.ai (cy 1 [[VS (((a0.deref.drop 1).hA).ah)]]/\((e1_0.length)+([[VS (((a0.deref.drop 1).hA).ah)]]:List (List AV)).length)*16<=140737488355328)<|.done 0 [.any] [.cells [.vec 1],.vec 1 (e1_0++([[VS (((a0.deref.drop 1).hA).ah)]]:List (List AV)))]) (.done 0 [.any] [.cells [.vec 1],.vec 1 e1_0])) (.done 0 [.any] [.cells [.vec 1],.vec 1 e1_0])
theorem Rv(a0:AV)(e1_0:List (List AV))(ha0:LK.has .ptr a0)(h:di 24 (H0 a0 e1_0) R):an Tryz.prog 181 [a0,.ref 0 0] [.cells [.vec 1],.vec 1 e1_0] R :=
 an.mX (bx (ca (ag (aw _) aC)) (bx (fK _) ct)) (an.up (ag (bB ha0) (ag (aw _) aC)) (oF [] {mu:=[(1,.one (.obj [.vec 1]))],own:=[]} Tryz.f181 h))
def KE(a0:ByteArray)(a1:ByteArray):Tree :=
 .test (decide ((af a0:Int)≥(1:Int))) (.test (decide ((af a0:Int)<=(3:Int))) (.ai (0<=(0:Int)/\(0:Int)<=(1:Int)/\(1:Int)<=(af a0:Int))<|.call 195 [VS a1,VS (cn a0 (bJ 0) (bJ 1))] [] fun r1 o1=>NB r1<|.test r1.toBool (.ai (0<=(1:Int)/\(1:Int)<=(af a0:Int)/\(af a0:Int)<=(af a0:Int))<|.call 184 [VS (cn a0 (bJ 1) (bJ (af a0:Int))),VS (mk [48,49,50,51,52,53,54,55,56,57])] [] fun r2 o2=>NS r2<|.done 0 [VB (ae r2.ah==ae (mk []))] []) (.done 0 [VB false] [])) (.done 0 [VB false] [])) (.done 0 [VB false] [])
theorem Pp(a0:ByteArray)(a1:ByteArray)(h:di 25 (KE a0 a1) R):an Tryz.prog 182 [VS a0,VS a1] [] R :=
 uQ (ag (aw _) (ag (aw _) aC)) (oQ [] Tryz.f182 h)
def OT(a0:Int):Tree :=
 .test (decide (a0≥(97:Int))) (.test (decide (a0<=(122:Int))) (.done 0 [VB true] []) (.test (decide (a0≥(48:Int))) (.test (decide (a0<=(57:Int))) (.done 0 [VB true] []) (.test (a0==(43:Int)) (.done 0 [VB true] []) (.done 0 [VB (a0==(42:Int))] []))) (.test (a0==(43:Int)) (.done 0 [VB true] []) (.done 0 [VB (a0==(42:Int))] [])))) (.test (decide (a0≥(48:Int))) (.test (decide (a0<=(57:Int))) (.done 0 [VB true] []) (.test (a0==(43:Int)) (.done 0 [VB true] []) (.done 0 [VB (a0==(42:Int))] []))) (.test (a0==(43:Int)) (.done 0 [VB true] []) (.done 0 [VB (a0==(42:Int))] [])))
theorem Sa(a0:Int)(h:di 25 (OT a0) R):an Tryz.prog 183 [.v (.int .u8 a0)] [] R :=
 uQ (ag (aw _) aC) (oQ [] Tryz.f183 h)
def E8:LI:={hd:={bV:=[(17,.k (.int .i64))],refs:=[(4,4),(12,12),(14,14)],co:=[(4,[.lk .str,.lk .sl]),(12,[.lk .str,.lk .sl]),(14,[.lk .str,.lk .sl])],eV:=[(16,1)]},xs:={bV:=[(17,.k (.int .i64))],refs:=[(4,4),(12,12),(14,14)],co:=[(4,[.lk .str,.lk .sl]),(12,[.lk .str,.lk .sl]),(14,[.lk .str,.lk .sl])]},rt:={},ex:=0}
def MJ:Code:=cF (cC Tryz.f190) 13
def L7:List (Nat×LI):=[(13,E8)]
def KD(a0_0:ByteArray)(a0_1:AV)(a1:ByteArray):Tree :=
 .call 106 [.agg [VS a0_0,a0_1],.sl [[VS a1,.v (.slice none 0 0)]]] [] fun r1 o1=>NA r1<|NG (r1.cs.getD 1 .any) 1 2<|lB ((r1.cs.getD 1 .any).ix (1:Int))<|NG (r1.cs.getD 1 .any) 2 2<|NE ((r1.cs.getD 1 .any).ix (2:Int))<|.call 166 [.agg [VS ((((r1.cs.getD 1 .any).ix (2:Int)).getD 0 .any).ah),(((r1.cs.getD 1 .any).ix (2:Int)).getD 1 .any)],VS a1] [] fun r2 o2=>NT r2<|.ai ((r2.comp 0)=.agg (r2.comp 0).cs/\(r2.comp 0).cs.length=2/\bF [.str,.sl] ((r2.comp 0).cs) 0)<|NB (r2.comp 1)<|NG (r1.cs.getD 1 .any) 2 2<|NE ((r1.cs.getD 1 .any).ix (2:Int))<|.call 166 [.agg [VS ((((r1.cs.getD 1 .any).ix (2:Int)).getD 0 .any).ah),(((r1.cs.getD 1 .any).ix (2:Int)).getD 1 .any)],VS ((((r1.cs.getD 1 .any).ix (1:Int)).hA).ah)] [] fun r3 o3=>NT r3<|.ai ((r3.comp 0)=.agg (r3.comp 0).cs/\(r3.comp 0).cs.length=2/\bF [.str,.sl] ((r3.comp 0).cs) 0)<|NB (r3.comp 1)<|.test (!((r2.comp 1).toBool)) (.done 0 [.cD [.agg [VS ((r1.cs.getD 0 .any).ah),(r1.cs.getD 1 .any)],VB false]] []) (.test (!((r3.comp 1).toBool)) (.done 0 [.cD [.agg [VS ((r1.cs.getD 0 .any).ah),(r1.cs.getD 1 .any)],VB false]] []) (.call 167 [.agg [VS (((r2.comp 0).cs.getD 0 .any).ah),((r2.comp 0).cs.getD 1 .any)],VS ((((r1.cs.getD 1 .any).ix (1:Int)).hA).ah),.agg [VS ((r1.cs.getD 0 .any).ah),(r1.cs.getD 1 .any)]] [] fun r4 o4=>NT r4<|.ai ((r4.comp 0)=.agg (r4.comp 0).cs/\(r4.comp 0).cs.length=2/\bF [.str,.sl] ((r4.comp 0).cs) 0)<|NB (r4.comp 1)<|.call 167 [.agg [VS (((r3.comp 0).cs.getD 0 .any).ah),((r3.comp 0).cs.getD 1 .any)],VS ((((r1.cs.getD 1 .any).ix (1:Int)).hA).ah),.agg [VS ((r1.cs.getD 0 .any).ah),(r1.cs.getD 1 .any)]] [] fun r5 o5=>NT r5<|.ai ((r5.comp 0)=.agg (r5.comp 0).cs/\(r5.comp 0).cs.length=2/\bF [.str,.sl] ((r5.comp 0).cs) 0)<|NB (r5.comp 1)<|.test (!((r4.comp 1).toBool)) (.done 0 [.cD [.agg [VS ((r1.cs.getD 0 .any).ah),(r1.cs.getD 1 .any)],VB false]] []) (.test (!((r5.comp 1).toBool)) (.done 0 [.cD [.agg [VS ((r1.cs.getD 0 .any).ah),(r1.cs.getD 1 .any)],VB false]] []) (.call 137 [.agg [VS (((r5.comp 0).cs.getD 0 .any).ah),((r5.comp 0).cs.getD 1 .any)],.sl [],.vec 0] [.vec 1 []] fun r6 o6=>.ai (r6=.vec 1/\(o6.tail.hO)=.vec 1 (o6.tail.hO).es)<|.call 137 [.agg [VS (((r4.comp 0).cs.getD 0 .any).ah),((r4.comp 0).cs.getD 1 .any)],.sl [],.vec 0] [.vec 1 ((o6.tail.hO).es)] fun r7 o7=>.ai (r7=.vec 1/\(o7.tail.hO)=.vec 1 (o7.tail.hO).es)<|.loop MJ E8 [VI 0] [.cells [VS (mk []),.v (.slice none 0 0)],.cells [VS (((r4.comp 0).cs.getD 0 .any).ah),((r4.comp 0).cs.getD 1 .any)],.cells [VS (((r5.comp 0).cs.getD 0 .any).ah),((r5.comp 0).cs.getD 1 .any)],.vec 1 ((o7.tail.hO).es)] (fun y10 q10=>NI (y10.hA)<|.ai ((q10.hO)=.cells (q10.hO).cs)<|.ai (ac [.lk .str,.lk .sl] ((q10.hO).cs) 0 q10.tail)<|.ai (((q10.tail.drop 0).hO)=.cells ((q10.tail.drop 0).hO).cs)<|.ai (ac [.lk .str,.lk .sl] (((q10.tail.drop 0).hO).cs) 0 ((q10.tail.drop 0).tail))<|.ai ((((q10.tail.drop 0).tail.drop 0).hO)=.cells (((q10.tail.drop 0).tail.drop 0).hO).cs)<|.ai (ac [.lk .str,.lk .sl] ((((q10.tail.drop 0).tail.drop 0).hO).cs) 0 (((q10.tail.drop 0).tail.drop 0).tail))<|.call 142 [VI ((y10.hA).toInt)] [] fun r11 o11=>NS r11<|.ai (af (mk [116])+af r11.ah<=9223372036854775807)<|.call 98 [VS (mk [42]),.sl [[VS (((q10.tail.tail.hO).cs.getD 0 .any).ah),((q10.tail.tail.hO).cs.getD 1 .any)],[VS (((mk [116]):ByteArray)++r11.ah),.v (.slice none 0 0)]]] [] fun r12 o12=>NA r12<|.call 98 [VS (mk [43]),.sl [[VS (((q10.tail.hO).cs.getD 0 .any).ah),((q10.tail.hO).cs.getD 1 .any)],[VS ((r12.cs.getD 0 .any).ah),(r12.cs.getD 1 .any)]]] [] fun r13 o13=>NA r13<|.call 98 [VS (mk [114,101,99]),.sl [[VS (((mk [116]):ByteArray)++r11.ah),.v (.slice none 0 0)],[VS ((r13.cs.getD 0 .any).ah),(r13.cs.getD 1 .any)]]] [] fun r14 o14=>NA r14<|.call 140 [.agg [VS ((r14.cs.getD 0 .any).ah),(r14.cs.getD 1 .any)]] [] fun r15 o15=>NI r15<|.done 0 [.cD [.agg [VS ((r14.cs.getD 0 .any).ah),(r14.cs.getD 1 .any)],VB (decide (r15.toInt<=(400:Int)))]] []) (fun y10 q10=>.fail)))))
theorem R1(a0_0:ByteArray)(a0_1:AV)(a1:ByteArray)(ha0_1:LK.has .sl a0_1)(h:di 108 (KD a0_0 a0_1 a1) R):an Tryz.prog 190 [.agg [VS a0_0,a0_1],VS a1] [] R :=
 uQ (ag (cf (ag (aw _) (ag (bU ha0_1) aC))) (ag (aw _) aC)) (oQ L7 Tryz.f190 h)
def NV(x17:Int)(o4_0:ByteArray)(o4_1:AV)(o12_0:ByteArray)(o12_1:AV)(o14_0:ByteArray)(o14_1:AV)(e16:List (List AV)):Tree :=
 NI (VI x17)<|.ai (Ob.cells [VS o4_0,o4_1]=.cells [VS o4_0,o4_1])<|.ai (ac [.lk .str,.lk .sl] [VS o4_0,o4_1] 0 [.cells [VS o12_0,o12_1],.cells [VS o14_0,o14_1],.vec 1 e16])<|.ai (Ob.cells [VS o12_0,o12_1]=.cells [VS o12_0,o12_1])<|.ai (ac [.lk .str,.lk .sl] [VS o12_0,o12_1] 0 [.cells [VS o14_0,o14_1],.vec 1 e16])<|.ai (Ob.cells [VS o14_0,o14_1]=.cells [VS o14_0,o14_1])<|.ai (ac [.lk .str,.lk .sl] [VS o14_0,o14_1] 0 [.vec 1 e16])<|.ai (Ob.vec 1 e16=.vec 1 e16)<|.call 142 [VI x17] [] fun r1 o1=>NS r1<|.ai (af (mk [116])+af r1.ah<=9223372036854775807)<|.call 169 [.sl e16,VS (((mk [116]):ByteArray)++r1.ah)] [] fun r2 o2=>NB r2<|.test r2.toBool (.done 0 [VI (IntKind.wrap .i64 (x17+1))] [.cells [VS o4_0,o4_1],.cells [VS o12_0,o12_1],.cells [VS o14_0,o14_1],.vec 1 e16]) (.done 1 [VI x17] [.cells [VS o4_0,o4_1],.cells [VS o12_0,o12_1],.cells [VS o14_0,o14_1]])
abbrev Fu:=cB Tryz.prog 108 MJ E8
theorem Qt(x17:Int)(o4_0:ByteArray)(o4_1:AV)(o12_0:ByteArray)(o12_1:AV)(o14_0:ByteArray)(o14_1:AV)(e16:List (List AV))(h:ka 108 (NV x17 o4_0 o4_1 o12_0 o12_1 o14_0 o14_1 e16) Fu U):Fu [VI x17] [.cells [VS o4_0,o4_1],.cells [VS o12_0,o12_1],.cells [VS o14_0,o14_1],.vec 1 e16] U :=
 gQ L7 h
def Bv(a0_0:ByteArray)(a0_1:AV)(a1:ByteArray):Tree :=
 .test (!(ae a0_0==ae (mk []))) (.test (ae a0_0==ae a1) (.done 0 [VI 1] []) (.done 0 [VI 0] [])) (.call 121 [.agg [VS a0_0,a0_1]] [] fun r1 o1=>NS r1<|.test (ae r1.ah==ae (mk [114,101,99])) (NG a0_1 1 2<|lB (a0_1.ix (1:Int))<|.test (ae (((a0_1.ix (1:Int)).hA).ah)==ae a1) (.done 0 [VI 0] []) (NG a0_1 2 2<|NE (a0_1.ix (2:Int))<|.call 191 [.agg [VS (((a0_1.ix (2:Int)).getD 0 .any).ah),((a0_1.ix (2:Int)).getD 1 .any)],VS a1] [] fun r2 o2=>NI r2<|.done 0 [VI r2.toInt] [])) (NG a0_1 1 2<|NE (a0_1.ix (1:Int))<|.call 191 [.agg [VS (((a0_1.ix (1:Int)).getD 0 .any).ah),((a0_1.ix (1:Int)).getD 1 .any)],VS a1] [] fun r3 o3=>NI r3<|NG a0_1 2 2<|NE (a0_1.ix (2:Int))<|.call 191 [.agg [VS (((a0_1.ix (2:Int)).getD 0 .any).ah),((a0_1.ix (2:Int)).getD 1 .any)],VS a1] [] fun r4 o4=>NI r4<|.done 0 [VI (IntKind.wrap .i64 (r3.toInt+r4.toInt))] []))
theorem Db(a0_0:ByteArray)(a0_1:AV)(a1:ByteArray)(ha0_1:LK.has .sl a0_1)(h:di 41 (Bv a0_0 a0_1 a1) R):an Tryz.prog 191 [.agg [VS a0_0,a0_1],VS a1] [] R :=
 uQ (ag (cf (ag (aw _) (ag (bU ha0_1) aC))) (ag (aw _) aC)) (oQ [] Tryz.f191 h)
def AI(a0_0:ByteArray)(a0_1:AV)(a1:ByteArray)(a2_0:ByteArray)(a2_1:AV):Tree :=
 .test (!(ae a0_0==ae (mk []))) (.test (ae a0_0==ae a1) (.done 0 [.agg [VS a2_0,a2_1]] []) (.done 0 [.agg [VS a0_0,a0_1]] [])) (.call 121 [.agg [VS a0_0,a0_1]] [] fun r1 o1=>NS r1<|.test (ae r1.ah==ae (mk [114,101,99])) (NG a0_1 1 2<|lB (a0_1.ix (1:Int))<|.test (ae (((a0_1.ix (1:Int)).hA).ah)==ae a1) (.done 0 [.agg [VS a0_0,a0_1]] []) (NG a0_1 1 2<|NE (a0_1.ix (1:Int))<|NG a0_1 2 2<|NE (a0_1.ix (2:Int))<|.call 192 [.agg [VS (((a0_1.ix (2:Int)).getD 0 .any).ah),((a0_1.ix (2:Int)).getD 1 .any)],VS a1,.agg [VS a2_0,a2_1]] [] fun r2 o2=>NA r2<|.call 98 [VS (mk [114,101,99]),.sl [[VS (((a0_1.ix (1:Int)).getD 0 .any).ah),((a0_1.ix (1:Int)).getD 1 .any)],[VS ((r2.cs.getD 0 .any).ah),(r2.cs.getD 1 .any)]]] [] fun r3 o3=>NA r3<|.done 0 [.agg [VS ((r3.cs.getD 0 .any).ah),(r3.cs.getD 1 .any)]] [])) (.call 121 [.agg [VS a0_0,a0_1]] [] fun r4 o4=>NS r4<|NG a0_1 1 2<|NE (a0_1.ix (1:Int))<|.call 192 [.agg [VS (((a0_1.ix (1:Int)).getD 0 .any).ah),((a0_1.ix (1:Int)).getD 1 .any)],VS a1,.agg [VS a2_0,a2_1]] [] fun r5 o5=>NA r5<|NG a0_1 2 2<|NE (a0_1.ix (2:Int))<|.call 192 [.agg [VS (((a0_1.ix (2:Int)).getD 0 .any).ah),((a0_1.ix (2:Int)).getD 1 .any)],VS a1,.agg [VS a2_0,a2_1]] [] fun r6 o6=>NA r6<|.call 98 [VS r4.ah,.sl [[VS ((r5.cs.getD 0 .any).ah),(r5.cs.getD 1 .any)],[VS ((r6.cs.getD 0 .any).ah),(r6.cs.getD 1 .any)]]] [] fun r7 o7=>NA r7<|.done 0 [.agg [VS ((r7.cs.getD 0 .any).ah),(r7.cs.getD 1 .any)]] []))
theorem D8(a0_0:ByteArray)(a0_1:AV)(a1:ByteArray)(a2_0:ByteArray)(a2_1:AV)(ha0_1:LK.has .sl a0_1)(ha2_1:LK.has .sl a2_1)(h:di 58 (AI a0_0 a0_1 a1 a2_0 a2_1) R):an Tryz.prog 192 [.agg [VS a0_0,a0_1],VS a1,.agg [VS a2_0,a2_1]] [] R :=
 uQ (ag (cf (ag (aw _) (ag (bU ha0_1) aC))) (ag (aw _) (ag (cf (ag (aw _) (ag (bU ha2_1) aC))) aC))) (oQ [] Tryz.f192 h)
def FD:LI:={hd:={bV:=[(0,.k .sl),(1,.k .str),(7,.k (.int .i64)),(8,.k (.int .i64))]},xs:={},rt:={bV:=[(4,.k (.int .i64))]},ex:=0}
def MH:Code:=cF (cC Tryz.f194) 2
def Kc:List (Nat×LI):=[(2,FD)]
def LP(a0:AV)(a1:ByteArray):Tree :=
 NL a0<|.loop MH FD [a0,VS a1,VI (a0.aP.length:Int),VI 0] [] (fun y1 q1=>.done 0 [VI (-1)] []) (fun y1 q1=>NI (y1.hA)<|.done 0 [VI ((y1.hA).toInt)] [])
theorem PC(a0:AV)(a1:ByteArray)(ha0:LK.has .sl a0)(h:di 19 (LP a0 a1) R):an Tryz.prog 194 [a0,VS a1] [] R :=
 uQ (ag (bU ha0) (ag (aw _) aC)) (oQ Kc Tryz.f194 h)
def GB(x0:AV)(x1:ByteArray)(x7:Int)(x8:Int):Tree :=
 NL x0<|NS (VS x1)<|NI (VI x7)<|NI (VI x8)<|.test (decide (x8<x7)) (NG x0 x8 1<|lB (x0.ix x8)<|.test (ae x1==ae (((x0.ix x8).hA).ah)) (.done 2 [VI x8] []) (.done 0 [x0,VS x1,VI x7,VI (IntKind.wrap .i64 (x8+1))] [])) (.done 1 [] [])
abbrev Fs:=cB Tryz.prog 19 MH FD
theorem Kr(x0:AV)(x1:ByteArray)(x7:Int)(x8:Int)(h:ka 19 (GB x0 x1 x7 x8) Fs U):Fs [x0,VS x1,VI x7,VI x8] [] U :=
 gQ Kc h
end
end Go.Proofs.Trees
namespace Go.Proofs.Trees
open Go Go.VL
theorem bA(i:Nat)(h:i<1000000000000):IntKind.wrap .i64 ((i:Int)+1)=((i+1:Nat):Int):=by rw[wrap64]<;>omega
inductive E where
 |atom (s:List UInt8)
 |list (l:List E)
mutual
def E.cA:E->AV
 | .atom s=>.ptr [.v (.string (mk s)),.v (.slice none 0 0)]
 | .list l=>.ptr [.v (.string (mk [])),.sl (E.mq l)]
def E.mq:List E->List (List AV)
 |[]=>[]
 |e::l=>[e.cA]::E.mq l
end
mutual
def E.iw:E->List AV
 | .atom s=>[.v (.string (mk s)),.v (.slice none 0 0)]
 | .list l=>[.v (.string (mk [])),.sl (E.bw l)]
def E.bw:List E->List (List AV)
 |[]=>[]
 |e::l=>e.iw::E.bw l
end
def E.kI(e:E):AV:=.agg e.iw
theorem wb(l r:List E):E.mq (l++r)=E.mq l++E.mq r:=by
 induction l with
 |nil=>rfl
 |cons e l ih=>simp[E.mq,ih]
theorem qb(l r:List E):E.bw (l++r)=E.bw l++E.bw r:=by
 induction l with
 |nil=>rfl
 |cons e l ih=>simp[E.bw,ih]
theorem rH(l:List E):(E.mq l).length=l.length:=by
 induction l with
 |nil=>rfl
 |cons e l ih=>simp[E.mq,ih]
theorem eg(l:List E):(E.bw l).length=l.length:=by
 induction l with
 |nil=>rfl
 |cons e l ih=>simp[E.bw,ih]
def fh(b:UInt8):Bool:=decide ((97<=b.toNat/\b.toNat<=122)\/(48<=b.toNat/\b.toNat<=57)\/b.toNat=43\/b.toNat=42)
def sA(f:List UInt8->Option (E×List UInt8)):Nat->List UInt8->List E->Option (E×List UInt8)
 |0,_,_=>none
 |
  n+1,s,acc=>match f s with
  |some (p,c::r)=>if c.toNat=41 then some (.list (acc++[p]),r)else if c.toNat=32 then sA f n r (acc++[p])else none
  |_=>none
def rd:Nat->List UInt8->Option (E×List UInt8)
 |0,s=>if s.takeWhile fh=[]then none else some (.atom (s.takeWhile fh),s.dropWhile fh)
 |k+1,s=>if s.takeWhile fh=[]then(match s with
  |c::r=>if c.toNat=40 then sA (rd k) (r.length+1) r []else none
  |[]=>none)else some (.atom (s.takeWhile fh),s.dropWhile fh)
theorem Cq{f:List UInt8->Option (E×List UInt8)}(hf:∀s e r,f s=some (e,r)->r.length<s.length):∀(n:Nat) (s:List UInt8) (acc:List E) (e:E) (r:List UInt8),sA f n s acc=some (e,r)->r.length<s.length
 |0,s,acc,e,r,h=>by cases h
 |
  n+1,s,acc,e,r,h=>by
  simp only[sA]at h
  split at h
  ·rename_i p c r' hs
   have:=hf _ _ _ hs
   simp only[aA]at this
   split at h
   ·cases h;omega
   ·split at h
    ·have:=Cq hf n _ _ _ _ h;omega
    ·cases h
  ·cases h
theorem oH{s:List UInt8}(h:¬s.takeWhile fh=[]):(s.dropWhile fh).length<s.length:=by
 have h1:=congrArg List.length (List.takeWhile_append_dropWhile (p:=fh) (l:=s))
 simp only[aq]at h1
 have:0<(s.takeWhile fh).length:=List.length_pos_iff.2 h
 omega
theorem yI:∀(k:Nat) (s:List UInt8) (e:E) (r:List UInt8),rd k s=some (e,r)->r.length<s.length
 |
  0,s,e,r,h=>by
  simp only[rd]at h
  split at h
  ·cases h
  ·rename_i hn;cases h;exact oH hn
 |
  k+1,s,e,r,h=>by
  simp only[rd]at h
  split at h
  ·split at h
   ·split at h
    ·have:=Cq (yI k) _ _ _ _ _ h
     simp only[aA];omega
    ·cases h
   ·cases h
  ·rename_i hn;cases h;exact oH hn
theorem QN(b:UInt8):an Tryz.prog 183 [.v (.int .u8 (b.toNat:Int))] [] (bK (.v (.bool (fh b)))):=by
 refine Sa _ ?_
 simp only[OT,↓zq,zs,ac,bK,fh]
 repeat' (apply aI<;>intro _)
 all_goals first|(congr 2;rw[cw];simp;omega)|(congr 2;simp;omega)
theorem yA{s:List UInt8}{i:Nat}(hi:i<s.length)(hb:fh (s.getD i 0)=true):((s.drop i).takeWhile fh).length=((s.drop (i+1)).takeWhile fh).length+1:=by
 have e:s.drop i=s.getD i 0::s.drop (i+1):=by
  rw[aU hi];simp[aa,hi]
 rw[e,List.takeWhile_cons_of_pos hb];simp
theorem qZ{s:List UInt8}{i:Nat}(hi:i<s.length)(hb:fh (s.getD i 0)=false):(s.drop i).takeWhile fh=[]:=by
 have e:s.drop i=s.getD i 0::s.drop (i+1):=by
  rw[aU hi];simp[aa,hi]
 rw[e,List.takeWhile_cons_of_neg (by rw[hb];simp)]
theorem Fw(s:List UInt8)(hs:s.length<=8000)(d:Int):∀(k i:Nat),i+k=s.length->Fc [.v (.string (mk s)),.v (.int .i64 d),.v (.int .i64 (i:Int))] [] (gV 1 [.v (.string (mk s)),.v (.int .i64 d),.v (.int .i64 ((i+((s.drop i).takeWhile fh).length:Nat):Int))] [])
 |
  0,i,hi=>by
  refine Jo _ _ _ ?_
  have hd:s.drop i=[]:=bW (by omega)
  simp only[Fa,↓zq,zs,ac,zt]
  exact⟨fun h=>by omega,fun _=>by simp[gV,hd]⟩
 |
  k+1,i,hi=>by
  have hlt:i<s.length:=by omega
  refine Jo _ _ _ ?_
  simp only[Fa,↓zq,zs,ac,zt,ml s i hlt]
  refine⟨fun _=>⟨by omega,?_⟩,fun h=>by omega⟩
  refine aj (QN _) ?_
  simp only[↓zq,zs,ac]
  refine⟨fun hb=>?_,fun hb=>?_⟩
  ·rw[bA i (by omega)]
   have:=Fw s hs d k (i+1) (by omega)
   rw[yA hlt hb,show i+(((s.drop (i+1)).takeWhile fh).length+1)=i+1+((s.drop (i+1)).takeWhile fh).length by omega]
   exact this
  ·simp[gV,qZ hlt hb]
def pw(s:List UInt8):Option (E×List UInt8)->AV
 |some (e,r)=>.cD [e.cA,.v (.string (mk r))]
 |none=>.cD [.v (.pointer none),.v (.string (mk s))]
theorem cV(e:E):LK.has .ptr e.cA=True:=by cases e<;>simp[E.cA,cb]
theorem er(e:E):e.cA.isNil=false:=by cases e<;>rfl
theorem uR(s:List UInt8):s.take (s.takeWhile fh).length=s.takeWhile fh:=by
 have h:=List.takeWhile_append_dropWhile (p:=fh) (l:=s)
 have:(s.takeWhile fh++s.dropWhile fh).take (s.takeWhile fh).length=s.takeWhile fh:=List.take_left
 rw[h]at this;exact this
theorem yu(s:List UInt8):s.drop (s.takeWhile fh).length=s.dropWhile fh:=by
 have h:=List.takeWhile_append_dropWhile (p:=fh) (l:=s)
 have:(s.takeWhile fh++s.dropWhile fh).drop (s.takeWhile fh).length=s.dropWhile fh:=List.drop_left
 rw[h]at this;exact this
theorem BY(c:UInt8)(r:List UInt8):(List.take (r.length+1) (c::r)).drop (bJ 1)=r:=by simp
theorem Jk(s0:List UInt8)(k:Nat)(hk:k<300)(ih:∀s,s.length<=8000->an Tryz.prog 160 [.v (.string (mk s)),.v (.int .i64 ((300-k:Nat):Int))] [] (bK (pw s (rd k s)))) :
 ∀(n:Nat) (s:List UInt8) (acc:List E),s.length<n->s.length+acc.length<=8000->G4 [.v (.string (mk s0)),.v (.int .i64 ((300-(k+1):Nat):Int)),.v (.string (mk s))] [.cells [.v (.string (mk [])),.any],.vec 1 (E.mq acc)]
  (py (match sA (rd k) n s acc with|some (e,r)=>(2,[e.cA,.v (.string (mk r))],[])|none=>(2,[.v (.pointer none),.v (.string (mk s0))],[])))
 |0,s,acc,hn,_=>by omega
 |
  n+1,s,acc,hn,hl=>by
  refine Rg _ _ _ _ _ ?_
  simp only[Ox,↓zq,zs,ac,BJ]
  have hd:IntKind.wrap .i64 (((300-(k+1):Nat):Int)+1)=((300-k:Nat):Int):=by rw[wrap64]<;>omega
  rw[hd]
  refine aj (ih s (by omega)) ?_
  have hlt:=yI k s
  cases hr:rd k s with
  |
   none =>
   simp only[pw,↓zq,zs,ac,sA,hr]
   simp[py]
  |
   some q =>
   obtain⟨e,r⟩:=q
   have:=hlt e r hr
   cases r with
   |
    nil =>
    simp only[pw,↓zq,zs,ac,zt,sA,hr,cV,er]
    simp[py]
   |
    cons c r =>
    simp only[aA]at this
    have hb:=ml (c::r) 0 (by simp)
    simp only[Int.ofNat_eq_natCast,Int.cast_ofNat_Int]at hb
    have e2:(List.take (c::r).length (c::r)).drop 1=r:=by simp
    simp only[pw,↓zq,zs,ac,zt,sA,hr,cV,er,hb,e2,rH]
    refine⟨fun h=>(by cases h),fun _=>⟨fun h=>(by cases h),fun _=>⟨⟨fun c hc=>(by simp at hc;rw[hc];rfl),by omega⟩,by omega,by omega,fun h41=>?_,fun h41=>⟨by omega,fun h32=>?_,fun h32=>?_⟩⟩⟩⟩
    ·have h41':c.toNat=41:=by omega
     rw[BY,if_pos h41']
     simp[py,E.cA,wb,E.mq]
    ·have h41':¬c.toNat=41:=by omega
     have h32':¬c.toNat=32:=by omega
     rw[if_neg h41',if_neg h32']
    ·have h41':¬c.toNat=41:=by omega
     have h32':c.toNat=32:=by omega
     rw[BY,if_neg h41',if_pos h32']
     have:=Jk s0 k hk ih n r (acc++[e]) (by omega) (by simp;omega)
     simpa[wb,E.mq]using this
theorem Pd:∀(k:Nat),k<=300->∀s:List UInt8,s.length<=8000->an Tryz.prog 160 [.v (.string (mk s)),.v (.int .i64 ((300-k:Nat):Int))] [] (bK (pw s (rd k s))):=by
 intro k
 induction k with
 |
  zero =>
  intro hk s hs
  refine N2 _ _ ?_
  unfold Gv
  refine cx (Fw s hs _ s.length 0 (by omega)) ?_
  simp only[↓zq,zs,ac,zt,a6,bK]
  have hw:(s.takeWhile fh).length<=s.length:=by
   have:=congrArg List.length (List.takeWhile_append_dropWhile (p:=fh) (l:=s))
   simp only[aq]at this;omega
  refine⟨fun h=>⟨by omega,by omega,?_⟩,fun h=>?_⟩
  ·have hne:¬s.takeWhile fh=[]:=fun e=>by rw[e]at h;simp at h
   simp only[rd,if_neg hne,pw,E.cA,uR,yu]
  ·have hnil:s.takeWhile fh=[]:=bG (by omega)
   simp only[rd,if_pos hnil,pw]
   refine⟨fun _=>trivial,fun hne=>⟨?_,?_⟩⟩
   ·cases s with
    |nil=>exact absurd rfl hne
    |cons c s=>simp
   ·exact⟨fun _=>trivial,fun _=>⟨fun _=>trivial,fun h=>absurd rfl h⟩⟩
 |
  succ k ih =>
  intro hk s hs
  refine N2 _ _ ?_
  unfold Gv
  refine cx (Fw s hs _ s.length 0 (by omega)) ?_
  simp only[↓zq,zs,ac,zt,a6,bK]
  have hw:(s.takeWhile fh).length<=s.length:=by
   have:=congrArg List.length (List.takeWhile_append_dropWhile (p:=fh) (l:=s))
   simp only[aq]at this;omega
  refine⟨fun h=>⟨by omega,by omega,?_⟩,fun h=>?_⟩
  ·have hne:¬s.takeWhile fh=[]:=fun e=>by rw[e]at h;simp at h
   simp only[rd,if_neg hne,pw,E.cA,uR,yu]
  ·have hnil:s.takeWhile fh=[]:=bG (by omega)
   simp only[rd,if_pos hnil]
   cases s with
   |nil=>simp[pw]
   |
    cons c s =>
    have hb:=ml (c::s) 0 (by simp)
    simp only[Int.ofNat_eq_natCast,Int.cast_ofNat_Int]at hb
    simp only[aA]at hs
    simp only[↓zq,zs,ac,hb,BY]
    refine⟨fun h=>(by cases h),fun _=>⟨by omega,fun h40=>?_,fun h40=>⟨fun h300=>?_,fun h300=>⟨by omega,?_⟩⟩⟩⟩
    ·have:¬c.toNat=40:=by omega
     rw[if_neg this];rfl
    ·omega
    ·have h40':c.toNat=40:=by omega
     rw[if_pos h40']
     refine fI (Jk (c::s) k (by omega) (ih (by omega)) (s.length+1) s [] (by omega) (by simp;omega)) (fun ys o e=>?_) (fun ys o e=>?_)
     ·split at e<;>cases e
     ·split at e<;>cases e
      ·rename_i e' r' hr
       simp only[↓zq,zs,ac,cV]
       simp only[hr,pw]
      ·rename_i hr
       simp only[↓zq,zs,ac]
       simp only[hr,pw]
end Go.Proofs.Trees
namespace Go.Proofs.Trees
open Go Go.VL
mutual
def E.sz:E->Nat
 | .atom _=>1
 | .list l=>1+E.jv l
def E.jv:List E->Nat
 |[]=>0
 |e::l=>e.sz+E.jv l
end
mutual
def E.ok:E->Prop
 | .atom s=>s≠[]
 | .list l=>E.Er l
def E.Er:List E->Prop
 |[]=>True
 |e::l=>e.ok/\E.Er l
end
theorem xY(l r:List E):E.jv (l++r)=E.jv l+E.jv r:=by
 induction l with
 |nil=>simp[E.jv]
 |cons e l ih=>simp[E.jv,ih];omega
theorem xI(l r:List E):E.Er (l++r)↔E.Er l/\E.Er r:=by
 induction l with
 |nil=>simp[E.Er]
 |cons e l ih=>simp[E.Er,ih,and_assoc]
theorem Bx{f:List UInt8->Option (E×List UInt8)}(hf:∀s e r,f s=some (e,r)->e.ok/\e.sz+r.length<=s.length):∀(n:Nat) (s:List UInt8) (acc:List E) (e:E) (r:List UInt8),sA f n s acc=some (e,r)->E.Er acc->e.ok/\e.sz+r.length<=s.length+1+E.jv acc
 |0,s,acc,e,r,h,_=>by cases h
 |
  n+1,s,acc,e,r,h,ha=>by
  simp only[sA]at h
  split at h
  ·rename_i p c r' hs
   obtain⟨h1,h2⟩:=hf _ _ _ hs
   simp only[aA]at h2
   split at h
   ·cases h
    refine⟨(xI _ _).2 ⟨ha,h1,trivial⟩,?_⟩
    simp only[E.sz,xY,E.jv];omega
   ·split at h
    ·have:=Bx hf n _ _ _ _ h ((xI _ _).2 ⟨ha,h1,trivial⟩)
     refine⟨this.1,?_⟩
     have h3:=this.2
     simp only[xY,E.jv]at h3;omega
    ·cases h
  ·cases h
theorem ue(s:List UInt8):(s.takeWhile fh).length+(s.dropWhile fh).length=s.length:=by
 have:=congrArg List.length (List.takeWhile_append_dropWhile (p:=fh) (l:=s))
 simpa only[aq]using this
theorem ES:∀(k:Nat) (s:List UInt8) (e:E) (r:List UInt8),rd k s=some (e,r)->e.ok/\e.sz+r.length<=s.length
 |
  0,s,e,r,h=>by
  simp only[rd]at h
  split at h
  ·cases h
  ·rename_i hn;cases h
   have:=ue s
   have:0<(s.takeWhile fh).length:=List.length_pos_iff.2 hn
   exact⟨hn,by simp only[E.sz];omega⟩
 |
  k+1,s,e,r,h=>by
  simp only[rd]at h
  split at h
  ·split at h
   ·split at h
    ·have:=Bx (ES k) _ _ _ _ _ h trivial
     refine⟨this.1,?_⟩
     have h3:=this.2
     simp only[E.jv,aA]at h3 |-;omega
    ·cases h
   ·cases h
  ·rename_i hn;cases h
   have:=ue s
   have:0<(s.takeWhile fh).length:=List.length_pos_iff.2 hn
   exact⟨hn,by simp only[E.sz];omega⟩
def qY(s:List UInt8):Option E:=if s.length>8000 then none else match rd 300 s with|some (e,[])=>some e|_=>none
theorem nX{s:List UInt8}{e:E}(h:qY s=some e):e.ok/\e.sz<=8000:=by
 unfold qY at h
 split at h
 ·cases h
 ·split at h
  ·rename_i e' hr
   cases h
   have:=ES _ _ _ _ hr
   exact⟨this.1,by have:=this.2;simp at this;omega⟩
  ·cases h
def uD:Option E->AV
 |some e=>e.cA
 |none=>.v (.pointer none)
theorem Nd(s:List UInt8):an Tryz.prog 128 [.v (.string (mk s))] [] (bK (uD (qY s))):=by
 refine SG _ ?_
 simp only[KP,↓zq,zs,ac,zt,bK,qY]
 refine⟨fun h=>?_,fun h=>?_⟩
 ·rw[if_pos (by omega)];simp[uD]
 ·rw[if_neg (by omega)]
  refine aj (Pd 300 (by omega) s (by omega)) ?_
  cases hr:rd 300 s with
  |
   none =>
   simp only[pw,↓zq,zs,ac,zt,uD]
   refine⟨fun _=>trivial,fun _=>trivial⟩
  |
   some q =>
   obtain⟨e,r⟩:=q
   cases r with
   |nil=>simp only[pw,↓zq,zs,ac,zt,uD,cV];simp
   |cons c r=>simp only[pw,↓zq,zs,ac,zt,uD,cV];simp
def iq(b:UInt8):Bool:=decide (48<=b.toNat/\b.toNat<=57)
def named(lo hi:Nat):List UInt8->Bool
 |[]=>false
 |c::r=>decide (r.length<=2)&&decide (lo<=c.toNat/\c.toNat<=hi)&&r.all iq
def im(s:List UInt8):Bool:=named 120 122 s
def dk(s:List UInt8):Bool:=named 116 116 s
def CM(v lo hi:Int):Bool:=decide (lo<=v/\v<=hi)
theorem AN(v lo hi:Int):an Tryz.prog 56 [.v (.int .i64 v),.v (.int .i64 lo),.v (.int .i64 hi)] [] (bK (.v (.bool (CM v lo hi)))):=by
 refine Pf _ _ _ ?_
 simp only[J8,↓zq,zs,ac,bK,CM]
 constructor<;>intro h<;>simp at h<;>simp[h]
 omega
theorem JE(s:List UInt8)(hs:s.length<=3):∀(k i:Nat),i+k=s.length->HA [.v (.string (mk s)),.v (.int .i64 (i:Int))] [] (py (if(s.drop i).all iq=true then(1,[],[])else(2,[.v (.bool false)],[])))
 |
  0,i,hi=>by
  have hd:s.drop i=[]:=bW (by omega)
  refine Lv _ _ ?_
  simp only[Gm,↓zq,zs,ac,zt]
  exact⟨fun h=>by omega,fun _=>by simp[py,hd]⟩
 |
  k+1,i,hi=>by
  have hlt:i<s.length:=by omega
  have e:s.drop i=s.getD i 0::s.drop (i+1):=by
   rw[aU hlt];simp[aa,hlt]
  refine Lv _ _ ?_
  simp only[Gm,↓zq,zs,ac,zt,ml s i hlt,e,da]
  generalize hb:s.getD i 0=b
  refine⟨fun _=>⟨by omega,fun h=>?_,fun h=>⟨by omega,fun h2=>?_,fun h2=>?_⟩⟩,fun h=>by omega⟩
  ·have:iq b=false:=by simp[iq];omega
   simp only[this,zf,py]
  ·have:iq b=false:=by simp[iq];omega
   simp only[this,zf,py]
  ·have:iq b=true:=by simp[iq];omega
   rw[bA i (by omega),this,bY]
   exact JE s hs k (i+1) (by omega)
theorem OF(s:List UInt8)(lo hi:Nat):an Tryz.prog 170 [.v (.string (mk s)),.v (.int .u8 (lo:Int)),.v (.int .u8 (hi:Int))] [] (bK (.v (.bool (named lo hi s)))):=by
 refine Q2 _ _ _ ?_
 unfold J5
 rw[cN]
 refine aj (AN _ _ _) ?_
 simp only[↓zq,zs,ac,zt,bK]
 refine⟨fun h=>?_,fun h=>?_⟩
 ·cases s with
  |nil=>rfl
  |
   cons c s =>
   simp[CM]at h
   have:¬s.length<=2:=by omega
   simp[named,this]
 ·cases s with
  |nil=>simp[CM]at h
  |
   cons c s =>
   simp[CM]at h
   have hl:s.length<=2:=by omega
   have hb:=ml (c::s) 0 (by simp)
   simp only[Int.ofNat_eq_natCast,Int.cast_ofNat_Int]at hb
   simp only[↓zq,zs,ac,hb]
   refine⟨by omega,fun h1=>?_,fun h1=>⟨by omega,fun h2=>?_,fun h2=>?_⟩⟩
   ·have:¬lo<=c.toNat:=by omega
    simp[named,this]
   ·have:¬c.toNat<=hi:=by omega
    simp[named,this]
   ·refine fI (JE (c::s) (by simp;omega) s.length 1 (by simp;omega)) (fun ys o e=>?_) (fun ys o e=>?_)
    ·split at e<;>cases e
     rename_i ha
     simp at ha
     simp only[↓zq,zs,ac]
     simp[named,hl]
     exact⟨⟨by omega,by omega⟩,fun x hx=>by simpa using ha x hx⟩
    ·split at e<;>cases e
     rename_i ha
     simp only[↓zq,zs,ac]
     have:s.all iq=false:=by simpa using ha
     simp[named,this]
theorem FM(s:List UInt8):an Tryz.prog 155 [.v (.string (mk s))] [] (bK (.v (.bool (im s)))):=by
 refine SI _ ?_
 unfold Lq
 refine aj (OF s 120 122) ?_
 simp only[↓zq,zs,ac,bK,im]
theorem HO(s:List UInt8):an Tryz.prog 138 [.v (.string (mk s))] [] (bK (.v (.bool (dk s)))):=by
 refine RT _ ?_
 unfold Jq
 refine aj (OF s 116 116) ?_
 simp only[↓zq,zs,ac,bK,dk]
end Go.Proofs.Trees
namespace Go.Proofs.Trees
open Go Go.VL Go.RowKit
theorem QW(l:List UInt8)(c:UInt8):an Tryz.prog 195 [.v (.string (mk l)),.v (.string (mk [c]))] [] (bK (.v (.bool (decide (0<=Lib.indexByte l c))))):=by
 refine an.SR (xs:=[.string (mk l),.string (mk [c])]) ⟨nG,by kernel_rfl,by kernel_rfl,by kernel_rfl⟩ fun w=>?_
 have:=Any.strings_Contains_one Tryz.DB (mk l) c w
 refine Calls.mono this fun e w' ⟨h1,h2⟩=>?_
 rw[h2]
 have hd:(mk l).data.toList=l:=by simp[mk]
 exact⟨by rw[h1,hd],Below.refl _ _⟩
theorem Ms(l cs:List UInt8)(hl:l.length<=1000000)(hc:cs.length<=1000)(ha:∀b,b∈cs->b.toNat<128):an Tryz.prog 184 [.v (.string (mk l)),.v (.string (mk cs))] [] (bK (.v (.string (mk (Lib.trimS l cs))))):=by
 refine an.SR (xs:=[.string (mk l),.string (mk cs)]) ⟨qx,by kernel_rfl,by kernel_rfl,by kernel_rfl⟩ fun w=>?_
 have:=Any.strings_Trim_laid Tryz.DD (by kernel_rfl) (mk l) (mk cs) w (by rw[cN];omega) (by rw[cN];omega) (fun j b hj=>ha b (by
  have:(mk cs).data.toList=cs:=by simp[mk]
  rw[this]at hj
  exact List.mem_of_getElem? hj))
 refine Calls.mono this fun e w' ⟨h1,h2⟩=>⟨?_,h2⟩
 rw[h1]
 simp[mk]
theorem nL:∀(l:List UInt8) (c:UInt8),(0<=Lib.indexByte l c↔c∈l)/\-1<=Lib.indexByte l c
 |[],c=>by simp[Lib.indexByte]
 |
  b::l,c=>by
  obtain⟨h1,h2⟩:=nL l c
  unfold Lib.indexByte
  by_cases e:b=c
  ·subst e;simp
  ·have e':(b==c)=false:=by simp[e]
   rw[e']
   by_cases q:Lib.indexByte l c = -1
   ·have:c∉l:=fun h=>by have:=h1.2 h;omega
    simp[q,this,Ne.symm e]
   ·have q':(Lib.indexByte l c==-1)=false:=by simp[q]
    simp only[q',Bool.false_eq_true,if_false,aJ]
    constructor
    ·constructor
     ·intro h;exact .inr (h1.1 (by omega))
     ·intro h
      rcases h with h|h
      ·exact absurd h.symm e
      ·have:=h1.2 h;omega
    ·omega
theorem dropWhile_nil{p:UInt8->Bool}:∀(l:List UInt8),l.dropWhile p=[]↔l.all p=true
 |[]=>by simp
 |
  b::l=>by
  cases h:p b with
  |true=>rw[List.dropWhile_cons_of_pos h,dropWhile_nil l];simp[h]
  |false=>rw[List.dropWhile_cons_of_neg (by rw[h];simp)];simp[h]
theorem s8(l cs:List UInt8):Lib.trimS l cs=[]↔l.all (cs.contains ·)=true:=by
 unfold Lib.trimS Lib.trimLeftS
 rw[dropWhile_nil]
 unfold Lib.trimRightS
 constructor
 ·intro h
  by_cases hn:l.reverse.dropWhile (cs.contains ·)=[]
  ·rw[dropWhile_nil]at hn
   simpa using hn
  ·exfalso
   rw[List.all_reverse]at h
   obtain⟨b,r,e⟩:=List.exists_cons_of_ne_nil hn
   have h1:cs.contains b=false:=by
    have:=List.head_dropWhile_not (p:=(cs.contains ·)) (l:=l.reverse) hn
    simp only[e,List.head_cons]at this
    exact this
   rw[e]at h
   simp only[da,az]at h
   rw[h1]at h;cases h.1
 ·intro h
  have:l.reverse.dropWhile (cs.contains ·)=[]:=by rw[dropWhile_nil];simpa using h
  rw[this];rfl
def Gx:List UInt8:=[48,49,50,51,52,53,54,55,56,57]
theorem wk(b:UInt8):Gx.contains b=iq b:=by
 have:∀n:Fin 256,Gx.contains (bj n.val)=iq (bj n.val):=by decide +kernel
 have:=this ⟨b.toNat,b.toNat_lt⟩
 simpa using this
theorem Kg(s ls:List UInt8)(lo hi:Nat)(hls:∀c:UInt8,c∈ls↔lo<=c.toNat/\c.toNat<=hi):an Tryz.prog 182 [.v (.string (mk s)),.v (.string (mk ls))] [] (bK (.v (.bool (named lo hi s)))):=by
 refine Pp _ _ ?_
 simp only[KE,↓zq,zs,ac,zt,bK]
 cases s with
 |nil=>exact⟨fun h=>by simp at h,fun _=>rfl⟩
 |
  cons c s =>
  have e1:(List.take (bJ 1) (c::s))=[c]:=rfl
  have e2:(List.take (s.length+1) (c::s)).drop (bJ 1)=s:=by simp
  simp only[aA,e1,e2]
  refine⟨fun _=>⟨fun h3=>⟨by omega,?_⟩,fun h3=>?_⟩,fun h=>by omega⟩
  ·have hl:s.length<=2:=by omega
   refine aj (QW ls c) ?_
   simp only[↓zq,zs,ac]
   have hi1:=(nL ls c).1
   refine⟨fun h=>⟨by omega,?_⟩,fun h=>?_⟩
   ·refine aj (Ms s Gx (by omega) (by decide) (by decide)) ?_
    simp only[↓zq,zs,ac,zt]
    have hc:=(hls c).1 (hi1.1 h)
    congr 2
    rw[cw,beq_iff_eq,s8]
    simp only[named,hl,hc,decide_true,bY,and_self]
    have:(fun x=>Gx.contains x)=iq:=funext wk
    rw[this]
   ·have hc:¬(lo<=c.toNat/\c.toNat<=hi):=fun h'=>h (hi1.2 ((hls c).2 h'))
    simp only[named,hc,zf]
  ·have hl:¬s.length<=2:=by omega
   simp only[named,hl,zf]
theorem Mm(s:List UInt8):an Tryz.prog 173 [.v (.string (mk s))] [] (bK (.v (.bool (im s)))):=by
 refine R5 _ ?_
 unfold NJ
 have h:∀n:Fin 256,(bj n.val∈[(120:UInt8),121,122])↔120<=(bj n.val).toNat/\(bj n.val).toNat<=122:=by decide +kernel
 refine aj (Kg s [120,121,122] 120 122 fun c=>by simpa using h ⟨c.toNat,c.toNat_lt⟩) ?_
 simp only[↓zq,zs,ac,bK,im]
theorem Ee(s:List UInt8):an Tryz.prog 159 [.v (.string (mk s))] [] (bK (.v (.bool (dk s)))):=by
 refine R7 _ ?_
 unfold JW
 have h:∀n:Fin 256,(bj n.val∈[(116:UInt8)])↔116<=(bj n.val).toNat/\(bj n.val).toNat<=116:=by decide +kernel
 refine aj (Kg s [116] 116 116 fun c=>by simpa using h ⟨c.toNat,c.toNat_lt⟩) ?_
 simp only[↓zq,zs,ac,bK,dk]
end Go.Proofs.Trees
namespace Go.Proofs.Trees
open Go Go.VL
inductive Ty where
 |zero|one
 |name (s:List UInt8)
 |bT (up:Nat)
 |plus (a b:Ty)
 |times (a b:Ty)
 |rc (a:Ty)
def Ty.av:Ty->AV
 | .zero=>.ptr [.v (.int .u8 48),.v (.string (mk [])),.v (.int .i64 0),.v (.pointer none),.v (.pointer none)]
 | .one=>.ptr [.v (.int .u8 49),.v (.string (mk [])),.v (.int .i64 0),.v (.pointer none),.v (.pointer none)]
 | .name s=>.ptr [.v (.int .u8 110),.v (.string (mk s)),.v (.int .i64 0),.v (.pointer none),.v (.pointer none)]
 | .bT up=>.ptr [.v (.int .u8 98),.v (.string (mk [])),.v (.int .i64 (up:Int)),.v (.pointer none),.v (.pointer none)]
 | .plus a b=>.ptr [.v (.int .u8 43),.v (.string (mk [])),.v (.int .i64 0),a.av,b.av]
 | .times a b=>.ptr [.v (.int .u8 42),.v (.string (mk [])),.v (.int .i64 0),a.av,b.av]
 | .rc a=>.ptr [.v (.int .u8 114),.v (.string (mk [])),.v (.int .i64 0),a.av,.v (.pointer none)]
theorem aF(t:Ty):LK.has .ptr t.av=True:=by cases t<;>simp[Ty.av,cb]
theorem fS(t:Ty):t.av.isNil=false:=by cases t<;>rfl
def io:Option Ty->AV
 |some t=>t.av
 |none=>.v (.pointer none)
theorem gD(t:Option Ty):LK.has .ptr (io t)=True:=by cases t<;>simp[io,aF,iH]
def E.at:E->List UInt8
 | .atom s=>s
 | .list _=>[]
def bR(s:List UInt8)(ar:List (List UInt8)):Nat->Option Nat
 |0=>none
 |i+1=>if ar.getD i []=s then some (ar.length-1-i)else bR s ar i
def cT:E->List (List UInt8)->Option Ty
 | .atom s,ar=>if s=[48]then some .zero else if s=[49]then some .one else if im s=true then some (.name s)else if dk s=true then(match bR s ar ar.length with|some u=>some (.bT u)|none=>some (.name s))else none
 |
  .list [x,a,b],ar =>
  if x.at=[43]then(match cT a ar,cT b ar with|some t,some u=>some (.plus t u)|_,_=>none)
  else if x.at=[42]then(match cT a ar,cT b ar with|some t,some u=>some (.times t u)|_,_=>none)
  else if x.at=[114,101,99]then(if dk a.at=true then(match cT b (ar++[a.at])with|some t=>some (.rc t)|none=>none)else none)
  else none
 | .list _,_=>none
def bP(l:List (List UInt8)):List (List AV):=l.map fun s=>[.v (.string (mk s))]
def cH(a:AV)(l:List (List UInt8)):Prop:=LK.sl.has a/\a.aP=bP l
theorem cH.len{a:AV}{l:List (List UInt8)}(h:cH a l):a.aP.length=l.length:=by rw[h.2];simp[bP]
theorem cH.idx{a:AV}{l:List (List UInt8)}(h:cH a l){i:Nat}(hi:i<l.length):a.aP.getD i []=[.v (.string (mk (l.getD i [])))]:=by
 rw[h.2];simp[bP,aa,hi]
theorem cH.of(l:List (List UInt8)):cH (.sl (bP l)) l:=⟨(cg _).mpr trivial,rfl⟩
theorem cH.nil:cH (.v (.slice none 0 0)) []:=⟨(bg).mpr trivial,rfl⟩
theorem yy(e:E)(w:List UInt8):an Tryz.prog 162 [e.cA,.v (.string (mk w)),.v (.int .i64 3)] [] (bK (.v (.bool (match e with| .list [x,_,_]=>x.at==w|_=>false)))):=by
 refine I1 _ _ _ ((cV e).mpr trivial) ?_
 cases e with
 |atom s=>simp only[AL,E.cA,↓zq,zs,ac,zt,bK];exact⟨by omega,fun h=>by omega,fun _=>trivial⟩
 |
  list l =>
  simp only[AL,E.cA,↓zq,zs,ac,zt,bK,rH]
  match l with
  |[]=>exact⟨by simp,fun h=>by simp at h,fun _=>rfl⟩
  |[_]=>exact⟨by simp,fun h=>by simp at h,fun _=>rfl⟩
  |[_,_]=>exact⟨by simp,fun h=>by simp at h,fun _=>rfl⟩
  |
   [x,y,z] =>
   refine⟨by simp,fun _=>?_,fun h=>by simp at h⟩
   cases x<;>simp[E.mq,E.cA,cb,pJ,jO,dY,ua,toList_mk,E.at]
  |_::_::_::_::l=>exact⟨by simp,fun h=>by simp at h;omega,fun _=>rfl⟩
theorem Kn(e:E)(a:AV)(ar:List (List UInt8))(ha:cH a ar)(hl:ar.length<1000000):∀(i:Nat),i<=ar.length->Fi [e.cA,a,.v (.int .i64 ((i:Int)-1))] []
 (py (match bR e.at ar i with|some u=>(2,[],[.cells [.v (.int .u8 98),.v (.string (mk [])),.v (.int .i64 (u:Int)),.v (.pointer none),.v (.pointer none)]])|none=>(1,[e.cA],[])))
 |
  0,hi=>by
  refine Ny _ _ _ ?_
  simp only[Fl,↓zq,zs,ac,cV]
  exact⟨ha.1,fun h=>by omega,fun _=>rfl⟩
 |
  i+1,hi=>by
  have hlt:i<ar.length:=by omega
  have e1:((i+1:Nat):Int)-1=(i:Int):=by omega
  rw[e1]
  refine Ny _ _ _ ?_
  have hd:e.cA.deref.headD .any=.v (.string (mk e.at)):=by cases e<;>rfl
  have hdl:1<=e.cA.deref.length:=by cases e<;>simp[E.cA,jO]
  simp only[Fl,↓zq,zs,ac,zt,cV,er,ha.len,ha.idx hlt,hd,rC]
  refine⟨ha.1,fun _=>⟨⟨ha.1,by omega,by omega⟩,by omega,hdl,fun h=>⟨ha.1,?_⟩,fun h=>?_⟩,fun h=>by omega⟩
  ·simp only[bR,h,if_true,py]
   rw[wrap64 ((ar.length:Int)-1) (by omega) (by omega),wrap64 _ (by omega) (by omega)]
   have:(ar.length:Int)-1-(i:Int)=((ar.length-1-i:Nat):Int):=by omega
   rw[this]
  ·simp only[bR,h,if_false]
   rw[wrap64 _ (by omega) (by omega)]
   exact Kn e a ar ha hl i (by omega)
end Go.Proofs.Trees
namespace Go.Proofs.Trees
open Go Go.VL
theorem n8(e:E):e.cA.deref.headD .any=.v (.string (mk e.at)):=by cases e<;>rfl
theorem lU(e:E):1<=e.cA.deref.length:=by cases e<;>simp[E.cA,jO]
theorem toNat_one:bJ 1=1:=rfl
theorem bh:bJ 2=2:=rfl
theorem E3{ar:List (List UInt8)}(s:List UInt8):bP ar++[[.v (.string (mk s))]]=bP (ar++[s]):=by simp[bP]
theorem kk(ar:List (List UInt8)):cy 1 (bP ar):=fun c hc=>by
 obtain⟨s,_,rfl⟩:=bO.1 hc;rfl
theorem kZ{x a b:E}(ar:List (List UInt8))(hx:x.at=[43]):cT (.list [x,a,b]) ar=match cT a ar,cT b ar with|some t,some u=>some (.plus t u)|_,_=>none:=by rw[cT,if_pos hx]<;>cases cT a ar<;>cases cT b ar<;>rfl
theorem jZ{x a b:E}(ar:List (List UInt8))(hx:x.at=[42]):cT (.list [x,a,b]) ar=match cT a ar,cT b ar with|some t,some u=>some (.times t u)|_,_=>none:=by rw[cT,if_neg (by rw[hx];decide),if_pos hx]<;>cases cT a ar<;>cases cT b ar<;>rfl
theorem mG{x a b:E}(ar:List (List UInt8))(hx:x.at=[114,101,99]):cT (.list [x,a,b]) ar=if dk a.at=true then(match cT b (ar++[a.at])with|some t=>some (.rc t)|none=>none)else none:=by rw[cT,if_neg (by rw[hx];decide),if_neg (by rw[hx];decide),if_pos hx]<;>cases cT b (ar++[a.at])<;>rfl
theorem jq{x a b:E}(ar:List (List UInt8))(h1:x.at≠[43])(h2:x.at≠[42])(h3:x.at≠[114,101,99]):cT (.list [x,a,b]) ar=none:=by rw[cT,if_neg h1,if_neg h2,if_neg h3]
theorem Dd:∀(e:E) (ar:List (List UInt8)) (a:AV),e.ok->cH a ar->ar.length+e.sz<100000->an Tryz.prog 144 [e.cA,a] [] (bK (io (cT e ar)))
 |
  .atom s,ar,a,hok,ha,hl=>by
  simp only[E.sz]at hl
  refine OU _ _ ((cV _).mpr trivial) ha.1 ?_
  have hd:=n8 (.atom s)
  have hlen:=lU (.atom s)
  simp only[E.at]at hd
  simp only[HH,↓zq,zs,ac,zt,bK,cV,er,hd,cT]
  refine⟨hlen,fun h=>⟨hlen,?_,?_⟩,fun h=>⟨hlen,fun h1=>⟨hlen,?_,?_⟩,fun h1=>⟨hlen,?_⟩⟩⟩
  ·rw[h];decide
  ·rw[if_pos h,h];rfl
  ·rw[h1];decide
  ·rw[if_neg h,if_pos h1,h1];rfl
  ·rw[if_neg h,if_neg h1]
   refine aj (Mm s) ?_
   simp only[↓zq,zs,ac]
   refine⟨fun hp=>⟨hlen,?_⟩,fun hp=>⟨hlen,?_⟩⟩
   ·rw[if_pos hp];rfl
   ·rw[if_neg (by rw[hp];simp)]
    refine aj (Ee s) ?_
    simp only[↓zq,zs,ac,ha.len]
    refine⟨fun hq=>⟨ha.1,?_⟩,fun hq=>?_⟩
    ·rw[if_pos hq,wrap64 _ (by omega) (by omega)]
     refine fI (Kn (.atom s) a ar ha (by omega) ar.length (by omega)) (fun ys o e=>?_) (fun ys o e=>?_)
     ·simp only[E.at]at e
      cases hq2:bR s ar ar.length<;>rw[hq2]at e<;>cases e
      simp only[↓zq,zs,ac,zt,cV,er,hd]
      exact⟨hlen,rfl⟩
     ·simp only[E.at]at e
      cases hq2:bR s ar ar.length<;>rw[hq2]at e<;>cases e
      simp only[↓zq,zs,ac,zt,LK.has]
      simp[io,Ty.av,ac,LK.has]
    ·rw[if_neg (by rw[hq];simp)]
     refine aj (yy (.atom s) [43]) ?_
     simp only[↓zq,zs,ac]
     refine⟨fun h=>(by simp at h),fun _=>?_⟩
     refine aj (yy (.atom s) [42]) ?_
     simp only[↓zq,zs,ac]
     refine⟨fun h=>(by simp at h),fun _=>?_⟩
     refine aj (yy (.atom s) [114,101,99]) ?_
     simp only[↓zq,zs,ac]
     refine⟨fun h=>(by simp at h),fun _=>?_⟩
     trivial
 |
  .list l,ar,a,hok,ha,hl=>by
  simp only[E.sz]at hl
  refine OU _ _ ((cV _).mpr trivial) ha.1 ?_
  have hd:=n8 (.list l)
  have hlen:=lU (.list l)
  simp only[E.at]at hd
  have hp:im []=false:=rfl
  have hq:dk []=false:=rfl
  simp only[HH,↓zq,zs,ac,zt,bK,cV,er,hd]
  refine⟨hlen,fun h=>(by simp at h),fun h=>⟨hlen,fun h1=>(by simp at h1),fun h1=>⟨hlen,?_⟩⟩⟩
  refine aj (Mm []) ?_
  simp only[↓zq,zs,ac,hp]
  refine⟨fun h=>(by simp at h),fun _=>⟨hlen,?_⟩⟩
  refine aj (Ee []) ?_
  simp only[↓zq,zs,ac,hq]
  refine⟨fun h=>(by simp at h),fun _=>?_⟩
  refine aj (yy (.list l) [43]) ?_
  match l,hok,hl with
  |
   [x,y,z],hok,hl =>
   simp only[E.jv]at hl
   obtain⟨ok1,ok2,ok3,_⟩:=hok
   have iy:=Dd y ar a ok2 ha (by omega)
   have iz:=Dd z ar a ok3 ha (by omega)
   have hds:((E.list [x,y,z]).cA.deref.drop 1).headD .any=.sl [[x.cA],[y.cA],[z.cA]]:=rfl
   have hdl:1<=((E.list [x,y,z]).cA.deref.drop 1).length:=by simp[E.cA,jO]
   have hxd:=n8 x
   have hxl:=lU x
   have hyd:=n8 y
   have hyl:=lU y
   have bin:∀(c:UInt8) (mkT:Ty->Ty->Ty),(∀t u:Ty,(mkT t u).av=.ptr [.v (.int .u8 (c.toNat:Int)),.v (.string (mk [])),.v (.int .i64 0),t.av,u.av])->x.at=[c]->bt (mk x.at) 0=(c.toNat:Int):=fun c _ _ hx=>by
    have:=ml x.at 0 (by rw[hx];simp)
    simp only[Int.ofNat_eq_natCast,Int.cast_ofNat_Int]at this
    rw[this,hx];rfl
   simp only[↓zq,zs,ac,zt,hds,hdl,cV,er,toNat_one,bh,hxd,hyd,rC]
   refine⟨fun hx=>?_,fun hx=>?_⟩
   ·refine⟨by omega,by omega,?_⟩
    refine aj iy ?_
    simp only[↓zq,zs,ac,gD]
    refine⟨by omega,by omega,?_⟩
    refine aj iz ?_
    have hb:=bin 43 Ty.plus (fun _ _=>rfl) hx
    rw[kZ ar hx]
    simp only[↓zq,zs,ac,zt,gD]
    cases h1:cT y ar with
    |none=>simp[io,i6]
    |
     some t =>
     cases h2:cT z ar with
     |none=>simp[io,i6,fS]
     |
      some u =>
      simp only[io,fS,hb]
      refine⟨fun h=>(by cases h),fun _=>⟨fun h=>(by cases h),fun _=>⟨by omega,by omega,hxl,⟨by omega,by rw[hx];simp⟩,rfl⟩⟩⟩
   ·refine aj (yy (.list [x,y,z]) [42]) ?_
    simp only[↓zq,zs,ac,hds,hdl,cV,er,toNat_one,bh,hxd,hyd,rC]
    refine⟨fun hx2=>?_,fun hx2=>?_⟩
    ·refine⟨by omega,by omega,?_⟩
     refine aj iy ?_
     simp only[↓zq,zs,ac,gD]
     refine⟨by omega,by omega,?_⟩
     refine aj iz ?_
     have hb:=bin 42 Ty.times (fun _ _=>rfl) hx2
     rw[jZ ar hx2]
     simp only[↓zq,zs,ac,zt,gD]
     cases h1:cT y ar with
     |none=>simp[io,i6]
     |
      some t =>
      cases h2:cT z ar with
      |none=>simp[io,i6,fS]
      |
       some u =>
       simp only[io,fS,hb]
       refine⟨fun h=>(by cases h),fun _=>⟨fun h=>(by cases h),fun _=>⟨by omega,by omega,hxl,⟨by omega,by rw[hx2];simp⟩,rfl⟩⟩⟩
    ·refine aj (yy (.list [x,y,z]) [114,101,99]) ?_
     simp only[↓zq,zs,ac,zt,hds,hdl,cV,er,toNat_one,bh,hxd,hyd,rC]
     refine⟨fun hx3=>⟨by omega,by omega,hyl,?_⟩,fun hx3=>?_⟩
     ·refine aj (Ee y.at) ?_
      rw[mG ar hx3]
      simp only[↓zq,zs,ac]
      have hal:cy 1 a.aP:=by rw[ha.2];exact kk ar
      have hal1:cy 1 [[AV.v (.string (mk y.at))]]:=fun c hc=>by simp at hc;rw[hc];rfl
      refine⟨fun hlo=>⟨by omega,by omega,⟨ha.1,hal,by rw[ha.len];omega⟩,by omega,by omega,hyl,⟨hal1,by rw[aW,ha.len];omega⟩,?_⟩,fun hlo=>?_⟩
      ·rw[aW,ha.2,E3,if_pos hlo]
       refine aj (Dd z (ar++[y.at]) _ ok3 (.of _) (by simp;omega)) ?_
       simp only[↓zq,zs,ac,gD]
       cases h2:cT z (ar++[y.at])with
       |none=>simp[io,i6]
       |
        some u =>
        simp only[io,fS]
        refine⟨fun h=>(by cases h),fun _=>rfl⟩
      ·rw[if_neg (by rw[hlo];simp)];rfl
     ·rw[jq ar hx hx2 hx3];rfl
  |
   [],_,_ =>
   simp only[↓zq,zs,ac]
   refine⟨fun h=>(by cases h),fun _=>?_⟩
   refine aj (yy (.list []) [42]) ?_
   simp only[↓zq,zs,ac]
   refine⟨fun h=>(by cases h),fun _=>?_⟩
   refine aj (yy (.list []) [114,101,99]) ?_
   simp only[↓zq,zs,ac]
   refine⟨fun h=>(by cases h),fun _=>?_⟩
   rfl
  |
   [x1],_,_ =>
   simp only[↓zq,zs,ac]
   refine⟨fun h=>(by cases h),fun _=>?_⟩
   refine aj (yy (.list [x1]) [42]) ?_
   simp only[↓zq,zs,ac]
   refine⟨fun h=>(by cases h),fun _=>?_⟩
   refine aj (yy (.list [x1]) [114,101,99]) ?_
   simp only[↓zq,zs,ac]
   refine⟨fun h=>(by cases h),fun _=>?_⟩
   rfl
  |
   [x1,x2],_,_ =>
   simp only[↓zq,zs,ac]
   refine⟨fun h=>(by cases h),fun _=>?_⟩
   refine aj (yy (.list [x1,x2]) [42]) ?_
   simp only[↓zq,zs,ac]
   refine⟨fun h=>(by cases h),fun _=>?_⟩
   refine aj (yy (.list [x1,x2]) [114,101,99]) ?_
   simp only[↓zq,zs,ac]
   refine⟨fun h=>(by cases h),fun _=>?_⟩
   rfl
  |
   x1::x2::x3::x4::l,_,_ =>
   simp only[↓zq,zs,ac]
   refine⟨fun h=>(by cases h),fun _=>?_⟩
   refine aj (yy (.list (x1::x2::x3::x4::l)) [42]) ?_
   simp only[↓zq,zs,ac]
   refine⟨fun h=>(by cases h),fun _=>?_⟩
   refine aj (yy (.list (x1::x2::x3::x4::l)) [114,101,99]) ?_
   simp only[↓zq,zs,ac]
   refine⟨fun h=>(by cases h),fun _=>?_⟩
   rfl
end Go.Proofs.Trees
namespace Go.Proofs.Trees
open Go Go.VL
def dh(v:AV)(obs:List Ob):AV->List Ob->Prop:=fun r o=>r=v/\o=obs
theorem aX{P:Program}{n:Nat}{Q:Nat->List AV->List Ob->Prop}{f:Nat}{xs:List AV}{ins:List Ob}{k:AV->List Ob->Tree}{v:AV}{obs:List Ob}(h:an P f xs ins (dh v obs))(hk:eX P n (k v obs) Q):eX P n (.call f xs ins k) Q :=
 ⟨dh v obs,h,⟨v,obs,rfl,rfl⟩,fun r o ⟨h1,h2⟩=>by rw[h1,h2];exact hk⟩
def Ty.aE:Ty->Nat
 | .plus a b=>1+a.aE+b.aE
 | .times a b=>1+a.aE+b.aE
 | .rc a=>2+a.aE
 |_=>1
theorem ER:∀(t:Ty),t.aE<1000000->an Tryz.prog 145 [t.av] [] (bK (.v (.int .i64 (t.aE:Int))))
 | .zero,h=>by refine FV _ ((aF _).mpr trivial) ?_;simp[ET,Ty.av,↓zq,zs,ac,bK,Ty.aE]
 | .one,h=>by refine FV _ ((aF _).mpr trivial) ?_;simp[ET,Ty.av,↓zq,zs,ac,bK,Ty.aE]
 | .name s,h=>by refine FV _ ((aF _).mpr trivial) ?_;simp[ET,Ty.av,↓zq,zs,ac,bK,Ty.aE]
 | .bT u,h=>by refine FV _ ((aF _).mpr trivial) ?_;simp[ET,Ty.av,↓zq,zs,ac,bK,Ty.aE]
 |
  .plus a b,h=>by
  simp only[Ty.aE]at h
  refine FV _ ((aF _).mpr trivial) ?_
  simp only[ET,Ty.av,↓zq,zs,ac,aF]
  refine⟨by omega,fun _=>⟨by omega,?_⟩,fun h=>absurd rfl h⟩
  refine aj (ER a (by omega)) ?_
  simp only[↓zq,zs,ac,aF]
  refine⟨by omega,?_⟩
  refine aj (ER b (by omega)) ?_
  simp only[↓zq,zs,ac,bK,Ty.aE]
  rw[wrap64 (1+(a.aE:Int)) (by omega) (by omega),wrap64 _ (by omega) (by omega)]
  congr 2
 |
  .times a b,h=>by
  simp only[Ty.aE]at h
  refine FV _ ((aF _).mpr trivial) ?_
  simp only[ET,Ty.av,↓zq,zs,ac,aF]
  refine⟨by omega,fun h=>by omega,fun _=>⟨fun _=>⟨by omega,?_⟩,fun h=>absurd rfl h⟩⟩
  refine aj (ER a (by omega)) ?_
  simp only[↓zq,zs,ac,aF]
  refine⟨by omega,?_⟩
  refine aj (ER b (by omega)) ?_
  simp only[↓zq,zs,ac,bK,Ty.aE]
  rw[wrap64 (1+(a.aE:Int)) (by omega) (by omega),wrap64 _ (by omega) (by omega)]
  congr 2
 |
  .rc a,h=>by
  simp only[Ty.aE]at h
  refine FV _ ((aF _).mpr trivial) ?_
  simp only[ET,Ty.av,↓zq,zs,ac,aF]
  refine⟨by omega,fun h=>by omega,fun _=>⟨fun h=>by omega,fun _=>⟨fun _=>⟨by omega,?_⟩,fun h=>absurd rfl h⟩⟩⟩
  refine aj (ER a (by omega)) ?_
  simp only[↓zq,zs,ac,bK,Ty.aE]
  rw[wrap64 _ (by omega) (by omega)]
  congr 2
theorem iW:∀(e:E) (ar:List (List UInt8)) (t:Ty),cT e ar=some t->t.aE<=e.sz
 |
  .atom s,ar,t,h=>by
  simp only[cT]at h
  simp only[E.sz]
  split at h
  ·cases h;simp[Ty.aE]
  ·split at h
   ·cases h;simp[Ty.aE]
   ·split at h
    ·cases h;simp[Ty.aE]
    ·split at h
     ·split at h<;>cases h<;>simp[Ty.aE]
     ·cases h
 |
  .list [x,a,b],ar,t,h=>by
  have hs:∀e:E,1<=e.sz:=fun e=>by cases e<;>simp[E.sz];try omega
  have hx:=hs x
  have ha:=hs a
  simp only[E.sz,E.jv]
  by_cases h1:x.at=[43]
  ·rw[kZ ar h1]at h
   split at h
   ·rename_i t1 t2 e1 e2
    cases h
    have:=iW a ar t1 e1
    have:=iW b ar t2 e2
    simp only[Ty.aE];omega
   ·cases h
  ·by_cases h2:x.at=[42]
   ·rw[jZ ar h2]at h
    split at h
    ·rename_i t1 t2 e1 e2
     cases h
     have:=iW a ar t1 e1
     have:=iW b ar t2 e2
     simp only[Ty.aE];omega
    ·cases h
   ·by_cases h3:x.at=[114,101,99]
    ·rw[mG ar h3]at h
     split at h
     ·split at h
      ·rename_i t1 e1
       cases h
       have:=iW b _ t1 e1
       simp only[Ty.aE];omega
      ·cases h
     ·cases h
    ·rw[jq ar h1 h2 h3]at h;cases h
 | .list [],_,_,h=>by cases h
 | .list [_],_,_,h=>by cases h
 | .list [_,_],_,_,h=>by cases h
 | .list (_::_::_::_::_),_,_,h=>by cases h
def qL(s:List UInt8):Option Ty:=match qY s with
 |none=>none
 |
  some e=>match cT e []with
  |none=>none
  |some t=>if t.aE>400 then none else some t
theorem FN(s:List UInt8):an Tryz.prog 108 [.v (.string (mk s))] [] (bK (io (qL s))):=by
 refine Rm _ ?_
 unfold Kx
 refine aj (Nd s) ?_
 unfold qL
 cases he:qY s with
 |none=>simp only[uD,↓zq,zs,ac,bK,io];simp
 |
  some e =>
  obtain⟨h1,h2⟩:=nX he
  simp only[uD,↓zq,zs,ac,cV,er]
  refine⟨fun h=>(by cases h),fun _=>?_⟩
  refine aj (Dd e [] _ h1 .nil (by simp;omega)) ?_
  cases ht:cT e []with
  |none=>simp only[io,↓zq,zs,ac,bK];simp
  |
   some t =>
   have:=iW e [] t ht
   simp only[io,↓zq,zs,ac,aF,fS]
   refine⟨fun h=>(by cases h),fun _=>?_⟩
   refine aj (ER t (by omega)) ?_
   simp only[↓zq,zs,ac,bK]
   refine⟨fun h=>?_,fun h=>?_⟩
   ·rw[if_pos (by omega)]
   ·rw[if_neg (by omega)]
end Go.Proofs.Trees
namespace Go.Proofs.Trees
open Go Go.VL
def Ct(p:Prop):Nat->List AV->List Ob->Prop:=fun t ys o=>(t=1/\¬p/\ys=[]/\o=[])\/(t=2/\p/\∃j:Nat,ys=[.v (.int .i64 (j:Int))]/\o=[])
theorem IZ(l:List (List UInt8))(a:AV)(ha:cH a l)(s:List UInt8)(hl:l.length<1000000):∀(k i:Nat),i+k=l.length->s∉l.take i->Fs [a,.v (.string (mk s)),.v (.int .i64 (l.length:Int)),.v (.int .i64 (i:Int))] []
 (Ct (s∈l))
 |
  0,i,hi,hn=>by
  refine Kr _ _ _ _ ?_
  simp only[GB,↓zq,zs,ac]
  have:l.take i=l:=List.take_of_length_le (by omega)
  rw[this]at hn
  exact⟨ha.1,fun h=>by omega,fun _=>.inl ⟨rfl,hn,rfl,rfl⟩⟩
 |
  k+1,i,hi,hn=>by
  have hlt:i<l.length:=by omega
  refine Kr _ _ _ _ ?_
  simp only[GB,↓zq,zs,ac,zt,ha.len,ha.idx hlt]
  have hm:l.getD i []∈l:=by simp[aa,hlt]
  refine⟨ha.1,fun _=>⟨⟨ha.1,by omega,by omega⟩,by omega,fun h=>?_,fun h=>?_⟩,fun h=>by omega⟩
  ·exact .inr ⟨rfl,by rw[h];exact hm,i,rfl,rfl⟩
  ·rw[bA i (by omega)]
   refine IZ l a ha s hl k (i+1) (by omega) ?_
   rw[List.take_add_one]
   simp only[aO,not_or]
   refine⟨hn,?_⟩
   have:l[i]?=some (l.getD i []):=by simp[aa,hlt]
   rw[this];simpa using h
theorem Me(l:List (List UInt8))(a:AV)(ha:cH a l)(s:List UInt8)(hl:l.length<1000000):an Tryz.prog 177 [a,.v (.string (mk s))] [] (bK (.v (.bool (decide (s∈l))))):=by
 have hI:an Tryz.prog 194 [a,.v (.string (mk s))] [] (fun r o=>∃n:Int,r=.v (.int .i64 n)/\(0<=n↔s∈l)/\o=[]):=by
  refine PC _ _ ha.1 ?_
  simp only[LP,↓zq,zs,ac,ha.len]
  refine⟨ha.1,lj (IZ l a ha s hl l.length 0 (by omega) (by simp)) ?_ ?_⟩
  ·rintro ys o (⟨_,h1,rfl,rfl⟩|⟨h,_⟩)
   ·simp only[↓zq,zs,ac]
    exact⟨-1,rfl,⟨fun h=>(by omega),fun h=>absurd h h1⟩⟩
   ·cases h
  ·rintro ys o (⟨h,_⟩|⟨_,h1,j,rfl,rfl⟩)
   ·cases h
   ·simp only[↓zq,zs,ac]
    exact⟨j,rfl,⟨fun _=>h1,fun _=>(by omega)⟩⟩
 refine Sv _ _ ha.1 ?_
 unfold Mj
 refine aR hI ⟨.v (.int .i64 (if s∈l then 0 else -1)),[],_,rfl,by split<;>simp_all,rfl⟩ ?_
 rintro r o ⟨n,rfl,hn,rfl⟩
 simp only[↓zq,zs,ac,bK]
 congr 2
 rw[cw];simp[hn]
def pR(out:List (List UInt8)):Ty->List (List UInt8)
 | .name s=>if s∈out then out else out++[s]
 |_=>out
theorem GJ(t:Ty)(out:List (List UInt8))(hl:out.length<100000):an Tryz.prog 181 [t.av,.ref 0 0] [.cells [.vec 1],.vec 1 (bP out)] (dh .any [.cells [.vec 1],.vec 1 (bP (pR out t))]):=by
 refine Rv _ _ ((aF _).mpr trivial) ?_
 have hlen:(bP out).length=out.length:=by simp[bP]
 cases t with
 |
  name s =>
  simp only[H0,Ty.av,↓zq,zs,ac,dh,hlen]
  refine⟨by omega,fun _=>⟨by omega,?_⟩,fun h=>absurd rfl h⟩
  refine aj (Me out _ (.of out) s (by omega)) ?_
  simp only[↓zq,zs,ac,pR]
  refine⟨fun h=>⟨by omega,⟨fun c hc=>(by simp at hc;rw[hc];rfl),by omega⟩,?_⟩,fun h=>?_⟩
  ·rw[E3,if_neg h]
  ·rw[if_pos h]
 |_=>simp[H0,Ty.av,↓zq,zs,ac,dh,pR]
def bQ:Ty->List (List UInt8)->List (List UInt8)
 | .name s,out=>pR out (.name s)
 | .plus a b,out=>bQ b (bQ a out)
 | .times a b,out=>bQ b (bQ a out)
 | .rc a,out=>bQ a out
 |_,out=>out
theorem eA:∀(t:Ty) (out:List (List UInt8)),(bQ t out).length<=out.length+t.aE
 | .name s,out=>by simp only[bQ,pR,Ty.aE];split<;>simp
 |
  .plus a b,out=>by
  have:=eA a out
  have:=eA b (bQ a out)
  simp only[bQ,Ty.aE];omega
 |
  .times a b,out=>by
  have:=eA a out
  have:=eA b (bQ a out)
  simp only[bQ,Ty.aE];omega
 |
  .rc a,out=>by
  have:=eA a out
  simp only[bQ,Ty.aE];omega
 | .zero,out=>by simp[bQ]
 | .one,out=>by simp[bQ]
 | .bT u,out=>by simp[bQ]
theorem Ab:∀(t:Ty) (out:List (List UInt8)),out.length+t.aE<100000->an Tryz.prog 180 [t.av,.fn 181 [.ref 0 0]] [.cells [.vec 1],.vec 1 (bP out)] (dh .any [.cells [.vec 1],.vec 1 (bP (bQ t out))])
 |
  .plus a b,out,hl=>by
  simp only[Ty.aE]at hl
  have:=eA a out
  refine xp _ _ ((aF _).mpr trivial) ?_
  unfold EN
  refine aX (GJ (.plus a b) out (by omega)) ?_
  simp only[Ty.av,↓zq,zs,ac,aF,fS,pR,aL,dh]
  refine⟨by omega,fun _=>⟨by omega,?_⟩,fun h=>(by cases h)⟩
  refine aX (Ab a out (by omega)) ?_
  simp only[↓zq,zs,ac,aF,fS,aL]
  refine⟨by omega,fun _=>⟨by omega,?_⟩,fun h=>(by cases h)⟩
  refine aX (Ab b (bQ a out) (by omega)) ?_
  simp only[↓zq,zs,ac,aL,bQ]
 |
  .times a b,out,hl=>by
  simp only[Ty.aE]at hl
  have:=eA a out
  refine xp _ _ ((aF _).mpr trivial) ?_
  unfold EN
  refine aX (GJ (.times a b) out (by omega)) ?_
  simp only[Ty.av,↓zq,zs,ac,aF,fS,pR,aL,dh]
  refine⟨by omega,fun _=>⟨by omega,?_⟩,fun h=>(by cases h)⟩
  refine aX (Ab a out (by omega)) ?_
  simp only[↓zq,zs,ac,aF,fS,aL]
  refine⟨by omega,fun _=>⟨by omega,?_⟩,fun h=>(by cases h)⟩
  refine aX (Ab b (bQ a out) (by omega)) ?_
  simp only[↓zq,zs,ac,aL,bQ]
 |
  .rc a,out,hl=>by
  simp only[Ty.aE]at hl
  refine xp _ _ ((aF _).mpr trivial) ?_
  unfold EN
  refine aX (GJ (.rc a) out (by omega)) ?_
  simp only[Ty.av,↓zq,zs,ac,aF,fS,pR,aL,dh]
  refine⟨by omega,fun _=>⟨by omega,?_⟩,fun h=>(by cases h)⟩
  refine aX (Ab a out (by omega)) ?_
  simp[↓zq,zs,ac,aF,fS,aL,bQ]
 |
  .name s,out,hl=>by
  refine xp _ _ ((aF _).mpr trivial) ?_
  unfold EN
  refine aX (GJ (.name s) out (by omega)) ?_
  simp[Ty.av,↓zq,zs,ac,aL,dh,bQ]
 |
  .zero,out,hl=>by
  refine xp _ _ ((aF _).mpr trivial) ?_
  unfold EN
  refine aX (GJ .zero out (by omega)) ?_
  simp[Ty.av,↓zq,zs,ac,aL,dh,bQ,pR]
 |
  .one,out,hl=>by
  refine xp _ _ ((aF _).mpr trivial) ?_
  unfold EN
  refine aX (GJ .one out (by omega)) ?_
  simp[Ty.av,↓zq,zs,ac,aL,dh,bQ,pR]
 |
  .bT u,out,hl=>by
  refine xp _ _ ((aF _).mpr trivial) ?_
  unfold EN
  refine aX (GJ (.bT u) out (by omega)) ?_
  simp[Ty.av,↓zq,zs,ac,aL,dh,bQ,pR]
theorem L0(t:Ty)(hl:t.aE<100000):an Tryz.prog 158 [t.av] [] (bK (.sl (bP (bQ t [])))):=by
 refine Sz _ ((aF _).mpr trivial) ?_
 unfold MF
 refine aX (Ab t [] (by simpa using hl)) ?_
 simp[↓zq,zs,ac,aL,bK]
theorem On(l:List (List UInt8))(a:AV)(ha:cH a l)(hl:l.length<1000000):∀(k i:Nat),i+k=l.length->(∀s,s∈l.take i->dk s=false)->Gu [a,.v (.func (.func 159) #[] #[]),.v (.int .i64 (l.length:Int)),.v (.int .i64 (i:Int))] []
 (Ct (l.any dk=true))
 |
  0,i,hi,hn=>by
  refine Ov _ _ _ ?_
  simp only[Gt,↓zq,zs,ac]
  have:l.take i=l:=List.take_of_length_le (by omega)
  rw[this]at hn
  exact⟨ha.1,fun h=>by omega,fun _=>.inl ⟨rfl,fun hh=>(by obtain⟨x,hx,hy⟩:=cq.1 hh;rw[hn x hx]at hy;cases hy),rfl,rfl⟩⟩
 |
  k+1,i,hi,hn=>by
  have hlt:i<l.length:=by omega
  refine Ov _ _ _ ?_
  simp only[Gt,↓zq,zs,ac,zt,ha.len,ha.idx hlt]
  have hm:l.getD i []∈l:=by simp[aa,hlt]
  refine⟨ha.1,fun _=>⟨⟨ha.1,by omega,by omega⟩,by omega,?_⟩,fun h=>by omega⟩
  refine aj (Ee _) ?_
  simp only[↓zq,zs,ac]
  refine⟨fun h=>?_,fun h=>?_⟩
  ·exact .inr ⟨rfl,cq.2 ⟨_,hm,h⟩,i,rfl,rfl⟩
  ·rw[bA i (by omega)]
   refine On l a ha hl k (i+1) (by omega) ?_
   intro s hs
   rw[List.take_add_one]at hs
   have:l[i]?=some (l.getD i []):=by simp[aa,hlt]
   rw[this]at hs
   rcases aO.1 hs with hs|hs
   ·exact hn s hs
   ·simp at hs;rw[hs];simpa using h
theorem PM(l:List (List UInt8))(a:AV)(ha:cH a l)(hl:l.length<1000000):an Tryz.prog 157 [a,.v (.func (.func 159) #[] #[])] [] (bK (.v (.bool (l.any dk)))):=by
 have hI:an Tryz.prog 179 [a,.v (.func (.func 159) #[] #[])] [] (fun r o=>∃n:Int,r=.v (.int .i64 n)/\(0<=n↔l.any dk=true)/\o=[]):=by
  refine QZ _ ha.1 ?_
  simp only[L3,↓zq,zs,ac,ha.len]
  refine⟨ha.1,lj (On l a ha hl l.length 0 (by omega) (by simp)) ?_ ?_⟩
  ·rintro ys o (⟨_,h1,rfl,rfl⟩|⟨h,_⟩)
   ·simp only[↓zq,zs,ac]
    exact⟨-1,rfl,⟨fun h=>(by omega),fun h=>absurd h h1⟩⟩
   ·cases h
  ·rintro ys o (⟨h,_⟩|⟨_,h1,j,rfl,rfl⟩)
   ·cases h
   ·simp only[↓zq,zs,ac]
    exact⟨j,rfl,⟨fun _=>h1,fun _=>(by omega)⟩⟩
 refine Qu _ ha.1 ?_
 unfold JB
 refine aR hI ⟨.v (.int .i64 (if l.any dk=true then 0 else -1)),[],_,rfl,by split<;>simp_all,rfl⟩ ?_
 rintro r o ⟨n,rfl,hn,rfl⟩
 simp only[↓zq,zs,ac,bK]
 congr 2
 rw[cw];simp only[decide_eq_true_eq,ge_iff_le,hn]
def Ty.closed(t:Ty):Bool:=!((bQ t []).any dk)
theorem Q9(t:Ty)(hl:t.aE<100000):an Tryz.prog 127 [t.av] [] (bK (.v (.bool t.closed))):=by
 refine R3 _ ((aF _).mpr trivial) ?_
 unfold L4
 refine aj (L0 t hl) ?_
 simp only[↓zq,zs,ac]
 have:=eA t []
 refine aj (PM _ _ (.of _) (by simp at this;omega)) ?_
 simp only[↓zq,zs,ac,bK,Ty.closed]
def wT(s:List UInt8):Option Ty:=match qL s with
 |none=>none
 |some t=>if t.closed=true then some t else none
theorem sL{s:List UInt8}{t:Ty}(h:qL s=some t):t.aE<=400:=by
 unfold qL at h
 split at h
 ·cases h
 ·split at h
  ·cases h
  ·split at h<;>cases h
   omega
theorem MO(s:List UInt8):an Tryz.prog 93 [.v (.string (mk s))] [] (bK (io (wT s))):=by
 refine Qn _ ?_
 unfold JL
 refine aj (FN s) ?_
 unfold wT
 cases ht:qL s with
 |none=>simp[io,↓zq,zs,ac,bK]
 |
  some t =>
  have:=sL ht
  simp only[io,↓zq,zs,ac,aF,fS]
  refine⟨fun h=>(by cases h),fun _=>?_⟩
  refine aj (Q9 t (by omega)) ?_
  simp only[↓zq,zs,ac,bK]
  refine⟨fun h=>?_,fun h=>?_⟩
  ·rw[if_neg (by rw[h];simp)]
  ·rw[if_pos h]
theorem eF(l:List (List UInt8)):∀x,x∈[Ob.vec 1 (bP l)]->fj x:=by
 intro x hx
 simp only[aS]at hx
 subst hx
 intro e he c hc
 simp only[bP,bO]at he
 obtain⟨k,_,rfl⟩:=he
 simp only[aS]at hc
 exact⟨_,hc⟩
end Go.Proofs.Trees
namespace Go.Proofs.Trees
open Go Go.VL Go.RowKit
abbrev Nm:=List UInt8
def dA(u:Ty):Ty->Nat->Ty
 | .bT k,i=>if k=i then u else .bT k
 | .plus a b,i=>.plus (dA u a i) (dA u b i)
 | .times a b,i=>.times (dA u a i) (dA u b i)
 | .rc a,i=>.rc (dA u a (i+1))
 |t,_=>t
def sub(x:Nm)(u:Ty):Ty->Ty
 | .name s=>if s=x then u else .name s
 | .plus a b=>.plus (sub x u a) (sub x u b)
 | .times a b=>.times (sub x u a) (sub x u b)
 | .rc a=>.rc (sub x u a)
 |t=>t
def bn(x:Nm):Ty->Bool
 | .name s=>decide (s=x)
 | .plus a b=>bn x a||bn x b
 | .times a b=>bn x a||bn x b
 | .rc a=>bn x a
 |_=>false
def jQ(f:Nm->Nm):Ty->Ty
 | .name s=>.name (f s)
 | .plus a b=>.plus (jQ f a) (jQ f b)
 | .times a b=>.times (jQ f a) (jQ f b)
 | .rc a=>.rc (jQ f a)
 |t=>t
def Ng(f:Nm->Nm):Prop:=∀x y,f x=f y->x=y
theorem lV(f:Nm->Nm)(x:Nm):∀(t:Ty) (i:Nat),jQ f (dA (.name x) t i)=dA (.name (f x)) (jQ f t) i
 | .bT k,i=>by simp only[dA,jQ];split<;>rfl
 | .plus a b,i=>by simp only[dA,jQ,lV f x a i,lV f x b i]
 | .times a b,i=>by simp only[dA,jQ,lV f x a i,lV f x b i]
 | .rc a,i=>by simp only[dA,jQ,lV f x a (i+1)]
 | .zero,i=>rfl
 | .one,i=>rfl
 | .name s,i=>rfl
theorem lY{f:Nm->Nm}(hf:Ng f)(x:Nm)(u:Ty):∀t:Ty,jQ f (sub x u t)=sub (f x) (jQ f u) (jQ f t)
 |
  .name s=>by
  simp only[sub,jQ]
  by_cases h:s=x
  ·subst h;simp
  ·rw[if_neg h,if_neg fun e=>h (hf _ _ e)];rfl
 | .plus a b=>by simp only[sub,jQ,lY hf x u a,lY hf x u b]
 | .times a b=>by simp only[sub,jQ,lY hf x u a,lY hf x u b]
 | .rc a=>by simp only[sub,jQ,lY hf x u a]
 | .zero=>rfl
 | .one=>rfl
 | .bT k=>rfl
theorem np{f:Nm->Nm}(hf:Ng f)(x:Nm):∀t:Ty,bn (f x) (jQ f t)=bn x t
 | .name s=>by simp only[bn,jQ];rw[cw];simp only[decide_eq_true_eq];exact⟨fun e=>hf _ _ e,fun e=>by rw[e]⟩
 | .plus a b=>by simp only[bn,jQ,np hf x a,np hf x b]
 | .times a b=>by simp only[bn,jQ,np hf x a,np hf x b]
 | .rc a=>by simp only[bn,jQ,np hf x a]
 | .zero=>rfl
 | .one=>rfl
 | .bT k=>rfl
theorem gY(f:Nm->Nm):∀t:Ty,(jQ f t).aE=t.aE
 | .plus a b=>by simp only[Ty.aE,jQ,gY f a,gY f b]
 | .times a b=>by simp only[Ty.aE,jQ,gY f a,gY f b]
 | .rc a=>by simp only[Ty.aE,jQ,gY f a]
 | .name s=>rfl
 | .zero=>rfl
 | .one=>rfl
 | .bT k=>rfl
theorem pX{f:Nm->Nm}:∀t:Ty,(∀x,bn x t=true->f x=x)->jQ f t=t
 | .name s,h=>by simp only[jQ];rw[h s (by simp[bn])]
 | .plus a b,h=>by simp only[jQ];rw[pX a fun x hx=>h x (by simp[bn,hx]),pX b fun x hx=>h x (by simp[bn,hx])]
 | .times a b,h=>by simp only[jQ];rw[pX a fun x hx=>h x (by simp[bn,hx]),pX b fun x hx=>h x (by simp[bn,hx])]
 | .rc a,h=>by simp only[jQ];rw[pX a fun x hx=>h x hx]
 | .zero,_=>rfl
 | .one,_=>rfl
 | .bT k,_=>rfl
theorem fL(x:Nm):∀(t:Ty) (i:Nat),(dA (.name x) t i).aE=t.aE
 | .bT k,i=>by simp only[dA];split<;>rfl
 | .plus a b,i=>by simp only[dA,Ty.aE,fL x a i,fL x b i]
 | .times a b,i=>by simp only[dA,Ty.aE,fL x a i,fL x b i]
 | .rc a,i=>by simp only[dA,Ty.aE,fL x a (i+1)]
 | .zero,i=>rfl
 | .one,i=>rfl
 | .name s,i=>rfl
theorem ep(t:Ty):1<=t.aE:=by cases t<;>simp only[Ty.aE]<;>omega
theorem gU(x:Nm)(u:Ty):∀t:Ty,t.aE<=(sub x u t).aE
 | .name s=>by simp only[sub];split<;>simp only[Ty.aE];exact ep u;omega
 | .plus a b=>by have:=gU x u a;have:=gU x u b;simp only[sub,Ty.aE];omega
 | .times a b=>by have:=gU x u a;have:=gU x u b;simp only[sub,Ty.aE];omega
 | .rc a=>by have:=gU x u a;simp only[sub,Ty.aE];omega
 | .zero=>au _
 | .one=>au _
 | .bT k=>au _
theorem gF{x y:Nm}:∀(t:Ty) (i:Nat),bn y (dA (.name x) t i)=true->y=x\/bn y t=true
 |
  .bT k,i,h=>by
  simp only[dA]at h
  split at h
  ·left;simp only[bn,decide_eq_true_eq]at h;exact h.symm
  ·cases h
 |
  .plus a b,i,h=>by
  simp only[dA,bn,bC]at h |-
  rcases h with h|h
  ·rcases gF a i h with h|h<;>simp[h]
  ·rcases gF b i h with h|h<;>simp[h]
 |
  .times a b,i,h=>by
  simp only[dA,bn,bC]at h |-
  rcases h with h|h
  ·rcases gF a i h with h|h<;>simp[h]
  ·rcases gF b i h with h|h<;>simp[h]
 | .rc a,i,h=>gF a (i+1) h
 | .zero,i,h=>by cases h
 | .one,i,h=>by cases h
 | .name s,i,h=>.inr h
theorem jo{x y:Nm}{u:Ty}:∀t:Ty,bn y (sub x u t)=true->bn y u=true\/(y≠x/\bn y t=true)
 |
  .name s,h=>by
  simp only[sub]at h
  split at h
  ·exact .inl h
  ·rename_i hs
   simp only[bn,decide_eq_true_eq]at h
   subst h
   exact .inr ⟨hs,by simp[bn]⟩
 |
  .plus a b,h=>by
  simp only[sub,bn,bC]at h |-
  rcases h with h|h
  ·rcases jo a h with h|h<;>simp[h]
  ·rcases jo b h with h|h<;>simp[h]
 |
  .times a b,h=>by
  simp only[sub,bn,bC]at h |-
  rcases h with h|h
  ·rcases jo a h with h|h<;>simp[h]
  ·rcases jo b h with h|h<;>simp[h]
 |
  .rc a,h=>by
  simp only[sub,bn]at h |-
  exact jo a h
 | .zero,h=>by cases h
 | .one,h=>by cases h
 | .bT k,h=>by cases h
def swp(x y:Nm):Nm->Nm:=fun s=>if s=x then y else if s=y then x else s
theorem zd(x y:Nm):Ng (swp x y):=by
 intro a b h
 unfold swp at h
 by_cases h1:a=x<;>by_cases h2:a=y<;>by_cases h3:b=x<;>by_cases h4:b=y<;>simp_all
theorem vZ(x y:Nm):swp x y x=y:=by simp[swp]
theorem A3{x y s:Nm}(h:s≠x)(h':s≠y):swp x y s=s:=by simp[swp,h,h']
theorem tT{x y:Nm}{t:Ty}(h:bn x t=false)(h':bn y t=false):jQ (swp x y) t=t :=
 pX t fun z hz=>A3 (fun e=>by subst e;rw[h]at hz;cases hz) (fun e=>by subst e;rw[h']at hz;cases hz)
def pH(a:Ty)(x:Nm)(c d:Ty):Ty:=.rc (.plus (sub x (.rc a) c) (.times (sub x (.rc a) d) (.bT 0)))
inductive Dv:Ty->Nm->Ty->Prop
 |zero (s):Dv .zero s .zero
 |one (s):Dv .one s .zero
 |bT (k s):Dv (.bT k) s .zero
 |hit (s):Dv (.name s) s .one
 |qF {n s} (h:n≠s):Dv (.name n) s .zero
 |plus {a b s a' b'} (h1:Dv a s a') (h2:Dv b s b') (hl:(Ty.plus a' b').aE<=400):Dv (.plus a b) s (.plus a' b')
 |times {a b s a' b'} (h1:Dv a s a') (h2:Dv b s b') (hl:(Ty.plus (.times a' b) (.times a b')).aE<=400):Dv (.times a b) s (.plus (.times a' b) (.times a b'))
 |rc {a s c d} (x:Nm) (hx:bn x a=false) (hs:x≠s) (h1:Dv (dA (.name x) a 0) s c) (h2:Dv (dA (.name x) a 0) x d) (hl:(pH a x c d).aE<=400):Dv (.rc a) s (pH a x c d)
theorem yz{f:Nm->Nm}(hf:Ng f)(a:Ty)(x:Nm)(c d:Ty):jQ f (pH a x c d)=pH (jQ f a) (f x) (jQ f c) (jQ f d):=by
 simp only[pH,jQ,lY hf]
theorem Dv.jQ{f:Nm->Nm}(hf:Ng f){t d:Ty}{s:Nm}(h:Dv t s d):Dv (jQ f t) (f s) (jQ f d):=by
 induction h with
 |zero s=>exact .zero _
 |one s=>exact .one _
 |bT k s=>exact .bT _ _
 |hit s=>exact .hit _
 |qF h=>exact .qF fun e=>h (hf _ _ e)
 |plus h1 h2 hl i1 i2=>exact .plus i1 i2 (by rw[<-gY f]at hl;exact hl)
 |times h1 h2 hl i1 i2=>exact .times i1 i2 (by rw[<-gY f]at hl;exact hl)
 |
  rc x hx hs h1 h2 hl i1 i2 =>
  rw[yz hf]
  rw[lV]at i1 i2
  exact .rc (f x) (by rw[np hf];exact hx) (fun e=>hs (hf _ _ e)) i1 i2 (by rw[<-yz hf,gY];exact hl)
theorem Dv.names{t d:Ty}{s:Nm}(h:Dv t s d):∀y,bn y d=true->bn y t=true:=by
 induction h with
 |zero s=>intro y hy;cases hy
 |one s=>intro y hy;cases hy
 |bT k s=>intro y hy;cases hy
 |hit s=>intro y hy;cases hy
 |qF h=>intro y hy;cases hy
 |
  plus h1 h2 hl i1 i2 =>
  intro y hy
  simp only[bn,bC]at hy |-
  rcases hy with hy|hy
  ·exact .inl (i1 y hy)
  ·exact .inr (i2 y hy)
 |
  times h1 h2 hl i1 i2 =>
  intro y hy
  simp only[bn,bC]at hy |-
  rcases hy with(hy|hy)|(hy|hy)
  ·exact .inl (i1 y hy)
  ·exact .inr hy
  ·exact .inl hy
  ·exact .inr (i2 y hy)
 |
  rc x hx hs h1 h2 hl i1 i2 =>
  intro y hy
  simp only[pH,bn,bC,Bool.or_false]at hy |-
  have key:∀{a c:Ty},(∀y,bn y c=true->bn y (dA (.name x) a 0)=true)->bn y (sub x (.rc a) c)=true->bn y a=true:=fun i h=>by
   rcases jo _ h with h|⟨h,h'⟩
   ·exact h
   ·rcases gF _ _ (i y h')with e|e
    ·exact absurd e h
    ·exact e
  rcases hy with hy|hy
  ·exact key i1 hy
  ·exact key i2 hy
theorem Dv.fresh{t d:Ty}{s y:Nm}(h:Dv t s d)(hy:bn y t=false):bn y d=false:=by
 cases e:bn y d with
 |false=>rfl
 |true=>rw[h.names y e]at hy;cases hy
theorem Dv.move{a c:Ty}{x y s:Nm}(hx:bn x a=false)(hy:bn y a=false)(h:Dv (dA (.name x) a 0) s c):Dv (dA (.name y) a 0) (swp x y s) (Go.Proofs.Trees.jQ (swp x y) c):=by
 have:=h.jQ (zd x y)
 rw[lV,vZ,tT hx hy]at this
 exact this
theorem mK{a c:Ty}{x y s:Nm}(hx:bn x a=false)(hy:bn y a=false)(h:Dv (dA (.name x) a 0) s c):sub y (.rc a) (jQ (swp x y) c)=sub x (.rc a) c:=by
 have e:=lY (zd x y) x (.rc a) c
 rw[vZ,tT (t:=.rc a) hx hy]at e
 rw[<-e]
 have key:∀z,(z=x\/z=y)->bn z (sub x (.rc a) c)=false:=fun z hz=>by
  cases q:bn z (sub x (.rc a) c)with
  |false=>rfl
  |
   true =>
   exfalso
   have hz':bn z a=false:=by rcases hz with rfl|rfl<;>assumption
   rcases jo _ q with h1|⟨h1,h2⟩
   ·rw[show bn z (.rc a)=bn z a from rfl,hz']at h1;cases h1
   ·rcases gF _ _ (h.names z h2)with e|e
    ·exact h1 e
    ·rw[hz']at e;cases e
 exact tT (key x (.inl rfl)) (key y (.inr rfl))
theorem Dv.wL:∀(n:Nat) (t:Ty),t.aE<=n->∀{s:Nm} {d d':Ty},Dv t s d->Dv t s d'->d=d'
 |0,t,h,_,_,_,_,_=>by have:=ep t;omega
 |
  n+1,t,hn,s,d,d',h,h'=>by
  cases h with
  |zero=>cases h';rfl
  |one=>cases h';rfl
  |bT=>cases h';rfl
  |
   hit =>
   cases h' with
   |hit=>rfl
   |qF h=>exact absurd rfl h
  |
   qF h =>
   cases h' with
   |hit=>exact absurd rfl h
   |qF _=>rfl
  |
   plus h1 h2 =>
   simp only[Ty.aE]at hn
   cases h' with
   |plus g1 g2=>rw[Dv.wL n _ (by omega) h1 g1,Dv.wL n _ (by omega) h2 g2]
  |
   times h1 h2 =>
   simp only[Ty.aE]at hn
   cases h' with
   |times g1 g2=>rw[Dv.wL n _ (by omega) h1 g1,Dv.wL n _ (by omega) h2 g2]
  |
   rc x hx hs h1 h2 =>
   simp only[Ty.aE]at hn
   cases h' with
   |
    rc y hy hs' g1 g2 =>
    rename_i a _ _ _ _ _ _
    have m1:=h1.move hx hy
    have m2:=h2.move hx hy
    rw[A3 (Ne.symm hs) (Ne.symm hs')]at m1
    rw[vZ]at m2
    have e1:=Dv.wL n _ (by rw[fL];omega) m1 g1
    have e2:=Dv.wL n _ (by rw[fL];omega) m2 g2
    rw[pH,pH,<-e1,<-e2,mK hx hy h1,mK hx hy h2]
theorem Dv.small{t d:Ty}{s:Nm}(h:Dv t s d):d.aE<=400:=by
 cases h<;>first|assumption|simp[Ty.aE]
open Classical in
noncomputable def lQ (t:Ty) (s:Nm):Option Ty:=if h:∃d,Dv t s d then some (Classical.choose h)else none
theorem cR{t:Ty}{s:Nm}{d:Ty}:lQ t s=some d↔Dv t s d:=by
 unfold lQ
 by_cases h:∃d,Dv t s d
 ·rw[dif_pos h]
  have:=Classical.choose_spec h
  constructor
  ·intro e;cases e;exact this
  ·intro g;rw[Dv.wL _ t (au _) this g]
 ·rw[dif_neg h]
  exact⟨fun e=>(by cases e),fun g=>absurd ⟨d,g⟩ h⟩
def nJ(t:Ty):Option Ty:=if t.aE<=400 then some t else none
theorem eS{t d:Ty}:nJ t=some d↔t.aE<=400/\t=d:=by
 unfold nJ
 split
 ·rename_i h;simp[h]
 ·rename_i h;simp[h]
theorem rb{α:Type}{a b:Option α}(h:∀d,a=some d↔b=some d):a=b:=by
 cases a with
 |
  none=>cases b with
  |none=>rfl
  |some x=>have:=(h x).2 rfl;cases this
 |some x=>exact((h x).1 rfl).symm
theorem wa(s:Nm):lQ .zero s=some .zero:=cR.2 (.zero _)
theorem yk(s:Nm):lQ .one s=some .zero:=cR.2 (.one _)
theorem zQ(k:Nat)(s:Nm):lQ (.bT k) s=some .zero:=cR.2 (.bT _ _)
theorem ov(n s:Nm):lQ (.name n) s=some (if n=s then .one else .zero):=by
 split
 ·rename_i h;subst h;exact cR.2 (.hit _)
 ·rename_i h;exact cR.2 (.qF h)
theorem vx(a b:Ty)(s:Nm):lQ (.plus a b) s=(lQ a s).bind fun a'=>(lQ b s).bind fun b'=>nJ (.plus a' b'):=by
 refine rb fun d=>?_
 rw[cR]
 simp only[bi,cR,eS]
 constructor
 ·intro h;cases h with|plus h1 h2 hl=>exact⟨_,h1,_,h2,hl,rfl⟩
 ·rintro⟨a',h1,b',h2,hl,rfl⟩;exact .plus h1 h2 hl
theorem sV(a b:Ty)(s:Nm):lQ (.times a b) s=(lQ a s).bind fun a'=>(lQ b s).bind fun b'=>nJ (.plus (.times a' b) (.times a b')):=by
 refine rb fun d=>?_
 rw[cR]
 simp only[bi,cR,eS]
 constructor
 ·intro h;cases h with|times h1 h2 hl=>exact⟨_,h1,_,h2,hl,rfl⟩
 ·rintro⟨a',h1,b',h2,hl,rfl⟩;exact .times h1 h2 hl
theorem Cf{a:Ty}{s x:Nm}(hx:bn x a=false)(hs:x≠s):lQ (.rc a) s=(lQ (dA (.name x) a 0) s).bind fun c=>(lQ (dA (.name x) a 0) x).bind fun d=>nJ (pH a x c d):=by
 refine rb fun d=>?_
 rw[cR]
 simp only[bi,cR,eS]
 constructor
 ·intro h
  cases h with
  |
   rc y hy hs' h1 h2 hl =>
   have m1:=h1.move hy hx
   have m2:=h2.move hy hx
   rw[A3 (Ne.symm hs') (Ne.symm hs)]at m1
   rw[vZ]at m2
   refine⟨_,m1,_,m2,?_⟩
   have e:∀c d,sub x (.rc a) (jQ (swp y x) c)=sub y (.rc a) c->sub x (.rc a) (jQ (swp y x) d)=sub y (.rc a) d->pH a x (jQ (swp y x) c) (jQ (swp y x) d)=pH a y c d:=fun c d e1 e2=>by rw[pH,pH,e1,e2]
   rw[e _ _ (mK hy hx h1) (mK hy hx h2)]
   exact⟨hl,rfl⟩
 ·rintro⟨c,h1,d',h2,hl,rfl⟩;exact .rc x hx hs h1 h2 hl
noncomputable def oi (a:Ty) (x:Nm):Option Ty:=(lQ (dA (.name x) a 0) x).bind fun d=>nJ (sub x (.rc a) d)
theorem Ik{a:Ty}{x y:Nm}(hx:bn x a=false)(hy:bn y a=false):oi a x=oi a y:=by
 have key:∀{x y:Nm} {d:Ty},bn x a=false->bn y a=false->oi a x=some d->oi a y=some d:=fun {x y d} hx hy h=>by
  simp only[oi,bi,cR,eS]at h |-
  obtain⟨d',h1,hl,rfl⟩:=h
  have m1:=h1.move hx hy
  rw[vZ]at m1
  exact⟨_,m1,by rw[mK hx hy h1];exact⟨hl,rfl⟩⟩
 exact rb fun d=>⟨key hx hy,key hy hx⟩
end Go.Proofs.Trees
namespace Go.Proofs.Trees
open Go Go.VL
theorem PZ(b:UInt8):an Tryz.prog 178 [.v (.int .u8 (b.toNat:Int))] [] (bK (.v (.bool (fh b)))):=by
 refine R0 _ ?_
 simp only[JY,↓zq,zs,ac,bK,fh]
 repeat' (apply aI<;>intro _)
 all_goals first|(congr 2;rw[cw];simp;omega)|(congr 2;simp;omega)
def C5(s:List UInt8)(x:Option (E×List UInt8)):AV->List Ob->Prop:=fun r o=>o=[] /\
 match x with
 |some (e,u)=>r=.cD [e.kI,.v (.int .i64 ((s.length-u.length:Nat):Int))]
 |none=>∃(c:List UInt8) (d:AV),LK.sl.has d/\r=.cD [.agg [.v (.string (mk c)),d],.v (.int .i64 (-1))]
theorem C5.ne(s:List UInt8)(x:Option (E×List UInt8)):∃r o,C5 s x r o:=by
 cases x with
 |some q=>exact⟨_,_,rfl,rfl⟩
 |none=>exact⟨_,_,rfl,[],.v (.slice none 0 0),(bg).mpr trivial,rfl⟩
def jc(c:List UInt8)(d:AV):Ob:=.cells [.v (.string (mk c)),d]
theorem JA(s:List UInt8)(hs:s.length<=8000)(from_:Int)(c1 c2:List UInt8)(d1 d2:AV)(h1:LK.sl.has d1)(h2:LK.sl.has d2):∀(k i:Nat),i+k=s.length->Ig [.v (.string (mk s)),.v (.int .i64 (i:Int)),.v (.int .i64 from_)] [jc c1 d1,jc c2 d2]
 (gV 1 [.v (.string (mk s)),.v (.int .i64 ((i+((s.drop i).takeWhile fh).length:Nat):Int)),.v (.int .i64 from_)] [jc c1 d1,jc c2 d2])
 |
  0,i,hi=>by
  refine MT _ _ _ _ _ _ _ ?_
  have hd:s.drop i=[]:=bW (by omega)
  simp only[Ix,↓zq,zs,ac,zt]
  exact⟨h1,h2,fun h=>by omega,fun _=>by simp[gV,hd,jc]⟩
 |
  k+1,i,hi=>by
  have hlt:i<s.length:=by omega
  refine MT _ _ _ _ _ _ _ ?_
  simp only[Ix,↓zq,zs,ac,zt,ml s i hlt]
  refine⟨h1,h2,fun _=>⟨by omega,?_⟩,fun h=>by omega⟩
  refine aj (PZ _) ?_
  simp only[↓zq,zs,ac]
  refine⟨fun hb=>?_,fun hb=>?_⟩
  ·rw[bA i (by omega)]
   have:=JA s hs from_ c1 c2 d1 d2 h1 h2 k (i+1) (by omega)
   rw[yA hlt hb,show i+(((s.drop (i+1)).takeWhile fh).length+1)=i+1+((s.drop (i+1)).takeWhile fh).length by omega]
   exact this
  ·simp[gV,qZ hlt hb,jc]
def S1(s:List UInt8)(x:Option (E×List UInt8)):Nat->List AV->List Ob->Prop:=fun t ys o=>t=2 /\
 match x with
 |some (e,u)=>∃l,e=.list l/\ys=[.v (.int .i64 ((s.length-u.length:Nat):Int))]/\o=[jc [] .any,.vec 2 (E.bw l)]
 |none=>∃es,ys=[.v (.int .i64 (-1))]/\o=[jc [] .any,.vec 2 es]
theorem yM(e:E):(e.kI=.agg e.kI.cs/\e.kI.cs.length=2/\bF [.str,.sl] e.kI.cs 0)=True:=by
 apply eq_true
 cases e<;>simp[E.kI,E.iw,BM,bF,dY,bg,cg]
theorem w9(e:E):[AV.v (.string ((e.kI.cs.getD 0 .any).ah)),e.kI.cs.getD 1 .any]=e.iw:=by
 cases e<;>rfl
theorem drop_cons{s:List UInt8}{j:Nat}(hj:j<s.length):s.drop j=s.getD j 0::s.drop (j+1):=by
 rw[aU hj];simp[aa,hj]
theorem Ja(s:List UInt8)(hs:s.length<=8000)(d:Nat)(hd:d<=300)(f:List UInt8->Option (E×List UInt8))(hf:∀u e r,f u=some (e,r)->∃j,r=u.drop j/\0<j/\j<=u.length)
 (ih:∀j,j<=s.length->an Tryz.prog 152 [.v (.string (mk s)),.v (.int .i64 (j:Int)),.v (.int .i64 ((d+1:Nat):Int))] [] (C5 s (f (s.drop j)))) :
 ∀(n i:Nat) (acc:List E) (c1:List UInt8) (d1:AV),LK.sl.has d1->s.length-(i+1)<n->i<s.length->s.length-i+acc.length<=8001->Iz [.v (.string (mk s)),.v (.int .i64 (i:Int)),.v (.int .i64 (d:Int))] [jc c1 d1,jc [] .any,.vec 2 (E.bw acc)]
  (S1 s (sA f n (s.drop (i+1)) acc))
 |0,i,acc,c1,d1,h1,hn,_,_=>by omega
 |
  n+1,i,acc,c1,d1,h1,hn,hi,hl=>by
  refine R8 _ _ _ _ _ _ _ ?_
  simp only[Kj,↓zq,zs,ac,jc]
  refine⟨h1,?_⟩
  rw[bA i (by omega),bA d (by omega)]
  refine aR (ih (i+1) (by omega)) (C5.ne _ _) ?_
  rintro r o ⟨rfl,hr⟩
  have hff:=hf (s.drop (i+1))
  unfold sA
  cases hq:f (s.drop (i+1))with
  |
   none =>
   rw[hq]at hr
   obtain⟨c,d',hd',rfl⟩:=hr
   simp only[↓zq,zs,ac,zt,bF]
   refine⟨hd',fun _=>⟨rfl,_,rfl,rfl⟩,fun h=>by omega⟩
  |
   some q =>
   obtain⟨e,u⟩:=q
   rw[hq]at hr
   subst hr
   obtain⟨j,hu,hj0,hj⟩:=hff e u hq
   rw[List.drop_drop]at hu
   simp only[cu]at hj
   have hul:u.length=s.length-(i+1+j):=by rw[hu,cu]
   have hpos:s.length-u.length=i+1+j:=by omega
   simp only[↓zq,zs,ac,zt,yM,hpos,w9,eg]
   refine⟨fun h=>by omega,fun _=>⟨fun h=>?_,fun h=>⟨⟨fun c hc=>(by simp at hc;rw[hc];cases e<;>rfl),by omega⟩,?_⟩⟩⟩
   ·have:u=[]:=by rw[hu];exact bW (by omega)
    subst this
    exact⟨rfl,_,rfl,rfl⟩
   ·have hlt:i+1+j<s.length:=by omega
    rw[drop_cons hlt]at hu
    subst hu
    rw[ml s _ hlt]
    generalize hb:s.getD (i+1+j) 0=b
    refine⟨by omega,fun h41=>?_,fun h41=>⟨by omega,fun h32=>?_,fun h32=>?_⟩⟩
    ·have h41':b.toNat=41:=by omega
     dsimp only
     rw[if_pos h41',bA _ (by omega)]
     refine⟨rfl,acc++[e],rfl,?_,?_⟩
     ·rw[cu];congr 3;omega
     ·simp[jc,qb,E.bw]
    ·have h41':¬b.toNat=41:=by omega
     have h32':¬b.toNat=32:=by omega
     dsimp only
     rw[if_neg h41',if_neg h32']
     exact⟨rfl,_,rfl,rfl⟩
    ·have h41':¬b.toNat=41:=by omega
     have h32':b.toNat=32:=by omega
     dsimp only
     rw[if_neg h41',if_pos h32']
     have:=Ja s hs d hd f hf ih n (i+1+j) (acc++[e]) c1 d1 h1 (by omega) hlt (by simp;omega)
     simpa[jc,qb,E.bw]using this
theorem Et(k:Nat)(u:List UInt8)(e:E)(r:List UInt8)(h:rd k u=some (e,r)):∃j,r=u.drop j/\0<j/\j<=u.length:=by
 have suf:∀(k:Nat) (u:List UInt8) (e:E) (r:List UInt8),rd k u=some (e,r)->r <:+ u:=by
  intro k
  have tw:∀u:List UInt8,u.dropWhile fh <:+ u:=fun u=>List.dropWhile_suffix _
  have ll:∀(f:List UInt8->Option (E×List UInt8)),(∀u e r,f u=some (e,r)->r <:+ u)->∀(n:Nat) (u:List UInt8) (acc:List E) (e:E) (r:List UInt8),sA f n u acc=some (e,r)->r <:+ u:=by
   intro f hf n
   induction n with
   |zero=>intro u acc e r h;cases h
   |
    succ n ih =>
    intro u acc e r h
    simp only[sA]at h
    split at h
    ·rename_i p c r' hs
     have h1:r' <:+ u:=(List.suffix_cons c r').trans (hf _ _ _ hs)
     split at h
     ·cases h;exact h1
     ·split at h
      ·exact(ih _ _ _ _ h).trans h1
      ·cases h
    ·cases h
  induction k with
  |
   zero =>
   intro u e r h
   simp only[rd]at h
   split at h
   ·cases h
   ·cases h;exact tw u
  |
   succ k ih =>
   intro u e r h
   simp only[rd]at h
   split at h
   ·split at h
    ·split at h
     ·exact(ll _ ih _ _ _ _ _ h).trans (List.suffix_cons _ _)
     ·cases h
    ·cases h
   ·cases h;exact tw u
 obtain⟨p,hp⟩:=suf k u e r h
 have hlt:=yI k u e r h
 have:=congrArg List.length hp
 simp only[aq]at this
 exact⟨p.length,by rw[<-hp];simp,by omega,by omega⟩
theorem Be(n:Nat)(u:List UInt8)(acc:List E):sA (fun _=>none) n u acc=none:=by
 cases n<;>rfl
theorem QT(s:List UInt8)(j:Nat):an Tryz.prog 152 [.v (.string (mk s)),.v (.int .i64 (j:Int)),.v (.int .i64 ((300+1:Nat):Int))] [] (C5 s none):=by
 refine NX _ _ _ ?_
 simp only[Ii,↓zq,zs,ac]
 exact⟨fun _=>⟨rfl,[],_,(bg).mpr trivial,rfl⟩,fun h=>by omega⟩
theorem qi(s:List UInt8)(hs:s.length<=8000)(d i:Nat)(hd:d<=300)(hi:i<=s.length)(f:List UInt8->Option (E×List UInt8))(hf:∀u e r,f u=some (e,r)->∃j,r=u.drop j/\0<j/\j<=u.length)
 (ih:∀j,j<=s.length->an Tryz.prog 152 [.v (.string (mk s)),.v (.int .i64 (j:Int)),.v (.int .i64 ((d+1:Nat):Int))] [] (C5 s (f (s.drop j)))) (x:Option (E×List UInt8))
 (h0:i=s.length->x=none)
 (h1:i<s.length->(s.drop i).takeWhile fh≠[]->x=some (.atom ((s.drop i).takeWhile fh),(s.drop i).dropWhile fh))
 (h2:i<s.length->(s.drop i).takeWhile fh=[]->¬(s.getD i 0).toNat=40->x=none)
 (h3:i<s.length->(s.getD i 0).toNat=40->x=sA f (s.length-(i+1)+1) (s.drop (i+1)) []) :
 an Tryz.prog 152 [.v (.string (mk s)),.v (.int .i64 (i:Int)),.v (.int .i64 (d:Int))] [] (C5 s x):=by
 refine NX _ _ _ ?_
 simp only[Ii,↓zq,zs,ac,zt]
 refine⟨fun h=>by omega,fun _=>⟨fun h=>?_,fun h=>⟨by omega,?_⟩⟩⟩
 ·rw[h0 (by omega)]
  exact⟨rfl,[],_,(bg).mpr trivial,rfl⟩
 ·have hlt:i<s.length:=by omega
  rw[ml s i hlt]
  refine⟨fun h40=>?_,fun h40=>?_⟩
  ·have h40':¬(s.getD i 0).toNat=40:=by omega
   refine cx (JA s hs _ [] [] _ _ ((bg).mpr trivial) ((bg).mpr trivial) (s.length-i) i (by omega)) ?_
   have hex:(List.take (i+((s.drop i).takeWhile fh).length) s).drop i=(s.drop i).takeWhile fh:=by
    rw[List.drop_take,Nat.add_sub_cancel_left];exact uR _
   have hle:i+((s.drop i).takeWhile fh).length<=s.length:=by
    have:=ue (s.drop i);simp only[cu]at this;omega
   simp only[jc,↓zq,zs,ac,zt,hex]
   refine⟨by omega,fun hnil=>?_,fun hnil=>?_⟩
   ·rw[h2 hlt hnil h40',hnil]
    exact⟨rfl,[],_,(bg).mpr trivial,rfl⟩
   ·rw[h1 hlt hnil]
    refine⟨rfl,?_⟩
    have:=ue (s.drop i)
    simp only[cu]at this
    show _=AV.cD [E.kI (.atom _),_]
    have e:s.length-((s.drop i).dropWhile fh).length=i+((s.drop i).takeWhile fh).length:=by omega
    rw[e];rfl
  ·have h40':(s.getD i 0).toNat=40:=by omega
   rw[h3 hlt h40']
   refine lj (Ja s hs d hd f hf ih (s.length-(i+1)+1) i [] [] _ ((bg).mpr trivial) (by omega) hlt (by simp;omega)) ?_ ?_
   ·rintro ys o ⟨h,_⟩;cases h
   ·rintro ys o ⟨_,hr⟩
    cases hq:sA f (s.length-(i+1)+1) (s.drop (i+1)) []with
    |
     none =>
     rw[hq]at hr
     obtain⟨es,rfl,rfl⟩:=hr
     simp only[jc,↓zq,zs,ac]
     exact⟨rfl,[],_,(cg _).mpr trivial,rfl⟩
    |
     some q =>
     obtain⟨e,u⟩:=q
     rw[hq]at hr
     obtain⟨l,rfl,rfl,rfl⟩:=hr
     simp only[jc,↓zq,zs,ac]
     exact⟨rfl,rfl⟩
theorem RW(s:List UInt8)(hs:s.length<=8000):∀(k:Nat),k<=300->∀i,i<=s.length->an Tryz.prog 152 [.v (.string (mk s)),.v (.int .i64 (i:Int)),.v (.int .i64 ((300-k:Nat):Int))] [] (C5 s (rd k (s.drop i))):=by
 intro k
 have hnil:∀k,rd k []=none:=fun k=>by cases k<;>simp[rd]
 have ha40:∀b:UInt8,b.toNat=40->fh b=false:=fun b hb=>by simp[fh,hb]
 induction k with
 |
  zero =>
  intro hk i hi
  refine qi s hs 300 i (by omega) hi (fun _=>none) (fun _ _ _ h=>by cases h) (fun j _=>QT s j) _ (fun h=>?_) (fun hlt h=>?_) (fun hlt h h40=>?_) (fun hlt h40=>?_)
  ·rw[bW (by omega)];exact hnil 0
  ·simp only[rd,if_neg h]
  ·simp only[rd,if_pos h]
  ·rw[Be]
   have:(s.drop i).takeWhile fh=[]:=qZ hlt (ha40 _ h40)
   simp only[rd,if_pos this]
 |
  succ k ih =>
  intro hk i hi
  have hd:300-(k+1)+1=300-k:=by omega
  refine qi s hs (300-(k+1)) i (by omega) hi (rd k) (Et k) (fun j hj=>by rw[hd];exact ih (by omega) j hj) _ (fun h=>?_) (fun hlt h=>?_) (fun hlt h h40=>?_) (fun hlt h40=>?_)
  ·rw[bW (by omega)];exact hnil _
  ·simp only[rd,if_neg h]
  ·rw[drop_cons hlt]at h |-
   simp only[rd,if_pos h,if_neg h40]
  ·have h:=qZ hlt (ha40 _ h40)
   rw[drop_cons hlt]at h |-
   simp only[rd,if_pos h,if_pos h40,cu]
end Go.Proofs.Trees
namespace Go.Proofs.Trees
open Go Go.VL
theorem jf(e:E):AV.agg [.v (.string ((e.iw.getD 0 .any).ah)),e.iw.getD 1 .any]=e.kI:=by cases e<;>rfl
theorem gp(e:E):e.iw.length=2:=by cases e<;>rfl
theorem iR(e:E):bF [.str,.sl] e.iw 0=True:=by
 apply eq_true
 cases e<;>simp[E.iw,bF,dY,bg,cg]
theorem my(e:E):e.iw.headD .any=.v (.string (mk e.at)):=by cases e<;>rfl
theorem u7(x:E)(l:List E):an Tryz.prog 121 [.agg [.v (.string (mk [])),.sl (E.bw (x::l))]] [] (bK (.v (.string (mk x.at)))):=by
 refine HI _ _ ((cg _).mpr trivial) ?_
 simp only[D1,E.bw,↓zq,zs,ac,zt,bK,gp,my,au]
 refine⟨fun h=>absurd rfl h,fun _=>⟨fun h=>by omega,fun _=>⟨by omega,by omega⟩⟩⟩
theorem Py:an Tryz.prog 121 [.agg [.v (.string (mk [])),.sl (E.bw [])]] [] (bK (.v (.string (mk [])))):=by
 refine HI _ _ ((cg _).mpr trivial) ?_
 simp only[D1,E.bw,↓zq,zs,ac,zt,bK,gp,my,au]
 simp
def j8:E->Bool
 | .atom s=>(s==[48])||(s==[49])||im s||dk s
 | .list [x,a,b]=>if x.at=[43]then j8 a&&j8 b else if x.at=[42]then j8 a&&j8 b else if x.at=[114,101,99]then dk a.at&&j8 b else false
 | .list _=>false
theorem zX:∀(e:E),e.ok->an Tryz.prog 165 [e.kI] [] (bK (.v (.bool (j8 e))))
 |
  .atom s,hok=>by
  refine Nq _ _ ((bg).mpr trivial) ?_
  have hne:s≠[]:=hok
  simp only[xd,↓zq,zs,ac,zt,bK,j8]
  refine⟨fun _=>⟨fun h=>?_,fun h=>⟨fun h1=>?_,fun h1=>?_⟩⟩,fun h=>absurd h hne⟩
  ·simp[h]
  ·simp[h1]
  ·refine aj (FM s) ?_
   simp only[↓zq,zs,ac]
   refine⟨fun hp=>?_,fun hp=>?_⟩
   ·simp[hp]
   ·refine aj (HO s) ?_
    simp[↓zq,zs,ac,hp,h,h1]
 |
  .list l,hok=>by
  refine Nq _ _ ((cg _).mpr trivial) ?_
  match l,hok with
  |[],hok=>simp[xd,E.bw,↓zq,zs,ac,zt,bK,j8]
  |[x],hok=>simp[xd,E.bw,↓zq,zs,ac,zt,bK,j8]
  |[x,y],hok=>simp[xd,E.bw,↓zq,zs,ac,zt,bK,j8]
  |
   x::y::z::w::l,hok =>
   simp only[xd,E.bw,↓zq,zs,ac,zt,bK,j8]
   exact⟨fun h=>absurd rfl h,fun _=>⟨fun _=>trivial,fun h=>by omega⟩⟩
  |
   [x,y,z],hok =>
   obtain⟨ok1,ok2,ok3,_⟩:=hok
   simp only[xd,↓zq,zs,ac,zt,bK]
   refine⟨fun h=>absurd rfl h,fun _=>⟨fun h=>absurd rfl h,fun _=>?_⟩⟩
   refine aj (u7 x _) ?_
   simp only[E.bw,toNat_one,bh,↓zq,zs,ac,zt,jf,gp,iR,my,au,j8]
   refine⟨fun h=>?_,fun h=>⟨fun h1=>?_,fun h1=>⟨fun h2=>?_,fun h2=>?_⟩⟩⟩
   ·rw[if_pos h]
    refine⟨by omega,aj (zX y ok2) ?_⟩
    simp only[↓zq,zs,ac]
    refine⟨fun hy=>⟨by omega,aj (zX z ok3) ?_⟩,fun hy=>?_⟩
    ·simp only[↓zq,zs,ac,hy,bY]
    ·rw[hy];rfl
   ·rw[if_neg h,if_pos h1]
    refine⟨by omega,aj (zX y ok2) ?_⟩
    simp only[↓zq,zs,ac]
    refine⟨fun hy=>⟨by omega,aj (zX z ok3) ?_⟩,fun hy=>?_⟩
    ·simp only[↓zq,zs,ac,hy,bY]
    ·rw[hy];rfl
   ·rw[if_neg h,if_neg h1,if_pos h2]
    refine⟨by omega,by omega,aj (HO _) ?_⟩
    simp only[↓zq,zs,ac]
    refine⟨fun hy=>⟨by omega,aj (zX z ok3) ?_⟩,fun hy=>?_⟩
    ·simp only[↓zq,zs,ac,hy,bY]
    ·rw[hy];rfl
   ·rw[if_neg h,if_neg h1,if_neg h2]
theorem jh:∀(e:E) (ar:List (List UInt8)),(cT e ar).isSome=j8 e
 |
  .atom s,ar=>by
  simp only[cT,j8]
  by_cases h:s=[48]
  ·simp[h]
  ·by_cases h1:s=[49]
   ·simp[h1]
   ·rw[if_neg h,if_neg h1]
    by_cases h2:im s=true
    ·simp[h2]
    ·rw[if_neg h2]
     by_cases h3:dk s=true
     ·rw[if_pos h3];cases bR s ar ar.length<;>simp[h3]
     ·rw[if_neg h3];simp[h,h1,h2,h3]
 | .list [],_=>rfl
 | .list [_],_=>rfl
 | .list [_,_],_=>rfl
 | .list (_::_::_::_::_),_=>rfl
 |
  .list [x,a,b],ar=>by
  have ha:=jh a ar
  have hb:=jh b ar
  have hb2:=jh b (ar++[a.at])
  rw[j8]
  by_cases h:x.at=[43]
  ·rw[kZ ar h,if_pos h,<-ha,<-hb];cases cT a ar<;>cases cT b ar<;>rfl
  ·by_cases h1:x.at=[42]
   ·rw[jZ ar h1,if_neg h,if_pos h1,<-ha,<-hb];cases cT a ar<;>cases cT b ar<;>rfl
   ·by_cases h2:x.at=[114,101,99]
    ·rw[mG ar h2,if_neg h,if_neg h1,if_pos h2,<-hb2]
     cases dk a.at<;>cases cT b (ar++[a.at])<;>rfl
    ·rw[jq ar h h1 h2,if_neg h,if_neg h1,if_neg h2];rfl
mutual
def E.dc:E->Nat
 | .atom _=>1
 | .list l=>E.eZ l
def E.eZ:List E->Nat
 |[]=>0
 |e::l=>e.dc+E.eZ l
end
mutual
theorem jg:∀e:E,e.dc<=e.sz
 | .atom s=>by simp[E.dc,E.sz]
 | .list l=>by have:=uo l;simp only[E.dc,E.sz];omega
theorem uo:∀l:List E,E.eZ l<=E.jv l
 |[]=>by simp[E.eZ,E.jv]
 |e::l=>by have:=jg e;have:=uo l;simp only[E.eZ,E.jv];omega
end
theorem jM:∀(l:List E) (i:Nat) (h:i<l.length),(E.bw l).getD i []=(l[i]).iw
 |e::l,0,_=>rfl
 |
  e::l,i+1,h=>by
  have:=jM l i (by simpa using h)
  simp only[E.bw,List.getD_cons_succ,List.getElem_cons_succ];exact this
theorem zR:∀(l:List E) (i:Nat) (h:i<l.length),E.eZ (l.drop i)=(l[i]).dc+E.eZ (l.drop (i+1)):=by
 intro l i h
 rw[aU h];rfl
theorem uz:∀(l:List E) (i:Nat) (h:i<l.length),E.Er l->(l[i]).ok
 |e::l,0,_,h=>h.1
 |e::l,i+1,hi,h=>uz l i (by simpa using hi) h.2
theorem La(l:List E)(hl:E.eZ l<1000000)(hll:l.length<1000000)(ih:∀i (h:i<l.length),an Tryz.prog 140 [(l[i]).kI] [] (bK (.v (.int .i64 ((l[i]).dc:Int))))) :
 ∀(k i n:Nat),i+k=l.length->n+E.eZ (l.drop i)<=E.eZ l->Hi [.v (.int .i64 (n:Int)),.v (.int .i64 (i:Int))] [.cells [.v (.string (mk [])),.sl (E.bw l)]] (gV 1 [.v (.int .i64 ((n+E.eZ (l.drop i):Nat):Int))] [])
 |
  0,i,n,hi,hn=>by
  refine OC _ _ _ _ ?_
  simp only[GI,↓zq,zs,ac,eg]
  have:l.drop i=[]:=bW (by omega)
  refine⟨fun h=>by omega,fun _=>?_⟩
  simp[gV,this,E.eZ]
 |
  k+1,i,n,hi,hn=>by
  have hlt:i<l.length:=by omega
  refine OC _ _ _ _ ?_
  simp only[GI,↓zq,zs,ac,zt,eg,jM l i hlt,gp,iR,jf,au]
  refine⟨fun _=>⟨by omega,?_⟩,fun h=>by omega⟩
  refine aj (ih i hlt) ?_
  have h1:=zR l i hlt
  simp only[↓zq,zs,ac]
  rw[bA i (by omega),wrap64 _ (by omega) (by omega)]
  have:=La l hl hll ih k (i+1) (n+(l[i]).dc) (by omega) (by omega)
  rw[h1,<-Nat.add_assoc]
  simpa using this
theorem tV:∀l:List E,l.length<=E.jv l
 |[]=>by simp[E.jv]
 |
  e::l=>by
  have:=tV l
  have:1<=e.sz:=by cases e<;>simp[E.sz]
  simp only[E.jv,aA];omega
theorem tO:∀(l:List E) (i:Nat) (h:i<l.length),(l[i]).sz<=E.jv l
 |e::l,0,_=>by simp[E.jv]
 |e::l,i+1,h=>by have:=tO l i (by simpa using h);simp only[E.jv,List.getElem_cons_succ];omega
theorem JF:∀(n:Nat) (e:E),e.sz<n->e.ok->e.sz<1000000->an Tryz.prog 140 [e.kI] [] (bK (.v (.int .i64 (e.dc:Int))))
 |0,e,hn,_,_=>by omega
 |
  n+1,.atom s,hn,hok,hl=>by
  refine MP _ _ ((bg).mpr trivial) ?_
  have hne:s≠[]:=hok
  simp only[G3,↓zq,zs,ac,zt,bK]
  exact⟨fun _=>rfl,fun h=>absurd h hne⟩
 |
  n+1,.list l,hn,hok,hl=>by
  refine MP _ _ ((cg _).mpr trivial) ?_
  simp only[E.sz]at hn hl
  have h1:=uo l
  have h2:=tV l
  simp only[G3,↓zq,zs,ac,zt,bK]
  refine⟨fun h=>absurd rfl h,fun _=>?_⟩
  refine cx (La l (by omega) (by omega) (fun i hi=>?_) l.length 0 0 (by omega) (by simp)) ?_
  ·have:=tO l i hi
   exact JF n (l[i]) (by omega) (uz l i hi hok) (by omega)
  ·simp[↓zq,zs,ac,E.dc]
theorem DO(e:E)(h:e.ok)(hl:e.sz<1000000):an Tryz.prog 140 [e.kI] [] (bK (.v (.int .i64 (e.dc:Int)))):=JF (e.sz+1) e (by omega) h hl
theorem uk{x:E}(h:x.at≠[]):x.dc=1:=by cases x<;>simp[E.at,E.dc]at h |-
theorem BF{s:List UInt8}(h:dk s=true):s≠[]:=by rintro rfl;cases h
theorem j1:∀(e:E) (ar:List (List UInt8)) (t:Ty),cT e ar=some t->e.dc=t.aE
 |
  .atom s,ar,t,h=>by
  simp only[cT]at h
  simp only[E.dc]
  split at h
  ·cases h;rfl
  ·split at h
   ·cases h;rfl
   ·split at h
    ·cases h;rfl
    ·split at h
     ·split at h<;>cases h<;>rfl
     ·cases h
 | .list [],_,_,h=>by cases h
 | .list [_],_,_,h=>by cases h
 | .list [_,_],_,_,h=>by cases h
 | .list (_::_::_::_::_),_,_,h=>by cases h
 |
  .list [x,a,b],ar,t,h=>by
  simp only[E.dc,E.eZ]
  by_cases h0:x.at=[43]
  ·rw[kZ ar h0]at h
   have:=uk (x:=x) (by rw[h0];simp)
   split at h
   ·rename_i t1 t2 e1 e2
    cases h
    have:=j1 a ar _ e1
    have:=j1 b ar _ e2
    simp only[Ty.aE];omega
   ·cases h
  ·by_cases h1:x.at=[42]
   ·rw[jZ ar h1]at h
    have:=uk (x:=x) (by rw[h1];simp)
    split at h
    ·rename_i t1 t2 e1 e2
     cases h
     have:=j1 a ar _ e1
     have:=j1 b ar _ e2
     simp only[Ty.aE];omega
    ·cases h
   ·by_cases h2:x.at=[114,101,99]
    ·rw[mG ar h2]at h
     have:=uk (x:=x) (by rw[h2];simp)
     split at h
     ·rename_i hl
      have:=uk (BF hl)
      split at h
      ·rename_i t1 e1
       cases h
       have:=j1 b _ _ e1
       simp only[Ty.aE];omega
      ·cases h
     ·cases h
    ·rw[jq ar h0 h1 h2]at h;cases h
def jN(x:Option E)(b:Bool):AV->List Ob->Prop:=fun r o=>∃c:List UInt8,∃d:AV,LK.sl.has d/\r=.cD [.agg [.v (.string (mk c)),d],.v (.bool b)]/\(b=true->∃e,x=some e/\AV.agg [.v (.string (mk c)),d]=e.kI)
theorem AK(e:E):∃c:List UInt8,∃d:AV,LK.sl.has d/\e.kI=AV.agg [.v (.string (mk c)),d]:=by
 cases e with
 |atom s=>exact⟨s,_,(bg).mpr trivial,rfl⟩
 |list l=>exact⟨[],_,(cg _).mpr trivial,rfl⟩
theorem jN.ne(x:Option E)(b:Bool)(h:b=true->x.isSome=true):∃r o,jN x b r o:=by
 cases b with
 |false=>exact⟨_,[],[],.v (.slice none 0 0),(bg).mpr trivial,rfl,fun h=>by cases h⟩
 |
  true =>
  cases x with
  |none=>cases h rfl
  |
   some e =>
   obtain⟨c,d,hd,he⟩:=AK e
   exact⟨_,[],c,d,hd,rfl,fun _=>⟨e,rfl,he.symm⟩⟩
theorem OQ(s:List UInt8):an Tryz.prog 122 [.v (.string (mk s))] [] (jN (qY s) (qY s).isSome):=by
 refine Qs _ ?_
 simp only[KN,↓zq,zs,ac,zt,qY]
 refine⟨fun h=>?_,fun h=>?_⟩
 ·rw[if_pos (by omega)]
  exact⟨[],_,(bg).mpr trivial,rfl,fun h=>by cases h⟩
 ·rw[if_neg (by omega)]
  refine aR (RW s (by omega) 300 (by omega) 0 (by omega)) (C5.ne _ _) ?_
  rintro r o ⟨rfl,hr⟩
  rw[be]at hr
  cases hq:rd 300 s with
  |
   none =>
   rw[hq]at hr
   obtain⟨c,d,hd,rfl⟩:=hr
   simp only[↓zq,zs,ac,zt,bF]
   refine⟨hd,c,d,hd,?_,fun h=>by cases h⟩
   have:((-1:Int)==(s.length:Int))=false:=by
    rw[beq_eq_false_iff_ne];omega
   rw[this];rfl
  |
   some q =>
   obtain⟨e,u⟩:=q
   rw[hq]at hr
   subst hr
   have hlt:=yI _ _ _ _ hq
   obtain⟨c,d,hd,he⟩:=AK e
   simp only[he,↓zq,zs,ac,zt,bF]
   cases u with
   |
    nil =>
    refine⟨hd,c,d,hd,?_,fun _=>⟨e,rfl,he.symm⟩⟩
    simp
   |
    cons b u =>
    simp only[aA]at hlt |-
    refine⟨hd,c,d,hd,?_,fun h=>by cases h⟩
    have:(((s.length-(u.length+1):Nat):Int)==(s.length:Int))=false:=by simp;omega
    rw[this];rfl
def wA(s:List UInt8):Option E:=match qY s with
 |none=>none
 |some e=>if j8 e=true/\e.dc<=400 then some e else none
theorem Ic(s:List UInt8):an Tryz.prog 132 [.v (.string (mk s))] [] (jN (wA s) (wA s).isSome):=by
 refine Sk _ ?_
 unfold Lt
 refine aR (OQ s) (jN.ne _ _ (fun h=>h)) ?_
 rintro r o ⟨c,d,hd,rfl,hh⟩
 simp only[↓zq,zs,ac,zt,bF,wA]
 refine⟨hd,fun h=>?_,fun h=>?_⟩
 ·obtain⟨e,he,hce⟩:=hh h
  obtain⟨hok,hsz⟩:=nX he
  rw[he,hce]
  refine aj (zX e hok) ?_
  simp only[↓zq,zs,ac]
  refine⟨fun hi=>?_,fun hi=>?_⟩
  ·refine aj (DO e hok (by omega)) ?_
   simp only[↓zq,zs,ac,hi]
   refine⟨c,d,hd,?_,?_⟩
   ·rw[hce]
    by_cases h4:e.dc<=400
    ·rw[if_pos h4];exact congrArg (fun b=>AV.cD [e.kI,.v (.bool b)]) (decide_eq_true (show ((e.dc:Nat):Int)<=400 by omega))
    ·rw[if_neg h4];exact congrArg (fun b=>AV.cD [e.kI,.v (.bool b)]) (decide_eq_false (show ¬((e.dc:Nat):Int)<=400 by omega))
   ·split
    ·exact fun _=>⟨e,rfl,hce⟩
    ·exact fun h=>by cases h
  ·refine⟨c,d,hd,?_,?_⟩
   ·rw[hce,if_neg (by rw[hi];simp)];rfl
   ·rw[if_neg (by rw[hi];simp)];exact fun h=>by cases h
 ·have hn:qY s=none:=by cases hq:qY s<;>simp[hq]at h |-
  rw[hn]
  exact⟨c,d,hd,rfl,fun h=>by cases h⟩
theorem pS{s:List UInt8}{e:E}(h:wA s=some e):qY s=some e/\j8 e=true/\e.dc<=400:=by
 unfold wA at h
 split at h
 ·cases h
 ·split at h
  ·rename_i e' h1 h2;cases h;exact⟨h1,h2⟩
  ·cases h
end Go.Proofs.Trees
namespace Go.Proofs.Trees
open Go Go.VL
def cc:Ty->Bool
 | .name s=>dk s
 | .plus a b=>cc a||cc b
 | .times a b=>cc a||cc b
 | .rc a=>cc a
 |_=>false
theorem gX:∀(t:Ty) (out:List (List UInt8)),(bQ t out).any dk=(out.any dk||cc t)
 |
  .name s,out=>by
  simp only[bQ,pR,cc]
  split
  ·rename_i h
   cases hs:dk s with
   |false=>simp
   |true=>rw[Bool.or_true,cq];exact⟨s,h,hs⟩
  ·simp
 | .plus a b,out=>by simp only[bQ,cc,gX a,gX b,Bool.or_assoc]
 | .times a b,out=>by simp only[bQ,cc,gX a,gX b,Bool.or_assoc]
 | .rc a,out=>by simp only[bQ,cc,gX a]
 | .zero,out=>by simp[bQ,cc]
 | .one,out=>by simp[bQ,cc]
 | .bT u,out=>by simp[bQ,cc]
theorem tj(t:Ty):t.closed = !cc t:=by simp[Ty.closed,gX]
def pl:Ty->Bool
 | .name s=>decide (s.length<=1)
 | .plus a b=>pl a&&pl b
 | .times a b=>pl a&&pl b
 | .rc a=>false
 |_=>true
theorem l5{lo hi:Nat}{s:List UInt8}(h:named lo hi s=true):∃c r,s=c::r/\lo<=c.toNat/\c.toNat<=hi:=by
 cases s with
 |nil=>cases h
 |cons c r=>simp only[named,az,decide_eq_true_eq]at h;exact⟨c,r,rfl,by omega,by omega⟩
theorem fQ{x a b:E}{ar:List (List UInt8)}{t:Ty}(hx:x.at=[43])(h:cT (.list [x,a,b]) ar=some t):∃t1 t2,cT a ar=some t1/\cT b ar=some t2/\t=.plus t1 t2:=by
 rw[kZ ar hx]at h
 split at h
 ·rename_i t1 t2 e1 e2;cases h;exact⟨t1,t2,e1,e2,rfl⟩
 ·cases h
theorem fp{x a b:E}{ar:List (List UInt8)}{t:Ty}(hx:x.at=[42])(h:cT (.list [x,a,b]) ar=some t):∃t1 t2,cT a ar=some t1/\cT b ar=some t2/\t=.times t1 t2:=by
 rw[jZ ar hx]at h
 split at h
 ·rename_i t1 t2 e1 e2;cases h;exact⟨t1,t2,e1,e2,rfl⟩
 ·cases h
theorem dB{x a b:E}{ar:List (List UInt8)}{t:Ty}(hx:x.at=[114,101,99])(h:cT (.list [x,a,b]) ar=some t):∃t1,dk a.at=true/\cT b (ar++[a.at])=some t1/\t=.rc t1:=by
 rw[mG ar hx]at h
 split at h
 ·rename_i hl
  split at h
  ·rename_i t1 e1;cases h;exact⟨t1,hl,e1,rfl⟩
  ·cases h
 ·cases h
theorem ur{s:List UInt8}:qL s=match wA s with|none=>none|some e=>cT e []:=by
 unfold qL wA
 cases he:qY s with
 |none=>rfl
 |
  some e =>
  have hs:=jh e []
  simp only
  cases ht:cT e []with
  |
   none =>
   rw[ht]at hs
   rw[if_neg (by rw[<-hs];simp)]
  |
   some t =>
   rw[ht]at hs
   have ha:=j1 e [] t ht
   by_cases h4:e.dc<=400
   ·rw[if_pos ⟨hs.symm,h4⟩];dsimp only;rw[if_neg (by omega)];exact ht.symm
   ·rw[if_neg (fun h=>h4 h.2)];dsimp only;rw[if_pos (by omega)]
end Go.Proofs.Trees
namespace Go.Proofs.Trees
open Go Go.VL
def pure:Ty->Bool
 | .zero=>true
 | .one=>true
 | .name s=>(s==[120])||(s==[121])||(s==[122])
 | .plus a b=>pure a&&pure b
 | .times a b=>pure a&&pure b
 |_=>false
def JG(v:Nat):Option Nat:=if v<=1000000000 then some v else none
def IN(n:Nat):Ty->Option Nat
 | .zero=>some 0
 | .one=>some 1
 | .name _=>some n
 | .plus a b=>match IN n a,IN n b with|some x,some y=>JG (x+y)|_,_=>none
 | .times a b=>match IN n a,IN n b with|some x,some y=>JG (x*y)|_,_=>none
 |_=>none
def Kf(x:Option Nat):AV->List Ob->Prop:=fun r o=>∃v:Int,r=.cD [.v (.int .i64 v),.v (.bool x.isSome)]/\∀c,x=some c->v=(c:Int)
theorem Kf.ne(x:Option Nat):∃r o,Kf x r o:=by
 cases x with
 |none=>exact⟨_,[],0,rfl,fun c h=>by cases h⟩
 |some c=>exact⟨_,[],(c:Int),rfl,fun c' h=>by cases h;rfl⟩
end Go.Proofs.Trees
namespace Go.Proofs.Trees
open Go Go.VL Go.RowKit
abbrev dd(n:Nat):List UInt8:=Lib.decDigits n
theorem eK{k:Nat}(h:k<10):dd k=[bj (48+k)]:=by rw[dd,Lib.decDigits,dif_pos h]
theorem fU{k:Nat}(h:¬k<10):dd k=dd (k/10)++[bj (48+k%10)]:=by rw[dd,Lib.decDigits,dif_neg h]
theorem mV:∀(n k:Nat),k<n->(dd k).length<=k+1
 |0,k,h=>by omega
 |
  n+1,k,h=>by
  by_cases h1:k<10
  ·rw[eK h1];simp
  ·rw[fU h1]
   have:=mV n (k/10) (by omega)
   simp only[aq,aA,aH];omega
theorem y0(d:Nat)(h:d<10):(Value.int .u8 (IntKind.wrap .u8 (IntKind.wrap .i64 (48+(d:Int)))))=.int .u8 ((bj (48+d)).toNat:Int):=by
 have:d=0\/d=1\/d=2\/d=3\/d=4\/d=5\/d=6\/d=7\/d=8\/d=9:=by omega
 rcases this with rfl|rfl|rfl|rfl|rfl|rfl|rfl|rfl|rfl|rfl<;>rfl
theorem qa(b:UInt8):bytesOf [[.v (.int .u8 (b.toNat:Int))]]=[b]:=by simp[bytesOf,yw]
theorem lm(b:UInt8):jE [[.v (.int .u8 (b.toNat:Int))]]:=⟨rfl,(lP _ _).mpr trivial,trivial⟩
theorem zL:∀(n k:Nat),k<n->k<1000000000->an Tryz.prog 142 [.v (.int .i64 (k:Int))] [] (bK (.v (.string (mk (dd k)))))
 |0,k,h,_=>by omega
 |
  n+1,k,h,hk=>by
  refine RN _ ?_
  simp only[Oy,↓zq,zs,ac,bK]
  refine⟨fun h=>by omega,fun _=>⟨fun h=>by omega,fun _=>⟨fun h1=>?_,fun h1=>⟨by omega,?_⟩⟩⟩⟩
  ·rw[y0 k (by omega)]
   refine⟨lm _,?_⟩
   rw[qa,eK (by omega)];rfl
  ·have e1:IntKind.wrap .i64 (Int.tdiv (k:Int) 10)=((k/10:Nat):Int):=by
    rw[show Int.tdiv (k:Int) 10=((k/10:Nat):Int) from (Int.ofNat_tdiv k 10).symm,wrap64 _ (by omega) (by omega)]
   have e2:dH (k:Int) 10=((k%10:Nat):Int):=(Int.ofNat_tmod k 10).symm
   rw[e1,e2,y0 (k%10) (by omega)]
   refine aj (zL n (k/10) (by omega) (by omega)) ?_
   have hl:=mV (k+1) (k/10) (by omega)
   simp only[↓zq,zs,ac,zt,qa]
   have h9:(k:Int)<1000000000:=by omega
   refine⟨by omega,lm _,?_,?_⟩
   ·show (mk (dd (k/10))).size+(mk [bj (48+k%10)]).size<=_
    rw[cN,cN];simp;omega
   ·show AV.v (.string (mk (dd (k/10))++mk [bj (48+k%10)]))=_
    rw[lA,fU (k:=k) (by omega)]
theorem Ap(s:List UInt8)(d:AV)(hd:LK.sl.has d)(h:s≠[]):an Tryz.prog 121 [.agg [.v (.string (mk s)),d]] [] (bK (.v (.string (mk [])))):=by
 refine HI _ _ hd ?_
 simp only[D1,↓zq,zs,ac,zt,bK]
 exact⟨fun _=>trivial,fun h'=>absurd h' h⟩
theorem Ep(e:E):AV.agg [.v (.string ((e.kI.cs.getD 0 .any).ah)),e.kI.cs.getD 1 .any]=e.kI:=by cases e<;>rfl
mutual
def fg:E->List UInt8
 | .atom s=>s
 | .list []=>[40,41]
 | .list (e::l)=>40::(fg e++(ej l++[41]))
def ej:List E->List UInt8
 |[]=>[]
 |e::l=>32::(fg e++ej l)
end
theorem zU:∀(l:List E) (i:Nat) (h:i<l.length),ej (l.drop i)=32::(fg l[i]++ej (l.drop (i+1))):=by
 intro l i h
 rw[aU h,ej]
theorem N9(l:List E)(hll:l.length<1000000000000)(ih:∀i (h:i<l.length),an Tryz.prog 97 [(l[i]).kI] [] (bK (.v (.string (mk (fg l[i])))))) :
 ∀(k i:Nat) (out:List UInt8),i+k=l.length->1<=i->out.length+(ej (l.drop i)).length<=1000000000000->AH [.v (.string (mk out)),.v (.int .i64 (i:Int))] [.cells [.v (.string (mk [])),.sl (E.bw l)]] (gV 1 [.v (.string (mk (out++ej (l.drop i))))] [])
 |
  0,i,out,hi,h1,hn=>by
  refine Eo _ _ _ _ ?_
  simp only[Bh,↓zq,zs,ac,eg]
  have:l.drop i=[]:=bW (by omega)
  refine⟨fun h=>by omega,fun _=>?_⟩
  simp[gV,this,ej]
 |
  k+1,i,out,hi,h1,hn=>by
  have hlt:i<l.length:=by omega
  have hd:=zU l i hlt
  rw[hd]at hn
  simp only[aA,aq]at hn
  refine Eo _ _ _ _ ?_
  simp only[Bh,↓zq,zs,ac,zt,eg,jM l i hlt,gp,iR,jf,au]
  refine⟨fun _=>⟨fun _=>⟨by omega,by omega,?_⟩,fun h=>by omega⟩,fun h=>by omega⟩
  refine aj (ih i hlt) ?_
  simp only[↓zq,zs,ac,zt]
  refine⟨by simp;omega,?_⟩
  rw[bA i (by omega),hd]
  have:=N9 l hll ih k (i+1) (out++[32]++fg l[i]) (by omega) (by omega) (by simp;omega)
  simpa using this
theorem xW:∀(l:List E) (i:Nat) (h:i<l.length),(fg l[i]).length<=(ej l).length
 |e::l,0,_=>by simp only[ej,List.getElem_cons_zero,aA,aq];omega
 |e::l,i+1,h=>by have:=xW l i (by simpa using h);simp only[ej,List.getElem_cons_succ,aA,aq];omega
theorem rV:∀l:List E,l.length<=(ej l).length
 |[]=>by simp[ej]
 |e::l=>by have:=rV l;simp only[ej,aA,aq];omega
theorem D6:∀(n:Nat) (e:E),e.sz<n->e.ok->(fg e).length<=900000000000->an Tryz.prog 97 [e.kI] [] (bK (.v (.string (mk (fg e)))))
 |0,e,hn,_,_=>by omega
 |
  n+1,.atom s,hn,hok,hl=>by
  refine Iv _ _ ((bg).mpr trivial) ?_
  have hne:s≠[]:=hok
  simp only[Ef,↓zq,zs,ac,zt,bK]
  exact⟨fun _=>rfl,fun h=>absurd h hne⟩
 |
  n+1,.list [],hn,hok,hl=>by
  refine Iv _ _ ((cg _).mpr trivial) ?_
  simp only[Ef,↓zq,zs,ac,zt,bK]
  refine⟨fun h=>absurd rfl h,fun _=>?_⟩
  have h1:AH [.v (.string (mk [40])),.v (.int .i64 0)] [.cells [.v (.string (mk [])),.sl (E.bw [])]] (gV 1 [.v (.string (mk [40]))] []):=by
   refine Eo _ _ _ _ ?_
   simp[Bh,↓zq,zs,ac,E.bw,gV]
  refine cx h1 ?_
  simp only[↓zq,zs,ac,zt]
  exact⟨by simp,rfl⟩
 |
  n+1,.list (x::l),hn,hok,hl=>by
  refine Iv _ _ ((cg _).mpr trivial) ?_
  simp only[E.sz,E.jv]at hn
  simp only[fg,aA,aq,aH]at hl
  have h2:=rV l
  simp only[Ef,↓zq,zs,ac,zt,bK]
  refine⟨fun h=>absurd rfl h,fun _=>?_⟩
  have hL:AH [.v (.string (mk [40])),.v (.int .i64 0)] [.cells [.v (.string (mk [])),.sl (E.bw (x::l))]] (gV 1 [.v (.string (mk ([40]++fg x++ej l)))] []):=by
   refine Eo _ _ _ _ ?_
   simp only[Bh,E.bw,Int.toNat_zero,↓zq,zs,ac,zt,eg,gp,iR,jf,au]
   refine⟨fun _=>⟨fun h=>by omega,fun _=>⟨by omega,?_⟩⟩,fun h=>by omega⟩
   refine aj (D6 n x (by omega) hok.1 (by omega)) ?_
   simp only[↓zq,zs,ac,zt]
   refine⟨by simp;omega,?_⟩
   have:=N9 (x::l) (by simp;omega) (fun i hi=>by
    have h3:=tO (x::l) i hi
    simp only[E.jv]at h3
    refine D6 n _ (by omega) (uz _ i hi hok) ?_
    have h4:=xW (x::l) i hi
    simp only[ej,aA,aq]at h4
    omega) l.length 1 ([40]++fg x) (by simp;omega) (by omega) (by simp;omega)
   rw[show IntKind.wrap .i64 (0+1)=1 from rfl]
   simpa[E.bw]using this
  refine cx hL ?_
  simp only[↓zq,zs,ac,zt]
  refine⟨by simp;omega,?_⟩
  simp[fg]
theorem C0(e:E)(h:e.ok)(hl:(fg e).length<=900000):an Tryz.prog 97 [e.kI] [] (bK (.v (.string (mk (fg e))))):=D6 (e.sz+1) e (by omega) h (by omega)
mutual
def E.nd:E->Nat
 | .atom _=>1
 | .list []=>1
 | .list (_::l)=>1+E.u9 l
def E.u9:List E->Nat
 |[]=>0
 |e::l=>e.nd+E.u9 l
end
mutual
theorem AB:∀e:E,e.nd<=e.sz
 | .atom s=>by simp[E.nd,E.sz]
 | .list []=>by simp[E.nd,E.sz,E.jv]
 | .list (x::l)=>by have:=xj l;simp only[E.nd,E.sz,E.jv];omega
theorem xj:∀l:List E,E.u9 l<=E.jv l
 |[]=>by simp[E.u9,E.jv]
 |e::l=>by have:=AB e;have:=xj l;simp only[E.u9,E.jv];omega
end
theorem Bd:∀(l:List E) (i:Nat) (h:i<l.length),E.u9 (l.drop i)=(l[i]).nd+E.u9 (l.drop (i+1)):=by
 intro l i h
 rw[aU h];rfl
theorem K4(l:List E)(hl:E.u9 l<1000000)(hll:l.length<1000000)(ih:∀i (h:i<l.length),an Tryz.prog 124 [(l[i]).kI] [] (bK (.v (.int .i64 ((l[i]).nd:Int))))) :
 ∀(k i n:Nat),i+k=l.length->n+E.u9 (l.drop i)<=1+E.u9 l->Br [.v (.int .i64 (n:Int)),.v (.int .i64 (i:Int))] [.cells [.v (.string (mk [])),.sl (E.bw l)]] (gV 1 [.v (.int .i64 ((n+E.u9 (l.drop i):Nat):Int))] [])
 |
  0,i,n,hi,hn=>by
  refine CV _ _ _ _ ?_
  simp only[Ca,↓zq,zs,ac,eg]
  have:l.drop i=[]:=bW (by omega)
  refine⟨fun h=>by omega,fun _=>?_⟩
  simp[gV,this,E.u9]
 |
  k+1,i,n,hi,hn=>by
  have hlt:i<l.length:=by omega
  refine CV _ _ _ _ ?_
  simp only[Ca,↓zq,zs,ac,zt,eg,jM l i hlt,gp,iR,jf,au]
  refine⟨fun _=>⟨by omega,?_⟩,fun h=>by omega⟩
  refine aj (ih i hlt) ?_
  have h1:=Bd l i hlt
  simp only[↓zq,zs,ac]
  rw[bA i (by omega),wrap64 _ (by omega) (by omega)]
  have:=K4 l hl hll ih k (i+1) (n+(l[i]).nd) (by omega) (by omega)
  rw[h1,<-Nat.add_assoc]
  simpa using this
theorem JM:∀(n:Nat) (e:E),e.sz<n->e.sz<900000->an Tryz.prog 124 [e.kI] [] (bK (.v (.int .i64 (e.nd:Int))))
 |0,e,hn,_=>by omega
 |
  n+1,.atom s,hn,hl=>by
  refine JI _ _ ((bg).mpr trivial) ?_
  simp only[H2]
  have hL:Br [.v (.int .i64 1),.v (.int .i64 1)] [.cells [.v (.string (mk s)),.v (.slice none 0 0)]] (gV 1 [.v (.int .i64 1)] []):=by
   refine CV _ _ _ _ ?_
   simp[Ca,↓zq,zs,ac,gV]
  refine cx hL ?_
  simp[↓zq,zs,ac,bK,E.nd]
 |
  n+1,.list l,hn,hl=>by
  refine JI _ _ ((cg _).mpr trivial) ?_
  simp only[E.sz]at hn hl
  simp only[H2]
  match l,hn,hl with
  |
   [],hn,hl =>
   have hL:Br [.v (.int .i64 1),.v (.int .i64 1)] [.cells [.v (.string (mk [])),.sl (E.bw [])]] (gV 1 [.v (.int .i64 1)] []):=by
    refine CV _ _ _ _ ?_
    simp[Ca,↓zq,zs,ac,gV,E.bw]
   refine cx hL ?_
   simp[↓zq,zs,ac,bK,E.nd]
  |
   x::l,hn,hl =>
   simp only[E.jv]at hn hl
   have h1:=xj l
   have h2:=tV l
   have h0:=AB x
   refine cx (K4 (x::l) (by simp only[E.u9];omega) (by simp;omega) (fun i hi=>?_) l.length 1 1 (by simp;omega) (by simp[E.u9])) ?_
   ·have:=tO (x::l) i hi
    simp only[E.jv]at this
    exact JM n _ (by omega) (by omega)
   ·simp[↓zq,zs,ac,E.nd,bK]
theorem RH(e:E)(hl:e.sz<900000):an Tryz.prog 124 [e.kI] [] (bK (.v (.int .i64 (e.nd:Int)))):=JM (e.sz+1) e (by omega) hl
inductive Vl where
 |u
 |el (k:Nat)
 |l (v:Vl)
 |r (v:Vl)
 |f (v:Vl)
 |p (a b:Vl)
abbrev wY(k:Nat):List UInt8:=101::dd k
abbrev iI:AV:=.v (.pointer none)
def Vl.cA:Vl->AV
 | .u=>.ptr [.v (.int .u8 117),.v (.string (mk [])),iI,iI]
 | .el k=>.ptr [.v (.int .u8 101),.v (.string (mk (wY k))),iI,iI]
 | .l v=>.ptr [.v (.int .u8 108),.v (.string (mk [])),v.cA,iI]
 | .r v=>.ptr [.v (.int .u8 114),.v (.string (mk [])),v.cA,iI]
 | .f v=>.ptr [.v (.int .u8 102),.v (.string (mk [])),v.cA,iI]
 | .p a b=>.ptr [.v (.int .u8 112),.v (.string (mk [])),a.cA,b.cA]
def Vl.cL:Vl->E
 | .u=>.atom [117]
 | .el k=>.atom (wY k)
 | .l v=>.list [.atom [108],v.cL]
 | .r v=>.list [.atom [114],v.cL]
 | .f v=>.list [.atom [102],v.cL]
 | .p a b=>.list [.atom [112],a.cL,b.cL]
def Vl.nodes:Vl->Nat
 | .l v=>1+v.nodes
 | .r v=>1+v.nodes
 | .f v=>1+v.nodes
 | .p a b=>1+a.nodes+b.nodes
 |_=>1
def Vl.ic(n:Nat):Vl->Prop
 | .el k=>k<n
 | .l v=>v.ic n
 | .r v=>v.ic n
 | .f v=>v.ic n
 | .p a b=>a.ic n/\b.ic n
 | .u=>True
abbrev Vl.cE(v:Vl):List UInt8:=fg v.cL
theorem aN(v:Vl):LK.has .ptr v.cA=True:=by cases v<;>simp[Vl.cA,cb]
theorem fw(v:Vl):v.cA.isNil=false:=by cases v<;>rfl
theorem mW:∀v:Vl,v.cL.ok
 | .u=>by simp[Vl.cL,E.ok]
 | .el k=>by simp[Vl.cL,E.ok]
 | .l v=>⟨by simp[E.ok],mW v,trivial⟩
 | .r v=>⟨by simp[E.ok],mW v,trivial⟩
 | .f v=>⟨by simp[E.ok],mW v,trivial⟩
 | .p a b=>⟨by simp[E.ok],mW a,mW b,trivial⟩
theorem nP:∀v:Vl,v.cL.nd=v.nodes
 | .u=>rfl
 | .el k=>rfl
 | .l v=>by simp[Vl.cL,E.nd,E.u9,Vl.nodes,nP v]
 | .r v=>by simp[Vl.cL,E.nd,E.u9,Vl.nodes,nP v]
 | .f v=>by simp[Vl.cL,E.nd,E.u9,Vl.nodes,nP v]
 | .p a b=>by simp[Vl.cL,E.nd,E.u9,Vl.nodes,nP a,nP b,Nat.add_assoc]
theorem jp:∀v:Vl,v.ic 100->v.cE.length<=200*v.nodes
 | .u,_=>by simp[Vl.cE,Vl.cL,fg,Vl.nodes]
 |
  .el k,h=>by
  have h':k<100:=h
  have:=mV 1000 k (by omega)
  simp only[Vl.cE,Vl.cL,fg,Vl.nodes,aA];omega
 | .l v,h=>by have:=jp v h;simp only[Vl.cE,Vl.cL,fg,ej,Vl.nodes,aA,aq,aH]at this |-;omega
 | .r v,h=>by have:=jp v h;simp only[Vl.cE,Vl.cL,fg,ej,Vl.nodes,aA,aq,aH]at this |-;omega
 | .f v,h=>by have:=jp v h;simp only[Vl.cE,Vl.cL,fg,ej,Vl.nodes,aA,aq,aH]at this |-;omega
 | .p a b,h=>by have:=jp a h.1;have:=jp b h.2;simp only[Vl.cE,Vl.cL,fg,ej,Vl.nodes,aA,aq,aH]at *;omega
theorem zK(a b:AV)(h:LK.ptr.has a)(h':LK.ptr.has b):an Tryz.prog 117 [a,b] [] (bK (.ptr [.v (.int .u8 112),.v (.string (mk [])),a,b])):=by
 refine Qb _ _ h h' ?_
 simp[Ln,↓zq,zs,ac,bK]
theorem dw(v:Vl):1<=v.nodes:=by cases v<;>simp[Vl.nodes]<;>omega
theorem EC:∀(v:Vl),v.nodes<1000000->an Tryz.prog 75 [v.cA] [] (bK (.v (.int .i64 (v.nodes:Int))))
 | .u,h=>by refine zz _ ((aN _).mpr trivial) ?_;simp[xB,Vl.cA,↓zq,zs,ac,bK,Vl.nodes]
 | .el k,h=>by refine zz _ ((aN _).mpr trivial) ?_;simp[xB,Vl.cA,↓zq,zs,ac,bK,Vl.nodes]
 |
  .l v,h=>by
  simp only[Vl.nodes]at h
  refine zz _ ((aN _).mpr trivial) ?_
  simp only[xB,Vl.cA,↓zq,zs,ac,aN,fw]
  refine⟨by omega,fun _=>⟨by omega,?_⟩,fun h=>(by cases h)⟩
  refine aj (EC v (by omega)) ?_
  simp only[↓zq,zs,ac,bK,Vl.nodes]
  rw[wrap64 _ (by omega) (by omega)]
  simp
 |
  .r v,h=>by
  simp only[Vl.nodes]at h
  refine zz _ ((aN _).mpr trivial) ?_
  simp only[xB,Vl.cA,↓zq,zs,ac,aN,fw]
  refine⟨by omega,fun _=>⟨by omega,?_⟩,fun h=>(by cases h)⟩
  refine aj (EC v (by omega)) ?_
  simp only[↓zq,zs,ac,bK,Vl.nodes]
  rw[wrap64 _ (by omega) (by omega)]
  simp
 |
  .f v,h=>by
  simp only[Vl.nodes]at h
  refine zz _ ((aN _).mpr trivial) ?_
  simp only[xB,Vl.cA,↓zq,zs,ac,aN,fw]
  refine⟨by omega,fun _=>⟨by omega,?_⟩,fun h=>(by cases h)⟩
  refine aj (EC v (by omega)) ?_
  simp only[↓zq,zs,ac,bK,Vl.nodes]
  rw[wrap64 _ (by omega) (by omega)]
  simp
 |
  .p a b,h=>by
  simp only[Vl.nodes]at h
  refine zz _ ((aN _).mpr trivial) ?_
  simp only[xB,Vl.cA,↓zq,zs,ac,aN,fw]
  refine⟨by omega,fun _=>⟨by omega,?_⟩,fun h=>(by cases h)⟩
  refine aj (EC a (by omega)) ?_
  simp only[↓zq,zs,ac,aN,fw]
  rw[wrap64 (1+(a.nodes:Int)) (by omega) (by omega)]
  refine⟨by omega,fun _=>⟨by omega,?_⟩,fun h=>(by cases h)⟩
  refine aj (EC b (by omega)) ?_
  simp only[↓zq,zs,ac,bK,Vl.nodes]
  rw[wrap64 _ (by omega) (by omega)]
  congr 2
end Go.Proofs.Trees
namespace Go.Proofs.Trees
open Go Go.VL Go.RowKit
def Aa:List UInt8->Nat->Option Nat
 |[],n=>some n
 |b::r,n=>if iq b=true then Aa r (10*n+(b.toNat-48))else none
def fV(s:List UInt8):Option Nat :=
 if s.length=2\/s.length=3 then(if s.getD 0 0=101/\¬(s.length=3/\s.getD 1 0=48)then Aa (s.drop 1) 0 else none)else none
def Bp(s:List UInt8):Int:=match fV s with|some k=>(k:Int)|none=>-1
theorem OA(s:List UInt8)(hs:s.length<=3):∀(k i n:Nat),i+k=s.length->1<=i->(n+1)*10 ^ k<=1000->FY [.v (.string (mk s)),.v (.int .i64 (n:Int)),.v (.int .i64 (i:Int))] []
 (py (match Aa (s.drop i) n with|some m=>(1,[.v (.int .i64 (m:Int))],[])|none=>(2,[.v (.int .i64 (-1))],[])))
 |
  0,i,n,hi,h1,hn=>by
  refine JT _ _ _ ?_
  have hd:s.drop i=[]:=bW (by omega)
  simp only[FR,↓zq,zs,ac,zt,hd,Aa]
  exact⟨fun h=>by omega,fun _=>by first|trivial|rfl⟩
 |
  k+1,i,n,hi,h1,hn=>by
  have hlt:i<s.length:=by omega
  refine JT _ _ _ ?_
  rw[drop_cons hlt,Aa]
  simp only[FR,↓zq,zs,ac,zt,ml s i hlt]
  generalize s.getD i 0=b
  have hb:=b.toNat_lt
  refine⟨fun _=>⟨by omega,fun h48=>?_,fun h48=>⟨by omega,fun h57=>?_,fun h57=>⟨by omega,?_⟩⟩⟩,fun h=>by omega⟩
  ·have:iq b=false:=by simp only[iq,decide_eq_false_iff_not];omega
   rw[this];rfl
  ·have:iq b=false:=by simp only[iq,decide_eq_false_iff_not];omega
   rw[this];rfl
  ·have:iq b=true:=by simp only[iq,decide_eq_true_eq];omega
   rw[if_pos this]
   have hk:k=0\/k=1:=by omega
   have hn2:n*10<=1000:=by
    rcases hk with rfl|rfl<;>simp at hn<;>omega
   have e8:IntKind.wrap .u8 ((b.toNat:Int)-48)=((b.toNat-48:Nat):Int):=by
    have:b.toNat=48\/b.toNat=49\/b.toNat=50\/b.toNat=51\/b.toNat=52\/b.toNat=53\/b.toNat=54\/b.toNat=55\/b.toNat=56\/b.toNat=57:=by omega
    rcases this with h|h|h|h|h|h|h|h|h|h<;>rw[h]<;>rfl
   rw[e8,bA i (by omega),wrap64 ((b.toNat-48:Nat):Int) (by omega) (by omega),wrap64 (10*(n:Int)) (by omega) (by omega),wrap64 _ (by omega) (by omega)]
   have e:(10*(n:Int)+((b.toNat-48:Nat):Int))=((10*n+(b.toNat-48):Nat):Int):=by omega
   rw[e]
   exact OA s hs k (i+1) _ (by omega) (by omega) (by rcases hk with rfl|rfl<;>simp at hn |-<;>omega)
theorem I7(s:List UInt8):an Tryz.prog 153 [.v (.string (mk s))] [] (bK (.v (.int .i64 (Bp s)))):=by
 refine RO _ ?_
 unfold Ns
 refine aj (AN _ _ _) ?_
 simp only[↓zq,zs,ac,zt,CM,bK]
 have hL:∀(Q:Nat->List AV->List Ob->Prop),(s.length=2\/s.length=3)->s.getD 0 0=101->¬(s.length=3/\s.getD 1 0=48)->(Q 0 [.v (.int .i64 (Bp s))] []) ->
  eX Tryz.prog 49 (.loop Eg BV [.v (.string (mk s)),.v (.int .i64 0),.v (.int .i64 1)] [] (fun y2 q2=>.ai (LK.has (.int .i64) (y2.headD .any))<|.done 0 [.v (.int .i64 ((y2.headD .any).toInt))] []) (fun y2 q2=>.ai (LK.has (.int .i64) (y2.headD .any))<|.done 0 [.v (.int .i64 ((y2.headD .any).toInt))] [])) Q:=by
  intro Q hl h0 h1 hQ
  have e:fV s=Aa (s.drop 1) 0:=by rw[fV,if_pos hl,if_pos ⟨h0,h1⟩]
  refine fI (OA s (by omega) (s.length-1) 1 0 (by omega) (by omega) (by rcases hl with h|h<;>rw[h]<;>decide)) (fun ys o e'=>?_) (fun ys o e'=>?_)
  ·cases hq:Aa (s.drop 1) 0<;>rw[hq]at e'<;>cases e'
   rw[hq]at e
   simp only[Bp,e]at hQ
   simp only[↓zq,zs,ac];exact hQ
  ·cases hq:Aa (s.drop 1) 0<;>rw[hq]at e'<;>cases e'
   rw[hq]at e
   simp only[Bp,e]at hQ
   simp only[↓zq,zs,ac];exact hQ
 have hz:∀{i:Nat},i<s.length->bt (mk s) (i:Int)=((s.getD i 0).toNat:Int):=fun h=>ml s _ h
 refine⟨fun h=>?_,fun h=>⟨?_,fun h0=>?_,fun h0=>⟨fun h3=>⟨by omega,fun h1=>?_,fun h1=>?_⟩,fun h3=>?_⟩⟩⟩
 ·have h':¬(2<=(s.length:Int)/\(s.length:Int)<=3):=by simpa using h
  rw[Bp,fV,if_neg (by omega)]
 ·have h':2<=(s.length:Int)/\(s.length:Int)<=3:=by simpa using h
  omega
 ·have h':2<=(s.length:Int)/\(s.length:Int)<=3:=by simpa using h
  have e0:=hz (i:=0) (by omega)
  simp only[Int.ofNat_eq_natCast,Int.cast_ofNat_Int]at e0
  rw[e0]at h0
  rw[Bp,fV,if_pos (by omega),if_neg]
  rintro⟨e,_⟩
  rw[e]at h0;exact h0 rfl
 ·have h':2<=(s.length:Int)/\(s.length:Int)<=3:=by simpa using h
  have e1:=hz (i:=1) (by omega)
  simp only[Int.ofNat_eq_natCast,Int.cast_ofNat_Int]at e1
  rw[e1]at h1
  rw[Bp,fV,if_pos (by omega),if_neg]
  rintro⟨_,e⟩
  refine e ⟨by omega,?_⟩
  rw[<-UInt8.toNat_inj];show (s.getD 1 0).toNat=48;omega
 ·have h':2<=(s.length:Int)/\(s.length:Int)<=3:=by simpa using h
  have e0:=hz (i:=0) (by omega)
  have e1:=hz (i:=1) (by omega)
  simp only[Int.ofNat_eq_natCast,Int.cast_ofNat_Int]at e0 e1
  rw[e0]at h0;rw[e1]at h1
  refine hL _ (by omega) ?_ ?_ ⟨rfl,rfl⟩
  ·rw[<-UInt8.toNat_inj];show (s.getD 0 0).toNat=101;omega
  ·rintro⟨_,e⟩;rw[e]at h1;exact h1 rfl
 ·have h':2<=(s.length:Int)/\(s.length:Int)<=3:=by simpa using h
  have e0:=hz (i:=0) (by omega)
  simp only[Int.ofNat_eq_natCast,Int.cast_ofNat_Int]at e0
  rw[e0]at h0
  refine hL _ (by omega) ?_ ?_ ⟨rfl,rfl⟩
  ·rw[<-UInt8.toNat_inj];show (s.getD 0 0).toNat=101;omega
  ·rintro⟨e,_⟩;omega
theorem ol:∀(l:List UInt8) (n:Nat),(Aa l n).isSome=l.all iq
 |[],n=>rfl
 |
  b::l,n=>by
  rw[Aa]
  cases hb:iq b with
  |true=>rw[if_pos rfl,ol l];simp[hb]
  |false=>rw[if_neg (by simp)];simp[hb]
theorem LF(s:List UInt8):an Tryz.prog 161 [.v (.string (mk s))] [] (bK (.v (.bool (fV s).isSome))):=by
 refine Qm _ ?_
 simp only[Jx,↓zq,zs,ac,zt,bK]
 have hz:∀{i:Nat},i<s.length->bt (mk s) (i:Int)=((s.getD i 0).toNat:Int):=fun h=>ml s _ h
 refine⟨fun h=>?_,fun h=>⟨fun h3=>?_,fun h3=>?_⟩⟩
 ·rw[fV,if_neg (by omega)];rfl
 ·rw[fV,if_neg (by omega)];rfl
 ·have e0:=hz (i:=0) (by omega)
  have e1:=hz (i:=1) (by omega)
  simp only[Int.ofNat_eq_natCast,Int.cast_ofNat_Int]at e0 e1
  rw[e0,e1]
  have hx:s.drop (bJ 1)=s.drop 1:=rfl
  refine⟨by omega,fun h0=>?_,fun h0=>⟨by omega,?_⟩⟩
  ·rw[fV,if_pos (by omega),if_neg]
   ·rfl
   ·rintro⟨e,_⟩;rw[e]at h0;exact h0 rfl
  ·rw[hx]
   refine aj (Ms (s.drop 1) Gx (by simp;omega) (by decide) (by decide)) ?_
   simp only[↓zq,zs,ac,zt]
   have h101:s.getD 0 0=101:=by rw[<-UInt8.toNat_inj];show (s.getD 0 0).toNat=101;omega
   have hall:Lib.trimS (s.drop 1) Gx=[]↔(s.drop 1).all iq=true:=by
    rw[s8]
    have:(fun x=>Gx.contains x)=iq:=funext wk
    rw[this]
   refine⟨fun ht=>?_,fun ht=>⟨fun h2=>?_,fun h2=>⟨by omega,?_⟩⟩⟩
   ·have:(s.drop 1).all iq=false:=by
     cases hq:(s.drop 1).all iq with
     |false=>rfl
     |true=>exact absurd (hall.2 hq) ht
    rw[fV,if_pos (by omega)]
    split
    ·rw[ol,this]
    ·rfl
   ·have hq:=hall.1 ht
    rw[fV,if_pos (by omega),if_pos ⟨h101,by omega⟩,ol,hq]
   ·have hq:=hall.1 ht
    rw[fV,if_pos (by omega)]
    by_cases h48:s.getD 1 0=48
    ·rw[if_neg (by rintro⟨_,e⟩;exact e ⟨by omega,h48⟩),h48];rfl
    ·rw[if_pos ⟨h101,fun e=>h48 e.2⟩,ol,hq]
     have:¬((s.getD 1 0).toNat:Int)=48:=fun e=>h48 (by rw[<-UInt8.toNat_inj];show (s.getD 1 0).toNat=48;omega)
     rw[bne_iff_ne.2 this]
theorem tE{s:List UInt8}{k:Nat}(h:fV s=some k):s=wY k/\k<100:=by
 have key1:∀a:Fin 256,iq (bj a.val)=true->Aa [bj a.val] 0=some ((bj a.val).toNat-48)/\(bj a.val).toNat-48<10/\[bj a.val]=[bj (48+((bj a.val).toNat-48))]:=by decide +kernel
 unfold fV at h
 split at h
 ·rename_i hl
  split at h
  ·rename_i hh
   obtain⟨h0,h1⟩:=hh
   rcases hl with hl|hl
   ·match s,hl with
    |
     [c,a],_ =>
     simp only[bq]at h0
     subst h0
     simp only[List.drop_succ_cons,be,Aa]at h
     split at h
     ·rename_i ha
      have:=key1 ⟨a.toNat,a.toNat_lt⟩ (by simpa using ha)
      simp only[UInt8.ofNat_toNat]at this
      cases h
      refine⟨?_,by omega⟩
      rw[wY,eK (by omega)]
      simp only[Nat.mul_zero,a6]
      rw[<-this.2.2]
     ·cases h
   ·match s,hl with
    |
     [c,a,b],_ =>
     simp only[bq,List.getD_cons_succ,aA,aH,true_and]at h0 h1
     subst h0
     simp only[List.drop_succ_cons,be,Aa]at h
     split at h
     ·rename_i ha
      split at h
      ·rename_i hb
       have k1:=key1 ⟨a.toNat,a.toNat_lt⟩ (by simpa using ha)
       have k2:=key1 ⟨b.toNat,b.toNat_lt⟩ (by simpa using hb)
       simp only[UInt8.ofNat_toNat]at k1 k2
       have ha':48<=a.toNat/\a.toNat<=57:=by simpa[iq]using ha
       have hb':48<=b.toNat/\b.toNat<=57:=by simpa[iq]using hb
       have h48:a.toNat≠48:=fun e=>h1 (by rw[<-UInt8.toNat_inj];simpa using e)
       cases h
       simp only[Nat.mul_zero,a6]
       refine⟨?_,by omega⟩
       rw[wY,fU (by omega),eK (by omega)]
       have e1:(10*(a.toNat-48)+(b.toNat-48))/10=a.toNat-48:=by omega
       have e2:(10*(a.toNat-48)+(b.toNat-48))%10=b.toNat-48:=by omega
       rw[e1,e2,<-k1.2.2,<-k2.2.2];rfl
      ·cases h
     ·cases h
  ·cases h
 ·cases h
theorem vB(k:Nat)(h:k<100):fV (wY k)=some k:=by
 have e:∀k,k<100->dd k=if k<10 then [bj (48+k)]else [bj (48+k/10),bj (48+k%10)]:=by
  intro k hk
  by_cases h1:k<10
  ·rw[eK h1,if_pos h1]
  ·rw[fU h1,eK (by omega),if_neg h1];rfl
 have key:∀k:Fin 100,fV (101::(if k.val<10 then [bj (48+k.val)]else [bj (48+k.val/10),bj (48+k.val%10)]))=some k.val:=by decide +kernel
 rw[wY,e k h];exact key ⟨k,h⟩
theorem GR(k:Nat)(h:k<100):Bp (wY k)=(k:Int):=by rw[Bp,vB k h]
def yn:E->Bool
 | .atom s=>(s==[117])||(fV s).isSome
 | .list [x,a]=>((x.at==[108])||(x.at==[114])||(x.at==[102]))&&yn a
 | .list [x,a,b]=>(x.at==[112])&&(yn a&&yn b)
 | .list _=>false
def fT:E->Option Vl
 | .atom s=>if s=[117]then some .u else match fV s with|some k=>some (.el k)|none=>none
 |
  .list [x,a]=>match fT a with
  |none=>none
  |some v=>if x.at=[108]then some (.l v)else if x.at=[114]then some (.r v)else if x.at=[102]then some (.f v)else none
 | .list [x,a,b]=>if x.at=[112]then(match fT a,fT b with|some v,some w=>some (.p v w)|_,_=>none)else none
 | .list _=>none
theorem po:∀e:E,(fT e).isSome=yn e
 |
  .atom s=>by
  simp only[fT,yn]
  by_cases h:s=[117]
  ·simp[h]
  ·rw[if_neg h];cases fV s<;>simp[h]
 | .list []=>rfl
 | .list [_]=>rfl
 |
  .list [x,a]=>by
  have ha:=po a
  rw[fT,yn,<-ha]
  cases fT a with
  |none=>simp
  |
   some v =>
   by_cases h1:x.at=[108]
   ·simp[h1]
   ·by_cases h2:x.at=[114]
    ·simp[h2]
    ·by_cases h3:x.at=[102]
     ·simp[h3]
     ·simp[h1,h2,h3]
 |
  .list [x,a,b]=>by
  have ha:=po a
  have hb:=po b
  rw[fT,yn,<-ha,<-hb]
  by_cases h1:x.at=[112]
  ·rw[if_pos h1,h1];cases fT a<;>cases fT b<;>rfl
  ·simp[h1]
 | .list (_::_::_::_::_)=>rfl
theorem ko{x:E}{w:List UInt8}(h:x.at=w)(hw:w≠[]):x=.atom w:=by
 cases x with
 |atom s=>exact congrArg E.atom h
 |list l=>exact absurd h.symm hw
theorem kQ:∀(e:E) (v:Vl),fT e=some v->v.cL=e/\v.ic 100
 |
  .atom s,v,h=>by
  simp only[fT]at h
  split at h
  ·rename_i h1;cases h;exact⟨by rw[h1];rfl,trivial⟩
  ·split at h
   ·rename_i k hk
    cases h
    obtain⟨h1,h2⟩:=tE hk
    exact⟨by rw[h1];rfl,h2⟩
   ·cases h
 | .list [],_,h=>by cases h
 | .list [_],_,h=>by cases h
 | .list (_::_::_::_::_),_,h=>by cases h
 |
  .list [x,a],v,h=>by
  rw[fT]at h
  split at h
  ·cases h
  ·rename_i w hw
   obtain⟨h1,h2⟩:=kQ a w hw
   split at h
   ·rename_i hx;cases h;rw[ko hx (by simp)];exact⟨by rw[Vl.cL,h1],h2⟩
   ·split at h
    ·rename_i hx;cases h;rw[ko hx (by simp)];exact⟨by rw[Vl.cL,h1],h2⟩
    ·split at h
     ·rename_i hx;cases h;rw[ko hx (by simp)];exact⟨by rw[Vl.cL,h1],h2⟩
     ·cases h
 |
  .list [x,a,b],v,h=>by
  rw[fT]at h
  split at h
  ·rename_i hx
   split at h
   ·rename_i w1 w2 hw1 hw2
    cases h
    obtain⟨h1,h2⟩:=kQ a w1 hw1
    obtain⟨h3,h4⟩:=kQ b w2 hw2
    rw[ko hx (by simp)]
    exact⟨by rw[Vl.cL,h1,h3],h2,h4⟩
   ·cases h
  ·cases h
def qf(e:E)(w:List UInt8)(k:Nat):Bool:=match e with| .list (x::l)=>decide (l.length+1=k)&&(x.at==w)|_=>false
theorem sY(e:E)(w:List UInt8)(k:Nat)(hk:1<=k):an Tryz.prog 162 [e.cA,.v (.string (mk w)),.v (.int .i64 (k:Int))] [] (bK (.v (.bool (qf e w k)))):=by
 refine I1 _ _ _ ((cV e).mpr trivial) ?_
 cases e with
 |atom s=>simp only[AL,E.cA,↓zq,zs,ac,zt,bK,qf];exact⟨by omega,fun h=>by omega,fun _=>trivial⟩
 |
  list l =>
  simp only[AL,E.cA,↓zq,zs,ac,zt,bK,rH]
  cases l with
  |nil=>exact⟨by simp,fun h=>by simp at h;omega,fun _=>rfl⟩
  |
   cons x l =>
   simp only[aA]
   refine⟨by simp,fun h=>?_,fun h=>?_⟩
   ·have:decide (l.length+1=k)=true:=by rw[decide_eq_true_eq];omega
    simp only[qf,this]
    cases x<;>simp[E.mq,E.cA,cb,pJ,jO,dY,ua,toList_mk,E.at]
   ·have:decide (l.length+1=k)=false:=by rw[decide_eq_false_iff_not];omega
    simp only[qf,this];rfl
def jb:Option Vl->AV
 |some v=>v.cA
 |none=>.v (.pointer none)
end Go.Proofs.Trees
namespace Go.Proofs.Trees
open Go Go.VL Go.RowKit
theorem gf(v:Option Vl):LK.has .ptr (jb v)=True:=by cases v<;>simp[jb,aN,iH]
theorem zx:∀(e:E),e.ok->an Tryz.prog 129 [e.cA] [] (bK (jb (fT e)))
 |
  .atom s,hok=>by
  refine IT _ ((cV _).mpr trivial) ?_
  have hd:=n8 (.atom s)
  have hlen:=lU (.atom s)
  simp only[E.at]at hd
  simp only[HK,↓zq,zs,ac,zt,bK,cV,er,hd,fT]
  refine⟨hlen,fun h=>?_,fun h=>⟨hlen,?_⟩⟩
  ·rw[if_pos h];rfl
  ·rw[if_neg h]
   refine aj (LF s) ?_
   simp only[↓zq,zs,ac,zt]
   refine⟨fun he=>⟨hlen,?_⟩,fun he=>?_⟩
   ·obtain⟨k,hk⟩:=bL.1 he
    obtain⟨h1,h2⟩:=tE hk
    rw[hk,h1];rfl
   ·have hn:fV s=none:=by cases hq:fV s<;>simp[hq]at he |-
    rw[hn]
    refine aj (sY (.atom s) [108] 2 (by omega)) ?_
    simp only[qf,↓zq,zs,ac,zf]
    refine⟨fun h=>(by cases h),fun _=>aj (sY (.atom s) [114] 2 (by omega)) ?_⟩
    simp only[qf,↓zq,zs,ac,zf]
    refine⟨fun h=>(by cases h),fun _=>aj (sY (.atom s) [102] 2 (by omega)) ?_⟩
    simp only[qf,↓zq,zs,ac,zf]
    refine⟨fun h=>(by cases h),fun _=>aj (sY (.atom s) [112] 3 (by omega)) ?_⟩
    simp only[qf,↓zq,zs,ac,zf]
    exact⟨fun h=>(by cases h),fun _=>rfl⟩
 |
  .list l,hok=>by
  refine IT _ ((cV _).mpr trivial) ?_
  have hd:=n8 (.list l)
  have hlen:=lU (.list l)
  have hlen2:∀{l:List E},((AV.v (.string (mk [])))::[AV.sl (E.mq l)]).length=2:=rfl
  simp only[E.at]at hd
  have he:fV []=none:=rfl
  simp only[HK,↓zq,zs,ac,zt,bK,cV,er,hd]
  refine⟨hlen,fun h=>(by cases h),fun h=>⟨hlen,?_⟩⟩
  refine aj (LF []) ?_
  rw[he]
  simp only[↓zq,zs,ac,zt,zf,bu]
  refine⟨fun h=>(by cases h),fun _=>aj (sY (.list l) [108] 2 (by omega)) ?_⟩
  have hno:∀w:List UInt8,(∀x a,l≠[x,a])->qf (.list l) w 2=false:=by
   intro w h2
   match l,h2 with
   |[],_=>rfl
   |[x],_=>rfl
   |[x,a],h2=>exact absurd rfl (h2 x a)
   |x::y::z::l,_=>simp[qf]
  match l,hok,hno,hlen with
  |
   [x,a],hok,hno,hlen =>
   clear hno
   obtain⟨ok1,ok2,_⟩:=hok
   have e2:∀w:List UInt8,qf (.list [x,a]) w 2=(x.at==w):=fun w=>rfl
   have e3:qf (.list [x,a]) [112] 3=false:=rfl
   have hx:=n8 x
   have hxl:=lU x
   rw[fT]
   simp only[e2,↓zq,zs,ac]
   refine⟨fun h1=>?_,fun h1=>aj (sY (.list [x,a]) [114] 2 (by omega)) ?_⟩
   ·simp only[E.cA,E.mq,toNat_one,↓zq,zs,ac,zt,cV,er]
    refine⟨by omega,by omega,by omega,aj (zx a ok2) ?_⟩
    cases hv:fT a with
    |none=>simp only[jb,↓zq,zs,ac,gf];exact⟨fun _=>trivial,fun h=>(by cases h)⟩
    |
     some v =>
     simp only[jb,↓zq,zs,ac,zt,aN,fw,hx,h1,cV,er]
     refine⟨fun h=>(by cases h),fun _=>⟨by omega,by omega,by omega,hxl,by simp,?_⟩⟩
     rfl
   ·simp only[e2,↓zq,zs,ac]
    refine⟨fun h2=>?_,fun h2=>aj (sY (.list [x,a]) [102] 2 (by omega)) ?_⟩
    ·simp only[E.cA,E.mq,toNat_one,↓zq,zs,ac,zt,cV,er]
     refine⟨by omega,by omega,by omega,aj (zx a ok2) ?_⟩
     cases hv:fT a with
     |none=>simp only[jb,↓zq,zs,ac,gf];exact⟨fun _=>trivial,fun h=>(by cases h)⟩
     |
      some v =>
      simp only[jb,↓zq,zs,ac,zt,aN,fw,hx,h2,cV,er]
      refine⟨fun h=>(by cases h),fun _=>⟨by omega,by omega,by omega,hxl,by simp,?_⟩⟩
      rfl
    ·simp only[e2,↓zq,zs,ac]
     refine⟨fun h3=>?_,fun h3=>aj (sY (.list [x,a]) [112] 3 (by omega)) ?_⟩
     ·simp only[E.cA,E.mq,toNat_one,↓zq,zs,ac,zt,cV,er]
      refine⟨by omega,by omega,by omega,aj (zx a ok2) ?_⟩
      cases hv:fT a with
      |none=>simp only[jb,↓zq,zs,ac,gf];exact⟨fun _=>trivial,fun h=>(by cases h)⟩
      |
       some v =>
       simp only[jb,↓zq,zs,ac,zt,aN,fw,hx,h3,cV,er]
       refine⟨fun h=>(by cases h),fun _=>⟨by omega,by omega,by omega,hxl,by simp,?_⟩⟩
       rfl
     ·rw[e3]
      simp only[↓zq,zs,ac]
      refine⟨fun h=>(by cases h),fun _=>?_⟩
      cases fT a with
      |none=>rfl
      |some v=>simp only[if_neg h1,if_neg h2,if_neg h3];rfl
  |
   [x,a,b],hok,hno,hlen =>
   obtain⟨ok1,ok2,ok3,_⟩:=hok
   have h2:=fun w=>hno w (fun x a h=>(by cases h))
   rw[h2]
   simp only[↓zq,zs,ac]
   refine⟨fun h=>(by cases h),fun _=>aj (sY (.list [x,a,b]) [114] 2 (by omega)) ?_⟩
   rw[h2]
   simp only[↓zq,zs,ac]
   refine⟨fun h=>(by cases h),fun _=>aj (sY (.list [x,a,b]) [102] 2 (by omega)) ?_⟩
   rw[h2]
   simp only[↓zq,zs,ac]
   refine⟨fun h=>(by cases h),fun _=>aj (sY (.list [x,a,b]) [112] 3 (by omega)) ?_⟩
   have e3:qf (.list [x,a,b]) [112] 3=(x.at==[112]):=rfl
   rw[e3,fT]
   simp only[↓zq,zs,ac]
   refine⟨fun h1=>?_,fun h1=>?_⟩
   ·rw[if_pos h1]
    simp only[E.cA,E.mq,toNat_one,bh,↓zq,zs,ac,zt,cV,er]
    refine⟨by omega,by omega,by omega,aj (zx a ok2) ?_⟩
    simp only[↓zq,zs,ac,gf,cV]
    refine⟨by omega,by omega,by omega,aj (zx b ok3) ?_⟩
    cases hv:fT a with
    |none=>cases hw:fT b<;>simp only[jb,↓zq,zs,ac,gf,aN]<;>exact⟨fun _=>trivial,fun h=>(by cases h)⟩
    |
     some v =>
     cases hw:fT b with
     |
      none =>
      simp only[jb,↓zq,zs,ac,gf,aN,fw]
      exact⟨fun h=>(by cases h),fun _=>⟨fun _=>trivial,fun h=>(by cases h)⟩⟩
     |
      some w =>
      simp only[jb,↓zq,zs,ac,aN,fw]
      refine⟨fun h=>(by cases h),fun _=>⟨fun h=>(by cases h),fun _=>?_⟩⟩
      refine aj (zK _ _ ((aN _).mpr trivial) ((aN _).mpr trivial)) ?_
      simp only[↓zq,zs,ac];rfl
   ·rw[if_neg h1];rfl
  |
   [],hok,hno,hlen =>
   have h2:=fun w=>hno w (fun x a h=>(by cases h))
   have e3:qf (.list []) [112] 3=false:=rfl
   rw[h2]
   simp only[↓zq,zs,ac]
   refine⟨fun h=>(by cases h),fun _=>aj (sY (.list []) [114] 2 (by omega)) ?_⟩
   rw[h2]
   simp only[↓zq,zs,ac]
   refine⟨fun h=>(by cases h),fun _=>aj (sY (.list []) [102] 2 (by omega)) ?_⟩
   rw[h2]
   simp only[↓zq,zs,ac]
   refine⟨fun h=>(by cases h),fun _=>aj (sY (.list []) [112] 3 (by omega)) ?_⟩
   rw[e3]
   simp only[↓zq,zs,ac]
   exact⟨fun h=>(by cases h),fun _=>rfl⟩
  |
   [x],hok,hno,hlen =>
   have h2:=fun w=>hno w (fun x a h=>(by cases h))
   have e3:qf (.list [x]) [112] 3=false:=rfl
   rw[h2]
   simp only[↓zq,zs,ac]
   refine⟨fun h=>(by cases h),fun _=>aj (sY (.list [x]) [114] 2 (by omega)) ?_⟩
   rw[h2]
   simp only[↓zq,zs,ac]
   refine⟨fun h=>(by cases h),fun _=>aj (sY (.list [x]) [102] 2 (by omega)) ?_⟩
   rw[h2]
   simp only[↓zq,zs,ac]
   refine⟨fun h=>(by cases h),fun _=>aj (sY (.list [x]) [112] 3 (by omega)) ?_⟩
   rw[e3]
   simp only[↓zq,zs,ac]
   exact⟨fun h=>(by cases h),fun _=>rfl⟩
  |
   x::y::z::w::l,hok,hno,hlen =>
   have h2:=fun w=>hno w (fun x a h=>(by cases h))
   have e3:qf (.list (x::y::z::w::l)) [112] 3=false:=by simp[qf]
   rw[h2]
   simp only[↓zq,zs,ac]
   refine⟨fun h=>(by cases h),fun _=>aj (sY (.list (x::y::z::w::l)) [114] 2 (by omega)) ?_⟩
   rw[h2]
   simp only[↓zq,zs,ac]
   refine⟨fun h=>(by cases h),fun _=>aj (sY (.list (x::y::z::w::l)) [102] 2 (by omega)) ?_⟩
   rw[h2]
   simp only[↓zq,zs,ac]
   refine⟨fun h=>(by cases h),fun _=>aj (sY (.list (x::y::z::w::l)) [112] 3 (by omega)) ?_⟩
   rw[e3]
   simp only[↓zq,zs,ac]
   exact⟨fun h=>(by cases h),fun _=>rfl⟩
def sw(s:List UInt8):Option Vl:=match qY s with
 |none=>none
 |
  some e=>match fT e with
  |none=>none
  |some v=>if v.nodes>200 then none else some v
theorem lT{s:List UInt8}{v:Vl}(h:sw s=some v):qY s=some v.cL/\v.ic 100/\v.nodes<=200:=by
 unfold sw at h
 split at h
 ·cases h
 ·rename_i e he
  split at h
  ·cases h
  ·rename_i w hw
   split at h
   ·cases h
   ·cases h
    obtain⟨h1,h2⟩:=kQ e _ hw
    rw[h1]
    exact⟨he,h2,by omega⟩
theorem wU{e:E}{v:Vl}(h:fT e=some v):v.nodes<=e.sz:=by
 obtain⟨h1,_⟩:=kQ e v h
 rw[<-nP,h1];exact AB e
theorem Pm(s:List UInt8):an Tryz.prog 94 [.v (.string (mk s))] [] (bK (jb (sw s))):=by
 refine Qc _ ?_
 unfold MI
 refine aj (Nd s) ?_
 unfold sw
 cases he:qY s with
 |none=>simp only[uD,↓zq,zs,ac,bK,jb];simp
 |
  some e =>
  obtain⟨h1,h2⟩:=nX he
  simp only[uD,↓zq,zs,ac,cV,er]
  refine⟨fun h=>(by cases h),fun _=>?_⟩
  refine aj (zx e h1) ?_
  cases hv:fT e with
  |none=>simp only[jb,↓zq,zs,ac,bK];simp
  |
   some v =>
   have hn:=wU hv
   simp only[jb,↓zq,zs,ac,aN,fw]
   refine⟨fun h=>(by cases h),fun _=>?_⟩
   refine aj (EC v (by omega)) ?_
   simp only[↓zq,zs,ac,bK]
   refine⟨fun h=>?_,fun h=>?_⟩
   ·rw[if_pos (by omega)]
   ·rw[if_neg (by omega)]
theorem zO:∀(e:E),e.ok->an Tryz.prog 123 [e.kI] [] (bK (.v (.bool (yn e))))
 |
  .atom s,hok=>by
  refine zj _ _ ((bg).mpr trivial) ?_
  have hne:s≠[]:=hok
  simp only[xw,↓zq,zs,ac,zt,bK,yn]
  refine⟨fun _=>⟨fun h=>?_,fun h=>?_⟩,fun h=>absurd h hne⟩
  ·simp[h]
  ·refine aj (I7 s) ?_
   have h':(s==[117])=false:=by simpa using h
   simp only[↓zq,zs,ac,h',Bool.false_or]
   congr 2
   rw[Bp]
   cases fV s with
   |none=>rfl
   |some k=>simp
 |
  .list [],hok=>by
  refine zj _ _ ((cg _).mpr trivial) ?_
  simp only[xw,↓zq,zs,ac,zt,bK,yn]
  refine⟨fun h=>absurd rfl h,fun _=>?_⟩
  refine aj Py ?_
  simp[↓zq,zs,ac,zt]
 |
  .list [x],hok=>by
  refine zj _ _ ((cg _).mpr trivial) ?_
  simp only[xw,↓zq,zs,ac,zt,bK,yn]
  refine⟨fun h=>absurd rfl h,fun _=>?_⟩
  refine aj (u7 x _) ?_
  simp[↓zq,zs,ac,zt,E.bw]
 |
  .list (x::y::z::w::l),hok=>by
  refine zj _ _ ((cg _).mpr trivial) ?_
  simp only[xw,↓zq,zs,ac,zt,bK,yn]
  refine⟨fun h=>absurd rfl h,fun _=>?_⟩
  refine aj (u7 x _) ?_
  simp only[↓zq,zs,ac,zt,E.bw]
  refine⟨fun _=>⟨fun h=>by omega,fun _=>trivial⟩,fun _=>⟨fun _=>⟨fun h=>by omega,fun _=>trivial⟩,fun _=>⟨fun _=>⟨fun h=>by omega,fun _=>trivial⟩,fun _=>⟨fun _=>⟨fun h=>by omega,fun _=>trivial⟩,fun _=>trivial⟩⟩⟩⟩
 |
  .list [x,a],hok=>by
  refine zj _ _ ((cg _).mpr trivial) ?_
  obtain⟨ok1,ok2,_⟩:=hok
  simp only[xw,↓zq,zs,ac,zt,bK,yn]
  refine⟨fun h=>absurd rfl h,fun _=>?_⟩
  refine aj (u7 x _) ?_
  simp only[E.bw,toNat_one,bh,↓zq,zs,ac,zt,jf,gp,iR,my,au]
  refine⟨fun h=>⟨fun _=>⟨by omega,?_⟩,fun h=>by omega⟩,fun h1=>⟨fun h=>⟨fun _=>⟨by omega,?_⟩,fun h=>by omega⟩,fun h2=>⟨fun h=>⟨fun _=>⟨by omega,?_⟩,fun h=>by omega⟩,fun h3=>⟨fun h=>⟨fun h=>by omega,fun _=>?_⟩,fun h=>?_⟩⟩⟩⟩
  ·refine aj (zO a ok2) ?_
   simp[↓zq,zs,ac,h]
  ·refine aj (zO a ok2) ?_
   simp[↓zq,zs,ac,h]
  ·refine aj (zO a ok2) ?_
   simp[↓zq,zs,ac,h]
  ·simp[h]
  ·simp[h1,h2,h3]
 |
  .list [x,a,b],hok=>by
  refine zj _ _ ((cg _).mpr trivial) ?_
  obtain⟨ok1,ok2,ok3,_⟩:=hok
  simp only[xw,↓zq,zs,ac,zt,bK,yn]
  refine⟨fun h=>absurd rfl h,fun _=>?_⟩
  refine aj (u7 x _) ?_
  simp only[E.bw,toNat_one,bh,↓zq,zs,ac,zt,jf,gp,iR,my,au]
  refine⟨fun h=>⟨fun h=>by omega,fun _=>?_⟩,fun h1=>⟨fun h=>⟨fun h=>by omega,fun _=>?_⟩,fun h2=>⟨fun h=>⟨fun h=>by omega,fun _=>?_⟩,fun h3=>⟨fun h=>⟨fun _=>⟨by omega,?_⟩,fun h=>by omega⟩,fun h=>?_⟩⟩⟩⟩
  ·simp[h]
  ·simp[h]
  ·simp[h]
  ·refine aj (zO a ok2) ?_
   simp only[↓zq,zs,ac,h]
   refine⟨fun ha=>⟨by omega,aj (zO b ok3) ?_⟩,fun ha=>?_⟩
   ·simp[↓zq,zs,ac,ha]
   ·simp[ha]
  ·simp[h]
theorem Ds(s:List UInt8):an Tryz.prog 89 [.v (.string (mk s))] [] (jN ((sw s).map Vl.cL) (sw s).isSome):=by
 refine Rc _ ?_
 unfold No
 refine aR (OQ s) (jN.ne _ _ (fun h=>h)) ?_
 rintro r o ⟨c,d,hd,rfl,hh⟩
 simp only[↓zq,zs,ac,zt,bF,sw]
 refine⟨hd,fun h=>?_,fun h=>?_⟩
 ·obtain⟨e,he,hce⟩:=hh h
  obtain⟨hok,hsz⟩:=nX he
  rw[he,hce]
  refine aj (zO e hok) ?_
  simp only[↓zq,zs,ac]
  have hs:=po e
  refine⟨fun hi=>?_,fun hi=>?_⟩
  ·rw[hi]at hs
   obtain⟨v,hv⟩:=bL.1 hs
   obtain⟨h1,h2⟩:=kQ e v hv
   refine aj (RH e (by omega)) ?_
   simp only[↓zq,zs,ac,hv]
   have hnd:e.nd=v.nodes:=by rw[<-h1,nP]
   rw[hnd]
   refine⟨c,d,hd,?_,?_⟩
   ·rw[hce]
    by_cases h4:v.nodes>200
    ·rw[if_pos h4];exact congrArg (fun b=>AV.cD [e.kI,.v (.bool b)]) (decide_eq_false (show ¬((v.nodes:Nat):Int)<=200 by omega))
    ·rw[if_neg h4];exact congrArg (fun b=>AV.cD [e.kI,.v (.bool b)]) (decide_eq_true (show ((v.nodes:Nat):Int)<=200 by omega))
   ·split
    ·exact fun h=>by cases h
    ·exact fun _=>⟨e,by simp[h1],hce⟩
  ·rw[hi]at hs
   have hn:fT e=none:=by cases hq:fT e<;>simp[hq]at hs |-
   rw[hn]
   exact⟨c,d,hd,by rw[hce];rfl,fun h=>by cases h⟩
 ·have hn:qY s=none:=by cases hq:qY s<;>simp[hq]at h |-
  rw[hn]
  exact⟨c,d,hd,rfl,fun h=>by cases h⟩
end Go.Proofs.Trees
namespace Go.Proofs.Trees
open Go Go.VL Go.RowKit
inductive Fr where
 |mk (s:List UInt8) (e:E) (o:List Fr)
def Fr.nm:Fr->List UInt8| .mk s _ _=>s
def Fr.ex:Fr->E| .mk _ e _=>e
def Fr.out:Fr->List Fr| .mk _ _ o=>o
def names:List Fr->List (List UInt8)
 |[]=>[]
 |f::r=>names r++[f.nm]
def yZ(e:E)(o:List Fr):Ty:=(cT e (names o)).getD .zero
def E.sp:E->AV
 | .atom _=>.v (.slice none 0 0)
 | .list l=>.sl (E.bw l)
theorem fN(e:E):e.iw=[.v (.string (mk e.at)),e.sp]:=by cases e<;>rfl
theorem dj(e:E):e.kI=.agg [.v (.string (mk e.at)),e.sp]:=by cases e<;>rfl
theorem aY(e:E):LK.has .sl e.sp=True:=by cases e<;>simp[E.sp,bg,cg]
mutual
def Fr.cells:Fr->List AV
 | .mk s e o=>[.v (.string (mk s)),.v (.string (mk e.at)),e.sp,.sl (kb o)]
def kb:List Fr->List (List AV)
 |[]=>[]
 |f::r=>kb r++[f.cells]
end
mutual
def Fr.cA:Fr->AV
 | .mk s e o=>.ptr [(yZ e o).av,oP o]
def oP:List Fr->AV
 |[]=>iI
 |f::r=>.ptr [f.cA,oP r]
end
inductive WF:List Fr->Prop
 |nil:WF []
 |cons {s:List UInt8} {x a b:E} {t:Ty} {r:List Fr} (hs:dk s=true) (hok:(E.list [x,a,b]).ok) (hx:x.at=[114,101,99]) (ht:cT (.list [x,a,b]) (names r)=some t) (hf:cc t=false) (hr:WF r):WF (.mk s (.list [x,a,b]) r::r)
theorem kM:∀env:List Fr,(kb env).length=env.length
 |[]=>rfl
 |f::r=>by simp[kb,kM r]
theorem ew(env:List Fr):LK.has .ptr (oP env)=True:=by cases env<;>simp[oP,iH,cb]
theorem BH(f:Fr):LK.has .ptr f.cA=True:=by cases f;simp[Fr.cA,cb]
def fZ(s:List UInt8):List Fr->Option Fr
 |[]=>none
 |f::r=>if f.nm=s then some f else fZ s r
def hd(e:E)(env:List Fr):E×List Fr:=match fZ e.at env with|some f=>(f.ex,f.out)|none=>(e,env)
theorem kU{env:List Fr}(h:WF env):fZ [] env=none:=by
 induction h with
 |nil=>rfl
 |
  @cons s x a b t r hs hok hx ht hf hr ih =>
  rw[fZ,if_neg (show ¬(Fr.mk s (.list [x,a,b]) r).nm=[] from BF hs)];exact ih
theorem Ah{env:List Fr}(h:WF env){s:List UInt8}{f:Fr}(hf:fZ s env=some f):dk s=true:=by
 induction h with
 |nil=>cases hf
 |
  cons hs hok hx ht hf' hr ih =>
  rw[fZ]at hf
  split at hf
  ·rename_i e;exact e ▸ hs
  ·exact ih hf
theorem oK{env:List Fr}(h:WF env){s:List UInt8}{f:Fr}(hf:fZ s env=some f):∃x a b t,f.ex=.list [x,a,b]/\(E.list [x,a,b]).ok/\x.at=[114,101,99]/\cT f.ex (names f.out)=some t/\cc t=false/\WF f.out/\f.out.length<env.length:=by
 induction h with
 |nil=>cases hf
 |
  cons hs hok hx ht hf' hr ih =>
  rw[fZ]at hf
  split at hf
  ·cases hf;exact⟨_,_,_,_,rfl,hok,hx,ht,hf',hr,by simp[Fr.out]⟩
  ·obtain⟨x,a,b,t,h1,h2,h3,h4,h5,h6,h7⟩:=ih hf
   exact⟨x,a,b,t,h1,h2,h3,h4,h5,h6,by simp;omega⟩
theorem km(s w:List UInt8)(ar:List (List UInt8)):∀i,i<=ar.length->bR s (ar++[w]) i=(bR s ar i).map (·+1)
 |0,_=>rfl
 |
  i+1,hi=>by
  have hlt:i<ar.length:=by omega
  have e:(ar++[w]).getD i []=ar.getD i []:=by simp[aa,List.getElem?_append_left hlt]
  rw[bR,bR,e,km s w ar i (by omega)]
  split
  ·simp only[aq,aA,aH,ci,Option.some.injEq];omega
  ·rfl
theorem vO(s:List UInt8)(f:Fr)(r:List Fr):bR s (names (f::r)) (names (f::r)).length=if f.nm=s then some 0 else(bR s (names r) (names r).length).map (·+1):=by
 have e:(names (f::r)).length=(names r).length+1:=by simp[names]
 rw[e,bR]
 have e2:(names (f::r)).getD (names r).length []=f.nm:=by simp[names,aa]
 rw[e2]
 split
 ·rw[e];simp
 ·rw[names,km _ _ _ _ (au _)]
theorem oB(s:List UInt8):∀env:List Fr,bR s (names env) (names env).length=none/\fZ s env=none\/∃(u:Nat) (f:Fr),bR s (names env) (names env).length=some u/\fZ s env=some f/\env[u]?=some f
 |[]=>.inl ⟨rfl,rfl⟩
 |
  f::r=>by
  rw[vO,fZ]
  split
  ·exact .inr ⟨0,f,rfl,rfl,rfl⟩
  ·rcases oB s r with⟨h1,h2⟩|⟨u,g,h1,h2,h3⟩
   ·exact .inl ⟨by rw[h1];rfl,h2⟩
   ·exact .inr ⟨u+1,g,by rw[h1];rfl,h2,by simpa using h3⟩
def Ty.OW:Ty->Bool
 | .bT _=>true
 |_=>false
theorem gC{e:E}{env:List Fr}{t:Ty}(hw:WF env)(ht:cT e (names env)=some t) :
 (t.OW=false/\fZ e.at env=none)\/∃(u:Nat) (f:Fr),t=.bT u/\fZ e.at env=some f/\env[u]?=some f:=by
 cases e with
 |
  list l =>
  left
  refine⟨?_,kU hw⟩
  match l,ht with
  |
   [x,a,b],ht =>
   by_cases h0:x.at=[43]
   ·obtain⟨t1,t2,_,_,rfl⟩:=fQ h0 ht;rfl
   ·by_cases h1:x.at=[42]
    ·obtain⟨t1,t2,_,_,rfl⟩:=fp h1 ht;rfl
    ·by_cases h2:x.at=[114,101,99]
     ·obtain⟨t1,_,_,rfl⟩:=dB h2 ht;rfl
     ·rw[jq _ h0 h1 h2]at ht;cases ht
  |[],ht=>cases ht
  |[_],ht=>cases ht
  |[_,_],ht=>cases ht
  |_::_::_::_::_,ht=>cases ht
 |
  atom s =>
  simp only[cT]at ht
  have hno:dk s=false->fZ s env=none:=fun h=>by
   cases hq:fZ s env with
   |none=>rfl
   |some f=>rw[Ah hw hq]at h;cases h
  split at ht
  ·rename_i h;cases ht;subst h;exact .inl ⟨rfl,hno rfl⟩
  ·split at ht
   ·rename_i h;cases ht;subst h;exact .inl ⟨rfl,hno rfl⟩
   ·split at ht
    ·rename_i h
     cases ht
     refine .inl ⟨rfl,hno ?_⟩
     cases hq:dk s with
     |false=>rfl
     |
      true =>
      obtain⟨c,r,rfl,h1,h2⟩:=l5 h
      obtain⟨c',r',he,h3,h4⟩:=l5 hq
      cases he;omega
    ·split at ht
     ·rcases oB s env with⟨h1,h2⟩|⟨u,f,h1,h2,h3⟩
      ·rw[h1]at ht;cases ht;exact .inl ⟨rfl,h2⟩
      ·rw[h1]at ht;cases ht;exact .inr ⟨u,f,rfl,h2,h3⟩
     ·cases ht
def ff(n:Nat):Vl->E×List Fr->Bool
 | .u,p=>match hd p.1 p.2 with|(.atom s,_)=>s==[49]|_=>false
 | .el k,p=>match hd p.1 p.2 with|(.atom s,_)=>!(s==[49])&&(im s&&decide (k<n))|_=>false
 | .l w,p=>match hd p.1 p.2 with|(.list [x,a,b],o)=>(x.at==[43])&&ff n w (a,o)|_=>false
 | .r w,p=>match hd p.1 p.2 with|(.list [x,a,b],o)=>(x.at==[43])&&ff n w (b,o)|_=>false
 | .f w,p=>match hd p.1 p.2 with|(.list [x,a,b],o)=>(x.at==[114,101,99])&&ff n w (b,.mk a.at (.list [x,a,b]) o::o)|_=>false
 | .p v w,p=>match hd p.1 p.2 with|(.list [x,a,b],o)=>(x.at==[42])&&(ff n v (a,o)&&ff n w (b,o))|_=>false
theorem kl{e:E}{env:List Fr}(h:fZ e.at env=none):hd e env=(e,env):=by rw[hd,h]
theorem qU{e:E}{env:List Fr}{f:Fr}(h:fZ e.at env=some f):hd e env=(f.ex,f.out):=by rw[hd,h]
theorem pP{x a b:E}{o:List Fr}(h:WF o):hd (.list [x,a,b]) o=(.list [x,a,b],o):=kl (kU h)
theorem uE(n:Nat)(v:Vl){e e':E}{env o:List Fr}(h:hd e env=(e',o))(h':hd e' o=(e',o)):ff n v (e,env)=ff n v (e',o):=by
 cases v<;>simp only[ff,h,h']
theorem jz{x a b:E}{env:List Fr}{t:Ty}(hw:WF env)(hok:(E.list [x,a,b]).ok)(hx:x.at=[114,101,99])(ht:cT (.list [x,a,b]) (names env)=some t)(hf:cc t=false) :
 ∃t1,t=.rc t1/\cT b (names (.mk a.at (.list [x,a,b]) env::env))=some t1/\cc t1=false/\WF (.mk a.at (.list [x,a,b]) env::env):=by
 obtain⟨t1,hl,h1,rfl⟩:=dB hx ht
 exact⟨t1,rfl,h1,hf,.cons hl hok hx ht hf hw⟩
theorem zV(a b env:AV)(n:Int)(s:ByteArray)(u:Int)(ha:LK.ptr.has a)(he:LK.ptr.has env):an Tryz.prog 113 [.agg [.ptr [.v (.int .u8 n),.v (.string s),.v (.int .i64 u),a,b],env]] [] (bK (.agg [a,env])):=by
 refine Q1 _ _ ((cb _).mpr trivial) he ?_
 simp only[MD,↓zq,zs,ac,bK]
 exact⟨ha,by omega⟩
theorem Ao(a b env:AV)(n:Int)(s:ByteArray)(u:Int)(hb:LK.ptr.has b)(he:LK.ptr.has env):an Tryz.prog 114 [.agg [.ptr [.v (.int .u8 n),.v (.string s),.v (.int .i64 u),a,b],env]] [] (bK (.agg [b,env])):=by
 refine Pq _ _ ((cb _).mpr trivial) he ?_
 simp only[Nn,↓zq,zs,ac,bK]
 exact⟨hb,by omega⟩
theorem RY(t:Ty)(env:List Fr)(s:List UInt8)(e:E)(ht:yZ e env=.rc t):an Tryz.prog 86 [.agg [(Ty.rc t).av,oP env]] [] (bK (.cD [.agg [t.av,oP (.mk s e env::env)],(Fr.mk s e env).cA])):=by
 refine Qi _ _ ((aF _).mpr trivial) ((ew _).mpr trivial) ?_
 simp only[NH,Ty.av,↓zq,zs,ac,aF,bK,oP,Fr.cA,ht]
 omega
theorem s5(env:List Fr)(i:Nat)(f:Fr)(h:env[i]?=some f):oP (env.drop i)=.ptr [f.cA,oP (env.drop (i+1))]:=by
 obtain⟨hlt,he⟩:=List.getElem?_eq_some_iff.1 h
 rw[aU hlt,he,oP]
theorem Nu(env:List Fr)(u:Nat)(hu:u<env.length)(hl:env.length<1000000):∀(k i:Nat),i+k=u->CP [oP (env.drop i),.v (.int .i64 (u:Int)),.v (.int .i64 (i:Int))] [] (gV 1 [oP (env.drop u)] [])
 |
  0,i,hi=>by
  refine Dn _ _ _ ?_
  have:i=u:=by omega
  subst this
  simp only[A0,↓zq,zs,ac,ew]
  exact⟨fun h=>by omega,fun _=>by simp[gV]⟩
 |
  k+1,i,hi=>by
  refine Dn _ _ _ ?_
  have hlt:i<env.length:=by omega
  have hg:env[i]?=some env[i]:=bp hlt
  have hd:=s5 env i _ hg
  rw[hd]
  simp only[A0,↓zq,zs,ac,ew]
  refine⟨fun _=>⟨by omega,?_⟩,fun h=>by omega⟩
  rw[bA i (by omega)]
  exact Nu env u hu hl k (i+1) (by omega)
theorem QJ(env:List Fr)(u:Nat)(f:Fr)(hf:env[u]?=some f)(hl:env.length<1000000):an Tryz.prog 131 [.agg [(Ty.bT u).av,oP env]] [] (bK f.cA):=by
 refine K9 _ _ ((aF _).mpr trivial) ((ew _).mpr trivial) ?_
 obtain⟨hlt,he⟩:=List.getElem?_eq_some_iff.1 hf
 simp only[Ib,Ty.av,↓zq,zs,ac]
 refine⟨by omega,?_⟩
 have h:=Nu env u hlt hl u 0 (by omega)
 simp only[be]at h
 refine cx h ?_
 rw[s5 env u f hf]
 simp only[↓zq,zs,ac,BH,bK]
 omega
theorem DL(k:Nat)(h:k<100):Lib.atoi (dd k)=some (k:Int):=by
 have e:∀k,k<100->dd k=if k<10 then [bj (48+k)]else [bj (48+k/10),bj (48+k%10)]:=by
  intro k hk
  by_cases h1:k<10
  ·rw[eK h1,if_pos h1]
  ·rw[fU h1,eK (by omega),if_neg h1];rfl
 have key:∀k:Fin 100,Lib.atoi (if k.val<10 then [bj (48+k.val)]else [bj (48+k.val/10),bj (48+k.val%10)])=some (k.val:Int):=by decide +kernel
 rw[e k h];exact key ⟨k,h⟩
theorem P0(k:Nat)(hk:k<100):an Tryz.prog 130 [.v (.string (mk (dd k)))] [] (bK (.cD [.v (.int .i64 (k:Int)),.v .nilIface])):=by
 have hl:=mV 1000 k (by omega)
 have hl2:(dd k).length<=18:=by
  have e:(dd k).length<=2:=by
   by_cases h1:k<10
   ·rw[eK h1];simp
   ·rw[fU h1,eK (by omega)];simp
  omega
 refine an.Rq (xs:=[.string (mk (dd k))]) (v:=.tuple #[.int .i64 (k:Int),.nilIface]) ⟨qz,by kernel_rfl,by kernel_rfl,by kernel_rfl⟩ (fun M=>?_) fun w=>?_
 ·refine bI.cD _ _ [.int .i64 (k:Int),.nilIface] rfl fun i hi=>?_
  match i,hi with
  |0,_=>exact .v _ _
  |1,_=>exact .v _ _
 ·have:=Any.strconv_Atoi Tryz.CQ (mk (dd k)) (k:Int) (by rw[cN];exact hl2) (by
   have:(mk (dd k)).data.toList=dd k:=by simp[mk]
   rw[this];exact DL k hk) w
  refine Calls.mono this fun e w' ⟨h1,t,h2⟩=>⟨h1,?_⟩
  subst h2
  refine⟨rfl,rfl,rfl,?_,fun b hb=>Lib.bytesWorld_at_old _ _ _ _ hb⟩
  simp[Lib.bytesWorld,World.freeze]
end Go.Proofs.Trees
namespace Go.Proofs.Trees
open Go Go.VL Go.RowKit
theorem fB{a b:Ty}(h:cc (.plus a b)=false):cc a=false/\cc b=false:=by simpa[cc]using h
theorem eY{a b:Ty}(h:cc (.times a b)=false):cc a=false/\cc b=false:=by simpa[cc]using h
theorem fP{e:E}{ar:List (List UInt8)}{t:Ty}(ht:cT e ar=some t)(hb:t.OW=false)(hf:cc t=false) :
 (e=.atom [48]/\t=.zero)\/(e=.atom [49]/\t=.one)\/(∃s,e=.atom s/\t=.name s/\im s=true/\s≠[48]/\s≠[49]) ∨
 (∃x a b t1 t2,e=.list [x,a,b]/\x.at=[43]/\t=.plus t1 t2/\cT a ar=some t1/\cT b ar=some t2) ∨
 (∃x a b t1 t2,e=.list [x,a,b]/\x.at=[42]/\t=.times t1 t2/\cT a ar=some t1/\cT b ar=some t2) ∨
 (∃x a b t1,e=.list [x,a,b]/\x.at=[114,101,99]/\t=.rc t1):=by
 cases e with
 |
  list l =>
  match l,ht with
  |
   [x,a,b],ht =>
   by_cases h0:x.at=[43]
   ·obtain⟨t1,t2,h1,h2,rfl⟩:=fQ h0 ht
    exact .inr (.inr (.inr (.inl ⟨x,a,b,t1,t2,rfl,h0,rfl,h1,h2⟩)))
   ·by_cases h1:x.at=[42]
    ·obtain⟨t1,t2,h3,h2,rfl⟩:=fp h1 ht
     exact .inr (.inr (.inr (.inr (.inl ⟨x,a,b,t1,t2,rfl,h1,rfl,h3,h2⟩))))
    ·by_cases h2:x.at=[114,101,99]
     ·obtain⟨t1,_,_,rfl⟩:=dB h2 ht
      exact .inr (.inr (.inr (.inr (.inr ⟨x,a,b,t1,rfl,h2,rfl⟩))))
     ·rw[jq _ h0 h1 h2]at ht;cases ht
  |[],ht=>cases ht
  |[_],ht=>cases ht
  |[_,_],ht=>cases ht
  |_::_::_::_::_,ht=>cases ht
 |
  atom s =>
  simp only[cT]at ht
  split at ht
  ·rename_i h;cases ht;subst h;exact .inl ⟨rfl,rfl⟩
  ·rename_i h0
   split at ht
   ·rename_i h;cases ht;subst h;exact .inr (.inl ⟨rfl,rfl⟩)
   ·rename_i h1
    split at ht
    ·rename_i h;cases ht;exact .inr (.inr (.inl ⟨s,rfl,rfl,h,h0,h1⟩))
    ·split at ht
     ·rename_i h
      split at ht
      ·cases ht;cases hb
      ·cases ht;simp only[cc]at hf;rw[h]at hf;cases hf
     ·cases ht
def qe(n:Nat)(v:Vl)(e:E)(env:List Fr)(t:Ty):Prop:=an Tryz.prog 95 [.agg [t.av,oP env],v.cA,.v (.int .i64 (n:Int))] [] (bK (.v (.bool (ff n v (e,env)))))
structure Ask(e:E)(env:List Fr)(t:Ty):Prop where
 ok:e.ok
 wf:WF env
 ty:cT e (names env)=some t
 cl:cc t=false
theorem JZ(n:Nat)(hn:n<=100)(v:Vl)(hv:v.ic 100)(IH:∀w:Vl,w.nodes<v.nodes->w.ic 100->∀e env t,Ask e env t->env.length+w.nodes<100000->qe n w e env t)
 (e:E) (env:List Fr) (t:Ty) (A:Ask e env t) (hl:env.length+v.nodes<100000) (hb:t.OW=false) (hh:fZ e.at env=none):qe n v e env t:=by
 have hhd:hd e env=(e,env):=kl hh
 unfold qe
 refine Mw _ _ _ _ ((aF _).mpr trivial) ((ew _).mpr trivial) ((aN _).mpr trivial) ?_
 rcases fP A.ty hb A.cl with⟨rfl,rfl⟩|⟨rfl,rfl⟩|⟨s,rfl,rfl,hp,h0,h1⟩|⟨x,a,b,t1,t2,rfl,hx,rfl,ha,hbb⟩|⟨x,a,b,t1,t2,rfl,hx,rfl,ha,hbb⟩|⟨x,a,b,t1,rfl,hx,rfl⟩
 ·have hp0:im [48]=false:=rfl
  cases v<;>simp[Av,Ty.av,↓zq,zs,ac,bK,ff,hhd,hp0]
 ·have hp0:im [49]=false:=rfl
  cases v<;>simp[Av,Ty.av,Vl.cA,↓zq,zs,ac,bK,ff,hhd,hp0]
 ·have h1':(s==[49])=false:=by simpa using h1
  cases v with
  |
   el k =>
   have hk:k<100:=hv
   simp only[Av,Ty.av,Vl.cA,↓zq,zs,ac,zt]
   refine⟨by omega,fun h=>by omega,fun _=>⟨fun _=>⟨by omega,fun h=>absurd rfl h,fun _=>⟨by omega,by omega,?_⟩⟩,fun h=>absurd rfl h⟩⟩
   have e1:(List.take ((dd k).length+1) (wY k)).drop (bJ 1)=dd k:=by simp[wY]
   rw[e1]
   refine aj (P0 k hk) ?_
   simp only[↓zq,zs,ac,bK,ff,hhd,h1',hp,zf]
   refine⟨rfl,?_⟩
   congr 2
   rw[cw];simp
  |
   _ =>
   simp only[Av,Ty.av,Vl.cA,↓zq,zs,ac,zt,ff,hhd,h1',bK]
   exact⟨by omega,fun h=>by omega,fun _=>⟨fun _=>⟨by omega,fun _=>trivial,fun h=>by omega⟩,fun h=>absurd rfl h⟩⟩
 ·have hok:=A.ok
  obtain⟨ok1,ok2,ok3,_⟩:=hok
  obtain⟨f1,f2⟩:=fB A.cl
  cases v with
  |
   l w =>
   simp only[Vl.nodes]at hl
   simp only[Av,Ty.av,Vl.cA,↓zq,zs,ac]
   refine⟨by omega,fun h=>by omega,fun _=>⟨fun h=>by omega,fun _=>⟨fun h=>by omega,fun _=>⟨fun _=>⟨by omega,fun _=>?_,fun h=>absurd rfl h⟩,fun h=>absurd rfl h⟩⟩⟩⟩
   refine aj (zV _ _ _ _ _ _ ((aF _).mpr trivial) ((ew _).mpr trivial)) ?_
   simp only[↓zq,zs,ac,bF,aF,ew,aN]
   refine⟨by omega,?_⟩
   refine aj (IH w (by simp only[Vl.nodes];omega) hv a env t1 ⟨ok2,A.wf,ha,f1⟩ (by omega)) ?_
   simp only[↓zq,zs,ac,bK,ff,hhd,hx]
   refine⟨fun h=>?_,fun h=>⟨by omega,fun h=>by omega,fun _=>?_⟩⟩
   ·simp[h]
   ·simp[h]
  |
   r w =>
   simp only[Vl.nodes]at hl
   simp only[Av,Ty.av,Vl.cA,↓zq,zs,ac]
   refine⟨by omega,fun h=>by omega,fun _=>⟨fun h=>by omega,fun _=>⟨fun h=>by omega,fun _=>⟨fun _=>⟨by omega,fun h=>by omega,fun _=>⟨by omega,fun _=>?_,fun h=>absurd rfl h⟩⟩,fun h=>absurd rfl h⟩⟩⟩⟩
   refine aj (Ao _ _ _ _ _ _ ((aF _).mpr trivial) ((ew _).mpr trivial)) ?_
   simp only[↓zq,zs,ac,bF,aF,ew,aN]
   refine⟨by omega,?_⟩
   refine aj (IH w (by simp only[Vl.nodes];omega) hv b env t2 ⟨ok3,A.wf,hbb,f2⟩ (by omega)) ?_
   simp[↓zq,zs,ac,bK,ff,hhd,hx]
  |
   _ =>
   simp only[Av,Ty.av,Vl.cA,↓zq,zs,ac,ff,hhd,bK]
   exact⟨by omega,fun h=>by omega,fun _=>⟨fun h=>by omega,fun _=>⟨fun h=>by omega,fun _=>⟨fun _=>⟨by omega,fun h=>by omega,fun _=>⟨by omega,fun h=>by omega,fun _=>by simp[hx]⟩⟩,fun h=>absurd rfl h⟩⟩⟩⟩
 ·have hok:=A.ok
  obtain⟨ok1,ok2,ok3,_⟩:=hok
  obtain⟨f1,f2⟩:=eY A.cl
  cases v with
  |
   p v w =>
   simp only[Vl.nodes]at hl
   simp only[Av,Ty.av,Vl.cA,↓zq,zs,ac]
   refine⟨by omega,fun h=>by omega,fun _=>⟨fun h=>by omega,fun _=>⟨fun h=>by omega,fun _=>⟨fun h=>by omega,fun _=>⟨fun _=>⟨by omega,fun _=>?_,fun h=>absurd rfl h⟩,fun h=>absurd rfl h⟩⟩⟩⟩⟩
   refine aj (zV _ _ _ _ _ _ ((aF _).mpr trivial) ((ew _).mpr trivial)) ?_
   simp only[↓zq,zs,ac,bF,aF,ew,aN]
   refine⟨by omega,?_⟩
   refine aj (IH v (by simp only[Vl.nodes];omega) hv.1 a env t1 ⟨ok2,A.wf,ha,f1⟩ (by omega)) ?_
   simp only[↓zq,zs,ac,bK,ff,hhd,hx]
   refine⟨fun h=>?_,fun h=>?_⟩
   ·refine aj (Ao _ _ _ _ _ _ ((aF _).mpr trivial) ((ew _).mpr trivial)) ?_
    simp only[↓zq,zs,ac,bF,aF,ew,aN]
    refine⟨by omega,?_⟩
    refine aj (IH w (by simp only[Vl.nodes];omega) hv.2 b env t2 ⟨ok3,A.wf,hbb,f2⟩ (by omega)) ?_
    simp[↓zq,zs,ac,h]
   ·simp[h]
  |
   _ =>
   simp only[Av,Ty.av,Vl.cA,↓zq,zs,ac,ff,hhd,bK]
   exact⟨by omega,fun h=>by omega,fun _=>⟨fun h=>by omega,fun _=>⟨fun h=>by omega,fun _=>⟨fun h=>by omega,fun _=>⟨fun _=>⟨by omega,fun h=>by omega,fun _=>by simp[hx]⟩,fun h=>absurd rfl h⟩⟩⟩⟩⟩
 ·obtain⟨t1',he1,h1,f1,hw1⟩:=jz A.wf A.ok hx A.ty A.cl
  cases he1
  have hok:=A.ok
  obtain⟨ok1,ok2,ok3,_⟩:=hok
  have htD:yZ (.list [x,a,b]) env=.rc t1:=by rw[yZ,A.ty];rfl
  have hin:=RY t1 env a.at (.list [x,a,b]) htD
  simp only[Ty.av]at hin
  simp only[Av,Ty.av,↓zq,zs,ac]
  refine⟨by omega,fun h=>by omega,fun _=>⟨fun h=>by omega,fun _=>⟨fun h=>by omega,fun _=>⟨fun h=>by omega,fun _=>⟨fun h=>by omega,fun _=>⟨fun _=>?_,fun h=>absurd rfl h⟩⟩⟩⟩⟩⟩
  refine aj hin ?_
  simp only[↓zq,zs,ac,bF,aF,ew,BH,aN,fw]
  cases v with
  |
   f w =>
   simp only[Vl.nodes]at hl
   simp only[Vl.cA,↓zq,zs,ac,aN]
   refine⟨by omega,fun _=>⟨by omega,?_⟩,fun h=>absurd rfl h⟩
   refine aj (IH w (by simp only[Vl.nodes];omega) hv b (.mk a.at (.list [x,a,b]) env::env) t1 ⟨ok3,hw1,h1,f1⟩ (by simp;omega)) ?_
   simp[↓zq,zs,ac,bK,ff,hhd,hx]
  |
   _ =>
   simp only[Vl.cA,↓zq,zs,ac,ff,hhd,bK]
   exact⟨by omega,fun h=>by omega,fun _=>by simp[hx]⟩
theorem Jz(n:Nat)(hn:n<=100):∀(m:Nat) (v:Vl),v.nodes<m->v.ic 100->∀e env t,Ask e env t->env.length+v.nodes<100000->qe n v e env t
 |0,v,h,_=>by omega
 |
  m+1,v,h,hv=>by
  intro e env t A hl
  have IH:∀w:Vl,w.nodes<v.nodes->w.ic 100->∀e env t,Ask e env t->env.length+w.nodes<100000->qe n w e env t:=fun w hw hb=>Jz n hn m w (by omega) hb
  rcases gC A.wf A.ty with⟨hb,hh⟩|⟨u,f,rfl,hh,hu⟩
  ·exact JZ n hn v hv IH e env t A hl hb hh
  ·obtain⟨x,a,b,t',hfe,hok,hx,ht',hf',hwf,hlt⟩:=oK A.wf hh
   obtain⟨t1,hl1,h1,rfl⟩:=dB hx (hfe ▸ ht')
   have hvis:ff n v (e,env)=ff n v (f.ex,f.out):=uE n v (qU hh) (by rw[hfe];exact pP hwf)
   unfold qe
   refine Mw _ _ _ _ ((aF _).mpr trivial) ((ew _).mpr trivial) ((aN _).mpr trivial) ?_
   have hbd:=QJ env u f hu (by omega)
   simp only[Ty.av]at hbd
   simp only[Av,Ty.av,↓zq,zs,ac]
   refine⟨by omega,fun h=>by omega,fun _=>⟨fun h=>by omega,fun _=>⟨fun _=>?_,fun h=>absurd rfl h⟩⟩⟩
   refine aj hbd ?_
   cases f with
   |
    mk s ee oo =>
    simp only[Fr.ex,Fr.out]at hfe ht' hf' hwf hvis hlt
    have htD:yZ ee oo=.rc t1:=by rw[yZ,ht'];rfl
    simp only[Fr.cA,htD,↓zq,zs,ac,bF,aF,ew]
    refine⟨by omega,?_⟩
    have hs:=JZ n hn v hv IH ee oo (.rc t1) ⟨by rw[hfe];exact hok,hwf,ht',hf'⟩ (by omega) rfl (by rw[hfe];exact kU hwf)
    unfold qe at hs
    refine aj hs ?_
    simp[↓zq,zs,ac,bK,hvis]
end Go.Proofs.Trees
namespace Go.Proofs.Trees
open Go Go.VL Go.RowKit
theorem sW:∀(env:List Fr) (k:Nat) (f:Fr),env[k]?=some f->(kb env).getD (env.length-1-k) []=f.cells
 |[],k,f,h=>by cases h
 |
  g::r,0,f,h=>by
  cases h
  have:(g::r).length-1-0=(kb r).length:=by simp[kM]
  rw[this,kb];simp[aa]
 |
  g::r,k+1,f,h=>by
  have h':r[k]?=some f:=by simpa using h
  have hlt:=(List.getElem?_eq_some_iff.1 h').1
  have e:(g::r).length-1-(k+1)=r.length-1-k:=by simp;omega
  have:=sW r k f h'
  rw[e,kb,aa,List.getElem?_append_left (by rw[kM];omega),<-aa]
  exact this
theorem rh(f:Fr):f.cells=[.v (.string (mk f.nm)),.v (.string (mk f.ex.at)),f.ex.sp,.sl (kb f.out)]:=by cases f;rfl
theorem Lx(e:E)(env:List Fr)(hl:env.length<1000000):∀(j k:Nat),k+j=env.length->G7 [.sl (kb env),.v (.int .i64 ((env.length:Int)-1-(k:Int)))] [.cells [.v (.string (mk e.at)),e.sp],.cells [.v (.string (mk [])),.v (.slice none 0 0)]]
 (py (match fZ e.at (env.drop k)with|some f=>(2,[.sl (kb f.out)],[.cells [.v (.string (mk f.ex.at)),f.ex.sp]])|none=>(1,[.sl (kb env)],[.cells [.v (.string (mk e.at)),e.sp],.cells [.v (.string (mk [])),.v (.slice none 0 0)]])))
 |
  0,k,hk=>by
  refine Nj _ _ _ _ _ _ ?_
  have hd:env.drop k=[]:=bW (by omega)
  simp only[Ih,↓zq,zs,ac,aY,hd,fZ]
  exact⟨fun h=>by omega,fun _=>by first|trivial|rfl⟩
 |
  j+1,k,hk=>by
  refine Nj _ _ _ _ _ _ ?_
  have hlt:k<env.length:=by omega
  have hg:env[k]?=some env[k]:=bp hlt
  have hc:=sW env k _ hg
  have e1:((env.length:Int)-1-(k:Int))=((env.length-1-k:Nat):Int):=by omega
  have hdr:env.drop k=env[k]::env.drop (k+1):=aU hlt
  rw[hdr,fZ,e1]
  simp only[Ih,bN,hc,rh,↓zq,zs,ac,zt,aY,kM,bF]
  refine⟨fun _=>⟨by omega,by omega,fun h=>⟨by omega,by omega,by omega,by omega,?_⟩,fun h=>?_⟩,fun h=>by omega⟩
  ·rw[if_pos h]
  ·rw[if_neg h]
   have e2:IntKind.wrap .i64 (((env.length-1-k:Nat):Int)-1)=(env.length:Int)-1-((k+1:Nat):Int):=by
    have:IntKind.wrap .i64 (((env.length-1-k:Nat):Int)-1)=((env.length-1-k:Nat):Int)-1:=wrap64 _ (by omega) (by omega)
    omega
   rw[e2]
   exact Lx e env hl j (k+1) (by omega)
theorem Qz(e:E)(env:List Fr)(hl:env.length<1000000):an Tryz.prog 154 [e.kI,.sl (kb env)] [] (bK (.cD [(hd e env).1.kI,.sl (kb (hd e env).2)])):=by
 rw[dj e]
 refine Ph _ _ _ ((aY _).mpr trivial) ((cg _).mpr trivial) ?_
 simp only[JU,↓zq,zs,ac,kM,bK]
 have h:=Lx e env hl env.length 0 (by omega)
 simp only[be]at h
 rw[wrap64 _ (by omega) (by omega)]
 rw[show (env.length:Int)-1-((0:Nat):Int)=(env.length:Int)-1 by omega]at h
 refine fI h (fun ys o e'=>?_) (fun ys o e'=>?_)
 ·unfold hd
  cases hq:fZ e.at env<;>rw[hq]at e'<;>cases e'
  simp only[↓zq,zs,ac,zt,aY,dj]
 ·unfold hd
  cases hq:fZ e.at env<;>rw[hq]at e'<;>cases e'
  simp only[↓zq,zs,ac,zt,aY,dj]
theorem qj:∀env:List Fr,cy 4 (kb env)
 |[]=>fun c hc=>by cases hc
 |
  f::r=>fun c hc=>by
  simp only[kb,aO,aS]at hc
  rcases hc with hc|rfl
  ·exact qj r c hc
  ·rw[rh];rfl
theorem Q5(x a b:E)(env:List Fr)(hl:env.length<1000000):an Tryz.prog 156 [(E.list [x,a,b]).kI,.sl (kb env)] [] (bK (.cD [b.kI,.sl (kb (.mk a.at (.list [x,a,b]) env::env))])):=by
 refine QB _ _ _ ((cg _).mpr trivial) ((cg _).mpr trivial) ?_
 simp only[Lb,E.bw,toNat_one,bh,↓zq,zs,ac,zt,jf,gp,iR,my,au,kM,bK,aW]
 refine⟨by omega,⟨qj env,by omega⟩,by omega,by omega,⟨fun c hc=>(by simp at hc;rw[hc];rfl),by omega⟩,?_⟩
 simp only[kb,rh,Fr.nm,Fr.ex,Fr.out,E.at,E.sp,E.bw]
theorem DP(s:ByteArray)(e:E):bF [.str,.sl] [.v (.string s),e.sp] 0=True:=by apply eq_true;simp[bF,dY,aY]
theorem HT{e:E}{env:List Fr}{t:Ty}(A:Ask e env t):∃e' o t',hd e env=(e',o)/\Ask e' o t'/\t'.OW=false/\hd e' o=(e',o)/\o.length<=env.length:=by
 rcases gC A.wf A.ty with⟨hb,hh⟩|⟨u,f,rfl,hh,hu⟩
 ·exact⟨e,env,t,kl hh,A,hb,kl hh,au _⟩
 ·obtain⟨x,a,b,t',hfe,hok,hx,ht',hf',hwf,hlt⟩:=oK A.wf hh
  refine⟨f.ex,f.out,t',qU hh,⟨by rw[hfe];exact hok,hwf,ht',hf'⟩,?_,?_,by omega⟩
  ·obtain⟨t1,_,_,rfl⟩:=dB hx (hfe ▸ ht');rfl
  ·rw[hfe];exact pP hwf
def vh:Vl->List UInt8
 | .l _=>[108]
 | .r _=>[114]
 | .f _=>[102]
 | .p _ _=>[112]
 |_=>[]
theorem BD(v:Vl):an Tryz.prog 121 [v.cL.kI] [] (bK (.v (.string (mk (vh v))))):=by
 cases v with
 |u=>exact Ap _ _ ((bg).mpr trivial) (by simp)
 |el k=>exact Ap _ _ ((bg).mpr trivial) (by simp)
 |l v=>exact u7 _ _
 |r v=>exact u7 _ _
 |f v=>exact u7 _ _
 |p v w=>exact u7 _ _
theorem Tf(v:Vl)(hv:v.ic 100):v.cL.at=(match v with| .u=>[117]| .el k=>wY k|_=>[])/\Bp v.cL.at=(match v with| .el k=>(k:Int)|_=>-1):=by
 cases v with
 |el k=>exact⟨rfl,GR k hv⟩
 |u=>exact⟨rfl,rfl⟩
 |_=>exact⟨rfl,rfl⟩
theorem zN(n:Nat)(hn:n<=100):∀(m:Nat) (v:Vl),v.nodes<m->v.ic 100->∀e env t,Ask e env t->env.length+v.nodes<100000->an Tryz.prog 125 [e.kI,.sl (kb env),v.cL.kI,.v (.int .i64 (n:Int))] [] (bK (.v (.bool (ff n v (e,env)))))
 |0,v,hm,hv,e,env,t,A,hl=>by omega
 |
  m+1,v,hm,hv,e,env,t,A,hl=>by
  obtain⟨e',o,t',hhd,A',hb,hh',hlen⟩:=HT A
  rw[uE n v hhd hh',dj e,dj v.cL]
  refine PJ _ _ _ _ _ _ ((aY _).mpr trivial) ((cg _).mpr trivial) ((aY _).mpr trivial) ?_
  have hf:=Qz e env (by omega)
  rw[dj e,hhd]at hf
  have hvh:=BD v
  rw[dj]at hvh
  unfold LQ
  refine aj hf ?_
  simp only[dj e',↓zq,zs,ac,zt,aY,DP,bK]
  rcases fP A'.ty hb A'.cl with⟨rfl,rfl⟩|⟨rfl,rfl⟩|⟨s,rfl,rfl,hp,h0,h1⟩|⟨x,a,b,t1,t2,rfl,hx,rfl,ha,hbb⟩|⟨x,a,b,t1,t2,rfl,hx,rfl,ha,hbb⟩|⟨x,a,b,t1,rfl,hx,rfl⟩
  ·refine⟨fun _=>⟨fun h=>by simp[E.at]at h,fun _=>aj (FM _) ?_⟩,fun h=>by simp[E.at]at h⟩
   have hp0:im (E.atom [48]).at=false:=rfl
   have hp1:im [48]=false:=rfl
   cases v<;>simp[↓zq,zs,ac,hp0,ff,hh',hp1]
  ·refine⟨fun _=>⟨fun _=>?_,fun h=>absurd rfl h⟩,fun h=>by simp[E.at]at h⟩
   have hp1:im [49]=false:=rfl
   cases v<;>simp[ff,hh',hp1,Vl.cL,E.at]
  ·have hne:s≠[]:=A'.ok
   have h1':(s==[49])=false:=by simpa using h1
   refine⟨fun _=>⟨fun h=>absurd h h1,fun _=>aj (FM _) ?_⟩,fun h=>absurd h hne⟩
   have hat:(E.atom s).at=s:=rfl
   simp only[hat,hp,↓zq,zs,ac]
   refine⟨fun _=>aj (I7 _) ?_,fun h=>by cases h⟩
   simp only[↓zq,zs,ac]
   rw[wrap64 _ (by omega) (by omega)]
   refine aj (AN _ _ _) ?_
   simp only[↓zq,zs,ac,CM,(Tf v hv).2]
   cases v with
   |
    el k =>
    simp only[ff,hh',h1',hp,zf]
    congr 2
    rw[cw];simp;omega
   |_=>simp[ff,hh',h1']
  ·have hok:=A'.ok
   obtain⟨ok1,ok2,ok3,_⟩:=hok
   obtain⟨f1,f2⟩:=fB A'.cl
   refine⟨fun h=>absurd rfl h,fun _=>aj (u7 x [a,b]) ?_⟩
   simp only[↓zq,zs,ac]
   refine aj hvh ?_
   rw[hx]
   cases v with
   |
    l w =>
    simp only[Vl.nodes]at hl
    simp only[vh,Vl.cL,E.sp,E.bw,toNat_one,bh,↓zq,zs,ac,zt,jf,gp,iR,my,au]
    refine⟨by simp,fun _=>⟨by omega,by omega,aj (zN n hn m w (by simp only[Vl.nodes]at hm;omega) hv a o t1 ⟨ok2,A'.wf,ha,f1⟩ (by omega)) ?_⟩,fun h=>absurd rfl h⟩
    simp[↓zq,zs,ac,ff,hh',hx]
   |
    r w =>
    simp only[Vl.nodes]at hl
    simp only[vh,Vl.cL,E.sp,E.bw,toNat_one,bh,↓zq,zs,ac,zt,jf,gp,iR,my,au]
    refine⟨by simp,fun h=>by simp at h,fun _=>⟨fun _=>⟨by omega,by omega,aj (zN n hn m w (by simp only[Vl.nodes]at hm;omega) hv b o t2 ⟨ok3,A'.wf,hbb,f2⟩ (by omega)) ?_⟩,fun h=>absurd rfl h⟩⟩
    simp[↓zq,zs,ac,ff,hh',hx]
   |_=>simp[vh,↓zq,zs,ac,zt,ff,hh',hx]
  ·have hok:=A'.ok
   obtain⟨ok1,ok2,ok3,_⟩:=hok
   obtain⟨f1,f2⟩:=eY A'.cl
   refine⟨fun h=>absurd rfl h,fun _=>aj (u7 x [a,b]) ?_⟩
   simp only[↓zq,zs,ac]
   refine aj hvh ?_
   rw[hx]
   cases v with
   |
    p w z =>
    simp only[Vl.nodes]at hl
    simp only[vh,Vl.cL,E.sp,E.bw,toNat_one,bh,↓zq,zs,ac,zt,jf,gp,iR,my,au]
    refine⟨by simp,fun h=>by simp at h,fun _=>⟨fun h=>by simp at h,fun _=>⟨fun _=>⟨by omega,by omega,aj (zN n hn m w (by simp only[Vl.nodes]at hm;omega) hv.1 a o t1 ⟨ok2,A'.wf,ha,f1⟩ (by omega)) ?_⟩,fun h=>absurd rfl h⟩⟩⟩
    simp only[↓zq,zs,ac,ff,hh',hx]
    refine⟨fun h=>⟨by omega,by omega,aj (zN n hn m z (by simp only[Vl.nodes]at hm;omega) hv.2 b o t2 ⟨ok3,A'.wf,hbb,f2⟩ (by omega)) ?_⟩,fun h=>?_⟩
    ·simp[↓zq,zs,ac,h]
    ·simp[h]
   |_=>simp[vh,↓zq,zs,ac,zt,ff,hh',hx]
  ·obtain⟨t1',he1,h1,f1,hw1⟩:=jz A'.wf A'.ok hx A'.ty A'.cl
   cases he1
   have hok:=A'.ok
   obtain⟨ok1,ok2,ok3,_⟩:=hok
   refine⟨fun h=>absurd rfl h,fun _=>aj (u7 x [a,b]) ?_⟩
   simp only[↓zq,zs,ac]
   refine aj hvh ?_
   rw[hx]
   cases v with
   |
    f w =>
    simp only[Vl.nodes]at hl
    simp only[vh,Vl.cL,E.sp,E.bw,toNat_one,bh,↓zq,zs,ac,zt,jf,gp,iR,my,au]
    refine⟨by simp,fun h=>by simp at h,fun _=>⟨fun h=>by simp at h,fun _=>⟨fun h=>by simp at h,fun _=>⟨fun _=>aj (Q5 x a b o (by omega)) ?_,fun h=>absurd rfl h⟩⟩⟩⟩
    simp only[↓zq,zs,ac,yM,Ep]
    refine⟨by omega,aj (zN n hn m w (by simp only[Vl.nodes]at hm;omega) hv b (.mk a.at (.list [x,a,b]) o::o) t1 ⟨ok3,hw1,h1,f1⟩ (by simp;omega)) ?_⟩
    simp[↓zq,zs,ac,ff,hh',hx]
   |_=>simp[vh,↓zq,zs,ac,zt,ff,hh',hx]
theorem P1(n:Nat)(hn:n<=100)(v:Vl)(hv:v.ic 100)(e:E)(env:List Fr)(t:Ty)(A:Ask e env t)(hl:env.length+v.nodes<100000):an Tryz.prog 125 [e.kI,.sl (kb env),v.cL.kI,.v (.int .i64 (n:Int))] [] (bK (.v (.bool (ff n v (e,env))))):=zN n hn (v.nodes+1) v (by omega) hv e env t A hl
end Go.Proofs.Trees
namespace Go.Proofs.Trees
open Go Go.VL Go.RowKit
theorem KC(l:List (List UInt8))(a:AV)(ha:cH a l)(s:List UInt8)(hl:l.length<1000000):∀(k i:Nat),i+k=l.length->Ia [a,.v (.string (mk s)),.v (.int .i64 (i:Int))] []
 (py (if s∈l.drop i then(2,[.v (.bool true)],[])else(1,[],[])))
 |
  0,i,hi=>by
  refine MA _ _ _ ?_
  have hd:l.drop i=[]:=bW (by omega)
  simp only[Fv,↓zq,zs,ac,hd,ha.len]
  exact⟨ha.1,ha.1,fun h=>by omega,fun _=>by simp[py]⟩
 |
  k+1,i,hi=>by
  have hlt:i<l.length:=by omega
  have hdr:l.drop i=l.getD i []::l.drop (i+1):=by
   rw[aU hlt];simp[aa,hlt]
  refine MA _ _ _ ?_
  simp only[Fv,↓zq,zs,ac,zt,ha.len,ha.idx hlt]
  refine⟨ha.1,ha.1,fun _=>⟨⟨ha.1,by omega,by omega⟩,by omega,fun h=>?_,fun h=>?_⟩,fun h=>by omega⟩
  ·rw[hdr,h];simp[py]
  ·rw[bA i (by omega)]
   have:=KC l a ha s hl k (i+1) (by omega)
   have e:s∈l.drop i↔s∈l.drop (i+1):=by
    rw[hdr,aJ];exact⟨fun q=>q.resolve_left (fun q=>h q.symm),.inr⟩
   simp only[e];exact this
theorem Ga(l:List (List UInt8))(a:AV)(ha:cH a l)(s:List UInt8)(hl:l.length<1000000):an Tryz.prog 169 [a,.v (.string (mk s))] [] (bK (.v (.bool (decide (s∈l))))):=by
 refine RP _ _ ha.1 ?_
 unfold Mp
 refine fI (KC l a ha s hl l.length 0 (by omega)) (fun ys o e=>?_) (fun ys o e=>?_)
 ·simp only[be]at e
  split at e<;>cases e
  rename_i h
  simp[↓zq,zs,ac,bK,h]
 ·simp only[be]at e
  split at e<;>cases e
  rename_i h
  simp[↓zq,zs,ac,bK,h]
theorem wD(l:List (List UInt8))(a:AV)(ha:cH a l)(s:List UInt8)(hl:l.length<1000000):an Tryz.prog 79 [a,.v (.string (mk s))] [] (dh (.vec 0) [.vec 1 (bP (l++[s]))]):=by
 refine Pn _ _ ha.1 ?_
 simp only[Lz,↓zq,zs,ac,ha.2,dh,aW]
 have:(bP l).length=l.length:=by simp[bP]
 refine⟨⟨ha.1,kk l,by omega⟩,⟨fun c hc=>(by simp at hc;rw[hc];rfl),by omega⟩,?_⟩
 first|exact⟨rfl,by rw[E3]⟩|rw[E3]
def kf:E->List (List UInt8)->List (List UInt8)->List (List UInt8)
 | .atom s,bd,l=>if s=[48]\/s=[49]\/s∈bd\/s∈l then l else l++[s]
 | .list [x,a,b],bd,l=>if x.at=[114,101,99]then kf b (bd++[a.at]) l else kf b bd (kf a bd l)
 | .list _,_,l=>l
theorem gl:∀(e:E) (bd l:List (List UInt8)),(kf e bd l).length<=l.length+e.sz
 | .atom s,bd,l=>by rw[kf];split<;>simp[E.sz]
 | .list [],bd,l=>by simp[kf]
 | .list [_],bd,l=>by simp[kf]
 | .list [_,_],bd,l=>by simp[kf]
 | .list (_::_::_::_::_),bd,l=>by simp[kf]
 |
  .list [x,a,b],bd,l=>by
  rw[kf]
  simp only[E.sz,E.jv]
  split
  ·have:=gl b (bd++[a.at]) l;omega
  ·have:=gl a bd l
   have:=gl b bd (kf a bd l)
   omega
theorem En:∀(e:E) (bd l:List (List UInt8)) (a:AV),e.ok->j8 e=true->cH a bd->bd.length+l.length+e.sz<100000->an Tryz.prog 137 [e.kI,a,.vec 0] [.vec 1 (bP l)] (dh (.vec 1) [.dead,.vec 1 (bP (kf e bd l))])
 |
  .atom s,bd,l,a,hok,hty,ha,hl=>by
  simp only[E.sz]at hl
  refine zl _ _ _ _ ((bg).mpr trivial) ha.1 ?_
  have hne:s≠[]:=hok
  have hll:(bP l).length=l.length:=by simp[bP]
  simp only[w4,↓zq,zs,ac,zt,dh,kf]
  refine⟨fun _=>⟨fun h=>?_,fun h=>⟨fun h1=>?_,fun h1=>?_⟩⟩,fun h=>absurd h hne⟩
  ·rw[if_pos (.inl h)]
  ·rw[if_pos (.inr (.inl h1))]
  ·refine aj (Ga bd a ha s (by omega)) ?_
   simp only[↓zq,zs,ac]
   refine⟨fun h2=>?_,fun h2=>aj (Ga l _ (.of l) s (by omega)) ?_⟩
   ·rw[if_pos (.inr (.inr (.inl h2)))]
   ·simp only[↓zq,zs,ac]
    refine⟨fun h3=>?_,fun h3=>⟨⟨fun c hc=>(by simp at hc;rw[hc];rfl),by omega⟩,?_⟩⟩
    ·rw[if_pos (.inr (.inr (.inr h3)))]
    ·rw[E3,if_neg]
     rintro(q|q|q|q)
     ·exact h q
     ·exact h1 q
     ·exact h2 q
     ·exact h3 q
 | .list [],_,_,_,_,h,_,_=>by cases h
 | .list [_],_,_,_,_,h,_,_=>by cases h
 | .list [_,_],_,_,_,_,h,_,_=>by cases h
 | .list (_::_::_::_::_),_,_,_,_,h,_,_=>by cases h
 |
  .list [x,y,z],bd,l,a,hok,hty,ha,hl=>by
  simp only[E.sz,E.jv]at hl
  obtain⟨ok1,ok2,ok3,_⟩:=hok
  refine zl _ _ _ _ ((cg _).mpr trivial) ha.1 ?_
  simp only[w4,E.bw,toNat_one,bh,↓zq,zs,ac,zt,jf,gp,iR,my,au,dh]
  refine⟨fun h=>absurd rfl h,fun _=>aj (u7 x [y,z]) ?_⟩
  simp only[↓zq,zs,ac,zt]
  have hyl:=gl y bd l
  rw[j8]at hty
  refine⟨fun h=>⟨by omega,by omega,by omega,aX (wD bd a ha y.at (by omega)) ?_⟩,fun h=>⟨by omega,by omega,?_⟩⟩
  ·have hz:j8 z=true:=by
    rw[if_neg (by rw[h];decide),if_neg (by rw[h];decide),if_pos h]at hty
    simp only[az]at hty;exact hty.2
   simp only[↓zq,zs,ac,Ob.es,aQ]
   refine⟨eF _,?_⟩
   refine aX (En z (bd++[y.at]) l _ ok3 hz (.of _) (by simp;omega)) ?_
   simp only[↓zq,zs,ac]
   rw[kf,if_pos h]
  ·have hyz:j8 y=true/\j8 z=true:=by
    split at hty
    ·simpa using hty
    ·split at hty
     ·simpa using hty
     ·cases hty
   refine aX (En y bd l a ok2 hyz.1 ha (by omega)) ?_
   simp only[↓zq,zs,ac]
   refine aX (En z bd (kf y bd l) a ok3 hyz.2 ha (by omega)) ?_
   simp only[↓zq,zs,ac]
   rw[kf,if_neg h]
theorem kA{s:List UInt8}(h:im s=true):dk s=false:=by
 cases hq:dk s with
 |false=>rfl
 |
  true =>
  obtain⟨c,r,rfl,h1,h2⟩:=l5 h
  obtain⟨c',r',he,h3,h4⟩:=l5 hq
  cases he;omega
theorem mT(s:List UInt8)(ar:List (List UInt8)):∀i,i<=ar.length->(bR s ar i=none↔s∉ar.take i)
 |0,_=>by simp[bR]
 |
  i+1,hi=>by
  have hlt:i<ar.length:=by omega
  have e:ar.getD i []=ar[i]:=by simp[aa,hlt]
  have e2:s∈ar.take (i+1)↔s∈ar.take i\/s=ar[i]:=by
   rw[show ar.take (i+1)=ar.take i++[ar[i]] from (List.take_append_getElem hlt).symm]
   simp only[aO,aS]
  rw[bR,e,e2]
  by_cases h:ar[i]=s
  ·rw[if_pos h]
   exact⟨fun h=>(by cases h),fun h'=>absurd (.inr h.symm) h'⟩
  ·rw[if_neg h,mT s ar i (by omega)]
   exact⟨fun h1 h2=>h2.elim h1 (fun h3=>h h3.symm),fun h1 h2=>h1 (.inl h2)⟩
theorem lX:∀(e:E) (ar l:List (List UInt8)) (t:Ty),cT e ar=some t->(∀w,w∈ar->dk w=true)->(kf e ar l).any dk=(l.any dk||cc t)
 |
  .atom s,ar,l,t,h,har=>by
  simp only[cT]at h
  rw[kf]
  split at h
  ·rename_i h0;cases h;rw[if_pos (.inl h0)];simp[cc]
  ·rename_i h0
   split at h
   ·rename_i h1;cases h;rw[if_pos (.inr (.inl h1))];simp[cc]
   ·rename_i h1
    split at h
    ·rename_i h2
     cases h
     have hn:=kA h2
     simp only[cc,hn]
     split
     ·simp
     ·simp[hn]
    ·split at h
     ·rename_i h2 h3
      have hlo:=mT s ar ar.length (au _)
      rw[List.take_length]at hlo
      cases hq:bR s ar ar.length with
      |
       some u =>
       rw[hq]at h;cases h
       have hm:s∈ar:=Classical.byContradiction fun hm=>by rw[hlo.2 hm]at hq;cases hq
       rw[if_pos (.inr (.inr (.inl hm)))];simp[cc]
      |
       none =>
       rw[hq]at h;cases h
       have hm:=hlo.1 hq
       simp only[cc,h3,Bool.or_true]
       split
       ·rename_i hh
        rcases hh with q|q|q|q
        ·exact absurd q h0
        ·exact absurd q h1
        ·exact absurd q hm
        ·rw[cq];exact⟨s,q,h3⟩
       ·simp[h3]
     ·cases h
 | .list [],_,_,_,h,_=>by cases h
 | .list [_],_,_,_,h,_=>by cases h
 | .list [_,_],_,_,_,h,_=>by cases h
 | .list (_::_::_::_::_),_,_,_,h,_=>by cases h
 |
  .list [x,a,b],ar,l,t,h,har=>by
  rw[kf]
  by_cases h0:x.at=[43]
  ·obtain⟨t1,t2,e1,e2,rfl⟩:=fQ h0 h
   rw[if_neg (by rw[h0];decide),lX b ar _ t2 e2 har,lX a ar l t1 e1 har,cc,Bool.or_assoc]
  ·by_cases h1:x.at=[42]
   ·obtain⟨t1,t2,e1,e2,rfl⟩:=fp h1 h
    rw[if_neg (by rw[h1];decide),lX b ar _ t2 e2 har,lX a ar l t1 e1 har,cc,Bool.or_assoc]
   ·by_cases h2:x.at=[114,101,99]
    ·obtain⟨t1,hl,e1,rfl⟩:=dB h2 h
     rw[if_pos h2,lX b _ l t1 e1 (fun w hw=>by
      simp only[aO,aS]at hw
      rcases hw with hw|rfl
      ·exact har w hw
      ·exact hl),cc]
    ·rw[jq _ h0 h1 h2]at h;cases h
def jL(s:List UInt8):Option E:=match wA s with
 |none=>none
 |some e=>if(kf e [] []).any dk=true then none else some e
theorem B8{s:List UInt8}:wT s=match jL s with|none=>none|some e=>cT e []:=by
 unfold wT jL
 rw[ur]
 cases he:wA s with
 |none=>rfl
 |
  some e =>
  obtain⟨h1,h2,h3⟩:=pS he
  have hs:=jh e []
  rw[h2]at hs
  obtain⟨t,ht⟩:=bL.1 hs
  have ha:=lX e [] [] t ht (fun w hw=>by cases hw)
  simp only[ht,tj,ha,List.any_nil,Bool.false_or]
  cases hf:cc t<;>simp[ht]
theorem gZ{s:List UInt8}{e:E}(h:jL s=some e):∃t,wT s=some t/\Ask e [] t/\j8 e=true/\e.sz<=8000/\t.aE<=400/\qY s=some e:=by
 have h0:=h
 unfold jL at h
 split at h
 ·cases h
 ·rename_i e' he
  split at h
  ·cases h
  ·rename_i hn
   cases h
   obtain⟨h1,h2,h3⟩:=pS he
   obtain⟨hok,hsz⟩:=nX h1
   have hs:=jh e []
   rw[h2]at hs
   obtain⟨t,ht⟩:=bL.1 hs
   have ha:=lX e [] [] t ht (fun w hw=>by cases hw)
   rw[ha]at hn
   refine⟨t,by rw[B8,h0];exact ht,⟨hok,.nil,ht,by simpa using hn⟩,h2,hsz,?_,h1⟩
   rw[<-j1 e [] t ht];exact h3
theorem ni{s:List UInt8}(h:jL s=none):wT s=none:=by rw[B8,h]
theorem Ku(e:E)(l:List (List UInt8))(hl:l.length<1000000):∀(k i:Nat),i+k=l.length->GK [.v (.int .i64 (i:Int))] [.cells [.v (.string (mk [])),.v (.slice none 0 0)],.cells [.v (.string (mk e.at)),e.sp],.vec 1 (bP l)]
 (py (if(l.drop i).any dk=true then(2,[.v (.bool false)],[.cells [.v (.string (mk e.at)),e.sp]])else(1,[],[.cells [.v (.string (mk [])),.v (.slice none 0 0)],.cells [.v (.string (mk e.at)),e.sp]])))
 |
  0,i,hi=>by
  refine JC _ _ _ _ _ _ ?_
  have hd:l.drop i=[]:=bW (by omega)
  have hll:(bP l).length=l.length:=by simp[bP]
  simp only[F5,↓zq,zs,ac,hd,hll,aY]
  exact⟨fun h=>by omega,fun _=>by simp[py]⟩
 |
  k+1,i,hi=>by
  have hlt:i<l.length:=by omega
  have hll:(bP l).length=l.length:=by simp[bP]
  have hdr:l.drop i=l.getD i []::l.drop (i+1):=by
   rw[aU hlt];simp[aa,hlt]
  have hg:=(cH.of l).idx hlt
  simp only[fm]at hg
  refine JC _ _ _ _ _ _ ?_
  simp only[F5,↓zq,zs,ac,zt,hll,hg,aY]
  refine⟨fun _=>⟨by omega,by omega,aj (HO _) ?_⟩,fun h=>by omega⟩
  simp only[↓zq,zs,ac,hdr,List.any_cons]
  refine⟨fun h=>?_,fun h=>?_⟩
  ·rw[h];simp[py]
  ·rw[h,bA i (by omega)]
   simp only[Bool.false_or]
   exact Ku e l hl k (i+1) (by omega)
theorem Hj(s:List UInt8):an Tryz.prog 104 [.v (.string (mk s))] [] (jN (jL s) (jL s).isSome):=by
 refine Sl _ ?_
 unfold KX
 refine aR (Ic s) (jN.ne _ _ (fun h=>h)) ?_
 rintro r o ⟨c,d,hd,rfl,hh⟩
 have hhas:bF [.str,.sl] [.v (.string (mk c)),d] 0:=by simp[bF,dY,hd]
 simp only[↓zq,zs,ac,zt]
 refine⟨hhas,fun h=>?_,fun h=>?_⟩
 ·have hn:wA s=none:=by cases hq:wA s<;>simp[hq]at h |-
  unfold jL
  rw[hn]
  exact⟨c,d,hd,rfl,fun h=>by cases h⟩
 ·obtain⟨e,he,hce⟩:=hh h
  obtain⟨h1,h2,h3⟩:=pS he
  obtain⟨hok,hsz⟩:=nX h1
  have hce':=hce
  rw[dj]at hce'
  simp only[AV.agg.injEq,List.cons.injEq,AV.v.injEq,Value.string.injEq,and_true]at hce'
  obtain⟨hc1,rfl⟩:=hce'
  have hc2:=xE hc1
  subst hc2
  rw[<-dj]
  refine aX (En e [] [] _ hok h2 (.of []) (by simp;omega)) ?_
  have hfl:=gl e [] []
  simp only[↓zq,zs,ac]
  have hLS:=Ku e (kf e [] []) (by simp at hfl;omega) (kf e [] []).length 0 (by omega)
  simp only[be]at hLS
  unfold jL
  rw[he]
  refine fI hLS (fun ys o e'=>?_) (fun ys o e'=>?_)
  ·split at e'<;>cases e'
   rename_i hn
   simp only[↓zq,zs,ac,aY,if_neg hn]
   exact⟨e.at,e.sp,hd,rfl,fun _=>⟨e,rfl,(dj e).symm⟩⟩
  ·split at e'<;>cases e'
   rename_i hn
   simp only[↓zq,zs,ac,aY,if_pos hn]
   exact⟨e.at,e.sp,hd,rfl,fun h=>by cases h⟩
def mf(s v:List UInt8)(n:Int):Option Vl:=match jL s,sw v with
 |some e,some w=>if(0<=n/\n<=100)/\ff n.toNat w (e,[])=true then some w else none
 |_,_=>none
theorem ot{s v:List UInt8}{n:Int}{w:Vl}(h:mf s v n=some w):∃e t m,jL s=some e/\sw v=some w/\wT s=some t/\Ask e [] t/\n=(m:Nat)/\m<=100/\ff m w (e,[])=true:=by
 unfold mf at h
 split at h
 ·rename_i e w' he hw
  split at h
  ·rename_i hh
   cases h
   obtain⟨t,h1,h2,_⟩:=gZ he
   exact⟨e,t,n.toNat,he,hw,h1,h2,by omega,by omega,hh.2⟩
  ·cases h
 ·cases h
theorem Ho(s v:List UInt8)(n:Int):an Tryz.prog 71 [.v (.string (mk s)),.v (.string (mk v)),.v (.int .i64 n)] [] (bK (.cD [io (wT s),jb (mf s v n)])):=by
 refine Pa _ _ _ ?_
 unfold Mo
 refine aj (MO s) ?_
 simp only[↓zq,zs,ac,gD]
 refine aj (Pm v) ?_
 simp only[↓zq,zs,ac,gf,bK]
 unfold mf
 cases he:jL s with
 |none=>rw[ni he];cases sw v<;>simp[io,jb,↓zq,zs,ac]
 |
  some e =>
  obtain⟨t,h1,h2,h3,h4,h5,_⟩:=gZ he
  rw[h1]
  cases hv:sw v with
  |none=>simp only[io,jb,aF,fS,↓zq,zs,ac];exact⟨fun h=>(by cases h),fun _=>⟨fun _=>trivial,fun h=>(by cases h)⟩⟩
  |
   some w =>
   obtain⟨h6,h7,h8⟩:=lT hv
   simp only[io,jb,aF,fS,aN,fw,↓zq,zs,ac]
   refine⟨fun h=>(by cases h),fun _=>⟨fun h=>(by cases h),fun _=>⟨fun h=>?_,fun h=>⟨fun h'=>?_,fun h'=>?_⟩⟩⟩⟩
   ·rw[if_neg (by omega)]
   ·rw[if_neg (by omega)]
   ·obtain⟨m,rfl⟩:∃m:Nat,n=(m:Int):=⟨n.toNat,by omega⟩
    have hi:=Jz m (by omega) (w.nodes+1) w (by omega) h7 e [] t h2 (by simp;omega)
    unfold qe at hi
    refine aj hi ?_
    simp only[↓zq,zs,ac,bN]
    refine⟨fun hq=>?_,fun hq=>?_⟩
    ·rw[if_neg (by rw[hq];simp)]
    ·rw[if_pos ⟨by omega,hq⟩]
theorem Pj(s v:List UInt8)(n:Int):an Tryz.prog 39 [.v (.string (mk s)),.v (.string (mk v)),.v (.int .i64 n)] [] (bK (.v (.bool (mf s v n).isSome))):=by
 refine Pt _ _ _ ?_
 unfold ND
 refine aj (Ho s v n) ?_
 simp only[↓zq,zs,ac,gD,gf,bK]
 cases hv:mf s v n<;>simp[jb,i6,fw]
theorem z6(s v:List UInt8)(n:Int):an Tryz.prog 90 [.v (.string (mk s)),.v (.string (mk v)),.v (.int .i64 n)] [] (bK (.v (.bool (mf s v n).isSome))):=by
 refine QS _ _ _ ?_
 unfold JV
 refine aR (Hj s) (jN.ne _ _ (fun h=>h)) ?_
 rintro r o ⟨c,d,hd,rfl,hh⟩
 have hhas:bF [.str,.sl] [.v (.string (mk c)),d] 0:=by simp[bF,dY,hd]
 simp only[↓zq,zs,ac,zt]
 refine⟨hhas,?_⟩
 refine aR (Ds v) (jN.ne _ _ (fun h=>by cases hq:sw v<;>simp[hq]at h |-)) ?_
 rintro r o ⟨c',d',hd',rfl,hh'⟩
 have hhas':bF [.str,.sl] [.v (.string (mk c')),d'] 0:=by simp[bF,dY,hd']
 simp only[↓zq,zs,ac,zt,bK]
 refine⟨hhas',fun h=>⟨fun h2=>?_,fun h2=>?_⟩,fun h=>?_⟩
 ·obtain⟨e,he,hce⟩:=hh h
  obtain⟨t,h1,hA,h3,h4,h5,_⟩:=gZ he
  obtain⟨w,hw⟩:=bL.1 h2
  obtain⟨e2,he2,hce2⟩:=hh' h2
  rw[hw]at he2
  cases he2
  obtain⟨h6,h7,h8⟩:=lT hw
  refine aj (AN _ _ _) ?_
  simp only[↓zq,zs,ac,CM,mf,he,hw]
  refine⟨fun hq=>?_,fun hq=>?_⟩
  ·have hq':0<=n/\n<=100:=by simpa using hq
   obtain⟨m,rfl⟩:∃m:Nat,n=(m:Int):=⟨n.toNat,by omega⟩
   rw[hce,hce2]
   have:=P1 m (by omega) w h7 e [] t hA (by simp;omega)
   rw[show kb []=[] from rfl]at this
   refine aj this ?_
   simp only[↓zq,zs,ac,bN]
   by_cases hb:ff m w (e,[])=true
   ·rw[if_pos ⟨hq',hb⟩,hb];rfl
   ·rw[if_neg (fun h=>hb h.2)]
    rw[Bool.not_eq_true]at hb
    rw[hb];rfl
  ·have hq':¬(0<=n/\n<=100):=by simpa using hq
   rw[if_neg (fun h=>hq' h.1)];rfl
 ·have hn:sw v=none:=by cases hq:sw v<;>simp[hq]at h2 |-
  unfold mf
  rw[hn];cases jL s<;>rfl
 ·have hn:jL s=none:=by cases hq:jL s<;>simp[hq]at h |-
  unfold mf
  rw[hn];rfl
end Go.Proofs.Trees
namespace Go.Proofs.Trees
open Go Go.VL Go.RowKit
inductive Tg where
 |nm (s:List UInt8)
 |bd (k:Nat)
 deriving DecidableEq
def Tg.up:Tg->Tg
 | .nm s=>.nm s
 | .bd k=>.bd (k+1)
def eD:Ty->Tg->Bool
 | .name s,.nm s'=>decide (s=s')
 | .bT u,.bd k=>decide (u=k)
 |_,_=>false
abbrev Hl:=Vl×Vl
def iM(g:Vl->Vl)(l:List Hl):List Hl:=l.map fun h=>(g h.1,h.2)
def i7(f:Ty->Tg->Vl->List Hl)(tg:Tg):Ty->Vl->List Hl
 | .plus a _,.l w=>iM .l (f a tg w)
 | .plus _ b,.r w=>iM .r (f b tg w)
 | .times a b,.p x y=>iM (fun c=>.l (.p c y)) (f a tg x)++iM (fun c=>.r (.p x c)) (f b tg y)
 | .rc a,.f w=>iM (fun c=>.f (.l c)) (f a tg.up w)++(f a (.bd 0) w).flatMap fun h=>iM (fun c=>.f (.r (.p h.1 c))) (f (.rc a) tg h.2)
 |_,_=>[]
def dE:Nat->Ty->Tg->Vl->List Hl
 |0,_,_,_=>[]
 |n+1,t,tg,v=>if eD t tg=true then [(.u,v)]else i7 (dE n) tg t v
def stuck:Ty->Vl->Bool
 | .plus _ _,.l _=>false
 | .plus _ _,.r _=>false
 | .times _ _,.p _ _=>false
 | .rc _,.f _=>false
 |_,_=>true
def cm(t:Ty)(tg:Tg)(v:Vl):List Hl:=dE v.nodes t tg v
theorem cZ{g:Vl->Vl}{l:List Hl}{h:Hl}(hm:h∈iM g l):∃k,k∈l/\h=(g k.1,k.2):=by
 obtain⟨k,h1,h2⟩:=bO.1 hm
 exact⟨k,h1,h2.symm⟩
theorem iT{f g:Hl->List Hl}:∀{l:List Hl},(∀h,h∈l->f h=g h)->l.flatMap f=l.flatMap g
 |[],_=>rfl
 |h::l,hl=>by rw[List.flatMap_cons,List.flatMap_cons,hl h ak,iT (l:=l) fun k hk=>hl k (al _ hk)]
theorem fk:∀(n:Nat) (t:Ty) (tg:Tg) (v:Vl) (h:Hl),h∈dE n t tg v->h.2.nodes<=v.nodes/\h.1.nodes+4*h.2.nodes<=4*v.nodes+1
 |0,t,tg,v,h,hm=>by simp[dE]at hm
 |
  n+1,t,tg,v,h,hm=>by
  unfold dE at hm
  split at hm
  ·simp only[aS]at hm
   subst hm
   simp only[Vl.nodes];omega
  ·unfold i7 at hm
   split at hm
   ·obtain⟨k,h1,rfl⟩:=cZ hm
    have:=fk n _ _ _ k h1
    simp only[Vl.nodes];omega
   ·obtain⟨k,h1,rfl⟩:=cZ hm
    have:=fk n _ _ _ k h1
    simp only[Vl.nodes];omega
   ·rcases aO.1 hm with hm|hm
    ·obtain⟨k,h1,rfl⟩:=cZ hm
     have:=fk n _ _ _ k h1
     simp only[Vl.nodes];omega
    ·obtain⟨k,h1,rfl⟩:=cZ hm
     have:=fk n _ _ _ k h1
     simp only[Vl.nodes];omega
   ·rcases aO.1 hm with hm|hm
    ·obtain⟨k,h1,rfl⟩:=cZ hm
     have:=fk n _ _ _ k h1
     simp only[Vl.nodes];omega
    ·obtain⟨k,h1,h2⟩:=List.mem_flatMap.1 hm
     obtain⟨k2,h3,rfl⟩:=cZ h2
     have:=fk n _ _ _ k h1
     have:=fk n _ _ _ k2 h3
     simp only[Vl.nodes];omega
   ·simp at hm
theorem il:∀(n m:Nat) (t:Ty) (tg:Tg) (v:Vl),v.nodes<=n->v.nodes<=m->dE n t tg v=dE m t tg v
 |0,m,t,tg,v,h,_=>by have:=dw v;omega
 |n+1,0,t,tg,v,_,h=>by have:=dw v;omega
 |
  n+1,m+1,t,tg,v,hn,hm=>by
  rw[dE,dE]
  split
  ·rfl
  ·unfold i7
   split
   ·simp only[Vl.nodes]at hn hm;rw[il n m _ _ _ (by omega) (by omega)]
   ·simp only[Vl.nodes]at hn hm;rw[il n m _ _ _ (by omega) (by omega)]
   ·simp only[Vl.nodes]at hn hm;rw[il n m _ _ _ (by omega) (by omega),il n m _ _ _ (by omega) (by omega)]
   ·rename_i a w
    simp only[Vl.nodes]at hn hm;rw[il n m _ _ _ (by omega) (by omega),il n m _ (.bd 0) _ (by omega) (by omega)]
    congr 1
    apply iT
    intro h hh
    have:=(fk _ _ _ _ _ hh).1
    rw[il n m _ _ _ (by omega) (by omega)]
   ·rfl
theorem oX{n:Nat}(t:Ty)(tg:Tg){v:Vl}(h:v.nodes<=n):dE n t tg v=cm t tg v:=il _ _ _ _ _ h (au _)
theorem mI{t:Ty}{tg:Tg}(v:Vl)(h:eD t tg=true):cm t tg v=[(.u,v)]:=by
 have:=dw v
 unfold cm
 cases e:v.nodes with
 |zero=>omega
 |succ n=>rw[dE,if_pos h]
theorem nA(a b:Ty)(tg:Tg)(w:Vl):cm (.plus a b) tg (.l w)=iM .l (cm a tg w):=by
 unfold cm;rw[show (Vl.l w).nodes=w.nodes+1 by simp[Vl.nodes];omega,dE,if_neg (by simp[eD])];rfl
theorem nu(a b:Ty)(tg:Tg)(w:Vl):cm (.plus a b) tg (.r w)=iM .r (cm b tg w):=by
 unfold cm;rw[show (Vl.r w).nodes=w.nodes+1 by simp[Vl.nodes];omega,dE,if_neg (by simp[eD])];rfl
theorem nl(a b:Ty)(tg:Tg)(x y:Vl):cm (.times a b) tg (.p x y)=iM (fun c=>.l (.p c y)) (cm a tg x)++iM (fun c=>.r (.p x c)) (cm b tg y):=by
 rw[cm,show (Vl.p x y).nodes=(x.nodes+y.nodes)+1 by simp[Vl.nodes];omega,dE,if_neg (by simp[eD])]
 rw[i7,oX a tg (by omega),oX b tg (by omega)]
theorem nr(a:Ty)(tg:Tg)(w:Vl):cm (.rc a) tg (.f w)=iM (fun c=>.f (.l c)) (cm a tg.up w)++(cm a (.bd 0) w).flatMap fun h=>iM (fun c=>.f (.r (.p h.1 c))) (cm (.rc a) tg h.2):=by
 rw[cm,show (Vl.f w).nodes=w.nodes+1 by simp[Vl.nodes];omega,dE,if_neg (by simp[eD])]
 rw[i7,oX a tg.up (au _),oX a (.bd 0) (au _)]
 congr 1
 apply iT
 intro h hh
 have:=(fk _ _ _ _ _ hh).1
 rw[oX (.rc a) tg this]
theorem dU{t:Ty}{tg:Tg}{v:Vl}(h:eD t tg=false)(h2:stuck t v=true):cm t tg v=[]:=by
 unfold cm
 cases e:v.nodes with
 |zero=>rfl
 |
  succ n =>
  rw[dE,if_neg (by rw[h];simp)]
  unfold i7
  split<;>first|(simp[stuck]at h2;done)|rfl
theorem iE{t:Ty}{tg:Tg}{v:Vl}{h:Hl}(hm:h∈cm t tg v):h.2.nodes<=v.nodes/\h.1.nodes+4*h.2.nodes<=4*v.nodes+1:=fk _ _ _ _ _ hm
theorem hJ(n:Nat):∀(m:Nat) (t:Ty) (tg:Tg) (v:Vl) (h:Hl),v.ic n->h∈dE m t tg v->h.1.ic n/\h.2.ic n
 |0,t,tg,v,h,hv,hm=>by simp[dE]at hm
 |
  m+1,t,tg,v,h,hv,hm=>by
  unfold dE at hm
  split at hm
  ·simp only[aS]at hm
   subst hm
   exact⟨trivial,hv⟩
  ·unfold i7 at hm
   split at hm
   ·obtain⟨k,h1,rfl⟩:=cZ hm
    exact(fun q=>hJ n m _ _ _ k q h1) hv
   ·obtain⟨k,h1,rfl⟩:=cZ hm
    exact(fun q=>hJ n m _ _ _ k q h1) hv
   ·rcases aO.1 hm with hm|hm
    ·obtain⟨k,h1,rfl⟩:=cZ hm
     obtain⟨q1,q2⟩:=hJ n m _ _ _ k hv.1 h1
     exact⟨⟨q1,hv.2⟩,q2⟩
    ·obtain⟨k,h1,rfl⟩:=cZ hm
     obtain⟨q1,q2⟩:=hJ n m _ _ _ k hv.2 h1
     exact⟨⟨hv.1,q1⟩,q2⟩
   ·rcases aO.1 hm with hm|hm
    ·obtain⟨k,h1,rfl⟩:=cZ hm
     exact(fun q=>hJ n m _ _ _ k q h1) hv
    ·obtain⟨k,h1,h2⟩:=List.mem_flatMap.1 hm
     obtain⟨k2,h3,rfl⟩:=cZ h2
     obtain⟨q1,q2⟩:=(fun q=>hJ n m _ _ _ k q h1) hv
     obtain⟨q3,q4⟩:=hJ n m _ _ _ k2 q2 h3
     exact⟨⟨q1,q3⟩,q4⟩
   ·simp at hm
def lu(l:List Hl):Nat:=(l.map fun h=>h.2.nodes).sum
theorem rQ(l r:List Hl):lu (l++r)=lu l+lu r:=by simp[lu]
theorem oY(g:Vl->Vl)(l:List Hl):lu (iM g l)=lu l:=by simp[lu,iM,Function.comp_def]
def kL(f:Tg->Nat)(T:List Tg):Nat:=(T.map f).sum
theorem oI(f g:Tg->Nat):∀T:List Tg,kL (fun x=>f x+g x) T=kL f T+kL g T
 |[]=>rfl
 |x::T=>by have:=oI f g T;simp only[kL,bE,List.sum_cons]at this |-;omega
theorem yJ{f g:Tg->Nat}:∀{T:List Tg},(∀x,x∈T->f x<=g x)->kL f T<=kL g T
 |[],_=>au _
 |
  x::T,h=>by
  have:=yJ (T:=T) fun y hy=>h y (al _ hy)
  have:=h x ak
  simp only[kL,bE,List.sum_cons]at *;omega
theorem pI{f:Tg->Nat}:∀{T:List Tg},(∀x,x∈T->f x=0)->kL f T=0
 |[],_=>rfl
 |
  x::T,h=>by
  have:=pI (T:=T) fun y hy=>h y (al _ hy)
  have:=h x ak
  simp only[kL,bE,List.sum_cons]at *;omega
theorem tH(g:Hl->Tg->Nat)(T:List Tg):∀l:List Hl,kL (fun x=>(l.map fun h=>g h x).sum) T=(l.map fun h=>kL (g h) T).sum
 |[]=>pI fun _ _=>rfl
 |
  h::l=>by
  have:=tH g T l
  simp only[bE,List.sum_cons]
  rw[oI,this]
theorem sM(f:Hl->List Hl):∀l:List Hl,lu (l.flatMap f)=(l.map fun h=>lu (f h)).sum
 |[]=>rfl
 |h::l=>by rw[List.flatMap_cons,rQ,sM f l];simp
theorem B9{f g:Hl->Nat}:∀{l:List Hl},(∀x,x∈l->f x<=g x)->(l.map f).sum<=(l.map g).sum
 |[],_=>au _
 |
  x::l,h=>by
  have:=B9 (l:=l) fun y hy=>h y (al _ hy)
  have:=h x ak
  simp only[bE,List.sum_cons]at *;omega
theorem AW{t:Ty}{x y:Tg}(h:eD t x=true)(h':eD t y=true):x=y:=by
 cases t<;>cases x<;>cases y<;>simp[eD]at h h'<;>simp_all
theorem yG{t:Ty}(n:Nat):∀{T:List Tg},T.Nodup->kL (fun x=>if eD t x=true then n else 0) T<=n
 |[],_=>dQ _
 |
  x::T,h=>by
  obtain⟨h1,h2⟩:=List.nodup_cons.1 h
  have ih:=yG (t:=t) n h2
  by_cases hx:eD t x=true
  ·have:kL (fun x=>if eD t x=true then n else 0) T=0:=pI fun y hy=>by
    rw[if_neg fun hy'=>h1 (by rw[AW hx hy'];exact hy)]
   simp only[kL,bE,List.sum_cons]at *
   rw[if_pos hx];omega
  ·simp only[kL,bE,List.sum_cons]at *
   rw[if_neg hx];omega
theorem Bm{T:List Tg}(h:T.Nodup):(Tg.bd 0::T.map Tg.up).Nodup:=by
 refine List.nodup_cons.2 ⟨fun hm=>?_,?_⟩
 ·obtain⟨x,_,e⟩:=bO.1 hm
  cases x<;>simp[Tg.up]at e
 ·refine List.Pairwise.map _ (fun a b hab e=>hab ?_) h
  cases a<;>cases b<;>simp[Tg.up]at e<;>simp_all
theorem apart:∀(n:Nat) (v:Vl),v.nodes<=n->∀(t:Ty) (T:List Tg),T.Nodup->kL (fun x=>lu (cm t x v)) T<=v.nodes
 |0,v,h=>by have:=dw v;omega
 |
  n+1,v,hn=>by
  intro t T hT
  have base:∀(hno:∀x,eD t x=false->cm t x v=[]),kL (fun x=>lu (cm t x v)) T<=v.nodes:=fun hno=>by
   refine Nat.le_trans (yJ fun x _=>?_) (yG (t:=t) v.nodes hT)
   cases e:eD t x with
   |true=>rw[mI v e];simp[lu]
   |false=>rw[hno x e];simp[lu]
  cases hm:stuck t v with
  |true=>exact base fun x hx=>dU hx hm
  |
   false =>
   unfold stuck at hm
   split at hm
   ·rename_i a b w
    simp only[Vl.nodes]at hn |-
    simp only[nA,oY]
    have:=apart n w (by omega) a T hT
    omega
   ·rename_i a b w
    simp only[Vl.nodes]at hn |-
    simp only[nu,oY]
    have:=apart n w (by omega) b T hT
    omega
   ·rename_i a b x y
    simp only[Vl.nodes]at hn |-
    simp only[nl,rQ,oY]
    rw[oI]
    have:=apart n x (by omega) a T hT
    have:=apart n y (by omega) b T hT
    omega
   ·rename_i a w
    simp only[Vl.nodes]at hn |-
    simp only[nr,rQ,oY,sM]
    rw[oI,tH]
    have h1:=apart n w (by omega) a _ (Bm hT)
    simp only[kL,bE,List.sum_cons,List.map_map]at h1
    have h2:((cm a (.bd 0) w).map fun h=>kL (fun x=>lu (cm (.rc a) x h.2)) T).sum<=lu (cm a (.bd 0) w):=B9 fun h hh=>by
     have:=(iE hh).1
     exact apart n h.2 (by omega) (.rc a) T hT
    simp only[kL,Function.comp_def]at h1 h2 |-
    omega
   ·cases hm
theorem rG(t:Ty)(tg:Tg)(v:Vl):lu (cm t tg v)<=v.nodes:=by
 have:=apart v.nodes v (au _) t [tg] (by simp)
 simpa[kL]using this
theorem kV:∀l:List Hl,l.length<=lu l
 |[]=>dQ _
 |
  h::l=>by
  have:=kV l
  have:=dw h.2
  simp only[lu,bE,List.sum_cons,aA]at *;omega
theorem na(t:Ty)(tg:Tg)(v:Vl):(cm t tg v).length<=v.nodes:=Nat.le_trans (kV _) (rG t tg v)
end Go.Proofs.Trees
namespace Go.Proofs.Trees
open Go Go.VL Go.RowKit
def gu(ar:List (List UInt8))(k:Nat):List UInt8:=ar.getD (ar.length-1-k) []
theorem fM{s:List UInt8}{ar:List (List UInt8)}:∀(i u:Nat),i<=ar.length->bR s ar i=some u->u<ar.length/\gu ar u=s
 |0,u,_,h=>by cases h
 |
  i+1,u,hi,h=>by
  rw[bR]at h
  split at h
  ·rename_i e
   cases h
   refine⟨by omega,?_⟩
   rw[gu,show ar.length-1-(ar.length-1-i)=i by omega];exact e
  ·exact fM i u (by omega) h
def uV:Ty->Tg->Bool
 | .plus a b,tg=>uV a tg||uV b tg
 | .times a b,tg=>uV a tg||uV b tg
 | .rc a,tg=>uV a tg.up
 |t,tg=>eD t tg
theorem jd:∀(n:Nat) (v:Vl),v.nodes<=n->∀(t:Ty) (tg:Tg),uV t tg=false->cm t tg v=[]
 |0,v,h=>by have:=dw v;omega
 |
  n+1,v,hn=>by
  intro t tg ho
  cases hm:stuck t v with
  |
   true =>
   refine dU ?_ hm
   cases t<;>first|exact ho|rfl
  |
   false =>
   unfold stuck at hm
   split at hm
   ·simp only[Vl.nodes]at hn
    simp only[uV,cj]at ho
    rw[nA,jd n _ (by omega) _ _ ho.1];rfl
   ·simp only[Vl.nodes]at hn
    simp only[uV,cj]at ho
    rw[nu,jd n _ (by omega) _ _ ho.2];rfl
   ·simp only[Vl.nodes]at hn
    simp only[uV,cj]at ho
    rw[nl,jd n _ (by omega) _ _ ho.1,jd n _ (by omega) _ _ ho.2];rfl
   ·rename_i a w
    simp only[Vl.nodes]at hn
    have ho':uV a tg.up=false:=ho
    rw[nr,jd n _ (by omega) _ _ ho']
    have:(cm a (.bd 0) w).flatMap (fun h=>iM (fun c=>.f (.r (.p h.1 c))) (cm (.rc a) tg h.2))=(cm a (.bd 0) w).flatMap (fun _=>[]):=iT fun h hh=>by
     have:=(iE hh).1
     rw[jd n h.2 (by omega) (.rc a) tg ho];rfl
    rw[this]
    induction cm a (.bd 0) w<;>simp_all[iM]
   ·cases hm
theorem kN:∀(e:E) (ar:List (List UInt8)) (t:Ty) (k:Nat),cT e ar=some t->uV t (.bd k)=true->k<ar.length/\bR (gu ar k) ar ar.length=some k
 |
  .atom s,ar,t,k,ht,ho=>by
  simp only[cT]at ht
  split at ht
  ·cases ht;cases ho
  ·split at ht
   ·cases ht;cases ho
   ·split at ht
    ·cases ht;cases ho
    ·split at ht
     ·split at ht
      ·rename_i u hu
       cases ht
       have:u=k:=by simpa[uV,eD]using ho
       subst this
       obtain⟨h1,h2⟩:=fM _ _ (au _) hu
       exact⟨h1,by rw[h2];exact hu⟩
      ·cases ht;cases ho
     ·cases ht
 |
  .list [x,a,b],ar,t,k,ht,ho=>by
  by_cases h0:x.at=[43]
  ·obtain⟨t1,t2,h1,h2,rfl⟩:=fQ h0 ht
   simp only[uV,bC]at ho
   rcases ho with ho|ho
   ·exact kN a ar t1 k h1 ho
   ·exact kN b ar t2 k h2 ho
  ·by_cases h1:x.at=[42]
   ·obtain⟨t1,t2,h1,h2,rfl⟩:=fp h1 ht
    simp only[uV,bC]at ho
    rcases ho with ho|ho
    ·exact kN a ar t1 k h1 ho
    ·exact kN b ar t2 k h2 ho
   ·by_cases h2:x.at=[114,101,99]
    ·obtain⟨t1,_,h3,rfl⟩:=dB h2 ht
     obtain⟨q1,q2⟩:=kN b (ar++[a.at]) t1 (k+1) h3 ho
     simp only[aq,aA,aH]at q1
     have hk:k<ar.length:=by omega
     have e:gu (ar++[a.at]) (k+1)=gu ar k:=by
      unfold gu
      rw[aq,show ar.length+[a.at].length-1-(k+1)=ar.length-1-k by simp;omega]
      simp[aa,List.getElem?_append_left (show ar.length-1-k<ar.length by omega)]
     rw[e]at q2
     refine⟨hk,?_⟩
     have e2:(ar++[a.at]).length=ar.length+1:=by simp
     rw[e2,bR]at q2
     split at q2
     ·rw[e2]at q2;simp at q2
     ·rw[km _ _ _ _ (au _)]at q2
      cases hq:bR (gu ar k) ar ar.length with
      |none=>rw[hq]at q2;cases q2
      |some u=>rw[hq]at q2;simpa using q2
    ·rw[jq _ h0 h1 h2]at ht;cases ht
 | .list [],ar,t,k,ht,ho=>by cases ht
 | .list [_],ar,t,k,ht,ho=>by cases ht
 | .list [_,_],ar,t,k,ht,ho=>by cases ht
 | .list (_::_::_::_::_),ar,t,k,ht,ho=>by cases ht
theorem fA(w:List UInt8)(ar:List (List UInt8)):bR w (ar++[w]) (ar++[w]).length=some 0:=by
 have e2:(ar++[w]).length=ar.length+1:=by simp
 rw[e2,bR,if_pos (by simp[aa]),e2];simp
theorem jK{s w:List UInt8}(ar:List (List UInt8))(h:w≠s):bR s (ar++[w]) (ar++[w]).length=(bR s ar ar.length).map (·+1):=by
 have e2:(ar++[w]).length=ar.length+1:=by simp
 rw[e2,bR,if_neg (by simpa[aa]using h),km _ _ _ _ (au _)]
theorem Ha{b:E}{ar:List (List UInt8)}{w:List UInt8}{t:Ty}{k:Nat}(hb:cT b (ar++[w])=some t)(hk:bR w ar ar.length=some k):uV t (.bd (k+1))=false:=by
 cases h:uV t (.bd (k+1))with
 |false=>rfl
 |
  true =>
  obtain⟨_,q2⟩:=kN _ _ _ _ hb h
  obtain⟨h1,h2⟩:=fM _ _ (au _) hk
  have e:gu (ar++[w]) (k+1)=gu ar k:=by
   unfold gu
   rw[aq,show ar.length+[w].length-1-(k+1)=ar.length-1-k by simp;omega]
   simp[aa,List.getElem?_append_left (show ar.length-1-k<ar.length by omega)]
  rw[e,h2,fA]at q2
  cases q2
def oV(s:List UInt8)(ar:List (List UInt8)):Tg:=match bR s ar ar.length with|some u=>.bd u|none=>.nm s
theorem vH(w:List UInt8)(ar:List (List UInt8)):oV w (ar++[w])=.bd 0:=by rw[oV,fA]
theorem zm{s w:List UInt8}(ar:List (List UInt8))(h:w≠s):oV s (ar++[w])=(oV s ar).up:=by
 rw[oV,oV,jK ar h]
 cases bR s ar ar.length<;>rfl
theorem iB(n:Nat):∀(m:Nat) (v:Vl),v.nodes<=m->∀(e:E) (env:List Fr) (t:Ty),Ask e env t->ff n v (e,env)=true->∀(k:Nat) (f:Fr),env[k]?=some f->∀h,h∈cm t (.bd k) v->ff n h.2 (f.ex,f.out)=true
 |0,v,hm=>by have:=dw v;omega
 |
  m+1,v,hm=>by
  intro e env t A hv k f hf h hh
  rcases gC A.wf A.ty with⟨hb,hq⟩|⟨u,g,rfl,hq,hu⟩
  ·have hhd:hd e env=(e,env):=kl hq
   rcases fP A.ty hb A.cl with⟨rfl,rfl⟩|⟨rfl,rfl⟩|⟨s,rfl,rfl,hp,h0,h1⟩|⟨x,a,b,t1,t2,rfl,hx,rfl,ha,hbb⟩|⟨x,a,b,t1,t2,rfl,hx,rfl,ha,hbb⟩|⟨x,a,b,t1,rfl,hx,rfl⟩
   ·rw[dU rfl (by cases v<;>rfl)]at hh;cases hh
   ·rw[dU rfl (by cases v<;>rfl)]at hh;cases hh
   ·rw[dU rfl (by cases v<;>rfl)]at hh;cases hh
   ·obtain⟨ok1,ok2,ok3,_⟩:=A.ok
    obtain⟨f1,f2⟩:=fB A.cl
    cases v with
    |
     l w =>
     simp only[ff,hhd,hx,beq_self_eq_true,bY]at hv
     simp only[Vl.nodes]at hm
     rw[nA]at hh
     obtain⟨h2,h3,rfl⟩:=cZ hh
     exact iB n m w (by omega) a env t1 ⟨ok2,A.wf,ha,f1⟩ hv k f hf h2 h3
    |
     r w =>
     simp only[ff,hhd,hx,beq_self_eq_true,bY]at hv
     simp only[Vl.nodes]at hm
     rw[nu]at hh
     obtain⟨h2,h3,rfl⟩:=cZ hh
     exact iB n m w (by omega) b env t2 ⟨ok3,A.wf,hbb,f2⟩ hv k f hf h2 h3
    |_=>rw[dU rfl rfl]at hh;cases hh
   ·obtain⟨ok1,ok2,ok3,_⟩:=A.ok
    obtain⟨f1,f2⟩:=eY A.cl
    cases v with
    |
     p w w' =>
     simp only[ff,hhd,hx,beq_self_eq_true,bY,az]at hv
     simp only[Vl.nodes]at hm
     rw[nl]at hh
     rcases aO.1 hh with hh|hh
     ·obtain⟨h2,h3,rfl⟩:=cZ hh
      exact iB n m w (by omega) a env t1 ⟨ok2,A.wf,ha,f1⟩ hv.1 k f hf h2 h3
     ·obtain⟨h2,h3,rfl⟩:=cZ hh
      exact iB n m w' (by omega) b env t2 ⟨ok3,A.wf,hbb,f2⟩ hv.2 k f hf h2 h3
    |_=>rw[dU rfl rfl]at hh;cases hh
   ·obtain⟨t1',he1,h1,f1,hw1⟩:=jz A.wf A.ok hx A.ty A.cl
    cases he1
    obtain⟨ok1,ok2,ok3,_⟩:=A.ok
    cases v with
    |
     f w =>
     simp only[ff,hhd,hx,beq_self_eq_true,bY]at hv
     simp only[Vl.nodes]at hm
     rw[nr]at hh
     have A':Ask b (.mk a.at (.list [x,a,b]) env::env) t1:=⟨ok3,hw1,h1,f1⟩
     rcases aO.1 hh with hh|hh
     ·obtain⟨h2,h3,rfl⟩:=cZ hh
      exact iB n m w (by omega) b _ t1 A' hv (k+1) f (by simpa using hf) h2 h3
     ·obtain⟨kd,h2,h3⟩:=List.mem_flatMap.1 hh
      obtain⟨h4,h5,rfl⟩:=cZ h3
      have hkd:=iB n m w (by omega) b _ t1 A' hv 0 _ rfl kd h2
      have:=(iE h2).1
      exact iB n m kd.2 (by omega) (.list [x,a,b]) env _ A hkd k f hf h4 h5
    |_=>rw[dU rfl rfl]at hh;cases hh
  ·by_cases huk:u=k
   ·subst huk
    rw[hu]at hf;cases hf
    rw[mI v (by simp[eD])]at hh
    simp only[aS]at hh
    subst hh
    obtain⟨x,a,b,t',hfe,hok,hx,ht',hf',hwf,hlt⟩:=oK A.wf hq
    rw[<-uE n v (qU hq) (by rw[hfe];exact pP hwf)];exact hv
   ·rw[dU (by simpa[eD]using huk) (by cases v<;>rfl)]at hh;cases hh
end Go.Proofs.Trees
namespace Go.Proofs.Trees
open Go Go.VL Go.RowKit
def cS:E->List Nm->Ty
 | .atom s,ar=>if s=[48]then .zero else if s=[49]then .one else match bR s ar ar.length with|some u=>.bT u|none=>.name s
 | .list [x,a,b],ar=>if x.at=[43]then .plus (cS a ar) (cS b ar)else if x.at=[42]then .times (cS a ar) (cS b ar)else .rc (cS b (ar++[a.at]))
 | .list _,_=>.zero
def qM(s:Nm):Prop:=s≠[]/\s≠[48]/\s≠[49]
inductive Wf:E->Prop
 |atom {s} (h:s≠[]):Wf (.atom s)
 |plus {a b} (ha:Wf a) (hb:Wf b):Wf (.list [.atom [43],a,b])
 |times {a b} (ha:Wf a) (hb:Wf b):Wf (.list [.atom [42],a,b])
 |rc {n b} (hn:qM n) (hb:Wf b):Wf (.list [.atom [114,101,99],.atom n,b])
theorem dM(a b:E)(ar:List Nm):cS (.list [.atom [43],a,b]) ar=.plus (cS a ar) (cS b ar):=by rw[cS,if_pos (show (E.atom [43]).at=[43] from rfl)]
theorem du(a b:E)(ar:List Nm):cS (.list [.atom [42],a,b]) ar=.times (cS a ar) (cS b ar):=by rw[cS,if_neg (by decide),if_pos (show (E.atom [42]).at=[42] from rfl)]
theorem fq(a b:E)(ar:List Nm):cS (.list [.atom [114,101,99],a,b]) ar=.rc (cS b (ar++[a.at])):=by rw[cS,if_neg (by decide),if_neg (by decide)]
theorem Wf.ok{e:E}(h:Wf e):e.ok:=by
 induction h with
 |atom h=>exact h
 |plus ha hb i1 i2=>exact⟨by simp[E.ok],i1,i2,trivial⟩
 |times ha hb i1 i2=>exact⟨by simp[E.ok],i1,i2,trivial⟩
 |rc hn hb i=>exact⟨by simp[E.ok],hn.1,i,trivial⟩
theorem Wf.dc{e:E}(h:Wf e):∀ar,e.dc=(cS e ar).aE:=by
 induction h with
 |
  @atom s h =>
  intro ar
  simp only[E.dc,cS]
  split
  ·rfl
  ·split
   ·rfl
   ·split<;>rfl
 |plus ha hb i1 i2=>intro ar;rw[dM];simp only[E.dc,E.eZ,Ty.aE,<-i1 ar,<-i2 ar];omega
 |times ha hb i1 i2=>intro ar;rw[du];simp only[E.dc,E.eZ,Ty.aE,<-i1 ar,<-i2 ar];omega
 |@rc n b hn hb i=>intro ar;rw[fq];simp only[E.dc,E.eZ,Ty.aE,<-i];omega
theorem Wf.sz{e:E}(h:Wf e):e.sz<=3*e.dc:=by
 induction h with
 |atom h=>simp[E.sz,E.dc]
 |plus ha hb i1 i2=>simp only[E.sz,E.jv,E.dc,E.eZ];omega
 |times ha hb i1 i2=>simp only[E.sz,E.jv,E.dc,E.eZ];omega
 |rc hn hb i=>simp only[E.sz,E.jv,E.dc,E.eZ];omega
theorem kq:∀(e:E) (ar:List Nm) (t:Ty),e.ok->(∀w,w∈ar->dk w=true)->cT e ar=some t->Wf e/\cS e ar=t
 |
  .atom s,ar,t,hok,hl,ht=>by
  refine⟨.atom hok,?_⟩
  simp only[cT,cS]at ht |-
  split at ht
  ·rename_i h;rw[if_pos h];simpa using ht
  ·rename_i h;rw[if_neg h]
   split at ht
   ·rename_i h1;rw[if_pos h1];simpa using ht
   ·rename_i h1;rw[if_neg h1]
    split at ht
    ·rename_i hp
     cases q:bR s ar ar.length with
     |none=>simpa using ht
     |
      some u =>
      obtain⟨h1,h2⟩:=fM _ _ (au _) q
      have:=hl (gu ar u) (by
       unfold gu
       have:ar.length-1-u<ar.length:=by omega
       simp[aa,this])
      rw[h2,kA hp]at this;cases this
    ·split at ht
     ·split at ht<;>rename_i q<;>rw[q]<;>simpa using ht
     ·cases ht
 |
  .list [x,a,b],ar,t,hok,hl,ht=>by
  obtain⟨ok1,ok2,ok3,_⟩:=hok
  by_cases h0:x.at=[43]
  ·obtain⟨t1,t2,h1,h2,rfl⟩:=fQ h0 ht
   obtain rfl:=ko h0 (by simp)
   obtain⟨w1,e1⟩:=kq a ar t1 ok2 hl h1
   obtain⟨w2,e2⟩:=kq b ar t2 ok3 hl h2
   exact⟨.plus w1 w2,by rw[dM,e1,e2]⟩
  ·by_cases h1:x.at=[42]
   ·obtain⟨t1,t2,h2,h3,rfl⟩:=fp h1 ht
    obtain rfl:=ko h1 (by simp)
    obtain⟨w1,e1⟩:=kq a ar t1 ok2 hl h2
    obtain⟨w2,e2⟩:=kq b ar t2 ok3 hl h3
    exact⟨.times w1 w2,by rw[du,e1,e2]⟩
   ·by_cases h2:x.at=[114,101,99]
    ·obtain⟨t1,hla,h3,rfl⟩:=dB h2 ht
     obtain rfl:=ko h2 (by simp)
     have hne:a.at≠[]:=by intro e;rw[e]at hla;cases hla
     have ha:a=.atom a.at:=ko rfl hne
     obtain⟨w1,e1⟩:=kq b (ar++[a.at]) t1 ok3 (fun w hw=>by
      rcases aO.1 hw with hw|hw
      ·exact hl w hw
      ·simp only[aS]at hw;rw[hw];exact hla) h3
     have hN:qM a.at:=⟨hne,fun e=>by rw[e]at hla;revert hla;decide,fun e=>by rw[e]at hla;revert hla;decide⟩
     refine⟨?_,by rw[fq,e1]⟩
     rw[ha];exact .rc hN w1
    ·rw[jq _ h0 h1 h2]at ht;cases ht
 | .list [],ar,t,_,_,ht=>by cases ht
 | .list [_],ar,t,_,_,ht=>by cases ht
 | .list [_,_],ar,t,_,_,ht=>by cases ht
 | .list (_::_::_::_::_),ar,t,_,_,ht=>by cases ht
theorem fG(s:Nm)(ar:List Nm):bR s ar ar.length=none↔s∉ar:=by
 have:=mT s ar ar.length (au _)
 rwa[List.take_length]at this
theorem oh(s:Nm)(ar:List Nm):∀(n:Nat) (br:List Nm),br.length=n->bR s (ar++br) (ar++br).length=match bR s br br.length with|some u=>some u|none=>(bR s ar ar.length).map (·+br.length)
 |
  0,br,h=>by
  obtain rfl:=bG h
  rw[cY]
  cases h:bR s ar ar.length<;>simp[bR]
 |
  n+1,br,h=>by
  obtain⟨b2,w,rfl⟩:∃b2 w,br=b2++[w]:=⟨br.dropLast,br.getLast (by intro e;rw[e]at h;cases h),(List.dropLast_concat_getLast _).symm⟩
  rw[<-bb]
  by_cases hw:w=s
  ·subst hw;rw[fA,fA]
  ·rw[jK _ hw,jK _ hw,oh s ar n b2 (by simpa using h)]
   cases bR s b2 b2.length with
   |some u=>rfl
   |
    none =>
    cases bR s ar ar.length with
    |none=>rfl
    |some u=>simp only[Option.map_none,ci,aq,aA,aH];congr 1
theorem ub(ar:List Nm){e:E}(h:Wf e):∀br,(∀y,bn y (cS e br)=true->y∉ar)->cS e (ar++br)=cS e br:=by
 induction h with
 |
  @atom s h =>
  intro br hy
  simp only[cS]at hy |-
  split
  ·rfl
  ·rename_i h0
   split
   ·rfl
   ·rename_i h1
    rw[if_neg h0,if_neg h1]at hy
    rw[oh s ar _ br rfl]
    cases q:bR s br br.length with
    |some u=>rfl
    |
     none =>
     rw[q]at hy
     have:=(fG s ar).2 (hy s (by simp[bn]))
     rw[this];rfl
 |
  plus ha hb i1 i2 =>
  intro br hy
  rw[dM]at hy |-
  rw[dM,i1 br fun y h=>hy y (by simp[bn,h]),i2 br fun y h=>hy y (by simp[bn,h])]
 |
  times ha hb i1 i2 =>
  intro br hy
  rw[du]at hy |-
  rw[du,i1 br fun y h=>hy y (by simp[bn,h]),i2 br fun y h=>hy y (by simp[bn,h])]
 |
  @rc n b hn hb i =>
  intro br hy
  rw[fq]at hy |-
  rw[fq,bb,i _ hy]
theorem zb(x:Nm){e:E}(h:Wf e):∀ar,cS e ar=dA (.name x) (cS e ([x]++ar)) ar.length:=by
 induction h with
 |
  @atom s h =>
  intro ar
  simp only[cS]
  split
  ·rfl
  ·split
   ·rfl
   ·rw[oh s [x] _ ar rfl]
    cases q:bR s ar ar.length with
    |
     some u =>
     have:=(fM _ _ (au _) q).1
     simp only[dA];rw[if_neg (by omega)]
    |
     none =>
     by_cases hx:x=s
     ·subst hx
      have:bR x [x] [x].length=some 0:=fA x []
      rw[this];simp[dA]
     ·have:bR s [x] [x].length=none:=(fG s [x]).2 (by simpa using fun e=>hx e.symm)
      rw[this];rfl
 |plus ha hb i1 i2=>intro ar;rw[dM,dM,dA,<-i1 ar,<-i2 ar]
 |times ha hb i1 i2=>intro ar;rw[du,du,dA,<-i1 ar,<-i2 ar]
 |
  @rc n b hn hb i =>
  intro ar
  rw[fq,fq,dA,i (ar++[E.at (.atom n)]),bb]
  simp
theorem nw{e:E}(h:Wf e):∀ar y,bn y (cS e ar)=true->qM y/\y∉ar:=by
 induction h with
 |
  @atom s h =>
  intro ar y hy
  simp only[cS]at hy
  split at hy
  ·cases hy
  ·rename_i h0
   split at hy
   ·cases hy
   ·rename_i h1
    split at hy
    ·cases hy
    ·rename_i q
     simp only[bn,decide_eq_true_eq]at hy
     subst hy
     exact⟨⟨h,h0,h1⟩,(fG _ _).1 q⟩
 |
  plus ha hb i1 i2 =>
  intro ar y hy
  rw[dM]at hy
  simp only[bn,bC]at hy
  rcases hy with hy|hy
  ·exact i1 ar y hy
  ·exact i2 ar y hy
 |
  times ha hb i1 i2 =>
  intro ar y hy
  rw[du]at hy
  simp only[bn,bC]at hy
  rcases hy with hy|hy
  ·exact i1 ar y hy
  ·exact i2 ar y hy
 |
  rc hn hb i =>
  intro ar y hy
  rw[fq]at hy
  obtain⟨h1,h2⟩:=i _ y hy
  exact⟨h1,fun h=>h2 (aD _ h)⟩
theorem lE{e:E}(h:Wf e):∀(bd l:List Nm) (y:Nm),y∈kf e bd l↔y∈l\/bn y (cS e bd)=true:=by
 induction h with
 |
  @atom s h =>
  intro bd l y
  simp only[kf,cS]
  by_cases h0:s=[48]
  ·simp[h0,bn]
  ·by_cases h1:s=[49]
   ·simp[h1,bn]
   ·rw[if_neg h0,if_neg h1]
    by_cases h2:s∈bd
    ·cases q:bR s bd bd.length with
     |none=>exact absurd h2 ((fG _ _).1 q)
     |some u=>simp[h2,bn]
    ·rw[(fG _ _).2 h2]
     simp only[h0,h1,h2,false_or,bn,decide_eq_true_eq]
     by_cases h3:s∈l
     ·simp only[h3,if_true]
      exact⟨fun h=>.inl h,fun h=>by rcases h with h|rfl<;>assumption⟩
     ·simp only[h3,if_false,aO,aS,eq_comm]
 |
  plus ha hb i1 i2 =>
  intro bd l y
  rw[kf,if_neg (by decide),dM,i2,i1]
  simp[bn,or_assoc]
 |
  times ha hb i1 i2 =>
  intro bd l y
  rw[kf,if_neg (by decide),du,i2,i1]
  simp[bn,or_assoc]
 |
  rc hn hb i =>
  intro bd l y
  rw[kf,if_pos (show (E.atom [114,101,99]).at=[114,101,99] from rfl),fq,i]
  rfl
theorem eU:∀(t:Ty) (out:List Nm) (y:Nm),y∈bQ t out↔y∈out\/bn y t=true
 |
  .name s,out,y=>by
  simp only[bQ,pR,bn,decide_eq_true_eq]
  split
  ·rename_i h;exact⟨fun h=>.inl h,fun h'=>by rcases h' with h'|rfl<;>assumption⟩
  ·simp[eq_comm]
 | .plus a b,out,y=>by rw[bQ,eU b,eU a];simp[bn,or_assoc]
 | .times a b,out,y=>by rw[bQ,eU b,eU a];simp[bn,or_assoc]
 | .rc a,out,y=>by rw[bQ,eU a];rfl
 | .zero,out,y=>by simp[bQ,bn]
 | .one,out,y=>by simp[bQ,bn]
 | .bT k,out,y=>by simp[bQ,bn]
end Go.Proofs.Trees
namespace Go.Proofs.Trees
open Go Go.VL Go.RowKit
abbrev dF:Nm:=[114,101,99]
theorem dT(s:Nm):(E.atom s).at=s:=rfl
def so(x:Nm)(u:E):E->E
 | .atom s=>if s=x then u else .atom s
 | .list [h,a,b]=>if h.at=dF then(if a.at=x then .list [h,a,b]else .list [.atom dF,a,so x u b])else .list [.atom h.at,so x u a,so x u b]
 | .list l=>.list l
def mY(x:Nm):E->Nat
 | .atom s=>if s=x then 1 else 0
 | .list [h,a,b]=>if h.at=dF then(if a.at=x then 0 else mY x b)else mY x a+mY x b
 | .list _=>0
def uc(p:Nm->Prop):E->Prop
 | .atom _=>True
 | .list [h,a,b]=>(if h.at=dF then p a.at else uc p a)/\uc p b
 | .list _=>True
def fF(x:Nm):Ty->Nat
 | .name s=>if s=x then 1 else 0
 | .plus a b=>fF x a+fF x b
 | .times a b=>fF x a+fF x b
 | .rc a=>fF x a
 |_=>0
theorem wu(x:Nm)(u a b:E):so x u (.list [.atom [43],a,b])=.list [.atom [43],so x u a,so x u b]:=by rw[so,if_neg (by decide)];rfl
theorem tB(x:Nm)(u a b:E):so x u (.list [.atom [42],a,b])=.list [.atom [42],so x u a,so x u b]:=by rw[so,if_neg (by decide)];rfl
theorem CC(x:Nm)(u:E)(n:Nm)(b:E):so x u (.list [.atom dF,.atom n,b])=if n=x then .list [.atom dF,.atom n,b]else .list [.atom dF,.atom n,so x u b]:=by rw[so,if_pos (dT _)];rfl
theorem sk(x:Nm)(a b:E):mY x (.list [.atom [43],a,b])=mY x a+mY x b:=by rw[mY,if_neg (by decide)]
theorem pU(x:Nm)(a b:E):mY x (.list [.atom [42],a,b])=mY x a+mY x b:=by rw[mY,if_neg (by decide)]
theorem wG(x:Nm)(n:Nm)(b:E):mY x (.list [.atom dF,.atom n,b])=if n=x then 0 else mY x b:=by rw[mY,if_pos (dT _)];rfl
theorem oD(p:Nm->Prop)(a b:E):uc p (.list [.atom [43],a,b])↔uc p a/\uc p b:=by rw[uc,if_neg (by decide)]
theorem nn(p:Nm->Prop)(a b:E):uc p (.list [.atom [42],a,b])↔uc p a/\uc p b:=by rw[uc,if_neg (by decide)]
theorem uC(p:Nm->Prop)(n:Nm)(b:E):uc p (.list [.atom dF,.atom n,b])↔p n/\uc p b:=by rw[uc,if_pos (dT _)];rfl
theorem A7{p q:Nm->Prop}(h:∀n,p n->q n){e:E}(hw:Wf e):uc p e->uc q e:=by
 induction hw with
 |atom _=>exact fun _=>trivial
 |plus _ _ i1 i2=>rw[oD,oD];exact fun g=>⟨i1 g.1,i2 g.2⟩
 |times _ _ i1 i2=>rw[nn,nn];exact fun g=>⟨i1 g.1,i2 g.2⟩
 |rc _ _ i=>rw[uC,uC];exact fun g=>⟨h _ g.1,i g.2⟩
theorem jn{s:Nm}(hs:qM s){ar:List Nm}(h:s∉ar):cS (.atom s) ar=.name s:=by
 simp only[cS];rw[if_neg hs.2.1,if_neg hs.2.2,(fG s ar).2 h]
theorem DV{x:Nm}(hx:qM x){u:E}(hu:Wf u){e:E}(h:Wf e):uc (fun n=>n≠x/\bn n (cS u [])=false) e->∀ar,x∉ar->(∀y,y∈ar->bn y (cS u [])=false)->Wf (so x u e)/\cS (so x u e) ar=sub x (cS u []) (cS e ar):=by
 induction h with
 |
  @atom s hs =>
  intro _ ar har hy
  by_cases e:s=x
  ·subst e
   have:cS u (ar++[])=cS u []:=ub ar hu [] fun y hy' hm=>by rw[hy y hm]at hy';cases hy'
   rw[cY]at this
   rw[jn hx har]
   simp only[so,sub,if_true]
   exact⟨hu,this⟩
  ·simp only[so,if_neg e]
   refine⟨.atom hs,?_⟩
   simp only[cS]
   split
   ·rfl
   ·split
    ·rfl
    ·split
     ·rfl
     ·simp only[sub,if_neg e]
 |
  plus ha hb i1 i2 =>
  intro hap ar har hy
  rw[oD]at hap
  obtain⟨w1,e1⟩:=i1 hap.1 ar har hy
  obtain⟨w2,e2⟩:=i2 hap.2 ar har hy
  rw[wu,dM,dM,e1,e2]
  exact⟨.plus w1 w2,rfl⟩
 |
  times ha hb i1 i2 =>
  intro hap ar har hy
  rw[nn]at hap
  obtain⟨w1,e1⟩:=i1 hap.1 ar har hy
  obtain⟨w2,e2⟩:=i2 hap.2 ar har hy
  rw[tB,du,du,e1,e2]
  exact⟨.times w1 w2,rfl⟩
 |
  @rc n b hn hb i =>
  intro hap ar har hy
  rw[uC]at hap
  obtain⟨w1,e1⟩:=i hap.2 (ar++[n]) (by
   simp only[aO,aS]
   rintro(h|h)
   ·exact har h
   ·exact hap.1.1 h.symm) (fun y hm=>by
   simp only[aO,aS]at hm
   rcases hm with hm|rfl
   ·exact hy y hm
   ·exact hap.1.2)
  rw[CC,if_neg hap.1.1,fq,fq]
  refine⟨.rc hn w1,?_⟩
  show Ty.rc (cS (so x u b) (ar++[n]))=_
  rw[e1];rfl
theorem C8{x:Nm}(hx:qM x){e:E}(h:Wf e):∀ar,fF x (cS e ar)=if x∈ar then 0 else mY x e:=by
 induction h with
 |
  @atom s hs =>
  intro ar
  by_cases e:s=x
  ·subst e
   by_cases hm:s∈ar
   ·rw[if_pos hm]
    simp only[cS];rw[if_neg hx.2.1,if_neg hx.2.2]
    cases q:bR s ar ar.length with
    |none=>exact absurd hm ((fG _ _).1 q)
    |some u=>rfl
   ·rw[if_neg hm,jn hx hm];simp[fF,mY]
  ·have:fF x (cS (.atom s) ar)=0:=by
    simp only[cS]
    split
    ·rfl
    ·split
     ·rfl
     ·split
      ·rfl
      ·simp[fF,e]
   rw[this];simp[mY,e]
 |plus ha hb i1 i2=>intro ar;rw[dM,sk,fF,i1,i2];split<;>simp
 |times ha hb i1 i2=>intro ar;rw[du,pU,fF,i1,i2];split<;>simp
 |
  @rc n b hn hb i =>
  intro ar
  rw[fq,wG,fF,i]
  simp only[dT,aO,aS]
  by_cases h1:x∈ar
  ·simp[h1]
  ·by_cases h2:x=n
   ·simp[h2]
   ·simp[h1,h2,Ne.symm h2]
theorem dX(x:Nm)(u:Ty):∀t:Ty,(sub x u t).aE+fF x t=t.aE+fF x t*u.aE
 | .name s=>by simp only[sub,fF];split<;>simp[Ty.aE];omega
 | .plus a b=>by have:=dX x u a;have:=dX x u b;simp only[sub,Ty.aE,fF,Nat.add_mul];omega
 | .times a b=>by have:=dX x u a;have:=dX x u b;simp only[sub,Ty.aE,fF,Nat.add_mul];omega
 | .rc a=>by have:=dX x u a;simp only[sub,Ty.aE,fF];omega
 | .zero=>by simp[sub,fF]
 | .one=>by simp[sub,fF]
 | .bT k=>by simp[sub,fF]
abbrev tN(m:Nat):Nm:=116::dd m
theorem EV(m:Nat):dd m≠[]:=by
 by_cases h:m<10
 ·rw[eK h];simp
 ·rw[fU h];simp
theorem w8:∀(n m k:Nat),m<n->dd m=dd k->m=k
 |0,m,k,h,_=>by omega
 |
  n+1,m,k,h,e=>by
  have d10:∀{a b:Nat},a<10->b<10->bj (48+a)=bj (48+b)->a=b:=fun {a b} ha hb h=>by
   have:=congrArg UInt8.toNat h
   simp only[UInt8.toNat_ofNat']at this
   omega
  by_cases h1:m<10<;>by_cases h2:k<10
  ·rw[eK h1,eK h2]at e
   simp only[List.cons.injEq,and_true]at e
   exact d10 h1 h2 e
  ·rw[eK h1,fU h2]at e
   have:=congrArg List.length e
   have:dd (k/10)=[]:=by
    apply bG
    simp at this;simpa using this
   exact absurd this (EV _)
  ·rw[fU h1,eK h2]at e
   have:=congrArg List.length e
   have:dd (m/10)=[]:=by
    apply bG
    simp at this;simpa using this
   exact absurd this (EV _)
  ·rw[fU h1,fU h2]at e
   obtain⟨e1,e2⟩:=List.append_inj' e rfl
   have:=w8 n (m/10) (k/10) (by omega) e1
   simp only[List.cons.injEq,and_true]at e2
   have:=d10 (Nat.mod_lt _ (by omega)) (Nat.mod_lt _ (by omega)) e2
   omega
theorem BU{m k:Nat}(h:tN m=tN k):m=k:=w8 (m+1) m k (by omega) (List.cons.inj h).2
theorem yx(m:Nat):qM (tN m):=⟨by simp,by simp,by simp⟩
theorem SU:∀(l F:List Nm),l.Nodup->(∀x,x∈l->x∈F)->l.length<=F.length
 |[],_,_,_=>dQ _
 |
  x::l,F,hn,hs=>by
  obtain⟨h1,h2⟩:=List.nodup_cons.1 hn
  have hx:=hs x ak
  have:=SU l (F.erase x) h2 fun y hy=>(List.mem_erase_of_ne (fun e=>h1 (by rw[<-e];exact hy))).2 (hs y (al _ hy))
  rw[List.length_erase_of_mem hx]at this
  have:0<F.length:=List.length_pos_of_mem hx
  simp only[aA];omega
def ql(F:List Nm):Nat->Nat->Nat
 |0,k=>k
 |n+1,k=>if tN k∈F then ql F n (k+1)else k
theorem wm(F:List Nm):∀(n k:Nat),k<=ql F n k/\ql F n k<=k+n/\(∀j,k<=j->j<ql F n k->tN j∈F)/\(ql F n k<k+n->tN (ql F n k)∉F)
 |0,k=>⟨au _,au _,fun j h1 h2=>by simp only[ql]at h2;omega,fun h=>by simp only[ql]at h;omega⟩
 |
  n+1,k=>by
  rw[ql]
  split
  ·rename_i hm
   obtain⟨h1,h2,h3,h4⟩:=wm F n (k+1)
   refine⟨by omega,by omega,fun j hj hl=>?_,fun h=>h4 (by omega)⟩
   by_cases e:j=k
   ·subst e;exact hm
   ·exact h3 j (by omega) hl
  ·rename_i hm
   exact⟨au _,by omega,fun j h1 h2=>by omega,fun _=>hm⟩
def nx(F:List Nm)(k:Nat):Nat:=ql F (F.length+1) k
theorem gK(F:List Nm)(k:Nat):k<=nx F k/\nx F k<=k+F.length/\(∀j,k<=j->j<nx F k->tN j∈F)/\tN (nx F k)∉F:=by
 obtain⟨h1,h2,h3,h4⟩:=wm F (F.length+1) k
 have hlt:nx F k<k+(F.length+1):=by
  rcases Nat.lt_or_ge (nx F k) (k+(F.length+1))with h|h
  ·exact h
  ·exfalso
   have:=SU ((List.range' k (F.length+1)).map tN) F (by
    refine List.Pairwise.map _ (fun a b hab e=>hab (BU e)) List.nodup_range') (fun x hx=>by
    obtain⟨j,hj,rfl⟩:=bO.1 hx
    obtain⟨i,hi,rfl⟩:=List.mem_range'.1 hj
    exact h3 _ (by omega) (by show _<nx F k;omega))
   simp at this
   omega
 exact⟨h1,by unfold nx at hlt |-;omega,h3,h4 hlt⟩
theorem Ch{F F':List Nm}(h:∀y,y∈F↔y∈F')(k:Nat):nx F k=nx F' k:=by
 obtain⟨a1,a2,a3,a4⟩:=gK F k
 obtain⟨b1,b2,b3,b4⟩:=gK F' k
 rcases Nat.lt_trichotomy (nx F k) (nx F' k)with hl|he|hl
 ·exact absurd ((h _).2 (b3 _ a1 hl)) a4
 ·exact he
 ·exact absurd ((h _).1 (a3 _ b1 hl)) b4
def hZ(F:List Nm):Ty->List Nm->Nat->E×Nat
 | .zero,_,k=>(.atom [48],k)
 | .one,_,k=>(.atom [49],k)
 | .name s,_,k=>(.atom s,k)
 | .bT u,to,k=>(.atom (gu to u),k)
 | .plus a b,to,k=>(.list [.atom [43],(hZ F a to k).1,(hZ F b to (hZ F a to k).2).1],(hZ F b to (hZ F a to k).2).2)
 | .times a b,to,k=>(.list [.atom [42],(hZ F a to k).1,(hZ F b to (hZ F a to k).2).1],(hZ F b to (hZ F a to k).2).2)
 | .rc a,to,k=>(.list [.atom dF,.atom (tN (nx F k)),(hZ F a (to++[tN (nx F k)]) (nx F k+1)).1],(hZ F a (to++[tN (nx F k)]) (nx F k+1)).2)
theorem jP{F F':List Nm}(h:∀y,y∈F↔y∈F'):∀(t:Ty) (to:List Nm) (k:Nat),hZ F t to k=hZ F' t to k
 | .zero,_,_=>rfl
 | .one,_,_=>rfl
 | .name _,_,_=>rfl
 | .bT _,_,_=>rfl
 | .plus a b,to,k=>by simp only[hZ];rw[jP h a,jP h b]
 | .times a b,to,k=>by simp only[hZ];rw[jP h a,jP h b]
 | .rc a,to,k=>by simp only[hZ];rw[Ch h,jP h a]
def jC:Ty->Nat->Prop
 | .bT u,i=>u<i
 | .plus a b,i=>jC a i/\jC b i
 | .times a b,i=>jC a i/\jC b i
 | .rc a,i=>jC a (i+1)
 |_,_=>True
theorem tR{e:E}(h:Wf e):∀ar,jC (cS e ar) ar.length:=by
 induction h with
 |
  @atom s hs =>
  intro ar
  simp only[cS]
  split
  ·trivial
  ·split
   ·trivial
   ·split
    ·rename_i u q;exact(fM _ _ (au _) q).1
    ·trivial
 |plus ha hb i1 i2=>intro ar;rw[dM];exact⟨i1 ar,i2 ar⟩
 |times ha hb i1 i2=>intro ar;rw[du];exact⟨i1 ar,i2 ar⟩
 |
  @rc n b hn hb i =>
  intro ar;rw[fq]
  have:=i (ar++[(E.atom n).at])
  rw[aq]at this
  exact this
structure Gn(F to:List Nm)(k:Nat):Prop where
 out:∀w,w∈to->w∉F
 lt:∀w,w∈to->∃j,j<k/\w=tN j
 nd:to.Nodup
theorem Gn.nil(F:List Nm)(k:Nat):Gn F [] k:=⟨fun _ h=>(by cases h),fun _ h=>(by cases h),by simp⟩
theorem Gn.mono{F to:List Nm}{k k':Nat}(h:Gn F to k)(hk:k<=k'):Gn F to k':=⟨h.out,fun w hw=>by obtain⟨j,h1,h2⟩:=h.lt w hw;exact⟨j,by omega,h2⟩,h.nd⟩
theorem Gn.push{F to:List Nm}{k:Nat}(h:Gn F to k):Gn F (to++[tN (nx F k)]) (nx F k+1):=by
 obtain⟨h1,h2,h3,h4⟩:=gK F k
 refine⟨fun w hw=>?_,fun w hw=>?_,?_⟩
 ·rcases aO.1 hw with hw|hw
  ·exact h.out w hw
  ·simp only[aS]at hw;rw[hw];exact h4
 ·rcases aO.1 hw with hw|hw
  ·obtain⟨j,g1,g2⟩:=h.lt w hw;exact⟨j,by omega,g2⟩
  ·simp only[aS]at hw;exact⟨_,by omega,hw⟩
 ·refine List.nodup_append.2 ⟨h.nd,by simp,fun a ha b hb e=>?_⟩
  simp only[aS]at hb
  obtain⟨j,g1,g2⟩:=h.lt a ha
  rw[e,hb]at g2
  have:=BU g2
  omega
theorem tX{to:List Nm}(hn:to.Nodup){u:Nat}(hu:u<to.length):bR (gu to u) to to.length=some u:=by
 have hm:gu to u∈to:=by
  unfold gu
  have:to.length-1-u<to.length:=by omega
  simp[aa,this]
 cases q:bR (gu to u) to to.length with
 |none=>exact absurd hm ((fG _ _).1 q)
 |
  some v =>
  obtain⟨h1,h2⟩:=fM _ _ (au _) q
  unfold gu at h2
  have e1:to.length-1-v<to.length:=by omega
  have e2:to.length-1-u<to.length:=by omega
  rw[aa,aa,bp e1,bp e2]at h2
  have hp:=List.pairwise_iff_getElem.1 hn
  have h3:to[to.length-1-v]=to[to.length-1-u]:=by simpa using h2
  rcases Nat.lt_trichotomy (to.length-1-v) (to.length-1-u)with hl|he|hl
  ·exact absurd h3 (hp _ _ e1 e2 hl)
  ·congr 1;omega
  ·exact absurd h3.symm (hp _ _ e2 e1 hl)
theorem kC(F:List Nm):∀(t:Ty) (to:List Nm) (k:Nat),Gn F to k->jC t to.length->(∀y,bn y t=true->y∈F/\qM y) ->
 Wf (hZ F t to k).1/\cS (hZ F t to k).1 to=t/\k<=(hZ F t to k).2/\(hZ F t to k).2<=k+(F.length+1)*t.aE/\uc (·∉F) (hZ F t to k).1
 | .zero,to,k,_,_,_=>⟨.atom (by simp),rfl,au _,db _ _,trivial⟩
 | .one,to,k,_,_,_=>⟨.atom (by simp),rfl,au _,db _ _,trivial⟩
 |
  .name s,to,k,g,hl,hn=>by
  obtain⟨h1,h2⟩:=hn s (by simp[bn])
  exact⟨.atom h2.1,jn h2 (fun h=>g.out s h h1),au _,db _ _,trivial⟩
 |
  .bT u,to,k,g,hl,hn=>by
  have hm:gu to u∈to:=by
   unfold gu
   have:to.length-1-u<to.length:=by have:u<to.length:=hl;omega
   simp[aa,this]
  obtain⟨j,_,e⟩:=g.lt _ hm
  have hok:qM (gu to u):=by rw[e];exact yx j
  refine⟨.atom hok.1,?_,au _,db _ _,trivial⟩
  simp only[hZ,cS]
  rw[if_neg hok.2.1,if_neg hok.2.2,tX g.nd hl]
 |
  .plus a b,to,k,g,hl,hn=>by
  obtain⟨a1,a2,a3,a4,a5⟩:=kC F a to k g hl.1 fun y hy=>hn y (by simp[bn,hy])
  obtain⟨b1,b2,b3,b4,b5⟩:=kC F b to _ (g.mono a3) hl.2 fun y hy=>hn y (by simp[bn,hy])
  simp only[hZ,dM,a2,b2,oD,Ty.aE]
  refine⟨.plus a1 b1,trivial,by omega,?_,a5,b5⟩
  have:(F.length+1)*(1+a.aE+b.aE)=(F.length+1)+(F.length+1)*a.aE+(F.length+1)*b.aE:=by simp only[cU,dI]
  omega
 |
  .times a b,to,k,g,hl,hn=>by
  obtain⟨a1,a2,a3,a4,a5⟩:=kC F a to k g hl.1 fun y hy=>hn y (by simp[bn,hy])
  obtain⟨b1,b2,b3,b4,b5⟩:=kC F b to _ (g.mono a3) hl.2 fun y hy=>hn y (by simp[bn,hy])
  simp only[hZ,du,a2,b2,nn,Ty.aE]
  refine⟨.times a1 b1,trivial,by omega,?_,a5,b5⟩
  have:(F.length+1)*(1+a.aE+b.aE)=(F.length+1)+(F.length+1)*a.aE+(F.length+1)*b.aE:=by simp only[cU,dI]
  omega
 |
  .rc a,to,k,g,hl,hn=>by
  obtain⟨h1,h2,h3,h4⟩:=gK F k
  obtain⟨a1,a2,a3,a4,a5⟩:=kC F a (to++[tN (nx F k)]) (nx F k+1) g.push (by rw[aq];exact hl) hn
  simp only[hZ,fq,dT,a2,uC,Ty.aE]
  refine⟨.rc (yx _) a1,trivial,by omega,?_,h4,a5⟩
  have:(F.length+1)*(2+a.aE)=(F.length+1)*2+(F.length+1)*a.aE:=by simp only[cU]
  omega
end Go.Proofs.Trees
namespace Go.Proofs.Trees
open Go Go.VL Go.RowKit
inductive kE:AV->List Nat->Prop
 |nil:kE iI []
 |cons {m:Nat} {cs:List AV} {e:AV} {ids:List Nat} (hm:m∉ids) (h:kE e ids):kE (.ptr [.pid m cs,e]) (m::ids)
theorem kE.has{a:AV}{ids:List Nat}(h:kE a ids):LK.has .ptr a:=by
 cases h
 ·exact(iH).mpr trivial
 ·exact(cb _).mpr trivial
theorem kE.SZ{M:Mem}{a:AV}{ids:List Nat}(h:kE a ids):∀{v:Value},bI M dz a v->∀b,b∈ids->M.p b:=by
 induction h with
 |nil=>intro v _ b hb;cases hb
 |
  @cons m cs e ids hm h ih =>
  intro v hr b hb
  cases hr with
  |
   ptr _ _ _ off us hc hr =>
   have h0:=hr 0 (by simp)
   have h1:=hr 1 (by simp)
   simp only[bq,List.getD_cons_succ]at h0 h1
   rcases aJ.1 hb with rfl|hb
   ·generalize us 0=u0 at h0
    cases h0 with
    |pid _ _ _ us hp _ _=>exact hp
   ·exact ih h1 b hb
theorem kE.nodup{a:AV}{ids:List Nat}(h:kE a ids):ids.Nodup:=by
 induction h with
 |nil=>simp
 |cons hm h ih=>exact List.nodup_cons.2 ⟨hm,ih⟩
theorem z7(a b:AV)(S:Nat->Prop)(R:AV->Prop):Bz OL cM ez (cC ez) [.agg [.x a,.x b]] S (fun o=>aK o 7) R =
 .ai (LK.has .ptr a/\a.isNil=false) (.ai (LK.has .ptr a/\a.isNil=false) (.ai (LK.has .ptr ((a.deref.drop 3).headD .any)/\1<=(a.deref.drop 3).length)
  (.ai (∀ids:Nat->Nat,(∀o,¬S (ids o))->(True/\R (.cD [.agg [(a.deref.drop 3).headD .any,.ptr [.pid (ids 7) [a,b],b]],.pid (ids 7) [a,b]]))) (.done 0 [] [])))):=by kernel_rfl
def CG(t:Ty)(ea:AV)(ids:List Nat):AV->List Ob->Prop:=fun r o=>(∃m,m∉ids/\r=.cD [.agg [t.av,.ptr [.pid m [(Ty.rc t).av,ea],ea]],.pid m [(Ty.rc t).av,ea]])/\o=[]
theorem CG.ne(t:Ty)(ea:AV)(ids:List Nat):∃r o,CG t ea ids r o:=by
 have:∃m,m∉ids:=⟨ids.foldr max 0+1,fun h=>by
  have key:∀(l:List Nat) (x:Nat),x∈l->x<=l.foldr max 0:=by
   intro l
   induction l with
   |nil=>intro x hx;cases hx
   |
    cons y l ih =>
    intro x hx
    rcases aJ.1 hx with rfl|hx
    ·simp only[List.foldr_cons];omega
    ·have:=ih x hx;simp only[List.foldr_cons];omega
  have:=key _ _ h
  omega⟩
 obtain⟨m,hm⟩:=this
 exact⟨_,_,⟨m,hm,rfl⟩,rfl⟩
theorem Ek(t:Ty)(ea:AV)(ids:List Nat)(he:kE ea ids):an Tryz.prog 86 [.agg [(Ty.rc t).av,ea]] [] (CG t ea ids):=by
 have hup:xD [.agg [(Ty.rc t).av,ea]] [.agg [.x (Ty.rc t).av,.x ea]]:=ag (cf (ag (bB ((aF _).mpr trivial)) (ag (bB he.has) aC))) aC
 refine an.up hup ?_
 refine an.Ti (cM:=cM) (F:=ez) (S:=fun b=>b∈ids) (sel:=fun o=>aK o 7) uj mixed (by kernel_rfl) (by kernel_rfl) (c:=cC ez) (by kernel_rfl) (by kernel_rfl) (fun M β vs hr b hb=>?_) ?_
 ·have h0:=hr 0 (by simp)
  simp only[bq]at h0
  obtain⟨us,_,hl,hq,_⟩:=gh h0
  have h1:=hq 1 (by simp at hl |-)
  simp only[List.getD_cons_succ,bq]at h1
  cases h1 with
  |x _ _ _ _ h=>exact he.SZ h b hb
 ·rw[z7]
  simp only[Ty.av,↓zq,zs,ac,aF]
  exact⟨by omega,fun ids' hf=>⟨ids' 7,hf 7,rfl⟩⟩
theorem ON(u:Nat)(hu:u<1000000):∀(k i:Nat) (ea:AV) (ids:List Nat),i+k=u->kE ea ids->k<=ids.length->CP [ea,.v (.int .i64 (u:Int)),.v (.int .i64 (i:Int))] [] (fun t ys o=>t=1/\∃e',kE e' (ids.drop k)/\ys=[e']/\o=[])
 |
  0,i,ea,ids,hi,he,hk=>by
  refine Dn _ _ _ ?_
  have:i=u:=by omega
  subst this
  simp only[A0,↓zq,zs,ac]
  exact⟨he.has,fun h=>by omega,fun _=>⟨ea,he,rfl⟩⟩
 |
  k+1,i,ea,ids,hi,he,hk=>by
  refine Dn _ _ _ ?_
  cases he with
  |nil=>simp at hk
  |
   @cons m cs e ids' hm h =>
   simp only[A0,↓zq,zs,ac,h.has]
   refine⟨fun _=>⟨by omega,?_⟩,fun h=>by omega⟩
   rw[bA i (by omega)]
   exact ON u hu k (i+1) e ids' (by omega) h (by simpa using hk)
theorem Q0(u:Nat)(ea:AV)(ids:List Nat)(he:kE ea ids)(hu:u<ids.length)(hl:ids.length<1000000):an Tryz.prog 131 [.agg [(Ty.bT u).av,ea]] [] (fun r o=>(∃cs,r=.pid (ids.getD u 0) cs)/\o=[]):=by
 refine K9 _ _ ((aF _).mpr trivial) he.has ?_
 simp only[Ib,Ty.av,↓zq,zs,ac,he.has]
 refine⟨by omega,lj (ON u (by omega) u 0 ea ids (by omega) he (by omega)) ?_ (fun ys o h=>by cases h.1)⟩
 rintro ys o ⟨_,e',he',rfl,rfl⟩
 have hd:ids.drop u=ids.getD u 0::ids.drop (u+1):=by
  rw[aU hu];simp[aa,hu]
 rw[hd]at he'
 cases he' with
 |
  @cons m cs e ids' hm h =>
  have hp:LK.has .ptr (AV.pid (ids.getD u 0) cs):=.inr (.inr ⟨_,_,rfl⟩)
  simp only[↓zq,zs,ac,hp]
  exact⟨by omega,cs,rfl⟩
inductive Ax:Tg->List Nat->List UInt8->AV->Prop
 |nm (s:List UInt8) (ids:List Nat):Ax (.nm s) ids s iI
 |bd {k:Nat} {ids:List Nat} (hk:k<ids.length) (cs:List AV) (s:List UInt8):Ax (.bd k) ids s (.pid (ids.getD k 0) cs)
theorem Ax.has{tg:Tg}{ids:List Nat}{s:List UInt8}{fr:AV}(h:Ax tg ids s fr):LK.has .ptr fr:=by
 cases h
 ·exact(iH).mpr trivial
 ·exact .inr (.inr ⟨_,_,rfl⟩)
theorem Ax.push{tg:Tg}{ids:List Nat}{s:List UInt8}{fr:AV}(h:Ax tg ids s fr)(m:Nat):Ax tg.up (m::ids) s fr:=by
 cases h with
 |nm=>exact .nm _ _
 |
  @bd k _ hk cs =>
  have:=Ax.bd (k:=k+1) (ids:=m::ids) (by simpa using hk) cs s
  simpa[Tg.up]using this
theorem zI{ids:List Nat}(h:ids.Nodup){i j:Nat}(hi:i<ids.length)(hj:j<ids.length)(he:ids.getD i 0=ids.getD j 0):i=j:=by
 have e1:ids.getD i 0=ids[i]:=by simp[aa,hi]
 have e2:ids.getD j 0=ids[j]:=by simp[aa,hj]
 rw[e1,e2]at he
 have hp:=List.pairwise_iff_getElem.1 h
 rcases Nat.lt_trichotomy i j with hlt|rfl|hlt
 ·exact absurd he (hp i j hi hj hlt)
 ·rfl
 ·exact absurd he.symm (hp j i hj hi hlt)
theorem P9(t:Ty)(tg:Tg)(ea:AV)(ids:List Nat)(s:List UInt8)(fr:AV)(he:kE ea ids)(ht:Ax tg ids s fr)(hu:∀u,t=.bT u->u<ids.length)(hl:ids.length<1000000) :
 an Tryz.prog 111 [.agg [.v (.string (mk s)),fr],.agg [t.av,ea]] [] (bK (.v (.bool (eD t tg)))):=by
 refine SD _ _ _ _ ht.has ((aF _).mpr trivial) he.has ?_
 cases ht with
 |
  nm s =>
  cases t<;>simp[Ew,Ty.av,↓zq,zs,ac,zt,bK,eD]
  rw[cw];simp
 |
  @bd k _ hk cs s =>
  generalize hm0:ids.getD k 0=m0
  have hp:LK.has .ptr (AV.pid m0 cs):=.inr (.inr ⟨_,_,rfl⟩)
  have hn:(AV.pid m0 cs).isNil=false:=rfl
  cases t with
  |
   bT u =>
   have hu:=hu u rfl
   simp only[Ew,Ty.av,↓zq,zs,ac,hp,hn]
   refine⟨fun _=>⟨by omega,fun _=>?_,fun h=>absurd rfl h⟩,fun h=>by cases h⟩
   have hb:=Q0 u ea ids he hu hl
   simp only[Ty.av]at hb
   refine aR hb ⟨_,_,⟨[],rfl⟩,rfl⟩ ?_
   rintro r o ⟨⟨cs',rfl⟩,rfl⟩
   have hp':LK.has .ptr (AV.pid (ids.getD u 0) cs'):=.inr (.inr ⟨_,_,rfl⟩)
   simp only[↓zq,zs,ac,hp',AV.rL,AV.Bw,bK,eD]
   congr 2
   rw[cw,Nat.beq_eq,decide_eq_true_eq,<-hm0]
   exact⟨fun h=>zI he.nodup hu hk h,fun h=>by rw[h]⟩
  |_=>simp[Ew,Ty.av,↓zq,zs,ac,hp,hn,bK,eD]
end Go.Proofs.Trees
namespace Go.Proofs.Trees
open Go Go.VL Go.RowKit
theorem zH(b:Int)(a:AV)(h:LK.ptr.has a):an Tryz.prog 100 [.v (.int .u8 b),a] [] (bK (.ptr [.v (.int .u8 b),.v (.string (mk [])),a,iI])):=by
 refine PR _ _ h ?_
 simp[J9,↓zq,zs,ac,bK]
end Go.Proofs.Trees
namespace Go.Proofs.Trees
open Go Go.VL Go.RowKit
def gP(l:List Hl):List (List AV):=l.map fun h=>[h.1.cA,h.2.cA]
theorem en(l:List Hl):(gP l).length=l.length:=by simp[gP]
theorem lN{l:List Hl}{i:Nat}(hi:i<l.length):(gP l).getD i []=[(l[i]).1.cA,(l[i]).2.cA]:=by simp[gP,aa,hi]
theorem pu(out:List Hl)(a b:Vl):gP out++[[a.cA,b.cA]]=gP (out++[(a,b)]):=by simp[gP]
theorem gB(g:Vl->Vl)(l:List Hl){i:Nat}(hi:i<l.length):iM g (l.drop i)=(g (l[i]).1,(l[i]).2)::iM g (l.drop (i+1)):=by
 rw[aU hi];rfl
theorem fX(g:Vl->Vl)(l:List Hl):(iM g l).length=l.length:=by simp[iM]
theorem BC(a b:AV):cy 2 [[a,b]]:=fun c hc=>by simp at hc;rw[hc];rfl
theorem J6(x0:AV)(hx0:LK.ptr.has x0)(g:Vl->Vl)(hg:∀c:Vl,an Tryz.prog 115 [c.cA,.ref 0 0] [.cells [x0]] (dh (g c).cA [.cells [x0]]))(l:List Hl):∀(k i:Nat) (out:List Hl),i+k=l.length->out.length+k<=1000000->l.length<=1000000 ->
 G9 [.sl (gP l),.v (.int .i64 (l.length:Int)),.v (.int .i64 (i:Int))] [.cells [x0],.cells [.any],.vec 2 (gP out)] (gV 1 [] [.cells [x0],.cells [.any],.vec 2 (gP (out++iM g (l.drop i)))])
 |
  0,i,out,hi,ho,hl=>by
  refine Lj _ _ _ _ _ ?_
  have:i=l.length:=by omega
  subst this
  simp only[Fk,↓zq,zs,ac,en,hx0]
  exact⟨fun h=>by omega,fun _=>by simp[gV,iM]⟩
 |
  k+1,i,out,hi,ho,hl=>by
  have hlt:i<l.length:=by omega
  refine Lj _ _ _ _ _ ?_
  simp only[Fk,↓zq,zs,ac,zt,en,lN hlt,aN,bF,hx0]
  refine⟨fun _=>⟨by omega,by omega,?_⟩,fun h=>by omega⟩
  refine aX (hg _) ?_
  simp only[↓zq,zs,ac,aN,aL,bK,dh,hx0]
  refine⟨⟨BC _ _,by omega⟩,?_⟩
  rw[bA i (by omega)]
  have:=J6 x0 hx0 g hg l k (i+1) (out++[(g (l[i]).1,(l[i]).2)]) (by omega) (by simp;omega) hl
  rw[bb]at this
  rw[gB g l hlt,pu]
  exact this
theorem IS(x0:AV)(hx0:LK.ptr.has x0)(g:Vl->Vl)(hg:∀c:Vl,an Tryz.prog 115 [c.cA,.ref 0 0] [.cells [x0]] (dh (g c).cA [.cells [x0]]))(l out:List Hl)(hl:out.length+l.length<=1000000) :
 an Tryz.prog 112 [.sl (gP l),.fn 115 [.ref 0 0],.ref 1 0] [.cells [x0],.cells [.vec 2],.vec 2 (gP out)] (dh .any [.cells [x0],.cells [.vec 2],.vec 2 (gP (out++iM g l))]):=by
 refine PD _ _ _ ((cg _).mpr trivial) hx0 ?_
 simp only[OM,↓zq,zs,ac,en]
 have h:=J6 x0 hx0 g hg l l.length 0 out (by omega) (by omega) (by omega)
 rw[be]at h
 refine cx h ?_
 simp[↓zq,zs,ac,dh,aL,hx0]
theorem Ka(x0:AV)(hx0:LK.ptr.has x0)(g:Vl->Vl)(hg:∀c:Vl,an Tryz.prog 116 [c.cA,.ref 0 0] [.cells [x0]] (dh (g c).cA [.cells [x0]]))(l:List Hl):∀(k i:Nat) (out:List Hl),i+k=l.length->out.length+k<=1000000->l.length<=1000000 ->
 E7 [.sl (gP l),.v (.int .i64 (l.length:Int)),.v (.int .i64 (i:Int))] [.cells [x0],.cells [.any],.vec 2 (gP out)] (gV 1 [] [.cells [x0],.cells [.any],.vec 2 (gP (out++iM g (l.drop i)))])
 |
  0,i,out,hi,ho,hl=>by
  refine KB _ _ _ _ _ ?_
  have:i=l.length:=by omega
  subst this
  simp only[GU,↓zq,zs,ac,en,hx0]
  exact⟨fun h=>by omega,fun _=>by simp[gV,iM]⟩
 |
  k+1,i,out,hi,ho,hl=>by
  have hlt:i<l.length:=by omega
  refine KB _ _ _ _ _ ?_
  simp only[GU,↓zq,zs,ac,zt,en,lN hlt,aN,bF,hx0]
  refine⟨fun _=>⟨by omega,by omega,?_⟩,fun h=>by omega⟩
  refine aX (hg _) ?_
  simp only[↓zq,zs,ac,aN,aL,bK,dh,hx0]
  refine⟨⟨BC _ _,by omega⟩,?_⟩
  rw[bA i (by omega)]
  have:=Ka x0 hx0 g hg l k (i+1) (out++[(g (l[i]).1,(l[i]).2)]) (by omega) (by simp;omega) hl
  rw[bb]at this
  rw[gB g l hlt,pu]
  exact this
theorem Ss(x0:AV)(hx0:LK.ptr.has x0)(g:Vl->Vl)(hg:∀c:Vl,an Tryz.prog 116 [c.cA,.ref 0 0] [.cells [x0]] (dh (g c).cA [.cells [x0]]))(l out:List Hl)(hl:out.length+l.length<=1000000) :
 an Tryz.prog 112 [.sl (gP l),.fn 116 [.ref 0 0],.ref 1 0] [.cells [x0],.cells [.vec 2],.vec 2 (gP out)] (dh .any [.cells [x0],.cells [.vec 2],.vec 2 (gP (out++iM g l))]):=by
 refine SL _ _ _ ((cg _).mpr trivial) hx0 ?_
 simp only[KO,↓zq,zs,ac,en]
 have h:=Ka x0 hx0 g hg l l.length 0 out (by omega) (by omega) (by omega)
 rw[be]at h
 refine cx h ?_
 simp[↓zq,zs,ac,dh,aL,hx0]
theorem L5(x0:AV)(hx0:LK.ptr.has x0)(g:Vl->Vl)(hg:∀c:Vl,an Tryz.prog 118 [c.cA,.ref 0 0] [.cells [x0]] (dh (g c).cA [.cells [x0]]))(l:List Hl):∀(k i:Nat) (out:List Hl),i+k=l.length->out.length+k<=1000000->l.length<=1000000 ->
 GN [.sl (gP l),.v (.int .i64 (l.length:Int)),.v (.int .i64 (i:Int))] [.cells [x0],.cells [.any],.vec 2 (gP out)] (gV 1 [] [.cells [x0],.cells [.any],.vec 2 (gP (out++iM g (l.drop i)))])
 |
  0,i,out,hi,ho,hl=>by
  refine Jw _ _ _ _ _ ?_
  have:i=l.length:=by omega
  subst this
  simp only[Fm,↓zq,zs,ac,en,hx0]
  exact⟨fun h=>by omega,fun _=>by simp[gV,iM]⟩
 |
  k+1,i,out,hi,ho,hl=>by
  have hlt:i<l.length:=by omega
  refine Jw _ _ _ _ _ ?_
  simp only[Fm,↓zq,zs,ac,zt,en,lN hlt,aN,bF,hx0]
  refine⟨fun _=>⟨by omega,by omega,?_⟩,fun h=>by omega⟩
  refine aX (hg _) ?_
  simp only[↓zq,zs,ac,aN,aL,bK,dh,hx0]
  refine⟨⟨BC _ _,by omega⟩,?_⟩
  rw[bA i (by omega)]
  have:=L5 x0 hx0 g hg l k (i+1) (out++[(g (l[i]).1,(l[i]).2)]) (by omega) (by simp;omega) hl
  rw[bb]at this
  rw[gB g l hlt,pu]
  exact this
theorem Rx(x0:AV)(hx0:LK.ptr.has x0)(g:Vl->Vl)(hg:∀c:Vl,an Tryz.prog 118 [c.cA,.ref 0 0] [.cells [x0]] (dh (g c).cA [.cells [x0]]))(l out:List Hl)(hl:out.length+l.length<=1000000) :
 an Tryz.prog 112 [.sl (gP l),.fn 118 [.ref 0 0],.ref 1 0] [.cells [x0],.cells [.vec 2],.vec 2 (gP out)] (dh .any [.cells [x0],.cells [.vec 2],.vec 2 (gP (out++iM g l))]):=by
 refine Qk _ _ _ ((cg _).mpr trivial) hx0 ?_
 simp only[Kt,↓zq,zs,ac,en]
 have h:=L5 x0 hx0 g hg l l.length 0 out (by omega) (by omega) (by omega)
 rw[be]at h
 refine cx h ?_
 simp[↓zq,zs,ac,dh,aL,hx0]
theorem Oj(g:Vl->Vl)(hg:∀c:Vl,an Tryz.prog 119 [c.cA] [] (bK (g c).cA))(l:List Hl):∀(k i:Nat) (out:List Hl),i+k=l.length->out.length+k<=1000000->l.length<=1000000 ->
 GY [.v (.func (.func 119) #[] #[]),.sl (gP l),.v (.int .i64 (l.length:Int)),.v (.int .i64 (i:Int))] [.cells [.any],.vec 2 (gP out)] (gV 1 [] [.cells [.any],.vec 2 (gP (out++iM g (l.drop i)))])
 |
  0,i,out,hi,ho,hl=>by
  refine IV _ _ _ _ ?_
  have:i=l.length:=by omega
  subst this
  simp only[Gs,↓zq,zs,ac,en]
  exact⟨fun h=>by omega,fun _=>by simp[gV,iM]⟩
 |
  k+1,i,out,hi,ho,hl=>by
  have hlt:i<l.length:=by omega
  refine IV _ _ _ _ ?_
  simp only[Gs,↓zq,zs,ac,zt,en,lN hlt,aN,bF]
  refine⟨fun _=>⟨by omega,by omega,?_⟩,fun h=>by omega⟩
  refine aj (hg _) ?_
  simp only[↓zq,zs,ac,aN,aL,bK,dh]
  refine⟨⟨BC _ _,by omega⟩,?_⟩
  rw[bA i (by omega)]
  have:=Oj g hg l k (i+1) (out++[(g (l[i]).1,(l[i]).2)]) (by omega) (by simp;omega) hl
  rw[bb]at this
  rw[gB g l hlt,pu]
  exact this
theorem Ri(g:Vl->Vl)(hg:∀c:Vl,an Tryz.prog 119 [c.cA] [] (bK (g c).cA))(l out:List Hl)(hl:out.length+l.length<=1000000) :
 an Tryz.prog 112 [.sl (gP l),.v (.func (.func 119) #[] #[]),.ref 0 0] [.cells [.vec 1],.vec 2 (gP out)] (dh .any [.cells [.vec 1],.vec 2 (gP (out++iM g l))]):=by
 refine SP _ _ ((cg _).mpr trivial) ?_
 simp only[I3,↓zq,zs,ac,en]
 have h:=Oj g hg l l.length 0 out (by omega) (by omega) (by omega)
 rw[be]at h
 refine cx h ?_
 simp[↓zq,zs,ac,dh,aL]
theorem Lc(x0:AV)(x1:AV)(hx0:LK.ptr.has x0)(hx1:LK.ptr.has x1)(g:Vl->Vl)(hg:∀c:Vl,an Tryz.prog 120 [c.cA,.ref 0 0] [.cells [x0,x1]] (dh (g c).cA [.cells [x0,x1]]))(l:List Hl):∀(k i:Nat) (out:List Hl),i+k=l.length->out.length+k<=1000000->l.length<=1000000 ->
 IC [.sl (gP l),.v (.int .i64 (l.length:Int)),.v (.int .i64 (i:Int))] [.cells [x0,x1],.cells [.any],.vec 2 (gP out)] (gV 1 [] [.cells [x0,x1],.cells [.any],.vec 2 (gP (out++iM g (l.drop i)))])
 |
  0,i,out,hi,ho,hl=>by
  refine Ou _ _ _ _ _ _ ?_
  have:i=l.length:=by omega
  subst this
  simp only[Hc,↓zq,zs,ac,en,hx0,hx1]
  exact⟨fun h=>by omega,fun _=>by simp[gV,iM]⟩
 |
  k+1,i,out,hi,ho,hl=>by
  have hlt:i<l.length:=by omega
  refine Ou _ _ _ _ _ _ ?_
  simp only[Hc,↓zq,zs,ac,zt,en,lN hlt,aN,bF,hx0,hx1]
  refine⟨fun _=>⟨by omega,by omega,?_⟩,fun h=>by omega⟩
  refine aX (hg _) ?_
  simp only[↓zq,zs,ac,aN,aL,bK,dh,hx0,hx1]
  refine⟨⟨BC _ _,by omega⟩,?_⟩
  rw[bA i (by omega)]
  have:=Lc x0 x1 hx0 hx1 g hg l k (i+1) (out++[(g (l[i]).1,(l[i]).2)]) (by omega) (by simp;omega) hl
  rw[bb]at this
  rw[gB g l hlt,pu]
  exact this
theorem Ro(x0:AV)(x1:AV)(hx0:LK.ptr.has x0)(hx1:LK.ptr.has x1)(g:Vl->Vl)(hg:∀c:Vl,an Tryz.prog 120 [c.cA,.ref 0 0] [.cells [x0,x1]] (dh (g c).cA [.cells [x0,x1]]))(l out:List Hl)(hl:out.length+l.length<=1000000) :
 an Tryz.prog 112 [.sl (gP l),.fn 120 [.ref 0 0],.ref 1 0] [.cells [x0,x1],.cells [.vec 2],.vec 2 (gP out)] (dh .any [.cells [x0,x1],.cells [.vec 2],.vec 2 (gP (out++iM g l))]):=by
 refine Qa _ _ _ _ ((cg _).mpr trivial) hx0 hx1 ?_
 simp only[MS,↓zq,zs,ac,en]
 have h:=Lc x0 x1 hx0 hx1 g hg l l.length 0 out (by omega) (by omega) (by omega)
 rw[be]at h
 refine cx h ?_
 simp[↓zq,zs,ac,dh,aL,hx0,hx1]
theorem RM(w c:Vl):an Tryz.prog 115 [c.cA,.ref 0 0] [.cells [(Vl.l w).cA]] (dh (Vl.l c).cA [.cells [(Vl.l w).cA]]):=by
 refine N7 _ _ ((aN _).mpr trivial) ((aN _).mpr trivial) ?_
 simp only[Hm,Vl.cA,↓zq,zs,ac,aN]
 refine⟨by omega,?_⟩
 refine aj (zH _ _ ((aN _).mpr trivial)) ?_
 simp[↓zq,zs,ac,dh,Vl.cA]
theorem P7(w c:Vl):an Tryz.prog 115 [c.cA,.ref 0 0] [.cells [(Vl.r w).cA]] (dh (Vl.r c).cA [.cells [(Vl.r w).cA]]):=by
 refine N7 _ _ ((aN _).mpr trivial) ((aN _).mpr trivial) ?_
 simp only[Hm,Vl.cA,↓zq,zs,ac,aN]
 refine⟨by omega,?_⟩
 refine aj (zH _ _ ((aN _).mpr trivial)) ?_
 simp[↓zq,zs,ac,dh,Vl.cA]
theorem RI(x y c:Vl):an Tryz.prog 116 [c.cA,.ref 0 0] [.cells [(Vl.p x y).cA]] (dh (Vl.l (.p c y)).cA [.cells [(Vl.p x y).cA]]):=by
 refine RC _ _ ((aN _).mpr trivial) ((aN _).mpr trivial) ?_
 simp only[KZ,Vl.cA,↓zq,zs,ac,aN]
 refine⟨by omega,?_⟩
 refine aj (zK _ _ ((aN _).mpr trivial) ((aN _).mpr trivial)) ?_
 simp only[↓zq,zs,ac]
 refine aj (zH _ _ ((cb _).mpr trivial)) ?_
 simp[↓zq,zs,ac,dh,Vl.cA]
theorem PY(x y c:Vl):an Tryz.prog 118 [c.cA,.ref 0 0] [.cells [(Vl.p x y).cA]] (dh (Vl.r (.p x c)).cA [.cells [(Vl.p x y).cA]]):=by
 refine Rn _ _ ((aN _).mpr trivial) ((aN _).mpr trivial) ?_
 simp only[NR,Vl.cA,↓zq,zs,ac,aN]
 refine⟨by omega,?_⟩
 refine aj (zK _ _ ((aN _).mpr trivial) ((aN _).mpr trivial)) ?_
 simp only[↓zq,zs,ac]
 refine aj (zH _ _ ((cb _).mpr trivial)) ?_
 simp[↓zq,zs,ac,dh,Vl.cA]
theorem QO(kc kv c:Vl):an Tryz.prog 120 [c.cA,.ref 0 0] [.cells [kc.cA,kv.cA]] (dh (Vl.f (.r (.p kc c))).cA [.cells [kc.cA,kv.cA]]):=by
 refine RZ _ _ _ ((aN _).mpr trivial) ((aN _).mpr trivial) ((aN _).mpr trivial) ?_
 simp only[L9,Vl.cA,↓zq,zs,ac,aN]
 refine aj (zK _ _ ((aN _).mpr trivial) ((aN _).mpr trivial)) ?_
 simp only[↓zq,zs,ac]
 refine aj (zH _ _ ((cb _).mpr trivial)) ?_
 simp only[↓zq,zs,ac]
 refine aj (zH _ _ ((cb _).mpr trivial)) ?_
 simp[↓zq,zs,ac,dh,Vl.cA,aN]
theorem QR(c:Vl):an Tryz.prog 119 [c.cA] [] (bK (Vl.f (.l c)).cA):=by
 refine O7 _ ((aN _).mpr trivial) ?_
 simp only[ML,↓zq,zs,ac]
 refine aj (zH _ _ ((aN _).mpr trivial)) ?_
 simp only[↓zq,zs,ac]
 refine aj (zH _ _ ((cb _).mpr trivial)) ?_
 simp[↓zq,zs,ac,bK,Vl.cA]
end Go.Proofs.Trees
namespace Go.Proofs.Trees
open Go Go.VL Go.RowKit
abbrev Az(a:Ty)(tg:Tg):Hl->List Hl:=fun h=>iM (fun c=>.f (.r (.p h.1 c))) (cm (.rc a) tg h.2)
theorem Cy(l:List Hl){i:Nat}(hi:i<l.length):l[i]∈l:=bD _
def IE(t:Ty)(ea:AV)(s:List UInt8)(fr:AV)(tg:Tg)(v:Vl):Prop:=an Tryz.prog 87 [.agg [t.av,ea],v.cA,.agg [.v (.string (mk s)),fr]] [] (bK (.sl (gP (cm t tg v))))
theorem Ok(a:Ty)(ea:AV)(s:List UInt8)(fr:AV)(tg:Tg)(he:LK.ptr.has ea)(hf:LK.ptr.has fr)(l:List Hl)(hl:l.length<=1000000)(ih:∀h,h∈l->IE (.rc a) ea s fr tg h.2) :
 ∀(k i:Nat) (out:List Hl),i+k=l.length->(out++(l.drop i).flatMap (Az a tg)).length<=1000000 ->
 HM [.sl (gP l),.v (.int .i64 (l.length:Int)),.v (.int .i64 (i:Int))] [.cells [(Ty.rc a).av,ea],.cells [.v (.string (mk s)),fr],.cells [.any],.vec 2 (gP out)] (gV 1 [] [.cells [.any],.vec 2 (gP (out++(l.drop i).flatMap (Az a tg)))])
 |
  0,i,out,hi,ho=>by
  refine Jb _ _ _ _ _ _ _ _ ?_
  have:i=l.length:=by omega
  subst this
  simp only[FG,↓zq,zs,ac,en,aF,he,hf]
  exact⟨fun h=>by omega,fun _=>by simp[gV]⟩
 |
  k+1,i,out,hi,ho=>by
  have hlt:i<l.length:=by omega
  have hd:(l.drop i).flatMap (Az a tg)=Az a tg (l[i])++(l.drop (i+1)).flatMap (Az a tg):=by rw[aU hlt,List.flatMap_cons]
  rw[hd]at ho |-
  refine Jb _ _ _ _ _ _ _ _ ?_
  simp only[FG,↓zq,zs,ac,zt,en,lN hlt,aF,aN,bF,he,hf]
  refine⟨fun _=>⟨by omega,by omega,?_⟩,fun h=>by omega⟩
  refine aj (ih _ (Cy l hlt)) ?_
  simp only[↓zq,zs,ac]
  have hb:out.length+(cm (.rc a) tg (l[i]).2).length<=1000000:=by
   simp only[aq,fX]at ho;omega
  refine aX (Ro _ _ ((aN _).mpr trivial) ((aN _).mpr trivial) (fun c=>.f (.r (.p (l[i]).1 c))) (fun c=>QO (l[i]).1 (l[i]).2 c) (cm (.rc a) tg (l[i]).2) out hb) ?_
  simp only[↓zq,zs,ac,aL,aN]
  rw[bA i (by omega),<-bb]
  exact Ok a ea s fr tg he hf l hl ih k (i+1) _ (by omega) (by rw[bb];exact ho)
theorem E1(n:Nat):∀(m:Nat) (v:Vl),v.nodes<=m->∀(e:E) (env:List Fr) (t:Ty),Ask e env t->ff n v (e,env)=true->env.length+v.nodes<100000->∀(ea:AV) (ids:List Nat),kE ea ids->ids.length=env.length->∀(tg:Tg) (s:List UInt8) (fr:AV),Ax tg ids s fr->IE t ea s fr tg v
 |0,v,hm=>by have:=dw v;omega
 |
  m+1,v,hm=>by
  intro e env t A hv hl ea ids he hids tg s fr ht
  unfold IE
  refine SF _ _ _ _ _ ((aF _).mpr trivial) he.has ((aN _).mpr trivial) ht.has ?_
  unfold Mt
  refine aj (P9 t tg ea ids s fr he ht (fun u hu=>by
   rcases gC A.wf A.ty with⟨hb,_⟩|⟨u',g,rfl,_,hg⟩
   ·rw[hu]at hb;cases hb
   ·cases hu;rw[hids];exact(List.getElem?_eq_some_iff.1 hg).1) (by omega)) ?_
  have hlen:=na t tg v
  cases hat:eD t tg with
  |
   true =>
   rw[mI v hat]
   simp only[↓zq,zs,ac,bK,gP,bE,List.map_nil,Vl.cA]
   exact⟨fun _=>trivial,fun h=>(by cases h)⟩
  |false =>
  simp only[↓zq,zs,ac]
  refine⟨fun h=>(by cases h),fun _=>?_⟩
  rcases gC A.wf A.ty with⟨hb,hq⟩|⟨u,g,rfl,hq,hu⟩
  ·have hhd:hd e env=(e,env):=kl hq
   rcases fP A.ty hb A.cl with⟨rfl,rfl⟩|⟨rfl,rfl⟩|⟨s,rfl,rfl,hp,h0,h1⟩|⟨x,a,b,t1,t2,rfl,hx,rfl,ha,hbb⟩|⟨x,a,b,t1,t2,rfl,hx,rfl,ha,hbb⟩|⟨x,a,b,t1,rfl,hx,rfl⟩
   ·rw[dU hat (by cases v<;>rfl)]
    simp[Ty.av,↓zq,zs,ac,bK,gP]
   ·rw[dU hat (by cases v<;>rfl)]
    simp[Ty.av,↓zq,zs,ac,bK,gP]
   ·rw[dU hat (by cases v<;>rfl)]
    simp[Ty.av,↓zq,zs,ac,bK,gP]
   ·obtain⟨ok1,ok2,ok3,_⟩:=A.ok
    obtain⟨f1,f2⟩:=fB A.cl
    have hL:=zV t1.av t2.av ea 43 (mk []) 0 ((aF _).mpr trivial) he.has
    have hR:=Ao t1.av t2.av ea 43 (mk []) 0 ((aF _).mpr trivial) he.has
    cases v with
    |
     l w =>
     simp only[ff,hhd,hx,beq_self_eq_true,bY]at hv
     simp only[Vl.nodes]at hm hl hlen
     rw[nA]at hlen |-
     rw[fX]at hlen
     simp only[Ty.av,↓zq,zs,ac]
     refine⟨by omega,fun _=>?_,fun h=>absurd rfl h⟩
     refine aj hL ?_
     simp only[↓zq,zs,ac,bF,aF,he.has,Vl.cA,aN]
     refine⟨by omega,fun h=>by omega,fun _=>⟨by omega,?_⟩⟩
     refine aj (E1 n m w (by omega) a env t1 ⟨ok2,A.wf,ha,f1⟩ hv (by omega) ea ids he hids tg s fr ht) ?_
     simp only[↓zq,zs,ac]
     have hadd:=IS (Vl.l w).cA ((aN _).mpr trivial) Vl.l (fun c=>RM w c) (cm t1 tg w) [] (by simp;omega)
     simp only[Vl.cA,gP,List.map_nil,aW]at hadd
     refine aX hadd ?_
     simp[↓zq,zs,ac,aL,bK,aN,gP,cb]
    |
     r w =>
     simp only[ff,hhd,hx,beq_self_eq_true,bY]at hv
     simp only[Vl.nodes]at hm hl hlen
     rw[nu]at hlen |-
     rw[fX]at hlen
     simp only[Ty.av,↓zq,zs,ac]
     refine⟨by omega,fun _=>?_,fun h=>absurd rfl h⟩
     refine aj hL ?_
     simp only[↓zq,zs,ac,bF,aF,he.has,Vl.cA,aN]
     refine⟨by omega,fun _=>?_,fun h=>absurd rfl h⟩
     refine aj hR ?_
     simp only[↓zq,zs,ac,bF,aF,he.has,aN]
     refine⟨by omega,?_⟩
     refine aj (E1 n m w (by omega) b env t2 ⟨ok3,A.wf,hbb,f2⟩ hv (by omega) ea ids he hids tg s fr ht) ?_
     simp only[↓zq,zs,ac]
     have hadd:=IS (Vl.r w).cA ((aN _).mpr trivial) Vl.r (fun c=>P7 w c) (cm t2 tg w) [] (by simp;omega)
     simp only[Vl.cA,gP,List.map_nil,aW]at hadd
     refine aX hadd ?_
     simp[↓zq,zs,ac,aL,bK,aN,gP,cb]
    |_=>simp[ff,hhd,hx]at hv
   ·obtain⟨ok1,ok2,ok3,_⟩:=A.ok
    obtain⟨f1,f2⟩:=eY A.cl
    have hL:=zV t1.av t2.av ea 42 (mk []) 0 ((aF _).mpr trivial) he.has
    have hR:=Ao t1.av t2.av ea 42 (mk []) 0 ((aF _).mpr trivial) he.has
    cases v with
    |
     p w w' =>
     simp only[ff,hhd,hx,beq_self_eq_true,bY,az]at hv
     simp only[Vl.nodes]at hm hl hlen
     rw[nl]at hlen |-
     simp only[aq,fX]at hlen
     simp only[Ty.av,↓zq,zs,ac]
     refine⟨by omega,fun h=>by omega,fun _=>⟨fun _=>?_,fun h=>absurd rfl h⟩⟩
     refine aj hL ?_
     simp only[↓zq,zs,ac,bF,aF,he.has,Vl.cA,aN]
     refine⟨by omega,?_⟩
     refine aj (E1 n m w (by omega) a env t1 ⟨ok2,A.wf,ha,f1⟩ hv.1 (by omega) ea ids he hids tg s fr ht) ?_
     simp only[↓zq,zs,ac]
     have hadd:=Ss (Vl.p w w').cA ((aN _).mpr trivial) (fun c=>.l (.p c w')) (fun c=>RI w w' c) (cm t1 tg w) [] (by simp;omega)
     simp only[Vl.cA,gP,List.map_nil,aW]at hadd
     refine aX hadd ?_
     simp only[↓zq,zs,ac,aL,aN]
     refine aj hR ?_
     simp only[↓zq,zs,ac,bF,aF,he.has,aN]
     refine⟨by omega,?_⟩
     refine aj (E1 n m w' (by omega) b env t2 ⟨ok3,A.wf,hbb,f2⟩ hv.2 (by omega) ea ids he hids tg s fr ht) ?_
     simp only[↓zq,zs,ac]
     have hadd2:=Rx (Vl.p w w').cA ((aN _).mpr trivial) (fun c=>.r (.p w c)) (fun c=>PY w w' c) (cm t2 tg w') (iM (fun c=>.l (.p c w')) (cm t1 tg w)) (by rw[fX];omega)
     simp only[Vl.cA,gP]at hadd2
     refine aX hadd2 ?_
     simp[↓zq,zs,ac,aL,bK,aN,gP,cb]
    |_=>simp[ff,hhd,hx]at hv
   ·obtain⟨t1',he1,h1,f1,hw1⟩:=jz A.wf A.ok hx A.ty A.cl
    cases he1
    obtain⟨ok1,ok2,ok3,_⟩:=A.ok
    have A':Ask b (.mk a.at (.list [x,a,b]) env::env) t1:=⟨ok3,hw1,h1,f1⟩
    cases v with
    |
     f w =>
     simp only[ff,hhd,hx,beq_self_eq_true,bY]at hv
     simp only[Vl.nodes]at hm hl hlen
     rw[nr]at hlen |-
     simp only[aq,fX]at hlen
     have hin:=Ek t1 ea ids he
     simp only[Ty.av]at hin
     simp only[Ty.av,↓zq,zs,ac]
     refine⟨by omega,fun h=>by omega,fun _=>⟨fun h=>by omega,fun _=>⟨fun _=>?_,fun h=>absurd rfl h⟩⟩⟩
     refine aR hin (by have:=CG.ne t1 ea ids;simpa only[CG,Ty.av]using this) ?_
     intro r o hr
     obtain⟨⟨mm,hmm,rfl⟩,rfl⟩:=hr
     have he2:kE (.ptr [.pid mm [(Ty.rc t1).av,ea],ea]) (mm::ids):=.cons hmm he
     have hfr:LK.ptr.has (.pid mm [(Ty.rc t1).av,ea]):=.inr (.inr ⟨_,_,rfl⟩)
     simp only[Ty.av]at he2 hfr
     simp only[↓zq,zs,ac,bF,aF,he2.has,hfr,Vl.cA,aN,Ty.av]
     refine⟨by omega,?_⟩
     have i1:=E1 n m w (by omega) b _ t1 A' hv (by simp;omega) _ _ he2 (by simp[hids]) tg.up s fr (ht.push mm)
     unfold IE at i1
     refine aj i1 ?_
     simp only[↓zq,zs,ac]
     have hadd:=Ri (fun c=>.f (.l c)) (fun c=>QR c) (cm t1 tg.up w) [] (by simp;omega)
     simp only[Vl.cA,gP,List.map_nil,aW]at hadd
     refine aX hadd ?_
     simp only[↓zq,zs,ac,aL,aN]
     have i2:=E1 n m w (by omega) b _ t1 A' hv (by simp;omega) _ _ he2 (by simp[hids]) (.bd 0) [] _ (by have:=Ax.bd (k:=0) (ids:=mm::ids) (by simp) [(Ty.rc t1).av,ea] [];simpa only[bq,Ty.av]using this)
     unfold IE at i2
     refine⟨by omega,?_⟩
     refine aj i2 ?_
     simp only[↓zq,zs,ac,en]
     have hl2:=na t1 (.bd 0) w
     have ih3:∀h,h∈cm t1 (.bd 0) w->IE (.rc t1) ea s fr tg h.2:=fun h hh=>by
      have h3:=(iE hh).1
      have h4:=iB n m w (by omega) b _ t1 A' hv 0 _ rfl h hh
      exact E1 n m h.2 (by omega) (.list [x,a,b]) env (.rc t1) A h4 (by omega) ea ids he hids tg s fr ht
     have hloop:=Ok t1 ea s fr tg he.has ht.has (cm t1 (.bd 0) w) (by omega) ih3 (cm t1 (.bd 0) w).length 0 (iM (fun c=>.f (.l c)) (cm t1 tg.up w)) (by omega) (by
      simp only[be,aq,fX]
      have hlen2:(cm t1 tg.up w).length+((cm t1 (.bd 0) w).flatMap (Az t1 tg)).length<=1+w.nodes:=hlen
      omega)
     simp only[Ty.av,gP,be]at hloop
     refine cx hloop ?_
     simp[↓zq,zs,ac,ac,bK,gP]
    |_=>simp[ff,hhd,hx]at hv
  ·rw[dU hat (by cases v<;>rfl)]
   simp[Ty.av,↓zq,zs,ac,bK,gP]
end Go.Proofs.Trees
namespace Go.Proofs.Trees
open Go Go.VL Go.RowKit
end Go.Proofs.Trees
