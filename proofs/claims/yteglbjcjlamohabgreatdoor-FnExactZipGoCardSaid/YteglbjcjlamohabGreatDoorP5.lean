/-
  Part of a proof: Go functions read by values, trees of functions, their contracts.
-/
import Derived.Test.YteglbjcjlamohabGreatDoorP4
import Derived.Test.YteglbjcjlamohabGreatDoorProg
set_option linter.unusedVariables false
set_option linter.unusedSimpArgs false
namespace Go.Proofs.Trees
open Go Go.VL
noncomputable section
variable {R:AV->List Ob->Prop}
theorem Fqk0 (a0:ByteArray) (a1:ByteArray)   (h:wpT Tryz.prog 25 (tqa8 a0 a1) fun _ xs obs=>R (xs.headD .any) obs):FSpec Tryz.prog 169 [.v (.string a0),.v (.string a1)] [] R :=
 uQ (up_cons (up_refl _) (up_cons (up_refl _) up_nil)) (oQ [] Tryz.f169 (by kernel_rfl) (by kernel_rfl) (by kernel_rfl) h)
def tql (a0:AV) (e1_0_0:List (List AV)):Tree :=
 .call 172 [a0,.ref 0 0] [.cells [.vec 1],.vec 1 e1_0_0] fun r1 o1=>.need ((o1.headD .dead) = .cells (o1.headD .dead).cs)<|.need (hasC [.vec 1] ((o1.headD .dead).cs) 0 1 o1.tail)<|NZ a0<|NZ a0<|NPh (a0.deref.drop 3)<|NP ((a0.deref.drop 3).headD .any)<|.test (!((a0.deref.drop 3).headD .any).isNil) (NZ a0<|NZ a0<|NPh (a0.deref.drop 3)<|.call 171 [((a0.deref.drop 3).headD .any),.fn 172 [.ref 0 0]] [.cells [.vec 1],.vec 1 ((o1.tail.headD .dead).es)] fun r2 o2=>.need ((o2.headD .dead) = .cells (o2.headD .dead).cs)<|.need (hasC [.vec 1] ((o2.headD .dead).cs) 0 1 o2.tail)<|NZ a0<|NZ a0<|NPh (a0.deref.drop 4)<|NP ((a0.deref.drop 4).headD .any)<|.test (!((a0.deref.drop 4).headD .any).isNil) (NZ a0<|NZ a0<|NPh (a0.deref.drop 4)<|.call 171 [((a0.deref.drop 4).headD .any),.fn 172 [.ref 0 0]] [.cells [.vec 1],.vec 1 ((o2.tail.headD .dead).es)] fun r3 o3=>.need ((o3.headD .dead) = .cells (o3.headD .dead).cs)<|.need (hasC [.vec 1] ((o3.headD .dead).cs) 0 1 o3.tail)<|.done 0 [.any] [.cells [.vec 1],.vec 1 ((o3.tail.headD .dead).es)]) (.done 0 [.any] [.cells [.vec 1],.vec 1 ((o2.tail.headD .dead).es)])) (NZ a0<|NZ a0<|NPh (a0.deref.drop 4)<|NP ((a0.deref.drop 4).headD .any)<|.test (!((a0.deref.drop 4).headD .any).isNil) (NZ a0<|NZ a0<|NPh (a0.deref.drop 4)<|.call 171 [((a0.deref.drop 4).headD .any),.fn 172 [.ref 0 0]] [.cells [.vec 1],.vec 1 ((o1.tail.headD .dead).es)] fun r4 o4=>.need ((o4.headD .dead) = .cells (o4.headD .dead).cs)<|.need (hasC [.vec 1] ((o4.headD .dead).cs) 0 1 o4.tail)<|.done 0 [.any] [.cells [.vec 1],.vec 1 ((o4.tail.headD .dead).es)]) (.done 0 [.any] [.cells [.vec 1],.vec 1 ((o1.tail.headD .dead).es)]))
theorem Fq12 (a0:AV) (e1_0_0:List (List AV)) (ha0:LK.has .ptr a0)  (h:wpT Tryz.prog 29 (tql a0 e1_0_0) fun _ xs obs=>R (xs.headD .any) obs):FSpec Tryz.prog 171 [a0,.fn 172 [.ref 0 0]] [.cells [.vec 1],.vec 1 e1_0_0] R :=
 FSpec.upo (upos_cons (upo_cells (up_cons (up_refl _) up_nil)) (upos_cons (upo_refl _) upos_nil)) (FSpec.up (up_cons (up_ptr ha0) (up_cons (up_refl _) up_nil)) (FSpec.ofE (cfg:=cfg) (lis:=[]) (fc:={ mu:=[(1,.fn [some (.obj [.vec 1])])],own:=[] }) tab_ok mixed (F:=Tryz.f171) (by kernel_rfl) (by kernel_rfl) (by kernel_rfl) h))
def tq73 (a0:AV) (e1_0:List (List AV)):Tree :=
 NZ a0<|NZ a0<|.need (LK.has (.int .u8) (a0.deref.headD .any)/\1<=a0.deref.length)<|.test (((a0.deref.headD .any).toInt)==(110:Int)) (NZ a0<|NZ a0<|NSh (a0.deref.drop 1)<|.call 150 [.sl e1_0,.v (.string (((a0.deref.drop 1).headD .any).toStr))] [] fun r1 o1=>NB r1<|.test (!r1.toBool) (NZ a0<|NZ a0<|NSh (a0.deref.drop 1)<|.need (allLen 1 [[.v (.string (((a0.deref.drop 1).headD .any).toStr))]]/\((e1_0.length)+([[.v (.string (((a0.deref.drop 1).headD .any).toStr))]]:List (List AV)).length)*16<=140737488355328)<|.done 0 [.any] [.cells [.vec 1],.vec 1 (e1_0++([[.v (.string (((a0.deref.drop 1).headD .any).toStr))]]:List (List AV)))]) (.done 0 [.any] [.cells [.vec 1],.vec 1 e1_0])) (.done 0 [.any] [.cells [.vec 1],.vec 1 e1_0])
theorem Fqk5 (a0:AV) (e1_0:List (List AV)) (ha0:LK.has .ptr a0)  (h:wpT Tryz.prog 24 (tq73 a0 e1_0) fun _ xs obs=>R (xs.headD .any) obs):FSpec Tryz.prog 172 [a0,.ref 0 0] [.cells [.vec 1],.vec 1 e1_0] R :=
 FSpec.upo (upos_cons (upo_cells (up_cons (up_refl _) up_nil)) (upos_cons (upo_refl _) upos_nil)) (FSpec.up (up_cons (up_ptr ha0) (up_cons (up_refl _) up_nil)) (FSpec.ofE (cfg:=cfg) (lis:=[]) (fc:={ mu:=[(1,.one (.obj [.vec 1]))],own:=[] }) tab_ok mixed (F:=Tryz.f172) (by kernel_rfl) (by kernel_rfl) (by kernel_rfl) h))
def Lq4x:LI:={ hd:={ slots:=[(0,.k .sl),(1,.k .str),(7,.k (.int .i64)),(8,.k (.int .i64))] },xs:={},rt:={ slots:=[(4,.k (.int .i64))] },ex:=0 }
def Cqbm:Code:=loopAt (bodyOf Tryz.f173) 2
def lq9n:List (Nat×LI):=[(2,Lq4x)]
def tqec (a0:AV) (a1:ByteArray):Tree :=
 NL a0<|.loop Cqbm Lq4x [a0,.v (.string a1),.v (.int .i64 (a0.elems.length:Int)),.v (.int .i64 0)] [] (fun y1 q1=>.done 0 [.v (.int .i64 (-1))] []) (fun y1 q1=>NI (y1.headD .any)<|.done 0 [.v (.int .i64 ((y1.headD .any).toInt))] [])
theorem Fqki (a0:AV) (a1:ByteArray) (ha0:LK.has .sl a0)  (h:wpT Tryz.prog 19 (tqec a0 a1) fun _ xs obs=>R (xs.headD .any) obs):FSpec Tryz.prog 173 [a0,.v (.string a1)] [] R :=
 uQ (up_cons (up_sl ha0) (up_cons (up_refl _) up_nil)) (oQ lq9n Tryz.f173 (by kernel_rfl) (by kernel_rfl) (by kernel_rfl) h)
def rq6z (x0:AV) (x1:ByteArray) (x7:Int) (x8:Int):Tree :=
 NL x0<|NS (.v (.string x1))<|NI (.v (.int .i64 x7))<|NI (.v (.int .i64 x8))<|.test (decide (x8 < x7)) (NG x0 x8 1<|NSh (x0.elems.getD x8.toNat [])<|.test (ByteArray.toList x1==ByteArray.toList (((x0.elems.getD x8.toNat []).headD .any).toStr)) (.done 2 [.v (.int .i64 x8)] []) (.done 0 [x0,.v (.string x1),.v (.int .i64 x7),.v (.int .i64 (IntKind.wrap .i64 (x8+1)))] [])) (.done 1 [] [])
abbrev Lq6k:=LSpec Tryz.prog 19 Cqbm Lq4x
theorem Gqf4 (x0:AV) (x1:ByteArray) (x7:Int) (x8:Int) {R:RL} (h:wpT Tryz.prog 19 (rq6z x0 x1 x7 x8) (Rnd (fun ys o=>Lq6k ys o R) R)):Lq6k [x0,.v (.string x1),.v (.int .i64 x7),.v (.int .i64 x8)] [] R :=
 LSpec.ofE (cfg:=cfg) (lis:=lq9n) tab_ok mixed (by kernel_rfl) h
def tq9t (a0:AV):Tree :=
 .call 185 [a0,.v (.func (.func 144) #[] #[])] [] fun r1 o1=>NI r1<|.done 0 [.v (.bool (decide (r1.toInt ≥ (0:Int))))] []
theorem Fqhh (a0:AV) (ha0:LK.has .sl a0)  (h:wpT Tryz.prog 9 (tq9t a0) fun _ xs obs=>R (xs.headD .any) obs):FSpec Tryz.prog 174 [a0,.v (.func (.func 144) #[] #[])] [] R :=
 uQ (up_cons (up_sl ha0) (up_cons (up_refl _) up_nil)) (oQ [] Tryz.f174 (by kernel_rfl) (by kernel_rfl) (by kernel_rfl) h)
def tq21 (a0_0:ByteArray) (a0_1:AV) (a1:ByteArray):Tree :=
 .test (!(ByteArray.toList a0_0==ByteArray.toList (mk []))) (.test (ByteArray.toList a0_0==ByteArray.toList a1) (.done 0 [.tup [.agg [.v (.string (mk [49])),.v (.slice none 0 0)],.v (.bool true)]] []) (.done 0 [.tup [.agg [.v (.string (mk [48])),.v (.slice none 0 0)],.v (.bool true)]] [])) (.call 96 [.agg [.v (.string a0_0),a0_1]] [] fun r1 o1=>NS r1<|.test (ByteArray.toList r1.toStr==ByteArray.toList (mk [114,101,99])) (.call 198 [.agg [.v (.string a0_0),a0_1],.v (.string a1)] [] fun r2 o2=>NT r2<|.need ((r2.comp 0) = .agg (r2.comp 0).cs/\(r2.comp 0).cs.length = 2/\hasL [.str,.sl] ((r2.comp 0).cs) 0)<|NB (r2.comp 1)<|.done 0 [.tup [.agg [.v (.string (((r2.comp 0).cs.getD 0 .any).toStr)),((r2.comp 0).cs.getD 1 .any)],.v (.bool ((r2.comp 1).toBool))]] []) (NG a0_1 1 2<|NE (a0_1.elems.getD (1:Int).toNat [])<|.call 178 [.agg [.v (.string (((a0_1.elems.getD (1:Int).toNat []).getD 0 .any).toStr)),((a0_1.elems.getD (1:Int).toNat []).getD 1 .any)],.v (.string a1)] [] fun r3 o3=>NT r3<|.need ((r3.comp 0) = .agg (r3.comp 0).cs/\(r3.comp 0).cs.length = 2/\hasL [.str,.sl] ((r3.comp 0).cs) 0)<|NB (r3.comp 1)<|NG a0_1 2 2<|NE (a0_1.elems.getD (2:Int).toNat [])<|.call 178 [.agg [.v (.string (((a0_1.elems.getD (2:Int).toNat []).getD 0 .any).toStr)),((a0_1.elems.getD (2:Int).toNat []).getD 1 .any)],.v (.string a1)] [] fun r4 o4=>NT r4<|.need ((r4.comp 0) = .agg (r4.comp 0).cs/\(r4.comp 0).cs.length = 2/\hasL [.str,.sl] ((r4.comp 0).cs) 0)<|NB (r4.comp 1)<|.call 103 [.v (.string (mk [43])),.sl [[.v (.string (((r3.comp 0).cs.getD 0 .any).toStr)),((r3.comp 0).cs.getD 1 .any)],[.v (.string (((r4.comp 0).cs.getD 0 .any).toStr)),((r4.comp 0).cs.getD 1 .any)]]] [] fun r5 o5=>NA r5<|.call 96 [.agg [.v (.string a0_0),a0_1]] [] fun r6 o6=>NS r6<|.test (ByteArray.toList r6.toStr==ByteArray.toList (mk [42])) (NG a0_1 2 2<|NE (a0_1.elems.getD (2:Int).toNat [])<|.call 103 [.v (.string (mk [42])),.sl [[.v (.string (((r3.comp 0).cs.getD 0 .any).toStr)),((r3.comp 0).cs.getD 1 .any)],[.v (.string (((a0_1.elems.getD (2:Int).toNat []).getD 0 .any).toStr)),((a0_1.elems.getD (2:Int).toNat []).getD 1 .any)]]] [] fun r7 o7=>NA r7<|NG a0_1 1 2<|NE (a0_1.elems.getD (1:Int).toNat [])<|.call 103 [.v (.string (mk [42])),.sl [[.v (.string (((a0_1.elems.getD (1:Int).toNat []).getD 0 .any).toStr)),((a0_1.elems.getD (1:Int).toNat []).getD 1 .any)],[.v (.string (((r4.comp 0).cs.getD 0 .any).toStr)),((r4.comp 0).cs.getD 1 .any)]]] [] fun r8 o8=>NA r8<|.call 103 [.v (.string (mk [43])),.sl [[.v (.string ((r7.cs.getD 0 .any).toStr)),(r7.cs.getD 1 .any)],[.v (.string ((r8.cs.getD 0 .any).toStr)),(r8.cs.getD 1 .any)]]] [] fun r9 o9=>NA r9<|.test ((r3.comp 1).toBool) (.test ((r4.comp 1).toBool) (.call 160 [.agg [.v (.string ((r9.cs.getD 0 .any).toStr)),(r9.cs.getD 1 .any)]] [] fun r10 o10=>NI r10<|.done 0 [.tup [.agg [.v (.string ((r9.cs.getD 0 .any).toStr)),(r9.cs.getD 1 .any)],.v (.bool (decide (r10.toInt<=(400:Int))))]] []) (.done 0 [.tup [.agg [.v (.string ((r9.cs.getD 0 .any).toStr)),(r9.cs.getD 1 .any)],.v (.bool false)]] [])) (.done 0 [.tup [.agg [.v (.string ((r9.cs.getD 0 .any).toStr)),(r9.cs.getD 1 .any)],.v (.bool false)]] [])) (.test ((r3.comp 1).toBool) (.test ((r4.comp 1).toBool) (.call 160 [.agg [.v (.string ((r5.cs.getD 0 .any).toStr)),(r5.cs.getD 1 .any)]] [] fun r11 o11=>NI r11<|.done 0 [.tup [.agg [.v (.string ((r5.cs.getD 0 .any).toStr)),(r5.cs.getD 1 .any)],.v (.bool (decide (r11.toInt<=(400:Int))))]] []) (.done 0 [.tup [.agg [.v (.string ((r5.cs.getD 0 .any).toStr)),(r5.cs.getD 1 .any)],.v (.bool false)]] [])) (.done 0 [.tup [.agg [.v (.string ((r5.cs.getD 0 .any).toStr)),(r5.cs.getD 1 .any)],.v (.bool false)]] []))))
theorem Fq2l (a0_0:ByteArray) (a0_1:AV) (a1:ByteArray) (ha0_1:LK.has .sl a0_1)  (h:wpT Tryz.prog 79 (tq21 a0_0 a0_1 a1) fun _ xs obs=>R (xs.headD .any) obs):FSpec Tryz.prog 178 [.agg [.v (.string a0_0),a0_1],.v (.string a1)] [] R :=
 uQ (up_cons (up_agg (up_cons (up_refl _) (up_cons (up_sl ha0_1) up_nil))) (up_cons (up_refl _) up_nil)) (oQ [] Tryz.f178 (by kernel_rfl) (by kernel_rfl) (by kernel_rfl) h)
def tq7k (a0_0:ByteArray) (a0_1:AV) (a1:ByteArray) (a2_0:ByteArray) (a2_1:AV):Tree :=
 .call 181 [.agg [.v (.string a0_0),a0_1],.v (.string a1),.agg [.v (.string a2_0),a2_1]] [] fun r1 o1=>NB r1<|.test (!r1.toBool) (.done 0 [.tup [.agg [.v (.string a0_0),a0_1],.v (.bool false)]] []) (.call 182 [.agg [.v (.string a0_0),a0_1],.v (.string a1),.agg [.v (.string a2_0),a2_1]] [] fun r2 o2=>NA r2<|.done 0 [.tup [.agg [.v (.string ((r2.cs.getD 0 .any).toStr)),(r2.cs.getD 1 .any)],.v (.bool true)]] [])
theorem Fqi1 (a0_0:ByteArray) (a0_1:AV) (a1:ByteArray) (a2_0:ByteArray) (a2_1:AV) (ha0_1:LK.has .sl a0_1) (ha2_1:LK.has .sl a2_1)  (h:wpT Tryz.prog 18 (tq7k a0_0 a0_1 a1 a2_0 a2_1) fun _ xs obs=>R (xs.headD .any) obs):FSpec Tryz.prog 179 [.agg [.v (.string a0_0),a0_1],.v (.string a1),.agg [.v (.string a2_0),a2_1]] [] R :=
 uQ (up_cons (up_agg (up_cons (up_refl _) (up_cons (up_sl ha0_1) up_nil))) (up_cons (up_refl _) (up_cons (up_agg (up_cons (up_refl _) (up_cons (up_sl ha2_1) up_nil))) up_nil))) (oQ [] Tryz.f179 (by kernel_rfl) (by kernel_rfl) (by kernel_rfl) h)
def tqbn (a0:ByteArray):Tree :=
 .call 134 [.v (.string a0)] [] fun r1 o1=>NT r1<|.need ((r1.comp 0) = .agg (r1.comp 0).cs/\(r1.comp 0).cs.length = 2/\hasL [.str,.sl] ((r1.comp 0).cs) 0)<|NB (r1.comp 1)<|.done 0 [.v (.bool ((r1.comp 1).toBool))] []
theorem Fqjl (a0:ByteArray)   (h:wpT Tryz.prog 11 (tqbn a0) fun _ xs obs=>R (xs.headD .any) obs):FSpec Tryz.prog 180 [.v (.string a0)] [] R :=
 uQ (up_cons (up_refl _) up_nil) (oQ [] Tryz.f180 (by kernel_rfl) (by kernel_rfl) (by kernel_rfl) h)
def tqb1 (a0_0:ByteArray) (a0_1:AV) (a1:ByteArray) (a2_0:ByteArray) (a2_1:AV):Tree :=
 .call 160 [.agg [.v (.string a0_0),a0_1]] [] fun r1 o1=>NI r1<|.call 199 [.agg [.v (.string a0_0),a0_1],.v (.string a1)] [] fun r2 o2=>NI r2<|.call 160 [.agg [.v (.string a2_0),a2_1]] [] fun r3 o3=>NI r3<|.done 0 [.v (.bool (decide ((IntKind.wrap .i64 (r1.toInt+(IntKind.wrap .i64 (r2.toInt*(IntKind.wrap .i64 (r3.toInt - 1))))))<=(400:Int))))] []
theorem Fqgl (a0_0:ByteArray) (a0_1:AV) (a1:ByteArray) (a2_0:ByteArray) (a2_1:AV) (ha0_1:LK.has .sl a0_1) (ha2_1:LK.has .sl a2_1)  (h:wpT Tryz.prog 18 (tqb1 a0_0 a0_1 a1 a2_0 a2_1) fun _ xs obs=>R (xs.headD .any) obs):FSpec Tryz.prog 181 [.agg [.v (.string a0_0),a0_1],.v (.string a1),.agg [.v (.string a2_0),a2_1]] [] R :=
 uQ (up_cons (up_agg (up_cons (up_refl _) (up_cons (up_sl ha0_1) up_nil))) (up_cons (up_refl _) (up_cons (up_agg (up_cons (up_refl _) (up_cons (up_sl ha2_1) up_nil))) up_nil))) (oQ [] Tryz.f181 (by kernel_rfl) (by kernel_rfl) (by kernel_rfl) h)
def tqah (a0_0:ByteArray) (a0_1:AV) (a1:ByteArray) (a2_0:ByteArray) (a2_1:AV):Tree :=
 .call 123 [.agg [.v (.string a0_0),a0_1],.sl [[.v (.string a2_0),a2_1],[.v (.string a1),.v (.slice none 0 0)]]] [] fun r1 o1=>NA r1<|.call 200 [.agg [.v (.string ((r1.cs.getD 0 .any).toStr)),(r1.cs.getD 1 .any)],.v (.string a1),.agg [.v (.string a2_0),a2_1]] [] fun r2 o2=>NA r2<|.done 0 [.agg [.v (.string ((r2.cs.getD 0 .any).toStr)),(r2.cs.getD 1 .any)]] []
theorem Fqj9 (a0_0:ByteArray) (a0_1:AV) (a1:ByteArray) (a2_0:ByteArray) (a2_1:AV) (ha0_1:LK.has .sl a0_1) (ha2_1:LK.has .sl a2_1)  (h:wpT Tryz.prog 16 (tqah a0_0 a0_1 a1 a2_0 a2_1) fun _ xs obs=>R (xs.headD .any) obs):FSpec Tryz.prog 182 [.agg [.v (.string a0_0),a0_1],.v (.string a1),.agg [.v (.string a2_0),a2_1]] [] R :=
 uQ (up_cons (up_agg (up_cons (up_refl _) (up_cons (up_sl ha0_1) up_nil))) (up_cons (up_refl _) (up_cons (up_agg (up_cons (up_refl _) (up_cons (up_sl ha2_1) up_nil))) up_nil))) (oQ [] Tryz.f182 (by kernel_rfl) (by kernel_rfl) (by kernel_rfl) h)
def Lq4l:LI:={ hd:={ slots:=[(0,.k .sl),(1,.c (.func (.func 144) #[] #[])),(7,.k (.int .i64)),(8,.k (.int .i64))] },xs:={},rt:={ slots:=[(4,.k (.int .i64))] },ex:=0 }
def Cq7l:Code:=loopAt (bodyOf Tryz.f185) 2
def lq9e:List (Nat×LI):=[(2,Lq4l)]
def tqbq (a0:AV):Tree :=
 NL a0<|.loop Cq7l Lq4l [a0,.v (.func (.func 144) #[] #[]),.v (.int .i64 (a0.elems.length:Int)),.v (.int .i64 0)] [] (fun y2 q2=>.done 0 [.v (.int .i64 (-1))] []) (fun y2 q2=>NI (y2.headD .any)<|.done 0 [.v (.int .i64 ((y2.headD .any).toInt))] [])
theorem Fqhl (a0:AV) (ha0:LK.has .sl a0)  (h:wpT Tryz.prog 19 (tqbq a0) fun _ xs obs=>R (xs.headD .any) obs):FSpec Tryz.prog 185 [a0,.v (.func (.func 144) #[] #[])] [] R :=
 uQ (up_cons (up_sl ha0) (up_cons (up_refl _) up_nil)) (oQ lq9e Tryz.f185 (by kernel_rfl) (by kernel_rfl) (by kernel_rfl) h)
def rq3s (x0:AV) (x7:Int) (x8:Int):Tree :=
 NL x0<|.need (AV.v (.func (.func 144) #[] #[]) = .v (.func (.func 144) #[] #[]))<|NI (.v (.int .i64 x7))<|NI (.v (.int .i64 x8))<|.test (decide (x8 < x7)) (NG x0 x8 1<|NSh (x0.elems.getD x8.toNat [])<|.call 144 [.v (.string (((x0.elems.getD x8.toNat []).headD .any).toStr))] [] fun r1 o1=>NB r1<|.test r1.toBool (.done 2 [.v (.int .i64 x8)] []) (.done 0 [x0,.v (.func (.func 144) #[] #[]),.v (.int .i64 x7),.v (.int .i64 (IntKind.wrap .i64 (x8+1)))] [])) (.done 1 [] [])
abbrev Lq3j:=LSpec Tryz.prog 19 Cq7l Lq4l
theorem Gqad (x0:AV) (x7:Int) (x8:Int) {R:RL} (h:wpT Tryz.prog 19 (rq3s x0 x7 x8) (Rnd (fun ys o=>Lq3j ys o R) R)):Lq3j [x0,.v (.func (.func 144) #[] #[]),.v (.int .i64 x7),.v (.int .i64 x8)] [] R :=
 LSpec.ofE (cfg:=cfg) (lis:=lq9e) tab_ok mixed (by kernel_rfl) h
def Lq3g:LI:={ hd:={ slots:=[(17,.k (.int .i64))],refs:=[(4,4),(12,12),(14,14)],objs:=[(4,[.lk .str,.lk .sl]),(12,[.lk .str,.lk .sl]),(14,[.lk .str,.lk .sl])],vecs:=[(16,1)] },xs:={ slots:=[(17,.k (.int .i64))],refs:=[(4,4),(12,12),(14,14)],objs:=[(4,[.lk .str,.lk .sl]),(12,[.lk .str,.lk .sl]),(14,[.lk .str,.lk .sl])] },rt:={},ex:=0 }
def Cqan:Code:=loopAt (bodyOf Tryz.f198) 13
def lq7w:List (Nat×LI):=[(13,Lq3g)]
def tqd1 (a0_0:ByteArray) (a0_1:AV) (a1:ByteArray):Tree :=
 .call 123 [.agg [.v (.string a0_0),a0_1],.sl [[.v (.string a1),.v (.slice none 0 0)]]] [] fun r1 o1=>NA r1<|NG (r1.cs.getD 1 .any) 1 2<|NSh ((r1.cs.getD 1 .any).elems.getD (1:Int).toNat [])<|NG (r1.cs.getD 1 .any) 2 2<|NE ((r1.cs.getD 1 .any).elems.getD (2:Int).toNat [])<|.call 178 [.agg [.v (.string ((((r1.cs.getD 1 .any).elems.getD (2:Int).toNat []).getD 0 .any).toStr)),(((r1.cs.getD 1 .any).elems.getD (2:Int).toNat []).getD 1 .any)],.v (.string a1)] [] fun r2 o2=>NT r2<|.need ((r2.comp 0) = .agg (r2.comp 0).cs/\(r2.comp 0).cs.length = 2/\hasL [.str,.sl] ((r2.comp 0).cs) 0)<|NB (r2.comp 1)<|NG (r1.cs.getD 1 .any) 2 2<|NE ((r1.cs.getD 1 .any).elems.getD (2:Int).toNat [])<|.call 178 [.agg [.v (.string ((((r1.cs.getD 1 .any).elems.getD (2:Int).toNat []).getD 0 .any).toStr)),(((r1.cs.getD 1 .any).elems.getD (2:Int).toNat []).getD 1 .any)],.v (.string ((((r1.cs.getD 1 .any).elems.getD (1:Int).toNat []).headD .any).toStr))] [] fun r3 o3=>NT r3<|.need ((r3.comp 0) = .agg (r3.comp 0).cs/\(r3.comp 0).cs.length = 2/\hasL [.str,.sl] ((r3.comp 0).cs) 0)<|NB (r3.comp 1)<|.test (!((r2.comp 1).toBool)) (.done 0 [.tup [.agg [.v (.string ((r1.cs.getD 0 .any).toStr)),(r1.cs.getD 1 .any)],.v (.bool false)]] []) (.test (!((r3.comp 1).toBool)) (.done 0 [.tup [.agg [.v (.string ((r1.cs.getD 0 .any).toStr)),(r1.cs.getD 1 .any)],.v (.bool false)]] []) (.call 179 [.agg [.v (.string (((r2.comp 0).cs.getD 0 .any).toStr)),((r2.comp 0).cs.getD 1 .any)],.v (.string ((((r1.cs.getD 1 .any).elems.getD (1:Int).toNat []).headD .any).toStr)),.agg [.v (.string ((r1.cs.getD 0 .any).toStr)),(r1.cs.getD 1 .any)]] [] fun r4 o4=>NT r4<|.need ((r4.comp 0) = .agg (r4.comp 0).cs/\(r4.comp 0).cs.length = 2/\hasL [.str,.sl] ((r4.comp 0).cs) 0)<|NB (r4.comp 1)<|.call 179 [.agg [.v (.string (((r3.comp 0).cs.getD 0 .any).toStr)),((r3.comp 0).cs.getD 1 .any)],.v (.string ((((r1.cs.getD 1 .any).elems.getD (1:Int).toNat []).headD .any).toStr)),.agg [.v (.string ((r1.cs.getD 0 .any).toStr)),(r1.cs.getD 1 .any)]] [] fun r5 o5=>NT r5<|.need ((r5.comp 0) = .agg (r5.comp 0).cs/\(r5.comp 0).cs.length = 2/\hasL [.str,.sl] ((r5.comp 0).cs) 0)<|NB (r5.comp 1)<|.test (!((r4.comp 1).toBool)) (.done 0 [.tup [.agg [.v (.string ((r1.cs.getD 0 .any).toStr)),(r1.cs.getD 1 .any)],.v (.bool false)]] []) (.test (!((r5.comp 1).toBool)) (.done 0 [.tup [.agg [.v (.string ((r1.cs.getD 0 .any).toStr)),(r1.cs.getD 1 .any)],.v (.bool false)]] []) (.call 135 [.agg [.v (.string (((r5.comp 0).cs.getD 0 .any).toStr)),((r5.comp 0).cs.getD 1 .any)],.sl [],.vec 0] [.vec 1 []] fun r6 o6=>.need (r6 = .vec 1/\(o6.tail.headD .dead) = .vec 1 (o6.tail.headD .dead).es)<|.call 135 [.agg [.v (.string (((r4.comp 0).cs.getD 0 .any).toStr)),((r4.comp 0).cs.getD 1 .any)],.sl [],.vec 0] [.vec 1 ((o6.tail.headD .dead).es)] fun r7 o7=>.need (r7 = .vec 1/\(o7.tail.headD .dead) = .vec 1 (o7.tail.headD .dead).es)<|.loop Cqan Lq3g [.v (.int .i64 0)] [.cells [.v (.string (mk [])),.v (.slice none 0 0)],.cells [.v (.string (((r4.comp 0).cs.getD 0 .any).toStr)),((r4.comp 0).cs.getD 1 .any)],.cells [.v (.string (((r5.comp 0).cs.getD 0 .any).toStr)),((r5.comp 0).cs.getD 1 .any)],.vec 1 ((o7.tail.headD .dead).es)] (fun y10 q10=>NI (y10.headD .any)<|.need ((q10.headD .dead) = .cells (q10.headD .dead).cs)<|.need (hasK [.lk .str,.lk .sl] ((q10.headD .dead).cs) 0 q10.tail)<|.need (((q10.tail.drop 0).headD .dead) = .cells ((q10.tail.drop 0).headD .dead).cs)<|.need (hasK [.lk .str,.lk .sl] (((q10.tail.drop 0).headD .dead).cs) 0 ((q10.tail.drop 0).tail))<|.need ((((q10.tail.drop 0).tail.drop 0).headD .dead) = .cells (((q10.tail.drop 0).tail.drop 0).headD .dead).cs)<|.need (hasK [.lk .str,.lk .sl] ((((q10.tail.drop 0).tail.drop 0).headD .dead).cs) 0 (((q10.tail.drop 0).tail.drop 0).tail))<|.call 162 [.v (.int .i64 ((y10.headD .any).toInt))] [] fun r11 o11=>NS r11<|.need (ByteArray.size (mk [116])+ByteArray.size r11.toStr<=9223372036854775807)<|.call 103 [.v (.string (mk [42])),.sl [[.v (.string (((q10.tail.tail.headD .dead).cs.getD 0 .any).toStr)),((q10.tail.tail.headD .dead).cs.getD 1 .any)],[.v (.string (((mk [116]):ByteArray)++r11.toStr)),.v (.slice none 0 0)]]] [] fun r12 o12=>NA r12<|.call 103 [.v (.string (mk [43])),.sl [[.v (.string (((q10.tail.headD .dead).cs.getD 0 .any).toStr)),((q10.tail.headD .dead).cs.getD 1 .any)],[.v (.string ((r12.cs.getD 0 .any).toStr)),(r12.cs.getD 1 .any)]]] [] fun r13 o13=>NA r13<|.call 103 [.v (.string (mk [114,101,99])),.sl [[.v (.string (((mk [116]):ByteArray)++r11.toStr)),.v (.slice none 0 0)],[.v (.string ((r13.cs.getD 0 .any).toStr)),(r13.cs.getD 1 .any)]]] [] fun r14 o14=>NA r14<|.call 160 [.agg [.v (.string ((r14.cs.getD 0 .any).toStr)),(r14.cs.getD 1 .any)]] [] fun r15 o15=>NI r15<|.done 0 [.tup [.agg [.v (.string ((r14.cs.getD 0 .any).toStr)),(r14.cs.getD 1 .any)],.v (.bool (decide (r15.toInt<=(400:Int))))]] []) (fun y10 q10=>.fail)))))
theorem Fqgr (a0_0:ByteArray) (a0_1:AV) (a1:ByteArray) (ha0_1:LK.has .sl a0_1)  (h:wpT Tryz.prog 108 (tqd1 a0_0 a0_1 a1) fun _ xs obs=>R (xs.headD .any) obs):FSpec Tryz.prog 198 [.agg [.v (.string a0_0),a0_1],.v (.string a1)] [] R :=
 uQ (up_cons (up_agg (up_cons (up_refl _) (up_cons (up_sl ha0_1) up_nil))) (up_cons (up_refl _) up_nil)) (oQ lq7w Tryz.f198 (by kernel_rfl) (by kernel_rfl) (by kernel_rfl) h)
def rqc9 (x17:Int) (o4_0:ByteArray) (o4_1:AV) (o12_0:ByteArray) (o12_1:AV) (o14_0:ByteArray) (o14_1:AV) (e16:List (List AV)):Tree :=
 NI (.v (.int .i64 x17))<|.need (Ob.cells [.v (.string o4_0),o4_1] = .cells [.v (.string o4_0),o4_1])<|.need (hasK [.lk .str,.lk .sl] [.v (.string o4_0),o4_1] 0 [.cells [.v (.string o12_0),o12_1],.cells [.v (.string o14_0),o14_1],.vec 1 e16])<|.need (Ob.cells [.v (.string o12_0),o12_1] = .cells [.v (.string o12_0),o12_1])<|.need (hasK [.lk .str,.lk .sl] [.v (.string o12_0),o12_1] 0 [.cells [.v (.string o14_0),o14_1],.vec 1 e16])<|.need (Ob.cells [.v (.string o14_0),o14_1] = .cells [.v (.string o14_0),o14_1])<|.need (hasK [.lk .str,.lk .sl] [.v (.string o14_0),o14_1] 0 [.vec 1 e16])<|.need (Ob.vec 1 e16 = .vec 1 e16)<|.call 162 [.v (.int .i64 x17)] [] fun r1 o1=>NS r1<|.need (ByteArray.size (mk [116])+ByteArray.size r1.toStr<=9223372036854775807)<|.call 165 [.sl e16,.v (.string (((mk [116]):ByteArray)++r1.toStr))] [] fun r2 o2=>NB r2<|.test r2.toBool (.done 0 [.v (.int .i64 (IntKind.wrap .i64 (x17+1)))] [.cells [.v (.string o4_0),o4_1],.cells [.v (.string o12_0),o12_1],.cells [.v (.string o14_0),o14_1],.vec 1 e16]) (.done 1 [.v (.int .i64 x17)] [.cells [.v (.string o4_0),o4_1],.cells [.v (.string o12_0),o12_1],.cells [.v (.string o14_0),o14_1]])
abbrev Lq6j:=LSpec Tryz.prog 108 Cqan Lq3g
theorem Gqgc (x17:Int) (o4_0:ByteArray) (o4_1:AV) (o12_0:ByteArray) (o12_1:AV) (o14_0:ByteArray) (o14_1:AV) (e16:List (List AV)) {R:RL} (h:wpT Tryz.prog 108 (rqc9 x17 o4_0 o4_1 o12_0 o12_1 o14_0 o14_1 e16) (Rnd (fun ys o=>Lq6j ys o R) R)):Lq6j [.v (.int .i64 x17)] [.cells [.v (.string o4_0),o4_1],.cells [.v (.string o12_0),o12_1],.cells [.v (.string o14_0),o14_1],.vec 1 e16] R :=
 LSpec.ofE (cfg:=cfg) (lis:=lq7w) tab_ok mixed (by kernel_rfl) h
def tq1o (a0_0:ByteArray) (a0_1:AV) (a1:ByteArray):Tree :=
 .test (!(ByteArray.toList a0_0==ByteArray.toList (mk []))) (.test (ByteArray.toList a0_0==ByteArray.toList a1) (.done 0 [.v (.int .i64 1)] []) (.done 0 [.v (.int .i64 0)] [])) (.call 96 [.agg [.v (.string a0_0),a0_1]] [] fun r1 o1=>NS r1<|.test (ByteArray.toList r1.toStr==ByteArray.toList (mk [114,101,99])) (NG a0_1 1 2<|NSh (a0_1.elems.getD (1:Int).toNat [])<|.test (ByteArray.toList (((a0_1.elems.getD (1:Int).toNat []).headD .any).toStr)==ByteArray.toList a1) (.done 0 [.v (.int .i64 0)] []) (NG a0_1 2 2<|NE (a0_1.elems.getD (2:Int).toNat [])<|.call 199 [.agg [.v (.string (((a0_1.elems.getD (2:Int).toNat []).getD 0 .any).toStr)),((a0_1.elems.getD (2:Int).toNat []).getD 1 .any)],.v (.string a1)] [] fun r2 o2=>NI r2<|.done 0 [.v (.int .i64 r2.toInt)] [])) (NG a0_1 1 2<|NE (a0_1.elems.getD (1:Int).toNat [])<|.call 199 [.agg [.v (.string (((a0_1.elems.getD (1:Int).toNat []).getD 0 .any).toStr)),((a0_1.elems.getD (1:Int).toNat []).getD 1 .any)],.v (.string a1)] [] fun r3 o3=>NI r3<|NG a0_1 2 2<|NE (a0_1.elems.getD (2:Int).toNat [])<|.call 199 [.agg [.v (.string (((a0_1.elems.getD (2:Int).toNat []).getD 0 .any).toStr)),((a0_1.elems.getD (2:Int).toNat []).getD 1 .any)],.v (.string a1)] [] fun r4 o4=>NI r4<|.done 0 [.v (.int .i64 (IntKind.wrap .i64 (r3.toInt+r4.toInt)))] []))
theorem Fq26 (a0_0:ByteArray) (a0_1:AV) (a1:ByteArray) (ha0_1:LK.has .sl a0_1)  (h:wpT Tryz.prog 41 (tq1o a0_0 a0_1 a1) fun _ xs obs=>R (xs.headD .any) obs):FSpec Tryz.prog 199 [.agg [.v (.string a0_0),a0_1],.v (.string a1)] [] R :=
 uQ (up_cons (up_agg (up_cons (up_refl _) (up_cons (up_sl ha0_1) up_nil))) (up_cons (up_refl _) up_nil)) (oQ [] Tryz.f199 (by kernel_rfl) (by kernel_rfl) (by kernel_rfl) h)
def tq1m (a0_0:ByteArray) (a0_1:AV) (a1:ByteArray) (a2_0:ByteArray) (a2_1:AV):Tree :=
 .test (!(ByteArray.toList a0_0==ByteArray.toList (mk []))) (.test (ByteArray.toList a0_0==ByteArray.toList a1) (.done 0 [.agg [.v (.string a2_0),a2_1]] []) (.done 0 [.agg [.v (.string a0_0),a0_1]] [])) (.call 96 [.agg [.v (.string a0_0),a0_1]] [] fun r1 o1=>NS r1<|.test (ByteArray.toList r1.toStr==ByteArray.toList (mk [114,101,99])) (NG a0_1 1 2<|NSh (a0_1.elems.getD (1:Int).toNat [])<|.test (ByteArray.toList (((a0_1.elems.getD (1:Int).toNat []).headD .any).toStr)==ByteArray.toList a1) (.done 0 [.agg [.v (.string a0_0),a0_1]] []) (NG a0_1 1 2<|NE (a0_1.elems.getD (1:Int).toNat [])<|NG a0_1 2 2<|NE (a0_1.elems.getD (2:Int).toNat [])<|.call 200 [.agg [.v (.string (((a0_1.elems.getD (2:Int).toNat []).getD 0 .any).toStr)),((a0_1.elems.getD (2:Int).toNat []).getD 1 .any)],.v (.string a1),.agg [.v (.string a2_0),a2_1]] [] fun r2 o2=>NA r2<|.call 103 [.v (.string (mk [114,101,99])),.sl [[.v (.string (((a0_1.elems.getD (1:Int).toNat []).getD 0 .any).toStr)),((a0_1.elems.getD (1:Int).toNat []).getD 1 .any)],[.v (.string ((r2.cs.getD 0 .any).toStr)),(r2.cs.getD 1 .any)]]] [] fun r3 o3=>NA r3<|.done 0 [.agg [.v (.string ((r3.cs.getD 0 .any).toStr)),(r3.cs.getD 1 .any)]] [])) (.call 96 [.agg [.v (.string a0_0),a0_1]] [] fun r4 o4=>NS r4<|NG a0_1 1 2<|NE (a0_1.elems.getD (1:Int).toNat [])<|.call 200 [.agg [.v (.string (((a0_1.elems.getD (1:Int).toNat []).getD 0 .any).toStr)),((a0_1.elems.getD (1:Int).toNat []).getD 1 .any)],.v (.string a1),.agg [.v (.string a2_0),a2_1]] [] fun r5 o5=>NA r5<|NG a0_1 2 2<|NE (a0_1.elems.getD (2:Int).toNat [])<|.call 200 [.agg [.v (.string (((a0_1.elems.getD (2:Int).toNat []).getD 0 .any).toStr)),((a0_1.elems.getD (2:Int).toNat []).getD 1 .any)],.v (.string a1),.agg [.v (.string a2_0),a2_1]] [] fun r6 o6=>NA r6<|.call 103 [.v (.string r4.toStr),.sl [[.v (.string ((r5.cs.getD 0 .any).toStr)),(r5.cs.getD 1 .any)],[.v (.string ((r6.cs.getD 0 .any).toStr)),(r6.cs.getD 1 .any)]]] [] fun r7 o7=>NA r7<|.done 0 [.agg [.v (.string ((r7.cs.getD 0 .any).toStr)),(r7.cs.getD 1 .any)]] []))
theorem Fq2d (a0_0:ByteArray) (a0_1:AV) (a1:ByteArray) (a2_0:ByteArray) (a2_1:AV) (ha0_1:LK.has .sl a0_1) (ha2_1:LK.has .sl a2_1)  (h:wpT Tryz.prog 58 (tq1m a0_0 a0_1 a1 a2_0 a2_1) fun _ xs obs=>R (xs.headD .any) obs):FSpec Tryz.prog 200 [.agg [.v (.string a0_0),a0_1],.v (.string a1),.agg [.v (.string a2_0),a2_1]] [] R :=
 uQ (up_cons (up_agg (up_cons (up_refl _) (up_cons (up_sl ha0_1) up_nil))) (up_cons (up_refl _) (up_cons (up_agg (up_cons (up_refl _) (up_cons (up_sl ha2_1) up_nil))) up_nil))) (oQ [] Tryz.f200 (by kernel_rfl) (by kernel_rfl) (by kernel_rfl) h)
end
end Go.Proofs.Trees
namespace Go.Proofs.Trees
open Go Go.VL
theorem wrap_succ (i:Nat) (h:i < 1000000000000):IntKind.wrap .i64 ((i:Int)+1) = ((i+1:Nat):Int):=by rw [wrap64]<;>omega
inductive E where
 | atom (s:List UInt8)
 | list (l:List E)
mutual
def E.iav:E->AV
 | .atom s=>.ptr [.v (.string (mk s)),.v (.slice none 0 0)]
 | .list l=>.ptr [.v (.string (mk [])),.sl (E.iavs l)]
def E.iavs:List E->List (List AV)
 | []=>[]
 | e::l=>[e.iav]::E.iavs l
end
mutual
def E.scells:E->List AV
 | .atom s=>[.v (.string (mk s)),.v (.slice none 0 0)]
 | .list l=>[.v (.string (mk [])),.sl (E.scellss l)]
def E.scellss:List E->List (List AV)
 | []=>[]
 | e::l=>e.scells::E.scellss l
end
def E.sav (e:E):AV:=.agg e.scells
theorem iavs_app (l r:List E):E.iavs (l++r) = E.iavs l++E.iavs r:=by
 induction l with
 | nil=>rfl
 | cons e l ih=>simp [E.iavs,ih]
theorem scellss_app (l r:List E):E.scellss (l++r) = E.scellss l++E.scellss r:=by
 induction l with
 | nil=>rfl
 | cons e l ih=>simp [E.scellss,ih]
theorem iavs_len (l:List E):(E.iavs l).length = l.length:=by
 induction l with
 | nil=>rfl
 | cons e l ih=>simp [E.iavs,ih]
theorem scellss_len (l:List E):(E.scellss l).length = l.length:=by
 induction l with
 | nil=>rfl
 | cons e l ih=>simp [E.scellss,ih]
def isA (b:UInt8):Bool:=decide ((97<=b.toNat/\b.toNat<=122)\/(48<=b.toNat/\b.toNat<=57)\/b.toNat = 43\/b.toNat = 42)
def rdL (f:List UInt8->Option (E×List UInt8)):Nat->List UInt8->List E->Option (E×List UInt8)
 | 0,_,_=>none
 | n+1,s,acc=>match f s with
  | some (p,c::r)=>if c.toNat = 41 then some (.list (acc++[p]),r) else if c.toNat = 32 then rdL f n r (acc++[p]) else none
  | _=>none
def rd:Nat->List UInt8->Option (E×List UInt8)
 | 0,s=>if s.takeWhile isA = [] then none else some (.atom (s.takeWhile isA),s.dropWhile isA)
 | k+1,s=>if s.takeWhile isA = [] then(match s with
   | c::r=>if c.toNat = 40 then rdL (rd k) (r.length+1) r [] else none
   | []=>none) else some (.atom (s.takeWhile isA),s.dropWhile isA)
theorem rdL_lt {f:List UInt8->Option (E×List UInt8)} (hf:∀s e r,f s = some (e,r)->r.length < s.length):∀(n:Nat) (s:List UInt8) (acc:List E) (e:E) (r:List UInt8),rdL f n s acc = some (e,r)->r.length < s.length
 | 0,s,acc,e,r,h=>by cases h
 | n+1,s,acc,e,r,h=>by
  simp only [rdL] at h
  split at h
  ·rename_i p c r' hs
   have:=hf _ _ _ hs
   simp only [List.length_cons] at this
   split at h
   ·cases h; omega
   ·split at h
    ·have:=rdL_lt hf n _ _ _ _ h; omega
    ·cases h
  ·cases h
theorem dropWhile_lt {s:List UInt8} (h:¬ s.takeWhile isA = []):(s.dropWhile isA).length < s.length:=by
 have h1:=congrArg List.length (List.takeWhile_append_dropWhile (p:=isA) (l:=s))
 simp only [List.length_append] at h1
 have:0 < (s.takeWhile isA).length:=List.length_pos_iff.2 h
 omega
theorem rd_lt:∀(k:Nat) (s:List UInt8) (e:E) (r:List UInt8),rd k s = some (e,r)->r.length < s.length
 | 0,s,e,r,h=>by
  simp only [rd] at h
  split at h
  ·cases h
  ·rename_i hn; cases h; exact dropWhile_lt hn
 | k+1,s,e,r,h=>by
  simp only [rd] at h
  split at h
  ·split at h
   ·split at h
    ·have:=rdL_lt (rd_lt k) _ _ _ _ _ h
     simp only [List.length_cons]; omega
    ·cases h
   ·cases h
  ·rename_i hn; cases h; exact dropWhile_lt hn
theorem Sqim (b:UInt8):FSpec Tryz.prog 168 [.v (.int .u8 (b.toNat:Int))] [] (Det (.v (.bool (isA b)))):=by
 refine Fqgx _ ?_
 simp only [tq8k,↓zq,zs,hasK,Det,isA]
 repeat' (apply And.intro<;>intro _)
 all_goals first | (congr 2; rw [Bool.eq_iff_iff]; simp; omega) | (congr 2; simp; omega)
theorem tw_step {s:List UInt8} {i:Nat} (hi:i < s.length) (hb:isA (s.getD i 0) = true):((s.drop i).takeWhile isA).length = ((s.drop (i+1)).takeWhile isA).length+1:=by
 have e:s.drop i = s.getD i 0::s.drop (i+1):=by
  rw [List.drop_eq_getElem_cons hi]; simp [List.getD_eq_getElem?_getD,hi]
 rw [e,List.takeWhile_cons_of_pos hb]; simp
theorem tw_stop {s:List UInt8} {i:Nat} (hi:i < s.length) (hb:isA (s.getD i 0) = false):(s.drop i).takeWhile isA = []:=by
 have e:s.drop i = s.getD i 0::s.drop (i+1):=by
  rw [List.drop_eq_getElem_cons hi]; simp [List.getD_eq_getElem?_getD,hi]
 rw [e,List.takeWhile_cons_of_neg (by rw [hb]; simp)]
theorem Lq3u (s:List UInt8) (hs:s.length<=8000) (d:Int):∀(k i:Nat),i+k = s.length->Lq3q [.v (.string (mk s)),.v (.int .i64 d),.v (.int .i64 (i:Int))] [] (LIs 1 [.v (.string (mk s)),.v (.int .i64 d),.v (.int .i64 ((i+((s.drop i).takeWhile isA).length:Nat):Int))] [])
 | 0,i,hi=>by
  refine Gq93 _ _ _ ?_
  have hd:s.drop i = []:=List.drop_eq_nil_of_le (by omega)
  simp only [rq6x,↓zq,zs,hasK,zt]
  exact⟨fun h=>by omega,fun _=>by simp [LIs,hd]⟩
 | k+1,i,hi=>by
  have hlt:i < s.length:=by omega
  refine Gq93 _ _ _ ?_
  simp only [rq6x,↓zq,zs,hasK,zt,bt_mk s i hlt]
  refine⟨fun _=>⟨by omega,?_⟩,fun h=>by omega⟩
  refine wp_det (Sqim _) ?_
  simp only [↓zq,zs,hasK]
  refine⟨fun hb=>?_,fun hb=>?_⟩
  ·rw [wrap_succ i (by omega)]
   have:=Lq3u s hs d k (i+1) (by omega)
   rw [tw_step hlt hb,show i+(((s.drop (i+1)).takeWhile isA).length+1) = i+1+((s.drop (i+1)).takeWhile isA).length by omega]
   exact this
  ·simp [LIs,tw_stop hlt hb]
def iRes (s:List UInt8):Option (E×List UInt8)->AV
 | some (e,r)=>.tup [e.iav,.v (.string (mk r))]
 | none=>.tup [.v (.pointer none),.v (.string (mk s))]
theorem iav_has (e:E):LK.has .ptr e.iav = True:=by cases e<;>simp [E.iav,has_ptr]
theorem iav_nil (e:E):e.iav.isNil = false:=by cases e<;>rfl
theorem take_tw (s:List UInt8):s.take (s.takeWhile isA).length = s.takeWhile isA:=by
 have h:=List.takeWhile_append_dropWhile (p:=isA) (l:=s)
 have:(s.takeWhile isA++s.dropWhile isA).take (s.takeWhile isA).length = s.takeWhile isA:=List.take_left
 rw [h] at this; exact this
theorem drop_tw (s:List UInt8):s.drop (s.takeWhile isA).length = s.dropWhile isA:=by
 have h:=List.takeWhile_append_dropWhile (p:=isA) (l:=s)
 have:(s.takeWhile isA++s.dropWhile isA).drop (s.takeWhile isA).length = s.dropWhile isA:=List.drop_left
 rw [h] at this; exact this
theorem drop1 (c:UInt8) (r:List UInt8):(List.take (r.length+1) (c::r)).drop (Int.toNat 1) = r:=by simp
theorem Lqae (s0:List UInt8) (k:Nat) (hk:k < 300) (ih:∀s,s.length<=8000->FSpec Tryz.prog 142 [.v (.string (mk s)),.v (.int .i64 ((300 - k:Nat):Int))] [] (Det (iRes s (rd k s)))) :
  ∀(n:Nat) (s:List UInt8) (acc:List E),s.length < n->s.length+acc.length<=8000->Lq4g [.v (.string (mk s0)),.v (.int .i64 ((300 - (k+1):Nat):Int)),.v (.string (mk s))] [.cells [.v (.string (mk [])),.any],.vec 1 (E.iavs acc)]
   (LBy (match rdL (rd k) n s acc with | some (e,r)=>(2,[e.iav,.v (.string (mk r))],[]) | none=>(2,[.v (.pointer none),.v (.string (mk s0))],[])))
 | 0,s,acc,hn,_=>by omega
 | n+1,s,acc,hn,hl=>by
  refine Gqgm _ _ _ _ _ ?_
  simp only [rqeg,↓zq,zs,hasK,es_vec]
  have hd:IntKind.wrap .i64 (((300 - (k+1):Nat):Int)+1) = ((300 - k:Nat):Int):=by rw [wrap64]<;>omega
  rw [hd]
  refine wp_det (ih s (by omega)) ?_
  have hlt:=rd_lt k s
  cases hr:rd k s with
  | none =>
   simp only [iRes,↓zq,zs,hasK,rdL,hr]
   simp [LBy]
  | some q =>
   obtain⟨e,r⟩:=q
   have:=hlt e r hr
   cases r with
   | nil =>
    simp only [iRes,↓zq,zs,hasK,zt,rdL,hr,iav_has,iav_nil]
    simp [LBy]
   | cons c r =>
    simp only [List.length_cons] at this
    have hb:=bt_mk (c::r) 0 (by simp)
    simp only [Int.ofNat_eq_natCast,Int.cast_ofNat_Int] at hb
    have e2:(List.take (c::r).length (c::r)).drop 1 = r:=by simp
    simp only [iRes,↓zq,zs,hasK,zt,rdL,hr,iav_has,iav_nil,hb,e2,iavs_len]
    refine⟨fun h=>(by cases h),fun _=>⟨fun h=>(by cases h),fun _=>⟨⟨fun c hc=>(by simp at hc; rw [hc]; rfl),by omega⟩,by omega,by omega,fun h41=>?_,fun h41=>⟨by omega,fun h32=>?_,fun h32=>?_⟩⟩⟩⟩
    ·have h41':c.toNat = 41:=by omega
     rw [drop1,if_pos h41']
     simp [LBy,E.iav,iavs_app,E.iavs]
    ·have h41':¬ c.toNat = 41:=by omega
     have h32':¬ c.toNat = 32:=by omega
     rw [if_neg h41',if_neg h32']
    ·have h41':¬ c.toNat = 41:=by omega
     have h32':c.toNat = 32:=by omega
     rw [drop1,if_neg h41',if_pos h32']
     have:=Lqae s0 k hk ih n r (acc++[e]) (by omega) (by simp; omega)
     simpa [iavs_app,E.iavs] using this
theorem Sqhp:∀(k:Nat),k<=300->∀s:List UInt8,s.length<=8000->FSpec Tryz.prog 142 [.v (.string (mk s)),.v (.int .i64 ((300 - k:Nat):Int))] [] (Det (iRes s (rd k s))):=by
 intro k
 induction k with
 | zero =>
  intro hk s hs
  refine Fqe6 _ _ ?_
  unfold tq5q
  refine wp_loop1 (Lq3u s hs _ s.length 0 (by omega)) ?_
  simp only [↓zq,zs,hasK,zt,Nat.zero_add,Det]
  have hw:(s.takeWhile isA).length<=s.length:=by
   have:=congrArg List.length (List.takeWhile_append_dropWhile (p:=isA) (l:=s))
   simp only [List.length_append] at this; omega
  refine⟨fun h=>⟨by omega,by omega,?_⟩,fun h=>?_⟩
  ·have hne:¬ s.takeWhile isA = []:=fun e=>by rw [e] at h; simp at h
   simp only [rd,if_neg hne,iRes,E.iav,take_tw,drop_tw]
  ·have hnil:s.takeWhile isA = []:=List.eq_nil_of_length_eq_zero (by omega)
   simp only [rd,if_pos hnil,iRes]
   refine⟨fun _=>trivial,fun hne=>⟨?_,?_⟩⟩
   ·cases s with
    | nil=>exact absurd rfl hne
    | cons c s=>simp
   ·exact⟨fun _=>trivial,fun _=>⟨fun _=>trivial,fun h=>absurd rfl h⟩⟩
 | succ k ih =>
  intro hk s hs
  refine Fqe6 _ _ ?_
  unfold tq5q
  refine wp_loop1 (Lq3u s hs _ s.length 0 (by omega)) ?_
  simp only [↓zq,zs,hasK,zt,Nat.zero_add,Det]
  have hw:(s.takeWhile isA).length<=s.length:=by
   have:=congrArg List.length (List.takeWhile_append_dropWhile (p:=isA) (l:=s))
   simp only [List.length_append] at this; omega
  refine⟨fun h=>⟨by omega,by omega,?_⟩,fun h=>?_⟩
  ·have hne:¬ s.takeWhile isA = []:=fun e=>by rw [e] at h; simp at h
   simp only [rd,if_neg hne,iRes,E.iav,take_tw,drop_tw]
  ·have hnil:s.takeWhile isA = []:=List.eq_nil_of_length_eq_zero (by omega)
   simp only [rd,if_pos hnil]
   cases s with
   | nil=>simp [iRes]
   | cons c s =>
    have hb:=bt_mk (c::s) 0 (by simp)
    simp only [Int.ofNat_eq_natCast,Int.cast_ofNat_Int] at hb
    simp only [List.length_cons] at hs
    simp only [↓zq,zs,hasK,hb,drop1]
    refine⟨fun h=>(by cases h),fun _=>⟨by omega,fun h40=>?_,fun h40=>⟨fun h300=>?_,fun h300=>⟨by omega,?_⟩⟩⟩⟩
    ·have:¬ c.toNat = 40:=by omega
     rw [if_neg this]; rfl
    ·omega
    ·have h40':c.toNat = 40:=by omega
     rw [if_pos h40']
     refine wp_loopB (Lqae (c::s) k (by omega) (ih (by omega)) (s.length+1) s [] (by omega) (by simp; omega)) (fun ys o e=>?_) (fun ys o e=>?_)
     ·split at e<;>cases e
     ·split at e<;>cases e
      ·rename_i e' r' hr
       simp only [↓zq,zs,hasK,iav_has]
       simp only [hr,iRes]
      ·rename_i hr
       simp only [↓zq,zs,hasK]
       simp only [hr,iRes]
end Go.Proofs.Trees
namespace Go.Proofs.Trees
open Go Go.VL
mutual
def E.sz:E->Nat
 | .atom _=>1
 | .list l=>1+E.szs l
def E.szs:List E->Nat
 | []=>0
 | e::l=>e.sz+E.szs l
end
mutual
def E.ok:E->Prop
 | .atom s=>s≠[]
 | .list l=>E.oks l
def E.oks:List E->Prop
 | []=>True
 | e::l=>e.ok/\E.oks l
end
theorem szs_app (l r:List E):E.szs (l++r) = E.szs l+E.szs r:=by
 induction l with
 | nil=>simp [E.szs]
 | cons e l ih=>simp [E.szs,ih]; omega
theorem oks_app (l r:List E):E.oks (l++r)↔E.oks l/\E.oks r:=by
 induction l with
 | nil=>simp [E.oks]
 | cons e l ih=>simp [E.oks,ih,and_assoc]
theorem rdL_ok {f:List UInt8->Option (E×List UInt8)} (hf:∀s e r,f s = some (e,r)->e.ok/\e.sz+r.length<=s.length):∀(n:Nat) (s:List UInt8) (acc:List E) (e:E) (r:List UInt8),rdL f n s acc = some (e,r)->E.oks acc->e.ok/\e.sz+r.length<=s.length+1+E.szs acc
 | 0,s,acc,e,r,h,_=>by cases h
 | n+1,s,acc,e,r,h,ha=>by
  simp only [rdL] at h
  split at h
  ·rename_i p c r' hs
   obtain⟨h1,h2⟩:=hf _ _ _ hs
   simp only [List.length_cons] at h2
   split at h
   ·cases h
    refine⟨(oks_app _ _).2 ⟨ha,h1,trivial⟩,?_⟩
    simp only [E.sz,szs_app,E.szs]; omega
   ·split at h
    ·have:=rdL_ok hf n _ _ _ _ h ((oks_app _ _).2 ⟨ha,h1,trivial⟩)
     refine⟨this.1,?_⟩
     have h3:=this.2
     simp only [szs_app,E.szs] at h3; omega
    ·cases h
  ·cases h
theorem tw_len (s:List UInt8):(s.takeWhile isA).length+(s.dropWhile isA).length = s.length:=by
 have:=congrArg List.length (List.takeWhile_append_dropWhile (p:=isA) (l:=s))
 simpa only [List.length_append] using this
theorem rd_ok:∀(k:Nat) (s:List UInt8) (e:E) (r:List UInt8),rd k s = some (e,r)->e.ok/\e.sz+r.length<=s.length
 | 0,s,e,r,h=>by
  simp only [rd] at h
  split at h
  ·cases h
  ·rename_i hn; cases h
   have:=tw_len s
   have:0 < (s.takeWhile isA).length:=List.length_pos_iff.2 hn
   exact⟨hn,by simp only [E.sz]; omega⟩
 | k+1,s,e,r,h=>by
  simp only [rd] at h
  split at h
  ·split at h
   ·split at h
    ·have:=rdL_ok (rd_ok k) _ _ _ _ _ h trivial
     refine⟨this.1,?_⟩
     have h3:=this.2
     simp only [E.szs,List.length_cons] at h3 |-; omega
    ·cases h
   ·cases h
  ·rename_i hn; cases h
   have:=tw_len s
   have:0 < (s.takeWhile isA).length:=List.length_pos_iff.2 hn
   exact⟨hn,by simp only [E.sz]; omega⟩
def rdT (s:List UInt8):Option E:=if s.length > 8000 then none else match rd 300 s with | some (e,[])=>some e | _=>none
theorem rdT_ok {s:List UInt8} {e:E} (h:rdT s = some e):e.ok/\e.sz<=8000:=by
 unfold rdT at h
 split at h
 ·cases h
 ·split at h
  ·rename_i e' hr
   cases h
   have:=rd_ok _ _ _ _ hr
   exact⟨this.1,by have:=this.2; simp at this; omega⟩
  ·cases h
def optP:Option E->AV
 | some e=>e.iav
 | none=>.v (.pointer none)
theorem Sq77 (s:List UInt8):FSpec Tryz.prog 104 [.v (.string (mk s))] [] (Det (optP (rdT s))):=by
 refine Fqgo _ ?_
 simp only [tqa4,↓zq,zs,hasK,zt,Det,rdT]
 refine⟨fun h=>?_,fun h=>?_⟩
 ·rw [if_pos (by omega)]; simp [optP]
 ·rw [if_neg (by omega)]
  refine wp_det (Sqhp 300 (by omega) s (by omega)) ?_
  cases hr:rd 300 s with
  | none =>
   simp only [iRes,↓zq,zs,hasK,zt,optP]
   refine⟨fun _=>trivial,fun _=>trivial⟩
  | some q =>
   obtain⟨e,r⟩:=q
   cases r with
   | nil=>simp only [iRes,↓zq,zs,hasK,zt,optP,iav_has]; simp
   | cons c r=>simp only [iRes,↓zq,zs,hasK,zt,optP,iav_has]; simp
def isDg (b:UInt8):Bool:=decide (48<=b.toNat/\b.toNat<=57)
def named (lo hi:Nat):List UInt8->Bool
 | []=>false
 | c::r=>decide (r.length<=2)&&decide (lo<=c.toNat/\c.toNat<=hi)&&r.all isDg
def isPar (s:List UInt8):Bool:=named 120 122 s
def isLoo (s:List UInt8):Bool:=named 116 116 s
def inR (v lo hi:Int):Bool:=decide (lo<=v/\v<=hi)
theorem Sq1y (v lo hi:Int):FSpec Tryz.prog 48 [.v (.int .i64 v),.v (.int .i64 lo),.v (.int .i64 hi)] [] (Det (.v (.bool (inR v lo hi)))):=by
 refine Fqiu _ _ _ ?_
 simp only [tqfo,↓zq,zs,hasK,Det,inR]
 constructor<;>intro h<;>simp at h<;>simp [h]
 omega
theorem Lq8r (s:List UInt8) (hs:s.length<=3):∀(k i:Nat),i+k = s.length->Lq50 [.v (.string (mk s)),.v (.int .i64 (i:Int))] [] (LBy (if(s.drop i).all isDg = true then(1,[],[]) else(2,[.v (.bool false)],[])))
 | 0,i,hi=>by
  have hd:s.drop i = []:=List.drop_eq_nil_of_le (by omega)
  refine Gqcp _ _ ?_
  simp only [rq31,↓zq,zs,hasK,zt]
  exact⟨fun h=>by omega,fun _=>by simp [LBy,hd]⟩
 | k+1,i,hi=>by
  have hlt:i < s.length:=by omega
  have e:s.drop i = s.getD i 0::s.drop (i+1):=by
   rw [List.drop_eq_getElem_cons hlt]; simp [List.getD_eq_getElem?_getD,hlt]
  refine Gqcp _ _ ?_
  simp only [rq31,↓zq,zs,hasK,zt,bt_mk s i hlt,e,List.all_cons]
  generalize hb:s.getD i 0 = b
  refine⟨fun _=>⟨by omega,fun h=>?_,fun h=>⟨by omega,fun h2=>?_,fun h2=>?_⟩⟩,fun h=>by omega⟩
  ·have:isDg b = false:=by simp [isDg]; omega
   simp only [this,zf,LBy]
  ·have:isDg b = false:=by simp [isDg]; omega
   simp only [this,zf,LBy]
  ·have:isDg b = true:=by simp [isDg]; omega
   rw [wrap_succ i (by omega),this,Bool.true_and]
   exact Lq8r s hs k (i+1) (by omega)
theorem Sqds (s:List UInt8) (lo hi:Nat):FSpec Tryz.prog 166 [.v (.string (mk s)),.v (.int .u8 (lo:Int)),.v (.int .u8 (hi:Int))] [] (Det (.v (.bool (named lo hi s)))):=by
 refine Fqhz _ _ _ ?_
 unfold tqa6
 rw [size_mk]
 refine wp_det (Sq1y _ _ _) ?_
 simp only [↓zq,zs,hasK,zt,Det]
 refine⟨fun h=>?_,fun h=>?_⟩
 ·cases s with
  | nil=>rfl
  | cons c s =>
   simp [inR] at h
   have:¬ s.length<=2:=by omega
   simp [named,this]
 ·cases s with
  | nil=>simp [inR] at h
  | cons c s =>
   simp [inR] at h
   have hl:s.length<=2:=by omega
   have hb:=bt_mk (c::s) 0 (by simp)
   simp only [Int.ofNat_eq_natCast,Int.cast_ofNat_Int] at hb
   simp only [↓zq,zs,hasK,hb]
   refine⟨by omega,fun h1=>?_,fun h1=>⟨by omega,fun h2=>?_,fun h2=>?_⟩⟩
   ·have:¬ lo<=c.toNat:=by omega
    simp [named,this]
   ·have:¬ c.toNat<=hi:=by omega
    simp [named,this]
   ·refine wp_loopB (Lq8r (c::s) (by simp; omega) s.length 1 (by simp; omega)) (fun ys o e=>?_) (fun ys o e=>?_)
    ·split at e<;>cases e
     rename_i ha
     simp at ha
     simp only [↓zq,zs,hasK]
     simp [named,hl]
     exact⟨⟨by omega,by omega⟩,fun x hx=>by simpa using ha x hx⟩
    ·split at e<;>cases e
     rename_i ha
     simp only [↓zq,zs,hasK]
     have:s.all isDg = false:=by simpa using ha
     simp [named,this]
theorem Sq34 (s:List UInt8):FSpec Tryz.prog 140 [.v (.string (mk s))] [] (Det (.v (.bool (isPar s)))):=by
 refine Fqk6 _ ?_
 unfold tq9o
 refine wp_det (Sqds s 120 122) ?_
 simp only [↓zq,zs,hasK,Det,isPar]
theorem Sq4m (s:List UInt8):FSpec Tryz.prog 136 [.v (.string (mk s))] [] (Det (.v (.bool (isLoo s)))):=by
 refine Fqgd _ ?_
 unfold tqdx
 refine wp_det (Sqds s 116 116) ?_
 simp only [↓zq,zs,hasK,Det,isLoo]
end Go.Proofs.Trees
namespace Go.Proofs.Trees
open Go Go.VL Go.RowKit
theorem Sqkg (l:List UInt8) (c:UInt8):FSpec Tryz.prog 183 [.v (.string (mk l)),.v (.string (mk [c]))] [] (Det (.v (.bool (decide (0<=Lib.indexByte l c))))):=by
 refine FSpec.lib (xs:=[.string (mk l),.string (mk [c])]) ⟨fd_strings_Contains,by kernel_rfl,by kernel_rfl,by kernel_rfl⟩ fun w=>?_
 have:=Any.strings_Contains_one Tryz.lays144 (mk l) c w
 refine Calls.mono this fun e w' ⟨h1,h2⟩=>?_
 rw [h2]
 have hd:(mk l).data.toList = l:=by simp [mk]
 exact⟨by rw [h1,hd],Below.refl _ _⟩
theorem Sqcj (l cs:List UInt8) (hl:l.length<=1000000) (hc:cs.length<=1000) (ha:∀b,b∈cs->b.toNat < 128):FSpec Tryz.prog 177 [.v (.string (mk l)),.v (.string (mk cs))] [] (Det (.v (.string (mk (Lib.trimS l cs))))):=by
 refine FSpec.lib (xs:=[.string (mk l),.string (mk cs)]) ⟨fd_strings_Trim,by kernel_rfl,by kernel_rfl,by kernel_rfl⟩ fun w=>?_
 have:=Any.strings_Trim_laid Tryz.lays160 (by kernel_rfl) (mk l) (mk cs) w (by rw [size_mk]; omega) (by rw [size_mk]; omega) (fun j b hj=>ha b (by
  have:(mk cs).data.toList = cs:=by simp [mk]
  rw [this] at hj
  exact List.mem_of_getElem? hj))
 refine Calls.mono this fun e w' ⟨h1,h2⟩=>⟨?_,h2⟩
 rw [h1]
 simp [mk]
theorem indexByte_mem:∀(l:List UInt8) (c:UInt8),(0<=Lib.indexByte l c↔c∈l)/\-1<=Lib.indexByte l c
 | [],c=>by simp [Lib.indexByte]
 | b::l,c=>by
  obtain⟨h1,h2⟩:=indexByte_mem l c
  unfold Lib.indexByte
  by_cases e:b = c
  ·subst e; simp
  ·have e':(b==c) = false:=by simp [e]
   rw [e']
   by_cases q:Lib.indexByte l c = -1
   ·have:c ∉ l:=fun h=>by have:=h1.2 h; omega
    simp [q,this,Ne.symm e]
   ·have q':(Lib.indexByte l c==-1) = false:=by simp [q]
    simp only [q',Bool.false_eq_true,if_false,List.mem_cons]
    constructor
    ·constructor
     ·intro h; exact .inr (h1.1 (by omega))
     ·intro h
      rcases h with h | h
      ·exact absurd h.symm e
      ·have:=h1.2 h; omega
    ·omega
theorem dropWhile_nil {p:UInt8->Bool}:∀(l:List UInt8),l.dropWhile p = []↔l.all p = true
 | []=>by simp
 | b::l=>by
  cases h:p b with
  | true=>rw [List.dropWhile_cons_of_pos h,dropWhile_nil l]; simp [h]
  | false=>rw [List.dropWhile_cons_of_neg (by rw [h]; simp)]; simp [h]
theorem trimS_nil (l cs:List UInt8):Lib.trimS l cs = []↔l.all (cs.contains ·) = true:=by
 unfold Lib.trimS Lib.trimLeftS
 rw [dropWhile_nil]
 unfold Lib.trimRightS
 constructor
 ·intro h
  by_cases hn:l.reverse.dropWhile (cs.contains ·) = []
  ·rw [dropWhile_nil] at hn
   simpa using hn
  ·exfalso
   rw [List.all_reverse] at h
   obtain⟨b,r,e⟩:=List.exists_cons_of_ne_nil hn
   have h1:cs.contains b = false:=by
    have:=List.head_dropWhile_not (p:=(cs.contains ·)) (l:=l.reverse) hn
    simp only [e,List.head_cons] at this
    exact this
   rw [e] at h
   simp only [List.all_cons,Bool.and_eq_true] at h
   rw [h1] at h; cases h.1
 ·intro h
  have:l.reverse.dropWhile (cs.contains ·) = []:=by rw [dropWhile_nil]; simpa using h
  rw [this]; rfl
def dgs:List UInt8:=[48,49,50,51,52,53,54,55,56,57]
theorem dgs_isDg (b:UInt8):dgs.contains b = isDg b:=by
 have:∀n:Fin 256,dgs.contains (UInt8.ofNat n.val) = isDg (UInt8.ofNat n.val):=by decide +kernel
 have:=this ⟨b.toNat,b.toNat_lt⟩
 simpa using this
theorem Sqd9 (s ls:List UInt8) (lo hi:Nat) (hls:∀c:UInt8,c∈ls↔lo<=c.toNat/\c.toNat<=hi):FSpec Tryz.prog 169 [.v (.string (mk s)),.v (.string (mk ls))] [] (Det (.v (.bool (named lo hi s)))):=by
 refine Fqk0 _ _ ?_
 simp only [tqa8,↓zq,zs,hasK,zt,Det]
 cases s with
 | nil=>exact⟨fun h=>by simp at h,fun _=>rfl⟩
 | cons c s =>
  have e1:(List.take (Int.toNat 1) (c::s)) = [c]:=rfl
  have e2:(List.take (s.length+1) (c::s)).drop (Int.toNat 1) = s:=by simp
  simp only [List.length_cons,e1,e2]
  refine⟨fun _=>⟨fun h3=>⟨by omega,?_⟩,fun h3=>?_⟩,fun h=>by omega⟩
  ·have hl:s.length<=2:=by omega
   refine wp_det (Sqkg ls c) ?_
   simp only [↓zq,zs,hasK]
   have hi1:=(indexByte_mem ls c).1
   refine⟨fun h=>⟨by omega,?_⟩,fun h=>?_⟩
   ·refine wp_det (Sqcj s dgs (by omega) (by decide) (by decide)) ?_
    simp only [↓zq,zs,hasK,zt]
    have hc:=(hls c).1 (hi1.1 h)
    congr 2
    rw [Bool.eq_iff_iff,beq_iff_eq,trimS_nil]
    simp only [named,hl,hc,decide_true,Bool.true_and,and_self]
    have:(fun x=>dgs.contains x) = isDg:=funext dgs_isDg
    rw [this]
   ·have hc:¬ (lo<=c.toNat/\c.toNat<=hi):=fun h'=>h (hi1.2 ((hls c).2 h'))
    simp only [named,hc,zf]
  ·have hl:¬ s.length<=2:=by omega
   simp only [named,hl,zf]
theorem Sqax (s:List UInt8):FSpec Tryz.prog 143 [.v (.string (mk s))] [] (Det (.v (.bool (isPar s)))):=by
 refine Fqha _ ?_
 unfold tqbr
 have h:∀n:Fin 256,(UInt8.ofNat n.val∈[(120:UInt8),121,122])↔120<=(UInt8.ofNat n.val).toNat/\(UInt8.ofNat n.val).toNat<=122:=by decide +kernel
 refine wp_det (Sqd9 s [120,121,122] 120 122 fun c=>by simpa using h ⟨c.toNat,c.toNat_lt⟩) ?_
 simp only [↓zq,zs,hasK,Det,isPar]
theorem Sq28 (s:List UInt8):FSpec Tryz.prog 144 [.v (.string (mk s))] [] (Det (.v (.bool (isLoo s)))):=by
 refine Fqjw _ ?_
 unfold tqc6
 have h:∀n:Fin 256,(UInt8.ofNat n.val∈[(116:UInt8)])↔116<=(UInt8.ofNat n.val).toNat/\(UInt8.ofNat n.val).toNat<=116:=by decide +kernel
 refine wp_det (Sqd9 s [116] 116 116 fun c=>by simpa using h ⟨c.toNat,c.toNat_lt⟩) ?_
 simp only [↓zq,zs,hasK,Det,isLoo]
end Go.Proofs.Trees
namespace Go.Proofs.Trees
open Go Go.VL
inductive Ty where
 | zero | one
 | name (s:List UInt8)
 | bound (up:Nat)
 | plus (a b:Ty)
 | times (a b:Ty)
 | rc (a:Ty)
def Ty.av:Ty->AV
 | .zero=>.ptr [.v (.int .u8 48),.v (.string (mk [])),.v (.int .i64 0),.v (.pointer none),.v (.pointer none)]
 | .one=>.ptr [.v (.int .u8 49),.v (.string (mk [])),.v (.int .i64 0),.v (.pointer none),.v (.pointer none)]
 | .name s=>.ptr [.v (.int .u8 110),.v (.string (mk s)),.v (.int .i64 0),.v (.pointer none),.v (.pointer none)]
 | .bound up=>.ptr [.v (.int .u8 98),.v (.string (mk [])),.v (.int .i64 (up:Int)),.v (.pointer none),.v (.pointer none)]
 | .plus a b=>.ptr [.v (.int .u8 43),.v (.string (mk [])),.v (.int .i64 0),a.av,b.av]
 | .times a b=>.ptr [.v (.int .u8 42),.v (.string (mk [])),.v (.int .i64 0),a.av,b.av]
 | .rc a=>.ptr [.v (.int .u8 114),.v (.string (mk [])),.v (.int .i64 0),a.av,.v (.pointer none)]
theorem ty_has (t:Ty):LK.has .ptr t.av = True:=by cases t<;>simp [Ty.av,has_ptr]
theorem ty_nil (t:Ty):t.av.isNil = false:=by cases t<;>rfl
def optT:Option Ty->AV
 | some t=>t.av
 | none=>.v (.pointer none)
theorem optT_has (t:Option Ty):LK.has .ptr (optT t) = True:=by cases t<;>simp [optT,ty_has,has_nil]
def E.at:E->List UInt8
 | .atom s=>s
 | .list _=>[]
def lastOf (s:List UInt8) (ar:List (List UInt8)):Nat->Option Nat
 | 0=>none
 | i+1=>if ar.getD i [] = s then some (ar.length - 1 - i) else lastOf s ar i
def tyOf:E->List (List UInt8)->Option Ty
 | .atom s,ar=>if s = [48] then some .zero else if s = [49] then some .one else if isPar s = true then some (.name s) else if isLoo s = true then(match lastOf s ar ar.length with | some u=>some (.bound u) | none=>some (.name s)) else none
 | .list [x,a,b],ar =>
  if x.at = [43] then(match tyOf a ar,tyOf b ar with | some t,some u=>some (.plus t u) | _,_=>none)
  else if x.at = [42] then(match tyOf a ar,tyOf b ar with | some t,some u=>some (.times t u) | _,_=>none)
  else if x.at = [114,101,99] then(if isLoo a.at = true then(match tyOf b (ar++[a.at]) with | some t=>some (.rc t) | none=>none) else none)
  else none
 | .list _,_=>none
def strsAV (l:List (List UInt8)):List (List AV):=l.map fun s=>[.v (.string (mk s))]
def StrsA (a:AV) (l:List (List UInt8)):Prop:=LK.sl.has a/\a.elems = strsAV l
theorem StrsA.len {a:AV} {l:List (List UInt8)} (h:StrsA a l):a.elems.length = l.length:=by rw [h.2]; simp [strsAV]
theorem StrsA.idx {a:AV} {l:List (List UInt8)} (h:StrsA a l) {i:Nat} (hi:i < l.length):a.elems.getD i [] = [.v (.string (mk (l.getD i [])))]:=by
 rw [h.2]; simp [strsAV,List.getD_eq_getElem?_getD,hi]
theorem StrsA.of (l:List (List UInt8)):StrsA (.sl (strsAV l)) l:=⟨(has_sl _).mpr trivial,rfl⟩
theorem StrsA.nil:StrsA (.v (.slice none 0 0)) []:=⟨(has_slnil).mpr trivial,rfl⟩
theorem Sq5 (e:E) (w:List UInt8):FSpec Tryz.prog 145 [e.iav,.v (.string (mk w)),.v (.int .i64 3)] [] (Det (.v (.bool (match e with | .list [x,_,_]=>x.at==w | _=>false)))):=by
 refine Fqd8 _ _ _ ((iav_has e).mpr trivial) ?_
 cases e with
 | atom s=>simp only [tq1p,E.iav,↓zq,zs,hasK,zt,Det]; exact⟨by omega,fun h=>by omega,fun _=>trivial⟩
 | list l =>
  simp only [tq1p,E.iav,↓zq,zs,hasK,zt,Det,iavs_len]
  match l with
  | []=>exact⟨by simp,fun h=>by simp at h,fun _=>rfl⟩
  | [_]=>exact⟨by simp,fun h=>by simp at h,fun _=>rfl⟩
  | [_,_]=>exact⟨by simp,fun h=>by simp at h,fun _=>rfl⟩
  | [x,y,z] =>
   refine⟨by simp,fun _=>?_,fun h=>by simp at h⟩
   cases x<;>simp [E.iavs,E.iav,has_ptr,isNil_ptr,deref_ptr,has_str,toStr_v,toList_mk,E.at]
  | _::_::_::_::l=>exact⟨by simp,fun h=>by simp at h; omega,fun _=>rfl⟩
theorem Lqbs (e:E) (a:AV) (ar:List (List UInt8)) (ha:StrsA a ar) (hl:ar.length < 1000000):∀(i:Nat),i<=ar.length->Lq5s [e.iav,a,.v (.int .i64 ((i:Int) - 1))] []
  (LBy (match lastOf e.at ar i with | some u=>(2,[],[.cells [.v (.int .u8 98),.v (.string (mk [])),.v (.int .i64 (u:Int)),.v (.pointer none),.v (.pointer none)]]) | none=>(1,[e.iav],[])))
 | 0,hi=>by
  refine Gqfm _ _ _ ?_
  simp only [rq61,↓zq,zs,hasK,iav_has]
  exact⟨ha.1,fun h=>by omega,fun _=>rfl⟩
 | i+1,hi=>by
  have hlt:i < ar.length:=by omega
  have e1:((i+1:Nat):Int) - 1 = (i:Int):=by omega
  rw [e1]
  refine Gqfm _ _ _ ?_
  have hd:e.iav.deref.headD .any = .v (.string (mk e.at)):=by cases e<;>rfl
  have hdl:1<=e.iav.deref.length:=by cases e<;>simp [E.iav,deref_ptr]
  simp only [rq61,↓zq,zs,hasK,zt,iav_has,iav_nil,ha.len,ha.idx hlt,hd,nil_mk]
  refine⟨ha.1,fun _=>⟨⟨ha.1,by omega,by omega⟩,by omega,hdl,fun h=>⟨ha.1,?_⟩,fun h=>?_⟩,fun h=>by omega⟩
  ·simp only [lastOf,h,if_true,LBy]
   rw [wrap64 ((ar.length:Int) - 1) (by omega) (by omega),wrap64 _ (by omega) (by omega)]
   have:(ar.length:Int) - 1 - (i:Int) = ((ar.length - 1 - i:Nat):Int):=by omega
   rw [this]
  ·simp only [lastOf,h,if_false]
   rw [wrap64 _ (by omega) (by omega)]
   exact Lqbs e a ar ha hl i (by omega)
end Go.Proofs.Trees
namespace Go.Proofs.Trees
open Go Go.VL
theorem iav_at (e:E):e.iav.deref.headD .any = .v (.string (mk e.at)):=by cases e<;>rfl
theorem iav_len (e:E):1<=e.iav.deref.length:=by cases e<;>simp [E.iav,deref_ptr]
theorem toNat_one:Int.toNat 1 = 1:=rfl
theorem toNat_two:Int.toNat 2 = 2:=rfl
theorem Sq14 {ar:List (List UInt8)} (s:List UInt8):strsAV ar++[[.v (.string (mk s))]] = strsAV (ar++[s]):=by simp [strsAV]
theorem allLen_strs (ar:List (List UInt8)):allLen 1 (strsAV ar):=fun c hc=>by
 obtain⟨s,_,rfl⟩:=List.mem_map.1 hc; rfl
theorem tyOf_plus {x a b:E} (ar:List (List UInt8)) (hx:x.at = [43]):tyOf (.list [x,a,b]) ar = match tyOf a ar,tyOf b ar with | some t,some u=>some (.plus t u) | _,_=>none:=by rw [tyOf,if_pos hx]<;>cases tyOf a ar<;>cases tyOf b ar<;>rfl
theorem tyOf_times {x a b:E} (ar:List (List UInt8)) (hx:x.at = [42]):tyOf (.list [x,a,b]) ar = match tyOf a ar,tyOf b ar with | some t,some u=>some (.times t u) | _,_=>none:=by rw [tyOf,if_neg (by rw [hx]; decide),if_pos hx]<;>cases tyOf a ar<;>cases tyOf b ar<;>rfl
theorem tyOf_rec {x a b:E} (ar:List (List UInt8)) (hx:x.at = [114,101,99]):tyOf (.list [x,a,b]) ar = if isLoo a.at = true then(match tyOf b (ar++[a.at]) with | some t=>some (.rc t) | none=>none) else none:=by rw [tyOf,if_neg (by rw [hx]; decide),if_neg (by rw [hx]; decide),if_pos hx]<;>cases tyOf b (ar++[a.at])<;>rfl
theorem tyOf_no {x a b:E} (ar:List (List UInt8)) (h1:x.at≠[43]) (h2:x.at≠[42]) (h3:x.at≠[114,101,99]):tyOf (.list [x,a,b]) ar = none:=by rw [tyOf,if_neg h1,if_neg h2,if_neg h3]
theorem Sq25:∀(e:E) (ar:List (List UInt8)) (a:AV),e.ok->StrsA a ar->ar.length+e.sz < 100000->FSpec Tryz.prog 105 [e.iav,a] [] (Det (optT (tyOf e ar)))
 | .atom s,ar,a,hok,ha,hl=>by
  simp only [E.sz] at hl
  refine Fqcq _ _ ((iav_has _).mpr trivial) ha.1 ?_
  have hd:=iav_at (.atom s)
  have hlen:=iav_len (.atom s)
  simp only [E.at] at hd
  simp only [tq3i,↓zq,zs,hasK,zt,Det,iav_has,iav_nil,hd,tyOf]
  refine⟨hlen,fun h=>⟨hlen,?_,?_⟩,fun h=>⟨hlen,fun h1=>⟨hlen,?_,?_⟩,fun h1=>⟨hlen,?_⟩⟩⟩
  ·rw [h]; decide
  ·rw [if_pos h,h]; rfl
  ·rw [h1]; decide
  ·rw [if_neg h,if_pos h1,h1]; rfl
  ·rw [if_neg h,if_neg h1]
   refine wp_det (Sqax s) ?_
   simp only [↓zq,zs,hasK]
   refine⟨fun hp=>⟨hlen,?_⟩,fun hp=>⟨hlen,?_⟩⟩
   ·rw [if_pos hp]; rfl
   ·rw [if_neg (by rw [hp]; simp)]
    refine wp_det (Sq28 s) ?_
    simp only [↓zq,zs,hasK,ha.len]
    refine⟨fun hq=>⟨ha.1,?_⟩,fun hq=>?_⟩
    ·rw [if_pos hq,wrap64 _ (by omega) (by omega)]
     refine wp_loopB (Lqbs (.atom s) a ar ha (by omega) ar.length (by omega)) (fun ys o e=>?_) (fun ys o e=>?_)
     ·simp only [E.at] at e
      cases hq2:lastOf s ar ar.length<;>rw [hq2] at e<;>cases e
      simp only [↓zq,zs,hasK,zt,iav_has,iav_nil,hd]
      exact⟨hlen,rfl⟩
     ·simp only [E.at] at e
      cases hq2:lastOf s ar ar.length<;>rw [hq2] at e<;>cases e
      simp only [↓zq,zs,hasK,zt,LK.has]
      simp [optT,Ty.av,hasK,LK.has]
    ·rw [if_neg (by rw [hq]; simp)]
     refine wp_det (Sq5 (.atom s) [43]) ?_
     simp only [↓zq,zs,hasK]
     refine⟨fun h=>(by simp at h),fun _=>?_⟩
     refine wp_det (Sq5 (.atom s) [42]) ?_
     simp only [↓zq,zs,hasK]
     refine⟨fun h=>(by simp at h),fun _=>?_⟩
     refine wp_det (Sq5 (.atom s) [114,101,99]) ?_
     simp only [↓zq,zs,hasK]
     refine⟨fun h=>(by simp at h),fun _=>?_⟩
     trivial
 | .list l,ar,a,hok,ha,hl=>by
  simp only [E.sz] at hl
  refine Fqcq _ _ ((iav_has _).mpr trivial) ha.1 ?_
  have hd:=iav_at (.list l)
  have hlen:=iav_len (.list l)
  simp only [E.at] at hd
  have hp:isPar [] = false:=rfl
  have hq:isLoo [] = false:=rfl
  simp only [tq3i,↓zq,zs,hasK,zt,Det,iav_has,iav_nil,hd]
  refine⟨hlen,fun h=>(by simp at h),fun h=>⟨hlen,fun h1=>(by simp at h1),fun h1=>⟨hlen,?_⟩⟩⟩
  refine wp_det (Sqax []) ?_
  simp only [↓zq,zs,hasK,hp]
  refine⟨fun h=>(by simp at h),fun _=>⟨hlen,?_⟩⟩
  refine wp_det (Sq28 []) ?_
  simp only [↓zq,zs,hasK,hq]
  refine⟨fun h=>(by simp at h),fun _=>?_⟩
  refine wp_det (Sq5 (.list l) [43]) ?_
  match l,hok,hl with
  | [x,y,z],hok,hl =>
   simp only [E.szs] at hl
   obtain⟨ok1,ok2,ok3,_⟩:=hok
   have iy:=Sq25 y ar a ok2 ha (by omega)
   have iz:=Sq25 z ar a ok3 ha (by omega)
   have hds:((E.list [x,y,z]).iav.deref.drop 1).headD .any = .sl [[x.iav],[y.iav],[z.iav]]:=rfl
   have hdl:1<=((E.list [x,y,z]).iav.deref.drop 1).length:=by simp [E.iav,deref_ptr]
   have hxd:=iav_at x
   have hxl:=iav_len x
   have hyd:=iav_at y
   have hyl:=iav_len y
   have bin:∀(c:UInt8) (mkT:Ty->Ty->Ty),(∀t u:Ty,(mkT t u).av = .ptr [.v (.int .u8 (c.toNat:Int)),.v (.string (mk [])),.v (.int .i64 0),t.av,u.av])->x.at = [c]->bt (mk x.at) 0 = (c.toNat:Int):=fun c _ _ hx=>by
    have:=bt_mk x.at 0 (by rw [hx]; simp)
    simp only [Int.ofNat_eq_natCast,Int.cast_ofNat_Int] at this
    rw [this,hx]; rfl
   simp only [↓zq,zs,hasK,zt,hds,hdl,iav_has,iav_nil,toNat_one,toNat_two,hxd,hyd,nil_mk]
   refine⟨fun hx=>?_,fun hx=>?_⟩
   ·refine⟨by omega,by omega,?_⟩
    refine wp_det iy ?_
    simp only [↓zq,zs,hasK,optT_has]
    refine⟨by omega,by omega,?_⟩
    refine wp_det iz ?_
    have hb:=bin 43 Ty.plus (fun _ _=>rfl) hx
    rw [tyOf_plus ar hx]
    simp only [↓zq,zs,hasK,zt,optT_has]
    cases h1:tyOf y ar with
    | none=>simp [optT,isNil_nil]
    | some t =>
     cases h2:tyOf z ar with
     | none=>simp [optT,isNil_nil,ty_nil]
     | some u =>
      simp only [optT,ty_nil,hb]
      refine⟨fun h=>(by cases h),fun _=>⟨fun h=>(by cases h),fun _=>⟨by omega,by omega,hxl,⟨by omega,by rw [hx]; simp⟩,rfl⟩⟩⟩
   ·refine wp_det (Sq5 (.list [x,y,z]) [42]) ?_
    simp only [↓zq,zs,hasK,hds,hdl,iav_has,iav_nil,toNat_one,toNat_two,hxd,hyd,nil_mk]
    refine⟨fun hx2=>?_,fun hx2=>?_⟩
    ·refine⟨by omega,by omega,?_⟩
     refine wp_det iy ?_
     simp only [↓zq,zs,hasK,optT_has]
     refine⟨by omega,by omega,?_⟩
     refine wp_det iz ?_
     have hb:=bin 42 Ty.times (fun _ _=>rfl) hx2
     rw [tyOf_times ar hx2]
     simp only [↓zq,zs,hasK,zt,optT_has]
     cases h1:tyOf y ar with
     | none=>simp [optT,isNil_nil]
     | some t =>
      cases h2:tyOf z ar with
      | none=>simp [optT,isNil_nil,ty_nil]
      | some u =>
       simp only [optT,ty_nil,hb]
       refine⟨fun h=>(by cases h),fun _=>⟨fun h=>(by cases h),fun _=>⟨by omega,by omega,hxl,⟨by omega,by rw [hx2]; simp⟩,rfl⟩⟩⟩
    ·refine wp_det (Sq5 (.list [x,y,z]) [114,101,99]) ?_
     simp only [↓zq,zs,hasK,zt,hds,hdl,iav_has,iav_nil,toNat_one,toNat_two,hxd,hyd,nil_mk]
     refine⟨fun hx3=>⟨by omega,by omega,hyl,?_⟩,fun hx3=>?_⟩
     ·refine wp_det (Sq28 y.at) ?_
      rw [tyOf_rec ar hx3]
      simp only [↓zq,zs,hasK]
      have hal:allLen 1 a.elems:=by rw [ha.2]; exact allLen_strs ar
      have hal1:allLen 1 [[AV.v (.string (mk y.at))]]:=fun c hc=>by simp at hc; rw [hc]; rfl
      refine⟨fun hlo=>⟨by omega,by omega,⟨ha.1,hal,by rw [ha.len]; omega⟩,by omega,by omega,hyl,⟨hal1,by rw [List.nil_append,ha.len]; omega⟩,?_⟩,fun hlo=>?_⟩
      ·rw [List.nil_append,ha.2,Sq14,if_pos hlo]
       refine wp_det (Sq25 z (ar++[y.at]) _ ok3 (.of _) (by simp; omega)) ?_
       simp only [↓zq,zs,hasK,optT_has]
       cases h2:tyOf z (ar++[y.at]) with
       | none=>simp [optT,isNil_nil]
       | some u =>
        simp only [optT,ty_nil]
        refine⟨fun h=>(by cases h),fun _=>rfl⟩
      ·rw [if_neg (by rw [hlo]; simp)]; rfl
     ·rw [tyOf_no ar hx hx2 hx3]; rfl
  | [],_,_ =>
   simp only [↓zq,zs,hasK]
   refine⟨fun h=>(by cases h),fun _=>?_⟩
   refine wp_det (Sq5 (.list []) [42]) ?_
   simp only [↓zq,zs,hasK]
   refine⟨fun h=>(by cases h),fun _=>?_⟩
   refine wp_det (Sq5 (.list []) [114,101,99]) ?_
   simp only [↓zq,zs,hasK]
   refine⟨fun h=>(by cases h),fun _=>?_⟩
   rfl
  | [x1],_,_ =>
   simp only [↓zq,zs,hasK]
   refine⟨fun h=>(by cases h),fun _=>?_⟩
   refine wp_det (Sq5 (.list [x1]) [42]) ?_
   simp only [↓zq,zs,hasK]
   refine⟨fun h=>(by cases h),fun _=>?_⟩
   refine wp_det (Sq5 (.list [x1]) [114,101,99]) ?_
   simp only [↓zq,zs,hasK]
   refine⟨fun h=>(by cases h),fun _=>?_⟩
   rfl
  | [x1,x2],_,_ =>
   simp only [↓zq,zs,hasK]
   refine⟨fun h=>(by cases h),fun _=>?_⟩
   refine wp_det (Sq5 (.list [x1,x2]) [42]) ?_
   simp only [↓zq,zs,hasK]
   refine⟨fun h=>(by cases h),fun _=>?_⟩
   refine wp_det (Sq5 (.list [x1,x2]) [114,101,99]) ?_
   simp only [↓zq,zs,hasK]
   refine⟨fun h=>(by cases h),fun _=>?_⟩
   rfl
  | x1::x2::x3::x4::l,_,_ =>
   simp only [↓zq,zs,hasK]
   refine⟨fun h=>(by cases h),fun _=>?_⟩
   refine wp_det (Sq5 (.list (x1::x2::x3::x4::l)) [42]) ?_
   simp only [↓zq,zs,hasK]
   refine⟨fun h=>(by cases h),fun _=>?_⟩
   refine wp_det (Sq5 (.list (x1::x2::x3::x4::l)) [114,101,99]) ?_
   simp only [↓zq,zs,hasK]
   refine⟨fun h=>(by cases h),fun _=>?_⟩
   rfl
end Go.Proofs.Trees
namespace Go.Proofs.Trees
open Go Go.VL
def DetO (v:AV) (obs:List Ob):AV->List Ob->Prop:=fun r o=>r = v/\o = obs
theorem wp_detO {P:Program} {n:Nat} {Q:Nat->List AV->List Ob->Prop} {f:Nat} {xs:List AV} {ins:List Ob} {k:AV->List Ob->Tree} {v:AV} {obs:List Ob} (h:FSpec P f xs ins (DetO v obs)) (hk:wpT P n (k v obs) Q):wpT P n (.call f xs ins k) Q :=
 ⟨DetO v obs,h,⟨v,obs,rfl,rfl⟩,fun r o ⟨h1,h2⟩=>by rw [h1,h2]; exact hk⟩
def Ty.atoms:Ty->Nat
 | .plus a b=>1+a.atoms+b.atoms
 | .times a b=>1+a.atoms+b.atoms
 | .rc a=>2+a.atoms
 | _=>1
theorem Sqi:∀(t:Ty),t.atoms < 1000000->FSpec Tryz.prog 106 [t.av] [] (Det (.v (.int .i64 (t.atoms:Int))))
 | .zero,h=>by refine Fq13 _ ((ty_has _).mpr trivial) ?_; simp [tqm,Ty.av,↓zq,zs,hasK,Det,Ty.atoms]
 | .one,h=>by refine Fq13 _ ((ty_has _).mpr trivial) ?_; simp [tqm,Ty.av,↓zq,zs,hasK,Det,Ty.atoms]
 | .name s,h=>by refine Fq13 _ ((ty_has _).mpr trivial) ?_; simp [tqm,Ty.av,↓zq,zs,hasK,Det,Ty.atoms]
 | .bound u,h=>by refine Fq13 _ ((ty_has _).mpr trivial) ?_; simp [tqm,Ty.av,↓zq,zs,hasK,Det,Ty.atoms]
 | .plus a b,h=>by
  simp only [Ty.atoms] at h
  refine Fq13 _ ((ty_has _).mpr trivial) ?_
  simp only [tqm,Ty.av,↓zq,zs,hasK,ty_has]
  refine⟨by omega,fun _=>⟨by omega,?_⟩,fun h=>absurd rfl h⟩
  refine wp_det (Sqi a (by omega)) ?_
  simp only [↓zq,zs,hasK,ty_has]
  refine⟨by omega,?_⟩
  refine wp_det (Sqi b (by omega)) ?_
  simp only [↓zq,zs,hasK,Det,Ty.atoms]
  rw [wrap64 (1+(a.atoms:Int)) (by omega) (by omega),wrap64 _ (by omega) (by omega)]
  congr 2
 | .times a b,h=>by
  simp only [Ty.atoms] at h
  refine Fq13 _ ((ty_has _).mpr trivial) ?_
  simp only [tqm,Ty.av,↓zq,zs,hasK,ty_has]
  refine⟨by omega,fun h=>by omega,fun _=>⟨fun _=>⟨by omega,?_⟩,fun h=>absurd rfl h⟩⟩
  refine wp_det (Sqi a (by omega)) ?_
  simp only [↓zq,zs,hasK,ty_has]
  refine⟨by omega,?_⟩
  refine wp_det (Sqi b (by omega)) ?_
  simp only [↓zq,zs,hasK,Det,Ty.atoms]
  rw [wrap64 (1+(a.atoms:Int)) (by omega) (by omega),wrap64 _ (by omega) (by omega)]
  congr 2
 | .rc a,h=>by
  simp only [Ty.atoms] at h
  refine Fq13 _ ((ty_has _).mpr trivial) ?_
  simp only [tqm,Ty.av,↓zq,zs,hasK,ty_has]
  refine⟨by omega,fun h=>by omega,fun _=>⟨fun h=>by omega,fun _=>⟨fun _=>⟨by omega,?_⟩,fun h=>absurd rfl h⟩⟩⟩
  refine wp_det (Sqi a (by omega)) ?_
  simp only [↓zq,zs,hasK,Det,Ty.atoms]
  rw [wrap64 _ (by omega) (by omega)]
  congr 2
theorem tyOf_atoms:∀(e:E) (ar:List (List UInt8)) (t:Ty),tyOf e ar = some t->t.atoms<=e.sz
 | .atom s,ar,t,h=>by
  simp only [tyOf] at h
  simp only [E.sz]
  split at h
  ·cases h; simp [Ty.atoms]
  ·split at h
   ·cases h; simp [Ty.atoms]
   ·split at h
    ·cases h; simp [Ty.atoms]
    ·split at h
     ·split at h<;>cases h<;>simp [Ty.atoms]
     ·cases h
 | .list [x,a,b],ar,t,h=>by
  have hs:∀e:E,1<=e.sz:=fun e=>by cases e<;>simp [E.sz]; try omega
  have hx:=hs x
  have ha:=hs a
  simp only [E.sz,E.szs]
  by_cases h1:x.at = [43]
  ·rw [tyOf_plus ar h1] at h
   split at h
   ·rename_i t1 t2 e1 e2
    cases h
    have:=tyOf_atoms a ar t1 e1
    have:=tyOf_atoms b ar t2 e2
    simp only [Ty.atoms]; omega
   ·cases h
  ·by_cases h2:x.at = [42]
   ·rw [tyOf_times ar h2] at h
    split at h
    ·rename_i t1 t2 e1 e2
     cases h
     have:=tyOf_atoms a ar t1 e1
     have:=tyOf_atoms b ar t2 e2
     simp only [Ty.atoms]; omega
    ·cases h
   ·by_cases h3:x.at = [114,101,99]
    ·rw [tyOf_rec ar h3] at h
     split at h
     ·split at h
      ·rename_i t1 e1
       cases h
       have:=tyOf_atoms b _ t1 e1
       simp only [Ty.atoms]; omega
      ·cases h
     ·cases h
    ·rw [tyOf_no ar h1 h2 h3] at h; cases h
 | .list [],_,_,h=>by cases h
 | .list [_],_,_,h=>by cases h
 | .list [_,_],_,_,h=>by cases h
 | .list (_::_::_::_::_),_,_,h=>by cases h
def rdY (s:List UInt8):Option Ty:=match rdT s with
 | none=>none
 | some e=>match tyOf e [] with
  | none=>none
  | some t=>if t.atoms > 400 then none else some t
theorem Sq4a (s:List UInt8):FSpec Tryz.prog 73 [.v (.string (mk s))] [] (Det (optT (rdY s))):=by
 refine Fqkk _ ?_
 unfold tq8d
 refine wp_det (Sq77 s) ?_
 unfold rdY
 cases he:rdT s with
 | none=>simp only [optP,↓zq,zs,hasK,Det,optT]; simp
 | some e =>
  obtain⟨h1,h2⟩:=rdT_ok he
  simp only [optP,↓zq,zs,hasK,iav_has,iav_nil]
  refine⟨fun h=>(by cases h),fun _=>?_⟩
  refine wp_det (Sq25 e [] _ h1 .nil (by simp; omega)) ?_
  cases ht:tyOf e [] with
  | none=>simp only [optT,↓zq,zs,hasK,Det]; simp
  | some t =>
   have:=tyOf_atoms e [] t ht
   simp only [optT,↓zq,zs,hasK,ty_has,ty_nil]
   refine⟨fun h=>(by cases h),fun _=>?_⟩
   refine wp_det (Sqi t (by omega)) ?_
   simp only [↓zq,zs,hasK,Det]
   refine⟨fun h=>?_,fun h=>?_⟩
   ·rw [if_pos (by omega)]
   ·rw [if_neg (by omega)]
end Go.Proofs.Trees
namespace Go.Proofs.Trees
open Go Go.VL
def FoundR (p:Prop):Nat->List AV->List Ob->Prop:=fun t ys o=>(t = 1/\¬ p/\ys = []/\o = [])\/(t = 2/\p/\∃j:Nat,ys = [.v (.int .i64 (j:Int))]/\o = [])
theorem Lqdp (l:List (List UInt8)) (a:AV) (ha:StrsA a l) (s:List UInt8) (hl:l.length < 1000000):∀(k i:Nat),i+k = l.length->s ∉ l.take i->Lq6k [a,.v (.string (mk s)),.v (.int .i64 (l.length:Int)),.v (.int .i64 (i:Int))] []
  (FoundR (s∈l))
 | 0,i,hi,hn=>by
  refine Gqf4 _ _ _ _ ?_
  simp only [rq6z,↓zq,zs,hasK]
  have:l.take i = l:=List.take_of_length_le (by omega)
  rw [this] at hn
  exact⟨ha.1,fun h=>by omega,fun _=>.inl ⟨rfl,hn,rfl,rfl⟩⟩
 | k+1,i,hi,hn=>by
  have hlt:i < l.length:=by omega
  refine Gqf4 _ _ _ _ ?_
  simp only [rq6z,↓zq,zs,hasK,zt,ha.len,ha.idx hlt]
  have hm:l.getD i []∈l:=by simp [List.getD_eq_getElem?_getD,hlt]
  refine⟨ha.1,fun _=>⟨⟨ha.1,by omega,by omega⟩,by omega,fun h=>?_,fun h=>?_⟩,fun h=>by omega⟩
  ·exact .inr ⟨rfl,by rw [h]; exact hm,i,rfl,rfl⟩
  ·rw [wrap_succ i (by omega)]
   refine Lqdp l a ha s hl k (i+1) (by omega) ?_
   rw [List.take_add_one]
   simp only [List.mem_append,not_or]
   refine⟨hn,?_⟩
   have:l[i]? = some (l.getD i []):=by simp [List.getD_eq_getElem?_getD,hlt]
   rw [this]; simpa using h
theorem Sq86 (l:List (List UInt8)) (a:AV) (ha:StrsA a l) (s:List UInt8) (hl:l.length < 1000000):FSpec Tryz.prog 150 [a,.v (.string (mk s))] [] (Det (.v (.bool (decide (s∈l))))):=by
 have hI:FSpec Tryz.prog 173 [a,.v (.string (mk s))] [] (fun r o=>∃n:Int,r = .v (.int .i64 n)/\(0<=n↔s∈l)/\o = []):=by
  refine Fqki _ _ ha.1 ?_
  simp only [tqec,↓zq,zs,hasK,ha.len]
  refine⟨ha.1,wpt_loop (Lqdp l a ha s hl l.length 0 (by omega) (by simp)) ?_ ?_⟩
  ·rintro ys o (⟨_,h1,rfl,rfl⟩ | ⟨h,_⟩)
   ·simp only [↓zq,zs,hasK]
    exact⟨-1,rfl,⟨fun h=>(by omega),fun h=>absurd h h1⟩⟩
   ·cases h
  ·rintro ys o (⟨h,_⟩ | ⟨_,h1,j,rfl,rfl⟩)
   ·cases h
   ·simp only [↓zq,zs,hasK]
    exact⟨j,rfl,⟨fun _=>h1,fun _=>(by omega)⟩⟩
 refine Fqk7 _ _ ha.1 ?_
 unfold tqfs
 refine wp_call hI ⟨.v (.int .i64 (if s∈l then 0 else -1)),[],_,rfl,by split<;>simp_all,rfl⟩ ?_
 rintro r o ⟨n,rfl,hn,rfl⟩
 simp only [↓zq,zs,hasK,Det]
 congr 2
 rw [Bool.eq_iff_iff]; simp [hn]
def addN (out:List (List UInt8)):Ty->List (List UInt8)
 | .name s=>if s∈out then out else out++[s]
 | _=>out
theorem Sqt (t:Ty) (out:List (List UInt8)) (hl:out.length < 100000):FSpec Tryz.prog 172 [t.av,.ref 0 0] [.cells [.vec 1],.vec 1 (strsAV out)] (DetO .any [.cells [.vec 1],.vec 1 (strsAV (addN out t))]):=by
 refine Fqk5 _ _ ((ty_has _).mpr trivial) ?_
 have hlen:(strsAV out).length = out.length:=by simp [strsAV]
 cases t with
 | name s =>
  simp only [tq73,Ty.av,↓zq,zs,hasK,DetO,hlen]
  refine⟨by omega,fun _=>⟨by omega,?_⟩,fun h=>absurd rfl h⟩
  refine wp_det (Sq86 out _ (.of out) s (by omega)) ?_
  simp only [↓zq,zs,hasK,addN]
  refine⟨fun h=>⟨by omega,⟨fun c hc=>(by simp at hc; rw [hc]; rfl),by omega⟩,?_⟩,fun h=>?_⟩
  ·rw [Sq14,if_neg h]
  ·rw [if_pos h]
 | _=>simp [tq73,Ty.av,↓zq,zs,hasK,DetO,addN]
def namesOf:Ty->List (List UInt8)->List (List UInt8)
 | .name s,out=>addN out (.name s)
 | .plus a b,out=>namesOf b (namesOf a out)
 | .times a b,out=>namesOf b (namesOf a out)
 | .rc a,out=>namesOf a out
 | _,out=>out
theorem namesOf_len:∀(t:Ty) (out:List (List UInt8)),(namesOf t out).length<=out.length+t.atoms
 | .name s,out=>by simp only [namesOf,addN,Ty.atoms]; split<;>simp
 | .plus a b,out=>by
  have:=namesOf_len a out
  have:=namesOf_len b (namesOf a out)
  simp only [namesOf,Ty.atoms]; omega
 | .times a b,out=>by
  have:=namesOf_len a out
  have:=namesOf_len b (namesOf a out)
  simp only [namesOf,Ty.atoms]; omega
 | .rc a,out=>by
  have:=namesOf_len a out
  simp only [namesOf,Ty.atoms]; omega
 | .zero,out=>by simp [namesOf]
 | .one,out=>by simp [namesOf]
 | .bound u,out=>by simp [namesOf]
theorem Sq1g:∀(t:Ty) (out:List (List UInt8)),out.length+t.atoms < 100000->FSpec Tryz.prog 171 [t.av,.fn 172 [.ref 0 0]] [.cells [.vec 1],.vec 1 (strsAV out)] (DetO .any [.cells [.vec 1],.vec 1 (strsAV (namesOf t out))])
 | .plus a b,out,hl=>by
  simp only [Ty.atoms] at hl
  have:=namesOf_len a out
  refine Fq12 _ _ ((ty_has _).mpr trivial) ?_
  unfold tql
  refine wp_detO (Sqt (.plus a b) out (by omega)) ?_
  simp only [Ty.av,↓zq,zs,hasK,ty_has,ty_nil,addN,hasC,DetO]
  refine⟨by omega,fun _=>⟨by omega,?_⟩,fun h=>(by cases h)⟩
  refine wp_detO (Sq1g a out (by omega)) ?_
  simp only [↓zq,zs,hasK,ty_has,ty_nil,hasC]
  refine⟨by omega,fun _=>⟨by omega,?_⟩,fun h=>(by cases h)⟩
  refine wp_detO (Sq1g b (namesOf a out) (by omega)) ?_
  simp only [↓zq,zs,hasK,hasC,namesOf]
 | .times a b,out,hl=>by
  simp only [Ty.atoms] at hl
  have:=namesOf_len a out
  refine Fq12 _ _ ((ty_has _).mpr trivial) ?_
  unfold tql
  refine wp_detO (Sqt (.times a b) out (by omega)) ?_
  simp only [Ty.av,↓zq,zs,hasK,ty_has,ty_nil,addN,hasC,DetO]
  refine⟨by omega,fun _=>⟨by omega,?_⟩,fun h=>(by cases h)⟩
  refine wp_detO (Sq1g a out (by omega)) ?_
  simp only [↓zq,zs,hasK,ty_has,ty_nil,hasC]
  refine⟨by omega,fun _=>⟨by omega,?_⟩,fun h=>(by cases h)⟩
  refine wp_detO (Sq1g b (namesOf a out) (by omega)) ?_
  simp only [↓zq,zs,hasK,hasC,namesOf]
 | .rc a,out,hl=>by
  simp only [Ty.atoms] at hl
  refine Fq12 _ _ ((ty_has _).mpr trivial) ?_
  unfold tql
  refine wp_detO (Sqt (.rc a) out (by omega)) ?_
  simp only [Ty.av,↓zq,zs,hasK,ty_has,ty_nil,addN,hasC,DetO]
  refine⟨by omega,fun _=>⟨by omega,?_⟩,fun h=>(by cases h)⟩
  refine wp_detO (Sq1g a out (by omega)) ?_
  simp [↓zq,zs,hasK,ty_has,ty_nil,hasC,namesOf]
 | .name s,out,hl=>by
  refine Fq12 _ _ ((ty_has _).mpr trivial) ?_
  unfold tql
  refine wp_detO (Sqt (.name s) out (by omega)) ?_
  simp [Ty.av,↓zq,zs,hasK,hasC,DetO,namesOf]
 | .zero,out,hl=>by
  refine Fq12 _ _ ((ty_has _).mpr trivial) ?_
  unfold tql
  refine wp_detO (Sqt .zero out (by omega)) ?_
  simp [Ty.av,↓zq,zs,hasK,hasC,DetO,namesOf,addN]
 | .one,out,hl=>by
  refine Fq12 _ _ ((ty_has _).mpr trivial) ?_
  unfold tql
  refine wp_detO (Sqt .one out (by omega)) ?_
  simp [Ty.av,↓zq,zs,hasK,hasC,DetO,namesOf,addN]
 | .bound u,out,hl=>by
  refine Fq12 _ _ ((ty_has _).mpr trivial) ?_
  unfold tql
  refine wp_detO (Sqt (.bound u) out (by omega)) ?_
  simp [Ty.av,↓zq,zs,hasK,hasC,DetO,namesOf,addN]
theorem Sqco (t:Ty) (hl:t.atoms < 100000):FSpec Tryz.prog 148 [t.av] [] (Det (.sl (strsAV (namesOf t [])))):=by
 refine Fqj6 _ ((ty_has _).mpr trivial) ?_
 unfold tqe3
 refine wp_detO (Sq1g t [] (by simpa using hl)) ?_
 simp [↓zq,zs,hasK,hasC,Det]
theorem Lqbb (l:List (List UInt8)) (a:AV) (ha:StrsA a l) (hl:l.length < 1000000):∀(k i:Nat),i+k = l.length->(∀s,s∈l.take i->isLoo s = false)->Lq3j [a,.v (.func (.func 144) #[] #[]),.v (.int .i64 (l.length:Int)),.v (.int .i64 (i:Int))] []
  (FoundR (l.any isLoo = true))
 | 0,i,hi,hn=>by
  refine Gqad _ _ _ ?_
  simp only [rq3s,↓zq,zs,hasK]
  have:l.take i = l:=List.take_of_length_le (by omega)
  rw [this] at hn
  exact⟨ha.1,fun h=>by omega,fun _=>.inl ⟨rfl,fun hh=>(by obtain⟨x,hx,hy⟩:=List.any_eq_true.1 hh; rw [hn x hx] at hy; cases hy),rfl,rfl⟩⟩
 | k+1,i,hi,hn=>by
  have hlt:i < l.length:=by omega
  refine Gqad _ _ _ ?_
  simp only [rq3s,↓zq,zs,hasK,zt,ha.len,ha.idx hlt]
  have hm:l.getD i []∈l:=by simp [List.getD_eq_getElem?_getD,hlt]
  refine⟨ha.1,fun _=>⟨⟨ha.1,by omega,by omega⟩,by omega,?_⟩,fun h=>by omega⟩
  refine wp_det (Sq28 _) ?_
  simp only [↓zq,zs,hasK]
  refine⟨fun h=>?_,fun h=>?_⟩
  ·exact .inr ⟨rfl,List.any_eq_true.2 ⟨_,hm,h⟩,i,rfl,rfl⟩
  ·rw [wrap_succ i (by omega)]
   refine Lqbb l a ha hl k (i+1) (by omega) ?_
   intro s hs
   rw [List.take_add_one] at hs
   have:l[i]? = some (l.getD i []):=by simp [List.getD_eq_getElem?_getD,hlt]
   rw [this] at hs
   rcases List.mem_append.1 hs with hs | hs
   ·exact hn s hs
   ·simp at hs; rw [hs]; simpa using h
theorem Sqg0 (l:List (List UInt8)) (a:AV) (ha:StrsA a l) (hl:l.length < 1000000):FSpec Tryz.prog 174 [a,.v (.func (.func 144) #[] #[])] [] (Det (.v (.bool (l.any isLoo)))):=by
 have hI:FSpec Tryz.prog 185 [a,.v (.func (.func 144) #[] #[])] [] (fun r o=>∃n:Int,r = .v (.int .i64 n)/\(0<=n↔l.any isLoo = true)/\o = []):=by
  refine Fqhl _ ha.1 ?_
  simp only [tqbq,↓zq,zs,hasK,ha.len]
  refine⟨ha.1,wpt_loop (Lqbb l a ha hl l.length 0 (by omega) (by simp)) ?_ ?_⟩
  ·rintro ys o (⟨_,h1,rfl,rfl⟩ | ⟨h,_⟩)
   ·simp only [↓zq,zs,hasK]
    exact⟨-1,rfl,⟨fun h=>(by omega),fun h=>absurd h h1⟩⟩
   ·cases h
  ·rintro ys o (⟨h,_⟩ | ⟨_,h1,j,rfl,rfl⟩)
   ·cases h
   ·simp only [↓zq,zs,hasK]
    exact⟨j,rfl,⟨fun _=>h1,fun _=>(by omega)⟩⟩
 refine Fqhh _ ha.1 ?_
 unfold tq9t
 refine wp_call hI ⟨.v (.int .i64 (if l.any isLoo = true then 0 else -1)),[],_,rfl,by split<;>simp_all,rfl⟩ ?_
 rintro r o ⟨n,rfl,hn,rfl⟩
 simp only [↓zq,zs,hasK,Det]
 congr 2
 rw [Bool.eq_iff_iff]; simp only [decide_eq_true_eq,ge_iff_le,hn]
def Ty.closed (t:Ty):Bool:=!((namesOf t []).any isLoo)
theorem Sqh6 (t:Ty) (hl:t.atoms < 100000):FSpec Tryz.prog 151 [t.av] [] (Det (.v (.bool t.closed))):=by
 refine Fqi7 _ ((ty_has _).mpr trivial) ?_
 unfold tqbc
 refine wp_det (Sqco t hl) ?_
 simp only [↓zq,zs,hasK]
 have:=namesOf_len t []
 refine wp_det (Sqg0 _ _ (.of _) (by simp at this; omega)) ?_
 simp only [↓zq,zs,hasK,Det,Ty.closed]
def rdC (s:List UInt8):Option Ty:=match rdY s with
 | none=>none
 | some t=>if t.closed = true then some t else none
theorem rdY_atoms {s:List UInt8} {t:Ty} (h:rdY s = some t):t.atoms<=400:=by
 unfold rdY at h
 split at h
 ·cases h
 ·split at h
  ·cases h
  ·split at h<;>cases h
   omega
theorem Sqdh (s:List UInt8):FSpec Tryz.prog 113 [.v (.string (mk s))] [] (Det (optT (rdC s))):=by
 refine Fqg2 _ ?_
 unfold tq8u
 refine wp_det (Sq4a s) ?_
 unfold rdC
 cases ht:rdY s with
 | none=>simp [optT,↓zq,zs,hasK,Det]
 | some t =>
  have:=rdY_atoms ht
  simp only [optT,↓zq,zs,hasK,ty_has,ty_nil]
  refine⟨fun h=>(by cases h),fun _=>?_⟩
  refine wp_det (Sqh6 t (by omega)) ?_
  simp only [↓zq,zs,hasK,Det]
  refine⟨fun h=>?_,fun h=>?_⟩
  ·rw [if_neg (by rw [h]; simp)]
  ·rw [if_pos h]
end Go.Proofs.Trees
namespace Go.Proofs.Trees
open Go Go.VL Go.RowKit
abbrev Nm:=List UInt8
def opn (u:Ty):Ty->Nat->Ty
 | .bound k,i=>if k = i then u else .bound k
 | .plus a b,i=>.plus (opn u a i) (opn u b i)
 | .times a b,i=>.times (opn u a i) (opn u b i)
 | .rc a,i=>.rc (opn u a (i+1))
 | t,_=>t
def sub (x:Nm) (u:Ty):Ty->Ty
 | .name s=>if s = x then u else .name s
 | .plus a b=>.plus (sub x u a) (sub x u b)
 | .times a b=>.times (sub x u a) (sub x u b)
 | .rc a=>.rc (sub x u a)
 | t=>t
def hasN (x:Nm):Ty->Bool
 | .name s=>decide (s = x)
 | .plus a b=>hasN x a||hasN x b
 | .times a b=>hasN x a||hasN x b
 | .rc a=>hasN x a
 | _=>false
def ren (f:Nm->Nm):Ty->Ty
 | .name s=>.name (f s)
 | .plus a b=>.plus (ren f a) (ren f b)
 | .times a b=>.times (ren f a) (ren f b)
 | .rc a=>.rc (ren f a)
 | t=>t
def Inj (f:Nm->Nm):Prop:=∀x y,f x = f y->x = y
theorem ren_opn (f:Nm->Nm) (x:Nm):∀(t:Ty) (i:Nat),ren f (opn (.name x) t i) = opn (.name (f x)) (ren f t) i
 | .bound k,i=>by simp only [opn,ren]; split<;>rfl
 | .plus a b,i=>by simp only [opn,ren,ren_opn f x a i,ren_opn f x b i]
 | .times a b,i=>by simp only [opn,ren,ren_opn f x a i,ren_opn f x b i]
 | .rc a,i=>by simp only [opn,ren,ren_opn f x a (i+1)]
 | .zero,i=>rfl
 | .one,i=>rfl
 | .name s,i=>rfl
theorem ren_sub {f:Nm->Nm} (hf:Inj f) (x:Nm) (u:Ty):∀t:Ty,ren f (sub x u t) = sub (f x) (ren f u) (ren f t)
 | .name s=>by
  simp only [sub,ren]
  by_cases h:s = x
  ·subst h; simp
  ·rw [if_neg h,if_neg fun e=>h (hf _ _ e)]; rfl
 | .plus a b=>by simp only [sub,ren,ren_sub hf x u a,ren_sub hf x u b]
 | .times a b=>by simp only [sub,ren,ren_sub hf x u a,ren_sub hf x u b]
 | .rc a=>by simp only [sub,ren,ren_sub hf x u a]
 | .zero=>rfl
 | .one=>rfl
 | .bound k=>rfl
theorem ren_has {f:Nm->Nm} (hf:Inj f) (x:Nm):∀t:Ty,hasN (f x) (ren f t) = hasN x t
 | .name s=>by simp only [hasN,ren]; rw [Bool.eq_iff_iff]; simp only [decide_eq_true_eq]; exact⟨fun e=>hf _ _ e,fun e=>by rw [e]⟩
 | .plus a b=>by simp only [hasN,ren,ren_has hf x a,ren_has hf x b]
 | .times a b=>by simp only [hasN,ren,ren_has hf x a,ren_has hf x b]
 | .rc a=>by simp only [hasN,ren,ren_has hf x a]
 | .zero=>rfl
 | .one=>rfl
 | .bound k=>rfl
theorem ren_atoms (f:Nm->Nm):∀t:Ty,(ren f t).atoms = t.atoms
 | .plus a b=>by simp only [Ty.atoms,ren,ren_atoms f a,ren_atoms f b]
 | .times a b=>by simp only [Ty.atoms,ren,ren_atoms f a,ren_atoms f b]
 | .rc a=>by simp only [Ty.atoms,ren,ren_atoms f a]
 | .name s=>rfl
 | .zero=>rfl
 | .one=>rfl
 | .bound k=>rfl
theorem ren_id {f:Nm->Nm}:∀t:Ty,(∀x,hasN x t = true->f x = x)->ren f t = t
 | .name s,h=>by simp only [ren]; rw [h s (by simp [hasN])]
 | .plus a b,h=>by simp only [ren]; rw [ren_id a fun x hx=>h x (by simp [hasN,hx]),ren_id b fun x hx=>h x (by simp [hasN,hx])]
 | .times a b,h=>by simp only [ren]; rw [ren_id a fun x hx=>h x (by simp [hasN,hx]),ren_id b fun x hx=>h x (by simp [hasN,hx])]
 | .rc a,h=>by simp only [ren]; rw [ren_id a fun x hx=>h x hx]
 | .zero,_=>rfl
 | .one,_=>rfl
 | .bound k,_=>rfl
theorem opn_atoms (x:Nm):∀(t:Ty) (i:Nat),(opn (.name x) t i).atoms = t.atoms
 | .bound k,i=>by simp only [opn]; split<;>rfl
 | .plus a b,i=>by simp only [opn,Ty.atoms,opn_atoms x a i,opn_atoms x b i]
 | .times a b,i=>by simp only [opn,Ty.atoms,opn_atoms x a i,opn_atoms x b i]
 | .rc a,i=>by simp only [opn,Ty.atoms,opn_atoms x a (i+1)]
 | .zero,i=>rfl
 | .one,i=>rfl
 | .name s,i=>rfl
theorem atoms_pos (t:Ty):1<=t.atoms:=by cases t<;>simp only [Ty.atoms]<;>omega
theorem sub_atoms (x:Nm) (u:Ty):∀t:Ty,t.atoms<=(sub x u t).atoms
 | .name s=>by simp only [sub]; split<;>simp only [Ty.atoms]; exact atoms_pos u; omega
 | .plus a b=>by have:=sub_atoms x u a; have:=sub_atoms x u b; simp only [sub,Ty.atoms]; omega
 | .times a b=>by have:=sub_atoms x u a; have:=sub_atoms x u b; simp only [sub,Ty.atoms]; omega
 | .rc a=>by have:=sub_atoms x u a; simp only [sub,Ty.atoms]; omega
 | .zero=>Nat.le_refl _
 | .one=>Nat.le_refl _
 | .bound k=>Nat.le_refl _
theorem has_opn {x y:Nm}:∀(t:Ty) (i:Nat),hasN y (opn (.name x) t i) = true->y = x\/hasN y t = true
 | .bound k,i,h=>by
  simp only [opn] at h
  split at h
  ·left; simp only [hasN,decide_eq_true_eq] at h; exact h.symm
  ·cases h
 | .plus a b,i,h=>by
  simp only [opn,hasN,Bool.or_eq_true] at h |-
  rcases h with h | h
  ·rcases has_opn a i h with h | h<;>simp [h]
  ·rcases has_opn b i h with h | h<;>simp [h]
 | .times a b,i,h=>by
  simp only [opn,hasN,Bool.or_eq_true] at h |-
  rcases h with h | h
  ·rcases has_opn a i h with h | h<;>simp [h]
  ·rcases has_opn b i h with h | h<;>simp [h]
 | .rc a,i,h=>has_opn a (i+1) h
 | .zero,i,h=>by cases h
 | .one,i,h=>by cases h
 | .name s,i,h=>.inr h
theorem has_sub {x y:Nm} {u:Ty}:∀t:Ty,hasN y (sub x u t) = true->hasN y u = true\/(y≠x/\hasN y t = true)
 | .name s,h=>by
  simp only [sub] at h
  split at h
  ·exact .inl h
  ·rename_i hs
   simp only [hasN,decide_eq_true_eq] at h
   subst h
   exact .inr ⟨hs,by simp [hasN]⟩
 | .plus a b,h=>by
  simp only [sub,hasN,Bool.or_eq_true] at h |-
  rcases h with h | h
  ·rcases has_sub a h with h | h<;>simp [h]
  ·rcases has_sub b h with h | h<;>simp [h]
 | .times a b,h=>by
  simp only [sub,hasN,Bool.or_eq_true] at h |-
  rcases h with h | h
  ·rcases has_sub a h with h | h<;>simp [h]
  ·rcases has_sub b h with h | h<;>simp [h]
 | .rc a,h=>by
  simp only [sub,hasN] at h |-
  exact has_sub a h
 | .zero,h=>by cases h
 | .one,h=>by cases h
 | .bound k,h=>by cases h
def swp (x y:Nm):Nm->Nm:=fun s=>if s = x then y else if s = y then x else s
theorem swp_inj (x y:Nm):Inj (swp x y):=by
 intro a b h
 unfold swp at h
 by_cases h1:a = x<;>by_cases h2:a = y<;>by_cases h3:b = x<;>by_cases h4:b = y<;>simp_all
theorem swp_l (x y:Nm):swp x y x = y:=by simp [swp]
theorem swp_o {x y s:Nm} (h:s≠x) (h':s≠y):swp x y s = s:=by simp [swp,h,h']
theorem ren_swp {x y:Nm} {t:Ty} (h:hasN x t = false) (h':hasN y t = false):ren (swp x y) t = t :=
 ren_id t fun z hz=>swp_o (fun e=>by subst e; rw [h] at hz; cases hz) (fun e=>by subst e; rw [h'] at hz; cases hz)
def drc (a:Ty) (x:Nm) (c d:Ty):Ty:=.rc (.plus (sub x (.rc a) c) (.times (sub x (.rc a) d) (.bound 0)))
inductive Dv:Ty->Nm->Ty->Prop
 | zero (s):Dv .zero s .zero
 | one (s):Dv .one s .zero
 | bound (k s):Dv (.bound k) s .zero
 | hit (s):Dv (.name s) s .one
 | miss {n s} (h:n≠s):Dv (.name n) s .zero
 | plus {a b s a' b'} (h1:Dv a s a') (h2:Dv b s b') (hl:(Ty.plus a' b').atoms<=400):Dv (.plus a b) s (.plus a' b')
 | times {a b s a' b'} (h1:Dv a s a') (h2:Dv b s b') (hl:(Ty.plus (.times a' b) (.times a b')).atoms<=400):Dv (.times a b) s (.plus (.times a' b) (.times a b'))
 | rc {a s c d} (x:Nm) (hx:hasN x a = false) (hs:x≠s) (h1:Dv (opn (.name x) a 0) s c) (h2:Dv (opn (.name x) a 0) x d) (hl:(drc a x c d).atoms<=400):Dv (.rc a) s (drc a x c d)
theorem ren_drc {f:Nm->Nm} (hf:Inj f) (a:Ty) (x:Nm) (c d:Ty):ren f (drc a x c d) = drc (ren f a) (f x) (ren f c) (ren f d):=by
 simp only [drc,ren,ren_sub hf]
theorem Dv.ren {f:Nm->Nm} (hf:Inj f) {t d:Ty} {s:Nm} (h:Dv t s d):Dv (ren f t) (f s) (ren f d):=by
 induction h with
 | zero s=>exact .zero _
 | one s=>exact .one _
 | bound k s=>exact .bound _ _
 | hit s=>exact .hit _
 | miss h=>exact .miss fun e=>h (hf _ _ e)
 | plus h1 h2 hl i1 i2=>exact .plus i1 i2 (by rw [<-ren_atoms f] at hl; exact hl)
 | times h1 h2 hl i1 i2=>exact .times i1 i2 (by rw [<-ren_atoms f] at hl; exact hl)
 | rc x hx hs h1 h2 hl i1 i2 =>
  rw [ren_drc hf]
  rw [ren_opn] at i1 i2
  exact .rc (f x) (by rw [ren_has hf]; exact hx) (fun e=>hs (hf _ _ e)) i1 i2 (by rw [<-ren_drc hf,ren_atoms]; exact hl)
theorem Dv.names {t d:Ty} {s:Nm} (h:Dv t s d):∀y,hasN y d = true->hasN y t = true:=by
 induction h with
 | zero s=>intro y hy; cases hy
 | one s=>intro y hy; cases hy
 | bound k s=>intro y hy; cases hy
 | hit s=>intro y hy; cases hy
 | miss h=>intro y hy; cases hy
 | plus h1 h2 hl i1 i2 =>
  intro y hy
  simp only [hasN,Bool.or_eq_true] at hy |-
  rcases hy with hy | hy
  ·exact .inl (i1 y hy)
  ·exact .inr (i2 y hy)
 | times h1 h2 hl i1 i2 =>
  intro y hy
  simp only [hasN,Bool.or_eq_true] at hy |-
  rcases hy with(hy | hy) | (hy | hy)
  ·exact .inl (i1 y hy)
  ·exact .inr hy
  ·exact .inl hy
  ·exact .inr (i2 y hy)
 | rc x hx hs h1 h2 hl i1 i2 =>
  intro y hy
  simp only [drc,hasN,Bool.or_eq_true,Bool.or_false] at hy |-
  have key:∀{a c:Ty},(∀y,hasN y c = true->hasN y (opn (.name x) a 0) = true)->hasN y (sub x (.rc a) c) = true->hasN y a = true:=fun i h=>by
   rcases has_sub _ h with h | ⟨h,h'⟩
   ·exact h
   ·rcases has_opn _ _ (i y h') with e | e
    ·exact absurd e h
    ·exact e
  rcases hy with hy | hy
  ·exact key i1 hy
  ·exact key i2 hy
theorem Dv.fresh {t d:Ty} {s y:Nm} (h:Dv t s d) (hy:hasN y t = false):hasN y d = false:=by
 cases e:hasN y d with
 | false=>rfl
 | true=>rw [h.names y e] at hy; cases hy
theorem Dv.move {a c:Ty} {x y s:Nm} (hx:hasN x a = false) (hy:hasN y a = false) (h:Dv (opn (.name x) a 0) s c):Dv (opn (.name y) a 0) (swp x y s) (Go.Proofs.Trees.ren (swp x y) c):=by
 have:=h.ren (swp_inj x y)
 rw [ren_opn,swp_l,ren_swp hx hy] at this
 exact this
theorem move_sub {a c:Ty} {x y s:Nm} (hx:hasN x a = false) (hy:hasN y a = false) (h:Dv (opn (.name x) a 0) s c):sub y (.rc a) (ren (swp x y) c) = sub x (.rc a) c:=by
 have e:=ren_sub (swp_inj x y) x (.rc a) c
 rw [swp_l,ren_swp (t:=.rc a) hx hy] at e
 rw [<-e]
 have key:∀z,(z = x\/z = y)->hasN z (sub x (.rc a) c) = false:=fun z hz=>by
  cases q:hasN z (sub x (.rc a) c) with
  | false=>rfl
  | true =>
   exfalso
   have hz':hasN z a = false:=by rcases hz with rfl | rfl<;>assumption
   rcases has_sub _ q with h1 | ⟨h1,h2⟩
   ·rw [show hasN z (.rc a) = hasN z a from rfl,hz'] at h1; cases h1
   ·rcases has_opn _ _ (h.names z h2) with e | e
    ·exact h1 e
    ·rw [hz'] at e; cases e
 exact ren_swp (key x (.inl rfl)) (key y (.inr rfl))
theorem Dv.uniq:∀(n:Nat) (t:Ty),t.atoms<=n->∀{s:Nm} {d d':Ty},Dv t s d->Dv t s d'->d = d'
 | 0,t,h,_,_,_,_,_=>by have:=atoms_pos t; omega
 | n+1,t,hn,s,d,d',h,h'=>by
  cases h with
  | zero=>cases h'; rfl
  | one=>cases h'; rfl
  | bound=>cases h'; rfl
  | hit =>
   cases h' with
   | hit=>rfl
   | miss h=>exact absurd rfl h
  | miss h =>
   cases h' with
   | hit=>exact absurd rfl h
   | miss _=>rfl
  | plus h1 h2 =>
   simp only [Ty.atoms] at hn
   cases h' with
   | plus g1 g2=>rw [Dv.uniq n _ (by omega) h1 g1,Dv.uniq n _ (by omega) h2 g2]
  | times h1 h2 =>
   simp only [Ty.atoms] at hn
   cases h' with
   | times g1 g2=>rw [Dv.uniq n _ (by omega) h1 g1,Dv.uniq n _ (by omega) h2 g2]
  | rc x hx hs h1 h2 =>
   simp only [Ty.atoms] at hn
   cases h' with
   | rc y hy hs' g1 g2 =>
    rename_i a _ _ _ _ _ _
    have m1:=h1.move hx hy
    have m2:=h2.move hx hy
    rw [swp_o (Ne.symm hs) (Ne.symm hs')] at m1
    rw [swp_l] at m2
    have e1:=Dv.uniq n _ (by rw [opn_atoms]; omega) m1 g1
    have e2:=Dv.uniq n _ (by rw [opn_atoms]; omega) m2 g2
    rw [drc,drc,<-e1,<-e2,move_sub hx hy h1,move_sub hx hy h2]
theorem Dv.small {t d:Ty} {s:Nm} (h:Dv t s d):d.atoms<=400:=by
 cases h<;>first | assumption | simp [Ty.atoms]
open Classical in
noncomputable def dvO (t:Ty) (s:Nm):Option Ty:=if h:∃d,Dv t s d then some (Classical.choose h) else none
theorem dvO_iff {t:Ty} {s:Nm} {d:Ty}:dvO t s = some d↔Dv t s d:=by
 unfold dvO
 by_cases h:∃d,Dv t s d
 ·rw [dif_pos h]
  have:=Classical.choose_spec h
  constructor
  ·intro e; cases e; exact this
  ·intro g; rw [Dv.uniq _ t (Nat.le_refl _) this g]
 ·rw [dif_neg h]
  exact⟨fun e=>(by cases e),fun g=>absurd ⟨d,g⟩ h⟩
def chk (t:Ty):Option Ty:=if t.atoms<=400 then some t else none
theorem chk_some {t d:Ty}:chk t = some d↔t.atoms<=400/\t = d:=by
 unfold chk
 split
 ·rename_i h; simp [h]
 ·rename_i h; simp [h]
theorem opt_ext {α:Type} {a b:Option α} (h:∀d,a = some d↔b = some d):a = b:=by
 cases a with
 | none=>cases b with
  | none=>rfl
  | some x=>have:=(h x).2 rfl; cases this
 | some x=>exact((h x).1 rfl).symm
theorem dvO_zero (s:Nm):dvO .zero s = some .zero:=dvO_iff.2 (.zero _)
theorem dvO_one (s:Nm):dvO .one s = some .zero:=dvO_iff.2 (.one _)
theorem dvO_bound (k:Nat) (s:Nm):dvO (.bound k) s = some .zero:=dvO_iff.2 (.bound _ _)
theorem dvO_name (n s:Nm):dvO (.name n) s = some (if n = s then .one else .zero):=by
 split
 ·rename_i h; subst h; exact dvO_iff.2 (.hit _)
 ·rename_i h; exact dvO_iff.2 (.miss h)
theorem dvO_plus (a b:Ty) (s:Nm):dvO (.plus a b) s = (dvO a s).bind fun a'=>(dvO b s).bind fun b'=>chk (.plus a' b'):=by
 refine opt_ext fun d=>?_
 rw [dvO_iff]
 simp only [Option.bind_eq_some_iff,dvO_iff,chk_some]
 constructor
 ·intro h; cases h with | plus h1 h2 hl=>exact⟨_,h1,_,h2,hl,rfl⟩
 ·rintro⟨a',h1,b',h2,hl,rfl⟩; exact .plus h1 h2 hl
theorem dvO_times (a b:Ty) (s:Nm):dvO (.times a b) s = (dvO a s).bind fun a'=>(dvO b s).bind fun b'=>chk (.plus (.times a' b) (.times a b')):=by
 refine opt_ext fun d=>?_
 rw [dvO_iff]
 simp only [Option.bind_eq_some_iff,dvO_iff,chk_some]
 constructor
 ·intro h; cases h with | times h1 h2 hl=>exact⟨_,h1,_,h2,hl,rfl⟩
 ·rintro⟨a',h1,b',h2,hl,rfl⟩; exact .times h1 h2 hl
theorem dvO_rc {a:Ty} {s x:Nm} (hx:hasN x a = false) (hs:x≠s):dvO (.rc a) s = (dvO (opn (.name x) a 0) s).bind fun c=>(dvO (opn (.name x) a 0) x).bind fun d=>chk (drc a x c d):=by
 refine opt_ext fun d=>?_
 rw [dvO_iff]
 simp only [Option.bind_eq_some_iff,dvO_iff,chk_some]
 constructor
 ·intro h
  cases h with
  | rc y hy hs' h1 h2 hl =>
   have m1:=h1.move hy hx
   have m2:=h2.move hy hx
   rw [swp_o (Ne.symm hs') (Ne.symm hs)] at m1
   rw [swp_l] at m2
   refine⟨_,m1,_,m2,?_⟩
   have e:∀c d,sub x (.rc a) (ren (swp y x) c) = sub y (.rc a) c->sub x (.rc a) (ren (swp y x) d) = sub y (.rc a) d->drc a x (ren (swp y x) c) (ren (swp y x) d) = drc a y c d:=fun c d e1 e2=>by rw [drc,drc,e1,e2]
   rw [e _ _ (move_sub hy hx h1) (move_sub hy hx h2)]
   exact⟨hl,rfl⟩
 ·rintro⟨c,h1,d',h2,hl,rfl⟩; exact .rc x hx hs h1 h2 hl
noncomputable def lpO (a:Ty) (x:Nm):Option Ty:=(dvO (opn (.name x) a 0) x).bind fun d=>chk (sub x (.rc a) d)
theorem lpO_eq {a:Ty} {x y:Nm} (hx:hasN x a = false) (hy:hasN y a = false):lpO a x = lpO a y:=by
 have key:∀{x y:Nm} {d:Ty},hasN x a = false->hasN y a = false->lpO a x = some d->lpO a y = some d:=fun {x y d} hx hy h=>by
  simp only [lpO,Option.bind_eq_some_iff,dvO_iff,chk_some] at h |-
  obtain⟨d',h1,hl,rfl⟩:=h
  have m1:=h1.move hx hy
  rw [swp_l] at m1
  exact⟨_,m1,by rw [move_sub hx hy h1]; exact⟨hl,rfl⟩⟩
 exact opt_ext fun d=>⟨key hx hy,key hy hx⟩
end Go.Proofs.Trees
namespace Go.Proofs.Trees
open Go Go.VL
theorem Sqii (b:UInt8):FSpec Tryz.prog 167 [.v (.int .u8 (b.toNat:Int))] [] (Det (.v (.bool (isA b)))):=by
 refine Fqjj _ ?_
 simp only [tqbl,↓zq,zs,hasK,Det,isA]
 repeat' (apply And.intro<;>intro _)
 all_goals first | (congr 2; rw [Bool.eq_iff_iff]; simp; omega) | (congr 2; simp; omega)
def RdR (s:List UInt8) (x:Option (E×List UInt8)):AV->List Ob->Prop:=fun r o=>o = [] /\
 match x with
 | some (e,u)=>r = .tup [e.sav,.v (.int .i64 ((s.length - u.length:Nat):Int))]
 | none=>∃(c:List UInt8) (d:AV),LK.sl.has d/\r = .tup [.agg [.v (.string (mk c)),d],.v (.int .i64 (-1))]
theorem RdR.ne (s:List UInt8) (x:Option (E×List UInt8)):∃r o,RdR s x r o:=by
 cases x with
 | some q=>exact⟨_,_,rfl,rfl⟩
 | none=>exact⟨_,_,rfl,[],.v (.slice none 0 0),(has_slnil).mpr trivial,rfl⟩
def jc (c:List UInt8) (d:AV):Ob:=.cells [.v (.string (mk c)),d]
theorem Lq9q (s:List UInt8) (hs:s.length<=8000) (from_:Int) (c1 c2:List UInt8) (d1 d2:AV) (h1:LK.sl.has d1) (h2:LK.sl.has d2):∀(k i:Nat),i+k = s.length->Lq5n [.v (.string (mk s)),.v (.int .i64 (i:Int)),.v (.int .i64 from_)] [jc c1 d1,jc c2 d2]
  (LIs 1 [.v (.string (mk s)),.v (.int .i64 ((i+((s.drop i).takeWhile isA).length:Nat):Int)),.v (.int .i64 from_)] [jc c1 d1,jc c2 d2])
 | 0,i,hi=>by
  refine Gqcb _ _ _ _ _ _ _ ?_
  have hd:s.drop i = []:=List.drop_eq_nil_of_le (by omega)
  simp only [rq39,↓zq,zs,hasK,zt]
  exact⟨h1,h2,fun h=>by omega,fun _=>by simp [LIs,hd,jc]⟩
 | k+1,i,hi=>by
  have hlt:i < s.length:=by omega
  refine Gqcb _ _ _ _ _ _ _ ?_
  simp only [rq39,↓zq,zs,hasK,zt,bt_mk s i hlt]
  refine⟨h1,h2,fun _=>⟨by omega,?_⟩,fun h=>by omega⟩
  refine wp_det (Sqii _) ?_
  simp only [↓zq,zs,hasK]
  refine⟨fun hb=>?_,fun hb=>?_⟩
  ·rw [wrap_succ i (by omega)]
   have:=Lq9q s hs from_ c1 c2 d1 d2 h1 h2 k (i+1) (by omega)
   rw [tw_step hlt hb,show i+(((s.drop (i+1)).takeWhile isA).length+1) = i+1+((s.drop (i+1)).takeWhile isA).length by omega]
   exact this
  ·simp [LIs,tw_stop hlt hb,jc]
def LdR (s:List UInt8) (x:Option (E×List UInt8)):Nat->List AV->List Ob->Prop:=fun t ys o=>t = 2 /\
 match x with
 | some (e,u)=>∃l,e = .list l/\ys = [.v (.int .i64 ((s.length - u.length:Nat):Int))]/\o = [jc [] .any,.vec 2 (E.scellss l)]
 | none=>∃es,ys = [.v (.int .i64 (-1))]/\o = [jc [] .any,.vec 2 es]
theorem sav_has (e:E):(e.sav = .agg e.sav.cs/\e.sav.cs.length = 2/\hasL [.str,.sl] e.sav.cs 0) = True:=by
 apply eq_true
 cases e<;>simp [E.sav,E.scells,cs_agg,hasL,has_str,has_slnil,has_sl]
theorem scells_eta (e:E):[AV.v (.string ((e.sav.cs.getD 0 .any).toStr)),e.sav.cs.getD 1 .any] = e.scells:=by
 cases e<;>rfl
theorem drop_cons {s:List UInt8} {j:Nat} (hj:j < s.length):s.drop j = s.getD j 0::s.drop (j+1):=by
 rw [List.drop_eq_getElem_cons hj]; simp [List.getD_eq_getElem?_getD,hj]
theorem Lqcl (s:List UInt8) (hs:s.length<=8000) (d:Nat) (hd:d<=300) (f:List UInt8->Option (E×List UInt8)) (hf:∀u e r,f u = some (e,r)->∃j,r = u.drop j/\0 < j/\j<=u.length)
  (ih:∀j,j<=s.length->FSpec Tryz.prog 137 [.v (.string (mk s)),.v (.int .i64 (j:Int)),.v (.int .i64 ((d+1:Nat):Int))] [] (RdR s (f (s.drop j)))) :
  ∀(n i:Nat) (acc:List E) (c1:List UInt8) (d1:AV),LK.sl.has d1->s.length - (i+1) < n->i < s.length->s.length - i+acc.length<=8001->Lq4t [.v (.string (mk s)),.v (.int .i64 (i:Int)),.v (.int .i64 (d:Int))] [jc c1 d1,jc [] .any,.vec 2 (E.scellss acc)]
   (LdR s (rdL f n (s.drop (i+1)) acc))
 | 0,i,acc,c1,d1,h1,hn,_,_=>by omega
 | n+1,i,acc,c1,d1,h1,hn,hi,hl=>by
  refine Gqk1 _ _ _ _ _ _ _ ?_
  simp only [rqa1,↓zq,zs,hasK,jc]
  refine⟨h1,?_⟩
  rw [wrap_succ i (by omega),wrap_succ d (by omega)]
  refine wp_call (ih (i+1) (by omega)) (RdR.ne _ _) ?_
  rintro r o ⟨rfl,hr⟩
  have hff:=hf (s.drop (i+1))
  unfold rdL
  cases hq:f (s.drop (i+1)) with
  | none =>
   rw [hq] at hr
   obtain⟨c,d',hd',rfl⟩:=hr
   simp only [↓zq,zs,hasK,zt,hasL]
   refine⟨hd',fun _=>⟨rfl,_,rfl,rfl⟩,fun h=>by omega⟩
  | some q =>
   obtain⟨e,u⟩:=q
   rw [hq] at hr
   subst hr
   obtain⟨j,hu,hj0,hj⟩:=hff e u hq
   rw [List.drop_drop] at hu
   simp only [List.length_drop] at hj
   have hul:u.length = s.length - (i+1+j):=by rw [hu,List.length_drop]
   have hpos:s.length - u.length = i+1+j:=by omega
   simp only [↓zq,zs,hasK,zt,sav_has,hpos,scells_eta,scellss_len]
   refine⟨fun h=>by omega,fun _=>⟨fun h=>?_,fun h=>⟨⟨fun c hc=>(by simp at hc; rw [hc]; cases e<;>rfl),by omega⟩,?_⟩⟩⟩
   ·have:u = []:=by rw [hu]; exact List.drop_eq_nil_of_le (by omega)
    subst this
    exact⟨rfl,_,rfl,rfl⟩
   ·have hlt:i+1+j < s.length:=by omega
    rw [drop_cons hlt] at hu
    subst hu
    rw [bt_mk s _ hlt]
    generalize hb:s.getD (i+1+j) 0 = b
    refine⟨by omega,fun h41=>?_,fun h41=>⟨by omega,fun h32=>?_,fun h32=>?_⟩⟩
    ·have h41':b.toNat = 41:=by omega
     dsimp only
     rw [if_pos h41',wrap_succ _ (by omega)]
     refine⟨rfl,acc++[e],rfl,?_,?_⟩
     ·rw [List.length_drop]; congr 3; omega
     ·simp [jc,scellss_app,E.scellss]
    ·have h41':¬ b.toNat = 41:=by omega
     have h32':¬ b.toNat = 32:=by omega
     dsimp only
     rw [if_neg h41',if_neg h32']
     exact⟨rfl,_,rfl,rfl⟩
    ·have h41':¬ b.toNat = 41:=by omega
     have h32':b.toNat = 32:=by omega
     dsimp only
     rw [if_neg h41',if_pos h32']
     have:=Lqcl s hs d hd f hf ih n (i+1+j) (acc++[e]) c1 d1 h1 (by omega) hlt (by simp; omega)
     simpa [jc,scellss_app,E.scellss] using this
theorem rd_drop (k:Nat) (u:List UInt8) (e:E) (r:List UInt8) (h:rd k u = some (e,r)):∃j,r = u.drop j/\0 < j/\j<=u.length:=by
 have suf:∀(k:Nat) (u:List UInt8) (e:E) (r:List UInt8),rd k u = some (e,r)->r <:+ u:=by
  intro k
  have tw:∀u:List UInt8,u.dropWhile isA <:+ u:=fun u=>List.dropWhile_suffix _
  have ll:∀(f:List UInt8->Option (E×List UInt8)),(∀u e r,f u = some (e,r)->r <:+ u)->∀(n:Nat) (u:List UInt8) (acc:List E) (e:E) (r:List UInt8),rdL f n u acc = some (e,r)->r <:+ u:=by
   intro f hf n
   induction n with
   | zero=>intro u acc e r h; cases h
   | succ n ih =>
    intro u acc e r h
    simp only [rdL] at h
    split at h
    ·rename_i p c r' hs
     have h1:r' <:+ u:=(List.suffix_cons c r').trans (hf _ _ _ hs)
     split at h
     ·cases h; exact h1
     ·split at h
      ·exact(ih _ _ _ _ h).trans h1
      ·cases h
    ·cases h
  induction k with
  | zero =>
   intro u e r h
   simp only [rd] at h
   split at h
   ·cases h
   ·cases h; exact tw u
  | succ k ih =>
   intro u e r h
   simp only [rd] at h
   split at h
   ·split at h
    ·split at h
     ·exact(ll _ ih _ _ _ _ _ h).trans (List.suffix_cons _ _)
     ·cases h
    ·cases h
   ·cases h; exact tw u
 obtain⟨p,hp⟩:=suf k u e r h
 have hlt:=rd_lt k u e r h
 have:=congrArg List.length hp
 simp only [List.length_append] at this
 exact⟨p.length,by rw [<-hp]; simp,by omega,by omega⟩
theorem rdL_none (n:Nat) (u:List UInt8) (acc:List E):rdL (fun _=>none) n u acc = none:=by
 cases n<;>rfl
theorem Sqhv (s:List UInt8) (j:Nat):FSpec Tryz.prog 137 [.v (.string (mk s)),.v (.int .i64 (j:Int)),.v (.int .i64 ((300+1:Nat):Int))] [] (RdR s none):=by
 refine Fqbu _ _ _ ?_
 simp only [tq6e,↓zq,zs,hasK]
 exact⟨fun _=>⟨rfl,[],_,(has_slnil).mpr trivial,rfl⟩,fun h=>by omega⟩
theorem l1Read_body (s:List UInt8) (hs:s.length<=8000) (d i:Nat) (hd:d<=300) (hi:i<=s.length) (f:List UInt8->Option (E×List UInt8)) (hf:∀u e r,f u = some (e,r)->∃j,r = u.drop j/\0 < j/\j<=u.length)
  (ih:∀j,j<=s.length->FSpec Tryz.prog 137 [.v (.string (mk s)),.v (.int .i64 (j:Int)),.v (.int .i64 ((d+1:Nat):Int))] [] (RdR s (f (s.drop j)))) (x:Option (E×List UInt8))
  (h0:i = s.length->x = none)
  (h1:i < s.length->(s.drop i).takeWhile isA≠[]->x = some (.atom ((s.drop i).takeWhile isA),(s.drop i).dropWhile isA))
  (h2:i < s.length->(s.drop i).takeWhile isA = []->¬ (s.getD i 0).toNat = 40->x = none)
  (h3:i < s.length->(s.getD i 0).toNat = 40->x = rdL f (s.length - (i+1)+1) (s.drop (i+1)) []) :
  FSpec Tryz.prog 137 [.v (.string (mk s)),.v (.int .i64 (i:Int)),.v (.int .i64 (d:Int))] [] (RdR s x):=by
 refine Fqbu _ _ _ ?_
 simp only [tq6e,↓zq,zs,hasK,zt]
 refine⟨fun h=>by omega,fun _=>⟨fun h=>?_,fun h=>⟨by omega,?_⟩⟩⟩
 ·rw [h0 (by omega)]
  exact⟨rfl,[],_,(has_slnil).mpr trivial,rfl⟩
 ·have hlt:i < s.length:=by omega
  rw [bt_mk s i hlt]
  refine⟨fun h40=>?_,fun h40=>?_⟩
  ·have h40':¬ (s.getD i 0).toNat = 40:=by omega
   refine wp_loop1 (Lq9q s hs _ [] [] _ _ ((has_slnil).mpr trivial) ((has_slnil).mpr trivial) (s.length - i) i (by omega)) ?_
   have hex:(List.take (i+((s.drop i).takeWhile isA).length) s).drop i = (s.drop i).takeWhile isA:=by
    rw [List.drop_take,Nat.add_sub_cancel_left]; exact take_tw _
   have hle:i+((s.drop i).takeWhile isA).length<=s.length:=by
    have:=tw_len (s.drop i); simp only [List.length_drop] at this; omega
   simp only [jc,↓zq,zs,hasK,zt,hex]
   refine⟨by omega,fun hnil=>?_,fun hnil=>?_⟩
   ·rw [h2 hlt hnil h40',hnil]
    exact⟨rfl,[],_,(has_slnil).mpr trivial,rfl⟩
   ·rw [h1 hlt hnil]
    refine⟨rfl,?_⟩
    have:=tw_len (s.drop i)
    simp only [List.length_drop] at this
    show _ = AV.tup [E.sav (.atom _),_]
    have e:s.length - ((s.drop i).dropWhile isA).length = i+((s.drop i).takeWhile isA).length:=by omega
    rw [e]; rfl
  ·have h40':(s.getD i 0).toNat = 40:=by omega
   rw [h3 hlt h40']
   refine wpt_loop (Lqcl s hs d hd f hf ih (s.length - (i+1)+1) i [] [] _ ((has_slnil).mpr trivial) (by omega) hlt (by simp; omega)) ?_ ?_
   ·rintro ys o ⟨h,_⟩; cases h
   ·rintro ys o ⟨_,hr⟩
    cases hq:rdL f (s.length - (i+1)+1) (s.drop (i+1)) [] with
    | none =>
     rw [hq] at hr
     obtain⟨es,rfl,rfl⟩:=hr
     simp only [jc,↓zq,zs,hasK]
     exact⟨rfl,[],_,(has_sl _).mpr trivial,rfl⟩
    | some q =>
     obtain⟨e,u⟩:=q
     rw [hq] at hr
     obtain⟨l,rfl,rfl,rfl⟩:=hr
     simp only [jc,↓zq,zs,hasK]
     exact⟨rfl,rfl⟩
theorem Sqk3 (s:List UInt8) (hs:s.length<=8000):∀(k:Nat),k<=300->∀i,i<=s.length->FSpec Tryz.prog 137 [.v (.string (mk s)),.v (.int .i64 (i:Int)),.v (.int .i64 ((300 - k:Nat):Int))] [] (RdR s (rd k (s.drop i))):=by
 intro k
 have hnil:∀k,rd k [] = none:=fun k=>by cases k<;>simp [rd]
 have ha40:∀b:UInt8,b.toNat = 40->isA b = false:=fun b hb=>by simp [isA,hb]
 induction k with
 | zero =>
  intro hk i hi
  refine l1Read_body s hs 300 i (by omega) hi (fun _=>none) (fun _ _ _ h=>by cases h) (fun j _=>Sqhv s j) _ (fun h=>?_) (fun hlt h=>?_) (fun hlt h h40=>?_) (fun hlt h40=>?_)
  ·rw [List.drop_eq_nil_of_le (by omega)]; exact hnil 0
  ·simp only [rd,if_neg h]
  ·simp only [rd,if_pos h]
  ·rw [rdL_none]
   have:(s.drop i).takeWhile isA = []:=tw_stop hlt (ha40 _ h40)
   simp only [rd,if_pos this]
 | succ k ih =>
  intro hk i hi
  have hd:300 - (k+1)+1 = 300 - k:=by omega
  refine l1Read_body s hs (300 - (k+1)) i (by omega) hi (rd k) (rd_drop k) (fun j hj=>by rw [hd]; exact ih (by omega) j hj) _ (fun h=>?_) (fun hlt h=>?_) (fun hlt h h40=>?_) (fun hlt h40=>?_)
  ·rw [List.drop_eq_nil_of_le (by omega)]; exact hnil _
  ·simp only [rd,if_neg h]
  ·rw [drop_cons hlt] at h |-
   simp only [rd,if_pos h,if_neg h40]
  ·have h:=tw_stop hlt (ha40 _ h40)
   rw [drop_cons hlt] at h |-
   simp only [rd,if_pos h,if_pos h40,List.length_drop]
end Go.Proofs.Trees
namespace Go.Proofs.Trees
open Go Go.VL
theorem sc_agg (e:E):AV.agg [.v (.string ((e.scells.getD 0 .any).toStr)),e.scells.getD 1 .any] = e.sav:=by cases e<;>rfl
theorem sc_len (e:E):e.scells.length = 2:=by cases e<;>rfl
theorem sc_has (e:E):hasL [.str,.sl] e.scells 0 = True:=by
 apply eq_true
 cases e<;>simp [E.scells,hasL,has_str,has_slnil,has_sl]
theorem sc_hd (e:E):e.scells.headD .any = .v (.string (mk e.at)):=by cases e<;>rfl
theorem Sq2 (x:E) (l:List E):FSpec Tryz.prog 96 [.agg [.v (.string (mk [])),.sl (E.scellss (x::l))]] [] (Det (.v (.string (mk x.at)))):=by
 refine Fq59 _ _ ((has_sl _).mpr trivial) ?_
 simp only [tq2k,E.scellss,↓zq,zs,hasK,zt,Det,sc_len,sc_hd,Nat.le_refl]
 refine⟨fun h=>absurd rfl h,fun _=>⟨fun h=>by omega,fun _=>⟨by omega,by omega⟩⟩⟩
theorem Sqh3:FSpec Tryz.prog 96 [.agg [.v (.string (mk [])),.sl (E.scellss [])]] [] (Det (.v (.string (mk [])))):=by
 refine Fq59 _ _ ((has_sl _).mpr trivial) ?_
 simp only [tq2k,E.scellss,↓zq,zs,hasK,zt,Det,sc_len,sc_hd,Nat.le_refl]
 simp
def isTy:E->Bool
 | .atom s=>(s==[48])||(s==[49])||isPar s||isLoo s
 | .list [x,a,b]=>if x.at = [43] then isTy a&&isTy b else if x.at = [42] then isTy a&&isTy b else if x.at = [114,101,99] then isLoo a.at&&isTy b else false
 | .list _=>false
theorem Sq1k:∀(e:E),e.ok->FSpec Tryz.prog 164 [e.sav] [] (Det (.v (.bool (isTy e))))
 | .atom s,hok=>by
  refine Fq7c _ _ ((has_slnil).mpr trivial) ?_
  have hne:s≠[]:=hok
  simp only [tqx,↓zq,zs,hasK,zt,Det,isTy]
  refine⟨fun _=>⟨fun h=>?_,fun h=>⟨fun h1=>?_,fun h1=>?_⟩⟩,fun h=>absurd h hne⟩
  ·simp [h]
  ·simp [h1]
  ·refine wp_det (Sq34 s) ?_
   simp only [↓zq,zs,hasK]
   refine⟨fun hp=>?_,fun hp=>?_⟩
   ·simp [hp]
   ·refine wp_det (Sq4m s) ?_
    simp [↓zq,zs,hasK,hp,h,h1]
 | .list l,hok=>by
  refine Fq7c _ _ ((has_sl _).mpr trivial) ?_
  match l,hok with
  | [],hok=>simp [tqx,E.scellss,↓zq,zs,hasK,zt,Det,isTy]
  | [x],hok=>simp [tqx,E.scellss,↓zq,zs,hasK,zt,Det,isTy]
  | [x,y],hok=>simp [tqx,E.scellss,↓zq,zs,hasK,zt,Det,isTy]
  | x::y::z::w::l,hok =>
   simp only [tqx,E.scellss,↓zq,zs,hasK,zt,Det,isTy]
   exact⟨fun h=>absurd rfl h,fun _=>⟨fun _=>trivial,fun h=>by omega⟩⟩
  | [x,y,z],hok =>
   obtain⟨ok1,ok2,ok3,_⟩:=hok
   simp only [tqx,↓zq,zs,hasK,zt,Det]
   refine⟨fun h=>absurd rfl h,fun _=>⟨fun h=>absurd rfl h,fun _=>?_⟩⟩
   refine wp_det (Sq2 x _) ?_
   simp only [E.scellss,toNat_one,toNat_two,↓zq,zs,hasK,zt,sc_agg,sc_len,sc_has,sc_hd,Nat.le_refl,isTy]
   refine⟨fun h=>?_,fun h=>⟨fun h1=>?_,fun h1=>⟨fun h2=>?_,fun h2=>?_⟩⟩⟩
   ·rw [if_pos h]
    refine⟨by omega,wp_det (Sq1k y ok2) ?_⟩
    simp only [↓zq,zs,hasK]
    refine⟨fun hy=>⟨by omega,wp_det (Sq1k z ok3) ?_⟩,fun hy=>?_⟩
    ·simp only [↓zq,zs,hasK,hy,Bool.true_and]
    ·rw [hy]; rfl
   ·rw [if_neg h,if_pos h1]
    refine⟨by omega,wp_det (Sq1k y ok2) ?_⟩
    simp only [↓zq,zs,hasK]
    refine⟨fun hy=>⟨by omega,wp_det (Sq1k z ok3) ?_⟩,fun hy=>?_⟩
    ·simp only [↓zq,zs,hasK,hy,Bool.true_and]
    ·rw [hy]; rfl
   ·rw [if_neg h,if_neg h1,if_pos h2]
    refine⟨by omega,by omega,wp_det (Sq4m _) ?_⟩
    simp only [↓zq,zs,hasK]
    refine⟨fun hy=>⟨by omega,wp_det (Sq1k z ok3) ?_⟩,fun hy=>?_⟩
    ·simp only [↓zq,zs,hasK,hy,Bool.true_and]
    ·rw [hy]; rfl
   ·rw [if_neg h,if_neg h1,if_neg h2]
theorem tyOf_some:∀(e:E) (ar:List (List UInt8)),(tyOf e ar).isSome = isTy e
 | .atom s,ar=>by
  simp only [tyOf,isTy]
  by_cases h:s = [48]
  ·simp [h]
  ·by_cases h1:s = [49]
   ·simp [h1]
   ·rw [if_neg h,if_neg h1]
    by_cases h2:isPar s = true
    ·simp [h2]
    ·rw [if_neg h2]
     by_cases h3:isLoo s = true
     ·rw [if_pos h3]; cases lastOf s ar ar.length<;>simp [h3]
     ·rw [if_neg h3]; simp [h,h1,h2,h3]
 | .list [],_=>rfl
 | .list [_],_=>rfl
 | .list [_,_],_=>rfl
 | .list (_::_::_::_::_),_=>rfl
 | .list [x,a,b],ar=>by
  have ha:=tyOf_some a ar
  have hb:=tyOf_some b ar
  have hb2:=tyOf_some b (ar++[a.at])
  rw [isTy]
  by_cases h:x.at = [43]
  ·rw [tyOf_plus ar h,if_pos h,<-ha,<-hb]; cases tyOf a ar<;>cases tyOf b ar<;>rfl
  ·by_cases h1:x.at = [42]
   ·rw [tyOf_times ar h1,if_neg h,if_pos h1,<-ha,<-hb]; cases tyOf a ar<;>cases tyOf b ar<;>rfl
   ·by_cases h2:x.at = [114,101,99]
    ·rw [tyOf_rec ar h2,if_neg h,if_neg h1,if_pos h2,<-hb2]
     cases isLoo a.at<;>cases tyOf b (ar++[a.at])<;>rfl
    ·rw [tyOf_no ar h h1 h2,if_neg h,if_neg h1,if_neg h2]; rfl
mutual
def E.ats:E->Nat
 | .atom _=>1
 | .list l=>E.atss l
def E.atss:List E->Nat
 | []=>0
 | e::l=>e.ats+E.atss l
end
mutual
theorem ats_le:∀e:E,e.ats<=e.sz
 | .atom s=>by simp [E.ats,E.sz]
 | .list l=>by have:=atss_le l; simp only [E.ats,E.sz]; omega
theorem atss_le:∀l:List E,E.atss l<=E.szs l
 | []=>by simp [E.atss,E.szs]
 | e::l=>by have:=ats_le e; have:=atss_le l; simp only [E.atss,E.szs]; omega
end
theorem scellss_getD:∀(l:List E) (i:Nat) (h:i < l.length),(E.scellss l).getD i [] = (l[i]).scells
 | e::l,0,_=>rfl
 | e::l,i+1,h=>by
  have:=scellss_getD l i (by simpa using h)
  simp only [E.scellss,List.getD_cons_succ,List.getElem_cons_succ]; exact this
theorem atss_drop:∀(l:List E) (i:Nat) (h:i < l.length),E.atss (l.drop i) = (l[i]).ats+E.atss (l.drop (i+1)):=by
 intro l i h
 rw [List.drop_eq_getElem_cons h]; rfl
theorem oks_get:∀(l:List E) (i:Nat) (h:i < l.length),E.oks l->(l[i]).ok
 | e::l,0,_,h=>h.1
 | e::l,i+1,hi,h=>oks_get l i (by simpa using hi) h.2
theorem Lqcs (l:List E) (hl:E.atss l < 1000000) (hll:l.length < 1000000) (ih:∀i (h:i < l.length),FSpec Tryz.prog 160 [(l[i]).sav] [] (Det (.v (.int .i64 ((l[i]).ats:Int))))) :
  ∀(k i n:Nat),i+k = l.length->n+E.atss (l.drop i)<=E.atss l->Lq37 [.v (.int .i64 (n:Int)),.v (.int .i64 (i:Int))] [.cells [.v (.string (mk [])),.sl (E.scellss l)]] (LIs 1 [.v (.int .i64 ((n+E.atss (l.drop i):Nat):Int))] [])
 | 0,i,n,hi,hn=>by
  refine Gqd4 _ _ _ _ ?_
  simp only [rq3r,↓zq,zs,hasK,scellss_len]
  have:l.drop i = []:=List.drop_eq_nil_of_le (by omega)
  refine⟨fun h=>by omega,fun _=>?_⟩
  simp [LIs,this,E.atss]
 | k+1,i,n,hi,hn=>by
  have hlt:i < l.length:=by omega
  refine Gqd4 _ _ _ _ ?_
  simp only [rq3r,↓zq,zs,hasK,zt,scellss_len,scellss_getD l i hlt,sc_len,sc_has,sc_agg,Nat.le_refl]
  refine⟨fun _=>⟨by omega,?_⟩,fun h=>by omega⟩
  refine wp_det (ih i hlt) ?_
  have h1:=atss_drop l i hlt
  simp only [↓zq,zs,hasK]
  rw [wrap_succ i (by omega),wrap64 _ (by omega) (by omega)]
  have:=Lqcs l hl hll ih k (i+1) (n+(l[i]).ats) (by omega) (by omega)
  rw [h1,<-Nat.add_assoc]
  simpa using this
theorem len_szs:∀l:List E,l.length<=E.szs l
 | []=>by simp [E.szs]
 | e::l=>by
  have:=len_szs l
  have:1<=e.sz:=by cases e<;>simp [E.sz]
  simp only [E.szs,List.length_cons]; omega
theorem sz_get:∀(l:List E) (i:Nat) (h:i < l.length),(l[i]).sz<=E.szs l
 | e::l,0,_=>by simp [E.szs]
 | e::l,i+1,h=>by have:=sz_get l i (by simpa using h); simp only [E.szs,List.getElem_cons_succ]; omega
theorem Sqew:∀(n:Nat) (e:E),e.sz < n->e.ok->e.sz < 1000000->FSpec Tryz.prog 160 [e.sav] [] (Det (.v (.int .i64 (e.ats:Int))))
 | 0,e,hn,_,_=>by omega
 | n+1,.atom s,hn,hok,hl=>by
  refine Fqeb _ _ ((has_slnil).mpr trivial) ?_
  have hne:s≠[]:=hok
  simp only [tq4f,↓zq,zs,hasK,zt,Det]
  exact⟨fun _=>rfl,fun h=>absurd h hne⟩
 | n+1,.list l,hn,hok,hl=>by
  refine Fqeb _ _ ((has_sl _).mpr trivial) ?_
  simp only [E.sz] at hn hl
  have h1:=atss_le l
  have h2:=len_szs l
  simp only [tq4f,↓zq,zs,hasK,zt,Det]
  refine⟨fun h=>absurd rfl h,fun _=>?_⟩
  refine wp_loop1 (Lqcs l (by omega) (by omega) (fun i hi=>?_) l.length 0 0 (by omega) (by simp)) ?_
  ·have:=sz_get l i hi
   exact Sqew n (l[i]) (by omega) (oks_get l i hi hok) (by omega)
  ·simp [↓zq,zs,hasK,E.ats]
theorem Sq10 (e:E) (h:e.ok) (hl:e.sz < 1000000):FSpec Tryz.prog 160 [e.sav] [] (Det (.v (.int .i64 (e.ats:Int)))):=Sqew (e.sz+1) e (by omega) h hl
theorem at_ats {x:E} (h:x.at≠[]):x.ats = 1:=by cases x<;>simp [E.at,E.ats] at h |-
theorem loo_ne {s:List UInt8} (h:isLoo s = true):s≠[]:=by rintro rfl; cases h
theorem tyOf_ats:∀(e:E) (ar:List (List UInt8)) (t:Ty),tyOf e ar = some t->e.ats = t.atoms
 | .atom s,ar,t,h=>by
  simp only [tyOf] at h
  simp only [E.ats]
  split at h
  ·cases h; rfl
  ·split at h
   ·cases h; rfl
   ·split at h
    ·cases h; rfl
    ·split at h
     ·split at h<;>cases h<;>rfl
     ·cases h
 | .list [],_,_,h=>by cases h
 | .list [_],_,_,h=>by cases h
 | .list [_,_],_,_,h=>by cases h
 | .list (_::_::_::_::_),_,_,h=>by cases h
 | .list [x,a,b],ar,t,h=>by
  simp only [E.ats,E.atss]
  by_cases h0:x.at = [43]
  ·rw [tyOf_plus ar h0] at h
   have:=at_ats (x:=x) (by rw [h0]; simp)
   split at h
   ·rename_i t1 t2 e1 e2
    cases h
    have:=tyOf_ats a ar _ e1
    have:=tyOf_ats b ar _ e2
    simp only [Ty.atoms]; omega
   ·cases h
  ·by_cases h1:x.at = [42]
   ·rw [tyOf_times ar h1] at h
    have:=at_ats (x:=x) (by rw [h1]; simp)
    split at h
    ·rename_i t1 t2 e1 e2
     cases h
     have:=tyOf_ats a ar _ e1
     have:=tyOf_ats b ar _ e2
     simp only [Ty.atoms]; omega
    ·cases h
   ·by_cases h2:x.at = [114,101,99]
    ·rw [tyOf_rec ar h2] at h
     have:=at_ats (x:=x) (by rw [h2]; simp)
     split at h
     ·rename_i hl
      have:=at_ats (loo_ne hl)
      split at h
      ·rename_i t1 e1
       cases h
       have:=tyOf_ats b _ _ e1
       simp only [Ty.atoms]; omega
      ·cases h
     ·cases h
    ·rw [tyOf_no ar h0 h1 h2] at h; cases h
def ParR (x:Option E) (b:Bool):AV->List Ob->Prop:=fun r o=>∃c:List UInt8,∃d:AV,LK.sl.has d/\r = .tup [.agg [.v (.string (mk c)),d],.v (.bool b)]/\(b = true->∃e,x = some e/\AV.agg [.v (.string (mk c)),d] = e.sav)
theorem sav_ex (e:E):∃c:List UInt8,∃d:AV,LK.sl.has d/\e.sav = AV.agg [.v (.string (mk c)),d]:=by
 cases e with
 | atom s=>exact⟨s,_,(has_slnil).mpr trivial,rfl⟩
 | list l=>exact⟨[],_,(has_sl _).mpr trivial,rfl⟩
theorem ParR.ne (x:Option E) (b:Bool) (h:b = true->x.isSome = true):∃r o,ParR x b r o:=by
 cases b with
 | false=>exact⟨_,[],[],.v (.slice none 0 0),(has_slnil).mpr trivial,rfl,fun h=>by cases h⟩
 | true =>
  cases x with
  | none=>cases h rfl
  | some e =>
   obtain⟨c,d,hd,he⟩:=sav_ex e
   exact⟨_,[],c,d,hd,rfl,fun _=>⟨e,rfl,he.symm⟩⟩
theorem Sqd5 (s:List UInt8):FSpec Tryz.prog 97 [.v (.string (mk s))] [] (ParR (rdT s) (rdT s).isSome):=by
 refine Fqjq _ ?_
 simp only [tq9c,↓zq,zs,hasK,zt,rdT]
 refine⟨fun h=>?_,fun h=>?_⟩
 ·rw [if_pos (by omega)]
  exact⟨[],_,(has_slnil).mpr trivial,rfl,fun h=>by cases h⟩
 ·rw [if_neg (by omega)]
  refine wp_call (Sqk3 s (by omega) 300 (by omega) 0 (by omega)) (RdR.ne _ _) ?_
  rintro r o ⟨rfl,hr⟩
  rw [List.drop_zero] at hr
  cases hq:rd 300 s with
  | none =>
   rw [hq] at hr
   obtain⟨c,d,hd,rfl⟩:=hr
   simp only [↓zq,zs,hasK,zt,hasL]
   refine⟨hd,c,d,hd,?_,fun h=>by cases h⟩
   have:((-1:Int)==(s.length:Int)) = false:=by
    rw [beq_eq_false_iff_ne]; omega
   rw [this]; rfl
  | some q =>
   obtain⟨e,u⟩:=q
   rw [hq] at hr
   subst hr
   have hlt:=rd_lt _ _ _ _ hq
   obtain⟨c,d,hd,he⟩:=sav_ex e
   simp only [he,↓zq,zs,hasK,zt,hasL]
   cases u with
   | nil =>
    refine⟨hd,c,d,hd,?_,fun _=>⟨e,rfl,he.symm⟩⟩
    simp
   | cons b u =>
    simp only [List.length_cons] at hlt |-
    refine⟨hd,c,d,hd,?_,fun h=>by cases h⟩
    have:(((s.length - (u.length+1):Nat):Int)==(s.length:Int)) = false:=by simp; omega
    rw [this]; rfl
def rdE (s:List UInt8):Option E:=match rdT s with
 | none=>none
 | some e=>if isTy e = true/\e.ats<=400 then some e else none
theorem Sq4j (s:List UInt8):FSpec Tryz.prog 134 [.v (.string (mk s))] [] (ParR (rdE s) (rdE s).isSome):=by
 refine Fqiq _ ?_
 unfold tqei
 refine wp_call (Sqd5 s) (ParR.ne _ _ (fun h=>h)) ?_
 rintro r o ⟨c,d,hd,rfl,hh⟩
 simp only [↓zq,zs,hasK,zt,hasL,rdE]
 refine⟨hd,fun h=>?_,fun h=>?_⟩
 ·obtain⟨e,he,hce⟩:=hh h
  obtain⟨hok,hsz⟩:=rdT_ok he
  rw [he,hce]
  refine wp_det (Sq1k e hok) ?_
  simp only [↓zq,zs,hasK]
  refine⟨fun hi=>?_,fun hi=>?_⟩
  ·refine wp_det (Sq10 e hok (by omega)) ?_
   simp only [↓zq,zs,hasK,hi]
   refine⟨c,d,hd,?_,?_⟩
   ·rw [hce]
    by_cases h4:e.ats<=400
    ·rw [if_pos h4]; exact congrArg (fun b=>AV.tup [e.sav,.v (.bool b)]) (decide_eq_true (show ((e.ats:Nat):Int)<=400 by omega))
    ·rw [if_neg h4]; exact congrArg (fun b=>AV.tup [e.sav,.v (.bool b)]) (decide_eq_false (show ¬ ((e.ats:Nat):Int)<=400 by omega))
   ·split
    ·exact fun _=>⟨e,rfl,hce⟩
    ·exact fun h=>by cases h
  ·refine⟨c,d,hd,?_,?_⟩
   ·rw [hce,if_neg (by rw [hi]; simp)]; rfl
   ·rw [if_neg (by rw [hi]; simp)]; exact fun h=>by cases h
 ·have hn:rdT s = none:=by cases hq:rdT s<;>simp [hq] at h |-
  rw [hn]
  exact⟨c,d,hd,rfl,fun h=>by cases h⟩
theorem rdE_ok {s:List UInt8} {e:E} (h:rdE s = some e):rdT s = some e/\isTy e = true/\e.ats<=400:=by
 unfold rdE at h
 split at h
 ·cases h
 ·split at h
  ·rename_i e' h1 h2; cases h; exact⟨h1,h2⟩
  ·cases h
end Go.Proofs.Trees
namespace Go.Proofs.Trees
open Go Go.VL
def freeLoo:Ty->Bool
 | .name s=>isLoo s
 | .plus a b=>freeLoo a||freeLoo b
 | .times a b=>freeLoo a||freeLoo b
 | .rc a=>freeLoo a
 | _=>false
theorem any_namesOf:∀(t:Ty) (out:List (List UInt8)),(namesOf t out).any isLoo = (out.any isLoo||freeLoo t)
 | .name s,out=>by
  simp only [namesOf,addN,freeLoo]
  split
  ·rename_i h
   cases hs:isLoo s with
   | false=>simp
   | true=>rw [Bool.or_true,List.any_eq_true]; exact⟨s,h,hs⟩
  ·simp
 | .plus a b,out=>by simp only [namesOf,freeLoo,any_namesOf a,any_namesOf b,Bool.or_assoc]
 | .times a b,out=>by simp only [namesOf,freeLoo,any_namesOf a,any_namesOf b,Bool.or_assoc]
 | .rc a,out=>by simp only [namesOf,freeLoo,any_namesOf a]
 | .zero,out=>by simp [namesOf,freeLoo]
 | .one,out=>by simp [namesOf,freeLoo]
 | .bound u,out=>by simp [namesOf,freeLoo]
theorem closed_eq (t:Ty):t.closed = !freeLoo t:=by simp [Ty.closed,any_namesOf]
def pl:Ty->Bool
 | .name s=>decide (s.length<=1)
 | .plus a b=>pl a&&pl b
 | .times a b=>pl a&&pl b
 | .rc a=>false
 | _=>true
theorem named_cons {lo hi:Nat} {s:List UInt8} (h:named lo hi s = true):∃c r,s = c::r/\lo<=c.toNat/\c.toNat<=hi:=by
 cases s with
 | nil=>cases h
 | cons c r=>simp only [named,Bool.and_eq_true,decide_eq_true_eq] at h; exact⟨c,r,rfl,by omega,by omega⟩
theorem tyOf_plus_inv {x a b:E} {ar:List (List UInt8)} {t:Ty} (hx:x.at = [43]) (h:tyOf (.list [x,a,b]) ar = some t):∃t1 t2,tyOf a ar = some t1/\tyOf b ar = some t2/\t = .plus t1 t2:=by
 rw [tyOf_plus ar hx] at h
 split at h
 ·rename_i t1 t2 e1 e2; cases h; exact⟨t1,t2,e1,e2,rfl⟩
 ·cases h
theorem tyOf_times_inv {x a b:E} {ar:List (List UInt8)} {t:Ty} (hx:x.at = [42]) (h:tyOf (.list [x,a,b]) ar = some t):∃t1 t2,tyOf a ar = some t1/\tyOf b ar = some t2/\t = .times t1 t2:=by
 rw [tyOf_times ar hx] at h
 split at h
 ·rename_i t1 t2 e1 e2; cases h; exact⟨t1,t2,e1,e2,rfl⟩
 ·cases h
theorem tyOf_rec_inv {x a b:E} {ar:List (List UInt8)} {t:Ty} (hx:x.at = [114,101,99]) (h:tyOf (.list [x,a,b]) ar = some t):∃t1,isLoo a.at = true/\tyOf b (ar++[a.at]) = some t1/\t = .rc t1:=by
 rw [tyOf_rec ar hx] at h
 split at h
 ·rename_i hl
  split at h
  ·rename_i t1 e1; cases h; exact⟨t1,hl,e1,rfl⟩
  ·cases h
 ·cases h
theorem rdY_of {s:List UInt8}:rdY s = match rdE s with | none=>none | some e=>tyOf e []:=by
 unfold rdY rdE
 cases he:rdT s with
 | none=>rfl
 | some e =>
  have hs:=tyOf_some e []
  simp only
  cases ht:tyOf e [] with
  | none =>
   rw [ht] at hs
   rw [if_neg (by rw [<-hs]; simp)]
  | some t =>
   rw [ht] at hs
   have ha:=tyOf_ats e [] t ht
   by_cases h4:e.ats<=400
   ·rw [if_pos ⟨hs.symm,h4⟩]; dsimp only; rw [if_neg (by omega)]; exact ht.symm
   ·rw [if_neg (fun h=>h4 h.2)]; dsimp only; rw [if_pos (by omega)]
end Go.Proofs.Trees
namespace Go.Proofs.Trees
open Go Go.VL
def pure:Ty->Bool
 | .zero=>true
 | .one=>true
 | .name s=>(s==[120])||(s==[121])||(s==[122])
 | .plus a b=>pure a&&pure b
 | .times a b=>pure a&&pure b
 | _=>false
def capC (v:Nat):Option Nat:=if v<=1000000000 then some v else none
def cnt (n:Nat):Ty->Option Nat
 | .zero=>some 0
 | .one=>some 1
 | .name _=>some n
 | .plus a b=>match cnt n a,cnt n b with | some x,some y=>capC (x+y) | _,_=>none
 | .times a b=>match cnt n a,cnt n b with | some x,some y=>capC (x*y) | _,_=>none
 | _=>none
def CntR (x:Option Nat):AV->List Ob->Prop:=fun r o=>∃v:Int,r = .tup [.v (.int .i64 v),.v (.bool x.isSome)]/\∀c,x = some c->v = (c:Int)
theorem CntR.ne (x:Option Nat):∃r o,CntR x r o:=by
 cases x with
 | none=>exact⟨_,[],0,rfl,fun c h=>by cases h⟩
 | some c=>exact⟨_,[],(c:Int),rfl,fun c' h=>by cases h; rfl⟩
end Go.Proofs.Trees
namespace Go.Proofs.Trees
open Go Go.VL Go.RowKit
abbrev dd (n:Nat):List UInt8:=Lib.decDigits n
theorem dd_one {k:Nat} (h:k < 10):dd k = [UInt8.ofNat (48+k)]:=by rw [dd,Lib.decDigits,dif_pos h]
theorem dd_more {k:Nat} (h:¬ k < 10):dd k = dd (k / 10)++[UInt8.ofNat (48+k % 10)]:=by rw [dd,Lib.decDigits,dif_neg h]
theorem dd_len:∀(n k:Nat),k < n->(dd k).length<=k+1
 | 0,k,h=>by omega
 | n+1,k,h=>by
  by_cases h1:k < 10
  ·rw [dd_one h1]; simp
  ·rw [dd_more h1]
   have:=dd_len n (k / 10) (by omega)
   simp only [List.length_append,List.length_cons,List.length_nil]; omega
theorem byte_of (d:Nat) (h:d < 10):(Value.int .u8 (IntKind.wrap .u8 (IntKind.wrap .i64 (48+(d:Int))))) = .int .u8 ((UInt8.ofNat (48+d)).toNat:Int):=by
 have:d = 0\/d = 1\/d = 2\/d = 3\/d = 4\/d = 5\/d = 6\/d = 7\/d = 8\/d = 9:=by omega
 rcases this with rfl | rfl | rfl | rfl | rfl | rfl | rfl | rfl | rfl | rfl<;>rfl
theorem bytesOf_one (b:UInt8):bytesOf [[.v (.int .u8 (b.toNat:Int))]] = [b]:=by simp [bytesOf,toInt_v]
theorem allU8_one (b:UInt8):allU8 [[.v (.int .u8 (b.toNat:Int))]]:=⟨rfl,(has_int _ _).mpr trivial,trivial⟩
theorem Sq1x:∀(n k:Nat),k < n->k < 1000000000->FSpec Tryz.prog 162 [.v (.int .i64 (k:Int))] [] (Det (.v (.string (mk (dd k)))))
 | 0,k,h,_=>by omega
 | n+1,k,h,hk=>by
  refine Fqjx _ ?_
  simp only [tqc3,↓zq,zs,hasK,Det]
  refine⟨fun h=>by omega,fun _=>⟨fun h=>by omega,fun _=>⟨fun h1=>?_,fun h1=>⟨by omega,?_⟩⟩⟩⟩
  ·rw [byte_of k (by omega)]
   refine⟨allU8_one _,?_⟩
   rw [bytesOf_one,dd_one (by omega)]; rfl
  ·have e1:IntKind.wrap .i64 (Int.tdiv (k:Int) 10) = ((k / 10:Nat):Int):=by
    rw [show Int.tdiv (k:Int) 10 = ((k / 10:Nat):Int) from (Int.ofNat_tdiv k 10).symm,wrap64 _ (by omega) (by omega)]
   have e2:Int.tmod (k:Int) 10 = ((k % 10:Nat):Int):=(Int.ofNat_tmod k 10).symm
   rw [e1,e2,byte_of (k % 10) (by omega)]
   refine wp_det (Sq1x n (k / 10) (by omega) (by omega)) ?_
   have hl:=dd_len (k+1) (k / 10) (by omega)
   simp only [↓zq,zs,hasK,zt,bytesOf_one]
   have h9:(k:Int) < 1000000000:=by omega
   refine⟨by omega,allU8_one _,?_,?_⟩
   ·show (mk (dd (k / 10))).size+(mk [UInt8.ofNat (48+k % 10)]).size<=_
    rw [size_mk,size_mk]; simp; omega
   ·show AV.v (.string (mk (dd (k / 10))++mk [UInt8.ofNat (48+k % 10)])) = _
    rw [append_mk,dd_more (k:=k) (by omega)]
theorem Sq2u (s:List UInt8) (d:AV) (hd:LK.sl.has d) (h:s≠[]):FSpec Tryz.prog 96 [.agg [.v (.string (mk s)),d]] [] (Det (.v (.string (mk [])))):=by
 refine Fq59 _ _ hd ?_
 simp only [tq2k,↓zq,zs,hasK,zt,Det]
 exact⟨fun _=>trivial,fun h'=>absurd h' h⟩
theorem sav_agg (e:E):AV.agg [.v (.string ((e.sav.cs.getD 0 .any).toStr)),e.sav.cs.getD 1 .any] = e.sav:=by cases e<;>rfl
mutual
def txE:E->List UInt8
 | .atom s=>s
 | .list []=>[40,41]
 | .list (e::l)=>40::(txE e++(txEs l++[41]))
def txEs:List E->List UInt8
 | []=>[]
 | e::l=>32::(txE e++txEs l)
end
theorem txEs_drop:∀(l:List E) (i:Nat) (h:i < l.length),txEs (l.drop i) = 32::(txE l[i]++txEs (l.drop (i+1))):=by
 intro l i h
 rw [List.drop_eq_getElem_cons h,txEs]
theorem Lq8c (l:List E) (hll:l.length < 1000000) (ih:∀i (h:i < l.length),FSpec Tryz.prog 101 [(l[i]).sav] [] (Det (.v (.string (mk (txE l[i])))))) :
  ∀(k i:Nat) (out:List UInt8),i+k = l.length->1<=i->out.length+(txEs (l.drop i)).length<=1000000000000->Lq1r [.v (.string (mk out)),.v (.int .i64 (i:Int))] [.cells [.v (.string (mk [])),.sl (E.scellss l)]] (LIs 1 [.v (.string (mk (out++txEs (l.drop i))))] [])
 | 0,i,out,hi,h1,hn=>by
  refine Gq2t _ _ _ _ ?_
  simp only [rq1t,↓zq,zs,hasK,scellss_len]
  have:l.drop i = []:=List.drop_eq_nil_of_le (by omega)
  refine⟨fun h=>by omega,fun _=>?_⟩
  simp [LIs,this,txEs]
 | k+1,i,out,hi,h1,hn=>by
  have hlt:i < l.length:=by omega
  have hd:=txEs_drop l i hlt
  rw [hd] at hn
  simp only [List.length_cons,List.length_append] at hn
  refine Gq2t _ _ _ _ ?_
  simp only [rq1t,↓zq,zs,hasK,zt,scellss_len,scellss_getD l i hlt,sc_len,sc_has,sc_agg,Nat.le_refl]
  refine⟨fun _=>⟨fun _=>⟨by omega,by omega,?_⟩,fun h=>by omega⟩,fun h=>by omega⟩
  refine wp_det (ih i hlt) ?_
  simp only [↓zq,zs,hasK,zt]
  refine⟨by simp; omega,?_⟩
  rw [wrap_succ i (by omega),hd]
  have:=Lq8c l hll ih k (i+1) (out++[32]++txE l[i]) (by omega) (by omega) (by simp; omega)
  simpa using this
theorem txE_get:∀(l:List E) (i:Nat) (h:i < l.length),(txE l[i]).length<=(txEs l).length
 | e::l,0,_=>by simp only [txEs,List.getElem_cons_zero,List.length_cons,List.length_append]; omega
 | e::l,i+1,h=>by have:=txE_get l i (by simpa using h); simp only [txEs,List.getElem_cons_succ,List.length_cons,List.length_append]; omega
theorem txEs_len:∀l:List E,l.length<=(txEs l).length
 | []=>by simp [txEs]
 | e::l=>by have:=txEs_len l; simp only [txEs,List.length_cons,List.length_append]; omega
theorem Sq68:∀(n:Nat) (e:E),e.sz < n->e.ok->(txE e).length<=900000->FSpec Tryz.prog 101 [e.sav] [] (Det (.v (.string (mk (txE e)))))
 | 0,e,hn,_,_=>by omega
 | n+1,.atom s,hn,hok,hl=>by
  refine Fq74 _ _ ((has_slnil).mpr trivial) ?_
  have hne:s≠[]:=hok
  simp only [tq2n,↓zq,zs,hasK,zt,Det]
  exact⟨fun _=>rfl,fun h=>absurd h hne⟩
 | n+1,.list [],hn,hok,hl=>by
  refine Fq74 _ _ ((has_sl _).mpr trivial) ?_
  simp only [tq2n,↓zq,zs,hasK,zt,Det]
  refine⟨fun h=>absurd rfl h,fun _=>?_⟩
  have h1:Lq1r [.v (.string (mk [40])),.v (.int .i64 0)] [.cells [.v (.string (mk [])),.sl (E.scellss [])]] (LIs 1 [.v (.string (mk [40]))] []):=by
   refine Gq2t _ _ _ _ ?_
   simp [rq1t,↓zq,zs,hasK,E.scellss,LIs]
  refine wp_loop1 h1 ?_
  simp only [↓zq,zs,hasK,zt]
  exact⟨by simp,rfl⟩
 | n+1,.list (x::l),hn,hok,hl=>by
  refine Fq74 _ _ ((has_sl _).mpr trivial) ?_
  simp only [E.sz,E.szs] at hn
  simp only [txE,List.length_cons,List.length_append,List.length_nil] at hl
  have h2:=txEs_len l
  simp only [tq2n,↓zq,zs,hasK,zt,Det]
  refine⟨fun h=>absurd rfl h,fun _=>?_⟩
  have hL:Lq1r [.v (.string (mk [40])),.v (.int .i64 0)] [.cells [.v (.string (mk [])),.sl (E.scellss (x::l))]] (LIs 1 [.v (.string (mk ([40]++txE x++txEs l)))] []):=by
   refine Gq2t _ _ _ _ ?_
   simp only [rq1t,E.scellss,Int.toNat_zero,↓zq,zs,hasK,zt,scellss_len,sc_len,sc_has,sc_agg,Nat.le_refl]
   refine⟨fun _=>⟨fun h=>by omega,fun _=>⟨by omega,?_⟩⟩,fun h=>by omega⟩
   refine wp_det (Sq68 n x (by omega) hok.1 (by omega)) ?_
   simp only [↓zq,zs,hasK,zt]
   refine⟨by simp; omega,?_⟩
   have:=Lq8c (x::l) (by simp; omega) (fun i hi=>by
    have h3:=sz_get (x::l) i hi
    simp only [E.szs] at h3
    refine Sq68 n _ (by omega) (oks_get _ i hi hok) ?_
    have h4:=txE_get (x::l) i hi
    simp only [txEs,List.length_cons,List.length_append] at h4
    omega) l.length 1 ([40]++txE x) (by simp; omega) (by omega) (by simp; omega)
   rw [show IntKind.wrap .i64 (0+1) = 1 from rfl]
   simpa [E.scellss] using this
  refine wp_loop1 hL ?_
  simp only [↓zq,zs,hasK,zt]
  refine⟨by simp; omega,?_⟩
  simp [txE]
theorem Sq23 (e:E) (h:e.ok) (hl:(txE e).length<=900000):FSpec Tryz.prog 101 [e.sav] [] (Det (.v (.string (mk (txE e))))):=Sq68 (e.sz+1) e (by omega) h hl
mutual
def E.nd:E->Nat
 | .atom _=>1
 | .list []=>1
 | .list (_::l)=>1+E.nds l
def E.nds:List E->Nat
 | []=>0
 | e::l=>e.nd+E.nds l
end
mutual
theorem nd_le:∀e:E,e.nd<=e.sz
 | .atom s=>by simp [E.nd,E.sz]
 | .list []=>by simp [E.nd,E.sz,E.szs]
 | .list (x::l)=>by have:=nds_le l; simp only [E.nd,E.sz,E.szs]; omega
theorem nds_le:∀l:List E,E.nds l<=E.szs l
 | []=>by simp [E.nds,E.szs]
 | e::l=>by have:=nd_le e; have:=nds_le l; simp only [E.nds,E.szs]; omega
end
theorem nds_drop:∀(l:List E) (i:Nat) (h:i < l.length),E.nds (l.drop i) = (l[i]).nd+E.nds (l.drop (i+1)):=by
 intro l i h
 rw [List.drop_eq_getElem_cons h]; rfl
theorem Lqaz (l:List E) (hl:E.nds l < 1000000) (hll:l.length < 1000000) (ih:∀i (h:i < l.length),FSpec Tryz.prog 99 [(l[i]).sav] [] (Det (.v (.int .i64 ((l[i]).nd:Int))))) :
  ∀(k i n:Nat),i+k = l.length->n+E.nds (l.drop i)<=1+E.nds l->Lq1n [.v (.int .i64 (n:Int)),.v (.int .i64 (i:Int))] [.cells [.v (.string (mk [])),.sl (E.scellss l)]] (LIs 1 [.v (.int .i64 ((n+E.nds (l.drop i):Nat):Int))] [])
 | 0,i,n,hi,hn=>by
  refine Gq2h _ _ _ _ ?_
  simp only [rq1q,↓zq,zs,hasK,scellss_len]
  have:l.drop i = []:=List.drop_eq_nil_of_le (by omega)
  refine⟨fun h=>by omega,fun _=>?_⟩
  simp [LIs,this,E.nds]
 | k+1,i,n,hi,hn=>by
  have hlt:i < l.length:=by omega
  refine Gq2h _ _ _ _ ?_
  simp only [rq1q,↓zq,zs,hasK,zt,scellss_len,scellss_getD l i hlt,sc_len,sc_has,sc_agg,Nat.le_refl]
  refine⟨fun _=>⟨by omega,?_⟩,fun h=>by omega⟩
  refine wp_det (ih i hlt) ?_
  have h1:=nds_drop l i hlt
  simp only [↓zq,zs,hasK]
  rw [wrap_succ i (by omega),wrap64 _ (by omega) (by omega)]
  have:=Lqaz l hl hll ih k (i+1) (n+(l[i]).nd) (by omega) (by omega)
  rw [h1,<-Nat.add_assoc]
  simpa using this
theorem Sqay:∀(n:Nat) (e:E),e.sz < n->e.sz < 900000->FSpec Tryz.prog 99 [e.sav] [] (Det (.v (.int .i64 (e.nd:Int))))
 | 0,e,hn,_=>by omega
 | n+1,.atom s,hn,hl=>by
  refine Fq9m _ _ ((has_slnil).mpr trivial) ?_
  simp only [tq5o]
  have hL:Lq1n [.v (.int .i64 1),.v (.int .i64 1)] [.cells [.v (.string (mk s)),.v (.slice none 0 0)]] (LIs 1 [.v (.int .i64 1)] []):=by
   refine Gq2h _ _ _ _ ?_
   simp [rq1q,↓zq,zs,hasK,LIs]
  refine wp_loop1 hL ?_
  simp [↓zq,zs,hasK,Det,E.nd]
 | n+1,.list l,hn,hl=>by
  refine Fq9m _ _ ((has_sl _).mpr trivial) ?_
  simp only [E.sz] at hn hl
  simp only [tq5o]
  match l,hn,hl with
  | [],hn,hl =>
   have hL:Lq1n [.v (.int .i64 1),.v (.int .i64 1)] [.cells [.v (.string (mk [])),.sl (E.scellss [])]] (LIs 1 [.v (.int .i64 1)] []):=by
    refine Gq2h _ _ _ _ ?_
    simp [rq1q,↓zq,zs,hasK,LIs,E.scellss]
   refine wp_loop1 hL ?_
   simp [↓zq,zs,hasK,Det,E.nd]
  | x::l,hn,hl =>
   simp only [E.szs] at hn hl
   have h1:=nds_le l
   have h2:=len_szs l
   have h0:=nd_le x
   refine wp_loop1 (Lqaz (x::l) (by simp only [E.nds]; omega) (by simp; omega) (fun i hi=>?_) l.length 1 1 (by simp; omega) (by simp [E.nds])) ?_
   ·have:=sz_get (x::l) i hi
    simp only [E.szs] at this
    exact Sqay n _ (by omega) (by omega)
   ·simp [↓zq,zs,hasK,E.nd,Det]
theorem Sqjo (e:E) (hl:e.sz < 900000):FSpec Tryz.prog 99 [e.sav] [] (Det (.v (.int .i64 (e.nd:Int)))):=Sqay (e.sz+1) e (by omega) hl
inductive Vl where
 | u
 | el (k:Nat)
 | l (v:Vl)
 | r (v:Vl)
 | f (v:Vl)
 | p (a b:Vl)
abbrev elS (k:Nat):List UInt8:=101::dd k
abbrev nilp:AV:=.v (.pointer none)
def Vl.iav:Vl->AV
 | .u=>.ptr [.v (.int .u8 117),.v (.string (mk [])),nilp,nilp]
 | .el k=>.ptr [.v (.int .u8 101),.v (.string (mk (elS k))),nilp,nilp]
 | .l v=>.ptr [.v (.int .u8 108),.v (.string (mk [])),v.iav,nilp]
 | .r v=>.ptr [.v (.int .u8 114),.v (.string (mk [])),v.iav,nilp]
 | .f v=>.ptr [.v (.int .u8 102),.v (.string (mk [])),v.iav,nilp]
 | .p a b=>.ptr [.v (.int .u8 112),.v (.string (mk [])),a.iav,b.iav]
def Vl.toE:Vl->E
 | .u=>.atom [117]
 | .el k=>.atom (elS k)
 | .l v=>.list [.atom [108],v.toE]
 | .r v=>.list [.atom [114],v.toE]
 | .f v=>.list [.atom [102],v.toE]
 | .p a b=>.list [.atom [112],a.toE,b.toE]
def Vl.nodes:Vl->Nat
 | .l v=>1+v.nodes
 | .r v=>1+v.nodes
 | .f v=>1+v.nodes
 | .p a b=>1+a.nodes+b.nodes
 | _=>1
def Vl.bel (n:Nat):Vl->Prop
 | .el k=>k < n
 | .l v=>v.bel n
 | .r v=>v.bel n
 | .f v=>v.bel n
 | .p a b=>a.bel n/\b.bel n
 | .u=>True
abbrev Vl.txt (v:Vl):List UInt8:=txE v.toE
theorem vl_has (v:Vl):LK.has .ptr v.iav = True:=by cases v<;>simp [Vl.iav,has_ptr]
theorem vl_nil (v:Vl):v.iav.isNil = false:=by cases v<;>rfl
theorem toE_ok:∀v:Vl,v.toE.ok
 | .u=>by simp [Vl.toE,E.ok]
 | .el k=>by simp [Vl.toE,E.ok]
 | .l v=>⟨by simp [E.ok],toE_ok v,trivial⟩
 | .r v=>⟨by simp [E.ok],toE_ok v,trivial⟩
 | .f v=>⟨by simp [E.ok],toE_ok v,trivial⟩
 | .p a b=>⟨by simp [E.ok],toE_ok a,toE_ok b,trivial⟩
theorem toE_nd:∀v:Vl,v.toE.nd = v.nodes
 | .u=>rfl
 | .el k=>rfl
 | .l v=>by simp [Vl.toE,E.nd,E.nds,Vl.nodes,toE_nd v]
 | .r v=>by simp [Vl.toE,E.nd,E.nds,Vl.nodes,toE_nd v]
 | .f v=>by simp [Vl.toE,E.nd,E.nds,Vl.nodes,toE_nd v]
 | .p a b=>by simp [Vl.toE,E.nd,E.nds,Vl.nodes,toE_nd a,toE_nd b,Nat.add_assoc]
theorem txt_len:∀v:Vl,v.bel 100->v.txt.length<=200*v.nodes
 | .u,_=>by simp [Vl.txt,Vl.toE,txE,Vl.nodes]
 | .el k,h=>by
  have h':k < 100:=h
  have:=dd_len 1000 k (by omega)
  simp only [Vl.txt,Vl.toE,txE,Vl.nodes,List.length_cons]; omega
 | .l v,h=>by have:=txt_len v h; simp only [Vl.txt,Vl.toE,txE,txEs,Vl.nodes,List.length_cons,List.length_append,List.length_nil] at this |-; omega
 | .r v,h=>by have:=txt_len v h; simp only [Vl.txt,Vl.toE,txE,txEs,Vl.nodes,List.length_cons,List.length_append,List.length_nil] at this |-; omega
 | .f v,h=>by have:=txt_len v h; simp only [Vl.txt,Vl.toE,txE,txEs,Vl.nodes,List.length_cons,List.length_append,List.length_nil] at this |-; omega
 | .p a b,h=>by have:=txt_len a h.1; have:=txt_len b h.2; simp only [Vl.txt,Vl.toE,txE,txEs,Vl.nodes,List.length_cons,List.length_append,List.length_nil] at *; omega
theorem Sq1d (a b:AV) (h:LK.ptr.has a) (h':LK.ptr.has b):FSpec Tryz.prog 130 [a,b] [] (Det (.ptr [.v (.int .u8 112),.v (.string (mk [])),a,b])):=by
 refine Fqk8 _ _ h h' ?_
 simp [tqcr,↓zq,zs,hasK,Det]
theorem nodes_pos (v:Vl):1<=v.nodes:=by cases v<;>simp [Vl.nodes]<;>omega
theorem Sqd:∀(v:Vl),v.nodes < 1000000->FSpec Tryz.prog 80 [v.iav] [] (Det (.v (.int .i64 (v.nodes:Int))))
 | .u,h=>by refine Fq1e _ ((vl_has _).mpr trivial) ?_; simp [tqv,Vl.iav,↓zq,zs,hasK,Det,Vl.nodes]
 | .el k,h=>by refine Fq1e _ ((vl_has _).mpr trivial) ?_; simp [tqv,Vl.iav,↓zq,zs,hasK,Det,Vl.nodes]
 | .l v,h=>by
  simp only [Vl.nodes] at h
  refine Fq1e _ ((vl_has _).mpr trivial) ?_
  simp only [tqv,Vl.iav,↓zq,zs,hasK,vl_has,vl_nil]
  refine⟨by omega,fun _=>⟨by omega,?_⟩,fun h=>(by cases h)⟩
  refine wp_det (Sqd v (by omega)) ?_
  simp only [↓zq,zs,hasK,Det,Vl.nodes]
  rw [wrap64 _ (by omega) (by omega)]
  simp
 | .r v,h=>by
  simp only [Vl.nodes] at h
  refine Fq1e _ ((vl_has _).mpr trivial) ?_
  simp only [tqv,Vl.iav,↓zq,zs,hasK,vl_has,vl_nil]
  refine⟨by omega,fun _=>⟨by omega,?_⟩,fun h=>(by cases h)⟩
  refine wp_det (Sqd v (by omega)) ?_
  simp only [↓zq,zs,hasK,Det,Vl.nodes]
  rw [wrap64 _ (by omega) (by omega)]
  simp
 | .f v,h=>by
  simp only [Vl.nodes] at h
  refine Fq1e _ ((vl_has _).mpr trivial) ?_
  simp only [tqv,Vl.iav,↓zq,zs,hasK,vl_has,vl_nil]
  refine⟨by omega,fun _=>⟨by omega,?_⟩,fun h=>(by cases h)⟩
  refine wp_det (Sqd v (by omega)) ?_
  simp only [↓zq,zs,hasK,Det,Vl.nodes]
  rw [wrap64 _ (by omega) (by omega)]
  simp
 | .p a b,h=>by
  simp only [Vl.nodes] at h
  refine Fq1e _ ((vl_has _).mpr trivial) ?_
  simp only [tqv,Vl.iav,↓zq,zs,hasK,vl_has,vl_nil]
  refine⟨by omega,fun _=>⟨by omega,?_⟩,fun h=>(by cases h)⟩
  refine wp_det (Sqd a (by omega)) ?_
  simp only [↓zq,zs,hasK,vl_has,vl_nil]
  rw [wrap64 (1+(a.nodes:Int)) (by omega) (by omega)]
  refine⟨by omega,fun _=>⟨by omega,?_⟩,fun h=>(by cases h)⟩
  refine wp_det (Sqd b (by omega)) ?_
  simp only [↓zq,zs,hasK,Det,Vl.nodes]
  rw [wrap64 _ (by omega) (by omega)]
  congr 2
end Go.Proofs.Trees
namespace Go.Proofs.Trees
open Go Go.VL Go.RowKit
def dgN:List UInt8->Nat->Option Nat
 | [],n=>some n
 | b::r,n=>if isDg b = true then dgN r (10*n+(b.toNat - 48)) else none
def elNum (s:List UInt8):Option Nat :=
 if s.length = 2\/s.length = 3 then(if s.getD 0 0 = 101/\¬ (s.length = 3/\s.getD 1 0 = 48) then dgN (s.drop 1) 0 else none) else none
def elI (s:List UInt8):Int:=match elNum s with | some k=>(k:Int) | none=>-1
theorem Lq8n (s:List UInt8) (hs:s.length<=3):∀(k i n:Nat),i+k = s.length->1<=i->(n+1)*10 ^ k<=1000->Lq62 [.v (.string (mk s)),.v (.int .i64 (n:Int)),.v (.int .i64 (i:Int))] []
  (LBy (match dgN (s.drop i) n with | some m=>(1,[.v (.int .i64 (m:Int))],[]) | none=>(2,[.v (.int .i64 (-1))],[])))
 | 0,i,n,hi,h1,hn=>by
  refine Gqe1 _ _ _ ?_
  have hd:s.drop i = []:=List.drop_eq_nil_of_le (by omega)
  simp only [rq3f,↓zq,zs,hasK,zt,hd,dgN]
  exact⟨fun h=>by omega,fun _=>by first | trivial | rfl⟩
 | k+1,i,n,hi,h1,hn=>by
  have hlt:i < s.length:=by omega
  refine Gqe1 _ _ _ ?_
  rw [drop_cons hlt,dgN]
  simp only [rq3f,↓zq,zs,hasK,zt,bt_mk s i hlt]
  generalize s.getD i 0 = b
  have hb:=b.toNat_lt
  refine⟨fun _=>⟨by omega,fun h48=>?_,fun h48=>⟨by omega,fun h57=>?_,fun h57=>⟨by omega,?_⟩⟩⟩,fun h=>by omega⟩
  ·have:isDg b = false:=by simp only [isDg,decide_eq_false_iff_not]; omega
   rw [this]; rfl
  ·have:isDg b = false:=by simp only [isDg,decide_eq_false_iff_not]; omega
   rw [this]; rfl
  ·have:isDg b = true:=by simp only [isDg,decide_eq_true_eq]; omega
   rw [if_pos this]
   have hk:k = 0\/k = 1:=by omega
   have hn2:n*10<=1000:=by
    rcases hk with rfl | rfl<;>simp at hn<;>omega
   have e8:IntKind.wrap .u8 ((b.toNat:Int) - 48) = ((b.toNat - 48:Nat):Int):=by
    have:b.toNat = 48\/b.toNat = 49\/b.toNat = 50\/b.toNat = 51\/b.toNat = 52\/b.toNat = 53\/b.toNat = 54\/b.toNat = 55\/b.toNat = 56\/b.toNat = 57:=by omega
    rcases this with h | h | h | h | h | h | h | h | h | h<;>rw [h]<;>rfl
   rw [e8,wrap_succ i (by omega),wrap64 ((b.toNat - 48:Nat):Int) (by omega) (by omega),wrap64 (10*(n:Int)) (by omega) (by omega),wrap64 _ (by omega) (by omega)]
   have e:(10*(n:Int)+((b.toNat - 48:Nat):Int)) = ((10*n+(b.toNat - 48):Nat):Int):=by omega
   rw [e]
   exact Lq8n s hs k (i+1) _ (by omega) (by omega) (by rcases hk with rfl | rfl<;>simp at hn |-<;>omega)
theorem Sqdf (s:List UInt8):FSpec Tryz.prog 138 [.v (.string (mk s))] [] (Det (.v (.int .i64 (elI s)))):=by
 refine Fqi8 _ ?_
 unfold tq8p
 refine wp_det (Sq1y _ _ _) ?_
 simp only [↓zq,zs,hasK,zt,inR,Det]
 have hL:∀(Q:Nat->List AV->List Ob->Prop),(s.length = 2\/s.length = 3)->s.getD 0 0 = 101->¬ (s.length = 3/\s.getD 1 0 = 48)->(Q 0 [.v (.int .i64 (elI s))] []) ->
   wpT Tryz.prog 49 (.loop Cq2c Lq1w [.v (.string (mk s)),.v (.int .i64 0),.v (.int .i64 1)] [] (fun y2 q2=>.need (LK.has (.int .i64) (y2.headD .any))<|.done 0 [.v (.int .i64 ((y2.headD .any).toInt))] []) (fun y2 q2=>.need (LK.has (.int .i64) (y2.headD .any))<|.done 0 [.v (.int .i64 ((y2.headD .any).toInt))] [])) Q:=by
  intro Q hl h0 h1 hQ
  have e:elNum s = dgN (s.drop 1) 0:=by rw [elNum,if_pos hl,if_pos ⟨h0,h1⟩]
  refine wp_loopB (Lq8n s (by omega) (s.length - 1) 1 0 (by omega) (by omega) (by rcases hl with h | h<;>rw [h]<;>decide)) (fun ys o e'=>?_) (fun ys o e'=>?_)
  ·cases hq:dgN (s.drop 1) 0<;>rw [hq] at e'<;>cases e'
   rw [hq] at e
   simp only [elI,e] at hQ
   simp only [↓zq,zs,hasK]; exact hQ
  ·cases hq:dgN (s.drop 1) 0<;>rw [hq] at e'<;>cases e'
   rw [hq] at e
   simp only [elI,e] at hQ
   simp only [↓zq,zs,hasK]; exact hQ
 have hz:∀{i:Nat},i < s.length->bt (mk s) (i:Int) = ((s.getD i 0).toNat:Int):=fun h=>bt_mk s _ h
 refine⟨fun h=>?_,fun h=>⟨?_,fun h0=>?_,fun h0=>⟨fun h3=>⟨by omega,fun h1=>?_,fun h1=>?_⟩,fun h3=>?_⟩⟩⟩
 ·have h':¬ (2<=(s.length:Int)/\(s.length:Int)<=3):=by simpa using h
  rw [elI,elNum,if_neg (by omega)]
 ·have h':2<=(s.length:Int)/\(s.length:Int)<=3:=by simpa using h
  omega
 ·have h':2<=(s.length:Int)/\(s.length:Int)<=3:=by simpa using h
  have e0:=hz (i:=0) (by omega)
  simp only [Int.ofNat_eq_natCast,Int.cast_ofNat_Int] at e0
  rw [e0] at h0
  rw [elI,elNum,if_pos (by omega),if_neg]
  rintro⟨e,_⟩
  rw [e] at h0; exact h0 rfl
 ·have h':2<=(s.length:Int)/\(s.length:Int)<=3:=by simpa using h
  have e1:=hz (i:=1) (by omega)
  simp only [Int.ofNat_eq_natCast,Int.cast_ofNat_Int] at e1
  rw [e1] at h1
  rw [elI,elNum,if_pos (by omega),if_neg]
  rintro⟨_,e⟩
  refine e ⟨by omega,?_⟩
  rw [<-UInt8.toNat_inj]; show (s.getD 1 0).toNat = 48; omega
 ·have h':2<=(s.length:Int)/\(s.length:Int)<=3:=by simpa using h
  have e0:=hz (i:=0) (by omega)
  have e1:=hz (i:=1) (by omega)
  simp only [Int.ofNat_eq_natCast,Int.cast_ofNat_Int] at e0 e1
  rw [e0] at h0; rw [e1] at h1
  refine hL _ (by omega) ?_ ?_ ⟨rfl,rfl⟩
  ·rw [<-UInt8.toNat_inj]; show (s.getD 0 0).toNat = 101; omega
  ·rintro⟨_,e⟩; rw [e] at h1; exact h1 rfl
 ·have h':2<=(s.length:Int)/\(s.length:Int)<=3:=by simpa using h
  have e0:=hz (i:=0) (by omega)
  simp only [Int.ofNat_eq_natCast,Int.cast_ofNat_Int] at e0
  rw [e0] at h0
  refine hL _ (by omega) ?_ ?_ ⟨rfl,rfl⟩
  ·rw [<-UInt8.toNat_inj]; show (s.getD 0 0).toNat = 101; omega
  ·rintro⟨e,_⟩; omega
theorem dgN_some:∀(l:List UInt8) (n:Nat),(dgN l n).isSome = l.all isDg
 | [],n=>rfl
 | b::l,n=>by
  rw [dgN]
  cases hb:isDg b with
  | true=>rw [if_pos rfl,dgN_some l]; simp [hb]
  | false=>rw [if_neg (by simp)]; simp [hb]
theorem Sqf1 (s:List UInt8):FSpec Tryz.prog 154 [.v (.string (mk s))] [] (Det (.v (.bool (elNum s).isSome))):=by
 refine Fqfy _ ?_
 simp only [tqe9,↓zq,zs,hasK,zt,Det]
 have hz:∀{i:Nat},i < s.length->bt (mk s) (i:Int) = ((s.getD i 0).toNat:Int):=fun h=>bt_mk s _ h
 refine⟨fun h=>?_,fun h=>⟨fun h3=>?_,fun h3=>?_⟩⟩
 ·rw [elNum,if_neg (by omega)]; rfl
 ·rw [elNum,if_neg (by omega)]; rfl
 ·have e0:=hz (i:=0) (by omega)
  have e1:=hz (i:=1) (by omega)
  simp only [Int.ofNat_eq_natCast,Int.cast_ofNat_Int] at e0 e1
  rw [e0,e1]
  have hx:s.drop (Int.toNat 1) = s.drop 1:=rfl
  refine⟨by omega,fun h0=>?_,fun h0=>⟨by omega,?_⟩⟩
  ·rw [elNum,if_pos (by omega),if_neg]
   ·rfl
   ·rintro⟨e,_⟩; rw [e] at h0; exact h0 rfl
  ·rw [hx]
   refine wp_det (Sqcj (s.drop 1) dgs (by simp; omega) (by decide) (by decide)) ?_
   simp only [↓zq,zs,hasK,zt]
   have h101:s.getD 0 0 = 101:=by rw [<-UInt8.toNat_inj]; show (s.getD 0 0).toNat = 101; omega
   have hall:Lib.trimS (s.drop 1) dgs = []↔(s.drop 1).all isDg = true:=by
    rw [trimS_nil]
    have:(fun x=>dgs.contains x) = isDg:=funext dgs_isDg
    rw [this]
   refine⟨fun ht=>?_,fun ht=>⟨fun h2=>?_,fun h2=>⟨by omega,?_⟩⟩⟩
   ·have:(s.drop 1).all isDg = false:=by
     cases hq:(s.drop 1).all isDg with
     | false=>rfl
     | true=>exact absurd (hall.2 hq) ht
    rw [elNum,if_pos (by omega)]
    split
    ·rw [dgN_some,this]
    ·rfl
   ·have hq:=hall.1 ht
    rw [elNum,if_pos (by omega),if_pos ⟨h101,by omega⟩,dgN_some,hq]
   ·have hq:=hall.1 ht
    rw [elNum,if_pos (by omega)]
    by_cases h48:s.getD 1 0 = 48
    ·rw [if_neg (by rintro⟨_,e⟩; exact e ⟨by omega,h48⟩),h48]; rfl
    ·rw [if_pos ⟨h101,fun e=>h48 e.2⟩,dgN_some,hq]
     have:¬ ((s.getD 1 0).toNat:Int) = 48:=fun e=>h48 (by rw [<-UInt8.toNat_inj]; show (s.getD 1 0).toNat = 48; omega)
     rw [bne_iff_ne.2 this]
theorem elNum_elS {s:List UInt8} {k:Nat} (h:elNum s = some k):s = elS k/\k < 100:=by
 have key1:∀a:Fin 256,isDg (UInt8.ofNat a.val) = true->dgN [UInt8.ofNat a.val] 0 = some ((UInt8.ofNat a.val).toNat - 48)/\(UInt8.ofNat a.val).toNat - 48 < 10/\[UInt8.ofNat a.val] = [UInt8.ofNat (48+((UInt8.ofNat a.val).toNat - 48))]:=by decide +kernel
 unfold elNum at h
 split at h
 ·rename_i hl
  split at h
  ·rename_i hh
   obtain⟨h0,h1⟩:=hh
   rcases hl with hl | hl
   ·match s,hl with
    | [c,a],_ =>
     simp only [List.getD_cons_zero] at h0
     subst h0
     simp only [List.drop_succ_cons,List.drop_zero,dgN] at h
     split at h
     ·rename_i ha
      have:=key1 ⟨a.toNat,a.toNat_lt⟩ (by simpa using ha)
      simp only [UInt8.ofNat_toNat] at this
      cases h
      refine⟨?_,by omega⟩
      rw [elS,dd_one (by omega)]
      simp only [Nat.mul_zero,Nat.zero_add]
      rw [<-this.2.2]
     ·cases h
   ·match s,hl with
    | [c,a,b],_ =>
     simp only [List.getD_cons_zero,List.getD_cons_succ,List.length_cons,List.length_nil,true_and] at h0 h1
     subst h0
     simp only [List.drop_succ_cons,List.drop_zero,dgN] at h
     split at h
     ·rename_i ha
      split at h
      ·rename_i hb
       have k1:=key1 ⟨a.toNat,a.toNat_lt⟩ (by simpa using ha)
       have k2:=key1 ⟨b.toNat,b.toNat_lt⟩ (by simpa using hb)
       simp only [UInt8.ofNat_toNat] at k1 k2
       have ha':48<=a.toNat/\a.toNat<=57:=by simpa [isDg] using ha
       have hb':48<=b.toNat/\b.toNat<=57:=by simpa [isDg] using hb
       have h48:a.toNat≠48:=fun e=>h1 (by rw [<-UInt8.toNat_inj]; simpa using e)
       cases h
       simp only [Nat.mul_zero,Nat.zero_add]
       refine⟨?_,by omega⟩
       rw [elS,dd_more (by omega),dd_one (by omega)]
       have e1:(10*(a.toNat - 48)+(b.toNat - 48)) / 10 = a.toNat - 48:=by omega
       have e2:(10*(a.toNat - 48)+(b.toNat - 48)) % 10 = b.toNat - 48:=by omega
       rw [e1,e2,<-k1.2.2,<-k2.2.2]; rfl
      ·cases h
     ·cases h
  ·cases h
 ·cases h
theorem elNum_of (k:Nat) (h:k < 100):elNum (elS k) = some k:=by
 have e:∀k,k < 100->dd k = if k < 10 then [UInt8.ofNat (48+k)] else [UInt8.ofNat (48+k / 10),UInt8.ofNat (48+k % 10)]:=by
  intro k hk
  by_cases h1:k < 10
  ·rw [dd_one h1,if_pos h1]
  ·rw [dd_more h1,dd_one (by omega),if_neg h1]; rfl
 have key:∀k:Fin 100,elNum (101::(if k.val < 10 then [UInt8.ofNat (48+k.val)] else [UInt8.ofNat (48+k.val / 10),UInt8.ofNat (48+k.val % 10)])) = some k.val:=by decide +kernel
 rw [elS,e k h]; exact key ⟨k,h⟩
theorem elI_of (k:Nat) (h:k < 100):elI (elS k) = (k:Int):=by rw [elI,elNum_of k h]
def isV:E->Bool
 | .atom s=>(s==[117])||(elNum s).isSome
 | .list [x,a]=>((x.at==[108])||(x.at==[114])||(x.at==[102]))&&isV a
 | .list [x,a,b]=>(x.at==[112])&&(isV a&&isV b)
 | .list _=>false
def vlOf:E->Option Vl
 | .atom s=>if s = [117] then some .u else match elNum s with | some k=>some (.el k) | none=>none
 | .list [x,a]=>match vlOf a with
  | none=>none
  | some v=>if x.at = [108] then some (.l v) else if x.at = [114] then some (.r v) else if x.at = [102] then some (.f v) else none
 | .list [x,a,b]=>if x.at = [112] then(match vlOf a,vlOf b with | some v,some w=>some (.p v w) | _,_=>none) else none
 | .list _=>none
theorem vlOf_isV:∀e:E,(vlOf e).isSome = isV e
 | .atom s=>by
  simp only [vlOf,isV]
  by_cases h:s = [117]
  ·simp [h]
  ·rw [if_neg h]; cases elNum s<;>simp [h]
 | .list []=>rfl
 | .list [_]=>rfl
 | .list [x,a]=>by
  have ha:=vlOf_isV a
  rw [vlOf,isV,<-ha]
  cases vlOf a with
  | none=>simp
  | some v =>
   by_cases h1:x.at = [108]
   ·simp [h1]
   ·by_cases h2:x.at = [114]
    ·simp [h2]
    ·by_cases h3:x.at = [102]
     ·simp [h3]
     ·simp [h1,h2,h3]
 | .list [x,a,b]=>by
  have ha:=vlOf_isV a
  have hb:=vlOf_isV b
  rw [vlOf,isV,<-ha,<-hb]
  by_cases h1:x.at = [112]
  ·rw [if_pos h1,h1]; cases vlOf a<;>cases vlOf b<;>rfl
  ·simp [h1]
 | .list (_::_::_::_::_)=>rfl
theorem at_atom {x:E} {w:List UInt8} (h:x.at = w) (hw:w≠[]):x = .atom w:=by
 cases x with
 | atom s=>exact congrArg E.atom h
 | list l=>exact absurd h.symm hw
theorem vlOf_toE:∀(e:E) (v:Vl),vlOf e = some v->v.toE = e/\v.bel 100
 | .atom s,v,h=>by
  simp only [vlOf] at h
  split at h
  ·rename_i h1; cases h; exact⟨by rw [h1]; rfl,trivial⟩
  ·split at h
   ·rename_i k hk
    cases h
    obtain⟨h1,h2⟩:=elNum_elS hk
    exact⟨by rw [h1]; rfl,h2⟩
   ·cases h
 | .list [],_,h=>by cases h
 | .list [_],_,h=>by cases h
 | .list (_::_::_::_::_),_,h=>by cases h
 | .list [x,a],v,h=>by
  rw [vlOf] at h
  split at h
  ·cases h
  ·rename_i w hw
   obtain⟨h1,h2⟩:=vlOf_toE a w hw
   split at h
   ·rename_i hx; cases h; rw [at_atom hx (by simp)]; exact⟨by rw [Vl.toE,h1],h2⟩
   ·split at h
    ·rename_i hx; cases h; rw [at_atom hx (by simp)]; exact⟨by rw [Vl.toE,h1],h2⟩
    ·split at h
     ·rename_i hx; cases h; rw [at_atom hx (by simp)]; exact⟨by rw [Vl.toE,h1],h2⟩
     ·cases h
 | .list [x,a,b],v,h=>by
  rw [vlOf] at h
  split at h
  ·rename_i hx
   split at h
   ·rename_i w1 w2 hw1 hw2
    cases h
    obtain⟨h1,h2⟩:=vlOf_toE a w1 hw1
    obtain⟨h3,h4⟩:=vlOf_toE b w2 hw2
    rw [at_atom hx (by simp)]
    exact⟨by rw [Vl.toE,h1,h3],h2,h4⟩
   ·cases h
  ·cases h
def isC (e:E) (w:List UInt8) (k:Nat):Bool:=match e with | .list (x::l)=>decide (l.length+1 = k)&&(x.at==w) | _=>false
theorem Sq1 (e:E) (w:List UInt8) (k:Nat) (hk:1<=k):FSpec Tryz.prog 145 [e.iav,.v (.string (mk w)),.v (.int .i64 (k:Int))] [] (Det (.v (.bool (isC e w k)))):=by
 refine Fqd8 _ _ _ ((iav_has e).mpr trivial) ?_
 cases e with
 | atom s=>simp only [tq1p,E.iav,↓zq,zs,hasK,zt,Det,isC]; exact⟨by omega,fun h=>by omega,fun _=>trivial⟩
 | list l =>
  simp only [tq1p,E.iav,↓zq,zs,hasK,zt,Det,iavs_len]
  cases l with
  | nil=>exact⟨by simp,fun h=>by simp at h; omega,fun _=>rfl⟩
  | cons x l =>
   simp only [List.length_cons]
   refine⟨by simp,fun h=>?_,fun h=>?_⟩
   ·have:decide (l.length+1 = k) = true:=by rw [decide_eq_true_eq]; omega
    simp only [isC,this]
    cases x<;>simp [E.iavs,E.iav,has_ptr,isNil_ptr,deref_ptr,has_str,toStr_v,toList_mk,E.at]
   ·have:decide (l.length+1 = k) = false:=by rw [decide_eq_false_iff_not]; omega
    simp only [isC,this]; rfl
def optV:Option Vl->AV
 | some v=>v.iav
 | none=>.v (.pointer none)
end Go.Proofs.Trees
namespace Go.Proofs.Trees
open Go Go.VL Go.RowKit
theorem optV_has (v:Option Vl):LK.has .ptr (optV v) = True:=by cases v<;>simp [optV,vl_has,has_nil]
theorem Sq1c:∀(e:E),e.ok->FSpec Tryz.prog 117 [e.iav] [] (Det (optV (vlOf e)))
 | .atom s,hok=>by
  refine Fqer _ ((iav_has _).mpr trivial) ?_
  have hd:=iav_at (.atom s)
  have hlen:=iav_len (.atom s)
  simp only [E.at] at hd
  simp only [tq6l,↓zq,zs,hasK,zt,Det,iav_has,iav_nil,hd,vlOf]
  refine⟨hlen,fun h=>?_,fun h=>⟨hlen,?_⟩⟩
  ·rw [if_pos h]; rfl
  ·rw [if_neg h]
   refine wp_det (Sqf1 s) ?_
   simp only [↓zq,zs,hasK,zt]
   refine⟨fun he=>⟨hlen,?_⟩,fun he=>?_⟩
   ·obtain⟨k,hk⟩:=Option.isSome_iff_exists.1 he
    obtain⟨h1,h2⟩:=elNum_elS hk
    rw [hk,h1]; rfl
   ·have hn:elNum s = none:=by cases hq:elNum s<;>simp [hq] at he |-
    rw [hn]
    refine wp_det (Sq1 (.atom s) [108] 2 (by omega)) ?_
    simp only [isC,↓zq,zs,hasK,zf]
    refine⟨fun h=>(by cases h),fun _=>wp_det (Sq1 (.atom s) [114] 2 (by omega)) ?_⟩
    simp only [isC,↓zq,zs,hasK,zf]
    refine⟨fun h=>(by cases h),fun _=>wp_det (Sq1 (.atom s) [102] 2 (by omega)) ?_⟩
    simp only [isC,↓zq,zs,hasK,zf]
    refine⟨fun h=>(by cases h),fun _=>wp_det (Sq1 (.atom s) [112] 3 (by omega)) ?_⟩
    simp only [isC,↓zq,zs,hasK,zf]
    exact⟨fun h=>(by cases h),fun _=>rfl⟩
 | .list l,hok=>by
  refine Fqer _ ((iav_has _).mpr trivial) ?_
  have hd:=iav_at (.list l)
  have hlen:=iav_len (.list l)
  have hlen2:∀{l:List E},((AV.v (.string (mk [])))::[AV.sl (E.iavs l)]).length = 2:=rfl
  simp only [E.at] at hd
  have he:elNum [] = none:=rfl
  simp only [tq6l,↓zq,zs,hasK,zt,Det,iav_has,iav_nil,hd]
  refine⟨hlen,fun h=>(by cases h),fun h=>⟨hlen,?_⟩⟩
  refine wp_det (Sqf1 []) ?_
  rw [he]
  simp only [↓zq,zs,hasK,zt,zf,Option.isSome_none]
  refine⟨fun h=>(by cases h),fun _=>wp_det (Sq1 (.list l) [108] 2 (by omega)) ?_⟩
  have hno:∀w:List UInt8,(∀x a,l≠[x,a])->isC (.list l) w 2 = false:=by
   intro w h2
   match l,h2 with
   | [],_=>rfl
   | [x],_=>rfl
   | [x,a],h2=>exact absurd rfl (h2 x a)
   | x::y::z::l,_=>simp [isC]
  match l,hok,hno,hlen with
  | [x,a],hok,hno,hlen =>
   clear hno
   obtain⟨ok1,ok2,_⟩:=hok
   have e2:∀w:List UInt8,isC (.list [x,a]) w 2 = (x.at==w):=fun w=>rfl
   have e3:isC (.list [x,a]) [112] 3 = false:=rfl
   have hx:=iav_at x
   have hxl:=iav_len x
   rw [vlOf]
   simp only [e2,↓zq,zs,hasK]
   refine⟨fun h1=>?_,fun h1=>wp_det (Sq1 (.list [x,a]) [114] 2 (by omega)) ?_⟩
   ·simp only [E.iav,E.iavs,toNat_one,↓zq,zs,hasK,zt,iav_has,iav_nil]
    refine⟨by omega,by omega,by omega,wp_det (Sq1c a ok2) ?_⟩
    cases hv:vlOf a with
    | none=>simp only [optV,↓zq,zs,hasK,optV_has]; exact⟨fun _=>trivial,fun h=>(by cases h)⟩
    | some v =>
     simp only [optV,↓zq,zs,hasK,zt,vl_has,vl_nil,hx,h1,iav_has,iav_nil]
     refine⟨fun h=>(by cases h),fun _=>⟨by omega,by omega,by omega,hxl,by simp,?_⟩⟩
     rfl
   ·simp only [e2,↓zq,zs,hasK]
    refine⟨fun h2=>?_,fun h2=>wp_det (Sq1 (.list [x,a]) [102] 2 (by omega)) ?_⟩
    ·simp only [E.iav,E.iavs,toNat_one,↓zq,zs,hasK,zt,iav_has,iav_nil]
     refine⟨by omega,by omega,by omega,wp_det (Sq1c a ok2) ?_⟩
     cases hv:vlOf a with
     | none=>simp only [optV,↓zq,zs,hasK,optV_has]; exact⟨fun _=>trivial,fun h=>(by cases h)⟩
     | some v =>
      simp only [optV,↓zq,zs,hasK,zt,vl_has,vl_nil,hx,h2,iav_has,iav_nil]
      refine⟨fun h=>(by cases h),fun _=>⟨by omega,by omega,by omega,hxl,by simp,?_⟩⟩
      rfl
    ·simp only [e2,↓zq,zs,hasK]
     refine⟨fun h3=>?_,fun h3=>wp_det (Sq1 (.list [x,a]) [112] 3 (by omega)) ?_⟩
     ·simp only [E.iav,E.iavs,toNat_one,↓zq,zs,hasK,zt,iav_has,iav_nil]
      refine⟨by omega,by omega,by omega,wp_det (Sq1c a ok2) ?_⟩
      cases hv:vlOf a with
      | none=>simp only [optV,↓zq,zs,hasK,optV_has]; exact⟨fun _=>trivial,fun h=>(by cases h)⟩
      | some v =>
       simp only [optV,↓zq,zs,hasK,zt,vl_has,vl_nil,hx,h3,iav_has,iav_nil]
       refine⟨fun h=>(by cases h),fun _=>⟨by omega,by omega,by omega,hxl,by simp,?_⟩⟩
       rfl
     ·rw [e3]
      simp only [↓zq,zs,hasK]
      refine⟨fun h=>(by cases h),fun _=>?_⟩
      cases vlOf a with
      | none=>rfl
      | some v=>simp only [if_neg h1,if_neg h2,if_neg h3]; rfl
  | [x,a,b],hok,hno,hlen =>
   obtain⟨ok1,ok2,ok3,_⟩:=hok
   have h2:=fun w=>hno w (fun x a h=>(by cases h))
   rw [h2]
   simp only [↓zq,zs,hasK]
   refine⟨fun h=>(by cases h),fun _=>wp_det (Sq1 (.list [x,a,b]) [114] 2 (by omega)) ?_⟩
   rw [h2]
   simp only [↓zq,zs,hasK]
   refine⟨fun h=>(by cases h),fun _=>wp_det (Sq1 (.list [x,a,b]) [102] 2 (by omega)) ?_⟩
   rw [h2]
   simp only [↓zq,zs,hasK]
   refine⟨fun h=>(by cases h),fun _=>wp_det (Sq1 (.list [x,a,b]) [112] 3 (by omega)) ?_⟩
   have e3:isC (.list [x,a,b]) [112] 3 = (x.at==[112]):=rfl
   rw [e3,vlOf]
   simp only [↓zq,zs,hasK]
   refine⟨fun h1=>?_,fun h1=>?_⟩
   ·rw [if_pos h1]
    simp only [E.iav,E.iavs,toNat_one,toNat_two,↓zq,zs,hasK,zt,iav_has,iav_nil]
    refine⟨by omega,by omega,by omega,wp_det (Sq1c a ok2) ?_⟩
    simp only [↓zq,zs,hasK,optV_has,iav_has]
    refine⟨by omega,by omega,by omega,wp_det (Sq1c b ok3) ?_⟩
    cases hv:vlOf a with
    | none=>cases hw:vlOf b<;>simp only [optV,↓zq,zs,hasK,optV_has,vl_has]<;>exact⟨fun _=>trivial,fun h=>(by cases h)⟩
    | some v =>
     cases hw:vlOf b with
     | none =>
      simp only [optV,↓zq,zs,hasK,optV_has,vl_has,vl_nil]
      exact⟨fun h=>(by cases h),fun _=>⟨fun _=>trivial,fun h=>(by cases h)⟩⟩
     | some w =>
      simp only [optV,↓zq,zs,hasK,vl_has,vl_nil]
      refine⟨fun h=>(by cases h),fun _=>⟨fun h=>(by cases h),fun _=>?_⟩⟩
      refine wp_det (Sq1d _ _ ((vl_has _).mpr trivial) ((vl_has _).mpr trivial)) ?_
      simp only [↓zq,zs,hasK]; rfl
   ·rw [if_neg h1]; rfl
  | [],hok,hno,hlen =>
   have h2:=fun w=>hno w (fun x a h=>(by cases h))
   have e3:isC (.list []) [112] 3 = false:=rfl
   rw [h2]
   simp only [↓zq,zs,hasK]
   refine⟨fun h=>(by cases h),fun _=>wp_det (Sq1 (.list []) [114] 2 (by omega)) ?_⟩
   rw [h2]
   simp only [↓zq,zs,hasK]
   refine⟨fun h=>(by cases h),fun _=>wp_det (Sq1 (.list []) [102] 2 (by omega)) ?_⟩
   rw [h2]
   simp only [↓zq,zs,hasK]
   refine⟨fun h=>(by cases h),fun _=>wp_det (Sq1 (.list []) [112] 3 (by omega)) ?_⟩
   rw [e3]
   simp only [↓zq,zs,hasK]
   exact⟨fun h=>(by cases h),fun _=>rfl⟩
  | [x],hok,hno,hlen =>
   have h2:=fun w=>hno w (fun x a h=>(by cases h))
   have e3:isC (.list [x]) [112] 3 = false:=rfl
   rw [h2]
   simp only [↓zq,zs,hasK]
   refine⟨fun h=>(by cases h),fun _=>wp_det (Sq1 (.list [x]) [114] 2 (by omega)) ?_⟩
   rw [h2]
   simp only [↓zq,zs,hasK]
   refine⟨fun h=>(by cases h),fun _=>wp_det (Sq1 (.list [x]) [102] 2 (by omega)) ?_⟩
   rw [h2]
   simp only [↓zq,zs,hasK]
   refine⟨fun h=>(by cases h),fun _=>wp_det (Sq1 (.list [x]) [112] 3 (by omega)) ?_⟩
   rw [e3]
   simp only [↓zq,zs,hasK]
   exact⟨fun h=>(by cases h),fun _=>rfl⟩
  | x::y::z::w::l,hok,hno,hlen =>
   have h2:=fun w=>hno w (fun x a h=>(by cases h))
   have e3:isC (.list (x::y::z::w::l)) [112] 3 = false:=by simp [isC]
   rw [h2]
   simp only [↓zq,zs,hasK]
   refine⟨fun h=>(by cases h),fun _=>wp_det (Sq1 (.list (x::y::z::w::l)) [114] 2 (by omega)) ?_⟩
   rw [h2]
   simp only [↓zq,zs,hasK]
   refine⟨fun h=>(by cases h),fun _=>wp_det (Sq1 (.list (x::y::z::w::l)) [102] 2 (by omega)) ?_⟩
   rw [h2]
   simp only [↓zq,zs,hasK]
   refine⟨fun h=>(by cases h),fun _=>wp_det (Sq1 (.list (x::y::z::w::l)) [112] 3 (by omega)) ?_⟩
   rw [e3]
   simp only [↓zq,zs,hasK]
   exact⟨fun h=>(by cases h),fun _=>rfl⟩
def rdV (s:List UInt8):Option Vl:=match rdT s with
 | none=>none
 | some e=>match vlOf e with
  | none=>none
  | some v=>if v.nodes > 200 then none else some v
theorem rdV_ok {s:List UInt8} {v:Vl} (h:rdV s = some v):rdT s = some v.toE/\v.bel 100/\v.nodes<=200:=by
 unfold rdV at h
 split at h
 ·cases h
 ·rename_i e he
  split at h
  ·cases h
  ·rename_i w hw
   split at h
   ·cases h
   ·cases h
    obtain⟨h1,h2⟩:=vlOf_toE e _ hw
    rw [h1]
    exact⟨he,h2,by omega⟩
theorem vlOf_nodes {e:E} {v:Vl} (h:vlOf e = some v):v.nodes<=e.sz:=by
 obtain⟨h1,_⟩:=vlOf_toE e v h
 rw [<-toE_nd,h1]; exact nd_le e
theorem Sqjb (s:List UInt8):FSpec Tryz.prog 79 [.v (.string (mk s))] [] (Det (optV (rdV s))):=by
 refine Fqjf _ ?_
 unfold tq7y
 refine wp_det (Sq77 s) ?_
 unfold rdV
 cases he:rdT s with
 | none=>simp only [optP,↓zq,zs,hasK,Det,optV]; simp
 | some e =>
  obtain⟨h1,h2⟩:=rdT_ok he
  simp only [optP,↓zq,zs,hasK,iav_has,iav_nil]
  refine⟨fun h=>(by cases h),fun _=>?_⟩
  refine wp_det (Sq1c e h1) ?_
  cases hv:vlOf e with
  | none=>simp only [optV,↓zq,zs,hasK,Det]; simp
  | some v =>
   have hn:=vlOf_nodes hv
   simp only [optV,↓zq,zs,hasK,vl_has,vl_nil]
   refine⟨fun h=>(by cases h),fun _=>?_⟩
   refine wp_det (Sqd v (by omega)) ?_
   simp only [↓zq,zs,hasK,Det]
   refine⟨fun h=>?_,fun h=>?_⟩
   ·rw [if_pos (by omega)]
   ·rw [if_neg (by omega)]
theorem Sq15:∀(e:E),e.ok->FSpec Tryz.prog 98 [e.sav] [] (Det (.v (.bool (isV e))))
 | .atom s,hok=>by
  refine Fq19 _ _ ((has_slnil).mpr trivial) ?_
  have hne:s≠[]:=hok
  simp only [tqr,↓zq,zs,hasK,zt,Det,isV]
  refine⟨fun _=>⟨fun h=>?_,fun h=>?_⟩,fun h=>absurd h hne⟩
  ·simp [h]
  ·refine wp_det (Sqdf s) ?_
   have h':(s==[117]) = false:=by simpa using h
   simp only [↓zq,zs,hasK,h',Bool.false_or]
   congr 2
   rw [elI]
   cases elNum s with
   | none=>rfl
   | some k=>simp
 | .list [],hok=>by
  refine Fq19 _ _ ((has_sl _).mpr trivial) ?_
  simp only [tqr,↓zq,zs,hasK,zt,Det,isV]
  refine⟨fun h=>absurd rfl h,fun _=>?_⟩
  refine wp_det Sqh3 ?_
  simp [↓zq,zs,hasK,zt]
 | .list [x],hok=>by
  refine Fq19 _ _ ((has_sl _).mpr trivial) ?_
  simp only [tqr,↓zq,zs,hasK,zt,Det,isV]
  refine⟨fun h=>absurd rfl h,fun _=>?_⟩
  refine wp_det (Sq2 x _) ?_
  simp [↓zq,zs,hasK,zt,E.scellss]
 | .list (x::y::z::w::l),hok=>by
  refine Fq19 _ _ ((has_sl _).mpr trivial) ?_
  simp only [tqr,↓zq,zs,hasK,zt,Det,isV]
  refine⟨fun h=>absurd rfl h,fun _=>?_⟩
  refine wp_det (Sq2 x _) ?_
  simp only [↓zq,zs,hasK,zt,E.scellss]
  refine⟨fun _=>⟨fun h=>by omega,fun _=>trivial⟩,fun _=>⟨fun _=>⟨fun h=>by omega,fun _=>trivial⟩,fun _=>⟨fun _=>⟨fun h=>by omega,fun _=>trivial⟩,fun _=>⟨fun _=>⟨fun h=>by omega,fun _=>trivial⟩,fun _=>trivial⟩⟩⟩⟩
 | .list [x,a],hok=>by
  refine Fq19 _ _ ((has_sl _).mpr trivial) ?_
  obtain⟨ok1,ok2,_⟩:=hok
  simp only [tqr,↓zq,zs,hasK,zt,Det,isV]
  refine⟨fun h=>absurd rfl h,fun _=>?_⟩
  refine wp_det (Sq2 x _) ?_
  simp only [E.scellss,toNat_one,toNat_two,↓zq,zs,hasK,zt,sc_agg,sc_len,sc_has,sc_hd,Nat.le_refl]
  refine⟨fun h=>⟨fun _=>⟨by omega,?_⟩,fun h=>by omega⟩,fun h1=>⟨fun h=>⟨fun _=>⟨by omega,?_⟩,fun h=>by omega⟩,fun h2=>⟨fun h=>⟨fun _=>⟨by omega,?_⟩,fun h=>by omega⟩,fun h3=>⟨fun h=>⟨fun h=>by omega,fun _=>?_⟩,fun h=>?_⟩⟩⟩⟩
  ·refine wp_det (Sq15 a ok2) ?_
   simp [↓zq,zs,hasK,h]
  ·refine wp_det (Sq15 a ok2) ?_
   simp [↓zq,zs,hasK,h]
  ·refine wp_det (Sq15 a ok2) ?_
   simp [↓zq,zs,hasK,h]
  ·simp [h]
  ·simp [h1,h2,h3]
 | .list [x,a,b],hok=>by
  refine Fq19 _ _ ((has_sl _).mpr trivial) ?_
  obtain⟨ok1,ok2,ok3,_⟩:=hok
  simp only [tqr,↓zq,zs,hasK,zt,Det,isV]
  refine⟨fun h=>absurd rfl h,fun _=>?_⟩
  refine wp_det (Sq2 x _) ?_
  simp only [E.scellss,toNat_one,toNat_two,↓zq,zs,hasK,zt,sc_agg,sc_len,sc_has,sc_hd,Nat.le_refl]
  refine⟨fun h=>⟨fun h=>by omega,fun _=>?_⟩,fun h1=>⟨fun h=>⟨fun h=>by omega,fun _=>?_⟩,fun h2=>⟨fun h=>⟨fun h=>by omega,fun _=>?_⟩,fun h3=>⟨fun h=>⟨fun _=>⟨by omega,?_⟩,fun h=>by omega⟩,fun h=>?_⟩⟩⟩⟩
  ·simp [h]
  ·simp [h]
  ·simp [h]
  ·refine wp_det (Sq15 a ok2) ?_
   simp only [↓zq,zs,hasK,h]
   refine⟨fun ha=>⟨by omega,wp_det (Sq15 b ok3) ?_⟩,fun ha=>?_⟩
   ·simp [↓zq,zs,hasK,ha]
   ·simp [ha]
  ·simp [h]
theorem Sq2j (s:List UInt8):FSpec Tryz.prog 69 [.v (.string (mk s))] [] (ParR ((rdV s).map Vl.toE) (rdV s).isSome):=by
 refine Fqir _ ?_
 unfold tqdg
 refine wp_call (Sqd5 s) (ParR.ne _ _ (fun h=>h)) ?_
 rintro r o ⟨c,d,hd,rfl,hh⟩
 simp only [↓zq,zs,hasK,zt,hasL,rdV]
 refine⟨hd,fun h=>?_,fun h=>?_⟩
 ·obtain⟨e,he,hce⟩:=hh h
  obtain⟨hok,hsz⟩:=rdT_ok he
  rw [he,hce]
  refine wp_det (Sq15 e hok) ?_
  simp only [↓zq,zs,hasK]
  have hs:=vlOf_isV e
  refine⟨fun hi=>?_,fun hi=>?_⟩
  ·rw [hi] at hs
   obtain⟨v,hv⟩:=Option.isSome_iff_exists.1 hs
   obtain⟨h1,h2⟩:=vlOf_toE e v hv
   refine wp_det (Sqjo e (by omega)) ?_
   simp only [↓zq,zs,hasK,hv]
   have hnd:e.nd = v.nodes:=by rw [<-h1,toE_nd]
   rw [hnd]
   refine⟨c,d,hd,?_,?_⟩
   ·rw [hce]
    by_cases h4:v.nodes > 200
    ·rw [if_pos h4]; exact congrArg (fun b=>AV.tup [e.sav,.v (.bool b)]) (decide_eq_false (show ¬ ((v.nodes:Nat):Int)<=200 by omega))
    ·rw [if_neg h4]; exact congrArg (fun b=>AV.tup [e.sav,.v (.bool b)]) (decide_eq_true (show ((v.nodes:Nat):Int)<=200 by omega))
   ·split
    ·exact fun h=>by cases h
    ·exact fun _=>⟨e,by simp [h1],hce⟩
  ·rw [hi] at hs
   have hn:vlOf e = none:=by cases hq:vlOf e<;>simp [hq] at hs |-
   rw [hn]
   exact⟨c,d,hd,by rw [hce]; rfl,fun h=>by cases h⟩
 ·have hn:rdT s = none:=by cases hq:rdT s<;>simp [hq] at h |-
  rw [hn]
  exact⟨c,d,hd,rfl,fun h=>by cases h⟩
end Go.Proofs.Trees
namespace Go.Proofs.Trees
open Go Go.VL Go.RowKit
inductive Fr where
 | mk (s:List UInt8) (e:E) (o:List Fr)
def Fr.nm:Fr->List UInt8 | .mk s _ _=>s
def Fr.ex:Fr->E | .mk _ e _=>e
def Fr.out:Fr->List Fr | .mk _ _ o=>o
def names:List Fr->List (List UInt8)
 | []=>[]
 | f::r=>names r++[f.nm]
def tyD (e:E) (o:List Fr):Ty:=(tyOf e (names o)).getD .zero
def E.sp:E->AV
 | .atom _=>.v (.slice none 0 0)
 | .list l=>.sl (E.scellss l)
theorem scells_sp (e:E):e.scells = [.v (.string (mk e.at)),e.sp]:=by cases e<;>rfl
theorem sav_sp (e:E):e.sav = .agg [.v (.string (mk e.at)),e.sp]:=by cases e<;>rfl
theorem sp_has (e:E):LK.has .sl e.sp = True:=by cases e<;>simp [E.sp,has_slnil,has_sl]
mutual
def Fr.cells:Fr->List AV
 | .mk s e o=>[.v (.string (mk s)),.v (.string (mk e.at)),e.sp,.sl (envS o)]
def envS:List Fr->List (List AV)
 | []=>[]
 | f::r=>envS r++[f.cells]
end
mutual
def Fr.iav:Fr->AV
 | .mk s e o=>.ptr [(tyD e o).av,envI o]
def envI:List Fr->AV
 | []=>nilp
 | f::r=>.ptr [f.iav,envI r]
end
inductive WF:List Fr->Prop
 | nil:WF []
 | cons {s:List UInt8} {x a b:E} {t:Ty} {r:List Fr} (hs:isLoo s = true) (hok:(E.list [x,a,b]).ok) (hx:x.at = [114,101,99]) (ht:tyOf (.list [x,a,b]) (names r) = some t) (hf:freeLoo t = false) (hr:WF r):WF (.mk s (.list [x,a,b]) r::r)
theorem envS_len:∀env:List Fr,(envS env).length = env.length
 | []=>rfl
 | f::r=>by simp [envS,envS_len r]
theorem envI_has (env:List Fr):LK.has .ptr (envI env) = True:=by cases env<;>simp [envI,has_nil,has_ptr]
theorem fr_has (f:Fr):LK.has .ptr f.iav = True:=by cases f; simp [Fr.iav,has_ptr]
def findF (s:List UInt8):List Fr->Option Fr
 | []=>none
 | f::r=>if f.nm = s then some f else findF s r
def hd (e:E) (env:List Fr):E×List Fr:=match findF e.at env with | some f=>(f.ex,f.out) | none=>(e,env)
theorem findF_nil {env:List Fr} (h:WF env):findF [] env = none:=by
 induction h with
 | nil=>rfl
 | @cons s x a b t r hs hok hx ht hf hr ih =>
  rw [findF,if_neg (show ¬ (Fr.mk s (.list [x,a,b]) r).nm = [] from loo_ne hs)]; exact ih
theorem findF_loo {env:List Fr} (h:WF env) {s:List UInt8} {f:Fr} (hf:findF s env = some f):isLoo s = true:=by
 induction h with
 | nil=>cases hf
 | cons hs hok hx ht hf' hr ih =>
  rw [findF] at hf
  split at hf
  ·rename_i e; exact e ▸ hs
  ·exact ih hf
theorem findF_wf {env:List Fr} (h:WF env) {s:List UInt8} {f:Fr} (hf:findF s env = some f):∃x a b t,f.ex = .list [x,a,b]/\(E.list [x,a,b]).ok/\x.at = [114,101,99]/\tyOf f.ex (names f.out) = some t/\freeLoo t = false/\WF f.out/\f.out.length < env.length:=by
 induction h with
 | nil=>cases hf
 | cons hs hok hx ht hf' hr ih =>
  rw [findF] at hf
  split at hf
  ·cases hf; exact⟨_,_,_,_,rfl,hok,hx,ht,hf',hr,by simp [Fr.out]⟩
  ·obtain⟨x,a,b,t,h1,h2,h3,h4,h5,h6,h7⟩:=ih hf
   exact⟨x,a,b,t,h1,h2,h3,h4,h5,h6,by simp; omega⟩
theorem lastOf_snoc (s w:List UInt8) (ar:List (List UInt8)):∀i,i<=ar.length->lastOf s (ar++[w]) i = (lastOf s ar i).map (·+1)
 | 0,_=>rfl
 | i+1,hi=>by
  have hlt:i < ar.length:=by omega
  have e:(ar++[w]).getD i [] = ar.getD i []:=by simp [List.getD_eq_getElem?_getD,List.getElem?_append_left hlt]
  rw [lastOf,lastOf,e,lastOf_snoc s w ar i (by omega)]
  split
  ·simp only [List.length_append,List.length_cons,List.length_nil,Option.map_some,Option.some.injEq]; omega
  ·rfl
theorem lastOf_cons (s:List UInt8) (f:Fr) (r:List Fr):lastOf s (names (f::r)) (names (f::r)).length = if f.nm = s then some 0 else(lastOf s (names r) (names r).length).map (·+1):=by
 have e:(names (f::r)).length = (names r).length+1:=by simp [names]
 rw [e,lastOf]
 have e2:(names (f::r)).getD (names r).length [] = f.nm:=by simp [names,List.getD_eq_getElem?_getD]
 rw [e2]
 split
 ·rw [e]; simp
 ·rw [names,lastOf_snoc _ _ _ _ (Nat.le_refl _)]
theorem lastOf_findF (s:List UInt8):∀env:List Fr,lastOf s (names env) (names env).length = none/\findF s env = none\/∃(u:Nat) (f:Fr),lastOf s (names env) (names env).length = some u/\findF s env = some f/\env[u]? = some f
 | []=>.inl ⟨rfl,rfl⟩
 | f::r=>by
  rw [lastOf_cons,findF]
  split
  ·exact .inr ⟨0,f,rfl,rfl,rfl⟩
  ·rcases lastOf_findF s r with⟨h1,h2⟩ | ⟨u,g,h1,h2,h3⟩
   ·exact .inl ⟨by rw [h1]; rfl,h2⟩
   ·exact .inr ⟨u+1,g,by rw [h1]; rfl,h2,by simpa using h3⟩
def Ty.isB:Ty->Bool
 | .bound _=>true
 | _=>false
theorem ty_cases {e:E} {env:List Fr} {t:Ty} (hw:WF env) (ht:tyOf e (names env) = some t) :
  (t.isB = false/\findF e.at env = none)\/∃(u:Nat) (f:Fr),t = .bound u/\findF e.at env = some f/\env[u]? = some f:=by
 cases e with
 | list l =>
  left
  refine⟨?_,findF_nil hw⟩
  match l,ht with
  | [x,a,b],ht =>
   by_cases h0:x.at = [43]
   ·obtain⟨t1,t2,_,_,rfl⟩:=tyOf_plus_inv h0 ht; rfl
   ·by_cases h1:x.at = [42]
    ·obtain⟨t1,t2,_,_,rfl⟩:=tyOf_times_inv h1 ht; rfl
    ·by_cases h2:x.at = [114,101,99]
     ·obtain⟨t1,_,_,rfl⟩:=tyOf_rec_inv h2 ht; rfl
     ·rw [tyOf_no _ h0 h1 h2] at ht; cases ht
  | [],ht=>cases ht
  | [_],ht=>cases ht
  | [_,_],ht=>cases ht
  | _::_::_::_::_,ht=>cases ht
 | atom s =>
  simp only [tyOf] at ht
  have hno:isLoo s = false->findF s env = none:=fun h=>by
   cases hq:findF s env with
   | none=>rfl
   | some f=>rw [findF_loo hw hq] at h; cases h
  split at ht
  ·rename_i h; cases ht; subst h; exact .inl ⟨rfl,hno rfl⟩
  ·split at ht
   ·rename_i h; cases ht; subst h; exact .inl ⟨rfl,hno rfl⟩
   ·split at ht
    ·rename_i h
     cases ht
     refine .inl ⟨rfl,hno ?_⟩
     cases hq:isLoo s with
     | false=>rfl
     | true =>
      obtain⟨c,r,rfl,h1,h2⟩:=named_cons h
      obtain⟨c',r',he,h3,h4⟩:=named_cons hq
      cases he; omega
    ·split at ht
     ·rcases lastOf_findF s env with⟨h1,h2⟩ | ⟨u,f,h1,h2,h3⟩
      ·rw [h1] at ht; cases ht; exact .inl ⟨rfl,h2⟩
      ·rw [h1] at ht; cases ht; exact .inr ⟨u,f,rfl,h2,h3⟩
     ·cases ht
def vis (n:Nat):Vl->E×List Fr->Bool
 | .u,p=>match hd p.1 p.2 with | (.atom s,_)=>s==[49] | _=>false
 | .el k,p=>match hd p.1 p.2 with | (.atom s,_)=>!(s==[49])&&(isPar s&&decide (k < n)) | _=>false
 | .l w,p=>match hd p.1 p.2 with | (.list [x,a,b],o)=>(x.at==[43])&&vis n w (a,o) | _=>false
 | .r w,p=>match hd p.1 p.2 with | (.list [x,a,b],o)=>(x.at==[43])&&vis n w (b,o) | _=>false
 | .f w,p=>match hd p.1 p.2 with | (.list [x,a,b],o)=>(x.at==[114,101,99])&&vis n w (b,.mk a.at (.list [x,a,b]) o::o) | _=>false
 | .p v w,p=>match hd p.1 p.2 with | (.list [x,a,b],o)=>(x.at==[42])&&(vis n v (a,o)&&vis n w (b,o)) | _=>false
theorem hd_none {e:E} {env:List Fr} (h:findF e.at env = none):hd e env = (e,env):=by rw [hd,h]
theorem hd_some {e:E} {env:List Fr} {f:Fr} (h:findF e.at env = some f):hd e env = (f.ex,f.out):=by rw [hd,h]
theorem hd_rec {x a b:E} {o:List Fr} (h:WF o):hd (.list [x,a,b]) o = (.list [x,a,b],o):=hd_none (findF_nil h)
theorem vis_hd (n:Nat) (v:Vl) {e e':E} {env o:List Fr} (h:hd e env = (e',o)) (h':hd e' o = (e',o)):vis n v (e,env) = vis n v (e',o):=by
 cases v<;>simp only [vis,h,h']
theorem wf_enter {x a b:E} {env:List Fr} {t:Ty} (hw:WF env) (hok:(E.list [x,a,b]).ok) (hx:x.at = [114,101,99]) (ht:tyOf (.list [x,a,b]) (names env) = some t) (hf:freeLoo t = false) :
  ∃t1,t = .rc t1/\tyOf b (names (.mk a.at (.list [x,a,b]) env::env)) = some t1/\freeLoo t1 = false/\WF (.mk a.at (.list [x,a,b]) env::env):=by
 obtain⟨t1,hl,h1,rfl⟩:=tyOf_rec_inv hx ht
 exact⟨t1,rfl,h1,hf,.cons hl hok hx ht hf hw⟩
theorem Sq17 (a b env:AV) (n:Int) (s:ByteArray) (u:Int) (ha:LK.ptr.has a) (he:LK.ptr.has env):FSpec Tryz.prog 126 [.agg [.ptr [.v (.int .u8 n),.v (.string s),.v (.int .i64 u),a,b],env]] [] (Det (.agg [a,env])):=by
 refine Fqg7 _ _ ((has_ptr _).mpr trivial) he ?_
 simp only [tq9b,↓zq,zs,hasK,Det]
 exact⟨ha,by omega⟩
theorem Sq18 (a b env:AV) (n:Int) (s:ByteArray) (u:Int) (hb:LK.ptr.has b) (he:LK.ptr.has env):FSpec Tryz.prog 127 [.agg [.ptr [.v (.int .u8 n),.v (.string s),.v (.int .i64 u),a,b],env]] [] (Det (.agg [b,env])):=by
 refine Fqjc _ _ ((has_ptr _).mpr trivial) he ?_
 simp only [tqap,↓zq,zs,hasK,Det]
 exact⟨hb,by omega⟩
theorem Sqj4 (t:Ty) (env:List Fr) (s:List UInt8) (e:E) (ht:tyD e env = .rc t):FSpec Tryz.prog 93 [.agg [(Ty.rc t).av,envI env]] [] (Det (.tup [.agg [t.av,envI (.mk s e env::env)],(Fr.mk s e env).iav])):=by
 refine Fqhc _ _ ((ty_has _).mpr trivial) ((envI_has _).mpr trivial) ?_
 simp only [tqbp,Ty.av,↓zq,zs,hasK,ty_has,Det,envI,Fr.iav,ht]
 omega
theorem envI_drop (env:List Fr) (i:Nat) (f:Fr) (h:env[i]? = some f):envI (env.drop i) = .ptr [f.iav,envI (env.drop (i+1))]:=by
 obtain⟨hlt,he⟩:=List.getElem?_eq_some_iff.1 h
 rw [List.drop_eq_getElem_cons hlt,he,envI]
theorem Lq7b (env:List Fr) (u:Nat) (hu:u < env.length) (hl:env.length < 1000000):∀(k i:Nat),i+k = u->Lq2i [envI (env.drop i),.v (.int .i64 (u:Int)),.v (.int .i64 (i:Int))] [] (LIs 1 [envI (env.drop u)] [])
 | 0,i,hi=>by
  refine Gq2o _ _ _ ?_
  have:i = u:=by omega
  subst this
  simp only [rq1s,↓zq,zs,hasK,envI_has]
  exact⟨fun h=>by omega,fun _=>by simp [LIs]⟩
 | k+1,i,hi=>by
  refine Gq2o _ _ _ ?_
  have hlt:i < env.length:=by omega
  have hg:env[i]? = some env[i]:=List.getElem?_eq_getElem hlt
  have hd:=envI_drop env i _ hg
  rw [hd]
  simp only [rq1s,↓zq,zs,hasK,envI_has]
  refine⟨fun _=>⟨by omega,?_⟩,fun h=>by omega⟩
  rw [wrap_succ i (by omega)]
  exact Lq7b env u hu hl k (i+1) (by omega)
theorem Sqj0 (env:List Fr) (u:Nat) (f:Fr) (hf:env[u]? = some f) (hl:env.length < 1000000):FSpec Tryz.prog 153 [.agg [(Ty.bound u).av,envI env]] [] (Det f.iav):=by
 refine Fq8o _ _ ((ty_has _).mpr trivial) ((envI_has _).mpr trivial) ?_
 obtain⟨hlt,he⟩:=List.getElem?_eq_some_iff.1 hf
 simp only [tq2y,Ty.av,↓zq,zs,hasK]
 refine⟨by omega,?_⟩
 have h:=Lq7b env u hlt hl u 0 (by omega)
 simp only [List.drop_zero] at h
 refine wp_loop1 h ?_
 rw [envI_drop env u f hf]
 simp only [↓zq,zs,hasK,fr_has,Det]
 omega
theorem atoi_dd (k:Nat) (h:k < 100):Lib.atoi (dd k) = some (k:Int):=by
 have e:∀k,k < 100->dd k = if k < 10 then [UInt8.ofNat (48+k)] else [UInt8.ofNat (48+k / 10),UInt8.ofNat (48+k % 10)]:=by
  intro k hk
  by_cases h1:k < 10
  ·rw [dd_one h1,if_pos h1]
  ·rw [dd_more h1,dd_one (by omega),if_neg h1]; rfl
 have key:∀k:Fin 100,Lib.atoi (if k.val < 10 then [UInt8.ofNat (48+k.val)] else [UInt8.ofNat (48+k.val / 10),UInt8.ofNat (48+k.val % 10)]) = some (k.val:Int):=by decide +kernel
 rw [e k h]; exact key ⟨k,h⟩
theorem Sqkj (k:Nat) (hk:k < 100):FSpec Tryz.prog 152 [.v (.string (mk (dd k)))] [] (Det (.tup [.v (.int .i64 (k:Int)),.v .nilIface])):=by
 have hl:=dd_len 1000 k (by omega)
 have hl2:(dd k).length<=18:=by
  have e:(dd k).length<=2:=by
   by_cases h1:k < 10
   ·rw [dd_one h1]; simp
   ·rw [dd_more h1,dd_one (by omega)]; simp
  omega
 refine FSpec.libA (xs:=[.string (mk (dd k))]) (v:=.tuple #[.int .i64 (k:Int),.nilIface]) ⟨fd_strconv_Atoi,by kernel_rfl,by kernel_rfl,by kernel_rfl⟩ (fun M=>?_) fun w=>?_
 ·refine Rep.tup _ _ [.int .i64 (k:Int),.nilIface] rfl fun i hi=>?_
  match i,hi with
  | 0,_=>exact .v _ _
  | 1,_=>exact .v _ _
 ·have:=Any.strconv_Atoi Tryz.lays172 (mk (dd k)) (k:Int) (by rw [size_mk]; exact hl2) (by
   have:(mk (dd k)).data.toList = dd k:=by simp [mk]
   rw [this]; exact atoi_dd k hk) w
  refine Calls.mono this fun e w' ⟨h1,t,h2⟩=>⟨h1,?_⟩
  subst h2
  refine⟨rfl,rfl,rfl,?_,fun b hb=>Lib.bytesWorld_at_old _ _ _ _ hb⟩
  simp [Lib.bytesWorld,World.freeze]
end Go.Proofs.Trees
namespace Go.Proofs.Trees
open Go Go.VL Go.RowKit
theorem freeLoo_plus {a b:Ty} (h:freeLoo (.plus a b) = false):freeLoo a = false/\freeLoo b = false:=by simpa [freeLoo] using h
theorem freeLoo_times {a b:Ty} (h:freeLoo (.times a b) = false):freeLoo a = false/\freeLoo b = false:=by simpa [freeLoo] using h
theorem ty_shapes {e:E} {ar:List (List UInt8)} {t:Ty} (ht:tyOf e ar = some t) (hb:t.isB = false) (hf:freeLoo t = false) :
  (e = .atom [48]/\t = .zero)\/(e = .atom [49]/\t = .one)\/(∃s,e = .atom s/\t = .name s/\isPar s = true/\s≠[48]/\s≠[49]) ∨
  (∃x a b t1 t2,e = .list [x,a,b]/\x.at = [43]/\t = .plus t1 t2/\tyOf a ar = some t1/\tyOf b ar = some t2) ∨
  (∃x a b t1 t2,e = .list [x,a,b]/\x.at = [42]/\t = .times t1 t2/\tyOf a ar = some t1/\tyOf b ar = some t2) ∨
  (∃x a b t1,e = .list [x,a,b]/\x.at = [114,101,99]/\t = .rc t1):=by
 cases e with
 | list l =>
  match l,ht with
  | [x,a,b],ht =>
   by_cases h0:x.at = [43]
   ·obtain⟨t1,t2,h1,h2,rfl⟩:=tyOf_plus_inv h0 ht
    exact .inr (.inr (.inr (.inl ⟨x,a,b,t1,t2,rfl,h0,rfl,h1,h2⟩)))
   ·by_cases h1:x.at = [42]
    ·obtain⟨t1,t2,h3,h2,rfl⟩:=tyOf_times_inv h1 ht
     exact .inr (.inr (.inr (.inr (.inl ⟨x,a,b,t1,t2,rfl,h1,rfl,h3,h2⟩))))
    ·by_cases h2:x.at = [114,101,99]
     ·obtain⟨t1,_,_,rfl⟩:=tyOf_rec_inv h2 ht
      exact .inr (.inr (.inr (.inr (.inr ⟨x,a,b,t1,rfl,h2,rfl⟩))))
     ·rw [tyOf_no _ h0 h1 h2] at ht; cases ht
  | [],ht=>cases ht
  | [_],ht=>cases ht
  | [_,_],ht=>cases ht
  | _::_::_::_::_,ht=>cases ht
 | atom s =>
  simp only [tyOf] at ht
  split at ht
  ·rename_i h; cases ht; subst h; exact .inl ⟨rfl,rfl⟩
  ·rename_i h0
   split at ht
   ·rename_i h; cases ht; subst h; exact .inr (.inl ⟨rfl,rfl⟩)
   ·rename_i h1
    split at ht
    ·rename_i h; cases ht; exact .inr (.inr (.inl ⟨s,rfl,rfl,h,h0,h1⟩))
    ·split at ht
     ·rename_i h
      split at ht
      ·cases ht; cases hb
      ·cases ht; simp only [freeLoo] at hf; rw [h] at hf; cases hf
     ·cases ht
def isOfS (n:Nat) (v:Vl) (e:E) (env:List Fr) (t:Ty):Prop:=FSpec Tryz.prog 114 [.agg [t.av,envI env],v.iav,.v (.int .i64 (n:Int))] [] (Det (.v (.bool (vis n v (e,env)))))
structure Ask (e:E) (env:List Fr) (t:Ty):Prop where
 ok:e.ok
 wf:WF env
 ty:tyOf e (names env) = some t
 cl:freeLoo t = false
theorem Sq9x (n:Nat) (hn:n<=100) (v:Vl) (hv:v.bel 100) (IH:∀w:Vl,w.nodes < v.nodes->w.bel 100->∀e env t,Ask e env t->env.length+w.nodes < 100000->isOfS n w e env t)
  (e:E) (env:List Fr) (t:Ty) (A:Ask e env t) (hl:env.length+v.nodes < 100000) (hb:t.isB = false) (hh:findF e.at env = none):isOfS n v e env t:=by
 have hhd:hd e env = (e,env):=hd_none hh
 unfold isOfS
 refine Fqa9 _ _ _ _ ((ty_has _).mpr trivial) ((envI_has _).mpr trivial) ((vl_has _).mpr trivial) ?_
 rcases ty_shapes A.ty hb A.cl with⟨rfl,rfl⟩ | ⟨rfl,rfl⟩ | ⟨s,rfl,rfl,hp,h0,h1⟩ | ⟨x,a,b,t1,t2,rfl,hx,rfl,ha,hbb⟩ | ⟨x,a,b,t1,t2,rfl,hx,rfl,ha,hbb⟩ | ⟨x,a,b,t1,rfl,hx,rfl⟩
 ·have hp0:isPar [48] = false:=rfl
  cases v<;>simp [tq8,Ty.av,↓zq,zs,hasK,Det,vis,hhd,hp0]
 ·have hp0:isPar [49] = false:=rfl
  cases v<;>simp [tq8,Ty.av,Vl.iav,↓zq,zs,hasK,Det,vis,hhd,hp0]
 ·have h1':(s==[49]) = false:=by simpa using h1
  cases v with
  | el k =>
   have hk:k < 100:=hv
   simp only [tq8,Ty.av,Vl.iav,↓zq,zs,hasK,zt]
   refine⟨by omega,fun h=>by omega,fun _=>⟨fun _=>⟨by omega,fun h=>absurd rfl h,fun _=>⟨by omega,by omega,?_⟩⟩,fun h=>absurd rfl h⟩⟩
   have e1:(List.take ((dd k).length+1) (elS k)).drop (Int.toNat 1) = dd k:=by simp [elS]
   rw [e1]
   refine wp_det (Sqkj k hk) ?_
   simp only [↓zq,zs,hasK,Det,vis,hhd,h1',hp,zf]
   refine⟨rfl,?_⟩
   congr 2
   rw [Bool.eq_iff_iff]; simp
  | _ =>
   simp only [tq8,Ty.av,Vl.iav,↓zq,zs,hasK,zt,vis,hhd,h1',Det]
   exact⟨by omega,fun h=>by omega,fun _=>⟨fun _=>⟨by omega,fun _=>trivial,fun h=>by omega⟩,fun h=>absurd rfl h⟩⟩
 ·have hok:=A.ok
  obtain⟨ok1,ok2,ok3,_⟩:=hok
  obtain⟨f1,f2⟩:=freeLoo_plus A.cl
  cases v with
  | l w =>
   simp only [Vl.nodes] at hl
   simp only [tq8,Ty.av,Vl.iav,↓zq,zs,hasK]
   refine⟨by omega,fun h=>by omega,fun _=>⟨fun h=>by omega,fun _=>⟨fun h=>by omega,fun _=>⟨fun _=>⟨by omega,fun _=>?_,fun h=>absurd rfl h⟩,fun h=>absurd rfl h⟩⟩⟩⟩
   refine wp_det (Sq17 _ _ _ _ _ _ ((ty_has _).mpr trivial) ((envI_has _).mpr trivial)) ?_
   simp only [↓zq,zs,hasK,hasL,ty_has,envI_has,vl_has]
   refine⟨by omega,?_⟩
   refine wp_det (IH w (by simp only [Vl.nodes]; omega) hv a env t1 ⟨ok2,A.wf,ha,f1⟩ (by omega)) ?_
   simp only [↓zq,zs,hasK,Det,vis,hhd,hx]
   refine⟨fun h=>?_,fun h=>⟨by omega,fun h=>by omega,fun _=>?_⟩⟩
   ·simp [h]
   ·simp [h]
  | r w =>
   simp only [Vl.nodes] at hl
   simp only [tq8,Ty.av,Vl.iav,↓zq,zs,hasK]
   refine⟨by omega,fun h=>by omega,fun _=>⟨fun h=>by omega,fun _=>⟨fun h=>by omega,fun _=>⟨fun _=>⟨by omega,fun h=>by omega,fun _=>⟨by omega,fun _=>?_,fun h=>absurd rfl h⟩⟩,fun h=>absurd rfl h⟩⟩⟩⟩
   refine wp_det (Sq18 _ _ _ _ _ _ ((ty_has _).mpr trivial) ((envI_has _).mpr trivial)) ?_
   simp only [↓zq,zs,hasK,hasL,ty_has,envI_has,vl_has]
   refine⟨by omega,?_⟩
   refine wp_det (IH w (by simp only [Vl.nodes]; omega) hv b env t2 ⟨ok3,A.wf,hbb,f2⟩ (by omega)) ?_
   simp [↓zq,zs,hasK,Det,vis,hhd,hx]
  | _ =>
   simp only [tq8,Ty.av,Vl.iav,↓zq,zs,hasK,vis,hhd,Det]
   exact⟨by omega,fun h=>by omega,fun _=>⟨fun h=>by omega,fun _=>⟨fun h=>by omega,fun _=>⟨fun _=>⟨by omega,fun h=>by omega,fun _=>⟨by omega,fun h=>by omega,fun _=>by simp [hx]⟩⟩,fun h=>absurd rfl h⟩⟩⟩⟩
 ·have hok:=A.ok
  obtain⟨ok1,ok2,ok3,_⟩:=hok
  obtain⟨f1,f2⟩:=freeLoo_times A.cl
  cases v with
  | p v w =>
   simp only [Vl.nodes] at hl
   simp only [tq8,Ty.av,Vl.iav,↓zq,zs,hasK]
   refine⟨by omega,fun h=>by omega,fun _=>⟨fun h=>by omega,fun _=>⟨fun h=>by omega,fun _=>⟨fun h=>by omega,fun _=>⟨fun _=>⟨by omega,fun _=>?_,fun h=>absurd rfl h⟩,fun h=>absurd rfl h⟩⟩⟩⟩⟩
   refine wp_det (Sq17 _ _ _ _ _ _ ((ty_has _).mpr trivial) ((envI_has _).mpr trivial)) ?_
   simp only [↓zq,zs,hasK,hasL,ty_has,envI_has,vl_has]
   refine⟨by omega,?_⟩
   refine wp_det (IH v (by simp only [Vl.nodes]; omega) hv.1 a env t1 ⟨ok2,A.wf,ha,f1⟩ (by omega)) ?_
   simp only [↓zq,zs,hasK,Det,vis,hhd,hx]
   refine⟨fun h=>?_,fun h=>?_⟩
   ·refine wp_det (Sq18 _ _ _ _ _ _ ((ty_has _).mpr trivial) ((envI_has _).mpr trivial)) ?_
    simp only [↓zq,zs,hasK,hasL,ty_has,envI_has,vl_has]
    refine⟨by omega,?_⟩
    refine wp_det (IH w (by simp only [Vl.nodes]; omega) hv.2 b env t2 ⟨ok3,A.wf,hbb,f2⟩ (by omega)) ?_
    simp [↓zq,zs,hasK,h]
   ·simp [h]
  | _ =>
   simp only [tq8,Ty.av,Vl.iav,↓zq,zs,hasK,vis,hhd,Det]
   exact⟨by omega,fun h=>by omega,fun _=>⟨fun h=>by omega,fun _=>⟨fun h=>by omega,fun _=>⟨fun h=>by omega,fun _=>⟨fun _=>⟨by omega,fun h=>by omega,fun _=>by simp [hx]⟩,fun h=>absurd rfl h⟩⟩⟩⟩⟩
 ·obtain⟨t1',he1,h1,f1,hw1⟩:=wf_enter A.wf A.ok hx A.ty A.cl
  cases he1
  have hok:=A.ok
  obtain⟨ok1,ok2,ok3,_⟩:=hok
  have htD:tyD (.list [x,a,b]) env = .rc t1:=by rw [tyD,A.ty]; rfl
  have hin:=Sqj4 t1 env a.at (.list [x,a,b]) htD
  simp only [Ty.av] at hin
  simp only [tq8,Ty.av,↓zq,zs,hasK]
  refine⟨by omega,fun h=>by omega,fun _=>⟨fun h=>by omega,fun _=>⟨fun h=>by omega,fun _=>⟨fun h=>by omega,fun _=>⟨fun h=>by omega,fun _=>⟨fun _=>?_,fun h=>absurd rfl h⟩⟩⟩⟩⟩⟩
  refine wp_det hin ?_
  simp only [↓zq,zs,hasK,hasL,ty_has,envI_has,fr_has,vl_has,vl_nil]
  cases v with
  | f w =>
   simp only [Vl.nodes] at hl
   simp only [Vl.iav,↓zq,zs,hasK,vl_has]
   refine⟨by omega,fun _=>⟨by omega,?_⟩,fun h=>absurd rfl h⟩
   refine wp_det (IH w (by simp only [Vl.nodes]; omega) hv b (.mk a.at (.list [x,a,b]) env::env) t1 ⟨ok3,hw1,h1,f1⟩ (by simp; omega)) ?_
   simp [↓zq,zs,hasK,Det,vis,hhd,hx]
  | _ =>
   simp only [Vl.iav,↓zq,zs,hasK,vis,hhd,Det]
   exact⟨by omega,fun h=>by omega,fun _=>by simp [hx]⟩
theorem Sq88 (n:Nat) (hn:n<=100):∀(m:Nat) (v:Vl),v.nodes < m->v.bel 100->∀e env t,Ask e env t->env.length+v.nodes < 100000->isOfS n v e env t
 | 0,v,h,_=>by omega
 | m+1,v,h,hv=>by
  intro e env t A hl
  have IH:∀w:Vl,w.nodes < v.nodes->w.bel 100->∀e env t,Ask e env t->env.length+w.nodes < 100000->isOfS n w e env t:=fun w hw hb=>Sq88 n hn m w (by omega) hb
  rcases ty_cases A.wf A.ty with⟨hb,hh⟩ | ⟨u,f,rfl,hh,hu⟩
  ·exact Sq9x n hn v hv IH e env t A hl hb hh
  ·obtain⟨x,a,b,t',hfe,hok,hx,ht',hf',hwf,hlt⟩:=findF_wf A.wf hh
   obtain⟨t1,hl1,h1,rfl⟩:=tyOf_rec_inv hx (hfe ▸ ht')
   have hvis:vis n v (e,env) = vis n v (f.ex,f.out):=vis_hd n v (hd_some hh) (by rw [hfe]; exact hd_rec hwf)
   unfold isOfS
   refine Fqa9 _ _ _ _ ((ty_has _).mpr trivial) ((envI_has _).mpr trivial) ((vl_has _).mpr trivial) ?_
   have hbd:=Sqj0 env u f hu (by omega)
   simp only [Ty.av] at hbd
   simp only [tq8,Ty.av,↓zq,zs,hasK]
   refine⟨by omega,fun h=>by omega,fun _=>⟨fun h=>by omega,fun _=>⟨fun _=>?_,fun h=>absurd rfl h⟩⟩⟩
   refine wp_det hbd ?_
   cases f with
   | mk s ee oo =>
    simp only [Fr.ex,Fr.out] at hfe ht' hf' hwf hvis hlt
    have htD:tyD ee oo = .rc t1:=by rw [tyD,ht']; rfl
    simp only [Fr.iav,htD,↓zq,zs,hasK,hasL,ty_has,envI_has]
    refine⟨by omega,?_⟩
    have hs:=Sq9x n hn v hv IH ee oo (.rc t1) ⟨by rw [hfe]; exact hok,hwf,ht',hf'⟩ (by omega) rfl (by rw [hfe]; exact findF_nil hwf)
    unfold isOfS at hs
    refine wp_det hs ?_
    simp [↓zq,zs,hasK,Det,hvis]
end Go.Proofs.Trees
namespace Go.Proofs.Trees
open Go Go.VL Go.RowKit
theorem envS_getD:∀(env:List Fr) (k:Nat) (f:Fr),env[k]? = some f->(envS env).getD (env.length - 1 - k) [] = f.cells
 | [],k,f,h=>by cases h
 | g::r,0,f,h=>by
  cases h
  have:(g::r).length - 1 - 0 = (envS r).length:=by simp [envS_len]
  rw [this,envS]; simp [List.getD_eq_getElem?_getD]
 | g::r,k+1,f,h=>by
  have h':r[k]? = some f:=by simpa using h
  have hlt:=(List.getElem?_eq_some_iff.1 h').1
  have e:(g::r).length - 1 - (k+1) = r.length - 1 - k:=by simp; omega
  have:=envS_getD r k f h'
  rw [e,envS,List.getD_eq_getElem?_getD,List.getElem?_append_left (by rw [envS_len]; omega),<-List.getD_eq_getElem?_getD]
  exact this
theorem fr_cells (f:Fr):f.cells = [.v (.string (mk f.nm)),.v (.string (mk f.ex.at)),f.ex.sp,.sl (envS f.out)]:=by cases f; rfl
theorem Lqf8 (e : E) (env : List Fr) (hl : env.length < 1000000) : ∀ (j k : Nat), k + j = env.length → Lq3w [.sl (envS env), .v (.int .i64 ((env.length : Int) - 1 - (k : Int)))] [.cells [.v (.string (mk e.at)), e.sp], .cells [.v (.string (mk [])), .v (.slice none 0 0)]]
      (LBy (match findF e.at (env.drop k) with | some f => (2, [.sl (envS f.out)], [.cells [.v (.string (mk f.ex.at)), f.ex.sp]]) | none => (1, [.sl (envS env)], [.cells [.v (.string (mk e.at)), e.sp], .cells [.v (.string (mk [])), .v (.slice none 0 0)]])))
  | 0, k, hk => by
    refine Gqb7 _ _ _ _ _ _ ?_
    have hd : env.drop k = [] := List.drop_eq_nil_of_le (by omega)
    simp only [rq43, ↓zq, zs, hasK, sp_has, hd, findF]
    exact ⟨fun h => by omega, fun _ => by first | trivial | rfl⟩
  | j + 1, k, hk => by
    refine Gqb7 _ _ _ _ _ _ ?_
    have hlt : k < env.length := by omega
    have hg : env[k]? = some env[k] := List.getElem?_eq_getElem hlt
    have hc := envS_getD env k _ hg
    have e1 : ((env.length : Int) - 1 - (k : Int)) = ((env.length - 1 - k : Nat) : Int) := by omega
    have hdr : env.drop k = env[k] :: env.drop (k + 1) := List.drop_eq_getElem_cons hlt
    rw [hdr, findF, e1]
    simp only [rq43, Int.toNat_natCast, hc, fr_cells, ↓zq, zs, hasK, zt, sp_has, envS_len, hasL]
    refine ⟨fun _ => ⟨by omega, by omega, fun h => ⟨by omega, by omega, by omega, by omega, ?_⟩, fun h => ?_⟩, fun h => by omega⟩
    · rw [if_pos h]
    · rw [if_neg h]
      have e2 : IntKind.wrap .i64 (((env.length - 1 - k : Nat) : Int) - 1) = (env.length : Int) - 1 - ((k + 1 : Nat) : Int) := by
        have : IntKind.wrap .i64 (((env.length - 1 - k : Nat) : Int) - 1) = ((env.length - 1 - k : Nat) : Int) - 1 := wrap64 _ (by omega) (by omega)
        omega
      rw [e2]
      exact Lqf8 e env hl j (k + 1) (by omega)
theorem Sqgg (e:E) (env:List Fr) (hl:env.length < 1000000):FSpec Tryz.prog 139 [e.sav,.sl (envS env)] [] (Det (.tup [(hd e env).1.sav,.sl (envS (hd e env).2)])):=by
 rw [sav_sp e]
 refine Fqgt _ _ _ ((sp_has _).mpr trivial) ((has_sl _).mpr trivial) ?_
 simp only [tqf3,↓zq,zs,hasK,envS_len,Det]
 have h:=Lqf8 e env hl env.length 0 (by omega)
 simp only [List.drop_zero] at h
 rw [wrap64 _ (by omega) (by omega)]
 rw [show (env.length:Int) - 1 - ((0:Nat):Int) = (env.length:Int) - 1 by omega] at h
 refine wp_loopB h (fun ys o e'=>?_) (fun ys o e'=>?_)
 ·unfold hd
  cases hq:findF e.at env<;>rw [hq] at e'<;>cases e'
  simp only [↓zq,zs,hasK,zt,sp_has,sav_sp]
 ·unfold hd
  cases hq:findF e.at env<;>rw [hq] at e'<;>cases e'
  simp only [↓zq,zs,hasK,zt,sp_has,sav_sp]
theorem envS_allLen:∀env:List Fr,allLen 4 (envS env)
 | []=>fun c hc=>by cases hc
 | f::r=>fun c hc=>by
  simp only [envS,List.mem_append,List.mem_singleton] at hc
  rcases hc with hc | rfl
  ·exact envS_allLen r c hc
  ·rw [fr_cells]; rfl
theorem Sqi5 (x a b:E) (env:List Fr) (hl:env.length < 1000000):FSpec Tryz.prog 141 [(E.list [x,a,b]).sav,.sl (envS env)] [] (Det (.tup [b.sav,.sl (envS (.mk a.at (.list [x,a,b]) env::env))])):=by
 refine Fqic _ _ _ ((has_sl _).mpr trivial) ((has_sl _).mpr trivial) ?_
 simp only [tqfj,E.scellss,toNat_one,toNat_two,↓zq,zs,hasK,zt,sc_agg,sc_len,sc_has,sc_hd,Nat.le_refl,envS_len,Det,List.nil_append]
 refine⟨by omega,⟨envS_allLen env,by omega⟩,by omega,by omega,⟨fun c hc=>(by simp at hc; rw [hc]; rfl),by omega⟩,?_⟩
 simp only [envS,fr_cells,Fr.nm,Fr.ex,Fr.out,E.at,E.sp,E.scellss]
theorem hasL_sp (s:ByteArray) (e:E):hasL [.str,.sl] [.v (.string s),e.sp] 0 = True:=by apply eq_true; simp [hasL,has_str,sp_has]
theorem hd_ask {e:E} {env:List Fr} {t:Ty} (A:Ask e env t):∃e' o t',hd e env = (e',o)/\Ask e' o t'/\t'.isB = false/\hd e' o = (e',o)/\o.length<=env.length:=by
 rcases ty_cases A.wf A.ty with⟨hb,hh⟩ | ⟨u,f,rfl,hh,hu⟩
 ·exact⟨e,env,t,hd_none hh,A,hb,hd_none hh,Nat.le_refl _⟩
 ·obtain⟨x,a,b,t',hfe,hok,hx,ht',hf',hwf,hlt⟩:=findF_wf A.wf hh
  refine⟨f.ex,f.out,t',hd_some hh,⟨by rw [hfe]; exact hok,hwf,ht',hf'⟩,?_,?_,by omega⟩
  ·obtain⟨t1,_,_,rfl⟩:=tyOf_rec_inv hx (hfe ▸ ht'); rfl
  ·rw [hfe]; exact hd_rec hwf
def vh:Vl->List UInt8
 | .l _=>[108]
 | .r _=>[114]
 | .f _=>[102]
 | .p _ _=>[112]
 | _=>[]
theorem Sq1v (v:Vl):FSpec Tryz.prog 96 [v.toE.sav] [] (Det (.v (.string (mk (vh v))))):=by
 cases v with
 | u=>exact Sq2u _ _ ((has_slnil).mpr trivial) (by simp)
 | el k=>exact Sq2u _ _ ((has_slnil).mpr trivial) (by simp)
 | l v=>exact Sq2 _ _
 | r v=>exact Sq2 _ _
 | f v=>exact Sq2 _ _
 | p v w=>exact Sq2 _ _
theorem vat (v:Vl) (hv:v.bel 100):v.toE.at = (match v with | .u=>[117] | .el k=>elS k | _=>[])/\elI v.toE.at = (match v with | .el k=>(k:Int) | _=>-1):=by
 cases v with
 | el k=>exact⟨rfl,elI_of k hv⟩
 | u=>exact⟨rfl,rfl⟩
 | _=>exact⟨rfl,rfl⟩
theorem Sq1i (n:Nat) (hn:n<=100):∀(m:Nat) (v:Vl),v.nodes < m->v.bel 100->∀e env t,Ask e env t->env.length+v.nodes < 100000->FSpec Tryz.prog 100 [e.sav,.sl (envS env),v.toE.sav,.v (.int .i64 (n:Int))] [] (Det (.v (.bool (vis n v (e,env)))))
 | 0,v,hm,hv,e,env,t,A,hl=>by omega
 | m+1,v,hm,hv,e,env,t,A,hl=>by
  obtain⟨e',o,t',hhd,A',hb,hh',hlen⟩:=hd_ask A
  rw [vis_hd n v hhd hh',sav_sp e,sav_sp v.toE]
  refine Fqiy _ _ _ _ _ _ ((sp_has _).mpr trivial) ((has_sl _).mpr trivial) ((sp_has _).mpr trivial) ?_
  have hf:=Sqgg e env (by omega)
  rw [sav_sp e,hhd] at hf
  have hvh:=Sq1v v
  rw [sav_sp] at hvh
  unfold tq79
  refine wp_det hf ?_
  simp only [sav_sp e',↓zq,zs,hasK,zt,sp_has,hasL_sp,Det]
  rcases ty_shapes A'.ty hb A'.cl with⟨rfl,rfl⟩ | ⟨rfl,rfl⟩ | ⟨s,rfl,rfl,hp,h0,h1⟩ | ⟨x,a,b,t1,t2,rfl,hx,rfl,ha,hbb⟩ | ⟨x,a,b,t1,t2,rfl,hx,rfl,ha,hbb⟩ | ⟨x,a,b,t1,rfl,hx,rfl⟩
  ·refine⟨fun _=>⟨fun h=>by simp [E.at] at h,fun _=>wp_det (Sq34 _) ?_⟩,fun h=>by simp [E.at] at h⟩
   have hp0:isPar (E.atom [48]).at = false:=rfl
   have hp1:isPar [48] = false:=rfl
   cases v<;>simp [↓zq,zs,hasK,hp0,vis,hh',hp1]
  ·refine⟨fun _=>⟨fun _=>?_,fun h=>absurd rfl h⟩,fun h=>by simp [E.at] at h⟩
   have hp1:isPar [49] = false:=rfl
   cases v<;>simp [vis,hh',hp1,Vl.toE,E.at]
  ·have hne:s≠[]:=A'.ok
   have h1':(s==[49]) = false:=by simpa using h1
   refine⟨fun _=>⟨fun h=>absurd h h1,fun _=>wp_det (Sq34 _) ?_⟩,fun h=>absurd h hne⟩
   have hat:(E.atom s).at = s:=rfl
   simp only [hat,hp,↓zq,zs,hasK]
   refine⟨fun _=>wp_det (Sqdf _) ?_,fun h=>by cases h⟩
   simp only [↓zq,zs,hasK]
   rw [wrap64 _ (by omega) (by omega)]
   refine wp_det (Sq1y _ _ _) ?_
   simp only [↓zq,zs,hasK,inR,(vat v hv).2]
   cases v with
   | el k =>
    simp only [vis,hh',h1',hp,zf]
    congr 2
    rw [Bool.eq_iff_iff]; simp; omega
   | _=>simp [vis,hh',h1']
  ·have hok:=A'.ok
   obtain⟨ok1,ok2,ok3,_⟩:=hok
   obtain⟨f1,f2⟩:=freeLoo_plus A'.cl
   refine⟨fun h=>absurd rfl h,fun _=>wp_det (Sq2 x [a,b]) ?_⟩
   simp only [↓zq,zs,hasK]
   refine wp_det hvh ?_
   rw [hx]
   cases v with
   | l w =>
    simp only [Vl.nodes] at hl
    simp only [vh,Vl.toE,E.sp,E.scellss,toNat_one,toNat_two,↓zq,zs,hasK,zt,sc_agg,sc_len,sc_has,sc_hd,Nat.le_refl]
    refine⟨by simp,fun _=>⟨by omega,by omega,wp_det (Sq1i n hn m w (by simp only [Vl.nodes] at hm; omega) hv a o t1 ⟨ok2,A'.wf,ha,f1⟩ (by omega)) ?_⟩,fun h=>absurd rfl h⟩
    simp [↓zq,zs,hasK,vis,hh',hx]
   | r w =>
    simp only [Vl.nodes] at hl
    simp only [vh,Vl.toE,E.sp,E.scellss,toNat_one,toNat_two,↓zq,zs,hasK,zt,sc_agg,sc_len,sc_has,sc_hd,Nat.le_refl]
    refine⟨by simp,fun h=>by simp at h,fun _=>⟨fun _=>⟨by omega,by omega,wp_det (Sq1i n hn m w (by simp only [Vl.nodes] at hm; omega) hv b o t2 ⟨ok3,A'.wf,hbb,f2⟩ (by omega)) ?_⟩,fun h=>absurd rfl h⟩⟩
    simp [↓zq,zs,hasK,vis,hh',hx]
   | _=>simp [vh,↓zq,zs,hasK,zt,vis,hh',hx]
  ·have hok:=A'.ok
   obtain⟨ok1,ok2,ok3,_⟩:=hok
   obtain⟨f1,f2⟩:=freeLoo_times A'.cl
   refine⟨fun h=>absurd rfl h,fun _=>wp_det (Sq2 x [a,b]) ?_⟩
   simp only [↓zq,zs,hasK]
   refine wp_det hvh ?_
   rw [hx]
   cases v with
   | p w z =>
    simp only [Vl.nodes] at hl
    simp only [vh,Vl.toE,E.sp,E.scellss,toNat_one,toNat_two,↓zq,zs,hasK,zt,sc_agg,sc_len,sc_has,sc_hd,Nat.le_refl]
    refine⟨by simp,fun h=>by simp at h,fun _=>⟨fun h=>by simp at h,fun _=>⟨fun _=>⟨by omega,by omega,wp_det (Sq1i n hn m w (by simp only [Vl.nodes] at hm; omega) hv.1 a o t1 ⟨ok2,A'.wf,ha,f1⟩ (by omega)) ?_⟩,fun h=>absurd rfl h⟩⟩⟩
    simp only [↓zq,zs,hasK,vis,hh',hx]
    refine⟨fun h=>⟨by omega,by omega,wp_det (Sq1i n hn m z (by simp only [Vl.nodes] at hm; omega) hv.2 b o t2 ⟨ok3,A'.wf,hbb,f2⟩ (by omega)) ?_⟩,fun h=>?_⟩
    ·simp [↓zq,zs,hasK,h]
    ·simp [h]
   | _=>simp [vh,↓zq,zs,hasK,zt,vis,hh',hx]
  ·obtain⟨t1',he1,h1,f1,hw1⟩:=wf_enter A'.wf A'.ok hx A'.ty A'.cl
   cases he1
   have hok:=A'.ok
   obtain⟨ok1,ok2,ok3,_⟩:=hok
   refine⟨fun h=>absurd rfl h,fun _=>wp_det (Sq2 x [a,b]) ?_⟩
   simp only [↓zq,zs,hasK]
   refine wp_det hvh ?_
   rw [hx]
   cases v with
   | f w =>
    simp only [Vl.nodes] at hl
    simp only [vh,Vl.toE,E.sp,E.scellss,toNat_one,toNat_two,↓zq,zs,hasK,zt,sc_agg,sc_len,sc_has,sc_hd,Nat.le_refl]
    refine⟨by simp,fun h=>by simp at h,fun _=>⟨fun h=>by simp at h,fun _=>⟨fun h=>by simp at h,fun _=>⟨fun _=>wp_det (Sqi5 x a b o (by omega)) ?_,fun h=>absurd rfl h⟩⟩⟩⟩
    simp only [↓zq,zs,hasK,sav_has,sav_agg]
    refine⟨by omega,wp_det (Sq1i n hn m w (by simp only [Vl.nodes] at hm; omega) hv b (.mk a.at (.list [x,a,b]) o::o) t1 ⟨ok3,hw1,h1,f1⟩ (by simp; omega)) ?_⟩
    simp [↓zq,zs,hasK,vis,hh',hx]
   | _=>simp [vh,↓zq,zs,hasK,zt,vis,hh',hx]
theorem Sqih (n:Nat) (hn:n<=100) (v:Vl) (hv:v.bel 100) (e:E) (env:List Fr) (t:Ty) (A:Ask e env t) (hl:env.length+v.nodes < 100000):FSpec Tryz.prog 100 [e.sav,.sl (envS env),v.toE.sav,.v (.int .i64 (n:Int))] [] (Det (.v (.bool (vis n v (e,env))))):=Sq1i n hn (v.nodes+1) v (by omega) hv e env t A hl
end Go.Proofs.Trees
namespace Go.Proofs.Trees
open Go Go.VL Go.RowKit
theorem Lq7r (l:List (List UInt8)) (a:AV) (ha:StrsA a l) (s:List UInt8) (hl:l.length < 1000000):∀(k i:Nat),i+k = l.length->Lq6i [a,.v (.string (mk s)),.v (.int .i64 (i:Int))] []
  (LBy (if s∈l.drop i then(2,[.v (.bool true)],[]) else(1,[],[])))
 | 0,i,hi=>by
  refine Gqf0 _ _ _ ?_
  have hd:l.drop i = []:=List.drop_eq_nil_of_le (by omega)
  simp only [rq3v,↓zq,zs,hasK,hd,ha.len]
  exact⟨ha.1,ha.1,fun h=>by omega,fun _=>by simp [LBy]⟩
 | k+1,i,hi=>by
  have hlt:i < l.length:=by omega
  have hdr:l.drop i = l.getD i []::l.drop (i+1):=by
   rw [List.drop_eq_getElem_cons hlt]; simp [List.getD_eq_getElem?_getD,hlt]
  refine Gqf0 _ _ _ ?_
  simp only [rq3v,↓zq,zs,hasK,zt,ha.len,ha.idx hlt]
  refine⟨ha.1,ha.1,fun _=>⟨⟨ha.1,by omega,by omega⟩,by omega,fun h=>?_,fun h=>?_⟩,fun h=>by omega⟩
  ·rw [hdr,h]; simp [LBy]
  ·rw [wrap_succ i (by omega)]
   have:=Lq7r l a ha s hl k (i+1) (by omega)
   have e:s∈l.drop i↔s∈l.drop (i+1):=by
    rw [hdr,List.mem_cons]; exact⟨fun q=>q.resolve_left (fun q=>h q.symm),.inr⟩
   simp only [e]; exact this
theorem Sq1b (l:List (List UInt8)) (a:AV) (ha:StrsA a l) (s:List UInt8) (hl:l.length < 1000000):FSpec Tryz.prog 165 [a,.v (.string (mk s))] [] (Det (.v (.bool (decide (s∈l))))):=by
 refine Fqil _ _ ha.1 ?_
 unfold tq92
 refine wp_loopB (Lq7r l a ha s hl l.length 0 (by omega)) (fun ys o e=>?_) (fun ys o e=>?_)
 ·simp only [List.drop_zero] at e
  split at e<;>cases e
  rename_i h
  simp [↓zq,zs,hasK,Det,h]
 ·simp only [List.drop_zero] at e
  split at e<;>cases e
  rename_i h
  simp [↓zq,zs,hasK,Det,h]
theorem Sq2a (l:List (List UInt8)) (a:AV) (ha:StrsA a l) (s:List UInt8) (hl:l.length < 1000000):FSpec Tryz.prog 50 [a,.v (.string (mk s))] [] (Det (.sl (strsAV (l++[s])))):=by
 refine Fqas _ _ ha.1 ?_
 simp only [tq3d,↓zq,zs,hasK,ha.2,Det,List.nil_append]
 have:(strsAV l).length = l.length:=by simp [strsAV]
 refine⟨⟨ha.1,allLen_strs l,by omega⟩,⟨fun c hc=>(by simp at hc; rw [hc]; rfl),by omega⟩,?_⟩
 rw [Sq14]
def fre:E->List (List UInt8)->List (List UInt8)->List (List UInt8)
 | .atom s,bd,l=>if s = [48]\/s = [49]\/s∈bd\/s∈l then l else l++[s]
 | .list [x,a,b],bd,l=>if x.at = [114,101,99] then fre b (bd++[a.at]) l else fre b bd (fre a bd l)
 | .list _,_,l=>l
theorem fre_len:∀(e:E) (bd l:List (List UInt8)),(fre e bd l).length<=l.length+e.sz
 | .atom s,bd,l=>by rw [fre]; split<;>simp [E.sz]
 | .list [],bd,l=>by simp [fre]
 | .list [_],bd,l=>by simp [fre]
 | .list [_,_],bd,l=>by simp [fre]
 | .list (_::_::_::_::_),bd,l=>by simp [fre]
 | .list [x,a,b],bd,l=>by
  rw [fre]
  simp only [E.sz,E.szs]
  split
  ·have:=fre_len b (bd++[a.at]) l; omega
  ·have:=fre_len a bd l
   have:=fre_len b bd (fre a bd l)
   omega
theorem Sq2b:∀(e:E) (bd l:List (List UInt8)) (a:AV),e.ok->isTy e = true->StrsA a bd->bd.length+l.length+e.sz < 100000->FSpec Tryz.prog 135 [e.sav,a,.vec 0] [.vec 1 (strsAV l)] (DetO (.vec 1) [.dead,.vec 1 (strsAV (fre e bd l))])
 | .atom s,bd,l,a,hok,hty,ha,hl=>by
  simp only [E.sz] at hl
  refine Fq1j _ _ _ _ ((has_slnil).mpr trivial) ha.1 ?_
  have hne:s≠[]:=hok
  have hll:(strsAV l).length = l.length:=by simp [strsAV]
  simp only [tqy,↓zq,zs,hasK,zt,DetO,fre]
  refine⟨fun _=>⟨fun h=>?_,fun h=>⟨fun h1=>?_,fun h1=>?_⟩⟩,fun h=>absurd h hne⟩
  ·rw [if_pos (.inl h)]
  ·rw [if_pos (.inr (.inl h1))]
  ·refine wp_det (Sq1b bd a ha s (by omega)) ?_
   simp only [↓zq,zs,hasK]
   refine⟨fun h2=>?_,fun h2=>wp_det (Sq1b l _ (.of l) s (by omega)) ?_⟩
   ·rw [if_pos (.inr (.inr (.inl h2)))]
   ·simp only [↓zq,zs,hasK]
    refine⟨fun h3=>?_,fun h3=>⟨⟨fun c hc=>(by simp at hc; rw [hc]; rfl),by omega⟩,?_⟩⟩
    ·rw [if_pos (.inr (.inr (.inr h3)))]
    ·rw [Sq14,if_neg]
     rintro(q | q | q | q)
     ·exact h q
     ·exact h1 q
     ·exact h2 q
     ·exact h3 q
 | .list [],_,_,_,_,h,_,_=>by cases h
 | .list [_],_,_,_,_,h,_,_=>by cases h
 | .list [_,_],_,_,_,_,h,_,_=>by cases h
 | .list (_::_::_::_::_),_,_,_,_,h,_,_=>by cases h
 | .list [x,y,z],bd,l,a,hok,hty,ha,hl=>by
  simp only [E.sz,E.szs] at hl
  obtain⟨ok1,ok2,ok3,_⟩:=hok
  refine Fq1j _ _ _ _ ((has_sl _).mpr trivial) ha.1 ?_
  simp only [tqy,E.scellss,toNat_one,toNat_two,↓zq,zs,hasK,zt,sc_agg,sc_len,sc_has,sc_hd,Nat.le_refl,DetO]
  refine⟨fun h=>absurd rfl h,fun _=>wp_det (Sq2 x [y,z]) ?_⟩
  simp only [↓zq,zs,hasK,zt]
  have hyl:=fre_len y bd l
  rw [isTy] at hty
  refine⟨fun h=>⟨by omega,by omega,by omega,wp_det (Sq2a bd a ha y.at (by omega)) ?_⟩,fun h=>⟨by omega,by omega,?_⟩⟩
  ·have hz:isTy z = true:=by
    rw [if_neg (by rw [h]; decide),if_neg (by rw [h]; decide),if_pos h] at hty
    simp only [Bool.and_eq_true] at hty; exact hty.2
   simp only [↓zq,zs,hasK]
   refine wp_detO (Sq2b z (bd++[y.at]) l _ ok3 hz (.of _) (by simp; omega)) ?_
   simp only [↓zq,zs,hasK]
   rw [fre,if_pos h]
  ·have hyz:isTy y = true/\isTy z = true:=by
    split at hty
    ·simpa using hty
    ·split at hty
     ·simpa using hty
     ·cases hty
   refine wp_detO (Sq2b y bd l a ok2 hyz.1 ha (by omega)) ?_
   simp only [↓zq,zs,hasK]
   refine wp_detO (Sq2b z bd (fre y bd l) a ok3 hyz.2 ha (by omega)) ?_
   simp only [↓zq,zs,hasK]
   rw [fre,if_neg h]
theorem par_not_loo {s:List UInt8} (h:isPar s = true):isLoo s = false:=by
 cases hq:isLoo s with
 | false=>rfl
 | true =>
  obtain⟨c,r,rfl,h1,h2⟩:=named_cons h
  obtain⟨c',r',he,h3,h4⟩:=named_cons hq
  cases he; omega
theorem lastOf_none (s:List UInt8) (ar:List (List UInt8)):∀i,i<=ar.length->(lastOf s ar i = none↔s ∉ ar.take i)
 | 0,_=>by simp [lastOf]
 | i+1,hi=>by
  have hlt:i < ar.length:=by omega
  have e:ar.getD i [] = ar[i]:=by simp [List.getD_eq_getElem?_getD,hlt]
  have e2:s∈ar.take (i+1)↔s∈ar.take i\/s = ar[i]:=by
   rw [show ar.take (i+1) = ar.take i++[ar[i]] from (List.take_append_getElem hlt).symm]
   simp only [List.mem_append,List.mem_singleton]
  rw [lastOf,e,e2]
  by_cases h:ar[i] = s
  ·rw [if_pos h]
   exact⟨fun h=>(by cases h),fun h'=>absurd (.inr h.symm) h'⟩
  ·rw [if_neg h,lastOf_none s ar i (by omega)]
   exact⟨fun h1 h2=>h2.elim h1 (fun h3=>h h3.symm),fun h1 h2=>h1 (.inl h2)⟩
theorem any_fre:∀(e:E) (ar l:List (List UInt8)) (t:Ty),tyOf e ar = some t->(∀w,w∈ar->isLoo w = true)->(fre e ar l).any isLoo = (l.any isLoo||freeLoo t)
 | .atom s,ar,l,t,h,har=>by
  simp only [tyOf] at h
  rw [fre]
  split at h
  ·rename_i h0; cases h; rw [if_pos (.inl h0)]; simp [freeLoo]
  ·rename_i h0
   split at h
   ·rename_i h1; cases h; rw [if_pos (.inr (.inl h1))]; simp [freeLoo]
   ·rename_i h1
    split at h
    ·rename_i h2
     cases h
     have hn:=par_not_loo h2
     simp only [freeLoo,hn]
     split
     ·simp
     ·simp [hn]
    ·split at h
     ·rename_i h2 h3
      have hlo:=lastOf_none s ar ar.length (Nat.le_refl _)
      rw [List.take_length] at hlo
      cases hq:lastOf s ar ar.length with
      | some u =>
       rw [hq] at h; cases h
       have hm:s∈ar:=Classical.byContradiction fun hm=>by rw [hlo.2 hm] at hq; cases hq
       rw [if_pos (.inr (.inr (.inl hm)))]; simp [freeLoo]
      | none =>
       rw [hq] at h; cases h
       have hm:=hlo.1 hq
       simp only [freeLoo,h3,Bool.or_true]
       split
       ·rename_i hh
        rcases hh with q | q | q | q
        ·exact absurd q h0
        ·exact absurd q h1
        ·exact absurd q hm
        ·rw [List.any_eq_true]; exact⟨s,q,h3⟩
       ·simp [h3]
     ·cases h
 | .list [],_,_,_,h,_=>by cases h
 | .list [_],_,_,_,h,_=>by cases h
 | .list [_,_],_,_,_,h,_=>by cases h
 | .list (_::_::_::_::_),_,_,_,h,_=>by cases h
 | .list [x,a,b],ar,l,t,h,har=>by
  rw [fre]
  by_cases h0:x.at = [43]
  ·obtain⟨t1,t2,e1,e2,rfl⟩:=tyOf_plus_inv h0 h
   rw [if_neg (by rw [h0]; decide),any_fre b ar _ t2 e2 har,any_fre a ar l t1 e1 har,freeLoo,Bool.or_assoc]
  ·by_cases h1:x.at = [42]
   ·obtain⟨t1,t2,e1,e2,rfl⟩:=tyOf_times_inv h1 h
    rw [if_neg (by rw [h1]; decide),any_fre b ar _ t2 e2 har,any_fre a ar l t1 e1 har,freeLoo,Bool.or_assoc]
   ·by_cases h2:x.at = [114,101,99]
    ·obtain⟨t1,hl,e1,rfl⟩:=tyOf_rec_inv h2 h
     rw [if_pos h2,any_fre b _ l t1 e1 (fun w hw=>by
      simp only [List.mem_append,List.mem_singleton] at hw
      rcases hw with hw | rfl
      ·exact har w hw
      ·exact hl),freeLoo]
    ·rw [tyOf_no _ h0 h1 h2] at h; cases h
def rdCE (s:List UInt8):Option E:=match rdE s with
 | none=>none
 | some e=>if(fre e [] []).any isLoo = true then none else some e
theorem rdC_of {s:List UInt8}:rdC s = match rdCE s with | none=>none | some e=>tyOf e []:=by
 unfold rdC rdCE
 rw [rdY_of]
 cases he:rdE s with
 | none=>rfl
 | some e =>
  obtain⟨h1,h2,h3⟩:=rdE_ok he
  have hs:=tyOf_some e []
  rw [h2] at hs
  obtain⟨t,ht⟩:=Option.isSome_iff_exists.1 hs
  have ha:=any_fre e [] [] t ht (fun w hw=>by cases hw)
  simp only [ht,closed_eq,ha,List.any_nil,Bool.false_or]
  cases hf:freeLoo t<;>simp [ht]
theorem rdCE_full {s:List UInt8} {e:E} (h:rdCE s = some e):∃t,rdC s = some t/\Ask e [] t/\isTy e = true/\e.sz<=8000/\t.atoms<=400/\rdT s = some e:=by
 have h0:=h
 unfold rdCE at h
 split at h
 ·cases h
 ·rename_i e' he
  split at h
  ·cases h
  ·rename_i hn
   cases h
   obtain⟨h1,h2,h3⟩:=rdE_ok he
   obtain⟨hok,hsz⟩:=rdT_ok h1
   have hs:=tyOf_some e []
   rw [h2] at hs
   obtain⟨t,ht⟩:=Option.isSome_iff_exists.1 hs
   have ha:=any_fre e [] [] t ht (fun w hw=>by cases hw)
   rw [ha] at hn
   refine⟨t,by rw [rdC_of,h0]; exact ht,⟨hok,.nil,ht,by simpa using hn⟩,h2,hsz,?_,h1⟩
   rw [<-tyOf_ats e [] t ht]; exact h3
theorem rdCE_none {s:List UInt8} (h:rdCE s = none):rdC s = none:=by rw [rdC_of,h]
theorem Lq7a (e:E) (l:List (List UInt8)) (hl:l.length < 1000000):∀(k i:Nat),i+k = l.length->Lq4h [.v (.int .i64 (i:Int))] [.cells [.v (.string (mk [])),.v (.slice none 0 0)],.cells [.v (.string (mk e.at)),e.sp],.vec 1 (strsAV l)]
  (LBy (if(l.drop i).any isLoo = true then(2,[.v (.bool false)],[.cells [.v (.string (mk e.at)),e.sp]]) else(1,[],[.cells [.v (.string (mk [])),.v (.slice none 0 0)],.cells [.v (.string (mk e.at)),e.sp]])))
 | 0,i,hi=>by
  refine Gq89 _ _ _ _ _ _ ?_
  have hd:l.drop i = []:=List.drop_eq_nil_of_le (by omega)
  have hll:(strsAV l).length = l.length:=by simp [strsAV]
  simp only [rq2w,↓zq,zs,hasK,hd,hll,sp_has]
  exact⟨fun h=>by omega,fun _=>by simp [LBy]⟩
 | k+1,i,hi=>by
  have hlt:i < l.length:=by omega
  have hll:(strsAV l).length = l.length:=by simp [strsAV]
  have hdr:l.drop i = l.getD i []::l.drop (i+1):=by
   rw [List.drop_eq_getElem_cons hlt]; simp [List.getD_eq_getElem?_getD,hlt]
  have hg:=(StrsA.of l).idx hlt
  simp only [elems_sl] at hg
  refine Gq89 _ _ _ _ _ _ ?_
  simp only [rq2w,↓zq,zs,hasK,zt,hll,hg,sp_has]
  refine⟨fun _=>⟨by omega,by omega,wp_det (Sq4m _) ?_⟩,fun h=>by omega⟩
  simp only [↓zq,zs,hasK,hdr,List.any_cons]
  refine⟨fun h=>?_,fun h=>?_⟩
  ·rw [h]; simp [LBy]
  ·rw [h,wrap_succ i (by omega)]
   simp only [Bool.false_or]
   exact Lq7a e l hl k (i+1) (by omega)
theorem Sqa7 (s:List UInt8):FSpec Tryz.prog 95 [.v (.string (mk s))] [] (ParR (rdCE s) (rdCE s).isSome):=by
 refine Fqj8 _ ?_
 unfold tqdw
 refine wp_call (Sq4j s) (ParR.ne _ _ (fun h=>h)) ?_
 rintro r o ⟨c,d,hd,rfl,hh⟩
 have hhas:hasL [.str,.sl] [.v (.string (mk c)),d] 0:=by simp [hasL,has_str,hd]
 simp only [↓zq,zs,hasK,zt]
 refine⟨hhas,fun h=>?_,fun h=>?_⟩
 ·have hn:rdE s = none:=by cases hq:rdE s<;>simp [hq] at h |-
  unfold rdCE
  rw [hn]
  exact⟨c,d,hd,rfl,fun h=>by cases h⟩
 ·obtain⟨e,he,hce⟩:=hh h
  obtain⟨h1,h2,h3⟩:=rdE_ok he
  obtain⟨hok,hsz⟩:=rdT_ok h1
  have hce':=hce
  rw [sav_sp] at hce'
  simp only [AV.agg.injEq,List.cons.injEq,AV.v.injEq,Value.string.injEq,and_true] at hce'
  obtain⟨hc1,rfl⟩:=hce'
  have hc2:=mk_inj hc1
  subst hc2
  rw [<-sav_sp]
  refine wp_detO (Sq2b e [] [] _ hok h2 (.of []) (by simp; omega)) ?_
  have hfl:=fre_len e [] []
  simp only [↓zq,zs,hasK]
  have hLS:=Lq7a e (fre e [] []) (by simp at hfl; omega) (fre e [] []).length 0 (by omega)
  simp only [List.drop_zero] at hLS
  unfold rdCE
  rw [he]
  refine wp_loopB hLS (fun ys o e'=>?_) (fun ys o e'=>?_)
  ·split at e'<;>cases e'
   rename_i hn
   simp only [↓zq,zs,hasK,sp_has,if_neg hn]
   exact⟨e.at,e.sp,hd,rfl,fun _=>⟨e,rfl,(sav_sp e).symm⟩⟩
  ·split at e'<;>cases e'
   rename_i hn
   simp only [↓zq,zs,hasK,sp_has,if_pos hn]
   exact⟨e.at,e.sp,hd,rfl,fun h=>by cases h⟩
def vOK (s v:List UInt8) (n:Int):Option Vl:=match rdCE s,rdV v with
 | some e,some w=>if(0<=n/\n<=100)/\vis n.toNat w (e,[]) = true then some w else none
 | _,_=>none
theorem vOK_some {s v:List UInt8} {n:Int} {w:Vl} (h:vOK s v n = some w):∃e t m,rdCE s = some e/\rdV v = some w/\rdC s = some t/\Ask e [] t/\n = (m:Nat)/\m<=100/\vis m w (e,[]) = true:=by
 unfold vOK at h
 split at h
 ·rename_i e w' he hw
  split at h
  ·rename_i hh
   cases h
   obtain⟨t,h1,h2,_⟩:=rdCE_full he
   exact⟨e,t,n.toNat,he,hw,h1,h2,by omega,by omega,hh.2⟩
  ·cases h
 ·cases h
theorem Sq78 (s v:List UInt8) (n:Int):FSpec Tryz.prog 76 [.v (.string (mk s)),.v (.string (mk v)),.v (.int .i64 n)] [] (Det (.tup [optT (rdC s),optV (vOK s v n)])):=by
 refine Fqjp _ _ _ ?_
 unfold tq7h
 refine wp_det (Sqdh s) ?_
 simp only [↓zq,zs,hasK,optT_has]
 refine wp_det (Sqjb v) ?_
 simp only [↓zq,zs,hasK,optV_has,Det]
 unfold vOK
 cases he:rdCE s with
 | none=>rw [rdCE_none he]; cases rdV v<;>simp [optT,optV,↓zq,zs,hasK]
 | some e =>
  obtain⟨t,h1,h2,h3,h4,h5,_⟩:=rdCE_full he
  rw [h1]
  cases hv:rdV v with
  | none=>simp only [optT,optV,ty_has,ty_nil,↓zq,zs,hasK]; exact⟨fun h=>(by cases h),fun _=>⟨fun _=>trivial,fun h=>(by cases h)⟩⟩
  | some w =>
   obtain⟨h6,h7,h8⟩:=rdV_ok hv
   simp only [optT,optV,ty_has,ty_nil,vl_has,vl_nil,↓zq,zs,hasK]
   refine⟨fun h=>(by cases h),fun _=>⟨fun h=>(by cases h),fun _=>⟨fun h=>?_,fun h=>⟨fun h'=>?_,fun h'=>?_⟩⟩⟩⟩
   ·rw [if_neg (by omega)]
   ·rw [if_neg (by omega)]
   ·obtain⟨m,rfl⟩:∃m:Nat,n = (m:Int):=⟨n.toNat,by omega⟩
    have hi:=Sq88 m (by omega) (w.nodes+1) w (by omega) h7 e [] t h2 (by simp; omega)
    unfold isOfS at hi
    refine wp_det hi ?_
    simp only [↓zq,zs,hasK,Int.toNat_natCast]
    refine⟨fun hq=>?_,fun hq=>?_⟩
    ·rw [if_neg (by rw [hq]; simp)]
    ·rw [if_pos ⟨by omega,hq⟩]
theorem Sq1a (s v:List UInt8) (n:Int):FSpec Tryz.prog 70 [.v (.string (mk s)),.v (.string (mk v)),.v (.int .i64 n)] [] (Det (.v (.bool (vOK s v n).isSome))):=by
 refine Fqg6 _ _ _ ?_
 unfold tq9i
 refine wp_call (Sqa7 s) (ParR.ne _ _ (fun h=>h)) ?_
 rintro r o ⟨c,d,hd,rfl,hh⟩
 have hhas:hasL [.str,.sl] [.v (.string (mk c)),d] 0:=by simp [hasL,has_str,hd]
 simp only [↓zq,zs,hasK,zt]
 refine⟨hhas,?_⟩
 refine wp_call (Sq2j v) (ParR.ne _ _ (fun h=>by cases hq:rdV v<;>simp [hq] at h |-)) ?_
 rintro r o ⟨c',d',hd',rfl,hh'⟩
 have hhas':hasL [.str,.sl] [.v (.string (mk c')),d'] 0:=by simp [hasL,has_str,hd']
 simp only [↓zq,zs,hasK,zt,Det]
 refine⟨hhas',fun h=>⟨fun h2=>?_,fun h2=>?_⟩,fun h=>?_⟩
 ·obtain⟨e,he,hce⟩:=hh h
  obtain⟨t,h1,hA,h3,h4,h5,_⟩:=rdCE_full he
  obtain⟨w,hw⟩:=Option.isSome_iff_exists.1 h2
  obtain⟨e2,he2,hce2⟩:=hh' h2
  rw [hw] at he2
  cases he2
  obtain⟨h6,h7,h8⟩:=rdV_ok hw
  refine wp_det (Sq1y _ _ _) ?_
  simp only [↓zq,zs,hasK,inR,vOK,he,hw]
  refine⟨fun hq=>?_,fun hq=>?_⟩
  ·have hq':0<=n/\n<=100:=by simpa using hq
   obtain⟨m,rfl⟩:∃m:Nat,n = (m:Int):=⟨n.toNat,by omega⟩
   rw [hce,hce2]
   have:=Sqih m (by omega) w h7 e [] t hA (by simp; omega)
   rw [show envS [] = [] from rfl] at this
   refine wp_det this ?_
   simp only [↓zq,zs,hasK,Int.toNat_natCast]
   by_cases hb:vis m w (e,[]) = true
   ·rw [if_pos ⟨hq',hb⟩,hb]; rfl
   ·rw [if_neg (fun h=>hb h.2)]
    rw [Bool.not_eq_true] at hb
    rw [hb]; rfl
  ·have hq':¬ (0<=n/\n<=100):=by simpa using hq
   rw [if_neg (fun h=>hq' h.1)]; rfl
 ·have hn:rdV v = none:=by cases hq:rdV v<;>simp [hq] at h2 |-
  unfold vOK
  rw [hn]; cases rdCE s<;>rfl
 ·have hn:rdCE s = none:=by cases hq:rdCE s<;>simp [hq] at h |-
  unfold vOK
  rw [hn]; rfl
end Go.Proofs.Trees
namespace Go.Proofs.Trees
open Go Go.VL Go.RowKit
inductive Tg where
 | nm (s:List UInt8)
 | bd (k:Nat)
 deriving DecidableEq
def Tg.up:Tg->Tg
 | .nm s=>.nm s
 | .bd k=>.bd (k+1)
def isAt:Ty->Tg->Bool
 | .name s,.nm s'=>decide (s = s')
 | .bound u,.bd k=>decide (u = k)
 | _,_=>false
abbrev Hl:=Vl×Vl
def inC (g:Vl->Vl) (l:List Hl):List Hl:=l.map fun h=>(g h.1,h.2)
def holesS (f:Ty->Tg->Vl->List Hl) (tg:Tg):Ty->Vl->List Hl
 | .plus a _,.l w=>inC .l (f a tg w)
 | .plus _ b,.r w=>inC .r (f b tg w)
 | .times a b,.p x y=>inC (fun c=>.l (.p c y)) (f a tg x)++inC (fun c=>.r (.p x c)) (f b tg y)
 | .rc a,.f w=>inC (fun c=>.f (.l c)) (f a tg.up w)++(f a (.bd 0) w).flatMap fun h=>inC (fun c=>.f (.r (.p h.1 c))) (f (.rc a) tg h.2)
 | _,_=>[]
def holesN:Nat->Ty->Tg->Vl->List Hl
 | 0,_,_,_=>[]
 | n+1,t,tg,v=>if isAt t tg = true then [(.u,v)] else holesS (holesN n) tg t v
def stuck:Ty->Vl->Bool
 | .plus _ _,.l _=>false
 | .plus _ _,.r _=>false
 | .times _ _,.p _ _=>false
 | .rc _,.f _=>false
 | _,_=>true
def holes (t:Ty) (tg:Tg) (v:Vl):List Hl:=holesN v.nodes t tg v
theorem mem_inC {g:Vl->Vl} {l:List Hl} {h:Hl} (hm:h∈inC g l):∃k,k∈l/\h = (g k.1,k.2):=by
 obtain⟨k,h1,h2⟩:=List.mem_map.1 hm
 exact⟨k,h1,h2.symm⟩
theorem flat_congr {f g:Hl->List Hl}:∀{l:List Hl},(∀h,h∈l->f h = g h)->l.flatMap f = l.flatMap g
 | [],_=>rfl
 | h::l,hl=>by rw [List.flatMap_cons,List.flatMap_cons,hl h List.mem_cons_self,flat_congr (l:=l) fun k hk=>hl k (List.mem_cons_of_mem _ hk)]
theorem holesN_sz:∀(n:Nat) (t:Ty) (tg:Tg) (v:Vl) (h:Hl),h∈holesN n t tg v->h.2.nodes<=v.nodes/\h.1.nodes+4*h.2.nodes<=4*v.nodes+1
 | 0,t,tg,v,h,hm=>by simp [holesN] at hm
 | n+1,t,tg,v,h,hm=>by
  unfold holesN at hm
  split at hm
  ·simp only [List.mem_singleton] at hm
   subst hm
   simp only [Vl.nodes]; omega
  ·unfold holesS at hm
   split at hm
   ·obtain⟨k,h1,rfl⟩:=mem_inC hm
    have:=holesN_sz n _ _ _ k h1
    simp only [Vl.nodes]; omega
   ·obtain⟨k,h1,rfl⟩:=mem_inC hm
    have:=holesN_sz n _ _ _ k h1
    simp only [Vl.nodes]; omega
   ·rcases List.mem_append.1 hm with hm | hm
    ·obtain⟨k,h1,rfl⟩:=mem_inC hm
     have:=holesN_sz n _ _ _ k h1
     simp only [Vl.nodes]; omega
    ·obtain⟨k,h1,rfl⟩:=mem_inC hm
     have:=holesN_sz n _ _ _ k h1
     simp only [Vl.nodes]; omega
   ·rcases List.mem_append.1 hm with hm | hm
    ·obtain⟨k,h1,rfl⟩:=mem_inC hm
     have:=holesN_sz n _ _ _ k h1
     simp only [Vl.nodes]; omega
    ·obtain⟨k,h1,h2⟩:=List.mem_flatMap.1 hm
     obtain⟨k2,h3,rfl⟩:=mem_inC h2
     have:=holesN_sz n _ _ _ k h1
     have:=holesN_sz n _ _ _ k2 h3
     simp only [Vl.nodes]; omega
   ·simp at hm
theorem holesN_eq:∀(n m:Nat) (t:Ty) (tg:Tg) (v:Vl),v.nodes<=n->v.nodes<=m->holesN n t tg v = holesN m t tg v
 | 0,m,t,tg,v,h,_=>by have:=nodes_pos v; omega
 | n+1,0,t,tg,v,_,h=>by have:=nodes_pos v; omega
 | n+1,m+1,t,tg,v,hn,hm=>by
  rw [holesN,holesN]
  split
  ·rfl
  ·unfold holesS
   split
   ·simp only [Vl.nodes] at hn hm; rw [holesN_eq n m _ _ _ (by omega) (by omega)]
   ·simp only [Vl.nodes] at hn hm; rw [holesN_eq n m _ _ _ (by omega) (by omega)]
   ·simp only [Vl.nodes] at hn hm; rw [holesN_eq n m _ _ _ (by omega) (by omega),holesN_eq n m _ _ _ (by omega) (by omega)]
   ·rename_i a w
    simp only [Vl.nodes] at hn hm; rw [holesN_eq n m _ _ _ (by omega) (by omega),holesN_eq n m _ (.bd 0) _ (by omega) (by omega)]
    congr 1
    apply flat_congr
    intro h hh
    have:=(holesN_sz _ _ _ _ _ hh).1
    rw [holesN_eq n m _ _ _ (by omega) (by omega)]
   ·rfl
theorem holes_N {n:Nat} (t:Ty) (tg:Tg) {v:Vl} (h:v.nodes<=n):holesN n t tg v = holes t tg v:=holesN_eq _ _ _ _ _ h (Nat.le_refl _)
theorem holes_at {t:Ty} {tg:Tg} (v:Vl) (h:isAt t tg = true):holes t tg v = [(.u,v)]:=by
 have:=nodes_pos v
 unfold holes
 cases e:v.nodes with
 | zero=>omega
 | succ n=>rw [holesN,if_pos h]
theorem holes_l (a b:Ty) (tg:Tg) (w:Vl):holes (.plus a b) tg (.l w) = inC .l (holes a tg w):=by
 unfold holes; rw [show (Vl.l w).nodes = w.nodes+1 by simp [Vl.nodes]; omega,holesN,if_neg (by simp [isAt])]; rfl
theorem holes_r (a b:Ty) (tg:Tg) (w:Vl):holes (.plus a b) tg (.r w) = inC .r (holes b tg w):=by
 unfold holes; rw [show (Vl.r w).nodes = w.nodes+1 by simp [Vl.nodes]; omega,holesN,if_neg (by simp [isAt])]; rfl
theorem holes_p (a b:Ty) (tg:Tg) (x y:Vl):holes (.times a b) tg (.p x y) = inC (fun c=>.l (.p c y)) (holes a tg x)++inC (fun c=>.r (.p x c)) (holes b tg y):=by
 rw [holes,show (Vl.p x y).nodes = (x.nodes+y.nodes)+1 by simp [Vl.nodes]; omega,holesN,if_neg (by simp [isAt])]
 rw [holesS,holes_N a tg (by omega),holes_N b tg (by omega)]
theorem holes_f (a:Ty) (tg:Tg) (w:Vl):holes (.rc a) tg (.f w) = inC (fun c=>.f (.l c)) (holes a tg.up w)++(holes a (.bd 0) w).flatMap fun h=>inC (fun c=>.f (.r (.p h.1 c))) (holes (.rc a) tg h.2):=by
 rw [holes,show (Vl.f w).nodes = w.nodes+1 by simp [Vl.nodes]; omega,holesN,if_neg (by simp [isAt])]
 rw [holesS,holes_N a tg.up (Nat.le_refl _),holes_N a (.bd 0) (Nat.le_refl _)]
 congr 1
 apply flat_congr
 intro h hh
 have:=(holesN_sz _ _ _ _ _ hh).1
 rw [holes_N (.rc a) tg this]
theorem holes_no {t:Ty} {tg:Tg} {v:Vl} (h:isAt t tg = false) (h2:stuck t v = true):holes t tg v = []:=by
 unfold holes
 cases e:v.nodes with
 | zero=>rfl
 | succ n =>
  rw [holesN,if_neg (by rw [h]; simp)]
  unfold holesS
  split<;>first | (simp [stuck] at h2; done) | rfl
theorem holes_sz {t:Ty} {tg:Tg} {v:Vl} {h:Hl} (hm:h∈holes t tg v):h.2.nodes<=v.nodes/\h.1.nodes+4*h.2.nodes<=4*v.nodes+1:=holesN_sz _ _ _ _ _ hm
theorem holes_bel (n:Nat):∀(m:Nat) (t:Ty) (tg:Tg) (v:Vl) (h:Hl),v.bel n->h∈holesN m t tg v->h.1.bel n/\h.2.bel n
 | 0,t,tg,v,h,hv,hm=>by simp [holesN] at hm
 | m+1,t,tg,v,h,hv,hm=>by
  unfold holesN at hm
  split at hm
  ·simp only [List.mem_singleton] at hm
   subst hm
   exact⟨trivial,hv⟩
  ·unfold holesS at hm
   split at hm
   ·obtain⟨k,h1,rfl⟩:=mem_inC hm
    exact(fun q=>holes_bel n m _ _ _ k q h1) hv
   ·obtain⟨k,h1,rfl⟩:=mem_inC hm
    exact(fun q=>holes_bel n m _ _ _ k q h1) hv
   ·rcases List.mem_append.1 hm with hm | hm
    ·obtain⟨k,h1,rfl⟩:=mem_inC hm
     obtain⟨q1,q2⟩:=holes_bel n m _ _ _ k hv.1 h1
     exact⟨⟨q1,hv.2⟩,q2⟩
    ·obtain⟨k,h1,rfl⟩:=mem_inC hm
     obtain⟨q1,q2⟩:=holes_bel n m _ _ _ k hv.2 h1
     exact⟨⟨hv.1,q1⟩,q2⟩
   ·rcases List.mem_append.1 hm with hm | hm
    ·obtain⟨k,h1,rfl⟩:=mem_inC hm
     exact(fun q=>holes_bel n m _ _ _ k q h1) hv
    ·obtain⟨k,h1,h2⟩:=List.mem_flatMap.1 hm
     obtain⟨k2,h3,rfl⟩:=mem_inC h2
     obtain⟨q1,q2⟩:=(fun q=>holes_bel n m _ _ _ k q h1) hv
     obtain⟨q3,q4⟩:=holes_bel n m _ _ _ k2 q2 h3
     exact⟨⟨q1,q3⟩,q4⟩
   ·simp at hm
def nsum (l:List Hl):Nat:=(l.map fun h=>h.2.nodes).sum
theorem nsum_app (l r:List Hl):nsum (l++r) = nsum l+nsum r:=by simp [nsum]
theorem nsum_inC (g:Vl->Vl) (l:List Hl):nsum (inC g l) = nsum l:=by simp [nsum,inC,Function.comp_def]
def tsum (f:Tg->Nat) (T:List Tg):Nat:=(T.map f).sum
theorem tsum_add (f g:Tg->Nat):∀T:List Tg,tsum (fun x=>f x+g x) T = tsum f T+tsum g T
 | []=>rfl
 | x::T=>by have:=tsum_add f g T; simp only [tsum,List.map_cons,List.sum_cons] at this |-; omega
theorem tsum_le {f g:Tg->Nat}:∀{T:List Tg},(∀x,x∈T->f x<=g x)->tsum f T<=tsum g T
 | [],_=>Nat.le_refl _
 | x::T,h=>by
  have:=tsum_le (T:=T) fun y hy=>h y (List.mem_cons_of_mem _ hy)
  have:=h x List.mem_cons_self
  simp only [tsum,List.map_cons,List.sum_cons] at *; omega
theorem tsum_zero {f:Tg->Nat}:∀{T:List Tg},(∀x,x∈T->f x = 0)->tsum f T = 0
 | [],_=>rfl
 | x::T,h=>by
  have:=tsum_zero (T:=T) fun y hy=>h y (List.mem_cons_of_mem _ hy)
  have:=h x List.mem_cons_self
  simp only [tsum,List.map_cons,List.sum_cons] at *; omega
theorem tsum_flat (g:Hl->Tg->Nat) (T:List Tg):∀l:List Hl,tsum (fun x=>(l.map fun h=>g h x).sum) T = (l.map fun h=>tsum (g h) T).sum
 | []=>tsum_zero fun _ _=>rfl
 | h::l=>by
  have:=tsum_flat g T l
  simp only [List.map_cons,List.sum_cons]
  rw [tsum_add,this]
theorem nsum_flat (f:Hl->List Hl):∀l:List Hl,nsum (l.flatMap f) = (l.map fun h=>nsum (f h)).sum
 | []=>rfl
 | h::l=>by rw [List.flatMap_cons,nsum_app,nsum_flat f l]; simp
theorem sum_le {f g:Hl->Nat}:∀{l:List Hl},(∀x,x∈l->f x<=g x)->(l.map f).sum<=(l.map g).sum
 | [],_=>Nat.le_refl _
 | x::l,h=>by
  have:=sum_le (l:=l) fun y hy=>h y (List.mem_cons_of_mem _ hy)
  have:=h x List.mem_cons_self
  simp only [List.map_cons,List.sum_cons] at *; omega
theorem isAt_one {t:Ty} {x y:Tg} (h:isAt t x = true) (h':isAt t y = true):x = y:=by
 cases t<;>cases x<;>cases y<;>simp [isAt] at h h'<;>simp_all
theorem tsum_at {t:Ty} (n:Nat):∀{T:List Tg},T.Nodup->tsum (fun x=>if isAt t x = true then n else 0) T<=n
 | [],_=>Nat.zero_le _
 | x::T,h=>by
  obtain⟨h1,h2⟩:=List.nodup_cons.1 h
  have ih:=tsum_at (t:=t) n h2
  by_cases hx:isAt t x = true
  ·have:tsum (fun x=>if isAt t x = true then n else 0) T = 0:=tsum_zero fun y hy=>by
    rw [if_neg fun hy'=>h1 (by rw [isAt_one hx hy']; exact hy)]
   simp only [tsum,List.map_cons,List.sum_cons] at *
   rw [if_pos hx]; omega
  ·simp only [tsum,List.map_cons,List.sum_cons] at *
   rw [if_neg hx]; omega
theorem up_nodup {T:List Tg} (h:T.Nodup):(Tg.bd 0::T.map Tg.up).Nodup:=by
 refine List.nodup_cons.2 ⟨fun hm=>?_,?_⟩
 ·obtain⟨x,_,e⟩:=List.mem_map.1 hm
  cases x<;>simp [Tg.up] at e
 ·refine List.Pairwise.map _ (fun a b hab e=>hab ?_) h
  cases a<;>cases b<;>simp [Tg.up] at e<;>simp_all
theorem apart:∀(n:Nat) (v:Vl),v.nodes<=n->∀(t:Ty) (T:List Tg),T.Nodup->tsum (fun x=>nsum (holes t x v)) T<=v.nodes
 | 0,v,h=>by have:=nodes_pos v; omega
 | n+1,v,hn=>by
  intro t T hT
  have base:∀(hno:∀x,isAt t x = false->holes t x v = []),tsum (fun x=>nsum (holes t x v)) T<=v.nodes:=fun hno=>by
   refine Nat.le_trans (tsum_le fun x _=>?_) (tsum_at (t:=t) v.nodes hT)
   cases e:isAt t x with
   | true=>rw [holes_at v e]; simp [nsum]
   | false=>rw [hno x e]; simp [nsum]
  cases hm:stuck t v with
  | true=>exact base fun x hx=>holes_no hx hm
  | false =>
   unfold stuck at hm
   split at hm
   ·rename_i a b w
    simp only [Vl.nodes] at hn |-
    simp only [holes_l,nsum_inC]
    have:=apart n w (by omega) a T hT
    omega
   ·rename_i a b w
    simp only [Vl.nodes] at hn |-
    simp only [holes_r,nsum_inC]
    have:=apart n w (by omega) b T hT
    omega
   ·rename_i a b x y
    simp only [Vl.nodes] at hn |-
    simp only [holes_p,nsum_app,nsum_inC]
    rw [tsum_add]
    have:=apart n x (by omega) a T hT
    have:=apart n y (by omega) b T hT
    omega
   ·rename_i a w
    simp only [Vl.nodes] at hn |-
    simp only [holes_f,nsum_app,nsum_inC,nsum_flat]
    rw [tsum_add,tsum_flat]
    have h1:=apart n w (by omega) a _ (up_nodup hT)
    simp only [tsum,List.map_cons,List.sum_cons,List.map_map] at h1
    have h2:((holes a (.bd 0) w).map fun h=>tsum (fun x=>nsum (holes (.rc a) x h.2)) T).sum<=nsum (holes a (.bd 0) w):=sum_le fun h hh=>by
     have:=(holes_sz hh).1
     exact apart n h.2 (by omega) (.rc a) T hT
    simp only [tsum,Function.comp_def] at h1 h2 |-
    omega
   ·cases hm
theorem holes_nsum (t:Ty) (tg:Tg) (v:Vl):nsum (holes t tg v)<=v.nodes:=by
 have:=apart v.nodes v (Nat.le_refl _) t [tg] (by simp)
 simpa [tsum] using this
theorem len_nsum:∀l:List Hl,l.length<=nsum l
 | []=>Nat.zero_le _
 | h::l=>by
  have:=len_nsum l
  have:=nodes_pos h.2
  simp only [nsum,List.map_cons,List.sum_cons,List.length_cons] at *; omega
theorem holes_len (t:Ty) (tg:Tg) (v:Vl):(holes t tg v).length<=v.nodes:=Nat.le_trans (len_nsum _) (holes_nsum t tg v)
end Go.Proofs.Trees
namespace Go.Proofs.Trees
open Go Go.VL Go.RowKit
def nmAt (ar:List (List UInt8)) (k:Nat):List UInt8:=ar.getD (ar.length - 1 - k) []
theorem lastOf_at {s:List UInt8} {ar:List (List UInt8)}:∀(i u:Nat),i<=ar.length->lastOf s ar i = some u->u < ar.length/\nmAt ar u = s
 | 0,u,_,h=>by cases h
 | i+1,u,hi,h=>by
  rw [lastOf] at h
  split at h
  ·rename_i e
   cases h
   refine⟨by omega,?_⟩
   rw [nmAt,show ar.length - 1 - (ar.length - 1 - i) = i by omega]; exact e
  ·exact lastOf_at i u (by omega) h
def occ:Ty->Tg->Bool
 | .plus a b,tg=>occ a tg||occ b tg
 | .times a b,tg=>occ a tg||occ b tg
 | .rc a,tg=>occ a tg.up
 | t,tg=>isAt t tg
theorem holes_occ:∀(n:Nat) (v:Vl),v.nodes<=n->∀(t:Ty) (tg:Tg),occ t tg = false->holes t tg v = []
 | 0,v,h=>by have:=nodes_pos v; omega
 | n+1,v,hn=>by
  intro t tg ho
  cases hm:stuck t v with
  | true =>
   refine holes_no ?_ hm
   cases t<;>first | exact ho | rfl
  | false =>
   unfold stuck at hm
   split at hm
   ·simp only [Vl.nodes] at hn
    simp only [occ,Bool.or_eq_false_iff] at ho
    rw [holes_l,holes_occ n _ (by omega) _ _ ho.1]; rfl
   ·simp only [Vl.nodes] at hn
    simp only [occ,Bool.or_eq_false_iff] at ho
    rw [holes_r,holes_occ n _ (by omega) _ _ ho.2]; rfl
   ·simp only [Vl.nodes] at hn
    simp only [occ,Bool.or_eq_false_iff] at ho
    rw [holes_p,holes_occ n _ (by omega) _ _ ho.1,holes_occ n _ (by omega) _ _ ho.2]; rfl
   ·rename_i a w
    simp only [Vl.nodes] at hn
    have ho':occ a tg.up = false:=ho
    rw [holes_f,holes_occ n _ (by omega) _ _ ho']
    have:(holes a (.bd 0) w).flatMap (fun h=>inC (fun c=>.f (.r (.p h.1 c))) (holes (.rc a) tg h.2)) = (holes a (.bd 0) w).flatMap (fun _=>[]):=flat_congr fun h hh=>by
     have:=(holes_sz hh).1
     rw [holes_occ n h.2 (by omega) (.rc a) tg ho]; rfl
    rw [this]
    induction holes a (.bd 0) w<;>simp_all [inC]
   ·cases hm
theorem occ_last:∀(e:E) (ar:List (List UInt8)) (t:Ty) (k:Nat),tyOf e ar = some t->occ t (.bd k) = true->k < ar.length/\lastOf (nmAt ar k) ar ar.length = some k
 | .atom s,ar,t,k,ht,ho=>by
  simp only [tyOf] at ht
  split at ht
  ·cases ht; cases ho
  ·split at ht
   ·cases ht; cases ho
   ·split at ht
    ·cases ht; cases ho
    ·split at ht
     ·split at ht
      ·rename_i u hu
       cases ht
       have:u = k:=by simpa [occ,isAt] using ho
       subst this
       obtain⟨h1,h2⟩:=lastOf_at _ _ (Nat.le_refl _) hu
       exact⟨h1,by rw [h2]; exact hu⟩
      ·cases ht; cases ho
     ·cases ht
 | .list [x,a,b],ar,t,k,ht,ho=>by
  by_cases h0:x.at = [43]
  ·obtain⟨t1,t2,h1,h2,rfl⟩:=tyOf_plus_inv h0 ht
   simp only [occ,Bool.or_eq_true] at ho
   rcases ho with ho | ho
   ·exact occ_last a ar t1 k h1 ho
   ·exact occ_last b ar t2 k h2 ho
  ·by_cases h1:x.at = [42]
   ·obtain⟨t1,t2,h1,h2,rfl⟩:=tyOf_times_inv h1 ht
    simp only [occ,Bool.or_eq_true] at ho
    rcases ho with ho | ho
    ·exact occ_last a ar t1 k h1 ho
    ·exact occ_last b ar t2 k h2 ho
   ·by_cases h2:x.at = [114,101,99]
    ·obtain⟨t1,_,h3,rfl⟩:=tyOf_rec_inv h2 ht
     obtain⟨q1,q2⟩:=occ_last b (ar++[a.at]) t1 (k+1) h3 ho
     simp only [List.length_append,List.length_cons,List.length_nil] at q1
     have hk:k < ar.length:=by omega
     have e:nmAt (ar++[a.at]) (k+1) = nmAt ar k:=by
      unfold nmAt
      rw [List.length_append,show ar.length+[a.at].length - 1 - (k+1) = ar.length - 1 - k by simp; omega]
      simp [List.getD_eq_getElem?_getD,List.getElem?_append_left (show ar.length - 1 - k < ar.length by omega)]
     rw [e] at q2
     refine⟨hk,?_⟩
     have e2:(ar++[a.at]).length = ar.length+1:=by simp
     rw [e2,lastOf] at q2
     split at q2
     ·rw [e2] at q2; simp at q2
     ·rw [lastOf_snoc _ _ _ _ (Nat.le_refl _)] at q2
      cases hq:lastOf (nmAt ar k) ar ar.length with
      | none=>rw [hq] at q2; cases q2
      | some u=>rw [hq] at q2; simpa using q2
    ·rw [tyOf_no _ h0 h1 h2] at ht; cases ht
 | .list [],ar,t,k,ht,ho=>by cases ht
 | .list [_],ar,t,k,ht,ho=>by cases ht
 | .list [_,_],ar,t,k,ht,ho=>by cases ht
 | .list (_::_::_::_::_),ar,t,k,ht,ho=>by cases ht
theorem lastOf_same (w:List UInt8) (ar:List (List UInt8)):lastOf w (ar++[w]) (ar++[w]).length = some 0:=by
 have e2:(ar++[w]).length = ar.length+1:=by simp
 rw [e2,lastOf,if_pos (by simp [List.getD_eq_getElem?_getD]),e2]; simp
theorem lastOf_other {s w:List UInt8} (ar:List (List UInt8)) (h:w≠s):lastOf s (ar++[w]) (ar++[w]).length = (lastOf s ar ar.length).map (·+1):=by
 have e2:(ar++[w]).length = ar.length+1:=by simp
 rw [e2,lastOf,if_neg (by simpa [List.getD_eq_getElem?_getD] using h),lastOf_snoc _ _ _ _ (Nat.le_refl _)]
theorem shadow {b:E} {ar:List (List UInt8)} {w:List UInt8} {t:Ty} {k:Nat} (hb:tyOf b (ar++[w]) = some t) (hk:lastOf w ar ar.length = some k):occ t (.bd (k+1)) = false:=by
 cases h:occ t (.bd (k+1)) with
 | false=>rfl
 | true =>
  obtain⟨_,q2⟩:=occ_last _ _ _ _ hb h
  obtain⟨h1,h2⟩:=lastOf_at _ _ (Nat.le_refl _) hk
  have e:nmAt (ar++[w]) (k+1) = nmAt ar k:=by
   unfold nmAt
   rw [List.length_append,show ar.length+[w].length - 1 - (k+1) = ar.length - 1 - k by simp; omega]
   simp [List.getD_eq_getElem?_getD,List.getElem?_append_left (show ar.length - 1 - k < ar.length by omega)]
  rw [e,h2,lastOf_same] at q2
  cases q2
def tgS (s:List UInt8) (ar:List (List UInt8)):Tg:=match lastOf s ar ar.length with | some u=>.bd u | none=>.nm s
theorem tgS_same (w:List UInt8) (ar:List (List UInt8)):tgS w (ar++[w]) = .bd 0:=by rw [tgS,lastOf_same]
theorem tgS_other {s w:List UInt8} (ar:List (List UInt8)) (h:w≠s):tgS s (ar++[w]) = (tgS s ar).up:=by
 rw [tgS,tgS,lastOf_other ar h]
 cases lastOf s ar ar.length<;>rfl
theorem vis_hole (n:Nat):∀(m:Nat) (v:Vl),v.nodes<=m->∀(e:E) (env:List Fr) (t:Ty),Ask e env t->vis n v (e,env) = true->∀(k:Nat) (f:Fr),env[k]? = some f->∀h,h∈holes t (.bd k) v->vis n h.2 (f.ex,f.out) = true
 | 0,v,hm=>by have:=nodes_pos v; omega
 | m+1,v,hm=>by
  intro e env t A hv k f hf h hh
  rcases ty_cases A.wf A.ty with⟨hb,hq⟩ | ⟨u,g,rfl,hq,hu⟩
  ·have hhd:hd e env = (e,env):=hd_none hq
   rcases ty_shapes A.ty hb A.cl with⟨rfl,rfl⟩ | ⟨rfl,rfl⟩ | ⟨s,rfl,rfl,hp,h0,h1⟩ | ⟨x,a,b,t1,t2,rfl,hx,rfl,ha,hbb⟩ | ⟨x,a,b,t1,t2,rfl,hx,rfl,ha,hbb⟩ | ⟨x,a,b,t1,rfl,hx,rfl⟩
   ·rw [holes_no rfl (by cases v<;>rfl)] at hh; cases hh
   ·rw [holes_no rfl (by cases v<;>rfl)] at hh; cases hh
   ·rw [holes_no rfl (by cases v<;>rfl)] at hh; cases hh
   ·obtain⟨ok1,ok2,ok3,_⟩:=A.ok
    obtain⟨f1,f2⟩:=freeLoo_plus A.cl
    cases v with
    | l w =>
     simp only [vis,hhd,hx,beq_self_eq_true,Bool.true_and] at hv
     simp only [Vl.nodes] at hm
     rw [holes_l] at hh
     obtain⟨h2,h3,rfl⟩:=mem_inC hh
     exact vis_hole n m w (by omega) a env t1 ⟨ok2,A.wf,ha,f1⟩ hv k f hf h2 h3
    | r w =>
     simp only [vis,hhd,hx,beq_self_eq_true,Bool.true_and] at hv
     simp only [Vl.nodes] at hm
     rw [holes_r] at hh
     obtain⟨h2,h3,rfl⟩:=mem_inC hh
     exact vis_hole n m w (by omega) b env t2 ⟨ok3,A.wf,hbb,f2⟩ hv k f hf h2 h3
    | _=>rw [holes_no rfl rfl] at hh; cases hh
   ·obtain⟨ok1,ok2,ok3,_⟩:=A.ok
    obtain⟨f1,f2⟩:=freeLoo_times A.cl
    cases v with
    | p w w' =>
     simp only [vis,hhd,hx,beq_self_eq_true,Bool.true_and,Bool.and_eq_true] at hv
     simp only [Vl.nodes] at hm
     rw [holes_p] at hh
     rcases List.mem_append.1 hh with hh | hh
     ·obtain⟨h2,h3,rfl⟩:=mem_inC hh
      exact vis_hole n m w (by omega) a env t1 ⟨ok2,A.wf,ha,f1⟩ hv.1 k f hf h2 h3
     ·obtain⟨h2,h3,rfl⟩:=mem_inC hh
      exact vis_hole n m w' (by omega) b env t2 ⟨ok3,A.wf,hbb,f2⟩ hv.2 k f hf h2 h3
    | _=>rw [holes_no rfl rfl] at hh; cases hh
   ·obtain⟨t1',he1,h1,f1,hw1⟩:=wf_enter A.wf A.ok hx A.ty A.cl
    cases he1
    obtain⟨ok1,ok2,ok3,_⟩:=A.ok
    cases v with
    | f w =>
     simp only [vis,hhd,hx,beq_self_eq_true,Bool.true_and] at hv
     simp only [Vl.nodes] at hm
     rw [holes_f] at hh
     have A':Ask b (.mk a.at (.list [x,a,b]) env::env) t1:=⟨ok3,hw1,h1,f1⟩
     rcases List.mem_append.1 hh with hh | hh
     ·obtain⟨h2,h3,rfl⟩:=mem_inC hh
      exact vis_hole n m w (by omega) b _ t1 A' hv (k+1) f (by simpa using hf) h2 h3
     ·obtain⟨kd,h2,h3⟩:=List.mem_flatMap.1 hh
      obtain⟨h4,h5,rfl⟩:=mem_inC h3
      have hkd:=vis_hole n m w (by omega) b _ t1 A' hv 0 _ rfl kd h2
      have:=(holes_sz h2).1
      exact vis_hole n m kd.2 (by omega) (.list [x,a,b]) env _ A hkd k f hf h4 h5
    | _=>rw [holes_no rfl rfl] at hh; cases hh
  ·by_cases huk:u = k
   ·subst huk
    rw [hu] at hf; cases hf
    rw [holes_at v (by simp [isAt])] at hh
    simp only [List.mem_singleton] at hh
    subst hh
    obtain⟨x,a,b,t',hfe,hok,hx,ht',hf',hwf,hlt⟩:=findF_wf A.wf hq
    rw [<-vis_hd n v (hd_some hq) (by rw [hfe]; exact hd_rec hwf)]; exact hv
   ·rw [holes_no (by simpa [isAt] using huk) (by cases v<;>rfl)] at hh; cases hh
end Go.Proofs.Trees
namespace Go.Proofs.Trees
open Go Go.VL Go.RowKit
def tyA:E->List Nm->Ty
 | .atom s,ar=>if s = [48] then .zero else if s = [49] then .one else match lastOf s ar ar.length with | some u=>.bound u | none=>.name s
 | .list [x,a,b],ar=>if x.at = [43] then .plus (tyA a ar) (tyA b ar) else if x.at = [42] then .times (tyA a ar) (tyA b ar) else .rc (tyA b (ar++[a.at]))
 | .list _,_=>.zero
def okN (s:Nm):Prop:=s≠[]/\s≠[48]/\s≠[49]
inductive Wf:E->Prop
 | atom {s} (h:s≠[]):Wf (.atom s)
 | plus {a b} (ha:Wf a) (hb:Wf b):Wf (.list [.atom [43],a,b])
 | times {a b} (ha:Wf a) (hb:Wf b):Wf (.list [.atom [42],a,b])
 | rc {n b} (hn:okN n) (hb:Wf b):Wf (.list [.atom [114,101,99],.atom n,b])
theorem tyA_plus (a b:E) (ar:List Nm):tyA (.list [.atom [43],a,b]) ar = .plus (tyA a ar) (tyA b ar):=by rw [tyA,if_pos (show (E.atom [43]).at = [43] from rfl)]
theorem tyA_times (a b:E) (ar:List Nm):tyA (.list [.atom [42],a,b]) ar = .times (tyA a ar) (tyA b ar):=by rw [tyA,if_neg (by decide),if_pos (show (E.atom [42]).at = [42] from rfl)]
theorem tyA_rc (a b:E) (ar:List Nm):tyA (.list [.atom [114,101,99],a,b]) ar = .rc (tyA b (ar++[a.at])):=by rw [tyA,if_neg (by decide),if_neg (by decide)]
theorem Wf.ok {e:E} (h:Wf e):e.ok:=by
 induction h with
 | atom h=>exact h
 | plus ha hb i1 i2=>exact⟨by simp [E.ok],i1,i2,trivial⟩
 | times ha hb i1 i2=>exact⟨by simp [E.ok],i1,i2,trivial⟩
 | rc hn hb i=>exact⟨by simp [E.ok],hn.1,i,trivial⟩
theorem Wf.ats {e:E} (h:Wf e):∀ar,e.ats = (tyA e ar).atoms:=by
 induction h with
 | @atom s h =>
  intro ar
  simp only [E.ats,tyA]
  split
  ·rfl
  ·split
   ·rfl
   ·split<;>rfl
 | plus ha hb i1 i2=>intro ar; rw [tyA_plus]; simp only [E.ats,E.atss,Ty.atoms,<-i1 ar,<-i2 ar]; omega
 | times ha hb i1 i2=>intro ar; rw [tyA_times]; simp only [E.ats,E.atss,Ty.atoms,<-i1 ar,<-i2 ar]; omega
 | @rc n b hn hb i=>intro ar; rw [tyA_rc]; simp only [E.ats,E.atss,Ty.atoms,<-i]; omega
theorem Wf.sz {e:E} (h:Wf e):e.sz<=3*e.ats:=by
 induction h with
 | atom h=>simp [E.sz,E.ats]
 | plus ha hb i1 i2=>simp only [E.sz,E.szs,E.ats,E.atss]; omega
 | times ha hb i1 i2=>simp only [E.sz,E.szs,E.ats,E.atss]; omega
 | rc hn hb i=>simp only [E.sz,E.szs,E.ats,E.atss]; omega
theorem wf_tyOf:∀(e:E) (ar:List Nm) (t:Ty),e.ok->(∀w,w∈ar->isLoo w = true)->tyOf e ar = some t->Wf e/\tyA e ar = t
 | .atom s,ar,t,hok,hl,ht=>by
  refine⟨.atom hok,?_⟩
  simp only [tyOf,tyA] at ht |-
  split at ht
  ·rename_i h; rw [if_pos h]; simpa using ht
  ·rename_i h; rw [if_neg h]
   split at ht
   ·rename_i h1; rw [if_pos h1]; simpa using ht
   ·rename_i h1; rw [if_neg h1]
    split at ht
    ·rename_i hp
     cases q:lastOf s ar ar.length with
     | none=>simpa using ht
     | some u =>
      obtain⟨h1,h2⟩:=lastOf_at _ _ (Nat.le_refl _) q
      have:=hl (nmAt ar u) (by
       unfold nmAt
       have:ar.length - 1 - u < ar.length:=by omega
       simp [List.getD_eq_getElem?_getD,this])
      rw [h2,par_not_loo hp] at this; cases this
    ·split at ht
     ·split at ht<;>rename_i q<;>rw [q]<;>simpa using ht
     ·cases ht
 | .list [x,a,b],ar,t,hok,hl,ht=>by
  obtain⟨ok1,ok2,ok3,_⟩:=hok
  by_cases h0:x.at = [43]
  ·obtain⟨t1,t2,h1,h2,rfl⟩:=tyOf_plus_inv h0 ht
   obtain rfl:=at_atom h0 (by simp)
   obtain⟨w1,e1⟩:=wf_tyOf a ar t1 ok2 hl h1
   obtain⟨w2,e2⟩:=wf_tyOf b ar t2 ok3 hl h2
   exact⟨.plus w1 w2,by rw [tyA_plus,e1,e2]⟩
  ·by_cases h1:x.at = [42]
   ·obtain⟨t1,t2,h2,h3,rfl⟩:=tyOf_times_inv h1 ht
    obtain rfl:=at_atom h1 (by simp)
    obtain⟨w1,e1⟩:=wf_tyOf a ar t1 ok2 hl h2
    obtain⟨w2,e2⟩:=wf_tyOf b ar t2 ok3 hl h3
    exact⟨.times w1 w2,by rw [tyA_times,e1,e2]⟩
   ·by_cases h2:x.at = [114,101,99]
    ·obtain⟨t1,hla,h3,rfl⟩:=tyOf_rec_inv h2 ht
     obtain rfl:=at_atom h2 (by simp)
     have hne:a.at≠[]:=by intro e; rw [e] at hla; cases hla
     have ha:a = .atom a.at:=at_atom rfl hne
     obtain⟨w1,e1⟩:=wf_tyOf b (ar++[a.at]) t1 ok3 (fun w hw=>by
      rcases List.mem_append.1 hw with hw | hw
      ·exact hl w hw
      ·simp only [List.mem_singleton] at hw; rw [hw]; exact hla) h3
     have hN:okN a.at:=⟨hne,fun e=>by rw [e] at hla; revert hla; decide,fun e=>by rw [e] at hla; revert hla; decide⟩
     refine⟨?_,by rw [tyA_rc,e1]⟩
     rw [ha]; exact .rc hN w1
    ·rw [tyOf_no _ h0 h1 h2] at ht; cases ht
 | .list [],ar,t,_,_,ht=>by cases ht
 | .list [_],ar,t,_,_,ht=>by cases ht
 | .list [_,_],ar,t,_,_,ht=>by cases ht
 | .list (_::_::_::_::_),ar,t,_,_,ht=>by cases ht
theorem lastOf_mem (s:Nm) (ar:List Nm):lastOf s ar ar.length = none↔s ∉ ar:=by
 have:=lastOf_none s ar ar.length (Nat.le_refl _)
 rwa [List.take_length] at this
theorem lastOf_app (s:Nm) (ar:List Nm):∀(n:Nat) (br:List Nm),br.length = n->lastOf s (ar++br) (ar++br).length = match lastOf s br br.length with | some u=>some u | none=>(lastOf s ar ar.length).map (·+br.length)
 | 0,br,h=>by
  obtain rfl:=List.eq_nil_of_length_eq_zero h
  rw [List.append_nil]
  cases h:lastOf s ar ar.length<;>simp [lastOf]
 | n+1,br,h=>by
  obtain⟨b2,w,rfl⟩:∃b2 w,br = b2++[w]:=⟨br.dropLast,br.getLast (by intro e; rw [e] at h; cases h),(List.dropLast_concat_getLast _).symm⟩
  rw [<-List.append_assoc]
  by_cases hw:w = s
  ·subst hw; rw [lastOf_same,lastOf_same]
  ·rw [lastOf_other _ hw,lastOf_other _ hw,lastOf_app s ar n b2 (by simpa using h)]
   cases lastOf s b2 b2.length with
   | some u=>rfl
   | none =>
    cases lastOf s ar ar.length with
    | none=>rfl
    | some u=>simp only [Option.map_none,Option.map_some,List.length_append,List.length_cons,List.length_nil]; congr 1
theorem tyA_pre (ar:List Nm) {e:E} (h:Wf e):∀br,(∀y,hasN y (tyA e br) = true->y ∉ ar)->tyA e (ar++br) = tyA e br:=by
 induction h with
 | @atom s h =>
  intro br hy
  simp only [tyA] at hy |-
  split
  ·rfl
  ·rename_i h0
   split
   ·rfl
   ·rename_i h1
    rw [if_neg h0,if_neg h1] at hy
    rw [lastOf_app s ar _ br rfl]
    cases q:lastOf s br br.length with
    | some u=>rfl
    | none =>
     rw [q] at hy
     have:=(lastOf_mem s ar).2 (hy s (by simp [hasN]))
     rw [this]; rfl
 | plus ha hb i1 i2 =>
  intro br hy
  rw [tyA_plus] at hy |-
  rw [tyA_plus,i1 br fun y h=>hy y (by simp [hasN,h]),i2 br fun y h=>hy y (by simp [hasN,h])]
 | times ha hb i1 i2 =>
  intro br hy
  rw [tyA_times] at hy |-
  rw [tyA_times,i1 br fun y h=>hy y (by simp [hasN,h]),i2 br fun y h=>hy y (by simp [hasN,h])]
 | @rc n b hn hb i =>
  intro br hy
  rw [tyA_rc] at hy |-
  rw [tyA_rc,List.append_assoc,i _ hy]
theorem tyA_opn (x:Nm) {e:E} (h:Wf e):∀ar,tyA e ar = opn (.name x) (tyA e ([x]++ar)) ar.length:=by
 induction h with
 | @atom s h =>
  intro ar
  simp only [tyA]
  split
  ·rfl
  ·split
   ·rfl
   ·rw [lastOf_app s [x] _ ar rfl]
    cases q:lastOf s ar ar.length with
    | some u =>
     have:=(lastOf_at _ _ (Nat.le_refl _) q).1
     simp only [opn]; rw [if_neg (by omega)]
    | none =>
     by_cases hx:x = s
     ·subst hx
      have:lastOf x [x] [x].length = some 0:=lastOf_same x []
      rw [this]; simp [opn]
     ·have:lastOf s [x] [x].length = none:=(lastOf_mem s [x]).2 (by simpa using fun e=>hx e.symm)
      rw [this]; rfl
 | plus ha hb i1 i2=>intro ar; rw [tyA_plus,tyA_plus,opn,<-i1 ar,<-i2 ar]
 | times ha hb i1 i2=>intro ar; rw [tyA_times,tyA_times,opn,<-i1 ar,<-i2 ar]
 | @rc n b hn hb i =>
  intro ar
  rw [tyA_rc,tyA_rc,opn,i (ar++[E.at (.atom n)]),List.append_assoc]
  simp
theorem wfE_names {e:E} (h:Wf e):∀ar y,hasN y (tyA e ar) = true->okN y/\y ∉ ar:=by
 induction h with
 | @atom s h =>
  intro ar y hy
  simp only [tyA] at hy
  split at hy
  ·cases hy
  ·rename_i h0
   split at hy
   ·cases hy
   ·rename_i h1
    split at hy
    ·cases hy
    ·rename_i q
     simp only [hasN,decide_eq_true_eq] at hy
     subst hy
     exact⟨⟨h,h0,h1⟩,(lastOf_mem _ _).1 q⟩
 | plus ha hb i1 i2 =>
  intro ar y hy
  rw [tyA_plus] at hy
  simp only [hasN,Bool.or_eq_true] at hy
  rcases hy with hy | hy
  ·exact i1 ar y hy
  ·exact i2 ar y hy
 | times ha hb i1 i2 =>
  intro ar y hy
  rw [tyA_times] at hy
  simp only [hasN,Bool.or_eq_true] at hy
  rcases hy with hy | hy
  ·exact i1 ar y hy
  ·exact i2 ar y hy
 | rc hn hb i =>
  intro ar y hy
  rw [tyA_rc] at hy
  obtain⟨h1,h2⟩:=i _ y hy
  exact⟨h1,fun h=>h2 (List.mem_append_left _ h)⟩
theorem fre_mem {e:E} (h:Wf e):∀(bd l:List Nm) (y:Nm),y∈fre e bd l↔y∈l\/hasN y (tyA e bd) = true:=by
 induction h with
 | @atom s h =>
  intro bd l y
  simp only [fre,tyA]
  by_cases h0:s = [48]
  ·simp [h0,hasN]
  ·by_cases h1:s = [49]
   ·simp [h1,hasN]
   ·rw [if_neg h0,if_neg h1]
    by_cases h2:s∈bd
    ·cases q:lastOf s bd bd.length with
     | none=>exact absurd h2 ((lastOf_mem _ _).1 q)
     | some u=>simp [h2,hasN]
    ·rw [(lastOf_mem _ _).2 h2]
     simp only [h0,h1,h2,false_or,hasN,decide_eq_true_eq]
     by_cases h3:s∈l
     ·simp only [h3,if_true]
      exact⟨fun h=>.inl h,fun h=>by rcases h with h | rfl<;>assumption⟩
     ·simp only [h3,if_false,List.mem_append,List.mem_singleton,eq_comm]
 | plus ha hb i1 i2 =>
  intro bd l y
  rw [fre,if_neg (by decide),tyA_plus,i2,i1]
  simp [hasN,or_assoc]
 | times ha hb i1 i2 =>
  intro bd l y
  rw [fre,if_neg (by decide),tyA_times,i2,i1]
  simp [hasN,or_assoc]
 | rc hn hb i =>
  intro bd l y
  rw [fre,if_pos (show (E.atom [114,101,99]).at = [114,101,99] from rfl),tyA_rc,i]
  rfl
theorem namesOf_mem:∀(t:Ty) (out:List Nm) (y:Nm),y∈namesOf t out↔y∈out\/hasN y t = true
 | .name s,out,y=>by
  simp only [namesOf,addN,hasN,decide_eq_true_eq]
  split
  ·rename_i h; exact⟨fun h=>.inl h,fun h'=>by rcases h' with h' | rfl<;>assumption⟩
  ·simp [eq_comm]
 | .plus a b,out,y=>by rw [namesOf,namesOf_mem b,namesOf_mem a]; simp [hasN,or_assoc]
 | .times a b,out,y=>by rw [namesOf,namesOf_mem b,namesOf_mem a]; simp [hasN,or_assoc]
 | .rc a,out,y=>by rw [namesOf,namesOf_mem a]; rfl
 | .zero,out,y=>by simp [namesOf,hasN]
 | .one,out,y=>by simp [namesOf,hasN]
 | .bound k,out,y=>by simp [namesOf,hasN]
end Go.Proofs.Trees
namespace Go.Proofs.Trees
open Go Go.VL Go.RowKit
abbrev recN:Nm:=[114,101,99]
theorem at_atom' (s:Nm):(E.atom s).at = s:=rfl
def ptE (x:Nm) (u:E):E->E
 | .atom s=>if s = x then u else .atom s
 | .list [h,a,b]=>if h.at = recN then(if a.at = x then .list [h,a,b] else .list [.atom recN,a,ptE x u b]) else .list [.atom h.at,ptE x u a,ptE x u b]
 | .list l=>.list l
def usE (x:Nm):E->Nat
 | .atom s=>if s = x then 1 else 0
 | .list [h,a,b]=>if h.at = recN then(if a.at = x then 0 else usE x b) else usE x a+usE x b
 | .list _=>0
def apE (p:Nm->Prop):E->Prop
 | .atom _=>True
 | .list [h,a,b]=>(if h.at = recN then p a.at else apE p a)/\apE p b
 | .list _=>True
def cntN (x:Nm):Ty->Nat
 | .name s=>if s = x then 1 else 0
 | .plus a b=>cntN x a+cntN x b
 | .times a b=>cntN x a+cntN x b
 | .rc a=>cntN x a
 | _=>0
theorem ptE_plus (x:Nm) (u a b:E):ptE x u (.list [.atom [43],a,b]) = .list [.atom [43],ptE x u a,ptE x u b]:=by rw [ptE,if_neg (by decide)]; rfl
theorem ptE_times (x:Nm) (u a b:E):ptE x u (.list [.atom [42],a,b]) = .list [.atom [42],ptE x u a,ptE x u b]:=by rw [ptE,if_neg (by decide)]; rfl
theorem ptE_rc (x:Nm) (u:E) (n:Nm) (b:E):ptE x u (.list [.atom recN,.atom n,b]) = if n = x then .list [.atom recN,.atom n,b] else .list [.atom recN,.atom n,ptE x u b]:=by rw [ptE,if_pos (at_atom' _)]; rfl
theorem usE_plus (x:Nm) (a b:E):usE x (.list [.atom [43],a,b]) = usE x a+usE x b:=by rw [usE,if_neg (by decide)]
theorem usE_times (x:Nm) (a b:E):usE x (.list [.atom [42],a,b]) = usE x a+usE x b:=by rw [usE,if_neg (by decide)]
theorem usE_rc (x:Nm) (n:Nm) (b:E):usE x (.list [.atom recN,.atom n,b]) = if n = x then 0 else usE x b:=by rw [usE,if_pos (at_atom' _)]; rfl
theorem apE_plus (p:Nm->Prop) (a b:E):apE p (.list [.atom [43],a,b])↔apE p a/\apE p b:=by rw [apE,if_neg (by decide)]
theorem apE_times (p:Nm->Prop) (a b:E):apE p (.list [.atom [42],a,b])↔apE p a/\apE p b:=by rw [apE,if_neg (by decide)]
theorem apE_rc (p:Nm->Prop) (n:Nm) (b:E):apE p (.list [.atom recN,.atom n,b])↔p n/\apE p b:=by rw [apE,if_pos (at_atom' _)]; rfl
theorem apE_mono {p q:Nm->Prop} (h:∀n,p n->q n) {e:E} (hw:Wf e):apE p e->apE q e:=by
 induction hw with
 | atom _=>exact fun _=>trivial
 | plus _ _ i1 i2=>rw [apE_plus,apE_plus]; exact fun g=>⟨i1 g.1,i2 g.2⟩
 | times _ _ i1 i2=>rw [apE_times,apE_times]; exact fun g=>⟨i1 g.1,i2 g.2⟩
 | rc _ _ i=>rw [apE_rc,apE_rc]; exact fun g=>⟨h _ g.1,i g.2⟩
theorem tyA_atom_name {s:Nm} (hs:okN s) {ar:List Nm} (h:s ∉ ar):tyA (.atom s) ar = .name s:=by
 simp only [tyA]; rw [if_neg hs.2.1,if_neg hs.2.2,(lastOf_mem s ar).2 h]
theorem tyA_put {x:Nm} (hx:okN x) {u:E} (hu:Wf u) {e:E} (h:Wf e):apE (fun n=>n≠x/\hasN n (tyA u []) = false) e->∀ar,x ∉ ar->(∀y,y∈ar->hasN y (tyA u []) = false)->Wf (ptE x u e)/\tyA (ptE x u e) ar = sub x (tyA u []) (tyA e ar):=by
 induction h with
 | @atom s hs =>
  intro _ ar har hy
  by_cases e:s = x
  ·subst e
   have:tyA u (ar++[]) = tyA u []:=tyA_pre ar hu [] fun y hy' hm=>by rw [hy y hm] at hy'; cases hy'
   rw [List.append_nil] at this
   rw [tyA_atom_name hx har]
   simp only [ptE,sub,if_true]
   exact⟨hu,this⟩
  ·simp only [ptE,if_neg e]
   refine⟨.atom hs,?_⟩
   simp only [tyA]
   split
   ·rfl
   ·split
    ·rfl
    ·split
     ·rfl
     ·simp only [sub,if_neg e]
 | plus ha hb i1 i2 =>
  intro hap ar har hy
  rw [apE_plus] at hap
  obtain⟨w1,e1⟩:=i1 hap.1 ar har hy
  obtain⟨w2,e2⟩:=i2 hap.2 ar har hy
  rw [ptE_plus,tyA_plus,tyA_plus,e1,e2]
  exact⟨.plus w1 w2,rfl⟩
 | times ha hb i1 i2 =>
  intro hap ar har hy
  rw [apE_times] at hap
  obtain⟨w1,e1⟩:=i1 hap.1 ar har hy
  obtain⟨w2,e2⟩:=i2 hap.2 ar har hy
  rw [ptE_times,tyA_times,tyA_times,e1,e2]
  exact⟨.times w1 w2,rfl⟩
 | @rc n b hn hb i =>
  intro hap ar har hy
  rw [apE_rc] at hap
  obtain⟨w1,e1⟩:=i hap.2 (ar++[n]) (by
   simp only [List.mem_append,List.mem_singleton]
   rintro(h | h)
   ·exact har h
   ·exact hap.1.1 h.symm) (fun y hm=>by
   simp only [List.mem_append,List.mem_singleton] at hm
   rcases hm with hm | rfl
   ·exact hy y hm
   ·exact hap.1.2)
  rw [ptE_rc,if_neg hap.1.1,tyA_rc,tyA_rc]
  refine⟨.rc hn w1,?_⟩
  show Ty.rc (tyA (ptE x u b) (ar++[n])) = _
  rw [e1]; rfl
theorem usE_cnt {x:Nm} (hx:okN x) {e:E} (h:Wf e):∀ar,cntN x (tyA e ar) = if x∈ar then 0 else usE x e:=by
 induction h with
 | @atom s hs =>
  intro ar
  by_cases e:s = x
  ·subst e
   by_cases hm:s∈ar
   ·rw [if_pos hm]
    simp only [tyA]; rw [if_neg hx.2.1,if_neg hx.2.2]
    cases q:lastOf s ar ar.length with
    | none=>exact absurd hm ((lastOf_mem _ _).1 q)
    | some u=>rfl
   ·rw [if_neg hm,tyA_atom_name hx hm]; simp [cntN,usE]
  ·have:cntN x (tyA (.atom s) ar) = 0:=by
    simp only [tyA]
    split
    ·rfl
    ·split
     ·rfl
     ·split
      ·rfl
      ·simp [cntN,e]
   rw [this]; simp [usE,e]
 | plus ha hb i1 i2=>intro ar; rw [tyA_plus,usE_plus,cntN,i1,i2]; split<;>simp
 | times ha hb i1 i2=>intro ar; rw [tyA_times,usE_times,cntN,i1,i2]; split<;>simp
 | @rc n b hn hb i =>
  intro ar
  rw [tyA_rc,usE_rc,cntN,i]
  simp only [at_atom',List.mem_append,List.mem_singleton]
  by_cases h1:x∈ar
  ·simp [h1]
  ·by_cases h2:x = n
   ·simp [h2]
   ·simp [h1,h2,Ne.symm h2]
theorem sub_atoms_eq (x:Nm) (u:Ty):∀t:Ty,(sub x u t).atoms+cntN x t = t.atoms+cntN x t*u.atoms
 | .name s=>by simp only [sub,cntN]; split<;>simp [Ty.atoms]; omega
 | .plus a b=>by have:=sub_atoms_eq x u a; have:=sub_atoms_eq x u b; simp only [sub,Ty.atoms,cntN,Nat.add_mul]; omega
 | .times a b=>by have:=sub_atoms_eq x u a; have:=sub_atoms_eq x u b; simp only [sub,Ty.atoms,cntN,Nat.add_mul]; omega
 | .rc a=>by have:=sub_atoms_eq x u a; simp only [sub,Ty.atoms,cntN]; omega
 | .zero=>by simp [sub,cntN]
 | .one=>by simp [sub,cntN]
 | .bound k=>by simp [sub,cntN]
abbrev tN (m:Nat):Nm:=116::dd m
theorem dd_ne (m:Nat):dd m≠[]:=by
 by_cases h:m < 10
 ·rw [dd_one h]; simp
 ·rw [dd_more h]; simp
theorem dd_inj:∀(n m k:Nat),m < n->dd m = dd k->m = k
 | 0,m,k,h,_=>by omega
 | n+1,m,k,h,e=>by
  have d10:∀{a b:Nat},a < 10->b < 10->UInt8.ofNat (48+a) = UInt8.ofNat (48+b)->a = b:=fun {a b} ha hb h=>by
   have:=congrArg UInt8.toNat h
   simp only [UInt8.toNat_ofNat'] at this
   omega
  by_cases h1:m < 10<;>by_cases h2:k < 10
  ·rw [dd_one h1,dd_one h2] at e
   simp only [List.cons.injEq,and_true] at e
   exact d10 h1 h2 e
  ·rw [dd_one h1,dd_more h2] at e
   have:=congrArg List.length e
   have:dd (k / 10) = []:=by
    apply List.eq_nil_of_length_eq_zero
    simp at this; simpa using this
   exact absurd this (dd_ne _)
  ·rw [dd_more h1,dd_one h2] at e
   have:=congrArg List.length e
   have:dd (m / 10) = []:=by
    apply List.eq_nil_of_length_eq_zero
    simp at this; simpa using this
   exact absurd this (dd_ne _)
  ·rw [dd_more h1,dd_more h2] at e
   obtain⟨e1,e2⟩:=List.append_inj' e rfl
   have:=dd_inj n (m / 10) (k / 10) (by omega) e1
   simp only [List.cons.injEq,and_true] at e2
   have:=d10 (Nat.mod_lt _ (by omega)) (Nat.mod_lt _ (by omega)) e2
   omega
theorem tN_inj {m k:Nat} (h:tN m = tN k):m = k:=dd_inj (m+1) m k (by omega) (List.cons.inj h).2
theorem tN_ok (m:Nat):okN (tN m):=⟨by simp,by simp,by simp⟩
theorem pig:∀(l F:List Nm),l.Nodup->(∀x,x∈l->x∈F)->l.length<=F.length
 | [],_,_,_=>Nat.zero_le _
 | x::l,F,hn,hs=>by
  obtain⟨h1,h2⟩:=List.nodup_cons.1 hn
  have hx:=hs x List.mem_cons_self
  have:=pig l (F.erase x) h2 fun y hy=>(List.mem_erase_of_ne (fun e=>h1 (by rw [<-e]; exact hy))).2 (hs y (List.mem_cons_of_mem _ hy))
  rw [List.length_erase_of_mem hx] at this
  have:0 < F.length:=List.length_pos_of_mem hx
  simp only [List.length_cons]; omega
def nxt (F:List Nm):Nat->Nat->Nat
 | 0,k=>k
 | n+1,k=>if tN k∈F then nxt F n (k+1) else k
theorem nxt_spec (F:List Nm):∀(n k:Nat),k<=nxt F n k/\nxt F n k<=k+n/\(∀j,k<=j->j < nxt F n k->tN j∈F)/\(nxt F n k < k+n->tN (nxt F n k) ∉ F)
 | 0,k=>⟨Nat.le_refl _,Nat.le_refl _,fun j h1 h2=>by simp only [nxt] at h2; omega,fun h=>by simp only [nxt] at h; omega⟩
 | n+1,k=>by
  rw [nxt]
  split
  ·rename_i hm
   obtain⟨h1,h2,h3,h4⟩:=nxt_spec F n (k+1)
   refine⟨by omega,by omega,fun j hj hl=>?_,fun h=>h4 (by omega)⟩
   by_cases e:j = k
   ·subst e; exact hm
   ·exact h3 j (by omega) hl
  ·rename_i hm
   exact⟨Nat.le_refl _,by omega,fun j h1 h2=>by omega,fun _=>hm⟩
def nx (F:List Nm) (k:Nat):Nat:=nxt F (F.length+1) k
theorem nx_spec (F:List Nm) (k:Nat):k<=nx F k/\nx F k<=k+F.length/\(∀j,k<=j->j < nx F k->tN j∈F)/\tN (nx F k) ∉ F:=by
 obtain⟨h1,h2,h3,h4⟩:=nxt_spec F (F.length+1) k
 have hlt:nx F k < k+(F.length+1):=by
  rcases Nat.lt_or_ge (nx F k) (k+(F.length+1)) with h | h
  ·exact h
  ·exfalso
   have:=pig ((List.range' k (F.length+1)).map tN) F (by
    refine List.Pairwise.map _ (fun a b hab e=>hab (tN_inj e)) List.nodup_range') (fun x hx=>by
    obtain⟨j,hj,rfl⟩:=List.mem_map.1 hx
    obtain⟨i,hi,rfl⟩:=List.mem_range'.1 hj
    exact h3 _ (by omega) (by show _ < nx F k; omega))
   simp at this
   omega
 exact⟨h1,by unfold nx at hlt |-; omega,h3,h4 hlt⟩
theorem nx_congr {F F':List Nm} (h:∀y,y∈F↔y∈F') (k:Nat):nx F k = nx F' k:=by
 obtain⟨a1,a2,a3,a4⟩:=nx_spec F k
 obtain⟨b1,b2,b3,b4⟩:=nx_spec F' k
 rcases Nat.lt_trichotomy (nx F k) (nx F' k) with hl | he | hl
 ·exact absurd ((h _).2 (b3 _ a1 hl)) a4
 ·exact he
 ·exact absurd ((h _).1 (a3 _ b1 hl)) b4
def cnT (F:List Nm):Ty->List Nm->Nat->E×Nat
 | .zero,_,k=>(.atom [48],k)
 | .one,_,k=>(.atom [49],k)
 | .name s,_,k=>(.atom s,k)
 | .bound u,to,k=>(.atom (nmAt to u),k)
 | .plus a b,to,k=>(.list [.atom [43],(cnT F a to k).1,(cnT F b to (cnT F a to k).2).1],(cnT F b to (cnT F a to k).2).2)
 | .times a b,to,k=>(.list [.atom [42],(cnT F a to k).1,(cnT F b to (cnT F a to k).2).1],(cnT F b to (cnT F a to k).2).2)
 | .rc a,to,k=>(.list [.atom recN,.atom (tN (nx F k)),(cnT F a (to++[tN (nx F k)]) (nx F k+1)).1],(cnT F a (to++[tN (nx F k)]) (nx F k+1)).2)
theorem cnT_congr {F F':List Nm} (h:∀y,y∈F↔y∈F'):∀(t:Ty) (to:List Nm) (k:Nat),cnT F t to k = cnT F' t to k
 | .zero,_,_=>rfl
 | .one,_,_=>rfl
 | .name _,_,_=>rfl
 | .bound _,_,_=>rfl
 | .plus a b,to,k=>by simp only [cnT]; rw [cnT_congr h a,cnT_congr h b]
 | .times a b,to,k=>by simp only [cnT]; rw [cnT_congr h a,cnT_congr h b]
 | .rc a,to,k=>by simp only [cnT]; rw [nx_congr h,cnT_congr h a]
def lcT:Ty->Nat->Prop
 | .bound u,i=>u < i
 | .plus a b,i=>lcT a i/\lcT b i
 | .times a b,i=>lcT a i/\lcT b i
 | .rc a,i=>lcT a (i+1)
 | _,_=>True
theorem tyA_lc {e:E} (h:Wf e):∀ar,lcT (tyA e ar) ar.length:=by
 induction h with
 | @atom s hs =>
  intro ar
  simp only [tyA]
  split
  ·trivial
  ·split
   ·trivial
   ·split
    ·rename_i u q; exact(lastOf_at _ _ (Nat.le_refl _) q).1
    ·trivial
 | plus ha hb i1 i2=>intro ar; rw [tyA_plus]; exact⟨i1 ar,i2 ar⟩
 | times ha hb i1 i2=>intro ar; rw [tyA_times]; exact⟨i1 ar,i2 ar⟩
 | @rc n b hn hb i =>
  intro ar; rw [tyA_rc]
  have:=i (ar++[(E.atom n).at])
  rw [List.length_append] at this
  exact this
structure Gn (F to:List Nm) (k:Nat):Prop where
 out:∀w,w∈to->w ∉ F
 lt:∀w,w∈to->∃j,j < k/\w = tN j
 nd:to.Nodup
theorem Gn.nil (F:List Nm) (k:Nat):Gn F [] k:=⟨fun _ h=>(by cases h),fun _ h=>(by cases h),by simp⟩
theorem Gn.mono {F to:List Nm} {k k':Nat} (h:Gn F to k) (hk:k<=k'):Gn F to k':=⟨h.out,fun w hw=>by obtain⟨j,h1,h2⟩:=h.lt w hw; exact⟨j,by omega,h2⟩,h.nd⟩
theorem Gn.push {F to:List Nm} {k:Nat} (h:Gn F to k):Gn F (to++[tN (nx F k)]) (nx F k+1):=by
 obtain⟨h1,h2,h3,h4⟩:=nx_spec F k
 refine⟨fun w hw=>?_,fun w hw=>?_,?_⟩
 ·rcases List.mem_append.1 hw with hw | hw
  ·exact h.out w hw
  ·simp only [List.mem_singleton] at hw; rw [hw]; exact h4
 ·rcases List.mem_append.1 hw with hw | hw
  ·obtain⟨j,g1,g2⟩:=h.lt w hw; exact⟨j,by omega,g2⟩
  ·simp only [List.mem_singleton] at hw; exact⟨_,by omega,hw⟩
 ·refine List.nodup_append.2 ⟨h.nd,by simp,fun a ha b hb e=>?_⟩
  simp only [List.mem_singleton] at hb
  obtain⟨j,g1,g2⟩:=h.lt a ha
  rw [e,hb] at g2
  have:=tN_inj g2
  omega
theorem lastOf_nodup {to:List Nm} (hn:to.Nodup) {u:Nat} (hu:u < to.length):lastOf (nmAt to u) to to.length = some u:=by
 have hm:nmAt to u∈to:=by
  unfold nmAt
  have:to.length - 1 - u < to.length:=by omega
  simp [List.getD_eq_getElem?_getD,this]
 cases q:lastOf (nmAt to u) to to.length with
 | none=>exact absurd hm ((lastOf_mem _ _).1 q)
 | some v =>
  obtain⟨h1,h2⟩:=lastOf_at _ _ (Nat.le_refl _) q
  unfold nmAt at h2
  have e1:to.length - 1 - v < to.length:=by omega
  have e2:to.length - 1 - u < to.length:=by omega
  rw [List.getD_eq_getElem?_getD,List.getD_eq_getElem?_getD,List.getElem?_eq_getElem e1,List.getElem?_eq_getElem e2] at h2
  have hp:=List.pairwise_iff_getElem.1 hn
  have h3:to[to.length - 1 - v] = to[to.length - 1 - u]:=by simpa using h2
  rcases Nat.lt_trichotomy (to.length - 1 - v) (to.length - 1 - u) with hl | he | hl
  ·exact absurd h3 (hp _ _ e1 e2 hl)
  ·congr 1; omega
  ·exact absurd h3.symm (hp _ _ e2 e1 hl)
theorem cnT_ok (F:List Nm):∀(t:Ty) (to:List Nm) (k:Nat),Gn F to k->lcT t to.length->(∀y,hasN y t = true->y∈F/\okN y) ->
  Wf (cnT F t to k).1/\tyA (cnT F t to k).1 to = t/\k<=(cnT F t to k).2/\(cnT F t to k).2<=k+(F.length+1)*t.atoms/\apE (· ∉ F) (cnT F t to k).1
 | .zero,to,k,_,_,_=>⟨.atom (by simp),rfl,Nat.le_refl _,Nat.le_add_right _ _,trivial⟩
 | .one,to,k,_,_,_=>⟨.atom (by simp),rfl,Nat.le_refl _,Nat.le_add_right _ _,trivial⟩
 | .name s,to,k,g,hl,hn=>by
  obtain⟨h1,h2⟩:=hn s (by simp [hasN])
  exact⟨.atom h2.1,tyA_atom_name h2 (fun h=>g.out s h h1),Nat.le_refl _,Nat.le_add_right _ _,trivial⟩
 | .bound u,to,k,g,hl,hn=>by
  have hm:nmAt to u∈to:=by
   unfold nmAt
   have:to.length - 1 - u < to.length:=by have:u < to.length:=hl; omega
   simp [List.getD_eq_getElem?_getD,this]
  obtain⟨j,_,e⟩:=g.lt _ hm
  have hok:okN (nmAt to u):=by rw [e]; exact tN_ok j
  refine⟨.atom hok.1,?_,Nat.le_refl _,Nat.le_add_right _ _,trivial⟩
  simp only [cnT,tyA]
  rw [if_neg hok.2.1,if_neg hok.2.2,lastOf_nodup g.nd hl]
 | .plus a b,to,k,g,hl,hn=>by
  obtain⟨a1,a2,a3,a4,a5⟩:=cnT_ok F a to k g hl.1 fun y hy=>hn y (by simp [hasN,hy])
  obtain⟨b1,b2,b3,b4,b5⟩:=cnT_ok F b to _ (g.mono a3) hl.2 fun y hy=>hn y (by simp [hasN,hy])
  simp only [cnT,tyA_plus,a2,b2,apE_plus,Ty.atoms]
  refine⟨.plus a1 b1,trivial,by omega,?_,a5,b5⟩
  have:(F.length+1)*(1+a.atoms+b.atoms) = (F.length+1)+(F.length+1)*a.atoms+(F.length+1)*b.atoms:=by simp only [Nat.mul_add,Nat.mul_one]
  omega
 | .times a b,to,k,g,hl,hn=>by
  obtain⟨a1,a2,a3,a4,a5⟩:=cnT_ok F a to k g hl.1 fun y hy=>hn y (by simp [hasN,hy])
  obtain⟨b1,b2,b3,b4,b5⟩:=cnT_ok F b to _ (g.mono a3) hl.2 fun y hy=>hn y (by simp [hasN,hy])
  simp only [cnT,tyA_times,a2,b2,apE_times,Ty.atoms]
  refine⟨.times a1 b1,trivial,by omega,?_,a5,b5⟩
  have:(F.length+1)*(1+a.atoms+b.atoms) = (F.length+1)+(F.length+1)*a.atoms+(F.length+1)*b.atoms:=by simp only [Nat.mul_add,Nat.mul_one]
  omega
 | .rc a,to,k,g,hl,hn=>by
  obtain⟨h1,h2,h3,h4⟩:=nx_spec F k
  obtain⟨a1,a2,a3,a4,a5⟩:=cnT_ok F a (to++[tN (nx F k)]) (nx F k+1) g.push (by rw [List.length_append]; exact hl) hn
  simp only [cnT,tyA_rc,at_atom',a2,apE_rc,Ty.atoms]
  refine⟨.rc (tN_ok _) a1,trivial,by omega,?_,h4,a5⟩
  have:(F.length+1)*(2+a.atoms) = (F.length+1)*2+(F.length+1)*a.atoms:=by simp only [Nat.mul_add]
  omega
end Go.Proofs.Trees
namespace Go.Proofs.Trees
open Go Go.VL Go.RowKit
inductive EnvA:AV->List Nat->Prop
 | nil:EnvA nilp []
 | cons {m:Nat} {cs:List AV} {e:AV} {ids:List Nat} (hm:m ∉ ids) (h:EnvA e ids):EnvA (.ptr [.pid m cs,e]) (m::ids)
theorem EnvA.has {a:AV} {ids:List Nat} (h:EnvA a ids):LK.has .ptr a:=by
 cases h
 ·exact(has_nil).mpr trivial
 ·exact(has_ptr _).mpr trivial
theorem EnvA.inM {M:Mem} {a:AV} {ids:List Nat} (h:EnvA a ids):∀{v:Value},Rep M noLo a v->∀b,b∈ids->M.p b:=by
 induction h with
 | nil=>intro v _ b hb; cases hb
 | @cons m cs e ids hm h ih =>
  intro v hr b hb
  cases hr with
  | ptr _ _ _ off us hc hr =>
   have h0:=hr 0 (by simp)
   have h1:=hr 1 (by simp)
   simp only [List.getD_cons_zero,List.getD_cons_succ] at h0 h1
   rcases List.mem_cons.1 hb with rfl | hb
   ·generalize us 0 = u0 at h0
    cases h0 with
    | pid _ _ _ us hp _ _=>exact hp
   ·exact ih h1 b hb
theorem EnvA.nodup {a:AV} {ids:List Nat} (h:EnvA a ids):ids.Nodup:=by
 induction h with
 | nil=>simp
 | cons hm h ih=>exact List.nodup_cons.2 ⟨hm,ih⟩
theorem TI_inside (a b:AV) (S:Nat->Prop) (R:AV->Prop):mainI tab cfg fd_impl_closure_inside (bodyOf fd_impl_closure_inside) [.agg [.x a,.x b]] S (fun o=>Nat.beq o 7) R =
  .need (LK.has .ptr a/\a.isNil = false) (.need (LK.has .ptr a/\a.isNil = false) (.need (LK.has .ptr ((a.deref.drop 3).headD .any)/\1<=(a.deref.drop 3).length)
   (.need (∀ids:Nat->Nat,(∀o,¬ S (ids o))->(True/\R (.tup [.agg [(a.deref.drop 3).headD .any,.ptr [.pid (ids 7) [a,b],b]],.pid (ids 7) [a,b]]))) (.done 0 [] [])))):=by kernel_rfl
def InR (t:Ty) (ea:AV) (ids:List Nat):AV->List Ob->Prop:=fun r o=>(∃m,m ∉ ids/\r = .tup [.agg [t.av,.ptr [.pid m [(Ty.rc t).av,ea],ea]],.pid m [(Ty.rc t).av,ea]])/\o = []
theorem InR.ne (t:Ty) (ea:AV) (ids:List Nat):∃r o,InR t ea ids r o:=by
 have:∃m,m ∉ ids:=⟨ids.foldr max 0+1,fun h=>by
  have key:∀(l:List Nat) (x:Nat),x∈l->x<=l.foldr max 0:=by
   intro l
   induction l with
   | nil=>intro x hx; cases hx
   | cons y l ih =>
    intro x hx
    rcases List.mem_cons.1 hx with rfl | hx
    ·simp only [List.foldr_cons]; omega
    ·have:=ih x hx; simp only [List.foldr_cons]; omega
  have:=key _ _ h
  omega⟩
 obtain⟨m,hm⟩:=this
 exact⟨_,_,⟨m,hm,rfl⟩,rfl⟩
theorem Sq2p (t:Ty) (ea:AV) (ids:List Nat) (he:EnvA ea ids):FSpec Tryz.prog 93 [.agg [(Ty.rc t).av,ea]] [] (InR t ea ids):=by
 have hup:UpL [.agg [(Ty.rc t).av,ea]] [.agg [.x (Ty.rc t).av,.x ea]]:=up_cons (up_agg (up_cons (up_ptr ((ty_has _).mpr trivial)) (up_cons (up_ptr he.has) up_nil))) up_nil
 refine FSpec.up hup ?_
 refine FSpec.ofI (cfg:=cfg) (F:=fd_impl_closure_inside) (S:=fun b=>b∈ids) (sel:=fun o=>Nat.beq o 7) tab_ok mixed (by kernel_rfl) (by kernel_rfl) (c:=bodyOf fd_impl_closure_inside) (by kernel_rfl) (by kernel_rfl) (fun M β vs hr b hb=>?_) ?_
 ·have h0:=hr 0 (by simp)
  simp only [List.getD_cons_zero] at h0
  obtain⟨us,_,hl,hq,_⟩:=rep_agg h0
  have h1:=hq 1 (by simp at hl |-)
  simp only [List.getD_cons_succ,List.getD_cons_zero] at h1
  cases h1 with
  | x _ _ _ _ h=>exact he.inM h b hb
 ·rw [TI_inside]
  simp only [Ty.av,↓zq,zs,hasK,ty_has]
  exact⟨by omega,fun ids' hf=>⟨ids' 7,hf 7,rfl⟩⟩
theorem Lq80 (u:Nat) (hu:u < 1000000):∀(k i:Nat) (ea:AV) (ids:List Nat),i+k = u->EnvA ea ids->k<=ids.length->Lq2i [ea,.v (.int .i64 (u:Int)),.v (.int .i64 (i:Int))] [] (fun t ys o=>t = 1/\∃e',EnvA e' (ids.drop k)/\ys = [e']/\o = [])
 | 0,i,ea,ids,hi,he,hk=>by
  refine Gq2o _ _ _ ?_
  have:i = u:=by omega
  subst this
  simp only [rq1s,↓zq,zs,hasK]
  exact⟨he.has,fun h=>by omega,fun _=>⟨ea,he,rfl⟩⟩
 | k+1,i,ea,ids,hi,he,hk=>by
  refine Gq2o _ _ _ ?_
  cases he with
  | nil=>simp at hk
  | @cons m cs e ids' hm h =>
   simp only [rq1s,↓zq,zs,hasK,h.has]
   refine⟨fun _=>⟨by omega,?_⟩,fun h=>by omega⟩
   rw [wrap_succ i (by omega)]
   exact Lq80 u hu k (i+1) e ids' (by omega) h (by simpa using hk)
theorem Sqhm (u:Nat) (ea:AV) (ids:List Nat) (he:EnvA ea ids) (hu:u < ids.length) (hl:ids.length < 1000000):FSpec Tryz.prog 153 [.agg [(Ty.bound u).av,ea]] [] (fun r o=>(∃cs,r = .pid (ids.getD u 0) cs)/\o = []):=by
 refine Fq8o _ _ ((ty_has _).mpr trivial) he.has ?_
 simp only [tq2y,Ty.av,↓zq,zs,hasK,he.has]
 refine⟨by omega,wpt_loop (Lq80 u (by omega) u 0 ea ids (by omega) he (by omega)) ?_ (fun ys o h=>by cases h.1)⟩
 rintro ys o ⟨_,e',he',rfl,rfl⟩
 have hd:ids.drop u = ids.getD u 0::ids.drop (u+1):=by
  rw [List.drop_eq_getElem_cons hu]; simp [List.getD_eq_getElem?_getD,hu]
 rw [hd] at he'
 cases he' with
 | @cons m cs e ids' hm h =>
  have hp:LK.has .ptr (AV.pid (ids.getD u 0) cs):=.inr (.inr ⟨_,_,rfl⟩)
  simp only [↓zq,zs,hasK,hp]
  exact⟨by omega,cs,rfl⟩
inductive TgA:Tg->List Nat->List UInt8->AV->Prop
 | nm (s:List UInt8) (ids:List Nat):TgA (.nm s) ids s nilp
 | bd {k:Nat} {ids:List Nat} (hk:k < ids.length) (cs:List AV) (s:List UInt8):TgA (.bd k) ids s (.pid (ids.getD k 0) cs)
theorem TgA.has {tg:Tg} {ids:List Nat} {s:List UInt8} {fr:AV} (h:TgA tg ids s fr):LK.has .ptr fr:=by
 cases h
 ·exact(has_nil).mpr trivial
 ·exact .inr (.inr ⟨_,_,rfl⟩)
theorem TgA.push {tg:Tg} {ids:List Nat} {s:List UInt8} {fr:AV} (h:TgA tg ids s fr) (m:Nat):TgA tg.up (m::ids) s fr:=by
 cases h with
 | nm=>exact .nm _ _
 | @bd k _ hk cs =>
  have:=TgA.bd (k:=k+1) (ids:=m::ids) (by simpa using hk) cs s
  simpa [Tg.up] using this
theorem nodup_inj {ids:List Nat} (h:ids.Nodup) {i j:Nat} (hi:i < ids.length) (hj:j < ids.length) (he:ids.getD i 0 = ids.getD j 0):i = j:=by
 have e1:ids.getD i 0 = ids[i]:=by simp [List.getD_eq_getElem?_getD,hi]
 have e2:ids.getD j 0 = ids[j]:=by simp [List.getD_eq_getElem?_getD,hj]
 rw [e1,e2] at he
 have hp:=List.pairwise_iff_getElem.1 h
 rcases Nat.lt_trichotomy i j with hlt | rfl | hlt
 ·exact absurd he (hp i j hi hj hlt)
 ·rfl
 ·exact absurd he.symm (hp j i hj hi hlt)
theorem Sqju (t:Ty) (tg:Tg) (ea:AV) (ids:List Nat) (s:List UInt8) (fr:AV) (he:EnvA ea ids) (ht:TgA tg ids s fr) (hu:∀u,t = .bound u->u < ids.length) (hl:ids.length < 1000000) :
  FSpec Tryz.prog 124 [.agg [.v (.string (mk s)),fr],.agg [t.av,ea]] [] (Det (.v (.bool (isAt t tg)))):=by
 refine Fqgu _ _ _ _ ht.has ((ty_has _).mpr trivial) he.has ?_
 cases ht with
 | nm s =>
  cases t<;>simp [tq2m,Ty.av,↓zq,zs,hasK,zt,Det,isAt]
  rw [Bool.eq_iff_iff]; simp
 | @bd k _ hk cs s =>
  generalize hm0:ids.getD k 0 = m0
  have hp:LK.has .ptr (AV.pid m0 cs):=.inr (.inr ⟨_,_,rfl⟩)
  have hn:(AV.pid m0 cs).isNil = false:=rfl
  cases t with
  | bound u =>
   have hu:=hu u rfl
   simp only [tq2m,Ty.av,↓zq,zs,hasK,hp,hn]
   refine⟨fun _=>⟨by omega,fun _=>?_,fun h=>absurd rfl h⟩,fun h=>by cases h⟩
   have hb:=Sqhm u ea ids he hu hl
   simp only [Ty.av] at hb
   refine wp_call hb ⟨_,_,⟨[],rfl⟩,rfl⟩ ?_
   rintro r o ⟨⟨cs',rfl⟩,rfl⟩
   have hp':LK.has .ptr (AV.pid (ids.getD u 0) cs'):=.inr (.inr ⟨_,_,rfl⟩)
   simp only [↓zq,zs,hasK,hp',AV.idOk,AV.idEq,Det,isAt]
   congr 2
   rw [Bool.eq_iff_iff,Nat.beq_eq,decide_eq_true_eq,<-hm0]
   exact⟨fun h=>nodup_inj he.nodup hu hk h,fun h=>by rw [h]⟩
  | _=>simp [tq2m,Ty.av,↓zq,zs,hasK,hp,hn,Det,isAt]
end Go.Proofs.Trees
namespace Go.Proofs.Trees
open Go Go.VL Go.RowKit
theorem Sq7 (b:Int) (a:AV) (h:LK.ptr.has a):FSpec Tryz.prog 115 [.v (.int .u8 b),a] [] (Det (.ptr [.v (.int .u8 b),.v (.string (mk [])),a,nilp])):=by
 refine Fqgs _ _ h ?_
 simp [tq9s,↓zq,zs,hasK,Det]
end Go.Proofs.Trees
namespace Go.Proofs.Trees
open Go Go.VL Go.RowKit
def hAV (l:List Hl):List (List AV):=l.map fun h=>[h.1.iav,h.2.iav]
theorem hAV_len (l:List Hl):(hAV l).length = l.length:=by simp [hAV]
theorem hAV_get {l:List Hl} {i:Nat} (hi:i < l.length):(hAV l).getD i [] = [(l[i]).1.iav,(l[i]).2.iav]:=by simp [hAV,List.getD_eq_getElem?_getD,hi]
theorem hAV_one (out:List Hl) (a b:Vl):hAV out++[[a.iav,b.iav]] = hAV (out++[(a,b)]):=by simp [hAV]
theorem inC_drop (g:Vl->Vl) (l:List Hl) {i:Nat} (hi:i < l.length):inC g (l.drop i) = (g (l[i]).1,(l[i]).2)::inC g (l.drop (i+1)):=by
 rw [List.drop_eq_getElem_cons hi]; rfl
theorem inC_len (g:Vl->Vl) (l:List Hl):(inC g l).length = l.length:=by simp [inC]
theorem len2 (a b:AV):allLen 2 [[a,b]]:=fun c hc=>by simp at hc; rw [hc]; rfl
theorem Lqbi (x0:AV) (hx0:LK.ptr.has x0) (g:Vl->Vl) (hg:∀c:Vl,FSpec Tryz.prog 128 [c.iav,.ref 0 0] [.cells [x0]] (DetO (g c).iav [.cells [x0]])) (l:List Hl):∀(k i:Nat) (out:List Hl),i+k = l.length->out.length+k<=1000000->l.length<=1000000 ->
  Lq6h [.sl (hAV l),.v (.int .i64 (l.length:Int)),.v (.int .i64 (i:Int))] [.cells [x0],.cells [.any],.vec 2 (hAV out)] (LIs 1 [] [.cells [x0],.cells [.any],.vec 2 (hAV (out++inC g (l.drop i)))])
 | 0,i,out,hi,ho,hl=>by
  refine Gqbt _ _ _ _ _ ?_
  have:i = l.length:=by omega
  subst this
  simp only [rq36,↓zq,zs,hasK,hAV_len,hx0]
  exact⟨fun h=>by omega,fun _=>by simp [LIs,inC]⟩
 | k+1,i,out,hi,ho,hl=>by
  have hlt:i < l.length:=by omega
  refine Gqbt _ _ _ _ _ ?_
  simp only [rq36,↓zq,zs,hasK,zt,hAV_len,hAV_get hlt,vl_has,hasL,hx0]
  refine⟨fun _=>⟨by omega,by omega,?_⟩,fun h=>by omega⟩
  refine wp_detO (hg _) ?_
  simp only [↓zq,zs,hasK,vl_has,hasC,Det,DetO,hx0]
  refine⟨⟨len2 _ _,by omega⟩,?_⟩
  rw [wrap_succ i (by omega)]
  have:=Lqbi x0 hx0 g hg l k (i+1) (out++[(g (l[i]).1,(l[i]).2)]) (by omega) (by simp; omega) hl
  rw [List.append_assoc] at this
  rw [inC_drop g l hlt,hAV_one]
  exact this
theorem Sq82 (x0:AV) (hx0:LK.ptr.has x0) (g:Vl->Vl) (hg:∀c:Vl,FSpec Tryz.prog 128 [c.iav,.ref 0 0] [.cells [x0]] (DetO (g c).iav [.cells [x0]])) (l out:List Hl) (hl:out.length+l.length<=1000000) :
  FSpec Tryz.prog 125 [.sl (hAV l),.fn 128 [.ref 0 0],.ref 1 0] [.cells [x0],.cells [.vec 2],.vec 2 (hAV out)] (DetO .any [.cells [x0],.cells [.vec 2],.vec 2 (hAV (out++inC g l))]):=by
 refine Fqgk _ _ _ ((has_sl _).mpr trivial) hx0 ?_
 simp only [tqdb,↓zq,zs,hasK,hAV_len]
 have h:=Lqbi x0 hx0 g hg l l.length 0 out (by omega) (by omega) (by omega)
 rw [List.drop_zero] at h
 refine wp_loop1 h ?_
 simp [↓zq,zs,hasK,DetO,hasC,hx0]
theorem Lqaf (x0:AV) (hx0:LK.ptr.has x0) (g:Vl->Vl) (hg:∀c:Vl,FSpec Tryz.prog 129 [c.iav,.ref 0 0] [.cells [x0]] (DetO (g c).iav [.cells [x0]])) (l:List Hl):∀(k i:Nat) (out:List Hl),i+k = l.length->out.length+k<=1000000->l.length<=1000000 ->
  Lq5h [.sl (hAV l),.v (.int .i64 (l.length:Int)),.v (.int .i64 (i:Int))] [.cells [x0],.cells [.any],.vec 2 (hAV out)] (LIs 1 [] [.cells [x0],.cells [.any],.vec 2 (hAV (out++inC g (l.drop i)))])
 | 0,i,out,hi,ho,hl=>by
  refine Gqfc _ _ _ _ _ ?_
  have:i = l.length:=by omega
  subst this
  simp only [rq6p,↓zq,zs,hasK,hAV_len,hx0]
  exact⟨fun h=>by omega,fun _=>by simp [LIs,inC]⟩
 | k+1,i,out,hi,ho,hl=>by
  have hlt:i < l.length:=by omega
  refine Gqfc _ _ _ _ _ ?_
  simp only [rq6p,↓zq,zs,hasK,zt,hAV_len,hAV_get hlt,vl_has,hasL,hx0]
  refine⟨fun _=>⟨by omega,by omega,?_⟩,fun h=>by omega⟩
  refine wp_detO (hg _) ?_
  simp only [↓zq,zs,hasK,vl_has,hasC,Det,DetO,hx0]
  refine⟨⟨len2 _ _,by omega⟩,?_⟩
  rw [wrap_succ i (by omega)]
  have:=Lqaf x0 hx0 g hg l k (i+1) (out++[(g (l[i]).1,(l[i]).2)]) (by omega) (by simp; omega) hl
  rw [List.append_assoc] at this
  rw [inC_drop g l hlt,hAV_one]
  exact this
theorem Sqhs (x0:AV) (hx0:LK.ptr.has x0) (g:Vl->Vl) (hg:∀c:Vl,FSpec Tryz.prog 129 [c.iav,.ref 0 0] [.cells [x0]] (DetO (g c).iav [.cells [x0]])) (l out:List Hl) (hl:out.length+l.length<=1000000) :
  FSpec Tryz.prog 125 [.sl (hAV l),.fn 129 [.ref 0 0],.ref 1 0] [.cells [x0],.cells [.vec 2],.vec 2 (hAV out)] (DetO .any [.cells [x0],.cells [.vec 2],.vec 2 (hAV (out++inC g l))]):=by
 refine Fqhy _ _ _ ((has_sl _).mpr trivial) hx0 ?_
 simp only [tq9f,↓zq,zs,hasK,hAV_len]
 have h:=Lqaf x0 hx0 g hg l l.length 0 out (by omega) (by omega) (by omega)
 rw [List.drop_zero] at h
 refine wp_loop1 h ?_
 simp [↓zq,zs,hasK,DetO,hasC,hx0]
theorem Lqbj (x0:AV) (hx0:LK.ptr.has x0) (g:Vl->Vl) (hg:∀c:Vl,FSpec Tryz.prog 131 [c.iav,.ref 0 0] [.cells [x0]] (DetO (g c).iav [.cells [x0]])) (l:List Hl):∀(k i:Nat) (out:List Hl),i+k = l.length->out.length+k<=1000000->l.length<=1000000 ->
  Lq67 [.sl (hAV l),.v (.int .i64 (l.length:Int)),.v (.int .i64 (i:Int))] [.cells [x0],.cells [.any],.vec 2 (hAV out)] (LIs 1 [] [.cells [x0],.cells [.any],.vec 2 (hAV (out++inC g (l.drop i)))])
 | 0,i,out,hi,ho,hl=>by
  refine Gqdj _ _ _ _ _ ?_
  have:i = l.length:=by omega
  subst this
  simp only [rq66,↓zq,zs,hasK,hAV_len,hx0]
  exact⟨fun h=>by omega,fun _=>by simp [LIs,inC]⟩
 | k+1,i,out,hi,ho,hl=>by
  have hlt:i < l.length:=by omega
  refine Gqdj _ _ _ _ _ ?_
  simp only [rq66,↓zq,zs,hasK,zt,hAV_len,hAV_get hlt,vl_has,hasL,hx0]
  refine⟨fun _=>⟨by omega,by omega,?_⟩,fun h=>by omega⟩
  refine wp_detO (hg _) ?_
  simp only [↓zq,zs,hasK,vl_has,hasC,Det,DetO,hx0]
  refine⟨⟨len2 _ _,by omega⟩,?_⟩
  rw [wrap_succ i (by omega)]
  have:=Lqbj x0 hx0 g hg l k (i+1) (out++[(g (l[i]).1,(l[i]).2)]) (by omega) (by simp; omega) hl
  rw [List.append_assoc] at this
  rw [inC_drop g l hlt,hAV_one]
  exact this
theorem Sqh8 (x0:AV) (hx0:LK.ptr.has x0) (g:Vl->Vl) (hg:∀c:Vl,FSpec Tryz.prog 131 [c.iav,.ref 0 0] [.cells [x0]] (DetO (g c).iav [.cells [x0]])) (l out:List Hl) (hl:out.length+l.length<=1000000) :
  FSpec Tryz.prog 125 [.sl (hAV l),.fn 131 [.ref 0 0],.ref 1 0] [.cells [x0],.cells [.vec 2],.vec 2 (hAV out)] (DetO .any [.cells [x0],.cells [.vec 2],.vec 2 (hAV (out++inC g l))]):=by
 refine Fqhb _ _ _ ((has_sl _).mpr trivial) hx0 ?_
 simp only [tqfr,↓zq,zs,hasK,hAV_len]
 have h:=Lqbj x0 hx0 g hg l l.length 0 out (by omega) (by omega) (by omega)
 rw [List.drop_zero] at h
 refine wp_loop1 h ?_
 simp [↓zq,zs,hasK,DetO,hasC,hx0]
theorem Lqdn (g:Vl->Vl) (hg:∀c:Vl,FSpec Tryz.prog 132 [c.iav] [] (Det (g c).iav)) (l:List Hl):∀(k i:Nat) (out:List Hl),i+k = l.length->out.length+k<=1000000->l.length<=1000000 ->
  Lq4p [.v (.func (.func 132) #[] #[]),.sl (hAV l),.v (.int .i64 (l.length:Int)),.v (.int .i64 (i:Int))] [.cells [.any],.vec 2 (hAV out)] (LIs 1 [] [.cells [.any],.vec 2 (hAV (out++inC g (l.drop i)))])
 | 0,i,out,hi,ho,hl=>by
  refine Gqak _ _ _ _ ?_
  have:i = l.length:=by omega
  subst this
  simp only [rq30,↓zq,zs,hasK,hAV_len]
  exact⟨fun h=>by omega,fun _=>by simp [LIs,inC]⟩
 | k+1,i,out,hi,ho,hl=>by
  have hlt:i < l.length:=by omega
  refine Gqak _ _ _ _ ?_
  simp only [rq30,↓zq,zs,hasK,zt,hAV_len,hAV_get hlt,vl_has,hasL]
  refine⟨fun _=>⟨by omega,by omega,?_⟩,fun h=>by omega⟩
  refine wp_det (hg _) ?_
  simp only [↓zq,zs,hasK,vl_has,hasC,Det,DetO]
  refine⟨⟨len2 _ _,by omega⟩,?_⟩
  rw [wrap_succ i (by omega)]
  have:=Lqdn g hg l k (i+1) (out++[(g (l[i]).1,(l[i]).2)]) (by omega) (by simp; omega) hl
  rw [List.append_assoc] at this
  rw [inC_drop g l hlt,hAV_one]
  exact this
theorem Sqhi (g:Vl->Vl) (hg:∀c:Vl,FSpec Tryz.prog 132 [c.iav] [] (Det (g c).iav)) (l out:List Hl) (hl:out.length+l.length<=1000000) :
  FSpec Tryz.prog 125 [.sl (hAV l),.v (.func (.func 132) #[] #[]),.ref 0 0] [.cells [.vec 1],.vec 2 (hAV out)] (DetO .any [.cells [.vec 1],.vec 2 (hAV (out++inC g l))]):=by
 refine Fqhq _ _ ((has_sl _).mpr trivial) ?_
 simp only [tqdc,↓zq,zs,hasK,hAV_len]
 have h:=Lqdn g hg l l.length 0 out (by omega) (by omega) (by omega)
 rw [List.drop_zero] at h
 refine wp_loop1 h ?_
 simp [↓zq,zs,hasK,DetO,hasC]
theorem Lqbh (x0:AV) (x1:AV) (hx0:LK.ptr.has x0) (hx1:LK.ptr.has x1) (g:Vl->Vl) (hg:∀c:Vl,FSpec Tryz.prog 133 [c.iav,.ref 0 0] [.cells [x0,x1]] (DetO (g c).iav [.cells [x0,x1]])) (l:List Hl):∀(k i:Nat) (out:List Hl),i+k = l.length->out.length+k<=1000000->l.length<=1000000 ->
  Lq6s [.sl (hAV l),.v (.int .i64 (l.length:Int)),.v (.int .i64 (i:Int))] [.cells [x0,x1],.cells [.any],.vec 2 (hAV out)] (LIs 1 [] [.cells [x0,x1],.cells [.any],.vec 2 (hAV (out++inC g (l.drop i)))])
 | 0,i,out,hi,ho,hl=>by
  refine Gqem _ _ _ _ _ _ ?_
  have:i = l.length:=by omega
  subst this
  simp only [rq57,↓zq,zs,hasK,hAV_len,hx0,hx1]
  exact⟨fun h=>by omega,fun _=>by simp [LIs,inC]⟩
 | k+1,i,out,hi,ho,hl=>by
  have hlt:i < l.length:=by omega
  refine Gqem _ _ _ _ _ _ ?_
  simp only [rq57,↓zq,zs,hasK,zt,hAV_len,hAV_get hlt,vl_has,hasL,hx0,hx1]
  refine⟨fun _=>⟨by omega,by omega,?_⟩,fun h=>by omega⟩
  refine wp_detO (hg _) ?_
  simp only [↓zq,zs,hasK,vl_has,hasC,Det,DetO,hx0,hx1]
  refine⟨⟨len2 _ _,by omega⟩,?_⟩
  rw [wrap_succ i (by omega)]
  have:=Lqbh x0 x1 hx0 hx1 g hg l k (i+1) (out++[(g (l[i]).1,(l[i]).2)]) (by omega) (by simp; omega) hl
  rw [List.append_assoc] at this
  rw [inC_drop g l hlt,hAV_one]
  exact this
theorem Sqh4 (x0:AV) (x1:AV) (hx0:LK.ptr.has x0) (hx1:LK.ptr.has x1) (g:Vl->Vl) (hg:∀c:Vl,FSpec Tryz.prog 133 [c.iav,.ref 0 0] [.cells [x0,x1]] (DetO (g c).iav [.cells [x0,x1]])) (l out:List Hl) (hl:out.length+l.length<=1000000) :
  FSpec Tryz.prog 125 [.sl (hAV l),.fn 133 [.ref 0 0],.ref 1 0] [.cells [x0,x1],.cells [.vec 2],.vec 2 (hAV out)] (DetO .any [.cells [x0,x1],.cells [.vec 2],.vec 2 (hAV (out++inC g l))]):=by
 refine Fqke _ _ _ _ ((has_sl _).mpr trivial) hx0 hx1 ?_
 simp only [tqby,↓zq,zs,hasK,hAV_len]
 have h:=Lqbh x0 x1 hx0 hx1 g hg l l.length 0 out (by omega) (by omega) (by omega)
 rw [List.drop_zero] at h
 refine wp_loop1 h ?_
 simp [↓zq,zs,hasK,DetO,hasC,hx0,hx1]
theorem Sqk4 (w c:Vl):FSpec Tryz.prog 128 [c.iav,.ref 0 0] [.cells [(Vl.l w).iav]] (DetO (Vl.l c).iav [.cells [(Vl.l w).iav]]):=by
 refine Fq7e _ _ ((vl_has _).mpr trivial) ((vl_has _).mpr trivial) ?_
 simp only [tq3l,Vl.iav,↓zq,zs,hasK,vl_has]
 refine⟨by omega,?_⟩
 refine wp_det (Sq7 _ _ ((vl_has _).mpr trivial)) ?_
 simp [↓zq,zs,hasK,DetO,Vl.iav]
theorem Sqgp (w c:Vl):FSpec Tryz.prog 128 [c.iav,.ref 0 0] [.cells [(Vl.r w).iav]] (DetO (Vl.r c).iav [.cells [(Vl.r w).iav]]):=by
 refine Fq7e _ _ ((vl_has _).mpr trivial) ((vl_has _).mpr trivial) ?_
 simp only [tq3l,Vl.iav,↓zq,zs,hasK,vl_has]
 refine⟨by omega,?_⟩
 refine wp_det (Sq7 _ _ ((vl_has _).mpr trivial)) ?_
 simp [↓zq,zs,hasK,DetO,Vl.iav]
theorem Sqjy (x y c:Vl):FSpec Tryz.prog 129 [c.iav,.ref 0 0] [.cells [(Vl.p x y).iav]] (DetO (Vl.l (.p c y)).iav [.cells [(Vl.p x y).iav]]):=by
 refine Fqiz _ _ ((vl_has _).mpr trivial) ((vl_has _).mpr trivial) ?_
 simp only [tqal,Vl.iav,↓zq,zs,hasK,vl_has]
 refine⟨by omega,?_⟩
 refine wp_det (Sq1d _ _ ((vl_has _).mpr trivial) ((vl_has _).mpr trivial)) ?_
 simp only [↓zq,zs,hasK]
 refine wp_det (Sq7 _ _ ((has_ptr _).mpr trivial)) ?_
 simp [↓zq,zs,hasK,DetO,Vl.iav]
theorem Sqie (x y c:Vl):FSpec Tryz.prog 131 [c.iav,.ref 0 0] [.cells [(Vl.p x y).iav]] (DetO (Vl.r (.p x c)).iav [.cells [(Vl.p x y).iav]]):=by
 refine Fqjr _ _ ((vl_has _).mpr trivial) ((vl_has _).mpr trivial) ?_
 simp only [tqfa,Vl.iav,↓zq,zs,hasK,vl_has]
 refine⟨by omega,?_⟩
 refine wp_det (Sq1d _ _ ((vl_has _).mpr trivial) ((vl_has _).mpr trivial)) ?_
 simp only [↓zq,zs,hasK]
 refine wp_det (Sq7 _ _ ((has_ptr _).mpr trivial)) ?_
 simp [↓zq,zs,hasK,DetO,Vl.iav]
theorem Sqgh (kc kv c:Vl):FSpec Tryz.prog 133 [c.iav,.ref 0 0] [.cells [kc.iav,kv.iav]] (DetO (Vl.f (.r (.p kc c))).iav [.cells [kc.iav,kv.iav]]):=by
 refine Fqh9 _ _ _ ((vl_has _).mpr trivial) ((vl_has _).mpr trivial) ((vl_has _).mpr trivial) ?_
 simp only [tqfd,Vl.iav,↓zq,zs,hasK,vl_has]
 refine wp_det (Sq1d _ _ ((vl_has _).mpr trivial) ((vl_has _).mpr trivial)) ?_
 simp only [↓zq,zs,hasK]
 refine wp_det (Sq7 _ _ ((has_ptr _).mpr trivial)) ?_
 simp only [↓zq,zs,hasK]
 refine wp_det (Sq7 _ _ ((has_ptr _).mpr trivial)) ?_
 simp [↓zq,zs,hasK,DetO,Vl.iav,vl_has]
theorem Sqgf (c:Vl):FSpec Tryz.prog 132 [c.iav] [] (Det (Vl.f (.l c)).iav):=by
 refine Fqho _ ((vl_has _).mpr trivial) ?_
 simp only [tqc0,↓zq,zs,hasK]
 refine wp_det (Sq7 _ _ ((vl_has _).mpr trivial)) ?_
 simp only [↓zq,zs,hasK]
 refine wp_det (Sq7 _ _ ((has_ptr _).mpr trivial)) ?_
 simp [↓zq,zs,hasK,Det,Vl.iav]
end Go.Proofs.Trees
namespace Go.Proofs.Trees
open Go Go.VL Go.RowKit
abbrev chn (a:Ty) (tg:Tg):Hl->List Hl:=fun h=>inC (fun c=>.f (.r (.p h.1 c))) (holes (.rc a) tg h.2)
theorem hl_eta (l:List Hl) {i:Nat} (hi:i < l.length):l[i]∈l:=List.getElem_mem _
def IHo (t:Ty) (ea:AV) (s:List UInt8) (fr:AV) (tg:Tg) (v:Vl):Prop:=FSpec Tryz.prog 94 [.agg [t.av,ea],v.iav,.agg [.v (.string (mk s)),fr]] [] (Det (.sl (hAV (holes t tg v))))
theorem Lqfi (a:Ty) (ea:AV) (s:List UInt8) (fr:AV) (tg:Tg) (he:LK.ptr.has ea) (hf:LK.ptr.has fr) (l:List Hl) (hl:l.length<=1000000) (ih:∀h,h∈l->IHo (.rc a) ea s fr tg h.2) :
  ∀(k i:Nat) (out:List Hl),i+k = l.length->(out++(l.drop i).flatMap (chn a tg)).length<=1000000 ->
  Lq5m [.sl (hAV l),.v (.int .i64 (l.length:Int)),.v (.int .i64 (i:Int))] [.cells [(Ty.rc a).av,ea],.cells [.v (.string (mk s)),fr],.cells [.any],.vec 2 (hAV out)] (LIs 1 [] [.cells [.any],.vec 2 (hAV (out++(l.drop i).flatMap (chn a tg)))])
 | 0,i,out,hi,ho=>by
  refine Gqdu _ _ _ _ _ _ _ _ ?_
  have:i = l.length:=by omega
  subst this
  simp only [rq2x,↓zq,zs,hasK,hAV_len,ty_has,he,hf]
  exact⟨fun h=>by omega,fun _=>by simp [LIs]⟩
 | k+1,i,out,hi,ho=>by
  have hlt:i < l.length:=by omega
  have hd:(l.drop i).flatMap (chn a tg) = chn a tg (l[i])++(l.drop (i+1)).flatMap (chn a tg):=by rw [List.drop_eq_getElem_cons hlt,List.flatMap_cons]
  rw [hd] at ho |-
  refine Gqdu _ _ _ _ _ _ _ _ ?_
  simp only [rq2x,↓zq,zs,hasK,zt,hAV_len,hAV_get hlt,ty_has,vl_has,hasL,he,hf]
  refine⟨fun _=>⟨by omega,by omega,?_⟩,fun h=>by omega⟩
  refine wp_det (ih _ (hl_eta l hlt)) ?_
  simp only [↓zq,zs,hasK]
  have hb:out.length+(holes (.rc a) tg (l[i]).2).length<=1000000:=by
   simp only [List.length_append,inC_len] at ho; omega
  refine wp_detO (Sqh4 _ _ ((vl_has _).mpr trivial) ((vl_has _).mpr trivial) (fun c=>.f (.r (.p (l[i]).1 c))) (fun c=>Sqgh (l[i]).1 (l[i]).2 c) (holes (.rc a) tg (l[i]).2) out hb) ?_
  simp only [↓zq,zs,hasK,hasC,vl_has]
  rw [wrap_succ i (by omega),<-List.append_assoc]
  exact Lqfi a ea s fr tg he hf l hl ih k (i+1) _ (by omega) (by rw [List.append_assoc]; exact ho)
end Go.Proofs.Trees
