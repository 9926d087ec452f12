/-
  Part of a proof: Go functions read by values, trees of functions, their contracts.
-/
import Derived.Test.YtphdaefkjfbfoaaDoorP3
import Derived.Shelf.Lays
import Derived.Shelf.LaysM
import Derived.Shelf.Strconv.Itoa3
import Derived.Shelf.Strings.SlTrimAscii
import Derived.Shelf.Strings.Search3
import Derived.Test.YtphdaefkjfbfoaaDoorProg
import Derived.Lib.Atoi
set_option linter.unusedVariables false
set_option linter.unusedSimpArgs false
open And renaming intro→ax
open Bool renaming and_eq_true→ag,eq_iff_iff→cC,or_assoc→bZ,or_eq_true→aY,true_and→bY
open ByteArray renaming extract→br,size→ae,toList→al
open Int renaming tmod→cF,toNat→bw
open List renaming all_cons→bK,any_eq_true→bi,cons_append→bh,drop_eq_nil_of_le→bV,getD_cons_zero→bc,getD_eq_getElem?_getD→aa,getElem?_eq_getElem→bb,length_append→ah,length_cons→aj,length_drop→bn,length_nil→aD,map_cons→bj,mem_append→aN,mem_append_left→ap,mem_cons→aE,mem_cons_of_mem→af,mem_cons_self→ac,mem_map→bu,mem_singleton→bq,nil_append→bp,takeWhile_append_dropWhile→bf
open Nat renaming le_add_right→bL,le_refl→aw,lt_of_lt_of_le→bQ,mod_lt→cD,mul_add→cy,zero_add→aR
open Option renaming bind_eq_some_iff→bO,map_some→bR
open UInt8 renaming ofNat→aX
namespace Go.Proofs
open Go.Shelf
def Tryd.pP:Go.Shelf.Ren:=⟨fun|160=>44|232=>62|231=>61|227=>63|234=>65|233=>64|236=>67|235=>66|228=>73|271=>76|151=>75|197=>74|120=>85|152=>84|260=>83|137=>92|119=>93|224=>81|225=>80|217=>79|266=>90|n=>n,fun|9=>9|4=>4|3=>3|5=>5|117=>92|116=>91|0=>0|124=>95|21=>21|105=>98|46=>104|119=>115|139=>118|138=>117|n=>n,fun|3=>1|4=>2|n=>n⟩
theorem Tryd.xc:Go.Proofs.Lays.n160 Tryd.prog Tryd.pP:={
 mixed:=by kernel_rfl,
 f119:=Tryd.func93.trans (congrArg some (by kernel_rfl)),
 f120:=Tryd.func85.trans (congrArg some (by kernel_rfl)),
 f137:=Tryd.func92.trans (congrArg some (by kernel_rfl)),
 f151:=Tryd.func75.trans (congrArg some (by kernel_rfl)),
 f152:=Tryd.func84.trans (congrArg some (by kernel_rfl)),
 f160:=Tryd.func44.trans (congrArg some (by kernel_rfl)),
 f197:=Tryd.func74.trans (congrArg some (by kernel_rfl)),
 f217:=Tryd.func79.trans (congrArg some (by kernel_rfl)),
 f224:=Tryd.func81.trans (congrArg some (by kernel_rfl)),
 f225:=Tryd.func80.trans (congrArg some (by kernel_rfl)),
 f227:=Tryd.func63.trans (congrArg some (by kernel_rfl)),
 f228:=Tryd.func73.trans (congrArg some (by kernel_rfl)),
 f231:=Tryd.func61.trans (congrArg some (by kernel_rfl)),
 f232:=Tryd.func62.trans (congrArg some (by kernel_rfl)),
 f233:=Tryd.func64.trans (congrArg some (by kernel_rfl)),
 f234:=Tryd.func65.trans (congrArg some (by kernel_rfl)),
 f235:=Tryd.func66.trans (congrArg some (by kernel_rfl)),
 f236:=Tryd.func67.trans (congrArg some (by kernel_rfl)),
 f260:=Tryd.func83.trans (congrArg some (by kernel_rfl)),
 f266:=Tryd.func90.trans (congrArg some (by kernel_rfl)),
 f271:=Tryd.func76.trans (congrArg some (by kernel_rfl)),
 t0:=Tryd.underlying0,
 a0:=Tryd.isAgg0,
 z0:=Tryd.sizeOf0,
 v0:=Tryd.zeroValue0,
 t3:=Tryd.underlying3,
 a3:=Tryd.isAgg3,
 z3:=Tryd.sizeOf3,
 v3:=Tryd.zeroValue3,
 t4:=Tryd.underlying4,
 a4:=Tryd.isAgg4,
 z4:=Tryd.sizeOf4,
 v4:=Tryd.zeroValue4,
 t5:=Tryd.underlying5,
 a5:=Tryd.isAgg5,
 z5:=Tryd.sizeOf5,
 v5:=Tryd.zeroValue5,
 t9:=Tryd.underlying9,
 a9:=Tryd.isAgg9,
 z9:=Tryd.sizeOf9,
 v9:=Tryd.zeroValue9,
 t21:=Tryd.underlying21,
 a21:=Tryd.isAgg21,
 z21:=Tryd.sizeOf21,
 v21:=Tryd.zeroValue21,
 t46:=Tryd.underlying104,
 a46:=Tryd.isAgg104,
 z46:=Tryd.sizeOf104,
 v46:=Tryd.zeroValue104,
 t105:=Tryd.underlying98,
 a105:=Tryd.isAgg98,
 z105:=Tryd.sizeOf98,
 v105:=Tryd.zeroValue98,
 t116:=Tryd.underlying91,
 a116:=Tryd.isAgg91,
 z116:=Tryd.sizeOf91,
 t117:=Tryd.underlying92,
 a117:=Tryd.isAgg92,
 z117:=Tryd.sizeOf92,
 v117:=Tryd.zeroValue92,
 t119:=Tryd.underlying115,
 a119:=Tryd.isAgg115,
 z119:=Tryd.sizeOf115,
 t124:=Tryd.underlying95,
 a124:=Tryd.isAgg95,
 z124:=Tryd.sizeOf95,
 v124:=Tryd.zeroValue95,
 t138:=Tryd.underlying117,
 a138:=Tryd.isAgg117,
 z138:=Tryd.sizeOf117,
 v138:=Tryd.zeroValue117,
 t139:=Tryd.underlying118,
 a139:=Tryd.isAgg118,
 z139:=Tryd.sizeOf118,
 v139:=Tryd.zeroValue118,
 g3:=by kernel_rfl,
 g4:=by kernel_rfl}
def Tryd.pG:Go.Shelf.Ren:=⟨fun|144=>43|143=>60|219=>72|217=>79|225=>80|224=>81|267=>82|266=>90|314=>91|n=>n,fun|9=>9|4=>4|3=>3|5=>5|46=>104|146=>113|51=>112|n=>n,fun|1=>0|n=>n⟩
theorem Tryd.xh:Go.Proofs.Lays.n144 Tryd.prog Tryd.pG:={
 mixed:=by kernel_rfl,
 f143:=Tryd.func60.trans (congrArg some (by kernel_rfl)),
 f144:=Tryd.func43.trans (congrArg some (by kernel_rfl)),
 f217:=Tryd.func79.trans (congrArg some (by kernel_rfl)),
 f219:=Tryd.func72.trans (congrArg some (by kernel_rfl)),
 f224:=Tryd.func81.trans (congrArg some (by kernel_rfl)),
 f225:=Tryd.func80.trans (congrArg some (by kernel_rfl)),
 f266:=Tryd.func90.trans (congrArg some (by kernel_rfl)),
 f267:=Tryd.func82.trans (congrArg some (by kernel_rfl)),
 f314:=Tryd.func91.trans (congrArg some (by kernel_rfl)),
 t3:=Tryd.underlying3,
 a3:=Tryd.isAgg3,
 z3:=Tryd.sizeOf3,
 v3:=Tryd.zeroValue3,
 t4:=Tryd.underlying4,
 a4:=Tryd.isAgg4,
 z4:=Tryd.sizeOf4,
 v4:=Tryd.zeroValue4,
 t5:=Tryd.underlying5,
 a5:=Tryd.isAgg5,
 z5:=Tryd.sizeOf5,
 v5:=Tryd.zeroValue5,
 t9:=Tryd.underlying9,
 a9:=Tryd.isAgg9,
 z9:=Tryd.sizeOf9,
 v9:=Tryd.zeroValue9,
 t46:=Tryd.underlying104,
 a46:=Tryd.isAgg104,
 z46:=Tryd.sizeOf104,
 v46:=Tryd.zeroValue104,
 t51:=Tryd.underlying112,
 a51:=Tryd.isAgg112,
 z51:=Tryd.sizeOf112,
 v51:=Tryd.zeroValue112,
 t146:=Tryd.underlying113,
 a146:=Tryd.isAgg113,
 z146:=Tryd.sizeOf113,
 v146:=Tryd.zeroValue113,
 g1:=by kernel_rfl}
def Tryd.oV:Go.Shelf.Ren:=⟨fun|171=>52|243=>69|246=>77|283=>86|284=>87|285=>88|286=>89|129=>95|317=>94|318=>96|319=>97|320=>98|337=>99|338=>100|n=>n,fun|3=>3|9=>9|2=>2|4=>4|171=>106|0=>0|53=>107|37=>22|5=>5|173=>110|212=>121|51=>112|20=>20|213=>122|46=>104|232=>126|233=>127|n=>n,fun|17=>3|18=>4|19=>5|n=>n⟩
theorem Tryd.tY:Go.Proofs.LaysM.n171 Tryd.prog Tryd.oV:={
 mixed:=by kernel_rfl,
 f129:=Tryd.func95.trans (congrArg some (by kernel_rfl)),
 f171:=Tryd.func52.trans (congrArg some (by kernel_rfl)),
 f243:=Tryd.func69.trans (congrArg some (by kernel_rfl)),
 f246:=Tryd.func77.trans (congrArg some (by kernel_rfl)),
 f283:=Tryd.func86.trans (congrArg some (by kernel_rfl)),
 f284:=Tryd.func87.trans (congrArg some (by kernel_rfl)),
 f285:=Tryd.func88.trans (congrArg some (by kernel_rfl)),
 f286:=Tryd.func89.trans (congrArg some (by kernel_rfl)),
 f317:=Tryd.func94.trans (congrArg some (by kernel_rfl)),
 f318:=Tryd.func96.trans (congrArg some (by kernel_rfl)),
 f319:=Tryd.func97.trans (congrArg some (by kernel_rfl)),
 f320:=Tryd.func98.trans (congrArg some (by kernel_rfl)),
 f337:=Tryd.func99.trans (congrArg some (by kernel_rfl)),
 f338:=Tryd.func100.trans (congrArg some (by kernel_rfl)),
 t0:=Tryd.underlying0,
 a0:=Tryd.isAgg0,
 z0:=Tryd.sizeOf0,
 v0:=Tryd.zeroValue0,
 t2:=Tryd.underlying2,
 a2:=Tryd.isAgg2,
 z2:=Tryd.sizeOf2,
 v2:=Tryd.zeroValue2,
 t3:=Tryd.underlying3,
 a3:=Tryd.isAgg3,
 z3:=Tryd.sizeOf3,
 v3:=Tryd.zeroValue3,
 t4:=Tryd.underlying4,
 a4:=Tryd.isAgg4,
 z4:=Tryd.sizeOf4,
 v4:=Tryd.zeroValue4,
 t5:=Tryd.underlying5,
 a5:=Tryd.isAgg5,
 z5:=Tryd.sizeOf5,
 v5:=Tryd.zeroValue5,
 t9:=Tryd.underlying9,
 a9:=Tryd.isAgg9,
 z9:=Tryd.sizeOf9,
 v9:=Tryd.zeroValue9,
 t20:=Tryd.underlying20,
 a20:=Tryd.isAgg20,
 z20:=Tryd.sizeOf20,
 v20:=Tryd.zeroValue20,
 t37:=Tryd.underlying22,
 a37:=Tryd.isAgg22,
 z37:=Tryd.sizeOf22,
 v37:=Tryd.zeroValue22,
 t46:=Tryd.underlying104,
 a46:=Tryd.isAgg104,
 z46:=Tryd.sizeOf104,
 v46:=Tryd.zeroValue104,
 t51:=Tryd.underlying112,
 a51:=Tryd.isAgg112,
 z51:=Tryd.sizeOf112,
 v51:=Tryd.zeroValue112,
 t53:=Tryd.underlying107,
 a53:=Tryd.isAgg107,
 z53:=Tryd.sizeOf107,
 v53:=Tryd.zeroValue107,
 t171:=Tryd.underlying106,
 a171:=Tryd.isAgg106,
 z171:=Tryd.sizeOf106,
 v171:=Tryd.zeroValue106,
 t173:=Tryd.underlying110,
 a173:=Tryd.isAgg110,
 z173:=Tryd.sizeOf110,
 v173:=Tryd.zeroValue110,
 t212:=Tryd.underlying121,
 a212:=Tryd.isAgg121,
 z212:=Tryd.sizeOf121,
 v212:=Tryd.zeroValue121,
 t213:=Tryd.underlying122,
 a213:=Tryd.isAgg122,
 z213:=Tryd.sizeOf122,
 t232:=Tryd.underlying126,
 a232:=Tryd.isAgg126,
 z232:=Tryd.sizeOf126,
 v232:=Tryd.zeroValue126,
 t233:=Tryd.underlying127,
 a233:=Tryd.isAgg127,
 z233:=Tryd.sizeOf127,
 v233:=Tryd.zeroValue127,
 g17:=by kernel_rfl,
 g18:=by kernel_rfl,
 g19:=by kernel_rfl,
 i0:=by kernel_rfl,
 i2:=by kernel_rfl,
 i3:=by kernel_rfl,
 i4:=by kernel_rfl,
 i5:=by kernel_rfl,
 i9:=by kernel_rfl,
 i20:=by kernel_rfl,
 i37:=by kernel_rfl,
 i46:=by kernel_rfl,
 i51:=by kernel_rfl,
 i53:=by kernel_rfl,
 i171:=by kernel_rfl,
 i173:=by kernel_rfl,
 i212:=by kernel_rfl,
 i232:=by kernel_rfl,
 i233:=by kernel_rfl,
 m17:=by kernel_rfl,
 m18:=by kernel_rfl,
 m19:=by kernel_rfl}
end Go.Proofs
namespace Go.Proofs.Trees
open Go Go.VL
noncomputable section
def BH:List (Nat×TI):=[
 (0,⟨false,[],false,0,.tuple [],false⟩),
 (2,⟨true,[.int .i64],false,8,.num .i64,false⟩),
 (3,⟨true,[.int .i64],false,8,.num .i64,false⟩),
 (4,⟨true,[.bool],false,1,.bl,false⟩),
 (5,⟨true,[.int .u8],false,1,.num .u8,false⟩),
 (9,⟨true,[.str],false,16,.str,false⟩),
 (20,⟨true,[.oth],false,16,.other,false⟩),
 (21,⟨true,[.int .i32],false,4,.num .i32,false⟩),
 (22,⟨true,[.sl],false,24,.slice 5,false⟩),
 (24,⟨true,[.oth],false,8,.other,false⟩),
 (25,⟨false,[],false,0,.tuple [9,4],false⟩),
 (28,⟨true,[.ptr],false,8,.pt,true⟩),
 (31,⟨true,[.ptr],false,8,.pt,true⟩),
 (33,⟨true,[.sl],false,24,.slice 35,false⟩),
 (35,⟨true,[.str,.sl],true,40,.struct [(0,9),(1,33)],false⟩),
 (36,⟨false,[],false,0,.tuple [35,4],false⟩),
 (38,⟨false,[],false,0,.tuple [31,4],false⟩),
 (43,⟨true,[.sl,.int .i64],true,32,.struct [(0,22),(1,3)],false⟩),
 (46,⟨true,[.sl],false,24,.slice 9,false⟩),
 (50,⟨true,[.int .u8,.str,.int .i64,.ptr,.ptr],true,48,.struct [(0,5),(1,9),(2,3),(3,31),(4,31)],false⟩),
 (51,⟨true,[.oth],false,8,.other,false⟩),
 (53,⟨true,[.ptr],false,8,.pt,true⟩),
 (58,⟨true,[.ptr],false,8,.pt,true⟩),
 (60,⟨true,[.int .i64,.bool],true,16,.struct [(0,3),(1,4)],false⟩),
 (68,⟨false,[],false,0,.tuple [53,9],false⟩),
 (70,⟨true,[.sl],false,24,.slice 53,false⟩),
 (72,⟨true,[.str,.sl],true,40,.struct [(0,9),(1,70)],false⟩),
 (80,⟨true,[.oth],false,8,.other,false⟩),
 (85,⟨false,[],false,0,.tuple [35,3],false⟩),
 (92,⟨false,[],false,0,.tuple [91,4],false⟩),
 (95,⟨true,[.ptr],false,8,.pt,true⟩),
 (98,⟨false,[],false,0,.tuple [21,3],false⟩),
 (104,⟨true,[.int .u64],false,8,.num .u64,false⟩),
 (106,⟨true,[.int .u8,.int .u8,.int .u8,.int .u8,.int .u8,.int .u8,.int .u8,.int .u8,.int .u8,.int .u8,.int .u8,.int .u8,.int .u8,.int .u8,.int .u8,.int .u8,.int .u8,.int .u8,.int .u8,.int .u8,.int .u8,.int .u8,.int .u8,.int .u8],true,24,.array 24 5,false⟩),
 (107,⟨true,[.int .u64],false,8,.num .u64,false⟩),
 (110,⟨false,[],false,0,.tuple [22,9],false⟩),
 (112,⟨true,[.int .u32],false,4,.num .u32,false⟩),
 (113,⟨false,[],false,0,.tuple [112,112],false⟩),
 (117,⟨true,[.int .u8,.int .u8],true,2,.struct [(0,5),(1,5)],false⟩),
 (118,⟨true,[.int .u8,.int .u8,.int .u8,.int .u8,.int .u8,.int .u8,.int .u8,.int .u8,.int .u8,.int .u8,.int .u8,.int .u8,.int .u8,.int .u8,.int .u8,.int .u8,.int .u8,.int .u8,.int .u8,.int .u8,.int .u8,.int .u8,.int .u8,.int .u8,.int .u8,.int .u8,.int .u8,.int .u8,.int .u8,.int .u8,.int .u8,.int .u8],true,32,.array 16 117,false⟩),
 (121,⟨true,[.int .u64,.int .u64,.int .u64,.int .u64,.int .u64,.int .u64,.int .u64,.int .u64,.int .u64,.int .u64,.int .u64,.int .u64,.int .u64,.int .u64,.int .u64,.int .u64,.int .u64,.int .u64,.int .u64,.int .u64],true,160,.array 20 107,false⟩),
 (126,⟨true,[.int .u8,.int .u8,.int .u8,.int .u8,.int .u8,.int .u8,.int .u8,.int .u8,.int .u8,.int .u8,.int .u8,.int .u8,.int .u8,.int .u8,.int .u8,.int .u8,.int .u8,.int .u8,.int .u8,.int .u8,.int .u8,.int .u8,.int .u8,.int .u8,.int .u8,.int .u8,.int .u8,.int .u8,.int .u8,.int .u8,.int .u8,.int .u8],true,32,.array 32 5,false⟩)]
def B7(t:Nat):TI:=rn BH t
abbrev jv:Func:=Tryd.f43
abbrev lT:Func:=Tryd.f44
abbrev lR:Func:=Tryd.f52
def Cq:List (Nat×FC):=[(23,{mu:=[(1,.one (.obj [.lk .bool]))],own:=[]}),(2400022,{mu:=[(1,.fn [some (.obj [.lk .bool])])],own:=[]}),(54,{mu:=[(1,.one (.obj [.vec 1]))],own:=[]}),(5500022,{mu:=[(1,.fn [some (.obj [.vec 1])])],own:=[]}),(50,{mu:=[(2,.zi 50 [none,some 0,some 1]),(3,.one (.obj [.lk .sl])),(4,.one (.obj [.lk (.int .i64)]))],own:=[]}),(18,{mu:=[(0,.one (.obj [.lk .sl,.lk (.int .i64)]))],own:=[]}),(19,{mu:=[(0,.one (.obj [.lk .sl,.lk (.int .i64)]))],own:=[]}),(9,{mu:=[],own:=[0],ow:=[.sl,.int .i64]}),(47,{mu:=[(0,.one (.obj [.lk (.int .i64),.lk .bool]))],own:=[]}),(45,{mu:=[(0,.one (.obj [.lk (.int .i64),.lk .bool]))],own:=[]}),(30,{mu:=[(0,.one (.obj [.lk (.int .i64),.lk .bool]))],own:=[]}),(36,{mu:=[(0,.one (.obj [.lk .sl,.lk (.int .i64)]))],own:=[]}),(35,{mu:=[(0,.one (.obj [.lk .sl,.lk (.int .i64)]))],own:=[]}),(20,{mu:=[(0,.one (.obj [.lk .sl,.lk (.int .i64)]))],own:=[]}),(10,{mu:=[(0,.one (.obj [.lk .sl,.lk (.int .i64)]))],own:=[]})]
def bC(f:Nat):FC:=tE Cq f
theorem vX:(BH.all fun p=>!p.2.kn||p.2.rI Tryd.prog p.1)=true:=by kernel_rfl
theorem qG:bT Tryd.prog B7:=qb vX
theorem mixed:Tryd.prog.follows .mixedOrders=true:=by kernel_rfl
abbrev NZ(r:AV)(k:Tree):Tree:=.au (LK.has .ptr r/\r.isNil=false) k
abbrev NP(r:AV)(k:Tree):Tree:=.au (LK.has .ptr r) k
abbrev NS(r:AV)(k:Tree):Tree:=.au (LK.has .str r) k
abbrev NB(r:AV)(k:Tree):Tree:=.au (LK.has .bool r) k
abbrev NL(r:AV)(k:Tree):Tree:=.au (LK.has .sl r) k
abbrev NI(r:AV)(k:Tree):Tree:=.au (LK.has (.int .i64) r) k
abbrev fL(l:List AV)(k:Tree):Tree:=.au (LK.has .ptr (l.headD .any)/\1<=l.length) k
abbrev qj(l:List AV)(k:Tree):Tree:=.au (LK.has .str (l.headD .any)/\1<=l.length) k
abbrev tz(l:List AV)(k:Tree):Tree:=.au (LK.has .sl (l.headD .any)/\1<=l.length) k
abbrev NT(r:AV)(k:Tree):Tree:=.au (r=.dm [r.comp 0,r.comp 1]) k
abbrev NA(r:AV)(k:Tree):Tree:=.au (r=.agg r.cs/\r.cs.length=2/\dW [.str,.sl] r.cs 0) k
abbrev NE(l:List AV)(k:Tree):Tree:=.au (dW [.str,.sl] l 0/\2<=l.length) k
abbrev NG(r:AV)(i:Int)(z:Nat)(k:Tree):Tree:=.au (LK.has .sl r/\0<=i/\i<r.aT.length/\(r.aT.getD i.toNat []).length=z) k
abbrev RL:Type:=Nat->List AV->List Ob->Prop
abbrev VS(x:ByteArray):AV:=.v (.string x)
abbrev VI(x:Int):AV:=.v (.int .i64 x)
abbrev VB(x:Bool):AV:=.v (.bool x)
abbrev _root_.List.hA(l:List AV):AV:=l.headD .any
abbrev _root_.List.hO(l:List Ob):Ob:=l.headD .dead
abbrev _root_.Go.VL.AV.ix(a:AV)(i:Int):List AV:=a.aT.getD i.toNat []
abbrev eB(n:Nat)(t:Tree)(R:AV->List Ob->Prop):Prop:=dk Tryd.prog n t fun _ xs obs=>R (xs.headD .any) obs
abbrev vu(n:Nat)(t:Tree)(S:List AV->List Ob->RL->Prop)(R:RL):Prop:=dk Tryd.prog n t (vY (fun ys o=>S ys o R) R)
theorem gQ{n:Nat}{c:Code}{li:LI}{xs:List AV}{obs:List Ob}{R:RL}{t:Tree}(lis:List (Nat×LI))(h:dk Tryd.prog n t (vY (fun ys o=>cV Tryd.prog n c li ys o R) R))(e:round B7 bC n lis c li xs obs=t:=by kernel_rfl):cV Tryd.prog n c li xs obs R:=cV.Ce (bC:=bC) (lis:=lis) qG mixed e h
theorem C7(n:Nat)(t:Tree)(R:AV->List Ob->Prop):eB n t R=dk Tryd.prog n t fun _ xs obs=>R (xs.headD .any) obs:=rfl
theorem Dc(n:Nat)(t:Tree)(S:List AV->List Ob->RL->Prop)(R:RL):vu n t S R=dk Tryd.prog n t (vY (fun ys o=>S ys o R) R):=rfl
theorem Ec(x:ByteArray):VS x=.v (.string x):=rfl
theorem Et(x:Int):VI x=.v (.int .i64 x):=rfl
theorem Er(x:Bool):VB x=.v (.bool x):=rfl
theorem Eb(l:List AV):l.hA=l.headD .any:=rfl
theorem Eg(l:List Ob):l.hO=l.headD .dead:=rfl
theorem Ej(a:AV)(i:Int):a.ix i=a.aT.getD i.toNat []:=rfl
theorem oQ{f:Nat}{asq:List AV}{ins:List Ob}{R:AV->List Ob->Prop}{t:Tree}(lis:List (Nat×LI))(F:Func)(h:dk Tryd.prog F.ntmps t fun _ xs obs=>R (xs.headD .any) obs)(hf:Tryd.prog.funcs[f]?=some F:=by kernel_rfl)(hnm:(F.name=="runtime.NumGoroutine")=false:=by kernel_rfl)(e:main B7 bC lis {} F asq ins=t:=by kernel_rfl):aC Tryd.prog f asq ins R:=aC.Ce (bC:=bC) (lis:=lis) (fc:={}) qG mixed hf hnm e h
theorem oF{f:Nat}{asq:List AV}{ins:List Ob}{R:AV->List Ob->Prop}{t:Tree}(lis:List (Nat×LI))(fc:FC)(F:Func)(h:dk Tryd.prog F.ntmps t fun _ xs obs=>R (xs.headD .any) obs)(hf:Tryd.prog.funcs[f]?=some F:=by kernel_rfl)(hnm:(F.name=="runtime.NumGoroutine")=false:=by kernel_rfl)(e:main B7 bC lis fc F asq ins=t:=by kernel_rfl):aC Tryd.prog f asq ins R:=aC.Ce (bC:=bC) (lis:=lis) (fc:=fc) qG mixed hf hnm e h
theorem uQ{P:Program}{f:Nat}{asq bs:List AV}{R:AV->List Ob->Prop}(h:rj asq bs)(hf:aC P f bs [] R):aC P f asq [] R:=aC.qE cO (aC.up h hf)
theorem Ep(r:AV)(k:Tree):NZ r k=.au (LK.has .ptr r/\r.isNil=false) k:=rfl
theorem Eu(r:AV)(k:Tree):NP r k=.au (LK.has .ptr r) k:=rfl
theorem En(r:AV)(k:Tree):NS r k=.au (LK.has .str r) k:=rfl
theorem Ef(r:AV)(k:Tree):NB r k=.au (LK.has .bool r) k:=rfl
theorem El(r:AV)(k:Tree):NL r k=.au (LK.has .sl r) k:=rfl
theorem Es(r:AV)(k:Tree):NI r k=.au (LK.has (.int .i64) r) k:=rfl
theorem Dr(l:List AV)(k:Tree):fL l k=.au (LK.has .ptr (l.headD .any)/\1<=l.length) k:=rfl
theorem Dm(l:List AV)(k:Tree):qj l k=.au (LK.has .str (l.headD .any)/\1<=l.length) k:=rfl
theorem DE(l:List AV)(k:Tree):tz l k=.au (LK.has .sl (l.headD .any)/\1<=l.length) k:=rfl
theorem Em(r:AV)(k:Tree):NT r k=.au (r=.dm [r.comp 0,r.comp 1]) k:=rfl
theorem Ed(r:AV)(k:Tree):NA r k=.au (r=.agg r.cs/\r.cs.length=2/\dW [.str,.sl] r.cs 0) k:=rfl
theorem Eo(l:List AV)(k:Tree):NE l k=.au (dW [.str,.sl] l 0/\2<=l.length) k:=rfl
theorem Ei(r:AV)(i:Int)(z:Nat)(k:Tree):NG r i z k=.au (LK.has .sl r/\0<=i/\i<r.aT.length/\(r.aT.getD i.toNat []).length=z) k:=rfl
set_option linter.defProp false in
def zq:=ax @Ep (ax @Eu (ax @En (ax @Ef (ax @El (ax @Es (ax @Dr (ax @Dm (ax @DE (ax @Em (ax @Ed (ax @Eo (ax @Ei (ax @C7 (ax @Dc (ax @Ec (ax @Et (ax @Er ((ax @Eb (ax @Eg (ax @Ej @zp)))))))))))))))))))))
variable {R:AV->List Ob->Prop} {U:RL}
def Bn(a0:AV):Tree :=
 NL a0<|.test (decide ((a0.aT.length:Int)>(1048576:Int))) (.done 0 [VB true] []) (.call 4 [a0] [] fun r1 o1=>NS r1<|.call 5 [VS r1.ay] [] fun r2 o2=>NB r2<|.call 6 [VS r1.ay] [] fun r3 o3=>NB r3<|.test (!(r2.toBool==r3.toBool)) (.done 0 [VB (r2.toBool==r3.toBool)] []) (.test (!r2.toBool) (.done 0 [VB (r2.toBool==r3.toBool)] []) (.call 7 [VS r1.ay,VS (mk [120])] [] fun r4 o4=>NT r4<|NS (r4.comp 0)<|NB (r4.comp 1)<|.call 8 [VS r1.ay] [] fun r5 o5=>NB r5<|.test r5.toBool (.test (!((r4.comp 1).toBool)) (.done 0 [VB true] []) (.call 5 [VS ((r4.comp 0).ay)] [] fun r6 o6=>NB r6<|.done 0 [VB r6.toBool] [])) (.done 0 [VB false] []))))
theorem DA(a0:AV)(ha0:LK.has .sl a0)(h:eB 42 (Bn a0) R):aC Tryd.prog 3 [a0] [] R :=
 uQ (az (dF ha0) aS) (oQ [] Tryd.f3 h)
def BY(a0:AV):Tree :=
 .call 9 [a0] [] fun r1 o1=>.au (r1=.ref 0 0/\(o1.hO)=.cells (o1.hO).cs/\(o1.hO).cs.length=2/\dW [.sl,.int .i64] ((o1.hO).cs) 0)<|.call 10 [.ref 0 0,VI 3] [.cells [((o1.hO).cs.getD 0 .any),VI (((o1.hO).cs.getD 1 .any).toInt)]] fun r2 o2=>.au ((o2.hO)=.cells (o2.hO).cs)<|.au (aM [.lk .sl,.lk (.int .i64)] ((o2.hO).cs) 0 1 o2.tail)<|NS r2<|.done 0 [VS r2.ay] []
theorem Dq(a0:AV)(ha0:LK.has .sl a0)(h:eB 8 (BY a0) R):aC Tryd.prog 4 [a0] [] R :=
 uQ (az (dF ha0) aS) (oQ [] Tryd.f4 h)
def Bf(a0:ByteArray):Tree :=
 .call 11 [VS a0] [] fun r1 o1=>NP r1<|NP r1<|.done 0 [VB (!r1.isNil)] []
theorem DD(a0:ByteArray)(h:eB 6 (Bf a0) R):aC Tryd.prog 5 [VS a0] [] R :=
 uQ (az (aJ _) aS) (oQ [] Tryd.f5 h)
def BS(a0:ByteArray):Tree :=
 .call 12 [VS a0] [] fun r1 o1=>NT r1<|.au ((r1.comp 0)=.agg (r1.comp 0).cs/\(r1.comp 0).cs.length=2/\dW [.str,.sl] ((r1.comp 0).cs) 0)<|NB (r1.comp 1)<|.done 0 [VB ((r1.comp 1).toBool)] []
theorem DQ(a0:ByteArray)(h:eB 11 (BS a0) R):aC Tryd.prog 6 [VS a0] [] R :=
 uQ (az (aJ _) aS) (oQ [] Tryd.f6 h)
def BF(a0:ByteArray)(a1:ByteArray):Tree :=
 .call 13 [VS a0] [] fun r1 o1=>NP r1<|NP r1<|.test r1.isNil (.done 0 [.dm [VS (mk []),VB false]] []) (.call 14 [VS a1] [] fun r2 o2=>NB r2<|.test (!r2.toBool) (.done 0 [.dm [VS (mk []),VB false]] []) (.call 15 [r1,VS a1] [] fun r3 o3=>NT r3<|NP (r3.comp 0)<|NB (r3.comp 1)<|.test (!((r3.comp 1).toBool)) (.done 0 [.dm [VS (mk []),VB false]] []) (.call 16 [(r3.comp 0)] [] fun r4 o4=>NT r4<|NS (r4.comp 0)<|NB (r4.comp 1)<|.done 0 [.dm [VS ((r4.comp 0).ay),VB ((r4.comp 1).toBool)]] [])))
theorem Dk(a0:ByteArray)(a1:ByteArray)(h:eB 30 (BF a0 a1) R):aC Tryd.prog 7 [VS a0,VS a1] [] R :=
 uQ (az (aJ _) (az (aJ _) aS)) (oQ [] Tryd.f7 h)
def BB(a0:ByteArray):Tree :=
 .call 13 [VS a0] [] fun r1 o1=>NP r1<|NP r1<|.test (!r1.isNil) (.call 17 [r1] [] fun r2 o2=>NB r2<|.done 0 [VB r2.toBool] []) (.done 0 [VB false] [])
theorem C0(a0:ByteArray)(h:eB 12 (BB a0) R):aC Tryd.prog 8 [VS a0] [] R :=
 uQ (az (aJ _) aS) (oQ [] Tryd.f8 h)
def BP(a0:AV):Tree :=
 NL a0<|.test (decide ((a0.aT.length:Int)>(2000:Int))) (.au (LK.has .sl a0/\0<=(0:Int)/\(0:Int)<=(2000:Int)/\(2000:Int)<=(a0.aT.length:Int))<|.done 0 [.ref 0 0] [.cells [.sl ((a0.aT.take (bw 2000)).drop (bw 0)),VI 0]]) (.done 0 [.ref 0 0] [.cells [a0,VI 0]])
theorem Dg(a0:AV)(ha0:LK.has .sl a0)(h:eB 11 (BP a0) R):aC Tryd.prog 9 [a0] [] R :=
 uQ (az (dF ha0) aS) (oF [] {mu:=[],own:=[0],ow:=[.sl,.int .i64]} Tryd.f9 h)
def yT(a0_0:AV)(a0_1:Int)(a1:Int):Tree :=
 .test (decide (a1<=(0:Int))) (.call 19 [.ref 0 0,.sl [[VS (mk [120])],[VS (mk [49])],[VS (mk [121])],[VS (mk [120])],[VS (mk [122])],[VS (mk [48])],[VS (mk [49])]]] [.cells [a0_0,VI a0_1]] fun r1 o1=>.au ((o1.hO)=.cells (o1.hO).cs)<|.au (aM [.lk .sl,.lk (.int .i64)] ((o1.hO).cs) 0 1 o1.tail)<|NS r1<|.done 0 [VS r1.ay] [.cells [((o1.hO).cs.getD 0 .any),VI (((o1.hO).cs.getD 1 .any).toInt)]]) (.call 18 [.ref 0 0,VI 4] [.cells [a0_0,VI a0_1]] fun r2 o2=>.au ((o2.hO)=.cells (o2.hO).cs)<|.au (aM [.lk .sl,.lk (.int .i64)] ((o2.hO).cs) 0 1 o2.tail)<|NI r2<|.test (r2.toInt==(0:Int)) (.call 19 [.ref 0 0,.sl [[VS (mk [120])],[VS (mk [49])],[VS (mk [121])],[VS (mk [120])],[VS (mk [122])],[VS (mk [48])],[VS (mk [49])]]] [.cells [((o2.hO).cs.getD 0 .any),VI (((o2.hO).cs.getD 1 .any).toInt)]] fun r3 o3=>.au ((o3.hO)=.cells (o3.hO).cs)<|.au (aM [.lk .sl,.lk (.int .i64)] ((o3.hO).cs) 0 1 o3.tail)<|NS r3<|.done 0 [VS r3.ay] [.cells [((o3.hO).cs.getD 0 .any),VI (((o3.hO).cs.getD 1 .any).toInt)]]) (.call 18 [.ref 0 0,VI 24] [.cells [((o2.hO).cs.getD 0 .any),VI (((o2.hO).cs.getD 1 .any).toInt)]] fun r4 o4=>.au ((o4.hO)=.cells (o4.hO).cs)<|.au (aM [.lk .sl,.lk (.int .i64)] ((o4.hO).cs) 0 1 o4.tail)<|NI r4<|.test (r4.toInt==(0:Int)) (.call 20 [.ref 0 0] [.cells [((o4.hO).cs.getD 0 .any),VI (((o4.hO).cs.getD 1 .any).toInt)]] fun r5 o5=>.au ((o5.hO)=.cells (o5.hO).cs)<|.au (aM [.lk .sl,.lk (.int .i64)] ((o5.hO).cs) 0 1 o5.tail)<|NS r5<|.done 0 [VS r5.ay] [.cells [((o5.hO).cs.getD 0 .any),VI (((o5.hO).cs.getD 1 .any).toInt)]]) (.call 19 [.ref 0 0,.sl [[VS (mk [40,43,32])],[VS (mk [40,42,32])]]] [.cells [((o4.hO).cs.getD 0 .any),VI (((o4.hO).cs.getD 1 .any).toInt)]] fun r6 o6=>.au ((o6.hO)=.cells (o6.hO).cs)<|.au (aM [.lk .sl,.lk (.int .i64)] ((o6.hO).cs) 0 1 o6.tail)<|NS r6<|.call 10 [.ref 0 0,VI (IntKind.wrap .i64 (a1-1))] [.cells [((o6.hO).cs.getD 0 .any),VI (((o6.hO).cs.getD 1 .any).toInt)]] fun r7 o7=>.au ((o7.hO)=.cells (o7.hO).cs)<|.au (aM [.lk .sl,.lk (.int .i64)] ((o7.hO).cs) 0 1 o7.tail)<|NS r7<|.au (ae r6.ay+ae r7.ay<=9223372036854775807)<|.au (ae ((r6.ay:ByteArray)++r7.ay)+ae (mk [32])<=9223372036854775807)<|.call 10 [.ref 0 0,VI (IntKind.wrap .i64 (a1-1))] [.cells [((o7.hO).cs.getD 0 .any),VI (((o7.hO).cs.getD 1 .any).toInt)]] fun r8 o8=>.au ((o8.hO)=.cells (o8.hO).cs)<|.au (aM [.lk .sl,.lk (.int .i64)] ((o8.hO).cs) 0 1 o8.tail)<|NS r8<|.au (ae ((((r6.ay:ByteArray)++r7.ay):ByteArray)++(mk [32]))+ae r8.ay<=9223372036854775807)<|.au (ae ((((((r6.ay:ByteArray)++r7.ay):ByteArray)++(mk [32])):ByteArray)++r8.ay)+ae (mk [41])<=9223372036854775807)<|.done 0 [VS ((((((((r6.ay:ByteArray)++r7.ay):ByteArray)++(mk [32])):ByteArray)++r8.ay):ByteArray)++(mk [41]))] [.cells [((o8.hO).cs.getD 0 .any),VI (((o8.hO).cs.getD 1 .any).toInt)]])))
theorem B1(a0_0:AV)(a0_1:Int)(a1:Int)(ha0_0:LK.has .sl a0_0)(h:eB 35 (yT a0_0 a0_1 a1) R):aC Tryd.prog 10 [.ref 0 0,VI a1] [.cells [a0_0,VI a0_1]] R :=
 aC.qE (cf (cr (az (dF ha0_0) (az (aJ _) aS))) cO) (aC.up (az (aJ _) (az (aJ _) aS)) (oF [] {mu:=[(0,.one (.obj [.lk .sl,.lk (.int .i64)]))],own:=[]} Tryd.f10 h))
def Ao(a0:ByteArray):Tree :=
 .call 21 [VS a0] [] fun r1 o1=>NP r1<|NP r1<|.test r1.isNil (.done 0 [.v (.pointer none)] []) (.call 22 [r1,.fn 23 [.ref 0 0]] [.cells [VB true]] fun r2 o2=>.au ((o2.hO)=.cells (o2.hO).cs)<|.au (aM [.lk .bool] ((o2.hO).cs) 0 1 o2.tail)<|.test (!(((o2.hO).cs.getD 0 .any).toBool)) (.done 0 [.v (.pointer none)] []) (.done 0 [r1] []))
theorem DT(a0:ByteArray)(h:eB 15 (Ao a0) R):aC Tryd.prog 11 [VS a0] [] R :=
 uQ (az (aJ _) aS) (oQ [] Tryd.f11 h)
def Au(a0:ByteArray):Tree :=
 .call 24 [VS a0] [] fun r1 o1=>NT r1<|.au ((r1.comp 0)=.agg (r1.comp 0).cs/\(r1.comp 0).cs.length=2/\dW [.str,.sl] ((r1.comp 0).cs) 0)<|NB (r1.comp 1)<|.test ((r1.comp 1).toBool) (.call 25 [.agg [VS (((r1.comp 0).cs.getD 0 .any).ay),((r1.comp 0).cs.getD 1 .any)]] [] fun r2 o2=>NB r2<|.done 0 [.dm [.agg [VS (((r1.comp 0).cs.getD 0 .any).ay),((r1.comp 0).cs.getD 1 .any)],VB r2.toBool]] []) (.done 0 [.dm [.agg [VS (((r1.comp 0).cs.getD 0 .any).ay),((r1.comp 0).cs.getD 1 .any)],VB false]] [])
theorem DK(a0:ByteArray)(h:eB 17 (Au a0) R):aC Tryd.prog 12 [VS a0] [] R :=
 uQ (az (aJ _) aS) (oQ [] Tryd.f12 h)
def Be(a0:ByteArray):Tree :=
 .call 26 [VS a0] [] fun r1 o1=>NP r1<|NP r1<|.test r1.isNil (.done 0 [.v (.pointer none)] []) (.call 27 [r1,.v (.slice none 0 0)] [] fun r2 o2=>NP r2<|NP r2<|.test r2.isNil (.done 0 [.v (.pointer none)] []) (.call 28 [r2] [] fun r3 o3=>NI r3<|.test (decide (r3.toInt>(400:Int))) (.done 0 [.v (.pointer none)] []) (.done 0 [r2] [])))
theorem Cu(a0:ByteArray)(h:eB 19 (Be a0) R):aC Tryd.prog 13 [VS a0] [] R :=
 uQ (az (aJ _) aS) (oQ [] Tryd.f13 h)
def zU(a0:ByteArray):Tree :=
 .call 29 [VS a0,VS (mk [120,121,122])] [] fun r1 o1=>NB r1<|.done 0 [VB r1.toBool] []
theorem CC(a0:ByteArray)(h:eB 5 (zU a0) R):aC Tryd.prog 14 [VS a0] [] R :=
 uQ (az (aJ _) aS) (oQ [] Tryd.f14 h)
def Ai(a0:AV)(a1:ByteArray):Tree :=
 .call 30 [.ref 0 0,a0,VS a1] [.cells [VI 0,VB false]] fun r1 o1=>.au ((o1.hO)=.cells (o1.hO).cs)<|.au (aM [.lk (.int .i64),.lk .bool] ((o1.hO).cs) 0 1 o1.tail)<|NP r1<|.done 0 [.dm [r1,VB (!(((o1.hO).cs.getD 1 .any).toBool))]] []
theorem DU(a0:AV)(a1:ByteArray)(ha0:LK.has .ptr a0)(h:eB 20 (Ai a0 a1) R):aC Tryd.prog 15 [a0,VS a1] [] R :=
 uQ (az (cY ha0) (az (aJ _) aS)) (oQ [] Tryd.f15 h)
def AY(a0:AV):Tree :=
 .call 28 [a0] [] fun r1 o1=>NI r1<|.test (decide (r1.toInt>(400:Int))) (.done 0 [.dm [VS (mk []),VB false]] []) (.call 31 [a0] [] fun r2 o2=>NS r2<|.call 13 [VS r2.ay] [] fun r3 o3=>NP r3<|NP r3<|.test r3.isNil (.done 0 [.dm [VS (mk []),VB false]] []) (.done 0 [.dm [VS r2.ay,VB true]] []))
theorem DP(a0:AV)(ha0:LK.has .ptr a0)(h:eB 14 (AY a0) R):aC Tryd.prog 16 [a0] [] R :=
 uQ (az (cY ha0) aS) (oQ [] Tryd.f16 h)
def AA(a0:AV):Tree :=
 .call 33 [a0] [] fun r1 o1=>NL r1<|.call 32 [r1,.v (.func (.func 34) #[] #[])] [] fun r2 o2=>NB r2<|.done 0 [VB (!r2.toBool)] []
theorem CG(a0:AV)(ha0:LK.has .ptr a0)(h:eB 7 (AA a0) R):aC Tryd.prog 17 [a0] [] R :=
 uQ (az (cY ha0) aS) (oQ [] Tryd.f17 h)
def Ap(a0_0:AV)(a0_1:Int)(a1:Int):Tree :=
 .test (decide (a1<(1:Int))) (.done 0 [VI 0] [.cells [a0_0,VI (IntKind.wrap .i64 (a0_1+1))]]) (NL a0_0<|.test ((a0_0.aT.length:Int)==(0:Int)) (.done 0 [VI 0] [.cells [a0_0,VI (IntKind.wrap .i64 (a0_1+1))]]) (NL a0_0<|.test (decide ((IntKind.wrap .i64 ((IntKind.wrap .i64 (a0_1+1))-1))<(a0_0.aT.length:Int))) (.au (LK.has .sl a0_0/\0<=(IntKind.wrap .i64 ((IntKind.wrap .i64 (a0_1+1))-1))/\(IntKind.wrap .i64 ((IntKind.wrap .i64 (a0_1+1))-1))<a0_0.aT.length/\(a0_0.ix (IntKind.wrap .i64 ((IntKind.wrap .i64 (a0_1+1))-1))).length=1)<|.au (LK.has (.int .u8) ((a0_0.ix (IntKind.wrap .i64 ((IntKind.wrap .i64 (a0_1+1))-1))).hA)/\1<=(a0_0.ix (IntKind.wrap .i64 ((IntKind.wrap .i64 (a0_1+1))-1))).length)<|.au (¬a1=0)<|.done 0 [VI (cF (IntKind.wrap .i64 (((a0_0.ix (IntKind.wrap .i64 ((IntKind.wrap .i64 (a0_1+1))-1))).hA).toInt)) a1)] [.cells [a0_0,VI (IntKind.wrap .i64 (a0_1+1))]]) (NL a0_0<|.au (¬(a0_0.aT.length:Int)=0)<|.au (LK.has .sl a0_0/\0<=(cF (IntKind.wrap .i64 ((IntKind.wrap .i64 (a0_1+1))-1)) (a0_0.aT.length:Int))/\(cF (IntKind.wrap .i64 ((IntKind.wrap .i64 (a0_1+1))-1)) (a0_0.aT.length:Int))<a0_0.aT.length/\(a0_0.ix (cF (IntKind.wrap .i64 ((IntKind.wrap .i64 (a0_1+1))-1)) (a0_0.aT.length:Int))).length=1)<|.au (LK.has (.int .u8) ((a0_0.ix (cF (IntKind.wrap .i64 ((IntKind.wrap .i64 (a0_1+1))-1)) (a0_0.aT.length:Int))).hA)/\1<=(a0_0.ix (cF (IntKind.wrap .i64 ((IntKind.wrap .i64 (a0_1+1))-1)) (a0_0.aT.length:Int))).length)<|NL a0_0<|.au (¬(a0_0.aT.length:Int)=0)<|.au (LK.has .sl a0_0/\0<=(cF (IntKind.wrap .i64 ((IntKind.wrap .i64 ((IntKind.wrap .i64 ((IntKind.wrap .i64 (a0_1+1))-1))*7))+3)) (a0_0.aT.length:Int))/\(cF (IntKind.wrap .i64 ((IntKind.wrap .i64 ((IntKind.wrap .i64 ((IntKind.wrap .i64 (a0_1+1))-1))*7))+3)) (a0_0.aT.length:Int))<a0_0.aT.length/\(a0_0.ix (cF (IntKind.wrap .i64 ((IntKind.wrap .i64 ((IntKind.wrap .i64 ((IntKind.wrap .i64 (a0_1+1))-1))*7))+3)) (a0_0.aT.length:Int))).length=1)<|.au (LK.has (.int .u8) ((a0_0.ix (cF (IntKind.wrap .i64 ((IntKind.wrap .i64 ((IntKind.wrap .i64 ((IntKind.wrap .i64 (a0_1+1))-1))*7))+3)) (a0_0.aT.length:Int))).hA)/\1<=(a0_0.ix (cF (IntKind.wrap .i64 ((IntKind.wrap .i64 ((IntKind.wrap .i64 ((IntKind.wrap .i64 (a0_1+1))-1))*7))+3)) (a0_0.aT.length:Int))).length)<|NL a0_0<|.au (¬(a0_0.aT.length:Int)=0)<|.au (¬(64:Int)=0)<|.au (¬a1=0)<|.done 0 [VI (cF (uh .i64 (IntKind.wrap .i64 ((IntKind.wrap .i64 ((IntKind.wrap .i64 ((IntKind.wrap .i64 ((IntKind.wrap .i64 (((a0_0.ix (cF (IntKind.wrap .i64 ((IntKind.wrap .i64 (a0_1+1))-1)) (a0_0.aT.length:Int))).hA).toInt))*131))+(IntKind.wrap .i64 ((IntKind.wrap .i64 (((a0_0.ix (cF (IntKind.wrap .i64 ((IntKind.wrap .i64 ((IntKind.wrap .i64 ((IntKind.wrap .i64 (a0_1+1))-1))*7))+3)) (a0_0.aT.length:Int))).hA).toInt))*1117))))+(IntKind.wrap .i64 ((IntKind.wrap .i64 ((IntKind.wrap .i64 (a0_1+1))-1))*29))))+(IntKind.wrap .i64 ((IntKind.wrap .i64 (Int.tdiv (IntKind.wrap .i64 ((IntKind.wrap .i64 (a0_1+1))-1)) (a0_0.aT.length:Int)))*53)))) (IntKind.wrap .i64 (Int.tdiv (IntKind.wrap .i64 ((IntKind.wrap .i64 ((IntKind.wrap .i64 ((IntKind.wrap .i64 ((IntKind.wrap .i64 (((a0_0.ix (cF (IntKind.wrap .i64 ((IntKind.wrap .i64 (a0_1+1))-1)) (a0_0.aT.length:Int))).hA).toInt))*131))+(IntKind.wrap .i64 ((IntKind.wrap .i64 (((a0_0.ix (cF (IntKind.wrap .i64 ((IntKind.wrap .i64 ((IntKind.wrap .i64 ((IntKind.wrap .i64 (a0_1+1))-1))*7))+3)) (a0_0.aT.length:Int))).hA).toInt))*1117))))+(IntKind.wrap .i64 ((IntKind.wrap .i64 ((IntKind.wrap .i64 (a0_1+1))-1))*29))))+(IntKind.wrap .i64 ((IntKind.wrap .i64 (Int.tdiv (IntKind.wrap .i64 ((IntKind.wrap .i64 (a0_1+1))-1)) (a0_0.aT.length:Int)))*53)))) 64))) a1)] [.cells [a0_0,VI (IntKind.wrap .i64 (a0_1+1))]])))
theorem DM(a0_0:AV)(a0_1:Int)(a1:Int)(ha0_0:LK.has .sl a0_0)(h:eB 99 (Ap a0_0 a0_1 a1) R):aC Tryd.prog 18 [.ref 0 0,VI a1] [.cells [a0_0,VI a0_1]] R :=
 aC.qE (cf (cr (az (dF ha0_0) (az (aJ _) aS))) cO) (aC.up (az (aJ _) (az (aJ _) aS)) (oF [] {mu:=[(0,.one (.obj [.lk .sl,.lk (.int .i64)]))],own:=[]} Tryd.f18 h))
def AO(a0_0:AV)(a0_1:Int)(a1:AV):Tree :=
 NL a1<|.call 18 [.ref 0 0,VI (a1.aT.length:Int)] [.cells [a0_0,VI a0_1]] fun r1 o1=>.au ((o1.hO)=.cells (o1.hO).cs)<|.au (aM [.lk .sl,.lk (.int .i64)] ((o1.hO).cs) 0 1 o1.tail)<|NI r1<|.au (LK.has .sl a1/\0<=r1.toInt/\r1.toInt<a1.aT.length/\(a1.aT.getD r1.toInt.toNat []).length=1)<|qj (a1.aT.getD r1.toInt.toNat [])<|.done 0 [VS (((a1.aT.getD r1.toInt.toNat []).hA).ay)] [.cells [((o1.hO).cs.getD 0 .any),VI (((o1.hO).cs.getD 1 .any).toInt)]]
theorem DY(a0_0:AV)(a0_1:Int)(a1:AV)(ha1:LK.has .sl a1)(ha0_0:LK.has .sl a0_0)(h:eB 12 (AO a0_0 a0_1 a1) R):aC Tryd.prog 19 [.ref 0 0,a1] [.cells [a0_0,VI a0_1]] R :=
 aC.qE (cf (cr (az (dF ha0_0) (az (aJ _) aS))) cO) (aC.up (az (aJ _) (az (dF ha1) aS)) (oF [] {mu:=[(0,.one (.obj [.lk .sl,.lk (.int .i64)]))],own:=[]} Tryd.f19 h))
def Bq(a0_0:AV)(a0_1:Int):Tree :=
 .call 18 [.ref 0 0,VI 12] [.cells [a0_0,VI a0_1]] fun r1 o1=>.au ((o1.hO)=.cells (o1.hO).cs)<|.au (aM [.lk .sl,.lk (.int .i64)] ((o1.hO).cs) 0 1 o1.tail)<|NI r1<|.test (r1.toInt==(0:Int)) (.call 19 [.ref 0 0,.sl [[VS (mk [])],[VS (mk [97])],[VS (mk [40,43,32,49,41])],[VS (mk [40,114,101,99,32,120,32,49,41])],[VS (mk [40,114,101,99,32,116,41])],[VS (mk [40,43,32,32,49,32,49,41])],[VS (mk [40,42,32,49,32,49,32,49,41])],[VS (mk [116,49,48,48])],[VS (mk [120,32,49])]]] [.cells [((o1.hO).cs.getD 0 .any),VI (((o1.hO).cs.getD 1 .any).toInt)]] fun r2 o2=>.au ((o2.hO)=.cells (o2.hO).cs)<|.au (aM [.lk .sl,.lk (.int .i64)] ((o2.hO).cs) 0 1 o2.tail)<|NS r2<|.done 0 [VS r2.ay] [.cells [((o2.hO).cs.getD 0 .any),VI (((o2.hO).cs.getD 1 .any).toInt)]]) (.test (r1.toInt==(1:Int)) (.call 35 [.ref 0 0] [.cells [((o1.hO).cs.getD 0 .any),VI (((o1.hO).cs.getD 1 .any).toInt)]] fun r3 o3=>.au ((o3.hO)=.cells (o3.hO).cs)<|.au (aM [.lk .sl,.lk (.int .i64)] ((o3.hO).cs) 0 1 o3.tail)<|NS r3<|.done 0 [VS r3.ay] [.cells [((o3.hO).cs.getD 0 .any),VI (((o3.hO).cs.getD 1 .any).toInt)]]) (.test (r1.toInt==(2:Int)) (.call 35 [.ref 0 0] [.cells [((o1.hO).cs.getD 0 .any),VI (((o1.hO).cs.getD 1 .any).toInt)]] fun r4 o4=>.au ((o4.hO)=.cells (o4.hO).cs)<|.au (aM [.lk .sl,.lk (.int .i64)] ((o4.hO).cs) 0 1 o4.tail)<|NS r4<|.done 0 [VS r4.ay] [.cells [((o4.hO).cs.getD 0 .any),VI (((o4.hO).cs.getD 1 .any).toInt)]]) (.test (r1.toInt==(3:Int)) (.call 35 [.ref 0 0] [.cells [((o1.hO).cs.getD 0 .any),VI (((o1.hO).cs.getD 1 .any).toInt)]] fun r5 o5=>.au ((o5.hO)=.cells (o5.hO).cs)<|.au (aM [.lk .sl,.lk (.int .i64)] ((o5.hO).cs) 0 1 o5.tail)<|NS r5<|.done 0 [VS r5.ay] [.cells [((o5.hO).cs.getD 0 .any),VI (((o5.hO).cs.getD 1 .any).toInt)]]) (.test (r1.toInt==(4:Int)) (.call 36 [.ref 0 0,.sl [[VS (mk [116])],[VS (mk [116,49])]],VI 2] [.cells [((o1.hO).cs.getD 0 .any),VI (((o1.hO).cs.getD 1 .any).toInt)]] fun r6 o6=>.au ((o6.hO)=.cells (o6.hO).cs)<|.au (aM [.lk .sl,.lk (.int .i64)] ((o6.hO).cs) 0 1 o6.tail)<|NS r6<|.done 0 [VS r6.ay] [.cells [((o6.hO).cs.getD 0 .any),VI (((o6.hO).cs.getD 1 .any).toInt)]]) (.call 36 [.ref 0 0,.sl [],VI 3] [.cells [((o1.hO).cs.getD 0 .any),VI (((o1.hO).cs.getD 1 .any).toInt)]] fun r7 o7=>.au ((o7.hO)=.cells (o7.hO).cs)<|.au (aM [.lk .sl,.lk (.int .i64)] ((o7.hO).cs) 0 1 o7.tail)<|NS r7<|.done 0 [VS r7.ay] [.cells [((o7.hO).cs.getD 0 .any),VI (((o7.hO).cs.getD 1 .any).toInt)]])))))
theorem CH(a0_0:AV)(a0_1:Int)(ha0_0:LK.has .sl a0_0)(h:eB 24 (Bq a0_0 a0_1) R):aC Tryd.prog 20 [.ref 0 0] [.cells [a0_0,VI a0_1]] R :=
 aC.qE (cf (cr (az (dF ha0_0) (az (aJ _) aS))) cO) (aC.up (az (aJ _) aS) (oF [] {mu:=[(0,.one (.obj [.lk .sl,.lk (.int .i64)]))],own:=[]} Tryd.f20 h))
def AX(a0:ByteArray):Tree :=
 .call 13 [VS a0] [] fun r1 o1=>NP r1<|NP r1<|.test r1.isNil (.done 0 [.v (.pointer none)] []) (.call 17 [r1] [] fun r2 o2=>NB r2<|.test (!r2.toBool) (.done 0 [.v (.pointer none)] []) (.done 0 [r1] []))
theorem C6(a0:ByteArray)(h:eB 14 (AX a0) R):aC Tryd.prog 21 [VS a0] [] R :=
 uQ (az (aJ _) aS) (oQ [] Tryd.f21 h)
def xI(a0:AV)(e1_0_0:List (List AV)):Tree :=
 .call 54 [a0,.ref 0 0] [.cells [.vec 1],.vec 1 e1_0_0] fun r1 o1=>.au ((o1.hO)=.cells (o1.hO).cs)<|.au (aM [.vec 1] ((o1.hO).cs) 0 1 o1.tail)<|NZ a0<|NZ a0<|fL (a0.deref.drop 3)<|NP ((a0.deref.drop 3).hA)<|.test (!((a0.deref.drop 3).hA).isNil) (NZ a0<|NZ a0<|fL (a0.deref.drop 3)<|.call 22 [((a0.deref.drop 3).hA),.fn 54 [.ref 0 0]] [.cells [.vec 1],.vec 1 ((o1.tail.hO).es)] fun r2 o2=>.au ((o2.hO)=.cells (o2.hO).cs)<|.au (aM [.vec 1] ((o2.hO).cs) 0 1 o2.tail)<|NZ a0<|NZ a0<|fL (a0.deref.drop 4)<|NP ((a0.deref.drop 4).hA)<|.test (!((a0.deref.drop 4).hA).isNil) (NZ a0<|NZ a0<|fL (a0.deref.drop 4)<|.call 22 [((a0.deref.drop 4).hA),.fn 54 [.ref 0 0]] [.cells [.vec 1],.vec 1 ((o2.tail.hO).es)] fun r3 o3=>.au ((o3.hO)=.cells (o3.hO).cs)<|.au (aM [.vec 1] ((o3.hO).cs) 0 1 o3.tail)<|.done 0 [.any] [.cells [.vec 1],.vec 1 ((o3.tail.hO).es)]) (.done 0 [.any] [.cells [.vec 1],.vec 1 ((o2.tail.hO).es)])) (NZ a0<|NZ a0<|fL (a0.deref.drop 4)<|NP ((a0.deref.drop 4).hA)<|.test (!((a0.deref.drop 4).hA).isNil) (NZ a0<|NZ a0<|fL (a0.deref.drop 4)<|.call 22 [((a0.deref.drop 4).hA),.fn 54 [.ref 0 0]] [.cells [.vec 1],.vec 1 ((o1.tail.hO).es)] fun r4 o4=>.au ((o4.hO)=.cells (o4.hO).cs)<|.au (aM [.vec 1] ((o4.hO).cs) 0 1 o4.tail)<|.done 0 [.any] [.cells [.vec 1],.vec 1 ((o4.tail.hO).es)]) (.done 0 [.any] [.cells [.vec 1],.vec 1 ((o1.tail.hO).es)]))
theorem yP(a0:AV)(e1_0_0:List (List AV))(ha0:LK.has .ptr a0)(h:eB 29 (xI a0 e1_0_0) R):aC Tryd.prog 22 [a0,.fn 54 [.ref 0 0]] [.cells [.vec 1],.vec 1 e1_0_0] R :=
 aC.qE (cf (cr (az (aJ _) aS)) (cf (p5 _) cO)) (aC.up (az (cY ha0) (az (aJ _) aS)) (oF [] {mu:=[(1,.fn [some (.obj [.vec 1])])],own:=[]} Tryd.f22 h))
def xB(a0:AV)(a1_0_0:Bool):Tree :=
 .call 23 [a0,.ref 0 0] [.cells [VB a1_0_0]] fun r1 o1=>.au ((o1.hO)=.cells (o1.hO).cs)<|.au (aM [.lk .bool] ((o1.hO).cs) 0 1 o1.tail)<|NZ a0<|NZ a0<|fL (a0.deref.drop 3)<|NP ((a0.deref.drop 3).hA)<|.test (!((a0.deref.drop 3).hA).isNil) (NZ a0<|NZ a0<|fL (a0.deref.drop 3)<|.call 22 [((a0.deref.drop 3).hA),.fn 23 [.ref 0 0]] [.cells [VB (((o1.hO).cs.getD 0 .any).toBool)]] fun r2 o2=>.au ((o2.hO)=.cells (o2.hO).cs)<|.au (aM [.lk .bool] ((o2.hO).cs) 0 1 o2.tail)<|NZ a0<|NZ a0<|fL (a0.deref.drop 4)<|NP ((a0.deref.drop 4).hA)<|.test (!((a0.deref.drop 4).hA).isNil) (NZ a0<|NZ a0<|fL (a0.deref.drop 4)<|.call 22 [((a0.deref.drop 4).hA),.fn 23 [.ref 0 0]] [.cells [VB (((o2.hO).cs.getD 0 .any).toBool)]] fun r3 o3=>.au ((o3.hO)=.cells (o3.hO).cs)<|.au (aM [.lk .bool] ((o3.hO).cs) 0 1 o3.tail)<|.done 0 [.any] [.cells [VB (((o3.hO).cs.getD 0 .any).toBool)]]) (.done 0 [.any] [.cells [VB (((o2.hO).cs.getD 0 .any).toBool)]])) (NZ a0<|NZ a0<|fL (a0.deref.drop 4)<|NP ((a0.deref.drop 4).hA)<|.test (!((a0.deref.drop 4).hA).isNil) (NZ a0<|NZ a0<|fL (a0.deref.drop 4)<|.call 22 [((a0.deref.drop 4).hA),.fn 23 [.ref 0 0]] [.cells [VB (((o1.hO).cs.getD 0 .any).toBool)]] fun r4 o4=>.au ((o4.hO)=.cells (o4.hO).cs)<|.au (aM [.lk .bool] ((o4.hO).cs) 0 1 o4.tail)<|.done 0 [.any] [.cells [VB (((o4.hO).cs.getD 0 .any).toBool)]]) (.done 0 [.any] [.cells [VB (((o1.hO).cs.getD 0 .any).toBool)]]))
theorem zB(a0:AV)(a1_0_0:Bool)(ha0:LK.has .ptr a0)(h:eB 29 (xB a0 a1_0_0) R):aC Tryd.prog 22 [a0,.fn 23 [.ref 0 0]] [.cells [VB a1_0_0]] R :=
 aC.qE (cf (cr (az (uV _) aS)) cO) (aC.up (az (cY ha0) (az (aJ _) aS)) (oF [] {mu:=[(1,.fn [some (.obj [.lk .bool])])],own:=[]} Tryd.f22 h))
def AM(a0:AV)(a1_0:Bool):Tree :=
 .test a1_0 (NZ a0<|NZ a0<|.au (LK.has (.int .u8) (a0.deref.hA)/\1<=a0.deref.length)<|.test (((a0.deref.hA).toInt) != (114:Int)) (NZ a0<|NZ a0<|qj (a0.deref.drop 1)<|.done 0 [.any] [.cells [VB (decide ((ae (((a0.deref.drop 1).hA).ay):Int)<=(1:Int)))]]) (.done 0 [.any] [.cells [VB false]])) (.done 0 [.any] [.cells [VB false]])
theorem Co(a0:AV)(a1_0:Bool)(ha0:LK.has .ptr a0)(h:eB 19 (AM a0 a1_0) R):aC Tryd.prog 23 [a0,.ref 0 0] [.cells [VB a1_0]] R :=
 aC.qE (cf (cr (az (uV _) aS)) cO) (aC.up (az (cY ha0) (az (aJ _) aS)) (oF [] {mu:=[(1,.one (.obj [.lk .bool]))],own:=[]} Tryd.f23 h))
def AB(a0:ByteArray):Tree :=
 .call 37 [VS a0] [] fun r1 o1=>NT r1<|.au ((r1.comp 0)=.agg (r1.comp 0).cs/\(r1.comp 0).cs.length=2/\dW [.str,.sl] ((r1.comp 0).cs) 0)<|NB (r1.comp 1)<|.test ((r1.comp 1).toBool) (.call 38 [.agg [VS (((r1.comp 0).cs.getD 0 .any).ay),((r1.comp 0).cs.getD 1 .any)]] [] fun r2 o2=>NB r2<|.test r2.toBool (.call 39 [.agg [VS (((r1.comp 0).cs.getD 0 .any).ay),((r1.comp 0).cs.getD 1 .any)]] [] fun r3 o3=>NI r3<|.done 0 [.dm [.agg [VS (((r1.comp 0).cs.getD 0 .any).ay),((r1.comp 0).cs.getD 1 .any)],VB (decide (r3.toInt<=(400:Int)))]] []) (.done 0 [.dm [.agg [VS (((r1.comp 0).cs.getD 0 .any).ay),((r1.comp 0).cs.getD 1 .any)],VB false]] [])) (.done 0 [.dm [.agg [VS (((r1.comp 0).cs.getD 0 .any).ay),((r1.comp 0).cs.getD 1 .any)],VB false]] [])
theorem Dz(a0:ByteArray)(h:eB 22 (AB a0) R):aC Tryd.prog 24 [VS a0] [] R :=
 uQ (az (aJ _) aS) (oQ [] Tryd.f24 h)
def yt(a0_0:ByteArray)(a0_1:AV):Tree :=
 .test (!(al a0_0==al (mk []))) (.test (al a0_0==al (mk [48])) (.done 0 [VB true] []) (.test (al a0_0==al (mk [49])) (.done 0 [VB true] []) (.test (al a0_0==al (mk [120])) (.done 0 [VB true] []) (.test (al a0_0==al (mk [121])) (.done 0 [VB true] []) (.done 0 [VB (al a0_0==al (mk [122]))] []))))) (.call 40 [.agg [VS a0_0,a0_1]] [] fun r1 o1=>NS r1<|.test (!(al r1.ay==al (mk [114,101,99]))) (NG a0_1 1 2<|NE (a0_1.ix (1:Int))<|.call 25 [.agg [VS (((a0_1.ix (1:Int)).getD 0 .any).ay),((a0_1.ix (1:Int)).getD 1 .any)]] [] fun r2 o2=>NB r2<|.test r2.toBool (NG a0_1 2 2<|NE (a0_1.ix (2:Int))<|.call 25 [.agg [VS (((a0_1.ix (2:Int)).getD 0 .any).ay),((a0_1.ix (2:Int)).getD 1 .any)]] [] fun r3 o3=>NB r3<|.done 0 [VB r3.toBool] []) (.done 0 [VB false] [])) (.done 0 [VB false] []))
theorem B0(a0_0:ByteArray)(a0_1:AV)(ha0_1:LK.has .sl a0_1)(h:eB 46 (yt a0_0 a0_1) R):aC Tryd.prog 25 [.agg [VS a0_0,a0_1]] [] R :=
 uQ (az (ol (az (aJ _) (az (dF ha0_1) aS))) aS) (oQ [] Tryd.f25 h)
def BX(a0:ByteArray):Tree :=
 .test (decide ((ae a0:Int)>(8000:Int))) (.done 0 [.v (.pointer none)] []) (.call 41 [VS a0,VI 0] [] fun r1 o1=>NT r1<|NP (r1.comp 0)<|NS (r1.comp 1)<|.test (!(al ((r1.comp 1).ay)==al (mk []))) (.done 0 [.v (.pointer none)] []) (.done 0 [(r1.comp 0)] []))
theorem Dh(a0:ByteArray)(h:eB 16 (BX a0) R):aC Tryd.prog 26 [VS a0] [] R :=
 uQ (az (aJ _) aS) (oQ [] Tryd.f26 h)
def zl:LI:={hd:={cP:=[(0,.k .ptr),(1,.k .sl),(5,.k (.int .i64))]},xs:={cP:=[(0,.k .ptr)]},rt:={refs:=[(4,69)],cz:=[(69,[.lk (.int .u8),.lk .str,.lk (.int .i64),.lk .ptr,.lk .ptr])]},ex:=1}
def AS:Code:=gD (gC Tryd.f27) 7
def Aw:List (Nat×LI):=[(7,zl)]
def y4(a0:AV)(a1:AV):Tree :=
 NZ a0<|NZ a0<|.au (LK.has .str (a0.deref.hA)/\1<=a0.deref.length)<|.test (al ((a0.deref.hA).ay)==al (mk [48])) (NZ a0<|NZ a0<|.au (LK.has .str (a0.deref.hA)/\1<=a0.deref.length)<|.au (0<=(0:Int)/\(0:Int)<ae ((a0.deref.hA).ay))<|.done 0 [.ptr [.v (.int .u8 (bt ((a0.deref.hA).ay) 0)),VS (mk []),VI 0,.v (.pointer none),.v (.pointer none)]] []) (NZ a0<|NZ a0<|.au (LK.has .str (a0.deref.hA)/\1<=a0.deref.length)<|.test (al ((a0.deref.hA).ay)==al (mk [49])) (NZ a0<|NZ a0<|.au (LK.has .str (a0.deref.hA)/\1<=a0.deref.length)<|.au (0<=(0:Int)/\(0:Int)<ae ((a0.deref.hA).ay))<|.done 0 [.ptr [.v (.int .u8 (bt ((a0.deref.hA).ay) 0)),VS (mk []),VI 0,.v (.pointer none),.v (.pointer none)]] []) (NZ a0<|NZ a0<|.au (LK.has .str (a0.deref.hA)/\1<=a0.deref.length)<|.call 14 [VS ((a0.deref.hA).ay)] [] fun r1 o1=>NB r1<|.test r1.toBool (NZ a0<|NZ a0<|.au (LK.has .str (a0.deref.hA)/\1<=a0.deref.length)<|.done 0 [.ptr [.v (.int .u8 110),VS ((a0.deref.hA).ay),VI 0,.v (.pointer none),.v (.pointer none)]] []) (NZ a0<|NZ a0<|.au (LK.has .str (a0.deref.hA)/\1<=a0.deref.length)<|.call 34 [VS ((a0.deref.hA).ay)] [] fun r2 o2=>NB r2<|.test r2.toBool (NL a1<|.loop AS zl [a0,a1,VI (IntKind.wrap .i64 ((a1.aT.length:Int)-1))] [] (fun y3 q3=>NP (y3.hA)<|NZ (y3.hA)<|NZ (y3.hA)<|.au (LK.has .str ((y3.hA).deref.hA)/\1<=((y3.hA).deref).length)<|.done 0 [.ptr [.v (.int .u8 110),VS (((y3.hA).deref.hA).ay),VI 0,.v (.pointer none),.v (.pointer none)]] []) (fun y3 q3=>.au ((q3.hO)=.cells (q3.hO).cs)<|.au (an [.lk (.int .u8),.lk .str,.lk (.int .i64),.lk .ptr,.lk .ptr] ((q3.hO).cs) 0 q3.tail)<|.done 0 [.ptr [.v (.int .u8 (((q3.hO).cs.getD 0 .any).toInt)),VS (((q3.hO).cs.getD 1 .any).ay),VI (((q3.hO).cs.getD 2 .any).toInt),((q3.hO).cs.getD 3 .any),((q3.hO).cs.getD 4 .any)]] [])) (.call 42 [a0,VS (mk [43]),VI 3] [] fun r4 o4=>NB r4<|.test r4.toBool (NZ a0<|NZ a0<|tz (a0.deref.drop 1)<|NG ((a0.deref.drop 1).hA) 1 1<|fL (((a0.deref.drop 1).hA).ix (1:Int))<|.call 27 [((((a0.deref.drop 1).hA).ix (1:Int)).hA),a1] [] fun r5 o5=>NP r5<|NZ a0<|NZ a0<|tz (a0.deref.drop 1)<|NG ((a0.deref.drop 1).hA) 2 1<|fL (((a0.deref.drop 1).hA).ix (2:Int))<|.call 27 [((((a0.deref.drop 1).hA).ix (2:Int)).hA),a1] [] fun r6 o6=>NP r6<|NP r5<|.test r5.isNil (.done 0 [.v (.pointer none)] []) (NP r6<|.test r6.isNil (.done 0 [.v (.pointer none)] []) (NZ a0<|NZ a0<|tz (a0.deref.drop 1)<|NG ((a0.deref.drop 1).hA) 0 1<|fL (((a0.deref.drop 1).hA).ix (0:Int))<|NZ ((((a0.deref.drop 1).hA).ix (0:Int)).hA)<|NZ ((((a0.deref.drop 1).hA).ix (0:Int)).hA)<|.au (LK.has .str (((((a0.deref.drop 1).hA).ix (0:Int)).hA).deref.hA)/\1<=(((((a0.deref.drop 1).hA).ix (0:Int)).hA).deref).length)<|.au (0<=(0:Int)/\(0:Int)<ae ((((((a0.deref.drop 1).hA).ix (0:Int)).hA).deref.hA).ay))<|.done 0 [.ptr [.v (.int .u8 (bt ((((((a0.deref.drop 1).hA).ix (0:Int)).hA).deref.hA).ay) 0)),VS (mk []),VI 0,r5,r6]] []))) (.call 42 [a0,VS (mk [42]),VI 3] [] fun r7 o7=>NB r7<|.test r7.toBool (NZ a0<|NZ a0<|tz (a0.deref.drop 1)<|NG ((a0.deref.drop 1).hA) 1 1<|fL (((a0.deref.drop 1).hA).ix (1:Int))<|.call 27 [((((a0.deref.drop 1).hA).ix (1:Int)).hA),a1] [] fun r8 o8=>NP r8<|NZ a0<|NZ a0<|tz (a0.deref.drop 1)<|NG ((a0.deref.drop 1).hA) 2 1<|fL (((a0.deref.drop 1).hA).ix (2:Int))<|.call 27 [((((a0.deref.drop 1).hA).ix (2:Int)).hA),a1] [] fun r9 o9=>NP r9<|NP r8<|.test r8.isNil (.done 0 [.v (.pointer none)] []) (NP r9<|.test r9.isNil (.done 0 [.v (.pointer none)] []) (NZ a0<|NZ a0<|tz (a0.deref.drop 1)<|NG ((a0.deref.drop 1).hA) 0 1<|fL (((a0.deref.drop 1).hA).ix (0:Int))<|NZ ((((a0.deref.drop 1).hA).ix (0:Int)).hA)<|NZ ((((a0.deref.drop 1).hA).ix (0:Int)).hA)<|.au (LK.has .str (((((a0.deref.drop 1).hA).ix (0:Int)).hA).deref.hA)/\1<=(((((a0.deref.drop 1).hA).ix (0:Int)).hA).deref).length)<|.au (0<=(0:Int)/\(0:Int)<ae ((((((a0.deref.drop 1).hA).ix (0:Int)).hA).deref.hA).ay))<|.done 0 [.ptr [.v (.int .u8 (bt ((((((a0.deref.drop 1).hA).ix (0:Int)).hA).deref.hA).ay) 0)),VS (mk []),VI 0,r8,r9]] []))) (.call 42 [a0,VS (mk [114,101,99]),VI 3] [] fun r10 o10=>NB r10<|.test r10.toBool (NZ a0<|NZ a0<|tz (a0.deref.drop 1)<|NG ((a0.deref.drop 1).hA) 1 1<|fL (((a0.deref.drop 1).hA).ix (1:Int))<|NZ ((((a0.deref.drop 1).hA).ix (1:Int)).hA)<|NZ ((((a0.deref.drop 1).hA).ix (1:Int)).hA)<|.au (LK.has .str (((((a0.deref.drop 1).hA).ix (1:Int)).hA).deref.hA)/\1<=(((((a0.deref.drop 1).hA).ix (1:Int)).hA).deref).length)<|.call 34 [VS ((((((a0.deref.drop 1).hA).ix (1:Int)).hA).deref.hA).ay)] [] fun r11 o11=>NB r11<|.test r11.toBool (NZ a0<|NZ a0<|tz (a0.deref.drop 1)<|NG ((a0.deref.drop 1).hA) 2 1<|fL (((a0.deref.drop 1).hA).ix (2:Int))<|.au (LK.has .sl a1/\db 1 a1.aT/\((([]:List (List AV)).length)+a1.aT.length)*16<=140737488355328)<|NZ a0<|NZ a0<|tz (a0.deref.drop 1)<|NG ((a0.deref.drop 1).hA) 1 1<|fL (((a0.deref.drop 1).hA).ix (1:Int))<|NZ ((((a0.deref.drop 1).hA).ix (1:Int)).hA)<|NZ ((((a0.deref.drop 1).hA).ix (1:Int)).hA)<|.au (LK.has .str (((((a0.deref.drop 1).hA).ix (1:Int)).hA).deref.hA)/\1<=(((((a0.deref.drop 1).hA).ix (1:Int)).hA).deref).length)<|.au (db 1 [[VS ((((((a0.deref.drop 1).hA).ix (1:Int)).hA).deref.hA).ay)]]/\(((([]:List (List AV))++a1.aT).length)+([[VS ((((((a0.deref.drop 1).hA).ix (1:Int)).hA).deref.hA).ay)]]:List (List AV)).length)*16<=140737488355328)<|.call 27 [((((a0.deref.drop 1).hA).ix (2:Int)).hA),.sl ((([]:List (List AV))++a1.aT)++([[VS ((((((a0.deref.drop 1).hA).ix (1:Int)).hA).deref.hA).ay)]]:List (List AV)))] [] fun r12 o12=>NP r12<|NP r12<|.test r12.isNil (.done 0 [.v (.pointer none)] []) (.done 0 [.ptr [.v (.int .u8 114),VS (mk []),VI 0,r12,.v (.pointer none)]] [])) (.done 0 [.v (.pointer none)] [])) (.done 0 [.v (.pointer none)] [])))))))
theorem AZ(a0:AV)(a1:AV)(ha0:LK.has .ptr a0)(ha1:LK.has .sl a1)(h:eB 160 (y4 a0 a1) R):aC Tryd.prog 27 [a0,a1] [] R :=
 uQ (az (cY ha0) (az (dF ha1) aS)) (oQ Aw Tryd.f27 h)
def xQ(x0:AV)(x1:AV)(x5:Int):Tree :=
 NP x0<|NL x1<|NI (VI x5)<|.test (decide (x5≥(0:Int))) (NG x1 x5 1<|qj (x1.ix x5)<|NZ x0<|NZ x0<|.au (LK.has .str (x0.deref.hA)/\1<=x0.deref.length)<|.test (al (((x1.ix x5).hA).ay)==al ((x0.deref.hA).ay)) (NL x1<|.done 2 [] [.cells [.v (.int .u8 98),VS (mk []),VI (IntKind.wrap .i64 ((IntKind.wrap .i64 ((x1.aT.length:Int)-1))-x5)),.v (.pointer none),.v (.pointer none)]]) (.done 0 [x0,x1,VI (IntKind.wrap .i64 (x5-1))] [])) (.done 1 [x0] [])
abbrev zE:=cV Tryd.prog 160 AS zl
theorem A9(x0:AV)(x1:AV)(x5:Int)(h:vu 160 (xQ x0 x1 x5) zE U):zE [x0,x1,VI x5] [] U :=
 gQ Aw h
def xw(a0:AV):Tree :=
 NZ a0<|NZ a0<|.au (LK.has (.int .u8) (a0.deref.hA)/\1<=a0.deref.length)<|.test (((a0.deref.hA).toInt)==(43:Int)) (NZ a0<|NZ a0<|fL (a0.deref.drop 3)<|.call 28 [((a0.deref.drop 3).hA)] [] fun r1 o1=>NI r1<|NZ a0<|NZ a0<|fL (a0.deref.drop 4)<|.call 28 [((a0.deref.drop 4).hA)] [] fun r2 o2=>NI r2<|.done 0 [VI (IntKind.wrap .i64 ((IntKind.wrap .i64 (1+r1.toInt))+r2.toInt))] []) (.test (((a0.deref.hA).toInt)==(42:Int)) (NZ a0<|NZ a0<|fL (a0.deref.drop 3)<|.call 28 [((a0.deref.drop 3).hA)] [] fun r3 o3=>NI r3<|NZ a0<|NZ a0<|fL (a0.deref.drop 4)<|.call 28 [((a0.deref.drop 4).hA)] [] fun r4 o4=>NI r4<|.done 0 [VI (IntKind.wrap .i64 ((IntKind.wrap .i64 (1+r3.toInt))+r4.toInt))] []) (.test (((a0.deref.hA).toInt)==(114:Int)) (NZ a0<|NZ a0<|fL (a0.deref.drop 3)<|.call 28 [((a0.deref.drop 3).hA)] [] fun r5 o5=>NI r5<|.done 0 [VI (IntKind.wrap .i64 (2+r5.toInt))] []) (.done 0 [VI 1] [])))
theorem yh(a0:AV)(ha0:LK.has .ptr a0)(h:eB 30 (xw a0) R):aC Tryd.prog 28 [a0] [] R :=
 uQ (az (cY ha0) aS) (oQ [] Tryd.f28 h)
def BO(a0:ByteArray)(a1:ByteArray):Tree :=
 .test (decide ((ae a0:Int)≥(1:Int))) (.test (decide ((ae a0:Int)<=(3:Int))) (.au (0<=(0:Int)/\(0:Int)<=(1:Int)/\(1:Int)<=(ae a0:Int))<|.call 43 [VS a1,VS (br a0 (bw 0) (bw 1))] [] fun r1 o1=>NB r1<|.test r1.toBool (.au (0<=(1:Int)/\(1:Int)<=(ae a0:Int)/\(ae a0:Int)<=(ae a0:Int))<|.call 44 [VS (br a0 (bw 1) (bw (ae a0:Int))),VS (mk [48,49,50,51,52,53,54,55,56,57])] [] fun r2 o2=>NS r2<|.done 0 [VB (al r2.ay==al (mk []))] []) (.done 0 [VB false] [])) (.done 0 [VB false] [])) (.done 0 [VB false] [])
theorem C1(a0:ByteArray)(a1:ByteArray)(h:eB 25 (BO a0 a1) R):aC Tryd.prog 29 [VS a0,VS a1] [] R :=
 uQ (az (aJ _) (az (aJ _) aS)) (oQ [] Tryd.f29 h)
def wJ(a0_0:Int)(a0_1:Bool)(a1:AV)(a2:ByteArray):Tree :=
 .test a0_1 (.done 0 [.ptr [.v (.int .u8 48),VS (mk []),VI 0,.v (.pointer none),.v (.pointer none)]] [.cells [VI a0_0,VB a0_1]]) (NZ a1<|NZ a1<|.au (LK.has (.int .u8) (a1.deref.hA)/\1<=a1.deref.length)<|.test (((a1.deref.hA).toInt)==(110:Int)) (NZ a1<|NZ a1<|qj (a1.deref.drop 1)<|.test (al (((a1.deref.drop 1).hA).ay)==al a2) (.done 0 [.ptr [.v (.int .u8 49),VS (mk []),VI 0,.v (.pointer none),.v (.pointer none)]] [.cells [VI a0_0,VB a0_1]]) (.done 0 [.ptr [.v (.int .u8 48),VS (mk []),VI 0,.v (.pointer none),.v (.pointer none)]] [.cells [VI a0_0,VB a0_1]])) (.test (((a1.deref.hA).toInt)==(43:Int)) (NZ a1<|NZ a1<|fL (a1.deref.drop 3)<|.call 30 [.ref 0 0,((a1.deref.drop 3).hA),VS a2] [.cells [VI a0_0,VB a0_1]] fun r1 o1=>.au ((o1.hO)=.cells (o1.hO).cs)<|.au (aM [.lk (.int .i64),.lk .bool] ((o1.hO).cs) 0 1 o1.tail)<|NP r1<|NZ a1<|NZ a1<|fL (a1.deref.drop 4)<|.call 30 [.ref 0 0,((a1.deref.drop 4).hA),VS a2] [.cells [VI (((o1.hO).cs.getD 0 .any).toInt),VB (((o1.hO).cs.getD 1 .any).toBool)]] fun r2 o2=>.au ((o2.hO)=.cells (o2.hO).cs)<|.au (aM [.lk (.int .i64),.lk .bool] ((o2.hO).cs) 0 1 o2.tail)<|NP r2<|.call 46 [.v (.int .u8 43),r1,r2] [] fun r3 o3=>NP r3<|.call 45 [.ref 0 0,r3] [.cells [VI (((o2.hO).cs.getD 0 .any).toInt),VB (((o2.hO).cs.getD 1 .any).toBool)]] fun r4 o4=>.au ((o4.hO)=.cells (o4.hO).cs)<|.au (aM [.lk (.int .i64),.lk .bool] ((o4.hO).cs) 0 1 o4.tail)<|NP r4<|.done 0 [r4] [.cells [VI (((o4.hO).cs.getD 0 .any).toInt),VB (((o4.hO).cs.getD 1 .any).toBool)]]) (.test (((a1.deref.hA).toInt)==(42:Int)) (NZ a1<|NZ a1<|fL (a1.deref.drop 3)<|.call 30 [.ref 0 0,((a1.deref.drop 3).hA),VS a2] [.cells [VI a0_0,VB a0_1]] fun r5 o5=>.au ((o5.hO)=.cells (o5.hO).cs)<|.au (aM [.lk (.int .i64),.lk .bool] ((o5.hO).cs) 0 1 o5.tail)<|NP r5<|NZ a1<|NZ a1<|fL (a1.deref.drop 4)<|.call 46 [.v (.int .u8 42),r5,((a1.deref.drop 4).hA)] [] fun r6 o6=>NP r6<|NZ a1<|NZ a1<|fL (a1.deref.drop 3)<|NZ a1<|NZ a1<|fL (a1.deref.drop 4)<|.call 30 [.ref 0 0,((a1.deref.drop 4).hA),VS a2] [.cells [VI (((o5.hO).cs.getD 0 .any).toInt),VB (((o5.hO).cs.getD 1 .any).toBool)]] fun r7 o7=>.au ((o7.hO)=.cells (o7.hO).cs)<|.au (aM [.lk (.int .i64),.lk .bool] ((o7.hO).cs) 0 1 o7.tail)<|NP r7<|.call 46 [.v (.int .u8 42),((a1.deref.drop 3).hA),r7] [] fun r8 o8=>NP r8<|.call 46 [.v (.int .u8 43),r6,r8] [] fun r9 o9=>NP r9<|.call 45 [.ref 0 0,r9] [.cells [VI (((o7.hO).cs.getD 0 .any).toInt),VB (((o7.hO).cs.getD 1 .any).toBool)]] fun r10 o10=>.au ((o10.hO)=.cells (o10.hO).cs)<|.au (aM [.lk (.int .i64),.lk .bool] ((o10.hO).cs) 0 1 o10.tail)<|NP r10<|.done 0 [r10] [.cells [VI (((o10.hO).cs.getD 0 .any).toInt),VB (((o10.hO).cs.getD 1 .any).toBool)]]) (.test (((a1.deref.hA).toInt)==(114:Int)) (.call 47 [.ref 0 0] [.cells [VI a0_0,VB a0_1]] fun r11 o11=>.au ((o11.hO)=.cells (o11.hO).cs)<|.au (aM [.lk (.int .i64),.lk .bool] ((o11.hO).cs) 0 1 o11.tail)<|NS r11<|NZ a1<|NZ a1<|fL (a1.deref.drop 3)<|.call 48 [((a1.deref.drop 3).hA),.ptr [.v (.int .u8 110),VS r11.ay,VI 0,.v (.pointer none),.v (.pointer none)],VI 0] [] fun r12 o12=>NP r12<|.call 30 [.ref 0 0,r12,VS a2] [.cells [VI (((o11.hO).cs.getD 0 .any).toInt),VB (((o11.hO).cs.getD 1 .any).toBool)]] fun r13 o13=>.au ((o13.hO)=.cells (o13.hO).cs)<|.au (aM [.lk (.int .i64),.lk .bool] ((o13.hO).cs) 0 1 o13.tail)<|NP r13<|.call 45 [.ref 0 0,r13] [.cells [VI (((o13.hO).cs.getD 0 .any).toInt),VB (((o13.hO).cs.getD 1 .any).toBool)]] fun r14 o14=>.au ((o14.hO)=.cells (o14.hO).cs)<|.au (aM [.lk (.int .i64),.lk .bool] ((o14.hO).cs) 0 1 o14.tail)<|NP r14<|.call 49 [r14,VS r11.ay,a1] [] fun r15 o15=>NP r15<|.call 30 [.ref 0 0,r12,VS r11.ay] [.cells [VI (((o14.hO).cs.getD 0 .any).toInt),VB (((o14.hO).cs.getD 1 .any).toBool)]] fun r16 o16=>.au ((o16.hO)=.cells (o16.hO).cs)<|.au (aM [.lk (.int .i64),.lk .bool] ((o16.hO).cs) 0 1 o16.tail)<|NP r16<|.call 45 [.ref 0 0,r16] [.cells [VI (((o16.hO).cs.getD 0 .any).toInt),VB (((o16.hO).cs.getD 1 .any).toBool)]] fun r17 o17=>.au ((o17.hO)=.cells (o17.hO).cs)<|.au (aM [.lk (.int .i64),.lk .bool] ((o17.hO).cs) 0 1 o17.tail)<|NP r17<|.call 49 [r17,VS r11.ay,a1] [] fun r18 o18=>NP r18<|.call 46 [.v (.int .u8 42),r18,.ptr [.v (.int .u8 98),VS (mk []),VI 0,.v (.pointer none),.v (.pointer none)]] [] fun r19 o19=>NP r19<|.call 46 [.v (.int .u8 43),r15,r19] [] fun r20 o20=>NP r20<|.call 45 [.ref 0 0,.ptr [.v (.int .u8 114),VS (mk []),VI 0,r20,.v (.pointer none)]] [.cells [VI (((o17.hO).cs.getD 0 .any).toInt),VB (((o17.hO).cs.getD 1 .any).toBool)]] fun r21 o21=>.au ((o21.hO)=.cells (o21.hO).cs)<|.au (aM [.lk (.int .i64),.lk .bool] ((o21.hO).cs) 0 1 o21.tail)<|NP r21<|.done 0 [r21] [.cells [VI (((o21.hO).cs.getD 0 .any).toInt),VB (((o21.hO).cs.getD 1 .any).toBool)]]) (.done 0 [.ptr [.v (.int .u8 48),VS (mk []),VI 0,.v (.pointer none),.v (.pointer none)]] [.cells [VI a0_0,VB a0_1]])))))
theorem At(a0_0:Int)(a0_1:Bool)(a1:AV)(a2:ByteArray)(ha1:LK.has .ptr a1)(h:eB 121 (wJ a0_0 a0_1 a1 a2) R):aC Tryd.prog 30 [.ref 0 0,a1,VS a2] [.cells [VI a0_0,VB a0_1]] R :=
 aC.qE (cf (cr (az (aJ _) (az (uV _) aS))) cO) (aC.up (az (aJ _) (az (cY ha1) (az (aJ _) aS))) (oF [] {mu:=[(0,.one (.obj [.lk (.int .i64),.lk .bool]))],own:=[]} Tryd.f30 h))
def zT(a0:AV):Tree :=
 .call 33 [a0] [] fun r1 o1=>NL r1<|.call 50 [a0,.v (.slice none 0 0),.ec 50 [none,some 0,some 1],.ref 0 0,.ref 1 0] [.cells [r1],.cells [VI 0]] fun r2 o2=>.au ((o2.hO)=.cells (o2.hO).cs)<|.au (aM [.lk .sl] ((o2.hO).cs) 0 1 o2.tail)<|.au ((o2.tail.hO)=.cells (o2.tail.hO).cs)<|.au (aM [.lk (.int .i64)] ((o2.tail.hO).cs) 0 2 o2.tail.tail)<|NS r2<|.done 0 [VS r2.ay] []
theorem Dw(a0:AV)(ha0:LK.has .ptr a0)(h:eB 12 (zT a0) R):aC Tryd.prog 31 [a0] [] R :=
 uQ (az (cY ha0) aS) (oQ [] Tryd.f31 h)
def zZ(a0:AV):Tree :=
 .call 53 [a0,.v (.func (.func 34) #[] #[])] [] fun r1 o1=>NI r1<|.done 0 [VB (decide (r1.toInt≥(0:Int)))] []
theorem CZ(a0:AV)(ha0:LK.has .sl a0)(h:eB 9 (zZ a0) R):aC Tryd.prog 32 [a0,.v (.func (.func 34) #[] #[])] [] R :=
 uQ (az (dF ha0) (az (aJ _) aS)) (oQ [] Tryd.f32 h)
def An(a0:AV):Tree :=
 .call 22 [a0,.fn 54 [.ref 0 0]] [.cells [.vec 1],.vec 1 []] fun r1 o1=>.au ((o1.hO)=.cells (o1.hO).cs)<|.au (aM [.vec 1] ((o1.hO).cs) 0 1 o1.tail)<|.done 0 [.sl ((o1.tail.hO).es)] []
theorem Ct(a0:AV)(ha0:LK.has .ptr a0)(h:eB 9 (An a0) R):aC Tryd.prog 33 [a0] [] R :=
 uQ (az (cY ha0) aS) (oQ [] Tryd.f33 h)
def zY(a0:ByteArray):Tree :=
 .call 29 [VS a0,VS (mk [116])] [] fun r1 o1=>NB r1<|.done 0 [VB r1.toBool] []
theorem DN(a0:ByteArray)(h:eB 5 (zY a0) R):aC Tryd.prog 34 [VS a0] [] R :=
 uQ (az (aJ _) aS) (oQ [] Tryd.f34 h)
def A7(a0_0:AV)(a0_1:Int):Tree :=
 .call 19 [.ref 0 0,.sl [[VS (mk [40,114,101,99,32,116,32,40,43,32,49,32,40,42,32,120,32,116,41,41,41])],[VS (mk [40,114,101,99,32,116,32,40,43,32,120,32,40,42,32,116,32,116,41,41,41])],[VS (mk [40,114,101,99,32,116,32,40,43,32,49,32,40,42,32,116,32,40,42,32,120,32,116,41,41,41,41])],[VS (mk [40,114,101,99,32,116,32,40,43,32,49,32,116,41,41])],[VS (mk [40,114,101,99,32,116,32,40,42,32,120,32,40,114,101,99,32,116,49,32,40,43,32,49,32,40,42,32,116,32,116,49,41,41,41,41,41])],[VS (mk [40,114,101,99,32,116,48,32,40,43,32,40,42,32,120,32,121,41,32,40,43,32,116,48,32,40,42,32,116,48,32,116,48,41,41,41,41])],[VS (mk [40,114,101,99,32,116,32,40,43,32,121,32,40,42,32,116,32,40,42,32,116,32,116,41,41,41,41])]]] [.cells [a0_0,VI a0_1]] fun r1 o1=>.au ((o1.hO)=.cells (o1.hO).cs)<|.au (aM [.lk .sl,.lk (.int .i64)] ((o1.hO).cs) 0 1 o1.tail)<|NS r1<|.done 0 [VS r1.ay] [.cells [((o1.hO).cs.getD 0 .any),VI (((o1.hO).cs.getD 1 .any).toInt)]]
theorem Da(a0_0:AV)(a0_1:Int)(ha0_0:LK.has .sl a0_0)(h:eB 6 (A7 a0_0 a0_1) R):aC Tryd.prog 35 [.ref 0 0] [.cells [a0_0,VI a0_1]] R :=
 aC.qE (cf (cr (az (dF ha0_0) (az (aJ _) aS))) cO) (aC.up (az (aJ _) aS) (oF [] {mu:=[(0,.one (.obj [.lk .sl,.lk (.int .i64)]))],own:=[]} Tryd.f35 h))
def yg(a0_0:AV)(a0_1:Int)(a1:AV)(a2:Int):Tree :=
 .test (decide (a2<=(0:Int))) (NL a1<|.test (decide ((a1.aT.length:Int)>(0:Int))) (.call 18 [.ref 0 0,VI 3] [.cells [a0_0,VI a0_1]] fun r1 o1=>.au ((o1.hO)=.cells (o1.hO).cs)<|.au (aM [.lk .sl,.lk (.int .i64)] ((o1.hO).cs) 0 1 o1.tail)<|NI r1<|.test (r1.toInt==(0:Int)) (NL a1<|.call 18 [.ref 0 0,VI (a1.aT.length:Int)] [.cells [((o1.hO).cs.getD 0 .any),VI (((o1.hO).cs.getD 1 .any).toInt)]] fun r2 o2=>.au ((o2.hO)=.cells (o2.hO).cs)<|.au (aM [.lk .sl,.lk (.int .i64)] ((o2.hO).cs) 0 1 o2.tail)<|NI r2<|.au (LK.has .sl a1/\0<=r2.toInt/\r2.toInt<a1.aT.length/\(a1.aT.getD r2.toInt.toNat []).length=1)<|qj (a1.aT.getD r2.toInt.toNat [])<|.done 0 [VS (((a1.aT.getD r2.toInt.toNat []).hA).ay)] [.cells [((o2.hO).cs.getD 0 .any),VI (((o2.hO).cs.getD 1 .any).toInt)]]) (.call 19 [.ref 0 0,.sl [[VS (mk [120])],[VS (mk [49])],[VS (mk [120])],[VS (mk [121])],[VS (mk [48])],[VS (mk [49])]]] [.cells [((o1.hO).cs.getD 0 .any),VI (((o1.hO).cs.getD 1 .any).toInt)]] fun r3 o3=>.au ((o3.hO)=.cells (o3.hO).cs)<|.au (aM [.lk .sl,.lk (.int .i64)] ((o3.hO).cs) 0 1 o3.tail)<|NS r3<|.done 0 [VS r3.ay] [.cells [((o3.hO).cs.getD 0 .any),VI (((o3.hO).cs.getD 1 .any).toInt)]])) (.call 19 [.ref 0 0,.sl [[VS (mk [120])],[VS (mk [49])],[VS (mk [120])],[VS (mk [121])],[VS (mk [48])],[VS (mk [49])]]] [.cells [a0_0,VI a0_1]] fun r4 o4=>.au ((o4.hO)=.cells (o4.hO).cs)<|.au (aM [.lk .sl,.lk (.int .i64)] ((o4.hO).cs) 0 1 o4.tail)<|NS r4<|.done 0 [VS r4.ay] [.cells [((o4.hO).cs.getD 0 .any),VI (((o4.hO).cs.getD 1 .any).toInt)]])) (.call 18 [.ref 0 0,VI 4] [.cells [a0_0,VI a0_1]] fun r5 o5=>.au ((o5.hO)=.cells (o5.hO).cs)<|.au (aM [.lk .sl,.lk (.int .i64)] ((o5.hO).cs) 0 1 o5.tail)<|NI r5<|.test (r5.toInt==(0:Int)) (NL a1<|.test (decide ((a1.aT.length:Int)>(0:Int))) (.call 18 [.ref 0 0,VI 3] [.cells [((o5.hO).cs.getD 0 .any),VI (((o5.hO).cs.getD 1 .any).toInt)]] fun r6 o6=>.au ((o6.hO)=.cells (o6.hO).cs)<|.au (aM [.lk .sl,.lk (.int .i64)] ((o6.hO).cs) 0 1 o6.tail)<|NI r6<|.test (r6.toInt==(0:Int)) (NL a1<|.call 18 [.ref 0 0,VI (a1.aT.length:Int)] [.cells [((o6.hO).cs.getD 0 .any),VI (((o6.hO).cs.getD 1 .any).toInt)]] fun r7 o7=>.au ((o7.hO)=.cells (o7.hO).cs)<|.au (aM [.lk .sl,.lk (.int .i64)] ((o7.hO).cs) 0 1 o7.tail)<|NI r7<|.au (LK.has .sl a1/\0<=r7.toInt/\r7.toInt<a1.aT.length/\(a1.aT.getD r7.toInt.toNat []).length=1)<|qj (a1.aT.getD r7.toInt.toNat [])<|.done 0 [VS (((a1.aT.getD r7.toInt.toNat []).hA).ay)] [.cells [((o7.hO).cs.getD 0 .any),VI (((o7.hO).cs.getD 1 .any).toInt)]]) (.call 19 [.ref 0 0,.sl [[VS (mk [120])],[VS (mk [49])],[VS (mk [120])],[VS (mk [121])],[VS (mk [48])],[VS (mk [49])]]] [.cells [((o6.hO).cs.getD 0 .any),VI (((o6.hO).cs.getD 1 .any).toInt)]] fun r8 o8=>.au ((o8.hO)=.cells (o8.hO).cs)<|.au (aM [.lk .sl,.lk (.int .i64)] ((o8.hO).cs) 0 1 o8.tail)<|NS r8<|.done 0 [VS r8.ay] [.cells [((o8.hO).cs.getD 0 .any),VI (((o8.hO).cs.getD 1 .any).toInt)]])) (.call 19 [.ref 0 0,.sl [[VS (mk [120])],[VS (mk [49])],[VS (mk [120])],[VS (mk [121])],[VS (mk [48])],[VS (mk [49])]]] [.cells [((o5.hO).cs.getD 0 .any),VI (((o5.hO).cs.getD 1 .any).toInt)]] fun r9 o9=>.au ((o9.hO)=.cells (o9.hO).cs)<|.au (aM [.lk .sl,.lk (.int .i64)] ((o9.hO).cs) 0 1 o9.tail)<|NS r9<|.done 0 [VS r9.ay] [.cells [((o9.hO).cs.getD 0 .any),VI (((o9.hO).cs.getD 1 .any).toInt)]])) (.call 18 [.ref 0 0,VI 5] [.cells [((o5.hO).cs.getD 0 .any),VI (((o5.hO).cs.getD 1 .any).toInt)]] fun r10 o10=>.au ((o10.hO)=.cells (o10.hO).cs)<|.au (aM [.lk .sl,.lk (.int .i64)] ((o10.hO).cs) 0 1 o10.tail)<|NI r10<|.test (r10.toInt==(0:Int)) (.call 36 [.ref 0 0,a1,VI (IntKind.wrap .i64 (a2-1))] [.cells [((o10.hO).cs.getD 0 .any),VI (((o10.hO).cs.getD 1 .any).toInt)]] fun r11 o11=>.au ((o11.hO)=.cells (o11.hO).cs)<|.au (aM [.lk .sl,.lk (.int .i64)] ((o11.hO).cs) 0 1 o11.tail)<|NS r11<|.au (ae (mk [40,43,32])+ae r11.ay<=9223372036854775807)<|.au (ae (((mk [40,43,32]):ByteArray)++r11.ay)+ae (mk [32])<=9223372036854775807)<|.call 36 [.ref 0 0,a1,VI (IntKind.wrap .i64 (a2-1))] [.cells [((o11.hO).cs.getD 0 .any),VI (((o11.hO).cs.getD 1 .any).toInt)]] fun r12 o12=>.au ((o12.hO)=.cells (o12.hO).cs)<|.au (aM [.lk .sl,.lk (.int .i64)] ((o12.hO).cs) 0 1 o12.tail)<|NS r12<|.au (ae (((((mk [40,43,32]):ByteArray)++r11.ay):ByteArray)++(mk [32]))+ae r12.ay<=9223372036854775807)<|.au (ae (((((((mk [40,43,32]):ByteArray)++r11.ay):ByteArray)++(mk [32])):ByteArray)++r12.ay)+ae (mk [41])<=9223372036854775807)<|.done 0 [VS (((((((((mk [40,43,32]):ByteArray)++r11.ay):ByteArray)++(mk [32])):ByteArray)++r12.ay):ByteArray)++(mk [41]))] [.cells [((o12.hO).cs.getD 0 .any),VI (((o12.hO).cs.getD 1 .any).toInt)]]) (.test (r10.toInt==(1:Int)) (.call 36 [.ref 0 0,a1,VI (IntKind.wrap .i64 (a2-1))] [.cells [((o10.hO).cs.getD 0 .any),VI (((o10.hO).cs.getD 1 .any).toInt)]] fun r13 o13=>.au ((o13.hO)=.cells (o13.hO).cs)<|.au (aM [.lk .sl,.lk (.int .i64)] ((o13.hO).cs) 0 1 o13.tail)<|NS r13<|.au (ae (mk [40,43,32])+ae r13.ay<=9223372036854775807)<|.au (ae (((mk [40,43,32]):ByteArray)++r13.ay)+ae (mk [32])<=9223372036854775807)<|.call 36 [.ref 0 0,a1,VI (IntKind.wrap .i64 (a2-1))] [.cells [((o13.hO).cs.getD 0 .any),VI (((o13.hO).cs.getD 1 .any).toInt)]] fun r14 o14=>.au ((o14.hO)=.cells (o14.hO).cs)<|.au (aM [.lk .sl,.lk (.int .i64)] ((o14.hO).cs) 0 1 o14.tail)<|NS r14<|.au (ae (((((mk [40,43,32]):ByteArray)++r13.ay):ByteArray)++(mk [32]))+ae r14.ay<=9223372036854775807)<|.au (ae (((((((mk [40,43,32]):ByteArray)++r13.ay):ByteArray)++(mk [32])):ByteArray)++r14.ay)+ae (mk [41])<=9223372036854775807)<|.done 0 [VS (((((((((mk [40,43,32]):ByteArray)++r13.ay):ByteArray)++(mk [32])):ByteArray)++r14.ay):ByteArray)++(mk [41]))] [.cells [((o14.hO).cs.getD 0 .any),VI (((o14.hO).cs.getD 1 .any).toInt)]]) (.test (r10.toInt==(2:Int)) (.call 36 [.ref 0 0,a1,VI (IntKind.wrap .i64 (a2-1))] [.cells [((o10.hO).cs.getD 0 .any),VI (((o10.hO).cs.getD 1 .any).toInt)]] fun r15 o15=>.au ((o15.hO)=.cells (o15.hO).cs)<|.au (aM [.lk .sl,.lk (.int .i64)] ((o15.hO).cs) 0 1 o15.tail)<|NS r15<|.au (ae (mk [40,42,32])+ae r15.ay<=9223372036854775807)<|.au (ae (((mk [40,42,32]):ByteArray)++r15.ay)+ae (mk [32])<=9223372036854775807)<|.call 36 [.ref 0 0,a1,VI (IntKind.wrap .i64 (a2-1))] [.cells [((o15.hO).cs.getD 0 .any),VI (((o15.hO).cs.getD 1 .any).toInt)]] fun r16 o16=>.au ((o16.hO)=.cells (o16.hO).cs)<|.au (aM [.lk .sl,.lk (.int .i64)] ((o16.hO).cs) 0 1 o16.tail)<|NS r16<|.au (ae (((((mk [40,42,32]):ByteArray)++r15.ay):ByteArray)++(mk [32]))+ae r16.ay<=9223372036854775807)<|.au (ae (((((((mk [40,42,32]):ByteArray)++r15.ay):ByteArray)++(mk [32])):ByteArray)++r16.ay)+ae (mk [41])<=9223372036854775807)<|.done 0 [VS (((((((((mk [40,42,32]):ByteArray)++r15.ay):ByteArray)++(mk [32])):ByteArray)++r16.ay):ByteArray)++(mk [41]))] [.cells [((o16.hO).cs.getD 0 .any),VI (((o16.hO).cs.getD 1 .any).toInt)]]) (.test (r10.toInt==(3:Int)) (.call 36 [.ref 0 0,a1,VI (IntKind.wrap .i64 (a2-1))] [.cells [((o10.hO).cs.getD 0 .any),VI (((o10.hO).cs.getD 1 .any).toInt)]] fun r17 o17=>.au ((o17.hO)=.cells (o17.hO).cs)<|.au (aM [.lk .sl,.lk (.int .i64)] ((o17.hO).cs) 0 1 o17.tail)<|NS r17<|.au (ae (mk [40,42,32])+ae r17.ay<=9223372036854775807)<|.au (ae (((mk [40,42,32]):ByteArray)++r17.ay)+ae (mk [32])<=9223372036854775807)<|.call 36 [.ref 0 0,a1,VI (IntKind.wrap .i64 (a2-1))] [.cells [((o17.hO).cs.getD 0 .any),VI (((o17.hO).cs.getD 1 .any).toInt)]] fun r18 o18=>.au ((o18.hO)=.cells (o18.hO).cs)<|.au (aM [.lk .sl,.lk (.int .i64)] ((o18.hO).cs) 0 1 o18.tail)<|NS r18<|.au (ae (((((mk [40,42,32]):ByteArray)++r17.ay):ByteArray)++(mk [32]))+ae r18.ay<=9223372036854775807)<|.au (ae (((((((mk [40,42,32]):ByteArray)++r17.ay):ByteArray)++(mk [32])):ByteArray)++r18.ay)+ae (mk [41])<=9223372036854775807)<|.done 0 [VS (((((((((mk [40,42,32]):ByteArray)++r17.ay):ByteArray)++(mk [32])):ByteArray)++r18.ay):ByteArray)++(mk [41]))] [.cells [((o18.hO).cs.getD 0 .any),VI (((o18.hO).cs.getD 1 .any).toInt)]]) (.call 19 [.ref 0 0,.sl [[VS (mk [116])],[VS (mk [116,49])],[VS (mk [116,48])]]] [.cells [((o10.hO).cs.getD 0 .any),VI (((o10.hO).cs.getD 1 .any).toInt)]] fun r19 o19=>.au ((o19.hO)=.cells (o19.hO).cs)<|.au (aM [.lk .sl,.lk (.int .i64)] ((o19.hO).cs) 0 1 o19.tail)<|NS r19<|.au (ae (mk [40,114,101,99,32])+ae r19.ay<=9223372036854775807)<|.au (ae (((mk [40,114,101,99,32]):ByteArray)++r19.ay)+ae (mk [32,40,43,32,49,32])<=9223372036854775807)<|.call 55 [a1,VS r19.ay] [] fun r20 o20=>NL r20<|.call 36 [.ref 0 0,r20,VI (IntKind.wrap .i64 (a2-1))] [.cells [((o19.hO).cs.getD 0 .any),VI (((o19.hO).cs.getD 1 .any).toInt)]] fun r21 o21=>.au ((o21.hO)=.cells (o21.hO).cs)<|.au (aM [.lk .sl,.lk (.int .i64)] ((o21.hO).cs) 0 1 o21.tail)<|NS r21<|.au (ae (((((mk [40,114,101,99,32]):ByteArray)++r19.ay):ByteArray)++(mk [32,40,43,32,49,32]))+ae r21.ay<=9223372036854775807)<|.au (ae (((((((mk [40,114,101,99,32]):ByteArray)++r19.ay):ByteArray)++(mk [32,40,43,32,49,32])):ByteArray)++r21.ay)+ae (mk [41,41])<=9223372036854775807)<|.done 0 [VS (((((((((mk [40,114,101,99,32]):ByteArray)++r19.ay):ByteArray)++(mk [32,40,43,32,49,32])):ByteArray)++r21.ay):ByteArray)++(mk [41,41]))] [.cells [((o21.hO).cs.getD 0 .any),VI (((o21.hO).cs.getD 1 .any).toInt)]]))))))
theorem Aj(a0_0:AV)(a0_1:Int)(a1:AV)(a2:Int)(ha1:LK.has .sl a1)(ha0_0:LK.has .sl a0_0)(h:eB 82 (yg a0_0 a0_1 a1 a2) R):aC Tryd.prog 36 [.ref 0 0,a1,VI a2] [.cells [a0_0,VI a0_1]] R :=
 aC.qE (cf (cr (az (dF ha0_0) (az (aJ _) aS))) cO) (aC.up (az (aJ _) (az (dF ha1) (az (aJ _) aS))) (oF [] {mu:=[(0,.one (.obj [.lk .sl,.lk (.int .i64)]))],own:=[]} Tryd.f36 h))
def BQ(a0:ByteArray):Tree :=
 .test (decide ((ae a0:Int)>(8000:Int))) (.done 0 [.dm [.agg [VS (mk []),.v (.slice none 0 0)],VB false]] []) (.call 56 [VS a0,VI 0,VI 0] [] fun r1 o1=>NT r1<|.au ((r1.comp 0)=.agg (r1.comp 0).cs/\(r1.comp 0).cs.length=2/\dW [.str,.sl] ((r1.comp 0).cs) 0)<|NI (r1.comp 1)<|.done 0 [.dm [.agg [VS (((r1.comp 0).cs.getD 0 .any).ay),((r1.comp 0).cs.getD 1 .any)],VB (((r1.comp 1).toInt)==(ae a0:Int))]] [])
theorem CI(a0:ByteArray)(h:eB 20 (BQ a0) R):aC Tryd.prog 37 [VS a0] [] R :=
 uQ (az (aJ _) aS) (oQ [] Tryd.f37 h)
def y7(a0_0:ByteArray)(a0_1:AV):Tree :=
 .test (!(al a0_0==al (mk []))) (.test (al a0_0==al (mk [48])) (.done 0 [VB true] []) (.test (al a0_0==al (mk [49])) (.done 0 [VB true] []) (.call 57 [VS a0_0] [] fun r1 o1=>NB r1<|.test r1.toBool (.done 0 [VB true] []) (.call 58 [VS a0_0] [] fun r2 o2=>NB r2<|.done 0 [VB r2.toBool] [])))) (NL a0_1<|.test ((a0_1.aT.length:Int) != (3:Int)) (.done 0 [VB false] []) (.call 40 [.agg [VS a0_0,a0_1]] [] fun r3 o3=>NS r3<|.test (al r3.ay==al (mk [43])) (NG a0_1 1 2<|NE (a0_1.ix (1:Int))<|.call 38 [.agg [VS (((a0_1.ix (1:Int)).getD 0 .any).ay),((a0_1.ix (1:Int)).getD 1 .any)]] [] fun r4 o4=>NB r4<|.test r4.toBool (NG a0_1 2 2<|NE (a0_1.ix (2:Int))<|.call 38 [.agg [VS (((a0_1.ix (2:Int)).getD 0 .any).ay),((a0_1.ix (2:Int)).getD 1 .any)]] [] fun r5 o5=>NB r5<|.done 0 [VB r5.toBool] []) (.done 0 [VB false] [])) (.test (al r3.ay==al (mk [42])) (NG a0_1 1 2<|NE (a0_1.ix (1:Int))<|.call 38 [.agg [VS (((a0_1.ix (1:Int)).getD 0 .any).ay),((a0_1.ix (1:Int)).getD 1 .any)]] [] fun r6 o6=>NB r6<|.test r6.toBool (NG a0_1 2 2<|NE (a0_1.ix (2:Int))<|.call 38 [.agg [VS (((a0_1.ix (2:Int)).getD 0 .any).ay),((a0_1.ix (2:Int)).getD 1 .any)]] [] fun r7 o7=>NB r7<|.done 0 [VB r7.toBool] []) (.done 0 [VB false] [])) (.test (al r3.ay==al (mk [114,101,99])) (NG a0_1 1 2<|qj (a0_1.ix (1:Int))<|.call 58 [VS (((a0_1.ix (1:Int)).hA).ay)] [] fun r8 o8=>NB r8<|.test r8.toBool (NG a0_1 2 2<|NE (a0_1.ix (2:Int))<|.call 38 [.agg [VS (((a0_1.ix (2:Int)).getD 0 .any).ay),((a0_1.ix (2:Int)).getD 1 .any)]] [] fun r9 o9=>NB r9<|.done 0 [VB r9.toBool] []) (.done 0 [VB false] [])) (.done 0 [VB false] [])))))
theorem Bs(a0_0:ByteArray)(a0_1:AV)(ha0_1:LK.has .sl a0_1)(h:eB 60 (y7 a0_0 a0_1) R):aC Tryd.prog 38 [.agg [VS a0_0,a0_1]] [] R :=
 uQ (az (ol (az (aJ _) (az (dF ha0_1) aS))) aS) (oQ [] Tryd.f38 h)
def zk:LI:={hd:={cP:=[(3,.k (.int .i64)),(4,.k (.int .i64))],refs:=[(1,1)],cz:=[(1,[.lk .str,.lk .sl])]},xs:={cP:=[(3,.k (.int .i64))]},rt:={},ex:=0}
def BC:Code:=gD (gC Tryd.f39) 5
def Aa:List (Nat×LI):=[(5,zk)]
def yB(a0_0:ByteArray)(a0_1:AV):Tree :=
 .test (!(al a0_0==al (mk []))) (.done 0 [VI 1] []) (.loop BC zk [VI 0,VI 0] [.cells [VS a0_0,a0_1]] (fun y2 q2=>NI (y2.hA)<|.done 0 [VI ((y2.hA).toInt)] []) (fun y2 q2=>.done 0 [.any] []))
theorem AP(a0_0:ByteArray)(a0_1:AV)(ha0_1:LK.has .sl a0_1)(h:eB 24 (yB a0_0 a0_1) R):aC Tryd.prog 39 [.agg [VS a0_0,a0_1]] [] R :=
 uQ (az (ol (az (aJ _) (az (dF ha0_1) aS))) aS) (oQ Aa Tryd.f39 h)
def yx(x3:Int)(x4:Int)(o1_0:ByteArray)(o1_1:AV):Tree :=
 NI (VI x3)<|NI (VI x4)<|.au (Ob.cells [VS o1_0,o1_1]=.cells [VS o1_0,o1_1])<|.au (an [.lk .str,.lk .sl] [VS o1_0,o1_1] 0 [])<|NL o1_1<|.test (decide (x4<(o1_1.aT.length:Int))) (NG o1_1 x4 2<|NE (o1_1.ix x4)<|.call 39 [.agg [VS (((o1_1.ix x4).getD 0 .any).ay),((o1_1.ix x4).getD 1 .any)]] [] fun r1 o1=>NI r1<|.done 0 [VI (IntKind.wrap .i64 (x3+r1.toInt)),VI (IntKind.wrap .i64 (x4+1))] [.cells [VS o1_0,o1_1]]) (.done 1 [VI x3] [])
abbrev zn:=cV Tryd.prog 24 BC zk
theorem Bb(x3:Int)(x4:Int)(o1_0:ByteArray)(o1_1:AV)(h:vu 24 (yx x3 x4 o1_0 o1_1) zn U):zn [VI x3,VI x4] [.cells [VS o1_0,o1_1]] U :=
 gQ Aa h
def D1(a0_0:ByteArray)(a0_1:AV):Tree :=
 .test (!(al a0_0==al (mk []))) (.done 0 [VS (mk [])] []) (NL a0_1<|.test ((a0_1.aT.length:Int)==(0:Int)) (.done 0 [VS (mk [])] []) (NG a0_1 0 2<|qj (a0_1.ix (0:Int))<|.done 0 [VS (((a0_1.ix (0:Int)).hA).ay)] []))
theorem Cs(a0_0:ByteArray)(a0_1:AV)(ha0_1:LK.has .sl a0_1)(h:eB 17 (D1 a0_0 a0_1) R):aC Tryd.prog 40 [.agg [VS a0_0,a0_1]] [] R :=
 uQ (az (ol (az (aJ _) (az (dF ha0_1) aS))) aS) (oQ [] Tryd.f40 h)
def zd:LI:={hd:={cP:=[(0,.k .str),(1,.k (.int .i64)),(6,.k (.int .i64))]},xs:={cP:=[(0,.k .str),(1,.k (.int .i64)),(6,.k (.int .i64))]},rt:={},ex:=0}
def AL:Code:=gD (gC Tryd.f41) 2
def xT:LI:={hd:={cP:=[(0,.k .str),(1,.k (.int .i64)),(7,.k .str)],refs:=[(8,48)],cz:=[(48,[.lk .str,.vec 1])]},xs:={},rt:={cP:=[(4,.k .ptr),(5,.k .str)]},ex:=999}
def Bm:Code:=gD (gC Tryd.f41) 10
def yz:List (Nat×LI):=[(2,zd),(10,xT)]
def yO(a0:ByteArray)(a1:Int):Tree :=
 .loop AL zd [VS a0,VI a1,VI 0] [] (fun y2 q2=>NS (y2.hA)<|NI (y2.tail.hA)<|NI (y2.tail.tail.hA)<|.test (decide (((y2.tail.tail.hA).toInt)>(0:Int))) (.au (0<=(0:Int)/\(0:Int)<=((y2.tail.tail.hA).toInt)/\((y2.tail.tail.hA).toInt)<=(ae ((y2.hA).ay):Int))<|.au (0<=((y2.tail.tail.hA).toInt)/\((y2.tail.tail.hA).toInt)<=(ae ((y2.hA).ay):Int)/\(ae ((y2.hA).ay):Int)<=(ae ((y2.hA).ay):Int))<|.done 0 [.dm [.ptr [VS (br ((y2.hA).ay) (bw 0) (bw ((y2.tail.tail.hA).toInt))),.v (.slice none 0 0)],VS (br ((y2.hA).ay) (bw ((y2.tail.tail.hA).toInt)) (bw (ae ((y2.hA).ay):Int)))]] []) (.test (al ((y2.hA).ay)==al (mk [])) (.done 0 [.dm [.v (.pointer none),VS ((y2.hA).ay)]] []) (.au (0<=(0:Int)/\(0:Int)<ae ((y2.hA).ay))<|.test ((bt ((y2.hA).ay) 0) != (40:Int)) (.done 0 [.dm [.v (.pointer none),VS ((y2.hA).ay)]] []) (.test (((y2.tail.hA).toInt)==(300:Int)) (.done 0 [.dm [.v (.pointer none),VS ((y2.hA).ay)]] []) (.au (0<=(1:Int)/\(1:Int)<=(ae ((y2.hA).ay):Int)/\(ae ((y2.hA).ay):Int)<=(ae ((y2.hA).ay):Int))<|.loop Bm xT [VS ((y2.hA).ay),VI ((y2.tail.hA).toInt),VS (br ((y2.hA).ay) (bw 1) (bw (ae ((y2.hA).ay):Int)))] [.cells [VS (mk []),.any],.vec 1 []] (fun y5 q5=>.fail) (fun y5 q5=>NP (y5.hA)<|NS (y5.tail.hA)<|.done 0 [.dm [(y5.hA),VS ((y5.tail.hA).ay)]] [])))))) (fun y2 q2=>.done 0 [.dm [.any,.any]] [])
theorem Bp(a0:ByteArray)(a1:Int)(h:eB 84 (yO a0 a1) R):aC Tryd.prog 41 [VS a0,VI a1] [] R :=
 uQ (az (aJ _) (az (aJ _) aS)) (oQ yz Tryd.f41 h)
def yE(x0:ByteArray)(x1:Int)(x6:Int):Tree :=
 NS (VS x0)<|NI (VI x1)<|NI (VI x6)<|.test (decide (x6<(ae x0:Int))) (.au (0<=x6/\x6<ae x0)<|.call 59 [.v (.int .u8 (bt x0 x6))] [] fun r1 o1=>NB r1<|.test r1.toBool (.done 0 [VS x0,VI x1,VI (IntKind.wrap .i64 (x6+1))] []) (.done 1 [VS x0,VI x1,VI x6] [])) (.done 1 [VS x0,VI x1,VI x6] [])
abbrev y9:=cV Tryd.prog 84 AL zd
theorem Ae(x0:ByteArray)(x1:Int)(x6:Int)(h:vu 84 (yE x0 x1 x6) y9 U):y9 [VS x0,VI x1,VI x6] [] U :=
 gQ yz h
def BW(x0:ByteArray)(x1:Int)(x7:ByteArray)(o48_0:ByteArray)(o48_1:List (List AV)):Tree :=
 NS (VS x0)<|NI (VI x1)<|NS (VS x7)<|.au (Ob.cells [VS o48_0,.any]=.cells [VS o48_0,.any])<|.au (an [.lk .str,.vec 1] [VS o48_0,.any] 0 [.vec 1 o48_1])<|.call 41 [VS x7,VI (IntKind.wrap .i64 (x1+1))] [] fun r1 o1=>NT r1<|NP (r1.comp 0)<|NS (r1.comp 1)<|NP (r1.comp 0)<|.test ((r1.comp 0).isNil) (.done 2 [.v (.pointer none),VS x0] []) (.test (al ((r1.comp 1).ay)==al (mk [])) (.done 2 [.v (.pointer none),VS x0] []) (.au (db 1 [[(r1.comp 0)]]/\((o48_1.length)+([[(r1.comp 0)]]:List (List AV)).length)*8<=140737488355328)<|.au (0<=(1:Int)/\(1:Int)<=(ae ((r1.comp 1).ay):Int)/\(ae ((r1.comp 1).ay):Int)<=(ae ((r1.comp 1).ay):Int))<|.au (0<=(0:Int)/\(0:Int)<ae ((r1.comp 1).ay))<|.test ((bt ((r1.comp 1).ay) 0)==(41:Int)) (.done 2 [.ptr [VS o48_0,.sl (o48_1++([[(r1.comp 0)]]:List (List AV)))],VS (br ((r1.comp 1).ay) (bw 1) (bw (ae ((r1.comp 1).ay):Int)))] []) (.au (0<=(0:Int)/\(0:Int)<ae ((r1.comp 1).ay))<|.test ((bt ((r1.comp 1).ay) 0) != (32:Int)) (.done 2 [.v (.pointer none),VS x0] []) (.done 0 [VS x0,VI x1,VS (br ((r1.comp 1).ay) (bw 1) (bw (ae ((r1.comp 1).ay):Int)))] [.cells [VS o48_0,.any],.vec 1 (o48_1++([[(r1.comp 0)]]:List (List AV)))]))))
abbrev zD:=cV Tryd.prog 84 Bm xT
theorem CN(x0:ByteArray)(x1:Int)(x7:ByteArray)(o48_0:ByteArray)(o48_1:List (List AV))(h:vu 84 (BW x0 x1 x7 o48_0 o48_1) zD U):zD [VS x0,VI x1,VS x7] [.cells [VS o48_0,.any],.vec 1 o48_1] U :=
 gQ yz h
def C4(a0:AV)(a1:ByteArray)(a2:Int):Tree :=
 NZ a0<|NZ a0<|tz (a0.deref.drop 1)<|NL ((a0.deref.drop 1).hA)<|.test (((((a0.deref.drop 1).hA).aT).length:Int)==a2) (NZ a0<|NZ a0<|tz (a0.deref.drop 1)<|NG ((a0.deref.drop 1).hA) 0 1<|fL (((a0.deref.drop 1).hA).ix (0:Int))<|NZ ((((a0.deref.drop 1).hA).ix (0:Int)).hA)<|NZ ((((a0.deref.drop 1).hA).ix (0:Int)).hA)<|.au (LK.has .str (((((a0.deref.drop 1).hA).ix (0:Int)).hA).deref.hA)/\1<=(((((a0.deref.drop 1).hA).ix (0:Int)).hA).deref).length)<|.done 0 [VB (al ((((((a0.deref.drop 1).hA).ix (0:Int)).hA).deref.hA).ay)==al a1)] []) (.done 0 [VB false] [])
theorem Df(a0:AV)(a1:ByteArray)(a2:Int)(ha0:LK.has .ptr a0)(h:eB 27 (C4 a0 a1 a2) R):aC Tryd.prog 42 [a0,VS a1,VI a2] [] R :=
 uQ (az (cY ha0) (az (aJ _) (az (aJ _) aS))) (oQ [] Tryd.f42 h)
def Ab(a0_0:Int)(a0_1:Bool)(a1:AV):Tree :=
 .test a0_1 (.done 0 [.ptr [.v (.int .u8 48),VS (mk []),VI 0,.v (.pointer none),.v (.pointer none)]] [.cells [VI a0_0,VB true]]) (.call 28 [a1] [] fun r1 o1=>NI r1<|.test (decide (r1.toInt>(400:Int))) (.done 0 [.ptr [.v (.int .u8 48),VS (mk []),VI 0,.v (.pointer none),.v (.pointer none)]] [.cells [VI a0_0,VB true]]) (.done 0 [a1] [.cells [VI a0_0,VB a0_1]]))
theorem DV(a0_0:Int)(a0_1:Bool)(a1:AV)(ha1:LK.has .ptr a1)(h:eB 20 (Ab a0_0 a0_1 a1) R):aC Tryd.prog 45 [.ref 0 0,a1] [.cells [VI a0_0,VB a0_1]] R :=
 aC.qE (cf (cr (az (aJ _) (az (uV _) aS))) cO) (aC.up (az (aJ _) (az (cY ha1) aS)) (oF [] {mu:=[(0,.one (.obj [.lk (.int .i64),.lk .bool]))],own:=[]} Tryd.f45 h))
def z8(a0:Int)(a1:AV)(a2:AV):Tree :=
 .done 0 [.ptr [.v (.int .u8 a0),VS (mk []),VI 0,a1,a2]] []
theorem Cr(a0:Int)(a1:AV)(a2:AV)(ha1:LK.has .ptr a1)(ha2:LK.has .ptr a2)(h:eB 12 (z8 a0 a1 a2) R):aC Tryd.prog 46 [.v (.int .u8 a0),a1,a2] [] R :=
 uQ (az (aJ _) (az (cY ha1) (az (cY ha2) aS))) (oQ [] Tryd.f46 h)
def zW(a0_0:Int)(a0_1:Bool):Tree :=
 .call 52 [VI (IntKind.wrap .i64 (a0_0+1))] [] fun r1 o1=>NS r1<|.au (ae (mk [35])+ae r1.ay<=9223372036854775807)<|.done 0 [VS (((mk [35]):ByteArray)++r1.ay)] [.cells [VI (IntKind.wrap .i64 (a0_0+1)),VB a0_1]]
theorem CV(a0_0:Int)(a0_1:Bool)(h:eB 16 (zW a0_0 a0_1) R):aC Tryd.prog 47 [.ref 0 0] [.cells [VI a0_0,VB a0_1]] R :=
 aC.qE (cf (cr (az (aJ _) (az (uV _) aS))) cO) (aC.up (az (aJ _) aS) (oF [] {mu:=[(0,.one (.obj [.lk (.int .i64),.lk .bool]))],own:=[]} Tryd.f47 h))
def xr(a0:AV)(a1:AV)(a2:Int):Tree :=
 NZ a0<|NZ a0<|.au (LK.has (.int .u8) (a0.deref.hA)/\1<=a0.deref.length)<|.test (((a0.deref.hA).toInt)==(98:Int)) (NZ a0<|NZ a0<|.au (LK.has (.int .i64) ((a0.deref.drop 2).hA)/\1<=(a0.deref.drop 2).length)<|.test ((((a0.deref.drop 2).hA).toInt)==a2) (.done 0 [a1] []) (.done 0 [a0] [])) (.test (((a0.deref.hA).toInt)==(43:Int)) (NZ a0<|NZ a0<|.au (LK.has (.int .u8) (a0.deref.hA)/\1<=a0.deref.length)<|NZ a0<|NZ a0<|fL (a0.deref.drop 3)<|.call 48 [((a0.deref.drop 3).hA),a1,VI a2] [] fun r1 o1=>NP r1<|NZ a0<|NZ a0<|fL (a0.deref.drop 4)<|.call 48 [((a0.deref.drop 4).hA),a1,VI a2] [] fun r2 o2=>NP r2<|.done 0 [.ptr [.v (.int .u8 ((a0.deref.hA).toInt)),VS (mk []),VI 0,r1,r2]] []) (.test (((a0.deref.hA).toInt)==(42:Int)) (NZ a0<|NZ a0<|.au (LK.has (.int .u8) (a0.deref.hA)/\1<=a0.deref.length)<|NZ a0<|NZ a0<|fL (a0.deref.drop 3)<|.call 48 [((a0.deref.drop 3).hA),a1,VI a2] [] fun r3 o3=>NP r3<|NZ a0<|NZ a0<|fL (a0.deref.drop 4)<|.call 48 [((a0.deref.drop 4).hA),a1,VI a2] [] fun r4 o4=>NP r4<|.done 0 [.ptr [.v (.int .u8 ((a0.deref.hA).toInt)),VS (mk []),VI 0,r3,r4]] []) (.test (((a0.deref.hA).toInt)==(114:Int)) (NZ a0<|NZ a0<|fL (a0.deref.drop 3)<|.call 48 [((a0.deref.drop 3).hA),a1,VI (IntKind.wrap .i64 (a2+1))] [] fun r5 o5=>NP r5<|.done 0 [.ptr [.v (.int .u8 114),VS (mk []),VI 0,r5,.v (.pointer none)]] []) (.done 0 [a0] []))))
theorem xV(a0:AV)(a1:AV)(a2:Int)(ha0:LK.has .ptr a0)(ha1:LK.has .ptr a1)(h:eB 56 (xr a0 a1 a2) R):aC Tryd.prog 48 [a0,a1,VI a2] [] R :=
 uQ (az (cY ha0) (az (cY ha1) (az (aJ _) aS))) (oQ [] Tryd.f48 h)
def xF(a0:AV)(a1:ByteArray)(a2:AV):Tree :=
 NZ a0<|NZ a0<|.au (LK.has (.int .u8) (a0.deref.hA)/\1<=a0.deref.length)<|.test (((a0.deref.hA).toInt)==(110:Int)) (NZ a0<|NZ a0<|qj (a0.deref.drop 1)<|.test (al (((a0.deref.drop 1).hA).ay)==al a1) (.done 0 [a2] []) (.done 0 [a0] [])) (.test (((a0.deref.hA).toInt)==(43:Int)) (NZ a0<|NZ a0<|.au (LK.has (.int .u8) (a0.deref.hA)/\1<=a0.deref.length)<|NZ a0<|NZ a0<|fL (a0.deref.drop 3)<|.call 49 [((a0.deref.drop 3).hA),VS a1,a2] [] fun r1 o1=>NP r1<|NZ a0<|NZ a0<|fL (a0.deref.drop 4)<|.call 49 [((a0.deref.drop 4).hA),VS a1,a2] [] fun r2 o2=>NP r2<|.done 0 [.ptr [.v (.int .u8 ((a0.deref.hA).toInt)),VS (mk []),VI 0,r1,r2]] []) (.test (((a0.deref.hA).toInt)==(42:Int)) (NZ a0<|NZ a0<|.au (LK.has (.int .u8) (a0.deref.hA)/\1<=a0.deref.length)<|NZ a0<|NZ a0<|fL (a0.deref.drop 3)<|.call 49 [((a0.deref.drop 3).hA),VS a1,a2] [] fun r3 o3=>NP r3<|NZ a0<|NZ a0<|fL (a0.deref.drop 4)<|.call 49 [((a0.deref.drop 4).hA),VS a1,a2] [] fun r4 o4=>NP r4<|.done 0 [.ptr [.v (.int .u8 ((a0.deref.hA).toInt)),VS (mk []),VI 0,r3,r4]] []) (.test (((a0.deref.hA).toInt)==(114:Int)) (NZ a0<|NZ a0<|fL (a0.deref.drop 3)<|.call 49 [((a0.deref.drop 3).hA),VS a1,a2] [] fun r5 o5=>NP r5<|.done 0 [.ptr [.v (.int .u8 114),VS (mk []),VI 0,r5,.v (.pointer none)]] []) (.done 0 [a0] []))))
theorem yJ(a0:AV)(a1:ByteArray)(a2:AV)(ha0:LK.has .ptr a0)(ha2:LK.has .ptr a2)(h:eB 55 (xF a0 a1 a2) R):aC Tryd.prog 49 [a0,VS a1,a2] [] R :=
 uQ (az (cY ha0) (az (aJ _) (az (cY ha2) aS))) (oQ [] Tryd.f49 h)
def yY:LI:={hd:={cP:=[(0,.k .ptr),(1,.k .sl),(9,.k .str)],refs:=[(3,0),(4,1)],cz:=[(0,[.lk .sl]),(1,[.lk (.int .i64)])],p7:=[(2,50,[none,some 0,some 1])]},xs:={cP:=[(0,.k .ptr),(1,.k .sl),(9,.k .str)],cz:=[(0,[.lk .sl]),(1,[.lk (.int .i64)])],p7:=[(2,50,[none,some 0,some 1])]},rt:={cz:=[(0,[.lk .sl]),(1,[.lk (.int .i64)])]},ex:=1,fx:=[0,1]}
def BN:Code:=gD (gC Tryd.f50) 12
def B2:List (Nat×LI):=[(12,yY)]
def xJ(a0:AV)(a1:AV)(a3_0:AV)(a4_0:Int):Tree :=
 NZ a0<|NZ a0<|.au (LK.has (.int .u8) (a0.deref.hA)/\1<=a0.deref.length)<|.test (((a0.deref.hA).toInt)==(110:Int)) (NZ a0<|NZ a0<|qj (a0.deref.drop 1)<|.done 0 [VS (((a0.deref.drop 1).hA).ay)] [.cells [a3_0],.cells [VI a4_0]]) (.test (((a0.deref.hA).toInt)==(98:Int)) (NL a1<|NZ a0<|NZ a0<|.au (LK.has (.int .i64) ((a0.deref.drop 2).hA)/\1<=(a0.deref.drop 2).length)<|.au (LK.has .sl a1/\0<=(IntKind.wrap .i64 ((IntKind.wrap .i64 ((a1.aT.length:Int)-1))-(((a0.deref.drop 2).hA).toInt)))/\(IntKind.wrap .i64 ((IntKind.wrap .i64 ((a1.aT.length:Int)-1))-(((a0.deref.drop 2).hA).toInt)))<a1.aT.length/\(a1.ix (IntKind.wrap .i64 ((IntKind.wrap .i64 ((a1.aT.length:Int)-1))-(((a0.deref.drop 2).hA).toInt)))).length=1)<|qj (a1.ix (IntKind.wrap .i64 ((IntKind.wrap .i64 ((a1.aT.length:Int)-1))-(((a0.deref.drop 2).hA).toInt))))<|.done 0 [VS (((a1.ix (IntKind.wrap .i64 ((IntKind.wrap .i64 ((a1.aT.length:Int)-1))-(((a0.deref.drop 2).hA).toInt)))).hA).ay)] [.cells [a3_0],.cells [VI a4_0]]) (.test (((a0.deref.hA).toInt)==(43:Int)) (NZ a0<|NZ a0<|fL (a0.deref.drop 3)<|.call 50 [((a0.deref.drop 3).hA),a1,.ec 50 [none,some 0,some 1],.ref 0 0,.ref 1 0] [.cells [a3_0],.cells [VI a4_0]] fun r1 o1=>.au ((o1.hO)=.cells (o1.hO).cs)<|.au (aM [.lk .sl] ((o1.hO).cs) 0 1 o1.tail)<|.au ((o1.tail.hO)=.cells (o1.tail.hO).cs)<|.au (aM [.lk (.int .i64)] ((o1.tail.hO).cs) 0 2 o1.tail.tail)<|NS r1<|NZ a0<|NZ a0<|.au (LK.has (.int .u8) (a0.deref.hA)/\1<=a0.deref.length)<|.au (kl [[.v (.int .u8 ((a0.deref.hA).toInt))]])<|.au (ae (mk [40])+ae (⟨(bytesOf [[.v (.int .u8 ((a0.deref.hA).toInt))]]).toArray⟩)<=9223372036854775807)<|.au (ae (((mk [40]):ByteArray)++(⟨(bytesOf [[.v (.int .u8 ((a0.deref.hA).toInt))]]).toArray⟩))+ae (mk [32])<=9223372036854775807)<|.au (ae (((((mk [40]):ByteArray)++(⟨(bytesOf [[.v (.int .u8 ((a0.deref.hA).toInt))]]).toArray⟩)):ByteArray)++(mk [32]))+ae r1.ay<=9223372036854775807)<|.au (ae (((((((mk [40]):ByteArray)++(⟨(bytesOf [[.v (.int .u8 ((a0.deref.hA).toInt))]]).toArray⟩)):ByteArray)++(mk [32])):ByteArray)++r1.ay)+ae (mk [32])<=9223372036854775807)<|NZ a0<|NZ a0<|fL (a0.deref.drop 4)<|.call 50 [((a0.deref.drop 4).hA),a1,.ec 50 [none,some 0,some 1],.ref 0 0,.ref 1 0] [.cells [((o1.hO).cs.getD 0 .any)],.cells [VI (((o1.tail.hO).cs.getD 0 .any).toInt)]] fun r2 o2=>.au ((o2.hO)=.cells (o2.hO).cs)<|.au (aM [.lk .sl] ((o2.hO).cs) 0 1 o2.tail)<|.au ((o2.tail.hO)=.cells (o2.tail.hO).cs)<|.au (aM [.lk (.int .i64)] ((o2.tail.hO).cs) 0 2 o2.tail.tail)<|NS r2<|.au (ae (((((((((mk [40]):ByteArray)++(⟨(bytesOf [[.v (.int .u8 ((a0.deref.hA).toInt))]]).toArray⟩)):ByteArray)++(mk [32])):ByteArray)++r1.ay):ByteArray)++(mk [32]))+ae r2.ay<=9223372036854775807)<|.au (ae (((((((((((mk [40]):ByteArray)++(⟨(bytesOf [[.v (.int .u8 ((a0.deref.hA).toInt))]]).toArray⟩)):ByteArray)++(mk [32])):ByteArray)++r1.ay):ByteArray)++(mk [32])):ByteArray)++r2.ay)+ae (mk [41])<=9223372036854775807)<|.done 0 [VS (((((((((((((mk [40]):ByteArray)++(⟨(bytesOf [[.v (.int .u8 ((a0.deref.hA).toInt))]]).toArray⟩)):ByteArray)++(mk [32])):ByteArray)++r1.ay):ByteArray)++(mk [32])):ByteArray)++r2.ay):ByteArray)++(mk [41]))] [.cells [((o2.hO).cs.getD 0 .any)],.cells [VI (((o2.tail.hO).cs.getD 0 .any).toInt)]]) (.test (((a0.deref.hA).toInt)==(42:Int)) (NZ a0<|NZ a0<|fL (a0.deref.drop 3)<|.call 50 [((a0.deref.drop 3).hA),a1,.ec 50 [none,some 0,some 1],.ref 0 0,.ref 1 0] [.cells [a3_0],.cells [VI a4_0]] fun r3 o3=>.au ((o3.hO)=.cells (o3.hO).cs)<|.au (aM [.lk .sl] ((o3.hO).cs) 0 1 o3.tail)<|.au ((o3.tail.hO)=.cells (o3.tail.hO).cs)<|.au (aM [.lk (.int .i64)] ((o3.tail.hO).cs) 0 2 o3.tail.tail)<|NS r3<|NZ a0<|NZ a0<|.au (LK.has (.int .u8) (a0.deref.hA)/\1<=a0.deref.length)<|.au (kl [[.v (.int .u8 ((a0.deref.hA).toInt))]])<|.au (ae (mk [40])+ae (⟨(bytesOf [[.v (.int .u8 ((a0.deref.hA).toInt))]]).toArray⟩)<=9223372036854775807)<|.au (ae (((mk [40]):ByteArray)++(⟨(bytesOf [[.v (.int .u8 ((a0.deref.hA).toInt))]]).toArray⟩))+ae (mk [32])<=9223372036854775807)<|.au (ae (((((mk [40]):ByteArray)++(⟨(bytesOf [[.v (.int .u8 ((a0.deref.hA).toInt))]]).toArray⟩)):ByteArray)++(mk [32]))+ae r3.ay<=9223372036854775807)<|.au (ae (((((((mk [40]):ByteArray)++(⟨(bytesOf [[.v (.int .u8 ((a0.deref.hA).toInt))]]).toArray⟩)):ByteArray)++(mk [32])):ByteArray)++r3.ay)+ae (mk [32])<=9223372036854775807)<|NZ a0<|NZ a0<|fL (a0.deref.drop 4)<|.call 50 [((a0.deref.drop 4).hA),a1,.ec 50 [none,some 0,some 1],.ref 0 0,.ref 1 0] [.cells [((o3.hO).cs.getD 0 .any)],.cells [VI (((o3.tail.hO).cs.getD 0 .any).toInt)]] fun r4 o4=>.au ((o4.hO)=.cells (o4.hO).cs)<|.au (aM [.lk .sl] ((o4.hO).cs) 0 1 o4.tail)<|.au ((o4.tail.hO)=.cells (o4.tail.hO).cs)<|.au (aM [.lk (.int .i64)] ((o4.tail.hO).cs) 0 2 o4.tail.tail)<|NS r4<|.au (ae (((((((((mk [40]):ByteArray)++(⟨(bytesOf [[.v (.int .u8 ((a0.deref.hA).toInt))]]).toArray⟩)):ByteArray)++(mk [32])):ByteArray)++r3.ay):ByteArray)++(mk [32]))+ae r4.ay<=9223372036854775807)<|.au (ae (((((((((((mk [40]):ByteArray)++(⟨(bytesOf [[.v (.int .u8 ((a0.deref.hA).toInt))]]).toArray⟩)):ByteArray)++(mk [32])):ByteArray)++r3.ay):ByteArray)++(mk [32])):ByteArray)++r4.ay)+ae (mk [41])<=9223372036854775807)<|.done 0 [VS (((((((((((((mk [40]):ByteArray)++(⟨(bytesOf [[.v (.int .u8 ((a0.deref.hA).toInt))]]).toArray⟩)):ByteArray)++(mk [32])):ByteArray)++r3.ay):ByteArray)++(mk [32])):ByteArray)++r4.ay):ByteArray)++(mk [41]))] [.cells [((o4.hO).cs.getD 0 .any)],.cells [VI (((o4.tail.hO).cs.getD 0 .any).toInt)]]) (.test (((a0.deref.hA).toInt)==(114:Int)) (.loop BN yY [a0,a1,VS (mk [])] [.cells [a3_0],.cells [VI a4_0]] (fun y8 q8=>NP (y8.hA)<|NL (y8.tail.hA)<|NS (y8.tail.tail.hA)<|.au ((q8.hO)=.cells (q8.hO).cs)<|.au (an [.lk .sl] ((q8.hO).cs) 0 q8.tail)<|.au (((q8.tail.drop 0).hO)=.cells ((q8.tail.drop 0).hO).cs)<|.au (an [.lk (.int .i64)] (((q8.tail.drop 0).hO).cs) 0 ((q8.tail.drop 0).tail))<|.au (ae (mk [40,114,101,99,32])+ae ((y8.tail.tail.hA).ay)<=9223372036854775807)<|.au (ae (((mk [40,114,101,99,32]):ByteArray)++((y8.tail.tail.hA).ay))+ae (mk [32])<=9223372036854775807)<|NZ (y8.hA)<|NZ (y8.hA)<|fL ((y8.hA).deref.drop 3)<|.au (LK.has .sl (y8.tail.hA)/\db 1 ((y8.tail.hA).aT)/\((([]:List (List AV)).length)+((y8.tail.hA).aT).length)*16<=140737488355328)<|.au (db 1 [[VS ((y8.tail.tail.hA).ay)]]/\(((([]:List (List AV))++((y8.tail.hA).aT)).length)+([[VS ((y8.tail.tail.hA).ay)]]:List (List AV)).length)*16<=140737488355328)<|.call 50 [(((y8.hA).deref.drop 3).hA),.sl ((([]:List (List AV))++((y8.tail.hA).aT))++([[VS ((y8.tail.tail.hA).ay)]]:List (List AV))),.ec 50 [none,some 0,some 1],.ref 0 0,.ref 1 0] [.cells [((q8.hO).cs.getD 0 .any)],.cells [VI (((q8.tail.hO).cs.getD 0 .any).toInt)]] fun r9 o9=>.au ((o9.hO)=.cells (o9.hO).cs)<|.au (aM [.lk .sl] ((o9.hO).cs) 0 1 o9.tail)<|.au ((o9.tail.hO)=.cells (o9.tail.hO).cs)<|.au (aM [.lk (.int .i64)] ((o9.tail.hO).cs) 0 2 o9.tail.tail)<|NS r9<|.au (ae (((((mk [40,114,101,99,32]):ByteArray)++((y8.tail.tail.hA).ay)):ByteArray)++(mk [32]))+ae r9.ay<=9223372036854775807)<|.au (ae (((((((mk [40,114,101,99,32]):ByteArray)++((y8.tail.tail.hA).ay)):ByteArray)++(mk [32])):ByteArray)++r9.ay)+ae (mk [41])<=9223372036854775807)<|.done 0 [VS (((((((((mk [40,114,101,99,32]):ByteArray)++((y8.tail.tail.hA).ay)):ByteArray)++(mk [32])):ByteArray)++r9.ay):ByteArray)++(mk [41]))] [.cells [((o9.hO).cs.getD 0 .any)],.cells [VI (((o9.tail.hO).cs.getD 0 .any).toInt)]]) (fun y8 q8=>.au ((q8.hO)=.cells (q8.hO).cs)<|.au (an [.lk .sl] ((q8.hO).cs) 0 q8.tail)<|.au (((q8.tail.drop 0).hO)=.cells ((q8.tail.drop 0).hO).cs)<|.au (an [.lk (.int .i64)] (((q8.tail.drop 0).hO).cs) 0 ((q8.tail.drop 0).tail))<|.done 0 [.any] [.cells [((q8.hO).cs.getD 0 .any)],.cells [VI (((q8.tail.hO).cs.getD 0 .any).toInt)]])) (NZ a0<|NZ a0<|.au (LK.has (.int .u8) (a0.deref.hA)/\1<=a0.deref.length)<|.au (kl [[.v (.int .u8 ((a0.deref.hA).toInt))]])<|.done 0 [VS (⟨(bytesOf [[.v (.int .u8 ((a0.deref.hA).toInt))]]).toArray⟩)] [.cells [a3_0],.cells [VI a4_0]])))))
theorem ye(a0:AV)(a1:AV)(a3_0:AV)(a4_0:Int)(ha0:LK.has .ptr a0)(ha1:LK.has .sl a1)(ha3_0:LK.has .sl a3_0)(h:eB 100 (xJ a0 a1 a3_0 a4_0) R):aC Tryd.prog 50 [a0,a1,.ec 50 [none,some 0,some 1],.ref 0 0,.ref 1 0] [.cells [a3_0],.cells [VI a4_0]] R :=
 aC.qE (cf (cr (az (dF ha3_0) aS)) (cf (cr (az (aJ _) aS)) cO)) (aC.up (az (cY ha0) (az (dF ha1) (az (aJ _) (az (aJ _) (az (aJ _) aS))))) (oF B2 {mu:=[(2,.zi 50 [none,some 0,some 1]),(3,.one (.obj [.lk .sl])),(4,.one (.obj [.lk (.int .i64)]))],own:=[]} Tryd.f50 h))
def yr(x0:AV)(x1:AV)(x9:ByteArray)(o0_0:AV)(o1_0:Int):Tree :=
 NP x0<|NL x1<|NS (VS x9)<|.au (Ob.cells [o0_0]=.cells [o0_0])<|.au (an [.lk .sl] [o0_0] 0 [.cells [VI o1_0]])<|.au (Ob.cells [VI o1_0]=.cells [VI o1_0])<|.au (an [.lk (.int .i64)] [VI o1_0] 0 [])<|.test (al x9==al (mk [])) (.call 52 [VI o1_0] [] fun r1 o1=>NS r1<|.au (ae (mk [116])+ae r1.ay<=9223372036854775807)<|.done 0 [x0,x1,VS (((mk [116]):ByteArray)++r1.ay)] [.cells [o0_0],.cells [VI (IntKind.wrap .i64 (o1_0+1))]]) (.call 51 [o0_0,VS x9] [] fun r2 o2=>NB r2<|.test r2.toBool (.call 52 [VI o1_0] [] fun r3 o3=>NS r3<|.au (ae (mk [116])+ae r3.ay<=9223372036854775807)<|.done 0 [x0,x1,VS (((mk [116]):ByteArray)++r3.ay)] [.cells [o0_0],.cells [VI (IntKind.wrap .i64 (o1_0+1))]]) (.done 1 [x0,x1,VS x9] [.cells [o0_0],.cells [VI o1_0]]))
abbrev Ck:=cV Tryd.prog 100 BN yY
theorem Bw(x0:AV)(x1:AV)(x9:ByteArray)(o0_0:AV)(o1_0:Int)(h:vu 100 (yr x0 x1 x9 o0_0 o1_0) Ck U):Ck [x0,x1,VS x9] [.cells [o0_0],.cells [VI o1_0]] U :=
 gQ B2 h
def Ac(a0:AV)(a1:ByteArray):Tree :=
 .call 68 [a0,VS a1] [] fun r1 o1=>NI r1<|.done 0 [VB (decide (r1.toInt≥(0:Int)))] []
theorem Cl(a0:AV)(a1:ByteArray)(ha0:LK.has .sl a0)(h:eB 9 (Ac a0 a1) R):aC Tryd.prog 51 [a0,VS a1] [] R :=
 uQ (az (dF ha0) (az (aJ _) aS)) (oQ [] Tryd.f51 h)
def yl:LI:={hd:={cP:=[(0,.k .sl),(1,.c (.func (.func 34) #[] #[])),(7,.k (.int .i64)),(8,.k (.int .i64))]},xs:={},rt:={cP:=[(4,.k (.int .i64))]},ex:=0}
def A1:Code:=gD (gC Tryd.f53) 2
def Az:List (Nat×LI):=[(2,yl)]
def Aq(a0:AV):Tree :=
 NL a0<|.loop A1 yl [a0,.v (.func (.func 34) #[] #[]),VI (a0.aT.length:Int),VI 0] [] (fun y2 q2=>.done 0 [VI (-1)] []) (fun y2 q2=>NI (y2.hA)<|.done 0 [VI ((y2.hA).toInt)] [])
theorem DF(a0:AV)(ha0:LK.has .sl a0)(h:eB 19 (Aq a0) R):aC Tryd.prog 53 [a0,.v (.func (.func 34) #[] #[])] [] R :=
 uQ (az (dF ha0) (az (aJ _) aS)) (oQ Az Tryd.f53 h)
def ym(x0:AV)(x7:Int)(x8:Int):Tree :=
 NL x0<|.au (AV.v (.func (.func 34) #[] #[])=.v (.func (.func 34) #[] #[]))<|NI (VI x7)<|NI (VI x8)<|.test (decide (x8<x7)) (NG x0 x8 1<|qj (x0.ix x8)<|.call 34 [VS (((x0.ix x8).hA).ay)] [] fun r1 o1=>NB r1<|.test r1.toBool (.done 2 [VI x8] []) (.done 0 [x0,.v (.func (.func 34) #[] #[]),VI x7,VI (IntKind.wrap .i64 (x8+1))] [])) (.done 1 [] [])
abbrev xS:=cV Tryd.prog 19 A1 yl
theorem Ax(x0:AV)(x7:Int)(x8:Int)(h:vu 19 (ym x0 x7 x8) xS U):xS [x0,.v (.func (.func 34) #[] #[]),VI x7,VI x8] [] U :=
 gQ Az h
def zy(a0:AV)(e1_0:List (List AV)):Tree :=
 NZ a0<|NZ a0<|.au (LK.has (.int .u8) (a0.deref.hA)/\1<=a0.deref.length)<|.test (((a0.deref.hA).toInt)==(110:Int)) (NZ a0<|NZ a0<|qj (a0.deref.drop 1)<|.call 51 [.sl e1_0,VS (((a0.deref.drop 1).hA).ay)] [] fun r1 o1=>NB r1<|.test (!r1.toBool) (NZ a0<|NZ a0<|qj (a0.deref.drop 1)<|.au (db 1 [[VS (((a0.deref.drop 1).hA).ay)]]/\((e1_0.length)+([[VS (((a0.deref.drop 1).hA).ay)]]:List (List AV)).length)*16<=140737488355328)<|.done 0 [.any] [.cells [.vec 1],.vec 1 (e1_0++([[VS (((a0.deref.drop 1).hA).ay)]]:List (List AV)))]) (.done 0 [.any] [.cells [.vec 1],.vec 1 e1_0])) (.done 0 [.any] [.cells [.vec 1],.vec 1 e1_0])
theorem DL(a0:AV)(e1_0:List (List AV))(ha0:LK.has .ptr a0)(h:eB 24 (zy a0 e1_0) R):aC Tryd.prog 54 [a0,.ref 0 0] [.cells [.vec 1],.vec 1 e1_0] R :=
 aC.qE (cf (cr (az (aJ _) aS)) (cf (p5 _) cO)) (aC.up (az (cY ha0) (az (aJ _) aS)) (oF [] {mu:=[(1,.one (.obj [.vec 1]))],own:=[]} Tryd.f54 h))
def Bj(a0:AV)(a1:ByteArray):Tree :=
 .au (LK.has .sl a0/\db 1 a0.aT/\((([]:List (List AV)).length)+a0.aT.length)*16<=140737488355328)<|.au (db 1 [[VS a1]]/\(((([]:List (List AV))++a0.aT).length)+([[VS a1]]:List (List AV)).length)*16<=140737488355328)<|.done 0 [.sl ((([]:List (List AV))++a0.aT)++([[VS a1]]:List (List AV)))] []
theorem Cx(a0:AV)(a1:ByteArray)(ha0:LK.has .sl a0)(h:eB 11 (Bj a0 a1) R):aC Tryd.prog 55 [a0,VS a1] [] R :=
 uQ (az (dF ha0) (az (aJ _) aS)) (oQ [] Tryd.f55 h)
def yy:LI:={hd:={cP:=[(0,.k .str),(1,.k (.int .i64)),(9,.k (.int .i64))],refs:=[(6,6),(8,8)],cz:=[(6,[.lk .str,.lk .sl]),(8,[.lk .str,.lk .sl])]},xs:={cP:=[(0,.k .str),(1,.k (.int .i64)),(9,.k (.int .i64))],refs:=[(6,6),(8,8)],cz:=[(6,[.lk .str,.lk .sl]),(8,[.lk .str,.lk .sl])]},rt:={},ex:=0}
def AI:Code:=gD (gC Tryd.f56) 6
def yK:LI:={hd:={cP:=[(0,.k .str),(1,.k (.int .i64)),(2,.k (.int .i64))],refs:=[(6,6),(8,8)],cz:=[(6,[.lk .str,.lk .sl]),(8,[.lk .str,.vec 2])]},xs:={},rt:={cP:=[(7,.k (.int .i64))],refs:=[(6,6)],cz:=[(6,[.lk .str,.vec 2])]},ex:=999}
def BM:Code:=gD (gC Tryd.f56) 12
def yb:List (Nat×LI):=[(6,yy),(12,yK)]
def xY(a0:ByteArray)(a1:Int)(a2:Int):Tree :=
 .test (decide (a2>(300:Int))) (.done 0 [.dm [.agg [VS (mk []),.v (.slice none 0 0)],VI (-1)]] []) (.test (decide (a1≥(ae a0:Int))) (.done 0 [.dm [.agg [VS (mk []),.v (.slice none 0 0)],VI (-1)]] []) (.au (0<=a1/\a1<ae a0)<|.test ((bt a0 a1) != (40:Int)) (.loop AI yy [VS a0,VI a1,VI a1] [.cells [VS (mk []),.v (.slice none 0 0)],.cells [VS (mk []),.v (.slice none 0 0)]] (fun y2 q2=>NS (y2.hA)<|NI (y2.tail.hA)<|NI (y2.tail.tail.hA)<|.au ((q2.hO)=.cells (q2.hO).cs)<|.au (an [.lk .str,.lk .sl] ((q2.hO).cs) 0 q2.tail)<|.au (((q2.tail.drop 0).hO)=.cells ((q2.tail.drop 0).hO).cs)<|.au (an [.lk .str,.lk .sl] (((q2.tail.drop 0).hO).cs) 0 ((q2.tail.drop 0).tail))<|.au (0<=((y2.tail.tail.hA).toInt)/\((y2.tail.tail.hA).toInt)<=((y2.tail.hA).toInt)/\((y2.tail.hA).toInt)<=(ae ((y2.hA).ay):Int))<|.test (al (br ((y2.hA).ay) (bw ((y2.tail.tail.hA).toInt)) (bw ((y2.tail.hA).toInt)))==al (mk [])) (.done 0 [.dm [.agg [VS (br ((y2.hA).ay) (bw ((y2.tail.tail.hA).toInt)) (bw ((y2.tail.hA).toInt))),((q2.tail.hO).cs.getD 1 .any)],VI (-1)]] []) (.done 0 [.dm [.agg [VS (br ((y2.hA).ay) (bw ((y2.tail.tail.hA).toInt)) (bw ((y2.tail.hA).toInt))),((q2.tail.hO).cs.getD 1 .any)],VI ((y2.tail.hA).toInt)]] [])) (fun y2 q2=>.fail)) (.loop BM yK [VS a0,VI a1,VI a2] [.cells [VS (mk []),.v (.slice none 0 0)],.cells [VS (mk []),.any],.vec 2 []] (fun y5 q5=>.fail) (fun y5 q5=>NI (y5.hA)<|.au ((q5.hO)=.cells (q5.hO).cs)<|.au (an [.lk .str,.vec 2] ((q5.hO).cs) 0 q5.tail)<|.done 0 [.dm [.agg [VS (((q5.hO).cs.getD 0 .any).ay),.sl ((q5.tail.hO).es)],VI ((y5.hA).toInt)]] []))))
theorem AD(a0:ByteArray)(a1:Int)(a2:Int)(h:eB 87 (xY a0 a1 a2) R):aC Tryd.prog 56 [VS a0,VI a1,VI a2] [] R :=
 uQ (az (aJ _) (az (aJ _) (az (aJ _) aS))) (oQ yb Tryd.f56 h)
def zm(x0:ByteArray)(x1:Int)(x9:Int)(o6_0:ByteArray)(o6_1:AV)(o8_0:ByteArray)(o8_1:AV):Tree :=
 NS (VS x0)<|NI (VI x1)<|NI (VI x9)<|.au (Ob.cells [VS o6_0,o6_1]=.cells [VS o6_0,o6_1])<|.au (an [.lk .str,.lk .sl] [VS o6_0,o6_1] 0 [.cells [VS o8_0,o8_1]])<|.au (Ob.cells [VS o8_0,o8_1]=.cells [VS o8_0,o8_1])<|.au (an [.lk .str,.lk .sl] [VS o8_0,o8_1] 0 [])<|.test (decide (x1<(ae x0:Int))) (.au (0<=x1/\x1<ae x0)<|.call 70 [.v (.int .u8 (bt x0 x1))] [] fun r1 o1=>NB r1<|.test r1.toBool (.done 0 [VS x0,VI (IntKind.wrap .i64 (x1+1)),VI x9] [.cells [VS o6_0,o6_1],.cells [VS o8_0,o8_1]]) (.done 1 [VS x0,VI x1,VI x9] [.cells [VS o6_0,o6_1],.cells [VS o8_0,o8_1]])) (.done 1 [VS x0,VI x1,VI x9] [.cells [VS o6_0,o6_1],.cells [VS o8_0,o8_1]])
abbrev za:=cV Tryd.prog 87 AI yy
theorem AN(x0:ByteArray)(x1:Int)(x9:Int)(o6_0:ByteArray)(o6_1:AV)(o8_0:ByteArray)(o8_1:AV)(h:vu 87 (zm x0 x1 x9 o6_0 o6_1 o8_0 o8_1) za U):za [VS x0,VI x1,VI x9] [.cells [VS o6_0,o6_1],.cells [VS o8_0,o8_1]] U :=
 gQ yb h
def AF(x0:ByteArray)(x1:Int)(x2:Int)(o6_0:ByteArray)(o6_1:AV)(o8_0:ByteArray)(o8_1:List (List AV)):Tree :=
 NS (VS x0)<|NI (VI x1)<|NI (VI x2)<|.au (Ob.cells [VS o6_0,o6_1]=.cells [VS o6_0,o6_1])<|.au (an [.lk .str,.lk .sl] [VS o6_0,o6_1] 0 [.cells [VS o8_0,.any],.vec 2 o8_1])<|.au (Ob.cells [VS o8_0,.any]=.cells [VS o8_0,.any])<|.au (an [.lk .str,.vec 2] [VS o8_0,.any] 0 [.vec 2 o8_1])<|.call 56 [VS x0,VI (IntKind.wrap .i64 (x1+1)),VI (IntKind.wrap .i64 (x2+1))] [] fun r1 o1=>NT r1<|.au ((r1.comp 0)=.agg (r1.comp 0).cs/\(r1.comp 0).cs.length=2/\dW [.str,.sl] ((r1.comp 0).cs) 0)<|NI (r1.comp 1)<|.test (decide (((r1.comp 1).toInt)<(0:Int))) (.done 2 [VI (-1)] [.cells [VS o8_0,.any],.vec 2 o8_1]) (.test (decide (((r1.comp 1).toInt)≥(ae x0:Int))) (.done 2 [VI (-1)] [.cells [VS o8_0,.any],.vec 2 o8_1]) (.au (db 2 [[VS (((r1.comp 0).cs.getD 0 .any).ay),((r1.comp 0).cs.getD 1 .any)]]/\((o8_1.length)+([[VS (((r1.comp 0).cs.getD 0 .any).ay),((r1.comp 0).cs.getD 1 .any)]]:List (List AV)).length)*40<=140737488355328)<|.au (0<=((r1.comp 1).toInt)/\((r1.comp 1).toInt)<ae x0)<|.test ((bt x0 ((r1.comp 1).toInt))==(41:Int)) (.done 2 [VI (IntKind.wrap .i64 (((r1.comp 1).toInt)+1))] [.cells [VS o8_0,.any],.vec 2 (o8_1++([[VS (((r1.comp 0).cs.getD 0 .any).ay),((r1.comp 0).cs.getD 1 .any)]]:List (List AV)))]) (.au (0<=((r1.comp 1).toInt)/\((r1.comp 1).toInt)<ae x0)<|.test ((bt x0 ((r1.comp 1).toInt)) != (32:Int)) (.done 2 [VI (-1)] [.cells [VS o8_0,.any],.vec 2 (o8_1++([[VS (((r1.comp 0).cs.getD 0 .any).ay),((r1.comp 0).cs.getD 1 .any)]]:List (List AV)))]) (.done 0 [VS x0,VI ((r1.comp 1).toInt),VI x2] [.cells [VS o6_0,o6_1],.cells [VS o8_0,.any],.vec 2 (o8_1++([[VS (((r1.comp 0).cs.getD 0 .any).ay),((r1.comp 0).cs.getD 1 .any)]]:List (List AV)))]))))
abbrev yc:=cV Tryd.prog 87 BM yK
theorem DW(x0:ByteArray)(x1:Int)(x2:Int)(o6_0:ByteArray)(o6_1:AV)(o8_0:ByteArray)(o8_1:List (List AV))(h:vu 87 (AF x0 x1 x2 o6_0 o6_1 o8_0 o8_1) yc U):yc [VS x0,VI x1,VI x2] [.cells [VS o6_0,o6_1],.cells [VS o8_0,.any],.vec 2 o8_1] U :=
 gQ yb h
def zX(a0:ByteArray):Tree :=
 .call 71 [VS a0,.v (.int .u8 120),.v (.int .u8 122)] [] fun r1 o1=>NB r1<|.done 0 [VB r1.toBool] []
theorem CO(a0:ByteArray)(h:eB 5 (zX a0) R):aC Tryd.prog 57 [VS a0] [] R :=
 uQ (az (aJ _) aS) (oQ [] Tryd.f57 h)
def BK(a0:ByteArray):Tree :=
 .call 71 [VS a0,.v (.int .u8 116),.v (.int .u8 116)] [] fun r1 o1=>NB r1<|.done 0 [VB r1.toBool] []
theorem Dj(a0:ByteArray)(h:eB 5 (BK a0) R):aC Tryd.prog 58 [VS a0] [] R :=
 uQ (az (aJ _) aS) (oQ [] Tryd.f58 h)
def Br(a0:Int):Tree :=
 .test (decide (a0≥(97:Int))) (.test (decide (a0<=(122:Int))) (.done 0 [VB true] []) (.test (decide (a0≥(48:Int))) (.test (decide (a0<=(57:Int))) (.done 0 [VB true] []) (.test (a0==(43:Int)) (.done 0 [VB true] []) (.done 0 [VB (a0==(42:Int))] []))) (.test (a0==(43:Int)) (.done 0 [VB true] []) (.done 0 [VB (a0==(42:Int))] [])))) (.test (decide (a0≥(48:Int))) (.test (decide (a0<=(57:Int))) (.done 0 [VB true] []) (.test (a0==(43:Int)) (.done 0 [VB true] []) (.done 0 [VB (a0==(42:Int))] []))) (.test (a0==(43:Int)) (.done 0 [VB true] []) (.done 0 [VB (a0==(42:Int))] [])))
theorem Dt(a0:Int)(h:eB 25 (Br a0) R):aC Tryd.prog 59 [.v (.int .u8 a0)] [] R :=
 uQ (az (aJ _) aS) (oQ [] Tryd.f59 h)
def yR:LI:={hd:={cP:=[(0,.k .sl),(1,.k .str),(7,.k (.int .i64)),(8,.k (.int .i64))]},xs:={},rt:={cP:=[(4,.k (.int .i64))]},ex:=0}
def BE:Code:=gD (gC Tryd.f68) 2
def BV:List (Nat×LI):=[(2,yR)]
def Bl(a0:AV)(a1:ByteArray):Tree :=
 NL a0<|.loop BE yR [a0,VS a1,VI (a0.aT.length:Int),VI 0] [] (fun y1 q1=>.done 0 [VI (-1)] []) (fun y1 q1=>NI (y1.hA)<|.done 0 [VI ((y1.hA).toInt)] [])
theorem Cz(a0:AV)(a1:ByteArray)(ha0:LK.has .sl a0)(h:eB 19 (Bl a0 a1) R):aC Tryd.prog 68 [a0,VS a1] [] R :=
 uQ (az (dF ha0) (az (aJ _) aS)) (oQ BV Tryd.f68 h)
def zu(x0:AV)(x1:ByteArray)(x7:Int)(x8:Int):Tree :=
 NL x0<|NS (VS x1)<|NI (VI x7)<|NI (VI x8)<|.test (decide (x8<x7)) (NG x0 x8 1<|qj (x0.ix x8)<|.test (al x1==al (((x0.ix x8).hA).ay)) (.done 2 [VI x8] []) (.done 0 [x0,VS x1,VI x7,VI (IntKind.wrap .i64 (x8+1))] [])) (.done 1 [] [])
abbrev yk:=cV Tryd.prog 19 BE yR
theorem Af(x0:AV)(x1:ByteArray)(x7:Int)(x8:Int)(h:vu 19 (zu x0 x1 x7 x8) yk U):yk [x0,VS x1,VI x7,VI x8] [] U :=
 gQ BV h
def BG(a0:Int):Tree :=
 .test (decide (a0≥(97:Int))) (.test (decide (a0<=(122:Int))) (.done 0 [VB true] []) (.test (decide (a0≥(48:Int))) (.test (decide (a0<=(57:Int))) (.done 0 [VB true] []) (.test (a0==(42:Int)) (.done 0 [VB true] []) (.done 0 [VB (a0==(43:Int))] []))) (.test (a0==(42:Int)) (.done 0 [VB true] []) (.done 0 [VB (a0==(43:Int))] [])))) (.test (decide (a0≥(48:Int))) (.test (decide (a0<=(57:Int))) (.done 0 [VB true] []) (.test (a0==(42:Int)) (.done 0 [VB true] []) (.done 0 [VB (a0==(43:Int))] []))) (.test (a0==(42:Int)) (.done 0 [VB true] []) (.done 0 [VB (a0==(43:Int))] [])))
theorem DO(a0:Int)(h:eB 25 (BG a0) R):aC Tryd.prog 70 [.v (.int .u8 a0)] [] R :=
 uQ (az (aJ _) aS) (oQ [] Tryd.f70 h)
def yM:LI:={hd:={cP:=[(0,.k .str),(7,.k (.int .i64))]},xs:={},rt:={cP:=[(6,.k .bool)]},ex:=0}
def A8:Code:=gD (gC Tryd.f71) 4
def A0:List (Nat×LI):=[(4,yM)]
def Ak(a0:ByteArray)(a1:Int)(a2:Int):Tree :=
 .call 78 [VI (ae a0:Int),VI 1,VI 3] [] fun r1 o1=>NB r1<|.test (!r1.toBool) (.done 0 [VB false] []) (.au (0<=(0:Int)/\(0:Int)<ae a0)<|.test (decide ((bt a0 0)<a1)) (.done 0 [VB false] []) (.au (0<=(0:Int)/\(0:Int)<ae a0)<|.test (decide ((bt a0 0)>a2)) (.done 0 [VB false] []) (.loop A8 yM [VS a0,VI 1] [] (fun y2 q2=>.done 0 [VB true] []) (fun y2 q2=>NB (y2.hA)<|.done 0 [VB ((y2.hA).toBool)] []))))
theorem Dp(a0:ByteArray)(a1:Int)(a2:Int)(h:eB 40 (Ak a0 a1 a2) R):aC Tryd.prog 71 [VS a0,.v (.int .u8 a1),.v (.int .u8 a2)] [] R :=
 uQ (az (aJ _) (az (aJ _) (az (aJ _) aS))) (oQ A0 Tryd.f71 h)
def xW(x0:ByteArray)(x7:Int):Tree :=
 NS (VS x0)<|NI (VI x7)<|.test (decide (x7<(ae x0:Int))) (.au (0<=x7/\x7<ae x0)<|.test (decide ((bt x0 x7)<(48:Int))) (.done 2 [VB false] []) (.au (0<=x7/\x7<ae x0)<|.test (decide ((bt x0 x7)>(57:Int))) (.done 2 [VB false] []) (.done 0 [VS x0,VI (IntKind.wrap .i64 (x7+1))] []))) (.done 1 [] [])
abbrev xU:=cV Tryd.prog 40 A8 yM
theorem A2(x0:ByteArray)(x7:Int)(h:vu 40 (xW x0 x7) xU U):xU [VS x0,VI x7] [] U :=
 gQ A0 h
def AG(a0:Int)(a1:Int)(a2:Int):Tree :=
 .test (decide (a0≥a1)) (.done 0 [VB (decide (a0<=a2))] []) (.done 0 [VB false] [])
theorem Cw(a0:Int)(a1:Int)(a2:Int)(h:eB 15 (AG a0 a1 a2) R):aC Tryd.prog 78 [VI a0,VI a1,VI a2] [] R :=
 uQ (az (aJ _) (az (aJ _) (az (aJ _) aS))) (oQ [] Tryd.f78 h)
end
end Go.Proofs.Trees
namespace Go.Proofs.Trees
open Go Go.VL
theorem cK(i:Nat)(h:i<1000000000000):IntKind.wrap .i64 ((i:Int)+1)=((i+1:Nat):Int):=by rw[wrap64]<;>omega
inductive E where
 |atom (s:List UInt8)
 |list (l:List E)
mutual
def E.iF:E->AV
 | .atom s=>.ptr [.v (.string (mk s)),.v (.slice none 0 0)]
 | .list l=>.ptr [.v (.string (mk [])),.sl (E.lP l)]
def E.lP:List E->List (List AV)
 |[]=>[]
 |e::l=>[e.iF]::E.lP l
end
mutual
def E.fG:E->List AV
 | .atom s=>[.v (.string (mk s)),.v (.slice none 0 0)]
 | .list l=>[.v (.string (mk [])),.sl (E.bM l)]
def E.bM:List E->List (List AV)
 |[]=>[]
 |e::l=>e.fG::E.bM l
end
def E.oH(e:E):AV:=.agg e.fG
theorem qd(l r:List E):E.lP (l++r)=E.lP l++E.lP r:=by
 induction l with
 |nil=>rfl
 |cons e l ih=>simp[E.lP,ih]
theorem lD(l r:List E):E.bM (l++r)=E.bM l++E.bM r:=by
 induction l with
 |nil=>rfl
 |cons e l ih=>simp[E.bM,ih]
theorem pi(l:List E):(E.lP l).length=l.length:=by
 induction l with
 |nil=>rfl
 |cons e l ih=>simp[E.lP,ih]
theorem iI(l:List E):(E.bM l).length=l.length:=by
 induction l with
 |nil=>rfl
 |cons e l ih=>simp[E.bM,ih]
def c0(b:UInt8):Bool:=decide ((97<=b.toNat/\b.toNat<=122)\/(48<=b.toNat/\b.toNat<=57)\/b.toNat=43\/b.toNat=42)
def nf(f:List UInt8->Option (E×List UInt8)):Nat->List UInt8->List E->Option (E×List UInt8)
 |0,_,_=>none
 |
  n+1,s,acc=>match f s with
  |some (p,c::r)=>if c.toNat=41 then some (.list (acc++[p]),r)else if c.toNat=32 then nf f n r (acc++[p])else none
  |_=>none
def rd:Nat->List UInt8->Option (E×List UInt8)
 |0,s=>if s.takeWhile c0=[]then none else some (.atom (s.takeWhile c0),s.dropWhile c0)
 |k+1,s=>if s.takeWhile c0=[]then(match s with
  |c::r=>if c.toNat=40 then nf (rd k) (r.length+1) r []else none
  |[]=>none)else some (.atom (s.takeWhile c0),s.dropWhile c0)
theorem tF{f:List UInt8->Option (E×List UInt8)}(hf:∀s e r,f s=some (e,r)->r.length<s.length):∀(n:Nat) (s:List UInt8) (acc:List E) (e:E) (r:List UInt8),nf f n s acc=some (e,r)->r.length<s.length
 |0,s,acc,e,r,h=>by cases h
 |
  n+1,s,acc,e,r,h=>by
  simp only[nf]at h
  split at h
  ·rename_i p c r' hs
   have:=hf _ _ _ hs
   simp only[aj]at this
   split at h
   ·cases h;omega
   ·split at h
    ·have:=tF hf n _ _ _ _ h;omega
    ·cases h
  ·cases h
theorem kg{s:List UInt8}(h:¬s.takeWhile c0=[]):(s.dropWhile c0).length<s.length:=by
 have h1:=congrArg List.length (bf (p:=c0) (l:=s))
 simp only[ah]at h1
 have:0<(s.takeWhile c0).length:=List.length_pos_iff.2 h
 omega
theorem rp:∀(k:Nat) (s:List UInt8) (e:E) (r:List UInt8),rd k s=some (e,r)->r.length<s.length
 |
  0,s,e,r,h=>by
  simp only[rd]at h
  split at h
  ·cases h
  ·rename_i hn;cases h;exact kg hn
 |
  k+1,s,e,r,h=>by
  simp only[rd]at h
  split at h
  ·split at h
   ·split at h
    ·have:=tF (rp k) _ _ _ _ _ h
     simp only[aj];omega
    ·cases h
   ·cases h
  ·rename_i hn;cases h;exact kg hn
theorem Cp(b:UInt8):aC Tryd.prog 59 [.v (.int .u8 (b.toNat:Int))] [] (cu (.v (.bool (c0 b)))):=by
 refine Dt _ ?_
 simp only[Br,↓zq,zs,an,cu,c0]
 repeat' (apply ax<;>intro _)
 all_goals first|(congr 2;rw[cC];simp;omega)|(congr 2;simp;omega)
theorem sf{s:List UInt8}{i:Nat}(hi:i<s.length)(hb:c0 (s.getD i 0)=true):((s.drop i).takeWhile c0).length=((s.drop (i+1)).takeWhile c0).length+1:=by
 have e:s.drop i=s.getD i 0::s.drop (i+1):=by
  rw[List.drop_eq_getElem_cons hi];simp[aa,hi]
 rw[e,List.takeWhile_cons_of_pos hb];simp
theorem l8{s:List UInt8}{i:Nat}(hi:i<s.length)(hb:c0 (s.getD i 0)=false):(s.drop i).takeWhile c0=[]:=by
 have e:s.drop i=s.getD i 0::s.drop (i+1):=by
  rw[List.drop_eq_getElem_cons hi];simp[aa,hi]
 rw[e,List.takeWhile_cons_of_neg (by rw[hb];simp)]
theorem yV(s:List UInt8)(hs:s.length<=8000)(d:Int):∀(k i:Nat),i+k=s.length->y9 [.v (.string (mk s)),.v (.int .i64 d),.v (.int .i64 (i:Int))] [] (vn 1 [.v (.string (mk s)),.v (.int .i64 d),.v (.int .i64 ((i+((s.drop i).takeWhile c0).length:Nat):Int))] [])
 |
  0,i,hi=>by
  refine Ae _ _ _ ?_
  have hd:s.drop i=[]:=bV (by omega)
  simp only[yE,↓zq,zs,an,zt]
  exact⟨fun h=>by omega,fun _=>by simp[vn,hd]⟩
 |
  k+1,i,hi=>by
  have hlt:i<s.length:=by omega
  refine Ae _ _ _ ?_
  simp only[yE,↓zq,zs,an,zt,ky s i hlt]
  refine⟨fun _=>⟨by omega,?_⟩,fun h=>by omega⟩
  refine aG (Cp _) ?_
  simp only[↓zq,zs,an]
  refine⟨fun hb=>?_,fun hb=>?_⟩
  ·rw[cK i (by omega)]
   have:=yV s hs d k (i+1) (by omega)
   rw[sf hlt hb,show i+(((s.drop (i+1)).takeWhile c0).length+1)=i+1+((s.drop (i+1)).takeWhile c0).length by omega]
   exact this
  ·simp[vn,l8 hlt hb]
def kA(s:List UInt8):Option (E×List UInt8)->AV
 |some (e,r)=>.dm [e.iF,.v (.string (mk r))]
 |none=>.dm [.v (.pointer none),.v (.string (mk s))]
theorem cU(e:E):LK.has .ptr e.iF=True:=by cases e<;>simp[E.iF,cI]
theorem fp(e:E):e.iF.isNil=false:=by cases e<;>rfl
theorem om(s:List UInt8):s.take (s.takeWhile c0).length=s.takeWhile c0:=by
 have h:=bf (p:=c0) (l:=s)
 have:(s.takeWhile c0++s.dropWhile c0).take (s.takeWhile c0).length=s.takeWhile c0:=List.take_left
 rw[h]at this;exact this
theorem rm(s:List UInt8):s.drop (s.takeWhile c0).length=s.dropWhile c0:=by
 have h:=bf (p:=c0) (l:=s)
 have:(s.takeWhile c0++s.dropWhile c0).drop (s.takeWhile c0).length=s.dropWhile c0:=List.drop_left
 rw[h]at this;exact this
theorem um(c:UInt8)(r:List UInt8):(List.take (r.length+1) (c::r)).drop (bw 1)=r:=by simp
theorem Bd(s0:List UInt8)(k:Nat)(hk:k<300)(ih:∀s,s.length<=8000->aC Tryd.prog 41 [.v (.string (mk s)),.v (.int .i64 ((300-k:Nat):Int))] [] (cu (kA s (rd k s)))) :
 ∀(n:Nat) (s:List UInt8) (acc:List E),s.length<n->s.length+acc.length<=8000->zD [.v (.string (mk s0)),.v (.int .i64 ((300-(k+1):Nat):Int)),.v (.string (mk s))] [.cells [.v (.string (mk [])),.any],.vec 1 (E.lP acc)]
  (ve (match nf (rd k) n s acc with|some (e,r)=>(2,[e.iF,.v (.string (mk r))],[])|none=>(2,[.v (.pointer none),.v (.string (mk s0))],[])))
 |0,s,acc,hn,_=>by omega
 |
  n+1,s,acc,hn,hl=>by
  refine CN _ _ _ _ _ ?_
  simp only[BW,↓zq,zs,an,u3]
  have hd:IntKind.wrap .i64 (((300-(k+1):Nat):Int)+1)=((300-k:Nat):Int):=by rw[wrap64]<;>omega
  rw[hd]
  refine aG (ih s (by omega)) ?_
  have hlt:=rp k s
  cases hr:rd k s with
  |
   none =>
   simp only[kA,↓zq,zs,an,nf,hr]
   simp[ve]
  |
   some q =>
   obtain⟨e,r⟩:=q
   have:=hlt e r hr
   cases r with
   |
    nil =>
    simp only[kA,↓zq,zs,an,zt,nf,hr,cU,fp]
    simp[ve]
   |
    cons c r =>
    simp only[aj]at this
    have hb:=ky (c::r) 0 (by simp)
    simp only[Int.ofNat_eq_natCast,Int.cast_ofNat_Int]at hb
    have e2:(List.take (c::r).length (c::r)).drop 1=r:=by simp
    simp only[kA,↓zq,zs,an,zt,nf,hr,cU,fp,hb,e2,pi]
    refine⟨fun h=>(by cases h),fun _=>⟨fun h=>(by cases h),fun _=>⟨⟨fun c hc=>(by simp at hc;rw[hc];rfl),by omega⟩,by omega,by omega,fun h41=>?_,fun h41=>⟨by omega,fun h32=>?_,fun h32=>?_⟩⟩⟩⟩
    ·have h41':c.toNat=41:=by omega
     rw[um,if_pos h41']
     simp[ve,E.iF,qd,E.lP]
    ·have h41':¬c.toNat=41:=by omega
     have h32':¬c.toNat=32:=by omega
     rw[if_neg h41',if_neg h32']
    ·have h41':¬c.toNat=41:=by omega
     have h32':c.toNat=32:=by omega
     rw[um,if_neg h41',if_pos h32']
     have:=Bd s0 k hk ih n r (acc++[e]) (by omega) (by simp;omega)
     simpa[qd,E.lP]using this
theorem DS:∀(k:Nat),k<=300->∀s:List UInt8,s.length<=8000->aC Tryd.prog 41 [.v (.string (mk s)),.v (.int .i64 ((300-k:Nat):Int))] [] (cu (kA s (rd k s))):=by
 intro k
 induction k with
 |
  zero =>
  intro hk s hs
  refine Bp _ _ ?_
  unfold yO
  refine jg (yV s hs _ s.length 0 (by omega)) ?_
  simp only[↓zq,zs,an,zt,aR,cu]
  have hw:(s.takeWhile c0).length<=s.length:=by
   have:=congrArg List.length (bf (p:=c0) (l:=s))
   simp only[ah]at this;omega
  refine⟨fun h=>⟨by omega,by omega,?_⟩,fun h=>?_⟩
  ·have hne:¬s.takeWhile c0=[]:=fun e=>by rw[e]at h;simp at h
   simp only[rd,if_neg hne,kA,E.iF,om,rm]
  ·have hnil:s.takeWhile c0=[]:=List.eq_nil_of_length_eq_zero (by omega)
   simp only[rd,if_pos hnil,kA]
   refine⟨fun _=>trivial,fun hne=>⟨?_,?_⟩⟩
   ·cases s with
    |nil=>exact absurd rfl hne
    |cons c s=>simp
   ·exact⟨fun _=>trivial,fun _=>⟨fun _=>trivial,fun h=>absurd rfl h⟩⟩
 |
  succ k ih =>
  intro hk s hs
  refine Bp _ _ ?_
  unfold yO
  refine jg (yV s hs _ s.length 0 (by omega)) ?_
  simp only[↓zq,zs,an,zt,aR,cu]
  have hw:(s.takeWhile c0).length<=s.length:=by
   have:=congrArg List.length (bf (p:=c0) (l:=s))
   simp only[ah]at this;omega
  refine⟨fun h=>⟨by omega,by omega,?_⟩,fun h=>?_⟩
  ·have hne:¬s.takeWhile c0=[]:=fun e=>by rw[e]at h;simp at h
   simp only[rd,if_neg hne,kA,E.iF,om,rm]
  ·have hnil:s.takeWhile c0=[]:=List.eq_nil_of_length_eq_zero (by omega)
   simp only[rd,if_pos hnil]
   cases s with
   |nil=>simp[kA]
   |
    cons c s =>
    have hb:=ky (c::s) 0 (by simp)
    simp only[Int.ofNat_eq_natCast,Int.cast_ofNat_Int]at hb
    simp only[aj]at hs
    simp only[↓zq,zs,an,hb,um]
    refine⟨fun h=>(by cases h),fun _=>⟨by omega,fun h40=>?_,fun h40=>⟨fun h300=>?_,fun h300=>⟨by omega,?_⟩⟩⟩⟩
    ·have:¬c.toNat=40:=by omega
     rw[if_neg this];rfl
    ·omega
    ·have h40':c.toNat=40:=by omega
     rw[if_pos h40']
     refine mA (Bd (c::s) k (by omega) (ih (by omega)) (s.length+1) s [] (by omega) (by simp;omega)) (fun ys o e=>?_) (fun ys o e=>?_)
     ·split at e<;>cases e
     ·split at e<;>cases e
      ·rename_i e' r' hr
       simp only[↓zq,zs,an,cU]
       simp only[hr,kA]
      ·rename_i hr
       simp only[↓zq,zs,an]
       simp only[hr,kA]
end Go.Proofs.Trees
namespace Go.Proofs.Trees
open Go Go.VL
mutual
def E.sz:E->Nat
 | .atom _=>1
 | .list l=>1+E.lU l
def E.lU:List E->Nat
 |[]=>0
 |e::l=>e.sz+E.lU l
end
mutual
def E.ok:E->Prop
 | .atom s=>s≠[]
 | .list l=>E.xg l
def E.xg:List E->Prop
 |[]=>True
 |e::l=>e.ok/\E.xg l
end
theorem sc(l r:List E):E.lU (l++r)=E.lU l+E.lU r:=by
 induction l with
 |nil=>simp[E.lU]
 |cons e l ih=>simp[E.lU,ih];omega
theorem rN(l r:List E):E.xg (l++r)↔E.xg l/\E.xg r:=by
 induction l with
 |nil=>simp[E.xg]
 |cons e l ih=>simp[E.xg,ih,and_assoc]
theorem uS{f:List UInt8->Option (E×List UInt8)}(hf:∀s e r,f s=some (e,r)->e.ok/\e.sz+r.length<=s.length):∀(n:Nat) (s:List UInt8) (acc:List E) (e:E) (r:List UInt8),nf f n s acc=some (e,r)->E.xg acc->e.ok/\e.sz+r.length<=s.length+1+E.lU acc
 |0,s,acc,e,r,h,_=>by cases h
 |
  n+1,s,acc,e,r,h,ha=>by
  simp only[nf]at h
  split at h
  ·rename_i p c r' hs
   obtain⟨h1,h2⟩:=hf _ _ _ hs
   simp only[aj]at h2
   split at h
   ·cases h
    refine⟨(rN _ _).2 ⟨ha,h1,trivial⟩,?_⟩
    simp only[E.sz,sc,E.lU];omega
   ·split at h
    ·have:=uS hf n _ _ _ _ h ((rN _ _).2 ⟨ha,h1,trivial⟩)
     refine⟨this.1,?_⟩
     have h3:=this.2
     simp only[sc,E.lU]at h3;omega
    ·cases h
  ·cases h
theorem pd(s:List UInt8):(s.takeWhile c0).length+(s.dropWhile c0).length=s.length:=by
 have:=congrArg List.length (bf (p:=c0) (l:=s))
 simpa only[ah]using this
theorem xn:∀(k:Nat) (s:List UInt8) (e:E) (r:List UInt8),rd k s=some (e,r)->e.ok/\e.sz+r.length<=s.length
 |
  0,s,e,r,h=>by
  simp only[rd]at h
  split at h
  ·cases h
  ·rename_i hn;cases h
   have:=pd s
   have:0<(s.takeWhile c0).length:=List.length_pos_iff.2 hn
   exact⟨hn,by simp only[E.sz];omega⟩
 |
  k+1,s,e,r,h=>by
  simp only[rd]at h
  split at h
  ·split at h
   ·split at h
    ·have:=uS (xn k) _ _ _ _ _ h trivial
     refine⟨this.1,?_⟩
     have h3:=this.2
     simp only[E.lU,aj]at h3 |-;omega
    ·cases h
   ·cases h
  ·rename_i hn;cases h
   have:=pd s
   have:0<(s.takeWhile c0).length:=List.length_pos_iff.2 hn
   exact⟨hn,by simp only[E.sz];omega⟩
def nh(s:List UInt8):Option E:=if s.length>8000 then none else match rd 300 s with|some (e,[])=>some e|_=>none
theorem mw{s:List UInt8}{e:E}(h:nh s=some e):e.ok/\e.sz<=8000:=by
 unfold nh at h
 split at h
 ·cases h
 ·split at h
  ·rename_i e' hr
   cases h
   have:=xn _ _ _ _ hr
   exact⟨this.1,by have:=this.2;simp at this;omega⟩
  ·cases h
def qz:Option E->AV
 |some e=>e.iF
 |none=>.v (.pointer none)
theorem Cm(s:List UInt8):aC Tryd.prog 26 [.v (.string (mk s))] [] (cu (qz (nh s))):=by
 refine Dh _ ?_
 simp only[BX,↓zq,zs,an,zt,cu,nh]
 refine⟨fun h=>?_,fun h=>?_⟩
 ·rw[if_pos (by omega)];simp[qz]
 ·rw[if_neg (by omega)]
  refine aG (DS 300 (by omega) s (by omega)) ?_
  cases hr:rd 300 s with
  |
   none =>
   simp only[kA,↓zq,zs,an,zt,qz]
   refine⟨fun _=>trivial,fun _=>trivial⟩
  |
   some q =>
   obtain⟨e,r⟩:=q
   cases r with
   |nil=>simp only[kA,↓zq,zs,an,zt,qz,cU];simp
   |cons c r=>simp only[kA,↓zq,zs,an,zt,qz,cU];simp
def iH(b:UInt8):Bool:=decide (48<=b.toNat/\b.toNat<=57)
def named(lo hi:Nat):List UInt8->Bool
 |[]=>false
 |c::r=>decide (r.length<=2)&&decide (lo<=c.toNat/\c.toNat<=hi)&&r.all iH
def fK(s:List UInt8):Bool:=named 120 122 s
def bX(s:List UInt8):Bool:=named 116 116 s
def Ad(v lo hi:Int):Bool:=decide (lo<=v/\v<=hi)
theorem D0(v lo hi:Int):aC Tryd.prog 78 [.v (.int .i64 v),.v (.int .i64 lo),.v (.int .i64 hi)] [] (cu (.v (.bool (Ad v lo hi)))):=by
 refine Cw _ _ _ ?_
 simp only[AG,↓zq,zs,an,cu,Ad]
 constructor<;>intro h<;>simp at h<;>simp[h]
 omega
theorem z6(s:List UInt8)(hs:s.length<=3):∀(k i:Nat),i+k=s.length->xU [.v (.string (mk s)),.v (.int .i64 (i:Int))] [] (ve (if(s.drop i).all iH=true then(1,[],[])else(2,[.v (.bool false)],[])))
 |
  0,i,hi=>by
  have hd:s.drop i=[]:=bV (by omega)
  refine A2 _ _ ?_
  simp only[xW,↓zq,zs,an,zt]
  exact⟨fun h=>by omega,fun _=>by simp[ve,hd]⟩
 |
  k+1,i,hi=>by
  have hlt:i<s.length:=by omega
  have e:s.drop i=s.getD i 0::s.drop (i+1):=by
   rw[List.drop_eq_getElem_cons hlt];simp[aa,hlt]
  refine A2 _ _ ?_
  simp only[xW,↓zq,zs,an,zt,ky s i hlt,e,bK]
  generalize hb:s.getD i 0=b
  refine⟨fun _=>⟨by omega,fun h=>?_,fun h=>⟨by omega,fun h2=>?_,fun h2=>?_⟩⟩,fun h=>by omega⟩
  ·have:iH b=false:=by simp[iH];omega
   simp only[this,zf,ve]
  ·have:iH b=false:=by simp[iH];omega
   simp only[this,zf,ve]
  ·have:iH b=true:=by simp[iH];omega
   rw[cK i (by omega),this,bY]
   exact z6 s hs k (i+1) (by omega)
theorem Bv(s:List UInt8)(lo hi:Nat):aC Tryd.prog 71 [.v (.string (mk s)),.v (.int .u8 (lo:Int)),.v (.int .u8 (hi:Int))] [] (cu (.v (.bool (named lo hi s)))):=by
 refine Dp _ _ _ ?_
 unfold Ak
 rw[dK]
 refine aG (D0 _ _ _) ?_
 simp only[↓zq,zs,an,zt,cu]
 refine⟨fun h=>?_,fun h=>?_⟩
 ·cases s with
  |nil=>rfl
  |
   cons c s =>
   simp[Ad]at h
   have:¬s.length<=2:=by omega
   simp[named,this]
 ·cases s with
  |nil=>simp[Ad]at h
  |
   cons c s =>
   simp[Ad]at h
   have hl:s.length<=2:=by omega
   have hb:=ky (c::s) 0 (by simp)
   simp only[Int.ofNat_eq_natCast,Int.cast_ofNat_Int]at hb
   simp only[↓zq,zs,an,hb]
   refine⟨by omega,fun h1=>?_,fun h1=>⟨by omega,fun h2=>?_,fun h2=>?_⟩⟩
   ·have:¬lo<=c.toNat:=by omega
    simp[named,this]
   ·have:¬c.toNat<=hi:=by omega
    simp[named,this]
   ·refine mA (z6 (c::s) (by simp;omega) s.length 1 (by simp;omega)) (fun ys o e=>?_) (fun ys o e=>?_)
    ·split at e<;>cases e
     rename_i ha
     simp at ha
     simp only[↓zq,zs,an]
     simp[named,hl]
     exact⟨⟨by omega,by omega⟩,fun x hx=>by simpa using ha x hx⟩
    ·split at e<;>cases e
     rename_i ha
     simp only[↓zq,zs,an]
     have:s.all iH=false:=by simpa using ha
     simp[named,this]
theorem CL(s:List UInt8):aC Tryd.prog 57 [.v (.string (mk s))] [] (cu (.v (.bool (fK s)))):=by
 refine CO _ ?_
 unfold zX
 refine aG (Bv s 120 122) ?_
 simp only[↓zq,zs,an,cu,fK]
theorem A3(s:List UInt8):aC Tryd.prog 58 [.v (.string (mk s))] [] (cu (.v (.bool (bX s)))):=by
 refine Dj _ ?_
 unfold BK
 refine aG (Bv s 116 116) ?_
 simp only[↓zq,zs,an,cu,bX]
end Go.Proofs.Trees
namespace Go.Proofs.Trees
open Go Go.VL Go.RowKit
theorem CD(l:List UInt8)(c:UInt8):aC Tryd.prog 43 [.v (.string (mk l)),.v (.string (mk [c]))] [] (cu (.v (.bool (decide (0<=Lib.indexByte l c))))):=by
 refine aC.D4 (xs:=[.string (mk l),.string (mk [c])]) ⟨jv,by kernel_rfl,by kernel_rfl,by kernel_rfl⟩ fun w=>?_
 have:=Any.strings_Contains_one Tryd.xh (mk l) c w
 refine Calls.mono this fun e w' ⟨h1,h2⟩=>?_
 rw[h2]
 have hd:(mk l).data.toList=l:=by simp[mk]
 exact⟨by rw[h1,hd],Below.refl _ _⟩
theorem CF(l cs:List UInt8)(hl:l.length<=1000000)(hc:cs.length<=1000)(ha:∀b,b∈cs->b.toNat<128):aC Tryd.prog 44 [.v (.string (mk l)),.v (.string (mk cs))] [] (cu (.v (.string (mk (Lib.trimS l cs))))):=by
 refine aC.D4 (xs:=[.string (mk l),.string (mk cs)]) ⟨lT,by kernel_rfl,by kernel_rfl,by kernel_rfl⟩ fun w=>?_
 have:=Any.strings_Trim_laid Tryd.xc (by kernel_rfl) (mk l) (mk cs) w (by rw[dK];omega) (by rw[dK];omega) (fun j b hj=>ha b (by
  have:(mk cs).data.toList=cs:=by simp[mk]
  rw[this]at hj
  exact List.mem_of_getElem? hj))
 refine Calls.mono this fun e w' ⟨h1,h2⟩=>⟨?_,h2⟩
 rw[h1]
 simp[mk]
theorem jD:∀(l:List UInt8) (c:UInt8),(0<=Lib.indexByte l c↔c∈l)/\-1<=Lib.indexByte l c
 |[],c=>by simp[Lib.indexByte]
 |
  b::l,c=>by
  obtain⟨h1,h2⟩:=jD l c
  unfold Lib.indexByte
  by_cases e:b=c
  ·subst e;simp
  ·have e':(b==c)=false:=by simp[e]
   rw[e']
   by_cases q:Lib.indexByte l c = -1
   ·have:c∉l:=fun h=>by have:=h1.2 h;omega
    simp[q,this,Ne.symm e]
   ·have q':(Lib.indexByte l c==-1)=false:=by simp[q]
    simp only[q',Bool.false_eq_true,if_false,aE]
    constructor
    ·constructor
     ·intro h;exact .inr (h1.1 (by omega))
     ·intro h
      rcases h with h|h
      ·exact absurd h.symm e
      ·have:=h1.2 h;omega
    ·omega
theorem dropWhile_nil{p:UInt8->Bool}:∀(l:List UInt8),l.dropWhile p=[]↔l.all p=true
 |[]=>by simp
 |
  b::l=>by
  cases h:p b with
  |true=>rw[List.dropWhile_cons_of_pos h,dropWhile_nil l];simp[h]
  |false=>rw[List.dropWhile_cons_of_neg (by rw[h];simp)];simp[h]
theorem tt(l cs:List UInt8):Lib.trimS l cs=[]↔l.all (cs.contains ·)=true:=by
 unfold Lib.trimS Lib.trimLeftS
 rw[dropWhile_nil]
 unfold Lib.trimRightS
 constructor
 ·intro h
  by_cases hn:l.reverse.dropWhile (cs.contains ·)=[]
  ·rw[dropWhile_nil]at hn
   simpa using hn
  ·exfalso
   rw[List.all_reverse]at h
   obtain⟨b,r,e⟩:=List.exists_cons_of_ne_nil hn
   have h1:cs.contains b=false:=by
    have:=List.head_dropWhile_not (p:=(cs.contains ·)) (l:=l.reverse) hn
    simp only[e,List.head_cons]at this
    exact this
   rw[e]at h
   simp only[bK,ag]at h
   rw[h1]at h;cases h.1
 ·intro h
  have:l.reverse.dropWhile (cs.contains ·)=[]:=by rw[dropWhile_nil];simpa using h
  rw[this];rfl
def Cc:List UInt8:=[48,49,50,51,52,53,54,55,56,57]
theorem vB(b:UInt8):Cc.contains b=iH b:=by
 have:∀n:Fin 256,Cc.contains (aX n.val)=iH (aX n.val):=by decide +kernel
 have:=this ⟨b.toNat,b.toNat_lt⟩
 simpa using this
theorem BZ(s ls:List UInt8)(lo hi:Nat)(hls:∀c:UInt8,c∈ls↔lo<=c.toNat/\c.toNat<=hi):aC Tryd.prog 29 [.v (.string (mk s)),.v (.string (mk ls))] [] (cu (.v (.bool (named lo hi s)))):=by
 refine C1 _ _ ?_
 simp only[BO,↓zq,zs,an,zt,cu]
 cases s with
 |nil=>exact⟨fun h=>by simp at h,fun _=>rfl⟩
 |
  cons c s =>
  have e1:(List.take (bw 1) (c::s))=[c]:=rfl
  have e2:(List.take (s.length+1) (c::s)).drop (bw 1)=s:=by simp
  simp only[aj,e1,e2]
  refine⟨fun _=>⟨fun h3=>⟨by omega,?_⟩,fun h3=>?_⟩,fun h=>by omega⟩
  ·have hl:s.length<=2:=by omega
   refine aG (CD ls c) ?_
   simp only[↓zq,zs,an]
   have hi1:=(jD ls c).1
   refine⟨fun h=>⟨by omega,?_⟩,fun h=>?_⟩
   ·refine aG (CF s Cc (by omega) (by decide) (by decide)) ?_
    simp only[↓zq,zs,an,zt]
    have hc:=(hls c).1 (hi1.1 h)
    congr 2
    rw[cC,beq_iff_eq,tt]
    simp only[named,hl,hc,decide_true,bY,and_self]
    have:(fun x=>Cc.contains x)=iH:=funext vB
    rw[this]
   ·have hc:¬(lo<=c.toNat/\c.toNat<=hi):=fun h'=>h (hi1.2 ((hls c).2 h'))
    simp only[named,hc,zf]
  ·have hl:¬s.length<=2:=by omega
   simp only[named,hl,zf]
theorem zr(s:List UInt8):aC Tryd.prog 14 [.v (.string (mk s))] [] (cu (.v (.bool (fK s)))):=by
 refine CC _ ?_
 unfold zU
 have h:∀n:Fin 256,(aX n.val∈[(120:UInt8),121,122])↔120<=(aX n.val).toNat/\(aX n.val).toNat<=122:=by decide +kernel
 refine aG (BZ s [120,121,122] 120 122 fun c=>by simpa using h ⟨c.toNat,c.toNat_lt⟩) ?_
 simp only[↓zq,zs,an,cu,fK]
theorem Cd(s:List UInt8):aC Tryd.prog 34 [.v (.string (mk s))] [] (cu (.v (.bool (bX s)))):=by
 refine DN _ ?_
 unfold zY
 have h:∀n:Fin 256,(aX n.val∈[(116:UInt8)])↔116<=(aX n.val).toNat/\(aX n.val).toNat<=116:=by decide +kernel
 refine aG (BZ s [116] 116 116 fun c=>by simpa using h ⟨c.toNat,c.toNat_lt⟩) ?_
 simp only[↓zq,zs,an,cu,bX]
end Go.Proofs.Trees
namespace Go.Proofs.Trees
open Go Go.VL
inductive Ty where
 |zero|one
 |name (s:List UInt8)
 |bm (up:Nat)
 |plus (a b:Ty)
 |times (a b:Ty)
 |rc (a:Ty)
def Ty.av:Ty->AV
 | .zero=>.ptr [.v (.int .u8 48),.v (.string (mk [])),.v (.int .i64 0),.v (.pointer none),.v (.pointer none)]
 | .one=>.ptr [.v (.int .u8 49),.v (.string (mk [])),.v (.int .i64 0),.v (.pointer none),.v (.pointer none)]
 | .name s=>.ptr [.v (.int .u8 110),.v (.string (mk s)),.v (.int .i64 0),.v (.pointer none),.v (.pointer none)]
 | .bm up=>.ptr [.v (.int .u8 98),.v (.string (mk [])),.v (.int .i64 (up:Int)),.v (.pointer none),.v (.pointer none)]
 | .plus a b=>.ptr [.v (.int .u8 43),.v (.string (mk [])),.v (.int .i64 0),a.av,b.av]
 | .times a b=>.ptr [.v (.int .u8 42),.v (.string (mk [])),.v (.int .i64 0),a.av,b.av]
 | .rc a=>.ptr [.v (.int .u8 114),.v (.string (mk [])),.v (.int .i64 0),a.av,.v (.pointer none)]
theorem aB(t:Ty):LK.has .ptr t.av=True:=by cases t<;>simp[Ty.av,cI]
theorem cJ(t:Ty):t.av.isNil=false:=by cases t<;>rfl
def eD:Option Ty->AV
 |some t=>t.av
 |none=>.v (.pointer none)
theorem fC(t:Option Ty):LK.has .ptr (eD t)=True:=by cases t<;>simp[eD,aB,kC]
def E.at:E->List UInt8
 | .atom s=>s
 | .list _=>[]
def ck(s:List UInt8)(ar:List (List UInt8)):Nat->Option Nat
 |0=>none
 |i+1=>if ar.getD i []=s then some (ar.length-1-i)else ck s ar i
def bG:E->List (List UInt8)->Option Ty
 | .atom s,ar=>if s=[48]then some .zero else if s=[49]then some .one else if fK s=true then some (.name s)else if bX s=true then(match ck s ar ar.length with|some u=>some (.bm u)|none=>some (.name s))else none
 |
  .list [x,a,b],ar =>
  if x.at=[43]then(match bG a ar,bG b ar with|some t,some u=>some (.plus t u)|_,_=>none)
  else if x.at=[42]then(match bG a ar,bG b ar with|some t,some u=>some (.times t u)|_,_=>none)
  else if x.at=[114,101,99]then(if bX a.at=true then(match bG b (ar++[a.at])with|some t=>some (.rc t)|none=>none)else none)
  else none
 | .list _,_=>none
def dj(l:List (List UInt8)):List (List AV):=l.map fun s=>[.v (.string (mk s))]
def dD(a:AV)(l:List (List UInt8)):Prop:=LK.sl.has a/\a.aT=dj l
theorem dD.len{a:AV}{l:List (List UInt8)}(h:dD a l):a.aT.length=l.length:=by rw[h.2];simp[dj]
theorem dD.idx{a:AV}{l:List (List UInt8)}(h:dD a l){i:Nat}(hi:i<l.length):a.aT.getD i []=[.v (.string (mk (l.getD i [])))]:=by
 rw[h.2];simp[dj,aa,hi]
theorem dD.of(l:List (List UInt8)):dD (.sl (dj l)) l:=⟨(dC _).mpr trivial,rfl⟩
theorem dD.nil:dD (.v (.slice none 0 0)) []:=⟨(bI).mpr trivial,rfl⟩
theorem sH(e:E)(w:List UInt8):aC Tryd.prog 42 [e.iF,.v (.string (mk w)),.v (.int .i64 3)] [] (cu (.v (.bool (match e with| .list [x,_,_]=>x.at==w|_=>false)))):=by
 refine Df _ _ _ ((cU e).mpr trivial) ?_
 cases e with
 |atom s=>simp only[C4,E.iF,↓zq,zs,an,zt,cu];exact⟨by omega,fun h=>by omega,fun _=>trivial⟩
 |
  list l =>
  simp only[C4,E.iF,↓zq,zs,an,zt,cu,pi]
  match l with
  |[]=>exact⟨by simp,fun h=>by simp at h,fun _=>rfl⟩
  |[_]=>exact⟨by simp,fun h=>by simp at h,fun _=>rfl⟩
  |[_,_]=>exact⟨by simp,fun h=>by simp at h,fun _=>rfl⟩
  |
   [x,y,z] =>
   refine⟨by simp,fun _=>?_,fun h=>by simp at h⟩
   cases x<;>simp[E.lP,E.iF,cI,nX,gX,l5,rK,toList_mk,E.at]
  |_::_::_::_::l=>exact⟨by simp,fun h=>by simp at h;omega,fun _=>rfl⟩
theorem Ay(e:E)(a:AV)(ar:List (List UInt8))(ha:dD a ar)(hl:ar.length<1000000):∀(i:Nat),i<=ar.length->zE [e.iF,a,.v (.int .i64 ((i:Int)-1))] []
 (ve (match ck e.at ar i with|some u=>(2,[],[.cells [.v (.int .u8 98),.v (.string (mk [])),.v (.int .i64 (u:Int)),.v (.pointer none),.v (.pointer none)]])|none=>(1,[e.iF],[])))
 |
  0,hi=>by
  refine A9 _ _ _ ?_
  simp only[xQ,↓zq,zs,an,cU]
  exact⟨ha.1,fun h=>by omega,fun _=>rfl⟩
 |
  i+1,hi=>by
  have hlt:i<ar.length:=by omega
  have e1:((i+1:Nat):Int)-1=(i:Int):=by omega
  rw[e1]
  refine A9 _ _ _ ?_
  have hd:e.iF.deref.headD .any=.v (.string (mk e.at)):=by cases e<;>rfl
  have hdl:1<=e.iF.deref.length:=by cases e<;>simp[E.iF,gX]
  simp only[xQ,↓zq,zs,an,zt,cU,fp,ha.len,ha.idx hlt,hd,mC]
  refine⟨ha.1,fun _=>⟨⟨ha.1,by omega,by omega⟩,by omega,hdl,fun h=>⟨ha.1,?_⟩,fun h=>?_⟩,fun h=>by omega⟩
  ·simp only[ck,h,if_true,ve]
   rw[wrap64 ((ar.length:Int)-1) (by omega) (by omega),wrap64 _ (by omega) (by omega)]
   have:(ar.length:Int)-1-(i:Int)=((ar.length-1-i:Nat):Int):=by omega
   rw[this]
  ·simp only[ck,h,if_false]
   rw[wrap64 _ (by omega) (by omega)]
   exact Ay e a ar ha hl i (by omega)
end Go.Proofs.Trees
namespace Go.Proofs.Trees
open Go Go.VL
theorem ov(e:E):e.iF.deref.headD .any=.v (.string (mk e.at)):=by cases e<;>rfl
theorem l9(e:E):1<=e.iF.deref.length:=by cases e<;>simp[E.iF,gX]
theorem toNat_one:bw 1=1:=rfl
theorem gL:bw 2=2:=rfl
theorem wP{ar:List (List UInt8)}(s:List UInt8):dj ar++[[.v (.string (mk s))]]=dj (ar++[s]):=by simp[dj]
theorem ja(ar:List (List UInt8)):db 1 (dj ar):=fun c hc=>by
 obtain⟨s,_,rfl⟩:=bu.1 hc;rfl
theorem gI{x a b:E}(ar:List (List UInt8))(hx:x.at=[43]):bG (.list [x,a,b]) ar=match bG a ar,bG b ar with|some t,some u=>some (.plus t u)|_,_=>none:=by rw[bG,if_pos hx]<;>cases bG a ar<;>cases bG b ar<;>rfl
theorem fT{x a b:E}(ar:List (List UInt8))(hx:x.at=[42]):bG (.list [x,a,b]) ar=match bG a ar,bG b ar with|some t,some u=>some (.times t u)|_,_=>none:=by rw[bG,if_neg (by rw[hx];decide),if_pos hx]<;>cases bG a ar<;>cases bG b ar<;>rfl
theorem i7{x a b:E}(ar:List (List UInt8))(hx:x.at=[114,101,99]):bG (.list [x,a,b]) ar=if bX a.at=true then(match bG b (ar++[a.at])with|some t=>some (.rc t)|none=>none)else none:=by rw[bG,if_neg (by rw[hx];decide),if_neg (by rw[hx];decide),if_pos hx]<;>cases bG b (ar++[a.at])<;>rfl
theorem fq{x a b:E}(ar:List (List UInt8))(h1:x.at≠[43])(h2:x.at≠[42])(h3:x.at≠[114,101,99]):bG (.list [x,a,b]) ar=none:=by rw[bG,if_neg h1,if_neg h2,if_neg h3]
theorem Cf:∀(e:E) (ar:List (List UInt8)) (a:AV),e.ok->dD a ar->ar.length+e.sz<100000->aC Tryd.prog 27 [e.iF,a] [] (cu (eD (bG e ar)))
 |
  .atom s,ar,a,hok,ha,hl=>by
  simp only[E.sz]at hl
  refine AZ _ _ ((cU _).mpr trivial) ha.1 ?_
  have hd:=ov (.atom s)
  have hlen:=l9 (.atom s)
  simp only[E.at]at hd
  simp only[y4,↓zq,zs,an,zt,cu,cU,fp,hd,bG]
  refine⟨hlen,fun h=>⟨hlen,?_,?_⟩,fun h=>⟨hlen,fun h1=>⟨hlen,?_,?_⟩,fun h1=>⟨hlen,?_⟩⟩⟩
  ·rw[h];decide
  ·rw[if_pos h,h];rfl
  ·rw[h1];decide
  ·rw[if_neg h,if_pos h1,h1];rfl
  ·rw[if_neg h,if_neg h1]
   refine aG (zr s) ?_
   simp only[↓zq,zs,an]
   refine⟨fun hp=>⟨hlen,?_⟩,fun hp=>⟨hlen,?_⟩⟩
   ·rw[if_pos hp];rfl
   ·rw[if_neg (by rw[hp];simp)]
    refine aG (Cd s) ?_
    simp only[↓zq,zs,an,ha.len]
    refine⟨fun hq=>⟨ha.1,?_⟩,fun hq=>?_⟩
    ·rw[if_pos hq,wrap64 _ (by omega) (by omega)]
     refine mA (Ay (.atom s) a ar ha (by omega) ar.length (by omega)) (fun ys o e=>?_) (fun ys o e=>?_)
     ·simp only[E.at]at e
      cases hq2:ck s ar ar.length<;>rw[hq2]at e<;>cases e
      simp only[↓zq,zs,an,zt,cU,fp,hd]
      exact⟨hlen,rfl⟩
     ·simp only[E.at]at e
      cases hq2:ck s ar ar.length<;>rw[hq2]at e<;>cases e
      simp only[↓zq,zs,an,zt,LK.has]
      simp[eD,Ty.av,an,LK.has]
    ·rw[if_neg (by rw[hq];simp)]
     refine aG (sH (.atom s) [43]) ?_
     simp only[↓zq,zs,an]
     refine⟨fun h=>(by simp at h),fun _=>?_⟩
     refine aG (sH (.atom s) [42]) ?_
     simp only[↓zq,zs,an]
     refine⟨fun h=>(by simp at h),fun _=>?_⟩
     refine aG (sH (.atom s) [114,101,99]) ?_
     simp only[↓zq,zs,an]
     refine⟨fun h=>(by simp at h),fun _=>?_⟩
     trivial
 |
  .list l,ar,a,hok,ha,hl=>by
  simp only[E.sz]at hl
  refine AZ _ _ ((cU _).mpr trivial) ha.1 ?_
  have hd:=ov (.list l)
  have hlen:=l9 (.list l)
  simp only[E.at]at hd
  have hp:fK []=false:=rfl
  have hq:bX []=false:=rfl
  simp only[y4,↓zq,zs,an,zt,cu,cU,fp,hd]
  refine⟨hlen,fun h=>(by simp at h),fun h=>⟨hlen,fun h1=>(by simp at h1),fun h1=>⟨hlen,?_⟩⟩⟩
  refine aG (zr []) ?_
  simp only[↓zq,zs,an,hp]
  refine⟨fun h=>(by simp at h),fun _=>⟨hlen,?_⟩⟩
  refine aG (Cd []) ?_
  simp only[↓zq,zs,an,hq]
  refine⟨fun h=>(by simp at h),fun _=>?_⟩
  refine aG (sH (.list l) [43]) ?_
  match l,hok,hl with
  |
   [x,y,z],hok,hl =>
   simp only[E.lU]at hl
   obtain⟨ok1,ok2,ok3,_⟩:=hok
   have iy:=Cf y ar a ok2 ha (by omega)
   have iz:=Cf z ar a ok3 ha (by omega)
   have hds:((E.list [x,y,z]).iF.deref.drop 1).headD .any=.sl [[x.iF],[y.iF],[z.iF]]:=rfl
   have hdl:1<=((E.list [x,y,z]).iF.deref.drop 1).length:=by simp[E.iF,gX]
   have hxd:=ov x
   have hxl:=l9 x
   have hyd:=ov y
   have hyl:=l9 y
   have bin:∀(c:UInt8) (mkT:Ty->Ty->Ty),(∀t u:Ty,(mkT t u).av=.ptr [.v (.int .u8 (c.toNat:Int)),.v (.string (mk [])),.v (.int .i64 0),t.av,u.av])->x.at=[c]->bt (mk x.at) 0=(c.toNat:Int):=fun c _ _ hx=>by
    have:=ky x.at 0 (by rw[hx];simp)
    simp only[Int.ofNat_eq_natCast,Int.cast_ofNat_Int]at this
    rw[this,hx];rfl
   simp only[↓zq,zs,an,zt,hds,hdl,cU,fp,toNat_one,gL,hxd,hyd,mC]
   refine⟨fun hx=>?_,fun hx=>?_⟩
   ·refine⟨by omega,by omega,?_⟩
    refine aG iy ?_
    simp only[↓zq,zs,an,fC]
    refine⟨by omega,by omega,?_⟩
    refine aG iz ?_
    have hb:=bin 43 Ty.plus (fun _ _=>rfl) hx
    rw[gI ar hx]
    simp only[↓zq,zs,an,zt,fC]
    cases h1:bG y ar with
    |none=>simp[eD,fQ]
    |
     some t =>
     cases h2:bG z ar with
     |none=>simp[eD,fQ,cJ]
     |
      some u =>
      simp only[eD,cJ,hb]
      refine⟨fun h=>(by cases h),fun _=>⟨fun h=>(by cases h),fun _=>⟨by omega,by omega,hxl,⟨by omega,by rw[hx];simp⟩,rfl⟩⟩⟩
   ·refine aG (sH (.list [x,y,z]) [42]) ?_
    simp only[↓zq,zs,an,hds,hdl,cU,fp,toNat_one,gL,hxd,hyd,mC]
    refine⟨fun hx2=>?_,fun hx2=>?_⟩
    ·refine⟨by omega,by omega,?_⟩
     refine aG iy ?_
     simp only[↓zq,zs,an,fC]
     refine⟨by omega,by omega,?_⟩
     refine aG iz ?_
     have hb:=bin 42 Ty.times (fun _ _=>rfl) hx2
     rw[fT ar hx2]
     simp only[↓zq,zs,an,zt,fC]
     cases h1:bG y ar with
     |none=>simp[eD,fQ]
     |
      some t =>
      cases h2:bG z ar with
      |none=>simp[eD,fQ,cJ]
      |
       some u =>
       simp only[eD,cJ,hb]
       refine⟨fun h=>(by cases h),fun _=>⟨fun h=>(by cases h),fun _=>⟨by omega,by omega,hxl,⟨by omega,by rw[hx2];simp⟩,rfl⟩⟩⟩
    ·refine aG (sH (.list [x,y,z]) [114,101,99]) ?_
     simp only[↓zq,zs,an,zt,hds,hdl,cU,fp,toNat_one,gL,hxd,hyd,mC]
     refine⟨fun hx3=>⟨by omega,by omega,hyl,?_⟩,fun hx3=>?_⟩
     ·refine aG (Cd y.at) ?_
      rw[i7 ar hx3]
      simp only[↓zq,zs,an]
      have hal:db 1 a.aT:=by rw[ha.2];exact ja ar
      have hal1:db 1 [[AV.v (.string (mk y.at))]]:=fun c hc=>by simp at hc;rw[hc];rfl
      refine⟨fun hlo=>⟨by omega,by omega,⟨ha.1,hal,by rw[ha.len];omega⟩,by omega,by omega,hyl,⟨hal1,by rw[bp,ha.len];omega⟩,?_⟩,fun hlo=>?_⟩
      ·rw[bp,ha.2,wP,if_pos hlo]
       refine aG (Cf z (ar++[y.at]) _ ok3 (.of _) (by simp;omega)) ?_
       simp only[↓zq,zs,an,fC]
       cases h2:bG z (ar++[y.at])with
       |none=>simp[eD,fQ]
       |
        some u =>
        simp only[eD,cJ]
        refine⟨fun h=>(by cases h),fun _=>rfl⟩
      ·rw[if_neg (by rw[hlo];simp)];rfl
     ·rw[fq ar hx hx2 hx3];rfl
  |
   [],_,_ =>
   simp only[↓zq,zs,an]
   refine⟨fun h=>(by cases h),fun _=>?_⟩
   refine aG (sH (.list []) [42]) ?_
   simp only[↓zq,zs,an]
   refine⟨fun h=>(by cases h),fun _=>?_⟩
   refine aG (sH (.list []) [114,101,99]) ?_
   simp only[↓zq,zs,an]
   refine⟨fun h=>(by cases h),fun _=>?_⟩
   rfl
  |
   [x1],_,_ =>
   simp only[↓zq,zs,an]
   refine⟨fun h=>(by cases h),fun _=>?_⟩
   refine aG (sH (.list [x1]) [42]) ?_
   simp only[↓zq,zs,an]
   refine⟨fun h=>(by cases h),fun _=>?_⟩
   refine aG (sH (.list [x1]) [114,101,99]) ?_
   simp only[↓zq,zs,an]
   refine⟨fun h=>(by cases h),fun _=>?_⟩
   rfl
  |
   [x1,x2],_,_ =>
   simp only[↓zq,zs,an]
   refine⟨fun h=>(by cases h),fun _=>?_⟩
   refine aG (sH (.list [x1,x2]) [42]) ?_
   simp only[↓zq,zs,an]
   refine⟨fun h=>(by cases h),fun _=>?_⟩
   refine aG (sH (.list [x1,x2]) [114,101,99]) ?_
   simp only[↓zq,zs,an]
   refine⟨fun h=>(by cases h),fun _=>?_⟩
   rfl
  |
   x1::x2::x3::x4::l,_,_ =>
   simp only[↓zq,zs,an]
   refine⟨fun h=>(by cases h),fun _=>?_⟩
   refine aG (sH (.list (x1::x2::x3::x4::l)) [42]) ?_
   simp only[↓zq,zs,an]
   refine⟨fun h=>(by cases h),fun _=>?_⟩
   refine aG (sH (.list (x1::x2::x3::x4::l)) [114,101,99]) ?_
   simp only[↓zq,zs,an]
   refine⟨fun h=>(by cases h),fun _=>?_⟩
   rfl
end Go.Proofs.Trees
namespace Go.Proofs.Trees
open Go Go.VL
def eA(v:AV)(obs:List Ob):AV->List Ob->Prop:=fun r o=>r=v/\o=obs
theorem a6{P:Program}{n:Nat}{Q:Nat->List AV->List Ob->Prop}{f:Nat}{xs:List AV}{ins:List Ob}{k:AV->List Ob->Tree}{v:AV}{obs:List Ob}(h:aC P f xs ins (eA v obs))(hk:dk P n (k v obs) Q):dk P n (.call f xs ins k) Q :=
 ⟨eA v obs,h,⟨v,obs,rfl,rfl⟩,fun r o ⟨h1,h2⟩=>by rw[h1,h2];exact hk⟩
def Ty.aq:Ty->Nat
 | .plus a b=>1+a.aq+b.aq
 | .times a b=>1+a.aq+b.aq
 | .rc a=>2+a.aq
 |_=>1
theorem xL:∀(t:Ty),t.aq<1000000->aC Tryd.prog 28 [t.av] [] (cu (.v (.int .i64 (t.aq:Int))))
 | .zero,h=>by refine yh _ ((aB _).mpr trivial) ?_;simp[xw,Ty.av,↓zq,zs,an,cu,Ty.aq]
 | .one,h=>by refine yh _ ((aB _).mpr trivial) ?_;simp[xw,Ty.av,↓zq,zs,an,cu,Ty.aq]
 | .name s,h=>by refine yh _ ((aB _).mpr trivial) ?_;simp[xw,Ty.av,↓zq,zs,an,cu,Ty.aq]
 | .bm u,h=>by refine yh _ ((aB _).mpr trivial) ?_;simp[xw,Ty.av,↓zq,zs,an,cu,Ty.aq]
 |
  .plus a b,h=>by
  simp only[Ty.aq]at h
  refine yh _ ((aB _).mpr trivial) ?_
  simp only[xw,Ty.av,↓zq,zs,an,aB]
  refine⟨by omega,fun _=>⟨by omega,?_⟩,fun h=>absurd rfl h⟩
  refine aG (xL a (by omega)) ?_
  simp only[↓zq,zs,an,aB]
  refine⟨by omega,?_⟩
  refine aG (xL b (by omega)) ?_
  simp only[↓zq,zs,an,cu,Ty.aq]
  rw[wrap64 (1+(a.aq:Int)) (by omega) (by omega),wrap64 _ (by omega) (by omega)]
  congr 2
 |
  .times a b,h=>by
  simp only[Ty.aq]at h
  refine yh _ ((aB _).mpr trivial) ?_
  simp only[xw,Ty.av,↓zq,zs,an,aB]
  refine⟨by omega,fun h=>by omega,fun _=>⟨fun _=>⟨by omega,?_⟩,fun h=>absurd rfl h⟩⟩
  refine aG (xL a (by omega)) ?_
  simp only[↓zq,zs,an,aB]
  refine⟨by omega,?_⟩
  refine aG (xL b (by omega)) ?_
  simp only[↓zq,zs,an,cu,Ty.aq]
  rw[wrap64 (1+(a.aq:Int)) (by omega) (by omega),wrap64 _ (by omega) (by omega)]
  congr 2
 |
  .rc a,h=>by
  simp only[Ty.aq]at h
  refine yh _ ((aB _).mpr trivial) ?_
  simp only[xw,Ty.av,↓zq,zs,an,aB]
  refine⟨by omega,fun h=>by omega,fun _=>⟨fun h=>by omega,fun _=>⟨fun _=>⟨by omega,?_⟩,fun h=>absurd rfl h⟩⟩⟩
  refine aG (xL a (by omega)) ?_
  simp only[↓zq,zs,an,cu,Ty.aq]
  rw[wrap64 _ (by omega) (by omega)]
  congr 2
theorem ff:∀(e:E) (ar:List (List UInt8)) (t:Ty),bG e ar=some t->t.aq<=e.sz
 |
  .atom s,ar,t,h=>by
  simp only[bG]at h
  simp only[E.sz]
  split at h
  ·cases h;simp[Ty.aq]
  ·split at h
   ·cases h;simp[Ty.aq]
   ·split at h
    ·cases h;simp[Ty.aq]
    ·split at h
     ·split at h<;>cases h<;>simp[Ty.aq]
     ·cases h
 |
  .list [x,a,b],ar,t,h=>by
  have hs:∀e:E,1<=e.sz:=fun e=>by cases e<;>simp[E.sz];try omega
  have hx:=hs x
  have ha:=hs a
  simp only[E.sz,E.lU]
  by_cases h1:x.at=[43]
  ·rw[gI ar h1]at h
   split at h
   ·rename_i t1 t2 e1 e2
    cases h
    have:=ff a ar t1 e1
    have:=ff b ar t2 e2
    simp only[Ty.aq];omega
   ·cases h
  ·by_cases h2:x.at=[42]
   ·rw[fT ar h2]at h
    split at h
    ·rename_i t1 t2 e1 e2
     cases h
     have:=ff a ar t1 e1
     have:=ff b ar t2 e2
     simp only[Ty.aq];omega
    ·cases h
   ·by_cases h3:x.at=[114,101,99]
    ·rw[i7 ar h3]at h
     split at h
     ·split at h
      ·rename_i t1 e1
       cases h
       have:=ff b _ t1 e1
       simp only[Ty.aq];omega
      ·cases h
     ·cases h
    ·rw[fq ar h1 h2 h3]at h;cases h
 | .list [],_,_,h=>by cases h
 | .list [_],_,_,h=>by cases h
 | .list [_,_],_,_,h=>by cases h
 | .list (_::_::_::_::_),_,_,h=>by cases h
def mO(s:List UInt8):Option Ty:=match nh s with
 |none=>none
 |
  some e=>match bG e []with
  |none=>none
  |some t=>if t.aq>400 then none else some t
theorem B8(s:List UInt8):aC Tryd.prog 13 [.v (.string (mk s))] [] (cu (eD (mO s))):=by
 refine Cu _ ?_
 unfold Be
 refine aG (Cm s) ?_
 unfold mO
 cases he:nh s with
 |none=>simp only[qz,↓zq,zs,an,cu,eD];simp
 |
  some e =>
  obtain⟨h1,h2⟩:=mw he
  simp only[qz,↓zq,zs,an,cU,fp]
  refine⟨fun h=>(by cases h),fun _=>?_⟩
  refine aG (Cf e [] _ h1 .nil (by simp;omega)) ?_
  cases ht:bG e []with
  |none=>simp only[eD,↓zq,zs,an,cu];simp
  |
   some t =>
   have:=ff e [] t ht
   simp only[eD,↓zq,zs,an,aB,cJ]
   refine⟨fun h=>(by cases h),fun _=>?_⟩
   refine aG (xL t (by omega)) ?_
   simp only[↓zq,zs,an,cu]
   refine⟨fun h=>?_,fun h=>?_⟩
   ·rw[if_pos (by omega)]
   ·rw[if_neg (by omega)]
end Go.Proofs.Trees
namespace Go.Proofs.Trees
open Go Go.VL
def tV(p:Prop):Nat->List AV->List Ob->Prop:=fun t ys o=>(t=1/\¬p/\ys=[]/\o=[])\/(t=2/\p/\∃j:Nat,ys=[.v (.int .i64 (j:Int))]/\o=[])
theorem BD(l:List (List UInt8))(a:AV)(ha:dD a l)(s:List UInt8)(hl:l.length<1000000):∀(k i:Nat),i+k=l.length->s∉l.take i->yk [a,.v (.string (mk s)),.v (.int .i64 (l.length:Int)),.v (.int .i64 (i:Int))] []
 (tV (s∈l))
 |
  0,i,hi,hn=>by
  refine Af _ _ _ _ ?_
  simp only[zu,↓zq,zs,an]
  have:l.take i=l:=List.take_of_length_le (by omega)
  rw[this]at hn
  exact⟨ha.1,fun h=>by omega,fun _=>.inl ⟨rfl,hn,rfl,rfl⟩⟩
 |
  k+1,i,hi,hn=>by
  have hlt:i<l.length:=by omega
  refine Af _ _ _ _ ?_
  simp only[zu,↓zq,zs,an,zt,ha.len,ha.idx hlt]
  have hm:l.getD i []∈l:=by simp[aa,hlt]
  refine⟨ha.1,fun _=>⟨⟨ha.1,by omega,by omega⟩,by omega,fun h=>?_,fun h=>?_⟩,fun h=>by omega⟩
  ·exact .inr ⟨rfl,by rw[h];exact hm,i,rfl,rfl⟩
  ·rw[cK i (by omega)]
   refine BD l a ha s hl k (i+1) (by omega) ?_
   rw[List.take_add_one]
   simp only[aN,not_or]
   refine⟨hn,?_⟩
   have:l[i]?=some (l.getD i []):=by simp[aa,hlt]
   rw[this];simpa using h
theorem Bk(l:List (List UInt8))(a:AV)(ha:dD a l)(s:List UInt8)(hl:l.length<1000000):aC Tryd.prog 51 [a,.v (.string (mk s))] [] (cu (.v (.bool (decide (s∈l))))):=by
 have hI:aC Tryd.prog 68 [a,.v (.string (mk s))] [] (fun r o=>∃n:Int,r=.v (.int .i64 n)/\(0<=n↔s∈l)/\o=[]):=by
  refine Cz _ _ ha.1 ?_
  simp only[Bl,↓zq,zs,an,ha.len]
  refine⟨ha.1,mU (BD l a ha s hl l.length 0 (by omega) (by simp)) ?_ ?_⟩
  ·rintro ys o (⟨_,h1,rfl,rfl⟩|⟨h,_⟩)
   ·simp only[↓zq,zs,an]
    exact⟨-1,rfl,⟨fun h=>(by omega),fun h=>absurd h h1⟩⟩
   ·cases h
  ·rintro ys o (⟨h,_⟩|⟨_,h1,j,rfl,rfl⟩)
   ·cases h
   ·simp only[↓zq,zs,an]
    exact⟨j,rfl,⟨fun _=>h1,fun _=>(by omega)⟩⟩
 refine Cl _ _ ha.1 ?_
 unfold Ac
 refine aV hI ⟨.v (.int .i64 (if s∈l then 0 else -1)),[],_,rfl,by split<;>simp_all,rfl⟩ ?_
 rintro r o ⟨n,rfl,hn,rfl⟩
 simp only[↓zq,zs,an,cu]
 congr 2
 rw[cC];simp[hn]
def lu(out:List (List UInt8)):Ty->List (List UInt8)
 | .name s=>if s∈out then out else out++[s]
 |_=>out
theorem yn(t:Ty)(out:List (List UInt8))(hl:out.length<100000):aC Tryd.prog 54 [t.av,.ref 0 0] [.cells [.vec 1],.vec 1 (dj out)] (eA .any [.cells [.vec 1],.vec 1 (dj (lu out t))]):=by
 refine DL _ _ ((aB _).mpr trivial) ?_
 have hlen:(dj out).length=out.length:=by simp[dj]
 cases t with
 |
  name s =>
  simp only[zy,Ty.av,↓zq,zs,an,eA,hlen]
  refine⟨by omega,fun _=>⟨by omega,?_⟩,fun h=>absurd rfl h⟩
  refine aG (Bk out _ (.of out) s (by omega)) ?_
  simp only[↓zq,zs,an,lu]
  refine⟨fun h=>⟨by omega,⟨fun c hc=>(by simp at hc;rw[hc];rfl),by omega⟩,?_⟩,fun h=>?_⟩
  ·rw[wP,if_neg h]
  ·rw[if_pos h]
 |_=>simp[zy,Ty.av,↓zq,zs,an,eA,lu]
def a8:Ty->List (List UInt8)->List (List UInt8)
 | .name s,out=>lu out (.name s)
 | .plus a b,out=>a8 b (a8 a out)
 | .times a b,out=>a8 b (a8 a out)
 | .rc a,out=>a8 a out
 |_,out=>out
theorem cW:∀(t:Ty) (out:List (List UInt8)),(a8 t out).length<=out.length+t.aq
 | .name s,out=>by simp only[a8,lu,Ty.aq];split<;>simp
 |
  .plus a b,out=>by
  have:=cW a out
  have:=cW b (a8 a out)
  simp only[a8,Ty.aq];omega
 |
  .times a b,out=>by
  have:=cW a out
  have:=cW b (a8 a out)
  simp only[a8,Ty.aq];omega
 |
  .rc a,out=>by
  have:=cW a out
  simp only[a8,Ty.aq];omega
 | .zero,out=>by simp[a8]
 | .one,out=>by simp[a8]
 | .bm u,out=>by simp[a8]
theorem zL:∀(t:Ty) (out:List (List UInt8)),out.length+t.aq<100000->aC Tryd.prog 22 [t.av,.fn 54 [.ref 0 0]] [.cells [.vec 1],.vec 1 (dj out)] (eA .any [.cells [.vec 1],.vec 1 (dj (a8 t out))])
 |
  .plus a b,out,hl=>by
  simp only[Ty.aq]at hl
  have:=cW a out
  refine yP _ _ ((aB _).mpr trivial) ?_
  unfold xI
  refine a6 (yn (.plus a b) out (by omega)) ?_
  simp only[Ty.av,↓zq,zs,an,aB,cJ,lu,aM,eA]
  refine⟨by omega,fun _=>⟨by omega,?_⟩,fun h=>(by cases h)⟩
  refine a6 (zL a out (by omega)) ?_
  simp only[↓zq,zs,an,aB,cJ,aM]
  refine⟨by omega,fun _=>⟨by omega,?_⟩,fun h=>(by cases h)⟩
  refine a6 (zL b (a8 a out) (by omega)) ?_
  simp only[↓zq,zs,an,aM,a8]
 |
  .times a b,out,hl=>by
  simp only[Ty.aq]at hl
  have:=cW a out
  refine yP _ _ ((aB _).mpr trivial) ?_
  unfold xI
  refine a6 (yn (.times a b) out (by omega)) ?_
  simp only[Ty.av,↓zq,zs,an,aB,cJ,lu,aM,eA]
  refine⟨by omega,fun _=>⟨by omega,?_⟩,fun h=>(by cases h)⟩
  refine a6 (zL a out (by omega)) ?_
  simp only[↓zq,zs,an,aB,cJ,aM]
  refine⟨by omega,fun _=>⟨by omega,?_⟩,fun h=>(by cases h)⟩
  refine a6 (zL b (a8 a out) (by omega)) ?_
  simp only[↓zq,zs,an,aM,a8]
 |
  .rc a,out,hl=>by
  simp only[Ty.aq]at hl
  refine yP _ _ ((aB _).mpr trivial) ?_
  unfold xI
  refine a6 (yn (.rc a) out (by omega)) ?_
  simp only[Ty.av,↓zq,zs,an,aB,cJ,lu,aM,eA]
  refine⟨by omega,fun _=>⟨by omega,?_⟩,fun h=>(by cases h)⟩
  refine a6 (zL a out (by omega)) ?_
  simp[↓zq,zs,an,aB,cJ,aM,a8]
 |
  .name s,out,hl=>by
  refine yP _ _ ((aB _).mpr trivial) ?_
  unfold xI
  refine a6 (yn (.name s) out (by omega)) ?_
  simp[Ty.av,↓zq,zs,an,aM,eA,a8]
 |
  .zero,out,hl=>by
  refine yP _ _ ((aB _).mpr trivial) ?_
  unfold xI
  refine a6 (yn .zero out (by omega)) ?_
  simp[Ty.av,↓zq,zs,an,aM,eA,a8,lu]
 |
  .one,out,hl=>by
  refine yP _ _ ((aB _).mpr trivial) ?_
  unfold xI
  refine a6 (yn .one out (by omega)) ?_
  simp[Ty.av,↓zq,zs,an,aM,eA,a8,lu]
 |
  .bm u,out,hl=>by
  refine yP _ _ ((aB _).mpr trivial) ?_
  unfold xI
  refine a6 (yn (.bm u) out (by omega)) ?_
  simp[Ty.av,↓zq,zs,an,aM,eA,a8,lu]
theorem Bo(t:Ty)(hl:t.aq<100000):aC Tryd.prog 33 [t.av] [] (cu (.sl (dj (a8 t [])))):=by
 refine Ct _ ((aB _).mpr trivial) ?_
 unfold An
 refine a6 (zL t [] (by simpa using hl)) ?_
 simp[↓zq,zs,an,aM,cu]
theorem BL(l:List (List UInt8))(a:AV)(ha:dD a l)(hl:l.length<1000000):∀(k i:Nat),i+k=l.length->(∀s,s∈l.take i->bX s=false)->xS [a,.v (.func (.func 34) #[] #[]),.v (.int .i64 (l.length:Int)),.v (.int .i64 (i:Int))] []
 (tV (l.any bX=true))
 |
  0,i,hi,hn=>by
  refine Ax _ _ _ ?_
  simp only[ym,↓zq,zs,an]
  have:l.take i=l:=List.take_of_length_le (by omega)
  rw[this]at hn
  exact⟨ha.1,fun h=>by omega,fun _=>.inl ⟨rfl,fun hh=>(by obtain⟨x,hx,hy⟩:=bi.1 hh;rw[hn x hx]at hy;cases hy),rfl,rfl⟩⟩
 |
  k+1,i,hi,hn=>by
  have hlt:i<l.length:=by omega
  refine Ax _ _ _ ?_
  simp only[ym,↓zq,zs,an,zt,ha.len,ha.idx hlt]
  have hm:l.getD i []∈l:=by simp[aa,hlt]
  refine⟨ha.1,fun _=>⟨⟨ha.1,by omega,by omega⟩,by omega,?_⟩,fun h=>by omega⟩
  refine aG (Cd _) ?_
  simp only[↓zq,zs,an]
  refine⟨fun h=>?_,fun h=>?_⟩
  ·exact .inr ⟨rfl,bi.2 ⟨_,hm,h⟩,i,rfl,rfl⟩
  ·rw[cK i (by omega)]
   refine BL l a ha hl k (i+1) (by omega) ?_
   intro s hs
   rw[List.take_add_one]at hs
   have:l[i]?=some (l.getD i []):=by simp[aa,hlt]
   rw[this]at hs
   rcases aN.1 hs with hs|hs
   ·exact hn s hs
   ·simp at hs;rw[hs];simpa using h
theorem CT(l:List (List UInt8))(a:AV)(ha:dD a l)(hl:l.length<1000000):aC Tryd.prog 32 [a,.v (.func (.func 34) #[] #[])] [] (cu (.v (.bool (l.any bX)))):=by
 have hI:aC Tryd.prog 53 [a,.v (.func (.func 34) #[] #[])] [] (fun r o=>∃n:Int,r=.v (.int .i64 n)/\(0<=n↔l.any bX=true)/\o=[]):=by
  refine DF _ ha.1 ?_
  simp only[Aq,↓zq,zs,an,ha.len]
  refine⟨ha.1,mU (BL l a ha hl l.length 0 (by omega) (by simp)) ?_ ?_⟩
  ·rintro ys o (⟨_,h1,rfl,rfl⟩|⟨h,_⟩)
   ·simp only[↓zq,zs,an]
    exact⟨-1,rfl,⟨fun h=>(by omega),fun h=>absurd h h1⟩⟩
   ·cases h
  ·rintro ys o (⟨h,_⟩|⟨_,h1,j,rfl,rfl⟩)
   ·cases h
   ·simp only[↓zq,zs,an]
    exact⟨j,rfl,⟨fun _=>h1,fun _=>(by omega)⟩⟩
 refine CZ _ ha.1 ?_
 unfold zZ
 refine aV hI ⟨.v (.int .i64 (if l.any bX=true then 0 else -1)),[],_,rfl,by split<;>simp_all,rfl⟩ ?_
 rintro r o ⟨n,rfl,hn,rfl⟩
 simp only[↓zq,zs,an,cu]
 congr 2
 rw[cC];simp only[decide_eq_true_eq,ge_iff_le,hn]
def Ty.closed(t:Ty):Bool:=!((a8 t []).any bX)
theorem Ah(t:Ty)(hl:t.aq<100000):aC Tryd.prog 17 [t.av] [] (cu (.v (.bool t.closed))):=by
 refine CG _ ((aB _).mpr trivial) ?_
 unfold AA
 refine aG (Bo t hl) ?_
 simp only[↓zq,zs,an]
 have:=cW t []
 refine aG (CT _ _ (.of _) (by simp at this;omega)) ?_
 simp only[↓zq,zs,an,cu,Ty.closed]
def nk(s:List UInt8):Option Ty:=match mO s with
 |none=>none
 |some t=>if t.closed=true then some t else none
theorem kU{s:List UInt8}{t:Ty}(h:mO s=some t):t.aq<=400:=by
 unfold mO at h
 split at h
 ·cases h
 ·split at h
  ·cases h
  ·split at h<;>cases h
   omega
theorem Cn(s:List UInt8):aC Tryd.prog 21 [.v (.string (mk s))] [] (cu (eD (nk s))):=by
 refine C6 _ ?_
 unfold AX
 refine aG (B8 s) ?_
 unfold nk
 cases ht:mO s with
 |none=>simp[eD,↓zq,zs,an,cu]
 |
  some t =>
  have:=kU ht
  simp only[eD,↓zq,zs,an,aB,cJ]
  refine⟨fun h=>(by cases h),fun _=>?_⟩
  refine aG (Ah t (by omega)) ?_
  simp only[↓zq,zs,an,cu]
  refine⟨fun h=>?_,fun h=>?_⟩
  ·rw[if_neg (by rw[h];simp)]
  ·rw[if_pos h]
def j4(b:Bool):Ty->Bool
 | .rc _=>false
 | .name s=>b&&decide (s.length<=1)
 |_=>b
theorem yS(t:Ty)(b:Bool):aC Tryd.prog 23 [t.av,.ref 0 0] [.cells [.v (.bool b)]] (eA .any [.cells [.v (.bool (j4 b t))]]):=by
 refine Co _ _ ((aB _).mpr trivial) ?_
 cases b<;>cases t<;>simp[AM,Ty.av,↓zq,zs,an,zt,eA,j4]<;>omega
def cQ:Ty->Bool->Bool
 | .plus a c,b=>cQ c (cQ a b)
 | .times a c,b=>cQ c (cQ a b)
 | .rc a,b=>cQ a false
 | .name s,b=>b&&decide (s.length<=1)
 |_,b=>b
theorem zF:∀(t:Ty) (b:Bool),aC Tryd.prog 22 [t.av,.fn 23 [.ref 0 0]] [.cells [.v (.bool b)]] (eA .any [.cells [.v (.bool (cQ t b))]])
 |
  .plus a c,b=>by
  refine zB _ _ ((aB _).mpr trivial) ?_
  unfold xB
  refine a6 (yS (.plus a c) b) ?_
  simp only[Ty.av,↓zq,zs,an,aB,cJ,j4,aM,eA]
  refine⟨by omega,fun _=>⟨by omega,?_⟩,fun h=>(by cases h)⟩
  refine a6 (zF a b) ?_
  simp only[↓zq,zs,an,aB,cJ,aM]
  refine⟨by omega,fun _=>⟨by omega,?_⟩,fun h=>(by cases h)⟩
  refine a6 (zF c _) ?_
  simp only[↓zq,zs,an,aM,cQ]
 |
  .times a c,b=>by
  refine zB _ _ ((aB _).mpr trivial) ?_
  unfold xB
  refine a6 (yS (.times a c) b) ?_
  simp only[Ty.av,↓zq,zs,an,aB,cJ,j4,aM,eA]
  refine⟨by omega,fun _=>⟨by omega,?_⟩,fun h=>(by cases h)⟩
  refine a6 (zF a b) ?_
  simp only[↓zq,zs,an,aB,cJ,aM]
  refine⟨by omega,fun _=>⟨by omega,?_⟩,fun h=>(by cases h)⟩
  refine a6 (zF c _) ?_
  simp only[↓zq,zs,an,aM,cQ]
 |
  .rc a,b=>by
  refine zB _ _ ((aB _).mpr trivial) ?_
  unfold xB
  refine a6 (yS (.rc a) b) ?_
  simp only[Ty.av,↓zq,zs,an,aB,cJ,j4,aM,eA]
  refine⟨by omega,fun _=>⟨by omega,?_⟩,fun h=>(by cases h)⟩
  refine a6 (zF a false) ?_
  simp[↓zq,zs,an,aB,cJ,aM,cQ]
 |
  .name s,b=>by
  refine zB _ _ ((aB _).mpr trivial) ?_
  unfold xB
  refine a6 (yS (.name s) b) ?_
  simp[Ty.av,↓zq,zs,an,aM,eA,cQ,j4]
 |
  .zero,b=>by
  refine zB _ _ ((aB _).mpr trivial) ?_
  unfold xB
  refine a6 (yS .zero b) ?_
  simp[Ty.av,↓zq,zs,an,aM,eA,cQ,j4]
 |
  .one,b=>by
  refine zB _ _ ((aB _).mpr trivial) ?_
  unfold xB
  refine a6 (yS .one b) ?_
  simp[Ty.av,↓zq,zs,an,aM,eA,cQ,j4]
 |
  .bm u,b=>by
  refine zB _ _ ((aB _).mpr trivial) ?_
  unfold xB
  refine a6 (yS (.bm u) b) ?_
  simp[Ty.av,↓zq,zs,an,aM,eA,cQ,j4]
def sB(s:List UInt8):Option Ty:=match nk s with
 |none=>none
 |some t=>if cQ t true=true then some t else none
theorem CU(s:List UInt8):aC Tryd.prog 11 [.v (.string (mk s))] [] (cu (eD (sB s))):=by
 refine DT _ ?_
 unfold Ao
 refine aG (Cn s) ?_
 unfold sB
 cases ht:nk s with
 |none=>simp[eD,↓zq,zs,an,cu]
 |
  some t =>
  simp only[eD,↓zq,zs,an,aB,cJ]
  refine⟨fun h=>(by cases h),fun _=>?_⟩
  refine a6 (zF t true) ?_
  simp only[↓zq,zs,an,cu,aM]
  refine⟨fun h=>?_,fun h=>?_⟩
  ·rw[if_neg (by rw[h];simp)]
  ·rw[if_pos h]
end Go.Proofs.Trees
namespace Go.Proofs.Trees
open Go Go.VL Go.RowKit
abbrev Nm:=List UInt8
def eT(u:Ty):Ty->Nat->Ty
 | .bm k,i=>if k=i then u else .bm k
 | .plus a b,i=>.plus (eT u a i) (eT u b i)
 | .times a b,i=>.times (eT u a i) (eT u b i)
 | .rc a,i=>.rc (eT u a (i+1))
 |t,_=>t
def sub(x:Nm)(u:Ty):Ty->Ty
 | .name s=>if s=x then u else .name s
 | .plus a b=>.plus (sub x u a) (sub x u b)
 | .times a b=>.times (sub x u a) (sub x u b)
 | .rc a=>.rc (sub x u a)
 |t=>t
def ba(x:Nm):Ty->Bool
 | .name s=>decide (s=x)
 | .plus a b=>ba x a||ba x b
 | .times a b=>ba x a||ba x b
 | .rc a=>ba x a
 |_=>false
def fR(f:Nm->Nm):Ty->Ty
 | .name s=>.name (f s)
 | .plus a b=>.plus (fR f a) (fR f b)
 | .times a b=>.times (fR f a) (fR f b)
 | .rc a=>.rc (fR f a)
 |t=>t
def AR(f:Nm->Nm):Prop:=∀x y,f x=f y->x=y
theorem hP(f:Nm->Nm)(x:Nm):∀(t:Ty) (i:Nat),fR f (eT (.name x) t i)=eT (.name (f x)) (fR f t) i
 | .bm k,i=>by simp only[eT,fR];split<;>rfl
 | .plus a b,i=>by simp only[eT,fR,hP f x a i,hP f x b i]
 | .times a b,i=>by simp only[eT,fR,hP f x a i,hP f x b i]
 | .rc a,i=>by simp only[eT,fR,hP f x a (i+1)]
 | .zero,i=>rfl
 | .one,i=>rfl
 | .name s,i=>rfl
theorem ig{f:Nm->Nm}(hf:AR f)(x:Nm)(u:Ty):∀t:Ty,fR f (sub x u t)=sub (f x) (fR f u) (fR f t)
 |
  .name s=>by
  simp only[sub,fR]
  by_cases h:s=x
  ·subst h;simp
  ·rw[if_neg h,if_neg fun e=>h (hf _ _ e)];rfl
 | .plus a b=>by simp only[sub,fR,ig hf x u a,ig hf x u b]
 | .times a b=>by simp only[sub,fR,ig hf x u a,ig hf x u b]
 | .rc a=>by simp only[sub,fR,ig hf x u a]
 | .zero=>rfl
 | .one=>rfl
 | .bm k=>rfl
theorem jq{f:Nm->Nm}(hf:AR f)(x:Nm):∀t:Ty,ba (f x) (fR f t)=ba x t
 | .name s=>by simp only[ba,fR];rw[cC];simp only[decide_eq_true_eq];exact⟨fun e=>hf _ _ e,fun e=>by rw[e]⟩
 | .plus a b=>by simp only[ba,fR,jq hf x a,jq hf x b]
 | .times a b=>by simp only[ba,fR,jq hf x a,jq hf x b]
 | .rc a=>by simp only[ba,fR,jq hf x a]
 | .zero=>rfl
 | .one=>rfl
 | .bm k=>rfl
theorem en(f:Nm->Nm):∀t:Ty,(fR f t).aq=t.aq
 | .plus a b=>by simp only[Ty.aq,fR,en f a,en f b]
 | .times a b=>by simp only[Ty.aq,fR,en f a,en f b]
 | .rc a=>by simp only[Ty.aq,fR,en f a]
 | .name s=>rfl
 | .zero=>rfl
 | .one=>rfl
 | .bm k=>rfl
theorem kQ{f:Nm->Nm}:∀t:Ty,(∀x,ba x t=true->f x=x)->fR f t=t
 | .name s,h=>by simp only[fR];rw[h s (by simp[ba])]
 | .plus a b,h=>by simp only[fR];rw[kQ a fun x hx=>h x (by simp[ba,hx]),kQ b fun x hx=>h x (by simp[ba,hx])]
 | .times a b,h=>by simp only[fR];rw[kQ a fun x hx=>h x (by simp[ba,hx]),kQ b fun x hx=>h x (by simp[ba,hx])]
 | .rc a,h=>by simp only[fR];rw[kQ a fun x hx=>h x hx]
 | .zero,_=>rfl
 | .one,_=>rfl
 | .bm k,_=>rfl
theorem eh(x:Nm):∀(t:Ty) (i:Nat),(eT (.name x) t i).aq=t.aq
 | .bm k,i=>by simp only[eT];split<;>rfl
 | .plus a b,i=>by simp only[eT,Ty.aq,eh x a i,eh x b i]
 | .times a b,i=>by simp only[eT,Ty.aq,eh x a i,eh x b i]
 | .rc a,i=>by simp only[eT,Ty.aq,eh x a (i+1)]
 | .zero,i=>rfl
 | .one,i=>rfl
 | .name s,i=>rfl
theorem ew(t:Ty):1<=t.aq:=by cases t<;>simp only[Ty.aq]<;>omega
theorem ei(x:Nm)(u:Ty):∀t:Ty,t.aq<=(sub x u t).aq
 | .name s=>by simp only[sub];split<;>simp only[Ty.aq];exact ew u;omega
 | .plus a b=>by have:=ei x u a;have:=ei x u b;simp only[sub,Ty.aq];omega
 | .times a b=>by have:=ei x u a;have:=ei x u b;simp only[sub,Ty.aq];omega
 | .rc a=>by have:=ei x u a;simp only[sub,Ty.aq];omega
 | .zero=>aw _
 | .one=>aw _
 | .bm k=>aw _
theorem eF{x y:Nm}:∀(t:Ty) (i:Nat),ba y (eT (.name x) t i)=true->y=x\/ba y t=true
 |
  .bm k,i,h=>by
  simp only[eT]at h
  split at h
  ·left;simp only[ba,decide_eq_true_eq]at h;exact h.symm
  ·cases h
 |
  .plus a b,i,h=>by
  simp only[eT,ba,aY]at h |-
  rcases h with h|h
  ·rcases eF a i h with h|h<;>simp[h]
  ·rcases eF b i h with h|h<;>simp[h]
 |
  .times a b,i,h=>by
  simp only[eT,ba,aY]at h |-
  rcases h with h|h
  ·rcases eF a i h with h|h<;>simp[h]
  ·rcases eF b i h with h|h<;>simp[h]
 | .rc a,i,h=>eF a (i+1) h
 | .zero,i,h=>by cases h
 | .one,i,h=>by cases h
 | .name s,i,h=>.inr h
theorem fj{x y:Nm}{u:Ty}:∀t:Ty,ba y (sub x u t)=true->ba y u=true\/(y≠x/\ba y t=true)
 |
  .name s,h=>by
  simp only[sub]at h
  split at h
  ·exact .inl h
  ·rename_i hs
   simp only[ba,decide_eq_true_eq]at h
   subst h
   exact .inr ⟨hs,by simp[ba]⟩
 |
  .plus a b,h=>by
  simp only[sub,ba,aY]at h |-
  rcases h with h|h
  ·rcases fj a h with h|h<;>simp[h]
  ·rcases fj b h with h|h<;>simp[h]
 |
  .times a b,h=>by
  simp only[sub,ba,aY]at h |-
  rcases h with h|h
  ·rcases fj a h with h|h<;>simp[h]
  ·rcases fj b h with h|h<;>simp[h]
 |
  .rc a,h=>by
  simp only[sub,ba]at h |-
  exact fj a h
 | .zero,h=>by cases h
 | .one,h=>by cases h
 | .bm k,h=>by cases h
def swp(x y:Nm):Nm->Nm:=fun s=>if s=x then y else if s=y then x else s
theorem sr(x y:Nm):AR (swp x y):=by
 intro a b h
 unfold swp at h
 by_cases h1:a=x<;>by_cases h2:a=y<;>by_cases h3:b=x<;>by_cases h4:b=y<;>simp_all
theorem rH(x y:Nm):swp x y x=y:=by simp[swp]
theorem vo{x y s:Nm}(h:s≠x)(h':s≠y):swp x y s=s:=by simp[swp,h,h']
theorem og{x y:Nm}{t:Ty}(h:ba x t=false)(h':ba y t=false):fR (swp x y) t=t :=
 kQ t fun z hz=>vo (fun e=>by subst e;rw[h]at hz;cases hz) (fun e=>by subst e;rw[h']at hz;cases hz)
def ql(a:Ty)(x:Nm)(c d:Ty):Ty:=.rc (.plus (sub x (.rc a) c) (.times (sub x (.rc a) d) (.bm 0)))
inductive Dv:Ty->Nm->Ty->Prop
 |zero (s):Dv .zero s .zero
 |one (s):Dv .one s .zero
 |bm (k s):Dv (.bm k) s .zero
 |hit (s):Dv (.name s) s .one
 |oJ {n s} (h:n≠s):Dv (.name n) s .zero
 |plus {a b s a' b'} (h1:Dv a s a') (h2:Dv b s b') (hl:(Ty.plus a' b').aq<=400):Dv (.plus a b) s (.plus a' b')
 |times {a b s a' b'} (h1:Dv a s a') (h2:Dv b s b') (hl:(Ty.plus (.times a' b) (.times a b')).aq<=400):Dv (.times a b) s (.plus (.times a' b) (.times a b'))
 |rc {a s c d} (x:Nm) (hx:ba x a=false) (hs:x≠s) (h1:Dv (eT (.name x) a 0) s c) (h2:Dv (eT (.name x) a 0) x d) (hl:(ql a x c d).aq<=400):Dv (.rc a) s (ql a x c d)
theorem sw{f:Nm->Nm}(hf:AR f)(a:Ty)(x:Nm)(c d:Ty):fR f (ql a x c d)=ql (fR f a) (f x) (fR f c) (fR f d):=by
 simp only[ql,fR,ig hf]
theorem Dv.fR{f:Nm->Nm}(hf:AR f){t d:Ty}{s:Nm}(h:Dv t s d):Dv (fR f t) (f s) (fR f d):=by
 induction h with
 |zero s=>exact .zero _
 |one s=>exact .one _
 |bm k s=>exact .bm _ _
 |hit s=>exact .hit _
 |oJ h=>exact .oJ fun e=>h (hf _ _ e)
 |plus h1 h2 hl i1 i2=>exact .plus i1 i2 (by rw[<-en f]at hl;exact hl)
 |times h1 h2 hl i1 i2=>exact .times i1 i2 (by rw[<-en f]at hl;exact hl)
 |
  rc x hx hs h1 h2 hl i1 i2 =>
  rw[sw hf]
  rw[hP]at i1 i2
  exact .rc (f x) (by rw[jq hf];exact hx) (fun e=>hs (hf _ _ e)) i1 i2 (by rw[<-sw hf,en];exact hl)
theorem Dv.names{t d:Ty}{s:Nm}(h:Dv t s d):∀y,ba y d=true->ba y t=true:=by
 induction h with
 |zero s=>intro y hy;cases hy
 |one s=>intro y hy;cases hy
 |bm k s=>intro y hy;cases hy
 |hit s=>intro y hy;cases hy
 |oJ h=>intro y hy;cases hy
 |
  plus h1 h2 hl i1 i2 =>
  intro y hy
  simp only[ba,aY]at hy |-
  rcases hy with hy|hy
  ·exact .inl (i1 y hy)
  ·exact .inr (i2 y hy)
 |
  times h1 h2 hl i1 i2 =>
  intro y hy
  simp only[ba,aY]at hy |-
  rcases hy with(hy|hy)|(hy|hy)
  ·exact .inl (i1 y hy)
  ·exact .inr hy
  ·exact .inl hy
  ·exact .inr (i2 y hy)
 |
  rc x hx hs h1 h2 hl i1 i2 =>
  intro y hy
  simp only[ql,ba,aY,Bool.or_false]at hy |-
  have key:∀{a c:Ty},(∀y,ba y c=true->ba y (eT (.name x) a 0)=true)->ba y (sub x (.rc a) c)=true->ba y a=true:=fun i h=>by
   rcases fj _ h with h|⟨h,h'⟩
   ·exact h
   ·rcases eF _ _ (i y h')with e|e
    ·exact absurd e h
    ·exact e
  rcases hy with hy|hy
  ·exact key i1 hy
  ·exact key i2 hy
theorem Dv.fresh{t d:Ty}{s y:Nm}(h:Dv t s d)(hy:ba y t=false):ba y d=false:=by
 cases e:ba y d with
 |false=>rfl
 |true=>rw[h.names y e]at hy;cases hy
theorem Dv.move{a c:Ty}{x y s:Nm}(hx:ba x a=false)(hy:ba y a=false)(h:Dv (eT (.name x) a 0) s c):Dv (eT (.name y) a 0) (swp x y s) (Go.Proofs.Trees.fR (swp x y) c):=by
 have:=h.fR (sr x y)
 rw[hP,rH,og hx hy]at this
 exact this
theorem j6{a c:Ty}{x y s:Nm}(hx:ba x a=false)(hy:ba y a=false)(h:Dv (eT (.name x) a 0) s c):sub y (.rc a) (fR (swp x y) c)=sub x (.rc a) c:=by
 have e:=ig (sr x y) x (.rc a) c
 rw[rH,og (t:=.rc a) hx hy]at e
 rw[<-e]
 have key:∀z,(z=x\/z=y)->ba z (sub x (.rc a) c)=false:=fun z hz=>by
  cases q:ba z (sub x (.rc a) c)with
  |false=>rfl
  |
   true =>
   exfalso
   have hz':ba z a=false:=by rcases hz with rfl|rfl<;>assumption
   rcases fj _ q with h1|⟨h1,h2⟩
   ·rw[show ba z (.rc a)=ba z a from rfl,hz']at h1;cases h1
   ·rcases eF _ _ (h.names z h2)with e|e
    ·exact h1 e
    ·rw[hz']at e;cases e
 exact og (key x (.inl rfl)) (key y (.inr rfl))
theorem Dv.qD:∀(n:Nat) (t:Ty),t.aq<=n->∀{s:Nm} {d d':Ty},Dv t s d->Dv t s d'->d=d'
 |0,t,h,_,_,_,_,_=>by have:=ew t;omega
 |
  n+1,t,hn,s,d,d',h,h'=>by
  cases h with
  |zero=>cases h';rfl
  |one=>cases h';rfl
  |bm=>cases h';rfl
  |
   hit =>
   cases h' with
   |hit=>rfl
   |oJ h=>exact absurd rfl h
  |
   oJ h =>
   cases h' with
   |hit=>exact absurd rfl h
   |oJ _=>rfl
  |
   plus h1 h2 =>
   simp only[Ty.aq]at hn
   cases h' with
   |plus g1 g2=>rw[Dv.qD n _ (by omega) h1 g1,Dv.qD n _ (by omega) h2 g2]
  |
   times h1 h2 =>
   simp only[Ty.aq]at hn
   cases h' with
   |times g1 g2=>rw[Dv.qD n _ (by omega) h1 g1,Dv.qD n _ (by omega) h2 g2]
  |
   rc x hx hs h1 h2 =>
   simp only[Ty.aq]at hn
   cases h' with
   |
    rc y hy hs' g1 g2 =>
    rename_i a _ _ _ _ _ _
    have m1:=h1.move hx hy
    have m2:=h2.move hx hy
    rw[vo (Ne.symm hs) (Ne.symm hs')]at m1
    rw[rH]at m2
    have e1:=Dv.qD n _ (by rw[eh];omega) m1 g1
    have e2:=Dv.qD n _ (by rw[eh];omega) m2 g2
    rw[ql,ql,<-e1,<-e2,j6 hx hy h1,j6 hx hy h2]
theorem Dv.small{t d:Ty}{s:Nm}(h:Dv t s d):d.aq<=400:=by
 cases h<;>first|assumption|simp[Ty.aq]
open Classical in
noncomputable def jy (t:Ty) (s:Nm):Option Ty:=if h:∃d,Dv t s d then some (Classical.choose h)else none
theorem cw{t:Ty}{s:Nm}{d:Ty}:jy t s=some d↔Dv t s d:=by
 unfold jy
 by_cases h:∃d,Dv t s d
 ·rw[dif_pos h]
  have:=Classical.choose_spec h
  constructor
  ·intro e;cases e;exact this
  ·intro g;rw[Dv.qD _ t (aw _) this g]
 ·rw[dif_neg h]
  exact⟨fun e=>(by cases e),fun g=>absurd ⟨d,g⟩ h⟩
def rI(t:Ty):Option Ty:=if t.aq<=400 then some t else none
theorem iL{t d:Ty}:rI t=some d↔t.aq<=400/\t=d:=by
 unfold rI
 split
 ·rename_i h;simp[h]
 ·rename_i h;simp[h]
theorem ou{α:Type}{a b:Option α}(h:∀d,a=some d↔b=some d):a=b:=by
 cases a with
 |
  none=>cases b with
  |none=>rfl
  |some x=>have:=(h x).2 rfl;cases this
 |some x=>exact((h x).1 rfl).symm
theorem uj(s:Nm):jy .zero s=some .zero:=cw.2 (.zero _)
theorem wY(s:Nm):jy .one s=some .zero:=cw.2 (.one _)
theorem s7(k:Nat)(s:Nm):jy (.bm k) s=some .zero:=cw.2 (.bm _ _)
theorem pj(n s:Nm):jy (.name n) s=some (if n=s then .one else .zero):=by
 split
 ·rename_i h;subst h;exact cw.2 (.hit _)
 ·rename_i h;exact cw.2 (.oJ h)
theorem uf(a b:Ty)(s:Nm):jy (.plus a b) s=(jy a s).bind fun a'=>(jy b s).bind fun b'=>rI (.plus a' b'):=by
 refine ou fun d=>?_
 rw[cw]
 simp only[bO,cw,iL]
 constructor
 ·intro h;cases h with|plus h1 h2 hl=>exact⟨_,h1,_,h2,hl,rfl⟩
 ·rintro⟨a',h1,b',h2,hl,rfl⟩;exact .plus h1 h2 hl
theorem tb(a b:Ty)(s:Nm):jy (.times a b) s=(jy a s).bind fun a'=>(jy b s).bind fun b'=>rI (.plus (.times a' b) (.times a b')):=by
 refine ou fun d=>?_
 rw[cw]
 simp only[bO,cw,iL]
 constructor
 ·intro h;cases h with|times h1 h2 hl=>exact⟨_,h1,_,h2,hl,rfl⟩
 ·rintro⟨a',h1,b',h2,hl,rfl⟩;exact .times h1 h2 hl
theorem yj{a:Ty}{s x:Nm}(hx:ba x a=false)(hs:x≠s):jy (.rc a) s=(jy (eT (.name x) a 0) s).bind fun c=>(jy (eT (.name x) a 0) x).bind fun d=>rI (ql a x c d):=by
 refine ou fun d=>?_
 rw[cw]
 simp only[bO,cw,iL]
 constructor
 ·intro h
  cases h with
  |
   rc y hy hs' h1 h2 hl =>
   have m1:=h1.move hy hx
   have m2:=h2.move hy hx
   rw[vo (Ne.symm hs') (Ne.symm hs)]at m1
   rw[rH]at m2
   refine⟨_,m1,_,m2,?_⟩
   have e:∀c d,sub x (.rc a) (fR (swp y x) c)=sub y (.rc a) c->sub x (.rc a) (fR (swp y x) d)=sub y (.rc a) d->ql a x (fR (swp y x) c) (fR (swp y x) d)=ql a y c d:=fun c d e1 e2=>by rw[ql,ql,e1,e2]
   rw[e _ _ (j6 hy hx h1) (j6 hy hx h2)]
   exact⟨hl,rfl⟩
 ·rintro⟨c,h1,d',h2,hl,rfl⟩;exact .rc x hx hs h1 h2 hl
noncomputable def zQ (a:Ty) (x:Nm):Option Ty:=(jy (eT (.name x) a 0) x).bind fun d=>rI (sub x (.rc a) d)
end Go.Proofs.Trees
namespace Go.Proofs.Trees
open Go Go.VL
theorem DJ(b:UInt8):aC Tryd.prog 70 [.v (.int .u8 (b.toNat:Int))] [] (cu (.v (.bool (c0 b)))):=by
 refine DO _ ?_
 simp only[BG,↓zq,zs,an,cu,c0]
 repeat' (apply ax<;>intro _)
 all_goals first|(congr 2;rw[cC];simp;omega)|(congr 2;simp;omega)
def vQ(s:List UInt8)(x:Option (E×List UInt8)):AV->List Ob->Prop:=fun r o=>o=[] /\
 match x with
 |some (e,u)=>r=.dm [e.oH,.v (.int .i64 ((s.length-u.length:Nat):Int))]
 |none=>∃(c:List UInt8) (d:AV),LK.sl.has d/\r=.dm [.agg [.v (.string (mk c)),d],.v (.int .i64 (-1))]
theorem vQ.ne(s:List UInt8)(x:Option (E×List UInt8)):∃r o,vQ s x r o:=by
 cases x with
 |some q=>exact⟨_,_,rfl,rfl⟩
 |none=>exact⟨_,_,rfl,[],.v (.slice none 0 0),(bI).mpr trivial,rfl⟩
def jc(c:List UInt8)(d:AV):Ob:=.cells [.v (.string (mk c)),d]
theorem Av(s:List UInt8)(hs:s.length<=8000)(from_:Int)(c1 c2:List UInt8)(d1 d2:AV)(h1:LK.sl.has d1)(h2:LK.sl.has d2):∀(k i:Nat),i+k=s.length->za [.v (.string (mk s)),.v (.int .i64 (i:Int)),.v (.int .i64 from_)] [jc c1 d1,jc c2 d2]
 (vn 1 [.v (.string (mk s)),.v (.int .i64 ((i+((s.drop i).takeWhile c0).length:Nat):Int)),.v (.int .i64 from_)] [jc c1 d1,jc c2 d2])
 |
  0,i,hi=>by
  refine AN _ _ _ _ _ _ _ ?_
  have hd:s.drop i=[]:=bV (by omega)
  simp only[zm,↓zq,zs,an,zt]
  exact⟨h1,h2,fun h=>by omega,fun _=>by simp[vn,hd,jc]⟩
 |
  k+1,i,hi=>by
  have hlt:i<s.length:=by omega
  refine AN _ _ _ _ _ _ _ ?_
  simp only[zm,↓zq,zs,an,zt,ky s i hlt]
  refine⟨h1,h2,fun _=>⟨by omega,?_⟩,fun h=>by omega⟩
  refine aG (DJ _) ?_
  simp only[↓zq,zs,an]
  refine⟨fun hb=>?_,fun hb=>?_⟩
  ·rw[cK i (by omega)]
   have:=Av s hs from_ c1 c2 d1 d2 h1 h2 k (i+1) (by omega)
   rw[sf hlt hb,show i+(((s.drop (i+1)).takeWhile c0).length+1)=i+1+((s.drop (i+1)).takeWhile c0).length by omega]
   exact this
  ·simp[vn,l8 hlt hb,jc]
def Ee(s:List UInt8)(x:Option (E×List UInt8)):Nat->List AV->List Ob->Prop:=fun t ys o=>t=2 /\
 match x with
 |some (e,u)=>∃l,e=.list l/\ys=[.v (.int .i64 ((s.length-u.length:Nat):Int))]/\o=[jc [] .any,.vec 2 (E.bM l)]
 |none=>∃es,ys=[.v (.int .i64 (-1))]/\o=[jc [] .any,.vec 2 es]
theorem wv(e:E):(e.oH=.agg e.oH.cs/\e.oH.cs.length=2/\dW [.str,.sl] e.oH.cs 0)=True:=by
 apply eq_true
 cases e<;>simp[E.oH,E.fG,uk,dW,l5,bI,dC]
theorem qV(e:E):[AV.v (.string ((e.oH.cs.getD 0 .any).ay)),e.oH.cs.getD 1 .any]=e.fG:=by
 cases e<;>rfl
theorem drop_cons{s:List UInt8}{j:Nat}(hj:j<s.length):s.drop j=s.getD j 0::s.drop (j+1):=by
 rw[List.drop_eq_getElem_cons hj];simp[aa,hj]
theorem Bz(s:List UInt8)(hs:s.length<=8000)(d:Nat)(hd:d<=300)(f:List UInt8->Option (E×List UInt8))(hf:∀u e r,f u=some (e,r)->∃j,r=u.drop j/\0<j/\j<=u.length)
 (ih:∀j,j<=s.length->aC Tryd.prog 56 [.v (.string (mk s)),.v (.int .i64 (j:Int)),.v (.int .i64 ((d+1:Nat):Int))] [] (vQ s (f (s.drop j)))) :
 ∀(n i:Nat) (acc:List E) (c1:List UInt8) (d1:AV),LK.sl.has d1->s.length-(i+1)<n->i<s.length->s.length-i+acc.length<=8001->yc [.v (.string (mk s)),.v (.int .i64 (i:Int)),.v (.int .i64 (d:Int))] [jc c1 d1,jc [] .any,.vec 2 (E.bM acc)]
  (Ee s (nf f n (s.drop (i+1)) acc))
 |0,i,acc,c1,d1,h1,hn,_,_=>by omega
 |
  n+1,i,acc,c1,d1,h1,hn,hi,hl=>by
  refine DW _ _ _ _ _ _ _ ?_
  simp only[AF,↓zq,zs,an,jc]
  refine⟨h1,?_⟩
  rw[cK i (by omega),cK d (by omega)]
  refine aV (ih (i+1) (by omega)) (vQ.ne _ _) ?_
  rintro r o ⟨rfl,hr⟩
  have hff:=hf (s.drop (i+1))
  unfold nf
  cases hq:f (s.drop (i+1))with
  |
   none =>
   rw[hq]at hr
   obtain⟨c,d',hd',rfl⟩:=hr
   simp only[↓zq,zs,an,zt,dW]
   refine⟨hd',fun _=>⟨rfl,_,rfl,rfl⟩,fun h=>by omega⟩
  |
   some q =>
   obtain⟨e,u⟩:=q
   rw[hq]at hr
   subst hr
   obtain⟨j,hu,hj0,hj⟩:=hff e u hq
   rw[List.drop_drop]at hu
   simp only[bn]at hj
   have hul:u.length=s.length-(i+1+j):=by rw[hu,bn]
   have hpos:s.length-u.length=i+1+j:=by omega
   simp only[↓zq,zs,an,zt,wv,hpos,qV,iI]
   refine⟨fun h=>by omega,fun _=>⟨fun h=>?_,fun h=>⟨⟨fun c hc=>(by simp at hc;rw[hc];cases e<;>rfl),by omega⟩,?_⟩⟩⟩
   ·have:u=[]:=by rw[hu];exact bV (by omega)
    subst this
    exact⟨rfl,_,rfl,rfl⟩
   ·have hlt:i+1+j<s.length:=by omega
    rw[drop_cons hlt]at hu
    subst hu
    rw[ky s _ hlt]
    generalize hb:s.getD (i+1+j) 0=b
    refine⟨by omega,fun h41=>?_,fun h41=>⟨by omega,fun h32=>?_,fun h32=>?_⟩⟩
    ·have h41':b.toNat=41:=by omega
     dsimp only
     rw[if_pos h41',cK _ (by omega)]
     refine⟨rfl,acc++[e],rfl,?_,?_⟩
     ·rw[bn];congr 3;omega
     ·simp[jc,lD,E.bM]
    ·have h41':¬b.toNat=41:=by omega
     have h32':¬b.toNat=32:=by omega
     dsimp only
     rw[if_neg h41',if_neg h32']
     exact⟨rfl,_,rfl,rfl⟩
    ·have h41':¬b.toNat=41:=by omega
     have h32':b.toNat=32:=by omega
     dsimp only
     rw[if_neg h41',if_pos h32']
     have:=Bz s hs d hd f hf ih n (i+1+j) (acc++[e]) c1 d1 h1 (by omega) hlt (by simp;omega)
     simpa[jc,lD,E.bM]using this
theorem wy(k:Nat)(u:List UInt8)(e:E)(r:List UInt8)(h:rd k u=some (e,r)):∃j,r=u.drop j/\0<j/\j<=u.length:=by
 have suf:∀(k:Nat) (u:List UInt8) (e:E) (r:List UInt8),rd k u=some (e,r)->r <:+ u:=by
  intro k
  have tw:∀u:List UInt8,u.dropWhile c0 <:+ u:=fun u=>List.dropWhile_suffix _
  have ll:∀(f:List UInt8->Option (E×List UInt8)),(∀u e r,f u=some (e,r)->r <:+ u)->∀(n:Nat) (u:List UInt8) (acc:List E) (e:E) (r:List UInt8),nf f n u acc=some (e,r)->r <:+ u:=by
   intro f hf n
   induction n with
   |zero=>intro u acc e r h;cases h
   |
    succ n ih =>
    intro u acc e r h
    simp only[nf]at h
    split at h
    ·rename_i p c r' hs
     have h1:r' <:+ u:=(List.suffix_cons c r').trans (hf _ _ _ hs)
     split at h
     ·cases h;exact h1
     ·split at h
      ·exact(ih _ _ _ _ h).trans h1
      ·cases h
    ·cases h
  induction k with
  |
   zero =>
   intro u e r h
   simp only[rd]at h
   split at h
   ·cases h
   ·cases h;exact tw u
  |
   succ k ih =>
   intro u e r h
   simp only[rd]at h
   split at h
   ·split at h
    ·split at h
     ·exact(ll _ ih _ _ _ _ _ h).trans (List.suffix_cons _ _)
     ·cases h
    ·cases h
   ·cases h;exact tw u
 obtain⟨p,hp⟩:=suf k u e r h
 have hlt:=rp k u e r h
 have:=congrArg List.length hp
 simp only[ah]at this
 exact⟨p.length,by rw[<-hp];simp,by omega,by omega⟩
theorem uH(n:Nat)(u:List UInt8)(acc:List E):nf (fun _=>none) n u acc=none:=by
 cases n<;>rfl
theorem Ds(s:List UInt8)(j:Nat):aC Tryd.prog 56 [.v (.string (mk s)),.v (.int .i64 (j:Int)),.v (.int .i64 ((300+1:Nat):Int))] [] (vQ s none):=by
 refine AD _ _ _ ?_
 simp only[xY,↓zq,zs,an]
 exact⟨fun _=>⟨rfl,[],_,(bI).mpr trivial,rfl⟩,fun h=>by omega⟩
theorem lN(s:List UInt8)(hs:s.length<=8000)(d i:Nat)(hd:d<=300)(hi:i<=s.length)(f:List UInt8->Option (E×List UInt8))(hf:∀u e r,f u=some (e,r)->∃j,r=u.drop j/\0<j/\j<=u.length)
 (ih:∀j,j<=s.length->aC Tryd.prog 56 [.v (.string (mk s)),.v (.int .i64 (j:Int)),.v (.int .i64 ((d+1:Nat):Int))] [] (vQ s (f (s.drop j)))) (x:Option (E×List UInt8))
 (h0:i=s.length->x=none)
 (h1:i<s.length->(s.drop i).takeWhile c0≠[]->x=some (.atom ((s.drop i).takeWhile c0),(s.drop i).dropWhile c0))
 (h2:i<s.length->(s.drop i).takeWhile c0=[]->¬(s.getD i 0).toNat=40->x=none)
 (h3:i<s.length->(s.getD i 0).toNat=40->x=nf f (s.length-(i+1)+1) (s.drop (i+1)) []) :
 aC Tryd.prog 56 [.v (.string (mk s)),.v (.int .i64 (i:Int)),.v (.int .i64 (d:Int))] [] (vQ s x):=by
 refine AD _ _ _ ?_
 simp only[xY,↓zq,zs,an,zt]
 refine⟨fun h=>by omega,fun _=>⟨fun h=>?_,fun h=>⟨by omega,?_⟩⟩⟩
 ·rw[h0 (by omega)]
  exact⟨rfl,[],_,(bI).mpr trivial,rfl⟩
 ·have hlt:i<s.length:=by omega
  rw[ky s i hlt]
  refine⟨fun h40=>?_,fun h40=>?_⟩
  ·have h40':¬(s.getD i 0).toNat=40:=by omega
   refine jg (Av s hs _ [] [] _ _ ((bI).mpr trivial) ((bI).mpr trivial) (s.length-i) i (by omega)) ?_
   have hex:(List.take (i+((s.drop i).takeWhile c0).length) s).drop i=(s.drop i).takeWhile c0:=by
    rw[List.drop_take,Nat.add_sub_cancel_left];exact om _
   have hle:i+((s.drop i).takeWhile c0).length<=s.length:=by
    have:=pd (s.drop i);simp only[bn]at this;omega
   simp only[jc,↓zq,zs,an,zt,hex]
   refine⟨by omega,fun hnil=>?_,fun hnil=>?_⟩
   ·rw[h2 hlt hnil h40',hnil]
    exact⟨rfl,[],_,(bI).mpr trivial,rfl⟩
   ·rw[h1 hlt hnil]
    refine⟨rfl,?_⟩
    have:=pd (s.drop i)
    simp only[bn]at this
    show _=AV.dm [E.oH (.atom _),_]
    have e:s.length-((s.drop i).dropWhile c0).length=i+((s.drop i).takeWhile c0).length:=by omega
    rw[e];rfl
  ·have h40':(s.getD i 0).toNat=40:=by omega
   rw[h3 hlt h40']
   refine mU (Bz s hs d hd f hf ih (s.length-(i+1)+1) i [] [] _ ((bI).mpr trivial) (by omega) hlt (by simp;omega)) ?_ ?_
   ·rintro ys o ⟨h,_⟩;cases h
   ·rintro ys o ⟨_,hr⟩
    cases hq:nf f (s.length-(i+1)+1) (s.drop (i+1)) []with
    |
     none =>
     rw[hq]at hr
     obtain⟨es,rfl,rfl⟩:=hr
     simp only[jc,↓zq,zs,an]
     exact⟨rfl,[],_,(dC _).mpr trivial,rfl⟩
    |
     some q =>
     obtain⟨e,u⟩:=q
     rw[hq]at hr
     obtain⟨l,rfl,rfl,rfl⟩:=hr
     simp only[jc,↓zq,zs,an]
     exact⟨rfl,rfl⟩
theorem Di(s:List UInt8)(hs:s.length<=8000):∀(k:Nat),k<=300->∀i,i<=s.length->aC Tryd.prog 56 [.v (.string (mk s)),.v (.int .i64 (i:Int)),.v (.int .i64 ((300-k:Nat):Int))] [] (vQ s (rd k (s.drop i))):=by
 intro k
 have hnil:∀k,rd k []=none:=fun k=>by cases k<;>simp[rd]
 have ha40:∀b:UInt8,b.toNat=40->c0 b=false:=fun b hb=>by simp[c0,hb]
 induction k with
 |
  zero =>
  intro hk i hi
  refine lN s hs 300 i (by omega) hi (fun _=>none) (fun _ _ _ h=>by cases h) (fun j _=>Ds s j) _ (fun h=>?_) (fun hlt h=>?_) (fun hlt h h40=>?_) (fun hlt h40=>?_)
  ·rw[bV (by omega)];exact hnil 0
  ·simp only[rd,if_neg h]
  ·simp only[rd,if_pos h]
  ·rw[uH]
   have:(s.drop i).takeWhile c0=[]:=l8 hlt (ha40 _ h40)
   simp only[rd,if_pos this]
 |
  succ k ih =>
  intro hk i hi
  have hd:300-(k+1)+1=300-k:=by omega
  refine lN s hs (300-(k+1)) i (by omega) hi (rd k) (wy k) (fun j hj=>by rw[hd];exact ih (by omega) j hj) _ (fun h=>?_) (fun hlt h=>?_) (fun hlt h h40=>?_) (fun hlt h40=>?_)
  ·rw[bV (by omega)];exact hnil _
  ·simp only[rd,if_neg h]
  ·rw[drop_cons hlt]at h |-
   simp only[rd,if_pos h,if_neg h40]
  ·have h:=l8 hlt (ha40 _ h40)
   rw[drop_cons hlt]at h |-
   simp only[rd,if_pos h,if_pos h40,bn]
end Go.Proofs.Trees
namespace Go.Proofs.Trees
open Go Go.VL
theorem qt(e:E):AV.agg [.v (.string ((e.fG.getD 0 .any).ay)),e.fG.getD 1 .any]=e.oH:=by cases e<;>rfl
theorem oi(e:E):e.fG.length=2:=by cases e<;>rfl
theorem qZ(e:E):dW [.str,.sl] e.fG 0=True:=by
 apply eq_true
 cases e<;>simp[E.fG,dW,l5,bI,dC]
theorem vG(e:E):e.fG.headD .any=.v (.string (mk e.at)):=by cases e<;>rfl
theorem D2(x:E)(l:List E):aC Tryd.prog 40 [.agg [.v (.string (mk [])),.sl (E.bM (x::l))]] [] (cu (.v (.string (mk x.at)))):=by
 refine Cs _ _ ((dC _).mpr trivial) ?_
 simp only[D1,E.bM,↓zq,zs,an,zt,cu,oi,vG,aw]
 refine⟨fun h=>absurd rfl h,fun _=>⟨fun h=>by omega,fun _=>⟨by omega,by omega⟩⟩⟩
def gl:E->Bool
 | .atom s=>(s==[48])||(s==[49])||fK s||bX s
 | .list [x,a,b]=>if x.at=[43]then gl a&&gl b else if x.at=[42]then gl a&&gl b else if x.at=[114,101,99]then bX a.at&&gl b else false
 | .list _=>false
theorem zK:∀(e:E),e.ok->aC Tryd.prog 38 [e.oH] [] (cu (.v (.bool (gl e))))
 |
  .atom s,hok=>by
  refine Bs _ _ ((bI).mpr trivial) ?_
  have hne:s≠[]:=hok
  simp only[y7,↓zq,zs,an,zt,cu,gl]
  refine⟨fun _=>⟨fun h=>?_,fun h=>⟨fun h1=>?_,fun h1=>?_⟩⟩,fun h=>absurd h hne⟩
  ·simp[h]
  ·simp[h1]
  ·refine aG (CL s) ?_
   simp only[↓zq,zs,an]
   refine⟨fun hp=>?_,fun hp=>?_⟩
   ·simp[hp]
   ·refine aG (A3 s) ?_
    simp[↓zq,zs,an,hp,h,h1]
 |
  .list l,hok=>by
  refine Bs _ _ ((dC _).mpr trivial) ?_
  match l,hok with
  |[],hok=>simp[y7,E.bM,↓zq,zs,an,zt,cu,gl]
  |[x],hok=>simp[y7,E.bM,↓zq,zs,an,zt,cu,gl]
  |[x,y],hok=>simp[y7,E.bM,↓zq,zs,an,zt,cu,gl]
  |
   x::y::z::w::l,hok =>
   simp only[y7,E.bM,↓zq,zs,an,zt,cu,gl]
   exact⟨fun h=>absurd rfl h,fun _=>⟨fun _=>trivial,fun h=>by omega⟩⟩
  |
   [x,y,z],hok =>
   obtain⟨ok1,ok2,ok3,_⟩:=hok
   simp only[y7,↓zq,zs,an,zt,cu]
   refine⟨fun h=>absurd rfl h,fun _=>⟨fun h=>absurd rfl h,fun _=>?_⟩⟩
   refine aG (D2 x _) ?_
   simp only[E.bM,toNat_one,gL,↓zq,zs,an,zt,qt,oi,qZ,vG,aw,gl]
   refine⟨fun h=>?_,fun h=>⟨fun h1=>?_,fun h1=>⟨fun h2=>?_,fun h2=>?_⟩⟩⟩
   ·rw[if_pos h]
    refine⟨by omega,aG (zK y ok2) ?_⟩
    simp only[↓zq,zs,an]
    refine⟨fun hy=>⟨by omega,aG (zK z ok3) ?_⟩,fun hy=>?_⟩
    ·simp only[↓zq,zs,an,hy,bY]
    ·rw[hy];rfl
   ·rw[if_neg h,if_pos h1]
    refine⟨by omega,aG (zK y ok2) ?_⟩
    simp only[↓zq,zs,an]
    refine⟨fun hy=>⟨by omega,aG (zK z ok3) ?_⟩,fun hy=>?_⟩
    ·simp only[↓zq,zs,an,hy,bY]
    ·rw[hy];rfl
   ·rw[if_neg h,if_neg h1,if_pos h2]
    refine⟨by omega,by omega,aG (A3 _) ?_⟩
    simp only[↓zq,zs,an]
    refine⟨fun hy=>⟨by omega,aG (zK z ok3) ?_⟩,fun hy=>?_⟩
    ·simp only[↓zq,zs,an,hy,bY]
    ·rw[hy];rfl
   ·rw[if_neg h,if_neg h1,if_neg h2]
theorem ep:∀(e:E) (ar:List (List UInt8)),(bG e ar).isSome=gl e
 |
  .atom s,ar=>by
  simp only[bG,gl]
  by_cases h:s=[48]
  ·simp[h]
  ·by_cases h1:s=[49]
   ·simp[h1]
   ·rw[if_neg h,if_neg h1]
    by_cases h2:fK s=true
    ·simp[h2]
    ·rw[if_neg h2]
     by_cases h3:bX s=true
     ·rw[if_pos h3];cases ck s ar ar.length<;>simp[h3]
     ·rw[if_neg h3];simp[h,h1,h2,h3]
 | .list [],_=>rfl
 | .list [_],_=>rfl
 | .list [_,_],_=>rfl
 | .list (_::_::_::_::_),_=>rfl
 |
  .list [x,a,b],ar=>by
  have ha:=ep a ar
  have hb:=ep b ar
  have hb2:=ep b (ar++[a.at])
  rw[gl]
  by_cases h:x.at=[43]
  ·rw[gI ar h,if_pos h,<-ha,<-hb];cases bG a ar<;>cases bG b ar<;>rfl
  ·by_cases h1:x.at=[42]
   ·rw[fT ar h1,if_neg h,if_pos h1,<-ha,<-hb];cases bG a ar<;>cases bG b ar<;>rfl
   ·by_cases h2:x.at=[114,101,99]
    ·rw[i7 ar h2,if_neg h,if_neg h1,if_pos h2,<-hb2]
     cases bX a.at<;>cases bG b (ar++[a.at])<;>rfl
    ·rw[fq ar h h1 h2,if_neg h,if_neg h1,if_neg h2];rfl
mutual
def E.gZ:E->Nat
 | .atom _=>1
 | .list l=>E.gk l
def E.gk:List E->Nat
 |[]=>0
 |e::l=>e.gZ+E.gk l
end
mutual
theorem vw:∀e:E,e.gZ<=e.sz
 | .atom s=>by simp[E.gZ,E.sz]
 | .list l=>by have:=oS l;simp only[E.gZ,E.sz];omega
theorem oS:∀l:List E,E.gk l<=E.lU l
 |[]=>by simp[E.gk,E.lU]
 |e::l=>by have:=vw e;have:=oS l;simp only[E.gk,E.lU];omega
end
theorem j1:∀(l:List E) (i:Nat) (h:i<l.length),(E.bM l).getD i []=(l[i]).fG
 |e::l,0,_=>rfl
 |
  e::l,i+1,h=>by
  have:=j1 l i (by simpa using h)
  simp only[E.bM,List.getD_cons_succ,List.getElem_cons_succ];exact this
theorem tc:∀(l:List E) (i:Nat) (h:i<l.length),E.gk (l.drop i)=(l[i]).gZ+E.gk (l.drop (i+1)):=by
 intro l i h
 rw[List.drop_eq_getElem_cons h];rfl
theorem sI:∀(l:List E) (i:Nat) (h:i<l.length),E.xg l->(l[i]).ok
 |e::l,0,_,h=>h.1
 |e::l,i+1,hi,h=>sI l i (by simpa using hi) h.2
theorem Bt(l:List E)(hl:E.gk l<1000000)(hll:l.length<1000000)(ih:∀i (h:i<l.length),aC Tryd.prog 39 [(l[i]).oH] [] (cu (.v (.int .i64 ((l[i]).gZ:Int))))) :
 ∀(k i n:Nat),i+k=l.length->n+E.gk (l.drop i)<=E.gk l->zn [.v (.int .i64 (n:Int)),.v (.int .i64 (i:Int))] [.cells [.v (.string (mk [])),.sl (E.bM l)]] (vn 1 [.v (.int .i64 ((n+E.gk (l.drop i):Nat):Int))] [])
 |
  0,i,n,hi,hn=>by
  refine Bb _ _ _ _ ?_
  simp only[yx,↓zq,zs,an,iI]
  have:l.drop i=[]:=bV (by omega)
  refine⟨fun h=>by omega,fun _=>?_⟩
  simp[vn,this,E.gk]
 |
  k+1,i,n,hi,hn=>by
  have hlt:i<l.length:=by omega
  refine Bb _ _ _ _ ?_
  simp only[yx,↓zq,zs,an,zt,iI,j1 l i hlt,oi,qZ,qt,aw]
  refine⟨fun _=>⟨by omega,?_⟩,fun h=>by omega⟩
  refine aG (ih i hlt) ?_
  have h1:=tc l i hlt
  simp only[↓zq,zs,an]
  rw[cK i (by omega),wrap64 _ (by omega) (by omega)]
  have:=Bt l hl hll ih k (i+1) (n+(l[i]).gZ) (by omega) (by omega)
  rw[h1,<-Nat.add_assoc]
  simpa using this
theorem sD:∀l:List E,l.length<=E.lU l
 |[]=>by simp[E.lU]
 |
  e::l=>by
  have:=sD l
  have:1<=e.sz:=by cases e<;>simp[E.sz]
  simp only[E.lU,aj];omega
theorem uZ:∀(l:List E) (i:Nat) (h:i<l.length),(l[i]).sz<=E.lU l
 |e::l,0,_=>by simp[E.lU]
 |e::l,i+1,h=>by have:=uZ l i (by simpa using h);simp only[E.lU,List.getElem_cons_succ];omega
theorem Am:∀(n:Nat) (e:E),e.sz<n->e.ok->e.sz<1000000->aC Tryd.prog 39 [e.oH] [] (cu (.v (.int .i64 (e.gZ:Int))))
 |0,e,hn,_,_=>by omega
 |
  n+1,.atom s,hn,hok,hl=>by
  refine AP _ _ ((bI).mpr trivial) ?_
  have hne:s≠[]:=hok
  simp only[yB,↓zq,zs,an,zt,cu]
  exact⟨fun _=>rfl,fun h=>absurd h hne⟩
 |
  n+1,.list l,hn,hok,hl=>by
  refine AP _ _ ((dC _).mpr trivial) ?_
  simp only[E.sz]at hn hl
  have h1:=oS l
  have h2:=sD l
  simp only[yB,↓zq,zs,an,zt,cu]
  refine⟨fun h=>absurd rfl h,fun _=>?_⟩
  refine jg (Bt l (by omega) (by omega) (fun i hi=>?_) l.length 0 0 (by omega) (by simp)) ?_
  ·have:=uZ l i hi
   exact Am n (l[i]) (by omega) (sI l i hi hok) (by omega)
  ·simp[↓zq,zs,an,E.gZ]
theorem CW(e:E)(h:e.ok)(hl:e.sz<1000000):aC Tryd.prog 39 [e.oH] [] (cu (.v (.int .i64 (e.gZ:Int)))):=Am (e.sz+1) e (by omega) h hl
theorem oM{x:E}(h:x.at≠[]):x.gZ=1:=by cases x<;>simp[E.at,E.gZ]at h |-
theorem uG{s:List UInt8}(h:bX s=true):s≠[]:=by rintro rfl;cases h
theorem fW:∀(e:E) (ar:List (List UInt8)) (t:Ty),bG e ar=some t->e.gZ=t.aq
 |
  .atom s,ar,t,h=>by
  simp only[bG]at h
  simp only[E.gZ]
  split at h
  ·cases h;rfl
  ·split at h
   ·cases h;rfl
   ·split at h
    ·cases h;rfl
    ·split at h
     ·split at h<;>cases h<;>rfl
     ·cases h
 | .list [],_,_,h=>by cases h
 | .list [_],_,_,h=>by cases h
 | .list [_,_],_,_,h=>by cases h
 | .list (_::_::_::_::_),_,_,h=>by cases h
 |
  .list [x,a,b],ar,t,h=>by
  simp only[E.gZ,E.gk]
  by_cases h0:x.at=[43]
  ·rw[gI ar h0]at h
   have:=oM (x:=x) (by rw[h0];simp)
   split at h
   ·rename_i t1 t2 e1 e2
    cases h
    have:=fW a ar _ e1
    have:=fW b ar _ e2
    simp only[Ty.aq];omega
   ·cases h
  ·by_cases h1:x.at=[42]
   ·rw[fT ar h1]at h
    have:=oM (x:=x) (by rw[h1];simp)
    split at h
    ·rename_i t1 t2 e1 e2
     cases h
     have:=fW a ar _ e1
     have:=fW b ar _ e2
     simp only[Ty.aq];omega
    ·cases h
   ·by_cases h2:x.at=[114,101,99]
    ·rw[i7 ar h2]at h
     have:=oM (x:=x) (by rw[h2];simp)
     split at h
     ·rename_i hl
      have:=oM (uG hl)
      split at h
      ·rename_i t1 e1
       cases h
       have:=fW b _ _ e1
       simp only[Ty.aq];omega
      ·cases h
     ·cases h
    ·rw[fq ar h0 h1 h2]at h;cases h
def qk:E->Bool
 | .atom s=>(s==[48])||(s==[49])||(s==[120])||(s==[121])||(s==[122])
 | .list [x,a,b]=>!(x.at==[114,101,99])&&(qk a&&qk b)
 | .list _=>false
theorem zC:∀(e:E),e.ok->gl e=true->aC Tryd.prog 25 [e.oH] [] (cu (.v (.bool (qk e))))
 |
  .atom s,hok,_=>by
  refine B0 _ _ ((bI).mpr trivial) ?_
  have hne:s≠[]:=hok
  simp only[yt,↓zq,zs,an,zt,cu,qk]
  refine⟨fun _=>⟨fun h=>?_,fun h=>⟨fun h1=>?_,fun h1=>⟨fun h2=>?_,fun h2=>⟨fun h3=>?_,fun h3=>?_⟩⟩⟩⟩,fun h=>absurd h hne⟩<;>simp[*]
 | .list [],_,h=>by cases h
 | .list [_],_,h=>by cases h
 | .list [_,_],_,h=>by cases h
 | .list (_::_::_::_::_),_,h=>by cases h
 |
  .list [x,y,z],hok,hty=>by
  refine B0 _ _ ((dC _).mpr trivial) ?_
  obtain⟨ok1,ok2,ok3,_⟩:=hok
  simp only[yt,↓zq,zs,an,zt,cu]
  refine⟨fun h=>absurd rfl h,fun _=>?_⟩
  refine aG (D2 x _) ?_
  simp only[E.bM,toNat_one,gL,↓zq,zs,an,zt,qt,oi,qZ,vG,aw,qk]
  refine⟨fun h=>?_,fun h=>?_⟩
  ·have hyz:gl y=true/\gl z=true:=by
    rw[gl]at hty
    split at hty
    ·simpa using hty
    ·split at hty
     ·simpa using hty
     ·cases hty
   refine⟨by omega,aG (zC y ok2 hyz.1) ?_⟩
   simp only[↓zq,zs,an]
   have h':(x.at==[114,101,99])=false:=by simpa using h
   refine⟨fun hy=>⟨by omega,aG (zC z ok3 hyz.2) ?_⟩,fun hy=>?_⟩
   ·simp only[↓zq,zs,an,hy,h'];rfl
   ·rw[hy,h'];rfl
  ·rw[h];rfl
def pB(x:Option E)(b:Bool):AV->List Ob->Prop:=fun r o=>∃c:List UInt8,∃d:AV,LK.sl.has d/\r=.dm [.agg [.v (.string (mk c)),d],.v (.bool b)]/\(b=true->∃e,x=some e/\AV.agg [.v (.string (mk c)),d]=e.oH)
theorem vp(e:E):∃c:List UInt8,∃d:AV,LK.sl.has d/\e.oH=AV.agg [.v (.string (mk c)),d]:=by
 cases e with
 |atom s=>exact⟨s,_,(bI).mpr trivial,rfl⟩
 |list l=>exact⟨[],_,(dC _).mpr trivial,rfl⟩
theorem pB.ne(x:Option E)(b:Bool)(h:b=true->x.isSome=true):∃r o,pB x b r o:=by
 cases b with
 |false=>exact⟨_,[],[],.v (.slice none 0 0),(bI).mpr trivial,rfl,fun h=>by cases h⟩
 |
  true =>
  cases x with
  |none=>cases h rfl
  |
   some e =>
   obtain⟨c,d,hd,he⟩:=vp e
   exact⟨_,[],c,d,hd,rfl,fun _=>⟨e,rfl,he.symm⟩⟩
theorem DB(s:List UInt8):aC Tryd.prog 37 [.v (.string (mk s))] [] (pB (nh s) (nh s).isSome):=by
 refine CI _ ?_
 simp only[BQ,↓zq,zs,an,zt,nh]
 refine⟨fun h=>?_,fun h=>?_⟩
 ·rw[if_pos (by omega)]
  exact⟨[],_,(bI).mpr trivial,rfl,fun h=>by cases h⟩
 ·rw[if_neg (by omega)]
  refine aV (Di s (by omega) 300 (by omega) 0 (by omega)) (vQ.ne _ _) ?_
  rintro r o ⟨rfl,hr⟩
  rw[List.drop_zero]at hr
  cases hq:rd 300 s with
  |
   none =>
   rw[hq]at hr
   obtain⟨c,d,hd,rfl⟩:=hr
   simp only[↓zq,zs,an,zt,dW]
   refine⟨hd,c,d,hd,?_,fun h=>by cases h⟩
   have:((-1:Int)==(s.length:Int))=false:=by
    rw[beq_eq_false_iff_ne];omega
   rw[this];rfl
  |
   some q =>
   obtain⟨e,u⟩:=q
   rw[hq]at hr
   subst hr
   have hlt:=rp _ _ _ _ hq
   obtain⟨c,d,hd,he⟩:=vp e
   simp only[he,↓zq,zs,an,zt,dW]
   cases u with
   |
    nil =>
    refine⟨hd,c,d,hd,?_,fun _=>⟨e,rfl,he.symm⟩⟩
    simp
   |
    cons b u =>
    simp only[aj]at hlt |-
    refine⟨hd,c,d,hd,?_,fun h=>by cases h⟩
    have:(((s.length-(u.length+1):Nat):Int)==(s.length:Int))=false:=by simp;omega
    rw[this];rfl
def qm(s:List UInt8):Option E:=match nh s with
 |none=>none
 |some e=>if gl e=true/\e.gZ<=400 then some e else none
theorem Cy(s:List UInt8):aC Tryd.prog 24 [.v (.string (mk s))] [] (pB (qm s) (qm s).isSome):=by
 refine Dz _ ?_
 unfold AB
 refine aV (DB s) (pB.ne _ _ (fun h=>h)) ?_
 rintro r o ⟨c,d,hd,rfl,hh⟩
 simp only[↓zq,zs,an,zt,dW,qm]
 refine⟨hd,fun h=>?_,fun h=>?_⟩
 ·obtain⟨e,he,hce⟩:=hh h
  obtain⟨hok,hsz⟩:=mw he
  rw[he,hce]
  refine aG (zK e hok) ?_
  simp only[↓zq,zs,an]
  refine⟨fun hi=>?_,fun hi=>?_⟩
  ·refine aG (CW e hok (by omega)) ?_
   simp only[↓zq,zs,an,hi]
   refine⟨c,d,hd,?_,?_⟩
   ·rw[hce]
    by_cases h4:e.gZ<=400
    ·rw[if_pos h4];exact congrArg (fun b=>AV.dm [e.oH,.v (.bool b)]) (decide_eq_true (show ((e.gZ:Nat):Int)<=400 by omega))
    ·rw[if_neg h4];exact congrArg (fun b=>AV.dm [e.oH,.v (.bool b)]) (decide_eq_false (show ¬((e.gZ:Nat):Int)<=400 by omega))
   ·split
    ·exact fun _=>⟨e,rfl,hce⟩
    ·exact fun h=>by cases h
  ·refine⟨c,d,hd,?_,?_⟩
   ·rw[hce,if_neg (by rw[hi];simp)];rfl
   ·rw[if_neg (by rw[hi];simp)];exact fun h=>by cases h
 ·have hn:nh s=none:=by cases hq:nh s<;>simp[hq]at h |-
  rw[hn]
  exact⟨c,d,hd,rfl,fun h=>by cases h⟩
def oB(s:List UInt8):Option E:=match qm s with
 |none=>none
 |some e=>if qk e=true then some e else none
theorem jQ{s:List UInt8}{e:E}(h:qm s=some e):nh s=some e/\gl e=true/\e.gZ<=400:=by
 unfold qm at h
 split at h
 ·cases h
 ·split at h
  ·rename_i e' h1 h2;cases h;exact⟨h1,h2⟩
  ·cases h
theorem CX(s:List UInt8):aC Tryd.prog 12 [.v (.string (mk s))] [] (pB (oB s) (oB s).isSome):=by
 refine DK _ ?_
 unfold Au
 refine aV (Cy s) (pB.ne _ _ (fun h=>h)) ?_
 rintro r o ⟨c,d,hd,rfl,hh⟩
 simp only[↓zq,zs,an,zt,dW,oB]
 refine⟨hd,fun h=>?_,fun h=>?_⟩
 ·obtain⟨e,he,hce⟩:=hh h
  obtain⟨h1,h2,h3⟩:=jQ he
  obtain⟨hok,hsz⟩:=mw h1
  rw[he,hce]
  refine aG (zC e hok h2) ?_
  simp only[↓zq,zs,an]
  refine⟨c,d,hd,?_,?_⟩
  ·rw[hce];cases qk e<;>rfl
  ·split
   ·exact fun _=>⟨e,rfl,hce⟩
   ·exact fun h=>by cases h
 ·have hn:qm s=none:=by cases hq:qm s<;>simp[hq]at h |-
  rw[hn]
  exact⟨c,d,hd,rfl,fun h=>by cases h⟩
end Go.Proofs.Trees
namespace Go.Proofs.Trees
open Go Go.VL
def aQ:Ty->Bool
 | .name s=>bX s
 | .plus a b=>aQ a||aQ b
 | .times a b=>aQ a||aQ b
 | .rc a=>aQ a
 |_=>false
theorem ek:∀(t:Ty) (out:List (List UInt8)),(a8 t out).any bX=(out.any bX||aQ t)
 |
  .name s,out=>by
  simp only[a8,lu,aQ]
  split
  ·rename_i h
   cases hs:bX s with
   |false=>simp
   |true=>rw[Bool.or_true,bi];exact⟨s,h,hs⟩
  ·simp
 | .plus a b,out=>by simp only[a8,aQ,ek a,ek b,bZ]
 | .times a b,out=>by simp only[a8,aQ,ek a,ek b,bZ]
 | .rc a,out=>by simp only[a8,aQ,ek a]
 | .zero,out=>by simp[a8,aQ]
 | .one,out=>by simp[a8,aQ]
 | .bm u,out=>by simp[a8,aQ]
theorem jl(t:Ty):t.closed = !aQ t:=by simp[Ty.closed,ek]
def pl:Ty->Bool
 | .name s=>decide (s.length<=1)
 | .plus a b=>pl a&&pl b
 | .times a b=>pl a&&pl b
 | .rc a=>false
 |_=>true
theorem dL:∀(t:Ty) (b:Bool),cQ t b=(b&&pl t)
 | .name s,b=>by simp[cQ,pl]
 | .plus a c,b=>by simp only[cQ,pl,dL a,dL c,Bool.and_assoc]
 | .times a c,b=>by simp only[cQ,pl,dL a,dL c,Bool.and_assoc]
 | .rc a,b=>by simp[cQ,pl,dL a]
 | .zero,b=>by simp[cQ,pl]
 | .one,b=>by simp[cQ,pl]
 | .bm u,b=>by simp[cQ,pl]
theorem ef{lo hi:Nat}{s:List UInt8}(h:named lo hi s=true):∃c r,s=c::r/\lo<=c.toNat/\c.toNat<=hi:=by
 cases s with
 |nil=>cases h
 |cons c r=>simp only[named,ag,decide_eq_true_eq]at h;exact⟨c,r,rfl,by omega,by omega⟩
theorem pZ{s:List UInt8}(h0:s≠[48])(h1:s≠[49])(h:fK s=true\/bX s=true):qk (.atom s)=(decide (s.length<=1)&&!bX s):=by
 have key:∀c:UInt8,([c]==[(120:UInt8)]||[c]==[121]||[c]==[122])=decide (120<=c.toNat/\c.toNat<=122):=by
  intro c
  rw[cC]
  simp[<-UInt8.toNat_inj]
  omega
 rcases h with h|h
 ·obtain⟨c,r,rfl,hc1,hc2⟩:=ef h
  have hl:bX (c::r)=false:=by
   cases hq:bX (c::r)with
   |false=>rfl
   |true=>obtain⟨c',r',he,h3,h4⟩:=ef hq;cases he;omega
  rw[hl]
  cases r with
  |
   nil =>
   have:=key c
   simp only[qk]
   rw[beq_eq_false_iff_ne.2 h0,beq_eq_false_iff_ne.2 h1,bZ,bZ,bZ,<-bZ ([c]==[120]),this]
   simp;omega
  |cons d r=>simp[qk]
 ·obtain⟨c,r,rfl,hc1,hc2⟩:=ef h
  rw[h]
  cases r with
  |
   nil =>
   have:=key c
   simp only[qk]
   rw[beq_eq_false_iff_ne.2 h0,beq_eq_false_iff_ne.2 h1,bZ,bZ,bZ,<-bZ ([c]==[120]),this]
   simp;omega
  |cons d r=>simp[qk]
theorem dx{x a b:E}{ar:List (List UInt8)}{t:Ty}(hx:x.at=[43])(h:bG (.list [x,a,b]) ar=some t):∃t1 t2,bG a ar=some t1/\bG b ar=some t2/\t=.plus t1 t2:=by
 rw[gI ar hx]at h
 split at h
 ·rename_i t1 t2 e1 e2;cases h;exact⟨t1,t2,e1,e2,rfl⟩
 ·cases h
theorem dc{x a b:E}{ar:List (List UInt8)}{t:Ty}(hx:x.at=[42])(h:bG (.list [x,a,b]) ar=some t):∃t1 t2,bG a ar=some t1/\bG b ar=some t2/\t=.times t1 t2:=by
 rw[fT ar hx]at h
 split at h
 ·rename_i t1 t2 e1 e2;cases h;exact⟨t1,t2,e1,e2,rfl⟩
 ·cases h
theorem cG{x a b:E}{ar:List (List UInt8)}{t:Ty}(hx:x.at=[114,101,99])(h:bG (.list [x,a,b]) ar=some t):∃t1,bX a.at=true/\bG b (ar++[a.at])=some t1/\t=.rc t1:=by
 rw[i7 ar hx]at h
 split at h
 ·rename_i hl
  split at h
  ·rename_i t1 e1;cases h;exact⟨t1,hl,e1,rfl⟩
  ·cases h
 ·cases h
theorem mV:∀(e:E) (t:Ty),bG e []=some t->qk e=(pl t&&!aQ t)
 |
  .atom s,t,h=>by
  simp only[bG]at h
  split at h
  ·rename_i h0;cases h;simp[qk,h0,pl,aQ]
  ·rename_i h0
   split at h
   ·rename_i h1;cases h;simp[qk,h1,pl,aQ]
   ·rename_i h1
    split at h
    ·rename_i h2;cases h;exact pZ h0 h1 (.inl h2)
    ·split at h
     ·rename_i h2
      simp only[aD,ck]at h
      cases h;exact pZ h0 h1 (.inr h2)
     ·cases h
 | .list [],_,h=>by cases h
 | .list [_],_,h=>by cases h
 | .list [_,_],_,h=>by cases h
 | .list (_::_::_::_::_),_,h=>by cases h
 |
  .list [x,a,b],t,h=>by
  rw[qk]
  by_cases h0:x.at=[43]
  ·obtain⟨t1,t2,e1,e2,rfl⟩:=dx h0 h
   rw[mV a t1 e1,mV b t2 e2,h0,pl,aQ]
   cases pl t1<;>cases pl t2<;>cases aQ t1<;>cases aQ t2<;>rfl
  ·by_cases h1:x.at=[42]
   ·obtain⟨t1,t2,e1,e2,rfl⟩:=dc h1 h
    rw[mV a t1 e1,mV b t2 e2,h1,pl,aQ]
    cases pl t1<;>cases pl t2<;>cases aQ t1<;>cases aQ t2<;>rfl
   ·by_cases h2:x.at=[114,101,99]
    ·obtain⟨t1,hl,e1,rfl⟩:=cG h2 h
     rw[h2];rfl
    ·rw[fq [] h0 h1 h2]at h;cases h
theorem oW{s:List UInt8}:mO s=match qm s with|none=>none|some e=>bG e []:=by
 unfold mO qm
 cases he:nh s with
 |none=>rfl
 |
  some e =>
  have hs:=ep e []
  simp only
  cases ht:bG e []with
  |
   none =>
   rw[ht]at hs
   rw[if_neg (by rw[<-hs];simp)]
  |
   some t =>
   rw[ht]at hs
   have ha:=fW e [] t ht
   by_cases h4:e.gZ<=400
   ·rw[if_pos ⟨hs.symm,h4⟩];dsimp only;rw[if_neg (by omega)];exact ht.symm
   ·rw[if_neg (fun h=>h4 h.2)];dsimp only;rw[if_pos (by omega)]
theorem yd(s:List UInt8):sB s=match oB s with|none=>none|some e=>bG e []:=by
 unfold sB nk oB
 rw[oW]
 cases he:qm s with
 |none=>rfl
 |
  some e =>
  obtain⟨h1,h2,h3⟩:=jQ he
  have hs:=ep e []
  rw[h2]at hs
  obtain⟨t,ht⟩:=Option.isSome_iff_exists.1 hs
  have hp:=mV e t ht
  simp only[ht,jl,dL,bY,hp]
  cases hf:aQ t<;>cases hpl:pl t<;>simp[ht,dL,hpl]
theorem vq(s:List UInt8):(oB s).isSome=(sB s).isSome:=by
 rw[yd]
 cases he:oB s with
 |none=>rfl
 |
  some e =>
  unfold oB at he
  split at he
  ·cases he
  ·rename_i e' h'
   split at he
   ·cases he
    obtain⟨h1,h2,h3⟩:=jQ h'
    simp only[ep e [],h2];rfl
   ·cases he
end Go.Proofs.Trees
namespace Go.Proofs.Trees
open Go Go.VL
def pure:Ty->Bool
 | .zero=>true
 | .one=>true
 | .name s=>(s==[120])||(s==[121])||(s==[122])
 | .plus a b=>pure a&&pure b
 | .times a b=>pure a&&pure b
 |_=>false
def BR(v:Nat):Option Nat:=if v<=1000000000 then some v else none
def zI(n:Nat):Ty->Option Nat
 | .zero=>some 0
 | .one=>some 1
 | .name _=>some n
 | .plus a b=>match zI n a,zI n b with|some x,some y=>BR (x+y)|_,_=>none
 | .times a b=>match zI n a,zI n b with|some x,some y=>BR (x*y)|_,_=>none
 |_=>none
def AK(x:Option Nat):AV->List Ob->Prop:=fun r o=>∃v:Int,r=.dm [.v (.int .i64 v),.v (.bool x.isSome)]/\∀c,x=some c->v=(c:Int)
theorem AK.ne(x:Option Nat):∃r o,AK x r o:=by
 cases x with
 |none=>exact⟨_,[],0,rfl,fun c h=>by cases h⟩
 |some c=>exact⟨_,[],(c:Int),rfl,fun c' h=>by cases h;rfl⟩
end Go.Proofs.Trees
namespace Go.Proofs.Trees
open Go Go.VL Go.RowKit
abbrev dd(n:Nat):List UInt8:=Lib.decDigits n
theorem eQ{k:Nat}(h:k<10):dd k=[aX (48+k)]:=by rw[dd,Lib.decDigits,dif_pos h]
theorem fu{k:Nat}(h:¬k<10):dd k=dd (k/10)++[aX (48+k%10)]:=by rw[dd,Lib.decDigits,dif_neg h]
mutual
def gy:E->List UInt8
 | .atom s=>s
 | .list []=>[40,41]
 | .list (e::l)=>40::(gy e++(e6 l++[41]))
def e6:List E->List UInt8
 |[]=>[]
 |e::l=>32::(gy e++e6 l)
end
theorem pR:∀l:List E,l.length<=(e6 l).length
 |[]=>by simp[e6]
 |e::l=>by have:=pR l;simp only[e6,aj,ah];omega
mutual
def E.nd:E->Nat
 | .atom _=>1
 | .list []=>1
 | .list (_::l)=>1+E.D8 l
def E.D8:List E->Nat
 |[]=>0
 |e::l=>e.nd+E.D8 l
end
inductive Vl where
 |u
 |el (k:Nat)
 |l (v:Vl)
 |r (v:Vl)
 |f (v:Vl)
 |p (a b:Vl)
abbrev uA(k:Nat):List UInt8:=101::dd k
abbrev my:AV:=.v (.pointer none)
def Vl.iF:Vl->AV
 | .u=>.ptr [.v (.int .u8 117),.v (.string (mk [])),my,my]
 | .el k=>.ptr [.v (.int .u8 101),.v (.string (mk (uA k))),my,my]
 | .l v=>.ptr [.v (.int .u8 108),.v (.string (mk [])),v.iF,my]
 | .r v=>.ptr [.v (.int .u8 114),.v (.string (mk [])),v.iF,my]
 | .f v=>.ptr [.v (.int .u8 102),.v (.string (mk [])),v.iF,my]
 | .p a b=>.ptr [.v (.int .u8 112),.v (.string (mk [])),a.iF,b.iF]
def Vl.ju:Vl->E
 | .u=>.atom [117]
 | .el k=>.atom (uA k)
 | .l v=>.list [.atom [108],v.ju]
 | .r v=>.list [.atom [114],v.ju]
 | .f v=>.list [.atom [102],v.ju]
 | .p a b=>.list [.atom [112],a.ju,b.ju]
def Vl.nodes:Vl->Nat
 | .l v=>1+v.nodes
 | .r v=>1+v.nodes
 | .f v=>1+v.nodes
 | .p a b=>1+a.nodes+b.nodes
 |_=>1
def Vl.pS(n:Nat):Vl->Prop
 | .el k=>k<n
 | .l v=>v.pS n
 | .r v=>v.pS n
 | .f v=>v.pS n
 | .p a b=>a.pS n/\b.pS n
 | .u=>True
abbrev Vl.lJ(v:Vl):List UInt8:=gy v.ju
theorem gU(v:Vl):1<=v.nodes:=by cases v<;>simp[Vl.nodes]<;>omega
end Go.Proofs.Trees
namespace Go.Proofs.Trees
open Go Go.VL Go.RowKit
def BI:List UInt8->Nat->Option Nat
 |[],n=>some n
 |b::r,n=>if iH b=true then BI r (10*n+(b.toNat-48))else none
def pX(s:List UInt8):Option Nat :=
 if s.length=2\/s.length=3 then(if s.getD 0 0=101/\¬(s.length=3/\s.getD 1 0=48)then BI (s.drop 1) 0 else none)else none
theorem sT{s:List UInt8}{k:Nat}(h:pX s=some k):s=uA k/\k<100:=by
 have key1:∀a:Fin 256,iH (aX a.val)=true->BI [aX a.val] 0=some ((aX a.val).toNat-48)/\(aX a.val).toNat-48<10/\[aX a.val]=[aX (48+((aX a.val).toNat-48))]:=by decide +kernel
 unfold pX at h
 split at h
 ·rename_i hl
  split at h
  ·rename_i hh
   obtain⟨h0,h1⟩:=hh
   rcases hl with hl|hl
   ·match s,hl with
    |
     [c,a],_ =>
     simp only[bc]at h0
     subst h0
     simp only[List.drop_succ_cons,List.drop_zero,BI]at h
     split at h
     ·rename_i ha
      have:=key1 ⟨a.toNat,a.toNat_lt⟩ (by simpa using ha)
      simp only[UInt8.ofNat_toNat]at this
      cases h
      refine⟨?_,by omega⟩
      rw[uA,eQ (by omega)]
      simp only[Nat.mul_zero,aR]
      rw[<-this.2.2]
     ·cases h
   ·match s,hl with
    |
     [c,a,b],_ =>
     simp only[bc,List.getD_cons_succ,aj,aD,true_and]at h0 h1
     subst h0
     simp only[List.drop_succ_cons,List.drop_zero,BI]at h
     split at h
     ·rename_i ha
      split at h
      ·rename_i hb
       have k1:=key1 ⟨a.toNat,a.toNat_lt⟩ (by simpa using ha)
       have k2:=key1 ⟨b.toNat,b.toNat_lt⟩ (by simpa using hb)
       simp only[UInt8.ofNat_toNat]at k1 k2
       have ha':48<=a.toNat/\a.toNat<=57:=by simpa[iH]using ha
       have hb':48<=b.toNat/\b.toNat<=57:=by simpa[iH]using hb
       have h48:a.toNat≠48:=fun e=>h1 (by rw[<-UInt8.toNat_inj];simpa using e)
       cases h
       simp only[Nat.mul_zero,aR]
       refine⟨?_,by omega⟩
       rw[uA,fu (by omega),eQ (by omega)]
       have e1:(10*(a.toNat-48)+(b.toNat-48))/10=a.toNat-48:=by omega
       have e2:(10*(a.toNat-48)+(b.toNat-48))%10=b.toNat-48:=by omega
       rw[e1,e2,<-k1.2.2,<-k2.2.2];rfl
      ·cases h
     ·cases h
  ·cases h
 ·cases h
theorem tR(k:Nat)(h:k<100):pX (uA k)=some k:=by
 have e:∀k,k<100->dd k=if k<10 then [aX (48+k)]else [aX (48+k/10),aX (48+k%10)]:=by
  intro k hk
  by_cases h1:k<10
  ·rw[eQ h1,if_pos h1]
  ·rw[fu h1,eQ (by omega),if_neg h1];rfl
 have key:∀k:Fin 100,pX (101::(if k.val<10 then [aX (48+k.val)]else [aX (48+k.val/10),aX (48+k.val%10)]))=some k.val:=by decide +kernel
 rw[uA,e k h];exact key ⟨k,h⟩
def jU:E->Option Vl
 | .atom s=>if s=[117]then some .u else match pX s with|some k=>some (.el k)|none=>none
 |
  .list [x,a]=>match jU a with
  |none=>none
  |some v=>if x.at=[108]then some (.l v)else if x.at=[114]then some (.r v)else if x.at=[102]then some (.f v)else none
 | .list [x,a,b]=>if x.at=[112]then(match jU a,jU b with|some v,some w=>some (.p v w)|_,_=>none)else none
 | .list _=>none
theorem gu{x:E}{w:List UInt8}(h:x.at=w)(hw:w≠[]):x=.atom w:=by
 cases x with
 |atom s=>exact congrArg E.atom h
 |list l=>exact absurd h.symm hw
theorem j2:∀(e:E) (v:Vl),jU e=some v->v.ju=e/\v.pS 100
 |
  .atom s,v,h=>by
  simp only[jU]at h
  split at h
  ·rename_i h1;cases h;exact⟨by rw[h1];rfl,trivial⟩
  ·split at h
   ·rename_i k hk
    cases h
    obtain⟨h1,h2⟩:=sT hk
    exact⟨by rw[h1];rfl,h2⟩
   ·cases h
 | .list [],_,h=>by cases h
 | .list [_],_,h=>by cases h
 | .list (_::_::_::_::_),_,h=>by cases h
 |
  .list [x,a],v,h=>by
  rw[jU]at h
  split at h
  ·cases h
  ·rename_i w hw
   obtain⟨h1,h2⟩:=j2 a w hw
   split at h
   ·rename_i hx;cases h;rw[gu hx (by simp)];exact⟨by rw[Vl.ju,h1],h2⟩
   ·split at h
    ·rename_i hx;cases h;rw[gu hx (by simp)];exact⟨by rw[Vl.ju,h1],h2⟩
    ·split at h
     ·rename_i hx;cases h;rw[gu hx (by simp)];exact⟨by rw[Vl.ju,h1],h2⟩
     ·cases h
 |
  .list [x,a,b],v,h=>by
  rw[jU]at h
  split at h
  ·rename_i hx
   split at h
   ·rename_i w1 w2 hw1 hw2
    cases h
    obtain⟨h1,h2⟩:=j2 a w1 hw1
    obtain⟨h3,h4⟩:=j2 b w2 hw2
    rw[gu hx (by simp)]
    exact⟨by rw[Vl.ju,h1,h3],h2,h4⟩
   ·cases h
  ·cases h
def vZ(e:E)(w:List UInt8)(k:Nat):Bool:=match e with| .list (x::l)=>decide (l.length+1=k)&&(x.at==w)|_=>false
end Go.Proofs.Trees
namespace Go.Proofs.Trees
open Go Go.VL Go.RowKit
def xO(s:List UInt8):Option Vl:=match nh s with
 |none=>none
 |
  some e=>match jU e with
  |none=>none
  |some v=>if v.nodes>200 then none else some v
theorem oh{s:List UInt8}{v:Vl}(h:xO s=some v):nh s=some v.ju/\v.pS 100/\v.nodes<=200:=by
 unfold xO at h
 split at h
 ·cases h
 ·rename_i e he
  split at h
  ·cases h
  ·rename_i w hw
   split at h
   ·cases h
   ·cases h
    obtain⟨h1,h2⟩:=j2 e _ hw
    rw[h1]
    exact⟨he,h2,by omega⟩
end Go.Proofs.Trees
namespace Go.Proofs.Trees
open Go Go.VL Go.RowKit
inductive Fr where
 |mk (s:List UInt8) (e:E) (o:List Fr)
def Fr.nm:Fr->List UInt8| .mk s _ _=>s
def Fr.ex:Fr->E| .mk _ e _=>e
def Fr.out:Fr->List Fr| .mk _ _ o=>o
def names:List Fr->List (List UInt8)
 |[]=>[]
 |f::r=>names r++[f.nm]
def wX(e:E)(o:List Fr):Ty:=(bG e (names o)).getD .zero
def E.sp:E->AV
 | .atom _=>.v (.slice none 0 0)
 | .list l=>.sl (E.bM l)
theorem lr(e:E):e.fG=[.v (.string (mk e.at)),e.sp]:=by cases e<;>rfl
theorem uP(e:E):LK.has .sl e.sp=True:=by cases e<;>simp[E.sp,bI,dC]
mutual
def Fr.cells:Fr->List AV
 | .mk s e o=>[.v (.string (mk s)),.v (.string (mk e.at)),e.sp,.sl (Ag o)]
def Ag:List Fr->List (List AV)
 |[]=>[]
 |f::r=>Ag r++[f.cells]
end
mutual
def Fr.iF:Fr->AV
 | .mk s e o=>.ptr [(wX e o).av,Ba o]
def Ba:List Fr->AV
 |[]=>my
 |f::r=>.ptr [f.iF,Ba r]
end
inductive WF:List Fr->Prop
 |nil:WF []
 |cons {s:List UInt8} {x a b:E} {t:Ty} {r:List Fr} (hs:bX s=true) (hok:(E.list [x,a,b]).ok) (hx:x.at=[114,101,99]) (ht:bG (.list [x,a,b]) (names r)=some t) (hf:aQ t=false) (hr:WF r):WF (.mk s (.list [x,a,b]) r::r)
def fB(s:List UInt8):List Fr->Option Fr
 |[]=>none
 |f::r=>if f.nm=s then some f else fB s r
def hd(e:E)(env:List Fr):E×List Fr:=match fB e.at env with|some f=>(f.ex,f.out)|none=>(e,env)
theorem nI{env:List Fr}(h:WF env):fB [] env=none:=by
 induction h with
 |nil=>rfl
 |
  @cons s x a b t r hs hok hx ht hf hr ih =>
  rw[fB,if_neg (show ¬(Fr.mk s (.list [x,a,b]) r).nm=[] from uG hs)];exact ih
theorem s4{env:List Fr}(h:WF env){s:List UInt8}{f:Fr}(hf:fB s env=some f):bX s=true:=by
 induction h with
 |nil=>cases hf
 |
  cons hs hok hx ht hf' hr ih =>
  rw[fB]at hf
  split at hf
  ·rename_i e;exact e ▸ hs
  ·exact ih hf
theorem vm{env:List Fr}(h:WF env){s:List UInt8}{f:Fr}(hf:fB s env=some f):∃x a b t,f.ex=.list [x,a,b]/\(E.list [x,a,b]).ok/\x.at=[114,101,99]/\bG f.ex (names f.out)=some t/\aQ t=false/\WF f.out/\f.out.length<env.length:=by
 induction h with
 |nil=>cases hf
 |
  cons hs hok hx ht hf' hr ih =>
  rw[fB]at hf
  split at hf
  ·cases hf;exact⟨_,_,_,_,rfl,hok,hx,ht,hf',hr,by simp[Fr.out]⟩
  ·obtain⟨x,a,b,t,h1,h2,h3,h4,h5,h6,h7⟩:=ih hf
   exact⟨x,a,b,t,h1,h2,h3,h4,h5,h6,by simp;omega⟩
theorem lO(s w:List UInt8)(ar:List (List UInt8)):∀i,i<=ar.length->ck s (ar++[w]) i=(ck s ar i).map (·+1)
 |0,_=>rfl
 |
  i+1,hi=>by
  have hlt:i<ar.length:=by omega
  have e:(ar++[w]).getD i []=ar.getD i []:=by simp[aa,List.getElem?_append_left hlt]
  rw[ck,ck,e,lO s w ar i (by omega)]
  split
  ·simp only[ah,aj,aD,bR,Option.some.injEq];omega
  ·rfl
theorem pu(s:List UInt8)(f:Fr)(r:List Fr):ck s (names (f::r)) (names (f::r)).length=if f.nm=s then some 0 else(ck s (names r) (names r).length).map (·+1):=by
 have e:(names (f::r)).length=(names r).length+1:=by simp[names]
 rw[e,ck]
 have e2:(names (f::r)).getD (names r).length []=f.nm:=by simp[names,aa]
 rw[e2]
 split
 ·rw[e];simp
 ·rw[names,lO _ _ _ _ (aw _)]
theorem kw(s:List UInt8):∀env:List Fr,ck s (names env) (names env).length=none/\fB s env=none\/∃(u:Nat) (f:Fr),ck s (names env) (names env).length=some u/\fB s env=some f/\env[u]?=some f
 |[]=>.inl ⟨rfl,rfl⟩
 |
  f::r=>by
  rw[pu,fB]
  split
  ·exact .inr ⟨0,f,rfl,rfl,rfl⟩
  ·rcases kw s r with⟨h1,h2⟩|⟨u,g,h1,h2,h3⟩
   ·exact .inl ⟨by rw[h1];rfl,h2⟩
   ·exact .inr ⟨u+1,g,by rw[h1];rfl,h2,by simpa using h3⟩
def Ty.D3:Ty->Bool
 | .bm _=>true
 |_=>false
theorem ua{e:E}{env:List Fr}{t:Ty}(hw:WF env)(ht:bG e (names env)=some t) :
 (t.D3=false/\fB e.at env=none)\/∃(u:Nat) (f:Fr),t=.bm u/\fB e.at env=some f/\env[u]?=some f:=by
 cases e with
 |
  list l =>
  left
  refine⟨?_,nI hw⟩
  match l,ht with
  |
   [x,a,b],ht =>
   by_cases h0:x.at=[43]
   ·obtain⟨t1,t2,_,_,rfl⟩:=dx h0 ht;rfl
   ·by_cases h1:x.at=[42]
    ·obtain⟨t1,t2,_,_,rfl⟩:=dc h1 ht;rfl
    ·by_cases h2:x.at=[114,101,99]
     ·obtain⟨t1,_,_,rfl⟩:=cG h2 ht;rfl
     ·rw[fq _ h0 h1 h2]at ht;cases ht
  |[],ht=>cases ht
  |[_],ht=>cases ht
  |[_,_],ht=>cases ht
  |_::_::_::_::_,ht=>cases ht
 |
  atom s =>
  simp only[bG]at ht
  have hno:bX s=false->fB s env=none:=fun h=>by
   cases hq:fB s env with
   |none=>rfl
   |some f=>rw[s4 hw hq]at h;cases h
  split at ht
  ·rename_i h;cases ht;subst h;exact .inl ⟨rfl,hno rfl⟩
  ·split at ht
   ·rename_i h;cases ht;subst h;exact .inl ⟨rfl,hno rfl⟩
   ·split at ht
    ·rename_i h
     cases ht
     refine .inl ⟨rfl,hno ?_⟩
     cases hq:bX s with
     |false=>rfl
     |
      true =>
      obtain⟨c,r,rfl,h1,h2⟩:=ef h
      obtain⟨c',r',he,h3,h4⟩:=ef hq
      cases he;omega
    ·split at ht
     ·rcases kw s env with⟨h1,h2⟩|⟨u,f,h1,h2,h3⟩
      ·rw[h1]at ht;cases ht;exact .inl ⟨rfl,h2⟩
      ·rw[h1]at ht;cases ht;exact .inr ⟨u,f,rfl,h2,h3⟩
     ·cases ht
def lz(n:Nat):Vl->E×List Fr->Bool
 | .u,p=>match hd p.1 p.2 with|(.atom s,_)=>s==[49]|_=>false
 | .el k,p=>match hd p.1 p.2 with|(.atom s,_)=>!(s==[49])&&(fK s&&decide (k<n))|_=>false
 | .l w,p=>match hd p.1 p.2 with|(.list [x,a,b],o)=>(x.at==[43])&&lz n w (a,o)|_=>false
 | .r w,p=>match hd p.1 p.2 with|(.list [x,a,b],o)=>(x.at==[43])&&lz n w (b,o)|_=>false
 | .f w,p=>match hd p.1 p.2 with|(.list [x,a,b],o)=>(x.at==[114,101,99])&&lz n w (b,.mk a.at (.list [x,a,b]) o::o)|_=>false
 | .p v w,p=>match hd p.1 p.2 with|(.list [x,a,b],o)=>(x.at==[42])&&(lz n v (a,o)&&lz n w (b,o))|_=>false
theorem rD{e:E}{env:List Fr}(h:fB e.at env=none):hd e env=(e,env):=by rw[hd,h]
theorem wA{e:E}{env:List Fr}{f:Fr}(h:fB e.at env=some f):hd e env=(f.ex,f.out):=by rw[hd,h]
theorem u5{x a b:E}{o:List Fr}(h:WF o):hd (.list [x,a,b]) o=(.list [x,a,b],o):=rD (nI h)
theorem yW(n:Nat)(v:Vl){e e':E}{env o:List Fr}(h:hd e env=(e',o))(h':hd e' o=(e',o)):lz n v (e,env)=lz n v (e',o):=by
 cases v<;>simp only[lz,h,h']
theorem pN{x a b:E}{env:List Fr}{t:Ty}(hw:WF env)(hok:(E.list [x,a,b]).ok)(hx:x.at=[114,101,99])(ht:bG (.list [x,a,b]) (names env)=some t)(hf:aQ t=false) :
 ∃t1,t=.rc t1/\bG b (names (.mk a.at (.list [x,a,b]) env::env))=some t1/\aQ t1=false/\WF (.mk a.at (.list [x,a,b]) env::env):=by
 obtain⟨t1,hl,h1,rfl⟩:=cG hx ht
 exact⟨t1,rfl,h1,hf,.cons hl hok hx ht hf hw⟩
end Go.Proofs.Trees
namespace Go.Proofs.Trees
open Go Go.VL Go.RowKit
theorem oE{a b:Ty}(h:aQ (.plus a b)=false):aQ a=false/\aQ b=false:=by simpa[aQ]using h
theorem np{a b:Ty}(h:aQ (.times a b)=false):aQ a=false/\aQ b=false:=by simpa[aQ]using h
theorem nC{e:E}{ar:List (List UInt8)}{t:Ty}(ht:bG e ar=some t)(hb:t.D3=false)(hf:aQ t=false) :
 (e=.atom [48]/\t=.zero)\/(e=.atom [49]/\t=.one)\/(∃s,e=.atom s/\t=.name s/\fK s=true/\s≠[48]/\s≠[49]) ∨
 (∃x a b t1 t2,e=.list [x,a,b]/\x.at=[43]/\t=.plus t1 t2/\bG a ar=some t1/\bG b ar=some t2) ∨
 (∃x a b t1 t2,e=.list [x,a,b]/\x.at=[42]/\t=.times t1 t2/\bG a ar=some t1/\bG b ar=some t2) ∨
 (∃x a b t1,e=.list [x,a,b]/\x.at=[114,101,99]/\t=.rc t1):=by
 cases e with
 |
  list l =>
  match l,ht with
  |
   [x,a,b],ht =>
   by_cases h0:x.at=[43]
   ·obtain⟨t1,t2,h1,h2,rfl⟩:=dx h0 ht
    exact .inr (.inr (.inr (.inl ⟨x,a,b,t1,t2,rfl,h0,rfl,h1,h2⟩)))
   ·by_cases h1:x.at=[42]
    ·obtain⟨t1,t2,h3,h2,rfl⟩:=dc h1 ht
     exact .inr (.inr (.inr (.inr (.inl ⟨x,a,b,t1,t2,rfl,h1,rfl,h3,h2⟩))))
    ·by_cases h2:x.at=[114,101,99]
     ·obtain⟨t1,_,_,rfl⟩:=cG h2 ht
      exact .inr (.inr (.inr (.inr (.inr ⟨x,a,b,t1,rfl,h2,rfl⟩))))
     ·rw[fq _ h0 h1 h2]at ht;cases ht
  |[],ht=>cases ht
  |[_],ht=>cases ht
  |[_,_],ht=>cases ht
  |_::_::_::_::_,ht=>cases ht
 |
  atom s =>
  simp only[bG]at ht
  split at ht
  ·rename_i h;cases ht;subst h;exact .inl ⟨rfl,rfl⟩
  ·rename_i h0
   split at ht
   ·rename_i h;cases ht;subst h;exact .inr (.inl ⟨rfl,rfl⟩)
   ·rename_i h1
    split at ht
    ·rename_i h;cases ht;exact .inr (.inr (.inl ⟨s,rfl,rfl,h,h0,h1⟩))
    ·split at ht
     ·rename_i h
      split at ht
      ·cases ht;cases hb
      ·cases ht;simp only[aQ]at hf;rw[h]at hf;cases hf
     ·cases ht
structure Ask(e:E)(env:List Fr)(t:Ty):Prop where
 ok:e.ok
 wf:WF env
 ty:bG e (names env)=some t
 cl:aQ t=false
end Go.Proofs.Trees
namespace Go.Proofs.Trees
open Go Go.VL Go.RowKit
theorem DZ(l:List (List UInt8))(a:AV)(ha:dD a l)(s:List UInt8)(hl:l.length<1000000):aC Tryd.prog 55 [a,.v (.string (mk s))] [] (cu (.sl (dj (l++[s])))):=by
 refine Cx _ _ ha.1 ?_
 simp only[Bj,↓zq,zs,an,ha.2,cu,bp]
 have:(dj l).length=l.length:=by simp[dj]
 refine⟨⟨ha.1,ja l,by omega⟩,⟨fun c hc=>(by simp at hc;rw[hc];rfl),by omega⟩,?_⟩
 rw[wP]
def xX:E->List (List UInt8)->List (List UInt8)->List (List UInt8)
 | .atom s,bd,l=>if s=[48]\/s=[49]\/s∈bd\/s∈l then l else l++[s]
 | .list [x,a,b],bd,l=>if x.at=[114,101,99]then xX b (bd++[a.at]) l else xX b bd (xX a bd l)
 | .list _,_,l=>l
theorem lK{s:List UInt8}(h:fK s=true):bX s=false:=by
 cases hq:bX s with
 |false=>rfl
 |
  true =>
  obtain⟨c,r,rfl,h1,h2⟩:=ef h
  obtain⟨c',r',he,h3,h4⟩:=ef hq
  cases he;omega
theorem iT(s:List UInt8)(ar:List (List UInt8)):∀i,i<=ar.length->(ck s ar i=none↔s∉ar.take i)
 |0,_=>by simp[ck]
 |
  i+1,hi=>by
  have hlt:i<ar.length:=by omega
  have e:ar.getD i []=ar[i]:=by simp[aa,hlt]
  have e2:s∈ar.take (i+1)↔s∈ar.take i\/s=ar[i]:=by
   rw[show ar.take (i+1)=ar.take i++[ar[i]] from (List.take_append_getElem hlt).symm]
   simp only[aN,bq]
  rw[ck,e,e2]
  by_cases h:ar[i]=s
  ·rw[if_pos h]
   exact⟨fun h=>(by cases h),fun h'=>absurd (.inr h.symm) h'⟩
  ·rw[if_neg h,iT s ar i (by omega)]
   exact⟨fun h1 h2=>h2.elim h1 (fun h3=>h h3.symm),fun h1 h2=>h1 (.inl h2)⟩
theorem ij:∀(e:E) (ar l:List (List UInt8)) (t:Ty),bG e ar=some t->(∀w,w∈ar->bX w=true)->(xX e ar l).any bX=(l.any bX||aQ t)
 |
  .atom s,ar,l,t,h,har=>by
  simp only[bG]at h
  rw[xX]
  split at h
  ·rename_i h0;cases h;rw[if_pos (.inl h0)];simp[aQ]
  ·rename_i h0
   split at h
   ·rename_i h1;cases h;rw[if_pos (.inr (.inl h1))];simp[aQ]
   ·rename_i h1
    split at h
    ·rename_i h2
     cases h
     have hn:=lK h2
     simp only[aQ,hn]
     split
     ·simp
     ·simp[hn]
    ·split at h
     ·rename_i h2 h3
      have hlo:=iT s ar ar.length (aw _)
      rw[List.take_length]at hlo
      cases hq:ck s ar ar.length with
      |
       some u =>
       rw[hq]at h;cases h
       have hm:s∈ar:=Classical.byContradiction fun hm=>by rw[hlo.2 hm]at hq;cases hq
       rw[if_pos (.inr (.inr (.inl hm)))];simp[aQ]
      |
       none =>
       rw[hq]at h;cases h
       have hm:=hlo.1 hq
       simp only[aQ,h3,Bool.or_true]
       split
       ·rename_i hh
        rcases hh with q|q|q|q
        ·exact absurd q h0
        ·exact absurd q h1
        ·exact absurd q hm
        ·rw[bi];exact⟨s,q,h3⟩
       ·simp[h3]
     ·cases h
 | .list [],_,_,_,h,_=>by cases h
 | .list [_],_,_,_,h,_=>by cases h
 | .list [_,_],_,_,_,h,_=>by cases h
 | .list (_::_::_::_::_),_,_,_,h,_=>by cases h
 |
  .list [x,a,b],ar,l,t,h,har=>by
  rw[xX]
  by_cases h0:x.at=[43]
  ·obtain⟨t1,t2,e1,e2,rfl⟩:=dx h0 h
   rw[if_neg (by rw[h0];decide),ij b ar _ t2 e2 har,ij a ar l t1 e1 har,aQ,bZ]
  ·by_cases h1:x.at=[42]
   ·obtain⟨t1,t2,e1,e2,rfl⟩:=dc h1 h
    rw[if_neg (by rw[h1];decide),ij b ar _ t2 e2 har,ij a ar l t1 e1 har,aQ,bZ]
   ·by_cases h2:x.at=[114,101,99]
    ·obtain⟨t1,hl,e1,rfl⟩:=cG h2 h
     rw[if_pos h2,ij b _ l t1 e1 (fun w hw=>by
      simp only[aN,bq]at hw
      rcases hw with hw|rfl
      ·exact har w hw
      ·exact hl),aQ]
    ·rw[fq _ h0 h1 h2]at h;cases h
def oY(s:List UInt8):Option E:=match qm s with
 |none=>none
 |some e=>if(xX e [] []).any bX=true then none else some e
theorem tQ{s:List UInt8}:nk s=match oY s with|none=>none|some e=>bG e []:=by
 unfold nk oY
 rw[oW]
 cases he:qm s with
 |none=>rfl
 |
  some e =>
  obtain⟨h1,h2,h3⟩:=jQ he
  have hs:=ep e []
  rw[h2]at hs
  obtain⟨t,ht⟩:=Option.isSome_iff_exists.1 hs
  have ha:=ij e [] [] t ht (fun w hw=>by cases hw)
  simp only[ht,jl,ha,List.any_nil,Bool.false_or]
  cases hf:aQ t<;>simp[ht]
theorem s5{s:List UInt8}{e:E}(h:oY s=some e):∃t,nk s=some t/\Ask e [] t/\gl e=true/\e.sz<=8000/\t.aq<=400/\nh s=some e:=by
 have h0:=h
 unfold oY at h
 split at h
 ·cases h
 ·rename_i e' he
  split at h
  ·cases h
  ·rename_i hn
   cases h
   obtain⟨h1,h2,h3⟩:=jQ he
   obtain⟨hok,hsz⟩:=mw h1
   have hs:=ep e []
   rw[h2]at hs
   obtain⟨t,ht⟩:=Option.isSome_iff_exists.1 hs
   have ha:=ij e [] [] t ht (fun w hw=>by cases hw)
   rw[ha]at hn
   refine⟨t,by rw[tQ,h0];exact ht,⟨hok,.nil,ht,by simpa using hn⟩,h2,hsz,?_,h1⟩
   rw[<-fW e [] t ht];exact h3
theorem sU{s:List UInt8}(h:oY s=none):nk s=none:=by rw[tQ,h]
def Ch(s v:List UInt8)(n:Int):Option Vl:=match oY s,xO v with
 |some e,some w=>if(0<=n/\n<=100)/\lz n.toNat w (e,[])=true then some w else none
 |_,_=>none
end Go.Proofs.Trees
namespace Go.Proofs.Trees
open Go Go.VL Go.RowKit
inductive Tg where
 |nm (s:List UInt8)
 |bd (k:Nat)
 deriving DecidableEq
def Tg.up:Tg->Tg
 | .nm s=>.nm s
 | .bd k=>.bd (k+1)
def jF:Ty->Tg->Bool
 | .name s,.nm s'=>decide (s=s')
 | .bm u,.bd k=>decide (u=k)
 |_,_=>false
abbrev Hl:=Vl×Vl
def qW(g:Vl->Vl)(l:List Hl):List Hl:=l.map fun h=>(g h.1,h.2)
def lj(f:Ty->Tg->Vl->List Hl)(tg:Tg):Ty->Vl->List Hl
 | .plus a _,.l w=>qW .l (f a tg w)
 | .plus _ b,.r w=>qW .r (f b tg w)
 | .times a b,.p x y=>qW (fun c=>.l (.p c y)) (f a tg x)++qW (fun c=>.r (.p x c)) (f b tg y)
 | .rc a,.f w=>qW (fun c=>.f (.l c)) (f a tg.up w)++(f a (.bd 0) w).flatMap fun h=>qW (fun c=>.f (.r (.p h.1 c))) (f (.rc a) tg h.2)
 |_,_=>[]
def dP:Nat->Ty->Tg->Vl->List Hl
 |0,_,_,_=>[]
 |n+1,t,tg,v=>if jF t tg=true then [(.u,v)]else lj (dP n) tg t v
def stuck:Ty->Vl->Bool
 | .plus _ _,.l _=>false
 | .plus _ _,.r _=>false
 | .times _ _,.p _ _=>false
 | .rc _,.f _=>false
 |_,_=>true
def dh(t:Ty)(tg:Tg)(v:Vl):List Hl:=dP v.nodes t tg v
theorem jo{g:Vl->Vl}{l:List Hl}{h:Hl}(hm:h∈qW g l):∃k,k∈l/\h=(g k.1,k.2):=by
 obtain⟨k,h1,h2⟩:=bu.1 hm
 exact⟨k,h1,h2.symm⟩
theorem jM{f g:Hl->List Hl}:∀{l:List Hl},(∀h,h∈l->f h=g h)->l.flatMap f=l.flatMap g
 |[],_=>rfl
 |h::l,hl=>by rw[List.flatMap_cons,List.flatMap_cons,hl h ac,jM (l:=l) fun k hk=>hl k (af _ hk)]
theorem dy:∀(n:Nat) (t:Ty) (tg:Tg) (v:Vl) (h:Hl),h∈dP n t tg v->h.2.nodes<=v.nodes/\h.1.nodes+4*h.2.nodes<=4*v.nodes+1
 |0,t,tg,v,h,hm=>by simp[dP]at hm
 |
  n+1,t,tg,v,h,hm=>by
  unfold dP at hm
  split at hm
  ·simp only[bq]at hm
   subst hm
   simp only[Vl.nodes];omega
  ·unfold lj at hm
   split at hm
   ·obtain⟨k,h1,rfl⟩:=jo hm
    have:=dy n _ _ _ k h1
    simp only[Vl.nodes];omega
   ·obtain⟨k,h1,rfl⟩:=jo hm
    have:=dy n _ _ _ k h1
    simp only[Vl.nodes];omega
   ·rcases aN.1 hm with hm|hm
    ·obtain⟨k,h1,rfl⟩:=jo hm
     have:=dy n _ _ _ k h1
     simp only[Vl.nodes];omega
    ·obtain⟨k,h1,rfl⟩:=jo hm
     have:=dy n _ _ _ k h1
     simp only[Vl.nodes];omega
   ·rcases aN.1 hm with hm|hm
    ·obtain⟨k,h1,rfl⟩:=jo hm
     have:=dy n _ _ _ k h1
     simp only[Vl.nodes];omega
    ·obtain⟨k,h1,h2⟩:=List.mem_flatMap.1 hm
     obtain⟨k2,h3,rfl⟩:=jo h2
     have:=dy n _ _ _ k h1
     have:=dy n _ _ _ k2 h3
     simp only[Vl.nodes];omega
   ·simp at hm
theorem eu:∀(n m:Nat) (t:Ty) (tg:Tg) (v:Vl),v.nodes<=n->v.nodes<=m->dP n t tg v=dP m t tg v
 |0,m,t,tg,v,h,_=>by have:=gU v;omega
 |n+1,0,t,tg,v,_,h=>by have:=gU v;omega
 |
  n+1,m+1,t,tg,v,hn,hm=>by
  rw[dP,dP]
  split
  ·rfl
  ·unfold lj
   split
   ·simp only[Vl.nodes]at hn hm;rw[eu n m _ _ _ (by omega) (by omega)]
   ·simp only[Vl.nodes]at hn hm;rw[eu n m _ _ _ (by omega) (by omega)]
   ·simp only[Vl.nodes]at hn hm;rw[eu n m _ _ _ (by omega) (by omega),eu n m _ _ _ (by omega) (by omega)]
   ·rename_i a w
    simp only[Vl.nodes]at hn hm;rw[eu n m _ _ _ (by omega) (by omega),eu n m _ (.bd 0) _ (by omega) (by omega)]
    congr 1
    apply jM
    intro h hh
    have:=(dy _ _ _ _ _ hh).1
    rw[eu n m _ _ _ (by omega) (by omega)]
   ·rfl
theorem j9{n:Nat}(t:Ty)(tg:Tg){v:Vl}(h:v.nodes<=n):dP n t tg v=dh t tg v:=eu _ _ _ _ _ h (aw _)
theorem tD{t:Ty}{tg:Tg}(v:Vl)(h:jF t tg=true):dh t tg v=[(.u,v)]:=by
 have:=gU v
 unfold dh
 cases e:v.nodes with
 |zero=>omega
 |succ n=>rw[dP,if_pos h]
theorem wN(a b:Ty)(tg:Tg)(w:Vl):dh (.plus a b) tg (.l w)=qW .l (dh a tg w):=by
 unfold dh;rw[show (Vl.l w).nodes=w.nodes+1 by simp[Vl.nodes];omega,dP,if_neg (by simp[jF])];rfl
theorem w8(a b:Ty)(tg:Tg)(w:Vl):dh (.plus a b) tg (.r w)=qW .r (dh b tg w):=by
 unfold dh;rw[show (Vl.r w).nodes=w.nodes+1 by simp[Vl.nodes];omega,dP,if_neg (by simp[jF])];rfl
theorem xe(a b:Ty)(tg:Tg)(x y:Vl):dh (.times a b) tg (.p x y)=qW (fun c=>.l (.p c y)) (dh a tg x)++qW (fun c=>.r (.p x c)) (dh b tg y):=by
 rw[dh,show (Vl.p x y).nodes=(x.nodes+y.nodes)+1 by simp[Vl.nodes];omega,dP,if_neg (by simp[jF])]
 rw[lj,j9 a tg (by omega),j9 b tg (by omega)]
theorem vV(a:Ty)(tg:Tg)(w:Vl):dh (.rc a) tg (.f w)=qW (fun c=>.f (.l c)) (dh a tg.up w)++(dh a (.bd 0) w).flatMap fun h=>qW (fun c=>.f (.r (.p h.1 c))) (dh (.rc a) tg h.2):=by
 rw[dh,show (Vl.f w).nodes=w.nodes+1 by simp[Vl.nodes];omega,dP,if_neg (by simp[jF])]
 rw[lj,j9 a tg.up (aw _),j9 a (.bd 0) (aw _)]
 congr 1
 apply jM
 intro h hh
 have:=(dy _ _ _ _ _ hh).1
 rw[j9 (.rc a) tg this]
theorem uE{t:Ty}{tg:Tg}{v:Vl}(h:jF t tg=false)(h2:stuck t v=true):dh t tg v=[]:=by
 unfold dh
 cases e:v.nodes with
 |zero=>rfl
 |
  succ n =>
  rw[dP,if_neg (by rw[h];simp)]
  unfold lj
  split<;>first|(simp[stuck]at h2;done)|rfl
theorem tG{t:Ty}{tg:Tg}{v:Vl}{h:Hl}(hm:h∈dh t tg v):h.2.nodes<=v.nodes/\h.1.nodes+4*h.2.nodes<=4*v.nodes+1:=dy _ _ _ _ _ hm
def jX(l:List Hl):Nat:=(l.map fun h=>h.2.nodes).sum
theorem mq(l r:List Hl):jX (l++r)=jX l+jX r:=by simp[jX]
theorem kH(g:Vl->Vl)(l:List Hl):jX (qW g l)=jX l:=by simp[jX,qW,Function.comp_def]
def gR(f:Tg->Nat)(T:List Tg):Nat:=(T.map f).sum
theorem kM(f g:Tg->Nat):∀T:List Tg,gR (fun x=>f x+g x) T=gR f T+gR g T
 |[]=>rfl
 |x::T=>by have:=kM f g T;simp only[gR,bj,List.sum_cons]at this |-;omega
theorem rR{f g:Tg->Nat}:∀{T:List Tg},(∀x,x∈T->f x<=g x)->gR f T<=gR g T
 |[],_=>aw _
 |
  x::T,h=>by
  have:=rR (T:=T) fun y hy=>h y (af _ hy)
  have:=h x ac
  simp only[gR,bj,List.sum_cons]at *;omega
theorem kS{f:Tg->Nat}:∀{T:List Tg},(∀x,x∈T->f x=0)->gR f T=0
 |[],_=>rfl
 |
  x::T,h=>by
  have:=kS (T:=T) fun y hy=>h y (af _ hy)
  have:=h x ac
  simp only[gR,bj,List.sum_cons]at *;omega
theorem nZ(g:Hl->Tg->Nat)(T:List Tg):∀l:List Hl,gR (fun x=>(l.map fun h=>g h x).sum) T=(l.map fun h=>gR (g h) T).sum
 |[]=>kS fun _ _=>rfl
 |
  h::l=>by
  have:=nZ g T l
  simp only[bj,List.sum_cons]
  rw[kM,this]
theorem nM(f:Hl->List Hl):∀l:List Hl,jX (l.flatMap f)=(l.map fun h=>jX (f h)).sum
 |[]=>rfl
 |h::l=>by rw[List.flatMap_cons,mq,nM f l];simp
theorem vg{f g:Hl->Nat}:∀{l:List Hl},(∀x,x∈l->f x<=g x)->(l.map f).sum<=(l.map g).sum
 |[],_=>aw _
 |
  x::l,h=>by
  have:=vg (l:=l) fun y hy=>h y (af _ hy)
  have:=h x ac
  simp only[bj,List.sum_cons]at *;omega
theorem uR{t:Ty}{x y:Tg}(h:jF t x=true)(h':jF t y=true):x=y:=by
 cases t<;>cases x<;>cases y<;>simp[jF]at h h'<;>simp_all
theorem rZ{t:Ty}(n:Nat):∀{T:List Tg},T.Nodup->gR (fun x=>if jF t x=true then n else 0) T<=n
 |[],_=>Nat.zero_le _
 |
  x::T,h=>by
  obtain⟨h1,h2⟩:=List.nodup_cons.1 h
  have ih:=rZ (t:=t) n h2
  by_cases hx:jF t x=true
  ·have:gR (fun x=>if jF t x=true then n else 0) T=0:=kS fun y hy=>by
    rw[if_neg fun hy'=>h1 (by rw[uR hx hy'];exact hy)]
   simp only[gR,bj,List.sum_cons]at *
   rw[if_pos hx];omega
  ·simp only[gR,bj,List.sum_cons]at *
   rw[if_neg hx];omega
theorem vD{T:List Tg}(h:T.Nodup):(Tg.bd 0::T.map Tg.up).Nodup:=by
 refine List.nodup_cons.2 ⟨fun hm=>?_,?_⟩
 ·obtain⟨x,_,e⟩:=bu.1 hm
  cases x<;>simp[Tg.up]at e
 ·refine List.Pairwise.map _ (fun a b hab e=>hab ?_) h
  cases a<;>cases b<;>simp[Tg.up]at e<;>simp_all
theorem apart:∀(n:Nat) (v:Vl),v.nodes<=n->∀(t:Ty) (T:List Tg),T.Nodup->gR (fun x=>jX (dh t x v)) T<=v.nodes
 |0,v,h=>by have:=gU v;omega
 |
  n+1,v,hn=>by
  intro t T hT
  have base:∀(hno:∀x,jF t x=false->dh t x v=[]),gR (fun x=>jX (dh t x v)) T<=v.nodes:=fun hno=>by
   refine Nat.le_trans (rR fun x _=>?_) (rZ (t:=t) v.nodes hT)
   cases e:jF t x with
   |true=>rw[tD v e];simp[jX]
   |false=>rw[hno x e];simp[jX]
  cases hm:stuck t v with
  |true=>exact base fun x hx=>uE hx hm
  |
   false =>
   unfold stuck at hm
   split at hm
   ·rename_i a b w
    simp only[Vl.nodes]at hn |-
    simp only[wN,kH]
    have:=apart n w (by omega) a T hT
    omega
   ·rename_i a b w
    simp only[Vl.nodes]at hn |-
    simp only[w8,kH]
    have:=apart n w (by omega) b T hT
    omega
   ·rename_i a b x y
    simp only[Vl.nodes]at hn |-
    simp only[xe,mq,kH]
    rw[kM]
    have:=apart n x (by omega) a T hT
    have:=apart n y (by omega) b T hT
    omega
   ·rename_i a w
    simp only[Vl.nodes]at hn |-
    simp only[vV,mq,kH,nM]
    rw[kM,nZ]
    have h1:=apart n w (by omega) a _ (vD hT)
    simp only[gR,bj,List.sum_cons,List.map_map]at h1
    have h2:((dh a (.bd 0) w).map fun h=>gR (fun x=>jX (dh (.rc a) x h.2)) T).sum<=jX (dh a (.bd 0) w):=vg fun h hh=>by
     have:=(tG hh).1
     exact apart n h.2 (by omega) (.rc a) T hT
    simp only[gR,Function.comp_def]at h1 h2 |-
    omega
   ·cases hm
end Go.Proofs.Trees
namespace Go.Proofs.Trees
open Go Go.VL Go.RowKit
def iM(ar:List (List UInt8))(k:Nat):List UInt8:=ar.getD (ar.length-1-k) []
theorem jm{s:List UInt8}{ar:List (List UInt8)}:∀(i u:Nat),i<=ar.length->ck s ar i=some u->u<ar.length/\iM ar u=s
 |0,u,_,h=>by cases h
 |
  i+1,u,hi,h=>by
  rw[ck]at h
  split at h
  ·rename_i e
   cases h
   refine⟨by omega,?_⟩
   rw[iM,show ar.length-1-(ar.length-1-i)=i by omega];exact e
  ·exact jm i u (by omega) h
end Go.Proofs.Trees
namespace Go.Proofs.Trees
open Go Go.VL Go.RowKit
def iS:E->List Nm->Ty
 | .atom s,ar=>if s=[48]then .zero else if s=[49]then .one else match ck s ar ar.length with|some u=>.bm u|none=>.name s
 | .list [x,a,b],ar=>if x.at=[43]then .plus (iS a ar) (iS b ar)else if x.at=[42]then .times (iS a ar) (iS b ar)else .rc (iS b (ar++[a.at]))
 | .list _,_=>.zero
def wg(s:Nm):Prop:=s≠[]/\s≠[48]/\s≠[49]
inductive Wf:E->Prop
 |atom {s} (h:s≠[]):Wf (.atom s)
 |plus {a b} (ha:Wf a) (hb:Wf b):Wf (.list [.atom [43],a,b])
 |times {a b} (ha:Wf a) (hb:Wf b):Wf (.list [.atom [42],a,b])
 |rc {n b} (hn:wg n) (hb:Wf b):Wf (.list [.atom [114,101,99],.atom n,b])
theorem jd(a b:E)(ar:List Nm):iS (.list [.atom [43],a,b]) ar=.plus (iS a ar) (iS b ar):=by rw[iS,if_pos (show (E.atom [43]).at=[43] from rfl)]
theorem gJ(a b:E)(ar:List Nm):iS (.list [.atom [42],a,b]) ar=.times (iS a ar) (iS b ar):=by rw[iS,if_neg (by decide),if_pos (show (E.atom [42]).at=[42] from rfl)]
theorem mv(a b:E)(ar:List Nm):iS (.list [.atom [114,101,99],a,b]) ar=.rc (iS b (ar++[a.at])):=by rw[iS,if_neg (by decide),if_neg (by decide)]
theorem Wf.ok{e:E}(h:Wf e):e.ok:=by
 induction h with
 |atom h=>exact h
 |plus ha hb i1 i2=>exact⟨by simp[E.ok],i1,i2,trivial⟩
 |times ha hb i1 i2=>exact⟨by simp[E.ok],i1,i2,trivial⟩
 |rc hn hb i=>exact⟨by simp[E.ok],hn.1,i,trivial⟩
theorem Wf.gZ{e:E}(h:Wf e):∀ar,e.gZ=(iS e ar).aq:=by
 induction h with
 |
  @atom s h =>
  intro ar
  simp only[E.gZ,iS]
  split
  ·rfl
  ·split
   ·rfl
   ·split<;>rfl
 |plus ha hb i1 i2=>intro ar;rw[jd];simp only[E.gZ,E.gk,Ty.aq,<-i1 ar,<-i2 ar];omega
 |times ha hb i1 i2=>intro ar;rw[gJ];simp only[E.gZ,E.gk,Ty.aq,<-i1 ar,<-i2 ar];omega
 |@rc n b hn hb i=>intro ar;rw[mv];simp only[E.gZ,E.gk,Ty.aq,<-i];omega
theorem Wf.sz{e:E}(h:Wf e):e.sz<=3*e.gZ:=by
 induction h with
 |atom h=>simp[E.sz,E.gZ]
 |plus ha hb i1 i2=>simp only[E.sz,E.lU,E.gZ,E.gk];omega
 |times ha hb i1 i2=>simp only[E.sz,E.lU,E.gZ,E.gk];omega
 |rc hn hb i=>simp only[E.sz,E.lU,E.gZ,E.gk];omega
theorem iv:∀(e:E) (ar:List Nm) (t:Ty),e.ok->(∀w,w∈ar->bX w=true)->bG e ar=some t->Wf e/\iS e ar=t
 |
  .atom s,ar,t,hok,hl,ht=>by
  refine⟨.atom hok,?_⟩
  simp only[bG,iS]at ht |-
  split at ht
  ·rename_i h;rw[if_pos h];simpa using ht
  ·rename_i h;rw[if_neg h]
   split at ht
   ·rename_i h1;rw[if_pos h1];simpa using ht
   ·rename_i h1;rw[if_neg h1]
    split at ht
    ·rename_i hp
     cases q:ck s ar ar.length with
     |none=>simpa using ht
     |
      some u =>
      obtain⟨h1,h2⟩:=jm _ _ (aw _) q
      have:=hl (iM ar u) (by
       unfold iM
       have:ar.length-1-u<ar.length:=by omega
       simp[aa,this])
      rw[h2,lK hp]at this;cases this
    ·split at ht
     ·split at ht<;>rename_i q<;>rw[q]<;>simpa using ht
     ·cases ht
 |
  .list [x,a,b],ar,t,hok,hl,ht=>by
  obtain⟨ok1,ok2,ok3,_⟩:=hok
  by_cases h0:x.at=[43]
  ·obtain⟨t1,t2,h1,h2,rfl⟩:=dx h0 ht
   obtain rfl:=gu h0 (by simp)
   obtain⟨w1,e1⟩:=iv a ar t1 ok2 hl h1
   obtain⟨w2,e2⟩:=iv b ar t2 ok3 hl h2
   exact⟨.plus w1 w2,by rw[jd,e1,e2]⟩
  ·by_cases h1:x.at=[42]
   ·obtain⟨t1,t2,h2,h3,rfl⟩:=dc h1 ht
    obtain rfl:=gu h1 (by simp)
    obtain⟨w1,e1⟩:=iv a ar t1 ok2 hl h2
    obtain⟨w2,e2⟩:=iv b ar t2 ok3 hl h3
    exact⟨.times w1 w2,by rw[gJ,e1,e2]⟩
   ·by_cases h2:x.at=[114,101,99]
    ·obtain⟨t1,hla,h3,rfl⟩:=cG h2 ht
     obtain rfl:=gu h2 (by simp)
     have hne:a.at≠[]:=by intro e;rw[e]at hla;cases hla
     have ha:a=.atom a.at:=gu rfl hne
     obtain⟨w1,e1⟩:=iv b (ar++[a.at]) t1 ok3 (fun w hw=>by
      rcases aN.1 hw with hw|hw
      ·exact hl w hw
      ·simp only[bq]at hw;rw[hw];exact hla) h3
     have hN:wg a.at:=⟨hne,fun e=>by rw[e]at hla;revert hla;decide,fun e=>by rw[e]at hla;revert hla;decide⟩
     refine⟨?_,by rw[mv,e1]⟩
     rw[ha];exact .rc hN w1
    ·rw[fq _ h0 h1 h2]at ht;cases ht
 | .list [],ar,t,_,_,ht=>by cases ht
 | .list [_],ar,t,_,_,ht=>by cases ht
 | .list [_,_],ar,t,_,_,ht=>by cases ht
 | .list (_::_::_::_::_),ar,t,_,_,ht=>by cases ht
theorem jS(s:Nm)(ar:List Nm):ck s ar ar.length=none↔s∉ar:=by
 have:=iT s ar ar.length (aw _)
 rwa[List.take_length]at this
theorem ta{e:E}(h:Wf e):∀ar y,ba y (iS e ar)=true->wg y/\y∉ar:=by
 induction h with
 |
  @atom s h =>
  intro ar y hy
  simp only[iS]at hy
  split at hy
  ·cases hy
  ·rename_i h0
   split at hy
   ·cases hy
   ·rename_i h1
    split at hy
    ·cases hy
    ·rename_i q
     simp only[ba,decide_eq_true_eq]at hy
     subst hy
     exact⟨⟨h,h0,h1⟩,(jS _ _).1 q⟩
 |
  plus ha hb i1 i2 =>
  intro ar y hy
  rw[jd]at hy
  simp only[ba,aY]at hy
  rcases hy with hy|hy
  ·exact i1 ar y hy
  ·exact i2 ar y hy
 |
  times ha hb i1 i2 =>
  intro ar y hy
  rw[gJ]at hy
  simp only[ba,aY]at hy
  rcases hy with hy|hy
  ·exact i1 ar y hy
  ·exact i2 ar y hy
 |
  rc hn hb i =>
  intro ar y hy
  rw[mv]at hy
  obtain⟨h1,h2⟩:=i _ y hy
  exact⟨h1,fun h=>h2 (ap _ h)⟩
theorem dE:∀(t:Ty) (out:List Nm) (y:Nm),y∈a8 t out↔y∈out\/ba y t=true
 |
  .name s,out,y=>by
  simp only[a8,lu,ba,decide_eq_true_eq]
  split
  ·rename_i h;exact⟨fun h=>.inl h,fun h'=>by rcases h' with h'|rfl<;>assumption⟩
  ·simp[eq_comm]
 | .plus a b,out,y=>by rw[a8,dE b,dE a];simp[ba,or_assoc]
 | .times a b,out,y=>by rw[a8,dE b,dE a];simp[ba,or_assoc]
 | .rc a,out,y=>by rw[a8,dE a];rfl
 | .zero,out,y=>by simp[a8,ba]
 | .one,out,y=>by simp[a8,ba]
 | .bm k,out,y=>by simp[a8,ba]
end Go.Proofs.Trees
namespace Go.Proofs.Trees
open Go Go.VL Go.RowKit
abbrev vR:Nm:=[114,101,99]
theorem py(s:Nm):(E.atom s).at=s:=rfl
def xx(x:Nm):E->Nat
 | .atom s=>if s=x then 1 else 0
 | .list [h,a,b]=>if h.at=vR then(if a.at=x then 0 else xx x b)else xx x a+xx x b
 | .list _=>0
def ri(p:Nm->Prop):E->Prop
 | .atom _=>True
 | .list [h,a,b]=>(if h.at=vR then p a.at else ri p a)/\ri p b
 | .list _=>True
def fN(x:Nm):Ty->Nat
 | .name s=>if s=x then 1 else 0
 | .plus a b=>fN x a+fN x b
 | .times a b=>fN x a+fN x b
 | .rc a=>fN x a
 |_=>0
theorem ud(p:Nm->Prop)(a b:E):ri p (.list [.atom [43],a,b])↔ri p a/\ri p b:=by rw[ri,if_neg (by decide)]
theorem s8(p:Nm->Prop)(a b:E):ri p (.list [.atom [42],a,b])↔ri p a/\ri p b:=by rw[ri,if_neg (by decide)]
theorem xP(p:Nm->Prop)(n:Nm)(b:E):ri p (.list [.atom vR,.atom n,b])↔p n/\ri p b:=by rw[ri,if_pos (py _)];rfl
theorem nl{s:Nm}(hs:wg s){ar:List Nm}(h:s∉ar):iS (.atom s) ar=.name s:=by
 simp only[iS];rw[if_neg hs.2.1,if_neg hs.2.2,(jS s ar).2 h]
theorem cX(x:Nm)(u:Ty):∀t:Ty,(sub x u t).aq+fN x t=t.aq+fN x t*u.aq
 | .name s=>by simp only[sub,fN];split<;>simp[Ty.aq];omega
 | .plus a b=>by have:=cX x u a;have:=cX x u b;simp only[sub,Ty.aq,fN,Nat.add_mul];omega
 | .times a b=>by have:=cX x u a;have:=cX x u b;simp only[sub,Ty.aq,fN,Nat.add_mul];omega
 | .rc a=>by have:=cX x u a;simp only[sub,Ty.aq,fN];omega
 | .zero=>by simp[sub,fN]
 | .one=>by simp[sub,fN]
 | .bm k=>by simp[sub,fN]
abbrev tN(m:Nat):Nm:=116::dd m
theorem xE(m:Nat):dd m≠[]:=by
 by_cases h:m<10
 ·rw[eQ h];simp
 ·rw[fu h];simp
theorem qy:∀(n m k:Nat),m<n->dd m=dd k->m=k
 |0,m,k,h,_=>by omega
 |
  n+1,m,k,h,e=>by
  have d10:∀{a b:Nat},a<10->b<10->aX (48+a)=aX (48+b)->a=b:=fun {a b} ha hb h=>by
   have:=congrArg UInt8.toNat h
   simp only[UInt8.toNat_ofNat']at this
   omega
  by_cases h1:m<10<;>by_cases h2:k<10
  ·rw[eQ h1,eQ h2]at e
   simp only[List.cons.injEq,and_true]at e
   exact d10 h1 h2 e
  ·rw[eQ h1,fu h2]at e
   have:=congrArg List.length e
   have:dd (k/10)=[]:=by
    apply List.eq_nil_of_length_eq_zero
    simp at this;simpa using this
   exact absurd this (xE _)
  ·rw[fu h1,eQ h2]at e
   have:=congrArg List.length e
   have:dd (m/10)=[]:=by
    apply List.eq_nil_of_length_eq_zero
    simp at this;simpa using this
   exact absurd this (xE _)
  ·rw[fu h1,fu h2]at e
   obtain⟨e1,e2⟩:=List.append_inj' e rfl
   have:=qy n (m/10) (k/10) (by omega) e1
   simp only[List.cons.injEq,and_true]at e2
   have:=d10 (cD _ (by omega)) (cD _ (by omega)) e2
   omega
theorem vf{m k:Nat}(h:tN m=tN k):m=k:=qy (m+1) m k (by omega) (List.cons.inj h).2
theorem xC(m:Nat):wg (tN m):=⟨by simp,by simp,by simp⟩
theorem D5:∀(l F:List Nm),l.Nodup->(∀x,x∈l->x∈F)->l.length<=F.length
 |[],_,_,_=>Nat.zero_le _
 |
  x::l,F,hn,hs=>by
  obtain⟨h1,h2⟩:=List.nodup_cons.1 hn
  have hx:=hs x ac
  have:=D5 l (F.erase x) h2 fun y hy=>(List.mem_erase_of_ne (fun e=>h1 (by rw[<-e];exact hy))).2 (hs y (af _ hy))
  rw[List.length_erase_of_mem hx]at this
  have:0<F.length:=List.length_pos_of_mem hx
  simp only[aj];omega
def qT(F:List Nm):Nat->Nat->Nat
 |0,k=>k
 |n+1,k=>if tN k∈F then qT F n (k+1)else k
theorem px(F:List Nm):∀(n k:Nat),k<=qT F n k/\qT F n k<=k+n/\(∀j,k<=j->j<qT F n k->tN j∈F)/\(qT F n k<k+n->tN (qT F n k)∉F)
 |0,k=>⟨aw _,aw _,fun j h1 h2=>by simp only[qT]at h2;omega,fun h=>by simp only[qT]at h;omega⟩
 |
  n+1,k=>by
  rw[qT]
  split
  ·rename_i hm
   obtain⟨h1,h2,h3,h4⟩:=px F n (k+1)
   refine⟨by omega,by omega,fun j hj hl=>?_,fun h=>h4 (by omega)⟩
   by_cases e:j=k
   ·subst e;exact hm
   ·exact h3 j (by omega) hl
  ·rename_i hm
   exact⟨aw _,by omega,fun j h1 h2=>by omega,fun _=>hm⟩
def nx(F:List Nm)(k:Nat):Nat:=qT F (F.length+1) k
theorem jr(F:List Nm)(k:Nat):k<=nx F k/\nx F k<=k+F.length/\(∀j,k<=j->j<nx F k->tN j∈F)/\tN (nx F k)∉F:=by
 obtain⟨h1,h2,h3,h4⟩:=px F (F.length+1) k
 have hlt:nx F k<k+(F.length+1):=by
  rcases Nat.lt_or_ge (nx F k) (k+(F.length+1))with h|h
  ·exact h
  ·exfalso
   have:=D5 ((List.range' k (F.length+1)).map tN) F (by
    refine List.Pairwise.map _ (fun a b hab e=>hab (vf e)) List.nodup_range') (fun x hx=>by
    obtain⟨j,hj,rfl⟩:=bu.1 hx
    obtain⟨i,hi,rfl⟩:=List.mem_range'.1 hj
    exact h3 _ (by omega) (by show _<nx F k;omega))
   simp at this
   omega
 exact⟨h1,by unfold nx at hlt |-;omega,h3,h4 hlt⟩
def fY(F:List Nm):Ty->List Nm->Nat->E×Nat
 | .zero,_,k=>(.atom [48],k)
 | .one,_,k=>(.atom [49],k)
 | .name s,_,k=>(.atom s,k)
 | .bm u,to,k=>(.atom (iM to u),k)
 | .plus a b,to,k=>(.list [.atom [43],(fY F a to k).1,(fY F b to (fY F a to k).2).1],(fY F b to (fY F a to k).2).2)
 | .times a b,to,k=>(.list [.atom [42],(fY F a to k).1,(fY F b to (fY F a to k).2).1],(fY F b to (fY F a to k).2).2)
 | .rc a,to,k=>(.list [.atom vR,.atom (tN (nx F k)),(fY F a (to++[tN (nx F k)]) (nx F k+1)).1],(fY F a (to++[tN (nx F k)]) (nx F k+1)).2)
def lq:Ty->Nat->Prop
 | .bm u,i=>u<i
 | .plus a b,i=>lq a i/\lq b i
 | .times a b,i=>lq a i/\lq b i
 | .rc a,i=>lq a (i+1)
 |_,_=>True
theorem vt{e:E}(h:Wf e):∀ar,lq (iS e ar) ar.length:=by
 induction h with
 |
  @atom s hs =>
  intro ar
  simp only[iS]
  split
  ·trivial
  ·split
   ·trivial
   ·split
    ·rename_i u q;exact(jm _ _ (aw _) q).1
    ·trivial
 |plus ha hb i1 i2=>intro ar;rw[jd];exact⟨i1 ar,i2 ar⟩
 |times ha hb i1 i2=>intro ar;rw[gJ];exact⟨i1 ar,i2 ar⟩
 |
  @rc n b hn hb i =>
  intro ar;rw[mv]
  have:=i (ar++[(E.atom n).at])
  rw[ah]at this
  exact this
structure Gn(F to:List Nm)(k:Nat):Prop where
 out:∀w,w∈to->w∉F
 lt:∀w,w∈to->∃j,j<k/\w=tN j
 nd:to.Nodup
theorem Gn.nil(F:List Nm)(k:Nat):Gn F [] k:=⟨fun _ h=>(by cases h),fun _ h=>(by cases h),by simp⟩
theorem Gn.mono{F to:List Nm}{k k':Nat}(h:Gn F to k)(hk:k<=k'):Gn F to k':=⟨h.out,fun w hw=>by obtain⟨j,h1,h2⟩:=h.lt w hw;exact⟨j,by omega,h2⟩,h.nd⟩
theorem Gn.push{F to:List Nm}{k:Nat}(h:Gn F to k):Gn F (to++[tN (nx F k)]) (nx F k+1):=by
 obtain⟨h1,h2,h3,h4⟩:=jr F k
 refine⟨fun w hw=>?_,fun w hw=>?_,?_⟩
 ·rcases aN.1 hw with hw|hw
  ·exact h.out w hw
  ·simp only[bq]at hw;rw[hw];exact h4
 ·rcases aN.1 hw with hw|hw
  ·obtain⟨j,g1,g2⟩:=h.lt w hw;exact⟨j,by omega,g2⟩
  ·simp only[bq]at hw;exact⟨_,by omega,hw⟩
 ·refine List.nodup_append.2 ⟨h.nd,by simp,fun a ha b hb e=>?_⟩
  simp only[bq]at hb
  obtain⟨j,g1,g2⟩:=h.lt a ha
  rw[e,hb]at g2
  have:=vf g2
  omega
theorem oe{to:List Nm}(hn:to.Nodup){u:Nat}(hu:u<to.length):ck (iM to u) to to.length=some u:=by
 have hm:iM to u∈to:=by
  unfold iM
  have:to.length-1-u<to.length:=by omega
  simp[aa,this]
 cases q:ck (iM to u) to to.length with
 |none=>exact absurd hm ((jS _ _).1 q)
 |
  some v =>
  obtain⟨h1,h2⟩:=jm _ _ (aw _) q
  unfold iM at h2
  have e1:to.length-1-v<to.length:=by omega
  have e2:to.length-1-u<to.length:=by omega
  rw[aa,aa,bb e1,bb e2]at h2
  have hp:=List.pairwise_iff_getElem.1 hn
  have h3:to[to.length-1-v]=to[to.length-1-u]:=by simpa using h2
  rcases Nat.lt_trichotomy (to.length-1-v) (to.length-1-u)with hl|he|hl
  ·exact absurd h3 (hp _ _ e1 e2 hl)
  ·congr 1;omega
  ·exact absurd h3.symm (hp _ _ e2 e1 hl)
theorem jV(F:List Nm):∀(t:Ty) (to:List Nm) (k:Nat),Gn F to k->lq t to.length->(∀y,ba y t=true->y∈F/\wg y) ->
 Wf (fY F t to k).1/\iS (fY F t to k).1 to=t/\k<=(fY F t to k).2/\(fY F t to k).2<=k+(F.length+1)*t.aq/\ri (·∉F) (fY F t to k).1
 | .zero,to,k,_,_,_=>⟨.atom (by simp),rfl,aw _,bL _ _,trivial⟩
 | .one,to,k,_,_,_=>⟨.atom (by simp),rfl,aw _,bL _ _,trivial⟩
 |
  .name s,to,k,g,hl,hn=>by
  obtain⟨h1,h2⟩:=hn s (by simp[ba])
  exact⟨.atom h2.1,nl h2 (fun h=>g.out s h h1),aw _,bL _ _,trivial⟩
 |
  .bm u,to,k,g,hl,hn=>by
  have hm:iM to u∈to:=by
   unfold iM
   have:to.length-1-u<to.length:=by have:u<to.length:=hl;omega
   simp[aa,this]
  obtain⟨j,_,e⟩:=g.lt _ hm
  have hok:wg (iM to u):=by rw[e];exact xC j
  refine⟨.atom hok.1,?_,aw _,bL _ _,trivial⟩
  simp only[fY,iS]
  rw[if_neg hok.2.1,if_neg hok.2.2,oe g.nd hl]
 |
  .plus a b,to,k,g,hl,hn=>by
  obtain⟨a1,a2,a3,a4,a5⟩:=jV F a to k g hl.1 fun y hy=>hn y (by simp[ba,hy])
  obtain⟨b1,b2,b3,b4,b5⟩:=jV F b to _ (g.mono a3) hl.2 fun y hy=>hn y (by simp[ba,hy])
  simp only[fY,jd,a2,b2,ud,Ty.aq]
  refine⟨.plus a1 b1,trivial,by omega,?_,a5,b5⟩
  have:(F.length+1)*(1+a.aq+b.aq)=(F.length+1)+(F.length+1)*a.aq+(F.length+1)*b.aq:=by simp only[cy,Nat.mul_one]
  omega
 |
  .times a b,to,k,g,hl,hn=>by
  obtain⟨a1,a2,a3,a4,a5⟩:=jV F a to k g hl.1 fun y hy=>hn y (by simp[ba,hy])
  obtain⟨b1,b2,b3,b4,b5⟩:=jV F b to _ (g.mono a3) hl.2 fun y hy=>hn y (by simp[ba,hy])
  simp only[fY,gJ,a2,b2,s8,Ty.aq]
  refine⟨.times a1 b1,trivial,by omega,?_,a5,b5⟩
  have:(F.length+1)*(1+a.aq+b.aq)=(F.length+1)+(F.length+1)*a.aq+(F.length+1)*b.aq:=by simp only[cy,Nat.mul_one]
  omega
 |
  .rc a,to,k,g,hl,hn=>by
  obtain⟨h1,h2,h3,h4⟩:=jr F k
  obtain⟨a1,a2,a3,a4,a5⟩:=jV F a (to++[tN (nx F k)]) (nx F k+1) g.push (by rw[ah];exact hl) hn
  simp only[fY,mv,py,a2,xP,Ty.aq]
  refine⟨.rc (xC _) a1,trivial,by omega,?_,h4,a5⟩
  have:(F.length+1)*(2+a.aq)=(F.length+1)*2+(F.length+1)*a.aq:=by simp only[cy]
  omega
end Go.Proofs.Trees
namespace Go.Proofs.Trees
open Go Go.VL Go.RowKit
inductive rb:AV->List Nat->Prop
 |nil:rb my []
 |cons {m:Nat} {cs:List AV} {e:AV} {ids:List Nat} (hm:m∉ids) (h:rb e ids):rb (.ptr [.pid m cs,e]) (m::ids)
theorem rb.has{a:AV}{ids:List Nat}(h:rb a ids):LK.has .ptr a:=by
 cases h
 ·exact(kC).mpr trivial
 ·exact(cI _).mpr trivial
theorem rb.nodup{a:AV}{ids:List Nat}(h:rb a ids):ids.Nodup:=by
 induction h with
 |nil=>simp
 |cons hm h ih=>exact List.nodup_cons.2 ⟨hm,ih⟩
def D9(t:Ty)(ea:AV)(ids:List Nat):AV->List Ob->Prop:=fun r o=>(∃m,m∉ids/\r=.dm [.agg [t.av,.ptr [.pid m [(Ty.rc t).av,ea],ea]],.pid m [(Ty.rc t).av,ea]])/\o=[]
theorem D9.ne(t:Ty)(ea:AV)(ids:List Nat):∃r o,D9 t ea ids r o:=by
 have:∃m,m∉ids:=⟨ids.foldr max 0+1,fun h=>by
  have key:∀(l:List Nat) (x:Nat),x∈l->x<=l.foldr max 0:=by
   intro l
   induction l with
   |nil=>intro x hx;cases hx
   |
    cons y l ih =>
    intro x hx
    rcases aE.1 hx with rfl|hx
    ·simp only[List.foldr_cons];omega
    ·have:=ih x hx;simp only[List.foldr_cons];omega
  have:=key _ _ h
  omega⟩
 obtain⟨m,hm⟩:=this
 exact⟨_,_,⟨m,hm,rfl⟩,rfl⟩
inductive xD:Tg->List Nat->List UInt8->AV->Prop
 |nm (s:List UInt8) (ids:List Nat):xD (.nm s) ids s my
 |bd {k:Nat} {ids:List Nat} (hk:k<ids.length) (cs:List AV) (s:List UInt8):xD (.bd k) ids s (.pid (ids.getD k 0) cs)
theorem xD.has{tg:Tg}{ids:List Nat}{s:List UInt8}{fr:AV}(h:xD tg ids s fr):LK.has .ptr fr:=by
 cases h
 ·exact(kC).mpr trivial
 ·exact .inr (.inr ⟨_,_,rfl⟩)
theorem xD.push{tg:Tg}{ids:List Nat}{s:List UInt8}{fr:AV}(h:xD tg ids s fr)(m:Nat):xD tg.up (m::ids) s fr:=by
 cases h with
 |nm=>exact .nm _ _
 |
  @bd k _ hk cs =>
  have:=xD.bd (k:=k+1) (ids:=m::ids) (by simpa using hk) cs s
  simpa[Tg.up]using this
end Go.Proofs.Trees
namespace Go.Proofs.Trees
open Go Go.VL Go.RowKit
def vh:Option (List UInt8)->AV
 |some s=>.dm [.v (.string (mk s)),.v (.bool true)]
 |none=>.dm [.v (.string (mk [])),.v (.bool false)]
end Go.Proofs.Trees
namespace Go.Proofs.Trees
open Go Go.VL Go.RowKit
def back(n:Nat):Ty->Nat->Vl
 | .name _,c=>.el c
 | .plus a b,c=>match zI n a with|some x=>if c<x then .l (back n a c)else .r (back n b (c-x))|none=>.u
 | .times a b,c=>match zI n b with|some y=>.p (back n a (c/y)) (back n b (c%y))|none=>.u
 |_,_=>.u
end Go.Proofs.Trees
namespace Go.Proofs.Trees
open Go Go.VL Go.RowKit
def P3(pv:AV)(a b:E):Prop:=LK.sl.has pv/\pv.aT.length=3/\pv.aT.getD 1 []=[.v (.string (mk a.at)),a.sp]/\pv.aT.getD 2 []=[.v (.string (mk b.at)),b.sp]
theorem P3.of(x a b:E):P3 (E.list [x,a,b]).sp a b:=⟨by simp[E.sp,dC],by simp[E.sp,E.bM,gh],by simp[E.sp,E.bM,gh,lr],by simp[E.sp,E.bM,gh,lr]⟩
def P2(pv:AV)(a:E):Prop:=LK.sl.has pv/\pv.aT.length=2/\pv.aT.getD 1 []=[.v (.string (mk a.at)),a.sp]
theorem P2.of(x a:E):P2 (E.list [x,a]).sp a:=⟨by simp[E.sp,dC],by simp[E.sp,E.bM,gh],by simp[E.sp,E.bM,gh,lr]⟩
end Go.Proofs.Trees
namespace Go.Proofs.Trees
open Go Go.VL
mutual
def E.pr:E->Prop
 | .atom s=>s≠[]/\s.all c0=true
 | .list l=>l≠[]/\E.vE l
def E.vE:List E->Prop
 |[]=>True
 |e::l=>e.pr/\E.vE l
end
mutual
def E.dp:E->Nat
 | .atom _=>0
 | .list l=>1+E.ph l
def E.ph:List E->Nat
 |[]=>0
 |e::l=>max e.dp (E.ph l)
end
def AU(r:List UInt8):Prop:=∀c t,r=c::t->c0 c=false
theorem oD:AU []:=by intro c t h;cases h
theorem uo{s r:List UInt8}(hs:s.all c0=true)(hr:AU r):(s++r).takeWhile c0=s/\(s++r).dropWhile c0=r:=by
 induction s with
 |
  nil =>
  cases r with
  |nil=>exact⟨rfl,rfl⟩
  |cons c t=>have:=hr c t rfl;simp[List.takeWhile,List.dropWhile,this]
 |
  cons c s ih =>
  simp only[bK,ag]at hs
  have:=ih hs.2
  simp[List.takeWhile,List.dropWhile,hs.1,this.1,this.2]
theorem qc(l:List E)(r:List UInt8):AU (e6 l++41::r):=by
 intro c t h
 cases l with
 |nil=>simp only[e6,bp,List.cons.injEq]at h;rw[<-h.1];decide
 |cons e l=>simp only[e6,bh,List.cons.injEq]at h;rw[<-h.1];decide
theorem ux{f:List UInt8->Option (E×List UInt8)}(r:List UInt8):∀(l:List E) (e:E) (acc:List E) (n:Nat),l.length<n->(∀x,x=e\/x∈l->∀r,AU r->f (gy x++r)=some (x,r)) ->
 nf f n (gy e++(e6 l++41::r)) acc=some (.list (acc++e::l),r)
 |l,e,acc,0,hn,hf=>by omega
 |
  [],e,acc,n+1,hn,hf=>by
  simp only[nf]
  rw[hf e (.inl rfl) _ (qc [] r)]
  simp[e6]
 |
  x::l,e,acc,n+1,hn,hf=>by
  simp only[nf]
  rw[hf e (.inl rfl) _ (qc (x::l) r)]
  simp only[aj]at hn
  have ih:=ux r l x (acc++[e]) n (by omega) (fun y hy=>hf y (.inr (by cases hy with|inl h=>rw[h];exact ac|inr h=>exact af _ h)))
  simp only[List.append_assoc,bh,bp]at ih
  simp only[e6,bh,List.append_assoc]
  simp[ih]
theorem wT{l:List E}{k:Nat}:E.vE l->E.ph l<=k->∀x,x∈l->x.pr/\x.dp<=k:=by
 induction l with
 |nil=>intro _ _ x h;cases h
 |
  cons e l ih =>
  intro h hd x hx
  simp only[E.vE,E.ph]at h hd
  cases hx with
  |head=>exact⟨h.1,by omega⟩
  |tail _ hx=>exact ih h.2 (by omega) x hx
theorem sh:∀(k:Nat) (e:E) (r:List UInt8),e.pr->e.dp<=k->AU r->rd k (gy e++r)=some (e,r)
 |
  0,.atom s,r,hp,hd,hr=>by
  have h:=uo hp.2 hr
  simp only[gy,rd,h.1,h.2,hp.1,if_false]
 |
  k+1,.atom s,r,hp,hd,hr=>by
  have h:=uo hp.2 hr
  simp only[gy,rd,h.1,h.2,hp.1,if_false]
 |0,.list l,r,hp,hd,hr=>by simp only[E.dp]at hd;omega
 |k+1,.list [],r,hp,hd,hr=>by exact absurd rfl hp.1
 |
  k+1,.list (e::l),r,hp,hd,hr=>by
  have hs:c0 40=false:=by decide
  simp only[E.dp,E.pr]at hd hp
  have hm:=wT (k:=k) hp.2 (by omega)
  have:=ux (f:=rd k) r l e [] ((gy e++(e6 l++41::r)).length+1) (by have:=pR l;simp only[ah,aj];omega)
   (fun x hx r hr=>sh k x r (hm x (by cases hx with|inl h=>rw[h];exact ac|inr h=>exact af _ h)).1 (hm x (by cases hx with|inl h=>rw[h];exact ac|inr h=>exact af _ h)).2 hr)
  simp only[gy,bh,List.append_assoc,bp]at *
  simp only[rd,List.takeWhile,hs,if_true]
  simpa using this
theorem uC{e e':E}(h:e.pr)(h':e'.pr)(ht:gy e=gy e'):e=e':=by
 have a:=sh (max e.dp e'.dp) e [] h (by omega) oD
 have b:=sh (max e.dp e'.dp) e' [] h' (by omega) oD
 rw[ht,b]at a;cases a;rfl
theorem zh{e:E}(h:e.pr)(hd:e.dp<=300)(hl:(gy e).length<=8000):nh (gy e)=some e:=by
 have:=sh 300 e [] h hd oD
 rw[List.append_nil]at this
 rw[nh,this];simp;omega
theorem uT(s:List UInt8):(s.takeWhile c0).all c0=true:=by
 induction s with
 |nil=>rfl
 |cons c s ih =>
  cases h:c0 c
  ·simp[List.takeWhile,h]
  ·simp only[List.takeWhile,h,bK,ih];rfl
theorem wo(l r:List E):E.vE (l++r)↔E.vE l/\E.vE r:=by
 induction l with
 |nil=>simp[E.vE]
 |cons e l ih=>simp[E.vE,ih,and_assoc]
theorem xj(l r:List E):E.ph (l++r)=max (E.ph l) (E.ph r):=by
 induction l with
 |nil=>simp[E.ph]
 |cons e l ih=>simp[E.ph,ih,Nat.max_assoc]
theorem ss{k:Nat}{f:List UInt8->Option (E×List UInt8)}(hf:∀s e r,f s=some (e,r)->s=gy e++r/\e.pr/\e.dp<=k):∀(n:Nat) (s:List UInt8) (acc:List E) (e:E) (r:List UInt8),nf f n s acc=some (e,r)->E.vE acc->E.ph acc<=k ->
 ∃l,e=.list (acc++l)/\l≠[]/\32::s=e6 l++41::r/\E.vE l/\E.ph l<=k
 |0,s,acc,e,r,h,hp,hd=>by cases h
 |
  n+1,s,acc,e,r,h,hp,hd=>by
  simp only[nf]at h
  split at h
  ·rename_i p c r' hs
   obtain⟨h1,h2,h3⟩:=hf _ _ _ hs
   split at h
   ·rename_i hc
    have hc:c=41:=UInt8.toNat_inj.mp hc
    cases h
    exact⟨[p],rfl,by simp,by simp[e6,h1,hc],⟨h2,trivial⟩,by simp[E.ph];omega⟩
   ·split at h
    ·rename_i hc
     have hc:c=32:=UInt8.toNat_inj.mp hc
     obtain⟨l,g1,g2,g3,g4,g5⟩:=ss hf n _ _ _ _ h ((wo _ _).mpr ⟨hp,h2,trivial⟩) (by rw[xj];simp[E.ph];omega)
     refine⟨p::l,by simpa using g1,by simp,?_,⟨h2,g4⟩,by simp only[E.ph];omega⟩
     rw[h1,hc,g3];simp[e6]
    ·cases h
  ·cases h
theorem tZ:∀(k:Nat) (s:List UInt8) (e:E) (r:List UInt8),rd k s=some (e,r)->s=gy e++r/\e.pr/\e.dp<=k
 |
  0,s,e,r,h=>by
  simp only[rd]at h
  split at h
  ·cases h
  ·rename_i hs;cases h
   exact⟨(bf).symm,⟨hs,uT s⟩,aw _⟩
 |
  k+1,s,e,r,h=>by
  simp only[rd]at h
  split at h
  ·split at h
   ·rename_i c r' _
    split at h
    ·rename_i hc
     have hc:c=40:=UInt8.toNat_inj.mp hc
     obtain⟨l,g1,g2,g3,g4,g5⟩:=ss (k:=k) (fun s e r h=>tZ k s e r h) _ _ _ _ _ h trivial (Nat.zero_le _)
     simp only[bp]at g1
     subst g1;subst hc
     refine⟨?_,⟨g2,g4⟩,by simp only[E.dp];omega⟩
     cases l with
     |nil=>exact absurd rfl g2
     |
      cons x l =>
      simp only[e6,bh,List.append_assoc,List.cons.injEq,true_and]at g3
      rw[g3];simp[gy]
    ·cases h
   ·cases h
  ·rename_i hs;cases h
   exact⟨(bf).symm,⟨hs,uT s⟩,by simp[E.dp]⟩
theorem rY{s:List UInt8}{e:E}(h:nh s=some e):s=gy e/\e.pr/\e.dp<=300/\s.length<=8000:=by
 unfold nh at h
 split at h
 ·cases h
 ·rename_i hl
  split at h
  ·rename_i e' hr
   cases h
   have:=tZ _ _ _ _ hr
   exact⟨by simpa using this.1,this.2.1,this.2.2,by omega⟩
  ·cases h
theorem tP{k:Nat}(h:k<10):c0 (aX (48+k))=true:=by
 have:∀k:Fin 10,c0 (aX (48+k.val))=true:=by decide
 exact this ⟨k,h⟩
theorem qF:∀(n k:Nat),k<n->(dd k).all c0=true
 |0,k,h=>by omega
 |
  n+1,k,h=>by
  by_cases hk:k<10
  ·rw[eQ hk,bK,tP hk];rfl
  ·rw[fu hk]
   have:=qF n (k/10) (by omega)
   rw[List.all_append,this,bK,tP (cD k (by omega:0<10))];rfl
theorem yq(k:Nat):(E.atom (uA k)).pr:=⟨by simp,by have:=qF (k+1) k (by omega);simp only[uA,bK,this];decide⟩
theorem iY:∀v:Vl,v.ju.pr
 | .u=>⟨by simp,by decide⟩
 | .el k=>yq k
 | .l v=>⟨by simp,⟨by simp,by decide⟩,iY v,trivial⟩
 | .r v=>⟨by simp,⟨by simp,by decide⟩,iY v,trivial⟩
 | .f v=>⟨by simp,⟨by simp,by decide⟩,iY v,trivial⟩
 | .p a b=>⟨by simp,⟨by simp,by decide⟩,iY a,iY b,trivial⟩
theorem lg:∀v:Vl,v.ju.dp<v.nodes+1
 | .u=>by simp[Vl.ju,E.dp,Vl.nodes]
 | .el k=>by simp[Vl.ju,E.dp,Vl.nodes]
 | .l v=>by have:=lg v;simp only[Vl.ju,E.dp,E.ph,Vl.nodes]at *;omega
 | .r v=>by have:=lg v;simp only[Vl.ju,E.dp,E.ph,Vl.nodes]at *;omega
 | .f v=>by have:=lg v;simp only[Vl.ju,E.dp,E.ph,Vl.nodes]at *;omega
 | .p a b=>by have:=lg a;have:=lg b;simp only[Vl.ju,E.dp,E.ph,Vl.nodes]at *;omega
theorem wt(k:Nat)(h:k<100):(dd k).length<=2:=by
 by_cases hk:k<10
 ·rw[eQ hk];simp
 ·rw[fu hk,eQ (by omega:k/10<10)];simp
theorem gT:∀v:Vl,v.pS 100->v.lJ.length<=5*v.nodes
 | .u,_=>by simp[Vl.lJ,Vl.ju,gy,Vl.nodes]
 |
  .el k,h=>by
  have:=wt k h
  simp only[Vl.lJ,Vl.ju,gy,Vl.nodes,aj];omega
 | .l v,h=>by have:=gT v h;simp only[Vl.lJ,Vl.ju,gy,e6,Vl.nodes,aj,ah,aD]at this |-;omega
 | .r v,h=>by have:=gT v h;simp only[Vl.lJ,Vl.ju,gy,e6,Vl.nodes,aj,ah,aD]at this |-;omega
 | .f v,h=>by have:=gT v h;simp only[Vl.lJ,Vl.ju,gy,e6,Vl.nodes,aj,ah,aD]at this |-;omega
 | .p a b,h=>by have:=gT a h.1;have:=gT b h.2;simp only[Vl.lJ,Vl.ju,gy,e6,Vl.nodes,aj,ah,aD]at *;omega
theorem zb(k:Nat):uA k≠[117]:=by simp[uA]
theorem gp:∀v:Vl,v.pS 100->jU v.ju=some v
 | .u,_=>by simp[Vl.ju,jU]
 | .el k,h=>by simp only[Vl.ju,jU,zb,if_false,tR k h]
 | .l v,h=>by simp only[Vl.ju,jU,gp v h,E.at];simp
 | .r v,h=>by simp only[Vl.ju,jU,gp v h,E.at];simp
 | .f v,h=>by simp only[Vl.ju,jU,gp v h,E.at];simp
 | .p a b,h=>by simp only[Vl.ju,jU,gp a h.1,gp b h.2,E.at];simp
theorem vO{v:Vl}(h:v.pS 100)(hn:v.nodes<=200):xO v.lJ=some v:=by
 have hd:=lg v
 have hl:=gT v h
 rw[xO,zh (iY v) (by omega) (by show v.lJ.length<=8000;omega)]
 simp only[gp v h]
 rw[if_neg (by omega)]
theorem wG{v w:Vl}(h:v.pS 100)(h':w.pS 100)(ht:v.lJ=w.lJ):v=w:=by
 have:=uC (iY v) (iY w) ht
 have a:=gp v h
 rw[this,gp w h']at a;cases a;rfl
theorem wM{s:List UInt8}{v:Vl}(h:xO s=some v):s=v.lJ:=(rY (oh h).1).1
end Go.Proofs.Trees
namespace Go.Proofs.Trees
open Go Go.VL Go.RowKit
def oT:Ty->Vl->Vl->Vl
 | .plus a _,.l c,v=>.l (oT a c v)
 | .plus _ b,.r c,v=>.r (oT b c v)
 | .times a _,.l (.p x y),v=>.p (oT a x v) y
 | .times _ b,.r (.p x y),v=>.p x (oT b y v)
 | .rc a,.f (.l x),v=>.f (oT a x v)
 | .rc a,.f (.r (.p x y)),v=>.f (oT a x (oT (.rc a) y v))
 |_,_,v=>v
def Cg:Hl:=(.u,.u)
end Go.Proofs.Trees
namespace Go.Proofs.Trees
open Go Go.VL Go.RowKit
abbrev Ea:AV:=.v (.slice none 0 0)
theorem ib(F:List Nm):∀(t:Ty) (to:List Nm) (k:Nat),k<=(fY F t to k).2/\(fY F t to k).2<=k+(F.length+1)*t.aq
 | .zero,_,k=>⟨aw _,bL _ _⟩
 | .one,_,k=>⟨aw _,bL _ _⟩
 | .name _,_,k=>⟨aw _,bL _ _⟩
 | .bm _,_,k=>⟨aw _,bL _ _⟩
 |
  .plus a b,to,k=>by
  have h1:=ib F a to k
  have h2:=ib F b to (fY F a to k).2
  simp only[fY,Ty.aq]
  have:(F.length+1)*(1+a.aq+b.aq)=(F.length+1)+(F.length+1)*a.aq+(F.length+1)*b.aq:=by simp only[cy,Nat.mul_one]
  omega
 |
  .times a b,to,k=>by
  have h1:=ib F a to k
  have h2:=ib F b to (fY F a to k).2
  simp only[fY,Ty.aq]
  have:(F.length+1)*(1+a.aq+b.aq)=(F.length+1)+(F.length+1)*a.aq+(F.length+1)*b.aq:=by simp only[cy,Nat.mul_one]
  omega
 |
  .rc a,to,k=>by
  obtain⟨g1,g2,_,_⟩:=jr F k
  have h1:=ib F a (to++[tN (nx F k)]) (nx F k+1)
  simp only[fY,Ty.aq]
  have:(F.length+1)*(2+a.aq)=(F.length+1)*2+(F.length+1)*a.aq:=by simp only[cy]
  omega
theorem pW(l:List Nm):(dj l).length=l.length:=by simp[dj]
end Go.Proofs.Trees
namespace Go.Proofs.Trees
open Go Go.VL Go.RowKit
def dT(t:Ty):Prop:=lq t 0/\∀y,ba y t=true->wg y
theorem fk:∀(t:Ty) {i j:Nat},lq t i->i<=j->lq t j
 | .bm u,i,j,h,hj=>bQ h hj
 | .plus a b,i,j,h,hj=>⟨fk a h.1 hj,fk b h.2 hj⟩
 | .times a b,i,j,h,hj=>⟨fk a h.1 hj,fk b h.2 hj⟩
 | .rc a,i,j,h,hj=>fk (i:=i+1) (j:=j+1) a h (by omega)
 | .zero,_,_,_,_=>trivial
 | .one,_,_,_,_=>trivial
 | .name _,_,_,_,_=>trivial
theorem jb(x:Nm):∀(t:Ty) {i:Nat},lq t (i+1)->lq (eT (.name x) t i) i
 |
  .bm u,i,h=>by
  simp only[eT]
  split
  ·trivial
  ·have:u<i+1:=h
   show u<i;omega
 | .plus a b,i,h=>⟨jb x a h.1,jb x b h.2⟩
 | .times a b,i,h=>⟨jb x a h.1,jb x b h.2⟩
 | .rc a,i,h=>jb x (i:=i+1) a h
 | .zero,_,_=>trivial
 | .one,_,_=>trivial
 | .name _,_,_=>trivial
theorem je{x:Nm}{u:Ty}(hu:lq u 0):∀(t:Ty) {i:Nat},lq t i->lq (sub x u t) i
 | .name s,i,_=>by simp only[sub];split;exact fk u hu (Nat.zero_le _);trivial
 | .plus a b,i,h=>⟨je hu a h.1,je hu b h.2⟩
 | .times a b,i,h=>⟨je hu a h.1,je hu b h.2⟩
 | .rc a,i,h=>je hu (i:=i+1) a h
 | .zero,_,_=>trivial
 | .one,_,_=>trivial
 | .bm _,_,h=>h
theorem Dv.lc{t d:Ty}{s:Nm}(h:Dv t s d):lq t 0->lq d 0:=by
 induction h with
 |zero s=>exact fun _=>trivial
 |one s=>exact fun _=>trivial
 |bm k s=>exact fun _=>trivial
 |hit s=>exact fun _=>trivial
 |oJ h=>exact fun _=>trivial
 |plus h1 h2 hl i1 i2=>exact fun h=>⟨i1 h.1,i2 h.2⟩
 |times h1 h2 hl i1 i2=>exact fun h=>⟨⟨i1 h.1,h.2⟩,h.1,i2 h.2⟩
 |
  rc x hx hs h1 h2 hl i1 i2 =>
  intro h
  have g1:=je (x:=x) h _ (i1 (jb x _ h))
  have g2:=je (x:=x) h _ (i2 (jb x _ h))
  exact⟨fk _ g1 (by omega),fk _ g2 (by omega),Nat.zero_lt_one⟩
theorem Wf.yX{e:E}(h:Wf e):dT (iS e []):=⟨vt h [],fun y hy=>(ta h [] y hy).1⟩
theorem dT.dv{t d:Ty}{s:Nm}(g:dT t)(h:Dv t s d):dT d:=⟨h.lc g.1,fun y hy=>g.2 y (h.names y hy)⟩
theorem dT.tree{t:Ty}(g:dT t):∃e,Wf e/\iS e []=t:=by
 obtain⟨h1,h2,_⟩:=jV (a8 t []) t [] 0 (.nil _ _) g.1 fun y hy=>⟨(dE t [] y).2 (.inr hy),g.2 y hy⟩
 exact⟨_,h1,h2⟩
theorem dT.sub{x:Nm}{u t:Ty}(hu:dT u)(ht:dT t):dT (sub x u t):=⟨je hu.1 t ht.1,fun y hy=>by
 rcases fj t hy with h|h
 ·exact hu.2 y h
 ·exact ht.2 y h.2⟩
def zN(o:Option Ty):AV->List Ob->Prop:=fun r ob=>ob=[]/\∃(c:Nm) (d:AV),LK.sl.has d/\r=.dm [.agg [.v (.string (mk c)),d],.v (.bool o.isSome)]/\∀t,o=some t->∃e,Wf e/\iS e []=t/\c=e.at/\d=e.sp
theorem zN.ne{o:Option Ty}(h:∀t,o=some t->dT t):∃r ob,zN o r ob:=by
 cases o with
 |none=>exact⟨_,_,rfl,[],Ea,(bI).mpr trivial,rfl,fun t h=>by cases h⟩
 |
  some t =>
  obtain⟨e,h1,h2⟩:=(h t rfl).tree
  exact⟨_,_,rfl,e.at,e.sp,(uP _).mpr trivial,rfl,fun t' h'=>by cases h';exact⟨e,h1,h2,rfl,rfl⟩⟩
theorem zN.of{e:E}(h:Wf e):zN (some (iS e [])) (.dm [.agg [.v (.string (mk e.at)),e.sp],.v (.bool true)]) [] :=
 ⟨rfl,e.at,e.sp,(uP _).mpr trivial,rfl,fun t h'=>by cases h';exact⟨e,h,rfl,rfl,rfl⟩⟩
theorem zN.no(c:Nm)(d:AV)(hd:LK.sl.has d):zN none (.dm [.agg [.v (.string (mk c)),d],.v (.bool false)]) [] :=
 ⟨rfl,c,d,hd,rfl,fun t h'=>by cases h'⟩
end Go.Proofs.Trees
namespace Go.Proofs.Trees
open Go Go.VL Go.RowKit
theorem Wf.vw{e:E}(h:Wf e){t:Ty}(ht:iS e []=t)(hl:t.aq<=400):e.gZ<=400:=by rw[h.gZ [],ht];exact hl
end Go.Proofs.Trees
namespace Go.Proofs.Trees
open Go Go.VL Go.RowKit
theorem kG:∀(n k:Nat),k<10 ^ (n+1)->(dd k).length<=n+1
 |0,k,h=>by rw[eQ (by omega)];simp
 |
  n+1,k,h=>by
  by_cases h1:k<10
  ·rw[eQ h1];simp
  ·rw[fu h1]
   have:=kG n (k/10) (by
    have:10 ^ (n+1+1)=10*10 ^ (n+1):=by rw[Nat.pow_succ,Nat.mul_comm]
    omega)
   simp;omega
inductive Sh:E->Prop
 |atom {s:Nm} (h:s.length<=20):Sh (.atom s)
 |l3 {h:Nm} {a b:E} (hh:h.length<=20) (ha:Sh a) (hb:Sh b):Sh (.list [.atom h,a,b])
theorem Sh.lJ{e:E}(hw:Wf e)(h:Sh e):(gy e).length<=50*e.gZ:=by
 induction hw with
 |atom _=>cases h with|atom h=>simp only[gy,E.gZ];omega
 |
  plus _ _ i1 i2 =>
  cases h with|l3 hh ha hb =>
  have:=i1 ha
  have:=i2 hb
  simp only[gy,e6,aj,ah,aD,E.gZ,E.gk];omega
 |
  times _ _ i1 i2 =>
  cases h with|l3 hh ha hb =>
  have:=i1 ha
  have:=i2 hb
  simp only[gy,e6,aj,ah,aD,E.gZ,E.gk];omega
 |
  rc _ _ i =>
  cases h with|l3 hh ha hb =>
  cases ha with|atom ha =>
  have:=i hb
  simp only[gy,e6,aj,ah,aD,E.gZ,E.gk];omega
def tH(t:Ty):Prop:=∀y,ba y t=true->y.length<=20
theorem ug{k:Nat}(h:k<100000000):(tN k).length<=20:=by
 have:=kG 7 k (by omega)
 simp;omega
def zV(t:Ty):Nm:=gy (fY (a8 t []) t [] 0).1
def told(t:Ty):Option Nm:=if t.aq<=400/\(mO (zV t)).isSome=true then some (zV t)else none
abbrev uq:Nm:=[35,49]
noncomputable def oo (s:Nm):Option Nm:=match mO s with
 |some (.rc a)=>(zQ a uq).bind told
 |_=>none
theorem oL{s:Nm}{t:Ty}(h:mO s=some t):∃e,qm s=some e/\Wf e/\iS e []=t/\e.gZ<=400/\e.ok:=by
 rw[oW]at h
 cases he:qm s with
 |none=>rw[he]at h;cases h
 |
  some e =>
  rw[he]at h
  obtain⟨h1,h2,h3⟩:=jQ he
  obtain⟨hok,_⟩:=mw h1
  obtain⟨w1,w2⟩:=iv e [] t hok (fun w hw=>by cases hw) h
  exact⟨e,rfl,w1,w2,h3,hok⟩
theorem tI{e:E}{x:Nm}{a d:Ty}(hw:Wf e)(ht:iS e []=.rc a)(hx:wg x)(hd:zQ a x=some d):dT d/\(tH (.rc a)->tH d):=by
 simp only[zQ,bO,cw,iL]at hd
 obtain⟨d',h1,_,rfl⟩:=hd
 have g:dT (.rc a):=ht ▸ hw.yX
 have go:dT (eT (.name x) a 0):=⟨jb x a g.1,fun y hy=>by
  rcases eF a 0 hy with rfl|h
  ·exact hx
  ·exact g.2 y h⟩
 refine⟨g.sub (go.dv h1),fun hs y hy=>?_⟩
 rcases fj _ hy with h|⟨h,h'⟩
 ·exact hs y h
 ·rcases eF a 0 (h1.names y h')with e|e
  ·exact absurd e h
  ·exact hs y e
def zO(y:Nm):Prop:=fK y=true\/bX y=true
theorem e9:∀(e:E) (ar:List Nm) (t:Ty),bG e ar=some t->∀y,ba y t=true->zO y
 |
  .atom s,ar,t,ht,y,hy=>by
  simp only[bG]at ht
  split at ht
  ·cases ht;cases hy
  ·split at ht
   ·cases ht;cases hy
   ·split at ht
    ·rename_i hp
     cases ht
     simp only[ba,decide_eq_true_eq]at hy
     subst hy;exact .inl hp
    ·split at ht
     ·rename_i hq
      split at ht
      ·cases ht;cases hy
      ·cases ht
       simp only[ba,decide_eq_true_eq]at hy
       subst hy;exact .inr hq
     ·cases ht
 |
  .list [x,a,b],ar,t,ht,y,hy=>by
  by_cases h0:x.at=[43]
  ·obtain⟨t1,t2,h1,h2,rfl⟩:=dx h0 ht
   simp only[ba,aY]at hy
   rcases hy with hy|hy
   ·exact e9 a ar t1 h1 y hy
   ·exact e9 b ar t2 h2 y hy
  ·by_cases h1:x.at=[42]
   ·obtain⟨t1,t2,h2,h3,rfl⟩:=dc h1 ht
    simp only[ba,aY]at hy
    rcases hy with hy|hy
    ·exact e9 a ar t1 h2 y hy
    ·exact e9 b ar t2 h3 y hy
   ·by_cases h2:x.at=[114,101,99]
    ·obtain⟨t1,hla,h3,rfl⟩:=cG h2 ht
     exact e9 b _ t1 h3 y hy
    ·rw[fq _ h0 h1 h2]at ht;cases ht
 | .list [],ar,t,ht,_,_=>by cases ht
 | .list [_],ar,t,ht,_,_=>by cases ht
 | .list [_,_],ar,t,ht,_,_=>by cases ht
 | .list (_::_::_::_::_),ar,t,ht,_,_=>by cases ht
theorem ui{y:Nm}(h:zO y):y.length<=3/\∀r,y≠35::r:=by
 have key:∀lo hi,116<=lo->named lo hi y=true->y.length<=3/\∀r,y≠35::r:=fun lo hi hlo h=>by
  cases y with
  |nil=>cases h
  |
   cons c r =>
   simp only[named,ag,decide_eq_true_eq]at h
   refine⟨by simp;omega,fun r' e=>?_⟩
   have:c=35:=by injection e
   subst this
   have:=h.1.2.1
   have e35:(35:UInt8).toNat=35:=rfl
   omega
 rcases h with h|h
 ·exact key 120 122 (by omega) h
 ·exact key 116 116 (by omega) h
theorem jk{s:Nm}{t:Ty}(h:mO s=some t):∀y,ba y t=true->zO y:=by
 rw[oW]at h
 cases he:qm s with
 |none=>rw[he]at h;cases h
 |some e=>rw[he]at h;exact e9 e [] t h
theorem zv{s:Nm}{t:Ty}(h:mO s=some t):tH t:=fun y hy=>by have:=(ui (jk h y hy)).1;omega
end Go.Proofs.Trees
namespace Go.Proofs.Trees
open Go Go.VL Go.RowKit
theorem qQ(w:World)(k:Nat)(os:Array Obj):Below w.heap.size w (Go.«Sort».grow (w.drewN k) os):=by
 refine⟨rfl,rfl,rfl,?_,fun b hb=>?_⟩
 ·simp[Go.«Sort».grow,World.drewN]
 ·simp only[Go.«Sort».grow,World.drewN]
  rw[Array.getElem?_append_left hb]
theorem yF(k:Nat)(hk:k<1000000000):aC Tryd.prog 52 [.v (.int .i64 (k:Int))] [] (cu (.v (.string (mk (dd k))))):=by
 refine aC.C3 (xs:=[.int .i64 (k:Int)]) ⟨lR,by kernel_rfl,by kernel_rfl,by kernel_rfl⟩ fun w ht=>?_
 have:=Any.strconv_Itoa Tryd.tY (k:Int) (by omega) (by omega) w ht
 refine Calls.mono this fun e w' ⟨h1,n,os,h2⟩=>⟨?_,?_⟩
 ·rw[h1,Lib.itoa_nonneg];rfl
 ·rw[h2];exact qQ w n os
abbrev hN(k:Nat):Nm:=35::dd k
theorem tT{j k:Nat}(h:hN j=hN k):j=k:=qy (j+1) j k (by omega) (List.cons.inj h).2
theorem zH(u:Ty):∀(t:Ty) (i:Nat),i+t.aq<1000000->aC Tryd.prog 48 [t.av,u.av,.v (.int .i64 (i:Int))] [] (cu (eT u t i).av)
 |
  .zero,i,_=>by
  refine xV _ _ _ ((aB _).mpr trivial) ((aB _).mpr trivial) ?_
  simp[xr,Ty.av,eT,↓zq,zs,an,cu]
 |
  .one,i,_=>by
  refine xV _ _ _ ((aB _).mpr trivial) ((aB _).mpr trivial) ?_
  simp[xr,Ty.av,eT,↓zq,zs,an,cu]
 |
  .name s,i,_=>by
  refine xV _ _ _ ((aB _).mpr trivial) ((aB _).mpr trivial) ?_
  simp[xr,Ty.av,eT,↓zq,zs,an,cu]
 |
  .bm k,i,_=>by
  refine xV _ _ _ ((aB _).mpr trivial) ((aB _).mpr trivial) ?_
  simp only[xr,Ty.av,eT,↓zq,zs,an,cu]
  refine⟨by omega,fun _=>⟨by omega,fun h=>?_,fun h=>?_⟩,fun h=>absurd rfl h⟩
  ·rw[if_pos (by omega)]
  ·rw[if_neg (by omega)];rfl
 |
  .plus a b,i,hl=>by
  simp only[Ty.aq]at hl
  refine xV _ _ _ ((aB _).mpr trivial) ((aB _).mpr trivial) ?_
  simp only[xr,Ty.av,eT,↓zq,zs,an,aB]
  refine⟨by omega,fun h=>by omega,fun _=>⟨fun _=>?_,fun h=>absurd rfl h⟩⟩
  repeat refine⟨by omega,?_⟩
  refine aG (zH u a i (by omega)) ?_
  simp only[↓zq,zs,an,aB]
  repeat refine⟨by omega,?_⟩
  refine aG (zH u b i (by omega)) ?_
  simp only[↓zq,zs,an,aB]
  exact⟨rfl,rfl⟩
 |
  .times a b,i,hl=>by
  simp only[Ty.aq]at hl
  refine xV _ _ _ ((aB _).mpr trivial) ((aB _).mpr trivial) ?_
  simp only[xr,Ty.av,eT,↓zq,zs,an,aB]
  refine⟨by omega,fun h=>by omega,fun _=>⟨fun h=>by omega,fun _=>⟨fun _=>?_,fun h=>absurd rfl h⟩⟩⟩
  repeat refine⟨by omega,?_⟩
  refine aG (zH u a i (by omega)) ?_
  simp only[↓zq,zs,an,aB]
  repeat refine⟨by omega,?_⟩
  refine aG (zH u b i (by omega)) ?_
  simp only[↓zq,zs,an,aB]
  exact⟨rfl,rfl⟩
 |
  .rc a,i,hl=>by
  simp only[Ty.aq]at hl
  refine xV _ _ _ ((aB _).mpr trivial) ((aB _).mpr trivial) ?_
  simp only[xr,Ty.av,eT,↓zq,zs,an,aB]
  refine⟨by omega,fun h=>by omega,fun _=>⟨fun h=>by omega,fun _=>⟨fun h=>by omega,fun _=>⟨fun _=>?_,fun h=>absurd rfl h⟩⟩⟩⟩
  repeat refine⟨by omega,?_⟩
  rw[cK i (by omega)]
  refine aG (zH u a (i+1) (by omega)) ?_
  simp only[↓zq,zs,an,aB]
  exact⟨rfl,rfl⟩
theorem vJ(x:Nm)(u:Ty):∀(t:Ty),aC Tryd.prog 49 [t.av,.v (.string (mk x)),u.av] [] (cu (sub x u t).av)
 |
  .zero=>by
  refine yJ _ _ _ ((aB _).mpr trivial) ((aB _).mpr trivial) ?_
  simp[xF,Ty.av,sub,↓zq,zs,an,cu]
 |
  .one=>by
  refine yJ _ _ _ ((aB _).mpr trivial) ((aB _).mpr trivial) ?_
  simp[xF,Ty.av,sub,↓zq,zs,an,cu]
 |
  .bm k=>by
  refine yJ _ _ _ ((aB _).mpr trivial) ((aB _).mpr trivial) ?_
  simp[xF,Ty.av,sub,↓zq,zs,an,cu]
 |
  .name s=>by
  refine yJ _ _ _ ((aB _).mpr trivial) ((aB _).mpr trivial) ?_
  simp only[xF,Ty.av,sub,↓zq,zs,an,zt,cu]
  refine⟨by omega,fun _=>⟨by omega,fun h=>?_,fun h=>?_⟩,fun h=>absurd rfl h⟩
  ·rw[if_pos h]
  ·rw[if_neg h];rfl
 |
  .plus a b=>by
  refine yJ _ _ _ ((aB _).mpr trivial) ((aB _).mpr trivial) ?_
  simp only[xF,Ty.av,sub,↓zq,zs,an,aB]
  refine⟨by omega,fun h=>by omega,fun _=>⟨fun _=>?_,fun h=>absurd rfl h⟩⟩
  repeat refine⟨by omega,?_⟩
  refine aG (vJ x u a) ?_
  simp only[↓zq,zs,an,aB]
  repeat refine⟨by omega,?_⟩
  refine aG (vJ x u b) ?_
  simp only[↓zq,zs,an,aB]
  exact⟨rfl,rfl⟩
 |
  .times a b=>by
  refine yJ _ _ _ ((aB _).mpr trivial) ((aB _).mpr trivial) ?_
  simp only[xF,Ty.av,sub,↓zq,zs,an,aB]
  refine⟨by omega,fun h=>by omega,fun _=>⟨fun h=>by omega,fun _=>⟨fun _=>?_,fun h=>absurd rfl h⟩⟩⟩
  repeat refine⟨by omega,?_⟩
  refine aG (vJ x u a) ?_
  simp only[↓zq,zs,an,aB]
  repeat refine⟨by omega,?_⟩
  refine aG (vJ x u b) ?_
  simp only[↓zq,zs,an,aB]
  exact⟨rfl,rfl⟩
 |
  .rc a=>by
  refine yJ _ _ _ ((aB _).mpr trivial) ((aB _).mpr trivial) ?_
  simp only[xF,Ty.av,sub,↓zq,zs,an,aB]
  refine⟨by omega,fun h=>by omega,fun _=>⟨fun h=>by omega,fun _=>⟨fun h=>by omega,fun _=>⟨fun _=>?_,fun h=>absurd rfl h⟩⟩⟩⟩
  repeat refine⟨by omega,?_⟩
  refine aG (vJ x u a) ?_
  simp only[↓zq,zs,an,aB]
  exact⟨rfl,rfl⟩
theorem su(c:Int)(a b:Ty):aC Tryd.prog 46 [.v (.int .u8 c),a.av,b.av] [] (cu (.ptr [.v (.int .u8 c),.v (.string (mk [])),.v (.int .i64 0),a.av,b.av])):=by
 refine Cr _ _ _ ((aB _).mpr trivial) ((aB _).mpr trivial) ?_
 simp[z8,↓zq,zs,an,cu]
end Go.Proofs.Trees
