/-
  Part of a proof: Go functions read by values, trees of functions, their contracts.
-/
import Derived.Test.YtfdpbglppfohhaaGreatDoorP3
import Derived.Shelf.Lays
import Derived.Shelf.LaysM
import Derived.Shelf.Strconv.Itoa3
import Derived.Shelf.Strconv.Atoi
import Derived.Shelf.Strings.SlTrimAscii
import Derived.Shelf.Strings.Search3
import Derived.Test.YtfdpbglppfohhaaGreatDoorProg
set_option linter.unusedVariables false
set_option linter.unusedSimpArgs false
open And renaming intro→aE
open Bool renaming and_eq_true→ap,eq_iff_iff→cq,true_and→bP
open ByteArray renaming extract→ci,size→ag,toList→ae
open Int renaming cast_ofNat_Int→dh,ofNat_eq_natCast→cR,toNat→bF
open List renaming all_cons→cW,drop_eq_getElem_cons→aK,drop_eq_nil_of_le→bL,eq_nil_of_length_eq_zero→bU,getD_eq_getElem?_getD→aa,length_append→ax,length_cons→aB,mem_cons→aF,takeWhile_append_dropWhile→cb
open Nat renaming zero_add→aU
namespace Go.Proofs
open Go.Shelf
def Tryz.vo:Go.Shelf.Ren:=⟨fun|160=>184|232=>197|231=>196|227=>198|234=>200|233=>199|236=>202|235=>201|228=>208|271=>211|151=>210|197=>209|120=>221|152=>220|260=>219|137=>231|119=>232|224=>229|225=>228|217=>227|266=>235|n=>n,fun|9=>9|4=>4|3=>3|5=>5|117=>228|116=>227|0=>0|124=>231|21=>21|105=>242|46=>235|119=>263|139=>266|138=>265|n=>n,fun|3=>4|4=>5|n=>n⟩
theorem Tryz.BR:Go.Proofs.Lays.n160 Tryz.prog Tryz.vo:={
 mixed:=by kernel_rfl,
 f119:=Tryz.func232.trans (congrArg some (by kernel_rfl)),
 f120:=Tryz.func221.trans (congrArg some (by kernel_rfl)),
 f137:=Tryz.func231.trans (congrArg some (by kernel_rfl)),
 f151:=Tryz.func210.trans (congrArg some (by kernel_rfl)),
 f152:=Tryz.func220.trans (congrArg some (by kernel_rfl)),
 f160:=Tryz.func184.trans (congrArg some (by kernel_rfl)),
 f197:=Tryz.func209.trans (congrArg some (by kernel_rfl)),
 f217:=Tryz.func227.trans (congrArg some (by kernel_rfl)),
 f224:=Tryz.func229.trans (congrArg some (by kernel_rfl)),
 f225:=Tryz.func228.trans (congrArg some (by kernel_rfl)),
 f227:=Tryz.func198.trans (congrArg some (by kernel_rfl)),
 f228:=Tryz.func208.trans (congrArg some (by kernel_rfl)),
 f231:=Tryz.func196.trans (congrArg some (by kernel_rfl)),
 f232:=Tryz.func197.trans (congrArg some (by kernel_rfl)),
 f233:=Tryz.func199.trans (congrArg some (by kernel_rfl)),
 f234:=Tryz.func200.trans (congrArg some (by kernel_rfl)),
 f235:=Tryz.func201.trans (congrArg some (by kernel_rfl)),
 f236:=Tryz.func202.trans (congrArg some (by kernel_rfl)),
 f260:=Tryz.func219.trans (congrArg some (by kernel_rfl)),
 f266:=Tryz.func235.trans (congrArg some (by kernel_rfl)),
 f271:=Tryz.func211.trans (congrArg some (by kernel_rfl)),
 t0:=Tryz.underlying0,
 a0:=Tryz.isAgg0,
 z0:=Tryz.sizeOf0,
 v0:=Tryz.zeroValue0,
 t3:=Tryz.underlying3,
 a3:=Tryz.isAgg3,
 z3:=Tryz.sizeOf3,
 v3:=Tryz.zeroValue3,
 t4:=Tryz.underlying4,
 a4:=Tryz.isAgg4,
 z4:=Tryz.sizeOf4,
 v4:=Tryz.zeroValue4,
 t5:=Tryz.underlying5,
 a5:=Tryz.isAgg5,
 z5:=Tryz.sizeOf5,
 v5:=Tryz.zeroValue5,
 t9:=Tryz.underlying9,
 a9:=Tryz.isAgg9,
 z9:=Tryz.sizeOf9,
 v9:=Tryz.zeroValue9,
 t21:=Tryz.underlying21,
 a21:=Tryz.isAgg21,
 z21:=Tryz.sizeOf21,
 v21:=Tryz.zeroValue21,
 t46:=Tryz.underlying235,
 a46:=Tryz.isAgg235,
 z46:=Tryz.sizeOf235,
 v46:=Tryz.zeroValue235,
 t105:=Tryz.underlying242,
 a105:=Tryz.isAgg242,
 z105:=Tryz.sizeOf242,
 v105:=Tryz.zeroValue242,
 t116:=Tryz.underlying227,
 a116:=Tryz.isAgg227,
 z116:=Tryz.sizeOf227,
 t117:=Tryz.underlying228,
 a117:=Tryz.isAgg228,
 z117:=Tryz.sizeOf228,
 v117:=Tryz.zeroValue228,
 t119:=Tryz.underlying263,
 a119:=Tryz.isAgg263,
 z119:=Tryz.sizeOf263,
 t124:=Tryz.underlying231,
 a124:=Tryz.isAgg231,
 z124:=Tryz.sizeOf231,
 v124:=Tryz.zeroValue231,
 t138:=Tryz.underlying265,
 a138:=Tryz.isAgg265,
 z138:=Tryz.sizeOf265,
 v138:=Tryz.zeroValue265,
 t139:=Tryz.underlying266,
 a139:=Tryz.isAgg266,
 z139:=Tryz.sizeOf266,
 v139:=Tryz.zeroValue266,
 g3:=by kernel_rfl,
 g4:=by kernel_rfl}
def Tryz.uW:Go.Shelf.Ren:=⟨fun|144=>195|143=>207|219=>218|217=>227|225=>228|224=>229|267=>230|266=>235|314=>236|n=>n,fun|9=>9|4=>4|3=>3|5=>5|46=>235|146=>269|51=>258|n=>n,fun|1=>3|n=>n⟩
theorem Tryz.CJ:Go.Proofs.Lays.n144 Tryz.prog Tryz.uW:={
 mixed:=by kernel_rfl,
 f143:=Tryz.func207.trans (congrArg some (by kernel_rfl)),
 f144:=Tryz.func195.trans (congrArg some (by kernel_rfl)),
 f217:=Tryz.func227.trans (congrArg some (by kernel_rfl)),
 f219:=Tryz.func218.trans (congrArg some (by kernel_rfl)),
 f224:=Tryz.func229.trans (congrArg some (by kernel_rfl)),
 f225:=Tryz.func228.trans (congrArg some (by kernel_rfl)),
 f266:=Tryz.func235.trans (congrArg some (by kernel_rfl)),
 f267:=Tryz.func230.trans (congrArg some (by kernel_rfl)),
 f314:=Tryz.func236.trans (congrArg some (by kernel_rfl)),
 t3:=Tryz.underlying3,
 a3:=Tryz.isAgg3,
 z3:=Tryz.sizeOf3,
 v3:=Tryz.zeroValue3,
 t4:=Tryz.underlying4,
 a4:=Tryz.isAgg4,
 z4:=Tryz.sizeOf4,
 v4:=Tryz.zeroValue4,
 t5:=Tryz.underlying5,
 a5:=Tryz.isAgg5,
 z5:=Tryz.sizeOf5,
 v5:=Tryz.zeroValue5,
 t9:=Tryz.underlying9,
 a9:=Tryz.isAgg9,
 z9:=Tryz.sizeOf9,
 v9:=Tryz.zeroValue9,
 t46:=Tryz.underlying235,
 a46:=Tryz.isAgg235,
 z46:=Tryz.sizeOf235,
 v46:=Tryz.zeroValue235,
 t51:=Tryz.underlying258,
 a51:=Tryz.isAgg258,
 z51:=Tryz.sizeOf258,
 v51:=Tryz.zeroValue258,
 t146:=Tryz.underlying269,
 a146:=Tryz.isAgg269,
 z146:=Tryz.sizeOf269,
 v146:=Tryz.zeroValue269,
 g1:=by kernel_rfl}
def Tryz.uG:Go.Shelf.Ren:=⟨fun|172=>130|244=>163|245=>164|247=>185|279=>186|280=>187|281=>188|282=>189|287=>203|316=>204|171=>174|205=>205|321=>212|322=>213|243=>193|246=>206|283=>214|284=>215|285=>216|286=>217|129=>223|317=>222|318=>224|319=>225|320=>226|337=>233|338=>234|n=>n,fun|9=>9|3=>3|75=>164|76=>165|4=>4|5=>5|167=>217|37=>48|0=>0|85=>218|2=>2|168=>220|53=>232|175=>233|46=>235|210=>238|127=>246|145=>249|143=>247|21=>21|171=>250|173=>253|212=>257|51=>258|20=>20|213=>259|232=>271|233=>272|80=>81|n=>n,fun|15=>0|16=>1|17=>2|18=>6|19=>7|n=>n⟩
theorem Tryz.C3:Go.Proofs.Lays.n172 Tryz.prog Tryz.uG:={
 mixed:=by kernel_rfl,
 f129:=Tryz.func223.trans (congrArg some (by kernel_rfl)),
 f171:=Tryz.func174.trans (congrArg some (by kernel_rfl)),
 f172:=Tryz.func130.trans (congrArg some (by kernel_rfl)),
 f205:=Tryz.func205.trans (congrArg some (by kernel_rfl)),
 f243:=Tryz.func193.trans (congrArg some (by kernel_rfl)),
 f244:=Tryz.func163.trans (congrArg some (by kernel_rfl)),
 f245:=Tryz.func164.trans (congrArg some (by kernel_rfl)),
 f246:=Tryz.func206.trans (congrArg some (by kernel_rfl)),
 f247:=Tryz.func185.trans (congrArg some (by kernel_rfl)),
 f279:=Tryz.func186.trans (congrArg some (by kernel_rfl)),
 f280:=Tryz.func187.trans (congrArg some (by kernel_rfl)),
 f281:=Tryz.func188.trans (congrArg some (by kernel_rfl)),
 f282:=Tryz.func189.trans (congrArg some (by kernel_rfl)),
 f283:=Tryz.func214.trans (congrArg some (by kernel_rfl)),
 f284:=Tryz.func215.trans (congrArg some (by kernel_rfl)),
 f285:=Tryz.func216.trans (congrArg some (by kernel_rfl)),
 f286:=Tryz.func217.trans (congrArg some (by kernel_rfl)),
 f287:=Tryz.func203.trans (congrArg some (by kernel_rfl)),
 f316:=Tryz.func204.trans (congrArg some (by kernel_rfl)),
 f317:=Tryz.func222.trans (congrArg some (by kernel_rfl)),
 f318:=Tryz.func224.trans (congrArg some (by kernel_rfl)),
 f319:=Tryz.func225.trans (congrArg some (by kernel_rfl)),
 f320:=Tryz.func226.trans (congrArg some (by kernel_rfl)),
 f321:=Tryz.func212.trans (congrArg some (by kernel_rfl)),
 f322:=Tryz.func213.trans (congrArg some (by kernel_rfl)),
 f337:=Tryz.func233.trans (congrArg some (by kernel_rfl)),
 f338:=Tryz.func234.trans (congrArg some (by kernel_rfl)),
 t0:=Tryz.underlying0,
 a0:=Tryz.isAgg0,
 z0:=Tryz.sizeOf0,
 v0:=Tryz.zeroValue0,
 t2:=Tryz.underlying2,
 a2:=Tryz.isAgg2,
 z2:=Tryz.sizeOf2,
 v2:=Tryz.zeroValue2,
 t3:=Tryz.underlying3,
 a3:=Tryz.isAgg3,
 z3:=Tryz.sizeOf3,
 v3:=Tryz.zeroValue3,
 t4:=Tryz.underlying4,
 a4:=Tryz.isAgg4,
 z4:=Tryz.sizeOf4,
 v4:=Tryz.zeroValue4,
 t5:=Tryz.underlying5,
 a5:=Tryz.isAgg5,
 z5:=Tryz.sizeOf5,
 v5:=Tryz.zeroValue5,
 t9:=Tryz.underlying9,
 a9:=Tryz.isAgg9,
 z9:=Tryz.sizeOf9,
 v9:=Tryz.zeroValue9,
 t20:=Tryz.underlying20,
 a20:=Tryz.isAgg20,
 z20:=Tryz.sizeOf20,
 v20:=Tryz.zeroValue20,
 t21:=Tryz.underlying21,
 a21:=Tryz.isAgg21,
 z21:=Tryz.sizeOf21,
 v21:=Tryz.zeroValue21,
 t37:=Tryz.underlying48,
 a37:=Tryz.isAgg48,
 z37:=Tryz.sizeOf48,
 v37:=Tryz.zeroValue48,
 t46:=Tryz.underlying235,
 a46:=Tryz.isAgg235,
 z46:=Tryz.sizeOf235,
 v46:=Tryz.zeroValue235,
 t51:=Tryz.underlying258,
 a51:=Tryz.isAgg258,
 z51:=Tryz.sizeOf258,
 v51:=Tryz.zeroValue258,
 t53:=Tryz.underlying232,
 a53:=Tryz.isAgg232,
 z53:=Tryz.sizeOf232,
 v53:=Tryz.zeroValue232,
 t75:=Tryz.underlying164,
 a75:=Tryz.isAgg164,
 z75:=Tryz.sizeOf164,
 v75:=Tryz.zeroValue164,
 t76:=Tryz.underlying165,
 a76:=Tryz.isAgg165,
 z76:=Tryz.sizeOf165,
 v76:=Tryz.zeroValue165,
 t85:=Tryz.underlying218,
 a85:=Tryz.isAgg218,
 z85:=Tryz.sizeOf218,
 v85:=Tryz.zeroValue218,
 t127:=Tryz.underlying246,
 a127:=Tryz.isAgg246,
 z127:=Tryz.sizeOf246,
 v127:=Tryz.zeroValue246,
 t143:=Tryz.underlying247,
 a143:=Tryz.isAgg247,
 z143:=Tryz.sizeOf247,
 v143:=Tryz.zeroValue247,
 t145:=Tryz.underlying249,
 a145:=Tryz.isAgg249,
 z145:=Tryz.sizeOf249,
 v145:=Tryz.zeroValue249,
 t167:=Tryz.underlying217,
 a167:=Tryz.isAgg217,
 z167:=Tryz.sizeOf217,
 v167:=Tryz.zeroValue217,
 t168:=Tryz.underlying220,
 a168:=Tryz.isAgg220,
 z168:=Tryz.sizeOf220,
 v168:=Tryz.zeroValue220,
 t171:=Tryz.underlying250,
 a171:=Tryz.isAgg250,
 z171:=Tryz.sizeOf250,
 v171:=Tryz.zeroValue250,
 t173:=Tryz.underlying253,
 a173:=Tryz.isAgg253,
 z173:=Tryz.sizeOf253,
 v173:=Tryz.zeroValue253,
 t175:=Tryz.underlying233,
 a175:=Tryz.isAgg233,
 z175:=Tryz.sizeOf233,
 v175:=Tryz.zeroValue233,
 t210:=Tryz.underlying238,
 a210:=Tryz.isAgg238,
 z210:=Tryz.sizeOf238,
 v210:=Tryz.zeroValue238,
 t212:=Tryz.underlying257,
 a212:=Tryz.isAgg257,
 z212:=Tryz.sizeOf257,
 v212:=Tryz.zeroValue257,
 t213:=Tryz.underlying259,
 a213:=Tryz.isAgg259,
 z213:=Tryz.sizeOf259,
 t232:=Tryz.underlying271,
 a232:=Tryz.isAgg271,
 z232:=Tryz.sizeOf271,
 v232:=Tryz.zeroValue271,
 t233:=Tryz.underlying272,
 a233:=Tryz.isAgg272,
 z233:=Tryz.sizeOf272,
 v233:=Tryz.zeroValue272,
 g15:=by kernel_rfl,
 g16:=by kernel_rfl,
 g17:=by kernel_rfl,
 g18:=by kernel_rfl,
 g19:=by kernel_rfl}
def Tryz.s7:Go.Shelf.Ren:=⟨fun|171=>174|243=>193|246=>206|283=>214|284=>215|285=>216|286=>217|129=>223|317=>222|318=>224|319=>225|320=>226|337=>233|338=>234|n=>n,fun|3=>3|9=>9|2=>2|4=>4|171=>250|0=>0|53=>232|37=>48|5=>5|173=>253|212=>257|51=>258|20=>20|213=>259|46=>235|232=>271|233=>272|n=>n,fun|17=>2|18=>6|19=>7|n=>n⟩
theorem Tryz.AP:Go.Proofs.LaysM.n171 Tryz.prog Tryz.s7:={
 mixed:=by kernel_rfl,
 f129:=Tryz.func223.trans (congrArg some (by kernel_rfl)),
 f171:=Tryz.func174.trans (congrArg some (by kernel_rfl)),
 f243:=Tryz.func193.trans (congrArg some (by kernel_rfl)),
 f246:=Tryz.func206.trans (congrArg some (by kernel_rfl)),
 f283:=Tryz.func214.trans (congrArg some (by kernel_rfl)),
 f284:=Tryz.func215.trans (congrArg some (by kernel_rfl)),
 f285:=Tryz.func216.trans (congrArg some (by kernel_rfl)),
 f286:=Tryz.func217.trans (congrArg some (by kernel_rfl)),
 f317:=Tryz.func222.trans (congrArg some (by kernel_rfl)),
 f318:=Tryz.func224.trans (congrArg some (by kernel_rfl)),
 f319:=Tryz.func225.trans (congrArg some (by kernel_rfl)),
 f320:=Tryz.func226.trans (congrArg some (by kernel_rfl)),
 f337:=Tryz.func233.trans (congrArg some (by kernel_rfl)),
 f338:=Tryz.func234.trans (congrArg some (by kernel_rfl)),
 t0:=Tryz.underlying0,
 a0:=Tryz.isAgg0,
 z0:=Tryz.sizeOf0,
 v0:=Tryz.zeroValue0,
 t2:=Tryz.underlying2,
 a2:=Tryz.isAgg2,
 z2:=Tryz.sizeOf2,
 v2:=Tryz.zeroValue2,
 t3:=Tryz.underlying3,
 a3:=Tryz.isAgg3,
 z3:=Tryz.sizeOf3,
 v3:=Tryz.zeroValue3,
 t4:=Tryz.underlying4,
 a4:=Tryz.isAgg4,
 z4:=Tryz.sizeOf4,
 v4:=Tryz.zeroValue4,
 t5:=Tryz.underlying5,
 a5:=Tryz.isAgg5,
 z5:=Tryz.sizeOf5,
 v5:=Tryz.zeroValue5,
 t9:=Tryz.underlying9,
 a9:=Tryz.isAgg9,
 z9:=Tryz.sizeOf9,
 v9:=Tryz.zeroValue9,
 t20:=Tryz.underlying20,
 a20:=Tryz.isAgg20,
 z20:=Tryz.sizeOf20,
 v20:=Tryz.zeroValue20,
 t37:=Tryz.underlying48,
 a37:=Tryz.isAgg48,
 z37:=Tryz.sizeOf48,
 v37:=Tryz.zeroValue48,
 t46:=Tryz.underlying235,
 a46:=Tryz.isAgg235,
 z46:=Tryz.sizeOf235,
 v46:=Tryz.zeroValue235,
 t51:=Tryz.underlying258,
 a51:=Tryz.isAgg258,
 z51:=Tryz.sizeOf258,
 v51:=Tryz.zeroValue258,
 t53:=Tryz.underlying232,
 a53:=Tryz.isAgg232,
 z53:=Tryz.sizeOf232,
 v53:=Tryz.zeroValue232,
 t171:=Tryz.underlying250,
 a171:=Tryz.isAgg250,
 z171:=Tryz.sizeOf250,
 v171:=Tryz.zeroValue250,
 t173:=Tryz.underlying253,
 a173:=Tryz.isAgg253,
 z173:=Tryz.sizeOf253,
 v173:=Tryz.zeroValue253,
 t212:=Tryz.underlying257,
 a212:=Tryz.isAgg257,
 z212:=Tryz.sizeOf257,
 v212:=Tryz.zeroValue257,
 t213:=Tryz.underlying259,
 a213:=Tryz.isAgg259,
 z213:=Tryz.sizeOf259,
 t232:=Tryz.underlying271,
 a232:=Tryz.isAgg271,
 z232:=Tryz.sizeOf271,
 v232:=Tryz.zeroValue271,
 t233:=Tryz.underlying272,
 a233:=Tryz.isAgg272,
 z233:=Tryz.sizeOf272,
 v233:=Tryz.zeroValue272,
 g17:=by kernel_rfl,
 g18:=by kernel_rfl,
 g19:=by kernel_rfl,
 i0:=by kernel_rfl,
 i2:=by kernel_rfl,
 i3:=by kernel_rfl,
 i4:=by kernel_rfl,
 i5:=by kernel_rfl,
 i9:=by kernel_rfl,
 i20:=by kernel_rfl,
 i37:=by kernel_rfl,
 i46:=by kernel_rfl,
 i51:=by kernel_rfl,
 i53:=by kernel_rfl,
 i171:=by kernel_rfl,
 i173:=by kernel_rfl,
 i212:=by kernel_rfl,
 i232:=by kernel_rfl,
 i233:=by kernel_rfl,
 m17:=by kernel_rfl,
 m18:=by kernel_rfl,
 m19:=by kernel_rfl}
end Go.Proofs
namespace Go.Proofs.Trees
open Go Go.VL
noncomputable section
def I3:List (Nat×TI):=[
 (0,⟨false,[],false,0,.tuple [],false⟩),
 (2,⟨true,[.int .i64],false,8,.num .i64,false⟩),
 (3,⟨true,[.int .i64],false,8,.num .i64,false⟩),
 (4,⟨true,[.bool],false,1,.bl,false⟩),
 (5,⟨true,[.int .u8],false,1,.num .u8,false⟩),
 (9,⟨true,[.str],false,16,.str,false⟩),
 (20,⟨true,[.j4],false,16,.other,false⟩),
 (21,⟨true,[.int .i32],false,4,.num .i32,false⟩),
 (22,⟨true,[.sl],false,24,.slice 9,false⟩),
 (24,⟨true,[.str,.sl,.str],true,56,.struct [(0,9),(1,22),(2,9)],false⟩),
 (26,⟨true,[.sl],false,24,.slice 3,false⟩),
 (27,⟨false,[],false,0,.tuple [26,4],false⟩),
 (29,⟨true,[.str,.sl,.str],true,56,.struct [(0,9),(1,22),(2,9)],false⟩),
 (37,⟨true,[.sl,.str,.str],true,56,.struct [(0,26),(1,9),(2,9)],false⟩),
 (39,⟨false,[],false,0,.tuple [9,4],false⟩),
 (41,⟨true,[.sl,.str,.str],true,56,.struct [(0,26),(1,9),(2,9)],false⟩),
 (45,⟨false,[],false,0,.tuple [29,4],false⟩),
 (48,⟨true,[.sl],false,24,.slice 5,false⟩),
 (49,⟨false,[],false,0,.tuple [9,9],false⟩),
 (62,⟨true,[.ptr],false,8,.pt,true⟩),
 (64,⟨true,[.ptr],false,8,.pt,true⟩),
 (65,⟨true,[.sl],false,24,.slice 66,false⟩),
 (66,⟨true,[.ptr],false,8,.pt,true⟩),
 (68,⟨true,[.str,.ptr,.sl,.ptr],true,56,.struct [(0,9),(1,64),(2,65),(3,66)],false⟩),
 (79,⟨true,[.ptr],false,8,.pt,true⟩),
 (83,⟨true,[.sl],false,24,.slice 97,false⟩),
 (85,⟨true,[.sl],false,24,.slice 91,false⟩),
 (86,⟨false,[],false,0,.tuple [85,4],false⟩),
 (88,⟨false,[],false,0,.tuple [64,66],false⟩),
 (91,⟨true,[.str,.str],true,32,.struct [(0,9),(1,9)],false⟩),
 (97,⟨true,[.ptr,.ptr],true,16,.struct [(0,66),(1,66)],false⟩),
 (98,⟨true,[.j4],false,8,.other,false⟩),
 (105,⟨true,[.sl,.int .i64],true,32,.struct [(0,48),(1,3)],false⟩),
 (109,⟨true,[.int .u8,.str,.ptr,.ptr],true,40,.struct [(0,5),(1,9),(2,66),(3,66)],false⟩),
 (110,⟨true,[.ptr],false,8,.pt,true⟩),
 (112,⟨true,[.ptr,.ptr],true,16,.struct [(0,64),(1,110)],false⟩),
 (113,⟨true,[.ptr],false,8,.pt,true⟩),
 (114,⟨false,[],false,0,.tuple [112,113],false⟩),
 (118,⟨true,[.str,.ptr],true,24,.struct [(0,9),(1,113)],false⟩),
 (119,⟨true,[.sl],false,24,.slice 121,false⟩),
 (121,⟨true,[.str,.sl],true,40,.struct [(0,9),(1,119)],false⟩),
 (122,⟨false,[],false,0,.tuple [121,4],false⟩),
 (125,⟨true,[.sl],false,24,.slice 157,false⟩),
 (139,⟨true,[.int .u8,.str,.int .i64,.ptr,.ptr],true,48,.struct [(0,5),(1,9),(2,3),(3,64),(4,64)],false⟩),
 (140,⟨false,[],false,0,.tuple [64,4],false⟩),
 (144,⟨true,[.ptr,.ptr],true,16,.struct [(0,112)],false⟩),
 (146,⟨true,[.ptr,.ptr],true,16,.struct [(0,113),(1,110)],false⟩),
 (148,⟨true,[.j4],false,8,.other,false⟩),
 (149,⟨true,[.j4],false,8,.other,false⟩),
 (155,⟨true,[.sl],false,24,.slice 211,false⟩),
 (157,⟨true,[.str,.sl,.str,.sl],true,80,.struct [(0,121),(2,121)],false⟩),
 (160,⟨true,[.ptr],false,8,.pt,true⟩),
 (164,⟨true,[.j4],false,16,.other,false⟩),
 (165,⟨false,[],false,0,.tuple [3,164],false⟩),
 (172,⟨true,[.j4],false,8,.other,false⟩),
 (175,⟨true,[.ptr],false,8,.pt,true⟩),
 (177,⟨true,[.sl,.int .i64],true,32,.struct [(0,22),(1,3)],false⟩),
 (179,⟨true,[.ptr],false,8,.pt,true⟩),
 (181,⟨true,[.int .i64,.bool],true,16,.struct [(0,3),(1,4)],false⟩),
 (187,⟨false,[],false,0,.tuple [121,3],false⟩),
 (190,⟨false,[],false,0,.tuple [121,155],false⟩),
 (194,⟨false,[],false,0,.tuple [160,9],false⟩),
 (196,⟨true,[.sl],false,24,.slice 160,false⟩),
 (198,⟨true,[.str,.sl],true,40,.struct [(0,9),(1,196)],false⟩),
 (208,⟨true,[.j4],false,8,.other,false⟩),
 (211,⟨true,[.str,.str,.sl,.sl],true,80,.struct [(0,9),(1,121),(3,155)],false⟩),
 (214,⟨true,[.j4],false,8,.other,false⟩),
 (218,⟨false,[],false,0,.tuple [2,164],false⟩),
 (220,⟨true,[.ptr],false,8,.pt,true⟩),
 (228,⟨false,[],false,0,.tuple [227,4],false⟩),
 (231,⟨true,[.ptr],false,8,.pt,true⟩),
 (232,⟨true,[.int .u64],false,8,.num .u64,false⟩),
 (233,⟨false,[],false,0,.tuple [232,164],false⟩),
 (235,⟨true,[.int .u64],false,8,.num .u64,false⟩),
 (238,⟨true,[.str,.str,.j4],true,48,.struct [(0,9),(1,9),(2,164)],false⟩),
 (242,⟨false,[],false,0,.tuple [21,3],false⟩),
 (246,⟨true,[.ptr],false,8,.pt,true⟩),
 (247,⟨true,[.ptr],false,8,.pt,true⟩),
 (249,⟨true,[.str],true,16,.struct [(0,9)],false⟩),
 (250,⟨true,[.int .u8,.int .u8,.int .u8,.int .u8,.int .u8,.int .u8,.int .u8,.int .u8,.int .u8,.int .u8,.int .u8,.int .u8,.int .u8,.int .u8,.int .u8,.int .u8,.int .u8,.int .u8,.int .u8,.int .u8,.int .u8,.int .u8,.int .u8,.int .u8],true,24,.array 24 5,false⟩),
 (253,⟨false,[],false,0,.tuple [48,9],false⟩),
 (257,⟨true,[.int .u64,.int .u64,.int .u64,.int .u64,.int .u64,.int .u64,.int .u64,.int .u64,.int .u64,.int .u64,.int .u64,.int .u64,.int .u64,.int .u64,.int .u64,.int .u64,.int .u64,.int .u64,.int .u64,.int .u64],true,160,.array 20 232,false⟩),
 (258,⟨true,[.int .u32],false,4,.num .u32,false⟩),
 (265,⟨true,[.int .u8,.int .u8],true,2,.struct [(0,5),(1,5)],false⟩),
 (266,⟨true,[.int .u8,.int .u8,.int .u8,.int .u8,.int .u8,.int .u8,.int .u8,.int .u8,.int .u8,.int .u8,.int .u8,.int .u8,.int .u8,.int .u8,.int .u8,.int .u8,.int .u8,.int .u8,.int .u8,.int .u8,.int .u8,.int .u8,.int .u8,.int .u8,.int .u8,.int .u8,.int .u8,.int .u8,.int .u8,.int .u8,.int .u8,.int .u8],true,32,.array 16 265,false⟩),
 (269,⟨false,[],false,0,.tuple [258,258],false⟩),
 (271,⟨true,[.int .u8,.int .u8,.int .u8,.int .u8,.int .u8,.int .u8,.int .u8,.int .u8,.int .u8,.int .u8,.int .u8,.int .u8,.int .u8,.int .u8,.int .u8,.int .u8,.int .u8,.int .u8,.int .u8,.int .u8,.int .u8,.int .u8,.int .u8,.int .u8,.int .u8,.int .u8,.int .u8,.int .u8,.int .u8,.int .u8,.int .u8,.int .u8],true,32,.array 32 5,false⟩)]
def IN(t:Nat):TI:=yl I3 t
abbrev er:Func:=Tryz.f86
abbrev pW:Func:=Tryz.f130
abbrev pV:Func:=Tryz.f174
abbrev pS:Func:=Tryz.f184
abbrev mW:Func:=Tryz.f195
def Rh:List (Nat×FC):=[(181,{mu:=[(1,.one (.obj [.vec 1]))],own:=[]}),(137,{mu:=[(2,.one (.vec))],own:=[0]}),(18200180,{mu:=[(1,.fn [some (.obj [.vec 1])])],own:=[]}),(112,{mu:=[(2,.one (.obj [.vec 2]))],own:=[]}),(11600112,{mu:=[(1,.fn [some (.obj [.lk .ptr])]),(2,.one (.obj [.vec 2]))],own:=[]}),(11700112,{mu:=[(1,.fn [some (.obj [.lk .ptr])]),(2,.one (.obj [.vec 2]))],own:=[]}),(11900112,{mu:=[(1,.fn [some (.obj [.lk .ptr])]),(2,.one (.obj [.vec 2]))],own:=[]}),(12100112,{mu:=[(1,.fn [some (.obj [.lk .ptr,.lk .ptr])]),(2,.one (.obj [.vec 2]))],own:=[]}),(115,{mu:=[(1,.one (.obj [.lk .ptr]))],own:=[]}),(116,{mu:=[(1,.one (.obj [.lk .ptr]))],own:=[]}),(118,{mu:=[(1,.one (.obj [.lk .ptr]))],own:=[]}),(120,{mu:=[(1,.one (.obj [.lk .ptr,.lk .ptr]))],own:=[]}),(176,{mu:=[(2,.tG 176 [none,some 0,some 1]),(3,.one (.obj [.lk .sl])),(4,.one (.obj [.lk (.int .i64)]))],own:=[]}),(126,{mu:=[(2,.one (.vec))],own:=[0]}),(81,{mu:=[(0,.one (.obj [.lk .sl,.lk (.int .i64)]))],own:=[]}),(143,{mu:=[(3,.one (.obj [.vec 1,.lk (.int .i64)]))],own:=[]}),(102,{mu:=[(0,.one (.obj [.lk .sl,.lk (.int .i64)]))],own:=[]}),(62,{mu:=[],own:=[0],ow:=[.sl,.int .i64]}),(16,{mu:=[(0,.one (.cC false [.vec 1]))],own:=[]}),(50,{mu:=[(0,.one (.cC false [.vec 1]))],own:=[]}),(146,{mu:=[(0,.one (.obj [.lk (.int .i64),.lk .bool]))],own:=[]}),(147,{mu:=[(0,.one (.obj [.lk (.int .i64),.lk .bool]))],own:=[]}),(148,{mu:=[(0,.one (.obj [.lk (.int .i64),.lk .bool]))],own:=[]}),(136,{mu:=[(0,.one (.obj [.lk .sl,.lk (.int .i64)]))],own:=[]}),(80,{mu:=[(0,.one (.obj [.lk .sl,.lk (.int .i64)]))],own:=[]}),(135,{mu:=[(0,.one (.obj [.lk .sl,.lk (.int .i64)]))],own:=[]}),(105,{mu:=[(0,.one (.obj [.lk .sl,.lk (.int .i64)]))],own:=[]}),(83,{mu:=[(0,.one (.obj [.lk .sl,.lk (.int .i64)]))],own:=[]}),(103,{mu:=[(0,.one (.obj [.lk .sl,.lk (.int .i64)]))],own:=[]}),(82,{mu:=[(0,.one (.obj [.lk .sl,.lk (.int .i64)]))],own:=[]}),(61,{mu:=[(0,.one (.obj [.lk .sl,.lk (.int .i64)]))],own:=[]}),(67,{mu:=[(0,.one (.obj [.lk .sl,.lk (.int .i64)]))],own:=[]}),(15,{mu:=[(0,.one (.cC true [.lk .str,.vec 1,.lk .str]))],own:=[]}),(27,{mu:=[],own:=[0],oa:=[.lk .str,.vec 1,.lk .str]}),(31,{mu:=[],own:=[0],oa:=[.lk .str,.vec 1,.lk .str]}),(55,{mu:=[],own:=[0],oa:=[.lk .str,.vec 1,.lk .str]}),(35,{mu:=[],own:=[0],oa:=[.lk .str,.vec 1,.lk .str]}),(24,{mu:=[],own:=[0],oa:=[.lk .str,.vec 1,.lk .str]}),(38,{mu:=[],own:=[0],oa:=[.lk .str,.vec 1,.lk .str]}),(58,{mu:=[],own:=[0],oa:=[.lk .str,.vec 1,.lk .str]}),(12,{mu:=[],own:=[0]}),(44,{mu:=[],own:=[0]}),(11,{mu:=[],own:=[0],oa:=[.lk .str,.vec 1,.lk .str]}),(54,{mu:=[],own:=[0]}),(20,{mu:=[],own:=[0],oa:=[.vec 1,.lk .str,.lk .str]}),(77,{mu:=[(1,.one (.obj [.lk .str]))],own:=[]}),(7800076,{mu:=[(1,.fn [some (.obj [.lk .str])])],own:=[]}),(48,{mu:=[(0,.one (.cC false [.vec 1]))],own:=[]})]
def cJ(f:Nat):FC:=Av Rh f
theorem C2:(I3.all fun p=>!p.2.kn||p.2.nh Tryz.prog p.1)=true:=by kernel_rfl
theorem ua:da Tryz.prog IN:=uZ C2
theorem mixed:Tryz.prog.follows .mixedOrders=true:=by kernel_rfl
abbrev NZ(r:AV)(k:Tree):Tree:=.al (LK.has .ptr r/\r.isNil=false) k
abbrev NP(r:AV)(k:Tree):Tree:=.al (LK.has .ptr r) k
abbrev NS(r:AV)(k:Tree):Tree:=.al (LK.has .str r) k
abbrev NB(r:AV)(k:Tree):Tree:=.al (LK.has .bool r) k
abbrev NL(r:AV)(k:Tree):Tree:=.al (LK.has .sl r) k
abbrev NI(r:AV)(k:Tree):Tree:=.al (LK.has (.int .i64) r) k
abbrev dR(l:List AV)(k:Tree):Tree:=.al (LK.has .ptr (l.headD .any)/\1<=l.length) k
abbrev kA(l:List AV)(k:Tree):Tree:=.al (LK.has .str (l.headD .any)/\1<=l.length) k
abbrev nF(l:List AV)(k:Tree):Tree:=.al (LK.has .sl (l.headD .any)/\1<=l.length) k
abbrev NT(r:AV)(k:Tree):Tree:=.al (r=.cI [r.comp 0,r.comp 1]) k
abbrev NA(r:AV)(k:Tree):Tree:=.al (r=.agg r.cs/\r.cs.length=2/\bB [.str,.sl] r.cs 0) k
abbrev NE(l:List AV)(k:Tree):Tree:=.al (bB [.str,.sl] l 0/\2<=l.length) k
abbrev NG(r:AV)(i:Int)(z:Nat)(k:Tree):Tree:=.al (LK.has .sl r/\0<=i/\i<r.aN.length/\(r.aN.getD i.toNat []).length=z) k
abbrev RL:Type:=Nat->List AV->List Ob->Prop
abbrev VS(x:ByteArray):AV:=.v (.string x)
abbrev VI(x:Int):AV:=.v (.int .i64 x)
abbrev VB(x:Bool):AV:=.v (.bool x)
abbrev _root_.List.hA(l:List AV):AV:=l.headD .any
abbrev _root_.List.hO(l:List Ob):Ob:=l.headD .dead
abbrev _root_.Go.VL.AV.ix(a:AV)(i:Int):List AV:=a.aN.getD i.toNat []
abbrev dq(n:Nat)(t:Tree)(R:AV->List Ob->Prop):Prop:=eM Tryz.prog n t fun _ xs obs=>R (xs.headD .any) obs
abbrev jw(n:Nat)(t:Tree)(S:List AV->List Ob->RL->Prop)(R:RL):Prop:=eM Tryz.prog n t (B1 (fun ys o=>S ys o R) R)
theorem gQ{n:Nat}{c:Code}{li:LI}{xs:List AV}{obs:List Ob}{R:RL}{t:Tree}(lis:List (Nat×LI))(h:eM Tryz.prog n t (B1 (fun ys o=>ct Tryz.prog n c li ys o R) R))(e:round IN cJ n lis c li xs obs=t:=by kernel_rfl):ct Tryz.prog n c li xs obs R:=ct.NU (cJ:=cJ) (lis:=lis) ua mixed e h
theorem Rm(n:Nat)(t:Tree)(R:AV->List Ob->Prop):dq n t R=eM Tryz.prog n t fun _ xs obs=>R (xs.headD .any) obs:=rfl
theorem N6(n:Nat)(t:Tree)(S:List AV->List Ob->RL->Prop)(R:RL):jw n t S R=eM Tryz.prog n t (B1 (fun ys o=>S ys o R) R):=rfl
theorem RG(x:ByteArray):VS x=.v (.string x):=rfl
theorem RC(x:Int):VI x=.v (.int .i64 x):=rfl
theorem RF(x:Bool):VB x=.v (.bool x):=rfl
theorem RJ(l:List AV):l.hA=l.headD .any:=rfl
theorem RU(l:List Ob):l.hO=l.headD .dead:=rfl
theorem Ry(a:AV)(i:Int):a.ix i=a.aN.getD i.toNat []:=rfl
theorem oQ{f:Nat}{asq:List AV}{ins:List Ob}{R:AV->List Ob->Prop}{t:Tree}(lis:List (Nat×LI))(F:Func)(h:eM Tryz.prog F.ntmps t fun _ xs obs=>R (xs.headD .any) obs)(hf:Tryz.prog.funcs[f]?=some F:=by kernel_rfl)(hnm:(F.name=="runtime.NumGoroutine")=false:=by kernel_rfl)(e:main IN cJ lis {} F asq ins=t:=by kernel_rfl):an Tryz.prog f asq ins R:=an.NU (cJ:=cJ) (lis:=lis) (fc:={}) ua mixed hf hnm e h
theorem oF{f:Nat}{asq:List AV}{ins:List Ob}{R:AV->List Ob->Prop}{t:Tree}(lis:List (Nat×LI))(fc:FC)(F:Func)(h:eM Tryz.prog F.ntmps t fun _ xs obs=>R (xs.headD .any) obs)(hf:Tryz.prog.funcs[f]?=some F:=by kernel_rfl)(hnm:(F.name=="runtime.NumGoroutine")=false:=by kernel_rfl)(e:main IN cJ lis fc F asq ins=t:=by kernel_rfl):an Tryz.prog f asq ins R:=an.NU (cJ:=cJ) (lis:=lis) (fc:=fc) ua mixed hf hnm e h
theorem uQ{P:Program}{f:Nat}{asq bs:List AV}{R:AV->List Ob->Prop}(h:wF asq bs)(hf:an P f bs [] R):an P f asq [] R:=an.ru dc (an.up h hf)
theorem RN(r:AV)(k:Tree):NZ r k=.al (LK.has .ptr r/\r.isNil=false) k:=rfl
theorem RP(r:AV)(k:Tree):NP r k=.al (LK.has .ptr r) k:=rfl
theorem RX(r:AV)(k:Tree):NS r k=.al (LK.has .str r) k:=rfl
theorem RI(r:AV)(k:Tree):NB r k=.al (LK.has .bool r) k:=rfl
theorem RO(r:AV)(k:Tree):NL r k=.al (LK.has .sl r) k:=rfl
theorem RS(r:AV)(k:Tree):NI r k=.al (LK.has (.int .i64) r) k:=rfl
theorem Ro(l:List AV)(k:Tree):dR l k=.al (LK.has .ptr (l.headD .any)/\1<=l.length) k:=rfl
theorem QC(l:List AV)(k:Tree):kA l k=.al (LK.has .str (l.headD .any)/\1<=l.length) k:=rfl
theorem Pv(l:List AV)(k:Tree):nF l k=.al (LK.has .sl (l.headD .any)/\1<=l.length) k:=rfl
theorem RB(r:AV)(k:Tree):NT r k=.al (r=.cI [r.comp 0,r.comp 1]) k:=rfl
theorem RE(r:AV)(k:Tree):NA r k=.al (r=.agg r.cs/\r.cs.length=2/\bB [.str,.sl] r.cs 0) k:=rfl
theorem RR(l:List AV)(k:Tree):NE l k=.al (bB [.str,.sl] l 0/\2<=l.length) k:=rfl
theorem RV(r:AV)(i:Int)(z:Nat)(k:Tree):NG r i z k=.al (LK.has .sl r/\0<=i/\i<r.aN.length/\(r.aN.getD i.toNat []).length=z) k:=rfl
set_option linter.defProp false in
def zq:=aE @RN (aE @RP (aE @RX (aE @RI (aE @RO (aE @RS (aE @Ro (aE @QC (aE @Pv (aE @RB (aE @RE (aE @RR (aE @RV (aE @Rm (aE @N6 (aE @RG (aE @RC (aE @RF ((aE @RJ (aE @RU (aE @Ry @zp)))))))))))))))))))))
variable {R:AV->List Ob->Prop} {U:RL}
def JP(a0_0:ByteArray)(a0_1:AV)(a0_2:ByteArray)(a1:Int):Tree :=
 .call 9 [.agg [VS a0_0,a0_1,VS a0_2],VI 1048576] [] fun r1 o1=>NI r1<|.test (decide (r1.toInt<(0:Int))) (.done 0 [VB true] []) (.call 11 [.agg [VS a0_0,a0_1,VS a0_2]] [] fun r2 o2=>.al (r2=.agg r2.cs/\bn [.lk .str,.vec 1,.lk .str] r2.cs 0 0 o2)<|.al (∀x,x∈o2->gv x)<|.call 23 [.agg [VS ((r2.cs.getD 0 .any).ai),.sl ((o2.hO).es),VS ((r2.cs.getD 2 .any).ai)],VI a1] [] fun r3 o3=>NT r3<|.al ((r3.comp 0)=.agg (r3.comp 0).cs/\(r3.comp 0).cs.length=3/\bB [.str,.sl,.str] ((r3.comp 0).cs) 0)<|NB (r3.comp 1)<|.call 11 [.agg [VS a0_0,a0_1,VS a0_2]] [] fun r4 o4=>.al (r4=.agg r4.cs/\bn [.lk .str,.vec 1,.lk .str] r4.cs 0 0 o4)<|.al (∀x,x∈o4->gv x)<|.call 24 [.agg [VS ((r4.cs.getD 0 .any).ai),.sl ((o4.hO).es),VS ((r4.cs.getD 2 .any).ai)],VI a1] [] fun r5 o5=>NT r5<|.al ((r5.comp 0)=.agg (r5.comp 0).cs/\bn [.lk .str,.vec 1,.lk .str] ((r5.comp 0).cs) 0 0 o5)<|NB (r5.comp 1)<|.al (∀x,x∈o5->gv x)<|.call 14 [.agg [VS (((r5.comp 0).cs.getD 0 .any).ai),.sl ((o5.hO).es),VS (((r5.comp 0).cs.getD 2 .any).ai)],.agg [VS (((r3.comp 0).cs.getD 0 .any).ai),((r3.comp 0).cs.getD 1 .any),VS (((r3.comp 0).cs.getD 2 .any).ai)]] [] fun r6 o6=>NB r6<|.test (!r6.toBool) (.done 0 [VB false] []) (.test (!(((r5.comp 1).toBool)==((r3.comp 1).toBool))) (.done 0 [VB false] []) (.call 11 [.agg [VS a0_0,a0_1,VS a0_2]] [] fun r7 o7=>.al (r7=.agg r7.cs/\bn [.lk .str,.vec 1,.lk .str] r7.cs 0 0 o7)<|.al (∀x,x∈o7->gv x)<|.call 14 [.agg [VS ((r4.cs.getD 0 .any).ai),.sl ((o4.hO).es),VS ((r4.cs.getD 2 .any).ai)],.agg [VS ((r7.cs.getD 0 .any).ai),.sl ((o7.hO).es),VS ((r7.cs.getD 2 .any).ai)]] [] fun r8 o8=>NB r8<|.test (!r8.toBool) (.done 0 [VB false] []) (.call 15 [.agg [VS ((r4.cs.getD 0 .any).ai),.vec 0,VS ((r4.cs.getD 2 .any).ai)],VI 1] [.vec 1 ((o4.hO).es)] fun r9 o9=>.al ((o9.hO)=.jk 1 (o9.hO).es)<|NI r9<|.test (decide (r9.toInt<(0:Int))) (.done 0 [VB false] []) (.call 14 [.agg [VS (((r5.comp 0).cs.getD 0 .any).ai),.sl ((o5.hO).es),VS (((r5.comp 0).cs.getD 2 .any).ai)],.agg [VS (((r3.comp 0).cs.getD 0 .any).ai),((r3.comp 0).cs.getD 1 .any),VS (((r3.comp 0).cs.getD 2 .any).ai)]] [] fun r10 o10=>NB r10<|.test (!r10.toBool) (.done 0 [VB false] []) (.test (!(((r5.comp 1).toBool)==((r3.comp 1).toBool))) (.done 0 [VB false] []) (.call 15 [.agg [VS (((r5.comp 0).cs.getD 0 .any).ai),.vec 0,VS (((r5.comp 0).cs.getD 2 .any).ai)],VI 1] [.vec 1 ((o5.hO).es)] fun r11 o11=>.al ((o11.hO)=.jk 1 (o11.hO).es)<|NI r11<|.call 25 [.agg [VS (((r5.comp 0).cs.getD 0 .any).ai),.sl ((o11.hO).es),VS (((r5.comp 0).cs.getD 2 .any).ai)],VI 1] [] fun r12 o12=>NI r12<|.test (decide (r12.toInt<(0:Int))) (.done 0 [VB false] []) (.test (r12.toInt != r11.toInt) (.done 0 [VB false] []) (.call 11 [.agg [VS a0_0,a0_1,VS a0_2]] [] fun r13 o13=>.al (r13=.agg r13.cs/\bn [.lk .str,.vec 1,.lk .str] r13.cs 0 0 o13)<|.al (∀x,x∈o13->gv x)<|.call 24 [.agg [VS ((r13.cs.getD 0 .any).ai),.sl ((o13.hO).es),VS ((r13.cs.getD 2 .any).ai)],VI a1] [] fun r14 o14=>NT r14<|.al ((r14.comp 0)=.agg (r14.comp 0).cs/\bn [.lk .str,.vec 1,.lk .str] ((r14.comp 0).cs) 0 0 o14)<|NB (r14.comp 1)<|.al (∀x,x∈o14->gv x)<|.call 14 [.agg [VS (((r14.comp 0).cs.getD 0 .any).ai),.sl ((o14.hO).es),VS (((r14.comp 0).cs.getD 2 .any).ai)],.agg [VS (((r3.comp 0).cs.getD 0 .any).ai),((r3.comp 0).cs.getD 1 .any),VS (((r3.comp 0).cs.getD 2 .any).ai)]] [] fun r15 o15=>NB r15<|.test (!r15.toBool) (.done 0 [VB false] []) (.test (!(((r14.comp 1).toBool)==((r3.comp 1).toBool))) (.done 0 [VB false] []) (.call 25 [.agg [VS (((r5.comp 0).cs.getD 0 .any).ai),.sl ((o11.hO).es),VS (((r5.comp 0).cs.getD 2 .any).ai)],VI 1] [] fun r16 o16=>NI r16<|.test (decide (r16.toInt<(0:Int))) (.done 0 [VB false] []) (.test (r16.toInt != r11.toInt) (.done 0 [VB false] []) (.done 0 [VB true] [])))))))))))))
theorem Rg(a0_0:ByteArray)(a0_1:AV)(a0_2:ByteArray)(a1:Int)(ha0_1:LK.has .sl a0_1)(h:dq 101 (JP a0_0 a0_1 a0_2 a1) R):an Tryz.prog 5 [.agg [VS a0_0,a0_1,VS a0_2],VI a1] [] R :=
 uQ (af (bT (af (au _) (af (bY ha0_1) (af (au _) aA)))) (af (au _) aA)) (oQ [] Tryz.f5 h)
def Iy(a0_0:ByteArray)(a0_1:AV)(a0_2:ByteArray)(a1:Int):Tree :=
 .test (decide ((IntKind.wrap .i64 (a1-(ag a0_0:Int)))<(0:Int))) (.done 0 [VI (-1)] []) (.call 40 [a0_1,VI (IntKind.wrap .i64 (a1-(ag a0_0:Int)))] [] fun r1 o1=>NI r1<|.test (decide (r1.toInt<(0:Int))) (.done 0 [VI (-1)] []) (.test (decide ((IntKind.wrap .i64 (r1.toInt-(ag a0_2:Int)))<(0:Int))) (.done 0 [VI (-1)] []) (.done 0 [VI (IntKind.wrap .i64 (r1.toInt-(ag a0_2:Int)))] [])))
theorem P4(a0_0:ByteArray)(a0_1:AV)(a0_2:ByteArray)(a1:Int)(ha0_1:LK.has .sl a0_1)(h:dq 26 (Iy a0_0 a0_1 a0_2 a1) R):an Tryz.prog 9 [.agg [VS a0_0,a0_1,VS a0_2],VI a1] [] R :=
 uQ (af (bT (af (au _) (af (bY ha0_1) (af (au _) aA)))) (af (au _) aA)) (oQ [] Tryz.f9 h)
def Mu(a0_0:ByteArray)(a0_1:AV)(a0_2:ByteArray):Tree :=
 .call 44 [a0_1] [] fun r1 o1=>.al (r1=.vec 0/\(o1.hO)=.vec 1 (o1.hO).es)<|.al (∀x,x∈o1->gv x)<|.done 0 [.agg [VS a0_0,.vec 0,VS a0_2]] [.vec 1 ((o1.hO).es)]
theorem OH(a0_0:ByteArray)(a0_1:AV)(a0_2:ByteArray)(ha0_1:LK.has .sl a0_1)(h:dq 15 (Mu a0_0 a0_1 a0_2) R):an Tryz.prog 11 [.agg [VS a0_0,a0_1,VS a0_2]] [] R :=
 uQ (af (bT (af (au _) (af (bY ha0_1) (af (au _) aA)))) aA) (oF [] {mu:=[],own:=[0],oa:=[.lk .str,.vec 1,.lk .str]} Tryz.f11 h)
def M3(a0_0:ByteArray)(a0_1:AV)(a0_2:ByteArray)(a1_0:ByteArray)(a1_1:AV)(a1_2:ByteArray):Tree :=
 .test (!(ae a0_0==ae a1_0)) (.done 0 [VB false] []) (.call 49 [a0_1,a1_1] [] fun r1 o1=>NB r1<|.test (!r1.toBool) (.done 0 [VB false] []) (.test (!(ae a0_2==ae a1_2)) (.done 0 [VB false] []) (.done 0 [VB true] [])))
theorem QO(a0_0:ByteArray)(a0_1:AV)(a0_2:ByteArray)(a1_0:ByteArray)(a1_1:AV)(a1_2:ByteArray)(ha0_1:LK.has .sl a0_1)(ha1_1:LK.has .sl a1_1)(h:dq 21 (M3 a0_0 a0_1 a0_2 a1_0 a1_1 a1_2) R):an Tryz.prog 14 [.agg [VS a0_0,a0_1,VS a0_2],.agg [VS a1_0,a1_1,VS a1_2]] [] R :=
 uQ (af (bT (af (au _) (af (bY ha0_1) (af (au _) aA)))) (af (bT (af (au _) (af (bY ha1_1) (af (au _) aA)))) aA)) (oQ [] Tryz.f14 h)
def Mj(a0_0:ByteArray)(e0:List (List AV))(a0_2:ByteArray)(a1:Int):Tree :=
 .call 50 [.vec 0,VI a1] [.vec 1 e0] fun r1 o1=>.al ((o1.hO)=.jk 1 (o1.hO).es)<|NI r1<|.done 0 [VI r1.toInt] [.jk 1 ((o1.hO).es)]
theorem Qd(a0_0:ByteArray)(e0:List (List AV))(a0_2:ByteArray)(a1:Int)(h:dq 10 (Mj a0_0 e0 a0_2 a1) R):an Tryz.prog 15 [.agg [VS a0_0,.vec 0,VS a0_2],VI a1] [.vec 1 e0] R :=
 an.ru (bQ (fy _) dc) (an.up (af (au _) (af (au _) aA)) (oF [] {mu:=[(0,.one (.cC true [.lk .str,.vec 1,.lk .str]))],own:=[]} Tryz.f15 h))
def K8(a0_0:ByteArray)(a0_1:AV)(a0_2:ByteArray)(a1:Int):Tree :=
 .call 41 [.agg [VS a0_0,a0_1,VS a0_2]] [] fun r1 o1=>NB r1<|.test (!r1.toBool) (.done 0 [.cI [.agg [VS (mk []),.v (.slice none 0 0),VS (mk [])],VB false]] []) (NL a0_1<|.test ((a0_1.aN.length:Int)==(0:Int)) (.done 0 [.cI [.agg [VS (mk []),.v (.slice none 0 0),VS (mk [])],VB false]] []) (.call 56 [VI a1,VI (-1000),VI 1000] [] fun r2 o2=>NB r2<|.test (!r2.toBool) (.done 0 [.cI [.agg [VS (mk []),.v (.slice none 0 0),VS (mk [])],VB false]] []) (.call 43 [.agg [VS a0_0,a0_1,VS a0_2]] [] fun r3 o3=>NT r3<|.al ((r3.comp 0)=.agg (r3.comp 0).cs/\(r3.comp 0).cs.length=3/\bB [.str,.sl,.str] ((r3.comp 0).cs) 0)<|NB (r3.comp 1)<|.call 42 [.agg [VS a0_0,a0_1,VS a0_2]] [] fun r4 o4=>NI r4<|.call 57 [.agg [VS (((r3.comp 0).cs.getD 0 .any).ai),((r3.comp 0).cs.getD 1 .any),VS (((r3.comp 0).cs.getD 2 .any).ai)],VI (IntKind.wrap .i64 (r4.toInt+a1))] [] fun r5 o5=>NT r5<|.al ((r5.comp 0)=.agg (r5.comp 0).cs/\(r5.comp 0).cs.length=3/\bB [.str,.sl,.str] ((r5.comp 0).cs) 0)<|NB (r5.comp 1)<|.done 0 [.cI [.agg [VS (((r5.comp 0).cs.getD 0 .any).ai),((r5.comp 0).cs.getD 1 .any),VS (((r5.comp 0).cs.getD 2 .any).ai)],VB ((r5.comp 1).toBool)]] [])))
theorem Ol(a0_0:ByteArray)(a0_1:AV)(a0_2:ByteArray)(a1:Int)(ha0_1:LK.has .sl a0_1)(h:dq 36 (K8 a0_0 a0_1 a0_2 a1) R):an Tryz.prog 23 [.agg [VS a0_0,a0_1,VS a0_2],VI a1] [] R :=
 uQ (af (bT (af (au _) (af (bY ha0_1) (af (au _) aA)))) (af (au _) aA)) (oQ [] Tryz.f23 h)
def Jz(a0_0:ByteArray)(a0_1:AV)(a0_2:ByteArray)(a1:Int):Tree :=
 .call 45 [.agg [VS a0_0,a0_1,VS a0_2]] [] fun r1 o1=>NP r1<|.call 46 [r1] [] fun r2 o2=>NP r2<|NP r2<|.test r2.isNil (.done 0 [.cI [.agg [VS (mk []),.vec 0,VS (mk [])],VB false]] [.vec 1 []]) (.call 47 [r1,r2] [] fun r3 o3=>NI r3<|.test (decide (a1<(IntKind.wrap .i64 (0-r3.toInt)))) (.done 0 [.cI [.agg [VS (mk []),.vec 0,VS (mk [])],VB false]] [.vec 1 []]) (.test (decide (a1>(200:Int))) (.done 0 [.cI [.agg [VS (mk []),.vec 0,VS (mk [])],VB false]] [.vec 1 []]) (.call 59 [r2,VI (IntKind.wrap .i64 (r3.toInt+a1))] [] fun r4 o4=>NP r4<|.call 58 [r4] [] fun r5 o5=>NT r5<|.al ((r5.comp 0)=.agg (r5.comp 0).cs/\bn [.lk .str,.vec 1,.lk .str] ((r5.comp 0).cs) 0 0 o5)<|NB (r5.comp 1)<|.al (∀x,x∈o5->gv x)<|.done 0 [.cI [.agg [VS (((r5.comp 0).cs.getD 0 .any).ai),.vec 0,VS (((r5.comp 0).cs.getD 2 .any).ai)],VB ((r5.comp 1).toBool)]] [.vec 1 ((o5.hO).es)])))
theorem O6(a0_0:ByteArray)(a0_1:AV)(a0_2:ByteArray)(a1:Int)(ha0_1:LK.has .sl a0_1)(h:dq 36 (Jz a0_0 a0_1 a0_2 a1) R):an Tryz.prog 24 [.agg [VS a0_0,a0_1,VS a0_2],VI a1] [] R :=
 uQ (af (bT (af (au _) (af (bY ha0_1) (af (au _) aA)))) (af (au _) aA)) (oF [] {mu:=[],own:=[0],oa:=[.lk .str,.vec 1,.lk .str]} Tryz.f24 h)
def HM(a0_0:ByteArray)(a0_1:AV)(a0_2:ByteArray)(a1:Int):Tree :=
 .call 60 [a0_1,VI a1] [] fun r1 o1=>NI r1<|.test (decide (r1.toInt<(0:Int))) (.done 0 [VI (-1)] []) (.done 0 [VI r1.toInt] [])
theorem Ra(a0_0:ByteArray)(a0_1:AV)(a0_2:ByteArray)(a1:Int)(ha0_1:LK.has .sl a0_1)(h:dq 12 (HM a0_0 a0_1 a0_2 a1) R):an Tryz.prog 25 [.agg [VS a0_0,a0_1,VS a0_2],VI a1] [] R :=
 uQ (af (bT (af (au _) (af (bY ha0_1) (af (au _) aA)))) (af (au _) aA)) (oQ [] Tryz.f25 h)
def Gq:LI:={hd:={bD:=[(0,.k .sl),(1,.k (.int .i64)),(5,.k (.int .i64))]},xs:={bD:=[(1,.k (.int .i64))]},rt:={bD:=[(4,.k (.int .i64))]},ex:=0}
def Lp:Code:=cz (cu Tryz.f40) 5
def Mz:List (Nat×LI):=[(5,Gq)]
def JK(a0:AV)(a1:Int):Tree :=
 NL a0<|.test (decide ((IntKind.wrap .i64 (a1-(a0.aN.length:Int)))<(0:Int))) (.done 0 [VI (-1)] []) (.loop Lp Gq [a0,VI (IntKind.wrap .i64 (a1-(a0.aN.length:Int))),VI 0] [] (fun y1 q1=>NI (y1.hA)<|.done 0 [VI ((y1.hA).toInt)] []) (fun y1 q1=>NI (y1.hA)<|.done 0 [VI ((y1.hA).toInt)] []))
theorem Qx(a0:AV)(a1:Int)(ha0:LK.has .sl a0)(h:dq 28 (JK a0 a1) R):an Tryz.prog 40 [a0,VI a1] [] R :=
 uQ (af (bY ha0) (af (au _) aA)) (oQ Mz Tryz.f40 h)
def Hr(x0:AV)(x1:Int)(x5:Int):Tree :=
 NL x0<|NI (VI x1)<|NI (VI x5)<|NL x0<|.test (decide (x5<(x0.aN.length:Int))) (NG x0 x5 1<|kA (x0.ix x5)<|.test (decide ((IntKind.wrap .i64 (x1-(ag (((x0.ix x5).hA).ai):Int)))<(0:Int))) (.done 2 [VI (-1)] []) (.done 0 [x0,VI (IntKind.wrap .i64 (x1-(ag (((x0.ix x5).hA).ai):Int))),VI (IntKind.wrap .i64 (x5+1))] [])) (.done 1 [VI x1] [])
abbrev En:=ct Tryz.prog 28 Lp Gq
theorem Mk(x0:AV)(x1:Int)(x5:Int)(h:jw 28 (Hr x0 x1 x5) En U):En [x0,VI x1,VI x5] [] U :=
 gQ Mz h
def No(a0_0:ByteArray)(a0_1:AV)(a0_2:ByteArray):Tree :=
 .call 72 [.agg [VS a0_0,a0_1,VS a0_2]] [] fun r1 o1=>NB r1<|.test (!r1.toBool) (.done 0 [VB false] []) (.call 70 [.agg [VS a0_0,a0_1,VS a0_2]] [] fun r2 o2=>NT r2<|.al ((r2.comp 0)=.agg (r2.comp 0).cs/\(r2.comp 0).cs.length=3/\bB [.str,.sl,.str] ((r2.comp 0).cs) 0)<|NB (r2.comp 1)<|.done 0 [VB ((r2.comp 1).toBool)] [])
theorem Oy(a0_0:ByteArray)(a0_1:AV)(a0_2:ByteArray)(ha0_1:LK.has .sl a0_1)(h:dq 14 (No a0_0 a0_1 a0_2) R):an Tryz.prog 41 [.agg [VS a0_0,a0_1,VS a0_2]] [] R :=
 uQ (af (bT (af (au _) (af (bY ha0_1) (af (au _) aA)))) aA) (oQ [] Tryz.f41 h)
def Fx:LI:={hd:={bD:=[(5,.k .sl),(7,.k (.int .i64))],refs:=[(1,1)],cm:=[(1,[.lk .str,.lk .sl,.lk .str])]},xs:={},rt:={bD:=[(2,.k (.int .i64))]},ex:=0}
def Ix:Code:=cz (cu Tryz.f42) 4
def KP:List (Nat×LI):=[(4,Fx)]
def Mv(a0_0:ByteArray)(a0_1:AV)(a0_2:ByteArray):Tree :=
 .call 43 [.agg [VS a0_0,a0_1,VS a0_2]] [] fun r1 o1=>NT r1<|.al ((r1.comp 0)=.agg (r1.comp 0).cs/\(r1.comp 0).cs.length=3/\bB [.str,.sl,.str] ((r1.comp 0).cs) 0)<|NB (r1.comp 1)<|.call 69 [VS a0_0,VS (((r1.comp 0).cs.getD 2 .any).ai)] [] fun r2 o2=>NT r2<|NL (r2.comp 0)<|NB (r2.comp 1)<|.loop Ix Fx [(r2.comp 0),VI 0] [.cells [VS a0_0,a0_1,VS a0_2]] (fun y3 q3=>.done 0 [VI (-1)] []) (fun y3 q3=>NI (y3.hA)<|.done 0 [VI ((y3.hA).toInt)] [])
theorem QF(a0_0:ByteArray)(a0_1:AV)(a0_2:ByteArray)(ha0_1:LK.has .sl a0_1)(h:dq 42 (Mv a0_0 a0_1 a0_2) R):an Tryz.prog 42 [.agg [VS a0_0,a0_1,VS a0_2]] [] R :=
 uQ (af (bT (af (au _) (af (bY ha0_1) (af (au _) aA)))) aA) (oQ KP Tryz.f42 h)
def EU(x5:AV)(x7:Int)(o1_0:ByteArray)(o1_1:AV)(o1_2:ByteArray):Tree :=
 NL x5<|NI (VI x7)<|.al (Ob.cells [VS o1_0,o1_1,VS o1_2]=.cells [VS o1_0,o1_1,VS o1_2])<|.al (ac [.lk .str,.lk .sl,.lk .str] [VS o1_0,o1_1,VS o1_2] 0 [])<|NL x5<|.test (decide (x7<(x5.aN.length:Int))) (NG x5 x7 2<|kA (x5.ix x7)<|NL o1_1<|.al (LK.has .sl o1_1/\0<=(IntKind.wrap .i64 ((o1_1.aN.length:Int)-1))/\(IntKind.wrap .i64 ((o1_1.aN.length:Int)-1))<o1_1.aN.length/\(o1_1.ix (IntKind.wrap .i64 ((o1_1.aN.length:Int)-1))).length=1)<|kA (o1_1.ix (IntKind.wrap .i64 ((o1_1.aN.length:Int)-1)))<|.test (ae (((x5.ix x7).hA).ai)==ae (((o1_1.ix (IntKind.wrap .i64 ((o1_1.aN.length:Int)-1))).hA).ai)) (.done 2 [VI x7] []) (.done 0 [x5,VI (IntKind.wrap .i64 (x7+1))] [.cells [VS o1_0,o1_1,VS o1_2]])) (.done 1 [] [])
abbrev FJ:=ct Tryz.prog 42 Ix Fx
theorem KL(x5:AV)(x7:Int)(o1_0:ByteArray)(o1_1:AV)(o1_2:ByteArray)(h:jw 42 (EU x5 x7 o1_0 o1_1 o1_2) FJ U):FJ [x5,VI x7] [.cells [VS o1_0,o1_1,VS o1_2]] U :=
 gQ KP h
def NM(a0_0:ByteArray)(a0_1:AV)(a0_2:ByteArray):Tree :=
 NL a0_1<|.test ((a0_1.aN.length:Int)==(0:Int)) (.done 0 [.cI [.agg [VS a0_0,a0_1,VS a0_2],VB false]] []) (.al (LK.has .sl a0_1/\0<=(IntKind.wrap .i64 ((a0_1.aN.length:Int)-1))/\(IntKind.wrap .i64 ((a0_1.aN.length:Int)-1))<a0_1.aN.length/\(a0_1.ix (IntKind.wrap .i64 ((a0_1.aN.length:Int)-1))).length=1)<|kA (a0_1.ix (IntKind.wrap .i64 ((a0_1.aN.length:Int)-1)))<|.call 73 [VS a0_0,VS (((a0_1.ix (IntKind.wrap .i64 ((a0_1.aN.length:Int)-1))).hA).ai),VS a0_2] [] fun r1 o1=>NT r1<|NS (r1.comp 0)<|NB (r1.comp 1)<|.al (LK.has .sl a0_1/\0<=(0:Int)/\(0:Int)<=(IntKind.wrap .i64 ((a0_1.aN.length:Int)-1))/\(IntKind.wrap .i64 ((a0_1.aN.length:Int)-1))<=(a0_1.aN.length:Int))<|.al (cA 1 ((a0_1.aN.take (bF (IntKind.wrap .i64 ((a0_1.aN.length:Int)-1)))).drop (bF 0))/\((([]:List (List AV)).length)+((a0_1.aN.take (bF (IntKind.wrap .i64 ((a0_1.aN.length:Int)-1)))).drop (bF 0)).length)*16<=140737488355328)<|.done 0 [.cI [.agg [VS a0_0,.sl (([]:List (List AV))++((a0_1.aN.take (bF (IntKind.wrap .i64 ((a0_1.aN.length:Int)-1)))).drop (bF 0))),VS ((r1.comp 0).ai)],VB ((r1.comp 1).toBool)]] [])
theorem O5(a0_0:ByteArray)(a0_1:AV)(a0_2:ByteArray)(ha0_1:LK.has .sl a0_1)(h:dq 39 (NM a0_0 a0_1 a0_2) R):an Tryz.prog 43 [.agg [VS a0_0,a0_1,VS a0_2]] [] R :=
 uQ (af (bT (af (au _) (af (bY ha0_1) (af (au _) aA)))) aA) (oQ [] Tryz.f43 h)
def F4:LI:={hd:={bD:=[(0,.k .sl),(4,.k (.int .i64))],eH:=[(3,1)]},xs:={eH:=[(3,1)]},rt:={},ex:=0}
def H8:Code:=cz (cu Tryz.f44) 3
def JO:List (Nat×LI):=[(3,F4)]
def LR(a0:AV):Tree :=
 NL a0<|.al (0<=(a0.aN.length:Int)/\(a0.aN.length:Int)*16<=140737488355328)<|.loop H8 F4 [a0,VI 0] [.vec 1 (List.replicate (bF (a0.aN.length:Int)) [VS (mk [])])] (fun y1 q1=>.al (((q1.drop 0).hO)=.vec 1 ((q1.drop 0).hO).es)<|.done 0 [.vec 0] [.vec 1 ((q1.hO).es)]) (fun y1 q1=>.fail)
theorem OM(a0:AV)(ha0:LK.has .sl a0)(h:dq 22 (LR a0) R):an Tryz.prog 44 [a0] [] R :=
 uQ (af (bY ha0) aA) (oF JO {mu:=[],own:=[0]} Tryz.f44 h)
def FU(x0:AV)(x4:Int)(e3:List (List AV)):Tree :=
 NL x0<|NI (VI x4)<|.al (Ob.vec 1 e3=.vec 1 e3)<|NL x0<|.test (decide (x4<(x0.aN.length:Int))) (NG x0 x4 1<|kA (x0.ix x4)<|.al (0<=x4/\x4<e3.length)<|.al (x4.toNat<e3.length/\0+1<=1)<|.done 0 [x0,VI (IntKind.wrap .i64 (x4+1))] [.vec 1 (e3.set x4.toNat ((e3.getD x4.toNat []).set 0 (VS (((x0.ix x4).hA).ai))))]) (.done 1 [] [.vec 1 e3])
abbrev Et:=ct Tryz.prog 22 H8 F4
theorem JQ(x0:AV)(x4:Int)(e3:List (List AV))(h:jw 22 (FU x0 x4 e3) Et U):Et [x0,VI x4] [.vec 1 e3] U :=
 gQ JO h
def F1:LI:={hd:={bD:=[(3,.k .ptr),(4,.k .ptr)]},xs:={bD:=[(3,.k .ptr)]},rt:={bD:=[(2,.k .ptr)]},ex:=0}
def KW:Code:=cz (cu Tryz.f45) 5
def L7:List (Nat×LI):=[(5,F1)]
def Ko(a0_0:ByteArray)(a0_1:AV)(a0_2:ByteArray):Tree :=
 .call 63 [.agg [VS a0_0,a0_1,VS a0_2]] [] fun r1 o1=>NP r1<|NP r1<|.test r1.isNil (.done 0 [.v (.pointer none)] []) (.loop KW F1 [r1,r1] [] (fun y3 q3=>NP (y3.hA)<|.done 0 [(y3.hA)] []) (fun y3 q3=>NP (y3.hA)<|.done 0 [(y3.hA)] []))
theorem QW(a0_0:ByteArray)(a0_1:AV)(a0_2:ByteArray)(ha0_1:LK.has .sl a0_1)(h:dq 21 (Ko a0_0 a0_1 a0_2) R):an Tryz.prog 45 [.agg [VS a0_0,a0_1,VS a0_2]] [] R :=
 uQ (af (bT (af (au _) (af (bY ha0_1) (af (au _) aA)))) aA) (oQ L7 Tryz.f45 h)
def Fg(x3:AV)(x4:AV):Tree :=
 NP x3<|NP x4<|NZ x4<|NZ x4<|nF (x4.deref.drop 2)<|NL ((x4.deref.drop 2).hA)<|.test (decide (((((x4.deref.drop 2).hA).aN).length:Int)>(0:Int))) (.call 46 [x4] [] fun r1 o1=>NP r1<|NP r1<|.test r1.isNil (.done 2 [.v (.pointer none)] []) (.done 0 [x3,r1] [])) (.done 1 [x3] [])
abbrev Ho:=ct Tryz.prog 21 KW F1
theorem HX(x3:AV)(x4:AV)(h:jw 21 (Fg x3 x4) Ho U):Ho [x3,x4] [] U :=
 gQ L7 h
def Er(a0:AV):Tree :=
 NP a0<|.test a0.isNil (.done 0 [.v (.pointer none)] []) (NZ a0<|NZ a0<|nF (a0.deref.drop 2)<|NL ((a0.deref.drop 2).hA)<|.test (((((a0.deref.drop 2).hA).aN).length:Int)==(0:Int)) (.done 0 [.v (.pointer none)] []) (NZ a0<|NZ a0<|nF (a0.deref.drop 2)<|NL ((a0.deref.drop 2).hA)<|NZ a0<|NZ a0<|dR (a0.deref.drop 1)<|NZ a0<|NZ a0<|nF (a0.deref.drop 2)<|.al (LK.has .sl ((a0.deref.drop 2).hA)/\0<=(IntKind.wrap .i64 (((((a0.deref.drop 2).hA).aN).length:Int)-1))/\(IntKind.wrap .i64 (((((a0.deref.drop 2).hA).aN).length:Int)-1))<((a0.deref.drop 2).hA).aN.length/\(((a0.deref.drop 2).hA).ix (IntKind.wrap .i64 (((((a0.deref.drop 2).hA).aN).length:Int)-1))).length=1)<|.al (LK.has .ptr ((((a0.deref.drop 2).hA).ix (IntKind.wrap .i64 (((((a0.deref.drop 2).hA).aN).length:Int)-1))).hA)/\1<=(((a0.deref.drop 2).hA).ix (IntKind.wrap .i64 (((((a0.deref.drop 2).hA).aN).length:Int)-1))).length)<|NZ a0<|NZ a0<|dR (a0.deref.drop 3)<|.call 74 [((a0.deref.drop 1).hA),((((a0.deref.drop 2).hA).ix (IntKind.wrap .i64 (((((a0.deref.drop 2).hA).aN).length:Int)-1))).hA),((a0.deref.drop 3).hA)] [] fun r1 o1=>NP r1<|.call 75 [r1] [] fun r2 o2=>NI r2<|.test (decide (r2.toInt>(200:Int))) (.done 0 [.v (.pointer none)] []) (NZ a0<|NZ a0<|.al (LK.has .str (a0.deref.hA)/\1<=a0.deref.length)<|NZ a0<|NZ a0<|dR (a0.deref.drop 1)<|NZ a0<|NZ a0<|nF (a0.deref.drop 2)<|.al (LK.has .sl ((a0.deref.drop 2).hA)/\0<=(0:Int)/\(0:Int)<=(IntKind.wrap .i64 (((((a0.deref.drop 2).hA).aN).length:Int)-1))/\(IntKind.wrap .i64 (((((a0.deref.drop 2).hA).aN).length:Int)-1))<=((((a0.deref.drop 2).hA).aN).length:Int))<|.done 0 [.ptr [VS ((a0.deref.hA).ai),((a0.deref.drop 1).hA),.sl (((((a0.deref.drop 2).hA).aN).take (bF (IntKind.wrap .i64 (((((a0.deref.drop 2).hA).aN).length:Int)-1)))).drop (bF 0)),r1]] [])))
theorem KS(a0:AV)(ha0:LK.has .ptr a0)(h:dq 57 (Er a0) R):an Tryz.prog 46 [a0] [] R :=
 uQ (af (bu ha0) aA) (oQ [] Tryz.f46 h)
def Mm(a0:AV)(a1:AV):Tree :=
 NZ a0<|NZ a0<|nF (a0.deref.drop 2)<|NZ a0<|NZ a0<|nF (a0.deref.drop 2)<|NL ((a0.deref.drop 2).hA)<|.al (LK.has .sl ((a0.deref.drop 2).hA)/\0<=(IntKind.wrap .i64 (((((a0.deref.drop 2).hA).aN).length:Int)-1))/\(IntKind.wrap .i64 (((((a0.deref.drop 2).hA).aN).length:Int)-1))<((a0.deref.drop 2).hA).aN.length/\(((a0.deref.drop 2).hA).ix (IntKind.wrap .i64 (((((a0.deref.drop 2).hA).aN).length:Int)-1))).length=1)<|.al (LK.has .ptr ((((a0.deref.drop 2).hA).ix (IntKind.wrap .i64 (((((a0.deref.drop 2).hA).aN).length:Int)-1))).hA)/\1<=(((a0.deref.drop 2).hA).ix (IntKind.wrap .i64 (((((a0.deref.drop 2).hA).aN).length:Int)-1))).length)<|.call 66 [((((a0.deref.drop 2).hA).ix (IntKind.wrap .i64 (((((a0.deref.drop 2).hA).aN).length:Int)-1))).hA)] [] fun r1 o1=>NS r1<|NZ a1<|NZ a1<|dR (a1.deref.drop 1)<|NZ a1<|NZ a1<|dR (a1.deref.drop 3)<|.call 68 [((a1.deref.drop 1).hA),((a1.deref.drop 3).hA)] [] fun r2 o2=>NL r2<|.call 76 [r2,.fn 77 [.ref 0 0]] [.cells [VS r1.ai]] fun r3 o3=>.al ((o3.hO)=.cells (o3.hO).cs)<|.al (bn [.lk .str] ((o3.hO).cs) 0 1 o3.tail)<|NI r3<|.done 0 [VI r3.toInt] []
theorem OW(a0:AV)(a1:AV)(ha0:LK.has .ptr a0)(ha1:LK.has .ptr a1)(h:dq 30 (Mm a0 a1) R):an Tryz.prog 47 [a0,a1] [] R :=
 uQ (af (bu ha0) (af (bu ha1) aA)) (oQ [] Tryz.f47 h)
def Gk:LI:={hd:={bD:=[(0,.k .sl),(1,.k .sl),(5,.k (.int .i64))]},xs:={},rt:={bD:=[(4,.k .bool)]},ex:=0}
def Ks:Code:=cz (cu Tryz.f49) 4
def JV:List (Nat×LI):=[(4,Gk)]
def MH(a0:AV)(a1:AV):Tree :=
 NL a0<|NL a1<|.test ((a0.aN.length:Int) != (a1.aN.length:Int)) (.done 0 [VB false] []) (.loop Ks Gk [a0,a1,VI 0] [] (fun y1 q1=>.done 0 [VB true] []) (fun y1 q1=>NB (y1.hA)<|.done 0 [VB ((y1.hA).toBool)] []))
theorem Py(a0:AV)(a1:AV)(ha0:LK.has .sl a0)(ha1:LK.has .sl a1)(h:dq 26 (MH a0 a1) R):an Tryz.prog 49 [a0,a1] [] R :=
 uQ (af (bY ha0) (af (bY ha1) aA)) (oQ JV Tryz.f49 h)
def He(x0:AV)(x1:AV)(x5:Int):Tree :=
 NL x0<|NL x1<|NI (VI x5)<|NL x0<|.test (decide (x5<(x0.aN.length:Int))) (NG x0 x5 1<|kA (x0.ix x5)<|NG x1 x5 1<|kA (x1.ix x5)<|.test (!(ae (((x0.ix x5).hA).ai)==ae (((x1.ix x5).hA).ai))) (.done 2 [VB false] []) (.done 0 [x0,x1,VI (IntKind.wrap .i64 (x5+1))] [])) (.done 1 [] [])
abbrev Eg:=ct Tryz.prog 26 Ks Gk
theorem Ma(x0:AV)(x1:AV)(x5:Int)(h:jw 26 (He x0 x1 x5) Eg U):Eg [x0,x1,VI x5] [] U :=
 gQ JV h
def GK:LI:={hd:={bD:=[(1,.k (.int .i64)),(5,.k (.int .i64))],kv:=[(0,0,1)]},xs:={bD:=[(1,.k (.int .i64))],kv:=[(0,0,1)]},rt:={kv:=[(0,0,1)]},ex:=0,fx:=[0]}
def Nd:Code:=cz (cu Tryz.f50) 2
def H5:List (Nat×LI):=[(2,GK)]
def Iq(e0:List (List AV))(a1:Int):Tree :=
 .loop Nd GK [VI a1,VI 0] [.vec 1 e0] (fun y2 q2=>NI (y2.hA)<|.al (((((q2.drop 0).drop 0).drop 0).hO)=.vec 1 ((((q2.drop 0).drop 0).drop 0).hO).es)<|.done 0 [VI ((y2.hA).toInt)] [.jk 1 ((((q2.drop 0).drop 0).hO).es)]) (fun y2 q2=>.al (((((q2.drop 0).drop 0).drop 0).hO)=.vec 1 ((((q2.drop 0).drop 0).drop 0).hO).es)<|.done 0 [.any] [.jk 1 ((((q2.drop 0).drop 0).hO).es)])
theorem OF(e0:List (List AV))(a1:Int)(h:dq 20 (Iq e0 a1) R):an Tryz.prog 50 [.vec 0,VI a1] [.vec 1 e0] R :=
 an.ru (bQ (fy _) dc) (an.up (af (au _) (af (au _) aA)) (oF H5 {mu:=[(0,.one (.cC false [.vec 1]))],own:=[]} Tryz.f50 h))
def GM(x1:Int)(x5:Int)(k0:List (List AV)):Tree :=
 NI (VI x1)<|NI (VI x5)<|.al (Ob.vec 1 k0=.vec 1 k0)<|.test (decide (x5<(k0.length:Int))) (.call 78 [VI x1] [] fun r1 o1=>NS r1<|.al (0<=x5/\x5<k0.length)<|.al (x5.toNat<k0.length/\0+1<=1)<|.done 0 [VI (IntKind.wrap .i64 (x1+1)),VI (IntKind.wrap .i64 (x5+1))] [.vec 1 (k0.set x5.toNat ((k0.getD x5.toNat []).set 0 (VS r1.ai)))]) (.done 1 [VI x1] [.vec 1 k0])
abbrev FZ:=ct Tryz.prog 20 Nd GK
theorem Kv(x1:Int)(x5:Int)(k0:List (List AV))(h:jw 20 (GM x1 x5 k0) FZ U):FZ [VI x1,VI x5] [.vec 1 k0] U :=
 gQ H5 h
def Lh(a0:Int)(a1:Int)(a2:Int):Tree :=
 .test (decide (a0≥a1)) (.done 0 [VB (decide (a0<=a2))] []) (.done 0 [VB false] [])
theorem QY(a0:Int)(a1:Int)(a2:Int)(h:dq 15 (Lh a0 a1 a2) R):an Tryz.prog 56 [VI a0,VI a1,VI a2] [] R :=
 uQ (af (au _) (af (au _) (af (au _) aA))) (oQ [] Tryz.f56 h)
def IG(a0_0:ByteArray)(a0_1:AV)(a0_2:ByteArray)(a1:Int):Tree :=
 .call 41 [.agg [VS a0_0,a0_1,VS a0_2]] [] fun r1 o1=>NB r1<|.test (!r1.toBool) (.done 0 [.cI [.agg [VS (mk []),.v (.slice none 0 0),VS (mk [])],VB false]] []) (.call 69 [VS a0_0,VS a0_2] [] fun r2 o2=>NT r2<|NL (r2.comp 0)<|NB (r2.comp 1)<|NL (r2.comp 0)<|.call 56 [VI a1,VI 0,VI (IntKind.wrap .i64 ((((r2.comp 0).aN).length:Int)-1))] [] fun r3 o3=>NB r3<|.test (!r3.toBool) (.done 0 [.cI [.agg [VS (mk []),.v (.slice none 0 0),VS (mk [])],VB false]] []) (NG (r2.comp 0) a1 2<|kA ((r2.comp 0).ix a1)<|.call 79 [a0_1,VS ((((r2.comp 0).ix a1).hA).ai)] [] fun r4 o4=>NL r4<|NG (r2.comp 0) a1 2<|kA (((r2.comp 0).ix a1).drop 1)<|.call 64 [.agg [VS a0_0,r4,VS (((((r2.comp 0).ix a1).drop 1).hA).ai)]] [] fun r5 o5=>NT r5<|.al ((r5.comp 0)=.agg (r5.comp 0).cs/\(r5.comp 0).cs.length=3/\bB [.str,.sl,.str] ((r5.comp 0).cs) 0)<|NB (r5.comp 1)<|.done 0 [.cI [.agg [VS (((r5.comp 0).cs.getD 0 .any).ai),((r5.comp 0).cs.getD 1 .any),VS (((r5.comp 0).cs.getD 2 .any).ai)],VB ((r5.comp 1).toBool)]] []))
theorem QK(a0_0:ByteArray)(a0_1:AV)(a0_2:ByteArray)(a1:Int)(ha0_1:LK.has .sl a0_1)(h:dq 46 (IG a0_0 a0_1 a0_2 a1) R):an Tryz.prog 57 [.agg [VS a0_0,a0_1,VS a0_2],VI a1] [] R :=
 uQ (af (bT (af (au _) (af (bY ha0_1) (af (au _) aA)))) (af (au _) aA)) (oQ [] Tryz.f57 h)
def Gz:LI:={hd:={bD:=[(23,.k .sl),(24,.k (.int .i64)),(25,.k (.int .i64))],refs:=[(2,2),(4,4)],cm:=[(2,[.lk .str,.lk .sl,.lk .str]),(4,[.lk .str,.vec 1,.lk .str])]},xs:={refs:=[(2,2),(4,4)],cm:=[(2,[.lk .str,.lk .sl,.lk .str]),(4,[.lk .str,.vec 1,.lk .str])]},rt:={},ex:=0}
def J6:Code:=cz (cu Tryz.f58) 5
def Mq:List (Nat×LI):=[(5,Gz)]
def Lf(a0:AV):Tree :=
 NP a0<|.test a0.isNil (.done 0 [.cI [.agg [VS (mk []),.vec 0,VS (mk [])],VB false]] [.vec 1 []]) (NZ a0<|NZ a0<|.al (LK.has .str (a0.deref.hA)/\1<=a0.deref.length)<|NZ a0<|NZ a0<|dR (a0.deref.drop 3)<|.call 66 [((a0.deref.drop 3).hA)] [] fun r1 o1=>NS r1<|NZ a0<|NZ a0<|nF (a0.deref.drop 2)<|NL ((a0.deref.drop 2).hA)<|.loop J6 Gz [((a0.deref.drop 2).hA),VI ((((a0.deref.drop 2).hA).aN).length:Int),VI 0] [.cells [VS (mk []),.v (.slice none 0 0),VS (mk [])],.cells [VS ((a0.deref.hA).ai),.any,VS r1.ai],.vec 1 []] (fun y4 q4=>.al ((q4.hO)=.cells (q4.hO).cs)<|.al (ac [.lk .str,.lk .sl,.lk .str] ((q4.hO).cs) 0 q4.tail)<|.al (((q4.tail.drop 0).hO)=.cells ((q4.tail.drop 0).hO).cs)<|.al (ac [.lk .str,.vec 1,.lk .str] (((q4.tail.drop 0).hO).cs) 0 ((q4.tail.drop 0).tail))<|.done 0 [.cI [.agg [VS (((q4.tail.hO).cs.getD 0 .any).ai),.vec 0,VS (((q4.tail.hO).cs.getD 2 .any).ai)],VB true]] [.vec 1 ((q4.tail.tail.hO).es)]) (fun y4 q4=>.fail))
theorem Q0(a0:AV)(ha0:LK.has .ptr a0)(h:dq 38 (Lf a0) R):an Tryz.prog 58 [a0] [] R :=
 uQ (af (bu ha0) aA) (oF Mq {mu:=[],own:=[0],oa:=[.lk .str,.vec 1,.lk .str]} Tryz.f58 h)
def Fm(x23:AV)(x24:Int)(x25:Int)(o2_0:ByteArray)(o2_1:AV)(o2_2:ByteArray)(o4_0:ByteArray)(o4_1:List (List AV))(o4_2:ByteArray):Tree :=
 NL x23<|NI (VI x24)<|NI (VI x25)<|.al (Ob.cells [VS o2_0,o2_1,VS o2_2]=.cells [VS o2_0,o2_1,VS o2_2])<|.al (ac [.lk .str,.lk .sl,.lk .str] [VS o2_0,o2_1,VS o2_2] 0 [.cells [VS o4_0,.any,VS o4_2],.vec 1 o4_1])<|.al (Ob.cells [VS o4_0,.any,VS o4_2]=.cells [VS o4_0,.any,VS o4_2])<|.al (ac [.lk .str,.vec 1,.lk .str] [VS o4_0,.any,VS o4_2] 0 [.vec 1 o4_1])<|.test (decide (x25<x24)) (NG x23 x25 1<|dR (x23.ix x25)<|.call 66 [((x23.ix x25).hA)] [] fun r1 o1=>NS r1<|.al (cA 1 [[VS r1.ai]]/\((o4_1.length)+([[VS r1.ai]]:List (List AV)).length)*16<=140737488355328)<|.done 0 [x23,VI x24,VI (IntKind.wrap .i64 (x25+1))] [.cells [VS o2_0,o2_1,VS o2_2],.cells [VS o4_0,.any,VS o4_2],.vec 1 (o4_1++([[VS r1.ai]]:List (List AV)))]) (.done 1 [] [.cells [VS o2_0,o2_1,VS o2_2],.cells [VS o4_0,.any,VS o4_2],.vec 1 o4_1])
abbrev Ev:=ct Tryz.prog 38 J6 Gz
theorem KN(x23:AV)(x24:Int)(x25:Int)(o2_0:ByteArray)(o2_1:AV)(o2_2:ByteArray)(o4_0:ByteArray)(o4_1:List (List AV))(o4_2:ByteArray)(h:jw 38 (Fm x23 x24 x25 o2_0 o2_1 o2_2 o4_0 o4_1 o4_2) Ev U):Ev [x23,VI x24,VI x25] [.cells [VS o2_0,o2_1,VS o2_2],.cells [VS o4_0,.any,VS o4_2],.vec 1 o4_1] U :=
 gQ Mq h
def Lu(a0:AV)(a1:Int):Tree :=
 NP a0<|.test a0.isNil (.done 0 [.v (.pointer none)] []) (NZ a0<|NZ a0<|nF (a0.deref.drop 2)<|NL ((a0.deref.drop 2).hA)<|.test (((((a0.deref.drop 2).hA).aN).length:Int)==(50:Int)) (.done 0 [.v (.pointer none)] []) (NZ a0<|NZ a0<|dR (a0.deref.drop 1)<|NZ a0<|NZ a0<|dR (a0.deref.drop 3)<|.call 68 [((a0.deref.drop 1).hA),((a0.deref.drop 3).hA)] [] fun r1 o1=>NL r1<|.test (decide (a1<(0:Int))) (.done 0 [.v (.pointer none)] []) (NL r1<|.test (decide (a1≥(r1.aN.length:Int))) (.done 0 [.v (.pointer none)] []) (NG r1 a1 2<|dR (r1.ix a1)<|.call 75 [((r1.ix a1).hA)] [] fun r2 o2=>NI r2<|.test (decide (r2.toInt>(200:Int))) (.done 0 [.v (.pointer none)] []) (NZ a0<|NZ a0<|nF (a0.deref.drop 2)<|.al (LK.has .sl ((a0.deref.drop 2).hA)/\cA 1 (((a0.deref.drop 2).hA).aN)/\((([]:List (List AV)).length)+(((a0.deref.drop 2).hA).aN).length)*8<=140737488355328)<|NG r1 a1 2<|dR (r1.ix a1)<|.al (cA 1 [[((r1.ix a1).hA)]]/\(((([]:List (List AV))++(((a0.deref.drop 2).hA).aN)).length)+([[((r1.ix a1).hA)]]:List (List AV)).length)*8<=140737488355328)<|NZ a0<|NZ a0<|.al (LK.has .str (a0.deref.hA)/\1<=a0.deref.length)<|NZ a0<|NZ a0<|dR (a0.deref.drop 1)<|NG r1 a1 2<|dR ((r1.ix a1).drop 1)<|.done 0 [.ptr [VS ((a0.deref.hA).ai),((a0.deref.drop 1).hA),.sl ((([]:List (List AV))++(((a0.deref.drop 2).hA).aN))++([[((r1.ix a1).hA)]]:List (List AV))),(((r1.ix a1).drop 1).hA)]] [])))))
theorem PD(a0:AV)(a1:Int)(ha0:LK.has .ptr a0)(h:dq 72 (Lu a0 a1) R):an Tryz.prog 59 [a0,VI a1] [] R :=
 uQ (af (bu ha0) (af (au _) aA)) (oQ [] Tryz.f59 h)
def Fl:LI:={hd:={bD:=[(0,.k .sl),(1,.k (.int .i64)),(5,.k (.int .i64))]},xs:={bD:=[(1,.k (.int .i64))]},rt:={bD:=[(4,.k (.int .i64))]},ex:=0}
def KE:Code:=cz (cu Tryz.f60) 2
def Me:List (Nat×LI):=[(2,Fl)]
def HV(a0:AV)(a1:Int):Tree :=
 .loop KE Fl [a0,VI a1,VI 0] [] (fun y2 q2=>NI (y2.hA)<|.done 0 [VI ((y2.hA).toInt)] []) (fun y2 q2=>NI (y2.hA)<|.done 0 [VI ((y2.hA).toInt)] [])
theorem PQ(a0:AV)(a1:Int)(ha0:LK.has .sl a0)(h:dq 22 (HV a0 a1) R):an Tryz.prog 60 [a0,VI a1] [] R :=
 uQ (af (bY ha0) (af (au _) aA)) (oQ Me Tryz.f60 h)
def Ga(x0:AV)(x1:Int)(x5:Int):Tree :=
 NL x0<|NI (VI x1)<|NI (VI x5)<|NL x0<|.test (decide (x5<(x0.aN.length:Int))) (NG x0 x5 1<|kA (x0.ix x5)<|.call 78 [VI x1] [] fun r1 o1=>NS r1<|.test (!(ae (((x0.ix x5).hA).ai)==ae r1.ai)) (.done 2 [VI (-1)] []) (.done 0 [x0,VI (IntKind.wrap .i64 (x1+1)),VI (IntKind.wrap .i64 (x5+1))] [])) (.done 1 [VI x1] [])
abbrev Gh:=ct Tryz.prog 22 KE Fl
theorem MO(x0:AV)(x1:Int)(x5:Int)(h:jw 22 (Ga x0 x1 x5) Gh U):Gh [x0,VI x1,VI x5] [] U :=
 gQ Me h
def Hf:LI:={hd:={bD:=[(5,.k .str),(45,.k .sl),(46,.k (.int .i64)),(47,.k (.int .i64))],refs:=[(7,43)],cm:=[(43,[.lk .str,.lk .ptr,.vec 1,.lk .ptr])]},xs:={refs:=[(7,43)],cm:=[(43,[.lk .str,.lk .ptr,.vec 1,.lk .ptr])]},rt:={bD:=[(2,.k .ptr)]},ex:=0}
def JY:Code:=cz (cu Tryz.f63) 7
def Je:List (Nat×LI):=[(7,Hf)]
def Mt(a0_0:ByteArray)(a0_1:AV)(a0_2:ByteArray):Tree :=
 .call 84 [VS a0_0,VS a0_2] [] fun r1 o1=>NT r1<|NP (r1.comp 0)<|NP (r1.comp 1)<|.call 85 [VS a0_0] [] fun r2 o2=>NT r2<|NS (r2.comp 0)<|NB (r2.comp 1)<|NP (r1.comp 1)<|.test ((r1.comp 1).isNil) (.done 0 [.v (.pointer none)] []) (.test (!((r2.comp 1).toBool)) (.done 0 [.v (.pointer none)] []) (NL a0_1<|.test (decide ((a0_1.aN.length:Int)>(50:Int))) (.done 0 [.v (.pointer none)] []) (NL a0_1<|.loop JY Hf [VS ((r2.comp 0).ai),a0_1,VI (a0_1.aN.length:Int),VI 0] [.cells [VS a0_0,(r1.comp 0),.any,(r1.comp 1)],.vec 1 []] (fun y5 q5=>.al ((q5.hO)=.cells (q5.hO).cs)<|.al (ac [.lk .str,.lk .ptr,.vec 1,.lk .ptr] ((q5.hO).cs) 0 q5.tail)<|.done 0 [.ptr [VS (((q5.hO).cs.getD 0 .any).ai),((q5.hO).cs.getD 1 .any),.sl ((q5.tail.hO).es),((q5.hO).cs.getD 3 .any)]] []) (fun y5 q5=>NP (y5.hA)<|.done 0 [(y5.hA)] []))))
theorem Pr(a0_0:ByteArray)(a0_1:AV)(a0_2:ByteArray)(ha0_1:LK.has .sl a0_1)(h:dq 71 (Mt a0_0 a0_1 a0_2) R):an Tryz.prog 63 [.agg [VS a0_0,a0_1,VS a0_2]] [] R :=
 uQ (af (bT (af (au _) (af (bY ha0_1) (af (au _) aA)))) aA) (oQ Je Tryz.f63 h)
def FP(x5:ByteArray)(x45:AV)(x46:Int)(x47:Int)(o43_0:ByteArray)(o43_1:AV)(o43_2:List (List AV))(o43_3:AV):Tree :=
 NS (VS x5)<|NL x45<|NI (VI x46)<|NI (VI x47)<|.al (Ob.cells [VS o43_0,o43_1,.any,o43_3]=.cells [VS o43_0,o43_1,.any,o43_3])<|.al (ac [.lk .str,.lk .ptr,.vec 1,.lk .ptr] [VS o43_0,o43_1,.any,o43_3] 0 [.vec 1 o43_2])<|.test (decide (x47<x46)) (NG x45 x47 1<|kA (x45.ix x47)<|.call 71 [VS x5,VS (((x45.ix x47).hA).ai),VI 100] [] fun r1 o1=>NT r1<|NP (r1.comp 0)<|NP (r1.comp 1)<|NP (r1.comp 1)<|.test ((r1.comp 1).isNil) (.done 2 [.v (.pointer none)] []) (.al (cA 1 [[(r1.comp 1)]]/\((o43_2.length)+([[(r1.comp 1)]]:List (List AV)).length)*8<=140737488355328)<|.done 0 [VS x5,x45,VI x46,VI (IntKind.wrap .i64 (x47+1))] [.cells [VS o43_0,o43_1,.any,o43_3],.vec 1 (o43_2++([[(r1.comp 1)]]:List (List AV)))])) (.done 1 [] [.cells [VS o43_0,o43_1,.any,o43_3],.vec 1 o43_2])
abbrev Ej:=ct Tryz.prog 71 JY Hf
theorem Jt(x5:ByteArray)(x45:AV)(x46:Int)(x47:Int)(o43_0:ByteArray)(o43_1:AV)(o43_2:List (List AV))(o43_3:AV)(h:jw 71 (FP x5 x45 x46 x47 o43_0 o43_1 o43_2 o43_3) Ej U):Ej [VS x5,x45,VI x46,VI x47] [.cells [VS o43_0,o43_1,.any,o43_3],.vec 1 o43_2] U :=
 gQ Je h
def J8(a0_0:ByteArray)(a0_1:AV)(a0_2:ByteArray):Tree :=
 .call 41 [.agg [VS a0_0,a0_1,VS a0_2]] [] fun r1 o1=>NB r1<|.test (!r1.toBool) (.done 0 [.cI [.agg [VS (mk []),.v (.slice none 0 0),VS (mk [])],VB false]] []) (.done 0 [.cI [.agg [VS a0_0,a0_1,VS a0_2],VB true]] [])
theorem Qe(a0_0:ByteArray)(a0_1:AV)(a0_2:ByteArray)(ha0_1:LK.has .sl a0_1)(h:dq 9 (J8 a0_0 a0_1 a0_2) R):an Tryz.prog 64 [.agg [VS a0_0,a0_1,VS a0_2]] [] R :=
 uQ (af (bT (af (au _) (af (bY ha0_1) (af (au _) aA)))) aA) (oQ [] Tryz.f64 h)
def Ez(a0:AV):Tree :=
 NZ a0<|NZ a0<|.al (LK.has (.int .u8) (a0.deref.hA)/\1<=a0.deref.length)<|.test (((a0.deref.hA).toInt)==(117:Int)) (.done 0 [VS (mk [117])] []) (.test (((a0.deref.hA).toInt)==(101:Int)) (NZ a0<|NZ a0<|kA (a0.deref.drop 1)<|.done 0 [VS (((a0.deref.drop 1).hA).ai)] []) (.test (((a0.deref.hA).toInt)==(112:Int)) (NZ a0<|NZ a0<|dR (a0.deref.drop 2)<|.call 66 [((a0.deref.drop 2).hA)] [] fun r1 o1=>NS r1<|.al (ag (mk [40,112,32])+ag r1.ai<=9223372036854775807)<|.al (ag (((mk [40,112,32]):ByteArray)++r1.ai)+ag (mk [32])<=9223372036854775807)<|NZ a0<|NZ a0<|dR (a0.deref.drop 3)<|.call 66 [((a0.deref.drop 3).hA)] [] fun r2 o2=>NS r2<|.al (ag (((((mk [40,112,32]):ByteArray)++r1.ai):ByteArray)++(mk [32]))+ag r2.ai<=9223372036854775807)<|.al (ag (((((((mk [40,112,32]):ByteArray)++r1.ai):ByteArray)++(mk [32])):ByteArray)++r2.ai)+ag (mk [41])<=9223372036854775807)<|.done 0 [VS (((((((((mk [40,112,32]):ByteArray)++r1.ai):ByteArray)++(mk [32])):ByteArray)++r2.ai):ByteArray)++(mk [41]))] []) (NZ a0<|NZ a0<|.al (LK.has (.int .u8) (a0.deref.hA)/\1<=a0.deref.length)<|.al (ja [[.v (.int .u8 ((a0.deref.hA).toInt))]])<|.al (ag (mk [40])+ag (⟨(bytesOf [[.v (.int .u8 ((a0.deref.hA).toInt))]]).toArray⟩)<=9223372036854775807)<|.al (ag (((mk [40]):ByteArray)++(⟨(bytesOf [[.v (.int .u8 ((a0.deref.hA).toInt))]]).toArray⟩))+ag (mk [32])<=9223372036854775807)<|NZ a0<|NZ a0<|dR (a0.deref.drop 2)<|.call 66 [((a0.deref.drop 2).hA)] [] fun r3 o3=>NS r3<|.al (ag (((((mk [40]):ByteArray)++(⟨(bytesOf [[.v (.int .u8 ((a0.deref.hA).toInt))]]).toArray⟩)):ByteArray)++(mk [32]))+ag r3.ai<=9223372036854775807)<|.al (ag (((((((mk [40]):ByteArray)++(⟨(bytesOf [[.v (.int .u8 ((a0.deref.hA).toInt))]]).toArray⟩)):ByteArray)++(mk [32])):ByteArray)++r3.ai)+ag (mk [41])<=9223372036854775807)<|.done 0 [VS (((((((((mk [40]):ByteArray)++(⟨(bytesOf [[.v (.int .u8 ((a0.deref.hA).toInt))]]).toArray⟩)):ByteArray)++(mk [32])):ByteArray)++r3.ai):ByteArray)++(mk [41]))] [])))
theorem yW(a0:AV)(ha0:LK.has .ptr a0)(h:dq 46 (Ez a0) R):an Tryz.prog 66 [a0] [] R :=
 uQ (af (bu ha0) aA) (oQ [] Tryz.f66 h)
def JU(a0:AV)(a1:AV):Tree :=
 .call 86 [.agg [a0,.v (.pointer none)]] [] fun r1 o1=>NT r1<|.al ((r1.comp 0)=.agg (r1.comp 0).cs/\(r1.comp 0).cs.length=2/\bB [.ptr,.ptr] ((r1.comp 0).cs) 0)<|NP (r1.comp 1)<|NZ a1<|NZ a1<|dR (a1.deref.drop 2)<|.call 87 [.agg [((r1.comp 0).cs.getD 0 .any),((r1.comp 0).cs.getD 1 .any)],((a1.deref.drop 2).hA),.agg [VS (mk []),(r1.comp 1)]] [] fun r2 o2=>NL r2<|.done 0 [r2] []
theorem QT(a0:AV)(a1:AV)(ha0:LK.has .ptr a0)(ha1:LK.has .ptr a1)(h:dq 21 (JU a0 a1) R):an Tryz.prog 68 [a0,a1] [] R :=
 uQ (af (bu ha0) (af (bu ha1) aA)) (oQ [] Tryz.f68 h)
def Nl(a0:ByteArray)(a1:ByteArray):Tree :=
 .call 88 [VS a0] [] fun r1 o1=>NT r1<|.al ((r1.comp 0)=.agg (r1.comp 0).cs/\(r1.comp 0).cs.length=2/\bB [.str,.sl] ((r1.comp 0).cs) 0)<|NB (r1.comp 1)<|.call 89 [VS a1] [] fun r2 o2=>NT r2<|.al ((r2.comp 0)=.agg (r2.comp 0).cs/\(r2.comp 0).cs.length=2/\bB [.str,.sl] ((r2.comp 0).cs) 0)<|NB (r2.comp 1)<|.test (!((r1.comp 1).toBool)) (.done 0 [.cI [.sl [],VB false]] []) (.call 90 [VS a0,VS a1,VI 100] [] fun r3 o3=>NB r3<|.test (!r3.toBool) (.done 0 [.cI [.sl [],VB false]] []) (NG ((r1.comp 0).cs.getD 1 .any) 2 2<|NE (((r1.comp 0).cs.getD 1 .any).ix (2:Int))<|NG ((r1.comp 0).cs.getD 1 .any) 1 2<|kA (((r1.comp 0).cs.getD 1 .any).ix (1:Int))<|NG ((r2.comp 0).cs.getD 1 .any) 1 2<|NE (((r2.comp 0).cs.getD 1 .any).ix (1:Int))<|.call 92 [.agg [VS (((((r1.comp 0).cs.getD 1 .any).ix (2:Int)).getD 0 .any).ai),((((r1.comp 0).cs.getD 1 .any).ix (2:Int)).getD 1 .any)],VS (((((r1.comp 0).cs.getD 1 .any).ix (1:Int)).hA).ai),.agg [VS (((((r2.comp 0).cs.getD 1 .any).ix (1:Int)).getD 0 .any).ai),((((r2.comp 0).cs.getD 1 .any).ix (1:Int)).getD 1 .any)]] [] fun r4 o4=>NL r4<|.call 91 [r4] [] fun r5 o5=>NL r5<|.done 0 [.cI [r5,VB true]] []))
theorem Pg(a0:ByteArray)(a1:ByteArray)(h:dq 44 (Nl a0 a1) R):an Tryz.prog 69 [VS a0,VS a1] [] R :=
 uQ (af (au _) (af (au _) aA)) (oQ [] Tryz.f69 h)
def GO:LI:={hd:={refs:=[(1,1),(2,2)],cm:=[(1,[.lk .str,.lk .sl,.lk .str]),(2,[.lk .str,.lk .sl,.lk .str])]},xs:={refs:=[(1,1),(2,2)],cm:=[(1,[.lk .str,.lk .sl,.lk .str]),(2,[.lk .str,.lk .sl,.lk .str])]},rt:={bD:=[(3,.k .bool)],refs:=[(2,2)],cm:=[(2,[.lk .str,.lk .sl,.lk .str])]},ex:=0}
def LS:Code:=cz (cu Tryz.f70) 1
def Iv:List (Nat×LI):=[(1,GO)]
def Lm(a0_0:ByteArray)(a0_1:AV)(a0_2:ByteArray):Tree :=
 .loop LS GO [] [.cells [VS a0_0,a0_1,VS a0_2],.cells [VS (mk []),.v (.slice none 0 0),VS (mk [])]] (fun y2 q2=>.al ((q2.hO)=.cells (q2.hO).cs)<|.al (ac [.lk .str,.lk .sl,.lk .str] ((q2.hO).cs) 0 q2.tail)<|.al (((q2.tail.drop 0).hO)=.cells ((q2.tail.drop 0).hO).cs)<|.al (ac [.lk .str,.lk .sl,.lk .str] (((q2.tail.drop 0).hO).cs) 0 ((q2.tail.drop 0).tail))<|.done 0 [.cI [.agg [VS (((q2.hO).cs.getD 0 .any).ai),((q2.hO).cs.getD 1 .any),VS (((q2.hO).cs.getD 2 .any).ai)],VB true]] []) (fun y2 q2=>NB (y2.hA)<|.al ((q2.hO)=.cells (q2.hO).cs)<|.al (ac [.lk .str,.lk .sl,.lk .str] ((q2.hO).cs) 0 q2.tail)<|.done 0 [.cI [.agg [VS (((q2.hO).cs.getD 0 .any).ai),((q2.hO).cs.getD 1 .any),VS (((q2.hO).cs.getD 2 .any).ai)],VB ((y2.hA).toBool)]] [])
theorem OA(a0_0:ByteArray)(a0_1:AV)(a0_2:ByteArray)(ha0_1:LK.has .sl a0_1)(h:dq 20 (Lm a0_0 a0_1 a0_2) R):an Tryz.prog 70 [.agg [VS a0_0,a0_1,VS a0_2]] [] R :=
 uQ (af (bT (af (au _) (af (bY ha0_1) (af (au _) aA)))) aA) (oQ Iv Tryz.f70 h)
def Fp(o1_0:ByteArray)(o1_1:AV)(o1_2:ByteArray)(o2_0:ByteArray)(o2_1:AV)(o2_2:ByteArray):Tree :=
 .al (Ob.cells [VS o1_0,o1_1,VS o1_2]=.cells [VS o1_0,o1_1,VS o1_2])<|.al (ac [.lk .str,.lk .sl,.lk .str] [VS o1_0,o1_1,VS o1_2] 0 [.cells [VS o2_0,o2_1,VS o2_2]])<|.al (Ob.cells [VS o2_0,o2_1,VS o2_2]=.cells [VS o2_0,o2_1,VS o2_2])<|.al (ac [.lk .str,.lk .sl,.lk .str] [VS o2_0,o2_1,VS o2_2] 0 [])<|NL o1_1<|.test (decide ((o1_1.aN.length:Int)>(0:Int))) (.call 43 [.agg [VS o1_0,o1_1,VS o1_2]] [] fun r1 o1=>NT r1<|.al ((r1.comp 0)=.agg (r1.comp 0).cs/\(r1.comp 0).cs.length=3/\bB [.str,.sl,.str] ((r1.comp 0).cs) 0)<|NB (r1.comp 1)<|.test (!((r1.comp 1).toBool)) (.done 2 [VB false] [.cells [VS o1_0,o1_1,VS o1_2]]) (.done 0 [] [.cells [VS (((r1.comp 0).cs.getD 0 .any).ai),((r1.comp 0).cs.getD 1 .any),VS (((r1.comp 0).cs.getD 2 .any).ai)],.cells [VS o2_0,o2_1,VS o2_2]])) (.done 1 [] [.cells [VS o1_0,o1_1,VS o1_2],.cells [VS o2_0,o2_1,VS o2_2]])
abbrev Ef:=ct Tryz.prog 20 LS GO
theorem KJ(o1_0:ByteArray)(o1_1:AV)(o1_2:ByteArray)(o2_0:ByteArray)(o2_1:AV)(o2_2:ByteArray)(h:jw 20 (Fp o1_0 o1_1 o1_2 o2_0 o2_1 o2_2) Ef U):Ef [] [.cells [VS o1_0,o1_1,VS o1_2],.cells [VS o2_0,o2_1,VS o2_2]] U :=
 gQ Iv h
def Nj(a0:ByteArray)(a1:ByteArray)(a2:Int):Tree :=
 .call 93 [VS a0] [] fun r1 o1=>NP r1<|.call 94 [VS a1] [] fun r2 o2=>NP r2<|NP r1<|.test r1.isNil (.done 0 [.cI [r1,.v (.pointer none)]] []) (NP r2<|.test r2.isNil (.done 0 [.cI [r1,.v (.pointer none)]] []) (.test (decide (a2<(0:Int))) (.done 0 [.cI [r1,.v (.pointer none)]] []) (.test (decide (a2>(100:Int))) (.done 0 [.cI [r1,.v (.pointer none)]] []) (.call 95 [.agg [r1,.v (.pointer none)],r2,VI a2] [] fun r3 o3=>NB r3<|.test (!r3.toBool) (.done 0 [.cI [r1,.v (.pointer none)]] []) (.done 0 [.cI [r1,r2]] [])))))
theorem Ox(a0:ByteArray)(a1:ByteArray)(a2:Int)(h:dq 39 (Nj a0 a1 a2) R):an Tryz.prog 71 [VS a0,VS a1,VI a2] [] R :=
 uQ (af (au _) (af (au _) (af (au _) aA))) (oQ [] Tryz.f71 h)
def EH:LI:={hd:={bD:=[(3,.k .str),(7,.k (.int .i64))],refs:=[(1,1)],cm:=[(1,[.lk .str,.lk .sl,.lk .str])]},xs:={},rt:={bD:=[(2,.k .bool)]},ex:=0}
def LG:Code:=cz (cu Tryz.f72) 6
def ID:List (Nat×LI):=[(6,EH)]
def J2(a0_0:ByteArray)(a0_1:AV)(a0_2:ByteArray):Tree :=
 .call 96 [VS a0_0] [] fun r1 o1=>NT r1<|NS (r1.comp 0)<|NB (r1.comp 1)<|.call 88 [VS a0_0] [] fun r2 o2=>NT r2<|.al ((r2.comp 0)=.agg (r2.comp 0).cs/\(r2.comp 0).cs.length=2/\bB [.str,.sl] ((r2.comp 0).cs) 0)<|NB (r2.comp 1)<|.test (!((r1.comp 1).toBool)) (.done 0 [VB false] []) (.test (!((r2.comp 1).toBool)) (.done 0 [VB false] []) (NL a0_1<|.test (decide ((a0_1.aN.length:Int)>(50:Int))) (.done 0 [VB false] []) (.call 90 [VS a0_0,VS a0_2,VI 100] [] fun r3 o3=>NB r3<|.test (!r3.toBool) (.done 0 [VB false] []) (.loop LG EH [VS ((r1.comp 0).ai),VI 0] [.cells [VS a0_0,a0_1,VS a0_2]] (fun y5 q5=>.done 0 [VB true] []) (fun y5 q5=>NB (y5.hA)<|.done 0 [VB ((y5.hA).toBool)] [])))))
theorem PW(a0_0:ByteArray)(a0_1:AV)(a0_2:ByteArray)(ha0_1:LK.has .sl a0_1)(h:dq 55 (J2 a0_0 a0_1 a0_2) R):an Tryz.prog 72 [.agg [VS a0_0,a0_1,VS a0_2]] [] R :=
 uQ (af (bT (af (au _) (af (bY ha0_1) (af (au _) aA)))) aA) (oQ ID Tryz.f72 h)
def GX(x3:ByteArray)(x7:Int)(o1_0:ByteArray)(o1_1:AV)(o1_2:ByteArray):Tree :=
 NS (VS x3)<|NI (VI x7)<|.al (Ob.cells [VS o1_0,o1_1,VS o1_2]=.cells [VS o1_0,o1_1,VS o1_2])<|.al (ac [.lk .str,.lk .sl,.lk .str] [VS o1_0,o1_1,VS o1_2] 0 [])<|NL o1_1<|.test (decide (x7<(o1_1.aN.length:Int))) (NG o1_1 x7 1<|kA (o1_1.ix x7)<|.call 90 [VS x3,VS (((o1_1.ix x7).hA).ai),VI 100] [] fun r1 o1=>NB r1<|.test (!r1.toBool) (.done 2 [VB false] []) (.done 0 [VS x3,VI (IntKind.wrap .i64 (x7+1))] [.cells [VS o1_0,o1_1,VS o1_2]])) (.done 1 [] [])
abbrev FN:=ct Tryz.prog 55 LG EH
theorem Mg(x3:ByteArray)(x7:Int)(o1_0:ByteArray)(o1_1:AV)(o1_2:ByteArray)(h:jw 55 (GX x3 x7 o1_0 o1_1 o1_2) FN U):FN [VS x3,VI x7] [.cells [VS o1_0,o1_1,VS o1_2]] U :=
 gQ ID h
def Md(a0:ByteArray)(a1:ByteArray)(a2:ByteArray):Tree :=
 .call 88 [VS a0] [] fun r1 o1=>NT r1<|.al ((r1.comp 0)=.agg (r1.comp 0).cs/\(r1.comp 0).cs.length=2/\bB [.str,.sl] ((r1.comp 0).cs) 0)<|NB (r1.comp 1)<|.call 96 [VS a0] [] fun r2 o2=>NT r2<|NS (r2.comp 0)<|NB (r2.comp 1)<|.test (!((r1.comp 1).toBool)) (.done 0 [.cI [VS (mk []),VB false]] []) (.test (!((r2.comp 1).toBool)) (.done 0 [.cI [VS (mk []),VB false]] []) (.call 90 [VS ((r2.comp 0).ai),VS a1,VI 100] [] fun r3 o3=>NB r3<|.test (!r3.toBool) (.done 0 [.cI [VS (mk []),VB false]] []) (.call 90 [VS a0,VS a2,VI 100] [] fun r4 o4=>NB r4<|.test (!r4.toBool) (.done 0 [.cI [VS (mk []),VB false]] []) (.call 89 [VS a1] [] fun r5 o5=>NT r5<|.al ((r5.comp 0)=.agg (r5.comp 0).cs/\(r5.comp 0).cs.length=2/\bB [.str,.sl] ((r5.comp 0).cs) 0)<|NB (r5.comp 1)<|.call 89 [VS a2] [] fun r6 o6=>NT r6<|.al ((r6.comp 0)=.agg (r6.comp 0).cs/\(r6.comp 0).cs.length=2/\bB [.str,.sl] ((r6.comp 0).cs) 0)<|NB (r6.comp 1)<|NG ((r1.comp 0).cs.getD 1 .any) 2 2<|NE (((r1.comp 0).cs.getD 1 .any).ix (2:Int))<|NG ((r1.comp 0).cs.getD 1 .any) 1 2<|kA (((r1.comp 0).cs.getD 1 .any).ix (1:Int))<|.call 99 [.agg [VS (((((r1.comp 0).cs.getD 1 .any).ix (2:Int)).getD 0 .any).ai),((((r1.comp 0).cs.getD 1 .any).ix (2:Int)).getD 1 .any)],VS (((((r1.comp 0).cs.getD 1 .any).ix (1:Int)).hA).ai),.agg [VS (((r5.comp 0).cs.getD 0 .any).ai),((r5.comp 0).cs.getD 1 .any)],.agg [VS (((r6.comp 0).cs.getD 0 .any).ai),((r6.comp 0).cs.getD 1 .any)]] [] fun r7 o7=>NA r7<|.call 98 [VS (mk [102]),.sl [[VS ((r7.cs.getD 0 .any).ai),(r7.cs.getD 1 .any)]]] [] fun r8 o8=>NA r8<|.call 97 [.agg [VS ((r8.cs.getD 0 .any).ai),(r8.cs.getD 1 .any)]] [] fun r9 o9=>NS r9<|.call 90 [VS a0,VS r9.ai,VI 100] [] fun r10 o10=>NB r10<|.test (!r10.toBool) (.done 0 [.cI [VS (mk []),VB false]] []) (.done 0 [.cI [VS r9.ai,VB true]] [])))))
theorem N8(a0:ByteArray)(a1:ByteArray)(a2:ByteArray)(h:dq 75 (Md a0 a1 a2) R):an Tryz.prog 73 [VS a0,VS a1,VS a2] [] R :=
 uQ (af (au _) (af (au _) (af (au _) aA))) (oQ [] Tryz.f73 h)
def JN(a0:AV)(a1:AV)(a2:AV):Tree :=
 .call 86 [.agg [a0,.v (.pointer none)]] [] fun r1 o1=>NT r1<|.al ((r1.comp 0)=.agg (r1.comp 0).cs/\(r1.comp 0).cs.length=2/\bB [.ptr,.ptr] ((r1.comp 0).cs) 0)<|NP (r1.comp 1)<|.call 101 [.agg [((r1.comp 0).cs.getD 0 .any),((r1.comp 0).cs.getD 1 .any)],a1,.agg [VS (mk []),(r1.comp 1)],a2] [] fun r2 o2=>NP r2<|.call 100 [.v (.int .u8 102),r2] [] fun r3 o3=>NP r3<|.done 0 [r3] []
theorem QQ(a0:AV)(a1:AV)(a2:AV)(ha0:LK.has .ptr a0)(ha1:LK.has .ptr a1)(ha2:LK.has .ptr a2)(h:dq 22 (JN a0 a1 a2) R):an Tryz.prog 74 [a0,a1,a2] [] R :=
 uQ (af (bu ha0) (af (bu ha1) (af (bu ha2) aA))) (oQ [] Tryz.f74 h)
def wt(a0:AV):Tree :=
 NZ a0<|NZ a0<|dR (a0.deref.drop 2)<|NP ((a0.deref.drop 2).hA)<|.test (!((a0.deref.drop 2).hA).isNil) (NZ a0<|NZ a0<|dR (a0.deref.drop 2)<|.call 75 [((a0.deref.drop 2).hA)] [] fun r1 o1=>NI r1<|NZ a0<|NZ a0<|dR (a0.deref.drop 3)<|NP ((a0.deref.drop 3).hA)<|.test (!((a0.deref.drop 3).hA).isNil) (NZ a0<|NZ a0<|dR (a0.deref.drop 3)<|.call 75 [((a0.deref.drop 3).hA)] [] fun r2 o2=>NI r2<|.done 0 [VI (IntKind.wrap .i64 ((IntKind.wrap .i64 (1+r1.toInt))+r2.toInt))] []) (.done 0 [VI (IntKind.wrap .i64 (1+r1.toInt))] [])) (NZ a0<|NZ a0<|dR (a0.deref.drop 3)<|NP ((a0.deref.drop 3).hA)<|.test (!((a0.deref.drop 3).hA).isNil) (NZ a0<|NZ a0<|dR (a0.deref.drop 3)<|.call 75 [((a0.deref.drop 3).hA)] [] fun r3 o3=>NI r3<|.done 0 [VI (IntKind.wrap .i64 (1+r3.toInt))] []) (.done 0 [VI 1] []))
theorem zd(a0:AV)(ha0:LK.has .ptr a0)(h:dq 29 (wt a0) R):an Tryz.prog 75 [a0] [] R :=
 uQ (af (bu ha0) aA) (oQ [] Tryz.f75 h)
def Hk:LI:={hd:={bD:=[(0,.k .sl),(7,.k (.int .i64)),(8,.k (.int .i64))],cm:=[(0,[.lk .str])],zC:=[(1,77,[0])]},xs:={cm:=[(0,[.lk .str])]},rt:={bD:=[(4,.k (.int .i64))],cm:=[(0,[.lk .str])]},ex:=0,fx:=[0]}
def JW:Code:=cz (cu Tryz.f76) 2
def Nh:List (Nat×LI):=[(2,Hk)]
def JT(a0:AV)(a1_0_0:ByteArray):Tree :=
 NL a0<|.loop JW Hk [a0,VI (a0.aN.length:Int),VI 0] [.cells [VS a1_0_0]] (fun y2 q2=>.al ((q2.hO)=.cells (q2.hO).cs)<|.al (ac [.lk .str] ((q2.hO).cs) 0 q2.tail)<|.done 0 [VI (-1)] [.cells [VS (((q2.hO).cs.getD 0 .any).ai)]]) (fun y2 q2=>NI (y2.hA)<|.al ((q2.hO)=.cells (q2.hO).cs)<|.al (ac [.lk .str] ((q2.hO).cs) 0 q2.tail)<|.done 0 [VI ((y2.hA).toInt)] [.cells [VS (((q2.hO).cs.getD 0 .any).ai)]])
theorem Pj(a0:AV)(a1_0_0:ByteArray)(ha0:LK.has .sl a0)(h:dq 19 (JT a0 a1_0_0) R):an Tryz.prog 76 [a0,.fn 77 [.ref 0 0]] [.cells [VS a1_0_0]] R :=
 an.ru (bQ (cN (af (au _) aA)) dc) (an.up (af (bY ha0) (af (au _) aA)) (oF Nh {mu:=[(1,.fn [some (.obj [.lk .str])])],own:=[]} Tryz.f76 h))
def E3(x0:AV)(x7:Int)(x8:Int)(o0_0:ByteArray):Tree :=
 NL x0<|NI (VI x7)<|NI (VI x8)<|.al (Ob.cells [VS o0_0]=.cells [VS o0_0])<|.al (ac [.lk .str] [VS o0_0] 0 [])<|.test (decide (x8<x7)) (NG x0 x8 2<|.al (bB [.ptr,.ptr] (x0.ix x8) 0/\2<=(x0.ix x8).length)<|.call 77 [.agg [((x0.ix x8).getD 0 .any),((x0.ix x8).getD 1 .any)],.ref 0 0] [.cells [VS o0_0]] fun r1 o1=>.al ((o1.hO)=.cells (o1.hO).cs)<|.al (bn [.lk .str] ((o1.hO).cs) 0 1 o1.tail)<|NB r1<|.test r1.toBool (.done 2 [VI x8] [.cells [VS (((o1.hO).cs.getD 0 .any).ai)]]) (.done 0 [x0,VI x7,VI (IntKind.wrap .i64 (x8+1))] [.cells [VS (((o1.hO).cs.getD 0 .any).ai)]])) (.done 1 [] [.cells [VS o0_0]])
abbrev Hx:=ct Tryz.prog 19 JW Hk
theorem Kh(x0:AV)(x7:Int)(x8:Int)(o0_0:ByteArray)(h:jw 19 (E3 x0 x7 x8 o0_0) Hx U):Hx [x0,VI x7,VI x8] [.cells [VS o0_0]] U :=
 gQ Nh h
def H9(a0_0:AV)(a0_1:AV)(a1_0:ByteArray):Tree :=
 .call 66 [a0_0] [] fun r1 o1=>NS r1<|.done 0 [VB (ae r1.ai==ae a1_0)] [.cells [VS a1_0]]
theorem PO(a0_0:AV)(a0_1:AV)(a1_0:ByteArray)(ha0_0:LK.has .ptr a0_0)(ha0_1:LK.has .ptr a0_1)(h:dq 9 (H9 a0_0 a0_1 a1_0) R):an Tryz.prog 77 [.agg [a0_0,a0_1],.ref 0 0] [.cells [VS a1_0]] R :=
 an.ru (bQ (cN (af (au _) aA)) dc) (an.up (af (bT (af (bu ha0_0) (af (bu ha0_1) aA))) (af (au _) aA)) (oF [] {mu:=[(1,.one (.obj [.lk .str]))],own:=[]} Tryz.f77 h))
def Hc:LI:={hd:={bD:=[(0,.k (.int .i64)),(3,.k .str)]},xs:={bD:=[(3,.k .str)]},rt:={},ex:=0}
def NK:Code:=cz (cu Tryz.f78) 4
def K6:List (Nat×LI):=[(4,Hc)]
def IK(a0:Int):Tree :=
 .test (decide (a0<=(0:Int))) (.done 0 [VS (mk [109,48])] []) (.loop NK Hc [VI a0,VS (mk [])] [] (fun y1 q1=>NS (y1.hA)<|.al (ag (mk [109])+ag ((y1.hA).ai)<=9223372036854775807)<|.done 0 [VS (((mk [109]):ByteArray)++((y1.hA).ai))] []) (fun y1 q1=>.done 0 [.any] []))
theorem Qq(a0:Int)(h:dq 20 (IK a0) R):an Tryz.prog 78 [VI a0] [] R :=
 uQ (af (au _) aA) (oQ K6 Tryz.f78 h)
def LU(x0:Int)(x3:ByteArray):Tree :=
 NI (VI x0)<|NS (VS x3)<|.test (decide (x0>(0:Int))) (.al (¬(10:Int)=0)<|.al (ja [[.v (.int .u8 (IntKind.wrap .u8 (IntKind.wrap .i64 (48+(Int.tmod x0 10)))))]])<|.al (ag (⟨(bytesOf [[.v (.int .u8 (IntKind.wrap .u8 (IntKind.wrap .i64 (48+(Int.tmod x0 10)))))]]).toArray⟩)+ag x3<=9223372036854775807)<|.al (¬(10:Int)=0)<|.done 0 [VI (IntKind.wrap .i64 (Int.tdiv x0 10)),VS (((⟨(bytesOf [[.v (.int .u8 (IntKind.wrap .u8 (IntKind.wrap .i64 (48+(Int.tmod x0 10)))))]]).toArray⟩):ByteArray)++x3)] []) (.done 1 [VS x3] [])
abbrev Cu:=ct Tryz.prog 20 NK Hc
theorem OI(x0:Int)(x3:ByteArray)(h:jw 20 (LU x0 x3) Cu U):Cu [VI x0,VS x3] [] U :=
 gQ K6 h
def Ha(a0:AV)(a1:ByteArray):Tree :=
 .al (LK.has .sl a0/\cA 1 a0.aN/\((([]:List (List AV)).length)+a0.aN.length)*16<=140737488355328)<|.al (cA 1 [[VS a1]]/\(((([]:List (List AV))++a0.aN).length)+([[VS a1]]:List (List AV)).length)*16<=140737488355328)<|.done 0 [.sl ((([]:List (List AV))++a0.aN)++([[VS a1]]:List (List AV)))] []
theorem MV(a0:AV)(a1:ByteArray)(ha0:LK.has .sl a0)(h:dq 11 (Ha a0 a1) R):an Tryz.prog 79 [a0,VS a1] [] R :=
 uQ (af (bY ha0) (af (au _) aA)) (oQ [] Tryz.f79 h)
def J3(a0:ByteArray)(a1:ByteArray):Tree :=
 .call 107 [VS a0] [] fun r1 o1=>NP r1<|NP r1<|.test r1.isNil (.done 0 [.cI [.v (.pointer none),.v (.pointer none)]] []) (.call 71 [VS a0,VS a1,VI 100] [] fun r2 o2=>NT r2<|NP (r2.comp 0)<|NP (r2.comp 1)<|.done 0 [.cI [(r2.comp 0),(r2.comp 1)]] [])
theorem PH(a0:ByteArray)(a1:ByteArray)(h:dq 14 (J3 a0 a1) R):an Tryz.prog 84 [VS a0,VS a1] [] R :=
 uQ (af (au _) (af (au _) aA)) (oQ [] Tryz.f84 h)
def JH(a0:ByteArray):Tree :=
 .call 108 [VS a0] [] fun r1 o1=>NP r1<|NP r1<|.test r1.isNil (.done 0 [.cI [VS (mk []),VB false]] []) (NZ r1<|NZ r1<|.al (LK.has (.int .u8) (r1.deref.hA)/\1<=r1.deref.length)<|.test (((r1.deref.hA).toInt) != (114:Int)) (.done 0 [.cI [VS (mk []),VB false]] []) (.call 109 [r1] [] fun r2 o2=>NT r2<|NP (r2.comp 0)<|NB (r2.comp 1)<|.test (!((r2.comp 1).toBool)) (.done 0 [.cI [VS (mk []),VB false]] []) (.call 110 [(r2.comp 0)] [] fun r3 o3=>NT r3<|NS (r3.comp 0)<|NB (r3.comp 1)<|.done 0 [.cI [VS ((r3.comp 0).ai),VB ((r3.comp 1).toBool)]] [])))
theorem P0(a0:ByteArray)(h:dq 29 (JH a0) R):an Tryz.prog 85 [VS a0] [] R :=
 uQ (af (au _) aA) (oQ [] Tryz.f85 h)
def Mx(a0_0:AV)(a0_1:AV):Tree :=
 NZ a0_0<|NZ a0_0<|dR (a0_0.deref.drop 3)<|.done 0 [.cI [.agg [((a0_0.deref.drop 3).hA),.ptr [.ptr [a0_0,a0_1],a0_1]],.ptr [a0_0,a0_1]]] []
theorem Qo(a0_0:AV)(a0_1:AV)(ha0_0:LK.has .ptr a0_0)(ha0_1:LK.has .ptr a0_1)(h:dq 20 (Mx a0_0 a0_1) R):an Tryz.prog 86 [.agg [a0_0,a0_1]] [] R :=
 uQ (af (bT (af (bu ha0_0) (af (bu ha0_1) aA))) aA) (oQ [] Tryz.f86 h)
def G1:LI:={hd:={bD:=[(97,.k .sl),(98,.k (.int .i64)),(99,.k (.int .i64))],refs:=[(3,3),(5,5),(7,7)],cm:=[(3,[.lk .ptr,.lk .ptr]),(5,[.lk .str,.lk .ptr]),(7,[.vec 2])],zC:=[(8,112,[7])]},xs:={refs:=[(7,7)],cm:=[(7,[.vec 2])]},rt:={},ex:=1}
def IR:Code:=cz (cu Tryz.f87) 18
def Ie:List (Nat×LI):=[(18,G1)]
def IQ(a0_0:AV)(a0_1:AV)(a1:AV)(a2_0:ByteArray)(a2_1:AV):Tree :=
 .call 111 [.agg [VS a2_0,a2_1],.agg [a0_0,a0_1]] [] fun r1 o1=>NB r1<|.test r1.toBool (.done 0 [.sl [[.ptr [.v (.int .u8 117),VS (mk []),.v (.pointer none),.v (.pointer none)],a1]]] []) (NZ a0_0<|NZ a0_0<|.al (LK.has (.int .u8) (a0_0.deref.hA)/\1<=a0_0.deref.length)<|.test (((a0_0.deref.hA).toInt)==(43:Int)) (.call 113 [.agg [a0_0,a0_1]] [] fun r2 o2=>.al (r2=.agg r2.cs/\r2.cs.length=2/\bB [.ptr,.ptr] r2.cs 0)<|NZ a1<|NZ a1<|.al (LK.has (.int .u8) (a1.deref.hA)/\1<=a1.deref.length)<|.test (((a1.deref.hA).toInt)==(114:Int)) (.call 114 [.agg [a0_0,a0_1]] [] fun r3 o3=>.al (r3=.agg r3.cs/\r3.cs.length=2/\bB [.ptr,.ptr] r3.cs 0)<|NZ a1<|NZ a1<|dR (a1.deref.drop 2)<|.call 87 [.agg [(r3.cs.getD 0 .any),(r3.cs.getD 1 .any)],((a1.deref.drop 2).hA),.agg [VS a2_0,a2_1]] [] fun r4 o4=>NL r4<|.call 112 [r4,.fn 115 [.ref 0 0],.ref 1 0] [.cells [a1],.cells [.vec 2],.vec 2 []] fun r5 o5=>.al ((o5.hO)=.cells (o5.hO).cs)<|.al (bn [.lk .ptr] ((o5.hO).cs) 0 1 o5.tail)<|.al ((o5.tail.hO)=.cells (o5.tail.hO).cs)<|.al (bn [.vec 2] ((o5.tail.hO).cs) 0 2 o5.tail.tail)<|.done 0 [.sl ((o5.tail.tail.hO).es)] []) (NZ a1<|NZ a1<|dR (a1.deref.drop 2)<|.call 87 [.agg [(r2.cs.getD 0 .any),(r2.cs.getD 1 .any)],((a1.deref.drop 2).hA),.agg [VS a2_0,a2_1]] [] fun r6 o6=>NL r6<|.call 112 [r6,.fn 115 [.ref 0 0],.ref 1 0] [.cells [a1],.cells [.vec 2],.vec 2 []] fun r7 o7=>.al ((o7.hO)=.cells (o7.hO).cs)<|.al (bn [.lk .ptr] ((o7.hO).cs) 0 1 o7.tail)<|.al ((o7.tail.hO)=.cells (o7.tail.hO).cs)<|.al (bn [.vec 2] ((o7.tail.hO).cs) 0 2 o7.tail.tail)<|.done 0 [.sl ((o7.tail.tail.hO).es)] [])) (.test (((a0_0.deref.hA).toInt)==(42:Int)) (.call 113 [.agg [a0_0,a0_1]] [] fun r8 o8=>.al (r8=.agg r8.cs/\r8.cs.length=2/\bB [.ptr,.ptr] r8.cs 0)<|NZ a1<|NZ a1<|dR (a1.deref.drop 2)<|.call 87 [.agg [(r8.cs.getD 0 .any),(r8.cs.getD 1 .any)],((a1.deref.drop 2).hA),.agg [VS a2_0,a2_1]] [] fun r9 o9=>NL r9<|.call 112 [r9,.fn 116 [.ref 0 0],.ref 1 0] [.cells [a1],.cells [.vec 2],.vec 2 []] fun r10 o10=>.al ((o10.hO)=.cells (o10.hO).cs)<|.al (bn [.lk .ptr] ((o10.hO).cs) 0 1 o10.tail)<|.al ((o10.tail.hO)=.cells (o10.tail.hO).cs)<|.al (bn [.vec 2] ((o10.tail.hO).cs) 0 2 o10.tail.tail)<|.call 114 [.agg [a0_0,a0_1]] [] fun r11 o11=>.al (r11=.agg r11.cs/\r11.cs.length=2/\bB [.ptr,.ptr] r11.cs 0)<|NZ ((o10.hO).cs.getD 0 .any)<|NZ ((o10.hO).cs.getD 0 .any)<|dR (((o10.hO).cs.getD 0 .any).deref.drop 3)<|.call 87 [.agg [(r11.cs.getD 0 .any),(r11.cs.getD 1 .any)],((((o10.hO).cs.getD 0 .any).deref.drop 3).hA),.agg [VS a2_0,a2_1]] [] fun r12 o12=>NL r12<|.call 112 [r12,.fn 118 [.ref 0 0],.ref 1 0] [.cells [((o10.hO).cs.getD 0 .any)],.cells [.vec 2],.vec 2 ((o10.tail.tail.hO).es)] fun r13 o13=>.al ((o13.hO)=.cells (o13.hO).cs)<|.al (bn [.lk .ptr] ((o13.hO).cs) 0 1 o13.tail)<|.al ((o13.tail.hO)=.cells (o13.tail.hO).cs)<|.al (bn [.vec 2] ((o13.tail.hO).cs) 0 2 o13.tail.tail)<|.done 0 [.sl ((o13.tail.tail.hO).es)] []) (.test (((a0_0.deref.hA).toInt)==(114:Int)) (.call 86 [.agg [a0_0,a0_1]] [] fun r14 o14=>NT r14<|.al ((r14.comp 0)=.agg (r14.comp 0).cs/\(r14.comp 0).cs.length=2/\bB [.ptr,.ptr] ((r14.comp 0).cs) 0)<|NP (r14.comp 1)<|NZ a1<|NZ a1<|dR (a1.deref.drop 2)<|.call 87 [.agg [((r14.comp 0).cs.getD 0 .any),((r14.comp 0).cs.getD 1 .any)],((a1.deref.drop 2).hA),.agg [VS a2_0,a2_1]] [] fun r15 o15=>NL r15<|.call 112 [r15,.v (.func (.func 119) #[] #[]),.ref 0 0] [.cells [.vec 1],.vec 2 []] fun r16 o16=>.al ((o16.hO)=.cells (o16.hO).cs)<|.al (bn [.vec 2] ((o16.hO).cs) 0 1 o16.tail)<|NZ a1<|NZ a1<|dR (a1.deref.drop 2)<|.call 87 [.agg [((r14.comp 0).cs.getD 0 .any),((r14.comp 0).cs.getD 1 .any)],((a1.deref.drop 2).hA),.agg [VS (mk []),(r14.comp 1)]] [] fun r17 o17=>NL r17<|NL r17<|.loop IR G1 [r17,VI (r17.aN.length:Int),VI 0] [.cells [a0_0,a0_1],.cells [VS a2_0,a2_1],.cells [.any],.vec 2 ((o16.tail.hO).es)] (fun y20 q20=>.al ((q20.hO)=.cells (q20.hO).cs)<|.al (ac [.vec 2] ((q20.hO).cs) 0 q20.tail)<|.done 0 [.sl ((q20.tail.hO).es)] []) (fun y20 q20=>.done 0 [.any] [])) (.done 0 [.sl []] []))))
theorem Pb(a0_0:AV)(a0_1:AV)(a1:AV)(a2_0:ByteArray)(a2_1:AV)(ha0_0:LK.has .ptr a0_0)(ha0_1:LK.has .ptr a0_1)(ha1:LK.has .ptr a1)(ha2_1:LK.has .ptr a2_1)(h:dq 113 (IQ a0_0 a0_1 a1 a2_0 a2_1) R):an Tryz.prog 87 [.agg [a0_0,a0_1],a1,.agg [VS a2_0,a2_1]] [] R :=
 uQ (af (bT (af (bu ha0_0) (af (bu ha0_1) aA))) (af (bu ha1) (af (bT (af (au _) (af (bu ha2_1) aA))) aA))) (oQ Ie Tryz.f87 h)
def FY(x97:AV)(x98:Int)(x99:Int)(o3_0:AV)(o3_1:AV)(o5_0:ByteArray)(o5_1:AV)(o7_0:List (List AV)):Tree :=
 NL x97<|NI (VI x98)<|NI (VI x99)<|.al (Ob.cells [o3_0,o3_1]=.cells [o3_0,o3_1])<|.al (ac [.lk .ptr,.lk .ptr] [o3_0,o3_1] 0 [.cells [VS o5_0,o5_1],.cells [.any],.vec 2 o7_0])<|.al (Ob.cells [VS o5_0,o5_1]=.cells [VS o5_0,o5_1])<|.al (ac [.lk .str,.lk .ptr] [VS o5_0,o5_1] 0 [.cells [.any],.vec 2 o7_0])<|.al (Ob.cells [.any]=.cells [.any])<|.al (ac [.vec 2] [.any] 0 [.vec 2 o7_0])<|.test (decide (x99<x98)) (NG x97 x99 2<|.al (bB [.ptr,.ptr] (x97.ix x99) 0/\2<=(x97.ix x99).length)<|.call 87 [.agg [o3_0,o3_1],((x97.ix x99).getD 1 .any),.agg [VS o5_0,o5_1]] [] fun r1 o1=>NL r1<|.call 112 [r1,.fn 120 [.ref 0 0],.ref 1 0] [.cells [((x97.ix x99).getD 0 .any),((x97.ix x99).getD 1 .any)],.cells [.vec 2],.vec 2 o7_0] fun r2 o2=>.al ((o2.hO)=.cells (o2.hO).cs)<|.al (bn [.lk .ptr,.lk .ptr] ((o2.hO).cs) 0 1 o2.tail)<|.al ((o2.tail.hO)=.cells (o2.tail.hO).cs)<|.al (bn [.vec 2] ((o2.tail.hO).cs) 0 2 o2.tail.tail)<|.done 0 [x97,VI x98,VI (IntKind.wrap .i64 (x99+1))] [.cells [o3_0,o3_1],.cells [VS o5_0,o5_1],.cells [.any],.vec 2 ((o2.tail.tail.hO).es)]) (.done 1 [] [.cells [.any],.vec 2 o7_0])
abbrev Hz:=ct Tryz.prog 113 IR G1
theorem MD(x97:AV)(x98:Int)(x99:Int)(o3_0:AV)(o3_1:AV)(o5_0:ByteArray)(o5_1:AV)(o7_0:List (List AV))(h:jw 113 (FY x97 x98 x99 o3_0 o3_1 o5_0 o5_1 o7_0) Hz U):Hz [x97,VI x98,VI x99] [.cells [o3_0,o3_1],.cells [VS o5_0,o5_1],.cells [.any],.vec 2 o7_0] U :=
 gQ Ie h
def NH(a0:ByteArray):Tree :=
 .call 104 [VS a0] [] fun r1 o1=>NT r1<|.al ((r1.comp 0)=.agg (r1.comp 0).cs/\(r1.comp 0).cs.length=2/\bB [.str,.sl] ((r1.comp 0).cs) 0)<|NB (r1.comp 1)<|.test ((r1.comp 1).toBool) (.call 121 [.agg [VS (((r1.comp 0).cs.getD 0 .any).ai),((r1.comp 0).cs.getD 1 .any)]] [] fun r2 o2=>NS r2<|.done 0 [.cI [.agg [VS (((r1.comp 0).cs.getD 0 .any).ai),((r1.comp 0).cs.getD 1 .any)],VB (ae r2.ai==ae (mk [114,101,99]))]] []) (.done 0 [.cI [.agg [VS (((r1.comp 0).cs.getD 0 .any).ai),((r1.comp 0).cs.getD 1 .any)],VB false]] [])
theorem Pn(a0:ByteArray)(h:dq 18 (NH a0) R):an Tryz.prog 88 [VS a0] [] R :=
 uQ (af (au _) aA) (oQ [] Tryz.f88 h)
def My(a0:ByteArray):Tree :=
 .call 122 [VS a0] [] fun r1 o1=>NT r1<|.al ((r1.comp 0)=.agg (r1.comp 0).cs/\(r1.comp 0).cs.length=2/\bB [.str,.sl] ((r1.comp 0).cs) 0)<|NB (r1.comp 1)<|.test ((r1.comp 1).toBool) (.call 123 [.agg [VS (((r1.comp 0).cs.getD 0 .any).ai),((r1.comp 0).cs.getD 1 .any)]] [] fun r2 o2=>NB r2<|.test r2.toBool (.call 124 [.agg [VS (((r1.comp 0).cs.getD 0 .any).ai),((r1.comp 0).cs.getD 1 .any)]] [] fun r3 o3=>NI r3<|.done 0 [.cI [.agg [VS (((r1.comp 0).cs.getD 0 .any).ai),((r1.comp 0).cs.getD 1 .any)],VB (decide (r3.toInt<=(200:Int)))]] []) (.done 0 [.cI [.agg [VS (((r1.comp 0).cs.getD 0 .any).ai),((r1.comp 0).cs.getD 1 .any)],VB false]] [])) (.done 0 [.cI [.agg [VS (((r1.comp 0).cs.getD 0 .any).ai),((r1.comp 0).cs.getD 1 .any)],VB false]] [])
theorem N9(a0:ByteArray)(h:dq 22 (My a0) R):an Tryz.prog 89 [VS a0] [] R :=
 uQ (af (au _) aA) (oQ [] Tryz.f89 h)
def KY(a0:ByteArray)(a1:ByteArray)(a2:Int):Tree :=
 .call 104 [VS a0] [] fun r1 o1=>NT r1<|.al ((r1.comp 0)=.agg (r1.comp 0).cs/\(r1.comp 0).cs.length=2/\bB [.str,.sl] ((r1.comp 0).cs) 0)<|NB (r1.comp 1)<|.call 89 [VS a1] [] fun r2 o2=>NT r2<|.al ((r2.comp 0)=.agg (r2.comp 0).cs/\(r2.comp 0).cs.length=2/\bB [.str,.sl] ((r2.comp 0).cs) 0)<|NB (r2.comp 1)<|.test ((r1.comp 1).toBool) (.test ((r2.comp 1).toBool) (.call 56 [VI a2,VI 0,VI 100] [] fun r3 o3=>NB r3<|.test r3.toBool (.call 125 [.agg [VS (((r1.comp 0).cs.getD 0 .any).ai),((r1.comp 0).cs.getD 1 .any)],.sl [],.agg [VS (((r2.comp 0).cs.getD 0 .any).ai),((r2.comp 0).cs.getD 1 .any)],VI a2] [] fun r4 o4=>NB r4<|.done 0 [VB r4.toBool] []) (.done 0 [VB false] [])) (.done 0 [VB false] [])) (.done 0 [VB false] [])
theorem N7(a0:ByteArray)(a1:ByteArray)(a2:Int)(h:dq 36 (KY a0 a1 a2) R):an Tryz.prog 90 [VS a0,VS a1,VI a2] [] R :=
 uQ (af (au _) (af (au _) (af (au _) aA))) (oQ [] Tryz.f90 h)
def GS:LI:={hd:={bD:=[(0,.k .sl),(4,.k (.int .i64))],eH:=[(3,2)]},xs:={eH:=[(3,2)]},rt:={},ex:=0}
def Jf:Code:=cz (cu Tryz.f91) 3
def I6:List (Nat×LI):=[(3,GS)]
def MU(a0:AV):Tree :=
 .loop Jf GS [a0,VI 0] [.vec 2 []] (fun y3 q3=>.al (((q3.drop 0).hO)=.vec 2 ((q3.drop 0).hO).es)<|.done 0 [.sl ((q3.hO).es)] []) (fun y3 q3=>.done 0 [.any] [])
theorem O3(a0:AV)(ha0:LK.has .sl a0)(h:dq 29 (MU a0) R):an Tryz.prog 91 [a0] [] R :=
 uQ (af (bY ha0) aA) (oQ I6 Tryz.f91 h)
def GV(x0:AV)(x4:Int)(e3:List (List AV)):Tree :=
 NL x0<|NI (VI x4)<|.al (Ob.vec 2 e3=.vec 2 e3)<|NL x0<|.test (decide (x4<(x0.aN.length:Int))) (NG x0 x4 4<|NE (x0.ix x4)<|.call 97 [.agg [VS (((x0.ix x4).getD 0 .any).ai),((x0.ix x4).getD 1 .any)]] [] fun r1 o1=>NS r1<|NG x0 x4 4<|NE ((x0.ix x4).drop 2)<|.call 97 [.agg [VS ((((x0.ix x4).drop 2).getD 0 .any).ai),(((x0.ix x4).drop 2).getD 1 .any)]] [] fun r2 o2=>NS r2<|.al (cA 2 [[VS r1.ai,VS r2.ai]]/\((e3.length)+([[VS r1.ai,VS r2.ai]]:List (List AV)).length)*32<=140737488355328)<|.done 0 [x0,VI (IntKind.wrap .i64 (x4+1))] [.vec 2 (e3++([[VS r1.ai,VS r2.ai]]:List (List AV)))]) (.done 1 [] [.vec 2 e3])
abbrev FV:=ct Tryz.prog 29 Jf GS
theorem La(x0:AV)(x4:Int)(e3:List (List AV))(h:jw 29 (GV x0 x4 e3) FV U):FV [x0,VI x4] [.vec 2 e3] U :=
 gQ I6 h
def GW:LI:={hd:={bD:=[(1,.k .str),(8,.k .sl),(9,.k (.int .i64))],refs:=[(3,3),(5,5)],cm:=[(3,[.lk .str,.lk .sl]),(5,[.lk .str,.lk .sl])],eH:=[(7,4)]},xs:={bD:=[(1,.k .str)],refs:=[(3,3),(5,5)],cm:=[(3,[.lk .str,.lk .sl]),(5,[.lk .str,.lk .sl])],eH:=[(7,4)]},rt:={},ex:=1}
def Mi:Code:=cz (cu Tryz.f92) 14
def F6:LI:={hd:={bD:=[(10,.k .sl),(11,.k (.int .i64))],refs:=[(5,5)],cm:=[(5,[.lk .str,.lk .sl])],eH:=[(7,4)]},xs:={eH:=[(7,4)]},rt:={},ex:=3}
def H3:Code:=cz (cu Tryz.f92) 19
def Hg:LI:={hd:={bD:=[(1,.k .str),(12,.k .str),(13,.k .sl),(14,.k (.int .i64))],refs:=[(3,3),(5,5)],cm:=[(3,[.lk .str,.lk .sl]),(5,[.lk .str,.lk .sl])],eH:=[(7,4)]},xs:={bD:=[(1,.k .str),(12,.k .str)],refs:=[(3,3),(5,5)],cm:=[(3,[.lk .str,.lk .sl]),(5,[.lk .str,.lk .sl])],eH:=[(7,4)]},rt:={},ex:=5}
def Jy:Code:=cz (cu Tryz.f92) 28
def G5:LI:={hd:={bD:=[(1,.k .str),(15,.k .sl),(16,.k (.int .i64))],refs:=[(3,3)],cm:=[(3,[.lk .str,.lk .sl])],eH:=[(7,4)]},xs:={eH:=[(7,4)]},rt:={},ex:=7}
def HW:Code:=cz (cu Tryz.f92) 33
def Fc:LI:={hd:={bD:=[(1,.k .str),(15,.k .sl),(16,.k (.int .i64)),(17,.k .sl),(18,.k (.int .i64))],refs:=[(3,3)],cm:=[(3,[.lk .str,.lk .sl])],eH:=[(7,4)]},xs:={bD:=[(1,.k .str),(15,.k .sl),(16,.k (.int .i64))],refs:=[(3,3)],cm:=[(3,[.lk .str,.lk .sl])],eH:=[(7,4)]},rt:={},ex:=9}
def ND:Code:=cz (cu Tryz.f92) 37
def yu:List (Nat×LI):=[(14,GW),(19,F6),(28,Hg),(33,G5),(37,Fc)]
def vO(a0_0:ByteArray)(a0_1:AV)(a1:ByteArray)(a2_0:ByteArray)(a2_1:AV):Tree :=
 .test (!(ae a0_0==ae (mk []))) (.test (ae a0_0==ae a1) (.al (cA 4 [[VS (mk [117]),.v (.slice none 0 0),VS a2_0,a2_1]]/\((([]:List (List AV)).length)+([[VS (mk [117]),.v (.slice none 0 0),VS a2_0,a2_1]]:List (List AV)).length)*80<=140737488355328)<|.done 0 [.sl [[VS (mk [117]),.v (.slice none 0 0),VS a2_0,a2_1]]] []) (.done 0 [.sl []] [])) (.call 121 [.agg [VS a2_0,a2_1]] [] fun r1 o1=>NS r1<|.test (ae r1.ai==ae (mk [108])) (NG a0_1 1 2<|NE (a0_1.ix (1:Int))<|NG a2_1 1 2<|NE (a2_1.ix (1:Int))<|.call 92 [.agg [VS (((a0_1.ix (1:Int)).getD 0 .any).ai),((a0_1.ix (1:Int)).getD 1 .any)],VS a1,.agg [VS (((a2_1.ix (1:Int)).getD 0 .any).ai),((a2_1.ix (1:Int)).getD 1 .any)]] [] fun r2 o2=>NL r2<|.call 126 [r2,VS (mk [108]),.vec 0] [.vec 4 []] fun r3 o3=>.al (r3=.vec 1/\(o3.tail.hO)=.vec 4 (o3.tail.hO).es)<|.done 0 [.sl ((o3.tail.hO).es)] []) (.test (ae r1.ai==ae (mk [114])) (NG a0_1 2 2<|NE (a0_1.ix (2:Int))<|NG a2_1 1 2<|NE (a2_1.ix (1:Int))<|.call 92 [.agg [VS (((a0_1.ix (2:Int)).getD 0 .any).ai),((a0_1.ix (2:Int)).getD 1 .any)],VS a1,.agg [VS (((a2_1.ix (1:Int)).getD 0 .any).ai),((a2_1.ix (1:Int)).getD 1 .any)]] [] fun r4 o4=>NL r4<|.call 126 [r4,VS (mk [114]),.vec 0] [.vec 4 []] fun r5 o5=>.al (r5=.vec 1/\(o5.tail.hO)=.vec 4 (o5.tail.hO).es)<|.done 0 [.sl ((o5.tail.hO).es)] []) (.test (ae r1.ai==ae (mk [112])) (NG a0_1 1 2<|NE (a0_1.ix (1:Int))<|NG a2_1 1 2<|NE (a2_1.ix (1:Int))<|.call 92 [.agg [VS (((a0_1.ix (1:Int)).getD 0 .any).ai),((a0_1.ix (1:Int)).getD 1 .any)],VS a1,.agg [VS (((a2_1.ix (1:Int)).getD 0 .any).ai),((a2_1.ix (1:Int)).getD 1 .any)]] [] fun r6 o6=>NL r6<|.loop Mi GW [VS a1,r6,VI 0] [.cells [VS a0_0,a0_1],.cells [VS a2_0,a2_1],.vec 4 []] (fun y9 q9=>NS (y9.hA)<|.al ((q9.hO)=.cells (q9.hO).cs)<|.al (ac [.lk .str,.lk .sl] ((q9.hO).cs) 0 q9.tail)<|.al (((q9.tail.drop 0).hO)=.cells ((q9.tail.drop 0).hO).cs)<|.al (ac [.lk .str,.lk .sl] (((q9.tail.drop 0).hO).cs) 0 ((q9.tail.drop 0).tail))<|.al (((q9.drop 2).hO)=.vec 4 ((q9.drop 2).hO).es)<|NG ((q9.hO).cs.getD 1 .any) 2 2<|NE (((q9.hO).cs.getD 1 .any).ix (2:Int))<|NG ((q9.tail.hO).cs.getD 1 .any) 2 2<|NE (((q9.tail.hO).cs.getD 1 .any).ix (2:Int))<|.call 92 [.agg [VS (((((q9.hO).cs.getD 1 .any).ix (2:Int)).getD 0 .any).ai),((((q9.hO).cs.getD 1 .any).ix (2:Int)).getD 1 .any)],VS ((y9.hA).ai),.agg [VS (((((q9.tail.hO).cs.getD 1 .any).ix (2:Int)).getD 0 .any).ai),((((q9.tail.hO).cs.getD 1 .any).ix (2:Int)).getD 1 .any)]] [] fun r10 o10=>NL r10<|.loop H3 F6 [r10,VI 0] [.cells [VS (((q9.tail.hO).cs.getD 0 .any).ai),((q9.tail.hO).cs.getD 1 .any)],.vec 4 ((q9.tail.tail.hO).es)] (fun y13 q13=>.al (((q13.drop 0).hO)=.vec 4 ((q13.drop 0).hO).es)<|.done 0 [.sl ((q13.hO).es)] []) (fun y13 q13=>.done 0 [.any] [])) (fun y9 q9=>.done 0 [.any] [])) (NG a0_1 1 2<|kA (a0_1.ix (1:Int))<|.test (ae (((a0_1.ix (1:Int)).hA).ai)==ae a1) (.done 0 [.sl []] []) (NG a0_1 2 2<|NE (a0_1.ix (2:Int))<|NG a2_1 1 2<|NE (a2_1.ix (1:Int))<|.call 92 [.agg [VS (((a0_1.ix (2:Int)).getD 0 .any).ai),((a0_1.ix (2:Int)).getD 1 .any)],VS a1,.agg [VS (((a2_1.ix (1:Int)).getD 0 .any).ai),((a2_1.ix (1:Int)).getD 1 .any)]] [] fun r14 o14=>NL r14<|.loop Jy Hg [VS a1,VS (((a0_1.ix (1:Int)).hA).ai),r14,VI 0] [.cells [VS a0_0,a0_1],.cells [VS a2_0,a2_1],.vec 4 []] (fun y17 q17=>NS (y17.hA)<|NS (y17.tail.hA)<|.al ((q17.hO)=.cells (q17.hO).cs)<|.al (ac [.lk .str,.lk .sl] ((q17.hO).cs) 0 q17.tail)<|.al (((q17.tail.drop 0).hO)=.cells ((q17.tail.drop 0).hO).cs)<|.al (ac [.lk .str,.lk .sl] (((q17.tail.drop 0).hO).cs) 0 ((q17.tail.drop 0).tail))<|.al (((q17.drop 2).hO)=.vec 4 ((q17.drop 2).hO).es)<|NG ((q17.hO).cs.getD 1 .any) 2 2<|NE (((q17.hO).cs.getD 1 .any).ix (2:Int))<|NG ((q17.tail.hO).cs.getD 1 .any) 1 2<|NE (((q17.tail.hO).cs.getD 1 .any).ix (1:Int))<|.call 92 [.agg [VS (((((q17.hO).cs.getD 1 .any).ix (2:Int)).getD 0 .any).ai),((((q17.hO).cs.getD 1 .any).ix (2:Int)).getD 1 .any)],VS ((y17.tail.hA).ai),.agg [VS (((((q17.tail.hO).cs.getD 1 .any).ix (1:Int)).getD 0 .any).ai),((((q17.tail.hO).cs.getD 1 .any).ix (1:Int)).getD 1 .any)]] [] fun r18 o18=>NL r18<|.loop HW G5 [VS ((y17.hA).ai),r18,VI 0] [.cells [VS (((q17.hO).cs.getD 0 .any).ai),((q17.hO).cs.getD 1 .any)],.vec 4 ((q17.tail.tail.hO).es)] (fun y24 q24=>.al (((q24.drop 0).hO)=.vec 4 ((q24.drop 0).hO).es)<|.done 0 [.sl ((q24.hO).es)] []) (fun y24 q24=>.done 0 [.any] [])) (fun y17 q17=>.done 0 [.any] []))))))
theorem QB(a0_0:ByteArray)(a0_1:AV)(a1:ByteArray)(a2_0:ByteArray)(a2_1:AV)(ha0_1:LK.has .sl a0_1)(ha2_1:LK.has .sl a2_1)(h:dq 244 (vO a0_0 a0_1 a1 a2_0 a2_1) R):an Tryz.prog 92 [.agg [VS a0_0,a0_1],VS a1,.agg [VS a2_0,a2_1]] [] R :=
 uQ (af (bT (af (au _) (af (bY ha0_1) aA))) (af (au _) (af (bT (af (au _) (af (bY ha2_1) aA))) aA))) (oQ yu Tryz.f92 h)
def G7(x1:ByteArray)(x8:AV)(x9:Int)(o3_0:ByteArray)(o3_1:AV)(o5_0:ByteArray)(o5_1:AV)(e7:List (List AV)):Tree :=
 NS (VS x1)<|NL x8<|NI (VI x9)<|.al (Ob.cells [VS o3_0,o3_1]=.cells [VS o3_0,o3_1])<|.al (ac [.lk .str,.lk .sl] [VS o3_0,o3_1] 0 [.cells [VS o5_0,o5_1],.vec 4 e7])<|.al (Ob.cells [VS o5_0,o5_1]=.cells [VS o5_0,o5_1])<|.al (ac [.lk .str,.lk .sl] [VS o5_0,o5_1] 0 [.vec 4 e7])<|.al (Ob.vec 4 e7=.vec 4 e7)<|NL x8<|.test (decide (x9<(x8.aN.length:Int))) (NG x8 x9 4<|NE (x8.ix x9)<|NG o5_1 2 2<|NE (o5_1.ix (2:Int))<|.call 98 [VS (mk [112]),.sl [[VS (((x8.ix x9).getD 0 .any).ai),((x8.ix x9).getD 1 .any)],[VS (((o5_1.ix (2:Int)).getD 0 .any).ai),((o5_1.ix (2:Int)).getD 1 .any)]]] [] fun r1 o1=>NA r1<|.call 98 [VS (mk [108]),.sl [[VS ((r1.cs.getD 0 .any).ai),(r1.cs.getD 1 .any)]]] [] fun r2 o2=>NA r2<|NG x8 x9 4<|NE ((x8.ix x9).drop 2)<|.al (cA 4 [[VS ((r2.cs.getD 0 .any).ai),(r2.cs.getD 1 .any),VS ((((x8.ix x9).drop 2).getD 0 .any).ai),(((x8.ix x9).drop 2).getD 1 .any)]]/\((e7.length)+([[VS ((r2.cs.getD 0 .any).ai),(r2.cs.getD 1 .any),VS ((((x8.ix x9).drop 2).getD 0 .any).ai),(((x8.ix x9).drop 2).getD 1 .any)]]:List (List AV)).length)*80<=140737488355328)<|.done 0 [VS x1,x8,VI (IntKind.wrap .i64 (x9+1))] [.cells [VS o3_0,o3_1],.cells [VS o5_0,o5_1],.vec 4 (e7++([[VS ((r2.cs.getD 0 .any).ai),(r2.cs.getD 1 .any),VS ((((x8.ix x9).drop 2).getD 0 .any).ai),(((x8.ix x9).drop 2).getD 1 .any)]]:List (List AV)))]) (.done 1 [VS x1] [.cells [VS o3_0,o3_1],.cells [VS o5_0,o5_1],.vec 4 e7])
abbrev FE:=ct Tryz.prog 244 Mi GW
theorem Jn(x1:ByteArray)(x8:AV)(x9:Int)(o3_0:ByteArray)(o3_1:AV)(o5_0:ByteArray)(o5_1:AV)(e7:List (List AV))(h:jw 244 (G7 x1 x8 x9 o3_0 o3_1 o5_0 o5_1 e7) FE U):FE [VS x1,x8,VI x9] [.cells [VS o3_0,o3_1],.cells [VS o5_0,o5_1],.vec 4 e7] U :=
 gQ yu h
def EZ(x10:AV)(x11:Int)(o5_0:ByteArray)(o5_1:AV)(e7:List (List AV)):Tree :=
 NL x10<|NI (VI x11)<|.al (Ob.cells [VS o5_0,o5_1]=.cells [VS o5_0,o5_1])<|.al (ac [.lk .str,.lk .sl] [VS o5_0,o5_1] 0 [.vec 4 e7])<|.al (Ob.vec 4 e7=.vec 4 e7)<|NL x10<|.test (decide (x11<(x10.aN.length:Int))) (NG o5_1 1 2<|NE (o5_1.ix (1:Int))<|NG x10 x11 4<|NE (x10.ix x11)<|.call 98 [VS (mk [112]),.sl [[VS (((o5_1.ix (1:Int)).getD 0 .any).ai),((o5_1.ix (1:Int)).getD 1 .any)],[VS (((x10.ix x11).getD 0 .any).ai),((x10.ix x11).getD 1 .any)]]] [] fun r1 o1=>NA r1<|.call 98 [VS (mk [114]),.sl [[VS ((r1.cs.getD 0 .any).ai),(r1.cs.getD 1 .any)]]] [] fun r2 o2=>NA r2<|NG x10 x11 4<|NE ((x10.ix x11).drop 2)<|.al (cA 4 [[VS ((r2.cs.getD 0 .any).ai),(r2.cs.getD 1 .any),VS ((((x10.ix x11).drop 2).getD 0 .any).ai),(((x10.ix x11).drop 2).getD 1 .any)]]/\((e7.length)+([[VS ((r2.cs.getD 0 .any).ai),(r2.cs.getD 1 .any),VS ((((x10.ix x11).drop 2).getD 0 .any).ai),(((x10.ix x11).drop 2).getD 1 .any)]]:List (List AV)).length)*80<=140737488355328)<|.done 0 [x10,VI (IntKind.wrap .i64 (x11+1))] [.cells [VS o5_0,o5_1],.vec 4 (e7++([[VS ((r2.cs.getD 0 .any).ai),(r2.cs.getD 1 .any),VS ((((x10.ix x11).drop 2).getD 0 .any).ai),(((x10.ix x11).drop 2).getD 1 .any)]]:List (List AV)))]) (.done 1 [] [.vec 4 e7])
abbrev Eo:=ct Tryz.prog 244 H3 F6
theorem JM(x10:AV)(x11:Int)(o5_0:ByteArray)(o5_1:AV)(e7:List (List AV))(h:jw 244 (EZ x10 x11 o5_0 o5_1 e7) Eo U):Eo [x10,VI x11] [.cells [VS o5_0,o5_1],.vec 4 e7] U :=
 gQ yu h
def EY(x1:ByteArray)(x12:ByteArray)(x13:AV)(x14:Int)(o3_0:ByteArray)(o3_1:AV)(o5_0:ByteArray)(o5_1:AV)(e7:List (List AV)):Tree :=
 NS (VS x1)<|NS (VS x12)<|NL x13<|NI (VI x14)<|.al (Ob.cells [VS o3_0,o3_1]=.cells [VS o3_0,o3_1])<|.al (ac [.lk .str,.lk .sl] [VS o3_0,o3_1] 0 [.cells [VS o5_0,o5_1],.vec 4 e7])<|.al (Ob.cells [VS o5_0,o5_1]=.cells [VS o5_0,o5_1])<|.al (ac [.lk .str,.lk .sl] [VS o5_0,o5_1] 0 [.vec 4 e7])<|.al (Ob.vec 4 e7=.vec 4 e7)<|NL x13<|.test (decide (x14<(x13.aN.length:Int))) (NG x13 x14 4<|NE (x13.ix x14)<|.call 98 [VS (mk [108]),.sl [[VS (((x13.ix x14).getD 0 .any).ai),((x13.ix x14).getD 1 .any)]]] [] fun r1 o1=>NA r1<|.call 98 [VS (mk [102]),.sl [[VS ((r1.cs.getD 0 .any).ai),(r1.cs.getD 1 .any)]]] [] fun r2 o2=>NA r2<|NG x13 x14 4<|NE ((x13.ix x14).drop 2)<|.al (cA 4 [[VS ((r2.cs.getD 0 .any).ai),(r2.cs.getD 1 .any),VS ((((x13.ix x14).drop 2).getD 0 .any).ai),(((x13.ix x14).drop 2).getD 1 .any)]]/\((e7.length)+([[VS ((r2.cs.getD 0 .any).ai),(r2.cs.getD 1 .any),VS ((((x13.ix x14).drop 2).getD 0 .any).ai),(((x13.ix x14).drop 2).getD 1 .any)]]:List (List AV)).length)*80<=140737488355328)<|.done 0 [VS x1,VS x12,x13,VI (IntKind.wrap .i64 (x14+1))] [.cells [VS o3_0,o3_1],.cells [VS o5_0,o5_1],.vec 4 (e7++([[VS ((r2.cs.getD 0 .any).ai),(r2.cs.getD 1 .any),VS ((((x13.ix x14).drop 2).getD 0 .any).ai),(((x13.ix x14).drop 2).getD 1 .any)]]:List (List AV)))]) (.done 1 [VS x1,VS x12] [.cells [VS o3_0,o3_1],.cells [VS o5_0,o5_1],.vec 4 e7])
abbrev EN:=ct Tryz.prog 244 Jy Hg
theorem Ig(x1:ByteArray)(x12:ByteArray)(x13:AV)(x14:Int)(o3_0:ByteArray)(o3_1:AV)(o5_0:ByteArray)(o5_1:AV)(e7:List (List AV))(h:jw 244 (EY x1 x12 x13 x14 o3_0 o3_1 o5_0 o5_1 e7) EN U):EN [VS x1,VS x12,x13,VI x14] [.cells [VS o3_0,o3_1],.cells [VS o5_0,o5_1],.vec 4 e7] U :=
 gQ yu h
def EX(x1:ByteArray)(x15:AV)(x16:Int)(o3_0:ByteArray)(o3_1:AV)(e7:List (List AV)):Tree :=
 NS (VS x1)<|NL x15<|NI (VI x16)<|.al (Ob.cells [VS o3_0,o3_1]=.cells [VS o3_0,o3_1])<|.al (ac [.lk .str,.lk .sl] [VS o3_0,o3_1] 0 [.vec 4 e7])<|.al (Ob.vec 4 e7=.vec 4 e7)<|NL x15<|.test (decide (x16<(x15.aN.length:Int))) (NG x15 x16 4<|NE ((x15.ix x16).drop 2)<|.call 92 [.agg [VS o3_0,o3_1],VS x1,.agg [VS ((((x15.ix x16).drop 2).getD 0 .any).ai),(((x15.ix x16).drop 2).getD 1 .any)]] [] fun r1 o1=>NL r1<|.loop ND Fc [VS x1,x15,VI x16,r1,VI 0] [.cells [VS o3_0,o3_1],.vec 4 e7] (fun y2 q2=>NS (y2.hA)<|NL (y2.tail.hA)<|NI (y2.tail.tail.hA)<|.al ((q2.hO)=.cells (q2.hO).cs)<|.al (ac [.lk .str,.lk .sl] ((q2.hO).cs) 0 q2.tail)<|.al (((q2.drop 1).hO)=.vec 4 ((q2.drop 1).hO).es)<|.done 0 [VS ((y2.hA).ai),(y2.tail.hA),VI (IntKind.wrap .i64 (((y2.tail.tail.hA).toInt)+1))] [.cells [VS (((q2.hO).cs.getD 0 .any).ai),((q2.hO).cs.getD 1 .any)],.vec 4 ((q2.tail.hO).es)]) (fun y2 q2=>.done 2 [] [])) (.done 1 [] [.vec 4 e7])
abbrev GI:=ct Tryz.prog 244 HW G5
theorem Lb(x1:ByteArray)(x15:AV)(x16:Int)(o3_0:ByteArray)(o3_1:AV)(e7:List (List AV))(h:jw 244 (EX x1 x15 x16 o3_0 o3_1 e7) GI U):GI [VS x1,x15,VI x16] [.cells [VS o3_0,o3_1],.vec 4 e7] U :=
 gQ yu h
def HF(x1:ByteArray)(x15:AV)(x16:Int)(x17:AV)(x18:Int)(o3_0:ByteArray)(o3_1:AV)(e7:List (List AV)):Tree :=
 NS (VS x1)<|NL x15<|NI (VI x16)<|NL x17<|NI (VI x18)<|.al (Ob.cells [VS o3_0,o3_1]=.cells [VS o3_0,o3_1])<|.al (ac [.lk .str,.lk .sl] [VS o3_0,o3_1] 0 [.vec 4 e7])<|.al (Ob.vec 4 e7=.vec 4 e7)<|NL x17<|.test (decide (x18<(x17.aN.length:Int))) (NG x15 x16 4<|NE (x15.ix x16)<|NG x17 x18 4<|NE (x17.ix x18)<|.call 98 [VS (mk [112]),.sl [[VS (((x15.ix x16).getD 0 .any).ai),((x15.ix x16).getD 1 .any)],[VS (((x17.ix x18).getD 0 .any).ai),((x17.ix x18).getD 1 .any)]]] [] fun r1 o1=>NA r1<|.call 98 [VS (mk [114]),.sl [[VS ((r1.cs.getD 0 .any).ai),(r1.cs.getD 1 .any)]]] [] fun r2 o2=>NA r2<|.call 98 [VS (mk [102]),.sl [[VS ((r2.cs.getD 0 .any).ai),(r2.cs.getD 1 .any)]]] [] fun r3 o3=>NA r3<|NG x17 x18 4<|NE ((x17.ix x18).drop 2)<|.al (cA 4 [[VS ((r3.cs.getD 0 .any).ai),(r3.cs.getD 1 .any),VS ((((x17.ix x18).drop 2).getD 0 .any).ai),(((x17.ix x18).drop 2).getD 1 .any)]]/\((e7.length)+([[VS ((r3.cs.getD 0 .any).ai),(r3.cs.getD 1 .any),VS ((((x17.ix x18).drop 2).getD 0 .any).ai),(((x17.ix x18).drop 2).getD 1 .any)]]:List (List AV)).length)*80<=140737488355328)<|.done 0 [VS x1,x15,VI x16,x17,VI (IntKind.wrap .i64 (x18+1))] [.cells [VS o3_0,o3_1],.vec 4 (e7++([[VS ((r3.cs.getD 0 .any).ai),(r3.cs.getD 1 .any),VS ((((x17.ix x18).drop 2).getD 0 .any).ai),(((x17.ix x18).drop 2).getD 1 .any)]]:List (List AV)))]) (.done 1 [VS x1,x15,VI x16] [.cells [VS o3_0,o3_1],.vec 4 e7])
abbrev Gl:=ct Tryz.prog 244 ND Fc
theorem KG(x1:ByteArray)(x15:AV)(x16:Int)(x17:AV)(x18:Int)(o3_0:ByteArray)(o3_1:AV)(e7:List (List AV))(h:jw 244 (HF x1 x15 x16 x17 x18 o3_0 o3_1 e7) Gl U):Gl [VS x1,x15,VI x16,x17,VI x18] [.cells [VS o3_0,o3_1],.vec 4 e7] U :=
 gQ yu h
def Nf(a0:ByteArray):Tree :=
 .call 108 [VS a0] [] fun r1 o1=>NP r1<|NP r1<|.test r1.isNil (.done 0 [.v (.pointer none)] []) (.call 127 [r1] [] fun r2 o2=>NB r2<|.test (!r2.toBool) (.done 0 [.v (.pointer none)] []) (.done 0 [r1] []))
theorem Rk(a0:ByteArray)(h:dq 14 (Nf a0) R):an Tryz.prog 93 [VS a0] [] R :=
 uQ (af (au _) aA) (oQ [] Tryz.f93 h)
def Kb(a0:ByteArray):Tree :=
 .call 128 [VS a0] [] fun r1 o1=>NP r1<|NP r1<|.test r1.isNil (.done 0 [.v (.pointer none)] []) (.call 129 [r1] [] fun r2 o2=>NP r2<|NP r2<|.test r2.isNil (.done 0 [.v (.pointer none)] []) (.call 75 [r2] [] fun r3 o3=>NI r3<|.test (decide (r3.toInt>(200:Int))) (.done 0 [.v (.pointer none)] []) (.done 0 [r2] [])))
theorem OL(a0:ByteArray)(h:dq 19 (Kb a0) R):an Tryz.prog 94 [VS a0] [] R :=
 uQ (af (au _) aA) (oQ [] Tryz.f94 h)
def zB(a0_0:AV)(a0_1:AV)(a1:AV)(a2:Int):Tree :=
 NZ a0_0<|NZ a0_0<|.al (LK.has (.int .u8) (a0_0.deref.hA)/\1<=a0_0.deref.length)<|.test (((a0_0.deref.hA).toInt)==(49:Int)) (NZ a1<|NZ a1<|.al (LK.has (.int .u8) (a1.deref.hA)/\1<=a1.deref.length)<|.done 0 [VB (((a1.deref.hA).toInt)==(117:Int))] []) (.test (((a0_0.deref.hA).toInt)==(110:Int)) (NZ a1<|NZ a1<|.al (LK.has (.int .u8) (a1.deref.hA)/\1<=a1.deref.length)<|.test (((a1.deref.hA).toInt) != (101:Int)) (.done 0 [VB false] []) (NZ a1<|NZ a1<|kA (a1.deref.drop 1)<|.al (0<=(1:Int)/\(1:Int)<=(ag (((a1.deref.drop 1).hA).ai):Int)/\(ag (((a1.deref.drop 1).hA).ai):Int)<=(ag (((a1.deref.drop 1).hA).ai):Int))<|.call 130 [VS (ci (((a1.deref.drop 1).hA).ai) (bF 1) (bF (ag (((a1.deref.drop 1).hA).ai):Int)))] [] fun r1 o1=>NT r1<|NI (r1.comp 0)<|.al (LK.has .j4 (r1.comp 1))<|.done 0 [VB (decide (((r1.comp 0).toInt)<a2))] [])) (.test (((a0_0.deref.hA).toInt)==(98:Int)) (.call 131 [.agg [a0_0,a0_1]] [] fun r2 o2=>NP r2<|NZ r2<|NZ r2<|.al (bB [.ptr,.ptr] r2.deref 0/\2<=r2.deref.length)<|.call 95 [.agg [(r2.deref.getD 0 .any),(r2.deref.getD 1 .any)],a1,VI a2] [] fun r3 o3=>NB r3<|.done 0 [VB r3.toBool] []) (.test (((a0_0.deref.hA).toInt)==(43:Int)) (NZ a1<|NZ a1<|.al (LK.has (.int .u8) (a1.deref.hA)/\1<=a1.deref.length)<|.test (((a1.deref.hA).toInt)==(108:Int)) (.call 113 [.agg [a0_0,a0_1]] [] fun r4 o4=>.al (r4=.agg r4.cs/\r4.cs.length=2/\bB [.ptr,.ptr] r4.cs 0)<|NZ a1<|NZ a1<|dR (a1.deref.drop 2)<|.call 95 [.agg [(r4.cs.getD 0 .any),(r4.cs.getD 1 .any)],((a1.deref.drop 2).hA),VI a2] [] fun r5 o5=>NB r5<|.test r5.toBool (.done 0 [VB true] []) (NZ a1<|NZ a1<|.al (LK.has (.int .u8) (a1.deref.hA)/\1<=a1.deref.length)<|.test (((a1.deref.hA).toInt)==(114:Int)) (.call 114 [.agg [a0_0,a0_1]] [] fun r6 o6=>.al (r6=.agg r6.cs/\r6.cs.length=2/\bB [.ptr,.ptr] r6.cs 0)<|NZ a1<|NZ a1<|dR (a1.deref.drop 2)<|.call 95 [.agg [(r6.cs.getD 0 .any),(r6.cs.getD 1 .any)],((a1.deref.drop 2).hA),VI a2] [] fun r7 o7=>NB r7<|.done 0 [VB r7.toBool] []) (.done 0 [VB false] []))) (NZ a1<|NZ a1<|.al (LK.has (.int .u8) (a1.deref.hA)/\1<=a1.deref.length)<|.test (((a1.deref.hA).toInt)==(114:Int)) (.call 114 [.agg [a0_0,a0_1]] [] fun r8 o8=>.al (r8=.agg r8.cs/\r8.cs.length=2/\bB [.ptr,.ptr] r8.cs 0)<|NZ a1<|NZ a1<|dR (a1.deref.drop 2)<|.call 95 [.agg [(r8.cs.getD 0 .any),(r8.cs.getD 1 .any)],((a1.deref.drop 2).hA),VI a2] [] fun r9 o9=>NB r9<|.done 0 [VB r9.toBool] []) (.done 0 [VB false] []))) (.test (((a0_0.deref.hA).toInt)==(42:Int)) (NZ a1<|NZ a1<|.al (LK.has (.int .u8) (a1.deref.hA)/\1<=a1.deref.length)<|.test (((a1.deref.hA).toInt)==(112:Int)) (.call 113 [.agg [a0_0,a0_1]] [] fun r10 o10=>.al (r10=.agg r10.cs/\r10.cs.length=2/\bB [.ptr,.ptr] r10.cs 0)<|NZ a1<|NZ a1<|dR (a1.deref.drop 2)<|.call 95 [.agg [(r10.cs.getD 0 .any),(r10.cs.getD 1 .any)],((a1.deref.drop 2).hA),VI a2] [] fun r11 o11=>NB r11<|.test r11.toBool (.call 114 [.agg [a0_0,a0_1]] [] fun r12 o12=>.al (r12=.agg r12.cs/\r12.cs.length=2/\bB [.ptr,.ptr] r12.cs 0)<|NZ a1<|NZ a1<|dR (a1.deref.drop 3)<|.call 95 [.agg [(r12.cs.getD 0 .any),(r12.cs.getD 1 .any)],((a1.deref.drop 3).hA),VI a2] [] fun r13 o13=>NB r13<|.done 0 [VB r13.toBool] []) (.done 0 [VB false] [])) (.done 0 [VB false] [])) (.test (((a0_0.deref.hA).toInt)==(114:Int)) (.call 86 [.agg [a0_0,a0_1]] [] fun r14 o14=>NT r14<|.al ((r14.comp 0)=.agg (r14.comp 0).cs/\(r14.comp 0).cs.length=2/\bB [.ptr,.ptr] ((r14.comp 0).cs) 0)<|NP (r14.comp 1)<|NZ a1<|NZ a1<|.al (LK.has (.int .u8) (a1.deref.hA)/\1<=a1.deref.length)<|.test (((a1.deref.hA).toInt)==(102:Int)) (NZ a1<|NZ a1<|dR (a1.deref.drop 2)<|.call 95 [.agg [((r14.comp 0).cs.getD 0 .any),((r14.comp 0).cs.getD 1 .any)],((a1.deref.drop 2).hA),VI a2] [] fun r15 o15=>NB r15<|.done 0 [VB r15.toBool] []) (.done 0 [VB false] [])) (.done 0 [VB false] []))))))
theorem JG(a0_0:AV)(a0_1:AV)(a1:AV)(a2:Int)(ha0_0:LK.has .ptr a0_0)(ha0_1:LK.has .ptr a0_1)(ha1:LK.has .ptr a1)(h:dq 134 (zB a0_0 a0_1 a1 a2) R):an Tryz.prog 95 [.agg [a0_0,a0_1],a1,VI a2] [] R :=
 uQ (af (bT (af (bu ha0_0) (af (bu ha0_1) aA))) (af (bu ha1) (af (au _) aA))) (oQ [] Tryz.f95 h)
def Im(a0:ByteArray):Tree :=
 .call 132 [VS a0] [] fun r1 o1=>NT r1<|.al ((r1.comp 0)=.agg (r1.comp 0).cs/\(r1.comp 0).cs.length=2/\bB [.str,.sl] ((r1.comp 0).cs) 0)<|NB (r1.comp 1)<|.test (!((r1.comp 1).toBool)) (.done 0 [.cI [VS (mk []),VB false]] []) (.call 121 [.agg [VS (((r1.comp 0).cs.getD 0 .any).ai),((r1.comp 0).cs.getD 1 .any)]] [] fun r2 o2=>NS r2<|.test (!(ae r2.ai==ae (mk [114,101,99]))) (.done 0 [.cI [VS (mk []),VB false]] []) (.call 133 [.agg [VS (((r1.comp 0).cs.getD 0 .any).ai),((r1.comp 0).cs.getD 1 .any)]] [] fun r3 o3=>NT r3<|.al ((r3.comp 0)=.agg (r3.comp 0).cs/\(r3.comp 0).cs.length=2/\bB [.str,.sl] ((r3.comp 0).cs) 0)<|NB (r3.comp 1)<|.test (!((r3.comp 1).toBool)) (.done 0 [.cI [VS (mk []),VB false]] []) (.call 134 [.agg [VS (((r3.comp 0).cs.getD 0 .any).ai),((r3.comp 0).cs.getD 1 .any)]] [] fun r4 o4=>NT r4<|NS (r4.comp 0)<|NB (r4.comp 1)<|.done 0 [.cI [VS ((r4.comp 0).ai),VB ((r4.comp 1).toBool)]] [])))
theorem OX(a0:ByteArray)(h:dq 31 (Im a0) R):an Tryz.prog 96 [VS a0] [] R :=
 uQ (af (au _) aA) (oQ [] Tryz.f96 h)
def D6:LI:={hd:={bD:=[(3,.k .str),(4,.k (.int .i64))],refs:=[(1,1)],cm:=[(1,[.lk .str,.lk .sl])]},xs:={bD:=[(3,.k .str)]},rt:={},ex:=0}
def Mr:Code:=cz (cu Tryz.f97) 5
def M4:List (Nat×LI):=[(5,D6)]
def Ci(a0_0:ByteArray)(a0_1:AV):Tree :=
 .test (!(ae a0_0==ae (mk []))) (.done 0 [VS a0_0] []) (.loop Mr D6 [VS (mk [40]),VI 0] [.cells [VS a0_0,a0_1]] (fun y3 q3=>NS (y3.hA)<|.al (ag ((y3.hA).ai)+ag (mk [41])<=9223372036854775807)<|.done 0 [VS ((((y3.hA).ai):ByteArray)++(mk [41]))] []) (fun y3 q3=>.done 0 [.any] []))
theorem E6(a0_0:ByteArray)(a0_1:AV)(ha0_1:LK.has .sl a0_1)(h:dq 31 (Ci a0_0 a0_1) R):an Tryz.prog 97 [.agg [VS a0_0,a0_1]] [] R :=
 uQ (af (bT (af (au _) (af (bY ha0_1) aA))) aA) (oQ M4 Tryz.f97 h)
def zW(x3:ByteArray)(x4:Int)(o1_0:ByteArray)(o1_1:AV):Tree :=
 NS (VS x3)<|NI (VI x4)<|.al (Ob.cells [VS o1_0,o1_1]=.cells [VS o1_0,o1_1])<|.al (ac [.lk .str,.lk .sl] [VS o1_0,o1_1] 0 [])<|NL o1_1<|.test (decide (x4<(o1_1.aN.length:Int))) (.test (decide (x4>(0:Int))) (.al (ag x3+ag (mk [32])<=9223372036854775807)<|NG o1_1 x4 2<|NE (o1_1.ix x4)<|.call 97 [.agg [VS (((o1_1.ix x4).getD 0 .any).ai),((o1_1.ix x4).getD 1 .any)]] [] fun r1 o1=>NS r1<|.al (ag ((x3:ByteArray)++(mk [32]))+ag r1.ai<=9223372036854775807)<|.done 0 [VS ((((x3:ByteArray)++(mk [32])):ByteArray)++r1.ai),VI (IntKind.wrap .i64 (x4+1))] [.cells [VS o1_0,o1_1]]) (NG o1_1 x4 2<|NE (o1_1.ix x4)<|.call 97 [.agg [VS (((o1_1.ix x4).getD 0 .any).ai),((o1_1.ix x4).getD 1 .any)]] [] fun r2 o2=>NS r2<|.al (ag x3+ag r2.ai<=9223372036854775807)<|.done 0 [VS ((x3:ByteArray)++r2.ai),VI (IntKind.wrap .i64 (x4+1))] [.cells [VS o1_0,o1_1]])) (.done 1 [VS x3] [])
abbrev BM:=ct Tryz.prog 31 Mr D6
theorem CI(x3:ByteArray)(x4:Int)(o1_0:ByteArray)(o1_1:AV)(h:jw 31 (zW x3 x4 o1_0 o1_1) BM U):BM [VS x3,VI x4] [.cells [VS o1_0,o1_1]] U :=
 gQ M4 h
def Es(a0:ByteArray)(a1:AV):Tree :=
 .al (LK.has .sl a1/\cA 2 a1.aN/\((([[VS a0,.v (.slice none 0 0)]]:List (List AV)).length)+a1.aN.length)*40<=140737488355328)<|.done 0 [.agg [VS (mk []),.sl (([[VS a0,.v (.slice none 0 0)]]:List (List AV))++a1.aN)]] []
theorem JD(a0:ByteArray)(a1:AV)(ha1:LK.has .sl a1)(h:dq 11 (Es a0 a1) R):an Tryz.prog 98 [VS a0,a1] [] R :=
 uQ (af (au _) (af (bY ha1) aA)) (oQ [] Tryz.f98 h)
def Dg(a0_0:ByteArray)(a0_1:AV)(a1:ByteArray)(a2_0:ByteArray)(a2_1:AV)(a3_0:ByteArray)(a3_1:AV):Tree :=
 .test (!(ae a0_0==ae (mk []))) (.done 0 [.agg [VS a3_0,a3_1]] []) (NG a2_1 1 2<|NE (a2_1.ix (1:Int))<|.call 121 [.agg [VS a0_0,a0_1]] [] fun r1 o1=>NS r1<|.call 121 [.agg [VS a2_0,a2_1]] [] fun r2 o2=>NS r2<|.al (ag r1.ai+ag r2.ai<=9223372036854775807)<|.test (ae ((r1.ai:ByteArray)++r2.ai)==ae (mk [43,108])) (NG a0_1 1 2<|NE (a0_1.ix (1:Int))<|.call 99 [.agg [VS (((a0_1.ix (1:Int)).getD 0 .any).ai),((a0_1.ix (1:Int)).getD 1 .any)],VS a1,.agg [VS (((a2_1.ix (1:Int)).getD 0 .any).ai),((a2_1.ix (1:Int)).getD 1 .any)],.agg [VS a3_0,a3_1]] [] fun r3 o3=>NA r3<|.call 98 [VS (mk [108]),.sl [[VS ((r3.cs.getD 0 .any).ai),(r3.cs.getD 1 .any)]]] [] fun r4 o4=>NA r4<|.done 0 [.agg [VS ((r4.cs.getD 0 .any).ai),(r4.cs.getD 1 .any)]] []) (.test (ae ((r1.ai:ByteArray)++r2.ai)==ae (mk [43,114])) (NG a0_1 2 2<|NE (a0_1.ix (2:Int))<|.call 99 [.agg [VS (((a0_1.ix (2:Int)).getD 0 .any).ai),((a0_1.ix (2:Int)).getD 1 .any)],VS a1,.agg [VS (((a2_1.ix (1:Int)).getD 0 .any).ai),((a2_1.ix (1:Int)).getD 1 .any)],.agg [VS a3_0,a3_1]] [] fun r5 o5=>NA r5<|.call 98 [VS (mk [114]),.sl [[VS ((r5.cs.getD 0 .any).ai),(r5.cs.getD 1 .any)]]] [] fun r6 o6=>NA r6<|.done 0 [.agg [VS ((r6.cs.getD 0 .any).ai),(r6.cs.getD 1 .any)]] []) (.test (ae ((r1.ai:ByteArray)++r2.ai)==ae (mk [42,108])) (NG a0_1 1 2<|NE (a0_1.ix (1:Int))<|NG ((a2_1.ix (1:Int)).getD 1 .any) 1 2<|NE (((a2_1.ix (1:Int)).getD 1 .any).ix (1:Int))<|.call 99 [.agg [VS (((a0_1.ix (1:Int)).getD 0 .any).ai),((a0_1.ix (1:Int)).getD 1 .any)],VS a1,.agg [VS (((((a2_1.ix (1:Int)).getD 1 .any).ix (1:Int)).getD 0 .any).ai),((((a2_1.ix (1:Int)).getD 1 .any).ix (1:Int)).getD 1 .any)],.agg [VS a3_0,a3_1]] [] fun r7 o7=>NA r7<|NG ((a2_1.ix (1:Int)).getD 1 .any) 2 2<|NE (((a2_1.ix (1:Int)).getD 1 .any).ix (2:Int))<|.call 98 [VS (mk [112]),.sl [[VS ((r7.cs.getD 0 .any).ai),(r7.cs.getD 1 .any)],[VS (((((a2_1.ix (1:Int)).getD 1 .any).ix (2:Int)).getD 0 .any).ai),((((a2_1.ix (1:Int)).getD 1 .any).ix (2:Int)).getD 1 .any)]]] [] fun r8 o8=>NA r8<|.done 0 [.agg [VS ((r8.cs.getD 0 .any).ai),(r8.cs.getD 1 .any)]] []) (.test (ae ((r1.ai:ByteArray)++r2.ai)==ae (mk [42,114])) (NG ((a2_1.ix (1:Int)).getD 1 .any) 1 2<|NE (((a2_1.ix (1:Int)).getD 1 .any).ix (1:Int))<|NG a0_1 2 2<|NE (a0_1.ix (2:Int))<|NG ((a2_1.ix (1:Int)).getD 1 .any) 2 2<|NE (((a2_1.ix (1:Int)).getD 1 .any).ix (2:Int))<|.call 99 [.agg [VS (((a0_1.ix (2:Int)).getD 0 .any).ai),((a0_1.ix (2:Int)).getD 1 .any)],VS a1,.agg [VS (((((a2_1.ix (1:Int)).getD 1 .any).ix (2:Int)).getD 0 .any).ai),((((a2_1.ix (1:Int)).getD 1 .any).ix (2:Int)).getD 1 .any)],.agg [VS a3_0,a3_1]] [] fun r9 o9=>NA r9<|.call 98 [VS (mk [112]),.sl [[VS (((((a2_1.ix (1:Int)).getD 1 .any).ix (1:Int)).getD 0 .any).ai),((((a2_1.ix (1:Int)).getD 1 .any).ix (1:Int)).getD 1 .any)],[VS ((r9.cs.getD 0 .any).ai),(r9.cs.getD 1 .any)]]] [] fun r10 o10=>NA r10<|.done 0 [.agg [VS ((r10.cs.getD 0 .any).ai),(r10.cs.getD 1 .any)]] []) (.call 121 [.agg [VS (((a2_1.ix (1:Int)).getD 0 .any).ai),((a2_1.ix (1:Int)).getD 1 .any)]] [] fun r11 o11=>NS r11<|.test (ae r11.ai==ae (mk [108])) (NG a0_1 2 2<|NE (a0_1.ix (2:Int))<|NG ((a2_1.ix (1:Int)).getD 1 .any) 1 2<|NE (((a2_1.ix (1:Int)).getD 1 .any).ix (1:Int))<|.call 99 [.agg [VS (((a0_1.ix (2:Int)).getD 0 .any).ai),((a0_1.ix (2:Int)).getD 1 .any)],VS a1,.agg [VS (((((a2_1.ix (1:Int)).getD 1 .any).ix (1:Int)).getD 0 .any).ai),((((a2_1.ix (1:Int)).getD 1 .any).ix (1:Int)).getD 1 .any)],.agg [VS a3_0,a3_1]] [] fun r12 o12=>NA r12<|.call 98 [VS (mk [102]),.sl [[VS ((r12.cs.getD 0 .any).ai),(r12.cs.getD 1 .any)]]] [] fun r13 o13=>NA r13<|.done 0 [.agg [VS ((r13.cs.getD 0 .any).ai),(r13.cs.getD 1 .any)]] []) (NG ((a2_1.ix (1:Int)).getD 1 .any) 1 2<|NE (((a2_1.ix (1:Int)).getD 1 .any).ix (1:Int))<|NG ((((a2_1.ix (1:Int)).getD 1 .any).ix (1:Int)).getD 1 .any) 2 2<|NE (((((a2_1.ix (1:Int)).getD 1 .any).ix (1:Int)).getD 1 .any).ix (2:Int))<|.call 99 [.agg [VS a0_0,a0_1],VS a1,.agg [VS (((((((a2_1.ix (1:Int)).getD 1 .any).ix (1:Int)).getD 1 .any).ix (2:Int)).getD 0 .any).ai),((((((a2_1.ix (1:Int)).getD 1 .any).ix (1:Int)).getD 1 .any).ix (2:Int)).getD 1 .any)],.agg [VS a3_0,a3_1]] [] fun r14 o14=>NA r14<|NG a0_1 2 2<|NE (a0_1.ix (2:Int))<|NG a0_1 1 2<|kA (a0_1.ix (1:Int))<|NG ((((a2_1.ix (1:Int)).getD 1 .any).ix (1:Int)).getD 1 .any) 1 2<|NE (((((a2_1.ix (1:Int)).getD 1 .any).ix (1:Int)).getD 1 .any).ix (1:Int))<|.call 99 [.agg [VS (((a0_1.ix (2:Int)).getD 0 .any).ai),((a0_1.ix (2:Int)).getD 1 .any)],VS (((a0_1.ix (1:Int)).hA).ai),.agg [VS (((((((a2_1.ix (1:Int)).getD 1 .any).ix (1:Int)).getD 1 .any).ix (1:Int)).getD 0 .any).ai),((((((a2_1.ix (1:Int)).getD 1 .any).ix (1:Int)).getD 1 .any).ix (1:Int)).getD 1 .any)],.agg [VS ((r14.cs.getD 0 .any).ai),(r14.cs.getD 1 .any)]] [] fun r15 o15=>NA r15<|.call 98 [VS (mk [102]),.sl [[VS ((r15.cs.getD 0 .any).ai),(r15.cs.getD 1 .any)]]] [] fun r16 o16=>NA r16<|.done 0 [.agg [VS ((r16.cs.getD 0 .any).ai),(r16.cs.getD 1 .any)]] []))))))
theorem PF(a0_0:ByteArray)(a0_1:AV)(a1:ByteArray)(a2_0:ByteArray)(a2_1:AV)(a3_0:ByteArray)(a3_1:AV)(ha0_1:LK.has .sl a0_1)(ha2_1:LK.has .sl a2_1)(ha3_1:LK.has .sl a3_1)(h:dq 132 (Dg a0_0 a0_1 a1 a2_0 a2_1 a3_0 a3_1) R):an Tryz.prog 99 [.agg [VS a0_0,a0_1],VS a1,.agg [VS a2_0,a2_1],.agg [VS a3_0,a3_1]] [] R :=
 uQ (af (bT (af (au _) (af (bY ha0_1) aA))) (af (au _) (af (bT (af (au _) (af (bY ha2_1) aA))) (af (bT (af (au _) (af (bY ha3_1) aA))) aA)))) (oQ [] Tryz.f99 h)
def Mw(a0:Int)(a1:AV):Tree :=
 .done 0 [.ptr [.v (.int .u8 a0),VS (mk []),a1,.v (.pointer none)]] []
theorem Q4(a0:Int)(a1:AV)(ha1:LK.has .ptr a1)(h:dq 9 (Mw a0 a1) R):an Tryz.prog 100 [.v (.int .u8 a0),a1] [] R :=
 uQ (af (au _) (af (bu ha1) aA)) (oQ [] Tryz.f100 h)
def BI(a0_0:AV)(a0_1:AV)(a1:AV)(a2_0:ByteArray)(a2_1:AV)(a3:AV):Tree :=
 NZ a0_0<|NZ a0_0<|.al (LK.has (.int .u8) (a0_0.deref.hA)/\1<=a0_0.deref.length)<|.test (((a0_0.deref.hA).toInt)==(43:Int)) (.call 113 [.agg [a0_0,a0_1]] [] fun r1 o1=>.al (r1=.agg r1.cs/\r1.cs.length=2/\bB [.ptr,.ptr] r1.cs 0)<|NZ a1<|NZ a1<|.al (LK.has (.int .u8) (a1.deref.hA)/\1<=a1.deref.length)<|.test (((a1.deref.hA).toInt)==(114:Int)) (.call 114 [.agg [a0_0,a0_1]] [] fun r2 o2=>.al (r2=.agg r2.cs/\r2.cs.length=2/\bB [.ptr,.ptr] r2.cs 0)<|NZ a1<|NZ a1<|.al (LK.has (.int .u8) (a1.deref.hA)/\1<=a1.deref.length)<|NZ a1<|NZ a1<|dR (a1.deref.drop 2)<|.call 101 [.agg [(r2.cs.getD 0 .any),(r2.cs.getD 1 .any)],((a1.deref.drop 2).hA),.agg [VS a2_0,a2_1],a3] [] fun r3 o3=>NP r3<|.call 100 [.v (.int .u8 ((a1.deref.hA).toInt)),r3] [] fun r4 o4=>NP r4<|.done 0 [r4] []) (NZ a1<|NZ a1<|.al (LK.has (.int .u8) (a1.deref.hA)/\1<=a1.deref.length)<|NZ a1<|NZ a1<|dR (a1.deref.drop 2)<|.call 101 [.agg [(r1.cs.getD 0 .any),(r1.cs.getD 1 .any)],((a1.deref.drop 2).hA),.agg [VS a2_0,a2_1],a3] [] fun r5 o5=>NP r5<|.call 100 [.v (.int .u8 ((a1.deref.hA).toInt)),r5] [] fun r6 o6=>NP r6<|.done 0 [r6] [])) (.test (((a0_0.deref.hA).toInt)==(42:Int)) (NZ a1<|NZ a1<|.al (LK.has (.int .u8) (a1.deref.hA)/\1<=a1.deref.length)<|.test (((a1.deref.hA).toInt)==(108:Int)) (.call 113 [.agg [a0_0,a0_1]] [] fun r7 o7=>.al (r7=.agg r7.cs/\r7.cs.length=2/\bB [.ptr,.ptr] r7.cs 0)<|NZ a1<|NZ a1<|dR (a1.deref.drop 2)<|NZ ((a1.deref.drop 2).hA)<|NZ ((a1.deref.drop 2).hA)<|dR (((a1.deref.drop 2).hA).deref.drop 2)<|.call 101 [.agg [(r7.cs.getD 0 .any),(r7.cs.getD 1 .any)],((((a1.deref.drop 2).hA).deref.drop 2).hA),.agg [VS a2_0,a2_1],a3] [] fun r8 o8=>NP r8<|NZ a1<|NZ a1<|dR (a1.deref.drop 2)<|NZ ((a1.deref.drop 2).hA)<|NZ ((a1.deref.drop 2).hA)<|dR (((a1.deref.drop 2).hA).deref.drop 3)<|.call 117 [r8,((((a1.deref.drop 2).hA).deref.drop 3).hA)] [] fun r9 o9=>NP r9<|.done 0 [r9] []) (NZ a1<|NZ a1<|dR (a1.deref.drop 2)<|NZ ((a1.deref.drop 2).hA)<|NZ ((a1.deref.drop 2).hA)<|dR (((a1.deref.drop 2).hA).deref.drop 2)<|.call 114 [.agg [a0_0,a0_1]] [] fun r10 o10=>.al (r10=.agg r10.cs/\r10.cs.length=2/\bB [.ptr,.ptr] r10.cs 0)<|NZ a1<|NZ a1<|dR (a1.deref.drop 2)<|NZ ((a1.deref.drop 2).hA)<|NZ ((a1.deref.drop 2).hA)<|dR (((a1.deref.drop 2).hA).deref.drop 3)<|.call 101 [.agg [(r10.cs.getD 0 .any),(r10.cs.getD 1 .any)],((((a1.deref.drop 2).hA).deref.drop 3).hA),.agg [VS a2_0,a2_1],a3] [] fun r11 o11=>NP r11<|.call 117 [((((a1.deref.drop 2).hA).deref.drop 2).hA),r11] [] fun r12 o12=>NP r12<|.done 0 [r12] [])) (.test (((a0_0.deref.hA).toInt)==(114:Int)) (.call 86 [.agg [a0_0,a0_1]] [] fun r13 o13=>NT r13<|.al ((r13.comp 0)=.agg (r13.comp 0).cs/\(r13.comp 0).cs.length=2/\bB [.ptr,.ptr] ((r13.comp 0).cs) 0)<|NP (r13.comp 1)<|NZ a1<|NZ a1<|dR (a1.deref.drop 2)<|NZ ((a1.deref.drop 2).hA)<|NZ ((a1.deref.drop 2).hA)<|.al (LK.has (.int .u8) (((a1.deref.drop 2).hA).deref.hA)/\1<=(((a1.deref.drop 2).hA).deref).length)<|.test (((((a1.deref.drop 2).hA).deref.hA).toInt)==(108:Int)) (NZ a1<|NZ a1<|dR (a1.deref.drop 2)<|NZ ((a1.deref.drop 2).hA)<|NZ ((a1.deref.drop 2).hA)<|dR (((a1.deref.drop 2).hA).deref.drop 2)<|.call 101 [.agg [((r13.comp 0).cs.getD 0 .any),((r13.comp 0).cs.getD 1 .any)],((((a1.deref.drop 2).hA).deref.drop 2).hA),.agg [VS a2_0,a2_1],a3] [] fun r14 o14=>NP r14<|.call 100 [.v (.int .u8 102),r14] [] fun r15 o15=>NP r15<|.done 0 [r15] []) (NZ a1<|NZ a1<|dR (a1.deref.drop 2)<|NZ ((a1.deref.drop 2).hA)<|NZ ((a1.deref.drop 2).hA)<|dR (((a1.deref.drop 2).hA).deref.drop 2)<|NZ ((((a1.deref.drop 2).hA).deref.drop 2).hA)<|NZ ((((a1.deref.drop 2).hA).deref.drop 2).hA)<|dR (((((a1.deref.drop 2).hA).deref.drop 2).hA).deref.drop 3)<|.call 101 [.agg [a0_0,a0_1],((((((a1.deref.drop 2).hA).deref.drop 2).hA).deref.drop 3).hA),.agg [VS a2_0,a2_1],a3] [] fun r16 o16=>NP r16<|NZ a1<|NZ a1<|dR (a1.deref.drop 2)<|NZ ((a1.deref.drop 2).hA)<|NZ ((a1.deref.drop 2).hA)<|dR (((a1.deref.drop 2).hA).deref.drop 2)<|NZ ((((a1.deref.drop 2).hA).deref.drop 2).hA)<|NZ ((((a1.deref.drop 2).hA).deref.drop 2).hA)<|dR (((((a1.deref.drop 2).hA).deref.drop 2).hA).deref.drop 2)<|.call 101 [.agg [((r13.comp 0).cs.getD 0 .any),((r13.comp 0).cs.getD 1 .any)],((((((a1.deref.drop 2).hA).deref.drop 2).hA).deref.drop 2).hA),.agg [VS (mk []),(r13.comp 1)],r16] [] fun r17 o17=>NP r17<|.call 100 [.v (.int .u8 102),r17] [] fun r18 o18=>NP r18<|.done 0 [r18] [])) (.done 0 [a3] [])))
theorem Qn(a0_0:AV)(a0_1:AV)(a1:AV)(a2_0:ByteArray)(a2_1:AV)(a3:AV)(ha0_0:LK.has .ptr a0_0)(ha0_1:LK.has .ptr a0_1)(ha1:LK.has .ptr a1)(ha2_1:LK.has .ptr a2_1)(ha3:LK.has .ptr a3)(h:dq 147 (BI a0_0 a0_1 a1 a2_0 a2_1 a3) R):an Tryz.prog 101 [.agg [a0_0,a0_1],a1,.agg [VS a2_0,a2_1],a3] [] R :=
 uQ (af (bT (af (bu ha0_0) (af (bu ha0_1) aA))) (af (bu ha1) (af (bT (af (au _) (af (bu ha2_1) aA))) (af (bu ha3) aA)))) (oQ [] Tryz.f101 h)
def FO:LI:={hd:={bD:=[(7,.k (.int .i64))],refs:=[(2,2),(4,4)],cm:=[(2,[.lk .str,.lk .sl]),(4,[.lk .str,.lk .sl])],eH:=[(6,1)]},xs:={refs:=[(2,2),(4,4)],cm:=[(2,[.lk .str,.lk .sl]),(4,[.lk .str,.lk .sl])]},rt:={bD:=[(3,.k .bool)],refs:=[(2,2)],cm:=[(2,[.lk .str,.lk .sl])]},ex:=0}
def LB:Code:=cz (cu Tryz.f104) 6
def Km:List (Nat×LI):=[(6,FO)]
def IL(a0:ByteArray):Tree :=
 .call 132 [VS a0] [] fun r1 o1=>NT r1<|.al ((r1.comp 0)=.agg (r1.comp 0).cs/\(r1.comp 0).cs.length=2/\bB [.str,.sl] ((r1.comp 0).cs) 0)<|NB (r1.comp 1)<|.test (!((r1.comp 1).toBool)) (.done 0 [.cI [.agg [VS (((r1.comp 0).cs.getD 0 .any).ai),((r1.comp 0).cs.getD 1 .any)],VB false]] []) (.call 137 [.agg [VS (((r1.comp 0).cs.getD 0 .any).ai),((r1.comp 0).cs.getD 1 .any)],.sl [],.vec 0] [.vec 1 []] fun r2 o2=>.al (r2=.vec 1/\(o2.tail.hO)=.vec 1 (o2.tail.hO).es)<|.loop LB FO [VI 0] [.cells [VS (mk []),.v (.slice none 0 0)],.cells [VS (((r1.comp 0).cs.getD 0 .any).ai),((r1.comp 0).cs.getD 1 .any)],.vec 1 ((o2.tail.hO).es)] (fun y4 q4=>.al ((q4.hO)=.cells (q4.hO).cs)<|.al (ac [.lk .str,.lk .sl] ((q4.hO).cs) 0 q4.tail)<|.al (((q4.tail.drop 0).hO)=.cells ((q4.tail.drop 0).hO).cs)<|.al (ac [.lk .str,.lk .sl] (((q4.tail.drop 0).hO).cs) 0 ((q4.tail.drop 0).tail))<|.done 0 [.cI [.agg [VS (((q4.tail.hO).cs.getD 0 .any).ai),((q4.tail.hO).cs.getD 1 .any)],VB true]] []) (fun y4 q4=>NB (y4.hA)<|.al ((q4.hO)=.cells (q4.hO).cs)<|.al (ac [.lk .str,.lk .sl] ((q4.hO).cs) 0 q4.tail)<|.done 0 [.cI [.agg [VS (((q4.hO).cs.getD 0 .any).ai),((q4.hO).cs.getD 1 .any)],VB ((y4.hA).toBool)]] []))
theorem QN(a0:ByteArray)(h:dq 33 (IL a0) R):an Tryz.prog 104 [VS a0] [] R :=
 uQ (af (au _) aA) (oQ Km Tryz.f104 h)
def G3(x7:Int)(o2_0:ByteArray)(o2_1:AV)(o4_0:ByteArray)(o4_1:AV)(e6:List (List AV)):Tree :=
 NI (VI x7)<|.al (Ob.cells [VS o2_0,o2_1]=.cells [VS o2_0,o2_1])<|.al (ac [.lk .str,.lk .sl] [VS o2_0,o2_1] 0 [.cells [VS o4_0,o4_1],.vec 1 e6])<|.al (Ob.cells [VS o4_0,o4_1]=.cells [VS o4_0,o4_1])<|.al (ac [.lk .str,.lk .sl] [VS o4_0,o4_1] 0 [.vec 1 e6])<|.al (Ob.vec 1 e6=.vec 1 e6)<|.test (decide (x7<(e6.length:Int))) (.al (0<=x7/\x7<e6.length)<|.al (x7.toNat<e6.length/\0<(e6.getD x7.toNat []).length/\LK.has .str ((e6.getD x7.toNat []).getD 0 .any))<|.call 138 [VS (((e6.getD x7.toNat []).getD 0 .any).ai)] [] fun r1 o1=>NB r1<|.test r1.toBool (.done 2 [VB false] [.cells [VS o4_0,o4_1]]) (.done 0 [VI (IntKind.wrap .i64 (x7+1))] [.cells [VS o2_0,o2_1],.cells [VS o4_0,o4_1],.vec 1 e6])) (.done 1 [] [.cells [VS o2_0,o2_1],.cells [VS o4_0,o4_1]])
abbrev Fh:=ct Tryz.prog 33 LB FO
theorem KV(x7:Int)(o2_0:ByteArray)(o2_1:AV)(o4_0:ByteArray)(o4_1:AV)(e6:List (List AV))(h:jw 33 (G3 x7 o2_0 o2_1 o4_0 o4_1 e6) Fh U):Fh [VI x7] [.cells [VS o2_0,o2_1],.cells [VS o4_0,o4_1],.vec 1 e6] U :=
 gQ Km h
def FF:LI:={hd:={bD:=[(1,.k .sl),(6,.k (.int .i64))],refs:=[(2,2),(4,4)],cm:=[(2,[.lk .str,.lk .sl]),(4,[.lk .str,.lk .sl])],eH:=[(5,1)]},xs:={refs:=[(2,2),(4,4)],cm:=[(2,[.lk .str,.lk .sl]),(4,[.lk .str,.lk .sl])],eH:=[(5,1)]},rt:={},ex:=0}
def Jw:Code:=cz (cu Tryz.f106) 3
def Le:List (Nat×LI):=[(3,FF)]
def Mf(a0_0:ByteArray)(a0_1:AV)(a1:AV):Tree :=
 .call 137 [.agg [VS a0_0,a0_1],.sl [],.vec 0] [.vec 1 []] fun r1 o1=>.al (r1=.vec 1/\(o1.tail.hO)=.vec 1 (o1.tail.hO).es)<|.loop Jw FF [a1,VI 0] [.cells [VS a0_0,a0_1],.cells [VS (mk []),.v (.slice none 0 0)],.vec 1 ((o1.tail.hO).es)] (fun y3 q3=>.al ((q3.hO)=.cells (q3.hO).cs)<|.al (ac [.lk .str,.lk .sl] ((q3.hO).cs) 0 q3.tail)<|.al (((q3.tail.drop 0).hO)=.cells ((q3.tail.drop 0).hO).cs)<|.al (ac [.lk .str,.lk .sl] (((q3.tail.drop 0).hO).cs) 0 ((q3.tail.drop 0).tail))<|.al (((q3.drop 2).hO)=.vec 1 ((q3.drop 2).hO).es)<|.call 143 [.agg [VS (((q3.hO).cs.getD 0 .any).ai),((q3.hO).cs.getD 1 .any)],.sl [],.sl [],.ref 0 0] [.cells [.vec 1,VI 0],.vec 1 ((q3.tail.tail.hO).es)] fun r4 o4=>.al ((o4.hO)=.cells (o4.hO).cs)<|.al (bn [.vec 1,.lk (.int .i64)] ((o4.hO).cs) 0 1 o4.tail)<|NA r4<|.done 0 [.agg [VS ((r4.cs.getD 0 .any).ai),(r4.cs.getD 1 .any)]] []) (fun y3 q3=>.fail)
theorem P8(a0_0:ByteArray)(a0_1:AV)(a1:AV)(ha0_1:LK.has .sl a0_1)(ha1:LK.has .sl a1)(h:dq 33 (Mf a0_0 a0_1 a1) R):an Tryz.prog 106 [.agg [VS a0_0,a0_1],a1] [] R :=
 uQ (af (bT (af (au _) (af (bY ha0_1) aA))) (af (bY ha1) aA)) (oQ Le Tryz.f106 h)
def Ee(x1:AV)(x6:Int)(o2_0:ByteArray)(o2_1:AV)(o4_0:ByteArray)(o4_1:AV)(e5:List (List AV)):Tree :=
 NL x1<|NI (VI x6)<|.al (Ob.cells [VS o2_0,o2_1]=.cells [VS o2_0,o2_1])<|.al (ac [.lk .str,.lk .sl] [VS o2_0,o2_1] 0 [.cells [VS o4_0,o4_1],.vec 1 e5])<|.al (Ob.cells [VS o4_0,o4_1]=.cells [VS o4_0,o4_1])<|.al (ac [.lk .str,.lk .sl] [VS o4_0,o4_1] 0 [.vec 1 e5])<|.al (Ob.vec 1 e5=.vec 1 e5)<|NL x1<|.test (decide (x6<(x1.aN.length:Int))) (NG x1 x6 2<|NE (x1.ix x6)<|.call 137 [.agg [VS (((x1.ix x6).getD 0 .any).ai),((x1.ix x6).getD 1 .any)],.sl [],.vec 0] [.vec 1 []] fun r1 o1=>.al (r1=.vec 1/\(o1.tail.hO)=.vec 1 (o1.tail.hO).es)<|.al (cA 1 ((o1.tail.hO).es)/\((e5.length)+((o1.tail.hO).es).length)*16<=140737488355328)<|.done 0 [x1,VI (IntKind.wrap .i64 (x6+1))] [.cells [VS o2_0,o2_1],.cells [VS o4_0,o4_1],.vec 1 (e5++((o1.tail.hO).es))]) (.done 1 [] [.cells [VS o2_0,o2_1],.cells [VS o4_0,o4_1],.vec 1 e5])
abbrev Gp:=ct Tryz.prog 33 Jw FF
theorem JR(x1:AV)(x6:Int)(o2_0:ByteArray)(o2_1:AV)(o4_0:ByteArray)(o4_1:AV)(e5:List (List AV))(h:jw 33 (Ee x1 x6 o2_0 o2_1 o4_0 o4_1 e5) Gp U):Gp [x1,VI x6] [.cells [VS o2_0,o2_1],.cells [VS o4_0,o4_1],.vec 1 e5] U :=
 gQ Le h
def H0(a0:ByteArray):Tree :=
 .call 93 [VS a0] [] fun r1 o1=>NP r1<|NP r1<|.test r1.isNil (.done 0 [.v (.pointer none)] []) (NZ r1<|NZ r1<|.al (LK.has (.int .u8) (r1.deref.hA)/\1<=r1.deref.length)<|.test (((r1.deref.hA).toInt) != (114:Int)) (.done 0 [.v (.pointer none)] []) (.done 0 [r1] []))
theorem OP(a0:ByteArray)(h:dq 16 (H0 a0) R):an Tryz.prog 107 [VS a0] [] R :=
 uQ (af (au _) aA) (oQ [] Tryz.f107 h)
def HU(a0:ByteArray):Tree :=
 .call 128 [VS a0] [] fun r1 o1=>NP r1<|NP r1<|.test r1.isNil (.done 0 [.v (.pointer none)] []) (.call 144 [r1,.v (.slice none 0 0)] [] fun r2 o2=>NP r2<|NP r2<|.test r2.isNil (.done 0 [.v (.pointer none)] []) (.call 145 [r2] [] fun r3 o3=>NI r3<|.test (decide (r3.toInt>(400:Int))) (.done 0 [.v (.pointer none)] []) (.done 0 [r2] [])))
theorem QE(a0:ByteArray)(h:dq 19 (HU a0) R):an Tryz.prog 108 [VS a0] [] R :=
 uQ (af (au _) aA) (oQ [] Tryz.f108 h)
def K9(a0:AV):Tree :=
 .call 146 [.ref 0 0] [.cells [VI 0,VB false]] fun r1 o1=>.al ((o1.hO)=.cells (o1.hO).cs)<|.al (bn [.lk (.int .i64),.lk .bool] ((o1.hO).cs) 0 1 o1.tail)<|NS r1<|NZ a0<|NZ a0<|dR (a0.deref.drop 3)<|.call 149 [((a0.deref.drop 3).hA),.ptr [.v (.int .u8 110),VS r1.ai,VI 0,.v (.pointer none),.v (.pointer none)],VI 0] [] fun r2 o2=>NP r2<|.call 148 [.ref 0 0,r2,VS r1.ai] [.cells [VI (((o1.hO).cs.getD 0 .any).toInt),VB (((o1.hO).cs.getD 1 .any).toBool)]] fun r3 o3=>.al ((o3.hO)=.cells (o3.hO).cs)<|.al (bn [.lk (.int .i64),.lk .bool] ((o3.hO).cs) 0 1 o3.tail)<|NP r3<|.call 147 [.ref 0 0,r3] [.cells [VI (((o3.hO).cs.getD 0 .any).toInt),VB (((o3.hO).cs.getD 1 .any).toBool)]] fun r4 o4=>.al ((o4.hO)=.cells (o4.hO).cs)<|.al (bn [.lk (.int .i64),.lk .bool] ((o4.hO).cs) 0 1 o4.tail)<|NP r4<|.test (((o4.hO).cs.getD 1 .any).toBool) (.done 0 [.cI [.v (.pointer none),VB false]] []) (.call 150 [r4,VS r1.ai,a0] [] fun r5 o5=>NP r5<|.call 147 [.ref 0 0,r5] [.cells [VI (((o4.hO).cs.getD 0 .any).toInt),VB (((o4.hO).cs.getD 1 .any).toBool)]] fun r6 o6=>.al ((o6.hO)=.cells (o6.hO).cs)<|.al (bn [.lk (.int .i64),.lk .bool] ((o6.hO).cs) 0 1 o6.tail)<|NP r6<|.done 0 [.cI [r6,VB (!(((o6.hO).cs.getD 1 .any).toBool))]] [])
theorem Qg(a0:AV)(ha0:LK.has .ptr a0)(h:dq 40 (K9 a0) R):an Tryz.prog 109 [a0] [] R :=
 uQ (af (bu ha0) aA) (oQ [] Tryz.f109 h)
def MY(a0:AV):Tree :=
 .call 145 [a0] [] fun r1 o1=>NI r1<|.test (decide (r1.toInt>(400:Int))) (.done 0 [.cI [VS (mk []),VB false]] []) (.call 151 [a0] [] fun r2 o2=>NS r2<|.call 108 [VS r2.ai] [] fun r3 o3=>NP r3<|NP r3<|.test r3.isNil (.done 0 [.cI [VS (mk []),VB false]] []) (.done 0 [.cI [VS r2.ai,VB true]] []))
theorem Og(a0:AV)(ha0:LK.has .ptr a0)(h:dq 14 (MY a0) R):an Tryz.prog 110 [a0] [] R :=
 uQ (af (bu ha0) aA) (oQ [] Tryz.f110 h)
def BU(a0_0:ByteArray)(a0_1:AV)(a1_0:AV)(a1_1:AV):Tree :=
 NP a0_1<|.test (!a0_1.isNil) (NZ a1_0<|NZ a1_0<|.al (LK.has (.int .u8) (a1_0.deref.hA)/\1<=a1_0.deref.length)<|.test (((a1_0.deref.hA).toInt)==(98:Int)) (.call 131 [.agg [a1_0,a1_1]] [] fun r1 o1=>NP r1<|.al (AV.qO r1/\AV.qO a0_1)<|.done 0 [VB (AV.AK r1 a0_1)] []) (.done 0 [VB false] [])) (NZ a1_0<|NZ a1_0<|.al (LK.has (.int .u8) (a1_0.deref.hA)/\1<=a1_0.deref.length)<|.test (((a1_0.deref.hA).toInt)==(110:Int)) (NZ a1_0<|NZ a1_0<|kA (a1_0.deref.drop 1)<|.done 0 [VB (ae (((a1_0.deref.drop 1).hA).ai)==ae a0_0)] []) (.done 0 [VB false] []))
theorem Pm(a0_0:ByteArray)(a0_1:AV)(a1_0:AV)(a1_1:AV)(ha0_1:LK.has .ptr a0_1)(ha1_0:LK.has .ptr a1_0)(ha1_1:LK.has .ptr a1_1)(h:dq 37 (BU a0_0 a0_1 a1_0 a1_1) R):an Tryz.prog 111 [.agg [VS a0_0,a0_1],.agg [a1_0,a1_1]] [] R :=
 uQ (af (bT (af (au _) (af (bu ha0_1) aA))) (af (bT (af (bu ha1_0) (af (bu ha1_1) aA))) aA)) (oQ [] Tryz.f111 h)
def EE:LI:={hd:={bD:=[(7,.k .sl),(8,.k (.int .i64)),(9,.k (.int .i64))],refs:=[(2,1)],cm:=[(0,[.lk .ptr]),(1,[.vec 2])],zC:=[(1,115,[0])]},xs:={cm:=[(0,[.lk .ptr]),(1,[.vec 2])]},rt:={cm:=[(0,[.lk .ptr]),(1,[.vec 2])]},ex:=0,fx:=[0,1]}
def Kg:Code:=cz (cu Tryz.f112) 1
def Ld:List (Nat×LI):=[(1,EE)]
def L8(a0:AV)(a1_0_0:AV)(e2_0:List (List AV)):Tree :=
 NL a0<|.loop Kg EE [a0,VI (a0.aN.length:Int),VI 0] [.cells [a1_0_0],.cells [.any],.vec 2 e2_0] (fun y2 q2=>.al ((q2.hO)=.cells (q2.hO).cs)<|.al (ac [.lk .ptr] ((q2.hO).cs) 0 q2.tail)<|.al (((q2.tail.drop 0).hO)=.cells ((q2.tail.drop 0).hO).cs)<|.al (ac [.vec 2] (((q2.tail.drop 0).hO).cs) 0 ((q2.tail.drop 0).tail))<|.done 0 [.any] [.cells [((q2.hO).cs.getD 0 .any)],.cells [.vec 2],.vec 2 ((q2.tail.tail.hO).es)]) (fun y2 q2=>.al ((q2.hO)=.cells (q2.hO).cs)<|.al (ac [.lk .ptr] ((q2.hO).cs) 0 q2.tail)<|.al (((q2.tail.drop 0).hO)=.cells ((q2.tail.drop 0).hO).cs)<|.al (ac [.vec 2] (((q2.tail.drop 0).hO).cs) 0 ((q2.tail.drop 0).tail))<|.done 0 [.any] [.cells [((q2.hO).cs.getD 0 .any)],.cells [.vec 2],.vec 2 ((q2.tail.tail.hO).es)])
theorem OD(a0:AV)(a1_0_0:AV)(e2_0:List (List AV))(ha0:LK.has .sl a0)(ha1_0_0:LK.has .ptr a1_0_0)(h:dq 24 (L8 a0 a1_0_0 e2_0) R):an Tryz.prog 112 [a0,.fn 115 [.ref 0 0],.ref 1 0] [.cells [a1_0_0],.cells [.vec 2],.vec 2 e2_0] R :=
 an.ru (bQ (cN (af (bu ha1_0_0) aA)) (bQ (cN (af (au _) aA)) (bQ (fy _) dc))) (an.up (af (bY ha0) (af (au _) (af (au _) aA))) (oF Ld {mu:=[(1,.fn [some (.obj [.lk .ptr])]),(2,.one (.obj [.vec 2]))],own:=[]} Tryz.f112 h))
def EL(x7:AV)(x8:Int)(x9:Int)(o0_0:AV)(o1_0:List (List AV)):Tree :=
 NL x7<|NI (VI x8)<|NI (VI x9)<|.al (Ob.cells [o0_0]=.cells [o0_0])<|.al (ac [.lk .ptr] [o0_0] 0 [.cells [.any],.vec 2 o1_0])<|.al (Ob.cells [.any]=.cells [.any])<|.al (ac [.vec 2] [.any] 0 [.vec 2 o1_0])<|.test (decide (x9<x8)) (NG x7 x9 2<|.al (bB [.ptr,.ptr] (x7.ix x9) 0/\2<=(x7.ix x9).length)<|.call 115 [((x7.ix x9).getD 0 .any),.ref 0 0] [.cells [o0_0]] fun r1 o1=>.al ((o1.hO)=.cells (o1.hO).cs)<|.al (bn [.lk .ptr] ((o1.hO).cs) 0 1 o1.tail)<|NP r1<|.al (cA 2 [[r1,((x7.ix x9).getD 1 .any)]]/\((o1_0.length)+([[r1,((x7.ix x9).getD 1 .any)]]:List (List AV)).length)*16<=140737488355328)<|.done 0 [x7,VI x8,VI (IntKind.wrap .i64 (x9+1))] [.cells [((o1.hO).cs.getD 0 .any)],.cells [.any],.vec 2 (o1_0++([[r1,((x7.ix x9).getD 1 .any)]]:List (List AV)))]) (.done 1 [] [.cells [o0_0],.cells [.any],.vec 2 o1_0])
abbrev Ff:=ct Tryz.prog 24 Kg EE
theorem KT(x7:AV)(x8:Int)(x9:Int)(o0_0:AV)(o1_0:List (List AV))(h:jw 24 (EL x7 x8 x9 o0_0 o1_0) Ff U):Ff [x7,VI x8,VI x9] [.cells [o0_0],.cells [.any],.vec 2 o1_0] U :=
 gQ Ld h
def Ep:LI:={hd:={bD:=[(7,.k .sl),(8,.k (.int .i64)),(9,.k (.int .i64))],refs:=[(2,1)],cm:=[(0,[.lk .ptr]),(1,[.vec 2])],zC:=[(1,116,[0])]},xs:={cm:=[(0,[.lk .ptr]),(1,[.vec 2])]},rt:={cm:=[(0,[.lk .ptr]),(1,[.vec 2])]},ex:=0,fx:=[0,1]}
def Lc:Code:=cz (cu Tryz.f112) 1
def M6:List (Nat×LI):=[(1,Ep)]
def Lj(a0:AV)(a1_0_0:AV)(e2_0:List (List AV)):Tree :=
 NL a0<|.loop Lc Ep [a0,VI (a0.aN.length:Int),VI 0] [.cells [a1_0_0],.cells [.any],.vec 2 e2_0] (fun y2 q2=>.al ((q2.hO)=.cells (q2.hO).cs)<|.al (ac [.lk .ptr] ((q2.hO).cs) 0 q2.tail)<|.al (((q2.tail.drop 0).hO)=.cells ((q2.tail.drop 0).hO).cs)<|.al (ac [.vec 2] (((q2.tail.drop 0).hO).cs) 0 ((q2.tail.drop 0).tail))<|.done 0 [.any] [.cells [((q2.hO).cs.getD 0 .any)],.cells [.vec 2],.vec 2 ((q2.tail.tail.hO).es)]) (fun y2 q2=>.al ((q2.hO)=.cells (q2.hO).cs)<|.al (ac [.lk .ptr] ((q2.hO).cs) 0 q2.tail)<|.al (((q2.tail.drop 0).hO)=.cells ((q2.tail.drop 0).hO).cs)<|.al (ac [.vec 2] (((q2.tail.drop 0).hO).cs) 0 ((q2.tail.drop 0).tail))<|.done 0 [.any] [.cells [((q2.hO).cs.getD 0 .any)],.cells [.vec 2],.vec 2 ((q2.tail.tail.hO).es)])
theorem N4(a0:AV)(a1_0_0:AV)(e2_0:List (List AV))(ha0:LK.has .sl a0)(ha1_0_0:LK.has .ptr a1_0_0)(h:dq 24 (Lj a0 a1_0_0 e2_0) R):an Tryz.prog 112 [a0,.fn 116 [.ref 0 0],.ref 1 0] [.cells [a1_0_0],.cells [.vec 2],.vec 2 e2_0] R :=
 an.ru (bQ (cN (af (bu ha1_0_0) aA)) (bQ (cN (af (au _) aA)) (bQ (fy _) dc))) (an.up (af (bY ha0) (af (au _) (af (au _) aA))) (oF M6 {mu:=[(1,.fn [some (.obj [.lk .ptr])]),(2,.one (.obj [.vec 2]))],own:=[]} Tryz.f112 h))
def GR(x7:AV)(x8:Int)(x9:Int)(o0_0:AV)(o1_0:List (List AV)):Tree :=
 NL x7<|NI (VI x8)<|NI (VI x9)<|.al (Ob.cells [o0_0]=.cells [o0_0])<|.al (ac [.lk .ptr] [o0_0] 0 [.cells [.any],.vec 2 o1_0])<|.al (Ob.cells [.any]=.cells [.any])<|.al (ac [.vec 2] [.any] 0 [.vec 2 o1_0])<|.test (decide (x9<x8)) (NG x7 x9 2<|.al (bB [.ptr,.ptr] (x7.ix x9) 0/\2<=(x7.ix x9).length)<|.call 116 [((x7.ix x9).getD 0 .any),.ref 0 0] [.cells [o0_0]] fun r1 o1=>.al ((o1.hO)=.cells (o1.hO).cs)<|.al (bn [.lk .ptr] ((o1.hO).cs) 0 1 o1.tail)<|NP r1<|.al (cA 2 [[r1,((x7.ix x9).getD 1 .any)]]/\((o1_0.length)+([[r1,((x7.ix x9).getD 1 .any)]]:List (List AV)).length)*16<=140737488355328)<|.done 0 [x7,VI x8,VI (IntKind.wrap .i64 (x9+1))] [.cells [((o1.hO).cs.getD 0 .any)],.cells [.any],.vec 2 (o1_0++([[r1,((x7.ix x9).getD 1 .any)]]:List (List AV)))]) (.done 1 [] [.cells [o0_0],.cells [.any],.vec 2 o1_0])
abbrev Ht:=ct Tryz.prog 24 Lc Ep
theorem J5(x7:AV)(x8:Int)(x9:Int)(o0_0:AV)(o1_0:List (List AV))(h:jw 24 (GR x7 x8 x9 o0_0 o1_0) Ht U):Ht [x7,VI x8,VI x9] [.cells [o0_0],.cells [.any],.vec 2 o1_0] U :=
 gQ M6 h
def Fj:LI:={hd:={bD:=[(7,.k .sl),(8,.k (.int .i64)),(9,.k (.int .i64))],refs:=[(2,1)],cm:=[(0,[.lk .ptr]),(1,[.vec 2])],zC:=[(1,118,[0])]},xs:={cm:=[(0,[.lk .ptr]),(1,[.vec 2])]},rt:={cm:=[(0,[.lk .ptr]),(1,[.vec 2])]},ex:=0,fx:=[0,1]}
def Jr:Code:=cz (cu Tryz.f112) 1
def H2:List (Nat×LI):=[(1,Fj)]
def H6(a0:AV)(a1_0_0:AV)(e2_0:List (List AV)):Tree :=
 NL a0<|.loop Jr Fj [a0,VI (a0.aN.length:Int),VI 0] [.cells [a1_0_0],.cells [.any],.vec 2 e2_0] (fun y2 q2=>.al ((q2.hO)=.cells (q2.hO).cs)<|.al (ac [.lk .ptr] ((q2.hO).cs) 0 q2.tail)<|.al (((q2.tail.drop 0).hO)=.cells ((q2.tail.drop 0).hO).cs)<|.al (ac [.vec 2] (((q2.tail.drop 0).hO).cs) 0 ((q2.tail.drop 0).tail))<|.done 0 [.any] [.cells [((q2.hO).cs.getD 0 .any)],.cells [.vec 2],.vec 2 ((q2.tail.tail.hO).es)]) (fun y2 q2=>.al ((q2.hO)=.cells (q2.hO).cs)<|.al (ac [.lk .ptr] ((q2.hO).cs) 0 q2.tail)<|.al (((q2.tail.drop 0).hO)=.cells ((q2.tail.drop 0).hO).cs)<|.al (ac [.vec 2] (((q2.tail.drop 0).hO).cs) 0 ((q2.tail.drop 0).tail))<|.done 0 [.any] [.cells [((q2.hO).cs.getD 0 .any)],.cells [.vec 2],.vec 2 ((q2.tail.tail.hO).es)])
theorem Pt(a0:AV)(a1_0_0:AV)(e2_0:List (List AV))(ha0:LK.has .sl a0)(ha1_0_0:LK.has .ptr a1_0_0)(h:dq 24 (H6 a0 a1_0_0 e2_0) R):an Tryz.prog 112 [a0,.fn 118 [.ref 0 0],.ref 1 0] [.cells [a1_0_0],.cells [.vec 2],.vec 2 e2_0] R :=
 an.ru (bQ (cN (af (bu ha1_0_0) aA)) (bQ (cN (af (au _) aA)) (bQ (fy _) dc))) (an.up (af (bY ha0) (af (au _) (af (au _) aA))) (oF H2 {mu:=[(1,.fn [some (.obj [.lk .ptr])]),(2,.one (.obj [.vec 2]))],own:=[]} Tryz.f112 h))
def Ew(x7:AV)(x8:Int)(x9:Int)(o0_0:AV)(o1_0:List (List AV)):Tree :=
 NL x7<|NI (VI x8)<|NI (VI x9)<|.al (Ob.cells [o0_0]=.cells [o0_0])<|.al (ac [.lk .ptr] [o0_0] 0 [.cells [.any],.vec 2 o1_0])<|.al (Ob.cells [.any]=.cells [.any])<|.al (ac [.vec 2] [.any] 0 [.vec 2 o1_0])<|.test (decide (x9<x8)) (NG x7 x9 2<|.al (bB [.ptr,.ptr] (x7.ix x9) 0/\2<=(x7.ix x9).length)<|.call 118 [((x7.ix x9).getD 0 .any),.ref 0 0] [.cells [o0_0]] fun r1 o1=>.al ((o1.hO)=.cells (o1.hO).cs)<|.al (bn [.lk .ptr] ((o1.hO).cs) 0 1 o1.tail)<|NP r1<|.al (cA 2 [[r1,((x7.ix x9).getD 1 .any)]]/\((o1_0.length)+([[r1,((x7.ix x9).getD 1 .any)]]:List (List AV)).length)*16<=140737488355328)<|.done 0 [x7,VI x8,VI (IntKind.wrap .i64 (x9+1))] [.cells [((o1.hO).cs.getD 0 .any)],.cells [.any],.vec 2 (o1_0++([[r1,((x7.ix x9).getD 1 .any)]]:List (List AV)))]) (.done 1 [] [.cells [o0_0],.cells [.any],.vec 2 o1_0])
abbrev Hu:=ct Tryz.prog 24 Jr Fj
theorem ME(x7:AV)(x8:Int)(x9:Int)(o0_0:AV)(o1_0:List (List AV))(h:jw 24 (Ew x7 x8 x9 o0_0 o1_0) Hu U):Hu [x7,VI x8,VI x9] [.cells [o0_0],.cells [.any],.vec 2 o1_0] U :=
 gQ H2 h
def Fb:LI:={hd:={bD:=[(1,.c (.func (.func 119) #[] #[])),(7,.k .sl),(8,.k (.int .i64)),(9,.k (.int .i64))],refs:=[(2,0)],cm:=[(0,[.vec 2])]},xs:={cm:=[(0,[.vec 2])]},rt:={cm:=[(0,[.vec 2])]},ex:=0,fx:=[0]}
def K7:Code:=cz (cu Tryz.f112) 1
def Mh:List (Nat×LI):=[(1,Fb)]
def Jq(a0:AV)(e2_0:List (List AV)):Tree :=
 NL a0<|.loop K7 Fb [.v (.func (.func 119) #[] #[]),a0,VI (a0.aN.length:Int),VI 0] [.cells [.any],.vec 2 e2_0] (fun y2 q2=>.al ((q2.hO)=.cells (q2.hO).cs)<|.al (ac [.vec 2] ((q2.hO).cs) 0 q2.tail)<|.done 0 [.any] [.cells [.vec 1],.vec 2 ((q2.tail.hO).es)]) (fun y2 q2=>.al ((q2.hO)=.cells (q2.hO).cs)<|.al (ac [.vec 2] ((q2.hO).cs) 0 q2.tail)<|.done 0 [.any] [.cells [.vec 1],.vec 2 ((q2.tail.hO).es)])
theorem PR(a0:AV)(e2_0:List (List AV))(ha0:LK.has .sl a0)(h:dq 24 (Jq a0 e2_0) R):an Tryz.prog 112 [a0,.v (.func (.func 119) #[] #[]),.ref 0 0] [.cells [.vec 1],.vec 2 e2_0] R :=
 an.ru (bQ (cN (af (au _) aA)) (bQ (fy _) dc)) (an.up (af (bY ha0) (af (au _) (af (au _) aA))) (oF Mh {mu:=[(2,.one (.obj [.vec 2]))],own:=[]} Tryz.f112 h))
def Fw(x7:AV)(x8:Int)(x9:Int)(o0_0:List (List AV)):Tree :=
 .al (AV.v (.func (.func 119) #[] #[])=.v (.func (.func 119) #[] #[]))<|NL x7<|NI (VI x8)<|NI (VI x9)<|.al (Ob.cells [.any]=.cells [.any])<|.al (ac [.vec 2] [.any] 0 [.vec 2 o0_0])<|.test (decide (x9<x8)) (NG x7 x9 2<|.al (bB [.ptr,.ptr] (x7.ix x9) 0/\2<=(x7.ix x9).length)<|.call 119 [((x7.ix x9).getD 0 .any)] [] fun r1 o1=>NP r1<|.al (cA 2 [[r1,((x7.ix x9).getD 1 .any)]]/\((o0_0.length)+([[r1,((x7.ix x9).getD 1 .any)]]:List (List AV)).length)*16<=140737488355328)<|.done 0 [.v (.func (.func 119) #[] #[]),x7,VI x8,VI (IntKind.wrap .i64 (x9+1))] [.cells [.any],.vec 2 (o0_0++([[r1,((x7.ix x9).getD 1 .any)]]:List (List AV)))]) (.done 1 [] [.cells [.any],.vec 2 o0_0])
abbrev Hi:=ct Tryz.prog 24 K7 Fb
theorem JA(x7:AV)(x8:Int)(x9:Int)(o0_0:List (List AV))(h:jw 24 (Fw x7 x8 x9 o0_0) Hi U):Hi [.v (.func (.func 119) #[] #[]),x7,VI x8,VI x9] [.cells [.any],.vec 2 o0_0] U :=
 gQ Mh h
def GL:LI:={hd:={bD:=[(7,.k .sl),(8,.k (.int .i64)),(9,.k (.int .i64))],refs:=[(2,1)],cm:=[(0,[.lk .ptr,.lk .ptr]),(1,[.vec 2])],zC:=[(1,120,[0])]},xs:={cm:=[(0,[.lk .ptr,.lk .ptr]),(1,[.vec 2])]},rt:={cm:=[(0,[.lk .ptr,.lk .ptr]),(1,[.vec 2])]},ex:=0,fx:=[0,1]}
def J7:Code:=cz (cu Tryz.f112) 1
def JZ:List (Nat×LI):=[(1,GL)]
def NC(a0:AV)(a1_0_0:AV)(a1_0_1:AV)(e2_0:List (List AV)):Tree :=
 NL a0<|.loop J7 GL [a0,VI (a0.aN.length:Int),VI 0] [.cells [a1_0_0,a1_0_1],.cells [.any],.vec 2 e2_0] (fun y2 q2=>.al ((q2.hO)=.cells (q2.hO).cs)<|.al (ac [.lk .ptr,.lk .ptr] ((q2.hO).cs) 0 q2.tail)<|.al (((q2.tail.drop 0).hO)=.cells ((q2.tail.drop 0).hO).cs)<|.al (ac [.vec 2] (((q2.tail.drop 0).hO).cs) 0 ((q2.tail.drop 0).tail))<|.done 0 [.any] [.cells [((q2.hO).cs.getD 0 .any),((q2.hO).cs.getD 1 .any)],.cells [.vec 2],.vec 2 ((q2.tail.tail.hO).es)]) (fun y2 q2=>.al ((q2.hO)=.cells (q2.hO).cs)<|.al (ac [.lk .ptr,.lk .ptr] ((q2.hO).cs) 0 q2.tail)<|.al (((q2.tail.drop 0).hO)=.cells ((q2.tail.drop 0).hO).cs)<|.al (ac [.vec 2] (((q2.tail.drop 0).hO).cs) 0 ((q2.tail.drop 0).tail))<|.done 0 [.any] [.cells [((q2.hO).cs.getD 0 .any),((q2.hO).cs.getD 1 .any)],.cells [.vec 2],.vec 2 ((q2.tail.tail.hO).es)])
theorem Ps(a0:AV)(a1_0_0:AV)(a1_0_1:AV)(e2_0:List (List AV))(ha0:LK.has .sl a0)(ha1_0_0:LK.has .ptr a1_0_0)(ha1_0_1:LK.has .ptr a1_0_1)(h:dq 24 (NC a0 a1_0_0 a1_0_1 e2_0) R):an Tryz.prog 112 [a0,.fn 120 [.ref 0 0],.ref 1 0] [.cells [a1_0_0,a1_0_1],.cells [.vec 2],.vec 2 e2_0] R :=
 an.ru (bQ (cN (af (bu ha1_0_0) (af (bu ha1_0_1) aA))) (bQ (cN (af (au _) aA)) (bQ (fy _) dc))) (an.up (af (bY ha0) (af (au _) (af (au _) aA))) (oF JZ {mu:=[(1,.fn [some (.obj [.lk .ptr,.lk .ptr])]),(2,.one (.obj [.vec 2]))],own:=[]} Tryz.f112 h))
def Fu(x7:AV)(x8:Int)(x9:Int)(o0_0:AV)(o0_1:AV)(o1_0:List (List AV)):Tree :=
 NL x7<|NI (VI x8)<|NI (VI x9)<|.al (Ob.cells [o0_0,o0_1]=.cells [o0_0,o0_1])<|.al (ac [.lk .ptr,.lk .ptr] [o0_0,o0_1] 0 [.cells [.any],.vec 2 o1_0])<|.al (Ob.cells [.any]=.cells [.any])<|.al (ac [.vec 2] [.any] 0 [.vec 2 o1_0])<|.test (decide (x9<x8)) (NG x7 x9 2<|.al (bB [.ptr,.ptr] (x7.ix x9) 0/\2<=(x7.ix x9).length)<|.call 120 [((x7.ix x9).getD 0 .any),.ref 0 0] [.cells [o0_0,o0_1]] fun r1 o1=>.al ((o1.hO)=.cells (o1.hO).cs)<|.al (bn [.lk .ptr,.lk .ptr] ((o1.hO).cs) 0 1 o1.tail)<|NP r1<|.al (cA 2 [[r1,((x7.ix x9).getD 1 .any)]]/\((o1_0.length)+([[r1,((x7.ix x9).getD 1 .any)]]:List (List AV)).length)*16<=140737488355328)<|.done 0 [x7,VI x8,VI (IntKind.wrap .i64 (x9+1))] [.cells [((o1.hO).cs.getD 0 .any),((o1.hO).cs.getD 1 .any)],.cells [.any],.vec 2 (o1_0++([[r1,((x7.ix x9).getD 1 .any)]]:List (List AV)))]) (.done 1 [] [.cells [o0_0,o0_1],.cells [.any],.vec 2 o1_0])
abbrev F5:=ct Tryz.prog 24 J7 GL
theorem Ju(x7:AV)(x8:Int)(x9:Int)(o0_0:AV)(o0_1:AV)(o1_0:List (List AV))(h:jw 24 (Fu x7 x8 x9 o0_0 o0_1 o1_0) F5 U):F5 [x7,VI x8,VI x9] [.cells [o0_0,o0_1],.cells [.any],.vec 2 o1_0] U :=
 gQ JZ h
def M7(a0_0:AV)(a0_1:AV):Tree :=
 NZ a0_0<|NZ a0_0<|dR (a0_0.deref.drop 3)<|.done 0 [.agg [((a0_0.deref.drop 3).hA),a0_1]] []
theorem Ri(a0_0:AV)(a0_1:AV)(ha0_0:LK.has .ptr a0_0)(ha0_1:LK.has .ptr a0_1)(h:dq 11 (M7 a0_0 a0_1) R):an Tryz.prog 113 [.agg [a0_0,a0_1]] [] R :=
 uQ (af (bT (af (bu ha0_0) (af (bu ha0_1) aA))) aA) (oQ [] Tryz.f113 h)
def LY(a0_0:AV)(a0_1:AV):Tree :=
 NZ a0_0<|NZ a0_0<|dR (a0_0.deref.drop 4)<|.done 0 [.agg [((a0_0.deref.drop 4).hA),a0_1]] []
theorem OG(a0_0:AV)(a0_1:AV)(ha0_0:LK.has .ptr a0_0)(ha0_1:LK.has .ptr a0_1)(h:dq 11 (LY a0_0 a0_1) R):an Tryz.prog 114 [.agg [a0_0,a0_1]] [] R :=
 uQ (af (bT (af (bu ha0_0) (af (bu ha0_1) aA))) aA) (oQ [] Tryz.f114 h)
def Gm(a0:AV)(a1_0:AV):Tree :=
 NZ a1_0<|NZ a1_0<|.al (LK.has (.int .u8) (a1_0.deref.hA)/\1<=a1_0.deref.length)<|.call 100 [.v (.int .u8 ((a1_0.deref.hA).toInt)),a0] [] fun r1 o1=>NP r1<|.done 0 [r1] [.cells [a1_0]]
theorem LZ(a0:AV)(a1_0:AV)(ha0:LK.has .ptr a0)(ha1_0:LK.has .ptr a1_0)(h:dq 10 (Gm a0 a1_0) R):an Tryz.prog 115 [a0,.ref 0 0] [.cells [a1_0]] R :=
 an.ru (bQ (cN (af (bu ha1_0) aA)) dc) (an.up (af (bu ha0) (af (au _) aA)) (oF [] {mu:=[(1,.one (.obj [.lk .ptr]))],own:=[]} Tryz.f115 h))
def MT(a0:AV)(a1_0:AV):Tree :=
 NZ a1_0<|NZ a1_0<|dR (a1_0.deref.drop 3)<|.call 117 [a0,((a1_0.deref.drop 3).hA)] [] fun r1 o1=>NP r1<|.call 100 [.v (.int .u8 108),r1] [] fun r2 o2=>NP r2<|.done 0 [r2] [.cells [a1_0]]
theorem Pq(a0:AV)(a1_0:AV)(ha0:LK.has .ptr a0)(ha1_0:LK.has .ptr a1_0)(h:dq 11 (MT a0 a1_0) R):an Tryz.prog 116 [a0,.ref 0 0] [.cells [a1_0]] R :=
 an.ru (bQ (cN (af (bu ha1_0) aA)) dc) (an.up (af (bu ha0) (af (au _) aA)) (oF [] {mu:=[(1,.one (.obj [.lk .ptr]))],own:=[]} Tryz.f116 h))
def Nq(a0:AV)(a1:AV):Tree :=
 .done 0 [.ptr [.v (.int .u8 112),VS (mk []),a0,a1]] []
theorem Pu(a0:AV)(a1:AV)(ha0:LK.has .ptr a0)(ha1:LK.has .ptr a1)(h:dq 9 (Nq a0 a1) R):an Tryz.prog 117 [a0,a1] [] R :=
 uQ (af (bu ha0) (af (bu ha1) aA)) (oQ [] Tryz.f117 h)
def IU(a0:AV)(a1_0:AV):Tree :=
 NZ a1_0<|NZ a1_0<|dR (a1_0.deref.drop 2)<|.call 117 [((a1_0.deref.drop 2).hA),a0] [] fun r1 o1=>NP r1<|.call 100 [.v (.int .u8 114),r1] [] fun r2 o2=>NP r2<|.done 0 [r2] [.cells [a1_0]]
theorem N1(a0:AV)(a1_0:AV)(ha0:LK.has .ptr a0)(ha1_0:LK.has .ptr a1_0)(h:dq 11 (IU a0 a1_0) R):an Tryz.prog 118 [a0,.ref 0 0] [.cells [a1_0]] R :=
 an.ru (bQ (cN (af (bu ha1_0) aA)) dc) (an.up (af (bu ha0) (af (au _) aA)) (oF [] {mu:=[(1,.one (.obj [.lk .ptr]))],own:=[]} Tryz.f118 h))
def MG(a0:AV):Tree :=
 .call 100 [.v (.int .u8 108),a0] [] fun r1 o1=>NP r1<|.call 100 [.v (.int .u8 102),r1] [] fun r2 o2=>NP r2<|.done 0 [r2] []
theorem QX(a0:AV)(ha0:LK.has .ptr a0)(h:dq 6 (MG a0) R):an Tryz.prog 119 [a0] [] R :=
 uQ (af (bu ha0) aA) (oQ [] Tryz.f119 h)
def JB(a0:AV)(a1_0:AV)(a1_1:AV):Tree :=
 .call 117 [a1_0,a0] [] fun r1 o1=>NP r1<|.call 100 [.v (.int .u8 114),r1] [] fun r2 o2=>NP r2<|.call 100 [.v (.int .u8 102),r2] [] fun r3 o3=>NP r3<|.done 0 [r3] [.cells [a1_0,a1_1]]
theorem Qb(a0:AV)(a1_0:AV)(a1_1:AV)(ha0:LK.has .ptr a0)(ha1_0:LK.has .ptr a1_0)(ha1_1:LK.has .ptr a1_1)(h:dq 10 (JB a0 a1_0 a1_1) R):an Tryz.prog 120 [a0,.ref 0 0] [.cells [a1_0,a1_1]] R :=
 an.ru (bQ (cN (af (bu ha1_0) (af (bu ha1_1) aA))) dc) (an.up (af (bu ha0) (af (au _) aA)) (oF [] {mu:=[(1,.one (.obj [.lk .ptr,.lk .ptr]))],own:=[]} Tryz.f120 h))
def Cy(a0_0:ByteArray)(a0_1:AV):Tree :=
 .test (!(ae a0_0==ae (mk []))) (.done 0 [VS (mk [])] []) (NL a0_1<|.test ((a0_1.aN.length:Int)==(0:Int)) (.done 0 [VS (mk [])] []) (NG a0_1 0 2<|kA (a0_1.ix (0:Int))<|.done 0 [VS (((a0_1.ix (0:Int)).hA).ai)] []))
theorem Hq(a0_0:ByteArray)(a0_1:AV)(ha0_1:LK.has .sl a0_1)(h:dq 17 (Cy a0_0 a0_1) R):an Tryz.prog 121 [.agg [VS a0_0,a0_1]] [] R :=
 uQ (af (bT (af (au _) (af (bY ha0_1) aA))) aA) (oQ [] Tryz.f121 h)
def I9(a0:ByteArray):Tree :=
 .test (decide ((ag a0:Int)>(8000:Int))) (.done 0 [.cI [.agg [VS (mk []),.v (.slice none 0 0)],VB false]] []) (.call 152 [VS a0,VI 0,VI 0] [] fun r1 o1=>NT r1<|.al ((r1.comp 0)=.agg (r1.comp 0).cs/\(r1.comp 0).cs.length=2/\bB [.str,.sl] ((r1.comp 0).cs) 0)<|NI (r1.comp 1)<|.done 0 [.cI [.agg [VS (((r1.comp 0).cs.getD 0 .any).ai),((r1.comp 0).cs.getD 1 .any)],VB (((r1.comp 1).toInt)==(ag a0:Int))]] [])
theorem Qf(a0:ByteArray)(h:dq 20 (I9 a0) R):an Tryz.prog 122 [VS a0] [] R :=
 uQ (af (au _) aA) (oQ [] Tryz.f122 h)
def Hn(a0_0:ByteArray)(a0_1:AV):Tree :=
 .test (!(ae a0_0==ae (mk []))) (.test (ae a0_0==ae (mk [117])) (.done 0 [VB true] []) (.call 153 [VS a0_0] [] fun r1 o1=>NI r1<|.done 0 [VB (decide (r1.toInt≥(0:Int)))] [])) (.call 121 [.agg [VS a0_0,a0_1]] [] fun r2 o2=>NS r2<|.test (ae r2.ai==ae (mk [108])) (NL a0_1<|.test ((a0_1.aN.length:Int)==(2:Int)) (NG a0_1 1 2<|NE (a0_1.ix (1:Int))<|.call 123 [.agg [VS (((a0_1.ix (1:Int)).getD 0 .any).ai),((a0_1.ix (1:Int)).getD 1 .any)]] [] fun r3 o3=>NB r3<|.done 0 [VB r3.toBool] []) (.done 0 [VB false] [])) (.test (ae r2.ai==ae (mk [114])) (NL a0_1<|.test ((a0_1.aN.length:Int)==(2:Int)) (NG a0_1 1 2<|NE (a0_1.ix (1:Int))<|.call 123 [.agg [VS (((a0_1.ix (1:Int)).getD 0 .any).ai),((a0_1.ix (1:Int)).getD 1 .any)]] [] fun r4 o4=>NB r4<|.done 0 [VB r4.toBool] []) (.done 0 [VB false] [])) (.test (ae r2.ai==ae (mk [102])) (NL a0_1<|.test ((a0_1.aN.length:Int)==(2:Int)) (NG a0_1 1 2<|NE (a0_1.ix (1:Int))<|.call 123 [.agg [VS (((a0_1.ix (1:Int)).getD 0 .any).ai),((a0_1.ix (1:Int)).getD 1 .any)]] [] fun r5 o5=>NB r5<|.done 0 [VB r5.toBool] []) (.done 0 [VB false] [])) (.test (ae r2.ai==ae (mk [112])) (NL a0_1<|.test ((a0_1.aN.length:Int)==(3:Int)) (NG a0_1 1 2<|NE (a0_1.ix (1:Int))<|.call 123 [.agg [VS (((a0_1.ix (1:Int)).getD 0 .any).ai),((a0_1.ix (1:Int)).getD 1 .any)]] [] fun r6 o6=>NB r6<|.test r6.toBool (NG a0_1 2 2<|NE (a0_1.ix (2:Int))<|.call 123 [.agg [VS (((a0_1.ix (2:Int)).getD 0 .any).ai),((a0_1.ix (2:Int)).getD 1 .any)]] [] fun r7 o7=>NB r7<|.done 0 [VB r7.toBool] []) (.done 0 [VB false] [])) (.done 0 [VB false] [])) (.done 0 [VB false] [])))))
theorem yP(a0_0:ByteArray)(a0_1:AV)(ha0_1:LK.has .sl a0_1)(h:dq 52 (Hn a0_0 a0_1) R):an Tryz.prog 123 [.agg [VS a0_0,a0_1]] [] R :=
 uQ (af (bT (af (au _) (af (bY ha0_1) aA))) aA) (oQ [] Tryz.f123 h)
def Gf:LI:={hd:={bD:=[(3,.k (.int .i64)),(4,.k (.int .i64))],refs:=[(1,1)],cm:=[(1,[.lk .str,.lk .sl])]},xs:={bD:=[(3,.k (.int .i64))]},rt:={},ex:=0}
def Kc:Code:=cz (cu Tryz.f124) 3
def IM:List (Nat×LI):=[(3,Gf)]
def Hw(a0_0:ByteArray)(a0_1:AV):Tree :=
 .loop Kc Gf [VI 1,VI 1] [.cells [VS a0_0,a0_1]] (fun y2 q2=>NI (y2.hA)<|.done 0 [VI ((y2.hA).toInt)] []) (fun y2 q2=>.done 0 [.any] [])
theorem If(a0_0:ByteArray)(a0_1:AV)(ha0_1:LK.has .sl a0_1)(h:dq 21 (Hw a0_0 a0_1) R):an Tryz.prog 124 [.agg [VS a0_0,a0_1]] [] R :=
 uQ (af (bT (af (au _) (af (bY ha0_1) aA))) aA) (oQ IM Tryz.f124 h)
def Bs(x3:Int)(x4:Int)(o1_0:ByteArray)(o1_1:AV):Tree :=
 NI (VI x3)<|NI (VI x4)<|.al (Ob.cells [VS o1_0,o1_1]=.cells [VS o1_0,o1_1])<|.al (ac [.lk .str,.lk .sl] [VS o1_0,o1_1] 0 [])<|NL o1_1<|.test (decide (x4<(o1_1.aN.length:Int))) (NG o1_1 x4 2<|NE (o1_1.ix x4)<|.call 124 [.agg [VS (((o1_1.ix x4).getD 0 .any).ai),((o1_1.ix x4).getD 1 .any)]] [] fun r1 o1=>NI r1<|.done 0 [VI (IntKind.wrap .i64 (x3+r1.toInt)),VI (IntKind.wrap .i64 (x4+1))] [.cells [VS o1_0,o1_1]]) (.done 1 [VI x3] [])
abbrev Af:=ct Tryz.prog 21 Kc Gf
theorem Cf(x3:Int)(x4:Int)(o1_0:ByteArray)(o1_1:AV)(h:jw 21 (Bs x3 x4 o1_0 o1_1) Af U):Af [VI x3,VI x4] [.cells [VS o1_0,o1_1]] U :=
 gQ IM h
def Nx(a0_0:ByteArray)(a0_1:AV)(a1:AV)(a2_0:ByteArray)(a2_1:AV)(a3:Int):Tree :=
 .call 154 [.agg [VS a0_0,a0_1],a1] [] fun r1 o1=>NT r1<|.al ((r1.comp 0)=.agg (r1.comp 0).cs/\(r1.comp 0).cs.length=2/\bB [.str,.sl] ((r1.comp 0).cs) 0)<|NL (r1.comp 1)<|.test (!(ae (((r1.comp 0).cs.getD 0 .any).ai)==ae (mk []))) (.test (ae (((r1.comp 0).cs.getD 0 .any).ai)==ae (mk [49])) (.done 0 [VB (ae a2_0==ae (mk [117]))] []) (.call 155 [VS (((r1.comp 0).cs.getD 0 .any).ai)] [] fun r2 o2=>NB r2<|.test r2.toBool (.call 153 [VS a2_0] [] fun r3 o3=>NI r3<|.call 56 [VI r3.toInt,VI 0,VI (IntKind.wrap .i64 (a3-1))] [] fun r4 o4=>NB r4<|.done 0 [VB r4.toBool] []) (.done 0 [VB false] []))) (.call 121 [.agg [VS (((r1.comp 0).cs.getD 0 .any).ai),((r1.comp 0).cs.getD 1 .any)]] [] fun r5 o5=>NS r5<|.call 121 [.agg [VS a2_0,a2_1]] [] fun r6 o6=>NS r6<|.al (ag r5.ai+ag r6.ai<=9223372036854775807)<|.test (ae ((r5.ai:ByteArray)++r6.ai)==ae (mk [43,108])) (NG ((r1.comp 0).cs.getD 1 .any) 1 2<|NE (((r1.comp 0).cs.getD 1 .any).ix (1:Int))<|NG a2_1 1 2<|NE (a2_1.ix (1:Int))<|.call 125 [.agg [VS (((((r1.comp 0).cs.getD 1 .any).ix (1:Int)).getD 0 .any).ai),((((r1.comp 0).cs.getD 1 .any).ix (1:Int)).getD 1 .any)],(r1.comp 1),.agg [VS (((a2_1.ix (1:Int)).getD 0 .any).ai),((a2_1.ix (1:Int)).getD 1 .any)],VI a3] [] fun r7 o7=>NB r7<|.done 0 [VB r7.toBool] []) (.test (ae ((r5.ai:ByteArray)++r6.ai)==ae (mk [43,114])) (NG ((r1.comp 0).cs.getD 1 .any) 2 2<|NE (((r1.comp 0).cs.getD 1 .any).ix (2:Int))<|NG a2_1 1 2<|NE (a2_1.ix (1:Int))<|.call 125 [.agg [VS (((((r1.comp 0).cs.getD 1 .any).ix (2:Int)).getD 0 .any).ai),((((r1.comp 0).cs.getD 1 .any).ix (2:Int)).getD 1 .any)],(r1.comp 1),.agg [VS (((a2_1.ix (1:Int)).getD 0 .any).ai),((a2_1.ix (1:Int)).getD 1 .any)],VI a3] [] fun r8 o8=>NB r8<|.done 0 [VB r8.toBool] []) (.test (ae ((r5.ai:ByteArray)++r6.ai)==ae (mk [42,112])) (NG ((r1.comp 0).cs.getD 1 .any) 1 2<|NE (((r1.comp 0).cs.getD 1 .any).ix (1:Int))<|NG a2_1 1 2<|NE (a2_1.ix (1:Int))<|.call 125 [.agg [VS (((((r1.comp 0).cs.getD 1 .any).ix (1:Int)).getD 0 .any).ai),((((r1.comp 0).cs.getD 1 .any).ix (1:Int)).getD 1 .any)],(r1.comp 1),.agg [VS (((a2_1.ix (1:Int)).getD 0 .any).ai),((a2_1.ix (1:Int)).getD 1 .any)],VI a3] [] fun r9 o9=>NB r9<|.test r9.toBool (NG ((r1.comp 0).cs.getD 1 .any) 2 2<|NE (((r1.comp 0).cs.getD 1 .any).ix (2:Int))<|NG a2_1 2 2<|NE (a2_1.ix (2:Int))<|.call 125 [.agg [VS (((((r1.comp 0).cs.getD 1 .any).ix (2:Int)).getD 0 .any).ai),((((r1.comp 0).cs.getD 1 .any).ix (2:Int)).getD 1 .any)],(r1.comp 1),.agg [VS (((a2_1.ix (2:Int)).getD 0 .any).ai),((a2_1.ix (2:Int)).getD 1 .any)],VI a3] [] fun r10 o10=>NB r10<|.done 0 [VB r10.toBool] []) (.done 0 [VB false] [])) (.test (ae ((r5.ai:ByteArray)++r6.ai)==ae (mk [114,101,99,102])) (.call 156 [.agg [VS (((r1.comp 0).cs.getD 0 .any).ai),((r1.comp 0).cs.getD 1 .any)],(r1.comp 1)] [] fun r11 o11=>NT r11<|.al ((r11.comp 0)=.agg (r11.comp 0).cs/\(r11.comp 0).cs.length=2/\bB [.str,.sl] ((r11.comp 0).cs) 0)<|NL (r11.comp 1)<|NG a2_1 1 2<|NE (a2_1.ix (1:Int))<|.call 125 [.agg [VS (((r11.comp 0).cs.getD 0 .any).ai),((r11.comp 0).cs.getD 1 .any)],(r11.comp 1),.agg [VS (((a2_1.ix (1:Int)).getD 0 .any).ai),((a2_1.ix (1:Int)).getD 1 .any)],VI a3] [] fun r12 o12=>NB r12<|.done 0 [VB r12.toBool] []) (.done 0 [VB false] [])))))
theorem PN(a0_0:ByteArray)(a0_1:AV)(a1:AV)(a2_0:ByteArray)(a2_1:AV)(a3:Int)(ha0_1:LK.has .sl a0_1)(ha1:LK.has .sl a1)(ha2_1:LK.has .sl a2_1)(h:dq 110 (Nx a0_0 a0_1 a1 a2_0 a2_1 a3) R):an Tryz.prog 125 [.agg [VS a0_0,a0_1],a1,.agg [VS a2_0,a2_1],VI a3] [] R :=
 uQ (af (bT (af (au _) (af (bY ha0_1) aA))) (af (bY ha1) (af (bT (af (au _) (af (bY ha2_1) aA))) (af (au _) aA)))) (oQ [] Tryz.f125 h)
def GD:LI:={hd:={bD:=[(0,.k .sl),(1,.k .str),(7,.k (.int .i64))],eH:=[(2,4)]},xs:={eH:=[(2,4)]},rt:={},ex:=0}
def MI:Code:=cz (cu Tryz.f126) 2
def ML:List (Nat×LI):=[(2,GD)]
def Kx(a0:AV)(a1:ByteArray)(e2:List (List AV)):Tree :=
 .loop MI GD [a0,VS a1,VI 0] [.vec 4 e2] (fun y2 q2=>.al (((q2.drop 0).hO)=.vec 4 ((q2.drop 0).hO).es)<|.done 0 [.vec 1] [.dead,.vec 4 ((q2.hO).es)]) (fun y2 q2=>.fail)
theorem Oj(a0:AV)(a1:ByteArray)(e2:List (List AV))(ha0:LK.has .sl a0)(h:dq 32 (Kx a0 a1 e2) R):an Tryz.prog 126 [a0,VS a1,.vec 0] [.vec 4 e2] R :=
 an.ru (bQ (fy _) dc) (an.up (af (bY ha0) (af (au _) (af (au _) aA))) (oF ML {mu:=[(2,.one (.vec))],own:=[0]} Tryz.f126 h))
def GC(x0:AV)(x1:ByteArray)(x7:Int)(e2:List (List AV)):Tree :=
 NL x0<|NS (VS x1)<|NI (VI x7)<|.al (Ob.vec 4 e2=.vec 4 e2)<|NL x0<|.test (decide (x7<(x0.aN.length:Int))) (NG x0 x7 4<|NE (x0.ix x7)<|.call 98 [VS x1,.sl [[VS (((x0.ix x7).getD 0 .any).ai),((x0.ix x7).getD 1 .any)]]] [] fun r1 o1=>NA r1<|NG x0 x7 4<|NE ((x0.ix x7).drop 2)<|.al (cA 4 [[VS ((r1.cs.getD 0 .any).ai),(r1.cs.getD 1 .any),VS ((((x0.ix x7).drop 2).getD 0 .any).ai),(((x0.ix x7).drop 2).getD 1 .any)]]/\((e2.length)+([[VS ((r1.cs.getD 0 .any).ai),(r1.cs.getD 1 .any),VS ((((x0.ix x7).drop 2).getD 0 .any).ai),(((x0.ix x7).drop 2).getD 1 .any)]]:List (List AV)).length)*80<=140737488355328)<|.done 0 [x0,VS x1,VI (IntKind.wrap .i64 (x7+1))] [.vec 4 (e2++([[VS ((r1.cs.getD 0 .any).ai),(r1.cs.getD 1 .any),VS ((((x0.ix x7).drop 2).getD 0 .any).ai),(((x0.ix x7).drop 2).getD 1 .any)]]:List (List AV)))]) (.done 1 [] [.vec 4 e2])
abbrev FG:=ct Tryz.prog 32 MI GD
theorem Nc(x0:AV)(x1:ByteArray)(x7:Int)(e2:List (List AV))(h:jw 32 (GC x0 x1 x7 e2) FG U):FG [x0,VS x1,VI x7] [.vec 4 e2] U :=
 gQ ML h
def KC(a0:AV):Tree :=
 .call 158 [a0] [] fun r1 o1=>NL r1<|.call 157 [r1,.v (.func (.func 159) #[] #[])] [] fun r2 o2=>NB r2<|.done 0 [VB (!r2.toBool)] []
theorem OY(a0:AV)(ha0:LK.has .ptr a0)(h:dq 7 (KC a0) R):an Tryz.prog 127 [a0] [] R :=
 uQ (af (bu ha0) aA) (oQ [] Tryz.f127 h)
def IC(a0:ByteArray):Tree :=
 .test (decide ((ag a0:Int)>(8000:Int))) (.done 0 [.v (.pointer none)] []) (.call 160 [VS a0,VI 0] [] fun r1 o1=>NT r1<|NP (r1.comp 0)<|NS (r1.comp 1)<|.test (!(ae ((r1.comp 1).ai)==ae (mk []))) (.done 0 [.v (.pointer none)] []) (.done 0 [(r1.comp 0)] []))
theorem PA(a0:ByteArray)(h:dq 16 (IC a0) R):an Tryz.prog 128 [VS a0] [] R :=
 uQ (af (au _) aA) (oQ [] Tryz.f128 h)
def Gj(a0:AV):Tree :=
 NZ a0<|NZ a0<|.al (LK.has .str (a0.deref.hA)/\1<=a0.deref.length)<|.test (ae ((a0.deref.hA).ai)==ae (mk [117])) (.done 0 [.ptr [.v (.int .u8 117),VS (mk []),.v (.pointer none),.v (.pointer none)]] []) (NZ a0<|NZ a0<|.al (LK.has .str (a0.deref.hA)/\1<=a0.deref.length)<|.call 161 [VS ((a0.deref.hA).ai)] [] fun r1 o1=>NB r1<|.test r1.toBool (NZ a0<|NZ a0<|.al (LK.has .str (a0.deref.hA)/\1<=a0.deref.length)<|.done 0 [.ptr [.v (.int .u8 101),VS ((a0.deref.hA).ai),.v (.pointer none),.v (.pointer none)]] []) (.call 162 [a0,VS (mk [108]),VI 2] [] fun r2 o2=>NB r2<|.test r2.toBool (NZ a0<|NZ a0<|nF (a0.deref.drop 1)<|NG ((a0.deref.drop 1).hA) 1 1<|dR (((a0.deref.drop 1).hA).ix (1:Int))<|.call 129 [((((a0.deref.drop 1).hA).ix (1:Int)).hA)] [] fun r3 o3=>NP r3<|NP r3<|.test r3.isNil (.done 0 [.v (.pointer none)] []) (NZ a0<|NZ a0<|nF (a0.deref.drop 1)<|NG ((a0.deref.drop 1).hA) 0 1<|dR (((a0.deref.drop 1).hA).ix (0:Int))<|NZ ((((a0.deref.drop 1).hA).ix (0:Int)).hA)<|NZ ((((a0.deref.drop 1).hA).ix (0:Int)).hA)<|.al (LK.has .str (((((a0.deref.drop 1).hA).ix (0:Int)).hA).deref.hA)/\1<=(((((a0.deref.drop 1).hA).ix (0:Int)).hA).deref).length)<|.al (0<=(0:Int)/\(0:Int)<ag ((((((a0.deref.drop 1).hA).ix (0:Int)).hA).deref.hA).ai))<|.done 0 [.ptr [.v (.int .u8 (bt ((((((a0.deref.drop 1).hA).ix (0:Int)).hA).deref.hA).ai) 0)),VS (mk []),r3,.v (.pointer none)]] [])) (.call 162 [a0,VS (mk [114]),VI 2] [] fun r4 o4=>NB r4<|.test r4.toBool (NZ a0<|NZ a0<|nF (a0.deref.drop 1)<|NG ((a0.deref.drop 1).hA) 1 1<|dR (((a0.deref.drop 1).hA).ix (1:Int))<|.call 129 [((((a0.deref.drop 1).hA).ix (1:Int)).hA)] [] fun r5 o5=>NP r5<|NP r5<|.test r5.isNil (.done 0 [.v (.pointer none)] []) (NZ a0<|NZ a0<|nF (a0.deref.drop 1)<|NG ((a0.deref.drop 1).hA) 0 1<|dR (((a0.deref.drop 1).hA).ix (0:Int))<|NZ ((((a0.deref.drop 1).hA).ix (0:Int)).hA)<|NZ ((((a0.deref.drop 1).hA).ix (0:Int)).hA)<|.al (LK.has .str (((((a0.deref.drop 1).hA).ix (0:Int)).hA).deref.hA)/\1<=(((((a0.deref.drop 1).hA).ix (0:Int)).hA).deref).length)<|.al (0<=(0:Int)/\(0:Int)<ag ((((((a0.deref.drop 1).hA).ix (0:Int)).hA).deref.hA).ai))<|.done 0 [.ptr [.v (.int .u8 (bt ((((((a0.deref.drop 1).hA).ix (0:Int)).hA).deref.hA).ai) 0)),VS (mk []),r5,.v (.pointer none)]] [])) (.call 162 [a0,VS (mk [102]),VI 2] [] fun r6 o6=>NB r6<|.test r6.toBool (NZ a0<|NZ a0<|nF (a0.deref.drop 1)<|NG ((a0.deref.drop 1).hA) 1 1<|dR (((a0.deref.drop 1).hA).ix (1:Int))<|.call 129 [((((a0.deref.drop 1).hA).ix (1:Int)).hA)] [] fun r7 o7=>NP r7<|NP r7<|.test r7.isNil (.done 0 [.v (.pointer none)] []) (NZ a0<|NZ a0<|nF (a0.deref.drop 1)<|NG ((a0.deref.drop 1).hA) 0 1<|dR (((a0.deref.drop 1).hA).ix (0:Int))<|NZ ((((a0.deref.drop 1).hA).ix (0:Int)).hA)<|NZ ((((a0.deref.drop 1).hA).ix (0:Int)).hA)<|.al (LK.has .str (((((a0.deref.drop 1).hA).ix (0:Int)).hA).deref.hA)/\1<=(((((a0.deref.drop 1).hA).ix (0:Int)).hA).deref).length)<|.al (0<=(0:Int)/\(0:Int)<ag ((((((a0.deref.drop 1).hA).ix (0:Int)).hA).deref.hA).ai))<|.done 0 [.ptr [.v (.int .u8 (bt ((((((a0.deref.drop 1).hA).ix (0:Int)).hA).deref.hA).ai) 0)),VS (mk []),r7,.v (.pointer none)]] [])) (.call 162 [a0,VS (mk [112]),VI 3] [] fun r8 o8=>NB r8<|.test r8.toBool (NZ a0<|NZ a0<|nF (a0.deref.drop 1)<|NG ((a0.deref.drop 1).hA) 1 1<|dR (((a0.deref.drop 1).hA).ix (1:Int))<|.call 129 [((((a0.deref.drop 1).hA).ix (1:Int)).hA)] [] fun r9 o9=>NP r9<|NZ a0<|NZ a0<|nF (a0.deref.drop 1)<|NG ((a0.deref.drop 1).hA) 2 1<|dR (((a0.deref.drop 1).hA).ix (2:Int))<|.call 129 [((((a0.deref.drop 1).hA).ix (2:Int)).hA)] [] fun r10 o10=>NP r10<|NP r9<|.test r9.isNil (.done 0 [.v (.pointer none)] []) (NP r10<|.test r10.isNil (.done 0 [.v (.pointer none)] []) (.call 117 [r9,r10] [] fun r11 o11=>NP r11<|.done 0 [r11] []))) (.done 0 [.v (.pointer none)] []))))))
theorem Jl(a0:AV)(ha0:LK.has .ptr a0)(h:dq 85 (Gj a0) R):an Tryz.prog 129 [a0] [] R :=
 uQ (af (bu ha0) aA) (oQ [] Tryz.f129 h)
def Fy:LI:={hd:={bD:=[(3,.k .ptr),(10,.k (.int .i64)),(11,.k (.int .i64))]},xs:={bD:=[(3,.k .ptr)]},rt:={},ex:=0}
def K2:Code:=cz (cu Tryz.f131) 3
def NJ:List (Nat×LI):=[(3,Fy)]
def Ft(a0_0:AV)(a0_1:AV):Tree :=
 NZ a0_0<|NZ a0_0<|.al (LK.has (.int .i64) ((a0_0.deref.drop 2).hA)/\1<=(a0_0.deref.drop 2).length)<|.loop K2 Fy [a0_1,VI (((a0_0.deref.drop 2).hA).toInt),VI 0] [] (fun y1 q1=>NP (y1.hA)<|NZ (y1.hA)<|NZ (y1.hA)<|.al (LK.has .ptr ((y1.hA).deref.hA)/\1<=((y1.hA).deref).length)<|.done 0 [((y1.hA).deref.hA)] []) (fun y1 q1=>.done 0 [.any] [])
theorem NF(a0_0:AV)(a0_1:AV)(ha0_0:LK.has .ptr a0_0)(ha0_1:LK.has .ptr a0_1)(h:dq 22 (Ft a0_0 a0_1) R):an Tryz.prog 131 [.agg [a0_0,a0_1]] [] R :=
 uQ (af (bT (af (bu ha0_0) (af (bu ha0_1) aA))) aA) (oQ NJ Tryz.f131 h)
def AA(x3:AV)(x10:Int)(x11:Int):Tree :=
 NP x3<|NI (VI x10)<|NI (VI x11)<|.test (decide (x11<x10)) (NZ x3<|NZ x3<|dR (x3.deref.drop 1)<|.done 0 [((x3.deref.drop 1).hA),VI x10,VI (IntKind.wrap .i64 (x11+1))] []) (.done 1 [x3] [])
abbrev CN:=ct Tryz.prog 22 K2 Fy
theorem C5(x3:AV)(x10:Int)(x11:Int)(h:jw 22 (AA x3 x10 x11) CN U):CN [x3,VI x10,VI x11] [] U :=
 gQ NJ h
def MW(a0:ByteArray):Tree :=
 .call 122 [VS a0] [] fun r1 o1=>NT r1<|.al ((r1.comp 0)=.agg (r1.comp 0).cs/\(r1.comp 0).cs.length=2/\bB [.str,.sl] ((r1.comp 0).cs) 0)<|NB (r1.comp 1)<|.test ((r1.comp 1).toBool) (.call 165 [.agg [VS (((r1.comp 0).cs.getD 0 .any).ai),((r1.comp 0).cs.getD 1 .any)]] [] fun r2 o2=>NB r2<|.test r2.toBool (.call 140 [.agg [VS (((r1.comp 0).cs.getD 0 .any).ai),((r1.comp 0).cs.getD 1 .any)]] [] fun r3 o3=>NI r3<|.done 0 [.cI [.agg [VS (((r1.comp 0).cs.getD 0 .any).ai),((r1.comp 0).cs.getD 1 .any)],VB (decide (r3.toInt<=(400:Int)))]] []) (.done 0 [.cI [.agg [VS (((r1.comp 0).cs.getD 0 .any).ai),((r1.comp 0).cs.getD 1 .any)],VB false]] [])) (.done 0 [.cI [.agg [VS (((r1.comp 0).cs.getD 0 .any).ai),((r1.comp 0).cs.getD 1 .any)],VB false]] [])
theorem P7(a0:ByteArray)(h:dq 22 (MW a0) R):an Tryz.prog 132 [VS a0] [] R :=
 uQ (af (au _) aA) (oQ [] Tryz.f132 h)
def KQ(a0_0:ByteArray)(a0_1:AV):Tree :=
 NG a0_1 1 2<|kA (a0_1.ix (1:Int))<|NG a0_1 2 2<|NE (a0_1.ix (2:Int))<|.call 166 [.agg [VS (((a0_1.ix (2:Int)).getD 0 .any).ai),((a0_1.ix (2:Int)).getD 1 .any)],VS (((a0_1.ix (1:Int)).hA).ai)] [] fun r1 o1=>NT r1<|.al ((r1.comp 0)=.agg (r1.comp 0).cs/\(r1.comp 0).cs.length=2/\bB [.str,.sl] ((r1.comp 0).cs) 0)<|NB (r1.comp 1)<|.test (!((r1.comp 1).toBool)) (.done 0 [.cI [.agg [VS a0_0,a0_1],VB false]] []) (.call 167 [.agg [VS (((r1.comp 0).cs.getD 0 .any).ai),((r1.comp 0).cs.getD 1 .any)],VS (((a0_1.ix (1:Int)).hA).ai),.agg [VS a0_0,a0_1]] [] fun r2 o2=>NT r2<|.al ((r2.comp 0)=.agg (r2.comp 0).cs/\(r2.comp 0).cs.length=2/\bB [.str,.sl] ((r2.comp 0).cs) 0)<|NB (r2.comp 1)<|.done 0 [.cI [.agg [VS (((r2.comp 0).cs.getD 0 .any).ai),((r2.comp 0).cs.getD 1 .any)],VB ((r2.comp 1).toBool)]] [])
theorem QD(a0_0:ByteArray)(a0_1:AV)(ha0_1:LK.has .sl a0_1)(h:dq 30 (KQ a0_0 a0_1) R):an Tryz.prog 133 [.agg [VS a0_0,a0_1]] [] R :=
 uQ (af (bT (af (au _) (af (bY ha0_1) aA))) aA) (oQ [] Tryz.f133 h)
def L3(a0_0:ByteArray)(a0_1:AV):Tree :=
 .call 140 [.agg [VS a0_0,a0_1]] [] fun r1 o1=>NI r1<|.test (decide (r1.toInt>(400:Int))) (.done 0 [.cI [VS (mk []),VB false]] []) (.call 106 [.agg [VS a0_0,a0_1],.v (.slice none 0 0)] [] fun r2 o2=>NA r2<|.call 97 [.agg [VS ((r2.cs.getD 0 .any).ai),(r2.cs.getD 1 .any)]] [] fun r3 o3=>NS r3<|.call 168 [VS r3.ai] [] fun r4 o4=>NB r4<|.test (!r4.toBool) (.done 0 [.cI [VS (mk []),VB false]] []) (.done 0 [.cI [VS r3.ai,VB true]] []))
theorem PB(a0_0:ByteArray)(a0_1:AV)(ha0_1:LK.has .sl a0_1)(h:dq 15 (L3 a0_0 a0_1) R):an Tryz.prog 134 [.agg [VS a0_0,a0_1]] [] R :=
 uQ (af (bT (af (au _) (af (bY ha0_1) aA))) aA) (oQ [] Tryz.f134 h)
def wo(a0_0:ByteArray)(a0_1:AV)(a1:AV)(e2:List (List AV)):Tree :=
 .test (!(ae a0_0==ae (mk []))) (.test (ae a0_0==ae (mk [48])) (.done 0 [.vec 1] [.dead,.vec 1 e2]) (.test (ae a0_0==ae (mk [49])) (.done 0 [.vec 1] [.dead,.vec 1 e2]) (.call 169 [a1,VS a0_0] [] fun r1 o1=>NB r1<|.test r1.toBool (.done 0 [.vec 1] [.dead,.vec 1 e2]) (.call 169 [.sl e2,VS a0_0] [] fun r2 o2=>NB r2<|.test r2.toBool (.done 0 [.vec 1] [.dead,.vec 1 e2]) (.al (cA 1 [[VS a0_0]]/\((e2.length)+([[VS a0_0]]:List (List AV)).length)*16<=140737488355328)<|.done 0 [.vec 1] [.dead,.vec 1 (e2++([[VS a0_0]]:List (List AV)))]))))) (.call 121 [.agg [VS a0_0,a0_1]] [] fun r3 o3=>NS r3<|.test (ae r3.ai==ae (mk [114,101,99])) (NG a0_1 2 2<|NE (a0_1.ix (2:Int))<|NG a0_1 1 2<|kA (a0_1.ix (1:Int))<|.call 79 [a1,VS (((a0_1.ix (1:Int)).hA).ai)] [] fun r4 o4=>NL r4<|.call 137 [.agg [VS (((a0_1.ix (2:Int)).getD 0 .any).ai),((a0_1.ix (2:Int)).getD 1 .any)],r4,.vec 0] [.vec 1 e2] fun r5 o5=>.al (r5=.vec 1/\(o5.tail.hO)=.vec 1 (o5.tail.hO).es)<|.done 0 [.vec 1] [.dead,.vec 1 ((o5.tail.hO).es)]) (NG a0_1 2 2<|NE (a0_1.ix (2:Int))<|NG a0_1 1 2<|NE (a0_1.ix (1:Int))<|.call 137 [.agg [VS (((a0_1.ix (1:Int)).getD 0 .any).ai),((a0_1.ix (1:Int)).getD 1 .any)],a1,.vec 0] [.vec 1 e2] fun r6 o6=>.al (r6=.vec 1/\(o6.tail.hO)=.vec 1 (o6.tail.hO).es)<|.call 137 [.agg [VS (((a0_1.ix (2:Int)).getD 0 .any).ai),((a0_1.ix (2:Int)).getD 1 .any)],a1,.vec 0] [.vec 1 ((o6.tail.hO).es)] fun r7 o7=>.al (r7=.vec 1/\(o7.tail.hO)=.vec 1 (o7.tail.hO).es)<|.done 0 [.vec 1] [.dead,.vec 1 ((o7.tail.hO).es)]))
theorem yF(a0_0:ByteArray)(a0_1:AV)(a1:AV)(e2:List (List AV))(ha0_1:LK.has .sl a0_1)(ha1:LK.has .sl a1)(h:dq 65 (wo a0_0 a0_1 a1 e2) R):an Tryz.prog 137 [.agg [VS a0_0,a0_1],a1,.vec 0] [.vec 1 e2] R :=
 an.ru (bQ (fy _) dc) (an.up (af (bT (af (au _) (af (bY ha0_1) aA))) (af (bY ha1) (af (au _) aA))) (oF [] {mu:=[(2,.one (.vec))],own:=[0]} Tryz.f137 h))
def Ml(a0:ByteArray):Tree :=
 .call 170 [VS a0,.v (.int .u8 116),.v (.int .u8 116)] [] fun r1 o1=>NB r1<|.done 0 [VB r1.toBool] []
theorem OK(a0:ByteArray)(h:dq 5 (Ml a0) R):an Tryz.prog 138 [VS a0] [] R :=
 uQ (af (au _) aA) (oQ [] Tryz.f138 h)
def EK:LI:={hd:={bD:=[(3,.k (.int .i64)),(4,.k (.int .i64))],refs:=[(1,1)],cm:=[(1,[.lk .str,.lk .sl])]},xs:={bD:=[(3,.k (.int .i64))]},rt:={},ex:=0}
def L4:Code:=cz (cu Tryz.f140) 5
def KH:List (Nat×LI):=[(5,EK)]
def Eh(a0_0:ByteArray)(a0_1:AV):Tree :=
 .test (!(ae a0_0==ae (mk []))) (.done 0 [VI 1] []) (.loop L4 EK [VI 0,VI 0] [.cells [VS a0_0,a0_1]] (fun y2 q2=>NI (y2.hA)<|.done 0 [VI ((y2.hA).toInt)] []) (fun y2 q2=>.done 0 [.any] []))
theorem MN(a0_0:ByteArray)(a0_1:AV)(ha0_1:LK.has .sl a0_1)(h:dq 24 (Eh a0_0 a0_1) R):an Tryz.prog 140 [.agg [VS a0_0,a0_1]] [] R :=
 uQ (af (bT (af (au _) (af (bY ha0_1) aA))) aA) (oQ KH Tryz.f140 h)
def F9(x3:Int)(x4:Int)(o1_0:ByteArray)(o1_1:AV):Tree :=
 NI (VI x3)<|NI (VI x4)<|.al (Ob.cells [VS o1_0,o1_1]=.cells [VS o1_0,o1_1])<|.al (ac [.lk .str,.lk .sl] [VS o1_0,o1_1] 0 [])<|NL o1_1<|.test (decide (x4<(o1_1.aN.length:Int))) (NG o1_1 x4 2<|NE (o1_1.ix x4)<|.call 140 [.agg [VS (((o1_1.ix x4).getD 0 .any).ai),((o1_1.ix x4).getD 1 .any)]] [] fun r1 o1=>NI r1<|.done 0 [VI (IntKind.wrap .i64 (x3+r1.toInt)),VI (IntKind.wrap .i64 (x4+1))] [.cells [VS o1_0,o1_1]]) (.done 1 [VI x3] [])
abbrev FI:=ct Tryz.prog 24 L4 EK
theorem Lw(x3:Int)(x4:Int)(o1_0:ByteArray)(o1_1:AV)(h:jw 24 (F9 x3 x4 o1_0 o1_1) FI U):FI [VI x3,VI x4] [.cells [VS o1_0,o1_1]] U :=
 gQ KH h
def Ki(a0:Int):Tree :=
 .test (decide (a0<((-9223372036854775807):Int))) (.done 0 [VS (mk [45,57,50,50,51,51,55,50,48,51,54,56,53,52,55,55,53,56,48,56])] []) (.test (decide (a0<(0:Int))) (.call 142 [VI (IntKind.wrap .i64 (0-a0))] [] fun r1 o1=>NS r1<|.al (ag (mk [45])+ag r1.ai<=9223372036854775807)<|.done 0 [VS (((mk [45]):ByteArray)++r1.ai)] []) (.test (decide (a0<(10:Int))) (.al (ja [[.v (.int .u8 (IntKind.wrap .u8 (IntKind.wrap .i64 (48+a0))))]])<|.done 0 [VS (⟨(bytesOf [[.v (.int .u8 (IntKind.wrap .u8 (IntKind.wrap .i64 (48+a0))))]]).toArray⟩)] []) (.al (¬(10:Int)=0)<|.call 142 [VI (IntKind.wrap .i64 (Int.tdiv a0 10))] [] fun r2 o2=>NS r2<|.al (¬(10:Int)=0)<|.al (ja [[.v (.int .u8 (IntKind.wrap .u8 (IntKind.wrap .i64 (48+(Int.tmod a0 10)))))]])<|.al (ag r2.ai+ag (⟨(bytesOf [[.v (.int .u8 (IntKind.wrap .u8 (IntKind.wrap .i64 (48+(Int.tmod a0 10)))))]]).toArray⟩)<=9223372036854775807)<|.done 0 [VS ((r2.ai:ByteArray)++(⟨(bytesOf [[.v (.int .u8 (IntKind.wrap .u8 (IntKind.wrap .i64 (48+(Int.tmod a0 10)))))]]).toArray⟩))] [])))
theorem Oo(a0:Int)(h:dq 28 (Ki a0) R):an Tryz.prog 142 [VI a0] [] R :=
 uQ (af (au _) aA) (oQ [] Tryz.f142 h)
def Em:LI:={hd:={bD:=[(1,.k .sl),(2,.k .sl),(9,.k (.int .i64))],refs:=[(4,4),(8,8)],cm:=[(4,[.lk .str,.lk .sl]),(8,[.lk .str,.lk .sl]),(0,[.vec 1,.lk (.int .i64)])]},xs:={refs:=[(4,4),(8,8)],cm:=[(4,[.lk .str,.lk .sl]),(8,[.lk .str,.lk .sl]),(0,[.vec 1,.lk (.int .i64)])]},rt:={refs:=[(8,8)],cm:=[(8,[.lk .str,.lk .sl]),(0,[.vec 1,.lk (.int .i64)])]},ex:=0,fx:=[0]}
def Lt:Code:=cz (cu Tryz.f143) 3
def FR:LI:={hd:={bD:=[(1,.k .sl),(2,.k .sl),(10,.k .str)],refs:=[(3,0),(4,4),(8,8)],cm:=[(0,[.vec 1,.lk (.int .i64)]),(4,[.lk .str,.lk .sl]),(8,[.lk .str,.lk .sl])]},xs:={bD:=[(1,.k .sl),(2,.k .sl),(10,.k .str)],refs:=[(3,0),(4,4),(8,8)],cm:=[(0,[.vec 1,.lk (.int .i64)]),(4,[.lk .str,.lk .sl]),(8,[.lk .str,.lk .sl])]},rt:={cm:=[(0,[.vec 1,.lk (.int .i64)])]},ex:=2,fx:=[0]}
def KM:Code:=cz (cu Tryz.f143) 10
def Gr:List (Nat×LI):=[(3,Em),(10,FR)]
def AL(a0_0:ByteArray)(a0_1:AV)(a1:AV)(a2:AV)(e3_0:List (List AV))(a3_1:Int):Tree :=
 .test (!(ae a0_0==ae (mk []))) (NL a1<|.loop Lt Em [a1,a2,VI (IntKind.wrap .i64 ((a1.aN.length:Int)-1))] [.cells [VS a0_0,a0_1],.cells [VS (mk []),.v (.slice none 0 0)],.cells [.any,VI a3_1],.vec 1 e3_0] (fun y1 q1=>.al ((q1.hO)=.cells (q1.hO).cs)<|.al (ac [.lk .str,.lk .sl] ((q1.hO).cs) 0 q1.tail)<|.al (((q1.tail.drop 0).hO)=.cells ((q1.tail.drop 0).hO).cs)<|.al (ac [.lk .str,.lk .sl] (((q1.tail.drop 0).hO).cs) 0 ((q1.tail.drop 0).tail))<|.al ((((q1.tail.drop 0).tail.drop 0).hO)=.cells (((q1.tail.drop 0).tail.drop 0).hO).cs)<|.al (ac [.vec 1,.lk (.int .i64)] ((((q1.tail.drop 0).tail.drop 0).hO).cs) 0 (((q1.tail.drop 0).tail.drop 0).tail))<|.done 0 [.agg [VS (((q1.hO).cs.getD 0 .any).ai),((q1.hO).cs.getD 1 .any)]] [.cells [.vec 1,VI (((q1.tail.tail.hO).cs.getD 1 .any).toInt)],.vec 1 ((q1.tail.tail.tail.hO).es)]) (fun y1 q1=>.al ((q1.hO)=.cells (q1.hO).cs)<|.al (ac [.lk .str,.lk .sl] ((q1.hO).cs) 0 q1.tail)<|.al (((q1.tail.drop 0).hO)=.cells ((q1.tail.drop 0).hO).cs)<|.al (ac [.vec 1,.lk (.int .i64)] (((q1.tail.drop 0).hO).cs) 0 ((q1.tail.drop 0).tail))<|.done 0 [.agg [VS (((q1.hO).cs.getD 0 .any).ai),((q1.hO).cs.getD 1 .any)]] [.cells [.vec 1,VI (((q1.tail.hO).cs.getD 1 .any).toInt)],.vec 1 ((q1.tail.tail.hO).es)])) (.call 121 [.agg [VS a0_0,a0_1]] [] fun r2 o2=>NS r2<|.test (ae r2.ai==ae (mk [114,101,99])) (.call 142 [VI a3_1] [] fun r3 o3=>NS r3<|.al (ag (mk [116])+ag r3.ai<=9223372036854775807)<|.loop KM FR [a1,a2,VS (((mk [116]):ByteArray)++r3.ai)] [.cells [.any,VI a3_1],.vec 1 e3_0,.cells [VS a0_0,a0_1],.cells [VS (mk []),.v (.slice none 0 0)]] (fun y6 q6=>NL (y6.hA)<|NL (y6.tail.hA)<|NS (y6.tail.tail.hA)<|.al ((q6.hO)=.cells (q6.hO).cs)<|.al (ac [.vec 1,.lk (.int .i64)] ((q6.hO).cs) 0 q6.tail)<|.al (((q6.tail.drop 1).hO)=.cells ((q6.tail.drop 1).hO).cs)<|.al (ac [.lk .str,.lk .sl] (((q6.tail.drop 1).hO).cs) 0 ((q6.tail.drop 1).tail))<|.al ((((q6.tail.drop 1).tail.drop 0).hO)=.cells (((q6.tail.drop 1).tail.drop 0).hO).cs)<|.al (ac [.lk .str,.lk .sl] ((((q6.tail.drop 1).tail.drop 0).hO).cs) 0 (((q6.tail.drop 1).tail.drop 0).tail))<|NG ((q6.tail.tail.hO).cs.getD 1 .any) 2 2<|NE (((q6.tail.tail.hO).cs.getD 1 .any).ix (2:Int))<|NG ((q6.tail.tail.hO).cs.getD 1 .any) 1 2<|kA (((q6.tail.tail.hO).cs.getD 1 .any).ix (1:Int))<|.call 79 [(y6.hA),VS (((((q6.tail.tail.hO).cs.getD 1 .any).ix (1:Int)).hA).ai)] [] fun r7 o7=>NL r7<|.call 79 [(y6.tail.hA),VS ((y6.tail.tail.hA).ai)] [] fun r8 o8=>NL r8<|.call 143 [.agg [VS (((((q6.tail.tail.hO).cs.getD 1 .any).ix (2:Int)).getD 0 .any).ai),((((q6.tail.tail.hO).cs.getD 1 .any).ix (2:Int)).getD 1 .any)],r7,r8,.ref 0 0] [.cells [.vec 1,VI (IntKind.wrap .i64 ((((q6.hO).cs.getD 1 .any).toInt)+1))],.vec 1 ((q6.tail.hO).es)] fun r9 o9=>.al ((o9.hO)=.cells (o9.hO).cs)<|.al (bn [.vec 1,.lk (.int .i64)] ((o9.hO).cs) 0 1 o9.tail)<|NA r9<|.call 98 [VS (mk [114,101,99]),.sl [[VS ((y6.tail.tail.hA).ai),.v (.slice none 0 0)],[VS ((r9.cs.getD 0 .any).ai),(r9.cs.getD 1 .any)]]] [] fun r10 o10=>NA r10<|.done 0 [.agg [VS ((r10.cs.getD 0 .any).ai),(r10.cs.getD 1 .any)]] [.cells [.vec 1,VI (((o9.hO).cs.getD 1 .any).toInt)],.vec 1 ((o9.tail.hO).es)]) (fun y6 q6=>.al ((q6.hO)=.cells (q6.hO).cs)<|.al (ac [.vec 1,.lk (.int .i64)] ((q6.hO).cs) 0 q6.tail)<|.fail)) (NG a0_1 1 2<|NE (a0_1.ix (1:Int))<|.call 143 [.agg [VS (((a0_1.ix (1:Int)).getD 0 .any).ai),((a0_1.ix (1:Int)).getD 1 .any)],a1,a2,.ref 0 0] [.cells [.vec 1,VI a3_1],.vec 1 e3_0] fun r11 o11=>.al ((o11.hO)=.cells (o11.hO).cs)<|.al (bn [.vec 1,.lk (.int .i64)] ((o11.hO).cs) 0 1 o11.tail)<|NA r11<|.call 121 [.agg [VS a0_0,a0_1]] [] fun r12 o12=>NS r12<|NG a0_1 2 2<|NE (a0_1.ix (2:Int))<|.call 143 [.agg [VS (((a0_1.ix (2:Int)).getD 0 .any).ai),((a0_1.ix (2:Int)).getD 1 .any)],a1,a2,.ref 0 0] [.cells [.vec 1,VI (((o11.hO).cs.getD 1 .any).toInt)],.vec 1 ((o11.tail.hO).es)] fun r13 o13=>.al ((o13.hO)=.cells (o13.hO).cs)<|.al (bn [.vec 1,.lk (.int .i64)] ((o13.hO).cs) 0 1 o13.tail)<|NA r13<|.call 98 [VS r12.ai,.sl [[VS ((r11.cs.getD 0 .any).ai),(r11.cs.getD 1 .any)],[VS ((r13.cs.getD 0 .any).ai),(r13.cs.getD 1 .any)]]] [] fun r14 o14=>NA r14<|.done 0 [.agg [VS ((r14.cs.getD 0 .any).ai),(r14.cs.getD 1 .any)]] [.cells [.vec 1,VI (((o13.hO).cs.getD 1 .any).toInt)],.vec 1 ((o13.tail.hO).es)]))
theorem Da(a0_0:ByteArray)(a0_1:AV)(a1:AV)(a2:AV)(e3_0:List (List AV))(a3_1:Int)(ha0_1:LK.has .sl a0_1)(ha1:LK.has .sl a1)(ha2:LK.has .sl a2)(h:dq 113 (AL a0_0 a0_1 a1 a2 e3_0 a3_1) R):an Tryz.prog 143 [.agg [VS a0_0,a0_1],a1,a2,.ref 0 0] [.cells [.vec 1,VI a3_1],.vec 1 e3_0] R :=
 an.ru (bQ (cN (af (au _) (af (au _) aA))) (bQ (fy _) dc)) (an.up (af (bT (af (au _) (af (bY ha0_1) aA))) (af (bY ha1) (af (bY ha2) (af (au _) aA)))) (oF Gr {mu:=[(3,.one (.obj [.vec 1,.lk (.int .i64)]))],own:=[]} Tryz.f143 h))
def Gb(x1:AV)(x2:AV)(x9:Int)(o4_0:ByteArray)(o4_1:AV)(o8_0:ByteArray)(o8_1:AV)(o0_0:List (List AV))(o0_1:Int):Tree :=
 NL x1<|NL x2<|NI (VI x9)<|.al (Ob.cells [VS o4_0,o4_1]=.cells [VS o4_0,o4_1])<|.al (ac [.lk .str,.lk .sl] [VS o4_0,o4_1] 0 [.cells [VS o8_0,o8_1],.cells [.any,VI o0_1],.vec 1 o0_0])<|.al (Ob.cells [VS o8_0,o8_1]=.cells [VS o8_0,o8_1])<|.al (ac [.lk .str,.lk .sl] [VS o8_0,o8_1] 0 [.cells [.any,VI o0_1],.vec 1 o0_0])<|.al (Ob.cells [.any,VI o0_1]=.cells [.any,VI o0_1])<|.al (ac [.vec 1,.lk (.int .i64)] [.any,VI o0_1] 0 [.vec 1 o0_0])<|.test (decide (x9≥(0:Int))) (NG x1 x9 1<|kA (x1.ix x9)<|.test (ae (((x1.ix x9).hA).ai)==ae o4_0) (NG x2 x9 1<|kA (x2.ix x9)<|.done 2 [] [.cells [VS (((x2.ix x9).hA).ai),.v (.slice none 0 0)],.cells [.any,VI o0_1],.vec 1 o0_0]) (.done 0 [x1,x2,VI (IntKind.wrap .i64 (x9-1))] [.cells [VS o4_0,o4_1],.cells [VS o8_0,o8_1],.cells [.any,VI o0_1],.vec 1 o0_0])) (.done 1 [] [.cells [VS o4_0,o4_1],.cells [VS o8_0,o8_1],.cells [.any,VI o0_1],.vec 1 o0_0])
abbrev ED:=ct Tryz.prog 113 Lt Em
theorem Kn(x1:AV)(x2:AV)(x9:Int)(o4_0:ByteArray)(o4_1:AV)(o8_0:ByteArray)(o8_1:AV)(o0_0:List (List AV))(o0_1:Int)(h:jw 113 (Gb x1 x2 x9 o4_0 o4_1 o8_0 o8_1 o0_0 o0_1) ED U):ED [x1,x2,VI x9] [.cells [VS o4_0,o4_1],.cells [VS o8_0,o8_1],.cells [.any,VI o0_1],.vec 1 o0_0] U :=
 gQ Gr h
def KZ(x1:AV)(x2:AV)(x10:ByteArray)(o0_0:List (List AV))(o0_1:Int)(o4_0:ByteArray)(o4_1:AV)(o8_0:ByteArray)(o8_1:AV):Tree :=
 NL x1<|NL x2<|NS (VS x10)<|.al (Ob.cells [.any,VI o0_1]=.cells [.any,VI o0_1])<|.al (ac [.vec 1,.lk (.int .i64)] [.any,VI o0_1] 0 [.vec 1 o0_0,.cells [VS o4_0,o4_1],.cells [VS o8_0,o8_1]])<|.al (Ob.cells [VS o4_0,o4_1]=.cells [VS o4_0,o4_1])<|.al (ac [.lk .str,.lk .sl] [VS o4_0,o4_1] 0 [.cells [VS o8_0,o8_1]])<|.al (Ob.cells [VS o8_0,o8_1]=.cells [VS o8_0,o8_1])<|.al (ac [.lk .str,.lk .sl] [VS o8_0,o8_1] 0 [])<|.call 169 [.sl o0_0,VS x10] [] fun r1 o1=>NB r1<|.test r1.toBool (.call 142 [VI (IntKind.wrap .i64 (o0_1+1))] [] fun r2 o2=>NS r2<|.al (ag (mk [116])+ag r2.ai<=9223372036854775807)<|.done 0 [x1,x2,VS (((mk [116]):ByteArray)++r2.ai)] [.cells [.any,VI (IntKind.wrap .i64 (o0_1+1))],.vec 1 o0_0,.cells [VS o4_0,o4_1],.cells [VS o8_0,o8_1]]) (.done 1 [x1,x2,VS x10] [.cells [.any,VI o0_1],.vec 1 o0_0,.cells [VS o4_0,o4_1],.cells [VS o8_0,o8_1]])
abbrev G2:=ct Tryz.prog 113 KM FR
theorem PE(x1:AV)(x2:AV)(x10:ByteArray)(o0_0:List (List AV))(o0_1:Int)(o4_0:ByteArray)(o4_1:AV)(o8_0:ByteArray)(o8_1:AV)(h:jw 113 (KZ x1 x2 x10 o0_0 o0_1 o4_0 o4_1 o8_0 o8_1) G2 U):G2 [x1,x2,VS x10] [.cells [.any,VI o0_1],.vec 1 o0_0,.cells [VS o4_0,o4_1],.cells [VS o8_0,o8_1]] U :=
 gQ Gr h
def Hj:LI:={hd:={bD:=[(0,.k .ptr),(1,.k .sl),(5,.k (.int .i64))]},xs:={bD:=[(0,.k .ptr)]},rt:={refs:=[(4,69)],cm:=[(69,[.lk (.int .u8),.lk .str,.lk (.int .i64),.lk .ptr,.lk .ptr])]},ex:=1}
def Mp:Code:=cz (cu Tryz.f144) 7
def Nk:List (Nat×LI):=[(7,Hj)]
def EP(a0:AV)(a1:AV):Tree :=
 NZ a0<|NZ a0<|.al (LK.has .str (a0.deref.hA)/\1<=a0.deref.length)<|.test (ae ((a0.deref.hA).ai)==ae (mk [48])) (NZ a0<|NZ a0<|.al (LK.has .str (a0.deref.hA)/\1<=a0.deref.length)<|.al (0<=(0:Int)/\(0:Int)<ag ((a0.deref.hA).ai))<|.done 0 [.ptr [.v (.int .u8 (bt ((a0.deref.hA).ai) 0)),VS (mk []),VI 0,.v (.pointer none),.v (.pointer none)]] []) (NZ a0<|NZ a0<|.al (LK.has .str (a0.deref.hA)/\1<=a0.deref.length)<|.test (ae ((a0.deref.hA).ai)==ae (mk [49])) (NZ a0<|NZ a0<|.al (LK.has .str (a0.deref.hA)/\1<=a0.deref.length)<|.al (0<=(0:Int)/\(0:Int)<ag ((a0.deref.hA).ai))<|.done 0 [.ptr [.v (.int .u8 (bt ((a0.deref.hA).ai) 0)),VS (mk []),VI 0,.v (.pointer none),.v (.pointer none)]] []) (NZ a0<|NZ a0<|.al (LK.has .str (a0.deref.hA)/\1<=a0.deref.length)<|.call 173 [VS ((a0.deref.hA).ai)] [] fun r1 o1=>NB r1<|.test r1.toBool (NZ a0<|NZ a0<|.al (LK.has .str (a0.deref.hA)/\1<=a0.deref.length)<|.done 0 [.ptr [.v (.int .u8 110),VS ((a0.deref.hA).ai),VI 0,.v (.pointer none),.v (.pointer none)]] []) (NZ a0<|NZ a0<|.al (LK.has .str (a0.deref.hA)/\1<=a0.deref.length)<|.call 159 [VS ((a0.deref.hA).ai)] [] fun r2 o2=>NB r2<|.test r2.toBool (NL a1<|.loop Mp Hj [a0,a1,VI (IntKind.wrap .i64 ((a1.aN.length:Int)-1))] [] (fun y3 q3=>NP (y3.hA)<|NZ (y3.hA)<|NZ (y3.hA)<|.al (LK.has .str ((y3.hA).deref.hA)/\1<=((y3.hA).deref).length)<|.done 0 [.ptr [.v (.int .u8 110),VS (((y3.hA).deref.hA).ai),VI 0,.v (.pointer none),.v (.pointer none)]] []) (fun y3 q3=>.al ((q3.hO)=.cells (q3.hO).cs)<|.al (ac [.lk (.int .u8),.lk .str,.lk (.int .i64),.lk .ptr,.lk .ptr] ((q3.hO).cs) 0 q3.tail)<|.done 0 [.ptr [.v (.int .u8 (((q3.hO).cs.getD 0 .any).toInt)),VS (((q3.hO).cs.getD 1 .any).ai),VI (((q3.hO).cs.getD 2 .any).toInt),((q3.hO).cs.getD 3 .any),((q3.hO).cs.getD 4 .any)]] [])) (.call 162 [a0,VS (mk [43]),VI 3] [] fun r4 o4=>NB r4<|.test r4.toBool (NZ a0<|NZ a0<|nF (a0.deref.drop 1)<|NG ((a0.deref.drop 1).hA) 1 1<|dR (((a0.deref.drop 1).hA).ix (1:Int))<|.call 144 [((((a0.deref.drop 1).hA).ix (1:Int)).hA),a1] [] fun r5 o5=>NP r5<|NZ a0<|NZ a0<|nF (a0.deref.drop 1)<|NG ((a0.deref.drop 1).hA) 2 1<|dR (((a0.deref.drop 1).hA).ix (2:Int))<|.call 144 [((((a0.deref.drop 1).hA).ix (2:Int)).hA),a1] [] fun r6 o6=>NP r6<|NP r5<|.test r5.isNil (.done 0 [.v (.pointer none)] []) (NP r6<|.test r6.isNil (.done 0 [.v (.pointer none)] []) (NZ a0<|NZ a0<|nF (a0.deref.drop 1)<|NG ((a0.deref.drop 1).hA) 0 1<|dR (((a0.deref.drop 1).hA).ix (0:Int))<|NZ ((((a0.deref.drop 1).hA).ix (0:Int)).hA)<|NZ ((((a0.deref.drop 1).hA).ix (0:Int)).hA)<|.al (LK.has .str (((((a0.deref.drop 1).hA).ix (0:Int)).hA).deref.hA)/\1<=(((((a0.deref.drop 1).hA).ix (0:Int)).hA).deref).length)<|.al (0<=(0:Int)/\(0:Int)<ag ((((((a0.deref.drop 1).hA).ix (0:Int)).hA).deref.hA).ai))<|.done 0 [.ptr [.v (.int .u8 (bt ((((((a0.deref.drop 1).hA).ix (0:Int)).hA).deref.hA).ai) 0)),VS (mk []),VI 0,r5,r6]] []))) (.call 162 [a0,VS (mk [42]),VI 3] [] fun r7 o7=>NB r7<|.test r7.toBool (NZ a0<|NZ a0<|nF (a0.deref.drop 1)<|NG ((a0.deref.drop 1).hA) 1 1<|dR (((a0.deref.drop 1).hA).ix (1:Int))<|.call 144 [((((a0.deref.drop 1).hA).ix (1:Int)).hA),a1] [] fun r8 o8=>NP r8<|NZ a0<|NZ a0<|nF (a0.deref.drop 1)<|NG ((a0.deref.drop 1).hA) 2 1<|dR (((a0.deref.drop 1).hA).ix (2:Int))<|.call 144 [((((a0.deref.drop 1).hA).ix (2:Int)).hA),a1] [] fun r9 o9=>NP r9<|NP r8<|.test r8.isNil (.done 0 [.v (.pointer none)] []) (NP r9<|.test r9.isNil (.done 0 [.v (.pointer none)] []) (NZ a0<|NZ a0<|nF (a0.deref.drop 1)<|NG ((a0.deref.drop 1).hA) 0 1<|dR (((a0.deref.drop 1).hA).ix (0:Int))<|NZ ((((a0.deref.drop 1).hA).ix (0:Int)).hA)<|NZ ((((a0.deref.drop 1).hA).ix (0:Int)).hA)<|.al (LK.has .str (((((a0.deref.drop 1).hA).ix (0:Int)).hA).deref.hA)/\1<=(((((a0.deref.drop 1).hA).ix (0:Int)).hA).deref).length)<|.al (0<=(0:Int)/\(0:Int)<ag ((((((a0.deref.drop 1).hA).ix (0:Int)).hA).deref.hA).ai))<|.done 0 [.ptr [.v (.int .u8 (bt ((((((a0.deref.drop 1).hA).ix (0:Int)).hA).deref.hA).ai) 0)),VS (mk []),VI 0,r8,r9]] []))) (.call 162 [a0,VS (mk [114,101,99]),VI 3] [] fun r10 o10=>NB r10<|.test r10.toBool (NZ a0<|NZ a0<|nF (a0.deref.drop 1)<|NG ((a0.deref.drop 1).hA) 1 1<|dR (((a0.deref.drop 1).hA).ix (1:Int))<|NZ ((((a0.deref.drop 1).hA).ix (1:Int)).hA)<|NZ ((((a0.deref.drop 1).hA).ix (1:Int)).hA)<|.al (LK.has .str (((((a0.deref.drop 1).hA).ix (1:Int)).hA).deref.hA)/\1<=(((((a0.deref.drop 1).hA).ix (1:Int)).hA).deref).length)<|.call 159 [VS ((((((a0.deref.drop 1).hA).ix (1:Int)).hA).deref.hA).ai)] [] fun r11 o11=>NB r11<|.test r11.toBool (NZ a0<|NZ a0<|nF (a0.deref.drop 1)<|NG ((a0.deref.drop 1).hA) 2 1<|dR (((a0.deref.drop 1).hA).ix (2:Int))<|.al (LK.has .sl a1/\cA 1 a1.aN/\((([]:List (List AV)).length)+a1.aN.length)*16<=140737488355328)<|NZ a0<|NZ a0<|nF (a0.deref.drop 1)<|NG ((a0.deref.drop 1).hA) 1 1<|dR (((a0.deref.drop 1).hA).ix (1:Int))<|NZ ((((a0.deref.drop 1).hA).ix (1:Int)).hA)<|NZ ((((a0.deref.drop 1).hA).ix (1:Int)).hA)<|.al (LK.has .str (((((a0.deref.drop 1).hA).ix (1:Int)).hA).deref.hA)/\1<=(((((a0.deref.drop 1).hA).ix (1:Int)).hA).deref).length)<|.al (cA 1 [[VS ((((((a0.deref.drop 1).hA).ix (1:Int)).hA).deref.hA).ai)]]/\(((([]:List (List AV))++a1.aN).length)+([[VS ((((((a0.deref.drop 1).hA).ix (1:Int)).hA).deref.hA).ai)]]:List (List AV)).length)*16<=140737488355328)<|.call 144 [((((a0.deref.drop 1).hA).ix (2:Int)).hA),.sl ((([]:List (List AV))++a1.aN)++([[VS ((((((a0.deref.drop 1).hA).ix (1:Int)).hA).deref.hA).ai)]]:List (List AV)))] [] fun r12 o12=>NP r12<|NP r12<|.test r12.isNil (.done 0 [.v (.pointer none)] []) (.done 0 [.ptr [.v (.int .u8 114),VS (mk []),VI 0,r12,.v (.pointer none)]] [])) (.done 0 [.v (.pointer none)] [])) (.done 0 [.v (.pointer none)] [])))))))
theorem IY(a0:AV)(a1:AV)(ha0:LK.has .ptr a0)(ha1:LK.has .sl a1)(h:dq 160 (EP a0 a1) R):an Tryz.prog 144 [a0,a1] [] R :=
 uQ (af (bu ha0) (af (bY ha1) aA)) (oQ Nk Tryz.f144 h)
def EM(x0:AV)(x1:AV)(x5:Int):Tree :=
 NP x0<|NL x1<|NI (VI x5)<|.test (decide (x5≥(0:Int))) (NG x1 x5 1<|kA (x1.ix x5)<|NZ x0<|NZ x0<|.al (LK.has .str (x0.deref.hA)/\1<=x0.deref.length)<|.test (ae (((x1.ix x5).hA).ai)==ae ((x0.deref.hA).ai)) (NL x1<|.done 2 [] [.cells [.v (.int .u8 98),VS (mk []),VI (IntKind.wrap .i64 ((IntKind.wrap .i64 ((x1.aN.length:Int)-1))-x5)),.v (.pointer none),.v (.pointer none)]]) (.done 0 [x0,x1,VI (IntKind.wrap .i64 (x5-1))] [])) (.done 1 [x0] [])
abbrev GH:=ct Tryz.prog 160 Mp Hj
theorem Ng(x0:AV)(x1:AV)(x5:Int)(h:jw 160 (EM x0 x1 x5) GH U):GH [x0,x1,VI x5] [] U :=
 gQ Nk h
def DY(a0:AV):Tree :=
 NZ a0<|NZ a0<|.al (LK.has (.int .u8) (a0.deref.hA)/\1<=a0.deref.length)<|.test (((a0.deref.hA).toInt)==(43:Int)) (NZ a0<|NZ a0<|dR (a0.deref.drop 3)<|.call 145 [((a0.deref.drop 3).hA)] [] fun r1 o1=>NI r1<|NZ a0<|NZ a0<|dR (a0.deref.drop 4)<|.call 145 [((a0.deref.drop 4).hA)] [] fun r2 o2=>NI r2<|.done 0 [VI (IntKind.wrap .i64 ((IntKind.wrap .i64 (1+r1.toInt))+r2.toInt))] []) (.test (((a0.deref.hA).toInt)==(42:Int)) (NZ a0<|NZ a0<|dR (a0.deref.drop 3)<|.call 145 [((a0.deref.drop 3).hA)] [] fun r3 o3=>NI r3<|NZ a0<|NZ a0<|dR (a0.deref.drop 4)<|.call 145 [((a0.deref.drop 4).hA)] [] fun r4 o4=>NI r4<|.done 0 [VI (IntKind.wrap .i64 ((IntKind.wrap .i64 (1+r3.toInt))+r4.toInt))] []) (.test (((a0.deref.hA).toInt)==(114:Int)) (NZ a0<|NZ a0<|dR (a0.deref.drop 3)<|.call 145 [((a0.deref.drop 3).hA)] [] fun r5 o5=>NI r5<|.done 0 [VI (IntKind.wrap .i64 (2+r5.toInt))] []) (.done 0 [VI 1] [])))
theorem wG(a0:AV)(ha0:LK.has .ptr a0)(h:dq 30 (DY a0) R):an Tryz.prog 145 [a0] [] R :=
 uQ (af (bu ha0) aA) (oQ [] Tryz.f145 h)
def JE(a0_0:Int)(a0_1:Bool):Tree :=
 .call 174 [VI (IntKind.wrap .i64 (a0_0+1))] [] fun r1 o1=>NS r1<|.al (ag (mk [35])+ag r1.ai<=9223372036854775807)<|.done 0 [VS (((mk [35]):ByteArray)++r1.ai)] [.cells [VI (IntKind.wrap .i64 (a0_0+1)),VB a0_1]]
theorem Qc(a0_0:Int)(a0_1:Bool)(h:dq 16 (JE a0_0 a0_1) R):an Tryz.prog 146 [.ref 0 0] [.cells [VI a0_0,VB a0_1]] R :=
 an.ru (bQ (cN (af (au _) (af (EC _) aA))) dc) (an.up (af (au _) aA) (oF [] {mu:=[(0,.one (.obj [.lk (.int .i64),.lk .bool]))],own:=[]} Tryz.f146 h))
def IV(a0_0:Int)(a0_1:Bool)(a1:AV):Tree :=
 .test a0_1 (.done 0 [.ptr [.v (.int .u8 48),VS (mk []),VI 0,.v (.pointer none),.v (.pointer none)]] [.cells [VI a0_0,VB true]]) (.call 145 [a1] [] fun r1 o1=>NI r1<|.test (decide (r1.toInt>(400:Int))) (.done 0 [.ptr [.v (.int .u8 48),VS (mk []),VI 0,.v (.pointer none),.v (.pointer none)]] [.cells [VI a0_0,VB true]]) (.done 0 [a1] [.cells [VI a0_0,VB a0_1]]))
theorem Om(a0_0:Int)(a0_1:Bool)(a1:AV)(ha1:LK.has .ptr a1)(h:dq 20 (IV a0_0 a0_1 a1) R):an Tryz.prog 147 [.ref 0 0,a1] [.cells [VI a0_0,VB a0_1]] R :=
 an.ru (bQ (cN (af (au _) (af (EC _) aA))) dc) (an.up (af (au _) (af (bu ha1) aA)) (oF [] {mu:=[(0,.one (.obj [.lk (.int .i64),.lk .bool]))],own:=[]} Tryz.f147 h))
def Dq(a0_0:Int)(a0_1:Bool)(a1:AV)(a2:ByteArray):Tree :=
 .test a0_1 (.done 0 [.ptr [.v (.int .u8 48),VS (mk []),VI 0,.v (.pointer none),.v (.pointer none)]] [.cells [VI a0_0,VB a0_1]]) (NZ a1<|NZ a1<|.al (LK.has (.int .u8) (a1.deref.hA)/\1<=a1.deref.length)<|.test (((a1.deref.hA).toInt)==(110:Int)) (NZ a1<|NZ a1<|kA (a1.deref.drop 1)<|.test (ae (((a1.deref.drop 1).hA).ai)==ae a2) (.done 0 [.ptr [.v (.int .u8 49),VS (mk []),VI 0,.v (.pointer none),.v (.pointer none)]] [.cells [VI a0_0,VB a0_1]]) (.done 0 [.ptr [.v (.int .u8 48),VS (mk []),VI 0,.v (.pointer none),.v (.pointer none)]] [.cells [VI a0_0,VB a0_1]])) (.test (((a1.deref.hA).toInt)==(43:Int)) (NZ a1<|NZ a1<|dR (a1.deref.drop 3)<|.call 148 [.ref 0 0,((a1.deref.drop 3).hA),VS a2] [.cells [VI a0_0,VB a0_1]] fun r1 o1=>.al ((o1.hO)=.cells (o1.hO).cs)<|.al (bn [.lk (.int .i64),.lk .bool] ((o1.hO).cs) 0 1 o1.tail)<|NP r1<|NZ a1<|NZ a1<|dR (a1.deref.drop 4)<|.call 148 [.ref 0 0,((a1.deref.drop 4).hA),VS a2] [.cells [VI (((o1.hO).cs.getD 0 .any).toInt),VB (((o1.hO).cs.getD 1 .any).toBool)]] fun r2 o2=>.al ((o2.hO)=.cells (o2.hO).cs)<|.al (bn [.lk (.int .i64),.lk .bool] ((o2.hO).cs) 0 1 o2.tail)<|NP r2<|.call 175 [.v (.int .u8 43),r1,r2] [] fun r3 o3=>NP r3<|.call 147 [.ref 0 0,r3] [.cells [VI (((o2.hO).cs.getD 0 .any).toInt),VB (((o2.hO).cs.getD 1 .any).toBool)]] fun r4 o4=>.al ((o4.hO)=.cells (o4.hO).cs)<|.al (bn [.lk (.int .i64),.lk .bool] ((o4.hO).cs) 0 1 o4.tail)<|NP r4<|.done 0 [r4] [.cells [VI (((o4.hO).cs.getD 0 .any).toInt),VB (((o4.hO).cs.getD 1 .any).toBool)]]) (.test (((a1.deref.hA).toInt)==(42:Int)) (NZ a1<|NZ a1<|dR (a1.deref.drop 3)<|.call 148 [.ref 0 0,((a1.deref.drop 3).hA),VS a2] [.cells [VI a0_0,VB a0_1]] fun r5 o5=>.al ((o5.hO)=.cells (o5.hO).cs)<|.al (bn [.lk (.int .i64),.lk .bool] ((o5.hO).cs) 0 1 o5.tail)<|NP r5<|NZ a1<|NZ a1<|dR (a1.deref.drop 4)<|.call 175 [.v (.int .u8 42),r5,((a1.deref.drop 4).hA)] [] fun r6 o6=>NP r6<|NZ a1<|NZ a1<|dR (a1.deref.drop 3)<|NZ a1<|NZ a1<|dR (a1.deref.drop 4)<|.call 148 [.ref 0 0,((a1.deref.drop 4).hA),VS a2] [.cells [VI (((o5.hO).cs.getD 0 .any).toInt),VB (((o5.hO).cs.getD 1 .any).toBool)]] fun r7 o7=>.al ((o7.hO)=.cells (o7.hO).cs)<|.al (bn [.lk (.int .i64),.lk .bool] ((o7.hO).cs) 0 1 o7.tail)<|NP r7<|.call 175 [.v (.int .u8 42),((a1.deref.drop 3).hA),r7] [] fun r8 o8=>NP r8<|.call 175 [.v (.int .u8 43),r6,r8] [] fun r9 o9=>NP r9<|.call 147 [.ref 0 0,r9] [.cells [VI (((o7.hO).cs.getD 0 .any).toInt),VB (((o7.hO).cs.getD 1 .any).toBool)]] fun r10 o10=>.al ((o10.hO)=.cells (o10.hO).cs)<|.al (bn [.lk (.int .i64),.lk .bool] ((o10.hO).cs) 0 1 o10.tail)<|NP r10<|.done 0 [r10] [.cells [VI (((o10.hO).cs.getD 0 .any).toInt),VB (((o10.hO).cs.getD 1 .any).toBool)]]) (.test (((a1.deref.hA).toInt)==(114:Int)) (.call 146 [.ref 0 0] [.cells [VI a0_0,VB a0_1]] fun r11 o11=>.al ((o11.hO)=.cells (o11.hO).cs)<|.al (bn [.lk (.int .i64),.lk .bool] ((o11.hO).cs) 0 1 o11.tail)<|NS r11<|NZ a1<|NZ a1<|dR (a1.deref.drop 3)<|.call 149 [((a1.deref.drop 3).hA),.ptr [.v (.int .u8 110),VS r11.ai,VI 0,.v (.pointer none),.v (.pointer none)],VI 0] [] fun r12 o12=>NP r12<|.call 148 [.ref 0 0,r12,VS a2] [.cells [VI (((o11.hO).cs.getD 0 .any).toInt),VB (((o11.hO).cs.getD 1 .any).toBool)]] fun r13 o13=>.al ((o13.hO)=.cells (o13.hO).cs)<|.al (bn [.lk (.int .i64),.lk .bool] ((o13.hO).cs) 0 1 o13.tail)<|NP r13<|.call 147 [.ref 0 0,r13] [.cells [VI (((o13.hO).cs.getD 0 .any).toInt),VB (((o13.hO).cs.getD 1 .any).toBool)]] fun r14 o14=>.al ((o14.hO)=.cells (o14.hO).cs)<|.al (bn [.lk (.int .i64),.lk .bool] ((o14.hO).cs) 0 1 o14.tail)<|NP r14<|.call 150 [r14,VS r11.ai,a1] [] fun r15 o15=>NP r15<|.call 148 [.ref 0 0,r12,VS r11.ai] [.cells [VI (((o14.hO).cs.getD 0 .any).toInt),VB (((o14.hO).cs.getD 1 .any).toBool)]] fun r16 o16=>.al ((o16.hO)=.cells (o16.hO).cs)<|.al (bn [.lk (.int .i64),.lk .bool] ((o16.hO).cs) 0 1 o16.tail)<|NP r16<|.call 147 [.ref 0 0,r16] [.cells [VI (((o16.hO).cs.getD 0 .any).toInt),VB (((o16.hO).cs.getD 1 .any).toBool)]] fun r17 o17=>.al ((o17.hO)=.cells (o17.hO).cs)<|.al (bn [.lk (.int .i64),.lk .bool] ((o17.hO).cs) 0 1 o17.tail)<|NP r17<|.call 150 [r17,VS r11.ai,a1] [] fun r18 o18=>NP r18<|.call 175 [.v (.int .u8 42),r18,.ptr [.v (.int .u8 98),VS (mk []),VI 0,.v (.pointer none),.v (.pointer none)]] [] fun r19 o19=>NP r19<|.call 175 [.v (.int .u8 43),r15,r19] [] fun r20 o20=>NP r20<|.call 147 [.ref 0 0,.ptr [.v (.int .u8 114),VS (mk []),VI 0,r20,.v (.pointer none)]] [.cells [VI (((o17.hO).cs.getD 0 .any).toInt),VB (((o17.hO).cs.getD 1 .any).toBool)]] fun r21 o21=>.al ((o21.hO)=.cells (o21.hO).cs)<|.al (bn [.lk (.int .i64),.lk .bool] ((o21.hO).cs) 0 1 o21.tail)<|NP r21<|.done 0 [r21] [.cells [VI (((o21.hO).cs.getD 0 .any).toInt),VB (((o21.hO).cs.getD 1 .any).toBool)]]) (.done 0 [.ptr [.v (.int .u8 48),VS (mk []),VI 0,.v (.pointer none),.v (.pointer none)]] [.cells [VI a0_0,VB a0_1]])))))
theorem Li(a0_0:Int)(a0_1:Bool)(a1:AV)(a2:ByteArray)(ha1:LK.has .ptr a1)(h:dq 121 (Dq a0_0 a0_1 a1 a2) R):an Tryz.prog 148 [.ref 0 0,a1,VS a2] [.cells [VI a0_0,VB a0_1]] R :=
 an.ru (bQ (cN (af (au _) (af (EC _) aA))) dc) (an.up (af (au _) (af (bu ha1) (af (au _) aA))) (oF [] {mu:=[(0,.one (.obj [.lk (.int .i64),.lk .bool]))],own:=[]} Tryz.f148 h))
def DO(a0:AV)(a1:AV)(a2:Int):Tree :=
 NZ a0<|NZ a0<|.al (LK.has (.int .u8) (a0.deref.hA)/\1<=a0.deref.length)<|.test (((a0.deref.hA).toInt)==(98:Int)) (NZ a0<|NZ a0<|.al (LK.has (.int .i64) ((a0.deref.drop 2).hA)/\1<=(a0.deref.drop 2).length)<|.test ((((a0.deref.drop 2).hA).toInt)==a2) (.done 0 [a1] []) (.done 0 [a0] [])) (.test (((a0.deref.hA).toInt)==(43:Int)) (NZ a0<|NZ a0<|.al (LK.has (.int .u8) (a0.deref.hA)/\1<=a0.deref.length)<|NZ a0<|NZ a0<|dR (a0.deref.drop 3)<|.call 149 [((a0.deref.drop 3).hA),a1,VI a2] [] fun r1 o1=>NP r1<|NZ a0<|NZ a0<|dR (a0.deref.drop 4)<|.call 149 [((a0.deref.drop 4).hA),a1,VI a2] [] fun r2 o2=>NP r2<|.done 0 [.ptr [.v (.int .u8 ((a0.deref.hA).toInt)),VS (mk []),VI 0,r1,r2]] []) (.test (((a0.deref.hA).toInt)==(42:Int)) (NZ a0<|NZ a0<|.al (LK.has (.int .u8) (a0.deref.hA)/\1<=a0.deref.length)<|NZ a0<|NZ a0<|dR (a0.deref.drop 3)<|.call 149 [((a0.deref.drop 3).hA),a1,VI a2] [] fun r3 o3=>NP r3<|NZ a0<|NZ a0<|dR (a0.deref.drop 4)<|.call 149 [((a0.deref.drop 4).hA),a1,VI a2] [] fun r4 o4=>NP r4<|.done 0 [.ptr [.v (.int .u8 ((a0.deref.hA).toInt)),VS (mk []),VI 0,r3,r4]] []) (.test (((a0.deref.hA).toInt)==(114:Int)) (NZ a0<|NZ a0<|dR (a0.deref.drop 3)<|.call 149 [((a0.deref.drop 3).hA),a1,VI (IntKind.wrap .i64 (a2+1))] [] fun r5 o5=>NP r5<|.done 0 [.ptr [.v (.int .u8 114),VS (mk []),VI 0,r5,.v (.pointer none)]] []) (.done 0 [a0] []))))
theorem Ea(a0:AV)(a1:AV)(a2:Int)(ha0:LK.has .ptr a0)(ha1:LK.has .ptr a1)(h:dq 56 (DO a0 a1 a2) R):an Tryz.prog 149 [a0,a1,VI a2] [] R :=
 uQ (af (bu ha0) (af (bu ha1) (af (au _) aA))) (oQ [] Tryz.f149 h)
def D3(a0:AV)(a1:ByteArray)(a2:AV):Tree :=
 NZ a0<|NZ a0<|.al (LK.has (.int .u8) (a0.deref.hA)/\1<=a0.deref.length)<|.test (((a0.deref.hA).toInt)==(110:Int)) (NZ a0<|NZ a0<|kA (a0.deref.drop 1)<|.test (ae (((a0.deref.drop 1).hA).ai)==ae a1) (.done 0 [a2] []) (.done 0 [a0] [])) (.test (((a0.deref.hA).toInt)==(43:Int)) (NZ a0<|NZ a0<|.al (LK.has (.int .u8) (a0.deref.hA)/\1<=a0.deref.length)<|NZ a0<|NZ a0<|dR (a0.deref.drop 3)<|.call 150 [((a0.deref.drop 3).hA),VS a1,a2] [] fun r1 o1=>NP r1<|NZ a0<|NZ a0<|dR (a0.deref.drop 4)<|.call 150 [((a0.deref.drop 4).hA),VS a1,a2] [] fun r2 o2=>NP r2<|.done 0 [.ptr [.v (.int .u8 ((a0.deref.hA).toInt)),VS (mk []),VI 0,r1,r2]] []) (.test (((a0.deref.hA).toInt)==(42:Int)) (NZ a0<|NZ a0<|.al (LK.has (.int .u8) (a0.deref.hA)/\1<=a0.deref.length)<|NZ a0<|NZ a0<|dR (a0.deref.drop 3)<|.call 150 [((a0.deref.drop 3).hA),VS a1,a2] [] fun r3 o3=>NP r3<|NZ a0<|NZ a0<|dR (a0.deref.drop 4)<|.call 150 [((a0.deref.drop 4).hA),VS a1,a2] [] fun r4 o4=>NP r4<|.done 0 [.ptr [.v (.int .u8 ((a0.deref.hA).toInt)),VS (mk []),VI 0,r3,r4]] []) (.test (((a0.deref.hA).toInt)==(114:Int)) (NZ a0<|NZ a0<|dR (a0.deref.drop 3)<|.call 150 [((a0.deref.drop 3).hA),VS a1,a2] [] fun r5 o5=>NP r5<|.done 0 [.ptr [.v (.int .u8 114),VS (mk []),VI 0,r5,.v (.pointer none)]] []) (.done 0 [a0] []))))
theorem vZ(a0:AV)(a1:ByteArray)(a2:AV)(ha0:LK.has .ptr a0)(ha2:LK.has .ptr a2)(h:dq 55 (D3 a0 a1 a2) R):an Tryz.prog 150 [a0,VS a1,a2] [] R :=
 uQ (af (bu ha0) (af (au _) (af (bu ha2) aA))) (oQ [] Tryz.f150 h)
def MX(a0:AV):Tree :=
 .call 158 [a0] [] fun r1 o1=>NL r1<|.call 176 [a0,.v (.slice none 0 0),.gC 176 [none,some 0,some 1],.ref 0 0,.ref 1 0] [.cells [r1],.cells [VI 0]] fun r2 o2=>.al ((o2.hO)=.cells (o2.hO).cs)<|.al (bn [.lk .sl] ((o2.hO).cs) 0 1 o2.tail)<|.al ((o2.tail.hO)=.cells (o2.tail.hO).cs)<|.al (bn [.lk (.int .i64)] ((o2.tail.hO).cs) 0 2 o2.tail.tail)<|NS r2<|.done 0 [VS r2.ai] []
theorem Q3(a0:AV)(ha0:LK.has .ptr a0)(h:dq 12 (MX a0) R):an Tryz.prog 151 [a0] [] R :=
 uQ (af (bu ha0) aA) (oQ [] Tryz.f151 h)
def Ge:LI:={hd:={bD:=[(0,.k .str),(1,.k (.int .i64)),(9,.k (.int .i64))],refs:=[(6,6),(8,8)],cm:=[(6,[.lk .str,.lk .sl]),(8,[.lk .str,.lk .sl])]},xs:={bD:=[(0,.k .str),(1,.k (.int .i64)),(9,.k (.int .i64))],refs:=[(6,6),(8,8)],cm:=[(6,[.lk .str,.lk .sl]),(8,[.lk .str,.lk .sl])]},rt:={},ex:=0}
def LA:Code:=cz (cu Tryz.f152) 6
def EA:LI:={hd:={bD:=[(0,.k .str),(1,.k (.int .i64)),(2,.k (.int .i64))],refs:=[(6,6),(8,8)],cm:=[(6,[.lk .str,.lk .sl]),(8,[.lk .str,.vec 2])]},xs:={},rt:={bD:=[(7,.k (.int .i64))],refs:=[(6,6)],cm:=[(6,[.lk .str,.vec 2])]},ex:=999}
def LX:Code:=cz (cu Tryz.f152) 12
def FT:List (Nat×LI):=[(6,Ge),(12,EA)]
def Gi(a0:ByteArray)(a1:Int)(a2:Int):Tree :=
 .test (decide (a2>(300:Int))) (.done 0 [.cI [.agg [VS (mk []),.v (.slice none 0 0)],VI (-1)]] []) (.test (decide (a1≥(ag a0:Int))) (.done 0 [.cI [.agg [VS (mk []),.v (.slice none 0 0)],VI (-1)]] []) (.al (0<=a1/\a1<ag a0)<|.test ((bt a0 a1) != (40:Int)) (.loop LA Ge [VS a0,VI a1,VI a1] [.cells [VS (mk []),.v (.slice none 0 0)],.cells [VS (mk []),.v (.slice none 0 0)]] (fun y2 q2=>NS (y2.hA)<|NI (y2.tail.hA)<|NI (y2.tail.tail.hA)<|.al ((q2.hO)=.cells (q2.hO).cs)<|.al (ac [.lk .str,.lk .sl] ((q2.hO).cs) 0 q2.tail)<|.al (((q2.tail.drop 0).hO)=.cells ((q2.tail.drop 0).hO).cs)<|.al (ac [.lk .str,.lk .sl] (((q2.tail.drop 0).hO).cs) 0 ((q2.tail.drop 0).tail))<|.al (0<=((y2.tail.tail.hA).toInt)/\((y2.tail.tail.hA).toInt)<=((y2.tail.hA).toInt)/\((y2.tail.hA).toInt)<=(ag ((y2.hA).ai):Int))<|.test (ae (ci ((y2.hA).ai) (bF ((y2.tail.tail.hA).toInt)) (bF ((y2.tail.hA).toInt)))==ae (mk [])) (.done 0 [.cI [.agg [VS (ci ((y2.hA).ai) (bF ((y2.tail.tail.hA).toInt)) (bF ((y2.tail.hA).toInt))),((q2.tail.hO).cs.getD 1 .any)],VI (-1)]] []) (.done 0 [.cI [.agg [VS (ci ((y2.hA).ai) (bF ((y2.tail.tail.hA).toInt)) (bF ((y2.tail.hA).toInt))),((q2.tail.hO).cs.getD 1 .any)],VI ((y2.tail.hA).toInt)]] [])) (fun y2 q2=>.fail)) (.loop LX EA [VS a0,VI a1,VI a2] [.cells [VS (mk []),.v (.slice none 0 0)],.cells [VS (mk []),.any],.vec 2 []] (fun y5 q5=>.fail) (fun y5 q5=>NI (y5.hA)<|.al ((q5.hO)=.cells (q5.hO).cs)<|.al (ac [.lk .str,.vec 2] ((q5.hO).cs) 0 q5.tail)<|.done 0 [.cI [.agg [VS (((q5.hO).cs.getD 0 .any).ai),.sl ((q5.tail.hO).es)],VI ((y5.hA).toInt)]] []))))
theorem L0(a0:ByteArray)(a1:Int)(a2:Int)(h:dq 87 (Gi a0 a1 a2) R):an Tryz.prog 152 [VS a0,VI a1,VI a2] [] R :=
 uQ (af (au _) (af (au _) (af (au _) aA))) (oQ FT Tryz.f152 h)
def Gw(x0:ByteArray)(x1:Int)(x9:Int)(o6_0:ByteArray)(o6_1:AV)(o8_0:ByteArray)(o8_1:AV):Tree :=
 NS (VS x0)<|NI (VI x1)<|NI (VI x9)<|.al (Ob.cells [VS o6_0,o6_1]=.cells [VS o6_0,o6_1])<|.al (ac [.lk .str,.lk .sl] [VS o6_0,o6_1] 0 [.cells [VS o8_0,o8_1]])<|.al (Ob.cells [VS o8_0,o8_1]=.cells [VS o8_0,o8_1])<|.al (ac [.lk .str,.lk .sl] [VS o8_0,o8_1] 0 [])<|.test (decide (x1<(ag x0:Int))) (.al (0<=x1/\x1<ag x0)<|.call 178 [.v (.int .u8 (bt x0 x1))] [] fun r1 o1=>NB r1<|.test r1.toBool (.done 0 [VS x0,VI (IntKind.wrap .i64 (x1+1)),VI x9] [.cells [VS o6_0,o6_1],.cells [VS o8_0,o8_1]]) (.done 1 [VS x0,VI x1,VI x9] [.cells [VS o6_0,o6_1],.cells [VS o8_0,o8_1]])) (.done 1 [VS x0,VI x1,VI x9] [.cells [VS o6_0,o6_1],.cells [VS o8_0,o8_1]])
abbrev Hs:=ct Tryz.prog 87 LA Ge
theorem M5(x0:ByteArray)(x1:Int)(x9:Int)(o6_0:ByteArray)(o6_1:AV)(o8_0:ByteArray)(o8_1:AV)(h:jw 87 (Gw x0 x1 x9 o6_0 o6_1 o8_0 o8_1) Hs U):Hs [VS x0,VI x1,VI x9] [.cells [VS o6_0,o6_1],.cells [VS o8_0,o8_1]] U :=
 gQ FT h
def Nz(x0:ByteArray)(x1:Int)(x2:Int)(o6_0:ByteArray)(o6_1:AV)(o8_0:ByteArray)(o8_1:List (List AV)):Tree :=
 NS (VS x0)<|NI (VI x1)<|NI (VI x2)<|.al (Ob.cells [VS o6_0,o6_1]=.cells [VS o6_0,o6_1])<|.al (ac [.lk .str,.lk .sl] [VS o6_0,o6_1] 0 [.cells [VS o8_0,.any],.vec 2 o8_1])<|.al (Ob.cells [VS o8_0,.any]=.cells [VS o8_0,.any])<|.al (ac [.lk .str,.vec 2] [VS o8_0,.any] 0 [.vec 2 o8_1])<|.call 152 [VS x0,VI (IntKind.wrap .i64 (x1+1)),VI (IntKind.wrap .i64 (x2+1))] [] fun r1 o1=>NT r1<|.al ((r1.comp 0)=.agg (r1.comp 0).cs/\(r1.comp 0).cs.length=2/\bB [.str,.sl] ((r1.comp 0).cs) 0)<|NI (r1.comp 1)<|.test (decide (((r1.comp 1).toInt)<(0:Int))) (.done 2 [VI (-1)] [.cells [VS o8_0,.any],.vec 2 o8_1]) (.test (decide (((r1.comp 1).toInt)≥(ag x0:Int))) (.done 2 [VI (-1)] [.cells [VS o8_0,.any],.vec 2 o8_1]) (.al (cA 2 [[VS (((r1.comp 0).cs.getD 0 .any).ai),((r1.comp 0).cs.getD 1 .any)]]/\((o8_1.length)+([[VS (((r1.comp 0).cs.getD 0 .any).ai),((r1.comp 0).cs.getD 1 .any)]]:List (List AV)).length)*40<=140737488355328)<|.al (0<=((r1.comp 1).toInt)/\((r1.comp 1).toInt)<ag x0)<|.test ((bt x0 ((r1.comp 1).toInt))==(41:Int)) (.done 2 [VI (IntKind.wrap .i64 (((r1.comp 1).toInt)+1))] [.cells [VS o8_0,.any],.vec 2 (o8_1++([[VS (((r1.comp 0).cs.getD 0 .any).ai),((r1.comp 0).cs.getD 1 .any)]]:List (List AV)))]) (.al (0<=((r1.comp 1).toInt)/\((r1.comp 1).toInt)<ag x0)<|.test ((bt x0 ((r1.comp 1).toInt)) != (32:Int)) (.done 2 [VI (-1)] [.cells [VS o8_0,.any],.vec 2 (o8_1++([[VS (((r1.comp 0).cs.getD 0 .any).ai),((r1.comp 0).cs.getD 1 .any)]]:List (List AV)))]) (.done 0 [VS x0,VI ((r1.comp 1).toInt),VI x2] [.cells [VS o6_0,o6_1],.cells [VS o8_0,.any],.vec 2 (o8_1++([[VS (((r1.comp 0).cs.getD 0 .any).ai),((r1.comp 0).cs.getD 1 .any)]]:List (List AV)))]))))
abbrev E5:=ct Tryz.prog 87 LX EA
theorem QS(x0:ByteArray)(x1:Int)(x2:Int)(o6_0:ByteArray)(o6_1:AV)(o8_0:ByteArray)(o8_1:List (List AV))(h:jw 87 (Nz x0 x1 x2 o6_0 o6_1 o8_0 o8_1) E5 U):E5 [VS x0,VI x1,VI x2] [.cells [VS o6_0,o6_1],.cells [VS o8_0,.any],.vec 2 o8_1] U :=
 gQ FT h
def zZ:LI:={hd:={bD:=[(0,.k .str),(3,.k (.int .i64)),(4,.k (.int .i64))]},xs:={bD:=[(3,.k (.int .i64))]},rt:={bD:=[(2,.k (.int .i64))]},ex:=0}
def CQ:Code:=cz (cu Tryz.f153) 5
def I5:List (Nat×LI):=[(5,zZ)]
def K0(a0:ByteArray):Tree :=
 .call 56 [VI (ag a0:Int),VI 2,VI 3] [] fun r1 o1=>NB r1<|.test (!r1.toBool) (.done 0 [VI (-1)] []) (.al (0<=(0:Int)/\(0:Int)<ag a0)<|.test ((bt a0 0) != (101:Int)) (.done 0 [VI (-1)] []) (.test ((ag a0:Int)==(3:Int)) (.al (0<=(1:Int)/\(1:Int)<ag a0)<|.test ((bt a0 1)==(48:Int)) (.done 0 [VI (-1)] []) (.loop CQ zZ [VS a0,VI 0,VI 1] [] (fun y2 q2=>NI (y2.hA)<|.done 0 [VI ((y2.hA).toInt)] []) (fun y2 q2=>NI (y2.hA)<|.done 0 [VI ((y2.hA).toInt)] []))) (.loop CQ zZ [VS a0,VI 0,VI 1] [] (fun y3 q3=>NI (y3.hA)<|.done 0 [VI ((y3.hA).toInt)] []) (fun y3 q3=>NI (y3.hA)<|.done 0 [VI ((y3.hA).toInt)] []))))
theorem Qt(a0:ByteArray)(h:dq 49 (K0 a0) R):an Tryz.prog 153 [VS a0] [] R :=
 uQ (af (au _) aA) (oQ I5 Tryz.f153 h)
def Fk(x0:ByteArray)(x3:Int)(x4:Int):Tree :=
 NS (VS x0)<|NI (VI x3)<|NI (VI x4)<|.test (decide (x4<(ag x0:Int))) (.al (0<=x4/\x4<ag x0)<|.test (decide ((bt x0 x4)<(48:Int))) (.done 2 [VI (-1)] []) (.al (0<=x4/\x4<ag x0)<|.test (decide ((bt x0 x4)>(57:Int))) (.done 2 [VI (-1)] []) (.al (0<=x4/\x4<ag x0)<|.done 0 [VS x0,VI (IntKind.wrap .i64 ((IntKind.wrap .i64 (10*x3))+(IntKind.wrap .i64 (IntKind.wrap .u8 ((bt x0 x4)-48))))),VI (IntKind.wrap .i64 (x4+1))] []))) (.done 1 [VI x3] [])
abbrev GF:=ct Tryz.prog 49 CQ zZ
theorem Jv(x0:ByteArray)(x3:Int)(x4:Int)(h:jw 49 (Fk x0 x3 x4) GF U):GF [VS x0,VI x3,VI x4] [] U :=
 gQ I5 h
def Gy:LI:={hd:={bD:=[(1,.k .sl),(6,.k (.int .i64))],refs:=[(2,2),(4,4)],cm:=[(2,[.lk .str,.lk .sl]),(4,[.lk .str,.lk .sl])]},xs:={bD:=[(1,.k .sl)],refs:=[(2,2),(4,4)],cm:=[(2,[.lk .str,.lk .sl]),(4,[.lk .str,.lk .sl])]},rt:={bD:=[(5,.k .sl)],refs:=[(4,4)],cm:=[(4,[.lk .str,.lk .sl])]},ex:=0}
def IX:Code:=cz (cu Tryz.f154) 2
def LQ:List (Nat×LI):=[(2,Gy)]
def J0(a0_0:ByteArray)(a0_1:AV)(a1:AV):Tree :=
 NL a1<|.loop IX Gy [a1,VI (IntKind.wrap .i64 ((a1.aN.length:Int)-1))] [.cells [VS a0_0,a0_1],.cells [VS (mk []),.v (.slice none 0 0)]] (fun y1 q1=>NL (y1.hA)<|.al ((q1.hO)=.cells (q1.hO).cs)<|.al (ac [.lk .str,.lk .sl] ((q1.hO).cs) 0 q1.tail)<|.al (((q1.tail.drop 0).hO)=.cells ((q1.tail.drop 0).hO).cs)<|.al (ac [.lk .str,.lk .sl] (((q1.tail.drop 0).hO).cs) 0 ((q1.tail.drop 0).tail))<|.done 0 [.cI [.agg [VS (((q1.hO).cs.getD 0 .any).ai),((q1.hO).cs.getD 1 .any)],(y1.hA)]] []) (fun y1 q1=>NL (y1.hA)<|.al ((q1.hO)=.cells (q1.hO).cs)<|.al (ac [.lk .str,.lk .sl] ((q1.hO).cs) 0 q1.tail)<|.done 0 [.cI [.agg [VS (((q1.hO).cs.getD 0 .any).ai),((q1.hO).cs.getD 1 .any)],(y1.hA)]] [])
theorem Qa(a0_0:ByteArray)(a0_1:AV)(a1:AV)(ha0_1:LK.has .sl a0_1)(ha1:LK.has .sl a1)(h:dq 34 (J0 a0_0 a0_1 a1) R):an Tryz.prog 154 [.agg [VS a0_0,a0_1],a1] [] R :=
 uQ (af (bT (af (au _) (af (bY ha0_1) aA))) (af (bY ha1) aA)) (oQ LQ Tryz.f154 h)
def Gx(x1:AV)(x6:Int)(o2_0:ByteArray)(o2_1:AV)(o4_0:ByteArray)(o4_1:AV):Tree :=
 NL x1<|NI (VI x6)<|.al (Ob.cells [VS o2_0,o2_1]=.cells [VS o2_0,o2_1])<|.al (ac [.lk .str,.lk .sl] [VS o2_0,o2_1] 0 [.cells [VS o4_0,o4_1]])<|.al (Ob.cells [VS o4_0,o4_1]=.cells [VS o4_0,o4_1])<|.al (ac [.lk .str,.lk .sl] [VS o4_0,o4_1] 0 [])<|.test (decide (x6≥(0:Int))) (NG x1 x6 4<|kA (x1.ix x6)<|.test (ae (((x1.ix x6).hA).ai)==ae o2_0) (NG x1 x6 4<|NE ((x1.ix x6).drop 1)<|NG x1 x6 4<|nF ((x1.ix x6).drop 3)<|.done 2 [(((x1.ix x6).drop 3).hA)] [.cells [VS ((((x1.ix x6).drop 1).getD 0 .any).ai),(((x1.ix x6).drop 1).getD 1 .any)]]) (.done 0 [x1,VI (IntKind.wrap .i64 (x6-1))] [.cells [VS o2_0,o2_1],.cells [VS o4_0,o4_1]])) (.done 1 [x1] [.cells [VS o2_0,o2_1],.cells [VS o4_0,o4_1]])
abbrev Gc:=ct Tryz.prog 34 IX Gy
theorem Ms(x1:AV)(x6:Int)(o2_0:ByteArray)(o2_1:AV)(o4_0:ByteArray)(o4_1:AV)(h:jw 34 (Gx x1 x6 o2_0 o2_1 o4_0 o4_1) Gc U):Gc [x1,VI x6] [.cells [VS o2_0,o2_1],.cells [VS o4_0,o4_1]] U :=
 gQ LQ h
def JL(a0:ByteArray):Tree :=
 .call 170 [VS a0,.v (.int .u8 120),.v (.int .u8 122)] [] fun r1 o1=>NB r1<|.done 0 [VB r1.toBool] []
theorem Qh(a0:ByteArray)(h:dq 5 (JL a0) R):an Tryz.prog 155 [VS a0] [] R :=
 uQ (af (au _) aA) (oQ [] Tryz.f155 h)
def L6(a0_0:ByteArray)(a0_1:AV)(a1:AV):Tree :=
 NG a0_1 2 2<|NE (a0_1.ix (2:Int))<|.al (LK.has .sl a1/\cA 4 a1.aN/\((([]:List (List AV)).length)+a1.aN.length)*80<=140737488355328)<|NG a0_1 1 2<|kA (a0_1.ix (1:Int))<|.al (cA 4 [[VS (((a0_1.ix (1:Int)).hA).ai),VS a0_0,a0_1,a1]]/\(((([]:List (List AV))++a1.aN).length)+([[VS (((a0_1.ix (1:Int)).hA).ai),VS a0_0,a0_1,a1]]:List (List AV)).length)*80<=140737488355328)<|.done 0 [.cI [.agg [VS (((a0_1.ix (2:Int)).getD 0 .any).ai),((a0_1.ix (2:Int)).getD 1 .any)],.sl ((([]:List (List AV))++a1.aN)++([[VS (((a0_1.ix (1:Int)).hA).ai),VS a0_0,a0_1,a1]]:List (List AV)))]] []
theorem Q2(a0_0:ByteArray)(a0_1:AV)(a1:AV)(ha0_1:LK.has .sl a0_1)(ha1:LK.has .sl a1)(h:dq 23 (L6 a0_0 a0_1 a1) R):an Tryz.prog 156 [.agg [VS a0_0,a0_1],a1] [] R :=
 uQ (af (bT (af (au _) (af (bY ha0_1) aA))) (af (bY ha1) aA)) (oQ [] Tryz.f156 h)
def I4(a0:AV):Tree :=
 .call 179 [a0,.v (.func (.func 159) #[] #[])] [] fun r1 o1=>NI r1<|.done 0 [VB (decide (r1.toInt≥(0:Int)))] []
theorem PZ(a0:AV)(ha0:LK.has .sl a0)(h:dq 9 (I4 a0) R):an Tryz.prog 157 [a0,.v (.func (.func 159) #[] #[])] [] R :=
 uQ (af (bY ha0) (af (au _) aA)) (oQ [] Tryz.f157 h)
def J1(a0:AV):Tree :=
 .call 180 [a0,.fn 181 [.ref 0 0]] [.cells [.vec 1],.vec 1 []] fun r1 o1=>.al ((o1.hO)=.cells (o1.hO).cs)<|.al (bn [.vec 1] ((o1.hO).cs) 0 1 o1.tail)<|.done 0 [.sl ((o1.tail.hO).es)] []
theorem QG(a0:AV)(ha0:LK.has .ptr a0)(h:dq 9 (J1 a0) R):an Tryz.prog 158 [a0] [] R :=
 uQ (af (bu ha0) aA) (oQ [] Tryz.f158 h)
def IJ(a0:ByteArray):Tree :=
 .call 182 [VS a0,VS (mk [116])] [] fun r1 o1=>NB r1<|.done 0 [VB r1.toBool] []
theorem Qz(a0:ByteArray)(h:dq 5 (IJ a0) R):an Tryz.prog 159 [VS a0] [] R :=
 uQ (af (au _) aA) (oQ [] Tryz.f159 h)
def Gg:LI:={hd:={bD:=[(0,.k .str),(1,.k (.int .i64)),(6,.k (.int .i64))]},xs:={bD:=[(0,.k .str),(1,.k (.int .i64)),(6,.k (.int .i64))]},rt:={},ex:=0}
def MB:Code:=cz (cu Tryz.f160) 2
def FQ:LI:={hd:={bD:=[(0,.k .str),(1,.k (.int .i64)),(7,.k .str)],refs:=[(8,48)],cm:=[(48,[.lk .str,.vec 1])]},xs:={},rt:={bD:=[(4,.k .ptr),(5,.k .str)]},ex:=999}
def LP:Code:=cz (cu Tryz.f160) 10
def GJ:List (Nat×LI):=[(2,Gg),(10,FQ)]
def G6(a0:ByteArray)(a1:Int):Tree :=
 .loop MB Gg [VS a0,VI a1,VI 0] [] (fun y2 q2=>NS (y2.hA)<|NI (y2.tail.hA)<|NI (y2.tail.tail.hA)<|.test (decide (((y2.tail.tail.hA).toInt)>(0:Int))) (.al (0<=(0:Int)/\(0:Int)<=((y2.tail.tail.hA).toInt)/\((y2.tail.tail.hA).toInt)<=(ag ((y2.hA).ai):Int))<|.al (0<=((y2.tail.tail.hA).toInt)/\((y2.tail.tail.hA).toInt)<=(ag ((y2.hA).ai):Int)/\(ag ((y2.hA).ai):Int)<=(ag ((y2.hA).ai):Int))<|.done 0 [.cI [.ptr [VS (ci ((y2.hA).ai) (bF 0) (bF ((y2.tail.tail.hA).toInt))),.v (.slice none 0 0)],VS (ci ((y2.hA).ai) (bF ((y2.tail.tail.hA).toInt)) (bF (ag ((y2.hA).ai):Int)))]] []) (.test (ae ((y2.hA).ai)==ae (mk [])) (.done 0 [.cI [.v (.pointer none),VS ((y2.hA).ai)]] []) (.al (0<=(0:Int)/\(0:Int)<ag ((y2.hA).ai))<|.test ((bt ((y2.hA).ai) 0) != (40:Int)) (.done 0 [.cI [.v (.pointer none),VS ((y2.hA).ai)]] []) (.test (((y2.tail.hA).toInt)==(300:Int)) (.done 0 [.cI [.v (.pointer none),VS ((y2.hA).ai)]] []) (.al (0<=(1:Int)/\(1:Int)<=(ag ((y2.hA).ai):Int)/\(ag ((y2.hA).ai):Int)<=(ag ((y2.hA).ai):Int))<|.loop LP FQ [VS ((y2.hA).ai),VI ((y2.tail.hA).toInt),VS (ci ((y2.hA).ai) (bF 1) (bF (ag ((y2.hA).ai):Int)))] [.cells [VS (mk []),.any],.vec 1 []] (fun y5 q5=>.fail) (fun y5 q5=>NP (y5.hA)<|NS (y5.tail.hA)<|.done 0 [.cI [(y5.hA),VS ((y5.tail.hA).ai)]] [])))))) (fun y2 q2=>.done 0 [.cI [.any,.any]] [])
theorem LJ(a0:ByteArray)(a1:Int)(h:dq 84 (G6 a0 a1) R):an Tryz.prog 160 [VS a0,VI a1] [] R :=
 uQ (af (au _) (af (au _) aA)) (oQ GJ Tryz.f160 h)
def Gt(x0:ByteArray)(x1:Int)(x6:Int):Tree :=
 NS (VS x0)<|NI (VI x1)<|NI (VI x6)<|.test (decide (x6<(ag x0:Int))) (.al (0<=x6/\x6<ag x0)<|.call 183 [.v (.int .u8 (bt x0 x6))] [] fun r1 o1=>NB r1<|.test r1.toBool (.done 0 [VS x0,VI x1,VI (IntKind.wrap .i64 (x6+1))] []) (.done 1 [VS x0,VI x1,VI x6] [])) (.done 1 [VS x0,VI x1,VI x6] [])
abbrev Fs:=ct Tryz.prog 84 MB Gg
theorem Lr(x0:ByteArray)(x1:Int)(x6:Int)(h:jw 84 (Gt x0 x1 x6) Fs U):Fs [VS x0,VI x1,VI x6] [] U :=
 gQ GJ h
def KI(x0:ByteArray)(x1:Int)(x7:ByteArray)(o48_0:ByteArray)(o48_1:List (List AV)):Tree :=
 NS (VS x0)<|NI (VI x1)<|NS (VS x7)<|.al (Ob.cells [VS o48_0,.any]=.cells [VS o48_0,.any])<|.al (ac [.lk .str,.vec 1] [VS o48_0,.any] 0 [.vec 1 o48_1])<|.call 160 [VS x7,VI (IntKind.wrap .i64 (x1+1))] [] fun r1 o1=>NT r1<|NP (r1.comp 0)<|NS (r1.comp 1)<|NP (r1.comp 0)<|.test ((r1.comp 0).isNil) (.done 2 [.v (.pointer none),VS x0] []) (.test (ae ((r1.comp 1).ai)==ae (mk [])) (.done 2 [.v (.pointer none),VS x0] []) (.al (cA 1 [[(r1.comp 0)]]/\((o48_1.length)+([[(r1.comp 0)]]:List (List AV)).length)*8<=140737488355328)<|.al (0<=(1:Int)/\(1:Int)<=(ag ((r1.comp 1).ai):Int)/\(ag ((r1.comp 1).ai):Int)<=(ag ((r1.comp 1).ai):Int))<|.al (0<=(0:Int)/\(0:Int)<ag ((r1.comp 1).ai))<|.test ((bt ((r1.comp 1).ai) 0)==(41:Int)) (.done 2 [.ptr [VS o48_0,.sl (o48_1++([[(r1.comp 0)]]:List (List AV)))],VS (ci ((r1.comp 1).ai) (bF 1) (bF (ag ((r1.comp 1).ai):Int)))] []) (.al (0<=(0:Int)/\(0:Int)<ag ((r1.comp 1).ai))<|.test ((bt ((r1.comp 1).ai) 0) != (32:Int)) (.done 2 [.v (.pointer none),VS x0] []) (.done 0 [VS x0,VI x1,VS (ci ((r1.comp 1).ai) (bF 1) (bF (ag ((r1.comp 1).ai):Int)))] [.cells [VS o48_0,.any],.vec 1 (o48_1++([[(r1.comp 0)]]:List (List AV)))]))))
abbrev HC:=ct Tryz.prog 84 LP FQ
theorem PJ(x0:ByteArray)(x1:Int)(x7:ByteArray)(o48_0:ByteArray)(o48_1:List (List AV))(h:jw 84 (KI x0 x1 x7 o48_0 o48_1) HC U):HC [VS x0,VI x1,VS x7] [.cells [VS o48_0,.any],.vec 1 o48_1] U :=
 gQ GJ h
def Na(a0:ByteArray):Tree :=
 .test (decide ((ag a0:Int)<(2:Int))) (.done 0 [VB false] []) (.test (decide ((ag a0:Int)>(3:Int))) (.done 0 [VB false] []) (.al (0<=(0:Int)/\(0:Int)<ag a0)<|.test ((bt a0 0) != (101:Int)) (.done 0 [VB false] []) (.al (0<=(1:Int)/\(1:Int)<=(ag a0:Int)/\(ag a0:Int)<=(ag a0:Int))<|.call 184 [VS (ci a0 (bF 1) (bF (ag a0:Int))),VS (mk [48,49,50,51,52,53,54,55,56,57])] [] fun r1 o1=>NS r1<|.test (!(ae r1.ai==ae (mk []))) (.done 0 [VB false] []) (.test ((ag a0:Int)==(2:Int)) (.done 0 [VB true] []) (.al (0<=(1:Int)/\(1:Int)<ag a0)<|.done 0 [VB ((bt a0 1) != (48:Int))] [])))))
theorem Pa(a0:ByteArray)(h:dq 30 (Na a0) R):an Tryz.prog 161 [VS a0] [] R :=
 uQ (af (au _) aA) (oQ [] Tryz.f161 h)
def Ar(a0:AV)(a1:ByteArray)(a2:Int):Tree :=
 NZ a0<|NZ a0<|nF (a0.deref.drop 1)<|NL ((a0.deref.drop 1).hA)<|.test (((((a0.deref.drop 1).hA).aN).length:Int)==a2) (NZ a0<|NZ a0<|nF (a0.deref.drop 1)<|NG ((a0.deref.drop 1).hA) 0 1<|dR (((a0.deref.drop 1).hA).ix (0:Int))<|NZ ((((a0.deref.drop 1).hA).ix (0:Int)).hA)<|NZ ((((a0.deref.drop 1).hA).ix (0:Int)).hA)<|.al (LK.has .str (((((a0.deref.drop 1).hA).ix (0:Int)).hA).deref.hA)/\1<=(((((a0.deref.drop 1).hA).ix (0:Int)).hA).deref).length)<|.done 0 [VB (ae ((((((a0.deref.drop 1).hA).ix (0:Int)).hA).deref.hA).ai)==ae a1)] []) (.done 0 [VB false] [])
theorem MS(a0:AV)(a1:ByteArray)(a2:Int)(ha0:LK.has .ptr a0)(h:dq 27 (Ar a0 a1 a2) R):an Tryz.prog 162 [a0,VS a1,VI a2] [] R :=
 uQ (af (bu ha0) (af (au _) (af (au _) aA))) (oQ [] Tryz.f162 h)
def wP(a0_0:ByteArray)(a0_1:AV):Tree :=
 .test (!(ae a0_0==ae (mk []))) (.test (ae a0_0==ae (mk [48])) (.done 0 [VB true] []) (.test (ae a0_0==ae (mk [49])) (.done 0 [VB true] []) (.call 155 [VS a0_0] [] fun r1 o1=>NB r1<|.test r1.toBool (.done 0 [VB true] []) (.call 138 [VS a0_0] [] fun r2 o2=>NB r2<|.done 0 [VB r2.toBool] [])))) (NL a0_1<|.test ((a0_1.aN.length:Int) != (3:Int)) (.done 0 [VB false] []) (.call 121 [.agg [VS a0_0,a0_1]] [] fun r3 o3=>NS r3<|.test (ae r3.ai==ae (mk [43])) (NG a0_1 1 2<|NE (a0_1.ix (1:Int))<|.call 165 [.agg [VS (((a0_1.ix (1:Int)).getD 0 .any).ai),((a0_1.ix (1:Int)).getD 1 .any)]] [] fun r4 o4=>NB r4<|.test r4.toBool (NG a0_1 2 2<|NE (a0_1.ix (2:Int))<|.call 165 [.agg [VS (((a0_1.ix (2:Int)).getD 0 .any).ai),((a0_1.ix (2:Int)).getD 1 .any)]] [] fun r5 o5=>NB r5<|.done 0 [VB r5.toBool] []) (.done 0 [VB false] [])) (.test (ae r3.ai==ae (mk [42])) (NG a0_1 1 2<|NE (a0_1.ix (1:Int))<|.call 165 [.agg [VS (((a0_1.ix (1:Int)).getD 0 .any).ai),((a0_1.ix (1:Int)).getD 1 .any)]] [] fun r6 o6=>NB r6<|.test r6.toBool (NG a0_1 2 2<|NE (a0_1.ix (2:Int))<|.call 165 [.agg [VS (((a0_1.ix (2:Int)).getD 0 .any).ai),((a0_1.ix (2:Int)).getD 1 .any)]] [] fun r7 o7=>NB r7<|.done 0 [VB r7.toBool] []) (.done 0 [VB false] [])) (.test (ae r3.ai==ae (mk [114,101,99])) (NG a0_1 1 2<|kA (a0_1.ix (1:Int))<|.call 138 [VS (((a0_1.ix (1:Int)).hA).ai)] [] fun r8 o8=>NB r8<|.test r8.toBool (NG a0_1 2 2<|NE (a0_1.ix (2:Int))<|.call 165 [.agg [VS (((a0_1.ix (2:Int)).getD 0 .any).ai),((a0_1.ix (2:Int)).getD 1 .any)]] [] fun r9 o9=>NB r9<|.done 0 [VB r9.toBool] []) (.done 0 [VB false] [])) (.done 0 [VB false] [])))))
theorem Mn(a0_0:ByteArray)(a0_1:AV)(ha0_1:LK.has .sl a0_1)(h:dq 60 (wP a0_0 a0_1) R):an Tryz.prog 165 [.agg [VS a0_0,a0_1]] [] R :=
 uQ (af (bT (af (au _) (af (bY ha0_1) aA))) aA) (oQ [] Tryz.f165 h)
def Aq(a0_0:ByteArray)(a0_1:AV)(a1:ByteArray):Tree :=
 .test (!(ae a0_0==ae (mk []))) (.test (ae a0_0==ae a1) (.done 0 [.cI [.agg [VS (mk [49]),.v (.slice none 0 0)],VB true]] []) (.done 0 [.cI [.agg [VS (mk [48]),.v (.slice none 0 0)],VB true]] [])) (.call 121 [.agg [VS a0_0,a0_1]] [] fun r1 o1=>NS r1<|.test (ae r1.ai==ae (mk [114,101,99])) (.call 190 [.agg [VS a0_0,a0_1],VS a1] [] fun r2 o2=>NT r2<|.al ((r2.comp 0)=.agg (r2.comp 0).cs/\(r2.comp 0).cs.length=2/\bB [.str,.sl] ((r2.comp 0).cs) 0)<|NB (r2.comp 1)<|.done 0 [.cI [.agg [VS (((r2.comp 0).cs.getD 0 .any).ai),((r2.comp 0).cs.getD 1 .any)],VB ((r2.comp 1).toBool)]] []) (NG a0_1 1 2<|NE (a0_1.ix (1:Int))<|.call 166 [.agg [VS (((a0_1.ix (1:Int)).getD 0 .any).ai),((a0_1.ix (1:Int)).getD 1 .any)],VS a1] [] fun r3 o3=>NT r3<|.al ((r3.comp 0)=.agg (r3.comp 0).cs/\(r3.comp 0).cs.length=2/\bB [.str,.sl] ((r3.comp 0).cs) 0)<|NB (r3.comp 1)<|NG a0_1 2 2<|NE (a0_1.ix (2:Int))<|.call 166 [.agg [VS (((a0_1.ix (2:Int)).getD 0 .any).ai),((a0_1.ix (2:Int)).getD 1 .any)],VS a1] [] fun r4 o4=>NT r4<|.al ((r4.comp 0)=.agg (r4.comp 0).cs/\(r4.comp 0).cs.length=2/\bB [.str,.sl] ((r4.comp 0).cs) 0)<|NB (r4.comp 1)<|.call 98 [VS (mk [43]),.sl [[VS (((r3.comp 0).cs.getD 0 .any).ai),((r3.comp 0).cs.getD 1 .any)],[VS (((r4.comp 0).cs.getD 0 .any).ai),((r4.comp 0).cs.getD 1 .any)]]] [] fun r5 o5=>NA r5<|.call 121 [.agg [VS a0_0,a0_1]] [] fun r6 o6=>NS r6<|.test (ae r6.ai==ae (mk [42])) (NG a0_1 2 2<|NE (a0_1.ix (2:Int))<|.call 98 [VS (mk [42]),.sl [[VS (((r3.comp 0).cs.getD 0 .any).ai),((r3.comp 0).cs.getD 1 .any)],[VS (((a0_1.ix (2:Int)).getD 0 .any).ai),((a0_1.ix (2:Int)).getD 1 .any)]]] [] fun r7 o7=>NA r7<|NG a0_1 1 2<|NE (a0_1.ix (1:Int))<|.call 98 [VS (mk [42]),.sl [[VS (((a0_1.ix (1:Int)).getD 0 .any).ai),((a0_1.ix (1:Int)).getD 1 .any)],[VS (((r4.comp 0).cs.getD 0 .any).ai),((r4.comp 0).cs.getD 1 .any)]]] [] fun r8 o8=>NA r8<|.call 98 [VS (mk [43]),.sl [[VS ((r7.cs.getD 0 .any).ai),(r7.cs.getD 1 .any)],[VS ((r8.cs.getD 0 .any).ai),(r8.cs.getD 1 .any)]]] [] fun r9 o9=>NA r9<|.test ((r3.comp 1).toBool) (.test ((r4.comp 1).toBool) (.call 140 [.agg [VS ((r9.cs.getD 0 .any).ai),(r9.cs.getD 1 .any)]] [] fun r10 o10=>NI r10<|.done 0 [.cI [.agg [VS ((r9.cs.getD 0 .any).ai),(r9.cs.getD 1 .any)],VB (decide (r10.toInt<=(400:Int)))]] []) (.done 0 [.cI [.agg [VS ((r9.cs.getD 0 .any).ai),(r9.cs.getD 1 .any)],VB false]] [])) (.done 0 [.cI [.agg [VS ((r9.cs.getD 0 .any).ai),(r9.cs.getD 1 .any)],VB false]] [])) (.test ((r3.comp 1).toBool) (.test ((r4.comp 1).toBool) (.call 140 [.agg [VS ((r5.cs.getD 0 .any).ai),(r5.cs.getD 1 .any)]] [] fun r11 o11=>NI r11<|.done 0 [.cI [.agg [VS ((r5.cs.getD 0 .any).ai),(r5.cs.getD 1 .any)],VB (decide (r11.toInt<=(400:Int)))]] []) (.done 0 [.cI [.agg [VS ((r5.cs.getD 0 .any).ai),(r5.cs.getD 1 .any)],VB false]] [])) (.done 0 [.cI [.agg [VS ((r5.cs.getD 0 .any).ai),(r5.cs.getD 1 .any)],VB false]] []))))
theorem BY(a0_0:ByteArray)(a0_1:AV)(a1:ByteArray)(ha0_1:LK.has .sl a0_1)(h:dq 79 (Aq a0_0 a0_1 a1) R):an Tryz.prog 166 [.agg [VS a0_0,a0_1],VS a1] [] R :=
 uQ (af (bT (af (au _) (af (bY ha0_1) aA))) (af (au _) aA)) (oQ [] Tryz.f166 h)
def Kq(a0_0:ByteArray)(a0_1:AV)(a1:ByteArray)(a2_0:ByteArray)(a2_1:AV):Tree :=
 .call 171 [.agg [VS a0_0,a0_1],VS a1,.agg [VS a2_0,a2_1]] [] fun r1 o1=>NB r1<|.test (!r1.toBool) (.done 0 [.cI [.agg [VS a0_0,a0_1],VB false]] []) (.call 172 [.agg [VS a0_0,a0_1],VS a1,.agg [VS a2_0,a2_1]] [] fun r2 o2=>NA r2<|.done 0 [.cI [.agg [VS ((r2.cs.getD 0 .any).ai),(r2.cs.getD 1 .any)],VB true]] [])
theorem N3(a0_0:ByteArray)(a0_1:AV)(a1:ByteArray)(a2_0:ByteArray)(a2_1:AV)(ha0_1:LK.has .sl a0_1)(ha2_1:LK.has .sl a2_1)(h:dq 18 (Kq a0_0 a0_1 a1 a2_0 a2_1) R):an Tryz.prog 167 [.agg [VS a0_0,a0_1],VS a1,.agg [VS a2_0,a2_1]] [] R :=
 uQ (af (bT (af (au _) (af (bY ha0_1) aA))) (af (au _) (af (bT (af (au _) (af (bY ha2_1) aA))) aA))) (oQ [] Tryz.f167 h)
def IW(a0:ByteArray):Tree :=
 .call 132 [VS a0] [] fun r1 o1=>NT r1<|.al ((r1.comp 0)=.agg (r1.comp 0).cs/\(r1.comp 0).cs.length=2/\bB [.str,.sl] ((r1.comp 0).cs) 0)<|NB (r1.comp 1)<|.done 0 [VB ((r1.comp 1).toBool)] []
theorem Qp(a0:ByteArray)(h:dq 11 (IW a0) R):an Tryz.prog 168 [VS a0] [] R :=
 uQ (af (au _) aA) (oQ [] Tryz.f168 h)
def EW:LI:={hd:={bD:=[(0,.k .sl),(1,.k .str),(5,.k (.int .i64))]},xs:={},rt:={bD:=[(4,.k .bool)]},ex:=0}
def IB:Code:=cz (cu Tryz.f169) 2
def Kd:List (Nat×LI):=[(2,EW)]
def IZ(a0:AV)(a1:ByteArray):Tree :=
 .loop IB EW [a0,VS a1,VI 0] [] (fun y1 q1=>.done 0 [VB false] []) (fun y1 q1=>NB (y1.hA)<|.done 0 [VB ((y1.hA).toBool)] [])
theorem O4(a0:AV)(a1:ByteArray)(ha0:LK.has .sl a0)(h:dq 18 (IZ a0 a1) R):an Tryz.prog 169 [a0,VS a1] [] R :=
 uQ (af (bY ha0) (af (au _) aA)) (oQ Kd Tryz.f169 h)
def EG(x0:AV)(x1:ByteArray)(x5:Int):Tree :=
 NL x0<|NS (VS x1)<|NI (VI x5)<|NL x0<|.test (decide (x5<(x0.aN.length:Int))) (NG x0 x5 1<|kA (x0.ix x5)<|.test (ae (((x0.ix x5).hA).ai)==ae x1) (.done 2 [VB true] []) (.done 0 [x0,VS x1,VI (IntKind.wrap .i64 (x5+1))] [])) (.done 1 [] [])
abbrev Gd:=ct Tryz.prog 18 IB EW
theorem Nv(x0:AV)(x1:ByteArray)(x5:Int)(h:jw 18 (EG x0 x1 x5) Gd U):Gd [x0,VS x1,VI x5] [] U :=
 gQ Kd h
def GP:LI:={hd:={bD:=[(0,.k .str),(7,.k (.int .i64))]},xs:={},rt:={bD:=[(6,.k .bool)]},ex:=0}
def MR:Code:=cz (cu Tryz.f170) 4
def Ib:List (Nat×LI):=[(4,GP)]
def Kp(a0:ByteArray)(a1:Int)(a2:Int):Tree :=
 .call 56 [VI (ag a0:Int),VI 1,VI 3] [] fun r1 o1=>NB r1<|.test (!r1.toBool) (.done 0 [VB false] []) (.al (0<=(0:Int)/\(0:Int)<ag a0)<|.test (decide ((bt a0 0)<a1)) (.done 0 [VB false] []) (.al (0<=(0:Int)/\(0:Int)<ag a0)<|.test (decide ((bt a0 0)>a2)) (.done 0 [VB false] []) (.loop MR GP [VS a0,VI 1] [] (fun y2 q2=>.done 0 [VB true] []) (fun y2 q2=>NB (y2.hA)<|.done 0 [VB ((y2.hA).toBool)] []))))
theorem Qr(a0:ByteArray)(a1:Int)(a2:Int)(h:dq 40 (Kp a0 a1 a2) R):an Tryz.prog 170 [VS a0,.v (.int .u8 a1),.v (.int .u8 a2)] [] R :=
 uQ (af (au _) (af (au _) (af (au _) aA))) (oQ Ib Tryz.f170 h)
def G0(x0:ByteArray)(x7:Int):Tree :=
 NS (VS x0)<|NI (VI x7)<|.test (decide (x7<(ag x0:Int))) (.al (0<=x7/\x7<ag x0)<|.test (decide ((bt x0 x7)<(48:Int))) (.done 2 [VB false] []) (.al (0<=x7/\x7<ag x0)<|.test (decide ((bt x0 x7)>(57:Int))) (.done 2 [VB false] []) (.done 0 [VS x0,VI (IntKind.wrap .i64 (x7+1))] []))) (.done 1 [] [])
abbrev E0:=ct Tryz.prog 40 MR GP
theorem KX(x0:ByteArray)(x7:Int)(h:jw 40 (G0 x0 x7) E0 U):E0 [VS x0,VI x7] [] U :=
 gQ Ib h
def JI(a0_0:ByteArray)(a0_1:AV)(a1:ByteArray)(a2_0:ByteArray)(a2_1:AV):Tree :=
 .call 140 [.agg [VS a0_0,a0_1]] [] fun r1 o1=>NI r1<|.call 191 [.agg [VS a0_0,a0_1],VS a1] [] fun r2 o2=>NI r2<|.call 140 [.agg [VS a2_0,a2_1]] [] fun r3 o3=>NI r3<|.done 0 [VB (decide ((IntKind.wrap .i64 (r1.toInt+(IntKind.wrap .i64 (r2.toInt*(IntKind.wrap .i64 (r3.toInt-1))))))<=(400:Int)))] []
theorem Oc(a0_0:ByteArray)(a0_1:AV)(a1:ByteArray)(a2_0:ByteArray)(a2_1:AV)(ha0_1:LK.has .sl a0_1)(ha2_1:LK.has .sl a2_1)(h:dq 18 (JI a0_0 a0_1 a1 a2_0 a2_1) R):an Tryz.prog 171 [.agg [VS a0_0,a0_1],VS a1,.agg [VS a2_0,a2_1]] [] R :=
 uQ (af (bT (af (au _) (af (bY ha0_1) aA))) (af (au _) (af (bT (af (au _) (af (bY ha2_1) aA))) aA))) (oQ [] Tryz.f171 h)
def I0(a0_0:ByteArray)(a0_1:AV)(a1:ByteArray)(a2_0:ByteArray)(a2_1:AV):Tree :=
 .call 106 [.agg [VS a0_0,a0_1],.sl [[VS a2_0,a2_1],[VS a1,.v (.slice none 0 0)]]] [] fun r1 o1=>NA r1<|.call 192 [.agg [VS ((r1.cs.getD 0 .any).ai),(r1.cs.getD 1 .any)],VS a1,.agg [VS a2_0,a2_1]] [] fun r2 o2=>NA r2<|.done 0 [.agg [VS ((r2.cs.getD 0 .any).ai),(r2.cs.getD 1 .any)]] []
theorem Oq(a0_0:ByteArray)(a0_1:AV)(a1:ByteArray)(a2_0:ByteArray)(a2_1:AV)(ha0_1:LK.has .sl a0_1)(ha2_1:LK.has .sl a2_1)(h:dq 16 (I0 a0_0 a0_1 a1 a2_0 a2_1) R):an Tryz.prog 172 [.agg [VS a0_0,a0_1],VS a1,.agg [VS a2_0,a2_1]] [] R :=
 uQ (af (bT (af (au _) (af (bY ha0_1) aA))) (af (au _) (af (bT (af (au _) (af (bY ha2_1) aA))) aA))) (oQ [] Tryz.f172 h)
def Iu(a0:ByteArray):Tree :=
 .call 182 [VS a0,VS (mk [120,121,122])] [] fun r1 o1=>NB r1<|.done 0 [VB r1.toBool] []
theorem Pf(a0:ByteArray)(h:dq 5 (Iu a0) R):an Tryz.prog 173 [VS a0] [] R :=
 uQ (af (au _) aA) (oQ [] Tryz.f173 h)
def Nt(a0:Int)(a1:AV)(a2:AV):Tree :=
 .done 0 [.ptr [.v (.int .u8 a0),VS (mk []),VI 0,a1,a2]] []
theorem Po(a0:Int)(a1:AV)(a2:AV)(ha1:LK.has .ptr a1)(ha2:LK.has .ptr a2)(h:dq 12 (Nt a0 a1 a2) R):an Tryz.prog 175 [.v (.int .u8 a0),a1,a2] [] R :=
 uQ (af (au _) (af (bu ha1) (af (bu ha2) aA))) (oQ [] Tryz.f175 h)
def HD:LI:={hd:={bD:=[(0,.k .ptr),(1,.k .sl),(9,.k .str)],refs:=[(3,0),(4,1)],cm:=[(0,[.lk .sl]),(1,[.lk (.int .i64)])],uN:=[(2,176,[none,some 0,some 1])]},xs:={bD:=[(0,.k .ptr),(1,.k .sl),(9,.k .str)],cm:=[(0,[.lk .sl]),(1,[.lk (.int .i64)])],uN:=[(2,176,[none,some 0,some 1])]},rt:={cm:=[(0,[.lk .sl]),(1,[.lk (.int .i64)])]},ex:=1,fx:=[0,1]}
def MF:Code:=cz (cu Tryz.f176) 12
def Ia:List (Nat×LI):=[(12,HD)]
def D2(a0:AV)(a1:AV)(a3_0:AV)(a4_0:Int):Tree :=
 NZ a0<|NZ a0<|.al (LK.has (.int .u8) (a0.deref.hA)/\1<=a0.deref.length)<|.test (((a0.deref.hA).toInt)==(110:Int)) (NZ a0<|NZ a0<|kA (a0.deref.drop 1)<|.done 0 [VS (((a0.deref.drop 1).hA).ai)] [.cells [a3_0],.cells [VI a4_0]]) (.test (((a0.deref.hA).toInt)==(98:Int)) (NL a1<|NZ a0<|NZ a0<|.al (LK.has (.int .i64) ((a0.deref.drop 2).hA)/\1<=(a0.deref.drop 2).length)<|.al (LK.has .sl a1/\0<=(IntKind.wrap .i64 ((IntKind.wrap .i64 ((a1.aN.length:Int)-1))-(((a0.deref.drop 2).hA).toInt)))/\(IntKind.wrap .i64 ((IntKind.wrap .i64 ((a1.aN.length:Int)-1))-(((a0.deref.drop 2).hA).toInt)))<a1.aN.length/\(a1.ix (IntKind.wrap .i64 ((IntKind.wrap .i64 ((a1.aN.length:Int)-1))-(((a0.deref.drop 2).hA).toInt)))).length=1)<|kA (a1.ix (IntKind.wrap .i64 ((IntKind.wrap .i64 ((a1.aN.length:Int)-1))-(((a0.deref.drop 2).hA).toInt))))<|.done 0 [VS (((a1.ix (IntKind.wrap .i64 ((IntKind.wrap .i64 ((a1.aN.length:Int)-1))-(((a0.deref.drop 2).hA).toInt)))).hA).ai)] [.cells [a3_0],.cells [VI a4_0]]) (.test (((a0.deref.hA).toInt)==(43:Int)) (NZ a0<|NZ a0<|dR (a0.deref.drop 3)<|.call 176 [((a0.deref.drop 3).hA),a1,.gC 176 [none,some 0,some 1],.ref 0 0,.ref 1 0] [.cells [a3_0],.cells [VI a4_0]] fun r1 o1=>.al ((o1.hO)=.cells (o1.hO).cs)<|.al (bn [.lk .sl] ((o1.hO).cs) 0 1 o1.tail)<|.al ((o1.tail.hO)=.cells (o1.tail.hO).cs)<|.al (bn [.lk (.int .i64)] ((o1.tail.hO).cs) 0 2 o1.tail.tail)<|NS r1<|NZ a0<|NZ a0<|.al (LK.has (.int .u8) (a0.deref.hA)/\1<=a0.deref.length)<|.al (ja [[.v (.int .u8 ((a0.deref.hA).toInt))]])<|.al (ag (mk [40])+ag (⟨(bytesOf [[.v (.int .u8 ((a0.deref.hA).toInt))]]).toArray⟩)<=9223372036854775807)<|.al (ag (((mk [40]):ByteArray)++(⟨(bytesOf [[.v (.int .u8 ((a0.deref.hA).toInt))]]).toArray⟩))+ag (mk [32])<=9223372036854775807)<|.al (ag (((((mk [40]):ByteArray)++(⟨(bytesOf [[.v (.int .u8 ((a0.deref.hA).toInt))]]).toArray⟩)):ByteArray)++(mk [32]))+ag r1.ai<=9223372036854775807)<|.al (ag (((((((mk [40]):ByteArray)++(⟨(bytesOf [[.v (.int .u8 ((a0.deref.hA).toInt))]]).toArray⟩)):ByteArray)++(mk [32])):ByteArray)++r1.ai)+ag (mk [32])<=9223372036854775807)<|NZ a0<|NZ a0<|dR (a0.deref.drop 4)<|.call 176 [((a0.deref.drop 4).hA),a1,.gC 176 [none,some 0,some 1],.ref 0 0,.ref 1 0] [.cells [((o1.hO).cs.getD 0 .any)],.cells [VI (((o1.tail.hO).cs.getD 0 .any).toInt)]] fun r2 o2=>.al ((o2.hO)=.cells (o2.hO).cs)<|.al (bn [.lk .sl] ((o2.hO).cs) 0 1 o2.tail)<|.al ((o2.tail.hO)=.cells (o2.tail.hO).cs)<|.al (bn [.lk (.int .i64)] ((o2.tail.hO).cs) 0 2 o2.tail.tail)<|NS r2<|.al (ag (((((((((mk [40]):ByteArray)++(⟨(bytesOf [[.v (.int .u8 ((a0.deref.hA).toInt))]]).toArray⟩)):ByteArray)++(mk [32])):ByteArray)++r1.ai):ByteArray)++(mk [32]))+ag r2.ai<=9223372036854775807)<|.al (ag (((((((((((mk [40]):ByteArray)++(⟨(bytesOf [[.v (.int .u8 ((a0.deref.hA).toInt))]]).toArray⟩)):ByteArray)++(mk [32])):ByteArray)++r1.ai):ByteArray)++(mk [32])):ByteArray)++r2.ai)+ag (mk [41])<=9223372036854775807)<|.done 0 [VS (((((((((((((mk [40]):ByteArray)++(⟨(bytesOf [[.v (.int .u8 ((a0.deref.hA).toInt))]]).toArray⟩)):ByteArray)++(mk [32])):ByteArray)++r1.ai):ByteArray)++(mk [32])):ByteArray)++r2.ai):ByteArray)++(mk [41]))] [.cells [((o2.hO).cs.getD 0 .any)],.cells [VI (((o2.tail.hO).cs.getD 0 .any).toInt)]]) (.test (((a0.deref.hA).toInt)==(42:Int)) (NZ a0<|NZ a0<|dR (a0.deref.drop 3)<|.call 176 [((a0.deref.drop 3).hA),a1,.gC 176 [none,some 0,some 1],.ref 0 0,.ref 1 0] [.cells [a3_0],.cells [VI a4_0]] fun r3 o3=>.al ((o3.hO)=.cells (o3.hO).cs)<|.al (bn [.lk .sl] ((o3.hO).cs) 0 1 o3.tail)<|.al ((o3.tail.hO)=.cells (o3.tail.hO).cs)<|.al (bn [.lk (.int .i64)] ((o3.tail.hO).cs) 0 2 o3.tail.tail)<|NS r3<|NZ a0<|NZ a0<|.al (LK.has (.int .u8) (a0.deref.hA)/\1<=a0.deref.length)<|.al (ja [[.v (.int .u8 ((a0.deref.hA).toInt))]])<|.al (ag (mk [40])+ag (⟨(bytesOf [[.v (.int .u8 ((a0.deref.hA).toInt))]]).toArray⟩)<=9223372036854775807)<|.al (ag (((mk [40]):ByteArray)++(⟨(bytesOf [[.v (.int .u8 ((a0.deref.hA).toInt))]]).toArray⟩))+ag (mk [32])<=9223372036854775807)<|.al (ag (((((mk [40]):ByteArray)++(⟨(bytesOf [[.v (.int .u8 ((a0.deref.hA).toInt))]]).toArray⟩)):ByteArray)++(mk [32]))+ag r3.ai<=9223372036854775807)<|.al (ag (((((((mk [40]):ByteArray)++(⟨(bytesOf [[.v (.int .u8 ((a0.deref.hA).toInt))]]).toArray⟩)):ByteArray)++(mk [32])):ByteArray)++r3.ai)+ag (mk [32])<=9223372036854775807)<|NZ a0<|NZ a0<|dR (a0.deref.drop 4)<|.call 176 [((a0.deref.drop 4).hA),a1,.gC 176 [none,some 0,some 1],.ref 0 0,.ref 1 0] [.cells [((o3.hO).cs.getD 0 .any)],.cells [VI (((o3.tail.hO).cs.getD 0 .any).toInt)]] fun r4 o4=>.al ((o4.hO)=.cells (o4.hO).cs)<|.al (bn [.lk .sl] ((o4.hO).cs) 0 1 o4.tail)<|.al ((o4.tail.hO)=.cells (o4.tail.hO).cs)<|.al (bn [.lk (.int .i64)] ((o4.tail.hO).cs) 0 2 o4.tail.tail)<|NS r4<|.al (ag (((((((((mk [40]):ByteArray)++(⟨(bytesOf [[.v (.int .u8 ((a0.deref.hA).toInt))]]).toArray⟩)):ByteArray)++(mk [32])):ByteArray)++r3.ai):ByteArray)++(mk [32]))+ag r4.ai<=9223372036854775807)<|.al (ag (((((((((((mk [40]):ByteArray)++(⟨(bytesOf [[.v (.int .u8 ((a0.deref.hA).toInt))]]).toArray⟩)):ByteArray)++(mk [32])):ByteArray)++r3.ai):ByteArray)++(mk [32])):ByteArray)++r4.ai)+ag (mk [41])<=9223372036854775807)<|.done 0 [VS (((((((((((((mk [40]):ByteArray)++(⟨(bytesOf [[.v (.int .u8 ((a0.deref.hA).toInt))]]).toArray⟩)):ByteArray)++(mk [32])):ByteArray)++r3.ai):ByteArray)++(mk [32])):ByteArray)++r4.ai):ByteArray)++(mk [41]))] [.cells [((o4.hO).cs.getD 0 .any)],.cells [VI (((o4.tail.hO).cs.getD 0 .any).toInt)]]) (.test (((a0.deref.hA).toInt)==(114:Int)) (.loop MF HD [a0,a1,VS (mk [])] [.cells [a3_0],.cells [VI a4_0]] (fun y8 q8=>NP (y8.hA)<|NL (y8.tail.hA)<|NS (y8.tail.tail.hA)<|.al ((q8.hO)=.cells (q8.hO).cs)<|.al (ac [.lk .sl] ((q8.hO).cs) 0 q8.tail)<|.al (((q8.tail.drop 0).hO)=.cells ((q8.tail.drop 0).hO).cs)<|.al (ac [.lk (.int .i64)] (((q8.tail.drop 0).hO).cs) 0 ((q8.tail.drop 0).tail))<|.al (ag (mk [40,114,101,99,32])+ag ((y8.tail.tail.hA).ai)<=9223372036854775807)<|.al (ag (((mk [40,114,101,99,32]):ByteArray)++((y8.tail.tail.hA).ai))+ag (mk [32])<=9223372036854775807)<|NZ (y8.hA)<|NZ (y8.hA)<|dR ((y8.hA).deref.drop 3)<|.al (LK.has .sl (y8.tail.hA)/\cA 1 ((y8.tail.hA).aN)/\((([]:List (List AV)).length)+((y8.tail.hA).aN).length)*16<=140737488355328)<|.al (cA 1 [[VS ((y8.tail.tail.hA).ai)]]/\(((([]:List (List AV))++((y8.tail.hA).aN)).length)+([[VS ((y8.tail.tail.hA).ai)]]:List (List AV)).length)*16<=140737488355328)<|.call 176 [(((y8.hA).deref.drop 3).hA),.sl ((([]:List (List AV))++((y8.tail.hA).aN))++([[VS ((y8.tail.tail.hA).ai)]]:List (List AV))),.gC 176 [none,some 0,some 1],.ref 0 0,.ref 1 0] [.cells [((q8.hO).cs.getD 0 .any)],.cells [VI (((q8.tail.hO).cs.getD 0 .any).toInt)]] fun r9 o9=>.al ((o9.hO)=.cells (o9.hO).cs)<|.al (bn [.lk .sl] ((o9.hO).cs) 0 1 o9.tail)<|.al ((o9.tail.hO)=.cells (o9.tail.hO).cs)<|.al (bn [.lk (.int .i64)] ((o9.tail.hO).cs) 0 2 o9.tail.tail)<|NS r9<|.al (ag (((((mk [40,114,101,99,32]):ByteArray)++((y8.tail.tail.hA).ai)):ByteArray)++(mk [32]))+ag r9.ai<=9223372036854775807)<|.al (ag (((((((mk [40,114,101,99,32]):ByteArray)++((y8.tail.tail.hA).ai)):ByteArray)++(mk [32])):ByteArray)++r9.ai)+ag (mk [41])<=9223372036854775807)<|.done 0 [VS (((((((((mk [40,114,101,99,32]):ByteArray)++((y8.tail.tail.hA).ai)):ByteArray)++(mk [32])):ByteArray)++r9.ai):ByteArray)++(mk [41]))] [.cells [((o9.hO).cs.getD 0 .any)],.cells [VI (((o9.tail.hO).cs.getD 0 .any).toInt)]]) (fun y8 q8=>.al ((q8.hO)=.cells (q8.hO).cs)<|.al (ac [.lk .sl] ((q8.hO).cs) 0 q8.tail)<|.al (((q8.tail.drop 0).hO)=.cells ((q8.tail.drop 0).hO).cs)<|.al (ac [.lk (.int .i64)] (((q8.tail.drop 0).hO).cs) 0 ((q8.tail.drop 0).tail))<|.done 0 [.any] [.cells [((q8.hO).cs.getD 0 .any)],.cells [VI (((q8.tail.hO).cs.getD 0 .any).toInt)]])) (NZ a0<|NZ a0<|.al (LK.has (.int .u8) (a0.deref.hA)/\1<=a0.deref.length)<|.al (ja [[.v (.int .u8 ((a0.deref.hA).toInt))]])<|.done 0 [VS (⟨(bytesOf [[.v (.int .u8 ((a0.deref.hA).toInt))]]).toArray⟩)] [.cells [a3_0],.cells [VI a4_0]])))))
theorem vU(a0:AV)(a1:AV)(a3_0:AV)(a4_0:Int)(ha0:LK.has .ptr a0)(ha1:LK.has .sl a1)(ha3_0:LK.has .sl a3_0)(h:dq 100 (D2 a0 a1 a3_0 a4_0) R):an Tryz.prog 176 [a0,a1,.gC 176 [none,some 0,some 1],.ref 0 0,.ref 1 0] [.cells [a3_0],.cells [VI a4_0]] R :=
 an.ru (bQ (cN (af (bY ha3_0) aA)) (bQ (cN (af (au _) aA)) dc)) (an.up (af (bu ha0) (af (bY ha1) (af (au _) (af (au _) (af (au _) aA))))) (oF Ia {mu:=[(2,.tG 176 [none,some 0,some 1]),(3,.one (.obj [.lk .sl])),(4,.one (.obj [.lk (.int .i64)]))],own:=[]} Tryz.f176 h))
def ER(x0:AV)(x1:AV)(x9:ByteArray)(o0_0:AV)(o1_0:Int):Tree :=
 NP x0<|NL x1<|NS (VS x9)<|.al (Ob.cells [o0_0]=.cells [o0_0])<|.al (ac [.lk .sl] [o0_0] 0 [.cells [VI o1_0]])<|.al (Ob.cells [VI o1_0]=.cells [VI o1_0])<|.al (ac [.lk (.int .i64)] [VI o1_0] 0 [])<|.test (ae x9==ae (mk [])) (.call 174 [VI o1_0] [] fun r1 o1=>NS r1<|.al (ag (mk [116])+ag r1.ai<=9223372036854775807)<|.done 0 [x0,x1,VS (((mk [116]):ByteArray)++r1.ai)] [.cells [o0_0],.cells [VI (IntKind.wrap .i64 (o1_0+1))]]) (.call 177 [o0_0,VS x9] [] fun r2 o2=>NB r2<|.test r2.toBool (.call 174 [VI o1_0] [] fun r3 o3=>NS r3<|.al (ag (mk [116])+ag r3.ai<=9223372036854775807)<|.done 0 [x0,x1,VS (((mk [116]):ByteArray)++r3.ai)] [.cells [o0_0],.cells [VI (IntKind.wrap .i64 (o1_0+1))]]) (.done 1 [x0,x1,VS x9] [.cells [o0_0],.cells [VI o1_0]]))
abbrev Dz:=ct Tryz.prog 100 MF HD
theorem Ka(x0:AV)(x1:AV)(x9:ByteArray)(o0_0:AV)(o1_0:Int)(h:jw 100 (ER x0 x1 x9 o0_0 o1_0) Dz U):Dz [x0,x1,VS x9] [.cells [o0_0],.cells [VI o1_0]] U :=
 gQ Ia h
def HQ(a0:AV)(a1:ByteArray):Tree :=
 .call 194 [a0,VS a1] [] fun r1 o1=>NI r1<|.done 0 [VB (decide (r1.toInt≥(0:Int)))] []
theorem PY(a0:AV)(a1:ByteArray)(ha0:LK.has .sl a0)(h:dq 9 (HQ a0 a1) R):an Tryz.prog 177 [a0,VS a1] [] R :=
 uQ (af (bY ha0) (af (au _) aA)) (oQ [] Tryz.f177 h)
def Ni(a0:Int):Tree :=
 .test (decide (a0≥(97:Int))) (.test (decide (a0<=(122:Int))) (.done 0 [VB true] []) (.test (decide (a0≥(48:Int))) (.test (decide (a0<=(57:Int))) (.done 0 [VB true] []) (.test (a0==(42:Int)) (.done 0 [VB true] []) (.done 0 [VB (a0==(43:Int))] []))) (.test (a0==(42:Int)) (.done 0 [VB true] []) (.done 0 [VB (a0==(43:Int))] [])))) (.test (decide (a0≥(48:Int))) (.test (decide (a0<=(57:Int))) (.done 0 [VB true] []) (.test (a0==(42:Int)) (.done 0 [VB true] []) (.done 0 [VB (a0==(43:Int))] []))) (.test (a0==(42:Int)) (.done 0 [VB true] []) (.done 0 [VB (a0==(43:Int))] [])))
theorem OS(a0:Int)(h:dq 25 (Ni a0) R):an Tryz.prog 178 [.v (.int .u8 a0)] [] R :=
 uQ (af (au _) aA) (oQ [] Tryz.f178 h)
def FK:LI:={hd:={bD:=[(0,.k .sl),(1,.c (.func (.func 159) #[] #[])),(7,.k (.int .i64)),(8,.k (.int .i64))]},xs:={},rt:={bD:=[(4,.k (.int .i64))]},ex:=0}
def KB:Code:=cz (cu Tryz.f179) 2
def IF:List (Nat×LI):=[(2,FK)]
def HT(a0:AV):Tree :=
 NL a0<|.loop KB FK [a0,.v (.func (.func 159) #[] #[]),VI (a0.aN.length:Int),VI 0] [] (fun y2 q2=>.done 0 [VI (-1)] []) (fun y2 q2=>NI (y2.hA)<|.done 0 [VI ((y2.hA).toInt)] [])
theorem PX(a0:AV)(ha0:LK.has .sl a0)(h:dq 19 (HT a0) R):an Tryz.prog 179 [a0,.v (.func (.func 159) #[] #[])] [] R :=
 uQ (af (bY ha0) (af (au _) aA)) (oQ IF Tryz.f179 h)
def Hv(x0:AV)(x7:Int)(x8:Int):Tree :=
 NL x0<|.al (AV.v (.func (.func 159) #[] #[])=.v (.func (.func 159) #[] #[]))<|NI (VI x7)<|NI (VI x8)<|.test (decide (x8<x7)) (NG x0 x8 1<|kA (x0.ix x8)<|.call 159 [VS (((x0.ix x8).hA).ai)] [] fun r1 o1=>NB r1<|.test r1.toBool (.done 2 [VI x8] []) (.done 0 [x0,.v (.func (.func 159) #[] #[]),VI x7,VI (IntKind.wrap .i64 (x8+1))] [])) (.done 1 [] [])
abbrev ES:=ct Tryz.prog 19 KB FK
theorem KO(x0:AV)(x7:Int)(x8:Int)(h:jw 19 (Hv x0 x7 x8) ES U):ES [x0,.v (.func (.func 159) #[] #[]),VI x7,VI x8] [] U :=
 gQ IF h
def D4(a0:AV)(e1_0_0:List (List AV)):Tree :=
 .call 181 [a0,.ref 0 0] [.cells [.vec 1],.vec 1 e1_0_0] fun r1 o1=>.al ((o1.hO)=.cells (o1.hO).cs)<|.al (bn [.vec 1] ((o1.hO).cs) 0 1 o1.tail)<|NZ a0<|NZ a0<|dR (a0.deref.drop 3)<|NP ((a0.deref.drop 3).hA)<|.test (!((a0.deref.drop 3).hA).isNil) (NZ a0<|NZ a0<|dR (a0.deref.drop 3)<|.call 180 [((a0.deref.drop 3).hA),.fn 181 [.ref 0 0]] [.cells [.vec 1],.vec 1 ((o1.tail.hO).es)] fun r2 o2=>.al ((o2.hO)=.cells (o2.hO).cs)<|.al (bn [.vec 1] ((o2.hO).cs) 0 1 o2.tail)<|NZ a0<|NZ a0<|dR (a0.deref.drop 4)<|NP ((a0.deref.drop 4).hA)<|.test (!((a0.deref.drop 4).hA).isNil) (NZ a0<|NZ a0<|dR (a0.deref.drop 4)<|.call 180 [((a0.deref.drop 4).hA),.fn 181 [.ref 0 0]] [.cells [.vec 1],.vec 1 ((o2.tail.hO).es)] fun r3 o3=>.al ((o3.hO)=.cells (o3.hO).cs)<|.al (bn [.vec 1] ((o3.hO).cs) 0 1 o3.tail)<|.done 0 [.any] [.cells [.vec 1],.vec 1 ((o3.tail.hO).es)]) (.done 0 [.any] [.cells [.vec 1],.vec 1 ((o2.tail.hO).es)])) (NZ a0<|NZ a0<|dR (a0.deref.drop 4)<|NP ((a0.deref.drop 4).hA)<|.test (!((a0.deref.drop 4).hA).isNil) (NZ a0<|NZ a0<|dR (a0.deref.drop 4)<|.call 180 [((a0.deref.drop 4).hA),.fn 181 [.ref 0 0]] [.cells [.vec 1],.vec 1 ((o1.tail.hO).es)] fun r4 o4=>.al ((o4.hO)=.cells (o4.hO).cs)<|.al (bn [.vec 1] ((o4.hO).cs) 0 1 o4.tail)<|.done 0 [.any] [.cells [.vec 1],.vec 1 ((o4.tail.hO).es)]) (.done 0 [.any] [.cells [.vec 1],.vec 1 ((o1.tail.hO).es)]))
theorem vP(a0:AV)(e1_0_0:List (List AV))(ha0:LK.has .ptr a0)(h:dq 29 (D4 a0 e1_0_0) R):an Tryz.prog 180 [a0,.fn 181 [.ref 0 0]] [.cells [.vec 1],.vec 1 e1_0_0] R :=
 an.ru (bQ (cN (af (au _) aA)) (bQ (fy _) dc)) (an.up (af (bu ha0) (af (au _) aA)) (oF [] {mu:=[(1,.fn [some (.obj [.vec 1])])],own:=[]} Tryz.f180 h))
def EI(a0:AV)(e1_0:List (List AV)):Tree :=
 NZ a0<|NZ a0<|.al (LK.has (.int .u8) (a0.deref.hA)/\1<=a0.deref.length)<|.test (((a0.deref.hA).toInt)==(110:Int)) (NZ a0<|NZ a0<|kA (a0.deref.drop 1)<|.call 177 [.sl e1_0,VS (((a0.deref.drop 1).hA).ai)] [] fun r1 o1=>NB r1<|.test (!r1.toBool) (NZ a0<|NZ a0<|kA (a0.deref.drop 1)<|.al (cA 1 [[VS (((a0.deref.drop 1).hA).ai)]]/\((e1_0.length)+([[VS (((a0.deref.drop 1).hA).ai)]]:List (List AV)).length)*16<=140737488355328)<|.done 0 [.any] [.cells [.vec 1],.vec 1 (e1_0++([[VS (((a0.deref.drop 1).hA).ai)]]:List (List AV)))]) (.done 0 [.any] [.cells [.vec 1],.vec 1 e1_0])) (.done 0 [.any] [.cells [.vec 1],.vec 1 e1_0])
theorem PL(a0:AV)(e1_0:List (List AV))(ha0:LK.has .ptr a0)(h:dq 24 (EI a0 e1_0) R):an Tryz.prog 181 [a0,.ref 0 0] [.cells [.vec 1],.vec 1 e1_0] R :=
 an.ru (bQ (cN (af (au _) aA)) (bQ (fy _) dc)) (an.up (af (bu ha0) (af (au _) aA)) (oF [] {mu:=[(1,.one (.obj [.vec 1]))],own:=[]} Tryz.f181 h))
def LM(a0:ByteArray)(a1:ByteArray):Tree :=
 .test (decide ((ag a0:Int)≥(1:Int))) (.test (decide ((ag a0:Int)<=(3:Int))) (.al (0<=(0:Int)/\(0:Int)<=(1:Int)/\(1:Int)<=(ag a0:Int))<|.call 195 [VS a1,VS (ci a0 (bF 0) (bF 1))] [] fun r1 o1=>NB r1<|.test r1.toBool (.al (0<=(1:Int)/\(1:Int)<=(ag a0:Int)/\(ag a0:Int)<=(ag a0:Int))<|.call 184 [VS (ci a0 (bF 1) (bF (ag a0:Int))),VS (mk [48,49,50,51,52,53,54,55,56,57])] [] fun r2 o2=>NS r2<|.done 0 [VB (ae r2.ai==ae (mk []))] []) (.done 0 [VB false] [])) (.done 0 [VB false] [])) (.done 0 [VB false] [])
theorem Od(a0:ByteArray)(a1:ByteArray)(h:dq 25 (LM a0 a1) R):an Tryz.prog 182 [VS a0,VS a1] [] R :=
 uQ (af (au _) (af (au _) aA)) (oQ [] Tryz.f182 h)
def Nr(a0:Int):Tree :=
 .test (decide (a0≥(97:Int))) (.test (decide (a0<=(122:Int))) (.done 0 [VB true] []) (.test (decide (a0≥(48:Int))) (.test (decide (a0<=(57:Int))) (.done 0 [VB true] []) (.test (a0==(43:Int)) (.done 0 [VB true] []) (.done 0 [VB (a0==(42:Int))] []))) (.test (a0==(43:Int)) (.done 0 [VB true] []) (.done 0 [VB (a0==(42:Int))] [])))) (.test (decide (a0≥(48:Int))) (.test (decide (a0<=(57:Int))) (.done 0 [VB true] []) (.test (a0==(43:Int)) (.done 0 [VB true] []) (.done 0 [VB (a0==(42:Int))] []))) (.test (a0==(43:Int)) (.done 0 [VB true] []) (.done 0 [VB (a0==(42:Int))] [])))
theorem O8(a0:Int)(h:dq 25 (Nr a0) R):an Tryz.prog 183 [.v (.int .u8 a0)] [] R :=
 uQ (af (au _) aA) (oQ [] Tryz.f183 h)
def GA:LI:={hd:={bD:=[(17,.k (.int .i64))],refs:=[(4,4),(12,12),(14,14)],cm:=[(4,[.lk .str,.lk .sl]),(12,[.lk .str,.lk .sl]),(14,[.lk .str,.lk .sl])],eH:=[(16,1)]},xs:={bD:=[(17,.k (.int .i64))],refs:=[(4,4),(12,12),(14,14)],cm:=[(4,[.lk .str,.lk .sl]),(12,[.lk .str,.lk .sl]),(14,[.lk .str,.lk .sl])]},rt:={},ex:=0}
def Ii:Code:=cz (cu Tryz.f190) 13
def L5:List (Nat×LI):=[(13,GA)]
def Ih(a0_0:ByteArray)(a0_1:AV)(a1:ByteArray):Tree :=
 .call 106 [.agg [VS a0_0,a0_1],.sl [[VS a1,.v (.slice none 0 0)]]] [] fun r1 o1=>NA r1<|NG (r1.cs.getD 1 .any) 1 2<|kA ((r1.cs.getD 1 .any).ix (1:Int))<|NG (r1.cs.getD 1 .any) 2 2<|NE ((r1.cs.getD 1 .any).ix (2:Int))<|.call 166 [.agg [VS ((((r1.cs.getD 1 .any).ix (2:Int)).getD 0 .any).ai),(((r1.cs.getD 1 .any).ix (2:Int)).getD 1 .any)],VS a1] [] fun r2 o2=>NT r2<|.al ((r2.comp 0)=.agg (r2.comp 0).cs/\(r2.comp 0).cs.length=2/\bB [.str,.sl] ((r2.comp 0).cs) 0)<|NB (r2.comp 1)<|NG (r1.cs.getD 1 .any) 2 2<|NE ((r1.cs.getD 1 .any).ix (2:Int))<|.call 166 [.agg [VS ((((r1.cs.getD 1 .any).ix (2:Int)).getD 0 .any).ai),(((r1.cs.getD 1 .any).ix (2:Int)).getD 1 .any)],VS ((((r1.cs.getD 1 .any).ix (1:Int)).hA).ai)] [] fun r3 o3=>NT r3<|.al ((r3.comp 0)=.agg (r3.comp 0).cs/\(r3.comp 0).cs.length=2/\bB [.str,.sl] ((r3.comp 0).cs) 0)<|NB (r3.comp 1)<|.test (!((r2.comp 1).toBool)) (.done 0 [.cI [.agg [VS ((r1.cs.getD 0 .any).ai),(r1.cs.getD 1 .any)],VB false]] []) (.test (!((r3.comp 1).toBool)) (.done 0 [.cI [.agg [VS ((r1.cs.getD 0 .any).ai),(r1.cs.getD 1 .any)],VB false]] []) (.call 167 [.agg [VS (((r2.comp 0).cs.getD 0 .any).ai),((r2.comp 0).cs.getD 1 .any)],VS ((((r1.cs.getD 1 .any).ix (1:Int)).hA).ai),.agg [VS ((r1.cs.getD 0 .any).ai),(r1.cs.getD 1 .any)]] [] fun r4 o4=>NT r4<|.al ((r4.comp 0)=.agg (r4.comp 0).cs/\(r4.comp 0).cs.length=2/\bB [.str,.sl] ((r4.comp 0).cs) 0)<|NB (r4.comp 1)<|.call 167 [.agg [VS (((r3.comp 0).cs.getD 0 .any).ai),((r3.comp 0).cs.getD 1 .any)],VS ((((r1.cs.getD 1 .any).ix (1:Int)).hA).ai),.agg [VS ((r1.cs.getD 0 .any).ai),(r1.cs.getD 1 .any)]] [] fun r5 o5=>NT r5<|.al ((r5.comp 0)=.agg (r5.comp 0).cs/\(r5.comp 0).cs.length=2/\bB [.str,.sl] ((r5.comp 0).cs) 0)<|NB (r5.comp 1)<|.test (!((r4.comp 1).toBool)) (.done 0 [.cI [.agg [VS ((r1.cs.getD 0 .any).ai),(r1.cs.getD 1 .any)],VB false]] []) (.test (!((r5.comp 1).toBool)) (.done 0 [.cI [.agg [VS ((r1.cs.getD 0 .any).ai),(r1.cs.getD 1 .any)],VB false]] []) (.call 137 [.agg [VS (((r5.comp 0).cs.getD 0 .any).ai),((r5.comp 0).cs.getD 1 .any)],.sl [],.vec 0] [.vec 1 []] fun r6 o6=>.al (r6=.vec 1/\(o6.tail.hO)=.vec 1 (o6.tail.hO).es)<|.call 137 [.agg [VS (((r4.comp 0).cs.getD 0 .any).ai),((r4.comp 0).cs.getD 1 .any)],.sl [],.vec 0] [.vec 1 ((o6.tail.hO).es)] fun r7 o7=>.al (r7=.vec 1/\(o7.tail.hO)=.vec 1 (o7.tail.hO).es)<|.loop Ii GA [VI 0] [.cells [VS (mk []),.v (.slice none 0 0)],.cells [VS (((r4.comp 0).cs.getD 0 .any).ai),((r4.comp 0).cs.getD 1 .any)],.cells [VS (((r5.comp 0).cs.getD 0 .any).ai),((r5.comp 0).cs.getD 1 .any)],.vec 1 ((o7.tail.hO).es)] (fun y10 q10=>NI (y10.hA)<|.al ((q10.hO)=.cells (q10.hO).cs)<|.al (ac [.lk .str,.lk .sl] ((q10.hO).cs) 0 q10.tail)<|.al (((q10.tail.drop 0).hO)=.cells ((q10.tail.drop 0).hO).cs)<|.al (ac [.lk .str,.lk .sl] (((q10.tail.drop 0).hO).cs) 0 ((q10.tail.drop 0).tail))<|.al ((((q10.tail.drop 0).tail.drop 0).hO)=.cells (((q10.tail.drop 0).tail.drop 0).hO).cs)<|.al (ac [.lk .str,.lk .sl] ((((q10.tail.drop 0).tail.drop 0).hO).cs) 0 (((q10.tail.drop 0).tail.drop 0).tail))<|.call 142 [VI ((y10.hA).toInt)] [] fun r11 o11=>NS r11<|.al (ag (mk [116])+ag r11.ai<=9223372036854775807)<|.call 98 [VS (mk [42]),.sl [[VS (((q10.tail.tail.hO).cs.getD 0 .any).ai),((q10.tail.tail.hO).cs.getD 1 .any)],[VS (((mk [116]):ByteArray)++r11.ai),.v (.slice none 0 0)]]] [] fun r12 o12=>NA r12<|.call 98 [VS (mk [43]),.sl [[VS (((q10.tail.hO).cs.getD 0 .any).ai),((q10.tail.hO).cs.getD 1 .any)],[VS ((r12.cs.getD 0 .any).ai),(r12.cs.getD 1 .any)]]] [] fun r13 o13=>NA r13<|.call 98 [VS (mk [114,101,99]),.sl [[VS (((mk [116]):ByteArray)++r11.ai),.v (.slice none 0 0)],[VS ((r13.cs.getD 0 .any).ai),(r13.cs.getD 1 .any)]]] [] fun r14 o14=>NA r14<|.call 140 [.agg [VS ((r14.cs.getD 0 .any).ai),(r14.cs.getD 1 .any)]] [] fun r15 o15=>NI r15<|.done 0 [.cI [.agg [VS ((r14.cs.getD 0 .any).ai),(r14.cs.getD 1 .any)],VB (decide (r15.toInt<=(400:Int)))]] []) (fun y10 q10=>.fail)))))
theorem OV(a0_0:ByteArray)(a0_1:AV)(a1:ByteArray)(ha0_1:LK.has .sl a0_1)(h:dq 108 (Ih a0_0 a0_1 a1) R):an Tryz.prog 190 [.agg [VS a0_0,a0_1],VS a1] [] R :=
 uQ (af (bT (af (au _) (af (bY ha0_1) aA))) (af (au _) aA)) (oQ L5 Tryz.f190 h)
def Kl(x17:Int)(o4_0:ByteArray)(o4_1:AV)(o12_0:ByteArray)(o12_1:AV)(o14_0:ByteArray)(o14_1:AV)(e16:List (List AV)):Tree :=
 NI (VI x17)<|.al (Ob.cells [VS o4_0,o4_1]=.cells [VS o4_0,o4_1])<|.al (ac [.lk .str,.lk .sl] [VS o4_0,o4_1] 0 [.cells [VS o12_0,o12_1],.cells [VS o14_0,o14_1],.vec 1 e16])<|.al (Ob.cells [VS o12_0,o12_1]=.cells [VS o12_0,o12_1])<|.al (ac [.lk .str,.lk .sl] [VS o12_0,o12_1] 0 [.cells [VS o14_0,o14_1],.vec 1 e16])<|.al (Ob.cells [VS o14_0,o14_1]=.cells [VS o14_0,o14_1])<|.al (ac [.lk .str,.lk .sl] [VS o14_0,o14_1] 0 [.vec 1 e16])<|.al (Ob.vec 1 e16=.vec 1 e16)<|.call 142 [VI x17] [] fun r1 o1=>NS r1<|.al (ag (mk [116])+ag r1.ai<=9223372036854775807)<|.call 169 [.sl e16,VS (((mk [116]):ByteArray)++r1.ai)] [] fun r2 o2=>NB r2<|.test r2.toBool (.done 0 [VI (IntKind.wrap .i64 (x17+1))] [.cells [VS o4_0,o4_1],.cells [VS o12_0,o12_1],.cells [VS o14_0,o14_1],.vec 1 e16]) (.done 1 [VI x17] [.cells [VS o4_0,o4_1],.cells [VS o12_0,o12_1],.cells [VS o14_0,o14_1]])
abbrev Hh:=ct Tryz.prog 108 Ii GA
theorem QR(x17:Int)(o4_0:ByteArray)(o4_1:AV)(o12_0:ByteArray)(o12_1:AV)(o14_0:ByteArray)(o14_1:AV)(e16:List (List AV))(h:jw 108 (Kl x17 o4_0 o4_1 o12_0 o12_1 o14_0 o14_1 e16) Hh U):Hh [VI x17] [.cells [VS o4_0,o4_1],.cells [VS o12_0,o12_1],.cells [VS o14_0,o14_1],.vec 1 e16] U :=
 gQ L5 h
def AM(a0_0:ByteArray)(a0_1:AV)(a1:ByteArray):Tree :=
 .test (!(ae a0_0==ae (mk []))) (.test (ae a0_0==ae a1) (.done 0 [VI 1] []) (.done 0 [VI 0] [])) (.call 121 [.agg [VS a0_0,a0_1]] [] fun r1 o1=>NS r1<|.test (ae r1.ai==ae (mk [114,101,99])) (NG a0_1 1 2<|kA (a0_1.ix (1:Int))<|.test (ae (((a0_1.ix (1:Int)).hA).ai)==ae a1) (.done 0 [VI 0] []) (NG a0_1 2 2<|NE (a0_1.ix (2:Int))<|.call 191 [.agg [VS (((a0_1.ix (2:Int)).getD 0 .any).ai),((a0_1.ix (2:Int)).getD 1 .any)],VS a1] [] fun r2 o2=>NI r2<|.done 0 [VI r2.toInt] [])) (NG a0_1 1 2<|NE (a0_1.ix (1:Int))<|.call 191 [.agg [VS (((a0_1.ix (1:Int)).getD 0 .any).ai),((a0_1.ix (1:Int)).getD 1 .any)],VS a1] [] fun r3 o3=>NI r3<|NG a0_1 2 2<|NE (a0_1.ix (2:Int))<|.call 191 [.agg [VS (((a0_1.ix (2:Int)).getD 0 .any).ai),((a0_1.ix (2:Int)).getD 1 .any)],VS a1] [] fun r4 o4=>NI r4<|.done 0 [VI (IntKind.wrap .i64 (r3.toInt+r4.toInt))] []))
theorem Ca(a0_0:ByteArray)(a0_1:AV)(a1:ByteArray)(ha0_1:LK.has .sl a0_1)(h:dq 41 (AM a0_0 a0_1 a1) R):an Tryz.prog 191 [.agg [VS a0_0,a0_1],VS a1] [] R :=
 uQ (af (bT (af (au _) (af (bY ha0_1) aA))) (af (au _) aA)) (oQ [] Tryz.f191 h)
def Am(a0_0:ByteArray)(a0_1:AV)(a1:ByteArray)(a2_0:ByteArray)(a2_1:AV):Tree :=
 .test (!(ae a0_0==ae (mk []))) (.test (ae a0_0==ae a1) (.done 0 [.agg [VS a2_0,a2_1]] []) (.done 0 [.agg [VS a0_0,a0_1]] [])) (.call 121 [.agg [VS a0_0,a0_1]] [] fun r1 o1=>NS r1<|.test (ae r1.ai==ae (mk [114,101,99])) (NG a0_1 1 2<|kA (a0_1.ix (1:Int))<|.test (ae (((a0_1.ix (1:Int)).hA).ai)==ae a1) (.done 0 [.agg [VS a0_0,a0_1]] []) (NG a0_1 1 2<|NE (a0_1.ix (1:Int))<|NG a0_1 2 2<|NE (a0_1.ix (2:Int))<|.call 192 [.agg [VS (((a0_1.ix (2:Int)).getD 0 .any).ai),((a0_1.ix (2:Int)).getD 1 .any)],VS a1,.agg [VS a2_0,a2_1]] [] fun r2 o2=>NA r2<|.call 98 [VS (mk [114,101,99]),.sl [[VS (((a0_1.ix (1:Int)).getD 0 .any).ai),((a0_1.ix (1:Int)).getD 1 .any)],[VS ((r2.cs.getD 0 .any).ai),(r2.cs.getD 1 .any)]]] [] fun r3 o3=>NA r3<|.done 0 [.agg [VS ((r3.cs.getD 0 .any).ai),(r3.cs.getD 1 .any)]] [])) (.call 121 [.agg [VS a0_0,a0_1]] [] fun r4 o4=>NS r4<|NG a0_1 1 2<|NE (a0_1.ix (1:Int))<|.call 192 [.agg [VS (((a0_1.ix (1:Int)).getD 0 .any).ai),((a0_1.ix (1:Int)).getD 1 .any)],VS a1,.agg [VS a2_0,a2_1]] [] fun r5 o5=>NA r5<|NG a0_1 2 2<|NE (a0_1.ix (2:Int))<|.call 192 [.agg [VS (((a0_1.ix (2:Int)).getD 0 .any).ai),((a0_1.ix (2:Int)).getD 1 .any)],VS a1,.agg [VS a2_0,a2_1]] [] fun r6 o6=>NA r6<|.call 98 [VS r4.ai,.sl [[VS ((r5.cs.getD 0 .any).ai),(r5.cs.getD 1 .any)],[VS ((r6.cs.getD 0 .any).ai),(r6.cs.getD 1 .any)]]] [] fun r7 o7=>NA r7<|.done 0 [.agg [VS ((r7.cs.getD 0 .any).ai),(r7.cs.getD 1 .any)]] []))
theorem C1(a0_0:ByteArray)(a0_1:AV)(a1:ByteArray)(a2_0:ByteArray)(a2_1:AV)(ha0_1:LK.has .sl a0_1)(ha2_1:LK.has .sl a2_1)(h:dq 58 (Am a0_0 a0_1 a1 a2_0 a2_1) R):an Tryz.prog 192 [.agg [VS a0_0,a0_1],VS a1,.agg [VS a2_0,a2_1]] [] R :=
 uQ (af (bT (af (au _) (af (bY ha0_1) aA))) (af (au _) (af (bT (af (au _) (af (bY ha2_1) aA))) aA))) (oQ [] Tryz.f192 h)
def E2:LI:={hd:={bD:=[(0,.k .sl),(1,.k .str),(7,.k (.int .i64)),(8,.k (.int .i64))]},xs:={},rt:={bD:=[(4,.k (.int .i64))]},ex:=0}
def Kj:Code:=cz (cu Tryz.f194) 2
def MQ:List (Nat×LI):=[(2,E2)]
def Iz(a0:AV)(a1:ByteArray):Tree :=
 NL a0<|.loop Kj E2 [a0,VS a1,VI (a0.aN.length:Int),VI 0] [] (fun y1 q1=>.done 0 [VI (-1)] []) (fun y1 q1=>NI (y1.hA)<|.done 0 [VI ((y1.hA).toInt)] [])
theorem O2(a0:AV)(a1:ByteArray)(ha0:LK.has .sl a0)(h:dq 19 (Iz a0 a1) R):an Tryz.prog 194 [a0,VS a1] [] R :=
 uQ (af (bY ha0) (af (au _) aA)) (oQ MQ Tryz.f194 h)
def FW(x0:AV)(x1:ByteArray)(x7:Int)(x8:Int):Tree :=
 NL x0<|NS (VS x1)<|NI (VI x7)<|NI (VI x8)<|.test (decide (x8<x7)) (NG x0 x8 1<|kA (x0.ix x8)<|.test (ae x1==ae (((x0.ix x8).hA).ai)) (.done 2 [VI x8] []) (.done 0 [x0,VS x1,VI x7,VI (IntKind.wrap .i64 (x8+1))] [])) (.done 1 [] [])
abbrev Fe:=ct Tryz.prog 19 Kj E2
theorem Ll(x0:AV)(x1:ByteArray)(x7:Int)(x8:Int)(h:jw 19 (FW x0 x1 x7 x8) Fe U):Fe [x0,VS x1,VI x7,VI x8] [] U :=
 gQ MQ h
end
end Go.Proofs.Trees
namespace Go.Proofs.Trees
open Go Go.VL
theorem bg(i:Nat)(h:i<1000000000000):IntKind.wrap .i64 ((i:Int)+1)=((i+1:Nat):Int):=by rw[wrap64]<;>omega
inductive E where
 |atom (s:List UInt8)
 |list (l:List E)
mutual
def E.cx:E->AV
 | .atom s=>.ptr [.v (.string (mk s)),.v (.slice none 0 0)]
 | .list l=>.ptr [.v (.string (mk [])),.sl (E.lX l)]
def E.lX:List E->List (List AV)
 |[]=>[]
 |e::l=>[e.cx]::E.lX l
end
mutual
def E.ii:E->List AV
 | .atom s=>[.v (.string (mk s)),.v (.slice none 0 0)]
 | .list l=>[.v (.string (mk [])),.sl (E.bm l)]
def E.bm:List E->List (List AV)
 |[]=>[]
 |e::l=>e.ii::E.bm l
end
def E.kj(e:E):AV:=.agg e.ii
theorem vd(l r:List E):E.lX (l++r)=E.lX l++E.lX r:=by
 induction l with
 |nil=>rfl
 |cons e l ih=>simp[E.lX,ih]
theorem pN(l r:List E):E.bm (l++r)=E.bm l++E.bm r:=by
 induction l with
 |nil=>rfl
 |cons e l ih=>simp[E.bm,ih]
theorem qK(l:List E):(E.lX l).length=l.length:=by
 induction l with
 |nil=>rfl
 |cons e l ih=>simp[E.lX,ih]
theorem dW(l:List E):(E.bm l).length=l.length:=by
 induction l with
 |nil=>rfl
 |cons e l ih=>simp[E.bm,ih]
def eN(b:UInt8):Bool:=decide ((97<=b.toNat/\b.toNat<=122)\/(48<=b.toNat/\b.toNat<=57)\/b.toNat=43\/b.toNat=42)
def rL(f:List UInt8->Option (E×List UInt8)):Nat->List UInt8->List E->Option (E×List UInt8)
 |0,_,_=>none
 |
  n+1,s,acc=>match f s with
  |some (p,c::r)=>if c.toNat=41 then some (.list (acc++[p]),r)else if c.toNat=32 then rL f n r (acc++[p])else none
  |_=>none
def rd:Nat->List UInt8->Option (E×List UInt8)
 |0,s=>if s.takeWhile eN=[]then none else some (.atom (s.takeWhile eN),s.dropWhile eN)
 |k+1,s=>if s.takeWhile eN=[]then(match s with
  |c::r=>if c.toNat=40 then rL (rd k) (r.length+1) r []else none
  |[]=>none)else some (.atom (s.takeWhile eN),s.dropWhile eN)
theorem An{f:List UInt8->Option (E×List UInt8)}(hf:∀s e r,f s=some (e,r)->r.length<s.length):∀(n:Nat) (s:List UInt8) (acc:List E) (e:E) (r:List UInt8),rL f n s acc=some (e,r)->r.length<s.length
 |0,s,acc,e,r,h=>by cases h
 |
  n+1,s,acc,e,r,h=>by
  simp only[rL]at h
  split at h
  ·rename_i p c r' hs
   have:=hf _ _ _ hs
   simp only[aB]at this
   split at h
   ·cases h;omega
   ·split at h
    ·have:=An hf n _ _ _ _ h;omega
    ·cases h
  ·cases h
theorem nX{s:List UInt8}(h:¬s.takeWhile eN=[]):(s.dropWhile eN).length<s.length:=by
 have h1:=congrArg List.length (cb (p:=eN) (l:=s))
 simp only[ax]at h1
 have:0<(s.takeWhile eN).length:=List.length_pos_iff.2 h
 omega
theorem xz:∀(k:Nat) (s:List UInt8) (e:E) (r:List UInt8),rd k s=some (e,r)->r.length<s.length
 |
  0,s,e,r,h=>by
  simp only[rd]at h
  split at h
  ·cases h
  ·rename_i hn;cases h;exact nX hn
 |
  k+1,s,e,r,h=>by
  simp only[rd]at h
  split at h
  ·split at h
   ·split at h
    ·have:=An (xz k) _ _ _ _ _ h
     simp only[aB];omega
    ·cases h
   ·cases h
  ·rename_i hn;cases h;exact nX hn
theorem NW(b:UInt8):an Tryz.prog 183 [.v (.int .u8 (b.toNat:Int))] [] (bA (.v (.bool (eN b)))):=by
 refine O8 _ ?_
 simp only[Nr,↓zq,zs,ac,bA,eN]
 repeat' (apply aE<;>intro _)
 all_goals first|(congr 2;rw[cq];simp;omega)|(congr 2;simp;omega)
theorem yg{s:List UInt8}{i:Nat}(hi:i<s.length)(hb:eN (s.getD i 0)=true):((s.drop i).takeWhile eN).length=((s.drop (i+1)).takeWhile eN).length+1:=by
 have e:s.drop i=s.getD i 0::s.drop (i+1):=by
  rw[aK hi];simp[aa,hi]
 rw[e,List.takeWhile_cons_of_pos hb];simp
theorem qi{s:List UInt8}{i:Nat}(hi:i<s.length)(hb:eN (s.getD i 0)=false):(s.drop i).takeWhile eN=[]:=by
 have e:s.drop i=s.getD i 0::s.drop (i+1):=by
  rw[aK hi];simp[aa,hi]
 rw[e,List.takeWhile_cons_of_neg (by rw[hb];simp)]
theorem D8(s:List UInt8)(hs:s.length<=8000)(d:Int):∀(k i:Nat),i+k=s.length->Fs [.v (.string (mk s)),.v (.int .i64 d),.v (.int .i64 (i:Int))] [] (gD 1 [.v (.string (mk s)),.v (.int .i64 d),.v (.int .i64 ((i+((s.drop i).takeWhile eN).length:Nat):Int))] [])
 |
  0,i,hi=>by
  refine Lr _ _ _ ?_
  have hd:s.drop i=[]:=bL (by omega)
  simp only[Gt,↓zq,zs,ac,zt]
  exact⟨fun h=>by omega,fun _=>by simp[gD,hd]⟩
 |
  k+1,i,hi=>by
  have hlt:i<s.length:=by omega
  refine Lr _ _ _ ?_
  simp only[Gt,↓zq,zs,ac,zt,lV s i hlt]
  refine⟨fun _=>⟨by omega,?_⟩,fun h=>by omega⟩
  refine ah (NW _) ?_
  simp only[↓zq,zs,ac]
  refine⟨fun hb=>?_,fun hb=>?_⟩
  ·rw[bg i (by omega)]
   have:=D8 s hs d k (i+1) (by omega)
   rw[yg hlt hb,show i+(((s.drop (i+1)).takeWhile eN).length+1)=i+1+((s.drop (i+1)).takeWhile eN).length by omega]
   exact this
  ·simp[gD,qi hlt hb]
def oC(s:List UInt8):Option (E×List UInt8)->AV
 |some (e,r)=>.cI [e.cx,.v (.string (mk r))]
 |none=>.cI [.v (.pointer none),.v (.string (mk s))]
theorem cT(e:E):LK.has .ptr e.cx=True:=by cases e<;>simp[E.cx,bV]
theorem eh(e:E):e.cx.isNil=false:=by cases e<;>rfl
theorem tM(s:List UInt8):s.take (s.takeWhile eN).length=s.takeWhile eN:=by
 have h:=cb (p:=eN) (l:=s)
 have:(s.takeWhile eN++s.dropWhile eN).take (s.takeWhile eN).length=s.takeWhile eN:=List.take_left
 rw[h]at this;exact this
theorem xj(s:List UInt8):s.drop (s.takeWhile eN).length=s.dropWhile eN:=by
 have h:=cb (p:=eN) (l:=s)
 have:(s.takeWhile eN++s.dropWhile eN).drop (s.takeWhile eN).length=s.dropWhile eN:=List.drop_left
 rw[h]at this;exact this
theorem Bo(c:UInt8)(r:List UInt8):(List.take (r.length+1) (c::r)).drop (bF 1)=r:=by simp
theorem KU(s0:List UInt8)(k:Nat)(hk:k<300)(ih:∀s,s.length<=8000->an Tryz.prog 160 [.v (.string (mk s)),.v (.int .i64 ((300-k:Nat):Int))] [] (bA (oC s (rd k s)))) :
 ∀(n:Nat) (s:List UInt8) (acc:List E),s.length<n->s.length+acc.length<=8000->HC [.v (.string (mk s0)),.v (.int .i64 ((300-(k+1):Nat):Int)),.v (.string (mk s))] [.cells [.v (.string (mk [])),.any],.vec 1 (E.lX acc)]
  (nv (match rL (rd k) n s acc with|some (e,r)=>(2,[e.cx,.v (.string (mk r))],[])|none=>(2,[.v (.pointer none),.v (.string (mk s0))],[])))
 |0,s,acc,hn,_=>by omega
 |
  n+1,s,acc,hn,hl=>by
  refine PJ _ _ _ _ _ ?_
  simp only[KI,↓zq,zs,ac,AY]
  have hd:IntKind.wrap .i64 (((300-(k+1):Nat):Int)+1)=((300-k:Nat):Int):=by rw[wrap64]<;>omega
  rw[hd]
  refine ah (ih s (by omega)) ?_
  have hlt:=xz k s
  cases hr:rd k s with
  |
   none =>
   simp only[oC,↓zq,zs,ac,rL,hr]
   simp[nv]
  |
   some q =>
   obtain⟨e,r⟩:=q
   have:=hlt e r hr
   cases r with
   |
    nil =>
    simp only[oC,↓zq,zs,ac,zt,rL,hr,cT,eh]
    simp[nv]
   |
    cons c r =>
    simp only[aB]at this
    have hb:=lV (c::r) 0 (by simp)
    simp only[cR,dh]at hb
    have e2:(List.take (c::r).length (c::r)).drop 1=r:=by simp
    simp only[oC,↓zq,zs,ac,zt,rL,hr,cT,eh,hb,e2,qK]
    refine⟨fun h=>(by cases h),fun _=>⟨fun h=>(by cases h),fun _=>⟨⟨fun c hc=>(by simp at hc;rw[hc];rfl),by omega⟩,by omega,by omega,fun h41=>?_,fun h41=>⟨by omega,fun h32=>?_,fun h32=>?_⟩⟩⟩⟩
    ·have h41':c.toNat=41:=by omega
     rw[Bo,if_pos h41']
     simp[nv,E.cx,vd,E.lX]
    ·have h41':¬c.toNat=41:=by omega
     have h32':¬c.toNat=32:=by omega
     rw[if_neg h41',if_neg h32']
    ·have h41':¬c.toNat=41:=by omega
     have h32':c.toNat=32:=by omega
     rw[Bo,if_neg h41',if_pos h32']
     have:=KU s0 k hk ih n r (acc++[e]) (by omega) (by simp;omega)
     simpa[vd,E.lX]using this
theorem Pc:∀(k:Nat),k<=300->∀s:List UInt8,s.length<=8000->an Tryz.prog 160 [.v (.string (mk s)),.v (.int .i64 ((300-k:Nat):Int))] [] (bA (oC s (rd k s))):=by
 intro k
 induction k with
 |
  zero =>
  intro hk s hs
  refine LJ _ _ ?_
  unfold G6
  refine cr (D8 s hs _ s.length 0 (by omega)) ?_
  simp only[↓zq,zs,ac,zt,aU,bA]
  have hw:(s.takeWhile eN).length<=s.length:=by
   have:=congrArg List.length (cb (p:=eN) (l:=s))
   simp only[ax]at this;omega
  refine⟨fun h=>⟨by omega,by omega,?_⟩,fun h=>?_⟩
  ·have hne:¬s.takeWhile eN=[]:=fun e=>by rw[e]at h;simp at h
   simp only[rd,if_neg hne,oC,E.cx,tM,xj]
  ·have hnil:s.takeWhile eN=[]:=bU (by omega)
   simp only[rd,if_pos hnil,oC]
   refine⟨fun _=>trivial,fun hne=>⟨?_,?_⟩⟩
   ·cases s with
    |nil=>exact absurd rfl hne
    |cons c s=>simp
   ·exact⟨fun _=>trivial,fun _=>⟨fun _=>trivial,fun h=>absurd rfl h⟩⟩
 |
  succ k ih =>
  intro hk s hs
  refine LJ _ _ ?_
  unfold G6
  refine cr (D8 s hs _ s.length 0 (by omega)) ?_
  simp only[↓zq,zs,ac,zt,aU,bA]
  have hw:(s.takeWhile eN).length<=s.length:=by
   have:=congrArg List.length (cb (p:=eN) (l:=s))
   simp only[ax]at this;omega
  refine⟨fun h=>⟨by omega,by omega,?_⟩,fun h=>?_⟩
  ·have hne:¬s.takeWhile eN=[]:=fun e=>by rw[e]at h;simp at h
   simp only[rd,if_neg hne,oC,E.cx,tM,xj]
  ·have hnil:s.takeWhile eN=[]:=bU (by omega)
   simp only[rd,if_pos hnil]
   cases s with
   |nil=>simp[oC]
   |
    cons c s =>
    have hb:=lV (c::s) 0 (by simp)
    simp only[cR,dh]at hb
    simp only[aB]at hs
    simp only[↓zq,zs,ac,hb,Bo]
    refine⟨fun h=>(by cases h),fun _=>⟨by omega,fun h40=>?_,fun h40=>⟨fun h300=>?_,fun h300=>⟨by omega,?_⟩⟩⟩⟩
    ·have:¬c.toNat=40:=by omega
     rw[if_neg this];rfl
    ·omega
    ·have h40':c.toNat=40:=by omega
     rw[if_pos h40']
     refine eX (KU (c::s) k (by omega) (ih (by omega)) (s.length+1) s [] (by omega) (by simp;omega)) (fun ys o e=>?_) (fun ys o e=>?_)
     ·split at e<;>cases e
     ·split at e<;>cases e
      ·rename_i e' r' hr
       simp only[↓zq,zs,ac,cT]
       simp only[hr,oC]
      ·rename_i hr
       simp only[↓zq,zs,ac]
       simp only[hr,oC]
end Go.Proofs.Trees
namespace Go.Proofs.Trees
open Go Go.VL
mutual
def E.sz:E->Nat
 | .atom _=>1
 | .list l=>1+E.jH l
def E.jH:List E->Nat
 |[]=>0
 |e::l=>e.sz+E.jH l
end
mutual
def E.ok:E->Prop
 | .atom s=>s≠[]
 | .list l=>E.CL l
def E.CL:List E->Prop
 |[]=>True
 |e::l=>e.ok/\E.CL l
end
theorem xd(l r:List E):E.jH (l++r)=E.jH l+E.jH r:=by
 induction l with
 |nil=>simp[E.jH]
 |cons e l ih=>simp[E.jH,ih];omega
theorem xm(l r:List E):E.CL (l++r)↔E.CL l/\E.CL r:=by
 induction l with
 |nil=>simp[E.CL]
 |cons e l ih=>simp[E.CL,ih,and_assoc]
theorem Bk{f:List UInt8->Option (E×List UInt8)}(hf:∀s e r,f s=some (e,r)->e.ok/\e.sz+r.length<=s.length):∀(n:Nat) (s:List UInt8) (acc:List E) (e:E) (r:List UInt8),rL f n s acc=some (e,r)->E.CL acc->e.ok/\e.sz+r.length<=s.length+1+E.jH acc
 |0,s,acc,e,r,h,_=>by cases h
 |
  n+1,s,acc,e,r,h,ha=>by
  simp only[rL]at h
  split at h
  ·rename_i p c r' hs
   obtain⟨h1,h2⟩:=hf _ _ _ hs
   simp only[aB]at h2
   split at h
   ·cases h
    refine⟨(xm _ _).2 ⟨ha,h1,trivial⟩,?_⟩
    simp only[E.sz,xd,E.jH];omega
   ·split at h
    ·have:=Bk hf n _ _ _ _ h ((xm _ _).2 ⟨ha,h1,trivial⟩)
     refine⟨this.1,?_⟩
     have h3:=this.2
     simp only[xd,E.jH]at h3;omega
    ·cases h
  ·cases h
theorem tD(s:List UInt8):(s.takeWhile eN).length+(s.dropWhile eN).length=s.length:=by
 have:=congrArg List.length (cb (p:=eN) (l:=s))
 simpa only[ax]using this
theorem DD:∀(k:Nat) (s:List UInt8) (e:E) (r:List UInt8),rd k s=some (e,r)->e.ok/\e.sz+r.length<=s.length
 |
  0,s,e,r,h=>by
  simp only[rd]at h
  split at h
  ·cases h
  ·rename_i hn;cases h
   have:=tD s
   have:0<(s.takeWhile eN).length:=List.length_pos_iff.2 hn
   exact⟨hn,by simp only[E.sz];omega⟩
 |
  k+1,s,e,r,h=>by
  simp only[rd]at h
  split at h
  ·split at h
   ·split at h
    ·have:=Bk (DD k) _ _ _ _ _ h trivial
     refine⟨this.1,?_⟩
     have h3:=this.2
     simp only[E.jH,aB]at h3 |-;omega
    ·cases h
   ·cases h
  ·rename_i hn;cases h
   have:=tD s
   have:0<(s.takeWhile eN).length:=List.length_pos_iff.2 hn
   exact⟨hn,by simp only[E.sz];omega⟩
def qf(s:List UInt8):Option E:=if s.length>8000 then none else match rd 300 s with|some (e,[])=>some e|_=>none
theorem nt{s:List UInt8}{e:E}(h:qf s=some e):e.ok/\e.sz<=8000:=by
 unfold qf at h
 split at h
 ·cases h
 ·split at h
  ·rename_i e' hr
   cases h
   have:=DD _ _ _ _ hr
   exact⟨this.1,by have:=this.2;simp at this;omega⟩
  ·cases h
def tz:Option E->AV
 |some e=>e.cx
 |none=>.v (.pointer none)
theorem Jd(s:List UInt8):an Tryz.prog 128 [.v (.string (mk s))] [] (bA (tz (qf s))):=by
 refine PA _ ?_
 simp only[IC,↓zq,zs,ac,zt,bA,qf]
 refine⟨fun h=>?_,fun h=>?_⟩
 ·rw[if_pos (by omega)];simp[tz]
 ·rw[if_neg (by omega)]
  refine ah (Pc 300 (by omega) s (by omega)) ?_
  cases hr:rd 300 s with
  |
   none =>
   simp only[oC,↓zq,zs,ac,zt,tz]
   refine⟨fun _=>trivial,fun _=>trivial⟩
  |
   some q =>
   obtain⟨e,r⟩:=q
   cases r with
   |nil=>simp only[oC,↓zq,zs,ac,zt,tz,cT];simp
   |cons c r=>simp only[oC,↓zq,zs,ac,zt,tz,cT];simp
def hJ(b:UInt8):Bool:=decide (48<=b.toNat/\b.toNat<=57)
def named(lo hi:Nat):List UInt8->Bool
 |[]=>false
 |c::r=>decide (r.length<=2)&&decide (lo<=c.toNat/\c.toNat<=hi)&&r.all hJ
def gV(s:List UInt8):Bool:=named 120 122 s
def db(s:List UInt8):Bool:=named 116 116 s
def wS(v lo hi:Int):Bool:=decide (lo<=v/\v<=hi)
theorem yr(v lo hi:Int):an Tryz.prog 56 [.v (.int .i64 v),.v (.int .i64 lo),.v (.int .i64 hi)] [] (bA (.v (.bool (wS v lo hi)))):=by
 refine QY _ _ _ ?_
 simp only[Lh,↓zq,zs,ac,bA,wS]
 constructor<;>intro h<;>simp at h<;>simp[h]
 omega
theorem LL(s:List UInt8)(hs:s.length<=3):∀(k i:Nat),i+k=s.length->E0 [.v (.string (mk s)),.v (.int .i64 (i:Int))] [] (nv (if(s.drop i).all hJ=true then(1,[],[])else(2,[.v (.bool false)],[])))
 |
  0,i,hi=>by
  have hd:s.drop i=[]:=bL (by omega)
  refine KX _ _ ?_
  simp only[G0,↓zq,zs,ac,zt]
  exact⟨fun h=>by omega,fun _=>by simp[nv,hd]⟩
 |
  k+1,i,hi=>by
  have hlt:i<s.length:=by omega
  have e:s.drop i=s.getD i 0::s.drop (i+1):=by
   rw[aK hlt];simp[aa,hlt]
  refine KX _ _ ?_
  simp only[G0,↓zq,zs,ac,zt,lV s i hlt,e,cW]
  generalize hb:s.getD i 0=b
  refine⟨fun _=>⟨by omega,fun h=>?_,fun h=>⟨by omega,fun h2=>?_,fun h2=>?_⟩⟩,fun h=>by omega⟩
  ·have:hJ b=false:=by simp[hJ];omega
   simp only[this,zf,nv]
  ·have:hJ b=false:=by simp[hJ];omega
   simp only[this,zf,nv]
  ·have:hJ b=true:=by simp[hJ];omega
   rw[bg i (by omega),this,bP]
   exact LL s hs k (i+1) (by omega)
theorem IE(s:List UInt8)(lo hi:Nat):an Tryz.prog 170 [.v (.string (mk s)),.v (.int .u8 (lo:Int)),.v (.int .u8 (hi:Int))] [] (bA (.v (.bool (named lo hi s)))):=by
 refine Qr _ _ _ ?_
 unfold Kp
 rw[cw]
 refine ah (yr _ _ _) ?_
 simp only[↓zq,zs,ac,zt,bA]
 refine⟨fun h=>?_,fun h=>?_⟩
 ·cases s with
  |nil=>rfl
  |
   cons c s =>
   simp[wS]at h
   have:¬s.length<=2:=by omega
   simp[named,this]
 ·cases s with
  |nil=>simp[wS]at h
  |
   cons c s =>
   simp[wS]at h
   have hl:s.length<=2:=by omega
   have hb:=lV (c::s) 0 (by simp)
   simp only[cR,dh]at hb
   simp only[↓zq,zs,ac,hb]
   refine⟨by omega,fun h1=>?_,fun h1=>⟨by omega,fun h2=>?_,fun h2=>?_⟩⟩
   ·have:¬lo<=c.toNat:=by omega
    simp[named,this]
   ·have:¬c.toNat<=hi:=by omega
    simp[named,this]
   ·refine eX (LL (c::s) (by simp;omega) s.length 1 (by simp;omega)) (fun ys o e=>?_) (fun ys o e=>?_)
    ·split at e<;>cases e
     rename_i ha
     simp at ha
     simp only[↓zq,zs,ac]
     simp[named,hl]
     exact⟨⟨by omega,by omega⟩,fun x hx=>by simpa using ha x hx⟩
    ·split at e<;>cases e
     rename_i ha
     simp only[↓zq,zs,ac]
     have:s.all hJ=false:=by simpa using ha
     simp[named,this]
theorem EV(s:List UInt8):an Tryz.prog 155 [.v (.string (mk s))] [] (bA (.v (.bool (gV s)))):=by
 refine Qh _ ?_
 unfold JL
 refine ah (IE s 120 122) ?_
 simp only[↓zq,zs,ac,bA,gV]
theorem E9(s:List UInt8):an Tryz.prog 138 [.v (.string (mk s))] [] (bA (.v (.bool (db s)))):=by
 refine OK _ ?_
 unfold Ml
 refine ah (IE s 116 116) ?_
 simp only[↓zq,zs,ac,bA,db]
end Go.Proofs.Trees
namespace Go.Proofs.Trees
open Go Go.VL Go.RowKit
theorem Re(l:List UInt8)(c:UInt8):an Tryz.prog 195 [.v (.string (mk l)),.v (.string (mk [c]))] [] (bA (.v (.bool (decide (0<=Lib.indexByte l c))))):=by
 refine an.Rw (xs:=[.string (mk l),.string (mk [c])]) ⟨mW,by kernel_rfl,by kernel_rfl,by kernel_rfl⟩ fun w=>?_
 have:=Any.strings_Contains_one Tryz.CJ (mk l) c w
 refine Calls.mono this fun e w' ⟨h1,h2⟩=>?_
 rw[h2]
 have hd:(mk l).data.toList=l:=by simp[mk]
 exact⟨by rw[h1,hd],Below.refl _ _⟩
theorem Lv(l cs:List UInt8)(hl:l.length<=1000000)(hc:cs.length<=1000)(ha:∀b,b∈cs->b.toNat<128):an Tryz.prog 184 [.v (.string (mk l)),.v (.string (mk cs))] [] (bA (.v (.string (mk (Lib.trimS l cs))))):=by
 refine an.Rw (xs:=[.string (mk l),.string (mk cs)]) ⟨pS,by kernel_rfl,by kernel_rfl,by kernel_rfl⟩ fun w=>?_
 have:=Any.strings_Trim_laid Tryz.BR (by kernel_rfl) (mk l) (mk cs) w (by rw[cw];omega) (by rw[cw];omega) (fun j b hj=>ha b (by
  have:(mk cs).data.toList=cs:=by simp[mk]
  rw[this]at hj
  exact List.mem_of_getElem? hj))
 refine Calls.mono this fun e w' ⟨h1,h2⟩=>⟨?_,h2⟩
 rw[h1]
 simp[mk]
theorem na:∀(l:List UInt8) (c:UInt8),(0<=Lib.indexByte l c↔c∈l)/\-1<=Lib.indexByte l c
 |[],c=>by simp[Lib.indexByte]
 |
  b::l,c=>by
  obtain⟨h1,h2⟩:=na l c
  unfold Lib.indexByte
  by_cases e:b=c
  ·subst e;simp
  ·have e':(b==c)=false:=by simp[e]
   rw[e']
   by_cases q:Lib.indexByte l c = -1
   ·have:c∉l:=fun h=>by have:=h1.2 h;omega
    simp[q,this,Ne.symm e]
   ·have q':(Lib.indexByte l c==-1)=false:=by simp[q]
    simp only[q',Bool.false_eq_true,if_false,aF]
    constructor
    ·constructor
     ·intro h;exact .inr (h1.1 (by omega))
     ·intro h
      rcases h with h|h
      ·exact absurd h.symm e
      ·have:=h1.2 h;omega
    ·omega
theorem dropWhile_nil{p:UInt8->Bool}:∀(l:List UInt8),l.dropWhile p=[]↔l.all p=true
 |[]=>by simp
 |
  b::l=>by
  cases h:p b with
  |true=>rw[List.dropWhile_cons_of_pos h,dropWhile_nil l];simp[h]
  |false=>rw[List.dropWhile_cons_of_neg (by rw[h];simp)];simp[h]
theorem sL(l cs:List UInt8):Lib.trimS l cs=[]↔l.all (cs.contains ·)=true:=by
 unfold Lib.trimS Lib.trimLeftS
 rw[dropWhile_nil]
 unfold Lib.trimRightS
 constructor
 ·intro h
  by_cases hn:l.reverse.dropWhile (cs.contains ·)=[]
  ·rw[dropWhile_nil]at hn
   simpa using hn
  ·exfalso
   rw[List.all_reverse]at h
   obtain⟨b,r,e⟩:=List.exists_cons_of_ne_nil hn
   have h1:cs.contains b=false:=by
    have:=List.head_dropWhile_not (p:=(cs.contains ·)) (l:=l.reverse) hn
    simp only[e,List.head_cons]at this
    exact this
   rw[e]at h
   simp only[cW,ap]at h
   rw[h1]at h;cases h.1
 ·intro h
  have:l.reverse.dropWhile (cs.contains ·)=[]:=by rw[dropWhile_nil];simpa using h
  rw[this];rfl
def Hb:List UInt8:=[48,49,50,51,52,53,54,55,56,57]
end Go.Proofs.Trees
